/-
  The walks of path.Print, and of the laws' wakes and cut. Condition: the steps are small.
-/
import Derived.Test.YtjebaibcfmjinaaPathIn
import Derived.Test.YtjebaibcfmjinaaPathBack
namespace Go.Proofs.Ytjebaibcfmjinaa
open Go.RowKit

theorem print_any (v : Value) (l : List PStep) (vs : List Value) (w : World) (h : StepsR w v l vs) (hs : ∀ st ∈ l, StepSmall st) (hl : l.length ≤ 1000) :
    Calls Try.prog 22 #[v] w (PutPost l w) := by
  have HP := Lib.hid (put_one v l vs w h hs hl)
  obtain ⟨A, c, rfl, -, -, -, -, -⟩ := h
  go_enter Try.func22, Try.ntmps22
  go_wp2_with (go_at_call 33; go_loud (refine HP.out.mono ?_; rintro en w1 ⟨rfl, hB1⟩))
  go_ret2
  exact ⟨rfl, ((Below.refl _ _).alloc (Nat.le_refl _) _).trans (hB1.mono (by simp))⟩

def sA : ByteArray := ⟨#[97, 91, 98, 61, 49, 93, 47, 99]⟩
def lA : List PStep := [(⟨#[97]⟩, [(⟨#[98]⟩, ⟨#[49]⟩)]), (⟨#[99]⟩, [])]
theorem wakes_parse : parseM sA = .ok lA := by kernel_rfl
def lB : List PStep := [(⟨#[120]⟩, [(⟨#[107]⟩, ⟨#[93]⟩)])]
theorem wakes_print : putM lB = .ok [120, 91, 107, 61, 92, 93, 93] := by kernel_rfl
theorem wakes_in : (restM ⟨#[97, 47, 98]⟩ ⟨#[97]⟩).isSome = true := by kernel_rfl
def cutS (s : ByteArray) : ByteArray := s.extract 0 (min s.size 1000)
theorem cut_any (s : ByteArray) (w : World) (hs : s.size ≤ 140737488355328) :
    Calls Try.prog 10 #[.string s] w fun en w' => en = .returned (.string (cutS s)) ∧ w' = w := by
  go_enter Try.func10, Try.ntmps10
  go_wp2
  go_ret
  refine ⟨?_, rfl⟩
  have e : (min (s.size : Int) 1000).toNat = min s.size 1000 := by omega
  simp [cutS, e]
theorem cutS_size (s : ByteArray) : (cutS s).size ≤ 1000 := by
  simp [cutS]
  omega
/-- What the first parse of wakes left. -/
theorem wakes_cells {w : World} {base : Nat} {v : Value} (h : StepsOwn w base v lA) : ∃ g c b1 c1, v = .slice (some ⟨g, 0, none⟩) 2 c ∧ g < w.heap.size ∧ b1 < w.heap.size ∧ w.cell? ⟨g, 0, none⟩ = some (.string ⟨#[97]⟩) ∧ w.cell? ⟨g, 1, none⟩ = some (.slice (some ⟨b1, 0, none⟩) 1 c1) ∧
    w.cell? ⟨b1, 0, none⟩ = some (.string ⟨#[98]⟩) ∧ w.cell? ⟨b1, 1, none⟩ = some (.string ⟨#[49]⟩) := by
  obtain ⟨vs, h1, h2, h3⟩ := h
  have hv0 : ∃ k0, vs[0]? = some k0 := ⟨vs[0]'(by rw [h1]; decide), by simp [h1, lA]⟩
  obtain ⟨k0, hk0⟩ := hv0
  have hat := stepCells_at lA vs 0 _ k0 rfl hk0
  have hko := h3.1 0 _ k0 rfl hk0
  rcases h2.2 with ⟨_, h0⟩ | ⟨g, cap, cur, rfl, _, hg, _⟩
  · cases h0
  · rcases hko.2 with ⟨_, h0⟩ | ⟨b1, cap1, cur1, rfl, _, hb1, _⟩
    · cases h0
    · have e0 := World.ownsRow.cells h2 (g := g) rfl _ _ hat.1
      have e1 := World.ownsRow.cells h2 (g := g) rfl _ _ hat.2
      have e2 := World.ownsRow.cells hko (g := b1) rfl 0 _ rfl
      have e3 := World.ownsRow.cells hko (g := b1) rfl 1 _ rfl
      exact ⟨g, cap, b1, cap1, rfl, (Array.getElem?_eq_some_iff.1 hg).1, (Array.getElem?_eq_some_iff.1 hb1).1, e0, e1, e2, e3⟩
set_option maxHeartbeats 4000000 in
theorem wakes_any (w : World) : Calls Try.prog 9 #[] w fun en w' => en = .returned (.bool true) ∧ Below w.heap.size w w' := by
  have HP := Lib.hid (fun W => parse_says sA W (by decide))
  go_enter Try.func9, Try.ntmps9
  go_upto_region 2 with (go_at_call 28; go_loud (refine (HP.out _).mono ?_; rintro en w1 ⟨hB1, ⟨x, y, hE, rfl⟩ | ⟨l, v, hE, rfl, hO⟩⟩; (rw [wakes_parse] at hE; cases hE); (rw [wakes_parse] at hE; cases hE); obtain ⟨g, c, b1, c1, rfl, hg, hb1, e0, e1, e2, e3⟩ := wakes_cells hO))
  have hS := Blk.new w1 26 #[.int .i64 0, .int .i64 0]
  have hb12 : Below w1.heap.size w1 (w1.alloc (.cells #[.int .i64 0, .int .i64 0] 26)) := (Below.refl _ _).alloc (Nat.le_refl _) _
  have HB2 := Lib.hid (show Below w.heap.size w (w1.alloc (.cells #[.int .i64 0, .int .i64 0] 26)) from hB1.trans (hb12.mono hB1.size))
  have e0 := (hb12.cell (p := ⟨g, 0, none⟩) hg).trans e0
  have e1 := (hb12.cell (p := ⟨g, 1, none⟩) hg).trans e1
  have e2 := (hb12.cell (p := ⟨b1, 0, none⟩) hb1).trans e2
  have e3 := (hb12.cell (p := ⟨b1, 1, none⟩) hb1).trans e3
  have hsz : w1.heap.size < (w1.alloc (.cells #[.int .i64 0, .int .i64 0] 26)).heap.size := by simp
  have hg2 : g < (w1.alloc (.cells #[.int .i64 0, .int .i64 0] 26)).heap.size := by omega
  have hb2 : b1 < (w1.alloc (.cells #[.int .i64 0, .int .i64 0] 26)).heap.size := by omega
  have s0 : (w1.alloc (.cells #[.int .i64 0, .int .i64 0] 26)).cell? ⟨w1.heap.size, 0, none⟩ = some (.int .i64 0) := hS.cell 0
  have s1 : (w1.alloc (.cells #[.int .i64 0, .int .i64 0] 26)).cell? ⟨w1.heap.size, 1, none⟩ = some (.int .i64 0) := hS.cell 1
  clear hS hb12 hO hB1 hg hb1
  generalize w1.alloc (.cells #[.int .i64 0, .int .i64 0] 26) = w2 at *
  have hr1 := reads_new w2 #[.string ⟨#[107]⟩, .string ⟨#[93]⟩] 51 2 1 rfl
  have hr2 := reads_new (w2.alloc (.cells #[.string ⟨#[107]⟩, .string ⟨#[93]⟩] 51)) #[.string ⟨#[120]⟩, .slice (some ⟨w2.heap.size, 0, none⟩) 1 1] 40 2 1 rfl
  have HPR := Lib.hid (print_any (.slice (some ⟨w2.heap.size + 1, 0, none⟩) 1 1) lB [.slice (some ⟨w2.heap.size, 0, none⟩) 1 1] ((w2.alloc (.cells #[.string ⟨#[107]⟩, .string ⟨#[93]⟩] 51)).alloc (.cells #[.string ⟨#[120]⟩, .slice (some ⟨w2.heap.size, 0, none⟩) 1 1] 40))
    ⟨_, 1, rfl, Nat.le_refl _, by decide, by simpa [lB, stepCells] using hr2, rfl, by
      intro i st kv hi hj
      match i with
      | 0 =>
        simp [lB] at hi hj
        subst hi hj
        exact ⟨_, 1, rfl, Nat.le_refl _, by decide, by
          have h := (hr1.below ((Below.refl _ (w2.alloc (.cells #[.string ⟨#[107]⟩, .string ⟨#[93]⟩] 51))).alloc (by simp) (.cells #[.string ⟨#[120]⟩, .slice (some ⟨w2.heap.size, 0, none⟩) 1 1] 40))).more (show w2.heap.size + 1 ≤ ((w2.alloc (.cells #[.string ⟨#[107]⟩, .string ⟨#[93]⟩] 51)).alloc (.cells #[.string ⟨#[120]⟩, .slice (some ⟨w2.heap.size, 0, none⟩) 1 1] 40)).heap.size by simp)
          simpa [pairCells] using h⟩
      | i + 1 => simp [lB] at hi⟩ (by intro st hst; simp [lB] at hst; subst hst; exact ⟨by decide, by decide, by intro k hk; simp at hk; subst hk; exact ⟨by decide, by decide⟩⟩) (by decide))
  have HM := Lib.hid (show ∀ W en W', PutPost lB W en W' → en = .returned (.tuple #[.string ⟨#[120, 91, 107, 61, 92, 93, 93]⟩, .int .i64 0]) ∧ Below W.heap.size W W' from fun W en W' h => by
    unfold PutPost at h
    rw [wakes_print] at h
    exact h)
  have HIN := Lib.hid (show ∀ W, Calls Try.prog 12 #[.string ⟨#[97, 47, 98]⟩, .string ⟨#[97]⟩] W fun en W' => en = .returned (.bool true) ∧ Below W.heap.size W W' from fun W => (in_any ⟨#[97, 47, 98]⟩ ⟨#[97]⟩ W (by decide) (by decide)).mono fun en W' h => by
    unfold InPost at h
    rw [wakes_in] at h
    exact h)
  have HA := Lib.hid (show Below w2.heap.size w2 ((w2.alloc (.cells #[.string ⟨#[107]⟩, .string ⟨#[93]⟩] 51)).alloc (.cells #[.string ⟨#[120]⟩, .slice (some ⟨w2.heap.size, 0, none⟩) 1 1] 40)) from ((Below.refl _ _).alloc (Nat.le_refl _) _).alloc (by simp) _)
  clear hr1 hr2 HP
  go_upto_region 3 with (go_at_call 22; go_loud (refine HPR.out.mono ?_; intro en w4 h4; obtain ⟨rfl, hB4⟩ := HM.out _ _ _ h4; clear h4))
  have hb4 : Below w2.heap.size w2 w4 := HA.out.trans (hB4.mono HA.out.size)
  have e0 := (hb4.cell (p := ⟨g, 0, none⟩) hg2).trans e0
  have e1 := (hb4.cell (p := ⟨g, 1, none⟩) hg2).trans e1
  have e2 := (hb4.cell (p := ⟨b1, 0, none⟩) hb2).trans e2
  have e3 := (hb4.cell (p := ⟨b1, 1, none⟩) hb2).trans e3
  have s0 := (hb4.cell (p := ⟨w1.heap.size, 0, none⟩) hsz).trans s0
  have s1 := (hb4.cell (p := ⟨w1.heap.size, 1, none⟩) hsz).trans s1
  have HB4 := Lib.hid (HB2.out.trans (hb4.mono HB2.out.size))
  clear hb4 hB4
  go_wp2_with (go_at_call 12; go_loud (refine (HIN.out _).mono ?_; rintro en w5 ⟨rfl, hB5⟩; have HB5 := Lib.hid hB5; clear hB5))
  go_ret
  exact ⟨rfl, HB4.out.trans (HB5.out.mono HB4.out.size)⟩
/-- Lies a in b? -/
def inB (a b : ByteArray) : Bool := (restM a b).isSome
theorem inB_ok {a b : ByteArray} : inB a b = true ↔ ∃ l m, parseM a = .ok l ∧ parseM b = .ok m ∧ l.take m.length = m := by
  unfold inB restM
  cases ha : parseM a with
  | error e => simp
  | ok l =>
    cases hb : parseM b with
    | error e => simp
    | ok m => simp
theorem parse_empty : parseM ByteArray.empty = .ok [] := by kernel_rfl
def rightB (a : ByteArray) : Bool := (errOf a).1 == 0
theorem rightB_ok {a : ByteArray} : rightB a = true ↔ ∃ l, parseM a = .ok l := by
  unfold rightB errOf
  cases ha : parseM a with
  | ok l => simp
  | error e =>
    obtain ⟨x, y⟩ := e
    have := parseM_err ha
    simp
    omega
theorem bool_iff {a b : Bool} (h : a = true ↔ b = true) : a = b := by cases a <;> cases b <;> simp_all
theorem in_self (a : ByteArray) : inB a a = rightB a := bool_iff (by
  rw [inB_ok, rightB_ok]
  constructor
  · rintro ⟨l, m, h, -, -⟩; exact ⟨l, h⟩
  · rintro ⟨l, h⟩; exact ⟨l, l, h, h, by simp⟩)
theorem in_none (a : ByteArray) : inB a ByteArray.empty = rightB a := bool_iff (by
  rw [inB_ok, rightB_ok]
  constructor
  · rintro ⟨l, m, h, -, -⟩; exact ⟨l, h⟩
  · rintro ⟨l, h⟩; exact ⟨l, [], h, parse_empty, by simp⟩)
theorem in_trans {a b c : ByteArray} (h1 : inB a b = true) (h2 : inB b c = true) : inB a c = true := by
  rw [inB_ok] at *
  obtain ⟨l, m, ha, hb, h1⟩ := h1
  obtain ⟨m', n, hb', hc, h2⟩ := h2
  rw [hb] at hb'
  cases hb'
  refine ⟨l, n, ha, hc, ?_⟩
  have hle : n.length ≤ m.length := by
    have := congrArg List.length h2
    rw [List.length_take] at this
    omega
  have e : (l.take m.length).take n.length = l.take n.length := by rw [List.take_take, Nat.min_eq_left hle]
  rw [← e, h1]
  exact h2
theorem in_anti {a b : ByteArray} (h1 : inB a b = true) (h2 : inB b a = true) : a = b := by
  rw [inB_ok] at *
  obtain ⟨l, m, ha, hb, h1⟩ := h1
  obtain ⟨m', l', hb', ha', h2⟩ := h2
  rw [hb] at hb'
  cases hb'
  rw [ha] at ha'
  cases ha'
  have e1 : m.length ≤ l.length := by have := congrArg List.length h1; rw [List.length_take] at this; omega
  have e2 : l.length ≤ m.length := by have := congrArg List.length h2; rw [List.length_take] at this; omega
  have : l = m := by rw [List.take_of_length_le (by omega)] at h1; exact h1
  subst this
  exact parse_inj ha hb
theorem in_line {a b c : ByteArray} (h1 : inB a b = true) (h2 : inB a c = true) : inB b c = true ∨ inB c b = true := by
  rw [inB_ok] at h1 h2
  obtain ⟨l, m, ha, hb, h1⟩ := h1
  obtain ⟨l', n, ha', hc, h2⟩ := h2
  rw [ha] at ha'
  cases ha'
  rcases Nat.le_total n.length m.length with h | h
  · refine .inl (inB_ok.2 ⟨m, n, hb, hc, ?_⟩)
    rw [← h1, List.take_take, Nat.min_eq_left h]
    exact h2
  · refine .inr (inB_ok.2 ⟨n, m, hc, hb, ?_⟩)
    rw [← h2, List.take_take, Nat.min_eq_left h]
    exact h1
end Go.Proofs.Ytjebaibcfmjinaa
