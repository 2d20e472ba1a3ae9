/-
  The walks of path.Check, path.Rest and path.In. Condition: the strings are within the reach.
-/
import Derived.Test.YtjebaibcfmjinaaPathRest
import Derived.Test.YtjebaibcfmjinaaPathSmall
namespace Go.Proofs.Ytjebaibcfmjinaa
open Go.RowKit

def ParseSays (s : ByteArray) (w : World) (en : Ending) (w' : World) : Prop := Below w.heap.size w w' ∧
  ((∃ x y, parseM s = .error (x, y) ∧ en = .returned (.tuple #[.slice none 0 0, .agg #[.int .i64 x, .int .i64 y]])) ∨ (∃ l v, parseM s = .ok l ∧ en = .returned (.tuple #[v, .agg #[.int .i64 0, .int .i64 0]]) ∧ StepsOwn w' w.heap.size v l))
theorem parse_says (s : ByteArray) (w : World) (hs : s.size ≤ 140737488355328) : Calls Try.prog 28 #[.string s] w (ParseSays s w) := parse_any s w hs
theorem results_row {fn : Func} {P : Program} {p : Tmp} {ty : TypeId} (h : fn.results = #[.cell p ty]) (tmps : Array Value) (w : World) (g : Nat) (t : TypeId) (cs : Array Value) (d : TypeDesc)
    (hp : tmps.getD p undef = .pointer (some ⟨g, 0, none⟩)) (hg : Blk w g t cs)
    (hu : P.underlying ty = some d) (hd : (match d with | .struct _ | .array _ _ => true | _ => false) = true) (hi : (P.info? ty).map (·.size) = some cs.size) : (results fn tmps).run P w = .ok (.agg cs) w :=
  results_cell_row h tmps w g t cs (0, 0) d hp hg hu hd hi
theorem check_result {tmps : Array Value} {w : World} {r0 : Nat} {x y : Int} (hB : Blk w r0 26 #[.int .i64 x, .int .i64 y]) (hp : tmps.getD 2 undef = .pointer (some ⟨r0, 0, none⟩)) :
    (results Try.f11 tmps).run Try.prog w = .ok (.agg #[.int .i64 x, .int .i64 y]) w :=
  results_row Try.results11 tmps w r0 26 #[.int .i64 x, .int .i64 y] _ hp hB Try.underlying26 rfl spot_info
def errOf (s : ByteArray) : Int × Int := match parseM s with
  | .error e => e
  | .ok _ => (0, 0)
def CheckPost (s : ByteArray) (w : World) (en : Ending) (w' : World) : Prop := en = .returned (.agg #[.int .i64 (errOf s).1, .int .i64 (errOf s).2]) ∧ Below w.heap.size w w'
set_option maxHeartbeats 1000000 in
theorem pcheck_any (s : ByteArray) (w : World) (hs : s.size ≤ 140737488355328) :
    Calls Try.prog 11 #[.string s] w (CheckPost s w) := by
  have HP := Lib.hid (fun W => parse_says s W hs)
  have HB0 := Lib.hid (Blk.new w 26 #[.int .i64 0, .int .i64 0])
  have HBA := Lib.hid (show Below w.heap.size w (w.alloc (.cells #[.int .i64 0, .int .i64 0] 26)) from (Below.refl _ _).alloc (Nat.le_refl _) _)
  go_enter Try.func11, Try.ntmps11
  go_upto_region 2 with (go_at_call 28; go_loud (refine (HP.out _).mono ?_; rintro en w1 ⟨hB1, ⟨x, y, hE, rfl⟩ | ⟨l, v, hE, rfl, hO⟩⟩; rotate_left; obtain ⟨vs, hI⟩ := hO; obtain ⟨A1, c1, rfl, -, -, -⟩ := own_form hI.2.1; clear hI; rotate_right; all_goals (have HE := Lib.hid hE; have HB1 := Lib.hid hB1; have HK := Lib.hid (HB0.out.below hB1 (Blk.lt HB0.out)); clear hE hB1)))
  · have HX := Lib.hid (show errOf s = (x, y) by unfold errOf; rw [HE.out])
    have hk := HK.out.alloc (.cells #[.int .i64 x, .int .i64 y] 26)
    have hn := Blk.new w1 26 #[.int .i64 x, .int .i64 y]
    have HB2 := Lib.hid (show Below w.heap.size w (w1.alloc (.cells #[.int .i64 x, .int .i64 y] 26)) from (HBA.out.trans (HB1.out.mono (by simp))).alloc (by have := HB1.out.size; simp at this; omega) _)
    generalize w1.alloc (.cells #[.int .i64 x, .int .i64 y] 26) = w2 at *
    obtain ⟨b0, b1, b2, b3, b4, b5⟩ := hk.two (.int .i64 x)
    have k0 : w2.cell? ⟨w1.heap.size, 0, none⟩ = some (.int .i64 x) := hn.cell 0
    have k1 : w2.cell? ⟨w1.heap.size, 1, none⟩ = some (.int .i64 y) := hn.cell 1
    have HK2 := Lib.hid (hk.two_set (.int .i64 x) (.int .i64 y))
    clear hk hn HK
    go_wp2
    refine bodyPost_ret (check_result HK2.out rfl) rfl ⟨by rw [HX.out], (HB2.out.setCell (by simp) _).setCell (by simp) _⟩
  · have HX := Lib.hid (show errOf s = (0, 0) by unfold errOf; rw [HE.out])
    have hk := HK.out.alloc (.cells #[.int .i64 0, .int .i64 0] 26)
    have hn := Blk.new w1 26 #[.int .i64 0, .int .i64 0]
    have HB2 := Lib.hid (show Below w.heap.size w (w1.alloc (.cells #[.int .i64 0, .int .i64 0] 26)) from (HBA.out.trans (HB1.out.mono (by simp))).alloc (by have := HB1.out.size; simp at this; omega) _)
    generalize w1.alloc (.cells #[.int .i64 0, .int .i64 0] 26) = w2 at *
    obtain ⟨b0, b1, b2, b3, b4, b5⟩ := hk.two (.int .i64 0)
    have k0 : w2.cell? ⟨w1.heap.size, 0, none⟩ = some (.int .i64 0) := hn.cell 0
    have k1 : w2.cell? ⟨w1.heap.size, 1, none⟩ = some (.int .i64 0) := hn.cell 1
    have HK2 := Lib.hid (hk.two_set (.int .i64 0) (.int .i64 0))
    clear hk hn HK
    go_wp2
    refine bodyPost_ret (check_result HK2.out rfl) rfl ⟨by rw [HX.out], (HB2.out.setCell (by simp) _).setCell (by simp) _⟩

theorem stepCells_take : ∀ (l : List PStep) (vs : List Value) (k : Nat), stepCells (l.take k) (vs.take k) = (stepCells l vs).take (k * 2)
  | _, _, 0 => by simp [stepCells]
  | [], [], k + 1 => by simp [stepCells]
  | [], _ :: _, k + 1 => by simp [stepCells]
  | _ :: _, [], k + 1 => by simp [stepCells]
  | st :: l, v :: vs, k + 1 => by
    rw [show (k + 1) * 2 = k * 2 + 2 by omega]
    simp [stepCells, stepCells_take l vs k]
theorem stepCells_drop : ∀ (l : List PStep) (vs : List Value) (k : Nat), stepCells (l.drop k) (vs.drop k) = (stepCells l vs).drop (k * 2)
  | _, _, 0 => by simp
  | [], [], k + 1 => by simp [stepCells]
  | [], _ :: _, k + 1 => by simp [stepCells]
  | _ :: _, [], k + 1 => by simp [stepCells]
  | st :: l, v :: vs, k + 1 => by
    rw [show (k + 1) * 2 = k * 2 + 2 by omega]
    simp [stepCells, stepCells_drop l vs k]
theorem StepsR.take {w : World} {A : Option Addr} {n c : Nat} {l : List PStep} {vs : List Value} (h : StepsR w (.slice A n c) l vs) {k : Nat} (hk : k ≤ l.length) : StepsR w (.slice A k c) (l.take k) (vs.take k) := by
  obtain ⟨A', c', e, h1, h2, h3, h4, h5⟩ := h
  cases e
  have hl : (l.take k).length = k := by rw [List.length_take]; omega
  refine ⟨A, c, by rw [hl], by omega, h2, ?_, by rw [List.length_take, List.length_take, h4], ?_⟩
  · rw [hl, stepCells_take]
    exact h3.take hk
  · intro i st kv hi hj
    rw [List.getElem?_take] at hi hj
    split at hi
    · rename_i hlt
      rw [if_pos hlt] at hj
      exact h5 i st kv hi hj
    · cases hi
theorem StepsR.drop {w : World} {A : Option Addr} {n c : Nat} {l : List PStep} {vs : List Value} (h : StepsR w (.slice A n c) l vs) {k : Nat} (hk : k ≤ l.length) :
    StepsR w (.slice (if c = k then A else Option.map (fun x => x.add (k * 2)) A) (n - k) (c - k)) (l.drop k) (vs.drop k) := by
  obtain ⟨A', c', e, h1, h2, h3, h4, h5⟩ := h
  cases e
  refine ⟨_, c - k, by rw [List.length_drop], by rw [List.length_drop]; omega, by omega, ?_, by rw [List.length_drop, List.length_drop, h4], ?_⟩
  · rw [stepCells_drop, List.length_drop]
    exact h3.drop hk h1
  · intro i st kv hi hj
    rw [List.getElem?_drop] at hi hj
    exact h5 _ st kv hi hj
theorem stepCells_mem : ∀ (l : List PStep) (vs : List Value) (u : Value), u ∈ stepCells l vs → (∃ s, u = .string s) ∨ (∃ (i : Nat) (st : PStep), l[i]? = some st ∧ vs[i]? = some u)
  | [], _, _, h => by simp [stepCells] at h
  | _ :: _, [], _, h => by simp [stepCells] at h
  | st :: l, v :: vs, u, h => by
    simp only [stepCells, List.mem_cons] at h
    rcases h with h | h | h
    · exact .inl ⟨_, h⟩
    · exact .inr ⟨0, st, rfl, by rw [h]; rfl⟩
    · rcases stepCells_mem l vs u h with h | ⟨i, st', h1, h2⟩
      · exact .inl h
      · exact .inr ⟨i + 1, st', by simpa using h1, by simpa using h2⟩
theorem stepCells_one {w : World} {v : Value} {l : List PStep} {vs : List Value} (h : StepsR w v l vs) : ∀ u ∈ stepCells l vs, u.oneCell' = true := by
  intro u hu
  obtain ⟨_, _, _, _, _, _, _, h5⟩ := h
  rcases stepCells_mem l vs u hu with ⟨s, rfl⟩ | ⟨i, st, h1, h2⟩
  · rfl
  · obtain ⟨A, c, rfl, _⟩ := h5 i st u h1 h2
    rfl
/-- put of one list of steps. -/
theorem put_one (v : Value) (l : List PStep) (vs : List Value) (w : World) (h : StepsR w v l vs) (hs : ∀ st ∈ l, StepSmall st) (hl : l.length ≤ 1000) :
    Calls Try.prog 33 #[.slice (some ⟨w.heap.size, 0, none⟩) 1 1] (w.alloc (.cells #[v] 32)) (PutPost l (w.alloc (.cells #[v] 32))) := by
  have hb : Below w.heap.size w (w.alloc (.cells #[v] 32)) := (Below.refl _ _).alloc (Nat.le_refl _) _
  have h' := h.more hb
  have hone := stepCells_one h'
  obtain ⟨A, c, rfl, h1, h2, h3, h4, h5⟩ := h'
  refine put_any _ 1 1 [(.slice A l.length c, l.length, stepCells l vs)] l vs _ rfl ⟨⟨?_, ?_⟩, by simp [flatL], by simp [sumL], h4, h5, hs, hl, by simp⟩
  · have := reads_new w #[.slice A l.length c] 32 1 1 rfl
    simpa using this
  · intro x hx
    simp at hx
    subst hx
    exact ⟨⟨A, c, rfl, h1, h2, h3⟩, hone⟩
/-- The rest of l behind m. -/
def restM (a b : ByteArray) : Option ByteArray := match parseM a, parseM b with
  | .ok l, .ok m => if l.take m.length = m then some (putS (putM (l.drop m.length))) else none
  | _, _ => none
def restV (r : Option ByteArray) : Value := match r with
  | some t => .tuple #[.string t, .bool true]
  | none => .tuple #[.string ByteArray.empty, .bool false]
def RestPost (a b : ByteArray) (w : World) (en : Ending) (w' : World) : Prop := en = .returned (restV (restM a b)) ∧ Below w.heap.size w w'
set_option maxHeartbeats 4000000 in
theorem rest_any (a b : ByteArray) (w : World) (ha : a.size ≤ 140737488355328) (hb : b.size ≤ 140737488355328) :
    Calls Try.prog 14 #[.string a, .string b] w (RestPost a b w) := by
  have HPA := Lib.hid (fun W => parse_says a W ha)
  have HPB := Lib.hid (fun W => parse_says b W hb)
  go_enter Try.func14, Try.ntmps14
  go_upto_region 2 with (go_at_call 28; go_loud (refine (HPA.out _).mono ?_; rintro en w1 ⟨hB1, ⟨x, y, hE, rfl⟩ | ⟨l, v, hE, rfl, hO⟩⟩; rotate_left; obtain ⟨vs, hI⟩ := hO; obtain ⟨A1, c1, rfl, -, -, -⟩ := own_form hI.2.1; have HI := Lib.hid hI; clear hI; rotate_right; all_goals (have HE := Lib.hid hE; have HB1 := Lib.hid hB1; clear hE hB1)))
  · have HX := Lib.hid (show restM a b = none by unfold restM; rw [HE.out])
    have hx0 : (x == 0) = false := by
      rw [beq_eq_false_iff_ne]
      have := parseM_err HE.out
      omega
    have hx1 : ¬ x = 0 := by simpa using hx0
    go_upto_region 3 with (go_at_call 28; go_loud (refine (HPB.out _).mono ?_; rintro en w2 ⟨hB2, ⟨x2, y2, hE2, rfl⟩ | ⟨m, v2, hE2, rfl, hO2⟩⟩; rotate_left; obtain ⟨ws, hI2⟩ := hO2; obtain ⟨A2, c2, rfl, -, -, -⟩ := own_form hI2.2.1; have HI2 := Lib.hid hI2; clear hI2; rotate_right; all_goals (have HE2 := Lib.hid hE2; have HB2 := Lib.hid hB2; clear hE2 hB2)))
    · have hS := Blk.new w1 26 #[.int .i64 x, .int .i64 y]
      have hk7 := (hS.below HB2.out (Blk.lt hS)).alloc (.cells #[.int .i64 x2, .int .i64 y2] 26)
      have hk9 := Blk.new w2 26 #[.int .i64 x2, .int .i64 y2]
      have hw1 : w.heap.size ≤ w1.heap.size := HB1.out.size
      have hw2 : w1.heap.size < w2.heap.size := by have := HB2.out.size; simp at this; omega
      have HBX := Lib.hid (show Below w.heap.size w (w2.alloc (.cells #[.int .i64 x2, .int .i64 y2] 26)) from (((HB1.out.alloc hw1 _).trans (HB2.out.mono (by simp; omega))).alloc (by omega) _))
      have HBY := Lib.hid (show Below w1.heap.size w1 (w2.alloc (.cells #[.int .i64 x2, .int .i64 y2] 26)) from ((((Below.refl _ w1).alloc (Nat.le_refl _) _).trans (HB2.out.mono (by simp))).alloc (by omega) _))
      have HBZ := Lib.hid (show Below w2.heap.size w2 (w2.alloc (.cells #[.int .i64 x2, .int .i64 y2] 26)) from (Below.refl _ w2).alloc (Nat.le_refl _) _)
      generalize w2.alloc (.cells #[.int .i64 x2, .int .i64 y2] 26) = w3 at *
      have k7 : w3.cell? ⟨w1.heap.size, 0, none⟩ = some (.int .i64 x) := hk7.cell 0
      have k9 : w3.cell? ⟨w2.heap.size, 0, none⟩ = some (.int .i64 x2) := hk9.cell 0
      clear hS hk7 hk9
      go_wp2
      go_ret2
      exact ⟨by rw [HX.out]; rfl, HBX.out⟩
    · have hS := Blk.new w1 26 #[.int .i64 x, .int .i64 y]
      have hk7 := (hS.below HB2.out (Blk.lt hS)).alloc (.cells #[.int .i64 0, .int .i64 0] 26)
      have hk9 := Blk.new w2 26 #[.int .i64 0, .int .i64 0]
      have hw1 : w.heap.size ≤ w1.heap.size := HB1.out.size
      have hw2 : w1.heap.size < w2.heap.size := by have := HB2.out.size; simp at this; omega
      have HBX := Lib.hid (show Below w.heap.size w (w2.alloc (.cells #[.int .i64 0, .int .i64 0] 26)) from (((HB1.out.alloc hw1 _).trans (HB2.out.mono (by simp; omega))).alloc (by omega) _))
      have HBY := Lib.hid (show Below w1.heap.size w1 (w2.alloc (.cells #[.int .i64 0, .int .i64 0] 26)) from ((((Below.refl _ w1).alloc (Nat.le_refl _) _).trans (HB2.out.mono (by simp))).alloc (by omega) _))
      have HBZ := Lib.hid (show Below w2.heap.size w2 (w2.alloc (.cells #[.int .i64 0, .int .i64 0] 26)) from (Below.refl _ w2).alloc (Nat.le_refl _) _)
      generalize w2.alloc (.cells #[.int .i64 0, .int .i64 0] 26) = w3 at *
      have k7 : w3.cell? ⟨w1.heap.size, 0, none⟩ = some (.int .i64 x) := hk7.cell 0
      have k9 : w3.cell? ⟨w2.heap.size, 0, none⟩ = some (.int .i64 0) := hk9.cell 0
      clear hS hk7 hk9
      go_wp2
      go_ret2
      exact ⟨by rw [HX.out]; rfl, HBX.out⟩
  · go_upto_region 3 with (go_at_call 28; go_loud (refine (HPB.out _).mono ?_; rintro en w2 ⟨hB2, ⟨x2, y2, hE2, rfl⟩ | ⟨m, v2, hE2, rfl, hO2⟩⟩; rotate_left; obtain ⟨ws, hI2⟩ := hO2; obtain ⟨A2, c2, rfl, -, -, -⟩ := own_form hI2.2.1; have HI2 := Lib.hid hI2; clear hI2; rotate_right; all_goals (have HE2 := Lib.hid hE2; have HB2 := Lib.hid hB2; clear hE2 hB2)))
    · have HX := Lib.hid (show restM a b = none by unfold restM; rw [HE.out, HE2.out])
      have hx0 : (x2 == 0) = false := by
        rw [beq_eq_false_iff_ne]
        have := parseM_err HE2.out
        omega
      have hx1 : ¬ x2 = 0 := by simpa using hx0
      have hS := Blk.new w1 26 #[.int .i64 0, .int .i64 0]
      have hk7 := (hS.below HB2.out (Blk.lt hS)).alloc (.cells #[.int .i64 x2, .int .i64 y2] 26)
      have hk9 := Blk.new w2 26 #[.int .i64 x2, .int .i64 y2]
      have hw1 : w.heap.size ≤ w1.heap.size := HB1.out.size
      have hw2 : w1.heap.size < w2.heap.size := by have := HB2.out.size; simp at this; omega
      have HBX := Lib.hid (show Below w.heap.size w (w2.alloc (.cells #[.int .i64 x2, .int .i64 y2] 26)) from (((HB1.out.alloc hw1 _).trans (HB2.out.mono (by simp; omega))).alloc (by omega) _))
      have HBY := Lib.hid (show Below w1.heap.size w1 (w2.alloc (.cells #[.int .i64 x2, .int .i64 y2] 26)) from ((((Below.refl _ w1).alloc (Nat.le_refl _) _).trans (HB2.out.mono (by simp))).alloc (by omega) _))
      have HBZ := Lib.hid (show Below w2.heap.size w2 (w2.alloc (.cells #[.int .i64 x2, .int .i64 y2] 26)) from (Below.refl _ w2).alloc (Nat.le_refl _) _)
      generalize w2.alloc (.cells #[.int .i64 x2, .int .i64 y2] 26) = w3 at *
      have k7 : w3.cell? ⟨w1.heap.size, 0, none⟩ = some (.int .i64 0) := hk7.cell 0
      have k9 : w3.cell? ⟨w2.heap.size, 0, none⟩ = some (.int .i64 x2) := hk9.cell 0
      clear hS hk7 hk9
      go_wp2
      go_ret2
      exact ⟨by rw [HX.out]; rfl, HBX.out⟩
    · have HSA := Lib.hid (parseM_small HE.out)
      have HSB := Lib.hid (parseM_small HE2.out)
      have hl64 : (l.length : Int) ≤ 64 := by have := HSA.out.2.1; omega
      have hm64 : (m.length : Int) ≤ 64 := by have := HSB.out.2.1; omega
      have hS := Blk.new w1 26 #[.int .i64 0, .int .i64 0]
      have hk7 := (hS.below HB2.out (Blk.lt hS)).alloc (.cells #[.int .i64 0, .int .i64 0] 26)
      have hk9 := Blk.new w2 26 #[.int .i64 0, .int .i64 0]
      have hw1 : w.heap.size ≤ w1.heap.size := HB1.out.size
      have hw2 : w1.heap.size < w2.heap.size := by have := HB2.out.size; simp at this; omega
      have HBX := Lib.hid (show Below w.heap.size w (w2.alloc (.cells #[.int .i64 0, .int .i64 0] 26)) from (((HB1.out.alloc hw1 _).trans (HB2.out.mono (by simp; omega))).alloc (by omega) _))
      have HBY := Lib.hid (show Below w1.heap.size w1 (w2.alloc (.cells #[.int .i64 0, .int .i64 0] 26)) from ((((Below.refl _ w1).alloc (Nat.le_refl _) _).trans (HB2.out.mono (by simp))).alloc (by omega) _))
      have HBZ := Lib.hid (show Below w2.heap.size w2 (w2.alloc (.cells #[.int .i64 0, .int .i64 0] 26)) from (Below.refl _ w2).alloc (Nat.le_refl _) _)
      generalize w2.alloc (.cells #[.int .i64 0, .int .i64 0] 26) = w3 at *
      have k7 : w3.cell? ⟨w1.heap.size, 0, none⟩ = some (.int .i64 0) := hk7.cell 0
      have k9 : w3.cell? ⟨w2.heap.size, 0, none⟩ = some (.int .i64 0) := hk9.cell 0
      clear hS hk7 hk9
      by_cases hml : m.length ≤ l.length
      · have hq : ¬ (l.length : Int) < (m.length : Int) := by omega
        have hcl : (m.length : Int) ≤ (c1 : Int) := by
          obtain ⟨A', c', heq, h1, -, -⟩ := own_form HI.out.2.1
          cases heq
          omega
        have hRA : StepsR w3 (.slice A1 l.length c1) l vs := HI.out.reads.more HBY.out
        have hRB : StepsR w3 (.slice A2 m.length c2) m ws := HI2.out.reads.more HBZ.out
        have HRA := Lib.hid hRA
        have HRB := Lib.hid hRB
        have HEQ := Lib.hid (equalfunc_any _ _ (l.take m.length) m _ _ w3 (hRA.take hml) hRB (by rw [List.length_take]; omega) (by omega) (fun st hst => by have := HSA.out.1 st (List.mem_of_mem_take hst); have := this.2.1; omega) (fun st hst => by have := HSB.out.1 st hst; have := this.2.1; omega))
        clear hRA hRB
        by_cases he : l.take m.length = m
        · rw [show decide (l.take m.length = m) = true by simp [he]] at HEQ
          have HE3 := Lib.hid he
          have HML := Lib.hid hml
          have HSD := Lib.hid (show ∀ st ∈ l.drop m.length, StepSmall st from fun st hst => (HSA.out.1 st (List.mem_of_mem_drop hst)).small)
          clear he
          go_upto_region 8 with (first
            | (go_at_call 30; go_loud (refine HEQ.out.mono ?_; rintro en w4 ⟨rfl, hB4⟩; have HB4 := Lib.hid hB4; clear hB4))
            | (go_at_call 33; go_loud (refine (put_one _ (l.drop m.length) (vs.drop m.length) w4 ((HRA.out.more HB4.out).drop HML.out) HSD.out (by have := HSA.out.2.1; rw [List.length_drop]; omega)).mono ?_; rintro en w5 ⟨rfl, hB5⟩; have HB5 := Lib.hid hB5; clear hB5)))
          have HX := Lib.hid (show restM a b = some (putS (putM (l.drop m.length))) by unfold restM; rw [HE.out, HE2.out]; simp only; rw [if_pos HE3.out])
          go_wp2
          all_goals go_ret2
          all_goals exact ⟨by rw [HX.out]; rfl, HBX.out.trans (((HB4.out.mono HBX.out.size).alloc (Nat.le_trans HBX.out.size HB4.out.size) _).trans (HB5.out.mono (by have := HBX.out.size; have := HB4.out.size; simp; omega)))⟩
        · rw [show decide (l.take m.length = m) = false by simp [he]] at HEQ
          have HX := Lib.hid (show restM a b = none by unfold restM; rw [HE.out, HE2.out]; simp only; rw [if_neg he])
          clear he
          go_wp2_with (go_at_call 30; go_loud (refine HEQ.out.mono ?_; rintro en w4 ⟨rfl, hB4⟩; have HB4 := Lib.hid hB4; clear hB4))
          go_ret2
          exact ⟨by rw [HX.out]; rfl, HBX.out.trans (HB4.out.mono HBX.out.size)⟩
      · have hq : (l.length : Int) < (m.length : Int) := by omega
        have HX := Lib.hid (show restM a b = none by
          unfold restM
          rw [HE.out, HE2.out]
          simp only
          rw [if_neg]
          intro e
          have := congrArg List.length e
          rw [List.length_take] at this
          omega)
        clear hml
        go_wp2
        go_ret2
        exact ⟨by rw [HX.out]; rfl, HBX.out⟩
def InPost (a b : ByteArray) (w : World) (en : Ending) (w' : World) : Prop := en = .returned (.bool (restM a b).isSome) ∧ Below w.heap.size w w'
theorem in_any (a b : ByteArray) (w : World) (ha : a.size ≤ 140737488355328) (hb : b.size ≤ 140737488355328) :
    Calls Try.prog 12 #[.string a, .string b] w (InPost a b w) := by
  have HR := Lib.hid (rest_any a b w ha hb)
  cases hr : restM a b with
  | none =>
    have HM := Lib.hid (show ∀ en W, RestPost a b w en W → en = .returned (.tuple #[.string ByteArray.empty, .bool false]) ∧ Below w.heap.size w W from fun en W h => by
      unfold RestPost at h
      rw [hr] at h
      exact h)
    have HX := Lib.hid (show (restM a b).isSome = false by rw [hr]; rfl)
    clear hr
    go_enter Try.func12, Try.ntmps12
    go_wp2_with (go_at_call 14; go_loud (refine HR.out.mono ?_; intro en w1 h1; obtain ⟨rfl, hB1⟩ := HM.out _ _ h1; clear h1))
    go_ret
    exact ⟨by rw [HX.out]; rfl, hB1⟩
  | some t =>
    have HM := Lib.hid (show ∀ en W, RestPost a b w en W → en = .returned (.tuple #[.string t, .bool true]) ∧ Below w.heap.size w W from fun en W h => by
      unfold RestPost at h
      rw [hr] at h
      exact h)
    have HX := Lib.hid (show (restM a b).isSome = true by rw [hr]; rfl)
    clear hr
    go_enter Try.func12, Try.ntmps12
    go_wp2_with (go_at_call 14; go_loud (refine HR.out.mono ?_; intro en w1 h1; obtain ⟨rfl, hB1⟩ := HM.out _ _ h1; clear h1))
    go_ret
    exact ⟨by rw [HX.out]; rfl, hB1⟩
end Go.Proofs.Ytjebaibcfmjinaa
