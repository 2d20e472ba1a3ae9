/-
  The walks of the path reader's fail, next and name. Condition: the string is within the reach.
-/
import Derived.Test.YtjebaibcfmjinaaUtf
import Derived.Test.YtjebaibcfmjinaaBlocks
import Derived.Deep.QuietTactic
import Derived.BigQuiet
namespace Go.Proofs.Ytjebaibcfmjinaa
open Go.RowKit

/-- The reader at block g. -/
def PR (w : World) (g : Nat) (s : ByteArray) (at_ : Nat) (e a : Int) : Prop := Blk w g 81 #[.string s, .int .i64 (at_ : Int), .int .i64 e, .int .i64 a]
theorem PR.c0 {w : World} {g : Nat} {s : ByteArray} {at_ : Nat} {e a : Int} (h : PR w g s at_ e a) : w.cell? ⟨g, 0, none⟩ = some (.string s) := Blk.cell h 0
theorem PR.c1 {w : World} {g : Nat} {s : ByteArray} {at_ : Nat} {e a : Int} (h : PR w g s at_ e a) : w.cell? ⟨g, 1, none⟩ = some (.int .i64 (at_ : Int)) := Blk.cell h 1
theorem PR.c2 {w : World} {g : Nat} {s : ByteArray} {at_ : Nat} {e a : Int} (h : PR w g s at_ e a) : w.cell? ⟨g, 2, none⟩ = some (.int .i64 e) := Blk.cell h 2
theorem PR.c3 {w : World} {g : Nat} {s : ByteArray} {at_ : Nat} {e a : Int} (h : PR w g s at_ e a) : w.cell? ⟨g, 3, none⟩ = some (.int .i64 a) := Blk.cell h 3
theorem PR.goto_ {w : World} {g : Nat} {s : ByteArray} {at_ : Nat} {e a : Int} (h : PR w g s at_ e a) (k : Nat) : PR (w.setCell ⟨g, 1, none⟩ (.int .i64 (k : Int))) g s k e a := Blk.set_ h 1 _
theorem PR.fail {w : World} {g : Nat} {s : ByteArray} {at_ : Nat} {e a : Int} (h : PR w g s at_ e a) (x y : Int) : PR ((w.setCell ⟨g, 2, none⟩ (.int .i64 x)).setCell ⟨g, 3, none⟩ (.int .i64 y)) g s at_ x y := Blk.set_ (Blk.set_ h 2 _) 3 _
theorem PR.drewN {w : World} {g : Nat} {s : ByteArray} {at_ : Nat} {e a : Int} (h : PR w g s at_ e a) (k : Nat) : PR (w.drewN k) g s at_ e a := Blk.drewN h k

set_option maxHeartbeats 400000 in
theorem fail_any (g at_ : Nat) (s : ByteArray) (e a x y : Int) (w : World) (h : PR w g s at_ e a) :
    Calls Try.prog 49 #[.pointer (some ⟨g, 0, none⟩), .int .i64 x, .int .i64 y] w fun en w' => en = .returned (.bool false) ∧ PR w' g s at_ x y ∧ Only g w w' := by
  have c2 := h.c2
  have c3 := h.c3
  have f2 := Blk.frozen h 2
  have f3 := Blk.frozen h 3
  go_enter Try.func49, Try.ntmps49
  go_wp2
  go_ret
  exact ⟨rfl, h.fail x y, ((Only.refl g w).setCell (.inl rfl) _).setCell (.inl rfl) _⟩

/-- Does this byte stand there? -/
def standsB (s : ByteArray) (at_ : Nat) (b : UInt8) : Bool := if h : at_ < s.size then s[at_] == b else false
theorem stands_at {s : ByteArray} {at_ : Nat} {b : UInt8} (h : standsB s at_ b = true) : ∃ hl : at_ < s.size, s[at_] = b := by
  unfold standsB at h
  split at h
  · rename_i hl
    exact ⟨hl, by simpa using h⟩
  · cases h
set_option maxHeartbeats 1000000 in
theorem next_yes (g at_ : Nat) (s : ByteArray) (e a : Int) (b : UInt8) (w : World) (h : PR w g s at_ e a) (hs : s.size ≤ 140737488355328) (hb : standsB s at_ b = true) :
    Calls Try.prog 51 #[.pointer (some ⟨g, 0, none⟩), .int .u8 (b.toNat : Int)] w fun en w' => en = .returned (.bool true) ∧ PR w' g s (at_ + 1) e a ∧ Only g w w' := by
  have c0 := h.c0
  have c1 := h.c1
  have f1 := Blk.frozen h 1
  obtain ⟨hlt, hb⟩ := stands_at hb
  have hq : (at_ : Int) < (s.size : Int) := by omega
  have hv : ((s[at_].toNat : Int) == (b.toNat : Int)) = true := by rw [hb]; simp
  clear hb
  go_enter Try.func51, Try.ntmps51
  go_wp2
  go_quiet (fail)
  go_wp2
  go_ret
  exact ⟨rfl, (h.drewN _).goto_ (at_ + 1), ((Only.refl g w).drewN _).setCell (.inl rfl) _⟩
set_option maxHeartbeats 1000000 in
theorem next_no (g at_ : Nat) (s : ByteArray) (e a : Int) (b : UInt8) (w : World) (h : PR w g s at_ e a) (_hs : s.size ≤ 140737488355328) (hb : standsB s at_ b = false) :
    Calls Try.prog 51 #[.pointer (some ⟨g, 0, none⟩), .int .u8 (b.toNat : Int)] w fun en w' => en = .returned (.bool false) ∧ PR w' g s at_ e a ∧ Only g w w' := by
  have c0 := h.c0
  have c1 := h.c1
  unfold standsB at hb
  by_cases hlt : at_ < s.size
  · rw [dif_pos hlt] at hb
    have hq : (at_ : Int) < (s.size : Int) := by omega
    have hv : ((s[at_].toNat : Int) == (b.toNat : Int)) = false := by rw [← beq_dec]; exact hb
    clear hb
    go_enter Try.func51, Try.ntmps51
    go_wp2
    go_quiet (fail)
    go_wp2
    go_ret
    exact ⟨rfl, h.drewN _, (Only.refl g w).drewN _⟩
  · have hq : decide ((at_ : Int) < (s.size : Int)) = false := by simp; omega
    clear hb
    go_enter Try.func51, Try.ntmps51
    go_wp2
    go_quiet (fail)
    go_wp2
    go_ret
    exact ⟨rfl, h.drewN _, (Only.refl g w).drewN _⟩

/-- The end of the bytes of a name. -/
def nameEndF : Nat → ByteArray → Nat → Nat
  | 0, _, p => p
  | k + 1, s, p => if h : p < s.size then (if nameB s[p] = true then nameEndF k s (p + 1) else p) else p
def nameEnd (s : ByteArray) (p : Nat) : Nat := nameEndF (s.size - p) s p
theorem nameEnd_step {s : ByteArray} {p : Nat} (h : p < s.size) : nameEnd s p = if nameB s[p] = true then nameEnd s (p + 1) else p := by
  unfold nameEnd
  rw [show s.size - p = (s.size - (p + 1)) + 1 by omega]
  simp only [nameEndF]
  rw [dif_pos h]
theorem nameEnd_end {s : ByteArray} {p : Nat} (h : ¬ p < s.size) : nameEnd s p = p := by
  unfold nameEnd
  rw [show s.size - p = 0 by omega]
  rfl
theorem nameEnd_ge (s : ByteArray) : ∀ k p, p ≤ nameEndF k s p ∧ (p ≤ s.size → nameEndF k s p ≤ s.size) := by
  intro k
  induction k with
  | zero => intro p; exact ⟨Nat.le_refl _, fun h => h⟩
  | succ k ih =>
    intro p
    simp only [nameEndF]
    split
    · split
      · have := ih (p + 1)
        exact ⟨by omega, fun _ => this.2 (by omega)⟩
      · exact ⟨Nat.le_refl _, fun h => h⟩
    · exact ⟨Nat.le_refl _, fun h => h⟩
/-- What name leaves: an error, or the name. -/
def nameErr (s : ByteArray) (at_ : Nat) : Option (Int × Int) :=
  if h : at_ < s.size then (if startB s[at_] = true then (if nameEnd s at_ - at_ > 64 then some (3, (at_ : Int)) else none) else some (160, (at_ : Int))) else some (160, (at_ : Int))
def NameBad (g at_ : Nat) (s : ByteArray) (w : World) (e : Ending) (w' : World) : Prop := ∃ x y p, nameErr s at_ = some (x, y) ∧ e = .returned (.tuple #[.string ByteArray.empty, .bool false]) ∧ PR w' g s p x y ∧ Only g w w'
def NameGood (g at_ : Nat) (s : ByteArray) (x y : Int) (w : World) (e : Ending) (w' : World) : Prop := e = .returned (.tuple #[.string (s.extract at_ (nameEnd s at_)), .bool true]) ∧ PR w' g s (nameEnd s at_) x y ∧ Only g w w'
set_option maxHeartbeats 2000000 in
theorem name_short (g at_ : Nat) (s : ByteArray) (e a : Int) (w : World) (h : PR w g s at_ e a) (hle : at_ ≤ s.size) (hlt : ¬ at_ < s.size) :
    Calls Try.prog 69 #[.pointer (some ⟨g, 0, none⟩)] w (NameBad g at_ s w) := by
  have c0 := h.c0
  have c1 := h.c1
  obtain rfl : at_ = s.size := by omega
  have hE := Lib.hid (show nameErr s s.size = some (160, (s.size : Int)) by unfold nameErr; rw [dif_neg (by omega)])
  have HF := Lib.hid (fun k => fail_any g s.size s e a 160 s.size _ (h.drewN k))
  clear hle hlt
  go_enter Try.func69, Try.ntmps69
  go_wp2
  go_quiet (fail)
  go_wp2_with (go_at_call 49; refine (HF.out _).mono ?_; rintro en w1 ⟨rfl, hR, hO⟩)
  go_ret2
  exact ⟨160, s.size, s.size, hE.out, rfl, hR, ((Only.refl g w).drewN _).trans hO⟩
set_option maxHeartbeats 2000000 in
theorem name_nostart (g at_ : Nat) (s : ByteArray) (e a : Int) (w : World) (h : PR w g s at_ e a) (hlt : at_ < s.size) (hst : startB s[at_] = false) :
    Calls Try.prog 69 #[.pointer (some ⟨g, 0, none⟩)] w (NameBad g at_ s w) := by
  have c0 := h.c0
  have c1 := h.c1
  have hE := Lib.hid (show nameErr s at_ = some (160, (at_ : Int)) by unfold nameErr; rw [dif_pos hlt, hst]; rfl)
  have HF := Lib.hid (fun k => fail_any g at_ s e a 160 at_ _ (h.drewN k))
  have HS := Lib.hid (fun W => start_any s[at_] W)
  rw [hst] at HS
  have hne : ((at_ : Int) == (s.size : Int)) = false := by rw [beq_eq_false_iff_ne]; omega
  have hq : (at_ : Int) < (s.size : Int) := by omega
  clear hst
  go_enter Try.func69, Try.ntmps69
  go_wp2
  go_quiet ((go_at_call 93; exact quiet_left (HS.out _)))
  go_wp2_with (go_at_call 49; refine (HF.out _).mono ?_; rintro en w1 ⟨rfl, hR, hO⟩)
  go_ret2
  exact ⟨160, at_, at_, hE.out, rfl, hR, ((Only.refl g w).drewN _).trans hO⟩

/-- Where the reader at block g is. -/
def atOf (g : Nat) (w : World) : Nat := match w.cell? ⟨g, 1, none⟩ with | some (.int _ n) => n.toNat | _ => 0
theorem atOf_pr {w : World} {g : Nat} {s : ByteArray} {at_ : Nat} {e a : Int} (h : PR w g s at_ e a) : atOf g w = at_ := by
  unfold atOf
  rw [h.c1]
  simp
theorem name_measure {w : World} {g : Nat} {s : ByteArray} {p : Nat} {e a : Int} (h : PR w g s p e a) (hp : p < s.size) (k : Nat) : s.size - atOf g ((w.drewN k).setCell ⟨g, 1, none⟩ (.int .i64 ((p : Int) + 1))) < s.size - atOf g w := by
  have e1 := atOf_pr ((h.drewN k).goto_ (p + 1))
  have e2 := atOf_pr h
  rw [show ((p + 1 : Nat) : Int) = (p : Int) + 1 by omega] at e1
  rw [e1, e2]
  omega
/-- Where name's loop is. -/
def NameAt (g at_ : Nat) (s : ByteArray) (e a : Int) (w : World) (p : Nat) (wr : World) : Prop := PR wr g s p e a ∧ at_ ≤ p ∧ p ≤ s.size ∧ nameEnd s at_ = nameEnd s p ∧ Only g w wr
def NamePost (g at_ : Nat) (s : ByteArray) (e a : Int) (w : World) (en : Ending) (w' : World) : Prop := NameBad g at_ s w en w' ∨ (nameErr s at_ = none ∧ NameGood g at_ s e a w en w')
set_option maxHeartbeats 4000000 in
theorem name_go (g at_ : Nat) (s : ByteArray) (e a : Int) (w : World) (h : PR w g s at_ e a) (hlt : at_ < s.size) (hst : startB s[at_] = true) (hs : s.size ≤ 140737488355328) :
    Calls Try.prog 69 #[.pointer (some ⟨g, 0, none⟩)] w (NamePost g at_ s e a w) := by
  have c0 := h.c0
  have c1 := h.c1
  have HS := Lib.hid (fun W => start_any s[at_] W)
  rw [hst] at HS
  have hE := Lib.hid (show nameErr s at_ = if nameEnd s at_ - at_ > 64 then some (3, (at_ : Int)) else none by unfold nameErr; rw [dif_pos hlt, hst]; rfl)
  have hne : ((at_ : Int) == (s.size : Int)) = false := by rw [beq_eq_false_iff_ne]; omega
  have hq : (at_ : Int) < (s.size : Int) := by omega
  clear hst
  go_enter Try.func69, Try.ntmps69
  go_wp2
  go_quiet ((go_at_call 93; exact quiet_left (HS.out _)))
  go_wp2
  go_loopw [38] (fun _ wr => ∃ p, NameAt g at_ s e a w p wr) (fun _ wr => s.size - atOf g wr)
  case atStart => exact ⟨at_, h.drewN _, Nat.le_refl _, by omega, rfl, (Only.refl g w).drewN _⟩
  case round =>
    clear c0 c1 hne
    obtain ⟨p, hR, hp1, hp2, hpe, hO⟩ := hrel
    have c0 := hR.c0
    have c1 := hR.c1
    have f1 := Blk.frozen hR 1
    have HPE := Lib.hid hpe
    clear hpe
    by_cases hp : p < s.size
    · have hq2 : (p : Int) < (s.size : Int) := by omega
      have HN := Lib.hid (fun W => nbyte_any s[p] W)
      have HE := Lib.hid (nameEnd_step hp)
      cases hb : nameB s[p]
      · rw [hb] at HN HE
        have HE2 := Lib.hid (show nameEnd s p = p from HE.out)
        clear HE hb
        have HE := HE2
        clear HE2
        by_cases hl : p - at_ > 64
        · have hl1 : (64 : Int) < (p : Int) - (at_ : Int) := by omega
          have HF := Lib.hid (fun k => fail_any g p s e a 3 at_ _ (hR.drewN k))
          have HX := Lib.hid (show nameErr s at_ = some (3, (at_ : Int)) by rw [hE.out, HPE.out, HE.out, if_pos hl])
          clear hl
          go_wp2
          go_quiet (((go_at_call 94; exact quiet_left (HN.out _))))
          go_wp2_with (go_at_call 49; refine (HF.out _).mono ?_; rintro en w1 ⟨rfl, hR1, hO1⟩)
          go_ret2
          exact .inl ⟨3, at_, p, HX.out, rfl, hR1, (hO.drewN _).trans hO1⟩
        · have hl1 : ¬ (64 : Int) < (p : Int) - (at_ : Int) := by omega
          have HX := Lib.hid (show nameErr s at_ = none by rw [hE.out, HPE.out, HE.out, if_neg hl])
          have HY := Lib.hid (show nameEnd s at_ = p by rw [HPE.out, HE.out])
          have hp3 : (at_ : Int) ≤ (p : Int) := by omega
          have hp4 : (p : Int) ≤ (s.size : Int) := by omega
          clear hl
          go_wp2
          go_quiet (((go_at_call 94; exact quiet_left (HN.out _))))
          go_wp2
          go_quiet (fail)
          go_wp2
          go_ret2
          refine .inr ⟨HX.out, ?_⟩
          unfold NameGood
          rw [HY.out]
          exact ⟨rfl, (hR.drewN _).drewN _, (hO.drewN _).drewN _⟩
      · rw [hb] at HN HE
        have HE2 := Lib.hid (show nameEnd s p = nameEnd s (p + 1) from HE.out)
        clear HE hb
        go_wp2
        go_quiet ((go_at_call 94; exact quiet_left (HN.out _)))
        go_wp2
        go_roundw
        case rel => exact ⟨p + 1, (hR.drewN _).goto_ (p + 1), by omega, by omega, by rw [HPE.out, HE2.out], (hO.drewN _).setCell (.inl rfl) _⟩
        case measure => exact name_measure hR hp _
    · have hq2 : decide ((p : Int) < (s.size : Int)) = false := by simp; omega
      have HE := Lib.hid (nameEnd_end hp)
      by_cases hl : p - at_ > 64
      · have hl1 : (64 : Int) < (p : Int) - (at_ : Int) := by omega
        have HF := Lib.hid (fun k => fail_any g p s e a 3 at_ _ (hR.drewN k))
        have HX := Lib.hid (show nameErr s at_ = some (3, (at_ : Int)) by rw [hE.out, HPE.out, HE.out, if_pos hl])
        clear hl
        go_wp2
        go_quiet (fail)
        go_wp2_with (go_at_call 49; refine (HF.out _).mono ?_; rintro en w1 ⟨rfl, hR1, hO1⟩)
        go_ret2
        exact .inl ⟨3, at_, p, HX.out, rfl, hR1, (hO.drewN _).trans hO1⟩
      · have hl1 : ¬ (64 : Int) < (p : Int) - (at_ : Int) := by omega
        have HX := Lib.hid (show nameErr s at_ = none by rw [hE.out, HPE.out, HE.out, if_neg hl])
        have HY := Lib.hid (show nameEnd s at_ = p by rw [HPE.out, HE.out])
        have hp3 : (at_ : Int) ≤ (p : Int) := by omega
        have hp4 : (p : Int) ≤ (s.size : Int) := by omega
        clear hl
        go_wp2
        go_quiet (fail)
        go_wp2
        go_quiet (fail)
        go_wp2
        go_ret2
        refine .inr ⟨HX.out, ?_⟩
        unfold NameGood
        rw [HY.out]
        exact ⟨rfl, (hR.drewN _).drewN _, (hO.drewN _).drewN _⟩
end Go.Proofs.Ytjebaibcfmjinaa
