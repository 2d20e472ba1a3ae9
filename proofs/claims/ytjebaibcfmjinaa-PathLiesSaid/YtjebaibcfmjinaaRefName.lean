/-
  The walks of the document's scan: wrong, is, name, and of control. Condition: the string is within the reach.
-/
import Derived.Test.YtjebaibcfmjinaaRefSmall
namespace Go.Proofs.Ytjebaibcfmjinaa
open Go.RowKit

/-- The scan at block g. -/
def SC (w : World) (g : Nat) (s : ByteArray) (at_ : Nat) (e a : Int) : Prop := Blk w g 60 #[.string s, .int .i64 (at_ : Int), .int .i64 e, .int .i64 a]
theorem SC.c0 {w : World} {g : Nat} {s : ByteArray} {at_ : Nat} {e a : Int} (h : SC w g s at_ e a) : w.cell? ⟨g, 0, none⟩ = some (.string s) := Blk.cell h 0
theorem SC.c1 {w : World} {g : Nat} {s : ByteArray} {at_ : Nat} {e a : Int} (h : SC w g s at_ e a) : w.cell? ⟨g, 1, none⟩ = some (.int .i64 (at_ : Int)) := Blk.cell h 1
theorem SC.c2 {w : World} {g : Nat} {s : ByteArray} {at_ : Nat} {e a : Int} (h : SC w g s at_ e a) : w.cell? ⟨g, 2, none⟩ = some (.int .i64 e) := Blk.cell h 2
theorem SC.c3 {w : World} {g : Nat} {s : ByteArray} {at_ : Nat} {e a : Int} (h : SC w g s at_ e a) : w.cell? ⟨g, 3, none⟩ = some (.int .i64 a) := Blk.cell h 3
theorem SC.goto_ {w : World} {g : Nat} {s : ByteArray} {at_ : Nat} {e a : Int} (h : SC w g s at_ e a) (k : Nat) : SC (w.setCell ⟨g, 1, none⟩ (.int .i64 (k : Int))) g s k e a := Blk.set_ h 1 _
theorem SC.fail {w : World} {g : Nat} {s : ByteArray} {at_ : Nat} {e a : Int} (h : SC w g s at_ e a) (x y : Int) : SC ((w.setCell ⟨g, 2, none⟩ (.int .i64 x)).setCell ⟨g, 3, none⟩ (.int .i64 y)) g s at_ x y := Blk.set_ (Blk.set_ h 2 _) 3 _
theorem SC.drewN {w : World} {g : Nat} {s : ByteArray} {at_ : Nat} {e a : Int} (h : SC w g s at_ e a) (k : Nat) : SC (w.drewN k) g s at_ e a := Blk.drewN h k

set_option maxHeartbeats 400000 in
theorem wrong_set (g at_ : Nat) (s : ByteArray) (a x y : Int) (w : World) (h : SC w g s at_ 0 a) :
    Calls Try.prog 35 #[.pointer (some ⟨g, 0, none⟩), .int .i64 x, .int .i64 y] w fun en w' => en = .returned (.tuple #[]) ∧ SC w' g s at_ x y ∧ Only g w w' := by
  have c2 := h.c2
  have c3 := h.c3
  have f2 := Blk.frozen h 2
  have f3 := Blk.frozen h 3
  go_enter Try.func35, Try.ntmps35
  go_wp2
  refine bodyPost_end (results_none rfl _ _ _) rfl ?_
  exact ⟨rfl, h.fail x y, ((Only.refl g w).setCell (.inl rfl) _).setCell (.inl rfl) _⟩
set_option maxHeartbeats 400000 in
theorem wrong_keep (g at_ : Nat) (s : ByteArray) (e a x y : Int) (w : World) (h : SC w g s at_ e a) (he : e ≠ 0) :
    Calls Try.prog 35 #[.pointer (some ⟨g, 0, none⟩), .int .i64 x, .int .i64 y] w fun en w' => en = .returned (.tuple #[]) ∧ w' = w := by
  have c2 := h.c2
  have h0 : (e == 0) = false := by rw [beq_eq_false_iff_ne]; exact he
  clear he
  go_enter Try.func35, Try.ntmps35
  go_wp2
  refine bodyPost_end (results_none rfl _ _ _) rfl ?_
  exact ⟨rfl, rfl⟩
set_option maxHeartbeats 1000000 in
theorem is_any (g at_ : Nat) (s : ByteArray) (e a : Int) (b : UInt8) (w : World) (h : SC w g s at_ e a) (_hs : s.size ≤ 140737488355328) (B : Bool) (hb : standsB s at_ b = B) :
    Calls Try.prog 37 #[.pointer (some ⟨g, 0, none⟩), .int .u8 (b.toNat : Int)] w fun en w' => en = .returned (.bool B) ∧ SC w' g s at_ e a ∧ Only g w w' := by
  have c0 := h.c0
  have c1 := h.c1
  unfold standsB at hb
  by_cases hlt : at_ < s.size
  · rw [dif_pos hlt] at hb
    have hq : (at_ : Int) < (s.size : Int) := by omega
    have hv : ((s[at_].toNat : Int) == (b.toNat : Int)) = B := by rw [← beq_dec]; exact hb
    clear hb
    go_enter Try.func37, Try.ntmps37
    go_wp2
    go_quiet (fail)
    go_wp2
    go_ret
    exact ⟨rfl, h.drewN _, (Only.refl g w).drewN _⟩
  · have hq : decide ((at_ : Int) < (s.size : Int)) = false := by simp; omega
    rw [dif_neg hlt] at hb
    subst hb
    go_enter Try.func37, Try.ntmps37
    go_wp2
    go_quiet (fail)
    go_wp2
    go_ret
    exact ⟨rfl, h.drewN _, (Only.refl g w).drewN _⟩
set_option maxHeartbeats 400000 in
theorem rcontrol_any (r : Int) (w : World) : Calls Try.prog 68 #[.int .i32 r] w fun e w' => e = .returned (.bool (controlR r)) ∧ w = w' := by
  have h127 : (r == 127) = true ∨ (r == 127) = false := by cases (r == 127) <;> simp
  have HC := Lib.hid (show controlR r = (decide (r < 32) || (r == 127)) from rfl)
  generalize controlR r = y at *
  rcases (by omega : r < 32 ∨ 32 ≤ r) with h | h
  · go_enter Try.func68, Try.ntmps68
    go_wp2
    go_ret
    exact ⟨by rw [HC.out]; simp [h], rfl⟩
  · rcases h127 with h127 | h127
    all_goals
      go_enter Try.func68, Try.ntmps68
      go_wp2
      go_ret
      refine ⟨?_, rfl⟩
      rw [HC.out, h127]
      simp
      try omega
def RNameBad (g at_ : Nat) (s : ByteArray) (w : World) (e : Ending) (w' : World) : Prop := ∃ x y p nm, nameErr s at_ = some (x, y) ∧ e = .returned (.string nm) ∧ SC w' g s p x y ∧ Only g w w'
def RNameGood (g at_ : Nat) (s : ByteArray) (x y : Int) (w : World) (e : Ending) (w' : World) : Prop := e = .returned (.string (s.extract at_ (nameEnd s at_))) ∧ SC w' g s (nameEnd s at_) x y ∧ Only g w w'
set_option maxHeartbeats 2000000 in
theorem rname_short (g at_ : Nat) (s : ByteArray) (a : Int) (w : World) (h : SC w g s at_ 0 a) (hle : at_ ≤ s.size) (hlt : ¬ at_ < s.size) :
    Calls Try.prog 58 #[.pointer (some ⟨g, 0, none⟩)] w (RNameBad g at_ s w) := by
  have c0 := h.c0
  have c1 := h.c1
  obtain rfl : at_ = s.size := by omega
  have hE := Lib.hid (show nameErr s s.size = some (160, (s.size : Int)) by unfold nameErr; rw [dif_neg (by omega)])
  have HF := Lib.hid (fun k => wrong_set g s.size s a 160 s.size _ (h.drewN k))
  clear hle hlt
  go_enter Try.func58, Try.ntmps58
  go_wp2
  go_quiet (fail)
  go_wp2_with (go_at_call 35; refine (HF.out _).mono ?_; rintro en w1 ⟨rfl, hR, hO⟩)
  go_ret
  exact ⟨160, s.size, s.size, _, hE.out, rfl, hR, ((Only.refl g w).drewN _).trans hO⟩
set_option maxHeartbeats 2000000 in
theorem rname_nostart (g at_ : Nat) (s : ByteArray) (a : Int) (w : World) (h : SC w g s at_ 0 a) (hlt : at_ < s.size) (hst : startB s[at_] = false) :
    Calls Try.prog 58 #[.pointer (some ⟨g, 0, none⟩)] w (RNameBad g at_ s w) := by
  have c0 := h.c0
  have c1 := h.c1
  have hE := Lib.hid (show nameErr s at_ = some (160, (at_ : Int)) by unfold nameErr; rw [dif_pos hlt, hst]; rfl)
  have HF := Lib.hid (fun k => wrong_set g at_ s a 160 at_ _ (h.drewN k))
  have HS := Lib.hid (fun W => rstart_any s[at_] W)
  rw [hst] at HS
  have hne : ((at_ : Int) == (s.size : Int)) = false := by rw [beq_eq_false_iff_ne]; omega
  have hq : (at_ : Int) < (s.size : Int) := by omega
  clear hst
  go_enter Try.func58, Try.ntmps58
  go_wp2
  go_quiet ((go_at_call 80; exact quiet_left (HS.out _)))
  go_wp2_with (go_at_call 35; refine (HF.out _).mono ?_; rintro en w1 ⟨rfl, hR, hO⟩)
  go_ret
  exact ⟨160, at_, at_, _, hE.out, rfl, hR, ((Only.refl g w).drewN _).trans hO⟩

theorem satOf {w : World} {g : Nat} {s : ByteArray} {at_ : Nat} {e a : Int} (h : SC w g s at_ e a) : atOf g w = at_ := by
  unfold atOf
  rw [h.c1]
  simp
theorem rname_measure {w : World} {g : Nat} {s : ByteArray} {p : Nat} {e a : Int} (h : SC w g s p e a) (hp : p < s.size) (k : Nat) : s.size - atOf g ((w.drewN k).setCell ⟨g, 1, none⟩ (.int .i64 ((p : Int) + 1))) < s.size - atOf g w := by
  have e1 := satOf ((h.drewN k).goto_ (p + 1))
  have e2 := satOf h
  rw [show ((p + 1 : Nat) : Int) = (p : Int) + 1 by omega] at e1
  rw [e1, e2]
  omega
/-- Where name's loop is. -/
def RNameAt (g at_ : Nat) (s : ByteArray) (e a : Int) (w : World) (p : Nat) (wr : World) : Prop := SC wr g s p e a ∧ at_ ≤ p ∧ p ≤ s.size ∧ nameEnd s at_ = nameEnd s p ∧ Only g w wr
def RNamePost (g at_ : Nat) (s : ByteArray) (e a : Int) (w : World) (en : Ending) (w' : World) : Prop := RNameBad g at_ s w en w' ∨ (nameErr s at_ = none ∧ RNameGood g at_ s e a w en w')
set_option maxHeartbeats 4000000 in
theorem rname_go (g at_ : Nat) (s : ByteArray) (a : Int) (w : World) (h : SC w g s at_ 0 a) (hlt : at_ < s.size) (hst : startB s[at_] = true) (hs : s.size ≤ 140737488355328) :
    Calls Try.prog 58 #[.pointer (some ⟨g, 0, none⟩)] w (RNamePost g at_ s 0 a w) := by
  have c0 := h.c0
  have c1 := h.c1
  have HS := Lib.hid (fun W => rstart_any s[at_] W)
  rw [hst] at HS
  have hE := Lib.hid (show nameErr s at_ = if nameEnd s at_ - at_ > 64 then some (3, (at_ : Int)) else none by unfold nameErr; rw [dif_pos hlt, hst]; rfl)
  have hne : ((at_ : Int) == (s.size : Int)) = false := by rw [beq_eq_false_iff_ne]; omega
  have hq : (at_ : Int) < (s.size : Int) := by omega
  clear hst
  go_enter Try.func58, Try.ntmps58
  go_wp2
  go_quiet ((go_at_call 80; exact quiet_left (HS.out _)))
  go_wp2
  go_loopw [38] (fun _ wr => ∃ p, RNameAt g at_ s 0 a w p wr) (fun _ wr => s.size - atOf g wr)
  case atStart => exact ⟨at_, h.drewN _, Nat.le_refl _, by omega, rfl, (Only.refl g w).drewN _⟩
  case round =>
    clear c0 c1 hne
    obtain ⟨p, hR, hp1, hp2, hpe, hO⟩ := hrel
    have c0 := hR.c0
    have c1 := hR.c1
    have f1 := Blk.frozen hR 1
    have HPE := Lib.hid hpe
    clear hpe
    by_cases hp : p < s.size
    · have hq2 : (p : Int) < (s.size : Int) := by omega
      have HN := Lib.hid (fun W => rbyte_any s[p] W)
      have HE := Lib.hid (nameEnd_step hp)
      cases hb : nameB s[p]
      · rw [hb] at HN HE
        have HE2 := Lib.hid (show nameEnd s p = p from HE.out)
        clear HE hb
        have HE := HE2
        clear HE2
        by_cases hl : p - at_ > 64
        · have hl1 : (64 : Int) < (p : Int) - (at_ : Int) := by omega
          have HF := Lib.hid (fun k => wrong_set g p s a 3 at_ _ (hR.drewN k))
          have HX := Lib.hid (show nameErr s at_ = some (3, (at_ : Int)) by rw [hE.out, HPE.out, HE.out, if_pos hl])
          clear hl
          go_wp2
          go_quiet (((go_at_call 81; exact quiet_left (HN.out _))))
          have hp3 : (at_ : Int) ≤ (p : Int) := by omega
          have hp4 : (p : Int) ≤ (s.size : Int) := by omega
          go_wp2_with (go_at_call 35; go_loud (refine (HF.out _).mono ?_; rintro en w1 ⟨rfl, hR1, hO1⟩; have k0 := hR1.c0; have k1 := hR1.c1))
          go_quiet (fail)
          go_wp2
          go_ret
          exact .inl ⟨3, at_, p, _, HX.out, rfl, hR1.drewN _, ((hO.drewN _).trans hO1).drewN _⟩
        · have hl1 : ¬ (64 : Int) < (p : Int) - (at_ : Int) := by omega
          have HX := Lib.hid (show nameErr s at_ = none by rw [hE.out, HPE.out, HE.out, if_neg hl])
          have HY := Lib.hid (show nameEnd s at_ = p by rw [HPE.out, HE.out])
          have hp3 : (at_ : Int) ≤ (p : Int) := by omega
          have hp4 : (p : Int) ≤ (s.size : Int) := by omega
          clear hl
          go_wp2
          go_quiet (((go_at_call 81; exact quiet_left (HN.out _))))
          go_wp2
          go_quiet (fail)
          go_wp2
          go_ret
          refine .inr ⟨HX.out, ?_⟩
          unfold RNameGood
          rw [HY.out]
          exact ⟨rfl, (hR.drewN _).drewN _, (hO.drewN _).drewN _⟩
      · rw [hb] at HN HE
        have HE2 := Lib.hid (show nameEnd s p = nameEnd s (p + 1) from HE.out)
        clear HE hb
        go_wp2
        go_quiet ((go_at_call 81; exact quiet_left (HN.out _)))
        go_wp2
        go_roundw
        case rel => exact ⟨p + 1, (hR.drewN _).goto_ (p + 1), by omega, by omega, by rw [HPE.out, HE2.out], (hO.drewN _).setCell (.inl rfl) _⟩
        case measure => exact rname_measure hR hp _
    · have hq2 : decide ((p : Int) < (s.size : Int)) = false := by simp; omega
      have HE := Lib.hid (nameEnd_end hp)
      by_cases hl : p - at_ > 64
      · have hl1 : (64 : Int) < (p : Int) - (at_ : Int) := by omega
        have HF := Lib.hid (fun k => wrong_set g p s a 3 at_ _ (hR.drewN k))
        have HX := Lib.hid (show nameErr s at_ = some (3, (at_ : Int)) by rw [hE.out, HPE.out, HE.out, if_pos hl])
        clear hl
        go_wp2
        go_quiet (fail)
        have hp3 : (at_ : Int) ≤ (p : Int) := by omega
        have hp4 : (p : Int) ≤ (s.size : Int) := by omega
        go_wp2_with (go_at_call 35; go_loud (refine (HF.out _).mono ?_; rintro en w1 ⟨rfl, hR1, hO1⟩; have k0 := hR1.c0; have k1 := hR1.c1))
        go_quiet (fail)
        go_wp2
        go_ret
        exact .inl ⟨3, at_, p, _, HX.out, rfl, hR1.drewN _, ((hO.drewN _).trans hO1).drewN _⟩
      · have hl1 : ¬ (64 : Int) < (p : Int) - (at_ : Int) := by omega
        have HX := Lib.hid (show nameErr s at_ = none by rw [hE.out, HPE.out, HE.out, if_neg hl])
        have HY := Lib.hid (show nameEnd s at_ = p by rw [HPE.out, HE.out])
        have hp3 : (at_ : Int) ≤ (p : Int) := by omega
        have hp4 : (p : Int) ≤ (s.size : Int) := by omega
        clear hl
        go_wp2
        go_quiet (fail)
        go_wp2
        go_quiet (fail)
        go_wp2
        go_ret
        refine .inr ⟨HX.out, ?_⟩
        unfold RNameGood
        rw [HY.out]
        exact ⟨rfl, (hR.drewN _).drewN _, (hO.drewN _).drewN _⟩
theorem rname_any (g at_ : Nat) (s : ByteArray) (a : Int) (w : World) (h : SC w g s at_ 0 a) (hle : at_ ≤ s.size) (hs : s.size ≤ 140737488355328) :
    Calls Try.prog 58 #[.pointer (some ⟨g, 0, none⟩)] w (RNamePost g at_ s 0 a w) := by
  by_cases hlt : at_ < s.size
  · cases hst : startB s[at_]
    · exact (rname_nostart g at_ s a w h hlt hst).mono fun _ _ h => .inl h
    · exact rname_go g at_ s a w h hlt hst hs
  · exact (rname_short g at_ s a w h hle hlt).mono fun _ _ h => .inl h
end Go.Proofs.Ytjebaibcfmjinaa
