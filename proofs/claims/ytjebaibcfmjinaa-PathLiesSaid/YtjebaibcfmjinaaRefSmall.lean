/-
  The walks of the document's Broken, Letter, Digit, Start, Byte, control, and of its scan's wrong, is and name. Condition: the string is within the reach.
-/
import Derived.Test.YtjebaibcfmjinaaRefForm
import Derived.Test.YtjebaibcfmjinaaPathStepLaw
namespace Go.Proofs.Ytjebaibcfmjinaa
open Go.RowKit

def brokenI (s : ByteArray) : Int := match broken s with | some p => (p : Int) | none => -1
set_option maxHeartbeats 4000000 in
theorem broken_any (s : ByteArray) (w : World) (hs : s.size ≤ 140737488355328) :
    Calls Try.prog 34 #[.string s] w fun en w' => en = .returned (.int .i64 (brokenI s)) ∧ w' = w := by
  go_enter Try.func34, Try.ntmps34
  go_wp2
  go_loopw [3, 4, 5] (fun iv _ _ wr => wr = w ∧ ∃ p : Nat, iv = .int .i64 (p : Int) ∧ p ≤ s.size ∧ broken s = brokenAt s p) (fun iv _ _ _ => s.size - (Lib.intOf iv).toNat)
  case atStart => exact ⟨rfl, 0, rfl, Nat.zero_le _, broken_at s⟩
  case round =>
    obtain ⟨rfl, p, rfl, hp, hB⟩ := hrel
    have HB := Lib.hid hB
    clear hB
    by_cases hlt : p < s.size
    · have hq : (p : Int) < (s.size : Int) := by omega
      have HF := Lib.hid (form_any s p wr hlt hs)
      have HS := Lib.hid (brokenAt_step hlt)
      have HD := Lib.hid (And.intro (decode_pos s p) (decode_in hlt))
      by_cases hd : Utf8.decode s p = (65533, 1)
      · have HX := Lib.hid (show brokenI s = (p : Int) by unfold brokenI; rw [HB.out, HS.out, if_pos hd])
        have HR := Lib.hid (show formR s p = -1 by unfold formR; rw [if_pos hd])
        clear hd
        go_wp2_with (go_at_call 57; refine HF.out.mono ?_; rintro en w1 ⟨r, n, rfl, ⟨hr, hn⟩, rfl⟩; rw [HR.out] at hr; subst hr)
        go_ret
        exact ⟨by rw [HX.out]; rfl, rfl⟩
      · have HR := Lib.hid (show formR s p = ((Utf8.decode s p).1 : Int) by unfold formR; rw [if_neg hd])
        have HX := Lib.hid (show broken s = brokenAt s (p + (Utf8.decode s p).2) by rw [HB.out, HS.out, if_neg hd])
        clear hd HS
        generalize (Utf8.decode s p).1 = d1 at *
        generalize hd2 : (Utf8.decode s p).2 = d2 at *
        have HD2 := Lib.hid hd2
        clear hd2
        have HI := Lib.hid (show (p : Int) + (d2 : Int) ≤ s.size by have := HD.out; omega)
        go_wp2_with (go_at_call 57; refine HF.out.mono ?_; rintro en w1 ⟨r, n, rfl, ⟨hr, hn⟩, rfl⟩; rw [HR.out] at hr; rw [HD2.out] at hn; subst hr hn; have hI := HI.out)
        go_roundw
        case rel => exact ⟨trivial, p + d2, by simp, by have := HD.out; omega, HX.out⟩
        case measure => have := HD.out; simp [Lib.intOf]; omega
    · have hq : ¬ (p : Int) < (s.size : Int) := by omega
      have HX := Lib.hid (show brokenI s = -1 by unfold brokenI; rw [HB.out, brokenAt_end hlt])
      go_wp2
      go_ret
      exact ⟨by rw [HX.out]; rfl, rfl⟩
theorem letter_dec (b : UInt8) : letterB b = ((decide (97 ≤ (b.toNat : Int)) && decide ((b.toNat : Int) ≤ 122)) || (decide (65 ≤ (b.toNat : Int)) && decide ((b.toNat : Int) ≤ 90))) := by
  have h : ∀ n : Fin 256, letterB (UInt8.ofNat n.val) = ((decide (97 ≤ ((UInt8.ofNat n.val).toNat : Int)) && decide (((UInt8.ofNat n.val).toNat : Int) ≤ 122)) || (decide (65 ≤ ((UInt8.ofNat n.val).toNat : Int)) && decide (((UInt8.ofNat n.val).toNat : Int) ≤ 90))) := by decide +kernel
  have := h ⟨b.toNat, b.toNat_lt⟩
  simpa using this
set_option maxHeartbeats 400000 in
theorem rletter_any (b : UInt8) (w : World) : Calls Try.prog 100 #[.int .u8 (b.toNat : Int)] w fun e w' => e = .returned (.bool (letterB b)) ∧ w = w' := by
  have HL := Lib.hid (letter_dec b)
  generalize b.toNat = x at *
  generalize letterB b = y at *
  rcases (by omega : ((x : Int) < 65) ∨ (65 ≤ (x : Int) ∧ (x : Int) ≤ 90) ∨ (90 < (x : Int) ∧ (x : Int) < 97) ∨ (97 ≤ (x : Int) ∧ (x : Int) ≤ 122 ∧ 90 < (x : Int)) ∨ (90 < (x : Int) ∧ 122 < (x : Int))) with h | h | h | h | h
  all_goals
    go_enter Try.func100, Try.ntmps100
    go_wp2
    go_ret
    refine ⟨?_, rfl⟩
    rw [HL.out]
    simp
    try (first | omega | (rw [Bool.eq_iff_iff]; simp; omega))
set_option maxHeartbeats 400000 in
theorem rdigit_any (b : UInt8) (w : World) : Calls Try.prog 101 #[.int .u8 (b.toNat : Int)] w fun e w' => e = .returned (.bool (digitB b)) ∧ w = w' := by
  have HL := Lib.hid (digit_dec b)
  generalize b.toNat = x at *
  generalize digitB b = y at *
  rcases (by omega : ((x : Int) < 48) ∨ (48 ≤ (x : Int) ∧ (x : Int) ≤ 57) ∨ 57 < (x : Int)) with h | h | h
  all_goals
    go_enter Try.func101, Try.ntmps101
    go_wp2
    go_ret
    refine ⟨?_, rfl⟩
    rw [HL.out]
    simp
    try (first | omega | (rw [Bool.eq_iff_iff]; simp; omega))
set_option maxHeartbeats 400000 in
theorem rstart_any (b : UInt8) (w : World) : Calls Try.prog 80 #[.int .u8 (b.toNat : Int)] w fun e w' => e = .returned (.bool (startB b)) ∧ w = w' := by
  have hs : startB b = (letterB b || ((b.toNat : Int) == 95)) := by unfold startB; rw [beq_dec]; rfl
  have HS := Lib.hid hs
  clear hs
  generalize hl : letterB b = l at *
  have HC := Lib.hid (rletter_any b w)
  rw [hl] at HC
  clear hl
  generalize startB b = y at *
  generalize b.toNat = x at *
  cases l
  · go_enter Try.func80, Try.ntmps80
    go_wp2_with (go_at_call 100; refine HC.out.mono ?_; rintro e w' ⟨rfl, rfl⟩)
    go_ret
    exact ⟨by rw [HS.out]; simp, rfl⟩
  · go_enter Try.func80, Try.ntmps80
    go_wp2_with (go_at_call 100; refine HC.out.mono ?_; rintro e w' ⟨rfl, rfl⟩)
    go_ret
    exact ⟨by rw [HS.out]; simp, rfl⟩
set_option maxHeartbeats 400000 in
theorem rbyte_any (b : UInt8) (w : World) : Calls Try.prog 81 #[.int .u8 (b.toNat : Int)] w fun e w' => e = .returned (.bool (nameB b)) ∧ w = w' := by
  have hs : nameB b = (startB b || digitB b || ((b.toNat : Int) == 45) || ((b.toNat : Int) == 46)) := by unfold nameB; rw [beq_dec, beq_dec]; rfl
  have HS := Lib.hid hs
  clear hs
  generalize hl : startB b = l at *
  have HC := Lib.hid (rstart_any b w)
  rw [hl] at HC
  clear hl
  generalize hd : digitB b = d at *
  have HD := Lib.hid (rdigit_any b w)
  rw [hd] at HD
  clear hd
  generalize nameB b = y at *
  generalize b.toNat = x at *
  have h45 : ((x : Int) == 45) = true ∨ ((x : Int) == 45) = false := by cases ((x : Int) == 45) <;> simp
  have h46 : ((x : Int) == 46) = true ∨ ((x : Int) == 46) = false := by cases ((x : Int) == 46) <;> simp
  cases l
  · cases d
    · rcases h45 with h45 | h45
      · go_enter Try.func81, Try.ntmps81
        go_wp2_with (first | (go_at_call 80; refine HC.out.mono ?_; rintro e w' ⟨rfl, rfl⟩) | (go_at_call 101; refine HD.out.mono ?_; rintro e w' ⟨rfl, rfl⟩))
        go_ret
        exact ⟨by rw [HS.out, h45]; simp, rfl⟩
      · rcases h46 with h46 | h46
        · go_enter Try.func81, Try.ntmps81
          go_wp2_with (first | (go_at_call 80; refine HC.out.mono ?_; rintro e w' ⟨rfl, rfl⟩) | (go_at_call 101; refine HD.out.mono ?_; rintro e w' ⟨rfl, rfl⟩))
          go_ret
          exact ⟨by rw [HS.out, h46]; simp, rfl⟩
        · go_enter Try.func81, Try.ntmps81
          go_wp2_with (first | (go_at_call 80; refine HC.out.mono ?_; rintro e w' ⟨rfl, rfl⟩) | (go_at_call 101; refine HD.out.mono ?_; rintro e w' ⟨rfl, rfl⟩))
          go_ret
          exact ⟨by rw [HS.out, h45, h46]; rfl, rfl⟩
    · go_enter Try.func81, Try.ntmps81
      go_wp2_with (first | (go_at_call 80; refine HC.out.mono ?_; rintro e w' ⟨rfl, rfl⟩) | (go_at_call 101; refine HD.out.mono ?_; rintro e w' ⟨rfl, rfl⟩))
      go_ret
      exact ⟨by rw [HS.out]; simp, rfl⟩
  · go_enter Try.func81, Try.ntmps81
    go_wp2_with (first | (go_at_call 80; refine HC.out.mono ?_; rintro e w' ⟨rfl, rfl⟩) | (go_at_call 101; refine HD.out.mono ?_; rintro e w' ⟨rfl, rfl⟩))
    go_ret
    exact ⟨by rw [HS.out]; simp, rfl⟩
end Go.Proofs.Ytjebaibcfmjinaa
