/-
  Bytes of names, and broken bytes: plain Lean; no program in sight, no condition.
-/
import GoSem.Core.Utf8
import Derived.Laws.RangeAny
import Derived.Test.YtjebaibcfmjinaaProg
import Derived.Test.YtjebaibcfmjinaaWords
import Derived.Outline
import Derived.Lib.Hide
import Derived.Laws.BitsAllLaws
namespace Go.Proofs.Ytjebaibcfmjinaa

def letterB (b : UInt8) : Bool := (97 ≤ b && b ≤ 122) || (65 ≤ b && b ≤ 90)
def digitB (b : UInt8) : Bool := 48 ≤ b && b ≤ 57
def startB (b : UInt8) : Bool := letterB b || b == 95
def nameB (b : UInt8) : Bool := startB b || digitB b || b == 45 || b == 46
theorem letter_or (b : UInt8) : letterB b = (decide (97 ≤ ((b ||| 32).toNat : Int)) && decide (((b ||| 32).toNat : Int) ≤ 122)) := by
  have h : ∀ n : Fin 256, letterB (UInt8.ofNat n.val) = (decide (97 ≤ (((UInt8.ofNat n.val) ||| 32).toNat : Int)) && decide ((((UInt8.ofNat n.val) ||| 32).toNat : Int) ≤ 122)) := by decide +kernel
  have := h ⟨b.toNat, b.toNat_lt⟩
  simpa using this
theorem digit_dec (b : UInt8) : digitB b = (decide (48 ≤ (b.toNat : Int)) && decide ((b.toNat : Int) ≤ 57)) := by
  have h : ∀ n : Fin 256, digitB (UInt8.ofNat n.val) = (decide (48 ≤ ((UInt8.ofNat n.val).toNat : Int)) && decide (((UInt8.ofNat n.val).toNat : Int) ≤ 57)) := by decide +kernel
  have := h ⟨b.toNat, b.toNat_lt⟩
  simpa using this
theorem beq_dec (b c : UInt8) : (b == c) = ((b.toNat : Int) == (c.toNat : Int)) := by
  by_cases h : b = c
  · subst h
    simp
  · have h2 : (b.toNat : Int) ≠ (c.toNat : Int) := fun e => h (UInt8.toNat_inj.1 (by omega))
    rw [beq_eq_false_iff_ne.2 h, beq_eq_false_iff_ne.2 h2]
end Go.Proofs.Ytjebaibcfmjinaa
/-
  The walks of utf's letter, digit, NameStart, NameByte. No condition.
-/
namespace Go.Proofs.Ytjebaibcfmjinaa
open Go.RowKit

set_option maxHeartbeats 400000 in
theorem letter_any (b : UInt8) (w : World) : Calls Try.prog 107 #[.int .u8 (b.toNat : Int)] w fun e w' => e = .returned (.bool (letterB b)) ∧ w = w' := by
  have hor : bits .or .u8 (b.toNat : Int) 32 = ((b ||| 32).toNat : Int) := by
    rw [show (32 : Int) = ((32 : Nat) : Int) from rfl, u8_or_nat _ _ b.toNat_lt (by omega), UInt8.toNat_or]
    rfl
  have HL := Lib.hid (letter_or b)
  generalize (b ||| 32).toNat = x at *
  generalize letterB b = y at *
  by_cases h1 : 97 ≤ (x : Int)
  · by_cases h2 : (x : Int) ≤ 122
    · go_enter Try.func107, Try.ntmps107
      go_wp2
      go_ret
      exact ⟨by rw [HL.out]; simp [h1, h2], rfl⟩
    · go_enter Try.func107, Try.ntmps107
      go_wp2
      go_ret
      exact ⟨by rw [HL.out]; simp [h1, h2], rfl⟩
  · go_enter Try.func107, Try.ntmps107
    go_wp2
    go_ret
    exact ⟨by rw [HL.out]; simp; omega, rfl⟩
set_option maxHeartbeats 400000 in
theorem digit_any (b : UInt8) (w : World) : Calls Try.prog 108 #[.int .u8 (b.toNat : Int)] w fun e w' => e = .returned (.bool (digitB b)) ∧ w = w' := by
  have HL := Lib.hid (digit_dec b)
  generalize b.toNat = x at *
  generalize digitB b = y at *
  by_cases h1 : 48 ≤ (x : Int)
  · by_cases h2 : (x : Int) ≤ 57
    · go_enter Try.func108, Try.ntmps108
      go_wp2
      go_ret
      exact ⟨by rw [HL.out]; simp [h1, h2], rfl⟩
    · go_enter Try.func108, Try.ntmps108
      go_wp2
      go_ret
      exact ⟨by rw [HL.out]; simp [h1, h2], rfl⟩
  · go_enter Try.func108, Try.ntmps108
    go_wp2
    go_ret
    exact ⟨by rw [HL.out]; simp; omega, rfl⟩
set_option maxHeartbeats 400000 in
theorem start_any (b : UInt8) (w : World) : Calls Try.prog 93 #[.int .u8 (b.toNat : Int)] w fun e w' => e = .returned (.bool (startB b)) ∧ w = w' := by
  have hs : startB b = (letterB b || ((b.toNat : Int) == 95)) := by unfold startB; rw [beq_dec]; rfl
  have HS := Lib.hid hs
  clear hs
  generalize hl : letterB b = l at *
  have HC := Lib.hid (letter_any b w)
  rw [hl] at HC
  clear hl
  generalize startB b = y at *
  generalize b.toNat = x at *
  cases l
  · go_enter Try.func93, Try.ntmps93
    go_wp2_with (go_at_call 107; refine HC.out.mono ?_; rintro e w' ⟨rfl, rfl⟩)
    go_ret
    exact ⟨by rw [HS.out]; simp, rfl⟩
  · go_enter Try.func93, Try.ntmps93
    go_wp2_with (go_at_call 107; refine HC.out.mono ?_; rintro e w' ⟨rfl, rfl⟩)
    go_ret
    exact ⟨by rw [HS.out]; simp, rfl⟩
set_option maxHeartbeats 400000 in
theorem nbyte_any (b : UInt8) (w : World) : Calls Try.prog 94 #[.int .u8 (b.toNat : Int)] w fun e w' => e = .returned (.bool (nameB b)) ∧ w = w' := by
  have hs : nameB b = (startB b || digitB b || ((b.toNat : Int) == 45) || ((b.toNat : Int) == 46)) := by unfold nameB; rw [beq_dec, beq_dec]; rfl
  have HS := Lib.hid hs
  clear hs
  generalize hl : startB b = l at *
  have HC := Lib.hid (start_any b w)
  rw [hl] at HC
  clear hl
  generalize hd : digitB b = d at *
  have HD := Lib.hid (digit_any b w)
  rw [hd] at HD
  clear hd
  generalize nameB b = y at *
  generalize b.toNat = x at *
  have h45 : ((x : Int) == 45) = true ∨ ((x : Int) == 45) = false := by cases ((x : Int) == 45) <;> simp
  have h46 : ((x : Int) == 46) = true ∨ ((x : Int) == 46) = false := by cases ((x : Int) == 46) <;> simp
  cases l
  · cases d
    · rcases h45 with h45 | h45
      · go_enter Try.func94, Try.ntmps94
        go_wp2_with (first | (go_at_call 93; refine HC.out.mono ?_; rintro e w' ⟨rfl, rfl⟩) | (go_at_call 108; refine HD.out.mono ?_; rintro e w' ⟨rfl, rfl⟩))
        go_ret
        exact ⟨by rw [HS.out, h45]; simp, rfl⟩
      · rcases h46 with h46 | h46
        · go_enter Try.func94, Try.ntmps94
          go_wp2_with (first | (go_at_call 93; refine HC.out.mono ?_; rintro e w' ⟨rfl, rfl⟩) | (go_at_call 108; refine HD.out.mono ?_; rintro e w' ⟨rfl, rfl⟩))
          go_ret
          exact ⟨by rw [HS.out, h46]; simp, rfl⟩
        · go_enter Try.func94, Try.ntmps94
          go_wp2_with (first | (go_at_call 93; refine HC.out.mono ?_; rintro e w' ⟨rfl, rfl⟩) | (go_at_call 108; refine HD.out.mono ?_; rintro e w' ⟨rfl, rfl⟩))
          go_ret
          exact ⟨by rw [HS.out, h45, h46]; rfl, rfl⟩
    · go_enter Try.func94, Try.ntmps94
      go_wp2_with (first | (go_at_call 93; refine HC.out.mono ?_; rintro e w' ⟨rfl, rfl⟩) | (go_at_call 108; refine HD.out.mono ?_; rintro e w' ⟨rfl, rfl⟩))
      go_ret
      exact ⟨by rw [HS.out]; simp, rfl⟩
  · go_enter Try.func94, Try.ntmps94
    go_wp2_with (first | (go_at_call 93; refine HC.out.mono ?_; rintro e w' ⟨rfl, rfl⟩) | (go_at_call 108; refine HD.out.mono ?_; rintro e w' ⟨rfl, rfl⟩))
    go_ret
    exact ⟨by rw [HS.out]; simp, rfl⟩
end Go.Proofs.Ytjebaibcfmjinaa
