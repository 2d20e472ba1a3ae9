/-
  Bytes of names, and broken bytes: plain Lean; no program in sight, no condition.
-/
import GoSem.Core.Utf8
import Derived.Laws.RangeAny
namespace Go.Proofs.Ytjebaibcfmjinaa

def letterB (b : UInt8) : Bool := (97 ≤ b && b ≤ 122) || (65 ≤ b && b ≤ 90)
def digitB (b : UInt8) : Bool := 48 ≤ b && b ≤ 57
def startB (b : UInt8) : Bool := letterB b || b == 95
def nameB (b : UInt8) : Bool := startB b || digitB b || b == 45 || b == 46
theorem letter_or (b : UInt8) : letterB b = (decide (97 ≤ ((b ||| 32).toNat : Int)) && decide (((b ||| 32).toNat : Int) ≤ 122)) := by
  have h : ∀ n : Fin 256, letterB (UInt8.ofNat n.val) = (decide (97 ≤ (((UInt8.ofNat n.val) ||| 32).toNat : Int)) && decide ((((UInt8.ofNat n.val) ||| 32).toNat : Int) ≤ 122)) := by decide +kernel
  have := h ⟨b.toNat, b.toNat_lt⟩
  simpa using this
theorem digit_dec (b : UInt8) : digitB b = (decide (48 ≤ (b.toNat : Int)) && decide ((b.toNat : Int) ≤ 57)) := by
  have h : ∀ n : Fin 256, digitB (UInt8.ofNat n.val) = (decide (48 ≤ ((UInt8.ofNat n.val).toNat : Int)) && decide (((UInt8.ofNat n.val).toNat : Int) ≤ 57)) := by decide +kernel
  have := h ⟨b.toNat, b.toNat_lt⟩
  simpa using this
theorem beq_dec (b c : UInt8) : (b == c) = ((b.toNat : Int) == (c.toNat : Int)) := by
  by_cases h : b = c
  · subst h
    simp
  · have h2 : (b.toNat : Int) ≠ (c.toNat : Int) := fun e => h (UInt8.toNat_inj.1 (by omega))
    rw [beq_eq_false_iff_ne.2 h, beq_eq_false_iff_ne.2 h2]
end Go.Proofs.Ytjebaibcfmjinaa
