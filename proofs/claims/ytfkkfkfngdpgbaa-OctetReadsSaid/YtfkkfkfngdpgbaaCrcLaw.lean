/-
  The checksum in plain numbers; no program in sight, no condition.
-/
import Derived.Laws.BitsAllLaws
namespace Go.Proofs.Ytfkkfkfngdpgbaa

/-- One bit of the checksum. -/
def crc1 (c : Nat) : Nat := if c % 2 = 1 then c / 2 ^^^ 3988292384 else c / 2
def crcN : Nat → Nat → Nat
  | 0, c => c
  | k + 1, c => crc1 (crcN k c)
/-- One byte. -/
def crcB (c : Nat) (b : UInt8) : Nat := crcN 8 (c ^^^ b.toNat)
def crcRaw (l : List UInt8) : Nat := l.foldl crcB 4294967295
def crc (l : List UInt8) : Nat := 4294967295 - crcRaw l

theorem crc1_lt {c : Nat} (h : c < 4294967296) : crc1 c < 4294967296 := by
  unfold crc1
  split
  · exact Nat.xor_lt_two_pow (n := 32) (by omega) (by omega)
  · omega
theorem crcN_lt {c : Nat} (h : c < 4294967296) (k : Nat) : crcN k c < 4294967296 := by
  induction k with
  | zero => exact h
  | succ k ih => exact crc1_lt ih
theorem xorB_lt {c : Nat} (h : c < 4294967296) (b : UInt8) : c ^^^ b.toNat < 4294967296 :=
  Nat.xor_lt_two_pow (n := 32) (by omega) (by have := b.toNat_lt; omega)
theorem crcB_lt {c : Nat} (h : c < 4294967296) (b : UInt8) : crcB c b < 4294967296 := crcN_lt (xorB_lt h b) 8
theorem crcFold_lt (l : List UInt8) : ∀ c, c < 4294967296 → l.foldl crcB c < 4294967296 := by
  induction l with
  | nil => intro c h; exact h
  | cons b l ih => intro c h; exact ih _ (crcB_lt h b)
theorem crcRaw_lt (l : List UInt8) : crcRaw l < 4294967296 := crcFold_lt l _ (by omega)
theorem crc_lt (l : List UInt8) : crc l < 4294967296 := by unfold crc; omega
theorem crcRaw_take {l : List UInt8} {k : Nat} (h : k < l.length) : crcRaw (l.take (k + 1)) = crcB (crcRaw (l.take k)) (l.getD k 0) := by
  unfold crcRaw
  rw [List.take_succ_eq_append_getElem h, List.foldl_append]
  simp [List.getD_eq_getElem?_getD, h]
end Go.Proofs.Ytfkkfkfngdpgbaa
