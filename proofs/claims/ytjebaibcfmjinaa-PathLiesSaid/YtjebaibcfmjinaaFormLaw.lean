/-
  What the document's Form computes; no program in sight. Plain Lean; no condition.
-/
import Derived.Test.YtjebaibcfmjinaaUtfCheck
namespace Go.Proofs.Ytjebaibcfmjinaa
open Go.RowKit

/-- The byte at a place, as a number. -/
def byN (s : ByteArray) (p : Nat) : Nat := (s.get! p).toNat
theorem byN_at {s : ByteArray} {p : Nat} (h : p < s.size) : byN s p = (s[p]'h).toNat := by
  unfold byN
  congr 1
  show s.data[p]! = s.data[p]
  exact getElem!_pos s.data p h
/-- Does a byte of the second kind stand there? -/
def contN (s : ByteArray) (p : Nat) : Bool := decide (p < s.size) && (byN s p / 64 == 2)
/-- The bits that are read behind the first byte. -/
def accN (s : ByteArray) (p r : Nat) : Nat → Nat
  | 0 => r
  | k + 1 => accN s p r k * 64 + byN s (p + (k + 1)) % 64
def formR (s : ByteArray) (p : Nat) : Int := if Utf8.decode s p = (65533, 1) then -1 else ((Utf8.decode s p).1 : Int)
def FormIs (s : ByteArray) (p : Nat) (r n : Int) : Prop := r = formR s p ∧ n = ((Utf8.decode s p).2 : Int)
theorem decode_raw (s : ByteArray) (p : Nat) : Utf8.decode s p =
    if byN s p < 0x80 then (byN s p, 1)
    else if byN s p / 32 == 6 && contN s (p + 1) then
      if (byN s p % 32) * 64 + byN s (p + 1) % 64 ≥ 0x80 then ((byN s p % 32) * 64 + byN s (p + 1) % 64, 2) else (65533, 1)
    else if byN s p / 16 == 14 && contN s (p + 1) && contN s (p + 2) then
      if (byN s p % 16) * 4096 + (byN s (p + 1) % 64) * 64 + byN s (p + 2) % 64 ≥ 0x800 && Utf8.valid ((byN s p % 16) * 4096 + (byN s (p + 1) % 64) * 64 + byN s (p + 2) % 64 : Nat) then ((byN s p % 16) * 4096 + (byN s (p + 1) % 64) * 64 + byN s (p + 2) % 64, 3) else (65533, 1)
    else if byN s p / 8 == 30 && contN s (p + 1) && contN s (p + 2) && contN s (p + 3) then
      if (byN s p % 8) * 262144 + (byN s (p + 1) % 64) * 4096 + (byN s (p + 2) % 64) * 64 + byN s (p + 3) % 64 ≥ 0x10000 && Utf8.valid ((byN s p % 8) * 262144 + (byN s (p + 1) % 64) * 4096 + (byN s (p + 2) % 64) * 64 + byN s (p + 3) % 64 : Nat) then ((byN s p % 8) * 262144 + (byN s (p + 1) % 64) * 4096 + (byN s (p + 2) % 64) * 64 + byN s (p + 3) % 64, 4) else (65533, 1)
    else (65533, 1) := rfl
theorem acc1 (s : ByteArray) (p r : Nat) : accN s p r 1 = r * 64 + byN s (p + 1) % 64 := rfl
theorem acc2 (s : ByteArray) (p r : Nat) : accN s p r 2 = r * 4096 + (byN s (p + 1) % 64) * 64 + byN s (p + 2) % 64 := by
  show (r * 64 + byN s (p + 1) % 64) * 64 + byN s (p + 2) % 64 = _
  omega
theorem acc3 (s : ByteArray) (p r : Nat) : accN s p r 3 = r * 262144 + (byN s (p + 1) % 64) * 4096 + (byN s (p + 2) % 64) * 64 + byN s (p + 3) % 64 := by
  show ((r * 64 + byN s (p + 1) % 64) * 64 + byN s (p + 2) % 64) * 64 + byN s (p + 3) % 64 = _
  omega
theorem decode_eq (s : ByteArray) (p : Nat) : Utf8.decode s p =
    if byN s p < 0x80 then (byN s p, 1)
    else if byN s p / 32 == 6 && contN s (p + 1) then
      if accN s p (byN s p % 32) 1 ≥ 0x80 then (accN s p (byN s p % 32) 1, 2) else (65533, 1)
    else if byN s p / 16 == 14 && contN s (p + 1) && contN s (p + 2) then
      if accN s p (byN s p % 16) 2 ≥ 0x800 && Utf8.valid (accN s p (byN s p % 16) 2 : Nat) then (accN s p (byN s p % 16) 2, 3) else (65533, 1)
    else if byN s p / 8 == 30 && contN s (p + 1) && contN s (p + 2) && contN s (p + 3) then
      if accN s p (byN s p % 8) 3 ≥ 0x10000 && Utf8.valid (accN s p (byN s p % 8) 3 : Nat) then (accN s p (byN s p % 8) 3, 4) else (65533, 1)
    else (65533, 1) := by
  rw [acc1, acc2, acc3]
  exact decode_raw s p
theorem acc_lt (s : ByteArray) (p r : Nat) : ∀ k, accN s p r k < (r + 1) * 64 ^ k
  | 0 => by simp [accN]
  | k + 1 => by
    have := acc_lt s p r k
    simp only [accN, Nat.pow_succ]
    have h2 : byN s (p + (k + 1)) % 64 < 64 := Nat.mod_lt _ (by decide)
    have : (accN s p r k + 1) * 64 ≤ (r + 1) * 64 ^ k * 64 := Nat.mul_le_mul_right 64 this
    rw [Nat.mul_assoc] at this
    omega
/-- The place of the first byte tells how many there are to be, and its bits. -/
def headN (b : Nat) : Option (Nat × Nat) := if 194 ≤ b ∧ b ≤ 223 then some (2, b % 32) else if 224 ≤ b ∧ b ≤ 239 then some (3, b % 16) else if 240 ≤ b ∧ b ≤ 244 then some (4, b % 8) else none
def badR (n r : Nat) : Bool := (n == 3 && (decide (r < 2048) || (decide (55296 ≤ r) && decide (r ≤ 57343)))) || (n == 4 && (decide (r < 65536) || decide (1114111 < r)))
theorem form_low {s : ByteArray} {p : Nat} (h : byN s p < 128) : FormIs s p (byN s p) 1 := by
  unfold FormIs formR
  rw [decode_eq, if_pos h]
  rw [if_neg (by intro e; simp at e; omega)]
  exact ⟨rfl, rfl⟩
theorem form_bad {s : ByteArray} {p : Nat} (h : Utf8.decode s p = (65533, 1)) : FormIs s p (-1) 1 := by
  unfold FormIs formR
  rw [h]
  exact ⟨rfl, rfl⟩
theorem valid_iff (n : Nat) : Utf8.valid (n : Int) = true ↔ (n < 55296 ∨ (57344 ≤ n ∧ n ≤ 1114111)) := by
  unfold Utf8.valid
  simp
  omega
theorem form_none {s : ByteArray} {p : Nat} (h : ¬ byN s p < 128) (hn : headN (byN s p) = none) : FormIs s p (-1) 1 := by
  apply form_bad
  have h8 : byN s p < 256 := UInt8.toNat_lt _
  rw [decode_eq, if_neg h]
  unfold headN at hn
  split at hn
  · cases hn
  · split at hn
    · cases hn
    · split at hn
      · cases hn
      · rename_i h1 h2 h3
        have l1 := acc_lt s p (byN s p % 32) 1
        have g3 : (byN s p % 8) * 262144 ≤ accN s p (byN s p % 8) 3 := by rw [acc3]; omega
        rw [if_neg (show ¬ (byN s p / 16 == 14 && contN s (p + 1) && contN s (p + 2)) = true by simp; omega)]
        split
        · rw [if_neg]
          rename_i h6
          simp at h6
          omega
        · split
          · rw [if_neg]
            rename_i h6
            simp only [Bool.and_eq_true, beq_iff_eq, decide_eq_true_eq, valid_iff] at h6 ⊢
            omega
          · rfl
theorem head_cases {b n r : Nat} (h : headN b = some (n, r)) : (n = 2 ∧ 194 ≤ b ∧ b ≤ 223 ∧ r = b % 32) ∨ (n = 3 ∧ 224 ≤ b ∧ b ≤ 239 ∧ r = b % 16) ∨ (n = 4 ∧ 240 ≤ b ∧ b ≤ 244 ∧ r = b % 8) := by
  unfold headN at h
  split at h
  · simp at h; omega
  · split at h
    · simp at h; omega
    · split at h
      · simp at h; omega
      · cases h
/-- A byte behind the first one is none: nothing is right. -/
theorem form_cont {s : ByteArray} {p n r k : Nat} (hn : headN (byN s p) = some (n, r)) (h1 : 1 ≤ k) (h2 : k < n) (hk : contN s (p + k) = false) : FormIs s p (-1) 1 := by
  apply form_bad
  rw [decode_eq]
  rcases head_cases hn with ⟨rfl, a, b, rfl⟩ | ⟨rfl, a, b, rfl⟩ | ⟨rfl, a, b, rfl⟩
  · obtain rfl : k = 1 := by omega
    rw [if_neg (by omega), hk]
    simp
  · rw [if_neg (by omega), if_neg (by simp; omega)]
    rw [if_neg (by
      have : k = 1 ∨ k = 2 := by omega
      rcases this with rfl | rfl <;> rw [hk] <;> simp)]
    rw [if_neg (by simp; omega)]
  · rw [if_neg (by omega), if_neg (by simp; omega), if_neg (by simp; omega)]
    rw [if_neg (by
      have : k = 1 ∨ k = 2 ∨ k = 3 := by omega
      rcases this with rfl | rfl | rfl <;> rw [hk] <;> simp)]
theorem form_past {s : ByteArray} {p n r : Nat} (hn : headN (byN s p) = some (n, r)) (h : s.size < p + n) : FormIs s p (-1) 1 := by
  have := head_cases hn
  exact form_cont hn (k := n - 1) (by omega) (by omega) (by unfold contN; simp; omega)
/-- All are there. -/
theorem form_all {s : ByteArray} {p n r : Nat} (hn : headN (byN s p) = some (n, r)) (h : ∀ k, 1 ≤ k → k < n → contN s (p + k) = true) :
    if badR n (accN s p r (n - 1)) = true then FormIs s p (-1) 1 else FormIs s p (accN s p r (n - 1) : Nat) n := by
  rcases head_cases hn with ⟨rfl, a, b, rfl⟩ | ⟨rfl, a, b, rfl⟩ | ⟨rfl, a, b, rfl⟩
  · have c1 := h 1 (by omega) (by omega)
    have g1 : (byN s p % 32) * 64 ≤ accN s p (byN s p % 32) 1 := by rw [acc1]; omega
    have l1 := acc_lt s p (byN s p % 32) 1
    rw [if_neg (by simp [badR])]
    have hd : Utf8.decode s p = (accN s p (byN s p % 32) 1, 2) := by
      rw [decode_eq, if_neg (by omega), if_pos (by rw [c1]; simp; omega), if_pos (by omega)]
    unfold FormIs formR
    rw [hd, if_neg (by intro e; simp at e)]
    exact ⟨rfl, rfl⟩
  · have c1 := h 1 (by omega) (by omega)
    have c2 := h 2 (by omega) (by omega)
    have l1 := acc_lt s p (byN s p % 16) 2
    have hd : Utf8.decode s p = if accN s p (byN s p % 16) 2 ≥ 0x800 && Utf8.valid (accN s p (byN s p % 16) 2 : Nat) then (accN s p (byN s p % 16) 2, 3) else (65533, 1) := by
      rw [decode_eq, if_neg (by omega), if_neg (by simp; omega), if_pos (by rw [c1, c2]; simp; omega)]
    simp only [show 3 - 1 = 2 from rfl]
    generalize accN s p (byN s p % 16) 2 = x at *
    split
    · rename_i hb
      apply form_bad
      rw [hd, if_neg]
      simp only [Bool.and_eq_true, decide_eq_true_eq, valid_iff]
      simp [badR] at hb
      omega
    · rename_i hb
      rw [if_pos (by
        simp only [Bool.and_eq_true, decide_eq_true_eq, valid_iff]
        simp [badR] at hb
        omega)] at hd
      unfold FormIs formR
      rw [hd, if_neg (by intro e; simp at e)]
      exact ⟨rfl, rfl⟩
  · have c1 := h 1 (by omega) (by omega)
    have c2 := h 2 (by omega) (by omega)
    have c3 := h 3 (by omega) (by omega)
    have l1 := acc_lt s p (byN s p % 8) 3
    have hd : Utf8.decode s p = if accN s p (byN s p % 8) 3 ≥ 0x10000 && Utf8.valid (accN s p (byN s p % 8) 3 : Nat) then (accN s p (byN s p % 8) 3, 4) else (65533, 1) := by
      rw [decode_eq, if_neg (by omega), if_neg (by simp; omega), if_neg (by simp; omega), if_pos (by rw [c1, c2, c3]; simp; omega)]
    simp only [show 4 - 1 = 3 from rfl]
    generalize accN s p (byN s p % 8) 3 = x at *
    split
    · rename_i hb
      apply form_bad
      rw [hd, if_neg]
      simp only [Bool.and_eq_true, decide_eq_true_eq, valid_iff]
      simp [badR] at hb
      omega
    · rename_i hb
      rw [if_pos (by
        simp only [Bool.and_eq_true, decide_eq_true_eq, valid_iff]
        simp [badR] at hb
        omega)] at hd
      unfold FormIs formR
      rw [hd, if_neg (by intro e; simp at e)]
      exact ⟨rfl, rfl⟩
theorem cont_at {s : ByteArray} {p : Nat} (h : p < s.size) : contN s p = ((byN s p) / 64 == 2) := by unfold contN; simp [h]
theorem and192 (b : Nat) (h : b < 256) : bits .and .u8 (b : Int) 192 = ((b / 64 * 64 : Nat) : Int) := by
  have := (by decide +kernel : ∀ n : Fin 256, bits .and .u8 ((n.val : Nat) : Int) 192 = ((n.val / 64 * 64 : Nat) : Int)) ⟨b, h⟩
  exact this
end Go.Proofs.Ytjebaibcfmjinaa
