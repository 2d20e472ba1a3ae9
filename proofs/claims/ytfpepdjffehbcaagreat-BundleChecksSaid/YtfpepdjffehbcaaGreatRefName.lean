/-
  What the document's Form computes; no program in sight. Plain Lean; no condition.
-/
import Derived.Test.YtfpepdjffehbcaaGreatPathParse
import Derived.Laws.Bits
set_option linter.unusedVariables false
set_option linter.unusedSimpArgs false
namespace Go.Proofs.YtfpepdjffehbcaaGreat
open Go.RowKit

/-- The byte at a place, as a number. -/
def byN (s : ByteArray) (p : Nat) : Nat := (s.get! p).toNat
theorem byN_at {s : ByteArray} {p : Nat} (h : p < s.size) : byN s p = (s[p]'h).toNat := by
  unfold byN
  congr 1
  show s.data[p]! = s.data[p]
  exact getElem!_pos s.data p h
/-- Does a byte of the second kind stand there? -/
def contN (s : ByteArray) (p : Nat) : Bool := decide (p < s.size) && (byN s p / 64 == 2)
/-- The bits that are read behind the first byte. -/
def accN (s : ByteArray) (p r : Nat) : Nat → Nat
  | 0 => r
  | k + 1 => accN s p r k * 64 + byN s (p + (k + 1)) % 64
def formR (s : ByteArray) (p : Nat) : Int := if Utf8.decode s p = (65533, 1) then -1 else ((Utf8.decode s p).1 : Int)
def FormIs (s : ByteArray) (p : Nat) (r n : Int) : Prop := r = formR s p ∧ n = ((Utf8.decode s p).2 : Int)
theorem decode_raw (s : ByteArray) (p : Nat) : Utf8.decode s p =
    if byN s p < 0x80 then (byN s p, 1)
    else if byN s p / 32 == 6 && contN s (p + 1) then
      if (byN s p % 32) * 64 + byN s (p + 1) % 64 ≥ 0x80 then ((byN s p % 32) * 64 + byN s (p + 1) % 64, 2) else (65533, 1)
    else if byN s p / 16 == 14 && contN s (p + 1) && contN s (p + 2) then
      if (byN s p % 16) * 4096 + (byN s (p + 1) % 64) * 64 + byN s (p + 2) % 64 ≥ 0x800 && Utf8.valid ((byN s p % 16) * 4096 + (byN s (p + 1) % 64) * 64 + byN s (p + 2) % 64 : Nat) then ((byN s p % 16) * 4096 + (byN s (p + 1) % 64) * 64 + byN s (p + 2) % 64, 3) else (65533, 1)
    else if byN s p / 8 == 30 && contN s (p + 1) && contN s (p + 2) && contN s (p + 3) then
      if (byN s p % 8) * 262144 + (byN s (p + 1) % 64) * 4096 + (byN s (p + 2) % 64) * 64 + byN s (p + 3) % 64 ≥ 0x10000 && Utf8.valid ((byN s p % 8) * 262144 + (byN s (p + 1) % 64) * 4096 + (byN s (p + 2) % 64) * 64 + byN s (p + 3) % 64 : Nat) then ((byN s p % 8) * 262144 + (byN s (p + 1) % 64) * 4096 + (byN s (p + 2) % 64) * 64 + byN s (p + 3) % 64, 4) else (65533, 1)
    else (65533, 1) := rfl
theorem acc1 (s : ByteArray) (p r : Nat) : accN s p r 1 = r * 64 + byN s (p + 1) % 64 := rfl
theorem acc2 (s : ByteArray) (p r : Nat) : accN s p r 2 = r * 4096 + (byN s (p + 1) % 64) * 64 + byN s (p + 2) % 64 := by
  show (r * 64 + byN s (p + 1) % 64) * 64 + byN s (p + 2) % 64 = _
  omega
theorem acc3 (s : ByteArray) (p r : Nat) : accN s p r 3 = r * 262144 + (byN s (p + 1) % 64) * 4096 + (byN s (p + 2) % 64) * 64 + byN s (p + 3) % 64 := by
  show ((r * 64 + byN s (p + 1) % 64) * 64 + byN s (p + 2) % 64) * 64 + byN s (p + 3) % 64 = _
  omega
theorem decode_eq (s : ByteArray) (p : Nat) : Utf8.decode s p =
    if byN s p < 0x80 then (byN s p, 1)
    else if byN s p / 32 == 6 && contN s (p + 1) then
      if accN s p (byN s p % 32) 1 ≥ 0x80 then (accN s p (byN s p % 32) 1, 2) else (65533, 1)
    else if byN s p / 16 == 14 && contN s (p + 1) && contN s (p + 2) then
      if accN s p (byN s p % 16) 2 ≥ 0x800 && Utf8.valid (accN s p (byN s p % 16) 2 : Nat) then (accN s p (byN s p % 16) 2, 3) else (65533, 1)
    else if byN s p / 8 == 30 && contN s (p + 1) && contN s (p + 2) && contN s (p + 3) then
      if accN s p (byN s p % 8) 3 ≥ 0x10000 && Utf8.valid (accN s p (byN s p % 8) 3 : Nat) then (accN s p (byN s p % 8) 3, 4) else (65533, 1)
    else (65533, 1) := by
  rw [acc1, acc2, acc3]
  exact decode_raw s p
theorem acc_lt (s : ByteArray) (p r : Nat) : ∀ k, accN s p r k < (r + 1) * 64 ^ k
  | 0 => by simp [accN]
  | k + 1 => by
    have := acc_lt s p r k
    simp only [accN, Nat.pow_succ]
    have h2 : byN s (p + (k + 1)) % 64 < 64 := Nat.mod_lt _ (by decide)
    have : (accN s p r k + 1) * 64 ≤ (r + 1) * 64 ^ k * 64 := Nat.mul_le_mul_right 64 this
    rw [Nat.mul_assoc] at this
    omega
/-- The place of the first byte tells how many there are to be, and its bits. -/
def headN (b : Nat) : Option (Nat × Nat) := if 194 ≤ b ∧ b ≤ 223 then some (2, b % 32) else if 224 ≤ b ∧ b ≤ 239 then some (3, b % 16) else if 240 ≤ b ∧ b ≤ 244 then some (4, b % 8) else none
def badR (n r : Nat) : Bool := (n == 3 && (decide (r < 2048) || (decide (55296 ≤ r) && decide (r ≤ 57343)))) || (n == 4 && (decide (r < 65536) || decide (1114111 < r)))
theorem form_low {s : ByteArray} {p : Nat} (h : byN s p < 128) : FormIs s p (byN s p) 1 := by
  unfold FormIs formR
  rw [decode_eq, if_pos h]
  rw [if_neg (by intro e; simp at e; omega)]
  exact ⟨rfl, rfl⟩
theorem form_bad {s : ByteArray} {p : Nat} (h : Utf8.decode s p = (65533, 1)) : FormIs s p (-1) 1 := by
  unfold FormIs formR
  rw [h]
  exact ⟨rfl, rfl⟩
theorem valid_iff (n : Nat) : Utf8.valid (n : Int) = true ↔ (n < 55296 ∨ (57344 ≤ n ∧ n ≤ 1114111)) := by
  unfold Utf8.valid
  simp
  omega
theorem form_none {s : ByteArray} {p : Nat} (h : ¬ byN s p < 128) (hn : headN (byN s p) = none) : FormIs s p (-1) 1 := by
  apply form_bad
  have h8 : byN s p < 256 := UInt8.toNat_lt _
  rw [decode_eq, if_neg h]
  unfold headN at hn
  split at hn
  · cases hn
  · split at hn
    · cases hn
    · split at hn
      · cases hn
      · rename_i h1 h2 h3
        have l1 := acc_lt s p (byN s p % 32) 1
        have g3 : (byN s p % 8) * 262144 ≤ accN s p (byN s p % 8) 3 := by rw [acc3]; omega
        rw [if_neg (show ¬ (byN s p / 16 == 14 && contN s (p + 1) && contN s (p + 2)) = true by simp; omega)]
        split
        · rw [if_neg]
          rename_i h6
          simp at h6
          omega
        · split
          · rw [if_neg]
            rename_i h6
            simp only [Bool.and_eq_true, beq_iff_eq, decide_eq_true_eq, valid_iff] at h6 ⊢
            omega
          · rfl
theorem head_cases {b n r : Nat} (h : headN b = some (n, r)) : (n = 2 ∧ 194 ≤ b ∧ b ≤ 223 ∧ r = b % 32) ∨ (n = 3 ∧ 224 ≤ b ∧ b ≤ 239 ∧ r = b % 16) ∨ (n = 4 ∧ 240 ≤ b ∧ b ≤ 244 ∧ r = b % 8) := by
  unfold headN at h
  split at h
  · simp at h; omega
  · split at h
    · simp at h; omega
    · split at h
      · simp at h; omega
      · cases h
/-- A byte behind the first one is none: nothing is right. -/
theorem form_cont {s : ByteArray} {p n r k : Nat} (hn : headN (byN s p) = some (n, r)) (h1 : 1 ≤ k) (h2 : k < n) (hk : contN s (p + k) = false) : FormIs s p (-1) 1 := by
  apply form_bad
  rw [decode_eq]
  rcases head_cases hn with ⟨rfl, a, b, rfl⟩ | ⟨rfl, a, b, rfl⟩ | ⟨rfl, a, b, rfl⟩
  · obtain rfl : k = 1 := by omega
    rw [if_neg (by omega), hk]
    simp
  · rw [if_neg (by omega), if_neg (by simp; omega)]
    rw [if_neg (by
      have : k = 1 ∨ k = 2 := by omega
      rcases this with rfl | rfl <;> rw [hk] <;> simp)]
    rw [if_neg (by simp; omega)]
  · rw [if_neg (by omega), if_neg (by simp; omega), if_neg (by simp; omega)]
    rw [if_neg (by
      have : k = 1 ∨ k = 2 ∨ k = 3 := by omega
      rcases this with rfl | rfl | rfl <;> rw [hk] <;> simp)]
theorem form_past {s : ByteArray} {p n r : Nat} (hn : headN (byN s p) = some (n, r)) (h : s.size < p + n) : FormIs s p (-1) 1 := by
  have := head_cases hn
  exact form_cont hn (k := n - 1) (by omega) (by omega) (by unfold contN; simp; omega)
/-- All are there. -/
theorem form_all {s : ByteArray} {p n r : Nat} (hn : headN (byN s p) = some (n, r)) (h : ∀ k, 1 ≤ k → k < n → contN s (p + k) = true) :
    if badR n (accN s p r (n - 1)) = true then FormIs s p (-1) 1 else FormIs s p (accN s p r (n - 1) : Nat) n := by
  rcases head_cases hn with ⟨rfl, a, b, rfl⟩ | ⟨rfl, a, b, rfl⟩ | ⟨rfl, a, b, rfl⟩
  · have c1 := h 1 (by omega) (by omega)
    have g1 : (byN s p % 32) * 64 ≤ accN s p (byN s p % 32) 1 := by rw [acc1]; omega
    have l1 := acc_lt s p (byN s p % 32) 1
    rw [if_neg (by simp [badR])]
    have hd : Utf8.decode s p = (accN s p (byN s p % 32) 1, 2) := by
      rw [decode_eq, if_neg (by omega), if_pos (by rw [c1]; simp; omega), if_pos (by omega)]
    unfold FormIs formR
    rw [hd, if_neg (by intro e; simp at e)]
    exact ⟨rfl, rfl⟩
  · have c1 := h 1 (by omega) (by omega)
    have c2 := h 2 (by omega) (by omega)
    have l1 := acc_lt s p (byN s p % 16) 2
    have hd : Utf8.decode s p = if accN s p (byN s p % 16) 2 ≥ 0x800 && Utf8.valid (accN s p (byN s p % 16) 2 : Nat) then (accN s p (byN s p % 16) 2, 3) else (65533, 1) := by
      rw [decode_eq, if_neg (by omega), if_neg (by simp; omega), if_pos (by rw [c1, c2]; simp; omega)]
    simp only [show 3 - 1 = 2 from rfl]
    generalize accN s p (byN s p % 16) 2 = x at *
    split
    · rename_i hb
      apply form_bad
      rw [hd, if_neg]
      simp only [Bool.and_eq_true, decide_eq_true_eq, valid_iff]
      simp [badR] at hb
      omega
    · rename_i hb
      rw [if_pos (by
        simp only [Bool.and_eq_true, decide_eq_true_eq, valid_iff]
        simp [badR] at hb
        omega)] at hd
      unfold FormIs formR
      rw [hd, if_neg (by intro e; simp at e)]
      exact ⟨rfl, rfl⟩
  · have c1 := h 1 (by omega) (by omega)
    have c2 := h 2 (by omega) (by omega)
    have c3 := h 3 (by omega) (by omega)
    have l1 := acc_lt s p (byN s p % 8) 3
    have hd : Utf8.decode s p = if accN s p (byN s p % 8) 3 ≥ 0x10000 && Utf8.valid (accN s p (byN s p % 8) 3 : Nat) then (accN s p (byN s p % 8) 3, 4) else (65533, 1) := by
      rw [decode_eq, if_neg (by omega), if_neg (by simp; omega), if_neg (by simp; omega), if_pos (by rw [c1, c2, c3]; simp; omega)]
    simp only [show 4 - 1 = 3 from rfl]
    generalize accN s p (byN s p % 8) 3 = x at *
    split
    · rename_i hb
      apply form_bad
      rw [hd, if_neg]
      simp only [Bool.and_eq_true, decide_eq_true_eq, valid_iff]
      simp [badR] at hb
      omega
    · rename_i hb
      rw [if_pos (by
        simp only [Bool.and_eq_true, decide_eq_true_eq, valid_iff]
        simp [badR] at hb
        omega)] at hd
      unfold FormIs formR
      rw [hd, if_neg (by intro e; simp at e)]
      exact ⟨rfl, rfl⟩
theorem cont_at {s : ByteArray} {p : Nat} (h : p < s.size) : contN s p = ((byN s p) / 64 == 2) := by unfold contN; simp [h]
theorem and192 (b : Nat) (h : b < 256) : bits .and .u8 (b : Int) 192 = ((b / 64 * 64 : Nat) : Int) := by
  have := (by decide +kernel : ∀ n : Fin 256, bits .and .u8 ((n.val : Nat) : Int) 192 = ((n.val / 64 * 64 : Nat) : Int)) ⟨b, h⟩
  exact this
end Go.Proofs.YtfpepdjffehbcaaGreat
/-
  The walks of the document's Form and Broken. Condition: the string is within the reach.
-/
namespace Go.Proofs.YtfpepdjffehbcaaGreat
open Go.RowKit

theorem acc_next (s : ByteArray) (p r k : Nat) (h : 1 ≤ k) : accN s p r k = accN s p r (k - 1) * 64 + byN s (p + k) % 64 := by
  cases k with
  | zero => omega
  | succ k => rfl
theorem acc_small {s : ByteArray} {p n r k : Nat} (hn : headN (byN s p) = some (n, r)) (h2 : k < n) : accN s p r k < 2097152 := by
  have h := acc_lt s p r k
  rcases head_cases hn with ⟨rfl, a, b, rfl⟩ | ⟨rfl, a, b, rfl⟩ | ⟨rfl, a, b, rfl⟩
  · rcases (by omega : k = 0 ∨ k = 1) with rfl | rfl <;> simp at h <;> omega
  · rcases (by omega : k = 0 ∨ k = 1 ∨ k = 2) with rfl | rfl | rfl <;> simp at h <;> omega
  · rcases (by omega : k = 0 ∨ k = 1 ∨ k = 2 ∨ k = 3) with rfl | rfl | rfl | rfl <;> simp at h <;> omega
theorem acc_join {s : ByteArray} {p n r k : Nat} (hn : headN (byN s p) = some (n, r)) (h1 : 1 ≤ k) (h2 : k < n) :
    bits .or .i32 (IntKind.i32.wrap ((accN s p r (k - 1) : Int) * 64)) ((byN s (p + k) % 64 : Nat) : Int) = (accN s p r k : Int) := by
  have hl := acc_small hn h2
  rw [acc_next s p r k h1] at hl ⊢
  have hx : IntKind.i32.wrap ((accN s p r (k - 1) : Int) * 64) = (accN s p r (k - 1) : Int) * 64 := by
    rw [IntKind.wrap_i32]
    omega
  rw [hx, i32_or6 _ _ (by omega) (by omega) (by omega) (by omega) (by omega)]
  omega
theorem acc_join' {s : ByteArray} {p n r k : Nat} (hn : headN (byN s p) = some (n, r)) (h1 : 1 ≤ k) (h2 : k < n) :
    bits .or .i32 (wrap32 ((accN s p r (k - 1) : Int) * 64)) ((byN s (p + k) : Int) % 64) = (accN s p r k : Int) := by
  have h := acc_join hn h1 h2
  rw [Int.natCast_emod] at h
  have e : ∀ x, wrap32 x = IntKind.i32.wrap x := fun x => by rw [wrap32, IntKind.wrap_i32]
  rw [e]
  exact h
theorem conts_more {s : ByteArray} {p k : Nat} (h : ∀ j, 1 ≤ j → j < k → contN s (p + j) = true) (hk : contN s (p + k) = true) : ∀ j, 1 ≤ j → j < k + 1 → contN s (p + j) = true := by
  intro j h1 h2
  rcases Nat.lt_or_ge j k with h3 | h3
  · exact h j h1 h3
  · obtain rfl : j = k := by omega
    exact hk
def FormPost (s : ByteArray) (p : Nat) (w : World) (en : Ending) (w' : World) : Prop := ∃ r n : Int, en = .returned (.tuple #[.int .i32 r, .int .i64 n]) ∧ FormIs s p r n ∧ w' = w

set_option maxHeartbeats 4000000 in
set_option maxRecDepth 100000 in
theorem form_any (s : ByteArray) (p : Nat) (w : World) (hp : p < s.size) (hs : s.size ≤ 140737488355328) :
    Calls Tryz.prog 88 #[.string s, .int .i64 (p : Int)] w (FormPost s p w) := by
  have hb := byN_at hp
  have hq : (p : Int) < (s.size : Int) := by omega
  have h8 : byN s p < 256 := UInt8.toNat_lt _
  by_cases hlow : byN s p < 128
  · have HF := Lib.hid (form_low hlow)
    have h0 : (s[p].toNat : Int) < 128 := by omega
    rw [hb] at HF
    clear hlow hb h8
    go_enter Tryz.func88, Tryz.ntmps88
    go_wp2
    go_ret2
    exact ⟨_, _, rfl, HF.out, rfl⟩
  · have h0 : ¬ (s[p].toNat : Int) < 128 := by omega
    cases hn : headN (byN s p) with
    | none =>
      have HF := Lib.hid (form_none hlow hn)
      have hx : (s[p].toNat : Int) < 194 ∨ 244 < (s[p].toNat : Int) := by
        unfold headN at hn
        split at hn
        · cases hn
        · split at hn
          · cases hn
          · split at hn
            · cases hn
            · omega
      clear hlow hb h8 hn
      rcases hx with hx | hx
      · have h1 : ¬ (194 : Int) ≤ (s[p].toNat : Int) := by omega
        have h2 : ¬ (224 : Int) ≤ (s[p].toNat : Int) := by omega
        have h3 : ¬ (240 : Int) ≤ (s[p].toNat : Int) := by omega
        clear hx
        go_enter Tryz.func88, Tryz.ntmps88
        go_wp2
        go_ret2
        exact ⟨_, _, rfl, HF.out, rfl⟩
      · have h1 : (194 : Int) ≤ (s[p].toNat : Int) := by omega
        have h2 : (224 : Int) ≤ (s[p].toNat : Int) := by omega
        have h3 : (240 : Int) ≤ (s[p].toNat : Int) := by omega
        have h4 : ¬ (s[p].toNat : Int) ≤ 223 := by omega
        have h5 : ¬ (s[p].toNat : Int) ≤ 239 := by omega
        have h6 : ¬ (s[p].toNat : Int) ≤ 244 := by omega
        clear hx
        go_enter Tryz.func88, Tryz.ntmps88
        go_wp2
        go_ret2
        exact ⟨_, _, rfl, HF.out, rfl⟩
    | some nr =>
      obtain ⟨n, r⟩ := nr
      rcases head_cases hn with ⟨rfl, a1, a2, hr⟩ | ⟨rfl, a1, a2, hr⟩ | ⟨rfl, a1, a2, hr⟩
      · have h1 : (194 : Int) ≤ (s[p].toNat : Int) := by omega
        have h4 : (s[p].toNat : Int) ≤ 223 := by omega
        have hA : bits .and .u8 (s[p].toNat : Int) 31 = (r : Int) := by rw [hr, hb, u8_and31 _ (by omega) (by omega)]; omega
        have hC : IntKind.i32.wrap (r : Int) = (r : Int) := by rw [IntKind.wrap_i32]; omega
        have HN := Lib.hid hn
        clear hr hn hb h8 hlow a1 a2
        by_cases hpast : s.size < p + 2
        · have HF := Lib.hid (form_past HN.out hpast)
          have hps : (s.size : Int) < (p : Int) + 2 := by omega
          clear hpast
          go_enter Tryz.func88, Tryz.ntmps88
          go_wp2
          go_ret2
          exact ⟨_, _, rfl, HF.out, rfl⟩
        · have hps : ¬ (s.size : Int) < (p : Int) + 2 := by omega
          have HP := Lib.hid (show p + 2 ≤ s.size by omega)
          clear hpast
          go_enter Tryz.func88, Tryz.ntmps88
          go_wp2
          go_loopw [8, 9, 10] (fun rv iv _ wr => wr = w ∧ ∃ k : Nat, rv = .int .i32 (accN s p r (k - 1) : Int) ∧ iv = .int .i64 (k : Int) ∧ 1 ≤ k ∧ k ≤ 2 ∧ ∀ j, 1 ≤ j → j < k → contN s (p + j) = true) (fun _ iv _ _ => 4 - (Lib.intOf iv).toNat)
          case atStart => exact ⟨rfl, 1, rfl, rfl, Nat.le_refl _, by omega, fun j h1 h2 => by omega⟩
          case round =>
            obtain ⟨rfl, k, rfl, rfl, hk1, hk2, hcs⟩ := hrel
            have HCS := Lib.hid hcs
            clear hcs
            by_cases hk : k < 2
            · have hki : (k : Int) < 2 := by omega
              have hin : p + k < s.size := by have := HP.out; omega
              have hin2 : (p : Int) + (k : Int) < (s.size : Int) := by omega
              have hby := byN_at hin
              have h9 : byN s (p + k) < 256 := UInt8.toNat_lt _
              have hM : bits .and .u8 (s[p + k].toNat : Int) 192 = ((byN s (p + k) / 64 * 64 : Nat) : Int) := by rw [hby]; exact and192 _ (UInt8.toNat_lt _)
              have hM63 : bits .and .u8 (s[p + k].toNat : Int) 63 = ((byN s (p + k) % 64 : Nat) : Int) := by rw [hby, u8_and63 _ (by omega) (by omega)]; omega
              have hC63 : IntKind.i32.wrap ((byN s (p + k) % 64 : Nat) : Int) = ((byN s (p + k) % 64 : Nat) : Int) := by rw [IntKind.wrap_i32]; omega
              have HJ := Lib.hid (acc_join' HN.out hk1 hk)
              have HCT := Lib.hid (cont_at hin)
              by_cases hc : byN s (p + k) / 64 = 2
              · have hcm : (((byN s (p + k) / 64 * 64 : Nat) : Int) == 128) = true := by rw [hc]; rfl
                have HCK := Lib.hid (show contN s (p + k) = true by rw [HCT.out, hc]; rfl)
                clear hc hby h9
                go_wp2
                go_roundw
                case rel => exact ⟨trivial, k + 1, by simp; exact HJ.out, by simp, by omega, by omega, conts_more HCS.out HCK.out⟩
                case measure => simp [Lib.intOf]; omega
              · have hcm : (((byN s (p + k) / 64 * 64 : Nat) : Int) == 128) = false := by rw [beq_eq_false_iff_ne]; omega
                have HF := Lib.hid (form_cont HN.out hk1 hk (by rw [HCT.out]; rw [beq_eq_false_iff_ne]; exact hc))
                clear hc hby h9 HJ
                go_wp2
                go_ret2
                exact ⟨_, _, rfl, HF.out, rfl⟩
            · obtain rfl : k = 2 := by omega
              have HA := Lib.hid (form_all HN.out HCS.out)
              have HL := Lib.hid (acc_small HN.out (k := 2 - 1) (by omega))
              clear hk hk1 hk2
              simp only [Nat.reduceSub] at *
              generalize hx : accN s p r 1 = x at *
              have HF := Lib.hid (show FormIs s p (x : Nat) 2 from by have := HA.out; rwa [if_neg (by simp [badR])] at this)
              clear hx
              go_wp2
              go_ret2
              exact ⟨_, _, rfl, HF.out, rfl⟩
      · have h1 : (194 : Int) ≤ (s[p].toNat : Int) := by omega
        have h2 : (224 : Int) ≤ (s[p].toNat : Int) := by omega
        have h4 : ¬ (s[p].toNat : Int) ≤ 223 := by omega
        have h5 : (s[p].toNat : Int) ≤ 239 := by omega
        have hA : bits .and .u8 (s[p].toNat : Int) 15 = (r : Int) := by rw [hr, hb, u8_and15 _ (by omega) (by omega)]; omega
        have hC : IntKind.i32.wrap (r : Int) = (r : Int) := by rw [IntKind.wrap_i32]; omega
        have HN := Lib.hid hn
        clear hr hn hb h8 hlow a1 a2
        by_cases hpast : s.size < p + 3
        · have HF := Lib.hid (form_past HN.out hpast)
          have hps : (s.size : Int) < (p : Int) + 3 := by omega
          clear hpast
          go_enter Tryz.func88, Tryz.ntmps88
          go_wp2
          go_ret2
          exact ⟨_, _, rfl, HF.out, rfl⟩
        · have hps : ¬ (s.size : Int) < (p : Int) + 3 := by omega
          have HP := Lib.hid (show p + 3 ≤ s.size by omega)
          clear hpast
          go_enter Tryz.func88, Tryz.ntmps88
          go_wp2
          go_loopw [8, 9, 10] (fun rv iv _ wr => wr = w ∧ ∃ k : Nat, rv = .int .i32 (accN s p r (k - 1) : Int) ∧ iv = .int .i64 (k : Int) ∧ 1 ≤ k ∧ k ≤ 3 ∧ ∀ j, 1 ≤ j → j < k → contN s (p + j) = true) (fun _ iv _ _ => 4 - (Lib.intOf iv).toNat)
          case atStart => exact ⟨rfl, 1, rfl, rfl, Nat.le_refl _, by omega, fun j h1 h2 => by omega⟩
          case round =>
            obtain ⟨rfl, k, rfl, rfl, hk1, hk2, hcs⟩ := hrel
            have HCS := Lib.hid hcs
            clear hcs
            by_cases hk : k < 3
            · have hki : (k : Int) < 3 := by omega
              have hin : p + k < s.size := by have := HP.out; omega
              have hin2 : (p : Int) + (k : Int) < (s.size : Int) := by omega
              have hby := byN_at hin
              have h9 : byN s (p + k) < 256 := UInt8.toNat_lt _
              have hM : bits .and .u8 (s[p + k].toNat : Int) 192 = ((byN s (p + k) / 64 * 64 : Nat) : Int) := by rw [hby]; exact and192 _ (UInt8.toNat_lt _)
              have hM63 : bits .and .u8 (s[p + k].toNat : Int) 63 = ((byN s (p + k) % 64 : Nat) : Int) := by rw [hby, u8_and63 _ (by omega) (by omega)]; omega
              have hC63 : IntKind.i32.wrap ((byN s (p + k) % 64 : Nat) : Int) = ((byN s (p + k) % 64 : Nat) : Int) := by rw [IntKind.wrap_i32]; omega
              have HJ := Lib.hid (acc_join' HN.out hk1 hk)
              have HCT := Lib.hid (cont_at hin)
              by_cases hc : byN s (p + k) / 64 = 2
              · have hcm : (((byN s (p + k) / 64 * 64 : Nat) : Int) == 128) = true := by rw [hc]; rfl
                have HCK := Lib.hid (show contN s (p + k) = true by rw [HCT.out, hc]; rfl)
                clear hc hby h9
                go_wp2
                go_roundw
                case rel => exact ⟨trivial, k + 1, by simp; exact HJ.out, by simp, by omega, by omega, conts_more HCS.out HCK.out⟩
                case measure => simp [Lib.intOf]; omega
              · have hcm : (((byN s (p + k) / 64 * 64 : Nat) : Int) == 128) = false := by rw [beq_eq_false_iff_ne]; omega
                have HF := Lib.hid (form_cont HN.out hk1 hk (by rw [HCT.out]; rw [beq_eq_false_iff_ne]; exact hc))
                clear hc hby h9 HJ
                go_wp2
                go_ret2
                exact ⟨_, _, rfl, HF.out, rfl⟩
            · obtain rfl : k = 3 := by omega
              have HA := Lib.hid (form_all HN.out HCS.out)
              have HL := Lib.hid (acc_small HN.out (k := 3 - 1) (by omega))
              clear hk hk1 hk2
              simp only [Nat.reduceSub] at *
              generalize hx : accN s p r 2 = x at *
              rcases (by omega : x < 2048 ∨ (55296 ≤ x ∧ x ≤ 57343) ∨ (2048 ≤ x ∧ x < 55296) ∨ 57343 < x) with h | h | h | h
              · have q0 : (x : Int) < 2048 := by omega
                have HF := Lib.hid (show FormIs s p (-1) 1 from by have := HA.out; rwa [if_pos (by simp [badR]; omega)] at this)
                clear hx h HA
                go_wp2
                go_ret2
                exact ⟨_, _, rfl, HF.out, rfl⟩
              · have q0 : ¬ (x : Int) < 2048 := by omega
                have q1 : (55296 : Int) ≤ (x : Int) := by omega
                have q2 : (x : Int) ≤ 57343 := by omega
                have HF := Lib.hid (show FormIs s p (-1) 1 from by have := HA.out; rwa [if_pos (by simp [badR]; omega)] at this)
                clear hx h HA
                go_wp2
                go_ret2
                exact ⟨_, _, rfl, HF.out, rfl⟩
              · have q0 : ¬ (x : Int) < 2048 := by omega
                have q1 : ¬ (55296 : Int) ≤ (x : Int) := by omega
                have HF := Lib.hid (show FormIs s p (x : Nat) 3 from by have := HA.out; rwa [if_neg (by simp [badR]; omega)] at this)
                clear hx h HA
                go_wp2
                go_ret2
                exact ⟨_, _, rfl, HF.out, rfl⟩
              · have q0 : ¬ (x : Int) < 2048 := by omega
                have q1 : (55296 : Int) ≤ (x : Int) := by omega
                have q2 : ¬ (x : Int) ≤ 57343 := by omega
                have HF := Lib.hid (show FormIs s p (x : Nat) 3 from by have := HA.out; rwa [if_neg (by simp [badR]; omega)] at this)
                clear hx h HA
                go_wp2
                go_ret2
                exact ⟨_, _, rfl, HF.out, rfl⟩
      · have h1 : (194 : Int) ≤ (s[p].toNat : Int) := by omega
        have h2 : (224 : Int) ≤ (s[p].toNat : Int) := by omega
        have h3 : (240 : Int) ≤ (s[p].toNat : Int) := by omega
        have h4 : ¬ (s[p].toNat : Int) ≤ 223 := by omega
        have h5 : ¬ (s[p].toNat : Int) ≤ 239 := by omega
        have h6 : (s[p].toNat : Int) ≤ 244 := by omega
        have hA : bits .and .u8 (s[p].toNat : Int) 7 = (r : Int) := by rw [hr, hb, u8_and7 _ (by omega) (by omega)]; omega
        have hC : IntKind.i32.wrap (r : Int) = (r : Int) := by rw [IntKind.wrap_i32]; omega
        have HN := Lib.hid hn
        clear hr hn hb h8 hlow a1 a2
        by_cases hpast : s.size < p + 4
        · have HF := Lib.hid (form_past HN.out hpast)
          have hps : (s.size : Int) < (p : Int) + 4 := by omega
          clear hpast
          go_enter Tryz.func88, Tryz.ntmps88
          go_wp2
          go_ret2
          exact ⟨_, _, rfl, HF.out, rfl⟩
        · have hps : ¬ (s.size : Int) < (p : Int) + 4 := by omega
          have HP := Lib.hid (show p + 4 ≤ s.size by omega)
          clear hpast
          go_enter Tryz.func88, Tryz.ntmps88
          go_wp2
          go_loopw [8, 9, 10] (fun rv iv _ wr => wr = w ∧ ∃ k : Nat, rv = .int .i32 (accN s p r (k - 1) : Int) ∧ iv = .int .i64 (k : Int) ∧ 1 ≤ k ∧ k ≤ 4 ∧ ∀ j, 1 ≤ j → j < k → contN s (p + j) = true) (fun _ iv _ _ => 4 - (Lib.intOf iv).toNat)
          case atStart => exact ⟨rfl, 1, rfl, rfl, Nat.le_refl _, by omega, fun j h1 h2 => by omega⟩
          case round =>
            obtain ⟨rfl, k, rfl, rfl, hk1, hk2, hcs⟩ := hrel
            have HCS := Lib.hid hcs
            clear hcs
            by_cases hk : k < 4
            · have hki : (k : Int) < 4 := by omega
              have hin : p + k < s.size := by have := HP.out; omega
              have hin2 : (p : Int) + (k : Int) < (s.size : Int) := by omega
              have hby := byN_at hin
              have h9 : byN s (p + k) < 256 := UInt8.toNat_lt _
              have hM : bits .and .u8 (s[p + k].toNat : Int) 192 = ((byN s (p + k) / 64 * 64 : Nat) : Int) := by rw [hby]; exact and192 _ (UInt8.toNat_lt _)
              have hM63 : bits .and .u8 (s[p + k].toNat : Int) 63 = ((byN s (p + k) % 64 : Nat) : Int) := by rw [hby, u8_and63 _ (by omega) (by omega)]; omega
              have hC63 : IntKind.i32.wrap ((byN s (p + k) % 64 : Nat) : Int) = ((byN s (p + k) % 64 : Nat) : Int) := by rw [IntKind.wrap_i32]; omega
              have HJ := Lib.hid (acc_join' HN.out hk1 hk)
              have HCT := Lib.hid (cont_at hin)
              by_cases hc : byN s (p + k) / 64 = 2
              · have hcm : (((byN s (p + k) / 64 * 64 : Nat) : Int) == 128) = true := by rw [hc]; rfl
                have HCK := Lib.hid (show contN s (p + k) = true by rw [HCT.out, hc]; rfl)
                clear hc hby h9
                go_wp2
                go_roundw
                case rel => exact ⟨trivial, k + 1, by simp; exact HJ.out, by simp, by omega, by omega, conts_more HCS.out HCK.out⟩
                case measure => simp [Lib.intOf]; omega
              · have hcm : (((byN s (p + k) / 64 * 64 : Nat) : Int) == 128) = false := by rw [beq_eq_false_iff_ne]; omega
                have HF := Lib.hid (form_cont HN.out hk1 hk (by rw [HCT.out]; rw [beq_eq_false_iff_ne]; exact hc))
                clear hc hby h9 HJ
                go_wp2
                go_ret2
                exact ⟨_, _, rfl, HF.out, rfl⟩
            · obtain rfl : k = 4 := by omega
              have HA := Lib.hid (form_all HN.out HCS.out)
              have HL := Lib.hid (acc_small HN.out (k := 4 - 1) (by omega))
              clear hk hk1 hk2
              simp only [Nat.reduceSub] at *
              generalize hx : accN s p r 3 = x at *
              rcases (by omega : x < 65536 ∨ 1114111 < x ∨ (65536 ≤ x ∧ x ≤ 1114111)) with h | h | h
              · have q0 : (x : Int) < 65536 := by omega
                have HF := Lib.hid (show FormIs s p (-1) 1 from by have := HA.out; rwa [if_pos (by simp [badR]; omega)] at this)
                clear hx h HA
                go_wp2
                go_ret2
                exact ⟨_, _, rfl, HF.out, rfl⟩
              · have q0 : ¬ (x : Int) < 65536 := by omega
                have q1 : (1114111 : Int) < (x : Int) := by omega
                have HF := Lib.hid (show FormIs s p (-1) 1 from by have := HA.out; rwa [if_pos (by simp [badR]; omega)] at this)
                clear hx h HA
                go_wp2
                go_ret2
                exact ⟨_, _, rfl, HF.out, rfl⟩
              · have q0 : ¬ (x : Int) < 65536 := by omega
                have q1 : ¬ (1114111 : Int) < (x : Int) := by omega
                have HF := Lib.hid (show FormIs s p (x : Nat) 4 from by have := HA.out; rwa [if_neg (by simp [badR]; omega)] at this)
                clear hx h HA
                go_wp2
                go_ret2
                exact ⟨_, _, rfl, HF.out, rfl⟩
end Go.Proofs.YtfpepdjffehbcaaGreat
/-
  The walks of the document's Broken, Letter, Digit, Start, Byte, control, and of its scan's wrong, is and name. Condition: the string is within the reach.
-/
namespace Go.Proofs.YtfpepdjffehbcaaGreat
open Go.RowKit

def brokenI (s : ByteArray) : Int := match broken s with | some p => (p : Int) | none => -1
set_option maxHeartbeats 4000000 in
theorem broken_any (s : ByteArray) (w : World) (hs : s.size ≤ 140737488355328) :
    Calls Tryz.prog 69 #[.string s] w fun en w' => en = .returned (.int .i64 (brokenI s)) ∧ w' = w := by
  go_enter Tryz.func69, Tryz.ntmps69
  go_wp2
  go_loopw [3, 4, 5] (fun iv _ _ wr => wr = w ∧ ∃ p : Nat, iv = .int .i64 (p : Int) ∧ p ≤ s.size ∧ broken s = brokenAt s p) (fun iv _ _ _ => s.size - (Lib.intOf iv).toNat)
  case atStart => exact ⟨rfl, 0, rfl, Nat.zero_le _, broken_at s⟩
  case round =>
    obtain ⟨rfl, p, rfl, hp, hB⟩ := hrel
    have HB := Lib.hid hB
    clear hB
    by_cases hlt : p < s.size
    · have hq : (p : Int) < (s.size : Int) := by omega
      have HF := Lib.hid (form_any s p wr hlt hs)
      have HS := Lib.hid (brokenAt_step hlt)
      have HD := Lib.hid (And.intro (decode_pos s p) (decode_in hlt))
      by_cases hd : Utf8.decode s p = (65533, 1)
      · have HX := Lib.hid (show brokenI s = (p : Int) by unfold brokenI; rw [HB.out, HS.out, if_pos hd])
        have HR := Lib.hid (show formR s p = -1 by unfold formR; rw [if_pos hd])
        clear hd
        go_wp2_with (go_at_call 88; refine HF.out.mono ?_; rintro en w1 ⟨r, n, rfl, ⟨hr, hn⟩, rfl⟩; rw [HR.out] at hr; subst hr)
        go_ret
        exact ⟨by rw [HX.out]; rfl, rfl⟩
      · have HR := Lib.hid (show formR s p = ((Utf8.decode s p).1 : Int) by unfold formR; rw [if_neg hd])
        have HX := Lib.hid (show broken s = brokenAt s (p + (Utf8.decode s p).2) by rw [HB.out, HS.out, if_neg hd])
        clear hd HS
        generalize (Utf8.decode s p).1 = d1 at *
        generalize hd2 : (Utf8.decode s p).2 = d2 at *
        have HD2 := Lib.hid hd2
        clear hd2
        have HI := Lib.hid (show (p : Int) + (d2 : Int) ≤ s.size by have := HD.out; omega)
        go_wp2_with (go_at_call 88; refine HF.out.mono ?_; rintro en w1 ⟨r, n, rfl, ⟨hr, hn⟩, rfl⟩; rw [HR.out] at hr; rw [HD2.out] at hn; subst hr hn; have hI := HI.out)
        go_roundw
        case rel => exact ⟨trivial, p + d2, by simp, by have := HD.out; omega, HX.out⟩
        case measure => have := HD.out; simp [Lib.intOf]; omega
    · have hq : ¬ (p : Int) < (s.size : Int) := by omega
      have HX := Lib.hid (show brokenI s = -1 by unfold brokenI; rw [HB.out, brokenAt_end hlt])
      go_wp2
      go_ret
      exact ⟨by rw [HX.out]; rfl, rfl⟩
theorem letter_dec (b : UInt8) : letterB b = ((decide (97 ≤ (b.toNat : Int)) && decide ((b.toNat : Int) ≤ 122)) || (decide (65 ≤ (b.toNat : Int)) && decide ((b.toNat : Int) ≤ 90))) := by
  have h : ∀ n : Fin 256, letterB (UInt8.ofNat n.val) = ((decide (97 ≤ ((UInt8.ofNat n.val).toNat : Int)) && decide (((UInt8.ofNat n.val).toNat : Int) ≤ 122)) || (decide (65 ≤ ((UInt8.ofNat n.val).toNat : Int)) && decide (((UInt8.ofNat n.val).toNat : Int) ≤ 90))) := by decide +kernel
  have := h ⟨b.toNat, b.toNat_lt⟩
  simpa using this
set_option maxHeartbeats 400000 in
theorem rletter_any (b : UInt8) (w : World) : Calls Tryz.prog 160 #[.int .u8 (b.toNat : Int)] w fun e w' => e = .returned (.bool (letterB b)) ∧ w = w' := by
  have HL := Lib.hid (letter_dec b)
  generalize b.toNat = x at *
  generalize letterB b = y at *
  rcases (by omega : ((x : Int) < 65) ∨ (65 ≤ (x : Int) ∧ (x : Int) ≤ 90) ∨ (90 < (x : Int) ∧ (x : Int) < 97) ∨ (97 ≤ (x : Int) ∧ (x : Int) ≤ 122 ∧ 90 < (x : Int)) ∨ (90 < (x : Int) ∧ 122 < (x : Int))) with h | h | h | h | h
  all_goals
    go_enter Tryz.func160, Tryz.ntmps160
    go_wp2
    go_ret
    refine ⟨?_, rfl⟩
    rw [HL.out]
    simp
    try (first | omega | (rw [Bool.eq_iff_iff]; simp; omega))
set_option maxHeartbeats 400000 in
theorem rdigit_any (b : UInt8) (w : World) : Calls Tryz.prog 161 #[.int .u8 (b.toNat : Int)] w fun e w' => e = .returned (.bool (digitB b)) ∧ w = w' := by
  have HL := Lib.hid (digit_dec b)
  generalize b.toNat = x at *
  generalize digitB b = y at *
  rcases (by omega : ((x : Int) < 48) ∨ (48 ≤ (x : Int) ∧ (x : Int) ≤ 57) ∨ 57 < (x : Int)) with h | h | h
  all_goals
    go_enter Tryz.func161, Tryz.ntmps161
    go_wp2
    go_ret
    refine ⟨?_, rfl⟩
    rw [HL.out]
    simp
    try (first | omega | (rw [Bool.eq_iff_iff]; simp; omega))
set_option maxHeartbeats 400000 in
theorem rstart_any (b : UInt8) (w : World) : Calls Tryz.prog 148 #[.int .u8 (b.toNat : Int)] w fun e w' => e = .returned (.bool (startB b)) ∧ w = w' := by
  have hs : startB b = (letterB b || ((b.toNat : Int) == 95)) := by unfold startB; rw [beq_dec]; rfl
  have HS := Lib.hid hs
  clear hs
  generalize hl : letterB b = l at *
  have HC := Lib.hid (rletter_any b w)
  rw [hl] at HC
  clear hl
  generalize startB b = y at *
  generalize b.toNat = x at *
  cases l
  · go_enter Tryz.func148, Tryz.ntmps148
    go_wp2_with (go_at_call 160; refine HC.out.mono ?_; rintro e w' ⟨rfl, rfl⟩)
    go_ret
    exact ⟨by rw [HS.out]; simp, rfl⟩
  · go_enter Tryz.func148, Tryz.ntmps148
    go_wp2_with (go_at_call 160; refine HC.out.mono ?_; rintro e w' ⟨rfl, rfl⟩)
    go_ret
    exact ⟨by rw [HS.out]; simp, rfl⟩
set_option maxHeartbeats 400000 in
theorem rbyte_any (b : UInt8) (w : World) : Calls Tryz.prog 149 #[.int .u8 (b.toNat : Int)] w fun e w' => e = .returned (.bool (nameB b)) ∧ w = w' := by
  have hs : nameB b = (startB b || digitB b || ((b.toNat : Int) == 45) || ((b.toNat : Int) == 46)) := by unfold nameB; rw [beq_dec, beq_dec]; rfl
  have HS := Lib.hid hs
  clear hs
  generalize hl : startB b = l at *
  have HC := Lib.hid (rstart_any b w)
  rw [hl] at HC
  clear hl
  generalize hd : digitB b = d at *
  have HD := Lib.hid (rdigit_any b w)
  rw [hd] at HD
  clear hd
  generalize nameB b = y at *
  generalize b.toNat = x at *
  have h45 : ((x : Int) == 45) = true ∨ ((x : Int) == 45) = false := by cases ((x : Int) == 45) <;> simp
  have h46 : ((x : Int) == 46) = true ∨ ((x : Int) == 46) = false := by cases ((x : Int) == 46) <;> simp
  cases l
  · cases d
    · rcases h45 with h45 | h45
      · go_enter Tryz.func149, Tryz.ntmps149
        go_wp2_with (first | (go_at_call 148; refine HC.out.mono ?_; rintro e w' ⟨rfl, rfl⟩) | (go_at_call 161; refine HD.out.mono ?_; rintro e w' ⟨rfl, rfl⟩))
        go_ret
        exact ⟨by rw [HS.out, h45]; simp, rfl⟩
      · rcases h46 with h46 | h46
        · go_enter Tryz.func149, Tryz.ntmps149
          go_wp2_with (first | (go_at_call 148; refine HC.out.mono ?_; rintro e w' ⟨rfl, rfl⟩) | (go_at_call 161; refine HD.out.mono ?_; rintro e w' ⟨rfl, rfl⟩))
          go_ret
          exact ⟨by rw [HS.out, h46]; simp, rfl⟩
        · go_enter Tryz.func149, Tryz.ntmps149
          go_wp2_with (first | (go_at_call 148; refine HC.out.mono ?_; rintro e w' ⟨rfl, rfl⟩) | (go_at_call 161; refine HD.out.mono ?_; rintro e w' ⟨rfl, rfl⟩))
          go_ret
          exact ⟨by rw [HS.out, h45, h46]; rfl, rfl⟩
    · go_enter Tryz.func149, Tryz.ntmps149
      go_wp2_with (first | (go_at_call 148; refine HC.out.mono ?_; rintro e w' ⟨rfl, rfl⟩) | (go_at_call 161; refine HD.out.mono ?_; rintro e w' ⟨rfl, rfl⟩))
      go_ret
      exact ⟨by rw [HS.out]; simp, rfl⟩
  · go_enter Tryz.func149, Tryz.ntmps149
    go_wp2_with (first | (go_at_call 148; refine HC.out.mono ?_; rintro e w' ⟨rfl, rfl⟩) | (go_at_call 161; refine HD.out.mono ?_; rintro e w' ⟨rfl, rfl⟩))
    go_ret
    exact ⟨by rw [HS.out]; simp, rfl⟩
end Go.Proofs.YtfpepdjffehbcaaGreat
/-
  The walks of the document's scan: wrong, is, name, and of control. Condition: the string is within the reach.
-/
namespace Go.Proofs.YtfpepdjffehbcaaGreat
open Go.RowKit

/-- The scan at block g. -/
def SC (w : World) (g : Nat) (s : ByteArray) (at_ : Nat) (e a : Int) : Prop := Blk w g 158 #[.string s, .int .i64 (at_ : Int), .int .i64 e, .int .i64 a]
theorem SC.c0 {w : World} {g : Nat} {s : ByteArray} {at_ : Nat} {e a : Int} (h : SC w g s at_ e a) : w.cell? ⟨g, 0, none⟩ = some (.string s) := Blk.cell h 0
theorem SC.c1 {w : World} {g : Nat} {s : ByteArray} {at_ : Nat} {e a : Int} (h : SC w g s at_ e a) : w.cell? ⟨g, 1, none⟩ = some (.int .i64 (at_ : Int)) := Blk.cell h 1
theorem SC.c2 {w : World} {g : Nat} {s : ByteArray} {at_ : Nat} {e a : Int} (h : SC w g s at_ e a) : w.cell? ⟨g, 2, none⟩ = some (.int .i64 e) := Blk.cell h 2
theorem SC.c3 {w : World} {g : Nat} {s : ByteArray} {at_ : Nat} {e a : Int} (h : SC w g s at_ e a) : w.cell? ⟨g, 3, none⟩ = some (.int .i64 a) := Blk.cell h 3
theorem SC.goto_ {w : World} {g : Nat} {s : ByteArray} {at_ : Nat} {e a : Int} (h : SC w g s at_ e a) (k : Nat) : SC (w.setCell ⟨g, 1, none⟩ (.int .i64 (k : Int))) g s k e a := Blk.set_ h 1 _
theorem SC.fail {w : World} {g : Nat} {s : ByteArray} {at_ : Nat} {e a : Int} (h : SC w g s at_ e a) (x y : Int) : SC ((w.setCell ⟨g, 2, none⟩ (.int .i64 x)).setCell ⟨g, 3, none⟩ (.int .i64 y)) g s at_ x y := Blk.set_ (Blk.set_ h 2 _) 3 _
theorem SC.drewN {w : World} {g : Nat} {s : ByteArray} {at_ : Nat} {e a : Int} (h : SC w g s at_ e a) (k : Nat) : SC (w.drewN k) g s at_ e a := Blk.drewN h k

set_option maxHeartbeats 400000 in
theorem wrong_set (g at_ : Nat) (s : ByteArray) (a x y : Int) (w : World) (h : SC w g s at_ 0 a) :
    Calls Tryz.prog 89 #[.pointer (some ⟨g, 0, none⟩), .int .i64 x, .int .i64 y] w fun en w' => en = .returned (.tuple #[]) ∧ SC w' g s at_ x y ∧ Only g w w' := by
  have c2 := h.c2
  have c3 := h.c3
  have f2 := Blk.frozen h 2
  have f3 := Blk.frozen h 3
  go_enter Tryz.func89, Tryz.ntmps89
  go_wp2
  refine bodyPost_end (results_none rfl _ _ _) rfl ?_
  exact ⟨rfl, h.fail x y, ((Only.refl g w).setCell (.inl rfl) _).setCell (.inl rfl) _⟩
set_option maxHeartbeats 400000 in
theorem wrong_keep (g at_ : Nat) (s : ByteArray) (e a x y : Int) (w : World) (h : SC w g s at_ e a) (he : e ≠ 0) :
    Calls Tryz.prog 89 #[.pointer (some ⟨g, 0, none⟩), .int .i64 x, .int .i64 y] w fun en w' => en = .returned (.tuple #[]) ∧ w' = w := by
  have c2 := h.c2
  have h0 : (e == 0) = false := by rw [beq_eq_false_iff_ne]; exact he
  clear he
  go_enter Tryz.func89, Tryz.ntmps89
  go_wp2
  refine bodyPost_end (results_none rfl _ _ _) rfl ?_
  exact ⟨rfl, rfl⟩
set_option maxHeartbeats 1000000 in
theorem is_any (g at_ : Nat) (s : ByteArray) (e a : Int) (b : UInt8) (w : World) (h : SC w g s at_ e a) (_hs : s.size ≤ 140737488355328) (B : Bool) (hb : standsB s at_ b = B) :
    Calls Tryz.prog 91 #[.pointer (some ⟨g, 0, none⟩), .int .u8 (b.toNat : Int)] w fun en w' => en = .returned (.bool B) ∧ SC w' g s at_ e a ∧ Only g w w' := by
  have c0 := h.c0
  have c1 := h.c1
  unfold standsB at hb
  by_cases hlt : at_ < s.size
  · rw [dif_pos hlt] at hb
    have hq : (at_ : Int) < (s.size : Int) := by omega
    have hv : ((s[at_].toNat : Int) == (b.toNat : Int)) = B := by rw [← beq_dec]; exact hb
    clear hb
    go_enter Tryz.func91, Tryz.ntmps91
    go_wp2
    go_quiet (fail)
    go_wp2
    go_ret
    exact ⟨rfl, h.drewN _, (Only.refl g w).drewN _⟩
  · have hq : decide ((at_ : Int) < (s.size : Int)) = false := by simp; omega
    rw [dif_neg hlt] at hb
    subst hb
    go_enter Tryz.func91, Tryz.ntmps91
    go_wp2
    go_quiet (fail)
    go_wp2
    go_ret
    exact ⟨rfl, h.drewN _, (Only.refl g w).drewN _⟩
set_option maxHeartbeats 400000 in
theorem rcontrol_any (r : Int) (w : World) : Calls Tryz.prog 151 #[.int .i32 r] w fun e w' => e = .returned (.bool (controlR r)) ∧ w = w' := by
  have h127 : (r == 127) = true ∨ (r == 127) = false := by cases (r == 127) <;> simp
  have HC := Lib.hid (show controlR r = (decide (r < 32) || (r == 127)) from rfl)
  generalize controlR r = y at *
  rcases (by omega : r < 32 ∨ 32 ≤ r) with h | h
  · go_enter Tryz.func151, Tryz.ntmps151
    go_wp2
    go_ret
    exact ⟨by rw [HC.out]; simp [h], rfl⟩
  · rcases h127 with h127 | h127
    all_goals
      go_enter Tryz.func151, Tryz.ntmps151
      go_wp2
      go_ret
      refine ⟨?_, rfl⟩
      rw [HC.out, h127]
      simp
      try omega
def RNameBad (g at_ : Nat) (s : ByteArray) (w : World) (e : Ending) (w' : World) : Prop := ∃ x y p nm, nameErr s at_ = some (x, y) ∧ e = .returned (.string nm) ∧ SC w' g s p x y ∧ Only g w w'
def RNameGood (g at_ : Nat) (s : ByteArray) (x y : Int) (w : World) (e : Ending) (w' : World) : Prop := e = .returned (.string (s.extract at_ (nameEnd s at_))) ∧ SC w' g s (nameEnd s at_) x y ∧ Only g w w'
set_option maxHeartbeats 2000000 in
theorem rname_short (g at_ : Nat) (s : ByteArray) (a : Int) (w : World) (h : SC w g s at_ 0 a) (hle : at_ ≤ s.size) (hlt : ¬ at_ < s.size) :
    Calls Tryz.prog 124 #[.pointer (some ⟨g, 0, none⟩)] w (RNameBad g at_ s w) := by
  have c0 := h.c0
  have c1 := h.c1
  obtain rfl : at_ = s.size := by omega
  have hE := Lib.hid (show nameErr s s.size = some (160, (s.size : Int)) by unfold nameErr; rw [dif_neg (by omega)])
  have HF := Lib.hid (fun k => wrong_set g s.size s a 160 s.size _ (h.drewN k))
  clear hle hlt
  go_enter Tryz.func124, Tryz.ntmps124
  go_wp2
  go_quiet (fail)
  go_wp2_with (go_at_call 89; refine (HF.out _).mono ?_; rintro en w1 ⟨rfl, hR, hO⟩)
  go_ret
  exact ⟨160, s.size, s.size, _, hE.out, rfl, hR, ((Only.refl g w).drewN _).trans hO⟩
set_option maxHeartbeats 2000000 in
theorem rname_nostart (g at_ : Nat) (s : ByteArray) (a : Int) (w : World) (h : SC w g s at_ 0 a) (hlt : at_ < s.size) (hst : startB s[at_] = false) :
    Calls Tryz.prog 124 #[.pointer (some ⟨g, 0, none⟩)] w (RNameBad g at_ s w) := by
  have c0 := h.c0
  have c1 := h.c1
  have hE := Lib.hid (show nameErr s at_ = some (160, (at_ : Int)) by unfold nameErr; rw [dif_pos hlt, hst]; rfl)
  have HF := Lib.hid (fun k => wrong_set g at_ s a 160 at_ _ (h.drewN k))
  have HS := Lib.hid (fun W => rstart_any s[at_] W)
  rw [hst] at HS
  have hne : ((at_ : Int) == (s.size : Int)) = false := by rw [beq_eq_false_iff_ne]; omega
  have hq : (at_ : Int) < (s.size : Int) := by omega
  clear hst
  go_enter Tryz.func124, Tryz.ntmps124
  go_wp2
  go_quiet ((go_at_call 148; exact quiet_left (HS.out _)))
  go_wp2_with (go_at_call 89; refine (HF.out _).mono ?_; rintro en w1 ⟨rfl, hR, hO⟩)
  go_ret
  exact ⟨160, at_, at_, _, hE.out, rfl, hR, ((Only.refl g w).drewN _).trans hO⟩

theorem satOf {w : World} {g : Nat} {s : ByteArray} {at_ : Nat} {e a : Int} (h : SC w g s at_ e a) : atOf g w = at_ := by
  unfold atOf
  rw [h.c1]
  simp
theorem rname_measure {w : World} {g : Nat} {s : ByteArray} {p : Nat} {e a : Int} (h : SC w g s p e a) (hp : p < s.size) (k : Nat) : s.size - atOf g ((w.drewN k).setCell ⟨g, 1, none⟩ (.int .i64 ((p : Int) + 1))) < s.size - atOf g w := by
  have e1 := satOf ((h.drewN k).goto_ (p + 1))
  have e2 := satOf h
  rw [show ((p + 1 : Nat) : Int) = (p : Int) + 1 by omega] at e1
  rw [e1, e2]
  omega
/-- Where name's loop is. -/
def RNameAt (g at_ : Nat) (s : ByteArray) (e a : Int) (w : World) (p : Nat) (wr : World) : Prop := SC wr g s p e a ∧ at_ ≤ p ∧ p ≤ s.size ∧ nameEnd s at_ = nameEnd s p ∧ Only g w wr
def RNamePost (g at_ : Nat) (s : ByteArray) (e a : Int) (w : World) (en : Ending) (w' : World) : Prop := RNameBad g at_ s w en w' ∨ (nameErr s at_ = none ∧ RNameGood g at_ s e a w en w')
set_option maxHeartbeats 4000000 in
theorem rname_go (g at_ : Nat) (s : ByteArray) (a : Int) (w : World) (h : SC w g s at_ 0 a) (hlt : at_ < s.size) (hst : startB s[at_] = true) (hs : s.size ≤ 140737488355328) :
    Calls Tryz.prog 124 #[.pointer (some ⟨g, 0, none⟩)] w (RNamePost g at_ s 0 a w) := by
  have c0 := h.c0
  have c1 := h.c1
  have HS := Lib.hid (fun W => rstart_any s[at_] W)
  rw [hst] at HS
  have hE := Lib.hid (show nameErr s at_ = if nameEnd s at_ - at_ > 64 then some (3, (at_ : Int)) else none by unfold nameErr; rw [dif_pos hlt, hst]; rfl)
  have hne : ((at_ : Int) == (s.size : Int)) = false := by rw [beq_eq_false_iff_ne]; omega
  have hq : (at_ : Int) < (s.size : Int) := by omega
  clear hst
  go_enter Tryz.func124, Tryz.ntmps124
  go_wp2
  go_quiet ((go_at_call 148; exact quiet_left (HS.out _)))
  go_wp2
  go_loopw [38] (fun _ wr => ∃ p, RNameAt g at_ s 0 a w p wr) (fun _ wr => s.size - atOf g wr)
  case atStart => exact ⟨at_, h.drewN _, Nat.le_refl _, by omega, rfl, (Only.refl g w).drewN _⟩
  case round =>
    clear c0 c1 hne
    obtain ⟨p, hR, hp1, hp2, hpe, hO⟩ := hrel
    have c0 := hR.c0
    have c1 := hR.c1
    have f1 := Blk.frozen hR 1
    have HPE := Lib.hid hpe
    clear hpe
    by_cases hp : p < s.size
    · have hq2 : (p : Int) < (s.size : Int) := by omega
      have HN := Lib.hid (fun W => rbyte_any s[p] W)
      have HE := Lib.hid (nameEnd_step hp)
      cases hb : nameB s[p]
      · rw [hb] at HN HE
        have HE2 := Lib.hid (show nameEnd s p = p from HE.out)
        clear HE hb
        have HE := HE2
        clear HE2
        by_cases hl : p - at_ > 64
        · have hl1 : (64 : Int) < (p : Int) - (at_ : Int) := by omega
          have HF := Lib.hid (fun k => wrong_set g p s a 3 at_ _ (hR.drewN k))
          have HX := Lib.hid (show nameErr s at_ = some (3, (at_ : Int)) by rw [hE.out, HPE.out, HE.out, if_pos hl])
          clear hl
          go_wp2
          go_quiet (((go_at_call 149; exact quiet_left (HN.out _))))
          have hp3 : (at_ : Int) ≤ (p : Int) := by omega
          have hp4 : (p : Int) ≤ (s.size : Int) := by omega
          go_wp2_with (go_at_call 89; go_loud (refine (HF.out _).mono ?_; rintro en w1 ⟨rfl, hR1, hO1⟩; have k0 := hR1.c0; have k1 := hR1.c1))
          go_quiet (fail)
          go_wp2
          go_ret
          exact .inl ⟨3, at_, p, _, HX.out, rfl, hR1.drewN _, ((hO.drewN _).trans hO1).drewN _⟩
        · have hl1 : ¬ (64 : Int) < (p : Int) - (at_ : Int) := by omega
          have HX := Lib.hid (show nameErr s at_ = none by rw [hE.out, HPE.out, HE.out, if_neg hl])
          have HY := Lib.hid (show nameEnd s at_ = p by rw [HPE.out, HE.out])
          have hp3 : (at_ : Int) ≤ (p : Int) := by omega
          have hp4 : (p : Int) ≤ (s.size : Int) := by omega
          clear hl
          go_wp2
          go_quiet (((go_at_call 149; exact quiet_left (HN.out _))))
          go_wp2
          go_quiet (fail)
          go_wp2
          go_ret
          refine .inr ⟨HX.out, ?_⟩
          unfold RNameGood
          rw [HY.out]
          exact ⟨rfl, (hR.drewN _).drewN _, (hO.drewN _).drewN _⟩
      · rw [hb] at HN HE
        have HE2 := Lib.hid (show nameEnd s p = nameEnd s (p + 1) from HE.out)
        clear HE hb
        go_wp2
        go_quiet ((go_at_call 149; exact quiet_left (HN.out _)))
        go_wp2
        go_roundw
        case rel => exact ⟨p + 1, (hR.drewN _).goto_ (p + 1), by omega, by omega, by rw [HPE.out, HE2.out], (hO.drewN _).setCell (.inl rfl) _⟩
        case measure => exact rname_measure hR hp _
    · have hq2 : decide ((p : Int) < (s.size : Int)) = false := by simp; omega
      have HE := Lib.hid (nameEnd_end hp)
      by_cases hl : p - at_ > 64
      · have hl1 : (64 : Int) < (p : Int) - (at_ : Int) := by omega
        have HF := Lib.hid (fun k => wrong_set g p s a 3 at_ _ (hR.drewN k))
        have HX := Lib.hid (show nameErr s at_ = some (3, (at_ : Int)) by rw [hE.out, HPE.out, HE.out, if_pos hl])
        clear hl
        go_wp2
        go_quiet (fail)
        have hp3 : (at_ : Int) ≤ (p : Int) := by omega
        have hp4 : (p : Int) ≤ (s.size : Int) := by omega
        go_wp2_with (go_at_call 89; go_loud (refine (HF.out _).mono ?_; rintro en w1 ⟨rfl, hR1, hO1⟩; have k0 := hR1.c0; have k1 := hR1.c1))
        go_quiet (fail)
        go_wp2
        go_ret
        exact .inl ⟨3, at_, p, _, HX.out, rfl, hR1.drewN _, ((hO.drewN _).trans hO1).drewN _⟩
      · have hl1 : ¬ (64 : Int) < (p : Int) - (at_ : Int) := by omega
        have HX := Lib.hid (show nameErr s at_ = none by rw [hE.out, HPE.out, HE.out, if_neg hl])
        have HY := Lib.hid (show nameEnd s at_ = p by rw [HPE.out, HE.out])
        have hp3 : (at_ : Int) ≤ (p : Int) := by omega
        have hp4 : (p : Int) ≤ (s.size : Int) := by omega
        clear hl
        go_wp2
        go_quiet (fail)
        go_wp2
        go_quiet (fail)
        go_wp2
        go_ret
        refine .inr ⟨HX.out, ?_⟩
        unfold RNameGood
        rw [HY.out]
        exact ⟨rfl, (hR.drewN _).drewN _, (hO.drewN _).drewN _⟩
theorem rname_any (g at_ : Nat) (s : ByteArray) (a : Int) (w : World) (h : SC w g s at_ 0 a) (hle : at_ ≤ s.size) (hs : s.size ≤ 140737488355328) :
    Calls Tryz.prog 124 #[.pointer (some ⟨g, 0, none⟩)] w (RNamePost g at_ s 0 a w) := by
  by_cases hlt : at_ < s.size
  · cases hst : startB s[at_]
    · exact (rname_nostart g at_ s a w h hlt hst).mono fun _ _ h => .inl h
    · exact rname_go g at_ s a w h hlt hst hs
  · exact (rname_short g at_ s a w h hle hlt).mono fun _ _ h => .inl h
end Go.Proofs.YtfpepdjffehbcaaGreat
