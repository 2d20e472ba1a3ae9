/-
  Numbers as bytes, the lowest first: plain lists and numbers; no program in sight, no condition.
-/
import Derived.Test.YtfpepdjffehbcaaGreatBlocks
set_option linter.unusedVariables false
set_option linter.unusedSimpArgs false
namespace Go.Proofs.YtfpepdjffehbcaaGreat

/-- The n lowest bytes of a number, the lowest first. -/
def le : Nat → Nat → List UInt8
  | 0, _ => []
  | n + 1, x => UInt8.ofNat (x % 256) :: le n (x / 256)
/-- The number that bytes say, the lowest first. -/
def num : List UInt8 → Nat
  | [] => 0
  | b :: l => b.toNat + 256 * num l
theorem le_len (n x : Nat) : (le n x).length = n := by
  induction n generalizing x with
  | zero => rfl
  | succ n ih => simp [le, ih]
theorem byte_of (x : Nat) : (UInt8.ofNat (x % 256)).toNat = x % 256 := by
  rw [UInt8.toNat_ofNat']
  omega
theorem num_le (n x : Nat) : num (le n x) = x % 256 ^ n := by
  induction n generalizing x with
  | zero => simp [le, num, Nat.mod_one]
  | succ n ih =>
    simp only [le, num, ih]
    rw [byte_of, Nat.pow_succ, Nat.mul_comm (256 ^ n) 256, Nat.mod_mul]
theorem bv_of (x : Nat) (i : Int) (h : ((x % 256 : Nat) : Int) = i) : bv (UInt8.ofNat (x % 256)) = .int .u8 i := by
  unfold bv
  rw [byte_of, h]
theorem le2 (x : Nat) (h : x < 65536) : bvs (le 2 x) = [.int .u8 ((x : Int) % 256), .int .u8 ((x : Int) / 256)] := by
  simp only [le, bvs, List.map_cons, List.map_nil]
  rw [bv_of x _ rfl, bv_of (x / 256) ((x : Int) / 256) (by omega)]
  rfl
theorem le4 (x : Nat) (h : x < 4294967296) : bvs (le 4 x) = [.int .u8 ((x : Int) % 256), .int .u8 ((x : Int) / 256 % 256), .int .u8 ((x : Int) / 65536 % 256), .int .u8 ((x : Int) / 16777216)] := by
  simp only [le, bvs, List.map_cons, List.map_nil]
  rw [bv_of x _ rfl, bv_of (x / 256) ((x : Int) / 256 % 256) (by omega), bv_of (x / 256 / 256) ((x : Int) / 65536 % 256) (by omega), bv_of (x / 256 / 256 / 256) ((x : Int) / 16777216) (by omega)]
  rfl
theorem le_succ (n x : Nat) : le (n + 1) x = le n x ++ [UInt8.ofNat (x / 256 ^ n % 256)] := by
  induction n generalizing x with
  | zero => simp [le]
  | succ n ih =>
    rw [le, ih]
    simp only [le, List.cons_append]
    rw [Nat.div_div_eq_div_mul, Nat.pow_succ, Nat.mul_comm]
end Go.Proofs.YtfpepdjffehbcaaGreat
