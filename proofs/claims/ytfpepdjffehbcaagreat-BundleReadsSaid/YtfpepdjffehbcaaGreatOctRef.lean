/-
  The walks of the references' Both and Low: what they make is a row of the call's own. Condition: the bytes are within the reach.
-/
import Derived.Test.YtfpepdjffehbcaaGreatOctPut
set_option linter.unusedVariables false
set_option linter.unusedSimpArgs false
namespace Go.Proofs.YtfpepdjffehbcaaGreat
open Go.RowKit

theorem take_snoc {α : Type} (l : List α) (d : α) {k : Nat} (h : k < l.length) : l.take (k + 1) = l.take k ++ [l.getD k d] := by
  rw [List.take_succ_eq_append_getElem h]
  simp [List.getD_eq_getElem?_getD, h]
theorem ob_of {w : World} {base : Nat} {e : TypeId} {v : Value} {l : List UInt8} {n : Nat} {xs : List Value} (h : w.ownsRow base e 1 v n xs) (hn : n = l.length) (hx : xs = bvs l) : OB w base e v l := by
  subst hn; subst hx; exact h
theorem ob_snoc {w : World} {base : Nat} {e : TypeId} {v : Value} {l : List UInt8} {b : UInt8} {n : Nat} {i : Int} (h : w.ownsRow base e 1 v (n + 1) (bvs l ++ [.int .u8 i])) (hn : n = l.length) (hi : i = (b.toNat : Int)) : OB w base e v (l ++ [b]) := by
  subst hn; subst hi
  exact ob_of h (by simp) (by simp [bvs, bv])

/-- Low's row while it is filled. -/
def lowRow (n k x : Nat) : Array Value := (bvs (le k x) ++ List.replicate (n - k) (Value.int .u8 0)).toArray
theorem lowRow_set {n k x : Nat} {i : Int} (h : k < n) (hi : i = ((x / 256 ^ k % 256 : Nat) : Int)) : (lowRow n k x).setIfInBounds k (.int .u8 i) = lowRow n (k + 1) x := by
  subst hi
  unfold lowRow
  apply Array.ext'
  rw [Array.toList_setIfInBounds]
  simp only
  rw [List.set_append_right _ _ (by rw [bvs_len, le_len]; omega), bvs_len, le_len, Nat.sub_self, show n - k = (n - (k + 1)) + 1 by omega, List.replicate_succ, List.set_cons_zero, le_succ, bvs_append]
  simp [bvs, bv_of _ _ rfl]

set_option maxHeartbeats 1000000 in
theorem low_any (n x : Nat) (w : World) (hn : n ≤ 4) (hx : x < 4294967296) :
    Calls Tryz.prog 71 #[.int .u32 (x : Int), .int .i64 (n : Int)] w (MadeB w 5 (le n x)) := by
  obtain ⟨i0, hi0, hz0, hz1, hz2⟩ := info_parts byte_info
  have hmk := fun W : World => run_make (P := Tryz.prog) W 27 5 i0 _ Tryz.underlying27 hi0 hz0 .i64 .i64 n n (by omega) (by omega) (by rw [hz2]; omega) (by omega)
  have e0 : madeCells (Value.int .u8 0).cells (n * i0.size) = lowRow n 0 x := by
    rw [hz1]
    apply Array.ext'
    rw [show (Value.int .u8 0).cells = #[.int .u8 0] from rfl, toList_madeCells_one]
    simp [lowRow, le, bvs]
  simp only [Int.toNat_natCast, e0] at hmk
  clear e0
  go_enter Tryz.func71, Tryz.ntmps71
  go_wp2
  go_loopw [0, 6] (fun xv i wr => ∃ k : Nat, k ≤ n ∧ i = .int .i64 k ∧ xv = .int .u32 ((x / 256 ^ k : Nat) : Int) ∧ w.alloc (.cells (lowRow n k x) 5) = wr) (fun _ i _ => n - (intOf i).toNat)
  case atStart => exact ⟨0, Nat.zero_le _, rfl, by simp, rfl⟩
  case round =>
    obtain ⟨k, hk, rfl, rfl, rfl⟩ := hrel
    have hq : x / 256 ^ k < 4294967296 := Nat.lt_of_le_of_lt (Nat.div_le_self _ _) hx
    by_cases hlt : k < n
    · have hset := lowRow_set (x := x) hlt rfl
      have hsz : (lowRow n k x).size = n := by simp [lowRow, bvs_len, le_len]; omega
      have hcell : ∃ v, (w.alloc (.cells (lowRow n k x) 5)).cell? ⟨w.heap.size, k, none⟩ = some v := by
        rw [World.cell?_alloc_new]
        exact ⟨_, Array.getElem?_eq_getElem (by omega)⟩
      obtain ⟨v0, hv0⟩ := hcell
      have hnext : x / 256 ^ (k + 1) = x / 256 ^ k / 256 := by rw [Nat.pow_succ, Nat.div_div_eq_div_mul]
      generalize x / 256 ^ k = q at *
      have HN := Lib.hid hnext
      have HSET := Lib.hid hset
      clear hnext hset hsz
      go_wp2
      go_roundw
      case rel => exact ⟨k + 1, by omega, by go_num, by rw [HN.out]; go_num, by rw [← HSET.out]; rfl⟩
      case measure => simp [intOf]; omega
    · obtain rfl : k = n := by omega
      go_wp2
      go_ret
      refine ⟨_, rfl, ?_, (Below.refl _ _).alloc (Nat.le_refl _) _⟩
      have h := World.ownsRow_lit (base := w.heap.size) (e := 5) (size := 1) w (lowRow k k x) k (Nat.le_refl _) (by simp only [maxLen]; omega) (by simp [lowRow, bvs_len, le_len])
      exact ob_of (l := le k x) h (by rw [le_len]) (by simp [lowRow])
end Go.Proofs.YtfpepdjffehbcaaGreat
