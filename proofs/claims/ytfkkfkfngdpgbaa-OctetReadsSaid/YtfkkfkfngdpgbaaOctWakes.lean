/-
  The walk of the laws' 'wakes': it answers true. No condition.
-/
import Derived.Test.YtfkkfkfngdpgbaaOctMeth
import Derived.Test.YtfkkfkfngdpgbaaCrc
import Derived.Lib.SlBytesConst
namespace Go.Proofs.Ytfkkfkfngdpgbaa
open Go.RowKit

theorem crc_check : (crc [49, 50, 51, 52, 53, 54, 55, 56, 57] : Int) = 3421780262 := by decide +kernel

theorem rb_three (w : World) (B : Nat) (h : w.heap.size + 1 ≤ B) : RB (w.alloc (.cells #[.int .u8 2, .int .u8 1, .int .u8 5] 5)) B (some ⟨w.heap.size, 0, none⟩) [2, 1, 5] :=
  Reads.more (reads_new w #[.int .u8 2, .int .u8 1, .int .u8 5] 5 1 3 rfl) h
theorem rb_nine (w : World) (B : Nat) (h : w.heap.size + 1 ≤ B) : RB (w.alloc (.cells #[.int .u8 49, .int .u8 50, .int .u8 51, .int .u8 52, .int .u8 53, .int .u8 54, .int .u8 55, .int .u8 56, .int .u8 57] 5 (9, 10))) B (some ⟨w.heap.size, 0, none⟩) [49, 50, 51, 52, 53, 54, 55, 56, 57] :=
  Reads.more (reads_new_mark w #[.int .u8 49, .int .u8 50, .int .u8 51, .int .u8 52, .int .u8 53, .int .u8 54, .int .u8 55, .int .u8 56, .int .u8 57] 5 (9, 10) 1 9 rfl) h
theorem below_mono {B B' : Nat} {w w' : World} (h : Below B w w') (hB : B' ≤ B) : Below B' w w' := h.mono hB

set_option maxHeartbeats 1000000 in
theorem wakes_any (w : World) : Calls Try.prog 11 #[] w fun e w' => e = .returned (.bool true) ∧ Below w.heap.size w w' := by
  have kc := fun (w : World) (C : Array Value) (n c : Nat) => Lib.run_convert_bytes_const (P := Try.prog) w 22 5 C n c Try.underlying22 Try.underlying5
  go_enter Try.func11, Try.ntmps11
  go_wp2_with fail
  refine (read_any [2, 1, 5] _ 3 (w.heap.size + 1) _ (rb_three w _ (Nat.le_refl _)) (by simp) (by simp)).mono ?_
  rintro e w1 ⟨g, A', c', rfl, hR, hg, hb⟩
  have hb1 : Below w.heap.size w w1 := ((Below.refl _ _).alloc (Nat.le_refl _) _).trans (below_mono hb (by simp))
  go_wp2_with fail
  refine (u16_any g c' A' [2, 1, 5] 0 0 w1 hR).mono ?_
  have hg1 : w.heap.size ≤ g := by simp at hg; omega
  rintro e w2 ⟨rfl, hR2, hO2⟩
  have hb2 : Below w.heap.size w w2 := hb1.trans (hO2.below hg1 hb1.size)
  clear hb1 hR hO2 hb hg
  have e2 : (num (takeM [2, 1, 5] 0 0 2).1 : Int) = 258 := by decide +kernel
  rw [e2]
  clear e2
  go_wp2_with fail
  refine (left_any g c' A' [2, 1, 5] _ _ w2 hR2).mono ?_
  rintro e w3 ⟨rfl, k, hk⟩
  have e3 : ((([2, 1, 5] : List UInt8).length : Int) - ((takeM [2, 1, 5] 0 0 2).2.1 : Int)) = 1 := by decide +kernel
  rw [e3]
  clear e3
  have hb3 : Below w.heap.size w w3 := by rw [← hk]; exact below_drewN hb2 k
  clear hk
  have hz := hb3.size
  go_wp2_with fail
  refine (crc_any [49, 50, 51, 52, 53, 54, 55, 56, 57] _ 9 (w3.heap.size + 1) _ (rb_nine _ _ (Nat.le_refl _)) (by simp [maxLen])).mono ?_
  rintro e w4 ⟨rfl, rfl⟩
  rw [crc_check]
  go_wp2_with fail
  go_ret
  exact ⟨rfl, hb3.alloc hz _⟩
end Go.Proofs.Ytfkkfkfngdpgbaa
