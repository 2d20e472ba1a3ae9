/-
  The walks of the two checksums: each computes 'crc' of the bytes; memory stays as it is. No condition but that the slice reads as bytes.
-/
import Derived.Test.YtfpepdjffehbcaaGreatProg
import Derived.Test.YtfpepdjffehbcaaGreatBlocks
import Derived.Test.YtfpepdjffehbcaaGreatBunBytesP
import Derived.Outline
import Derived.Lib.Hide
set_option linter.unusedVariables false
set_option linter.unusedSimpArgs false
namespace Go.Proofs.YtfpepdjffehbcaaGreat
open Go.RowKit

theorem xor_b (c : Nat) (b : UInt8) (hc : c < 4294967296) : bits .xor .u32 (c : Int) (b.toNat : Int) = ((c ^^^ b.toNat : Nat) : Int) := by
  have := b.toNat_lt
  exact u32_xor_nat c b.toNat hc (by omega)
/-- The bit taken is the remainder. -/
theorem and_one (c : Nat) (hc : c < 4294967296) : bits .and .u32 (c : Int) 1 = ((c % 2 : Nat) : Int) := by
  rw [show (1 : Int) = ((1 : Nat) : Int) from rfl, u32_and_nat c 1 hc (by omega), nat_mask1]
theorem xor_poly (c : Nat) (hc : c < 4294967296) : bits .xor .u32 ((c : Int) / 2) 3988292384 = ((c / 2 ^^^ 3988292384 : Nat) : Int) := by
  rw [show ((c : Int) / 2) = ((c / 2 : Nat) : Int) by omega, show (3988292384 : Int) = ((3988292384 : Nat) : Int) from rfl, u32_xor_nat (c / 2) 3988292384 (by omega) (by omega)]
theorem one_yes (c : Nat) (hc : c < 4294967296) (h : (bits .and .u32 (c : Int) 1 == 1) = true) : bits .xor .u32 ((c : Int) / 2) 3988292384 = ((crc1 c : Nat) : Int) := by
  rw [and_one c hc] at h
  rw [xor_poly c hc]
  unfold crc1
  rw [if_pos (by have := of_decide_eq_true h; omega)]
theorem one_no (c : Nat) (hc : c < 4294967296) (h : (bits .and .u32 (c : Int) 1 == 1) = false) : ((c : Int) / 2) = ((crc1 c : Nat) : Int) := by
  rw [and_one c hc] at h
  unfold crc1
  rw [if_neg (by have := of_decide_eq_false h; omega)]
  omega
theorem all_xor (c : Nat) (h : c < 4294967296) : 4294967295 ^^^ c = 4294967295 - c := by
  have e : (BitVec.allOnes 32 ^^^ BitVec.ofNat 32 c).toNat = 4294967295 ^^^ c := by
    rw [BitVec.toNat_xor, BitVec.toNat_allOnes, BitVec.toNat_ofNat, Nat.mod_eq_of_lt (by omega)]
  rw [← e, BitVec.allOnes_xor, BitVec.toNat_not, BitVec.toNat_ofNat, Nat.mod_eq_of_lt (by omega)]
theorem not_raw (l : List UInt8) : bits .xor .u32 IntKind.u32.max (crcRaw l : Int) = ((crc l : Nat) : Int) := by
  have h := crcRaw_lt l
  rw [show IntKind.u32.max = ((4294967295 : Nat) : Int) from by decide, u32_xor_nat _ _ (by omega) h, all_xor _ h]
  rfl
theorem int_val {k : IntKind} {a b : Int} (h : a = b) : Value.int k a = Value.int k b := by rw [h]

set_option maxHeartbeats 400000 in
theorem crc_any (l : List UInt8) (A : Option Addr) (c : Nat) (B : Nat) (w : World) (hr : RB w B A l) (hm : l.length ≤ maxLen) :
    Calls Tryz.prog 36 #[.slice A l.length c] w fun e w' => e = .returned (.int .u32 (crc l : Int)) ∧ w = w' := by
  unfold maxLen at hm
  go_enter Tryz.func36, Tryz.ntmps36
  go_wp2
  go_loop [3, 5, 6, 9] (fun c _ _ i => ∃ k : Nat, k ≤ l.length ∧ i = .int .i64 k ∧ c = .int .u32 (crcRaw (l.take k) : Int)) (fun _ _ _ i => l.length - (intOf i).toNat)
  case atStart => exact ⟨0, Nat.zero_le _, rfl, rfl⟩
  case round =>
    obtain ⟨k, hk, rfl, rfl⟩ := hrel
    have h1 := crcRaw_lt (l.take k)
    by_cases hlt : k < l.length
    · obtain ⟨b, off, rfl, hb, hc⟩ := hr.at_ hlt
      have hs := crcRaw_take hlt
      generalize l.getD k 0 = by0 at *
      generalize crcRaw (l.take k) = c0 at *
      have hby := by0.toNat_lt
      have HX := Lib.hid (xor_b c0 by0 h1)
      have HS := Lib.hid hs
      clear hs
      go_wp2
      go_loop [3, 6, 17] (fun c _ i => ∃ j : Nat, j ≤ 8 ∧ i = .int .i64 j ∧ c = .int .u32 (crcN j (c0 ^^^ by0.toNat) : Int)) (fun _ _ i => 8 - (intOf i).toNat)
      case atStart => exact ⟨0, by omega, rfl, by rw [HX.out]; rfl⟩
      case round =>
        obtain ⟨j, hj, rfl, rfl⟩ := hrel
        have h2 := crcN_lt (xorB_lt h1 by0) j
        have hs2 : crcN (j + 1) (c0 ^^^ by0.toNat) = crc1 (crcN j (c0 ^^^ by0.toNat)) := rfl
        generalize hc1 : crcN j (c0 ^^^ by0.toNat) = c1 at *
        have HC := Lib.hid hc1.symm
        clear hc1
        have HS2 := Lib.hid hs2
        clear hs2
        by_cases hj8 : j < 8
        · go_wp2
          · go_round
            case rel => exact ⟨j + 1, by omega, by go_num, by rw [HS2.out]; exact int_val (one_yes c1 h2 ‹_›)⟩
            case measure => simp [intOf]; omega
          · go_round
            case rel => exact ⟨j + 1, by omega, by go_num, by rw [HS2.out]; exact int_val (one_no c1 h2 ‹_›)⟩
            case measure => simp [intOf]; omega
        · obtain rfl : j = 8 := by omega
          go_wp2
          go_round
          case rel => exact ⟨k + 1, by omega, by go_num, by rw [HS.out]; exact int_val (by rw [HC.out]; rfl)⟩
          case measure => simp [intOf]; omega
    · obtain rfl : k = l.length := by omega
      go_wp2
      go_ret
      exact ⟨ret_int (not_raw l), rfl⟩

theorem two_yes (c : Nat) (hc : c < 4294967296) (h : ((c : Int) % 2 == 1) = true) : bits .xor .u32 ((c : Int) / 2) 3988292384 = ((crc1 c : Nat) : Int) := by
  rw [xor_poly c hc]
  unfold crc1
  rw [if_pos (by have := of_decide_eq_true h; omega)]
theorem two_no (c : Nat) (h : ((c : Int) % 2 == 1) = false) : ((c : Int) / 2) = ((crc1 c : Nat) : Int) := by
  unfold crc1
  rw [if_neg (by have := of_decide_eq_false h; omega)]
  omega

set_option maxHeartbeats 400000 in
theorem refcrc_any (l : List UInt8) (A : Option Addr) (c : Nat) (B : Nat) (w : World) (hr : RB w B A l) (hm : l.length ≤ maxLen) :
    Calls Tryz.prog 45 #[.slice A l.length c] w fun e w' => e = .returned (.int .u32 (crc l : Int)) ∧ w = w' := by
  unfold maxLen at hm
  go_enter Tryz.func45, Tryz.ntmps45
  go_wp2
  go_loop [3, 4, 5] (fun c i _ => ∃ k : Nat, k ≤ l.length ∧ i = .int .i64 k ∧ c = .int .u32 (crcRaw (l.take k) : Int)) (fun _ i _ => l.length - (intOf i).toNat)
  case atStart => exact ⟨0, Nat.zero_le _, rfl, rfl⟩
  case round =>
    obtain ⟨k, hk, rfl, rfl⟩ := hrel
    have h1 := crcRaw_lt (l.take k)
    by_cases hlt : k < l.length
    · obtain ⟨b, off, rfl, hb, hc⟩ := hr.at_ hlt
      have hs := crcRaw_take hlt
      generalize l.getD k 0 = by0 at *
      generalize crcRaw (l.take k) = c0 at *
      have hby := by0.toNat_lt
      have HX := Lib.hid (xor_b c0 by0 h1)
      have HS := Lib.hid hs
      clear hs
      go_wp2
      go_loop [3, 5] (fun c i => ∃ j : Nat, j ≤ 8 ∧ i = .int .i64 j ∧ c = .int .u32 (crcN j (c0 ^^^ by0.toNat) : Int)) (fun _ i => 8 - (intOf i).toNat)
      case atStart => exact ⟨0, by omega, rfl, by rw [HX.out]; rfl⟩
      case round =>
        obtain ⟨j, hj, rfl, rfl⟩ := hrel
        have h2 := crcN_lt (xorB_lt h1 by0) j
        have hs2 : crcN (j + 1) (c0 ^^^ by0.toNat) = crc1 (crcN j (c0 ^^^ by0.toNat)) := rfl
        generalize hc1 : crcN j (c0 ^^^ by0.toNat) = c1 at *
        have HC := Lib.hid hc1.symm
        clear hc1
        have HS2 := Lib.hid hs2
        clear hs2
        by_cases hj8 : j < 8
        · go_wp2
          · go_round
            case rel => exact ⟨j + 1, by omega, by go_num, by rw [HS2.out]; exact int_val (two_yes c1 h2 ‹_›)⟩
            case measure => simp [intOf]; omega
          · go_round
            case rel => exact ⟨j + 1, by omega, by go_num, by rw [HS2.out]; exact int_val (two_no c1 ‹_›)⟩
            case measure => simp [intOf]; omega
        · obtain rfl : j = 8 := by omega
          go_wp2
          go_round
          case rel => exact ⟨k + 1, by omega, by go_num, by rw [HS.out]; exact int_val (by rw [HC.out]; rfl)⟩
          case measure => simp [intOf]; omega
    · obtain rfl : k = l.length := by omega
      have hraw := crcRaw_lt l
      go_wp2
      go_ret
      exact ⟨ret_int (by unfold crc; omega), rfl⟩
end Go.Proofs.YtfpepdjffehbcaaGreat
