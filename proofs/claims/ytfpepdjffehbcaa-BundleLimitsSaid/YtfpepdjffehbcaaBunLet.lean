/-
  The walk of the law's letters. Condition: the number has four letters.
-/
import Derived.Test.YtfpepdjffehbcaaBunLimP
import Derived.Test.YtfpepdjffehbcaaBunOpen
set_option linter.unusedVariables false
set_option linter.unusedSimpArgs false
namespace Go.Proofs.Ytfpepdjffehbcaa
open Go.RowKit

def nK (i k : Nat) : Nat := match k with
  | 0 => i
  | 1 => i / 26
  | 2 => i / 676
  | 3 => i / 17576
  | _ => i / 456976
def sK (i k : Nat) : ByteArray := match k with
  | 0 => ⟨#[]⟩
  | 1 => ⟨#[letC i]⟩
  | 2 => ⟨#[letC (i / 26), letC i]⟩
  | 3 => ⟨#[letC (i / 676), letC (i / 26), letC i]⟩
  | _ => letS i
theorem nK_next {i k : Nat} (hk : k < 4) : nK i k / 26 = nK i (k + 1) := by
  match k, hk with
  | 0, _ => rfl
  | 1, _ => show i / 26 / 26 = i / 676; omega
  | 2, _ => show i / 676 / 26 = i / 17576; omega
  | 3, _ => show i / 17576 / 26 = i / 456976; omega
theorem nK_le (i k : Nat) : nK i k ≤ i := by
  unfold nK
  split <;> omega
theorem sK_size (i k : Nat) : (sK i k).size ≤ 4 := by
  unfold sK
  split
  · exact Nat.zero_le _
  · exact (by decide : 1 ≤ 4)
  · exact (by decide : 2 ≤ 4)
  · exact (by decide : 3 ≤ 4)
  · exact (by decide : 4 ≤ 4)
theorem enc_letter (n : Nat) : Utf8.encode (97 + (n : Int) % 26) = ⟨#[letC n]⟩ := by
  have h : ∀ r : Fin 26, Utf8.encode (97 + ((r.val : Nat) : Int)) = ⟨#[UInt8.ofNat (97 + r.val)]⟩ := by decide
  have := h ⟨n % 26, Nat.mod_lt _ (by omega)⟩
  rw [show (97 : Int) + (n : Int) % 26 = 97 + ((n % 26 : Nat) : Int) by omega]
  exact this
theorem sK_next {i k : Nat} (hk : k < 4) : (⟨#[letC (nK i k)]⟩ : ByteArray) ++ sK i k = sK i (k + 1) := by
  match k, hk with
  | 0, _ => rfl
  | 1, _ => rfl
  | 2, _ => rfl
  | 3, _ => rfl
set_option maxHeartbeats 2000000 in
theorem letters_any (i : Nat) (w : World) (hi : i < 456976) : Calls Try.prog 10 #[.int .i64 (i : Int)] w fun e w' => e = .returned (.string (letS i)) ∧ w' = w := by
  go_enter Try.func10, Try.ntmps10
  go_wp2
  go_loopw [0, 3, 4] (fun nv sv kv W => ∃ k : Nat, kv = .int .i64 (k : Int) ∧ k ≤ 4 ∧ nv = .int .i64 (nK i k : Int) ∧ sv = .string (sK i k) ∧ W = w) (fun _ _ kv _ => 4 - (Lib.intOf kv).toNat)
  case atStart => exact ⟨0, rfl, Nat.zero_le _, rfl, rfl, rfl⟩
  case round =>
    obtain ⟨k, rfl, hk, rfl, rfl, rfl⟩ := hrel
    by_cases hlt : k < 4
    · have hq : (k : Int) < 4 := by omega
      have hn1 := nK_le i k
      have HN := Lib.hid (nK_next (i := i) hlt)
      have HS := Lib.hid (sK_next (i := i) hlt)
      have hsz := sK_size i k
      obtain ⟨n, hn⟩ : ∃ n, nK i k = n := ⟨_, rfl⟩
      obtain ⟨s, hs⟩ : ∃ s, sK i k = s := ⟨_, rfl⟩
      rw [hn] at HN HS hn1 ⊢
      rw [hs] at HS hsz ⊢
      have henc := enc_letter n
      have hes : (⟨#[letC n]⟩ : ByteArray).size = 1 := rfl
      have hls : ¬ 9223372036854775807 < 1 + s.size := by omega
      clear hn hs
      go_wp2
      go_roundw
      case rel => exact ⟨k + 1, by go_num, by omega, by rw [← HN.out]; rfl, by rw [HS.out], trivial⟩
      case measure => simp [Lib.intOf]; omega
    · obtain rfl : k = 4 := by omega
      go_wp2
      go_ret
      exact ⟨rfl, rfl⟩
end Go.Proofs.Ytfpepdjffehbcaa
