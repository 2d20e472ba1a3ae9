/-
  The walks of the document's Form and Broken. Condition: the string is within the reach.
-/
import Derived.Test.YtjebaibcfmjinaaFormLaw
import Derived.Laws.Bits
import Derived.Test.YtjebaibcfmjinaaPathVal
namespace Go.Proofs.Ytjebaibcfmjinaa
open Go.RowKit

theorem acc_next (s : ByteArray) (p r k : Nat) (h : 1 ≤ k) : accN s p r k = accN s p r (k - 1) * 64 + byN s (p + k) % 64 := by
  cases k with
  | zero => omega
  | succ k => rfl
theorem acc_small {s : ByteArray} {p n r k : Nat} (hn : headN (byN s p) = some (n, r)) (h2 : k < n) : accN s p r k < 2097152 := by
  have h := acc_lt s p r k
  rcases head_cases hn with ⟨rfl, a, b, rfl⟩ | ⟨rfl, a, b, rfl⟩ | ⟨rfl, a, b, rfl⟩
  · rcases (by omega : k = 0 ∨ k = 1) with rfl | rfl <;> simp at h <;> omega
  · rcases (by omega : k = 0 ∨ k = 1 ∨ k = 2) with rfl | rfl | rfl <;> simp at h <;> omega
  · rcases (by omega : k = 0 ∨ k = 1 ∨ k = 2 ∨ k = 3) with rfl | rfl | rfl | rfl <;> simp at h <;> omega
theorem acc_join {s : ByteArray} {p n r k : Nat} (hn : headN (byN s p) = some (n, r)) (h1 : 1 ≤ k) (h2 : k < n) :
    bits .or .i32 (IntKind.i32.wrap ((accN s p r (k - 1) : Int) * 64)) ((byN s (p + k) % 64 : Nat) : Int) = (accN s p r k : Int) := by
  have hl := acc_small hn h2
  rw [acc_next s p r k h1] at hl ⊢
  have hx : IntKind.i32.wrap ((accN s p r (k - 1) : Int) * 64) = (accN s p r (k - 1) : Int) * 64 := by
    rw [IntKind.wrap_i32]
    omega
  rw [hx, i32_or6 _ _ (by omega) (by omega) (by omega) (by omega) (by omega)]
  omega
theorem acc_join' {s : ByteArray} {p n r k : Nat} (hn : headN (byN s p) = some (n, r)) (h1 : 1 ≤ k) (h2 : k < n) :
    bits .or .i32 (wrap32 ((accN s p r (k - 1) : Int) * 64)) ((byN s (p + k) : Int) % 64) = (accN s p r k : Int) := by
  have h := acc_join hn h1 h2
  rw [Int.natCast_emod] at h
  have e : ∀ x, wrap32 x = IntKind.i32.wrap x := fun x => by rw [wrap32, IntKind.wrap_i32]
  rw [e]
  exact h
theorem conts_more {s : ByteArray} {p k : Nat} (h : ∀ j, 1 ≤ j → j < k → contN s (p + j) = true) (hk : contN s (p + k) = true) : ∀ j, 1 ≤ j → j < k + 1 → contN s (p + j) = true := by
  intro j h1 h2
  rcases Nat.lt_or_ge j k with h3 | h3
  · exact h j h1 h3
  · obtain rfl : j = k := by omega
    exact hk
def FormPost (s : ByteArray) (p : Nat) (w : World) (en : Ending) (w' : World) : Prop := ∃ r n : Int, en = .returned (.tuple #[.int .i32 r, .int .i64 n]) ∧ FormIs s p r n ∧ w' = w

set_option maxHeartbeats 4000000 in
set_option maxRecDepth 100000 in
theorem form_any (s : ByteArray) (p : Nat) (w : World) (hp : p < s.size) (hs : s.size ≤ 140737488355328) :
    Calls Try.prog 57 #[.string s, .int .i64 (p : Int)] w (FormPost s p w) := by
  have hb := byN_at hp
  have hq : (p : Int) < (s.size : Int) := by omega
  have h8 : byN s p < 256 := UInt8.toNat_lt _
  by_cases hlow : byN s p < 128
  · have HF := Lib.hid (form_low hlow)
    have h0 : (s[p].toNat : Int) < 128 := by omega
    rw [hb] at HF
    clear hlow hb h8
    go_enter Try.func57, Try.ntmps57
    go_wp2
    go_ret2
    exact ⟨_, _, rfl, HF.out, rfl⟩
  · have h0 : ¬ (s[p].toNat : Int) < 128 := by omega
    cases hn : headN (byN s p) with
    | none =>
      have HF := Lib.hid (form_none hlow hn)
      have hx : (s[p].toNat : Int) < 194 ∨ 244 < (s[p].toNat : Int) := by
        unfold headN at hn
        split at hn
        · cases hn
        · split at hn
          · cases hn
          · split at hn
            · cases hn
            · omega
      clear hlow hb h8 hn
      rcases hx with hx | hx
      · have h1 : ¬ (194 : Int) ≤ (s[p].toNat : Int) := by omega
        have h2 : ¬ (224 : Int) ≤ (s[p].toNat : Int) := by omega
        have h3 : ¬ (240 : Int) ≤ (s[p].toNat : Int) := by omega
        clear hx
        go_enter Try.func57, Try.ntmps57
        go_wp2
        go_ret2
        exact ⟨_, _, rfl, HF.out, rfl⟩
      · have h1 : (194 : Int) ≤ (s[p].toNat : Int) := by omega
        have h2 : (224 : Int) ≤ (s[p].toNat : Int) := by omega
        have h3 : (240 : Int) ≤ (s[p].toNat : Int) := by omega
        have h4 : ¬ (s[p].toNat : Int) ≤ 223 := by omega
        have h5 : ¬ (s[p].toNat : Int) ≤ 239 := by omega
        have h6 : ¬ (s[p].toNat : Int) ≤ 244 := by omega
        clear hx
        go_enter Try.func57, Try.ntmps57
        go_wp2
        go_ret2
        exact ⟨_, _, rfl, HF.out, rfl⟩
    | some nr =>
      obtain ⟨n, r⟩ := nr
      rcases head_cases hn with ⟨rfl, a1, a2, hr⟩ | ⟨rfl, a1, a2, hr⟩ | ⟨rfl, a1, a2, hr⟩
      · have h1 : (194 : Int) ≤ (s[p].toNat : Int) := by omega
        have h4 : (s[p].toNat : Int) ≤ 223 := by omega
        have hA : bits .and .u8 (s[p].toNat : Int) 31 = (r : Int) := by rw [hr, hb, u8_and31 _ (by omega) (by omega)]; omega
        have hC : IntKind.i32.wrap (r : Int) = (r : Int) := by rw [IntKind.wrap_i32]; omega
        have HN := Lib.hid hn
        clear hr hn hb h8 hlow a1 a2
        by_cases hpast : s.size < p + 2
        · have HF := Lib.hid (form_past HN.out hpast)
          have hps : (s.size : Int) < (p : Int) + 2 := by omega
          clear hpast
          go_enter Try.func57, Try.ntmps57
          go_wp2
          go_ret2
          exact ⟨_, _, rfl, HF.out, rfl⟩
        · have hps : ¬ (s.size : Int) < (p : Int) + 2 := by omega
          have HP := Lib.hid (show p + 2 ≤ s.size by omega)
          clear hpast
          go_enter Try.func57, Try.ntmps57
          go_wp2
          go_loopw [8, 9, 10] (fun rv iv _ wr => wr = w ∧ ∃ k : Nat, rv = .int .i32 (accN s p r (k - 1) : Int) ∧ iv = .int .i64 (k : Int) ∧ 1 ≤ k ∧ k ≤ 2 ∧ ∀ j, 1 ≤ j → j < k → contN s (p + j) = true) (fun _ iv _ _ => 4 - (Lib.intOf iv).toNat)
          case atStart => exact ⟨rfl, 1, rfl, rfl, Nat.le_refl _, by omega, fun j h1 h2 => by omega⟩
          case round =>
            obtain ⟨rfl, k, rfl, rfl, hk1, hk2, hcs⟩ := hrel
            have HCS := Lib.hid hcs
            clear hcs
            by_cases hk : k < 2
            · have hki : (k : Int) < 2 := by omega
              have hin : p + k < s.size := by have := HP.out; omega
              have hin2 : (p : Int) + (k : Int) < (s.size : Int) := by omega
              have hby := byN_at hin
              have h9 : byN s (p + k) < 256 := UInt8.toNat_lt _
              have hM : bits .and .u8 (s[p + k].toNat : Int) 192 = ((byN s (p + k) / 64 * 64 : Nat) : Int) := by rw [hby]; exact and192 _ (UInt8.toNat_lt _)
              have hM63 : bits .and .u8 (s[p + k].toNat : Int) 63 = ((byN s (p + k) % 64 : Nat) : Int) := by rw [hby, u8_and63 _ (by omega) (by omega)]; omega
              have hC63 : IntKind.i32.wrap ((byN s (p + k) % 64 : Nat) : Int) = ((byN s (p + k) % 64 : Nat) : Int) := by rw [IntKind.wrap_i32]; omega
              have HJ := Lib.hid (acc_join' HN.out hk1 hk)
              have HCT := Lib.hid (cont_at hin)
              by_cases hc : byN s (p + k) / 64 = 2
              · have hcm : (((byN s (p + k) / 64 * 64 : Nat) : Int) == 128) = true := by rw [hc]; rfl
                have HCK := Lib.hid (show contN s (p + k) = true by rw [HCT.out, hc]; rfl)
                clear hc hby h9
                go_wp2
                go_roundw
                case rel => exact ⟨trivial, k + 1, by simp; exact HJ.out, by simp, by omega, by omega, conts_more HCS.out HCK.out⟩
                case measure => simp [Lib.intOf]; omega
              · have hcm : (((byN s (p + k) / 64 * 64 : Nat) : Int) == 128) = false := by rw [beq_eq_false_iff_ne]; omega
                have HF := Lib.hid (form_cont HN.out hk1 hk (by rw [HCT.out]; rw [beq_eq_false_iff_ne]; exact hc))
                clear hc hby h9 HJ
                go_wp2
                go_ret2
                exact ⟨_, _, rfl, HF.out, rfl⟩
            · obtain rfl : k = 2 := by omega
              have HA := Lib.hid (form_all HN.out HCS.out)
              have HL := Lib.hid (acc_small HN.out (k := 2 - 1) (by omega))
              clear hk hk1 hk2
              simp only [Nat.reduceSub] at *
              generalize hx : accN s p r 1 = x at *
              have HF := Lib.hid (show FormIs s p (x : Nat) 2 from by have := HA.out; rwa [if_neg (by simp [badR])] at this)
              clear hx
              go_wp2
              go_ret2
              exact ⟨_, _, rfl, HF.out, rfl⟩
      · have h1 : (194 : Int) ≤ (s[p].toNat : Int) := by omega
        have h2 : (224 : Int) ≤ (s[p].toNat : Int) := by omega
        have h4 : ¬ (s[p].toNat : Int) ≤ 223 := by omega
        have h5 : (s[p].toNat : Int) ≤ 239 := by omega
        have hA : bits .and .u8 (s[p].toNat : Int) 15 = (r : Int) := by rw [hr, hb, u8_and15 _ (by omega) (by omega)]; omega
        have hC : IntKind.i32.wrap (r : Int) = (r : Int) := by rw [IntKind.wrap_i32]; omega
        have HN := Lib.hid hn
        clear hr hn hb h8 hlow a1 a2
        by_cases hpast : s.size < p + 3
        · have HF := Lib.hid (form_past HN.out hpast)
          have hps : (s.size : Int) < (p : Int) + 3 := by omega
          clear hpast
          go_enter Try.func57, Try.ntmps57
          go_wp2
          go_ret2
          exact ⟨_, _, rfl, HF.out, rfl⟩
        · have hps : ¬ (s.size : Int) < (p : Int) + 3 := by omega
          have HP := Lib.hid (show p + 3 ≤ s.size by omega)
          clear hpast
          go_enter Try.func57, Try.ntmps57
          go_wp2
          go_loopw [8, 9, 10] (fun rv iv _ wr => wr = w ∧ ∃ k : Nat, rv = .int .i32 (accN s p r (k - 1) : Int) ∧ iv = .int .i64 (k : Int) ∧ 1 ≤ k ∧ k ≤ 3 ∧ ∀ j, 1 ≤ j → j < k → contN s (p + j) = true) (fun _ iv _ _ => 4 - (Lib.intOf iv).toNat)
          case atStart => exact ⟨rfl, 1, rfl, rfl, Nat.le_refl _, by omega, fun j h1 h2 => by omega⟩
          case round =>
            obtain ⟨rfl, k, rfl, rfl, hk1, hk2, hcs⟩ := hrel
            have HCS := Lib.hid hcs
            clear hcs
            by_cases hk : k < 3
            · have hki : (k : Int) < 3 := by omega
              have hin : p + k < s.size := by have := HP.out; omega
              have hin2 : (p : Int) + (k : Int) < (s.size : Int) := by omega
              have hby := byN_at hin
              have h9 : byN s (p + k) < 256 := UInt8.toNat_lt _
              have hM : bits .and .u8 (s[p + k].toNat : Int) 192 = ((byN s (p + k) / 64 * 64 : Nat) : Int) := by rw [hby]; exact and192 _ (UInt8.toNat_lt _)
              have hM63 : bits .and .u8 (s[p + k].toNat : Int) 63 = ((byN s (p + k) % 64 : Nat) : Int) := by rw [hby, u8_and63 _ (by omega) (by omega)]; omega
              have hC63 : IntKind.i32.wrap ((byN s (p + k) % 64 : Nat) : Int) = ((byN s (p + k) % 64 : Nat) : Int) := by rw [IntKind.wrap_i32]; omega
              have HJ := Lib.hid (acc_join' HN.out hk1 hk)
              have HCT := Lib.hid (cont_at hin)
              by_cases hc : byN s (p + k) / 64 = 2
              · have hcm : (((byN s (p + k) / 64 * 64 : Nat) : Int) == 128) = true := by rw [hc]; rfl
                have HCK := Lib.hid (show contN s (p + k) = true by rw [HCT.out, hc]; rfl)
                clear hc hby h9
                go_wp2
                go_roundw
                case rel => exact ⟨trivial, k + 1, by simp; exact HJ.out, by simp, by omega, by omega, conts_more HCS.out HCK.out⟩
                case measure => simp [Lib.intOf]; omega
              · have hcm : (((byN s (p + k) / 64 * 64 : Nat) : Int) == 128) = false := by rw [beq_eq_false_iff_ne]; omega
                have HF := Lib.hid (form_cont HN.out hk1 hk (by rw [HCT.out]; rw [beq_eq_false_iff_ne]; exact hc))
                clear hc hby h9 HJ
                go_wp2
                go_ret2
                exact ⟨_, _, rfl, HF.out, rfl⟩
            · obtain rfl : k = 3 := by omega
              have HA := Lib.hid (form_all HN.out HCS.out)
              have HL := Lib.hid (acc_small HN.out (k := 3 - 1) (by omega))
              clear hk hk1 hk2
              simp only [Nat.reduceSub] at *
              generalize hx : accN s p r 2 = x at *
              rcases (by omega : x < 2048 ∨ (55296 ≤ x ∧ x ≤ 57343) ∨ (2048 ≤ x ∧ x < 55296) ∨ 57343 < x) with h | h | h | h
              · have q0 : (x : Int) < 2048 := by omega
                have HF := Lib.hid (show FormIs s p (-1) 1 from by have := HA.out; rwa [if_pos (by simp [badR]; omega)] at this)
                clear hx h HA
                go_wp2
                go_ret2
                exact ⟨_, _, rfl, HF.out, rfl⟩
              · have q0 : ¬ (x : Int) < 2048 := by omega
                have q1 : (55296 : Int) ≤ (x : Int) := by omega
                have q2 : (x : Int) ≤ 57343 := by omega
                have HF := Lib.hid (show FormIs s p (-1) 1 from by have := HA.out; rwa [if_pos (by simp [badR]; omega)] at this)
                clear hx h HA
                go_wp2
                go_ret2
                exact ⟨_, _, rfl, HF.out, rfl⟩
              · have q0 : ¬ (x : Int) < 2048 := by omega
                have q1 : ¬ (55296 : Int) ≤ (x : Int) := by omega
                have HF := Lib.hid (show FormIs s p (x : Nat) 3 from by have := HA.out; rwa [if_neg (by simp [badR]; omega)] at this)
                clear hx h HA
                go_wp2
                go_ret2
                exact ⟨_, _, rfl, HF.out, rfl⟩
              · have q0 : ¬ (x : Int) < 2048 := by omega
                have q1 : (55296 : Int) ≤ (x : Int) := by omega
                have q2 : ¬ (x : Int) ≤ 57343 := by omega
                have HF := Lib.hid (show FormIs s p (x : Nat) 3 from by have := HA.out; rwa [if_neg (by simp [badR]; omega)] at this)
                clear hx h HA
                go_wp2
                go_ret2
                exact ⟨_, _, rfl, HF.out, rfl⟩
      · have h1 : (194 : Int) ≤ (s[p].toNat : Int) := by omega
        have h2 : (224 : Int) ≤ (s[p].toNat : Int) := by omega
        have h3 : (240 : Int) ≤ (s[p].toNat : Int) := by omega
        have h4 : ¬ (s[p].toNat : Int) ≤ 223 := by omega
        have h5 : ¬ (s[p].toNat : Int) ≤ 239 := by omega
        have h6 : (s[p].toNat : Int) ≤ 244 := by omega
        have hA : bits .and .u8 (s[p].toNat : Int) 7 = (r : Int) := by rw [hr, hb, u8_and7 _ (by omega) (by omega)]; omega
        have hC : IntKind.i32.wrap (r : Int) = (r : Int) := by rw [IntKind.wrap_i32]; omega
        have HN := Lib.hid hn
        clear hr hn hb h8 hlow a1 a2
        by_cases hpast : s.size < p + 4
        · have HF := Lib.hid (form_past HN.out hpast)
          have hps : (s.size : Int) < (p : Int) + 4 := by omega
          clear hpast
          go_enter Try.func57, Try.ntmps57
          go_wp2
          go_ret2
          exact ⟨_, _, rfl, HF.out, rfl⟩
        · have hps : ¬ (s.size : Int) < (p : Int) + 4 := by omega
          have HP := Lib.hid (show p + 4 ≤ s.size by omega)
          clear hpast
          go_enter Try.func57, Try.ntmps57
          go_wp2
          go_loopw [8, 9, 10] (fun rv iv _ wr => wr = w ∧ ∃ k : Nat, rv = .int .i32 (accN s p r (k - 1) : Int) ∧ iv = .int .i64 (k : Int) ∧ 1 ≤ k ∧ k ≤ 4 ∧ ∀ j, 1 ≤ j → j < k → contN s (p + j) = true) (fun _ iv _ _ => 4 - (Lib.intOf iv).toNat)
          case atStart => exact ⟨rfl, 1, rfl, rfl, Nat.le_refl _, by omega, fun j h1 h2 => by omega⟩
          case round =>
            obtain ⟨rfl, k, rfl, rfl, hk1, hk2, hcs⟩ := hrel
            have HCS := Lib.hid hcs
            clear hcs
            by_cases hk : k < 4
            · have hki : (k : Int) < 4 := by omega
              have hin : p + k < s.size := by have := HP.out; omega
              have hin2 : (p : Int) + (k : Int) < (s.size : Int) := by omega
              have hby := byN_at hin
              have h9 : byN s (p + k) < 256 := UInt8.toNat_lt _
              have hM : bits .and .u8 (s[p + k].toNat : Int) 192 = ((byN s (p + k) / 64 * 64 : Nat) : Int) := by rw [hby]; exact and192 _ (UInt8.toNat_lt _)
              have hM63 : bits .and .u8 (s[p + k].toNat : Int) 63 = ((byN s (p + k) % 64 : Nat) : Int) := by rw [hby, u8_and63 _ (by omega) (by omega)]; omega
              have hC63 : IntKind.i32.wrap ((byN s (p + k) % 64 : Nat) : Int) = ((byN s (p + k) % 64 : Nat) : Int) := by rw [IntKind.wrap_i32]; omega
              have HJ := Lib.hid (acc_join' HN.out hk1 hk)
              have HCT := Lib.hid (cont_at hin)
              by_cases hc : byN s (p + k) / 64 = 2
              · have hcm : (((byN s (p + k) / 64 * 64 : Nat) : Int) == 128) = true := by rw [hc]; rfl
                have HCK := Lib.hid (show contN s (p + k) = true by rw [HCT.out, hc]; rfl)
                clear hc hby h9
                go_wp2
                go_roundw
                case rel => exact ⟨trivial, k + 1, by simp; exact HJ.out, by simp, by omega, by omega, conts_more HCS.out HCK.out⟩
                case measure => simp [Lib.intOf]; omega
              · have hcm : (((byN s (p + k) / 64 * 64 : Nat) : Int) == 128) = false := by rw [beq_eq_false_iff_ne]; omega
                have HF := Lib.hid (form_cont HN.out hk1 hk (by rw [HCT.out]; rw [beq_eq_false_iff_ne]; exact hc))
                clear hc hby h9 HJ
                go_wp2
                go_ret2
                exact ⟨_, _, rfl, HF.out, rfl⟩
            · obtain rfl : k = 4 := by omega
              have HA := Lib.hid (form_all HN.out HCS.out)
              have HL := Lib.hid (acc_small HN.out (k := 4 - 1) (by omega))
              clear hk hk1 hk2
              simp only [Nat.reduceSub] at *
              generalize hx : accN s p r 3 = x at *
              rcases (by omega : x < 65536 ∨ 1114111 < x ∨ (65536 ≤ x ∧ x ≤ 1114111)) with h | h | h
              · have q0 : (x : Int) < 65536 := by omega
                have HF := Lib.hid (show FormIs s p (-1) 1 from by have := HA.out; rwa [if_pos (by simp [badR]; omega)] at this)
                clear hx h HA
                go_wp2
                go_ret2
                exact ⟨_, _, rfl, HF.out, rfl⟩
              · have q0 : ¬ (x : Int) < 65536 := by omega
                have q1 : (1114111 : Int) < (x : Int) := by omega
                have HF := Lib.hid (show FormIs s p (-1) 1 from by have := HA.out; rwa [if_pos (by simp [badR]; omega)] at this)
                clear hx h HA
                go_wp2
                go_ret2
                exact ⟨_, _, rfl, HF.out, rfl⟩
              · have q0 : ¬ (x : Int) < 65536 := by omega
                have q1 : ¬ (1114111 : Int) < (x : Int) := by omega
                have HF := Lib.hid (show FormIs s p (x : Nat) 4 from by have := HA.out; rwa [if_neg (by simp [badR]; omega)] at this)
                clear hx h HA
                go_wp2
                go_ret2
                exact ⟨_, _, rfl, HF.out, rfl⟩
end Go.Proofs.Ytjebaibcfmjinaa
