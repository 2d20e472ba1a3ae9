/-
  The walks of the order of rows and tables: cmp.Compare, cmp.Or, byKey, slices.CompareFunc, pool.Compare and its closure. Condition: the tables are within the reach.
-/
import Derived.Test.YtagekiaejhjpnaaPoolRow
namespace Go.Proofs.Ytagekiaejhjpnaa
open Go.RowKit

theorem isnan_any (x : Int) (w : World) : Calls Try.prog 48 #[.int .u32 x] w fun e w' => e = .returned (.bool false) ∧ w = w' := by
  go_enter Try.func48, Try.ntmps48
  go_wp2
  go_ret
  exact ⟨by simp, rfl⟩
theorem cmpu_any (a b : Int) (w : World) : Calls Try.prog 36 #[.int .u32 a, .int .u32 b] w fun e w' => e = .returned (.int .i64 (cmpU a b)) ∧ w = w' := by
  have HN := Lib.hid (fun x => isnan_any x w)
  by_cases h1 : a < b
  · have HC := Lib.hid (show cmpU a b = -1 by unfold cmpU; rw [if_pos h1])
    have h2 : decide (a < b) = true := by simpa using h1
    go_enter Try.func36, Try.ntmps36
    go_wp2_with (go_at_call 48; refine (HN.out _).mono ?_; rintro e w' ⟨rfl, rfl⟩)
    go_ret
    exact ⟨by rw [HC.out]; rfl, rfl⟩
  · by_cases h2 : b < a
    · have HC := Lib.hid (show cmpU a b = 1 by unfold cmpU; rw [if_neg h1, if_pos h2])
      have h3 : decide (a < b) = false := by simpa using h1
      have h4 : decide (b < a) = true := by simpa using h2
      go_enter Try.func36, Try.ntmps36
      go_wp2_with (go_at_call 48; refine (HN.out _).mono ?_; rintro e w' ⟨rfl, rfl⟩)
      go_ret
      exact ⟨by rw [HC.out]; rfl, rfl⟩
    · have HC := Lib.hid (show cmpU a b = 0 by unfold cmpU; rw [if_neg h1, if_neg h2])
      have h3 : decide (a < b) = false := by simpa using h1
      have h4 : decide (b < a) = false := by simpa using h2
      go_enter Try.func36, Try.ntmps36
      go_wp2_with (go_at_call 48; refine (HN.out _).mono ?_; rintro e w' ⟨rfl, rfl⟩)
      go_ret
      exact ⟨by rw [HC.out]; rfl, rfl⟩
theorem bykey_any (x y : RowI) (w : World) : Calls Try.prog 35 #[.agg #[.int .u32 x.1, .int .u32 x.2], .agg #[.int .u32 y.1, .int .u32 y.2]] w fun e w' => e = .returned (.int .i64 (cmpU x.1 y.1)) ∧ Grew w w' := by
  have HC := Lib.hid (fun W => cmpu_any x.1 y.1 W)
  have HG := Lib.hid (((Grew.refl w).alloc (.cells #[.int .u32 x.1, .int .u32 x.2] 38)).alloc (.cells #[.int .u32 y.1, .int .u32 y.2] 38))
  go_enter Try.func35, Try.ntmps35
  go_wp2_with (go_at_call 36; refine (HC.out _).mono ?_; rintro e w' ⟨rfl, rfl⟩)
  go_ret
  exact ⟨rfl, HG.out⟩
theorem or_any (b : Nat) (x y : Int) (w : World) (h0 : w.cell? ⟨b, 0, none⟩ = some (.int .i64 x)) (h1 : w.cell? ⟨b, 1, none⟩ = some (.int .i64 y)) :
    Calls Try.prog 34 #[.slice (some ⟨b, 0, none⟩) 2 2] w fun e w' => e = .returned (.int .i64 (if x ≠ 0 then x else y)) ∧ w = w' := by
  by_cases hx : x = 0
  · have hx2 : (x == 0) = true := by simpa using hx
    rw [if_neg (by simpa using hx)]
    subst hx
    by_cases hy : y = 0
    · subst hy
      go_enter Try.func34, Try.ntmps34
      go_wp2
      refine wp_loop_rounds 3 ?_
      rw [rounds_succ]
      go_wp2
      rw [rounds_succ]
      go_wp2
      rw [rounds_succ]
      go_wp2
      go_ret
      exact ⟨rfl, rfl⟩
    · have hy2 : (y == 0) = false := by simpa using hy
      go_enter Try.func34, Try.ntmps34
      go_wp2
      refine wp_loop_rounds 2 ?_
      rw [rounds_succ]
      go_wp2
      rw [rounds_succ]
      go_wp2
      go_ret
      exact ⟨rfl, rfl⟩
  · have hx2 : (x == 0) = false := by simpa using hx
    rw [if_pos hx]
    go_enter Try.func34, Try.ntmps34
    go_wp2
    refine wp_loop_rounds 1 ?_
    rw [rounds_succ]
    go_wp2
    go_ret
    exact ⟨rfl, rfl⟩
theorem new_two (w : World) (t : TypeId) (a b : Value) : (w.alloc (.cells #[a, b] t)).cell? ⟨w.heap.size, 0, none⟩ = some a ∧ (w.alloc (.cells #[a, b] t)).cell? ⟨w.heap.size, 1, none⟩ = some b := ⟨(Blk.new w t #[a, b]).cell 0, (Blk.new w t #[a, b]).cell 1⟩
set_option maxHeartbeats 4000000 in
theorem compare1_any (x y : RowI) (w : World) : Calls Try.prog 33 #[.agg #[.int .u32 x.1, .int .u32 x.2], .agg #[.int .u32 y.1, .int .u32 y.2]] w fun e w' => e = .returned (.int .i64 (cmpR x y)) ∧ Grew w w' := by
  have HE := Lib.hid (cmpR_eq x y)
  have HOR := Lib.hid (show ∀ (b : Nat) (W : World), W.cell? ⟨b, 0, none⟩ = some (.int .i64 (cmpU x.1 y.1)) → W.cell? ⟨b, 1, none⟩ = some (.int .i64 (cmpU x.2 y.2)) → Calls Try.prog 34 #[.slice (some ⟨b, 0, none⟩) 2 2] W fun e w' => e = .returned (.int .i64 (cmpR x y)) ∧ W = w' from fun b W h0 h1 => (or_any b _ _ W h0 h1).mono fun _ _ h => ⟨by rw [HE.out]; exact h.1, h.2⟩)
  have HBK := Lib.hid (fun W => bykey_any x y W)
  have HCU := Lib.hid (fun W => cmpu_any x.2 y.2 W)
  obtain ⟨W0, hW0⟩ : ∃ W0, (w.alloc (.cells #[.int .u32 x.1, .int .u32 x.2] 38)).alloc (.cells #[.int .u32 y.1, .int .u32 y.2] 38) = W0 := ⟨_, rfl⟩
  have hG : Grew w W0 := by rw [← hW0]; exact ((Grew.refl w).alloc _).alloc _
  have hz : W0.heap.size = w.heap.size + 2 := by rw [← hW0]; simp
  have k0 : W0.cell? ⟨w.heap.size, 0, none⟩ = some (.int .u32 x.1) := by rw [← hW0]; exact ((Blk.new w _ _).alloc _).cell 0
  have k1 : W0.cell? ⟨w.heap.size, 1, none⟩ = some (.int .u32 x.2) := by rw [← hW0]; exact ((Blk.new w _ _).alloc _).cell 1
  have k2 : W0.cell? ⟨w.heap.size + 1, 0, none⟩ = some (.int .u32 y.1) := by
    rw [← hW0]
    simp
  have k3 : W0.cell? ⟨w.heap.size + 1, 1, none⟩ = some (.int .u32 y.2) := by
    rw [← hW0]
    simp
  go_enter Try.func33, Try.ntmps33
  go_wp2
  (try rw [hW0])
  have HGW := Lib.hid hG
  have HZ := Lib.hid hz
  have HC := Lib.hid (show ∀ X, Grew W0 X → (X.cell? ⟨w.heap.size, 0, none⟩ = some (.int .u32 x.1) ∧ X.cell? ⟨w.heap.size, 1, none⟩ = some (.int .u32 x.2)) ∧ X.cell? ⟨w.heap.size + 1, 0, none⟩ = some (.int .u32 y.1) ∧ X.cell? ⟨w.heap.size + 1, 1, none⟩ = some (.int .u32 y.2) from fun X h => by
    have hb := h.below
    exact ⟨⟨(hb.cell (p := ⟨w.heap.size, 0, none⟩) (by show w.heap.size < W0.heap.size; omega)).trans k0, (hb.cell (p := ⟨w.heap.size, 1, none⟩) (by show w.heap.size < W0.heap.size; omega)).trans k1⟩, (hb.cell (p := ⟨w.heap.size + 1, 0, none⟩) (by show w.heap.size + 1 < W0.heap.size; omega)).trans k2, (hb.cell (p := ⟨w.heap.size + 1, 1, none⟩) (by show w.heap.size + 1 < W0.heap.size; omega)).trans k3⟩)
  have HG := Lib.hid (Grew.refl W0).drew
  clear hW0 hG hz
  go_region_held3 (fun w' => (w'.cell? ⟨w.heap.size, 0, none⟩ = some (.int .u32 x.1) ∧ w'.cell? ⟨w.heap.size, 1, none⟩ = some (.int .u32 x.2)) ∧ w'.cell? ⟨w.heap.size + 1, 0, none⟩ = some (.int .u32 y.1) ∧ w'.cell? ⟨w.heap.size + 1, 1, none⟩ = some (.int .u32 y.2)) (go_keep) (first
    | (go_at_call 35; go_loud (refine (HBK.out _).mono ?_; rintro e wt ⟨rfl, hgt⟩; have HG := Lib.hid (HG.out.trans hgt); obtain ⟨⟨k0, k1⟩, k2, k3⟩ := HC.out wt HG.out; clear hgt))
    | (go_at_call 36; go_loud (refine (HCU.out _).mono ?_; rintro e wt ⟨rfl, rfl⟩))
    | (go_at_call 34; go_loud (refine (HOR.out _ _ (new_two _ _ _ _).1 (new_two _ _ _ _).2).mono ?_; rintro e wt ⟨rfl, rfl⟩))
    | fail "no arm")
  all_goals
    go_wp2
    go_ret
    exact ⟨rfl, HGW.out.trans (HG.out.alloc _)⟩
end Go.Proofs.Ytagekiaejhjpnaa
