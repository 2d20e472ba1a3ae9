/-
  The law BundleChecks answers true for every bundle.
-/
import Derived.Test.YtfpepdjffehbcaaGreatRows
import Derived.Test.YtfpepdjffehbcaaGreatRefCheck
import Derived.Test.YtfpepdjffehbcaaGreatRefSort
import Derived.Test.YtfpepdjffehbcaaGreatBunSpoil
import Derived.Test.YtfpepdjffehbcaaGreatBunAsk2
import Derived.WalkKit
import Derived.Outline
import Derived.ProofKit
import Derived.OpenShut
import Derived.ShutString
import Derived.ChangeOld
import Derived.Below
import Derived.Deep.CondSized
namespace Go.Proofs.YtfpepdjffehbcaaGreat.bundleChecks
open Go.ChangeShapes Go.WideShapes Go.ChangeAt Go.RowKit
open Go.ChangeMaps (open_string shut_string)
set_option linter.unusedVariables false

theorem own : ownKnob Tryz.prog.godebug = none := by kernel_rfl
theorem laidOut : laidOutB Tryz.prog = true := by kernel_rfl

theorem cut_cut (l : List PStep) : cutL (cutL l) = cutL l := by
  unfold cutL
  rw [← List.map_take, List.take_take, List.map_map]
  refine List.map_congr_left fun b _ => ?_
  simp [cutB, List.take_take]
theorem cut_bunin {l : List PStep} (h : BunIn l) : BunIn (cutL l) := by
  refine ⟨?_, fun b hb => ?_⟩
  · unfold cutL; rw [List.length_map, List.length_take]; omega
  · unfold cutL at hb
    obtain ⟨c, hc, rfl⟩ := List.mem_map.1 hb
    obtain ⟨h1, h2, -⟩ := h.2 c (List.mem_of_mem_take hc)
    refine ⟨h1, fun x hx => h2 x (List.mem_of_mem_take hx), ?_⟩
    simp only [cutB, List.length_take]
    omega
theorem sum_small (l : List PStep) (h : ∀ b ∈ l, b.2.length ≤ 30) : (l.map fun b => b.2.length).sum ≤ l.length * 30 := by
  induction l with
  | nil => simp
  | cons b r ih =>
    have h1 := h b (by simp)
    have h2 := ih fun x hx => h x (by simp [hx])
    simp only [List.map_cons, List.sum_cons, List.length_cons]
    omega
theorem cut_tot {l : List PStep} (h : CutSm l) : (l.map fun b => b.2.length).sum ≤ 90000000 := by
  have h1 := sum_small l h.2
  have h2 := h.1
  omega
theorem two_vars (w : World) (u : Value) (e a : Int) : Below w.heap.size w ((w.alloc (.cells #[u] 24)).alloc (.cells #[.int .i64 e, .int .i64 a] 34)) ∧ Blk ((w.alloc (.cells #[u] 24)).alloc (.cells #[.int .i64 e, .int .i64 a] 34)) w.heap.size 24 #[u] ∧ Blk ((w.alloc (.cells #[u] 24)).alloc (.cells #[.int .i64 e, .int .i64 a] 34)) (w.heap.size + 1) 34 #[.int .i64 e, .int .i64 a] := by
  have h2 := Blk.new (w.alloc (.cells #[u] 24)) 34 #[.int .i64 e, .int .i64 a]
  simp only [World.size_alloc] at h2
  exact ⟨((Below.refl w.heap.size w).alloc (Nat.le_refl _) _).alloc (by simp) _, (Blk.new w _ _).alloc _, h2⟩
theorem sortIs_fits {l r : List PStep} {e a : Int} (h : SortIs l r e a) (hin : SrtIn l) : r.length ≤ 100000000 ∧ ∀ b ∈ r, b.2.length ≤ 100000000 := by
  have hf := sortOut_fits hin
  rcases h with ⟨i, -, -, -, -, rfl⟩ | ⟨-, ⟨-, rfl, -⟩ | ⟨-, rfl, -⟩⟩
  · exact ⟨by simp, fun b hb => by cases hb⟩
  · exact ⟨by simp, fun b hb => by cases hb⟩
  · exact ⟨hf.2.1, fun b hb => (hf.1 b hb).2.2⟩
theorem cut_flat {l : List PStep} (h : CutSm l) : (flatB l).length ≤ 1000000 := by
  have h1 := flat_sum_le h.2
  have h2 := h.1
  have h3 : 30 * l.length ≤ 30 * 11 := Nat.mul_le_mul_left _ h2
  omega
set_option maxHeartbeats 16000000 in
set_option maxRecDepth 100000 in
theorem checks_walk (v : Value) (l : List PStep) (vs : List Value) (w : World) (h : StepsR w v l vs) (hin : BunIn l) :
    Calls Tryz.prog 5 #[.agg #[v]] w fun en w' => en = .returned (.bool true) ∧ Below w.heap.size w w' := by
  have HS := Lib.hid h
  obtain ⟨A, c, rfl, -, -, -, -, -⟩ := h
  obtain ⟨n0, hn0⟩ : ∃ n0, l.length = n0 := ⟨_, rfl⟩
  rw [hn0] at HS ⊢
  clear hn0
  have HBA := Lib.hid ((Below.refl _ w).alloc (Nat.le_refl _) (.cells #[.slice A n0 c] 24))
  have HWK := Lib.hid (fun W => bwakes_any W)
  have HCU := Lib.hid (fun (W : World) (hW : Below w.heap.size w W) => bcut_any (.slice A n0 c) l vs W (HS.out.more hW) hin)
  have HM := Lib.hid (show InB (cutL l) ∧ CutSm (cutL l) ∧ BunIn (cutL l) ∧ cutL (cutL l) = cutL l from ⟨cutL_in hin, cut_small l, cut_bunin hin, cut_cut l⟩)
  clear hin
  have HGA := Lib.hid (Blk.new w 24 #[.slice A n0 c])
  go_enter Tryz.func5, Tryz.ntmps5
  go_upto_region 3 with (go_at_call 8; go_must (refine (HWK.out _).mono ?_; rintro en w1 ⟨rfl, hb1⟩; have HB1 := Lib.hid (HBA.out.trans (hb1.mono HBA.out.size)); have HG1 := Lib.hid (HGA.out.below hb1 HGA.out.lt); clear hb1))
  obtain ⟨h0, hh0⟩ : ∃ h0, w.heap.size = h0 := ⟨_, rfl⟩
  have HH0 := Lib.hid hh0
  rw [hh0] at HG1 ⊢
  have k0 : w1.cell? ⟨h0, 0, none⟩ = some (.slice A n0 c) := HG1.out.cell 0
  clear hh0
  have HC1 := Lib.hid (HCU.out w1 HB1.out)
  go_wp2_with fail
  refine HC1.out.mono ?_
  rintro en w2 ⟨u, us, rfl, hO, hb2⟩
  obtain ⟨Au, cu, rfl, -, -, -⟩ := own_form hO.1
  have HG2 := Lib.hid (HG1.out.below hb2 HG1.out.lt)
  have HO2 := Lib.hid hO
  have HB2 := Lib.hid (HB1.out.trans (hb2.mono HB1.out.size))
  have k1 : w2.cell? ⟨h0, 0, none⟩ = some (.slice A n0 c) := HG2.out.cell 0
  have k2 : w2.frozen? ⟨h0, 0, none⟩ = false := HG2.out.frozen 0
  clear hO hb2 k0 HWK HCU HC1
  obtain ⟨m, hm⟩ : ∃ m, cutL l = m := ⟨_, rfl⟩
  rw [hm] at HM HO2 ⊢
  obtain ⟨na, hna⟩ : ∃ na, m.length = na := ⟨_, rfl⟩
  have HNA := Lib.hid hna
  rw [hna] at HO2 ⊢
  have hna1 : na ≤ 11 := by rw [← hna]; exact HM.out.2.1.1
  have hna2 : (na : Int) ≤ 11 := by omega
  clear hm hna
  go_upto_region 4 with (fail)
  clear k1 k2
  have HX3 := Lib.hid (show Below w.heap.size w (w2.setCell ⟨h0, 0, none⟩ (.slice Au na cu)) ∧ Blk (w2.setCell ⟨h0, 0, none⟩ (.slice Au na cu)) h0 24 #[.slice Au na cu] ∧ StepsR (w2.setCell ⟨h0, 0, none⟩ (.slice Au na cu)) (.slice Au na cu) m us from ⟨HB2.out.setCell (by rw [HH0.out]; exact Nat.le_refl _) _, (cut_in HG2.out HO2.out).1, (cut_in HG2.out HO2.out).2.steps⟩)
  clear HG2 HO2 HB2 HG1 HB1 HGA HBA
  generalize w2.setCell ⟨h0, 0, none⟩ (.slice Au na cu) = w3 at *
  have k0 : w3.cell? ⟨h0, 0, none⟩ = some (.slice Au na cu) := HX3.out.2.1.cell 0
  have HC3 := Lib.hid (bcut_any (.slice Au na cu) m us w3 HX3.out.2.2 HM.out.2.2.1)
  go_wp2_with fail
  refine HC3.out.mono ?_
  rintro en w4 ⟨u4, us4, rfl, hO, hb4⟩
  rw [HM.out.2.2.2] at hO
  obtain ⟨Av, cv, rfl, -, -, -⟩ := own_form hO.1
  rw [HNA.out] at hO ⊢
  have HX5 := Lib.hid (show Below w.heap.size w (w4.alloc (.cells #[.slice Av na cv] 24)) ∧ Blk (w4.alloc (.cells #[.slice Av na cv] 24)) h0 24 #[.slice Au na cu] ∧ Blk (w4.alloc (.cells #[.slice Av na cv] 24)) w4.heap.size 24 #[.slice Av na cv] ∧ StepsR (w4.alloc (.cells #[.slice Av na cv] 24)) (.slice Au na cu) m us ∧ StepsR (w4.alloc (.cells #[.slice Av na cv] 24)) (.slice Av na cv) m us4 from by
    have hba := (Below.refl _ w4).alloc (Nat.le_refl _) (.cells #[.slice Av na cv] 24)
    have hb := hb4.trans (hba.mono hb4.size)
    exact ⟨HX3.out.1.trans (hb.mono HX3.out.1.size), HX3.out.2.1.below hb HX3.out.2.1.lt, Blk.new w4 _ _, HX3.out.2.2.more hb, hO.steps.more hba⟩)
  clear hO hb4 k0 HC3
  go_upto_region 5 with (fail)
  generalize w4.alloc (.cells #[.slice Av na cv] 24) = w5 at *
  obtain ⟨h1, hh1⟩ : ∃ h1, w4.heap.size = h1 := ⟨_, rfl⟩
  rw [hh1] at HX5 ⊢
  clear hh1 HX3
  have HT := Lib.hid (cut_tot HM.out.2.1)
  have HKP := Lib.hid (show ∀ W, Below w5.heap.size w5 W → W.cell? ⟨h0, 0, none⟩ = some (.slice Au na cu) ∧ W.cell? ⟨h1, 0, none⟩ = some (.slice Av na cv) from fun W hW => ⟨(HX5.out.2.1.below hW HX5.out.2.1.lt).cell 0, (HX5.out.2.2.1.below hW HX5.out.2.2.1.lt).cell 0⟩)
  obtain ⟨ck, hck⟩ : ∃ ck, (checkB m).1 = ck := ⟨_, rfl⟩
  obtain ⟨ca, hca⟩ : ∃ ca, (checkB m).2 = ca := ⟨_, rfl⟩
  have HCK := Lib.hid (show ∀ W, Below w5.heap.size w5 W → Calls Tryz.prog 12 #[.agg #[.slice Au na cu]] W (fun e w' => e = .returned (.agg #[.int .i64 ck, .int .i64 ca]) ∧ Below W.heap.size W w') from fun W hW => by
    have h1 := HM.out.1
    have h2 := rcheck_any (.slice Au na cu) m us W (HX5.out.2.2.2.1.more hW) (fun b hb => ⟨(h1.2 b hb).1, (h1.2 b hb).2.1, by have := (h1.2 b hb).2.2; omega⟩) (by have := h1.1; omega) HT.out
    exact h2.mono fun e w' h => ⟨by rw [h.1, hck, hca], h.2⟩)
  have HSA := Lib.hid (show ∀ W, Below w5.heap.size w5 W → Calls Tryz.prog 13 #[.agg #[.slice Av na cv], .agg #[.slice Au na cu]] W (fun e w' => e = .returned (.bool true) ∧ Below W.heap.size W w') from fun W hW => by
    have := bsame_any (.slice Av na cv) (.slice Au na cu) m m us4 us W (HX5.out.2.2.2.2.more hW) (HX5.out.2.2.2.1.more hW)
    exact this.mono fun e w' h => ⟨by rw [h.1, decide_eq_true (rfl : m = m)], h.2⟩)
  have hfl := fun (x y : Int) (W : World) => (show (Instr.field 34 (.agg #[.int .i64 x, .int .i64 y]) 0).run Tryz.prog W = .ok (.int .i64 x) W from by kernel_rfl)
  have kk := HKP.out w5 (Below.refl _ _)
  obtain ⟨k0, k1⟩ := kk
  have HBC := Lib.hid (show ∀ W, Below w5.heap.size w5 W → Calls Tryz.prog 24 #[.agg #[.slice Av na cv]] W (fun e w' => e = .returned (.agg #[.int .i64 ck, .int .i64 ca]) ∧ Below W.heap.size W w') from fun W hW => by
    have h1 := HM.out.1
    have h2 := buncheck_any (.slice Av na cv) m us4 W (HX5.out.2.2.2.2.more hW) (fun b hb => ⟨(h1.2 b hb).1, (h1.2 b hb).2.1, by have := (h1.2 b hb).2.2; omega⟩) (by have := h1.1; omega) HT.out
    exact h2.mono fun e w' h => ⟨by rw [h.1]; unfold faultW; rw [hck, hca], h.2⟩)
  have HFM := Lib.hid (cut_flat HM.out.2.1)
  clear hca hck
  refine wp_region_M (fun W => W.cell? ⟨h0, 0, none⟩ = some (.slice Au na cu) ∧ W.cell? ⟨h1, 0, none⟩ = some (.slice Av na cv)) 11 (by kernel_rfl) (by go_keep) (fun hHeld => ?_)
  refine wpAnyM_take (i := 0) (d := (some 15)) (v := ?_) rfl rfl (by kernel_rfl) (by kernel_rfl) (by kernel_rfl) (by kernel_rfl) (by kernel_rfl) (fun _ _ _ h => h) (Or.inl ⟨by rfl, ?_⟩) (by assumption) ?_
  rotate_left
  · intro w hSw
    (try dsimp only at hSw)
    go_simp
    (try with_reducible rfl)
  (try simp only [Act.put, List.setIfInBounds_toArray, List.set_cons_zero, List.set_cons_succ])
  refine wpAnyM_take (i := 2) (d := (some 17)) (v := ?_) rfl rfl (by kernel_rfl) (by kernel_rfl) (by kernel_rfl) (by kernel_rfl) (by kernel_rfl) (fun _ _ _ h => h) (Or.inl ⟨by rfl, ?_⟩) (by assumption) ?_
  rotate_left
  · intro w hSw
    (try dsimp only at hSw)
    go_simp
    (try with_reducible rfl)
  (try simp only [Act.put, List.setIfInBounds_toArray, List.set_cons_zero, List.set_cons_succ])
  refine wpAnyM_one (i := 1) (by kernel_rfl) ?_
  refine owe_early (i := 1) (d := (some 16)) rfl rfl (fun K hK => ?_)
  go_simp
  refine (HBC.out _ ((Below.refl _ w5).drew)).mono ?_
  rintro en w6 ⟨rfl, hb⟩
  have HB6 := Lib.hid (((Below.refl _ w5).drew).trans hb)
  clear hb
  have hkk := HKP.out _ HB6.out
  have k0 := hkk.1
  have k1 := hkk.2
  clear hkk
  refine hK.out _ _ (by go_keep) (fun hHeld => ?_)
  clear hK K
  (try simp only [Act.put, List.setIfInBounds_toArray, List.set_cons_zero, List.set_cons_succ])
  refine wpAnyM_one (i := 3) (by kernel_rfl) ?_
  refine owe_early (i := 3) (d := (some 18)) rfl rfl (fun K hK => ?_)
  go_simp
  refine (HCK.out _ HB6.out).mono ?_
  rintro en w7 ⟨rfl, hb⟩
  have HB7 := Lib.hid (HB6.out.trans (hb.mono HB6.out.size))
  clear hb
  have hkk := HKP.out _ HB7.out
  have k0 := hkk.1
  have k1 := hkk.2
  clear hkk
  refine hK.out _ _ (by go_keep) (fun hHeld => ?_)
  clear hK K
  (try simp only [Act.put, List.setIfInBounds_toArray, List.set_cons_zero, List.set_cons_succ])
  refine wpAnyM_take (i := 4) (d := (some 19)) (v := ?_) rfl rfl (by kernel_rfl) (by kernel_rfl) (by kernel_rfl) (by kernel_rfl) (by kernel_rfl) (fun _ _ _ h => h) (Or.inl ⟨by rfl, ?_⟩) (by assumption) ?_
  rotate_left
  · intro w hSw
    (try dsimp only at hSw)
    go_simp
    (try with_reducible rfl)
  (try simp only [Act.put, List.setIfInBounds_toArray, List.set_cons_zero, List.set_cons_succ])
  refine wpAnyM_take (i := 5) (d := (some 20)) (v := ?_) rfl rfl (by kernel_rfl) (by kernel_rfl) (by kernel_rfl) (by kernel_rfl) (by kernel_rfl) (fun _ _ _ h => h) (Or.inl ⟨by rfl, ?_⟩) (by assumption) ?_
  rotate_left
  · intro w hSw
    (try dsimp only at hSw)
    go_simp
    (try with_reducible rfl)
  (try simp only [Act.put, List.setIfInBounds_toArray, List.set_cons_zero, List.set_cons_succ])
  refine wpAnyM_take (i := 6) (d := (some 21)) (v := ?_) rfl rfl (by kernel_rfl) (by kernel_rfl) (by kernel_rfl) (by kernel_rfl) (by kernel_rfl) (fun _ _ _ h => h) (Or.inl ⟨by rfl, ?_⟩) (by assumption) ?_
  rotate_left
  · intro w hSw
    (try dsimp only at hSw)
    go_simp
    (try with_reducible rfl)
  (try simp only [Act.put, List.setIfInBounds_toArray, List.set_cons_zero, List.set_cons_succ])
  refine wpAnyM_take (i := 7) (d := (some 22)) (v := ?_) rfl rfl (by kernel_rfl) (by kernel_rfl) (by kernel_rfl) (by kernel_rfl) (by kernel_rfl) (fun _ _ _ h => h) (Or.inl ⟨by rfl, ?_⟩) (by assumption) ?_
  rotate_left
  · intro w hSw
    (try dsimp only at hSw)
    go_simp
    (try with_reducible rfl)
  (try simp only [Act.put, List.setIfInBounds_toArray, List.set_cons_zero, List.set_cons_succ])
  refine wpAnyM_one (i := 8) (by kernel_rfl) ?_
  refine owe_early (i := 8) (d := (some 23)) rfl rfl (fun K hK => ?_)
  go_simp
  refine (HSA.out _ HB7.out).mono ?_
  rintro en w8 ⟨rfl, hb⟩
  have HB8 := Lib.hid (HB7.out.trans (hb.mono HB7.out.size))
  clear hb
  have hkk := HKP.out _ HB8.out
  have k0 := hkk.1
  have k1 := hkk.2
  clear hkk
  refine hK.out _ _ (by go_keep) (fun hHeld => ?_)
  clear hK K
  (try simp only [Act.put, List.setIfInBounds_toArray, List.set_cons_zero, List.set_cons_succ])
  refine wpAnyM_take (i := 9) (d := (some 24)) (v := ?_) rfl rfl (by kernel_rfl) (by kernel_rfl) (by kernel_rfl) (by kernel_rfl) (by kernel_rfl) (fun _ _ _ h => h) (Or.inl ⟨by rfl, ?_⟩) (by assumption) ?_
  rotate_left
  · intro w hSw
    (try dsimp only at hSw)
    go_simp
    (try with_reducible rfl)
  (try simp only [Act.put, List.setIfInBounds_toArray, List.set_cons_zero, List.set_cons_succ])
  refine wpAnyM_take (i := 10) (d := (some 25)) (v := ?_) rfl rfl (by kernel_rfl) (by kernel_rfl) (by kernel_rfl) (by kernel_rfl) (by kernel_rfl) (fun _ _ _ h => h) (Or.inl ⟨by rfl, ?_⟩) (by assumption) ?_
  rotate_left
  · intro w hSw
    (try dsimp only at hSw)
    go_simp
    (try with_reducible rfl)
  (try simp only [Act.put, List.setIfInBounds_toArray, List.set_cons_zero, List.set_cons_succ])
  refine wpAnyM_done (by kernel_rfl) ?_ _
  (try simp only [Act.put, List.setIfInBounds_toArray, List.set_cons_zero, List.set_cons_succ])
  clear k0 k1
  have HX := Lib.hid (show StepsR w8 (.slice Au na cu) m us ∧ Below w.heap.size w w8 from ⟨HX5.out.2.2.2.1.more HB8.out, HX5.out.1.trans (HB8.out.mono HX5.out.1.size)⟩)
  have HRS := Lib.hid (rsort_any (.slice Au na cu) m us w8 HX.out.1 HM.out.1.srt HFM.out)
  have hkk := HKP.out _ HB8.out
  have k0 := hkk.1
  have k1 := hkk.2
  clear hkk
  go_upto_region 8 with (go_at_call 25; go_must (refine HRS.out.mono ?_; rintro en w9 ⟨⟨ur0, r, rs, e1, a1, rfl, hsi, hor⟩, hb9⟩; obtain ⟨Ar, cr, rfl, -, -, -⟩ := own_form hor.1; obtain ⟨nr, hnr⟩ : ∃ nr, r.length = nr := ⟨_, rfl⟩; rw [hnr] at hor ⊢; have HNR := Lib.hid hnr; clear hnr; have HSI := Lib.hid hsi; have HOR := Lib.hid hor; have HB9 := Lib.hid (HB8.out.trans (hb9.mono HB8.out.size)); clear hsi hor hb9 k0 k1))
  have HTV := Lib.hid (two_vars w9 (.slice Ar nr cr) e1 a1)
  obtain ⟨g1, hg1⟩ : ∃ g1, w9.heap.size = g1 := ⟨_, rfl⟩
  rw [hg1] at HTV ⊢
  have HGE := Lib.hid hg1
  generalize (w9.alloc (.cells #[.slice Ar nr cr] 24)).alloc (.cells #[.int .i64 e1, .int .i64 a1] 34) = w10 at *
  have HB10 := Lib.hid (HB9.out.trans ((show Below w9.heap.size w9 w10 from by rw [hg1]; exact HTV.out.1).mono HB9.out.size))
  have HOR10 := Lib.hid (HOR.out.on (show Below w9.heap.size w9 w10 from by rw [hg1]; exact HTV.out.1))
  clear hg1 HOR
  have HKQ := Lib.hid (show ∀ W, Below w10.heap.size w10 W → Below w5.heap.size w5 W ∧ W.cell? ⟨h0, 0, none⟩ = some (.slice Au na cu) ∧ W.cell? ⟨h1, 0, none⟩ = some (.slice Av na cv) ∧ W.cell? ⟨g1, 0, none⟩ = some (.slice Ar nr cr) ∧ W.cell? ⟨g1 + 1, 0, none⟩ = some (.int .i64 e1) ∧ W.cell? ⟨g1 + 1, 1, none⟩ = some (.int .i64 a1) ∧ StepsR W (.slice Ar nr cr) r rs from fun W hW => by
    have hb := HB10.out.trans (hW.mono HB10.out.size)
    exact ⟨hb, (HKP.out W hb).1, (HKP.out W hb).2, (HTV.out.2.1.below hW HTV.out.2.1.lt).cell 0, (HTV.out.2.2.below hW HTV.out.2.2.lt).cell 0, (HTV.out.2.2.below hW HTV.out.2.2.lt).cell 1, (HOR10.out.on hW).steps⟩)
  have HFIT := Lib.hid (sortIs_fits HSI.out HM.out.1.srt)
  have hne := fun (x y : Int) (W : World) => (show (Op.binOp .neq 34 (.const (.agg #[.int .i64 x, .int .i64 y])) (.const (.agg #[.int .i64 x, .int .i64 y])) 34) = (Op.binOp .neq 34 (.const (.agg #[.int .i64 x, .int .i64 y])) (.const (.agg #[.int .i64 x, .int .i64 y])) 34) from rfl)
  clear hne
  go_wp2
  go_loopw [6] (fun qv W => ∃ q : Nat, qv = .int .i64 (q : Int) ∧ q ≤ 2 ∧ Below w10.heap.size w10 W) (fun qv _ => 2 - (Lib.intOf qv).toNat)
  case atStart => exact ⟨0, rfl, Nat.zero_le _, Below.refl _ _⟩
  case round =>
    obtain ⟨q, rfl, hq, hB⟩ := hrel
    have HB := Lib.hid hB
    clear hB
    obtain ⟨hb5, k0, k1, k2, k3, k4, hsr⟩ := HKQ.out wr HB.out
    have HB5 := Lib.hid hb5
    have HSR := Lib.hid hsr
    clear hb5 hsr
    by_cases hlt : q < 2
    · have hq2 : (q : Int) < 2 := by omega
      have HSO := Lib.hid (bsort_any (.slice Av na cv) m us4 wr (HX5.out.2.2.2.2.more HB5.out) HM.out.1.srt)
      go_upto_region 12 with (go_at_call 26; go_must (refine HSO.out.mono ?_; rintro en w11 ⟨⟨ux0, rx, xs, e2, a2, rfl, hsi, hor⟩, hb11⟩; obtain ⟨rfl, rfl, rfl⟩ := sort_one HSI.out hsi; obtain ⟨Ax, cx, rfl, -, -, -⟩ := own_form hor.1; rw [HNR.out] at hor ⊢; have HOX := Lib.hid hor; have HB11 := Lib.hid hb11; clear hsi hor hb11 k0 k1 k2 k3 k4))
      have HTW := Lib.hid (two_vars w11 (.slice Ax nr cx) e1 a1)
      clear HSO
      obtain ⟨g2, hg2⟩ : ∃ g2, w11.heap.size = g2 := ⟨_, rfl⟩
      rw [hg2] at HTW ⊢
      generalize (w11.alloc (.cells #[.slice Ax nr cx] 24)).alloc (.cells #[.int .i64 e1, .int .i64 a1] 34) = w12 at *
      have hbw : Below w11.heap.size w11 w12 := by rw [hg2]; exact HTW.out.1
      have HB12 := Lib.hid (HB11.out.trans (hbw.mono HB11.out.size))
      have HOX12 := Lib.hid (HOX.out.on hbw)
      clear hg2 hbw HOX HB11
      obtain ⟨hb5, k0, k1, k2, k3, k4, hsr⟩ := HKQ.out w12 (HB.out.trans (HB12.out.mono HB.out.size))
      have HC5 := Lib.hid hb5
      have HSS := Lib.hid (show ∀ W, Below w12.heap.size w12 W → Calls Tryz.prog 13 #[.agg #[.slice Ax nr cx], .agg #[.slice Ar nr cr]] W (fun e w' => e = .returned (.bool true) ∧ Below W.heap.size W w') from fun W hW => by
        have := bsame_any (.slice Ax nr cx) (.slice Ar nr cr) r r xs rs W ((HOX12.out.on hW).steps) (hsr.more hW)
        exact this.mono fun e w' h => ⟨by rw [h.1, decide_eq_true (rfl : r = r)], h.2⟩)
      clear hb5 hsr
      have x0 : w12.cell? ⟨g2, 0, none⟩ = some (.slice Ax nr cx) := HTW.out.2.1.cell 0
      have x1 : w12.cell? ⟨g2 + 1, 0, none⟩ = some (.int .i64 e1) := HTW.out.2.2.cell 0
      have x2 : w12.cell? ⟨g2 + 1, 1, none⟩ = some (.int .i64 a1) := HTW.out.2.2.cell 1
      go_wp2_with fail
      refine (HSS.out w12 (Below.refl _ _)).mono ?_
      rintro en w13 ⟨rfl, hb13⟩
      have HB13 := Lib.hid hb13
      clear k0 k1 k2 k3 k4 x1 x2 x0
      obtain ⟨hb5, k0, k1, k2, k3, k4, -⟩ := HKQ.out w13 (HB.out.trans ((HB12.out.trans (hb13.mono HB12.out.size)).mono HB.out.size))
      have HS13 := Lib.hid (HSA.out w13 hb5)
      clear hb13 hb5
      go_wp2_with fail
      refine HS13.out.mono ?_
      rintro en w14 ⟨rfl, hb14⟩
      have hb := HB13.out.trans (hb14.mono HB13.out.size)
      have HB14 := Lib.hid (HB12.out.trans (hb.mono HB12.out.size))
      have x0 : w14.cell? ⟨g2, 0, none⟩ = some (.slice Ax nr cx) := (HTW.out.2.1.below hb HTW.out.2.1.lt).cell 0
      have HO14 := Lib.hid (HOX12.out.on hb)
      have HSP := Lib.hid (spoil_any (.slice Ax nr cx) r xs wr.heap.size w14 HO14.out HB14.out.size HFIT.out.1 HFIT.out.2)
      clear hb hb14 k0 k1 k2 k3 k4
      go_wp2_with fail
      refine HSP.out.mono ?_
      rintro en w15 ⟨rfl, hb15⟩
      have HB15 := Lib.hid (HB.out.trans ((HB14.out.trans hb15).mono HB.out.size))
      clear hb15 x0
      go_wp2
      go_roundw
      case rel => exact ⟨q + 1, by go_num, by omega, HB15.out⟩
      case measure => simp [Lib.intOf]; omega
    · obtain rfl : q = 2 := by omega
      have HSA2 := Lib.hid (HSA.out wr HB5.out)
      go_wp2_with (go_at_call 13; go_must (refine HSA2.out.mono ?_; rintro en w13 ⟨rfl, hb13⟩; have HB13 := Lib.hid (HB5.out.trans (hb13.mono HB5.out.size)); clear hb13))
      go_ret
      exact ⟨rfl, HX5.out.1.trans (HB13.out.mono HX5.out.1.size)⟩
set_option maxRecDepth 100000 in
theorem walk {H : Type} {enc : TypeId × Value → H} (v0 : Value) (d0 : DataW H) (p0 : List MemPlace) (base0 : Nat) (w : World) (hv0 : Value.okWide Tryz.prog w .any base0 24 v0) (w0 : DataW.Trod enc Tryz.prog w 0 (fun _ => true) true 24 v0 d0 p0) (hwt0 : ∀ n ∈ d0.weights Tryz.prog 24, n ≤ 140737488351232) :
    Calls Tryz.prog 5 #[v0] w fun e w' => e = .returned (.bool true) ∧ Below w.heap.size w w' := by
  obtain ⟨u0, l0, vs0, rfl, hs0, hi0⟩ := open_bundle hv0 w0 hwt0
  exact checks_walk u0 l0 vs0 w hs0 hi0

set_option maxRecDepth 100000 in
theorem contract (H : Type) (enc : TypeId × Value → H) (W : World) (base : Nat) (args : Array Value) (ds gs : List (DataW H)) (before : List MemPlace)
    (hval0 : ∀ (j : Nat) t v, Tryz.f5.params[j]? = some t → args[j]? = some v → Value.okWide Tryz.prog W .any base t v)
    (hW : DataW.Whole enc Tryz.prog Tryz.f5.params.toList Rows.bundleChecksSpec.vars false W args.toList ds gs before)
    (hsz0 : (DataW.weightsEach Tryz.prog (Tryz.f5.params.toList ++ Rows.bundleChecksSpec.plain.varTypes Tryz.prog) (ds ++ gs)).all (· ≤ reachBytes) = true) :
    Calls Tryz.prog 5 args W fun e W' => ∃ v, e = .returned v ∧ Rows.bundleChecksSpec.post enc Tryz.prog Tryz.f5 false true false false W args v W' := by
  have hval : ∀ (j : Nat) t v, Tryz.f5.params[j]? = some t → args[j]? = some v → Value.okWide Tryz.prog W .any base t v := hval0
  have hsz : (DataW.weightsEach Tryz.prog (Tryz.f5.params.toList ++ Rows.bundleChecksSpec.plain.varTypes Tryz.prog) (ds ++ gs)).all (· ≤ reachBytes) = true := hsz0
  have hW' := hW
  obtain ⟨p, q, hA0, hV, rfl, hfz, hnd⟩ := hW
  have hA : DataW.TrodAll enc Tryz.prog W 0 (fun _ => true) true Tryz.f5.params.toList args.toList ds p := hA0
  rw [Tryz.params5] at hA hval hsz
  obtain ⟨v0, vs0, d0, ds0, p0, q0, hargs, rfl, rfl, h0, r0⟩ := trodAll_cons hA
  obtain ⟨rfl, rfl, rfl⟩ := trodAll_nil r0
  obtain rfl : args = #[v0] := by cases args; simp_all
  obtain ⟨rfl, rfl⟩ := trodVars_none hV
  have k0 := h0
  have lt0 : ∀ x ∈ p0, x.block < W.heap.size := by obtain ⟨m, hm⟩ := k0; exact DataW.trod_lt m _ _ _ hm
  have hwt0 : ∀ n ∈ d0.weights Tryz.prog 24, n ≤ 140737488351232 := fun n hn => by
    have := of_decide_eq_true (List.all_eq_true.1 hsz _ (DataW.weights_mem_each (j := 0) (t := 24) rfl rfl n hn))
    simpa [reachBytes] using this
  clear hA0 hval0
  refine (walk v0 d0 p0 base W (hval 0 24 v0 rfl rfl) h0 hwt0).mono fun e W' ⟨he, bel⟩ => ?_
  subst he
  exact ⟨_, rfl, _, _, _, [], _, [], hW', trodAll_mk1 (shut_bool Tryz.underlying4 _), (trodAll_cons_mk (Below.trod laidOut (by kernel_rfl) (of_decide_eq_true (by kernel_rfl)) k0 bel lt0) trodAll_mk0), rfl, bel.frame _, fun h => by cases h⟩

set_option maxRecDepth 100000 in
theorem lifted (os : Os) (started : os.Started) (H : Type) (enc : TypeId × Value → H) :
    ReturnsInHanded {} Tryz.checked os 5 .any (Rows.bundleChecksSpec.pre6 enc Tryz.prog Tryz.f5 Rows.bundleChecksRow.domain false) (Rows.bundleChecksSpec.post enc Tryz.prog Tryz.f5 false true false false) := by
  refine returnsInHanded_of_change_sized (C := Tryz.checked) own started (by kernel_rfl) Tryz.func5
    (ChangeSpec.witness6 (enc := enc) (C := Tryz.checked) false ⟨#[], #[.agg #[.slice none 0 0]], []⟩ 8 (by kernel_rfl) (by kernel_rfl) (by kernel_rfl) (by kernel_rfl)) ?_
  intro W base args ds gs before hval hW _ hsz _
  exact contract H enc W base args ds gs before hval hW hsz

theorem over : Rows.bundleChecksRow.holds Tryz.pinned (OpenSpec.ofChange Rows.bundleChecksSpec) :=
  OpenClaim.holds_of_wide 5 Tryz.f5 rfl rfl rfl rfl rfl rfl rfl ⟨rfl, rfl, rfl, rfl, rfl⟩ rfl rfl rfl rfl rfl (by kernel_rfl) Tryz.func5 (by kernel_rfl)
    (of_decide_eq_true (by kernel_rfl)) (by unfold Func.isWrapper; first | (rw [if_pos (by decide +kernel)]; kernel_rfl) | (rw [if_neg (by decide +kernel)]; exact ⟨rfl, rfl⟩))
    (fun os started H enc _ => lifted os started H enc)

/-- The statement. -/
theorem proved : Rows.BundleChecksSaid := over
#print axioms proved
end Go.Proofs.YtfpepdjffehbcaaGreat.bundleChecks
