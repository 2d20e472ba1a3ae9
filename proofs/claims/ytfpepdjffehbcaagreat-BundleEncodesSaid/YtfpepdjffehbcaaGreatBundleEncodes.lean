/-
  The law BundleEncodes answers true for every bundle.
-/
import Derived.Test.YtfpepdjffehbcaaGreatRows
import Derived.Test.YtfpepdjffehbcaaGreatRefCheck
import Derived.Test.YtfpepdjffehbcaaGreatRefEnc
import Derived.Test.YtfpepdjffehbcaaGreatBunAsk2
import Derived.WalkKit
import Derived.Outline
import Derived.ProofKit
import Derived.OpenShut
import Derived.ShutString
import Derived.ChangeOld
import Derived.Below
import Derived.Deep.CondSized
namespace Go.Proofs.YtfpepdjffehbcaaGreat.bundleEncodes
open Go.ChangeShapes Go.WideShapes Go.ChangeAt Go.RowKit
open Go.ChangeMaps (open_string shut_string)
set_option linter.unusedVariables false

theorem own : ownKnob Tryz.prog.godebug = none := by kernel_rfl
theorem laidOut : laidOutB Tryz.prog = true := by kernel_rfl

theorem cut_cut (l : List PStep) : cutL (cutL l) = cutL l := by
  unfold cutL
  rw [← List.map_take, List.take_take, List.map_map]
  refine List.map_congr_left fun b _ => ?_
  simp [cutB, List.take_take]
theorem cut_bunin {l : List PStep} (h : BunIn l) : BunIn (cutL l) := by
  refine ⟨?_, fun b hb => ?_⟩
  · unfold cutL; rw [List.length_map, List.length_take]; omega
  · unfold cutL at hb
    obtain ⟨c, hc, rfl⟩ := List.mem_map.1 hb
    obtain ⟨h1, h2, -⟩ := h.2 c (List.mem_of_mem_take hc)
    refine ⟨h1, fun x hx => h2 x (List.mem_of_mem_take hx), ?_⟩
    simp only [cutB, List.length_take]
    omega
theorem sum_small (l : List PStep) (h : ∀ b ∈ l, b.2.length ≤ 30) : (l.map fun b => b.2.length).sum ≤ l.length * 30 := by
  induction l with
  | nil => simp
  | cons b r ih =>
    have h1 := h b (by simp)
    have h2 := ih fun x hx => h x (by simp [hx])
    simp only [List.map_cons, List.sum_cons, List.length_cons]
    omega
theorem cut_tot {l : List PStep} (h : CutSm l) : (l.map fun b => b.2.length).sum ≤ 90000000 := by
  have h1 := sum_small l h.2
  have h2 := h.1
  omega
set_option maxHeartbeats 16000000 in
set_option maxRecDepth 100000 in
theorem encodes_walk (v : Value) (l : List PStep) (vs : List Value) (w : World) (h : StepsR w v l vs) (hin : BunIn l) :
    Calls Tryz.prog 3 #[.agg #[v]] w fun en w' => en = .returned (.bool true) ∧ Below w.heap.size w w' := by
  have HS := Lib.hid h
  obtain ⟨A, c, rfl, -, -, -, -, -⟩ := h
  obtain ⟨n0, hn0⟩ : ∃ n0, l.length = n0 := ⟨_, rfl⟩
  rw [hn0] at HS ⊢
  clear hn0
  have HBA := Lib.hid ((Below.refl _ w).alloc (Nat.le_refl _) (.cells #[.slice A n0 c] 24))
  have HWK := Lib.hid (fun W => bwakes_any W)
  have HCU := Lib.hid (fun (W : World) (hW : Below w.heap.size w W) => bcut_any (.slice A n0 c) l vs W (HS.out.more hW) hin)
  have HM := Lib.hid (show InB (cutL l) ∧ CutSm (cutL l) ∧ BunIn (cutL l) ∧ cutL (cutL l) = cutL l from ⟨cutL_in hin, cut_small l, cut_bunin hin, cut_cut l⟩)
  clear hin
  have HGA := Lib.hid (Blk.new w 24 #[.slice A n0 c])
  go_enter Tryz.func3, Tryz.ntmps3
  go_upto_region 3 with (go_at_call 8; go_must (refine (HWK.out _).mono ?_; rintro en w1 ⟨rfl, hb1⟩; have HB1 := Lib.hid (HBA.out.trans (hb1.mono HBA.out.size)); have HG1 := Lib.hid (HGA.out.below hb1 HGA.out.lt); clear hb1))
  obtain ⟨h0, hh0⟩ : ∃ h0, w.heap.size = h0 := ⟨_, rfl⟩
  have HH0 := Lib.hid hh0
  rw [hh0] at HG1 ⊢
  have k0 : w1.cell? ⟨h0, 0, none⟩ = some (.slice A n0 c) := HG1.out.cell 0
  clear hh0
  have HC1 := Lib.hid (HCU.out w1 HB1.out)
  go_wp2_with fail
  refine HC1.out.mono ?_
  rintro en w2 ⟨u, us, rfl, hO, hb2⟩
  obtain ⟨Au, cu, rfl, -, -, -⟩ := own_form hO.1
  have HG2 := Lib.hid (HG1.out.below hb2 HG1.out.lt)
  have HO2 := Lib.hid hO
  have HB2 := Lib.hid (HB1.out.trans (hb2.mono HB1.out.size))
  have k1 : w2.cell? ⟨h0, 0, none⟩ = some (.slice A n0 c) := HG2.out.cell 0
  have k2 : w2.frozen? ⟨h0, 0, none⟩ = false := HG2.out.frozen 0
  clear hO hb2 k0 HWK HCU HC1
  obtain ⟨m, hm⟩ : ∃ m, cutL l = m := ⟨_, rfl⟩
  rw [hm] at HM HO2 ⊢
  obtain ⟨na, hna⟩ : ∃ na, m.length = na := ⟨_, rfl⟩
  have HNA := Lib.hid hna
  rw [hna] at HO2 ⊢
  have hna1 : na ≤ 11 := by rw [← hna]; exact HM.out.2.1.1
  have hna2 : (na : Int) ≤ 11 := by omega
  clear hm hna
  go_upto_region 4 with (fail)
  clear k1 k2
  have HX3 := Lib.hid (show Below w.heap.size w (w2.setCell ⟨h0, 0, none⟩ (.slice Au na cu)) ∧ Blk (w2.setCell ⟨h0, 0, none⟩ (.slice Au na cu)) h0 24 #[.slice Au na cu] ∧ StepsR (w2.setCell ⟨h0, 0, none⟩ (.slice Au na cu)) (.slice Au na cu) m us from ⟨HB2.out.setCell (by rw [HH0.out]; exact Nat.le_refl _) _, (cut_in HG2.out HO2.out).1, (cut_in HG2.out HO2.out).2.steps⟩)
  clear HG2 HO2 HB2 HG1 HB1 HGA HBA
  generalize w2.setCell ⟨h0, 0, none⟩ (.slice Au na cu) = w3 at *
  have k0 : w3.cell? ⟨h0, 0, none⟩ = some (.slice Au na cu) := HX3.out.2.1.cell 0
  have HC3 := Lib.hid (bcut_any (.slice Au na cu) m us w3 HX3.out.2.2 HM.out.2.2.1)
  go_wp2_with fail
  refine HC3.out.mono ?_
  rintro en w4 ⟨u4, us4, rfl, hO, hb4⟩
  rw [HM.out.2.2.2] at hO
  obtain ⟨Av, cv, rfl, -, -, -⟩ := own_form hO.1
  rw [HNA.out] at hO ⊢
  have HX5 := Lib.hid (show Below w.heap.size w (w4.alloc (.cells #[.slice Av na cv] 24)) ∧ Blk (w4.alloc (.cells #[.slice Av na cv] 24)) h0 24 #[.slice Au na cu] ∧ Blk (w4.alloc (.cells #[.slice Av na cv] 24)) w4.heap.size 24 #[.slice Av na cv] ∧ StepsR (w4.alloc (.cells #[.slice Av na cv] 24)) (.slice Au na cu) m us ∧ StepsR (w4.alloc (.cells #[.slice Av na cv] 24)) (.slice Av na cv) m us4 from by
    have hba := (Below.refl _ w4).alloc (Nat.le_refl _) (.cells #[.slice Av na cv] 24)
    have hb := hb4.trans (hba.mono hb4.size)
    exact ⟨HX3.out.1.trans (hb.mono HX3.out.1.size), HX3.out.2.1.below hb HX3.out.2.1.lt, Blk.new w4 _ _, HX3.out.2.2.more hb, hO.steps.more hba⟩)
  clear hO hb4 k0 HC3
  go_upto_region 5 with (fail)
  generalize w4.alloc (.cells #[.slice Av na cv] 24) = w5 at *
  obtain ⟨h1, hh1⟩ : ∃ h1, w4.heap.size = h1 := ⟨_, rfl⟩
  rw [hh1] at HX5 ⊢
  clear hh1 HX3
  have HT := Lib.hid (cut_tot HM.out.2.1)
  have HKP := Lib.hid (show ∀ W, Below w5.heap.size w5 W → W.cell? ⟨h0, 0, none⟩ = some (.slice Au na cu) ∧ W.cell? ⟨h1, 0, none⟩ = some (.slice Av na cv) from fun W hW => ⟨(HX5.out.2.1.below hW HX5.out.2.1.lt).cell 0, (HX5.out.2.2.1.below hW HX5.out.2.2.1.lt).cell 0⟩)
  obtain ⟨ck, hck⟩ : ∃ ck, (checkB m).1 = ck := ⟨_, rfl⟩
  obtain ⟨ca, hca⟩ : ∃ ca, (checkB m).2 = ca := ⟨_, rfl⟩
  have HCK := Lib.hid (show ∀ W, Below w5.heap.size w5 W → Calls Tryz.prog 12 #[.agg #[.slice Au na cu]] W (fun e w' => e = .returned (.agg #[.int .i64 ck, .int .i64 ca]) ∧ Below W.heap.size W w') from fun W hW => by
    have h1 := HM.out.1
    have h2 := rcheck_any (.slice Au na cu) m us W (HX5.out.2.2.2.1.more hW) (fun b hb => ⟨(h1.2 b hb).1, (h1.2 b hb).2.1, by have := (h1.2 b hb).2.2; omega⟩) (by have := h1.1; omega) HT.out
    exact h2.mono fun e w' h => ⟨by rw [h.1, hck, hca], h.2⟩)
  have HSA := Lib.hid (show ∀ W, Below w5.heap.size w5 W → Calls Tryz.prog 13 #[.agg #[.slice Av na cv], .agg #[.slice Au na cu]] W (fun e w' => e = .returned (.bool true) ∧ Below W.heap.size W w') from fun W hW => by
    have := bsame_any (.slice Av na cv) (.slice Au na cu) m m us4 us W (HX5.out.2.2.2.2.more hW) (HX5.out.2.2.2.1.more hW)
    exact this.mono fun e w' h => ⟨by rw [h.1, decide_eq_true (rfl : m = m)], h.2⟩)
  clear hca
  have hfl := fun (x y : Int) (W : World) => (show (Instr.field 34 (.agg #[.int .i64 x, .int .i64 y]) 0).run Tryz.prog W = .ok (.int .i64 x) W from by kernel_rfl)
  have kk := HKP.out w5 (Below.refl _ _)
  obtain ⟨k0, k1⟩ := kk
  by_cases z : ck = 0
  · subst z
    have HIN := Lib.hid (books_in hck HM.out.1 HM.out.2.1)
    have HEN := Lib.hid (fun W (hW : Below w5.heap.size w5 W) => enc_yes (HX5.out.2.2.2.2.more hW) HM.out.1 HM.out.2.1 hck)
    have HSZ := Lib.hid (fun W (hW : Below w5.heap.size w5 W) => size_yes (HX5.out.2.2.2.2.more hW) HM.out.1 hck)
    have HRE := Lib.hid (fun W (hW : Below w5.heap.size w5 W) => rencode_any _ _ _ W (HX5.out.2.2.2.1.more hW) HIN.out hck)
    clear hck
    go_upto_region 6 with (go_at_call 10; go_must (refine (HEN.out w5 (Below.refl _ _)).mono ?_; rintro en w6 ⟨A6, n6, c6, rfl, hl6, ho6, hb6⟩; have HB6 := Lib.hid hb6; have HO6 := Lib.hid ho6; have HL6 := Lib.hid hl6; clear hb6 ho6 hl6; have hkk := HKP.out _ HB6.out; have k0 := hkk.1; have k1 := hkk.2; clear hkk))
    have HSZ6 := Lib.hid (HSZ.out w6 HB6.out)
    rw [HL6.out] at HSZ6
    go_upto_region 7 with (go_at_call 11; go_must (refine (HSZ6.out).mono ?_; rintro en w7 ⟨rfl, hb7⟩; have HB7 := Lib.hid (HB6.out.trans (hb7.mono HB6.out.size)); have HO7 := Lib.hid (own_more HO6.out hb7); clear hb7; have hkk := HKP.out _ HB7.out; have k0 := hkk.1; have k1 := hkk.2; clear hkk))
    go_upto_region 8 with (go_at_call 12; go_must (refine (HCK.out w7 HB7.out).mono ?_; rintro en w8 ⟨rfl, hb8⟩; have HB8 := Lib.hid (HB7.out.trans (hb8.mono HB7.out.size)); have HO8 := Lib.hid (own_more HO7.out hb8); clear hb8; have hkk := HKP.out _ HB8.out; have k0 := hkk.1; have k1 := hkk.2; clear hkk))
    have hba := (Below.refl w8.heap.size w8).alloc (Nat.le_refl _) (.cells #[.int .i64 0, .int .i64 ca] 34)
    have HB9 := Lib.hid (HB8.out.trans (hba.mono HB8.out.size))
    have HO9 := Lib.hid (own_more HO8.out hba)
    have HF9 := Lib.hid (Blk.new w8 34 #[.int .i64 0, .int .i64 ca])
    clear hba k0 k1
    generalize w8.alloc (.cells #[.int .i64 0, .int .i64 ca] 34) = w9 at *
    obtain ⟨g8, hg8⟩ : ∃ g8, w8.heap.size = g8 := ⟨_, rfl⟩
    rw [hg8] at HF9 ⊢
    clear hg8
    have hkk := HKP.out _ HB9.out
    have k0 := hkk.1
    have k1 := hkk.2
    clear hkk
    go_upto_region 10 with (go_at_call 13; go_must (refine (HSA.out w9 HB9.out).mono ?_; rintro en w10 ⟨rfl, hb10⟩; have HB10 := Lib.hid (HB9.out.trans (hb10.mono HB9.out.size)); have HO10 := Lib.hid (own_more HO9.out hb10); have HF10 := Lib.hid (HF9.out.below hb10 HF9.out.lt); clear hb10; have hkk := HKP.out _ HB10.out; have k0 := hkk.1; have k1 := hkk.2; clear hkk; have y0 : w10.cell? ⟨g8, 0, none⟩ = some (.int .i64 0) := HF10.out.cell 0))
    go_upto_region 13 with (go_at_call 14; go_must (refine (HRE.out w10 HB10.out).mono ?_; rintro en w11 ⟨A11, n11, c11, rfl, hl11, ho11, hb11⟩; have HB11 := Lib.hid (HB10.out.trans (hb11.mono HB10.out.size)); have HO11 := Lib.hid (own_more HO10.out hb11); have HP11 := Lib.hid ho11; have HL11 := Lib.hid hl11; clear hb11 ho11 hl11))
    obtain rfl : n11 = n6 := HL11.out.symm.trans HL6.out
    have HEQ := Lib.hid (show Calls Tryz.prog 15 #[.slice A6 n11 c6, .slice A11 n11 c11] w11 (fun e w' => e = .returned (.bool true) ∧ w11 = w') from by
      obtain ⟨A', c', e1, -, -, r1⟩ := OB.form HO11.out
      rw [HL6.out] at e1
      cases e1
      obtain ⟨A', c', e2, -, -, r2⟩ := OB.form HP11.out
      rw [HL6.out] at e2
      cases e2
      have h := beq_any _ _ _ _ c6 c11 n11 n11 w11 r1 r2 HL6.out HL6.out
      rw [decide_eq_true (rfl : bytesB m = bytesB m)] at h
      exact h)
    clear k0 k1 y0
    go_wp2_with (go_at_call 15; go_must (refine HEQ.out.mono ?_; rintro en w12 ⟨rfl, rfl⟩))
    go_ret
    exact ⟨rfl, HX5.out.1.trans (HB11.out.mono HX5.out.1.size)⟩
  · have z3 : (ck == 0) = false := by simpa using z
    have HEN := Lib.hid (fun W (hW : Below w5.heap.size w5 W) => enc_no (HX5.out.2.2.2.2.more hW) HM.out.1 hck z)
    have HSZ := Lib.hid (fun W (hW : Below w5.heap.size w5 W) => size_no (HX5.out.2.2.2.2.more hW) HM.out.1 hck z)
    clear hck z
    go_upto_region 6 with (go_at_call 10; go_must (refine (HEN.out w5 (Below.refl _ _)).mono ?_; rintro en w6 ⟨rfl, hb6⟩; have HB6 := Lib.hid hb6; clear hb6; have hkk := HKP.out _ HB6.out; have k0 := hkk.1; have k1 := hkk.2; clear hkk))
    go_upto_region 7 with (go_at_call 11; go_must (refine (HSZ.out w6 HB6.out).mono ?_; rintro en w7 ⟨rfl, hb7⟩; have HB7 := Lib.hid (HB6.out.trans (hb7.mono HB6.out.size)); clear hb7; have hkk := HKP.out _ HB7.out; have k0 := hkk.1; have k1 := hkk.2; clear hkk))
    go_upto_region 8 with (go_at_call 12; go_must (refine (HCK.out w7 HB7.out).mono ?_; rintro en w8 ⟨rfl, hb8⟩; have HB8 := Lib.hid (HB7.out.trans (hb8.mono HB7.out.size)); clear hb8; have hkk := HKP.out _ HB8.out; have k0 := hkk.1; have k1 := hkk.2; clear hkk))
    have hba := (Below.refl w8.heap.size w8).alloc (Nat.le_refl _) (.cells #[.int .i64 ck, .int .i64 ca] 34)
    have HB9 := Lib.hid (HB8.out.trans (hba.mono HB8.out.size))
    have HF9 := Lib.hid (Blk.new w8 34 #[.int .i64 ck, .int .i64 ca])
    clear hba k0 k1
    generalize w8.alloc (.cells #[.int .i64 ck, .int .i64 ca] 34) = w9 at *
    obtain ⟨g8, hg8⟩ : ∃ g8, w8.heap.size = g8 := ⟨_, rfl⟩
    rw [hg8] at HF9 ⊢
    clear hg8
    have hkk := HKP.out _ HB9.out
    have k0 := hkk.1
    have k1 := hkk.2
    clear hkk
    go_upto_region 10 with (go_at_call 13; go_must (refine (HSA.out w9 HB9.out).mono ?_; rintro en w10 ⟨rfl, hb10⟩; have HB10 := Lib.hid (HB9.out.trans (hb10.mono HB9.out.size)); have HF10 := Lib.hid (HF9.out.below hb10 HF9.out.lt); clear hb10; have y0 : w10.cell? ⟨g8, 0, none⟩ = some (.int .i64 ck) := HF10.out.cell 0))
    clear k0 k1
    go_wp2
    go_ret
    exact ⟨by simp, HX5.out.1.trans (HB10.out.mono HX5.out.1.size)⟩
set_option maxRecDepth 100000 in
theorem walk {H : Type} {enc : TypeId × Value → H} (v0 : Value) (d0 : DataW H) (p0 : List MemPlace) (base0 : Nat) (w : World) (hv0 : Value.okWide Tryz.prog w .any base0 24 v0) (w0 : DataW.Trod enc Tryz.prog w 0 (fun _ => true) true 24 v0 d0 p0) (hwt0 : ∀ n ∈ d0.weights Tryz.prog 24, n ≤ 140737488351232) :
    Calls Tryz.prog 3 #[v0] w fun e w' => e = .returned (.bool true) ∧ Below w.heap.size w w' := by
  obtain ⟨u0, l0, vs0, rfl, hs0, hi0⟩ := open_bundle hv0 w0 hwt0
  exact encodes_walk u0 l0 vs0 w hs0 hi0

set_option maxRecDepth 100000 in
theorem contract (H : Type) (enc : TypeId × Value → H) (W : World) (base : Nat) (args : Array Value) (ds gs : List (DataW H)) (before : List MemPlace)
    (hval0 : ∀ (j : Nat) t v, Tryz.f3.params[j]? = some t → args[j]? = some v → Value.okWide Tryz.prog W .any base t v)
    (hW : DataW.Whole enc Tryz.prog Tryz.f3.params.toList Rows.bundleEncodesSpec.vars false W args.toList ds gs before)
    (hsz0 : (DataW.weightsEach Tryz.prog (Tryz.f3.params.toList ++ Rows.bundleEncodesSpec.plain.varTypes Tryz.prog) (ds ++ gs)).all (· ≤ reachBytes) = true) :
    Calls Tryz.prog 3 args W fun e W' => ∃ v, e = .returned v ∧ Rows.bundleEncodesSpec.post enc Tryz.prog Tryz.f3 false true false false W args v W' := by
  have hval : ∀ (j : Nat) t v, Tryz.f3.params[j]? = some t → args[j]? = some v → Value.okWide Tryz.prog W .any base t v := hval0
  have hsz : (DataW.weightsEach Tryz.prog (Tryz.f3.params.toList ++ Rows.bundleEncodesSpec.plain.varTypes Tryz.prog) (ds ++ gs)).all (· ≤ reachBytes) = true := hsz0
  have hW' := hW
  obtain ⟨p, q, hA0, hV, rfl, hfz, hnd⟩ := hW
  have hA : DataW.TrodAll enc Tryz.prog W 0 (fun _ => true) true Tryz.f3.params.toList args.toList ds p := hA0
  rw [Tryz.params3] at hA hval hsz
  obtain ⟨v0, vs0, d0, ds0, p0, q0, hargs, rfl, rfl, h0, r0⟩ := trodAll_cons hA
  obtain ⟨rfl, rfl, rfl⟩ := trodAll_nil r0
  obtain rfl : args = #[v0] := by cases args; simp_all
  obtain ⟨rfl, rfl⟩ := trodVars_none hV
  have k0 := h0
  have lt0 : ∀ x ∈ p0, x.block < W.heap.size := by obtain ⟨m, hm⟩ := k0; exact DataW.trod_lt m _ _ _ hm
  have hwt0 : ∀ n ∈ d0.weights Tryz.prog 24, n ≤ 140737488351232 := fun n hn => by
    have := of_decide_eq_true (List.all_eq_true.1 hsz _ (DataW.weights_mem_each (j := 0) (t := 24) rfl rfl n hn))
    simpa [reachBytes] using this
  clear hA0 hval0
  refine (walk v0 d0 p0 base W (hval 0 24 v0 rfl rfl) h0 hwt0).mono fun e W' ⟨he, bel⟩ => ?_
  subst he
  exact ⟨_, rfl, _, _, _, [], _, [], hW', trodAll_mk1 (shut_bool Tryz.underlying4 _), (trodAll_cons_mk (Below.trod laidOut (by kernel_rfl) (of_decide_eq_true (by kernel_rfl)) k0 bel lt0) trodAll_mk0), rfl, bel.frame _, fun h => by cases h⟩

set_option maxRecDepth 100000 in
theorem lifted (os : Os) (started : os.Started) (H : Type) (enc : TypeId × Value → H) :
    ReturnsInHanded {} Tryz.checked os 3 .any (Rows.bundleEncodesSpec.pre6 enc Tryz.prog Tryz.f3 Rows.bundleEncodesRow.domain false) (Rows.bundleEncodesSpec.post enc Tryz.prog Tryz.f3 false true false false) := by
  refine returnsInHanded_of_change_sized (C := Tryz.checked) own started (by kernel_rfl) Tryz.func3
    (ChangeSpec.witness6 (enc := enc) (C := Tryz.checked) false ⟨#[], #[.agg #[.slice none 0 0]], []⟩ 8 (by kernel_rfl) (by kernel_rfl) (by kernel_rfl) (by kernel_rfl)) ?_
  intro W base args ds gs before hval hW _ hsz _
  exact contract H enc W base args ds gs before hval hW hsz

theorem over : Rows.bundleEncodesRow.holds Tryz.pinned (OpenSpec.ofChange Rows.bundleEncodesSpec) :=
  OpenClaim.holds_of_wide 3 Tryz.f3 rfl rfl rfl rfl rfl rfl rfl ⟨rfl, rfl, rfl, rfl, rfl⟩ rfl rfl rfl rfl rfl (by kernel_rfl) Tryz.func3 (by kernel_rfl)
    (of_decide_eq_true (by kernel_rfl)) (by unfold Func.isWrapper; first | (rw [if_pos (by decide +kernel)]; kernel_rfl) | (rw [if_neg (by decide +kernel)]; exact ⟨rfl, rfl⟩))
    (fun os started H enc _ => lifted os started H enc)

/-- The statement. -/
theorem proved : Rows.BundleEncodesSaid := over
#print axioms proved
end Go.Proofs.YtfpepdjffehbcaaGreat.bundleEncodes
