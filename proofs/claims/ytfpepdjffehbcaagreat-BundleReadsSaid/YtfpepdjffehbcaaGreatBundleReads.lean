/-
  The law BundleReads answers true for every bundle.
-/
import Derived.Test.YtfpepdjffehbcaaGreatRows
import Derived.Test.YtfpepdjffehbcaaGreatBunRdS
import Derived.Test.YtfpepdjffehbcaaGreatBunReadP
import Derived.Test.YtfpepdjffehbcaaGreatBunRdT
import Derived.Test.YtfpepdjffehbcaaGreatBunRdG
import Derived.Test.YtfpepdjffehbcaaGreatBunAsk2
import Derived.Test.YtfpepdjffehbcaaGreatBunSort
import Derived.Test.YtfpepdjffehbcaaGreatRegM
import Derived.WalkKit
import Derived.Outline
import Derived.ProofKit
import Derived.OpenShut
import Derived.ShutString
import Derived.ChangeOld
import Derived.Below
import Derived.Deep.CondSized
namespace Go.Proofs.YtfpepdjffehbcaaGreat.bundleReads
open Go.ChangeShapes Go.WideShapes Go.ChangeAt Go.RowKit
open Go.ChangeMaps (open_string shut_string)
set_option linter.unusedVariables false

theorem own : ownKnob Tryz.prog.godebug = none := by kernel_rfl
theorem laidOut : laidOutB Tryz.prog = true := by kernel_rfl

theorem str_back (b : ByteArray) : str b.data.toList = b := by simp [str]
theorem two_vars (w : World) (u : Value) (e a : Int) : Below w.heap.size w ((w.alloc (.cells #[u] 24)).alloc (.cells #[.int .i64 e, .int .i64 a] 34)) ∧ Blk ((w.alloc (.cells #[u] 24)).alloc (.cells #[.int .i64 e, .int .i64 a] 34)) w.heap.size 24 #[u] ∧ Blk ((w.alloc (.cells #[u] 24)).alloc (.cells #[.int .i64 e, .int .i64 a] 34)) (w.heap.size + 1) 34 #[.int .i64 e, .int .i64 a] := by
  have h2 := Blk.new (w.alloc (.cells #[u] 24)) 34 #[.int .i64 e, .int .i64 a]
  simp only [World.size_alloc] at h2
  exact ⟨((Below.refl w.heap.size w).alloc (Nat.le_refl _) _).alloc (by simp) _, (Blk.new w _ _).alloc _, h2⟩
theorem below_draws (w : World) (k : Nat) : Below w.heap.size w (w.drew.drewN k) := ((Below.refl _ w).drew).trans (((Only.refl w.heap.size w.drew).drewN k).below (B := w.heap.size) (Nat.le_refl _) (Nat.le_refl _))
theorem got_srt {L : List PStep} (hc : (checkB L).1 = 0) (hs : CutSm L) : SrtIn (gotL L) := by
  have hw : ∀ b ∈ gotL L, b.2.length ≤ 900 := fun b hb => by
    obtain ⟨c, hcm, rfl⟩ := List.mem_map.1 hb
    have h1 := regroup_len c.2
    have h2 := hs.2 c hcm
    have h3 := Nat.mul_le_mul h2 h2
    exact Nat.le_trans h1 (Nat.le_trans h3 (by decide))
  have hl : (gotL L).length ≤ 11 := by
    unfold gotL
    rw [List.length_map]
    exact hs.1
  refine ⟨by omega, ?_, fun b hb => ?_⟩
  · have h1 := flat_sum_le hw
    have h2 : 900 * (gotL L).length ≤ 900 * 11 := Nat.mul_le_mul_left _ hl
    omega
  · obtain ⟨c, hcm, rfl⟩ := List.mem_map.1 hb
    have hf := bk_fit hs hcm
    have ht := texts_small hc
    refine ⟨Nat.le_trans (ht _ hf.1) (by decide), fun x hx => ?_⟩
    have hv := hf.2.2.2 x (regroup_mem.1 hx)
    exact ⟨Nat.le_trans (ht _ (paths_words hv.1)) (by decide), Nat.le_trans (ht _ hv.2) (by decide)⟩
set_option maxHeartbeats 32000000 in
set_option maxRecDepth 100000 in
theorem reads_walk (v : Value) (l : List PStep) (vs0 : List Value) (w : World) (h : StepsR w v l vs0) (hin : BunIn l) :
    Calls Tryz.prog 7 #[.agg #[v]] w fun en w' => en = .returned (.bool true) ∧ Below w.heap.size w w' := by
  have HS := Lib.hid h
  obtain ⟨A, c, rfl, -, -, -, -, -⟩ := h
  obtain ⟨n0, hn0⟩ : ∃ n0, l.length = n0 := ⟨_, rfl⟩
  rw [hn0] at HS ⊢
  clear hn0
  have HBA := Lib.hid ((Below.refl _ w).alloc (Nat.le_refl _) (.cells #[.slice A n0 c] 24))
  have HWK := Lib.hid (fun W => bwakes_any W)
  have HCU := Lib.hid (fun (W : World) (hW : Below w.heap.size w W) => bcut_any (.slice A n0 c) l vs0 W (HS.out.more hW) hin)
  have HSM := Lib.hid (cut_small l)
  have HIN := Lib.hid (cutL_in hin)
  clear hin
  have HGA := Lib.hid (Blk.new w 24 #[.slice A n0 c])
  obtain ⟨i1, hi1, hy0, hy1, hy2⟩ := info_parts valueI
  obtain ⟨i2, hi2, hx0, hx1, hx2⟩ := info_parts bookI
  go_enter Tryz.func7, Tryz.ntmps7
  go_upto_region 3 with (go_at_call 8; go_must (refine (HWK.out _).mono ?_; rintro en w1 ⟨rfl, hb1⟩; have HB1 := Lib.hid (HBA.out.trans (hb1.mono HBA.out.size)); have HG1 := Lib.hid (HGA.out.below hb1 HGA.out.lt); clear hb1))
  have k0 : w1.cell? ⟨w.heap.size, 0, none⟩ = some (.slice A n0 c) := HG1.out.cell 0
  have HC1 := Lib.hid (HCU.out w1 HB1.out)
  go_wp2_with fail
  refine HC1.out.mono ?_
  rintro en w2 ⟨u, us, rfl, hO, hb2⟩
  obtain ⟨Au, cu, rfl, -, -, -⟩ := own_form hO.1
  have HG2 := Lib.hid (HG1.out.below hb2 HG1.out.lt)
  have HO2 := Lib.hid hO
  have HB2 := Lib.hid (HB1.out.trans (hb2.mono HB1.out.size))
  have HZ2 := Lib.hid (show w.heap.size < w1.heap.size from HG1.out.lt)
  have k1 : w2.cell? ⟨w.heap.size, 0, none⟩ = some (.slice A n0 c) := HG2.out.cell 0
  have k2 : w2.frozen? ⟨w.heap.size, 0, none⟩ = false := HG2.out.frozen 0
  obtain ⟨L, hL⟩ : ∃ L, cutL l = L := ⟨_, rfl⟩
  rw [hL] at HSM HIN HO2 ⊢
  clear hO hb2 k0 HWK HCU HC1 hL
  obtain ⟨nl, hnl⟩ : ∃ nl, L.length = nl := ⟨_, rfl⟩
  have HNL := Lib.hid hnl
  have hnl1 : nl ≤ 11 := by rw [← hnl]; exact HSM.out.1
  rw [hnl]
  go_upto_region 4 with (fail)
  clear k1 k2
  have HW3 := Lib.hid (show BunOwn (w2.setCell ⟨w.heap.size, 0, none⟩ (.slice Au nl cu)) w1.heap.size (.slice Au nl cu) L us ∧ Below w.heap.size w (w2.setCell ⟨w.heap.size, 0, none⟩ (.slice Au nl cu)) ∧ Blk (w2.setCell ⟨w.heap.size, 0, none⟩ (.slice Au nl cu)) w.heap.size 24 #[.slice Au nl cu] from by
    have hs := grown_set w2 w.heap.size 0 (.slice Au nl cu)
    have ho := HO2.out
    rw [hnl] at ho
    exact ⟨⟨own_stays3 ho.1 HG2.out (by decide) hs, ho.2.1, fun i b ku hi hj => own_stays3 (ho.2.2 i b ku hi hj) HG2.out (by decide) hs⟩, HB2.out.setCell (Nat.le_refl _) _, HG2.out.set_ 0 _⟩)
  clear hnl HO2 HG2 HB2 HG1 HB1 HGA HBA HS
  generalize w2.setCell ⟨w.heap.size, 0, none⟩ (.slice Au nl cu) = w3 at *
  obtain ⟨h0, hh0⟩ : ∃ h0, w.heap.size = h0 := ⟨_, rfl⟩
  have HH0 := Lib.hid hh0
  rw [hh0] at HW3 HZ2 ⊢
  clear hh0
  have HST := Lib.hid (HW3.out.1.steps)
  have HBW := Lib.hid (show Below h0 w w3 ∧ Blk w3 h0 24 #[.slice Au nl cu] from HW3.out.2)
  clear HW3
  have k0 : w3.cell? ⟨h0, 0, none⟩ = some (.slice Au nl cu) := HBW.out.2.cell 0
  clear hnl1
  obtain ⟨e1, he1⟩ : ∃ e1, (checkB L).1 = e1 := ⟨_, rfl⟩
  by_cases z1 : e1 = 0
  · subst z1
    have HEN := Lib.hid (enc_yes HST.out HIN.out HSM.out he1)
    have HBS := Lib.hid ((few_all he1 HIN.out.few).small)
    have HFT := Lib.hid (enc_fits he1 HSM.out)
    have HE1 := Lib.hid he1
    have HRN := Lib.hid (bytes_run L)
    clear he1
    obtain ⟨X, hX⟩ : ∃ X, bytesB L = X := ⟨_, rfl⟩
    have HXE := Lib.hid hX
    rw [hX] at HEN HFT HRN
    clear hX
    go_upto_region 5 with (go_at_call 10; go_must (refine HEN.out.mono ?_; rintro en w5 ⟨A5, m5, c5, rfl, hm5, ho5, hb5⟩; have HB5 := Lib.hid hb5; have HM5 := Lib.hid hm5; have HO5 := Lib.hid ho5; clear hb5 hm5 ho5))
    clear k0 HEN
    have HRD := Lib.hid (show Calls Tryz.prog 29 #[.slice A5 m5 c5] w5 (fun e w' => ∃ g A' c', e = .returned (.pointer (some ⟨g, 0, none⟩)) ∧ Rd w' g A' c' X 0 0 ∧ w5.heap.size ≤ g ∧ Below w5.heap.size w5 w') from by
      obtain ⟨A', c', e, h1, h2, h3⟩ := HO5.out.form
      cases e
      exact read_any X A5 c5 w5.heap.size w5 h3 (Nat.le_refl _) (by have := HFT.out; omega))
    go_upto_region 8 with (go_at_call 29; go_must (refine HRD.out.mono ?_; rintro en w7 ⟨g, A7, c7, rfl, hR, hg, hb7⟩; have HR7 := Lib.hid (show Ahead w7 g c7 A7 X ([86, 82, 78, 67] ++ (le 2 1 ++ (le 4 (textsP L).length ++ Run textBy (textsP L) (tailT L) 0))) from ⟨0, hR, by rw [List.drop_zero]; exact HRN.out⟩); have HB7 := Lib.hid hb7; have HG := Lib.hid hg; clear hR hg hb7))
    clear HRD
    have HRW := Lib.hid (aheadRaw (n := 4) HR7.out rfl (by have := HFT.out; omega))
    have HV4 := Lib.hid (show str [86, 82, 78, 67] = ⟨#[86, 82, 78, 67]⟩ from rfl)
    go_upto_region 10 with (first
      | (go_at_call 30; go_must (refine HRW.out.mono ?_; rintro en w8 ⟨v8, rfl, ho8, hR8, hn8⟩; have HR8 := Lib.hid hR8; have HB8 := Lib.hid (HB7.out.trans ((hn8.below (B := w5.heap.size) HG.out HB7.out.size))); obtain ⟨A8, c8, rfl, hlc8, hcm8, hr8⟩ := ho8.form; have hcv := conv_rb (P := Tryz.prog) 27 9 5 c8 Tryz.underlying27 Tryz.underlying5 Tryz.underlying9 hr8; rw [show ([86, 82, 78, 67] : List UInt8).length = 4 from rfl, HV4.out] at hcv; have HU8 := Lib.hid (ahead16 HR8.out (by decide)); clear ho8 hR8 hn8 hlc8 hcm8 hr8))
      | (go_at_call 31; go_must (refine HU8.out.mono ?_; rintro en w9 ⟨rfl, hR9, hn9⟩; have HR9 := Lib.hid hR9; have HB9 := Lib.hid (HB8.out.trans ((hn9.below (B := w5.heap.size) HG.out HB8.out.size))); clear hR9 hn9)))
    obtain ⟨T, hT⟩ : ∃ T, textsP L = T := ⟨_, rfl⟩
    have HTE := Lib.hid hT
    have HTS := Lib.hid (show ∀ x ∈ T, x.size ≤ 4096 from hT ▸ texts_small HE1.out)
    have hTn : T.length ≤ 1000000 := by
      rw [← hT]
      have h1 := few_words30 L HSM.out.2
      have h2 := poolL_len (lt := bl) (wordsB L)
      have h3 := HSM.out.1
      unfold textsP
      omega
    rw [hT] at HR9
    obtain ⟨nT, hnT⟩ : ∃ nT, T.length = nT := ⟨_, rfl⟩
    have HNT := Lib.hid hnT
    rw [hnT] at HR9 hTn
    have HUT := Lib.hid (ahead32 HR9.out (by omega))
    clear hT hnT hcv HV4 HRW HR7 HR8 HU8 HB7 HB8
    obtain ⟨i0, hi0, hz0, hz1, hz2⟩ := info_parts str_info
    have hXl : X.length ≤ 140737488355328 := by have := HFT.out; omega
    have HXL := Lib.hid hXl
    clear hXl
    go_wp2_with (go_at_call 32; go_must (refine HUT.out.mono ?_; rintro en w11 ⟨rfl, hR, hn⟩; have HR11 := Lib.hid hR; have HB11 := Lib.hid (HB9.out.trans ((hn.below (B := w5.heap.size) HG.out HB9.out.size))); clear hR hn))
    clear HUT HR9 HB9
    go_loopw [6, 8] (fun lv nv W => ∃ i k : Nat, nv = .int .u32 (k : Int) ∧ i + k = nT ∧ Below w5.heap.size w5 W ∧ w5.heap.size ≤ W.heap.size ∧ Ahead W g c7 A7 X (Run textBy T (tailT L) i) ∧ W.ownsRow (g + 1) 9 1 lv i ((T.take i).map Value.string)) (fun _ nv _ => (Lib.intOf nv).toNat)
    case atStart => exact ⟨0, nT, rfl, Nat.zero_add _, HB11.out, HB11.out.size, HR11.out, World.ownsRow_nil _ _ _ _⟩
    case round =>
      clear HR11 HB11
      obtain ⟨i, k, rfl, hik, hB, hZ, hA, hO⟩ := hrel
      have HB := Lib.hid (And.intro hB hZ)
      have HA := Lib.hid hA
      have HO := Lib.hid hO
      obtain ⟨Al, cl, rfl, -, -, -⟩ := own_form hO
      clear hB hZ hA hO
      cases k with
      | zero =>
        obtain rfl : nT = i := by omega
        have HLT := Lib.hid (show wr.ownsRow (g + 1) 9 1 (.slice Al nT cl) nT (T.map Value.string) from by
          have h := HO.out
          rw [List.take_of_length_le (by rw [HNT.out]; exact Nat.le_refl _)] at h
          exact h)
        obtain ⟨P, hP⟩ : ∃ P, pathsP L = P := ⟨_, rfl⟩
        have HPE := Lib.hid hP
        obtain ⟨nP, hnP⟩ : ∃ nP, P.length = nP := ⟨_, rfl⟩
        have HNP := Lib.hid hnP
        have hPn : nP ≤ 1000000 := by
          rw [← hnP, ← hP]
          have h1 := few_words30 L HSM.out.2
          have h2 := poolL_len (lt := bl) (pathsB L)
          have h3 := HSM.out.1
          unfold pathsP
          omega
        have HPT := Lib.hid (show ∀ s ∈ P, s ∈ T from fun s hs => by
          rw [← HTE.out]
          exact paths_words (by rw [HPE.out]; exact hs))
        have HAP := Lib.hid (show Ahead wr g c7 A7 X (le 4 nP ++ Run (pathBy T) P (tailP L) 0) from by
          have h := HA.out
          rw [run_end (by rw [HNT.out]; exact Nat.le_refl _)] at h
          unfold tailT at h
          rw [HTE.out, HPE.out, HNP.out] at h
          exact h)
        have HER := Lib.hid (aheadErr HAP.out)
        have HU := Lib.hid (ahead32 HAP.out (by omega))
        clear hP hnP hik HA HO
        go_wp2_with (first
          | (go_at_call 33; go_must (refine HER.out.mono ?_; rintro en wz ⟨rfl, rfl⟩))
          | (go_at_call 32; go_must (refine HU.out.mono ?_; rintro en wp ⟨rfl, hR, hn⟩; have HAp := Lib.hid hR; have HBp := Lib.hid (show Below w5.heap.size w5 wp ∧ w5.heap.size ≤ wp.heap.size from ⟨HB.out.1.trans (hn.below (B := w5.heap.size) HG.out HB.out.2), Nat.le_trans HB.out.2 hn.size⟩); have HLp := Lib.hid (own_stays2 HLT.out hn (fun q hq e => by cases e; have := (HLT.out.lt _ hq).1; omega)); clear hR hn)))
        clear HU HER HAP HLT HB
        go_loopw [7, 9] (fun pv nv W => ∃ i k : Nat, nv = .int .u32 (k : Int) ∧ i + k = nP ∧ Below w5.heap.size w5 W ∧ wp.heap.size ≤ W.heap.size ∧ Ahead W g c7 A7 X (Run (pathBy T) P (tailP L) i) ∧ W.ownsRow (g + 1) 9 1 (.slice Al nT cl) nT (T.map Value.string) ∧ W.ownsRow wp.heap.size 9 1 pv i ((P.take i).map Value.string)) (fun _ nv _ => (Lib.intOf nv).toNat)
        case atStart => exact ⟨0, nP, rfl, Nat.zero_add _, HBp.out.1, Nat.le_refl _, HAp.out, HLp.out, World.ownsRow_nil _ _ _ _⟩
        case round =>
          have HGP := Lib.hid (And.intro HBp.out.2 HAp.out.lt)
          have HLB := Lib.hid (show ∀ k, (Value.slice Al nT cl).ownBlock = some k → k < wp.heap.size from fun k hk => (HLp.out.lt k hk).2)
          clear HAp HBp HLp
          obtain ⟨i, k, rfl, hik, hB, hZ, hA, hL, hO⟩ := hrel
          have HB := Lib.hid (And.intro hB (Nat.le_trans HGP.out.1 hZ))
          have HZ := Lib.hid hZ
          have HA := Lib.hid hA
          have HLT := Lib.hid hL
          have HO := Lib.hid hO
          obtain ⟨Ap, cp, rfl, -, -, -⟩ := own_form hO
          clear hB hZ hA hL hO
          cases k with
          | zero =>
            obtain rfl : nP = i := by omega
            have HOL := Lib.hid (show TxtO wr (g + 1) wr.heap.size (.slice Al nT cl) T ∧ TxtO wr wp.heap.size wr.heap.size (.slice Ap nP cp) P from by
              have h := HO.out
              rw [List.take_of_length_le (by rw [HNP.out]; exact Nat.le_refl _)] at h
              refine ⟨⟨by rw [HNT.out]; exact HLT.out, fun k hk => (HLT.out.lt k hk).2⟩, ⟨by rw [HNP.out]; exact h, fun k hk => (h.lt k hk).2⟩⟩)
            obtain ⟨Y, hY⟩ : ∃ Y, tabsB L = Y := ⟨_, rfl⟩
            have HYE := Lib.hid hY
            obtain ⟨nY, hnY⟩ : ∃ nY, Y.length = nY := ⟨_, rfl⟩
            have HNY := Lib.hid hnY
            have hYn : nY ≤ 1000000 := by
              rw [← hnY, ← hY]
              have h1 := few_tabs30 (textsP L) (pathsP L) L HSM.out.2
              have h2 := poolL_len (lt := tl) (allTabs (textsP L) (pathsP L) L)
              have h3 := HSM.out.1
              unfold tabsB
              omega
            have HYB := Lib.hid (show ∀ t ∈ Y, t.length ≤ 30 ∧ ∀ r ∈ t, RowSm r from fun t ht => by
              rw [← hY] at ht
              exact ⟨(few_tabs30 (textsP L) (pathsP L) L HSM.out.2).2 t ((poolL_mem _ _).1 ht), (HBS.out.2.2.2.2.2.1 t ht).2⟩)
            have HAP := Lib.hid (show Ahead wr g c7 A7 X (le 4 nY ++ Run tabBy Y (tailX L) 0) from by
              have h := HA.out
              rw [run_end (by rw [HNP.out]; exact Nat.le_refl _)] at h
              unfold tailP at h
              rw [HYE.out, HNY.out] at h
              exact h)
            have HER := Lib.hid (aheadErr HAP.out)
            have HU := Lib.hid (ahead32 HAP.out (by omega))
            have HGC := Lib.hid (show g < wp.heap.size ∧ wp.heap.size ≤ wr.heap.size from ⟨HGP.out.2, HZ.out⟩)
            clear hY hnY hik HA HO HLT HLB
            go_wp2_with (first
              | (go_at_call 33; go_must (refine HER.out.mono ?_; rintro en wz ⟨rfl, rfl⟩))
              | (go_at_call 32; go_must (refine HU.out.mono ?_; rintro en wq ⟨rfl, hR, hn⟩; have HAq := Lib.hid hR; have HBq := Lib.hid (show Below w5.heap.size w5 wq ∧ w5.heap.size ≤ wq.heap.size ∧ wr.heap.size ≤ wq.heap.size from ⟨HB.out.1.trans (hn.below (B := w5.heap.size) HG.out HB.out.2), Nat.le_trans HB.out.2 hn.size, hn.size⟩); have HOq := Lib.hid (show TxtO wq (g + 1) wq.heap.size (.slice Al nT cl) T ∧ TxtO wq wp.heap.size wq.heap.size (.slice Ap nP cp) P from ⟨(HOL.out.1.kept hn (fun k e => by cases e; exact .inl (Nat.lt_succ_self _))).up hn.size, (HOL.out.2.kept hn (fun k e => by cases e; exact .inl HGC.out.1)).up hn.size⟩); clear hR hn)))
            clear HU HER HAP HB HOL
            go_loopw [10, 11, 12, 13] (fun tv nv _ _ W => ∃ (i k : Nat) (ps : List (Value × List RowI)), nv = .int .u32 (k : Int) ∧ i + k = nY ∧ Below w5.heap.size w5 W ∧ wq.heap.size ≤ W.heap.size ∧ Ahead W g c7 A7 X (Run tabBy Y (tailX L) i) ∧ (TxtO W (g + 1) wq.heap.size (.slice Al nT cl) T ∧ TxtO W wp.heap.size wq.heap.size (.slice Ap nP cp) P) ∧ TabO W wq.heap.size W.heap.size tv ps ∧ ps.map Prod.snd = Y.take i) (fun _ nv _ _ _ => (Lib.intOf nv).toNat)
            case atStart => exact ⟨0, nY, [], rfl, Nat.zero_add _, HBq.out.1, Nat.le_refl _, HAq.out, HOq.out, TabO.nil _ _ _, rfl⟩
            case round =>
              have HGQ := Lib.hid (show w5.heap.size ≤ wq.heap.size ∧ g < wp.heap.size ∧ wp.heap.size ≤ wq.heap.size ∧ g < wq.heap.size from ⟨HBq.out.2.1, HGC.out.1, Nat.le_trans HGC.out.2 HBq.out.2.2, HAq.out.lt⟩)
              clear HAq HBq HOq HGC
              obtain ⟨i, k, ps, rfl, hik, hB, hZ, hA, hOl, hTo, hps⟩ := hrel
              have HB := Lib.hid (show Below w5.heap.size w5 wr ∧ w5.heap.size ≤ wr.heap.size ∧ wq.heap.size ≤ wr.heap.size from ⟨hB, Nat.le_trans HGQ.out.1 hZ, hZ⟩)
              have HA := Lib.hid hA
              have HOL := Lib.hid hOl
              have HTO := Lib.hid hTo
              have HPS := Lib.hid hps
              obtain ⟨Ay, cy, rfl, -, -, -⟩ := own_form hTo.1
              clear hB hZ hA hOl hTo hps
              cases k with
              | zero =>
                obtain rfl : nY = i := by omega
                obtain ⟨np, hnp⟩ : ∃ np, ps.length = np := ⟨_, rfl⟩
                have hnpy : np = nY := by
                  have h := congrArg List.length HPS.out
                  rw [List.length_map, hnp, List.length_take, HNY.out, Nat.min_self] at h
                  exact h
                rw [hnpy] at hnp
                have HPN := Lib.hid hnp
                rw [hnp] at HTO ⊢
                have HPY := Lib.hid (show ps.map Prod.snd = Y from by
                  have h := HPS.out
                  rw [List.take_of_length_le (by rw [HNY.out]; exact Nat.le_refl _)] at h
                  exact h)
                clear hnp hnpy hik
                obtain ⟨zc, hzc⟩ : ∃ zc, crc (bodyB L) = zc := ⟨_, rfl⟩
                have HZC := Lib.hid hzc
                have HAX := Lib.hid (show Ahead wr g c7 A7 X (le 4 nl ++ Run (bookBy T P Y) L (le 4 zc) 0) from by
                  have h := HA.out
                  rw [run_end (by rw [HNY.out]; exact Nat.le_refl _)] at h
                  unfold tailX at h
                  rw [HTE.out, HPE.out, HYE.out, HNL.out, hzc] at h
                  exact h)
                have hba := (Below.refl wr.heap.size wr).alloc (Nat.le_refl _) (.cells #[.slice none 0 0] 24)
                obtain ⟨gb, hgb⟩ : ∃ gb, wr.heap.size = gb := ⟨_, rfl⟩
                have HR0 := Lib.hid (show RdAll w5 g c7 A7 X (.slice Al nT cl) (.slice Ap nP cp) (.slice Ay nY cy) T P ps wp.heap.size wq.heap.size gb gb (wr.alloc (.cells #[.slice none 0 0] 24)) (gb + 1) (le 4 nl ++ Run (bookBy T P Y) L (le 4 zc) 0) (.slice none 0 0) ([]) [] from by
                  have hz := World.size_alloc wr (.cells #[.slice none 0 0] 24)
                  have h1 := HGQ.out
                  have h2 := HB.out
                  have h3 := HTO.out.on hba
                  have h4 := Blk.new wr 24 #[.slice none 0 0]
                  rw [hgb] at h3 h4 hz h2
                  exact ⟨⟨HG.out, h1.2.1, h1.2.2.1, h2.2.2, Nat.le_refl _, Nat.lt_succ_self _⟩, ⟨h2.1.trans (hba.mono (by omega)), by omega, by omega⟩, HAX.out.on hba, HOL.out.1.on hba, HOL.out.2.on hba, h3, h4, GotO.nil _ _ _⟩)
                have HFIT := Lib.hid (show ∀ b ∈ L, BkFit T P Y b from fun b hb => by
                  have h := bk_fit HSM.out hb
                  rw [HTE.out, HPE.out, HYE.out] at h
                  exact h)
                have hnlb : nl ≤ 11 := by rw [← HNL.out]; exact HSM.out.1
                clear hba hzc HA HAX HB HOL HTO HPS HBS
                go_upto_region 30 with (fail)
                generalize wr.alloc (.cells #[.slice none 0 0] 24) = w29 at *
                (try rw [hgb])
                clear hgb
                have HU := Lib.hid (ahead32 HR0.out.2.2.1 (by omega))
                go_wp2_with (go_at_call 32; go_must (refine HU.out.mono ?_; rintro en w30 ⟨rfl, hR, hn⟩; have HR1 := Lib.hid (HR0.out.read hn hR); clear hR hn))
                clear HU HR0
                go_loopw [15] (fun nv W => ∃ (i k : Nat) (uv : Value) (us : List Value), nv = .int .u32 (k : Int) ∧ i + k = nl ∧ RdAll w5 g c7 A7 X (.slice Al nT cl) (.slice Ap nP cp) (.slice Ay nY cy) T P ps wp.heap.size wq.heap.size gb gb W W.heap.size (Run (bookBy T P Y) L (le 4 zc) i) uv (gotL (L.take i)) us) (fun nv _ => (Lib.intOf nv).toNat)
                case atStart => exact ⟨0, nl, _, [], rfl, Nat.zero_add _, HR1.out.up⟩
                case round =>
                  clear HR1
                  obtain ⟨i, k, uv, us, rfl, hik, hA⟩ := hrel
                  have HA := Lib.hid hA
                  have HORD := Lib.hid hA.1
                  obtain ⟨Ag, cg, euv, -, -, -⟩ := own_form hA.2.2.2.2.2.2.2.1.1
                  have hgl : (gotL (L.take i)).length = i := by
                    unfold gotL
                    rw [List.length_map, List.length_take, HNL.out]
                    omega
                  rw [hgl] at euv
                  have HGL := Lib.hid hgl
                  subst euv
                  clear hA hgl
                  cases k with
                  | zero =>
                    obtain rfl : nl = i := by omega
                    have HA1 := Lib.hid (show RdAll w5 g c7 A7 X (.slice Al nT cl) (.slice Ap nP cp) (.slice Ay nY cy) T P ps wp.heap.size wq.heap.size gb gb wr wr.heap.size (le 4 zc) (.slice Ag nl cg) (gotL L) us from by
                      have h := HA.out
                      rw [run_end (by rw [HNL.out]; exact Nat.le_refl _), List.take_of_length_le (by rw [HNL.out]; exact Nat.le_refl _)] at h
                      exact h)
                    obtain ⟨nb, hnb⟩ : ∃ nb, (bodyB L).length = nb := ⟨_, rfl⟩
                    have HNB := Lib.hid hnb
                    have hxm : m5 = nb + 4 := by
                      rw [← HM5.out, ← HXE.out]
                      unfold bytesB
                      rw [List.length_append, le_len, hnb]
                    have HXM := Lib.hid hxm
                    have hm5 : m5 ≤ 16777216 := by have := HFT.out; rw [HM5.out] at this; exact this
                    have HCR := Lib.hid (show ∀ W, Below w5.heap.size w5 W → Calls Tryz.prog 36 #[.slice A5 nb c5] W (fun e w' => e = .returned (.int .u32 (zc : Int)) ∧ W = w') from fun W hW => by
                      obtain ⟨A', c', e, h1, h2, h3⟩ := HO5.out.form
                      cases e
                      have h4 : RB w5 w5.heap.size A5 (bodyB L) := by
                        have h5 := Reads.take (k := nb) h3 (by rw [HM5.out]; omega)
                        have h6 : (bvs X).take (nb * 1) = bvs (bodyB L) := by
                          rw [← HXE.out]
                          unfold bytesB bvs
                          rw [Nat.mul_one, ← List.map_take, List.take_left' HNB.out]
                        rw [h6] at h5
                        unfold RB
                        rw [HNB.out]
                        exact h5
                      have h7 := crc_any (bodyB L) A5 c5 w5.heap.size W (h4.below hW) (by rw [HNB.out]; simp only [maxLen]; omega)
                      rw [HNB.out, HZC.out] at h7
                      exact h7)
                    have HC5 := Lib.hid (show nb ≤ c5 ∧ c5 ≤ maxLen from by
                      obtain ⟨A', c', e, h1, h2, h3⟩ := HO5.out.form
                      cases e
                      rw [HM5.out] at h1
                      exact ⟨by omega, h2⟩)
                    have hnc := HC5.out.1
                    have hnc2 : (nb : Int) ≤ (c5 : Int) := by omega
                    have hnb0 : (0 : Int) ≤ (nb : Int) := by omega
                    have hwm : IntKind.i64.wrap ((m5 : Int) - 4) = (nb : Int) := by rw [IntKind.wrap_i64]; omega
                    have HBH := Lib.hid (show ∀ W, Below w5.heap.size w5 W → Blk W h0 24 #[.slice Au nl cu] from fun W hW => by
                      have h1 := HBW.out.2.below HB5.out HBW.out.2.lt
                      exact h1.below hW h1.lt)
                    have HLF := Lib.hid (show ∀ W, Below wr.heap.size wr W → Calls Tryz.prog 35 #[.pointer (some ⟨g, 0, none⟩)] W (fun e w' => e = .returned (.int .i64 4) ∧ ∃ k, W.drewN k = w') from fun W hW => by
                      have h := aheadLeft (HA1.out.2.2.1.on hW)
                      rw [le_len] at h
                      exact h)
                    have k0 : wr.cell? ⟨gb, 0, none⟩ = some (.slice Ag nl cg) := HA1.out.2.2.2.2.2.2.1.cell 0
                    have k1 : wr.cell? ⟨h0, 0, none⟩ = some (.slice Au nl cu) := (HBH.out wr HA1.out.2.1.1).cell 0
                    have HZL := Lib.hid (show zc < 4294967296 from by rw [← HZC.out]; exact crc_lt _)
                    have hzl := HZL.out
                    clear HA hik hxm hnb hm5
                    go_upto_region 47 with (fail)
                    refine wp_region_M (fun W => W.cell? ⟨gb, 0, none⟩ = some (.slice Ag nl cg) ∧ W.cell? ⟨h0, 0, none⟩ = some (.slice Au nl cu)) 28 (by kernel_rfl) (by go_keep) (fun hHeld => ?_)
                    refine wpAnyM_take (i := 0) (d := (some 186)) (v := ?_) rfl rfl (by kernel_rfl) (by kernel_rfl) (by kernel_rfl) (by kernel_rfl) (by kernel_rfl) (fun _ _ _ h => h) (Or.inl ⟨by rfl, ?_⟩) (by assumption) ?_
                    rotate_left
                    · intro w hSw
                      (try dsimp only at hSw)
                      go_simp
                      (try with_reducible rfl)
                    (try simp only [Act.put, List.setIfInBounds_toArray, List.set_cons_zero, List.set_cons_succ])
                    refine wpAnyM_one (i := 1) (by kernel_rfl) ?_
                    refine owe_early (i := 1) (d := (some 187)) rfl rfl (fun K hK => ?_)
                    go_simp
                    refine (HLF.out _ ((Below.refl _ wr).drew)).mono ?_
                    rintro en w9 ⟨rfl, kd, hw9⟩
                    have hbd : Below wr.heap.size wr w9 := hw9 ▸ below_draws wr kd
                    have HA2 := Lib.hid (HA1.out.on hbd)
                    have k0 := (HA2.out.2.2.2.2.2.2.1).cell 0
                    have k1 := (HBH.out _ HA2.out.2.1.1).cell 0
                    have HU := Lib.hid (ahead32 (rest := []) (x := zc) (by have h := HA2.out.2.2.1; rw [← List.append_nil (le 4 zc)] at h; exact h) HZL.out)
                    clear hbd hw9
                    refine hK.out _ _ (by go_keep) (fun hHeld => ?_)
                    clear hK K
                    (try simp only [Act.put, List.setIfInBounds_toArray, List.set_cons_zero, List.set_cons_succ])
                    refine wpAnyM_take (i := 2) (d := (some 188)) (v := ?_) rfl rfl (by kernel_rfl) (by kernel_rfl) (by kernel_rfl) (by kernel_rfl) (by kernel_rfl) (fun _ _ _ h => h) (Or.inl ⟨by rfl, ?_⟩) (by assumption) ?_
                    rotate_left
                    · intro w hSw
                      (try dsimp only at hSw)
                      go_simp
                      (try with_reducible rfl)
                    (try simp only [Act.put, List.setIfInBounds_toArray, List.set_cons_zero, List.set_cons_succ])
                    refine wpAnyM_take (i := 3) (d := (some 189)) (v := ?_) rfl rfl (by kernel_rfl) (by kernel_rfl) (by kernel_rfl) (by kernel_rfl) (by kernel_rfl) (fun _ _ _ h => h) (Or.inl ⟨by rfl, ?_⟩) (by assumption) ?_
                    rotate_left
                    · intro w hSw
                      (try dsimp only at hSw)
                      go_simp
                      (try with_reducible rfl)
                    (try simp only [Act.put, List.setIfInBounds_toArray, List.set_cons_zero, List.set_cons_succ])
                    refine wpAnyM_take (i := 4) (d := (some 190)) (v := ?_) rfl rfl (by kernel_rfl) (by kernel_rfl) (by kernel_rfl) (by kernel_rfl) (by kernel_rfl) (fun _ _ _ h => h) (Or.inl ⟨by rfl, ?_⟩) (by assumption) ?_
                    rotate_left
                    · intro w hSw
                      (try dsimp only at hSw)
                      go_simp
                      (try with_reducible rfl)
                    (try simp only [Act.put, List.setIfInBounds_toArray, List.set_cons_zero, List.set_cons_succ])
                    refine wpAnyM_take (i := 6) (d := (some 192)) (v := ?_) rfl rfl (by kernel_rfl) (by kernel_rfl) (by kernel_rfl) (by kernel_rfl) (by kernel_rfl) (fun _ _ _ h => h) (Or.inl ⟨by rfl, ?_⟩) (by assumption) ?_
                    rotate_left
                    · intro w hSw
                      (try dsimp only at hSw)
                      go_simp
                      (try with_reducible rfl)
                    (try simp only [Act.put, List.setIfInBounds_toArray, List.set_cons_zero, List.set_cons_succ])
                    refine wpAnyM_take (i := 7) (d := (some 193)) (v := ?_) rfl rfl (by kernel_rfl) (by kernel_rfl) (by kernel_rfl) (by kernel_rfl) (by kernel_rfl) (fun _ _ _ h => h) (Or.inl ⟨by rfl, ?_⟩) (by assumption) ?_
                    rotate_left
                    · intro w hSw
                      (try dsimp only at hSw)
                      go_simp
                      (try with_reducible rfl)
                    (try simp only [Act.put, List.setIfInBounds_toArray, List.set_cons_zero, List.set_cons_succ])
                    refine wpAnyM_take (i := 8) (d := (some 194)) (v := ?_) rfl rfl (by kernel_rfl) (by kernel_rfl) (by kernel_rfl) (by kernel_rfl) (by kernel_rfl) (fun _ _ _ h => h) (Or.inl ⟨by rfl, ?_⟩) (by assumption) ?_
                    rotate_left
                    · intro w hSw
                      (try dsimp only at hSw)
                      go_simp
                      (try with_reducible rfl)
                    (try simp only [Act.put, List.setIfInBounds_toArray, List.set_cons_zero, List.set_cons_succ])
                    refine wpAnyM_take (i := 9) (d := (some 195)) (v := ?_) rfl rfl (by kernel_rfl) (by kernel_rfl) (by kernel_rfl) (by kernel_rfl) (by kernel_rfl) (fun _ _ _ h => h) (Or.inl ⟨by rfl, ?_⟩) (by assumption) ?_
                    rotate_left
                    · intro w hSw
                      (try dsimp only at hSw)
                      go_simp
                      (try with_reducible rfl)
                    (try simp only [Act.put, List.setIfInBounds_toArray, List.set_cons_zero, List.set_cons_succ])
                    refine wpAnyM_take (i := 10) (d := (some 196)) (v := ?_) rfl rfl (by kernel_rfl) (by kernel_rfl) (by kernel_rfl) (by kernel_rfl) (by kernel_rfl) (fun _ _ _ h => h) (Or.inl ⟨by rfl, ?_⟩) (by assumption) ?_
                    rotate_left
                    · intro w hSw
                      (try dsimp only at hSw)
                      go_simp
                      (try with_reducible rfl)
                    (try simp only [Act.put, List.setIfInBounds_toArray, List.set_cons_zero, List.set_cons_succ])
                    refine wpAnyM_one (i := 5) (by kernel_rfl) ?_
                    refine owe_early (i := 5) (d := (some 191)) rfl rfl (fun K hK => ?_)
                    go_simp
                    refine HU.out.mono ?_
                    rintro en w10 ⟨rfl, hR, hn⟩
                    have HA3 := Lib.hid (HA2.out.read hn hR)
                    have k0 := (HA3.out.2.2.2.2.2.2.1).cell 0
                    have k1 := (HBH.out _ HA3.out.2.1.1).cell 0
                    have HER := Lib.hid (aheadErr HA3.out.2.2.1)
                    clear hR hn
                    refine hK.out _ _ (by go_keep) (fun hHeld => ?_)
                    clear hK K
                    (try simp only [Act.put, List.setIfInBounds_toArray, List.set_cons_zero, List.set_cons_succ])
                    refine wpAnyM_one (i := 11) (by kernel_rfl) ?_
                    refine owe_early (i := 11) (d := (some 197)) rfl rfl (fun K hK => ?_)
                    go_simp
                    refine (HCR.out _ HA3.out.2.1.1).mono ?_
                    rintro en w11 ⟨rfl, rfl⟩
                    refine hK.out _ _ (by go_keep) (fun hHeld => ?_)
                    clear hK K
                    (try simp only [Act.put, List.setIfInBounds_toArray, List.set_cons_zero, List.set_cons_succ])
                    refine wpAnyM_take (i := 12) (d := (some 198)) (v := ?_) rfl rfl (by kernel_rfl) (by kernel_rfl) (by kernel_rfl) (by kernel_rfl) (by kernel_rfl) (fun _ _ _ h => h) (Or.inl ⟨by rfl, ?_⟩) (by assumption) ?_
                    rotate_left
                    · intro w hSw
                      (try dsimp only at hSw)
                      go_simp
                      (try with_reducible rfl)
                    (try simp only [Act.put, List.setIfInBounds_toArray, List.set_cons_zero, List.set_cons_succ])
                    refine wpAnyM_take (i := 13) (d := (some 199)) (v := ?_) rfl rfl (by kernel_rfl) (by kernel_rfl) (by kernel_rfl) (by kernel_rfl) (by kernel_rfl) (fun _ _ _ h => h) (Or.inl ⟨by rfl, ?_⟩) (by assumption) ?_
                    rotate_left
                    · intro w hSw
                      (try dsimp only at hSw)
                      go_simp
                      (try with_reducible rfl)
                    (try simp only [Act.put, List.setIfInBounds_toArray, List.set_cons_zero, List.set_cons_succ])
                    refine wpAnyM_take (i := 14) (d := (some 200)) (v := ?_) rfl rfl (by kernel_rfl) (by kernel_rfl) (by kernel_rfl) (by kernel_rfl) (by kernel_rfl) (fun _ _ _ h => h) (Or.inl ⟨by rfl, ?_⟩) (by assumption) ?_
                    rotate_left
                    · intro w hSw
                      (try dsimp only at hSw)
                      go_simp
                      (try with_reducible rfl)
                    (try simp only [Act.put, List.setIfInBounds_toArray, List.set_cons_zero, List.set_cons_succ])
                    refine wpAnyM_take (i := 15) (d := (some 201)) (v := ?_) rfl rfl (by kernel_rfl) (by kernel_rfl) (by kernel_rfl) (by kernel_rfl) (by kernel_rfl) (fun _ _ _ h => h) (Or.inl ⟨by rfl, ?_⟩) (by assumption) ?_
                    rotate_left
                    · intro w hSw
                      (try dsimp only at hSw)
                      go_simp
                      (try with_reducible rfl)
                    (try simp only [Act.put, List.setIfInBounds_toArray, List.set_cons_zero, List.set_cons_succ])
                    refine wpAnyM_one (i := 16) (by kernel_rfl) ?_
                    refine owe_early (i := 16) (d := (some 202)) rfl rfl (fun K hK => ?_)
                    go_simp
                    refine HER.out.mono ?_
                    rintro en w12 ⟨rfl, rfl⟩
                    refine hK.out _ _ (by go_keep) (fun hHeld => ?_)
                    clear hK K
                    (try simp only [Act.put, List.setIfInBounds_toArray, List.set_cons_zero, List.set_cons_succ])
                    refine wpAnyM_take (i := 17) (d := (some 203)) (v := ?_) rfl rfl (by kernel_rfl) (by kernel_rfl) (by kernel_rfl) (by kernel_rfl) (by kernel_rfl) (fun _ _ _ h => h) (Or.inl ⟨by rfl, ?_⟩) (by assumption) ?_
                    rotate_left
                    · intro w hSw
                      (try dsimp only at hSw)
                      go_simp
                      (try with_reducible rfl)
                    (try simp only [Act.put, List.setIfInBounds_toArray, List.set_cons_zero, List.set_cons_succ])
                    refine wpAnyM_take (i := 18) (d := (some 204)) (v := ?_) rfl rfl (by kernel_rfl) (by kernel_rfl) (by kernel_rfl) (by kernel_rfl) (by kernel_rfl) (fun _ _ _ h => h) (Or.inl ⟨by rfl, ?_⟩) (by assumption) ?_
                    rotate_left
                    · intro w hSw
                      (try dsimp only at hSw)
                      go_simp
                      (try with_reducible rfl)
                    (try simp only [Act.put, List.setIfInBounds_toArray, List.set_cons_zero, List.set_cons_succ])
                    refine wpAnyM_take (i := 19) (d := (some 205)) (v := ?_) rfl rfl (by kernel_rfl) (by kernel_rfl) (by kernel_rfl) (by kernel_rfl) (by kernel_rfl) (fun _ _ _ h => h) (Or.inl ⟨by rfl, ?_⟩) (by assumption) ?_
                    rotate_left
                    · intro w hSw
                      (try dsimp only at hSw)
                      go_simp
                      (try with_reducible rfl)
                    (try simp only [Act.put, List.setIfInBounds_toArray, List.set_cons_zero, List.set_cons_succ])
                    refine wpAnyM_take (i := 20) (d := (some 206)) (v := ?_) rfl rfl (by kernel_rfl) (by kernel_rfl) (by kernel_rfl) (by kernel_rfl) (by kernel_rfl) (fun _ _ _ h => h) (Or.inl ⟨by rfl, ?_⟩) (by assumption) ?_
                    rotate_left
                    · intro w hSw
                      (try dsimp only at hSw)
                      go_simp
                      (try with_reducible rfl)
                    (try simp only [Act.put, List.setIfInBounds_toArray, List.set_cons_zero, List.set_cons_succ])
                    refine wpAnyM_take (i := 21) (d := (some 207)) (v := ?_) rfl rfl (by kernel_rfl) (by kernel_rfl) (by kernel_rfl) (by kernel_rfl) (by kernel_rfl) (fun _ _ _ h => h) (Or.inl ⟨by rfl, ?_⟩) (by assumption) ?_
                    rotate_left
                    · intro w hSw
                      (try dsimp only at hSw)
                      go_simp
                      (try with_reducible rfl)
                    (try simp only [Act.put, List.setIfInBounds_toArray, List.set_cons_zero, List.set_cons_succ])
                    refine wpAnyM_take (i := 22) (d := (some 208)) (v := ?_) rfl rfl (by kernel_rfl) (by kernel_rfl) (by kernel_rfl) (by kernel_rfl) (by kernel_rfl) (fun _ _ _ h => h) (Or.inl ⟨by rfl, ?_⟩) (by assumption) ?_
                    rotate_left
                    · intro w hSw
                      (try dsimp only at hSw)
                      go_simp
                      (try with_reducible rfl)
                    (try simp only [Act.put, List.setIfInBounds_toArray, List.set_cons_zero, List.set_cons_succ])
                    refine wpAnyM_take (i := 23) (d := (some 209)) (v := ?_) rfl rfl (by kernel_rfl) (by kernel_rfl) (by kernel_rfl) (by kernel_rfl) (by kernel_rfl) (fun _ _ _ h => h) (Or.inl ⟨by rfl, ?_⟩) (by assumption) ?_
                    rotate_left
                    · intro w hSw
                      (try dsimp only at hSw)
                      go_simp
                      (try with_reducible rfl)
                    (try simp only [Act.put, List.setIfInBounds_toArray, List.set_cons_zero, List.set_cons_succ])
                    refine wpAnyM_take (i := 24) (d := (some 210)) (v := ?_) rfl rfl (by kernel_rfl) (by kernel_rfl) (by kernel_rfl) (by kernel_rfl) (by kernel_rfl) (fun _ _ _ h => h) (Or.inl ⟨by rfl, ?_⟩) (by assumption) ?_
                    rotate_left
                    · intro w hSw
                      (try dsimp only at hSw)
                      go_simp
                      (try with_reducible rfl)
                    (try simp only [Act.put, List.setIfInBounds_toArray, List.set_cons_zero, List.set_cons_succ])
                    refine wpAnyM_take (i := 25) (d := (some 211)) (v := ?_) rfl rfl (by kernel_rfl) (by kernel_rfl) (by kernel_rfl) (by kernel_rfl) (by kernel_rfl) (fun _ _ _ h => h) (Or.inl ⟨by rfl, ?_⟩) (by assumption) ?_
                    rotate_left
                    · intro w hSw
                      (try dsimp only at hSw)
                      go_simp
                      (try with_reducible rfl)
                    (try simp only [Act.put, List.setIfInBounds_toArray, List.set_cons_zero, List.set_cons_succ])
                    refine wpAnyM_take (i := 26) (d := (some 212)) (v := ?_) rfl rfl (by kernel_rfl) (by kernel_rfl) (by kernel_rfl) (by kernel_rfl) (by kernel_rfl) (fun _ _ _ h => h) (Or.inl ⟨by rfl, ?_⟩) (by assumption) ?_
                    rotate_left
                    · intro w hSw
                      (try dsimp only at hSw)
                      go_simp
                      (try with_reducible rfl)
                    (try simp only [Act.put, List.setIfInBounds_toArray, List.set_cons_zero, List.set_cons_succ])
                    refine wpAnyM_take (i := 27) (d := (some 213)) (v := ?_) rfl rfl (by kernel_rfl) (by kernel_rfl) (by kernel_rfl) (by kernel_rfl) (by kernel_rfl) (fun _ _ _ h => h) (Or.inl ⟨by rfl, ?_⟩) (by assumption) ?_
                    rotate_left
                    · intro w hSw
                      (try dsimp only at hSw)
                      go_simp
                      (try with_reducible rfl)
                    (try simp only [Act.put, List.setIfInBounds_toArray, List.set_cons_zero, List.set_cons_succ])
                    refine wpAnyM_done (by kernel_rfl) ?_ _
                    (try simp only [Act.put, List.setIfInBounds_toArray, List.set_cons_zero, List.set_cons_succ])
                    have HSN := Lib.hid (show Calls Tryz.prog 26 #[.agg #[.slice Ag nl cg]] w10 (BSortPost (gotL L) w10) from bsort_any (.slice Ag nl cg) (gotL L) us w10 HA3.out.2.2.2.2.2.2.2.1.steps (got_srt HE1.out HSM.out))
                    clear k0 k1 hHeld hwm
                    have k0 : w10.cell? ⟨gb, 0, none⟩ = some (.slice Ag nl cg) := HA3.out.2.2.2.2.2.2.1.cell 0
                    go_upto_region 50 with (go_at_call 26; go_must (refine HSN.out.mono ?_; rintro en w12 ⟨⟨ur0, r, rs, e1, a1, rfl, hsi, hor⟩, hb12⟩; obtain ⟨er, rfl, rfl⟩ := got_sorted HE1.out hsi; subst er; obtain ⟨Ax, cx, rfl, -, -, -⟩ := own_form hor.1; rw [HNL.out] at hor ⊢; have HOX := Lib.hid hor; have HB12 := Lib.hid hb12; clear hsi hor hb12 k0))
                    have HTV := Lib.hid (two_vars w12 (.slice Ax nl cx) 0 0)
                    have HB13 := Lib.hid (HB12.out.trans (HTV.out.1.mono HB12.out.size))
                    have HO13 := Lib.hid ((HOX.out.on HTV.out.1).steps)
                    clear HB12 HOX HSN
                    generalize (w12.alloc (.cells #[.slice Ax nl cx] 24)).alloc (.cells #[.int .i64 0, .int .i64 0] 34) = w13 at *
                    obtain ⟨gs, hgs⟩ : ∃ gs, w12.heap.size = gs := ⟨_, rfl⟩
                    (try rw [hgs] at HTV)
                    (try rw [hgs])
                    clear hgs
                    have HB5W := Lib.hid (HA3.out.2.1.1.trans (HB13.out.mono HA3.out.2.1.2.1))
                    have HSB := Lib.hid (HST.out.more (HB5.out.trans (HB5W.out.mono HB5.out.size)))
                    have x0 : w13.cell? ⟨gs, 0, none⟩ = some (.slice Ax nl cx) := HTV.out.2.1.cell 0
                    have x1 : w13.cell? ⟨gs + 1, 0, none⟩ = some (.int .i64 0) := HTV.out.2.2.cell 0
                    have x2 : w13.cell? ⟨h0, 0, none⟩ = some (.slice Au nl cu) := (HBH.out w13 HB5W.out).cell 0
                    have HSS := Lib.hid (show Calls Tryz.prog 13 #[.agg #[.slice Ax nl cx], .agg #[.slice Au nl cu]] w13 (fun e w' => e = .returned (.bool true) ∧ Below w13.heap.size w13 w') from (bsame_any (.slice Ax nl cx) (.slice Au nl cu) _ _ rs _ w13 HO13.out HSB.out).mono fun e w' h => ⟨by rw [h.1, decide_eq_true rfl], h.2⟩)
                    go_wp2_with fail
                    refine HSS.out.mono ?_
                    rintro en w14 ⟨rfl, hb14⟩
                    go_wp2
                    go_ret
                    exact ⟨rfl, by
                      rw [HH0.out]
                      have h1 := HBW.out.1
                      have h2 := HB5.out
                      have hz := h1.size
                      exact h1.trans ((h2.trans ((HB5W.out.trans (hb14.mono HB5W.out.size)).mono h2.size)).mono (by have := HBW.out.2.lt; omega))⟩  | succ k =>
                    have hk1 : (k : Int) ≤ 1000000 := by omega
                    have hin : i < nl := by omega
                    have hin2 : i ≤ 1000000 := by omega
                    obtain ⟨⟨nm, vl⟩, hb⟩ : ∃ b, L[i]? = some b := ⟨_, List.getElem?_eq_getElem (by rw [HNL.out]; exact hin)⟩
                    have HBF := Lib.hid (HFIT.out _ (List.mem_of_getElem? hb))
                    have HTK := Lib.hid (show gotL (L.take (i + 1)) = gotL (L.take i) ++ [(nm, regroup vl)] from by
                      unfold gotL
                      rw [List.take_add_one, hb, List.map_append]
                      rfl)
                    obtain ⟨ix, hix⟩ : ∃ ix, idx T nm = ix := ⟨_, rfl⟩
                    have hix2 : ix < 1000001 := by have := idx_lt HBF.out.1; simp only at this; rw [HNT.out] at this; omega
                    have HXA := Lib.hid (show atT T ix = nm from by rw [← hix]; exact getD_idx HBF.out.1)
                    have hix3 : (ix : Int) < 1000001 := by omega
                    obtain ⟨ng, hng⟩ : ∃ ng, (groupsB vl).length = ng := ⟨_, rfl⟩
                    have hng1 : ng ≤ 30 := by rw [← hng]; exact Nat.le_trans (few_groups vl) HBF.out.2.1
                    have HNG := Lib.hid hng
                    obtain ⟨RB, hRB⟩ : ∃ RB, Run (bookBy T P Y) L (le 4 zc) (i + 1) = RB := ⟨_, rfl⟩
                    have HRB := Lib.hid hRB
                    have HA0 := Lib.hid (show RdAll w5 g c7 A7 X (.slice Al nT cl) (.slice Ap nP cp) (.slice Ay nY cy) T P ps wp.heap.size wq.heap.size gb gb wr wr.heap.size (le 4 ix ++ (le 4 ng ++ Run (grpBy T P Y (nm, vl)) (groupsB vl) RB 0)) (.slice Ag i cg) (gotL (L.take i)) us from by
                      have h := HA.out
                      rw [run_step hb, book_run, hRB] at h
                      simp only at h
                      rw [hix, hng] at h
                      exact h)
                    have HER := Lib.hid (aheadErr HA0.out.2.2.1)
                    have HU := Lib.hid (ahead32 HA0.out.2.2.1 (by omega))
                    clear hb hix hng hRB HA
                    go_wp2_with (go_at_call 33; go_must (refine HER.out.mono ?_; rintro en wz ⟨rfl, rfl⟩))
                    refine HU.out.mono ?_
                    rintro en w33 ⟨rfl, hR, hn⟩
                    have HA1 := Lib.hid (HA0.out.read hn hR)
                    have HAT := Lib.hid (show Calls Tryz.prog 34 #[.slice Al nT cl, .int .u32 (ix : Int)] w33 (fun e w' => e = .returned (.string nm) ∧ w33 = w') from by
                      have h := rdat_any T (.slice Al nT cl) ix w33 HA1.out.2.2.2.1.txts (by omega)
                      rw [HXA.out] at h
                      exact h)
                    clear hR hn HU HER HA0
                    go_upto_region 34 with (go_at_call 34; go_must (refine HAT.out.mono ?_; rintro en w9 ⟨rfl, rfl⟩))
                    clear HAT
                    have hba := (Below.refl w33.heap.size w33).alloc (Nat.le_refl _) (.cells #[.string nm, .slice none 0 0] 56)
                    obtain ⟨gk, hgk⟩ : ∃ gk, w33.heap.size = gk := ⟨_, rfl⟩
                    have HA2 := Lib.hid (show RdAll w5 g c7 A7 X (.slice Al nT cl) (.slice Ap nP cp) (.slice Ay nY cy) T P ps wp.heap.size wq.heap.size gb gb (w33.alloc (.cells #[.string nm, .slice none 0 0] 56)) gk (le 4 ng ++ Run (grpBy T P Y (nm, vl)) (groupsB vl) RB 0) (.slice Ag i cg) (gotL (L.take i)) us from by
                      have h := HA1.out.up.on hba
                      rw [hgk] at h
                      exact h)
                    have HK2 := Lib.hid (show RdBook (w33.alloc (.cells #[.string nm, .slice none 0 0] 56)) gk nm (.slice none 0 0) (gotV (nm, vl) 0) from by
                      have h := Blk.new w33 56 #[.string nm, .slice none 0 0]
                      rw [hgk] at h
                      exact ⟨h, World.ownsRow_nil _ _ _ _⟩)
                    have HU := Lib.hid (ahead32 HA2.out.2.2.1 (by omega))
                    have HGK := Lib.hid (show g < gk from by have := HA2.out.1; omega)
                    rw [hgk]
                    clear hba hgk HA1
                    generalize w33.alloc (.cells #[.string nm, .slice none 0 0] 56) = w34 at *
                    go_wp2_with (go_at_call 32; go_must (refine HU.out.mono ?_; rintro en w35 ⟨rfl, hR, hn⟩; have HA3 := Lib.hid (HA2.out.read hn hR); have HK3 := Lib.hid (HK2.out.read hn HGK.out); clear hR hn))
                    clear HU HA2 HK2
                    go_loopw [17] (fun mv W => ∃ (j k2 : Nat) (vv : Value), mv = .int .u32 (k2 : Int) ∧ j + k2 = ng ∧ RdAll w5 g c7 A7 X (.slice Al nT cl) (.slice Ap nP cp) (.slice Ay nY cy) T P ps wp.heap.size wq.heap.size gb gb W gk (Run (grpBy T P Y (nm, vl)) (groupsB vl) RB j) (.slice Ag i cg) (gotL (L.take i)) us ∧ RdBook W gk nm vv (gotV (nm, vl) j)) (fun mv _ => (Lib.intOf mv).toNat)
                    case atStart => exact ⟨0, ng, _, rfl, Nat.zero_add _, HA3.out, HK3.out⟩
                    case round =>
                      clear HA3 HK3
                      obtain ⟨j, k2, vv, rfl, hjk, hA, hK⟩ := hrel
                      have HA := Lib.hid hA
                      have HK := Lib.hid hK
                      obtain ⟨Av, cv, evv, -, -, -⟩ := own_form hK.2
                      obtain ⟨m, hm⟩ : ∃ m, (gotV (nm, vl) j).length = m := ⟨_, rfl⟩
                      have hm1 : m ≤ 900 := by
                        have h1 := gotV_len (nm, vl) j
                        have h2 := HBF.out.2.1
                        have h3 := Nat.mul_le_mul h2 h2
                        rw [← hm]
                        exact Nat.le_trans h1 (Nat.le_trans h3 (by decide))
                      have HM := Lib.hid hm
                      rw [hm] at evv
                      subst evv
                      clear hA hK hm
                      cases k2 with
                      | zero =>
                        obtain rfl : ng = j := by omega
                        have HEND := Lib.hid (show gotV (nm, vl) ng = regroup vl from by rw [← HNG.out]; exact gotV_end (nm, vl))
                        rw [HEND.out] at HM HK
                        have HA1 := Lib.hid (show RdAll w5 g c7 A7 X (.slice Al nT cl) (.slice Ap nP cp) (.slice Ay nY cy) T P ps wp.heap.size wq.heap.size gb gb wr gk (RB) (.slice Ag i cg) (gotL (L.take i)) us from by
                          have h := HA.out
                          rw [run_end (by rw [HNG.out]; exact Nat.le_refl _)] at h
                          exact h)
                        have k0 : wr.cell? ⟨gb, 0, none⟩ = some (.slice Ag i cg) := HA1.out.2.2.2.2.2.2.1.cell 0
                        have k1 : wr.cell? ⟨gk, 0, none⟩ = some (.string nm) := HK.out.1.cell 0
                        have k2 : wr.cell? ⟨gk, 1, none⟩ = some (.slice Av m cv) := HK.out.1.cell 1
                        have hba := (Below.refl wr.heap.size wr).alloc (Nat.le_refl _) (.cells #[.string nm, .slice Av m cv] 56)
                        have HA2 := Lib.hid (HA1.out.on hba)
                        have HK2 := Lib.hid (HK.out.on hba)
                        have HN2 := Lib.hid (reads_new wr #[.string nm, .slice Av m cv] 56 2 1 rfl)
                        have HO2 := Lib.hid (show (wr.alloc (.cells #[.string nm, .slice Av m cv] 56)).ownsRow (gb + 1) 56 2 (.slice Ag i cg) i (stepCells (gotL (L.take i)) us) from by
                          have h := HA2.out.2.2.2.2.2.2.2.1.1
                          rw [HGL.out] at h
                          exact h)
                        have HZ2 := Lib.hid (show gb + 1 ≤ (wr.alloc (.cells #[.string nm, .slice Av m cv] 56)).heap.size from by have h1 := HA2.out.1; have h2 := HA2.out.2.1.2.2; omega)
                        clear hba hjk HA HA1
                        go_wp2_with (at_builtin; go_loud (refine wpList_append_any _ rfl (.tmp 181) (.tmp 183) _ rfl (gb + 1) 56 i2 _ 2 40 Tryz.underlying22 hi2 hx0 hx1 hx2 rfl (by omega) _ i (stepCells (gotL (L.take i)) us) rfl HO2.out (wr.heap.size + 1) (some ⟨wr.heap.size, 0, none⟩) 1 1 [.string nm, .slice Av m cv] rfl HN2.out (by simp [Value.oneCell']) (by simp only [maxLen]; omega) (by omega) HZ2.out ?_); intro v3 wd hown3 hg3 hat3; obtain ⟨A3, c3, rfl, -, -, -⟩ := own_form hown3; have HP3 := Lib.hid (HA2.out.push (b := (nm, regroup vl)) HGL.out (own_base HK2.out.2 (Nat.le_succ _)) rfl hown3 hg3); have HB3 := Lib.hid (HA2.out.2.2.2.2.2.2.1.grown hg3 (fun e => by have := (HO2.out.lt gb e.symm).1; omega)); have q0 : wd.cell? ⟨gb, 0, none⟩ = some (.slice Ag i cg) := HB3.out.cell 0; have q1 : wd.frozen? ⟨gb, 0, none⟩ = false := HB3.out.frozen 0; clear hown3 hg3 hat3)
                        go_roundw
                        case rel => exact ⟨i + 1, k, _, _, by go_num, by omega, by rw [HTK.out, HRB.out]; exact HP3.out.up⟩
                        case measure => simp [Lib.intOf] <;> omega
                      | succ k2 =>
                        have hk2 : (k2 : Int) ≤ 100 := by omega
                        have hjn : j < ng := by omega
                        have hjn2 : j ≤ 100 := by omega
                        obtain ⟨gr, hgr⟩ : ∃ gr, (groupsB vl)[j]? = some gr := ⟨_, List.getElem?_eq_getElem (by rw [HNG.out]; exact hjn)⟩
                        have HGF := Lib.hid (HBF.out.2.2.1 gr (List.mem_of_getElem? hgr))
                        have HVN := Lib.hid (show gotV (nm, vl) (j + 1) = gotV (nm, vl) j ++ vl.filter (fun v => decide (grp v.1 = gr)) from gotV_next hgr)
                        obtain ⟨ig, hig⟩ : ∃ ig, idx T gr = ig := ⟨_, rfl⟩
                        have hig2 : ig < 1000001 := by have := idx_lt HGF.out.1; rw [HNT.out] at this; omega
                        obtain ⟨rows, hrows⟩ : ∃ rows, rowsB T P vl gr = rows := ⟨_, rfl⟩
                        have HRW := Lib.hid hrows
                        obtain ⟨it, hit⟩ : ∃ it, tix Y rows = it := ⟨_, rfl⟩
                        have hitl : it < nY := by
                          have h := tix_lt HGF.out.2
                          simp only at h
                          rw [hrows, hit, HNY.out] at h
                          exact h
                        obtain ⟨rv, hrv⟩ : ∃ rv, ps[it]? = some (rv, rows) := by
                          have h := tix_get HGF.out.2
                          simp only at h
                          rw [hrows, hit, ← HPY.out, List.getElem?_map] at h
                          cases hh : ps[it]? with
                          | none => rw [hh] at h; cases h
                          | some x =>
                            rw [hh] at h
                            obtain ⟨a, b⟩ := x
                            exact ⟨a, by simp only [Option.map_some, Option.some.injEq] at h; rw [h]⟩
                        have HRV := Lib.hid hrv
                        have HA0 := Lib.hid (show RdAll w5 g c7 A7 X (.slice Al nT cl) (.slice Ap nP cp) (.slice Ay nY cy) T P ps wp.heap.size wq.heap.size gb gb wr gk (le 4 ig ++ (le 4 it ++ Run (grpBy T P Y (nm, vl)) (groupsB vl) RB (j + 1))) (.slice Ag i cg) (gotL (L.take i)) us from by
                          have h := HA.out
                          rw [run_step hgr] at h
                          unfold grpBy at h
                          simp only [List.append_assoc] at h
                          rw [hig, hrows, hit] at h
                          exact h)
                        have HER := Lib.hid (aheadErr HA0.out.2.2.1)
                        have HU := Lib.hid (ahead32 HA0.out.2.2.1 (by omega))
                        have hit5 : it ≤ 1000000 := by omega
                        have hit6 : (it : Int) ≤ 1000000 := by omega
                        have HITL := Lib.hid hitl
                        have HJK := Lib.hid (And.intro hjk hik)
                        clear hgr hig hrows hit hrv HA hjk hik hitl
                        go_wp2_with (go_at_call 33; go_must (refine HER.out.mono ?_; rintro en wz ⟨rfl, rfl⟩))
                        refine HU.out.mono ?_
                        rintro en wb ⟨rfl, hR, hn⟩
                        have HA1 := Lib.hid (HA0.out.read hn hR)
                        have HK1 := Lib.hid (HK.out.read hn HGK.out)
                        have HU2 := Lib.hid (ahead32 HA1.out.2.2.1 (by omega))
                        clear hR hn HU HER HA0 HK
                        go_wp2_with fail
                        refine HU2.out.mono ?_
                        rintro en wc ⟨rfl, hR, hn⟩
                        have HA2 := Lib.hid (HA1.out.read hn hR)
                        have HK2 := Lib.hid (HK1.out.read hn HGK.out)
                        clear hR hn HU2 HA1 HK1
                        have HTC := Lib.hid (HA2.out.2.2.2.2.2.1)
                        obtain ⟨A', c', e', -, -, hRD⟩ := own_form HTC.out.1
                        rw [HPN.out] at e' hRD
                        cases e'
                        obtain ⟨bt, ot, rfl, hbt, hcl⟩ := hRD.spot (by have := HITL.out; omega) (by omega)
                        have y0 : wc.cell? ⟨bt, ot + it, none⟩ = some rv := hcl it rv (by rw [List.getElem?_map, HRV.out]; rfl)
                        clear hcl hRD
                        obtain ⟨Ar, cr, erv, -, -, -⟩ := own_form (HTC.out.2.2 _ (List.mem_of_getElem? HRV.out)).1
                        simp only at erv
                        obtain ⟨nr, hnr⟩ : ∃ nr, rows.length = nr := ⟨_, rfl⟩
                        have HNR := Lib.hid hnr
                        rw [hnr] at erv
                        subst erv
                        have hnr1 : nr ≤ 30 := by
                          rw [← hnr, ← HRW.out]
                          unfold rowsB
                          rw [List.length_map]
                          exact Nat.le_trans (List.length_filter_le _ _) HBF.out.2.1
                        have hnr2 : (nr : Int) ≤ 30 := by omega
                        have hb1 : decide ((nY : Int) ≤ (it : Int)) = false := by have := HITL.out; simp; omega
                        have hb2 : decide (nY ≤ it) = false := by have := HITL.out; simp; omega
                        clear hnr HTC hbt hnr1
                        go_upto_region 39 with (fail)
                        go_upto_region 41 with (fail)
                        clear hb1 hb2
                        have hit7 := HITL.out
                        have hit8 : (it : Int) < (nY : Int) := by omega
                        go_wp2
                        clear y0 hit7 hit8
                        go_loopw [161] (fun qv W => ∃ (q : Nat) (vv : Value), qv = .int .i64 (q : Int) ∧ q ≤ nr ∧ RdAll w5 g c7 A7 X (.slice Al nT cl) (.slice Ap nP cp) (.slice (some ⟨bt, ot, none⟩) nY cy) T P ps wp.heap.size wq.heap.size gb gb W gk (Run (grpBy T P Y (nm, vl)) (groupsB vl) RB (j + 1)) (.slice Ag i cg) (gotL (L.take i)) us ∧ RdBook W gk nm vv (gotV (nm, vl) j ++ (rows.take q).map (rowV T P))) (fun qv _ => nr - (Lib.intOf qv).toNat)
                        case atStart => exact ⟨0, _, rfl, Nat.zero_le _, HA2.out, by rw [List.take_zero, List.map_nil, List.append_nil]; exact HK2.out⟩
                        case round =>
                          clear HA2 HK2
                          obtain ⟨q, vv, rfl, hq, hA, hK⟩ := hrel
                          have HA := Lib.hid hA
                          have HK := Lib.hid hK
                          clear hA hK
                          by_cases hqr : q < nr
                          · have hqr2 : (q : Int) < (nr : Int) := by omega
                            obtain ⟨r, hr⟩ : ∃ r, rows[q]? = some r := ⟨_, List.getElem?_eq_getElem (by rw [HNR.out]; exact hqr)⟩
                            obtain ⟨na, nb, rfl, hna, hnb, hrow⟩ := row_fit HBF.out (g := gr) (r := r) (by simp only; rw [HRW.out]; exact List.mem_of_getElem? hr)
                            rw [HNP.out] at hna
                            rw [HNT.out] at hnb
                            obtain ⟨xp, hxp⟩ : ∃ xp, atT P na = xp := ⟨_, rfl⟩
                            obtain ⟨xt, hxt⟩ : ∃ xt, atT T nb = xt := ⟨_, rfl⟩
                            rw [hxp, hxt] at hrow
                            obtain ⟨vs7, hvs7⟩ : ∃ vs7, gotV (nm, vl) j ++ (rows.take q).map (rowV T P) = vs7 := ⟨_, rfl⟩
                            have HTK7 := Lib.hid (show gotV (nm, vl) j ++ (rows.take (q + 1)).map (rowV T P) = vs7 ++ [(xp, xt)] from by
                              rw [List.take_add_one, hr, List.map_append, ← List.append_assoc, hvs7]
                              exact congrArg (fun z => vs7 ++ [z]) hrow)
                            obtain ⟨m7, hm7⟩ : ∃ m7, vs7.length = m7 := ⟨_, rfl⟩
                            have hm8 : m7 ≤ 1000 := by
                              rw [← hm7, ← hvs7, List.length_append, List.length_map, List.length_take, HM.out]
                              omega
                            rw [hvs7] at HK
                            obtain ⟨Aw, cw, evv, -, -, -⟩ := own_form HK.out.2
                            rw [hm7] at evv
                            subst evv
                            have HM7 := Lib.hid hm7
                            have HTR := Lib.hid ((HA.out.2.2.2.2.2.1.2.2 _ (List.mem_of_getElem? HRV.out)).1)
                            simp only at HTR
                            obtain ⟨A', c', e', -, -, hRD⟩ := own_form HTR.out
                            rw [HNR.out] at e' hRD
                            cases e'
                            obtain ⟨br, or_, rfl, hbr, hcl⟩ := hRD.spot (by omega) (by omega)
                            have hat := rowCells_at hr
                            have z0 : wr.cell? ⟨br, or_ + q * 2, none⟩ = some (.int .u32 (na : Int)) := hcl _ _ hat.1
                            have z1 : wr.cell? ⟨br, or_ + q * 2 + 1, none⟩ = some (.int .u32 (nb : Int)) := hcl _ _ hat.2
                            have hna3 : (na : Int) < 1000001 := by omega
                            have hnb3 : (nb : Int) < 1000001 := by omega
                            have hba := (Below.refl wr.heap.size wr).alloc (Nat.le_refl _) (.cells #[.int .u32 (na : Int), .int .u32 (nb : Int)] 73)
                            have HA44 := Lib.hid (HA.out.on hba)
                            have HK44 := Lib.hid (HK.out.on hba)
                            have HX44 := Lib.hid (Blk.new wr 73 #[.int .u32 (na : Int), .int .u32 (nb : Int)])
                            have HVX := Lib.hid (show ∀ k, (Value.slice Aw m7 cw).ownBlock = some k → k < wr.heap.size from fun k hk => (HK.out.2.lt k hk).2)
                            clear hr hrow hvs7 hm7 hcl hRD hat hba HA HK
                            go_upto_region 44 with (fail)
                            clear z0 z1
                            generalize wr.alloc (.cells #[.int .u32 (na : Int), .int .u32 (nb : Int)] 73) = w44 at *
                            obtain ⟨gx, hgx⟩ : ∃ gx, wr.heap.size = gx := ⟨_, rfl⟩
                            rw [hgx] at HX44 HVX ⊢
                            clear hgx
                            have HAP := Lib.hid (show ∀ W, Below w44.heap.size w44 W → Calls Tryz.prog 34 #[.slice Ap nP cp, .int .u32 (na : Int)] W (fun e w' => e = .returned (.string xp) ∧ W = w') from fun W hW => by
                              have h := rdat_any P (.slice Ap nP cp) na W (HA44.out.2.2.2.2.1.on hW).txts (by omega)
                              rw [hxp] at h
                              exact h)
                            have HAT := Lib.hid (show ∀ W, Below w44.heap.size w44 W → Calls Tryz.prog 34 #[.slice Al nT cl, .int .u32 (nb : Int)] W (fun e w' => e = .returned (.string xt) ∧ W = w') from fun W hW => by
                              have h := rdat_any T (.slice Al nT cl) nb W (HA44.out.2.2.2.1.on hW).txts (by omega)
                              rw [hxt] at h
                              exact h)
                            clear hxp hxt
                            have y1 : w44.cell? ⟨gk, 1, none⟩ = some (.slice Aw m7 cw) := HK44.out.1.cell 1
                            have n0 : w44.cell? ⟨gx, 0, none⟩ = some (.int .u32 (na : Int)) := HX44.out.cell 0
                            have n1 : w44.cell? ⟨gx, 1, none⟩ = some (.int .u32 (nb : Int)) := HX44.out.cell 1
                            refine wp_region_M (fun W => W.cell? ⟨gk, 1, none⟩ = some (.slice Aw m7 cw) ∧ W.cell? ⟨gx, 0, none⟩ = some (.int .u32 (na : Int)) ∧ W.cell? ⟨gx, 1, none⟩ = some (.int .u32 (nb : Int))) 14 (by kernel_rfl) (by go_keep) (fun hHeld => ?_)
                            refine wpAnyM_take (i := 0) (d := (some 165)) (v := ?_) rfl rfl (by kernel_rfl) (by kernel_rfl) (by kernel_rfl) (by kernel_rfl) (by kernel_rfl) (fun _ _ _ h => h) (Or.inl ⟨by rfl, ?_⟩) (by assumption) ?_
                            rotate_left
                            · intro w hSw
                              (try dsimp only at hSw)
                              go_simp
                              (try with_reducible rfl)
                            (try simp only [Act.put, List.setIfInBounds_toArray, List.set_cons_zero, List.set_cons_succ])
                            refine wpAnyM_take (i := 1) (d := (some 166)) (v := ?_) rfl rfl (by kernel_rfl) (by kernel_rfl) (by kernel_rfl) (by kernel_rfl) (by kernel_rfl) (fun _ _ _ h => h) (Or.inl ⟨by rfl, ?_⟩) (by assumption) ?_
                            rotate_left
                            · intro w hSw
                              (try dsimp only at hSw)
                              go_simp
                              (try with_reducible rfl)
                            (try simp only [Act.put, List.setIfInBounds_toArray, List.set_cons_zero, List.set_cons_succ])
                            refine wpAnyM_take (i := 2) (d := (some 167)) (v := ?_) rfl rfl (by kernel_rfl) (by kernel_rfl) (by kernel_rfl) (by kernel_rfl) (by kernel_rfl) (fun _ _ _ h => h) (Or.inl ⟨by rfl, ?_⟩) (by assumption) ?_
                            rotate_left
                            · intro w hSw
                              (try dsimp only at hSw)
                              go_simp
                              (try with_reducible rfl)
                            (try simp only [Act.put, List.setIfInBounds_toArray, List.set_cons_zero, List.set_cons_succ])
                            refine wpAnyM_take (i := 3) (d := (some 168)) (v := ?_) rfl rfl (by kernel_rfl) (by kernel_rfl) (by kernel_rfl) (by kernel_rfl) (by kernel_rfl) (fun _ _ _ h => h) (Or.inl ⟨by rfl, ?_⟩) (by assumption) ?_
                            rotate_left
                            · intro w hSw
                              (try dsimp only at hSw)
                              go_simp
                              (try with_reducible rfl)
                            (try simp only [Act.put, List.setIfInBounds_toArray, List.set_cons_zero, List.set_cons_succ])
                            refine wpAnyM_take (i := 4) (d := (some 169)) (v := ?_) rfl rfl (by kernel_rfl) (by kernel_rfl) (by kernel_rfl) (by kernel_rfl) (by kernel_rfl) (fun _ _ _ h => h) (Or.inl ⟨by rfl, ?_⟩) (by assumption) ?_
                            rotate_left
                            · intro w hSw
                              (try dsimp only at hSw)
                              go_simp
                              (try with_reducible rfl)
                            (try simp only [Act.put, List.setIfInBounds_toArray, List.set_cons_zero, List.set_cons_succ])
                            refine wpAnyM_take (i := 6) (d := (some 171)) (v := ?_) rfl rfl (by kernel_rfl) (by kernel_rfl) (by kernel_rfl) (by kernel_rfl) (by kernel_rfl) (fun _ _ _ h => h) (Or.inl ⟨by rfl, ?_⟩) (by assumption) ?_
                            rotate_left
                            · intro w hSw
                              (try dsimp only at hSw)
                              go_simp
                              (try with_reducible rfl)
                            (try simp only [Act.put, List.setIfInBounds_toArray, List.set_cons_zero, List.set_cons_succ])
                            refine wpAnyM_take (i := 7) (d := (some 172)) (v := ?_) rfl rfl (by kernel_rfl) (by kernel_rfl) (by kernel_rfl) (by kernel_rfl) (by kernel_rfl) (fun _ _ _ h => h) (Or.inl ⟨by rfl, ?_⟩) (by assumption) ?_
                            rotate_left
                            · intro w hSw
                              (try dsimp only at hSw)
                              go_simp
                              (try with_reducible rfl)
                            (try simp only [Act.put, List.setIfInBounds_toArray, List.set_cons_zero, List.set_cons_succ])
                            refine wpAnyM_take (i := 8) (d := (some 173)) (v := ?_) rfl rfl (by kernel_rfl) (by kernel_rfl) (by kernel_rfl) (by kernel_rfl) (by kernel_rfl) (fun _ _ _ h => h) (Or.inl ⟨by rfl, ?_⟩) (by assumption) ?_
                            rotate_left
                            · intro w hSw
                              (try dsimp only at hSw)
                              go_simp
                              (try with_reducible rfl)
                            (try simp only [Act.put, List.setIfInBounds_toArray, List.set_cons_zero, List.set_cons_succ])
                            refine wpAnyM_one (i := 5) (by kernel_rfl) ?_
                            refine owe_early (i := 5) (d := (some 170)) rfl rfl (fun K hK => ?_)
                            go_simp
                            refine (HAP.out _ ((Below.refl _ w44).drew)).mono ?_
                            rintro en w9 ⟨rfl, rfl⟩
                            refine hK.out _ _ (by go_keep) (fun hHeld => ?_)
                            clear hK K
                            (try simp only [Act.put, List.setIfInBounds_toArray, List.set_cons_zero, List.set_cons_succ])
                            refine wpAnyM_one (i := 9) (by kernel_rfl) ?_
                            refine owe_early (i := 9) (d := (some 174)) rfl rfl (fun K hK => ?_)
                            go_simp
                            refine (HAT.out _ ((Below.refl _ w44).drew)).mono ?_
                            rintro en w9 ⟨rfl, rfl⟩
                            refine hK.out _ _ (by go_keep) (fun hHeld => ?_)
                            clear hK K
                            (try simp only [Act.put, List.setIfInBounds_toArray, List.set_cons_zero, List.set_cons_succ])
                            refine wpAnyM_take (i := 10) (d := (some 175)) (v := ?_) rfl rfl (by kernel_rfl) (by kernel_rfl) (by kernel_rfl) (by kernel_rfl) (by kernel_rfl) (fun _ _ _ h => h) (Or.inl ⟨by rfl, ?_⟩) (by assumption) ?_
                            rotate_left
                            · intro w hSw
                              (try dsimp only at hSw)
                              go_simp
                              (try with_reducible rfl)
                            (try simp only [Act.put, List.setIfInBounds_toArray, List.set_cons_zero, List.set_cons_succ])
                            refine wpAnyM_one (i := 11) (by kernel_rfl) ?_
                            refine owe_early (i := 11) (d := (some 176)) rfl rfl (fun K hK => ?_)
                            go_simp
                            refine hK.out _ _ (by go_keep) (fun hHeld => ?_)
                            clear hK K
                            (try simp only [Act.put, List.setIfInBounds_toArray, List.set_cons_zero, List.set_cons_succ])
                            refine wpAnyM_one (i := 12) (by kernel_rfl) ?_
                            refine owe_early (i := 12) (d := (some 177)) rfl rfl (fun K hK => ?_)
                            have hba := ((Below.refl w44.heap.size w44).alloc (Nat.le_refl _) (.cells #[.string xp, .string xt] 59)).drew
                            have HA9 := Lib.hid (HA44.out.on hba)
                            have HK9 := Lib.hid (HK44.out.on hba)
                            have HG9 := Lib.hid (HX44.out.below hba HX44.out.lt)
                            have HR9 := Lib.hid ((reads_new w44 #[.string xp, .string xt] 59 2 1 rfl).drew)
                            have HO9 := Lib.hid (show ((w44.alloc (.cells #[.string xp, .string xt] 59)).drew).ownsRow (gk + 1) 59 2 (.slice Aw m7 cw) m7 (pairCells vs7) from by have h := HK9.out.2; rw [HM7.out] at h; exact h)
                            clear hba
                            refine step_append_any (by rfl) (.tmp 166) (.tmp 176) 54 (by rfl) (gk + 1) 59 i1 _ 2 32 Tryz.underlying54 hi1 hy0 hy1 hy2 rfl (by omega) (.slice Aw m7 cw) m7 (pairCells vs7) (by rfl) HO9.out (w44.heap.size + 1) (some ⟨w44.heap.size, 0, none⟩) 1 1 [.string xp, .string xt] (by rfl) HR9.out (by simp [Value.oneCell']) (by simp only [maxLen]; omega) (by omega) (by have := HX44.out.lt; have := HK44.out.1.lt; simp; omega) ?_
                            intro v10 w10 hown10 hg10 hat10
                            obtain ⟨A10, c10, rfl, -, -, -⟩ := own_form hown10
                            have HB10 := Lib.hid (HK9.out.1.grown hg10 (fun e => by have := (HO9.out.lt gk e.symm).1; omega))
                            have HX10 := Lib.hid (HG9.out.grown hg10 (fun e => by have h1 := HVX.out gx e.symm; omega))
                            have HP10 := Lib.hid (HK9.out.put HM7.out hown10 hg10)
                            have HA10 := Lib.hid ((HA9.out.turn hg10 (fun k hk => by have := (HO9.out.lt k hk).1; omega)).turn (grown_set w10 gk 1 (.slice A10 (m7 + 1) c10)) (fun k e => by cases e; exact Nat.le_refl _))
                            have q0 : w10.cell? ⟨gk, 1, none⟩ = some (.slice Aw m7 cw) := HB10.out.cell 1
                            have q1 : w10.frozen? ⟨gk, 1, none⟩ = false := HB10.out.frozen 1
                            have q2 : w10.cell? ⟨gx, 0, none⟩ = some (.int .u32 (na : Int)) := HX10.out.cell 0
                            have q3 : w10.cell? ⟨gx, 1, none⟩ = some (.int .u32 (nb : Int)) := HX10.out.cell 1
                            clear hown10 hg10 hat10
                            refine hK.out _ _ (by go_keep) (fun hHeld => ?_)
                            clear hK K
                            (try simp only [Act.put, List.setIfInBounds_toArray, List.set_cons_zero, List.set_cons_succ])
                            refine wpAnyM_take (i := 13) (d := (some 178)) (v := ?_) rfl rfl (by kernel_rfl) (by kernel_rfl) (by kernel_rfl) (by kernel_rfl) (by kernel_rfl) (fun _ _ _ h => h) (Or.inl ⟨by rfl, ?_⟩) (by assumption) ?_
                            rotate_left
                            · intro w hSw
                              (try dsimp only at hSw)
                              go_simp
                              (try with_reducible rfl)
                            (try simp only [Act.put, List.setIfInBounds_toArray, List.set_cons_zero, List.set_cons_succ])
                            refine wpAnyM_one (i := 14) (by kernel_rfl) ?_
                            refine owe_late (i := 14) (d := none) rfl rfl (by decide) (fun K hK => ?_)
                            go_simp
                            refine hK.out undef _ ?_
                            clear hK K
                            (try simp only [Act.put, List.setIfInBounds_toArray, List.set_cons_zero, List.set_cons_succ])
                            refine wpAnyM_done (by kernel_rfl) ?_ _
                            (try simp only [Act.put, List.setIfInBounds_toArray, List.set_cons_zero, List.set_cons_succ])
                            go_wp2
                            go_roundw
                            case rel => exact ⟨q + 1, _, by go_num, hqr, HA10.out, by rw [HTK7.out]; exact HP10.out⟩
                            case measure => simp [Lib.intOf]; omega
                          · obtain rfl : nr = q := by omega
                            have hqr2 : ¬ (nr : Int) < (nr : Int) := by omega
                            have HVE := Lib.hid (show gotV (nm, vl) j ++ (rows.take nr).map (rowV T P) = gotV (nm, vl) (j + 1) from by
                              rw [List.take_of_length_le (by rw [HNR.out]; exact Nat.le_refl _), HVN.out, ← HRW.out]
                              exact congrArg (gotV (nm, vl) j ++ ·) (got_of HBF.out.2.2.2 gr))
                            rw [HVE.out] at HK
                            go_wp2
                            go_roundw
                            case rel => exact ⟨j + 1, k2, _, by go_num, by have := HJK.out.1; omega, HA.out, HK.out⟩
                            case measure => simp [Lib.intOf] <;> omega
              | succ k =>
                have hk1 : (k : Int) ≤ 1000000 := by omega
                have hin : i < nY := by omega
                have hin2 : i ≤ 1000000 := by omega
                obtain ⟨t, ht⟩ : ∃ t, Y[i]? = some t := ⟨_, List.getElem?_eq_getElem (by rw [HNY.out]; exact hin)⟩
                obtain ⟨nt, hnt⟩ : ∃ nt, t.length = nt := ⟨_, rfl⟩
                have HNt := Lib.hid hnt
                have hntb : nt ≤ 30 := by rw [← hnt]; exact (HYB.out t (List.mem_of_getElem? ht)).1
                have HRS := Lib.hid ((HYB.out t (List.mem_of_getElem? ht)).2)
                have HA0 := Lib.hid (show Ahead wr g c7 A7 X (le 4 nt ++ Run rowBy t (Run tabBy Y (tailX L) (i + 1)) 0) from by
                  have h := HA.out
                  rw [run_step ht] at h
                  unfold tabBy at h
                  rw [hnt, List.append_assoc] at h
                  exact h)
                have HTK := Lib.hid (show Y.take (i + 1) = Y.take i ++ [t] from by rw [List.take_add_one, ht]; rfl)
                have HER := Lib.hid (aheadErr HA0.out)
                have HU := Lib.hid (ahead32 HA0.out (by omega))
                clear ht hnt
                go_wp2_with (first
                  | (go_at_call 33; go_must (refine HER.out.mono ?_; rintro en wz ⟨rfl, rfl⟩))
                  | (go_at_call 32; go_must (refine HU.out.mono ?_; rintro en wa ⟨rfl, hR, hn⟩; have HAa := Lib.hid hR; have HBa := Lib.hid (show Below w5.heap.size w5 wa ∧ w5.heap.size ≤ wa.heap.size ∧ wq.heap.size ≤ wa.heap.size from ⟨HB.out.1.trans (hn.below (B := w5.heap.size) HG.out HB.out.2.1), Nat.le_trans HB.out.2.1 hn.size, Nat.le_trans HB.out.2.2 hn.size⟩); have HOa := Lib.hid (show TxtO wa (g + 1) wq.heap.size (.slice Al nT cl) T ∧ TxtO wa wp.heap.size wq.heap.size (.slice Ap nP cp) P from ⟨HOL.out.1.kept hn (fun k e => by cases e; exact .inl (Nat.lt_succ_self _)), HOL.out.2.kept hn (fun k e => by cases e; exact .inl HGQ.out.2.1)⟩); have HTa := Lib.hid (HTO.out.kept hn (fun k e => by cases e; exact .inl HGQ.out.2.2.2)).up; clear hR hn)))
                clear HU HER HA0 HB HOL HTO
                obtain ⟨np, hnp⟩ : ∃ np, ps.length = np := ⟨_, rfl⟩
                have HNp := Lib.hid hnp
                rw [hnp]
                clear hnp
                obtain ⟨i4, hi4, ha0, ha1, ha2⟩ := info_parts row_info
                go_loopw [12, 13] (fun rv kv W => ∃ j k2 : Nat, kv = .int .u32 (k2 : Int) ∧ j + k2 = nt ∧ Below w5.heap.size w5 W ∧ wa.heap.size ≤ W.heap.size ∧ Ahead W g c7 A7 X (Run rowBy t (Run tabBy Y (tailX L) (i + 1)) j) ∧ (TxtO W (g + 1) wq.heap.size (.slice Al nT cl) T ∧ TxtO W wp.heap.size wq.heap.size (.slice Ap nP cp) P) ∧ TabO W wq.heap.size wa.heap.size (.slice Ay ps.length cy) ps ∧ W.ownsRow wa.heap.size 73 2 rv j (rowCells (t.take j))) (fun _ kv _ => (Lib.intOf kv).toNat)
                case atStart => exact ⟨0, nt, rfl, Nat.zero_add _, HBa.out.1, Nat.le_refl _, HAa.out, HOa.out, HTa.out, World.ownsRow_nil _ _ _ _⟩
                case round =>
                  have HGA := Lib.hid (show w5.heap.size ≤ wa.heap.size ∧ wq.heap.size ≤ wa.heap.size ∧ g < wa.heap.size from ⟨HBa.out.2.1, HBa.out.2.2, HAa.out.lt⟩)
                  clear HAa HBa HOa HTa
                  obtain ⟨j, k2, rfl, hjk, hB, hZ, hA, hOl, hTo, hO⟩ := hrel
                  have HB := Lib.hid (show Below w5.heap.size w5 wr ∧ w5.heap.size ≤ wr.heap.size ∧ wa.heap.size ≤ wr.heap.size from ⟨hB, Nat.le_trans HGA.out.1 hZ, hZ⟩)
                  have HA := Lib.hid hA
                  have HOL := Lib.hid hOl
                  have HTO := Lib.hid hTo
                  have HO := Lib.hid hO
                  obtain ⟨Ar, cr, rfl, -, -, -⟩ := own_form hO
                  clear hB hZ hA hOl hTo hO
                  cases k2 with
                  | zero =>
                    obtain rfl : nt = j := by omega
                    have HRV := Lib.hid (show wr.ownsRow wa.heap.size 73 2 (.slice Ar nt cr) t.length (rowCells t) from by
                      have h := HO.out
                      rw [List.take_of_length_le (by rw [HNt.out]; exact Nat.le_refl _)] at h
                      rw [HNt.out]
                      exact h)
                    have HA1 := Lib.hid (show Ahead wr g c7 A7 X (Run tabBy Y (tailX L) (i + 1)) from by
                      have h := HA.out
                      rw [run_end (by rw [HNt.out]; exact Nat.le_refl _)] at h
                      exact h)
                    clear HO HA hjk
                    obtain ⟨i5, hi5, hb0, hb1, hb2⟩ := info_parts tabInfo
                    have hba := (Below.refl wr.heap.size wr).alloc (Nat.le_refl _) (.cells #[.slice Ar nt cr] 50)
                    have HA2 := Lib.hid (HA1.out.on hba)
                    have HL2 := Lib.hid (And.intro (HOL.out.1.on hba) (HOL.out.2.on hba))
                    have HT2 := Lib.hid (HTO.out.on hba)
                    have HR2 := Lib.hid (own_more HRV.out hba)
                    have HN2 := Lib.hid (reads_new wr #[.slice Ar nt cr] 50 1 1 rfl)
                    have HTW := Lib.hid (show (wr.alloc (.cells #[.slice Ar nt cr] 50)).ownsRow wq.heap.size 50 1 (.slice Ay np cy) np (ps.map Prod.fst) from by
                      have h := HT2.out.1
                      rw [HNp.out] at h
                      exact h)
                    have hnpb : np ≤ 1000000 := by
                      have h := congrArg List.length HPS.out
                      rw [List.length_map, HNp.out, List.length_take] at h
                      omega
                    clear hba
                    go_wp2_with (at_builtin; go_loud (refine wpList_append_any _ rfl (.tmp 116) (.tmp 118) _ rfl wq.heap.size 50 i5 _ 1 24 Tryz.underlying43 hi5 hb0 hb1 hb2 rfl (by omega) _ np (ps.map Prod.fst) rfl HTW.out (wr.heap.size + 1) (some ⟨wr.heap.size, 0, none⟩) 1 1 [.slice Ar nt cr] rfl HN2.out (by simp [Value.oneCell']) (by simp only [maxLen]; omega) (by omega) (by have := HB.out.2.2; have := HGA.out.2.1; simp; omega) ?_); intro v3 wd hown3 hg3 hat3; have HOW := Lib.hid hown3; have HGR := Lib.hid hg3; clear hown3 hg3 hat3)
                    go_roundw
                    case rel => exact ⟨i + 1, k, ps ++ [(.slice Ar nt cr, t)], by go_num, by omega, (HB.out.1.alloc HB.out.2.1 _).grown HGR.out (by rw [World.size_alloc]; have := HB.out.2.1; omega) (fun q hq => by have := (HTW.out.lt q hq).1; have := HGQ.out.1; omega), by have h1 := HGR.out.size; have h2 := HB.out.2.2; have h3 := HGA.out.2.1; rw [World.size_alloc] at h1; omega, HA2.out.grown HGR.out (fun q hq => by have := (HTW.out.lt q hq).1; have := HGQ.out.2.2.2; omega), ⟨HL2.out.1.kept HGR.out (fun q hq => .inr (HTW.out.lt q hq).1), HL2.out.2.kept HGR.out (fun q hq => .inr (HTW.out.lt q hq).1)⟩, HT2.out.push HNp.out HR2.out HGA.out.2.1 HOW.out (by rw [HNp.out]; exact HGR.out), by rw [List.map_append, HPS.out, HTK.out]; rfl⟩
                    case measure => simp [Lib.intOf] <;> omega
                  | succ k2 =>
                    have hk2 : (k2 : Int) ≤ 100 := by omega
                    have hjn : j < nt := by omega
                    have hjn2 : j ≤ 100 := by omega
                    obtain ⟨⟨ra, rb⟩, hr⟩ : ∃ r, t[j]? = some r := ⟨_, List.getElem?_eq_getElem (by rw [HNt.out]; exact hjn)⟩
                    obtain ⟨⟨ra0, ra1⟩, rb0, rb1⟩ := HRS.out _ (List.mem_of_getElem? hr)
                    obtain ⟨na, rfl⟩ : ∃ na : Nat, ra = (na : Int) := ⟨ra.toNat, by simp only at ra0; omega⟩
                    obtain ⟨nb, rfl⟩ : ∃ nb : Nat, rb = (nb : Int) := ⟨rb.toNat, by simp only at rb0; omega⟩
                    simp only at ra1 rb1
                    have HA0 := Lib.hid (show Ahead wr g c7 A7 X (le 4 na ++ (le 4 nb ++ Run rowBy t (Run tabBy Y (tailX L) (i + 1)) (j + 1))) from by
                      have h := HA.out
                      rw [run_step hr] at h
                      unfold rowBy at h
                      simp only [Int.toNat_natCast, List.append_assoc] at h
                      exact h)
                    have HTK2 := Lib.hid (show rowCells (t.take (j + 1)) = rowCells (t.take j) ++ [.int .u32 (na : Int), .int .u32 (nb : Int)] from by rw [List.take_add_one, hr, rowCells_append]; rfl)
                    have HER := Lib.hid (aheadErr HA0.out)
                    have HU := Lib.hid (ahead32 HA0.out (by omega))
                    clear hr ra0 rb0
                    go_wp2_with (go_at_call 33; go_must (refine HER.out.mono ?_; rintro en wz ⟨rfl, rfl⟩))
                    refine HU.out.mono ?_
                    rintro en wb ⟨rfl, hR, hn⟩
                    have HU2 := Lib.hid (ahead32 hR (by omega))
                    have HBb := Lib.hid (show Below w5.heap.size w5 wb ∧ w5.heap.size ≤ wb.heap.size ∧ wa.heap.size ≤ wb.heap.size from ⟨HB.out.1.trans (hn.below (B := w5.heap.size) HG.out HB.out.2.1), Nat.le_trans HB.out.2.1 hn.size, Nat.le_trans HB.out.2.2 hn.size⟩)
                    have HLb := Lib.hid (show TxtO wb (g + 1) wq.heap.size (.slice Al nT cl) T ∧ TxtO wb wp.heap.size wq.heap.size (.slice Ap nP cp) P from ⟨HOL.out.1.kept hn (fun k e => by cases e; exact .inl (Nat.lt_succ_self _)), HOL.out.2.kept hn (fun k e => by cases e; exact .inl HGQ.out.2.1)⟩)
                    have HTb := Lib.hid (HTO.out.kept hn (fun k e => by cases e; exact .inl HGQ.out.2.2.2))
                    have HOb := Lib.hid (own_stays2 HO.out hn (fun q hq e => by cases e; have := (HO.out.lt _ hq).1; have := HGA.out.2.2; omega))
                    clear hR hn HU HER
                    go_wp2_with fail
                    refine HU2.out.mono ?_
                    rintro en wc ⟨rfl, hR, hn⟩
                    have hba := (Below.refl wc.heap.size wc).alloc (Nat.le_refl _) (.cells #[.int .u32 (na : Int), .int .u32 (nb : Int)] 73)
                    have HBc := Lib.hid (show Below w5.heap.size w5 wc ∧ w5.heap.size ≤ wc.heap.size ∧ wa.heap.size ≤ wc.heap.size from ⟨HBb.out.1.trans (hn.below (B := w5.heap.size) HG.out HBb.out.2.1), Nat.le_trans HBb.out.2.1 hn.size, Nat.le_trans HBb.out.2.2 hn.size⟩)
                    have HAc := Lib.hid (hR.on hba)
                    have HLc := Lib.hid (And.intro ((HLb.out.1.kept hn (fun k e => by cases e; exact .inl (Nat.lt_succ_self _))).on hba) ((HLb.out.2.kept hn (fun k e => by cases e; exact .inl HGQ.out.2.1)).on hba))
                    have HTc := Lib.hid ((HTb.out.kept hn (fun k e => by cases e; exact .inl HGQ.out.2.2.2)).on hba)
                    have HOc := Lib.hid (own_more (own_stays2 HOb.out hn (fun q hq e => by cases e; have := (HOb.out.lt _ hq).1; have := HGA.out.2.2; omega)) hba)
                    have HRc := Lib.hid (reads_new wc #[.int .u32 (na : Int), .int .u32 (nb : Int)] 73 2 1 rfl)
                    clear hR hn hba HU2
                    go_wp2_with (at_builtin; go_loud (refine wpList_append_any _ rfl (.tmp 108) (.tmp 114) _ rfl wa.heap.size 73 i4 _ 2 8 Tryz.underlying50 hi4 ha0 ha1 ha2 rfl (by omega) _ j (rowCells (t.take j)) rfl HOc.out (wc.heap.size + 1) (some ⟨wc.heap.size, 0, none⟩) 1 1 [.int .u32 (na : Int), .int .u32 (nb : Int)] rfl HRc.out (by simp [Value.oneCell']) (by simp only [maxLen]; omega) (by omega) (by have := HBc.out.2.2; simp; omega) ?_); intro v3 wd hown3 hg3 hat3; have HOW := Lib.hid hown3; have HGR := Lib.hid hg3; clear hown3 hg3 hat3)
                    go_roundw
                    case rel => exact ⟨j + 1, k2, by go_num, by omega, (HBc.out.1.alloc HBc.out.2.1 _).grown HGR.out (by rw [World.size_alloc]; have := HBc.out.2.1; omega) (fun q hq => by have := (HOc.out.lt q hq).1; have := HGA.out.1; omega), by have h1 := HGR.out.size; have h2 := HBc.out.2.2; rw [World.size_alloc] at h1; omega, HAc.out.grown HGR.out (fun q hq => by have := (HOc.out.lt q hq).1; have := HGA.out.2.2; omega), ⟨HLc.out.1.kept HGR.out (fun q hq => .inr (Nat.le_trans HGA.out.2.1 (HOc.out.lt q hq).1)), HLc.out.2.kept HGR.out (fun q hq => .inr (Nat.le_trans HGA.out.2.1 (HOc.out.lt q hq).1))⟩, HTc.out.kept HGR.out (fun q hq => .inr (HOc.out.lt q hq).1), by rw [HTK2.out]; exact HOW.out⟩
                    case measure => simp [Lib.intOf] <;> omega
          | succ k =>
            have hk1 : (k : Int) ≤ 1000000 := by omega
            have hin : i < nP := by omega
            have hin2 : i ≤ 1000000 := by omega
            obtain ⟨x, hx⟩ : ∃ x, P[i]? = some x := ⟨_, List.getElem?_eq_getElem (by rw [HNP.out]; exact hin)⟩
            have HXT := Lib.hid (HPT.out x (List.mem_of_getElem? hx))
            obtain ⟨ix, hix⟩ : ∃ ix, idx T x = ix := ⟨_, rfl⟩
            have hix2 : ix < 1000001 := by have := idx_lt HXT.out; rw [HNT.out] at this; omega
            have HXA := Lib.hid (show atT T ix = x from by rw [← hix]; exact getD_idx HXT.out)
            have HA0 := Lib.hid (show Ahead wr g c7 A7 X (le 4 ix ++ Run (pathBy T) P (tailP L) (i + 1)) from by
              have h := HA.out
              rw [run_step hx] at h
              unfold pathBy at h
              rw [hix] at h
              exact h)
            have HTK := Lib.hid (show (P.take (i + 1)).map Value.string = (P.take i).map Value.string ++ [.string x] from by rw [List.take_add_one, hx, List.map_append]; rfl)
            have HER := Lib.hid (aheadErr HA0.out)
            have HU := Lib.hid (ahead32 HA0.out (by omega))
            have hix3 : (ix : Int) < 1000001 := by omega
            clear hx hix
            go_wp2_with (first
              | (go_at_call 33; go_must (refine HER.out.mono ?_; rintro en wz ⟨rfl, rfl⟩))
              | (go_at_call 32; go_must (refine HU.out.mono ?_; rintro en wa ⟨rfl, hR, hn⟩; have HAa := Lib.hid hR; have HBa := Lib.hid (show Below w5.heap.size w5 wa ∧ w5.heap.size ≤ wa.heap.size ∧ wp.heap.size ≤ wa.heap.size from ⟨HB.out.1.trans (hn.below (B := w5.heap.size) HG.out HB.out.2), Nat.le_trans HB.out.2 hn.size, Nat.le_trans HZ.out hn.size⟩); have HOa := Lib.hid (own_stays2 HO.out hn (fun q hq e => by cases e; have := (HO.out.lt _ hq).1; have := HGP.out.2; omega)); have HLa := Lib.hid (own_stays2 HLT.out hn (fun q hq e => by cases e; have := (HLT.out.lt _ hq).1; omega)); have HATa := Lib.hid (show Calls Tryz.prog 34 #[.slice Al nT cl, .int .u32 (ix : Int)] wa (fun e w' => e = .returned (.string x) ∧ wa = w') from by (obtain ⟨A', c', e', q1, q2, q3⟩ := own_form HLa.out; have q4 := rdat_any T (.slice Al nT cl) ix wa ⟨A', c', by rw [HNT.out]; exact e', by rw [HNT.out]; exact q1, q2, by rw [HNT.out]; exact q3⟩ (by omega); rw [HXA.out] at q4; exact q4)); clear hR hn))
              | (go_at_call 34; go_must (refine HATa.out.mono ?_; rintro en wb ⟨rfl, rfl⟩; have HRb := Lib.hid (reads_new wa #[.string x] 9 1 1 rfl); have HOc := Lib.hid (own_more HOa.out ((Below.refl wa.heap.size wa).alloc (Nat.le_refl _) (.cells #[.string x] 9))); have HLc := Lib.hid (own_more HLa.out ((Below.refl wa.heap.size wa).alloc (Nat.le_refl _) (.cells #[.string x] 9)))))
              | (at_builtin; go_loud (refine wpList_append_any _ rfl (.tmp 79) (.tmp 84) _ rfl wp.heap.size 9 i0 _ 1 16 Tryz.underlying40 hi0 hz0 hz1 hz2 rfl (by omega) _ i ((P.take i).map Value.string) rfl HOc.out (wa.heap.size + 1) (some ⟨wa.heap.size, 0, none⟩) 1 1 [.string x] rfl HRb.out (by simp [Value.oneCell']) (by simp only [maxLen]; omega) (by omega) (by have := HBa.out.2.2; simp; omega) ?_); intro v3 wc hown3 hg3 hat3; have HOW := Lib.hid hown3; have HGR := Lib.hid hg3; clear hown3 hg3 hat3))
            go_roundw
            case rel => exact ⟨i + 1, k, by go_num, by omega, (HBa.out.1.alloc HBa.out.2.1 _).grown HGR.out (by rw [World.size_alloc]; have := HBa.out.2; omega) (fun q hq => by have := (HOc.out.lt q hq).1; have := HGP.out.1; omega), by have h1 := HGR.out.size; have h2 := HBa.out.2; rw [World.size_alloc] at h1; omega, (HAa.out.on ((Below.refl _ _).alloc (Nat.le_refl _) _)).grown HGR.out (fun q hq => by have := (HOc.out.lt q hq).1; have := HGP.out.2; omega), own_stays2 HLc.out HGR.out (fun q hq e => by have h1 := HLB.out q hq; have h2 := (HOc.out.lt q e).1; omega), by rw [HTK.out]; exact HOW.out⟩
            case measure => simp [Lib.intOf] <;> omega
      | succ k =>
        have hk1 : (k : Int) ≤ 1000000 := by omega
        have hin : i < nT := by omega
        have hin2 : i ≤ 1000000 := by omega
        obtain ⟨x, hx⟩ : ∃ x, T[i]? = some x := ⟨_, List.getElem?_eq_getElem (by rw [HNT.out]; exact hin)⟩
        have hs1 : (x.size : Int) ≤ 4096 := by have := HTS.out x (List.mem_of_getElem? hx); omega
        have HA0 := Lib.hid (show Ahead wr g c7 A7 X (le 4 x.size ++ (x.data.toList ++ Run textBy T (tailT L) (i + 1))) from by
          have h := HA.out
          rw [run_step hx] at h
          unfold textBy at h
          rw [List.append_assoc] at h
          exact h)
        have HTK := Lib.hid (show (T.take (i + 1)).map Value.string = (T.take i).map Value.string ++ [.string x] from by rw [List.take_add_one, hx, List.map_append]; rfl)
        have HER := Lib.hid (aheadErr HA0.out)
        have HU := Lib.hid (ahead32 HA0.out (by omega))
        clear hx
        go_wp2_with (first
          | (go_at_call 33; go_must (refine HER.out.mono ?_; rintro en wz ⟨rfl, rfl⟩))
          | (go_at_call 32; go_must (refine HU.out.mono ?_; rintro en wa ⟨rfl, hR, hn⟩; have HAa := Lib.hid hR; have HBa := Lib.hid (show Below w5.heap.size w5 wa ∧ w5.heap.size ≤ wa.heap.size from ⟨HB.out.1.trans (hn.below (B := w5.heap.size) HG.out HB.out.2), Nat.le_trans HB.out.2 hn.size⟩); have HOa := Lib.hid (own_stays2 HO.out hn (fun q hq e => by cases e; have := (HO.out.lt _ hq).1; omega)); have HRWa := Lib.hid (aheadRaw (n := x.size) hR (by simp) HXL.out); clear hR hn))
          | (go_at_call 30; go_must (refine HRWa.out.mono ?_; rintro en wb ⟨v8, rfl, ho8, hR, hn⟩; have HAb := Lib.hid hR; have HBb := Lib.hid (show Below w5.heap.size w5 wb ∧ w5.heap.size ≤ wb.heap.size from ⟨HBa.out.1.trans (hn.below (B := w5.heap.size) HG.out HBa.out.2), Nat.le_trans HBa.out.2 hn.size⟩); have HOb := Lib.hid (own_stays2 HOa.out hn (fun q hq e => by cases e; have := (HOa.out.lt _ hq).1; omega)); obtain ⟨A8, c8, rfl, hlc8, hcm8, hr8⟩ := ho8.form; have hcv := conv_rb (P := Tryz.prog) 27 9 5 c8 Tryz.underlying27 Tryz.underlying5 Tryz.underlying9 hr8; rw [show x.data.toList.length = x.size from by simp, str_back x] at hcv; clear ho8 hR hn hlc8 hcm8 hr8; have HRb := Lib.hid (reads_new wb #[.string x] 9 1 1 rfl); have HOc := Lib.hid (own_more HOb.out ((Below.refl wb.heap.size wb).alloc (Nat.le_refl _) (.cells #[.string x] 9))); have hgb := HAb.out.lt; have HGB := Lib.hid hgb; clear hgb))
          | (at_builtin; go_loud (refine wpList_append_any _ rfl (.tmp 59) (.tmp 66) _ rfl (g + 1) 9 i0 _ 1 16 Tryz.underlying40 hi0 hz0 hz1 hz2 rfl (by omega) _ i ((T.take i).map Value.string) rfl HOc.out (wb.heap.size + 1) (some ⟨wb.heap.size, 0, none⟩) 1 1 [.string x] rfl HRb.out (by simp [Value.oneCell']) (by simp only [maxLen]; omega) (by omega) (by have := HGB.out; simp; omega) ?_); intro v3 wc hown3 hg3 hat3; have HOW := Lib.hid hown3; have HGR := Lib.hid hg3; clear hown3 hg3 hat3))
        go_roundw
        case rel => exact ⟨i + 1, k, by go_num, by omega, (HBb.out.1.alloc HBb.out.2 _).grown HGR.out (by simp; have := HBb.out.2; omega) (fun q hq => by have := (HOc.out.lt q hq).1; have := HG.out; omega), by have h1 := HGR.out.size; have h2 := HBb.out.2; rw [World.size_alloc] at h1; omega, (HAb.out.on ((Below.refl _ _).alloc (Nat.le_refl _) _)).grown HGR.out (fun q hq => (HOc.out.lt q hq).1), by rw [HTK.out]; exact HOW.out⟩
        case measure => simp [Lib.intOf] <;> omega
  · have HEN := Lib.hid (enc_no HST.out HIN.out he1 z1)
    have hz2 : (e1 == 0) = false := by simpa using z1
    clear he1
    go_wp2_with (go_at_call 10; go_must (refine HEN.out.mono ?_; rintro en w5 ⟨rfl, hb5⟩; have HB5 := Lib.hid hb5; clear hb5))
    go_ret
    exact ⟨rfl, by rw [HH0.out]; exact HBW.out.1.trans (HB5.out.mono (by have := HBW.out.2.lt; omega))⟩
set_option maxRecDepth 100000 in
theorem walk {H : Type} {enc : TypeId × Value → H} (v0 : Value) (d0 : DataW H) (p0 : List MemPlace) (base0 : Nat) (w : World) (hv0 : Value.okWide Tryz.prog w .any base0 24 v0) (w0 : DataW.Trod enc Tryz.prog w 0 (fun _ => true) true 24 v0 d0 p0) (hwt0 : ∀ n ∈ d0.weights Tryz.prog 24, n ≤ 140737488351232) :
    Calls Tryz.prog 7 #[v0] w fun e w' => e = .returned (.bool true) ∧ Below w.heap.size w w' := by
  obtain ⟨u0, l0, vs0, rfl, hs0, hi0⟩ := open_bundle hv0 w0 hwt0
  exact reads_walk u0 l0 vs0 w hs0 hi0

set_option maxRecDepth 100000 in
theorem contract (H : Type) (enc : TypeId × Value → H) (W : World) (base : Nat) (args : Array Value) (ds gs : List (DataW H)) (before : List MemPlace)
    (hval0 : ∀ (j : Nat) t v, Tryz.f7.params[j]? = some t → args[j]? = some v → Value.okWide Tryz.prog W .any base t v)
    (hW : DataW.Whole enc Tryz.prog Tryz.f7.params.toList Rows.bundleReadsSpec.vars false W args.toList ds gs before)
    (hsz0 : (DataW.weightsEach Tryz.prog (Tryz.f7.params.toList ++ Rows.bundleReadsSpec.plain.varTypes Tryz.prog) (ds ++ gs)).all (· ≤ reachBytes) = true) :
    Calls Tryz.prog 7 args W fun e W' => ∃ v, e = .returned v ∧ Rows.bundleReadsSpec.post enc Tryz.prog Tryz.f7 false true false false W args v W' := by
  have hval : ∀ (j : Nat) t v, Tryz.f7.params[j]? = some t → args[j]? = some v → Value.okWide Tryz.prog W .any base t v := hval0
  have hsz : (DataW.weightsEach Tryz.prog (Tryz.f7.params.toList ++ Rows.bundleReadsSpec.plain.varTypes Tryz.prog) (ds ++ gs)).all (· ≤ reachBytes) = true := hsz0
  have hW' := hW
  obtain ⟨p, q, hA0, hV, rfl, hfz, hnd⟩ := hW
  have hA : DataW.TrodAll enc Tryz.prog W 0 (fun _ => true) true Tryz.f7.params.toList args.toList ds p := hA0
  rw [Tryz.params7] at hA hval hsz
  obtain ⟨v0, vs0, d0, ds0, p0, q0, hargs, rfl, rfl, h0, r0⟩ := trodAll_cons hA
  obtain ⟨rfl, rfl, rfl⟩ := trodAll_nil r0
  obtain rfl : args = #[v0] := by cases args; simp_all
  obtain ⟨rfl, rfl⟩ := trodVars_none hV
  have k0 := h0
  have lt0 : ∀ x ∈ p0, x.block < W.heap.size := by obtain ⟨m, hm⟩ := k0; exact DataW.trod_lt m _ _ _ hm
  have hwt0 : ∀ n ∈ d0.weights Tryz.prog 24, n ≤ 140737488351232 := fun n hn => by
    have := of_decide_eq_true (List.all_eq_true.1 hsz _ (DataW.weights_mem_each (j := 0) (t := 24) rfl rfl n hn))
    simpa [reachBytes] using this
  clear hA0 hval0
  refine (walk v0 d0 p0 base W (hval 0 24 v0 rfl rfl) h0 hwt0).mono fun e W' ⟨he, bel⟩ => ?_
  subst he
  exact ⟨_, rfl, _, _, _, [], _, [], hW', trodAll_mk1 (shut_bool Tryz.underlying4 _), (trodAll_cons_mk (Below.trod laidOut (by kernel_rfl) (of_decide_eq_true (by kernel_rfl)) k0 bel lt0) trodAll_mk0), rfl, bel.frame _, fun h => by cases h⟩

set_option maxRecDepth 100000 in
theorem lifted (os : Os) (started : os.Started) (H : Type) (enc : TypeId × Value → H) :
    ReturnsInHanded {} Tryz.checked os 7 .any (Rows.bundleReadsSpec.pre6 enc Tryz.prog Tryz.f7 Rows.bundleReadsRow.domain false) (Rows.bundleReadsSpec.post enc Tryz.prog Tryz.f7 false true false false) := by
  refine returnsInHanded_of_change_sized (C := Tryz.checked) own started (by kernel_rfl) Tryz.func7
    (ChangeSpec.witness6 (enc := enc) (C := Tryz.checked) false ⟨#[], #[.agg #[.slice none 0 0]], []⟩ 8 (by kernel_rfl) (by kernel_rfl) (by kernel_rfl) (by kernel_rfl)) ?_
  intro W base args ds gs before hval hW _ hsz _
  exact contract H enc W base args ds gs before hval hW hsz

theorem over : Rows.bundleReadsRow.holds Tryz.pinned (OpenSpec.ofChange Rows.bundleReadsSpec) :=
  OpenClaim.holds_of_wide 7 Tryz.f7 rfl rfl rfl rfl rfl rfl rfl ⟨rfl, rfl, rfl, rfl, rfl⟩ rfl rfl rfl rfl rfl (by kernel_rfl) Tryz.func7 (by kernel_rfl)
    (of_decide_eq_true (by kernel_rfl)) (by unfold Func.isWrapper; first | (rw [if_pos (by decide +kernel)]; kernel_rfl) | (rw [if_neg (by decide +kernel)]; exact ⟨rfl, rfl⟩))
    (fun os started H enc _ => lifted os started H enc)

/-- The statement. -/
theorem proved : Rows.BundleReadsSaid := over
#print axioms proved
end Go.Proofs.YtfpepdjffehbcaaGreat.bundleReads
