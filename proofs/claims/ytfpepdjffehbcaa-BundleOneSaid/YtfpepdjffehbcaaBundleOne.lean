/-
  The law BundleOne answers true for every two bundles.
-/
import Derived.Test.YtfpepdjffehbcaaRows
import Derived.Test.YtfpepdjffehbcaaBunAsk2
import Derived.WalkKit
import Derived.Outline
import Derived.ProofKit
import Derived.OpenShut
import Derived.ShutString
import Derived.ChangeOld
import Derived.Below
import Derived.Deep.CondSized
namespace Go.Proofs.Ytfpepdjffehbcaa.bundleOne
open Go.ChangeShapes Go.WideShapes Go.ChangeAt Go.RowKit
open Go.ChangeMaps (open_string shut_string)
set_option linter.unusedVariables false

theorem own : ownKnob Try.prog.godebug = none := by kernel_rfl
theorem laidOut : laidOutB Try.prog = true := by kernel_rfl

theorem one_law {a b : List PStep} (ha : (checkB a).1 = 0) (hb : (checkB b).1 = 0) (fa : BunFew a) (fb : BunFew b) : decide (bytesB a = bytesB b) = decide (a = b) := by
  rw [decide_eq_decide]
  refine ⟨fun e => ?_, fun e => by rw [e]⟩
  unfold bytesB at e
  have h1 := List.append_inj' e (by rw [le_len, le_len])
  exact body_inj ha hb (few_all ha fa).small (few_all hb fb).small h1.1
set_option maxHeartbeats 16000000 in
set_option maxRecDepth 100000 in
theorem one_walk (v1 v2 : Value) (l1 l2 : List PStep) (vs1 vs2 : List Value) (w : World) (h1 : StepsR w v1 l1 vs1) (h2 : StepsR w v2 l2 vs2) (hin1 : BunIn l1) (hin2 : BunIn l2) :
    Calls Try.prog 5 #[.agg #[v1], .agg #[v2]] w fun en w' => en = .returned (.bool true) ∧ Below w.heap.size w w' := by
  have HS1 := Lib.hid h1
  have HS2 := Lib.hid h2
  obtain ⟨A1, c1, rfl, -, -, -, -, -⟩ := h1
  obtain ⟨A2, c2, rfl, -, -, -, -, -⟩ := h2
  obtain ⟨n1, hn1⟩ : ∃ n1, l1.length = n1 := ⟨_, rfl⟩
  obtain ⟨n2, hn2⟩ : ∃ n2, l2.length = n2 := ⟨_, rfl⟩
  rw [hn1] at HS1 ⊢
  rw [hn2] at HS2 ⊢
  clear hn1 hn2
  have HI := Lib.hid (And.intro (cutL_in hin1) (cutL_in hin2))
  have HSM := Lib.hid (And.intro (cut_small l1) (cut_small l2))
  have HWK := Lib.hid (fun W => bwakes_any W)
  have HC1 := Lib.hid (fun (W : World) (hW : Below w.heap.size w W) => bcut_any (.slice A1 n1 c1) l1 vs1 W (HS1.out.more hW) hin1)
  have HC2 := Lib.hid (fun (W : World) (hW : Below w.heap.size w W) => bcut_any (.slice A2 n2 c2) l2 vs2 W (HS2.out.more hW) hin2)
  clear hin1 hin2
  have HB0 := Lib.hid (((Below.refl _ w).alloc (Nat.le_refl _) (.cells #[.slice A1 n1 c1] 24)).alloc (by simp) (.cells #[.slice A2 n2 c2] 24))
  have HG0 := Lib.hid (show Blk ((w.alloc (.cells #[.slice A1 n1 c1] 24)).alloc (.cells #[.slice A2 n2 c2] 24)) w.heap.size 24 #[.slice A1 n1 c1] ∧ Blk ((w.alloc (.cells #[.slice A1 n1 c1] 24)).alloc (.cells #[.slice A2 n2 c2] 24)) (w.heap.size + 1) 24 #[.slice A2 n2 c2] from ⟨(Blk.new w _ _).alloc _, by
    have := Blk.new (w.alloc (.cells #[.slice A1 n1 c1] 24)) 24 #[.slice A2 n2 c2]
    simpa only [World.size_alloc] using this⟩)
  go_enter Try.func5, Try.ntmps5
  go_upto_region 3 with (go_at_call 7; go_must (refine (HWK.out _).mono ?_; rintro en w1 ⟨rfl, hb1⟩; have HB1 := Lib.hid (HB0.out.trans (hb1.mono HB0.out.size)); have HG1 := Lib.hid (And.intro (HG0.out.1.below hb1 HG0.out.1.lt) (HG0.out.2.below hb1 HG0.out.2.lt)); clear hb1))
  clear HB0 HG0 HWK
  obtain ⟨h0, hh0⟩ : ∃ h0, w.heap.size = h0 := ⟨_, rfl⟩
  have HH0 := Lib.hid hh0
  rw [hh0] at HG1 ⊢
  have k0 : w1.cell? ⟨h0, 0, none⟩ = some (.slice A1 n1 c1) := HG1.out.1.cell 0
  have k1 : w1.cell? ⟨h0 + 1, 0, none⟩ = some (.slice A2 n2 c2) := HG1.out.2.cell 0
  clear hh0
  refine wp_region_M (fun W => W.cell? ⟨h0, 0, none⟩ = some (.slice A1 n1 c1) ∧ W.cell? ⟨h0 + 1, 0, none⟩ = some (.slice A2 n2 c2)) 4 (by kernel_rfl) (by go_keep) (fun hHeld => ?_)
  refine wpAnyM_take (i := 0) (d := (some 13)) (v := ?_) rfl rfl (by kernel_rfl) (by kernel_rfl) (by kernel_rfl) (by kernel_rfl) (by kernel_rfl) (fun _ _ _ h => h) (Or.inl ⟨by rfl, ?_⟩) (by assumption) ?_
  rotate_left
  · intro w hSw
    (try dsimp only at hSw)
    go_simp
    (try with_reducible rfl)
  (try simp only [Act.put, List.setIfInBounds_toArray, List.set_cons_zero, List.set_cons_succ])
  refine wpAnyM_take (i := 2) (d := (some 15)) (v := ?_) rfl rfl (by kernel_rfl) (by kernel_rfl) (by kernel_rfl) (by kernel_rfl) (by kernel_rfl) (fun _ _ _ h => h) (Or.inl ⟨by rfl, ?_⟩) (by assumption) ?_
  rotate_left
  · intro w hSw
    (try dsimp only at hSw)
    go_simp
    (try with_reducible rfl)
  (try simp only [Act.put, List.setIfInBounds_toArray, List.set_cons_zero, List.set_cons_succ])
  refine wpAnyM_one (i := 1) (by kernel_rfl) ?_
  refine owe_early (i := 1) (d := (some 14)) rfl rfl (fun K hK => ?_)
  go_simp
  refine (HC1.out _ (HB1.out.drew)).mono ?_
  rintro en w2 ⟨u, us, rfl, hO, hb⟩
  have hbx : Below w1.heap.size w1 w2 := ((Below.refl _ w1).drew).trans hb
  have HO2 := Lib.hid hO
  have HB2 := Lib.hid (HB1.out.trans (hbx.mono HB1.out.size))
  have HG2 := Lib.hid (HG1.out.1.below hbx HG1.out.1.lt)
  have HK2 := Lib.hid (HG1.out.2.below hbx HG1.out.2.lt)
  have k0 := HG2.out.cell 0
  have k1 := HK2.out.cell 0
  obtain ⟨Au, cu, rfl, -, -, -⟩ := own_form hO.1
  clear hO hb hbx
  refine hK.out _ _ (by go_keep) (fun hHeld => ?_)
  clear hK K
  (try simp only [Act.put, List.setIfInBounds_toArray, List.set_cons_zero, List.set_cons_succ])
  refine wpAnyM_one (i := 3) (by kernel_rfl) ?_
  refine owe_early (i := 3) (d := (some 16)) rfl rfl (fun K hK => ?_)
  go_simp
  refine (HC2.out w2 HB2.out).mono ?_
  rintro en w3 ⟨u2, us2, rfl, hO, hb⟩
  obtain ⟨Av, cv, rfl, -, -, -⟩ := own_form hO.1
  have HO3 := Lib.hid (HO2.out.on hb)
  have HP3 := Lib.hid hO
  have HB3 := Lib.hid (HB2.out.trans (hb.mono HB2.out.size))
  have HG3 := Lib.hid (HG2.out.below hb HG2.out.lt)
  have HK3 := Lib.hid (HK2.out.below hb HK2.out.lt)
  have k0 := HG3.out.cell 0
  have k1 := HK3.out.cell 0
  have k2 := HG3.out.frozen 0
  have k3 := HK3.out.frozen 0
  clear hO hb
  refine hK.out _ _ (by go_keep) (fun hHeld => ?_)
  clear hK K
  (try simp only [Act.put, List.setIfInBounds_toArray, List.set_cons_zero, List.set_cons_succ])
  refine wpAnyM_one (i := 4) (by kernel_rfl) ?_
  refine owe_late (i := 4) (d := none) rfl rfl (by decide) (fun K hK => ?_)
  go_simp
  refine hK.out undef _ ?_
  clear hK K
  (try simp only [Act.put, List.setIfInBounds_toArray, List.set_cons_zero, List.set_cons_succ])
  refine wpAnyM_one (i := 5) (by kernel_rfl) ?_
  refine owe_late (i := 5) (d := none) rfl rfl (by decide) (fun K hK => ?_)
  have j1 : (w3.setCell ⟨h0, 0, none⟩ (.slice Au (cutL l1).length cu)).cell? ⟨h0 + 1, 0, none⟩ = some (.slice A2 n2 c2) := (HK3.out.far (p := ⟨h0, 0, none⟩) (by simp) _).cell 0
  have j2 : (w3.setCell ⟨h0, 0, none⟩ (.slice Au (cutL l1).length cu)).frozen? ⟨h0 + 1, 0, none⟩ = false := (HK3.out.far (p := ⟨h0, 0, none⟩) (by simp) _).frozen 0
  go_simp
  refine hK.out undef _ ?_
  clear hK K
  (try simp only [Act.put, List.setIfInBounds_toArray, List.set_cons_zero, List.set_cons_succ])
  refine wpAnyM_done (by kernel_rfl) ?_ _
  (try simp only [Act.put, List.setIfInBounds_toArray, List.set_cons_zero, List.set_cons_succ])
  skip
  obtain ⟨na, hna⟩ : ∃ na, (cutL l1).length = na := ⟨_, rfl⟩
  obtain ⟨nb, hnb⟩ : ∃ nb, (cutL l2).length = nb := ⟨_, rfl⟩
  have HW4 := Lib.hid (show Below w.heap.size w ((w3.setCell ⟨h0, 0, none⟩ (.slice Au na cu)).setCell ⟨h0 + 1, 0, none⟩ (.slice Av nb cv)) ∧ Blk ((w3.setCell ⟨h0, 0, none⟩ (.slice Au na cu)).setCell ⟨h0 + 1, 0, none⟩ (.slice Av nb cv)) h0 24 #[.slice Au na cu] ∧ Blk ((w3.setCell ⟨h0, 0, none⟩ (.slice Au na cu)).setCell ⟨h0 + 1, 0, none⟩ (.slice Av nb cv)) (h0 + 1) 24 #[.slice Av nb cv] ∧ StepsR ((w3.setCell ⟨h0, 0, none⟩ (.slice Au na cu)).setCell ⟨h0 + 1, 0, none⟩ (.slice Av nb cv)) (.slice Au na cu) (cutL l1) us ∧ StepsR ((w3.setCell ⟨h0, 0, none⟩ (.slice Au na cu)).setCell ⟨h0 + 1, 0, none⟩ (.slice Av nb cv)) (.slice Av nb cv) (cutL l2) us2 from by
    subst hna hnb
    have b1 := HG3.out.set_ 0 (.slice Au (cutL l1).length cu)
    have b2 := HK3.out.far (p := ⟨h0, 0, none⟩) (by simp) (.slice Au (cutL l1).length cu)
    refine ⟨(HB3.out.setCell (by rw [HH0.out]; exact Nat.le_refl _) _).setCell (by rw [HH0.out]; exact Nat.le_succ _) _, b1.far (by simp) _, b2.set_ 0 _, ?_, ?_⟩
    · exact (bunown_set b2 (bunown_set HG3.out HO3.out)).steps
    · exact (bunown_set b2 (bunown_set HG3.out HP3.out)).steps)
  rw [hna, hnb]
  clear hna hnb k0 k1 k2 k3 j1 j2 HO3 HP3 HB3 HG3 HK3 HC1 HC2 HO2 HB2 HG2 HK2 HB1 HG1
  generalize (w3.setCell ⟨h0, 0, none⟩ (.slice Au na cu)).setCell ⟨h0 + 1, 0, none⟩ (.slice Av nb cv) = w4 at *
  have k0 : w4.cell? ⟨h0, 0, none⟩ = some (.slice Au na cu) := HW4.out.2.1.cell 0
  have k1 : w4.cell? ⟨h0 + 1, 0, none⟩ = some (.slice Av nb cv) := HW4.out.2.2.1.cell 0
  obtain ⟨e1, he1⟩ : ∃ e1, (checkB (cutL l1)).1 = e1 := ⟨_, rfl⟩
  obtain ⟨e2, he2⟩ : ∃ e2, (checkB (cutL l2)).1 = e2 := ⟨_, rfl⟩
  by_cases z1 : e1 = 0
  · subst z1
    have HE1 := Lib.hid (enc_yes HW4.out.2.2.2.1 HI.out.1 HSM.out.1 he1)
    go_upto_region 5 with (go_at_call 12; go_must (refine HE1.out.mono ?_; rintro en w5 ⟨A5, m5, c5, rfl, hm5, ho5, hb5⟩; have HB5 := Lib.hid hb5; have HO5 := Lib.hid ho5; have HM5 := Lib.hid hm5; have k1 : w5.cell? ⟨h0 + 1, 0, none⟩ = some (.slice Av nb cv) := (HW4.out.2.2.1.below hb5 HW4.out.2.2.1.lt).cell 0; clear hb5 ho5 hm5))
    clear k0
    by_cases z2 : e2 = 0
    · subst z2
      have HE2 := Lib.hid (enc_yes (HW4.out.2.2.2.2.more HB5.out) HI.out.2 HSM.out.2 he2)
      go_upto_region 8 with (go_at_call 12; go_must (refine HE2.out.mono ?_; rintro en w6 ⟨A6, m6, c6, rfl, hm6, ho6, hb6⟩; have HB6 := Lib.hid (HB5.out.trans (hb6.mono HB5.out.size)); have HP6 := Lib.hid (own_more HO5.out hb6); have HO6 := Lib.hid ho6; have HM6 := Lib.hid hm6; clear hb6 ho6 hm6))
      have k0 : w6.cell? ⟨h0, 0, none⟩ = some (.slice Au na cu) := (HW4.out.2.1.below HB6.out HW4.out.2.1.lt).cell 0
      have HSZ := Lib.hid (size_yes (HW4.out.2.2.2.1.more HB6.out) HI.out.1 he1)
      rw [HM5.out] at HSZ
      clear k1
      go_upto_region 9 with (go_at_call 13; go_must (refine HSZ.out.mono ?_; rintro en w7 ⟨rfl, hb7⟩; have HX7 := Lib.hid (And.intro (own_more HP6.out hb7) (own_more HO6.out hb7)); have HB7 := Lib.hid (HB6.out.trans (hb7.mono HB6.out.size)); clear hb7))
      clear k0
      obtain ⟨y, hy⟩ : ∃ y, decide (cutL l1 = cutL l2) = y := ⟨_, rfl⟩
      have hy2 := one_law he1 he2 HI.out.1.few HI.out.2.few
      rw [hy] at hy2
      have HEQ := Lib.hid (show ∀ W, Below w7.heap.size w7 W → Calls Try.prog 14 #[.slice A5 m5 c5, .slice A6 m6 c6] W (fun e w' => e = .returned (.bool y) ∧ W = w') from fun W hW => by
        obtain ⟨q1, d1, f1, -, -, r1⟩ := OB.form (own_more HX7.out.1 hW)
        obtain ⟨q2, d2, f2, -, -, r2⟩ := OB.form (own_more HX7.out.2 hW)
        rw [HM5.out] at f1
        rw [HM6.out] at f2
        cases f1
        cases f2
        have := beq_any _ _ _ _ c5 c6 m5 m6 W r1 r2 HM5.out HM6.out
        rw [hy2] at this
        exact this)
      have HSA := Lib.hid (show ∀ W, Below w7.heap.size w7 W → Calls Try.prog 15 #[.agg #[.slice Au na cu], .agg #[.slice Av nb cv]] W (fun e w' => e = .returned (.bool y) ∧ Below W.heap.size W w') from fun W hW => by
        have := bsame_any (.slice Au na cu) (.slice Av nb cv) (cutL l1) (cutL l2) us us2 W ((HW4.out.2.2.2.1.more HB7.out).more hW) ((HW4.out.2.2.2.2.more HB7.out).more hW)
        rw [hy] at this
        exact this)
      have HGB := Lib.hid (And.intro (HW4.out.2.1.below HB7.out HW4.out.2.1.lt) (HW4.out.2.2.1.below HB7.out HW4.out.2.2.1.lt))
      have k0 : w7.cell? ⟨h0, 0, none⟩ = some (.slice Au na cu) := HGB.out.1.cell 0
      have k1 : w7.cell? ⟨h0 + 1, 0, none⟩ = some (.slice Av nb cv) := HGB.out.2.cell 0
      clear hy hy2 he1 he2 HE1 HE2 HSZ
      cases y
      all_goals
        refine wp_region_M (fun W => W.cell? ⟨h0, 0, none⟩ = some (.slice Au na cu) ∧ W.cell? ⟨h0 + 1, 0, none⟩ = some (.slice Av nb cv)) 17 (by kernel_rfl) (by go_keep) (fun hHeld => ?_)
        refine wpAnyM_take (i := 0) (d := (some 38)) (v := ?_) rfl rfl (by kernel_rfl) (by kernel_rfl) (by kernel_rfl) (by kernel_rfl) (by kernel_rfl) (fun _ _ _ h => h) (Or.inl ⟨by rfl, ?_⟩) (by assumption) ?_
        rotate_left
        · intro w hSw
          (try dsimp only at hSw)
          go_simp
          (try with_reducible rfl)
        (try simp only [Act.put, List.setIfInBounds_toArray, List.set_cons_zero, List.set_cons_succ])
        refine wpAnyM_take (i := 1) (d := (some 39)) (v := ?_) rfl rfl (by kernel_rfl) (by kernel_rfl) (by kernel_rfl) (by kernel_rfl) (by kernel_rfl) (fun _ _ _ h => h) (Or.inl ⟨by rfl, ?_⟩) (by assumption) ?_
        rotate_left
        · intro w hSw
          (try dsimp only at hSw)
          go_simp
          (try with_reducible rfl)
        (try simp only [Act.put, List.setIfInBounds_toArray, List.set_cons_zero, List.set_cons_succ])
        refine wpAnyM_take (i := 3) (d := (some 41)) (v := ?_) rfl rfl (by kernel_rfl) (by kernel_rfl) (by kernel_rfl) (by kernel_rfl) (by kernel_rfl) (fun _ _ _ h => h) (Or.inl ⟨by rfl, ?_⟩) (by assumption) ?_
        rotate_left
        · intro w hSw
          (try dsimp only at hSw)
          go_simp
          (try with_reducible rfl)
        (try simp only [Act.put, List.setIfInBounds_toArray, List.set_cons_zero, List.set_cons_succ])
        refine wpAnyM_take (i := 4) (d := (some 42)) (v := ?_) rfl rfl (by kernel_rfl) (by kernel_rfl) (by kernel_rfl) (by kernel_rfl) (by kernel_rfl) (fun _ _ _ h => h) (Or.inl ⟨by rfl, ?_⟩) (by assumption) ?_
        rotate_left
        · intro w hSw
          (try dsimp only at hSw)
          go_simp
          (try with_reducible rfl)
        (try simp only [Act.put, List.setIfInBounds_toArray, List.set_cons_zero, List.set_cons_succ])
        refine wpAnyM_one (i := 2) (by kernel_rfl) ?_
        refine owe_early (i := 2) (d := (some 40)) rfl rfl (fun K hK => ?_)
        go_simp
        refine (HEQ.out _ ((Below.refl _ w7).drew)).mono ?_
        rintro en w8 ⟨rfl, rfl⟩
        refine hK.out _ _ (by go_keep) (fun hHeld => ?_)
        clear hK K
        (try simp only [Act.put, List.setIfInBounds_toArray, List.set_cons_zero, List.set_cons_succ])
        refine wpAnyM_one (i := 5) (by kernel_rfl) ?_
        refine owe_early (i := 5) (d := (some 43)) rfl rfl (fun K hK => ?_)
        go_simp
        refine (HSA.out _ ((Below.refl _ w7).drew)).mono ?_
        rintro en w9 ⟨rfl, hb⟩
        have hbx : Below w7.heap.size w7 w9 := ((Below.refl _ w7).drew).trans hb
        have HB9 := Lib.hid (HB7.out.trans (hbx.mono HB7.out.size))
        have k0 := (HGB.out.1.below hbx HGB.out.1.lt).cell 0
        have k1 := (HGB.out.2.below hbx HGB.out.2.lt).cell 0
        clear hb hbx
        refine hK.out _ _ (by go_keep) (fun hHeld => ?_)
        clear hK K
        (try simp only [Act.put, List.setIfInBounds_toArray, List.set_cons_zero, List.set_cons_succ])
        refine wpAnyM_take (i := 6) (d := (some 44)) (v := ?_) rfl rfl (by kernel_rfl) (by kernel_rfl) (by kernel_rfl) (by kernel_rfl) (by kernel_rfl) (fun _ _ _ h => h) (Or.inl ⟨by rfl, ?_⟩) (by assumption) ?_
        rotate_left
        · intro w hSw
          (try dsimp only at hSw)
          go_simp
          (try with_reducible rfl)
        (try simp only [Act.put, List.setIfInBounds_toArray, List.set_cons_zero, List.set_cons_succ])
        refine wpAnyM_take (i := 7) (d := (some 45)) (v := ?_) rfl rfl (by kernel_rfl) (by kernel_rfl) (by kernel_rfl) (by kernel_rfl) (by kernel_rfl) (fun _ _ _ h => h) (Or.inl ⟨by rfl, ?_⟩) (by assumption) ?_
        rotate_left
        · intro w hSw
          (try dsimp only at hSw)
          go_simp
          (try with_reducible rfl)
        (try simp only [Act.put, List.setIfInBounds_toArray, List.set_cons_zero, List.set_cons_succ])
        refine wpAnyM_take (i := 8) (d := (some 46)) (v := ?_) rfl rfl (by kernel_rfl) (by kernel_rfl) (by kernel_rfl) (by kernel_rfl) (by kernel_rfl) (fun _ _ _ h => h) (Or.inl ⟨by rfl, ?_⟩) (by assumption) ?_
        rotate_left
        · intro w hSw
          (try dsimp only at hSw)
          go_simp
          (try with_reducible rfl)
        (try simp only [Act.put, List.setIfInBounds_toArray, List.set_cons_zero, List.set_cons_succ])
        refine wpAnyM_take (i := 9) (d := (some 47)) (v := ?_) rfl rfl (by kernel_rfl) (by kernel_rfl) (by kernel_rfl) (by kernel_rfl) (by kernel_rfl) (fun _ _ _ h => h) (Or.inl ⟨by rfl, ?_⟩) (by assumption) ?_
        rotate_left
        · intro w hSw
          (try dsimp only at hSw)
          go_simp
          (try with_reducible rfl)
        (try simp only [Act.put, List.setIfInBounds_toArray, List.set_cons_zero, List.set_cons_succ])
        refine wpAnyM_take (i := 10) (d := (some 48)) (v := ?_) rfl rfl (by kernel_rfl) (by kernel_rfl) (by kernel_rfl) (by kernel_rfl) (by kernel_rfl) (fun _ _ _ h => h) (Or.inl ⟨by rfl, ?_⟩) (by assumption) ?_
        rotate_left
        · intro w hSw
          (try dsimp only at hSw)
          go_simp
          (try with_reducible rfl)
        (try simp only [Act.put, List.setIfInBounds_toArray, List.set_cons_zero, List.set_cons_succ])
        refine wpAnyM_take (i := 11) (d := (some 49)) (v := ?_) rfl rfl (by kernel_rfl) (by kernel_rfl) (by kernel_rfl) (by kernel_rfl) (by kernel_rfl) (fun _ _ _ h => h) (Or.inl ⟨by rfl, ?_⟩) (by assumption) ?_
        rotate_left
        · intro w hSw
          (try dsimp only at hSw)
          go_simp
          (try with_reducible rfl)
        (try simp only [Act.put, List.setIfInBounds_toArray, List.set_cons_zero, List.set_cons_succ])
        refine wpAnyM_take (i := 12) (d := (some 50)) (v := ?_) rfl rfl (by kernel_rfl) (by kernel_rfl) (by kernel_rfl) (by kernel_rfl) (by kernel_rfl) (fun _ _ _ h => h) (Or.inl ⟨by rfl, ?_⟩) (by assumption) ?_
        rotate_left
        · intro w hSw
          (try dsimp only at hSw)
          go_simp
          (try with_reducible rfl)
        (try simp only [Act.put, List.setIfInBounds_toArray, List.set_cons_zero, List.set_cons_succ])
        refine wpAnyM_take (i := 13) (d := (some 51)) (v := ?_) rfl rfl (by kernel_rfl) (by kernel_rfl) (by kernel_rfl) (by kernel_rfl) (by kernel_rfl) (fun _ _ _ h => h) (Or.inl ⟨by rfl, ?_⟩) (by assumption) ?_
        rotate_left
        · intro w hSw
          (try dsimp only at hSw)
          go_simp
          (try with_reducible rfl)
        (try simp only [Act.put, List.setIfInBounds_toArray, List.set_cons_zero, List.set_cons_succ])
        refine wpAnyM_take (i := 14) (d := (some 52)) (v := ?_) rfl rfl (by kernel_rfl) (by kernel_rfl) (by kernel_rfl) (by kernel_rfl) (by kernel_rfl) (fun _ _ _ h => h) (Or.inl ⟨by rfl, ?_⟩) (by assumption) ?_
        rotate_left
        · intro w hSw
          (try dsimp only at hSw)
          go_simp
          (try with_reducible rfl)
        (try simp only [Act.put, List.setIfInBounds_toArray, List.set_cons_zero, List.set_cons_succ])
        refine wpAnyM_take (i := 15) (d := (some 53)) (v := ?_) rfl rfl (by kernel_rfl) (by kernel_rfl) (by kernel_rfl) (by kernel_rfl) (by kernel_rfl) (fun _ _ _ h => h) (Or.inl ⟨by rfl, ?_⟩) (by assumption) ?_
        rotate_left
        · intro w hSw
          (try dsimp only at hSw)
          go_simp
          (try with_reducible rfl)
        (try simp only [Act.put, List.setIfInBounds_toArray, List.set_cons_zero, List.set_cons_succ])
        refine wpAnyM_take (i := 16) (d := (some 54)) (v := ?_) rfl rfl (by kernel_rfl) (by kernel_rfl) (by kernel_rfl) (by kernel_rfl) (by kernel_rfl) (fun _ _ _ h => h) (Or.inl ⟨by rfl, ?_⟩) (by assumption) ?_
        rotate_left
        · intro w hSw
          (try dsimp only at hSw)
          go_simp
          (try with_reducible rfl)
        (try simp only [Act.put, List.setIfInBounds_toArray, List.set_cons_zero, List.set_cons_succ])
        refine wpAnyM_one (i := 17) (by kernel_rfl) ?_
        refine owe_late (i := 17) (d := (some 4)) rfl rfl (by decide) (fun K hK => ?_)
        go_simp
        refine hK.out _ _ ?_
        clear hK K
        (try simp only [Act.put, List.setIfInBounds_toArray, List.set_cons_zero, List.set_cons_succ])
        refine wpAnyM_done (by kernel_rfl) ?_ _
        (try simp only [Act.put, List.setIfInBounds_toArray, List.set_cons_zero, List.set_cons_succ])
        skip
        clear k0 k1
        go_wp2
        go_ret
        exact ⟨rfl, HW4.out.1.trans (HB9.out.mono HW4.out.1.size)⟩
    · have z3 : (e2 == 0) = false := by simpa using z2
      have HE2 := Lib.hid (enc_no (HW4.out.2.2.2.2.more HB5.out) HI.out.2 he2 z2)
      clear he1 he2 z2
      go_wp2_with (go_at_call 12; go_must (refine HE2.out.mono ?_; rintro en w6 ⟨rfl, hb6⟩; have HB6 := Lib.hid (HB5.out.trans (hb6.mono HB5.out.size)); clear hb6))
      go_ret
      exact ⟨rfl, HW4.out.1.trans (HB6.out.mono HW4.out.1.size)⟩
  · have z3 : (e1 == 0) = false := by simpa using z1
    have HE1 := Lib.hid (enc_no HW4.out.2.2.2.1 HI.out.1 he1 z1)
    clear z1
    go_upto_region 5 with (go_at_call 12; go_must (refine HE1.out.mono ?_; rintro en w5 ⟨rfl, hb5⟩; have HB5 := Lib.hid hb5; have k1 : w5.cell? ⟨h0 + 1, 0, none⟩ = some (.slice Av nb cv) := (HW4.out.2.2.1.below hb5 HW4.out.2.2.1.lt).cell 0; clear hb5))
    clear k0
    have HE2 := Lib.hid (bencode_any _ _ _ _ (HW4.out.2.2.2.2.more HB5.out) HI.out.2)
    clear he1 he2
    go_wp2_with (go_at_call 12; go_must (refine (enc_some HE2.out).mono ?_; rintro en w6 ⟨A6, m6, c6, k6, rfl, hb6⟩; have HB6 := Lib.hid (HB5.out.trans (hb6.mono HB5.out.size)); clear hb6))
    go_ret
    exact ⟨rfl, HW4.out.1.trans (HB6.out.mono HW4.out.1.size)⟩
set_option maxRecDepth 100000 in
theorem walk {H : Type} {enc : TypeId × Value → H} (v0 : Value) (d0 : DataW H) (p0 : List MemPlace) (base0 : Nat) (v1 : Value) (d1 : DataW H) (p1 : List MemPlace) (base1 : Nat) (w : World) (hv0 : Value.okWide Try.prog w .any base0 24 v0) (w0 : DataW.Trod enc Try.prog w 0 (fun _ => true) true 24 v0 d0 p0) (hwt0 : ∀ n ∈ d0.weights Try.prog 24, n ≤ 140737488351232) (hv1 : Value.okWide Try.prog w .any base1 24 v1) (w1 : DataW.Trod enc Try.prog w 0 (fun _ => true) true 24 v1 d1 p1) (hwt1 : ∀ n ∈ d1.weights Try.prog 24, n ≤ 140737488351232) :
    Calls Try.prog 5 #[v0, v1] w fun e w' => e = .returned (.bool true) ∧ Below w.heap.size w w' := by
  obtain ⟨u0, l0, vs0, rfl, hs0, hi0⟩ := open_bundle hv0 w0 hwt0
  obtain ⟨u1, l1, vs1, rfl, hs1, hi1⟩ := open_bundle hv1 w1 hwt1
  exact one_walk u0 u1 l0 l1 vs0 vs1 w hs0 hs1 hi0 hi1

set_option maxRecDepth 100000 in
theorem contract (H : Type) (enc : TypeId × Value → H) (W : World) (base : Nat) (args : Array Value) (ds gs : List (DataW H)) (before : List MemPlace)
    (hval0 : ∀ (j : Nat) t v, Try.f5.params[j]? = some t → args[j]? = some v → Value.okWide Try.prog W .any base t v)
    (hW : DataW.Whole enc Try.prog Try.f5.params.toList Rows.bundleOneSpec.vars false W args.toList ds gs before)
    (hsz0 : (DataW.weightsEach Try.prog (Try.f5.params.toList ++ Rows.bundleOneSpec.plain.varTypes Try.prog) (ds ++ gs)).all (· ≤ reachBytes) = true) :
    Calls Try.prog 5 args W fun e W' => ∃ v, e = .returned v ∧ Rows.bundleOneSpec.post enc Try.prog Try.f5 false true false false W args v W' := by
  have hval : ∀ (j : Nat) t v, Try.f5.params[j]? = some t → args[j]? = some v → Value.okWide Try.prog W .any base t v := hval0
  have hsz : (DataW.weightsEach Try.prog (Try.f5.params.toList ++ Rows.bundleOneSpec.plain.varTypes Try.prog) (ds ++ gs)).all (· ≤ reachBytes) = true := hsz0
  have hW' := hW
  obtain ⟨p, q, hA0, hV, rfl, hfz, hnd⟩ := hW
  have hA : DataW.TrodAll enc Try.prog W 0 (fun _ => true) true Try.f5.params.toList args.toList ds p := hA0
  rw [Try.params5] at hA hval hsz
  obtain ⟨v0, vs0, d0, ds0, p0, q0, hargs, rfl, rfl, h0, r0⟩ := trodAll_cons hA
  obtain ⟨v1, vs1, d1, ds1, p1, q1, rfl, rfl, rfl, h1, r1⟩ := trodAll_cons r0
  obtain ⟨rfl, rfl, rfl⟩ := trodAll_nil r1
  obtain rfl : args = #[v0, v1] := by cases args; simp_all
  obtain ⟨rfl, rfl⟩ := trodVars_none hV
  have k0 := h0
  have lt0 : ∀ x ∈ p0, x.block < W.heap.size := by obtain ⟨m, hm⟩ := k0; exact DataW.trod_lt m _ _ _ hm
  have hwt0 : ∀ n ∈ d0.weights Try.prog 24, n ≤ 140737488351232 := fun n hn => by
    have := of_decide_eq_true (List.all_eq_true.1 hsz _ (DataW.weights_mem_each (j := 0) (t := 24) rfl rfl n hn))
    simpa [reachBytes] using this
  have k1 := h1
  have lt1 : ∀ x ∈ p1, x.block < W.heap.size := by obtain ⟨m, hm⟩ := k1; exact DataW.trod_lt m _ _ _ hm
  have hwt1 : ∀ n ∈ d1.weights Try.prog 24, n ≤ 140737488351232 := fun n hn => by
    have := of_decide_eq_true (List.all_eq_true.1 hsz _ (DataW.weights_mem_each (j := 1) (t := 24) rfl rfl n hn))
    simpa [reachBytes] using this
  clear hA0 hval0
  refine (walk v0 d0 p0 base v1 d1 p1 base W (hval 0 24 v0 rfl rfl) h0 hwt0 (hval 1 24 v1 rfl rfl) h1 hwt1).mono fun e W' ⟨he, bel⟩ => ?_
  subst he
  exact ⟨_, rfl, _, _, _, [], _, [], hW', trodAll_mk1 (shut_bool Try.underlying4 _), (trodAll_cons_mk (Below.trod laidOut (by kernel_rfl) (of_decide_eq_true (by kernel_rfl)) k0 bel lt0) (trodAll_cons_mk (Below.trod laidOut (by kernel_rfl) (of_decide_eq_true (by kernel_rfl)) k1 bel lt1) trodAll_mk0)), rfl, bel.frame _, fun h => by cases h⟩

set_option maxRecDepth 100000 in
theorem lifted (os : Os) (started : os.Started) (H : Type) (enc : TypeId × Value → H) :
    ReturnsInHanded {} Try.checked os 5 .any (Rows.bundleOneSpec.pre6 enc Try.prog Try.f5 Rows.bundleOneRow.domain false) (Rows.bundleOneSpec.post enc Try.prog Try.f5 false true false false) := by
  refine returnsInHanded_of_change_sized (C := Try.checked) own started (by kernel_rfl) Try.func5
    (ChangeSpec.witness6 (enc := enc) (C := Try.checked) false ⟨#[], #[.agg #[.slice none 0 0], .agg #[.slice none 0 0]], []⟩ 8 (by kernel_rfl) (by kernel_rfl) (by kernel_rfl) (by kernel_rfl)) ?_
  intro W base args ds gs before hval hW _ hsz _
  exact contract H enc W base args ds gs before hval hW hsz

theorem over : Rows.bundleOneRow.holds Try.pinned (OpenSpec.ofChange Rows.bundleOneSpec) :=
  OpenClaim.holds_of_wide 5 Try.f5 rfl rfl rfl rfl rfl rfl rfl ⟨rfl, rfl, rfl, rfl, rfl⟩ rfl rfl rfl rfl rfl (by kernel_rfl) Try.func5 (by kernel_rfl)
    (of_decide_eq_true (by kernel_rfl)) (by unfold Func.isWrapper; first | (rw [if_pos (by decide +kernel)]; kernel_rfl) | (rw [if_neg (by decide +kernel)]; exact ⟨rfl, rfl⟩))
    (fun os started H enc _ => lifted os started H enc)

/-- The statement. -/
theorem proved : Rows.BundleOneSaid := over
#print axioms proved
end Go.Proofs.Ytfpepdjffehbcaa.bundleOne
