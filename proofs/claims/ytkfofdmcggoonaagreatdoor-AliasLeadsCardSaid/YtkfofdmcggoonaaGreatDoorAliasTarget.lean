/-
  The walk of alias.Target. Condition: the text is at most 1048576 bytes; unicode/utf8's tables lie as their initialisers lay them.
-/
import Derived.Test.YtkfofdmcggoonaaGreatDoorAliasTargetSt
set_option linter.unusedVariables false
set_option linter.unusedSimpArgs false
namespace Go.Proofs.YtkfofdmcggoonaaGreatDoor
open Go.RowKit

set_option maxHeartbeats 16000000 in
set_option maxRecDepth 100000 in
theorem target_any (g s : ByteArray) (w : World) (hg : g.size ≤ 140737488355328) (hs : s.size ≤ 1048576) (hT : Tabs w) (hg3 : 3 ≤ w.heap.size) :
    Calls Tryz.prog 15 #[.string g, .string s] w (TargetPost g s w) := by
  obtain ⟨r, hr⟩ : ∃ r, r = w.heap.size := ⟨_, rfl⟩
  have HR := Lib.hid hr
  clear hr
  go_enter Tryz.func15, Tryz.ntmps15
  go_wp2
  refine wp_scope4 (TJ g s w r) (Tmu s) (by rintro l a W (⟨h, -⟩ | ⟨h, -⟩ | ⟨h, -⟩ | ⟨h, -⟩) <;> simp [h]) ?_ ?_ ?_ ?_ ?_
  · refine ⟨_, by simp only [findLabel]; rfl, fun bd a W hJ hb => ?_⟩
    obtain ⟨gs, gx, up, k, p, ⟨u, rfl⟩, hT0, hA, hrg, hp, hM⟩ := tj0 hJ
    have HT := Lib.hid hT0
    have HA := Lib.hid hA
    have HM := Lib.hid hM
    have c0 := hA.c0
    have c1 := hA.c1
    clear hT0 hA hM hJ hb
    go_wp2
    obtain ⟨b0, b1, b2, b3, b4, b5⟩ := HT.out.1.two (.int .i64 230)
    have hne : ¬ gs = r := by omega
    have hne2 : ¬ r = gs := by omega
    go_region_with (fail)
    all_goals
      go_wp2
      (try simp only [Exit.inBlock, Exit.then, jumpsQ])
      refine bodyPost_ret (target_result ((HT.out.done 230 p).1.drewN 1) rfl rfl) rfl ?_
      exact target_mk HR.out HM.out rfl (below_drewN (HT.out.done 230 p).2 1)
  · refine ⟨_, by simp only [findLabel]; rfl, fun bd a W hJ hb => ?_⟩
    obtain ⟨p, gs, gx, B, up, kv, k, L, VS, nm, ks, hf, hT0, hr1, hg1, hx1, hL, hS, hO, hB1, hB2, hD, hKS, hkl, hnm, hM⟩ := tj3 hJ
    rw [tmu_frame hf hT0.2.1 (by decide)] at hb
    obtain ⟨u, rfl⟩ := hf
    obtain ⟨Ak, ck, rfl, -, -, -⟩ := own_form hO.1
    obtain ⟨Au, cu, rfl, -, -, -⟩ := own_form hT0.2.2.2.1.2.1
    have hp := hT0.2.2.2.2.2
    have HON := Lib.hid (on_any gs p s 91 W hT0.2.1 (by omega))
    have HT := Lib.hid hT0
    have HL := Lib.hid (And.intro hL (And.intro hS hkl))
    have HO := Lib.hid (And.intro hO (And.intro hB1 hB2))
    have HD := Lib.hid (And.intro hD hKS)
    have HM := Lib.hid hM
    have HB := Lib.hid hb
    clear hT0 hL hS hO hB1 hB2 hD hKS hkl hM hb hJ
    cases hsb : standsB s p 91
    · -- none
      -- BEGIN none
      rw [hsb] at HON
      have HX := Lib.hid (show targetM g s = keyM s nm L (.ok (ks, p)) by rw [HM.out, akeysM_none hp (by unfold akStep; rw [hsb]; rfl)])
      clear hsb
      go_wp2_with fail
      refine HON.out.mono ?_
      rintro en w1 ⟨rfl, q1, rfl⟩
      have HT1 := Lib.hid (tst_drewN HT.out q1)
      have HO1 := Lib.hid (show KR (W.drewN q1) B (.slice Ak ks.length ck) ks from HO.out.1)
      generalize W.drewN q1 = w1 at *
      have k1 : w1.cell? ⟨gx, 1, none⟩ = some (.slice Ak ks.length ck) := HT1.out.2.2.1.cell 1
      go_wp2_with fail
      refine (asort_any ks B (.slice Ak ks.length ck) w1 HO1.out.1 HD.out.1 (by have := HL.out.2.2; omega)).mono ?_
      rintro en w2 ⟨rfl, ho2, hl2, hg2⟩
      have HO2 := Lib.hid ho2
      have HT2 := Lib.hid (tst_keys HT1.out HO1.out.1 HO.out.2.1 HO.out.2.2 hr1 hg1 hx1 hg2)
      clear ho2 hg2
      obtain ⟨i0, hi0, hz0, hz1, hz2⟩ := info_parts stepz_info
      have HL2 := Lib.hid hl2
      clear hl2
      have HT3 := Lib.hid (tst_alloc HT2.out (.cells #[.string nm, .slice Ak ks.length ck] 70))
      have HO3 := Lib.hid (own_more HO2.out ((Below.refl _ w2).alloc (Nat.le_refl _) (.cells #[.string nm, .slice Ak ks.length ck] 70)))
      have HAR := Lib.hid (reads_new w2 #[.string nm, .slice Ak ks.length ck] 70 2 1 rfl)
      have k2 : w2.cell? ⟨gx, 0, none⟩ = some (.string nm) := HT2.out.2.2.1.cell 0
      have k3 : w2.cell? ⟨gx, 1, none⟩ = some (.slice Ak ks.length ck) := HT2.out.2.2.1.cell 1
      have HLL := Lib.hid (show L.length ≤ 600000 by have := HL.out.1; omega)
      clear k1
      go_wp2_with (at_builtin; go_loud (refine wpList_append_any _ rfl (.tmp 110) (.tmp 112) _ rfl (r + 1) 70 i0 _ 2 40 Tryz.underlying59 hi0 hz0 hz1 hz2 rfl (by omega) _ L.length (stepCells L VS) rfl HT3.out.2.2.2.1.2.1 (w2.heap.size + 1) (some ⟨w2.heap.size, 0, none⟩) 1 1 [.string nm, .slice Ak ks.length ck] rfl HAR.out (by simp [Value.oneCell']) (by have := HLL.out; simp only [maxLen]; omega) (by have := HLL.out; omega) HT3.out.1.2.2 ?_); intro v5 w5 hown5 hg5 hat5; obtain ⟨A5, c5, rfl, -, -, -⟩ := own_form hown5; have HT5 := Lib.hid (tst_push (st := (nm, sortK ks)) HT3.out HO.out.2.1 HO.out.2.2 HO3.out hg5 hown5 hat5); clear hown5 hg5 hat5)
      have HX0 := Lib.hid (show targetM g s = (if standsB s p 47 = true then lastM (astepsM s (p + 1) (L ++ [(nm, sortK ks)])) else if p = s.size then lastM (.ok (L ++ [(nm, sortK ks)])) else lastM (.error p)) from HX.out)
      have HSS := Lib.hid (stepSmall_snoc HL.out.2.1 hs hp hnm HL.out.2.2 HD.out.2)
      have HLN := Lib.hid (show (L ++ [(nm, sortK ks)]).length = L.length + 1 by simp)
      clear HT1 HT2 HT3 HO1 HO2 HO3 HAR k2 k3 HO HON HX
      have HON2 := Lib.hid (on_any gs p s 47 w5 HT5.out.2.1 (by omega))
      generalize L ++ [(nm, sortK ks)] = L' at *
      cases hsl : standsB s p 47
      · rw [hsl] at HX0 HON2
        clear hsl
        go_wp2_with fail
        refine HON2.out.mono ?_
        rintro en w6 ⟨rfl, q6, rfl⟩
        have HT6 := Lib.hid (tst_drewN HT5.out q6)
        generalize w5.drewN q6 = w6 at *
        have c0 := HT6.out.2.1.c0
        have c1 := HT6.out.2.1.c1
        clear HON2 HT5
        by_cases hps : p = s.size
        · have HX := Lib.hid (show targetM g s = lastM (.ok L') by rw [HX0.out, if_neg (by simp), if_pos hps])
          have hpe : ((p : Int) == (s.size : Int)) = true := by rw [hps]; simp
          have HPR := Lib.hid (fun W (h : StepsR W (.slice A5 (L.length + 1) c5) L' (VS ++ [.slice Ak ks.length ck])) => print_any _ L' _ W h HSS.out (by have := HLN.out; have := HLL.out; have := HL.out.1; omega))
          clear hps
          go_wp2
          go_quiet (fail)
          go_wp2_with fail
          have HT7 := Lib.hid (tst_drewN HT6.out nq)
          clear HT6 c0 c1
          generalize w6.drewN nq = w7 at *
          refine (HPR.out _ HT7.out.2.2.2.1.reads).mono ?_
          rintro en w8 ⟨rfl, hb8⟩
          have HT8 := Lib.hid (tst_on HT7.out hb8)
          clear hb8 HPR HT7
          obtain ⟨b0, b1, b2, b3, b4, b5⟩ := HT8.out.1.1.two (.int .i64 0)
          obtain ⟨d0, d1, d2, d3, d4, d5⟩ := HT8.out.1.1.two (.int .i64 3)
          cases hput : putM L' with
          | error e =>
            have hz : (e == 0) = false := by rw [beq_eq_false_iff_ne]; exact aputM_err hput
            have hz2 : ¬ e = 0 := aputM_err hput
            have HX2 := Lib.hid (show targetM g s = (ByteArray.empty, 3, 0) by rw [HX.out]; simp only [lastM, hput])
            simp only [putE, putS]
            clear hput
            go_wp2
            (try simp only [Exit.inBlock, Exit.then, jumpsQ])
            refine bodyPost_ret (target_result (HT8.out.1.done 3 0).1 rfl rfl) rfl ?_
            exact target_mk HR.out HX2.out rfl (HT8.out.1.done 3 0).2
          | ok tt =>
            have HX2 := Lib.hid (show targetM g s = (str tt, 0, 0) by rw [HX.out]; simp only [lastM, hput])
            simp only [putE, putS]
            clear hput
            go_wp2
            (try simp only [Exit.inBlock, Exit.then, jumpsQ])
            refine bodyPost_ret (target_result (HT8.out.1.done 0 0).1 rfl rfl) rfl ?_
            exact target_mk HR.out HX2.out rfl (HT8.out.1.done 0 0).2
        · have HX := Lib.hid (show targetM g s = (ByteArray.empty, 230, (p : Int)) by rw [HX0.out, if_neg (by simp), if_neg hps]; rfl)
          have hpe : ((p : Int) == (s.size : Int)) = false := by rw [beq_eq_false_iff_ne]; omega
          clear hps
          go_wp2
          go_quiet (fail)
          go_wp2
          have HT7 := Lib.hid (tst_drewN HT6.out nq)
          clear HT6 c0 c1
          generalize w6.drewN nq = w7 at *
          have c0 := HT7.out.2.1.c0
          have c1 := HT7.out.2.1.c1
          obtain ⟨b0, b1, b2, b3, b4, b5⟩ := HT7.out.1.1.two (.int .i64 230)
          have hne : ¬ gs = r := by omega
          have hne2 : ¬ r = gs := by omega
          refine wp_label ?_
          go_wp2
          go_region_with (fail)
          all_goals
            go_wp2
            (try simp only [Exit.inBlock, Exit.then, jumpsQ])
            refine bodyPost_ret (target_result ((HT7.out.1.done 230 p).1.drewN 1) rfl rfl) rfl ?_
            exact target_mk HR.out HX.out rfl (below_drewN (HT7.out.1.done 230 p).2 1)
      · rw [hsl] at HX0 HON2
        obtain ⟨hlt, -⟩ := stands_at hsl
        clear hsl
        have HX := Lib.hid (show targetM g s = lastM (astepsM s (p + 1) L') by rw [HX0.out, if_pos rfl])
        have hq1 : (p : Int) < (s.size : Int) := by omega
        go_wp2_with fail
        refine HON2.out.mono ?_
        rintro en w6 ⟨rfl, q6, rfl⟩
        have HT6 := Lib.hid (tst_drewN HT5.out q6)
        generalize w5.drewN q6 = w6 at *
        have c1 := HT6.out.2.1.c1
        have f1 := Blk.frozen HT6.out.2.1 1
        have HT7 := Lib.hid (tst_at (q := p + 1) HT6.out hr1 hg1 hlt)
        go_wp2
        refine wp_goto (show TJ g s w r 2 _ _ ∧ Tmu s 2 _ _ < bd from ⟨.inr (.inr (.inl ⟨rfl, p + 1, gs, gx, _, _, _, _, L', _, tframe_of _ rfl rfl, HT7.out, hr1, hg1, hx1, ?_, HSS.out, HX.out⟩)), ?_⟩)
        · have := HLN.out; have := HL.out.1; omega
        · refine Nat.lt_of_le_of_lt (Nat.le_of_eq (tmu_frame (g := g) (r := r) (gs := gs) (gx := gx) (p := p + 1) (l := 2) (tframe_of _ rfl rfl) (by exact HT7.out.2.1) (by decide))) ?_
          have := HB.out; omega
      -- END none
    · -- key
      -- BEGIN key
      rw [hsb] at HON
      have HSB := Lib.hid hsb
      have HMU := Lib.hid (fun W (h : AS W gs s p) => must_any gs p s ⟨#[91, 64]⟩ W h hp (by omega) (by decide))
      rcases e1 : mustM s p [91, 64] with ⟨q, b1⟩
      have m1 := mustM_le s [91, 64] p hp
      rw [e1] at m1
      obtain ⟨m1a, m1b, m1c⟩ := m1
      simp only at m1a m1b m1c
      have HM1 := Lib.hid m1c
      have HE1 := Lib.hid e1
      clear m1c e1 hsb
      go_wp2_with fail
      refine HON.out.mono ?_
      rintro en w1 ⟨rfl, q1, rfl⟩
      have HT1 := Lib.hid (tst_drewN HT.out q1)
      have HO1 := Lib.hid (show KR (W.drewN q1) B (.slice Ak ks.length ck) ks from HO.out.1)
      generalize W.drewN q1 = w1 at *
      go_wp2_with fail
      refine (HMU.out _ HT1.out.2.1).mono ?_
      intro en w2 hm
      have hm2 : en = .returned (.bool b1) ∧ AS w2 gs s q ∧ Only gs w1 w2 := by
        unfold MustPost at hm
        rw [show mustM s p (⟨#[91, 64]⟩ : ByteArray).data.toList = (q, b1) from HE1.out] at hm
        exact hm
      obtain ⟨rfl, ha, ho⟩ := hm2
      have HT2 := Lib.hid (tst_scan HT1.out hr1 hg1 ho ha m1b)
      have HO2 := Lib.hid (kr_blk HO1.out HT1.out.2.1 (by decide) ho)
      clear ha ho hm
      cases b1
      · have HX := Lib.hid (show targetM g s = (ByteArray.empty, 230, (q : Int)) by rw [HM.out, akeysM_bad hp (akStep_head HSB.out HE1.out)]; rfl)
        go_wp2
        refine wp_goto (show TJ g s w r 0 _ _ ∧ Tmu s 0 _ _ < bd from ⟨.inl ⟨rfl, gs, gx, _, _, q, tframe_of _ rfl rfl, HT2.out.1, HT2.out.2.1, hr1, m1b, HX.out⟩, tmu0 (by have := HB.out; omega)⟩)
      · have HA3 := Lib.hid (fun W (h : AS W gs s q) => aname_any gs q s W h m1b (by omega))
        have n1 := aname_le m1b
        have HAK := Lib.hid (fun h2 h3 => akStep_at (ks := ks) HSB.out HE1.out h2 h3)
        have HAG := Lib.hid (fun h2 => akStep_again (ks := ks) HSB.out HE1.out h2)
        have HAN := Lib.hid (fun h2 h3 => akStep_none (ks := ks) HSB.out HE1.out h2 h3)
        have c1 := HT2.out.2.1.c1
        go_wp2_with fail
        clear c1
        refine (HA3.out _ HT2.out.2.1).mono ?_
        intro en w3 h3
        unfold ANamePost at h3
        generalize hn : aname s q = n at *
        generalize hK : s.extract q n = K at *
        obtain ⟨rfl, ha, ho⟩ := h3
        have HN := Lib.hid (And.intro hn hK)
        have HT3 := Lib.hid (tst_scan HT2.out hr1 hg1 ho ha n1.2)
        have HO3 := Lib.hid (kr_blk HO2.out HT2.out.2.1 (by decide) ho)
        have HKS := Lib.hid (show K.size = n - q from by rw [← hK]; simp; omega)
        have HQN := Lib.hid n1
        clear ha ho hn hK n1
        have hgx3 := HT3.out.2.2.1.lt
        have hgs3 := HT3.out.2.1.lt
        have k1 : w3.cell? ⟨gx, 1, none⟩ = some (.slice Ak ks.length ck) := HT3.out.2.2.1.cell 1
        go_wp2_with fail
        clear k1
        have HT4 := Lib.hid (tst_alloc HT3.out (.cells #[.string K] 9))
        have HO4 := Lib.hid (kr_more HO3.out ((Below.refl _ w3).alloc (Nat.le_refl _) (.cells #[.string K] 9)))
        have HK4 := Lib.hid (Blk.new w3 9 #[.string K])
        have HZ4 := Lib.hid (show (w3.alloc (.cells #[.string K] 9)).heap.size = w3.heap.size + 1 by simp)
        generalize w3.alloc (.cells #[.string K] 9) = w4 at *
        refine (cont_any ks K w3.heap.size _ w4 (keys_own HO4.out.1) (by have := HL.out.2.2; omega) HK4.out.lt (HK4.out.cell 0)).mono ?_
        generalize hbk : w3.heap.size = bk at *
        rintro en w5 ⟨rfl, hb5⟩
        have HT5 := Lib.hid (tst_on HT4.out hb5)
        have HO5 := Lib.hid (kr_more HO4.out hb5)
        have HK5 := Lib.hid (HK4.out.below hb5 HK4.out.lt)
        clear hb5 hbk HK4 HO4 HT4 HO3 HT3 HZ4
        cases hany : ks.any fun x => decide (x.1 = K)
        · have HAN2 := Lib.hid (HAN.out hany)
          have HAK2 := Lib.hid (HAK.out hany)
          clear hany HAG HAN HAK
          have kc : w5.cell? ⟨bk, 0, none⟩ = some (.string K) := HK5.out.cell 0
          by_cases hnq : n = q
          · obtain rfl : K = ByteArray.empty := by
              have := HKS.out
              rw [hnq, Nat.sub_self] at this
              exact ByteArray.size_eq_zero_iff.1 this
            have HX := Lib.hid (show targetM g s = (ByteArray.empty, 230, (n : Int)) by rw [HM.out, akeysM_bad hp (HAN2.out hnq), hnq]; rfl)
            go_wp2
            refine wp_goto (show TJ g s w r 0 _ _ ∧ Tmu s 0 _ _ < bd from ⟨.inl ⟨rfl, gs, gx, _, _, n, tframe_of _ rfl rfl, HT5.out.1, HT5.out.2.1, hr1, HQN.out.2, HX.out⟩, tmu0 (by have := HB.out; omega)⟩)
          · have HAK3 := Lib.hid (HAK2.out hnq)
            have HME := Lib.hid (fun W (h : AS W gs s n) => must_any gs n s ⟨#[61]⟩ W h HQN.out.2 (by omega) (by decide))
            rcases e1 : mustM s n [61] with ⟨t, b2⟩
            have m2 := mustM_le s [61] n HQN.out.2
            rw [e1] at m2
            obtain ⟨m2a, m2b, m2c⟩ := m2
            simp only at m2a m2b m2c
            have HM2 := Lib.hid m2c
            have HE2 := Lib.hid e1
            have hk0 : ¬ K.toList = [] := by
              have h1 := HKS.out
              have h2 := HQN.out
              intro e
              rw [Lib.toList_data] at e
              have h3 : K.data.toList.length = K.size := by simp
              rw [e] at h3
              simp only [List.length_nil] at h3
              omega
            have hk1 : K.toList.isEmpty = false := by cases hh : K.toList with | nil => exact absurd hh hk0 | cons _ _ => rfl
            have hk2 : (K.toList == []) = false := by cases hh : K.toList with | nil => exact absurd hh hk0 | cons _ _ => rfl
            clear m2c e1 HAN2 HAK2
            go_wp2_with fail
            refine (HME.out _ HT5.out.2.1).mono ?_
            intro en w6 hm
            have hm2 : en = .returned (.bool b2) ∧ AS w6 gs s t ∧ Only gs w5 w6 := by
              unfold MustPost at hm
              rw [show mustM s n (⟨#[61]⟩ : ByteArray).data.toList = (t, b2) from HE2.out] at hm
              exact hm
            obtain ⟨rfl, ha, ho⟩ := hm2
            have HT6 := Lib.hid (tst_scan HT5.out hr1 hg1 ho ha m2b)
            have HO6 := Lib.hid (kr_blk HO5.out HT5.out.2.1 (by decide) ho)
            have HK6 := Lib.hid (HK5.out.grown ho (fun e => blk_other HK5.out HT5.out.2.1 (by decide) (by cases e; rfl)))
            clear ha ho hm kc HT5 HO5 HK5
            cases b2
            · have HX := Lib.hid (show targetM g s = (ByteArray.empty, 230, (t : Int)) by rw [HM.out, akeysM_bad hp (by rw [HAK3.out, HE2.out])]; rfl)
              go_wp2
              refine wp_goto (show TJ g s w r 0 _ _ ∧ Tmu s 0 _ _ < bd from ⟨.inl ⟨rfl, gs, gx, _, _, t, tframe_of _ rfl rfl, HT6.out.1, HT6.out.2.1, hr1, m2b, HX.out⟩, tmu0 (by have := HB.out; omega)⟩)
            · have HVA := Lib.hid (fun W (h : AS W gs s t) (hT : Tabs W) => avalue_any gs t s W h m2b (by omega) hT (by have := HR.out; omega))
              have HTB := Lib.hid (show Tabs w6 from tabs_only hT (Only.of_below (g := r) (HR.out ▸ HT6.out.1.2.1)) (by have := HR.out; omega))
              have v1 := avalueM_le (s := s) m2b
              rcases e3 : avalueM s t with ⟨z, o⟩
              rw [e3] at v1
              obtain ⟨v1a, v1b⟩ := v1
              simp only at v1a v1b
              have HE3 := Lib.hid e3
              clear e3
              go_wp2_with fail
              refine (HVA.out _ HT6.out.2.1 HTB.out).mono ?_
              intro en w7 hm
              have hm2 : (∃ v, en = .returned (.tuple #[.string v, .bool o.isSome]) ∧ ∀ x, o = some x → v = x) ∧ AS w7 gs s z ∧ Only gs w6 w7 := by
                unfold AValPost at hm
                rw [HE3.out] at hm
                exact hm
              obtain ⟨⟨v, rfl, hv⟩, ha, ho⟩ := hm2
              have HT7 := Lib.hid (tst_scan HT6.out hr1 hg1 ho ha v1b)
              have HO7 := Lib.hid (kr_blk HO6.out HT6.out.2.1 (by decide) ho)
              have HK7 := Lib.hid (HK6.out.grown ho (fun e => blk_other HK6.out HT6.out.2.1 (by decide) (by cases e; rfl)))
              clear ha ho hm HT6 HO6 HK6 HTB HVA
              cases o with
              | none =>
                have HX := Lib.hid (show targetM g s = (ByteArray.empty, 230, (z : Int)) by rw [HM.out, akeysM_bad hp (by rw [HAK3.out, HE2.out]; simp only; rw [HE3.out])]; rfl)
                clear hv
                simp only [Option.isSome_none]
                go_wp2
                refine wp_goto (show TJ g s w r 0 _ _ ∧ Tmu s 0 _ _ < bd from ⟨.inl ⟨rfl, gs, gx, _, _, z, tframe_of _ rfl rfl, HT7.out.1, HT7.out.2.1, hr1, v1b, HX.out⟩, tmu0 (by have := HB.out; omega)⟩)
              | some v' =>
                obtain rfl := hv v' rfl
                clear hv
                simp only [Option.isSome_some]
                have HMC := Lib.hid (fun W (h : AS W gs s z) => must_any gs z s ⟨#[93]⟩ W h v1b (by omega) (by decide))
                rcases e4 : mustM s z [93] with ⟨y, b3⟩
                have m3 := mustM_le s [93] z v1b
                rw [e4] at m3
                obtain ⟨m3a, m3b, m3c⟩ := m3
                simp only at m3a m3b m3c
                have HE4 := Lib.hid e4
                clear e4 m3c
                go_wp2_with fail
                refine (HMC.out _ HT7.out.2.1).mono ?_
                intro en w8 hm
                have hm2 : en = .returned (.bool b3) ∧ AS w8 gs s y ∧ Only gs w7 w8 := by
                  unfold MustPost at hm
                  rw [show mustM s z (⟨#[93]⟩ : ByteArray).data.toList = (y, b3) from HE4.out] at hm
                  exact hm
                obtain ⟨rfl, ha, ho⟩ := hm2
                have HT8 := Lib.hid (tst_scan HT7.out hr1 hg1 ho ha m3b)
                have HO8 := Lib.hid (kr_blk HO7.out HT7.out.2.1 (by decide) ho)
                have HK8 := Lib.hid (HK7.out.grown ho (fun e => blk_other HK7.out HT7.out.2.1 (by decide) (by cases e; rfl)))
                clear ha ho hm HT7 HO7 HK7 HMC
                cases b3
                · have HX := Lib.hid (show targetM g s = (ByteArray.empty, 230, (y : Int)) by rw [HM.out, akeysM_bad hp (by rw [HAK3.out, HE2.out]; simp only; rw [HE3.out]; simp only; rw [HE4.out])]; rfl)
                  go_wp2
                  refine wp_goto (show TJ g s w r 0 _ _ ∧ Tmu s 0 _ _ < bd from ⟨.inl ⟨rfl, gs, gx, _, _, y, tframe_of _ rfl rfl, HT8.out.1, HT8.out.2.1, hr1, m3b, HX.out⟩, tmu0 (by have := HB.out; omega)⟩)
                · have HST := Lib.hid (show akStep s p ks = .ok (some ((K, v), y)) by rw [HAK3.out, HE2.out]; simp only; rw [HE3.out]; simp only; rw [HE4.out])
                  have HX := Lib.hid (show targetM g s = keyM s nm L (akeysM s y (ks ++ [(K, v)])) by rw [HM.out, akeysM_some hp HST.out])
                  have HIN := Lib.hid (akStep_some hp HST.out)
                  obtain ⟨i0, hi0, hz0, hz1, hz2⟩ := info_parts pair_info
                  have HT9 := Lib.hid (tst_alloc HT8.out (.cells #[.string K, .string v] 33))
                  have HO9 := Lib.hid (kr_more HO8.out ((Below.refl _ w8).alloc (Nat.le_refl _) (.cells #[.string K, .string v] 33)))
                  have HAR := Lib.hid (reads_new w8 #[.string K, .string v] 33 2 1 rfl)
                  have k1 : w8.cell? ⟨gx, 1, none⟩ = some (.slice Ak ks.length ck) := HT8.out.2.2.1.cell 1
                  have k2 : w8.cell? ⟨bk, 0, none⟩ = some (.string K) := HK8.out.cell 0
                  have HBS := Lib.hid HO9.out.2
                  have hkn : ks.length ≤ 1048576 := by have := HL.out.2.2; omega
                  have e0 := hgx3
                  go_wp2_with (at_builtin; go_loud (refine wpList_append_any _ rfl (.tmp 100) (.tmp 104) _ rfl B 33 i0 _ 2 32 Tryz.underlying22 hi0 hz0 hz1 hz2 rfl (by omega) _ ks.length (pairCells ks) rfl HO9.out.1 (w8.heap.size + 1) (some ⟨w8.heap.size, 0, none⟩) 1 1 [.string K, .string v] rfl HAR.out (by simp [Value.oneCell']) (by simp only [maxLen]; omega) (by omega) HBS.out ?_); intro v5 w10 hown5 hg5 hat5; obtain ⟨A5, c5, rfl, -, -, -⟩ := own_form hown5; have HT10 := Lib.hid (tst_keys HT9.out HO9.out.1 HO.out.2.1 HO.out.2.2 hr1 hg1 hx1 hg5); have HO10 := Lib.hid (show KR w10 B (.slice A5 (ks.length + 1) c5) (ks ++ [(K, v)]) from ⟨by simpa [pairCells] using hown5, Nat.le_trans HBS.out hg5.size⟩); clear hown5 hg5 hat5; have f1 := Blk.frozen HT10.out.2.2.1 1; have k3 : w10.cell? ⟨gx, 1, none⟩ = some (.slice Ak ks.length ck) := HT10.out.2.2.1.cell 1)
                  have HT11 := Lib.hid (tst_x1 HT10.out hx1 hg1 (.slice A5 (ks.length + 1) c5))
                  have HO11 := Lib.hid (kr_blk HO10.out HT10.out.2.2.1 (by decide) ((Only.refl gx w10).setCell (p := ⟨gx, 1, none⟩) (.inl rfl) (.slice A5 (ks.length + 1) c5)))
                  refine wp_goto (show TJ g s w r 3 _ _ ∧ Tmu s 3 _ _ < bd from ⟨.inr (.inr (.inr ⟨rfl, y, gs, gx, B, _, _, _, L, VS, nm, ks ++ [(K, v)], tframe_of _ rfl rfl, HT11.out, hr1, hg1, hx1, ?_, HL.out.2.1, HO11.out, HO.out.2.1, HO.out.2.2, ?_, ?_, ?_, hnm, HX.out⟩)), ?_⟩)
                  · have := HL.out.1; have := HIN.out.1; omega
                  · exact distK_snoc.2 ⟨HD.out.1, HIN.out.2.2.1⟩
                  · exact keySmall_snoc HD.out.2 ⟨HIN.out.2.2.2.1, HIN.out.2.2.2.2.1⟩
                  · have := HL.out.2.2; have := HIN.out.1; simp; omega
                  · rw [tmu_frame (tframe_of _ rfl rfl) HT11.out.2.1 (by decide)]
                    have := HB.out; have := HIN.out.1; omega
        · have HX := Lib.hid (show targetM g s = (ByteArray.empty, 230, (q : Int)) by rw [HM.out, akeysM_bad hp (HAG.out hany)]; rfl)
          clear hany
          have f1 := Blk.frozen HT5.out.2.1 1
          have c1 := HT5.out.2.1.c1
          have HT6 := Lib.hid (tst_at HT5.out hr1 hg1 m1b)
          go_wp2
          refine wp_goto (show TJ g s w r 0 _ _ ∧ Tmu s 0 _ _ < bd from ⟨.inl ⟨rfl, gs, gx, _, _, q, tframe_of _ rfl rfl, HT6.out.1, HT6.out.2.1, hr1, m1b, HX.out⟩, tmu0 (by have := HB.out; omega)⟩)
      -- END key
  · intro H3
    -- BEGIN step
    refine ⟨_, by simp only [findLabel]; rfl, fun bd a W hJ hb => ?_⟩
    obtain ⟨p, gs, gx, up, x1, x2, k, L, VS, hf, hT0, hr1, hg1, hx1, hL, hS, hM⟩ := tj2 hJ
    rw [tmu_frame hf hT0.2.1 (by decide)] at hb
    obtain ⟨u, rfl⟩ := hf
    obtain ⟨Au, cu, rfl, -, -, -⟩ := own_form hT0.2.2.2.1.2.1
    have hp := hT0.2.2.2.2.2
    have HNA := Lib.hid (aname_any gs p s W hT0.2.1 hp (by omega))
    have n1 := aname_le hp
    have HA := Lib.hid (astepsM_eq (up := L) hp)
    have HT := Lib.hid hT0
    have HL := Lib.hid (And.intro hL hS)
    have HM := Lib.hid hM
    have HB := Lib.hid hb
    clear hT0 hL hS hM hb hJ
    go_wp2_with fail
    refine HNA.out.mono ?_
    intro en w1 h3
    unfold ANamePost at h3
    generalize hn : aname s p = n at *
    generalize hK : s.extract p n = nm at *
    obtain ⟨rfl, ha, ho⟩ := h3
    have HN := Lib.hid (And.intro hn hK)
    have HT1 := Lib.hid (tst_scan HT.out hr1 hg1 ho ha n1.2)
    have HKS := Lib.hid (show nm.size = n - p from by rw [← hK]; simp; omega)
    have HPN := Lib.hid n1
    clear ha ho hn hK n1 HNA
    obtain ⟨b0, b1, b2, b3, b4, b5⟩ := HT1.out.2.2.1.two (.string nm)
    have HT2 := Lib.hid (tst_x HT1.out hx1 hg1 (.string nm) (.slice none 0 0))
    by_cases hnp : n = p
    · obtain rfl : nm = ByteArray.empty := by
        have := HKS.out
        rw [hnp, Nat.sub_self] at this
        exact ByteArray.size_eq_zero_iff.1 this
      have HX := Lib.hid (show targetM g s = (ByteArray.empty, 230, (n : Int)) by rw [HM.out, HA.out, if_pos hnp, hnp]; rfl)
      go_wp2
      refine wp_goto (show TJ g s w r 0 _ _ ∧ Tmu s 0 _ _ < bd from ⟨.inl ⟨rfl, gs, gx, _, _, n, tframe_of _ rfl rfl, HT2.out.1, HT2.out.2.1, hr1, HPN.out.2, HX.out⟩, tmu0 (by have := HB.out; omega)⟩)
    · have hk0 : ¬ nm.toList = [] := by
        have h1 := HKS.out
        have h2 := HPN.out
        intro e
        rw [Lib.toList_data] at e
        have h3 : nm.data.toList.length = nm.size := by simp
        rw [e] at h3
        simp only [List.length_nil] at h3
        omega
      have hk1 : nm.toList.isEmpty = false := by cases hh : nm.toList with | nil => exact absurd hh hk0 | cons _ _ => rfl
      have hk2 : (nm.toList == []) = false := by cases hh : nm.toList with | nil => exact absurd hh hk0 | cons _ _ => rfl
      have HX := Lib.hid (show targetM g s = keyM s nm L (akeysM s n []) by
        rw [HM.out, HA.out, if_neg hnp]
        unfold keyM
        cases akeysM s n [] with
        | error e => rfl
        | ok r =>
          obtain ⟨ks, q⟩ := r
          simp only
          split
          · rfl
          · split <;> rfl)
      go_wp2
      refine wp_label ?_
      rename_i hK
      refine hK _ _ ?_
      refine pass_in H3 rfl bd _ _ (.inr (.inr (.inr ⟨rfl, n, gs, gx, w1.heap.size, _, _, _, L, VS, nm, [], tframe_of _ rfl rfl, HT2.out, hr1, hg1, hx1, ?_, HL.out.2, ⟨World.ownsRow_nil _ _ _ _, by simp [World.setCell]⟩, HT1.out.1.2.2, fun i kv' k hi hk => (HT1.out.2.2.2.1.lt i kv' k hi hk).2, List.Pairwise.nil, (fun x hx => by cases hx), by simp, ?_, HX.out⟩))) ?_
      · have := HL.out.1; have := HPN.out; omega
      · have := HKS.out; have := HPN.out; omega
      · refine Nat.le_trans (Nat.le_of_eq (tmu_frame (g := g) (r := r) (gs := gs) (gx := gx) (p := n) (l := 3) (tframe_of _ rfl rfl) (by exact HT2.out.2.1) (by decide))) ?_
        have := HB.out; have := HPN.out; omega
    -- END step
  · intro H2
    -- BEGIN climb
    refine ⟨_, by simp only [findLabel]; rfl, fun bd a W hJ hb => ?_⟩
    obtain ⟨p, gs, gx, A, c, k, L, VS, hf, hT0, hr1, hg1, hx1, hLc, hcm, hlk, hS, hM⟩ := tj1 hJ
    rw [tmu_frame hf hT0.2.1 (by decide)] at hb
    obtain ⟨u, rfl⟩ := hf
    have hp := hT0.2.2.2.2.2
    have HA := Lib.hid (aclimbM_eq (up := L) (first := decide (k = 0)) hp)
    have HON := Lib.hid (on_any gs p s 46 W hT0.2.1 (by omega))
    have HT := Lib.hid hT0
    have HM := Lib.hid hM
    have HB := Lib.hid hb
    have HS := Lib.hid hS
    clear hT0 hM hb hJ hS
    by_cases hgo : (decide (k = 0) || standsB s p 46) = true
    · have HA2 := Lib.hid (HA.out.trans (if_pos hgo))
      have hk : k = 0 ∨ (((k : Int) == 0) = false ∧ standsB s p 46 = true) := by
        by_cases h : k = 0
        · exact .inl h
        · refine .inr ⟨by rw [beq_eq_false_iff_ne]; omega, ?_⟩
          simpa [h] using hgo
      clear hgo HA
      by_cases hL0 : L = []
      · subst hL0
        have HX := Lib.hid (show targetM g s = (ByteArray.empty, 230, (p : Int)) by rw [HM.out, HA2.out, if_pos rfl]; rfl)
        rcases hk with rfl | ⟨hk, hst⟩
        · go_wp2
          refine wp_goto (show TJ g s w r 0 _ _ ∧ Tmu s 0 _ _ < bd from ⟨.inl ⟨rfl, gs, gx, _, _, p, tframe_of _ rfl rfl, HT.out.1, HT.out.2.1, hr1, hp, HX.out⟩, tmu0 (by have := HB.out; omega)⟩)
        · rw [hst] at HON
          clear hst
          go_wp2_with fail
          refine HON.out.mono ?_
          rintro en w1 ⟨rfl, q1, rfl⟩
          have HT1 := Lib.hid (tst_drewN HT.out q1)
          generalize W.drewN q1 = w1 at *
          go_wp2
          refine wp_goto (show TJ g s w r 0 _ _ ∧ Tmu s 0 _ _ < bd from ⟨.inl ⟨rfl, gs, gx, _, _, p, tframe_of _ rfl rfl, HT1.out.1, HT1.out.2.1, hr1, hp, HX.out⟩, tmu0 (by have := HB.out; omega)⟩)
      · obtain ⟨m, hm⟩ : ∃ m, L.length = m + 1 := ⟨L.length - 1, by have := List.length_pos_iff.2 hL0; omega⟩
        have HDL := Lib.hid (show L.dropLast = L.take m by rw [List.dropLast_eq_take, hm]; rfl)
        have HLN := Lib.hid (show (L.take m).length = m by rw [List.length_take]; omega)
        have HMM := Lib.hid hm
        have hL1 : (((m : Int) + 1) == 0) = false := by rw [beq_eq_false_iff_ne]; omega
        have hmc : (m : Int) ≤ (c : Int) := by omega
        have hmc2 : (c : Int) ≤ 9223372036854775807 := by simp only [maxLen] at hcm; omega
        have hmc3 : (m : Int) ≤ 64 := by omega
        have hmk : m + 1 + k ≤ 64 := by omega
        have hk3 : (k : Int) ≤ 64 := by omega
        have HMU := Lib.hid (fun W (h : AS W gs s p) => must_any gs p s ⟨#[46, 46, 47]⟩ W h hp (by omega) (by decide))
        rcases e1 : mustM s p [46, 46, 47] with ⟨q, b1⟩
        have m1 := mustM_le s [46, 46, 47] p hp
        rw [e1] at m1
        obtain ⟨m1a, m1b, m1c⟩ := m1
        simp only at m1a m1b m1c
        have HM1 := Lib.hid m1c
        have HE1 := Lib.hid e1
        have HA3 := Lib.hid (show aclimbM s p L (decide (k = 0)) = if b1 = true then aclimbM s q (L.take m) false else .error q by
          rw [HA2.out, if_neg hL0, e1, HDL.out]
          cases b1 <;> rfl)
        rw [hm]
        clear e1 m1c hm hL0 HA2 hlk
        rcases hk with rfl | ⟨hk, hst⟩
        · have HT1 := HT
          generalize W = w1 at *
          go_wp2_with fail
          refine (HMU.out _ HT1.out.2.1).mono ?_
          intro en w2 hmm
          have hm2 : en = .returned (.bool b1) ∧ AS w2 gs s q ∧ Only gs w1 w2 := by
            unfold MustPost at hmm
            rw [show mustM s p (⟨#[46, 46, 47]⟩ : ByteArray).data.toList = (q, b1) from HE1.out] at hmm
            exact hmm
          obtain ⟨rfl, ha, ho⟩ := hm2
          have HT2 := Lib.hid (tst_scan HT1.out hr1 hg1 ho ha m1b)
          clear ha ho hmm
          cases b1
          · have HX := Lib.hid (show targetM g s = (ByteArray.empty, 230, (q : Int)) by rw [HM.out, HA3.out, if_neg (by simp)]; rfl)
            go_wp2
            refine wp_goto (show TJ g s w r 0 _ _ ∧ Tmu s 0 _ _ < bd from ⟨.inl ⟨rfl, gs, gx, _, _, q, tframe_of _ rfl rfl, HT2.out.1, HT2.out.2.1, hr1, m1b, HX.out⟩, tmu0 (by have := HB.out; omega)⟩)
          · have HX := Lib.hid (show targetM g s = tailM s (aclimbM s q (L.take m) false) by rw [HM.out, HA3.out, if_pos rfl])
            have HT3 := Lib.hid (tst_front HT2.out HMM.out)
            have hq3 : p < q := by have := HM1.out rfl; simp at this; omega
            go_wp2
            refine wp_goto (show TJ g s w r 1 _ _ ∧ Tmu s 1 _ _ < bd from ⟨.inr (.inl ⟨rfl, q, gs, gx, A, c, 0 + 1, L.take m, VS.take m, (by rw [HLN.out]; exact tframe_of _ rfl rfl), HT3.out, hr1, hg1, hx1, by rw [HLN.out]; omega, hcm, by rw [HLN.out]; omega, (fun st hst => HS.out st (List.mem_of_mem_take hst)), HX.out⟩), ?_⟩)
            refine Nat.lt_of_le_of_lt (Nat.le_of_eq (tmu_frame (g := g) (r := r) (gs := gs) (gx := gx) (p := q) (l := 1) (tframe_of _ rfl rfl) (by exact HT3.out.2.1) (by decide))) ?_
            have := HB.out; omega
        · rw [hst] at HON
          clear hst
          go_wp2_with fail
          refine HON.out.mono ?_
          rintro en w1 ⟨rfl, q1, rfl⟩
          have HT1 := Lib.hid (tst_drewN HT.out q1)
          generalize W.drewN q1 = w1 at *
          go_wp2_with fail
          refine (HMU.out _ HT1.out.2.1).mono ?_
          intro en w2 hmm
          have hm2 : en = .returned (.bool b1) ∧ AS w2 gs s q ∧ Only gs w1 w2 := by
            unfold MustPost at hmm
            rw [show mustM s p (⟨#[46, 46, 47]⟩ : ByteArray).data.toList = (q, b1) from HE1.out] at hmm
            exact hmm
          obtain ⟨rfl, ha, ho⟩ := hm2
          have HT2 := Lib.hid (tst_scan HT1.out hr1 hg1 ho ha m1b)
          clear ha ho hmm
          cases b1
          · have HX := Lib.hid (show targetM g s = (ByteArray.empty, 230, (q : Int)) by rw [HM.out, HA3.out, if_neg (by simp)]; rfl)
            go_wp2
            refine wp_goto (show TJ g s w r 0 _ _ ∧ Tmu s 0 _ _ < bd from ⟨.inl ⟨rfl, gs, gx, _, _, q, tframe_of _ rfl rfl, HT2.out.1, HT2.out.2.1, hr1, m1b, HX.out⟩, tmu0 (by have := HB.out; omega)⟩)
          · have HX := Lib.hid (show targetM g s = tailM s (aclimbM s q (L.take m) false) by rw [HM.out, HA3.out, if_pos rfl])
            have HT3 := Lib.hid (tst_front HT2.out HMM.out)
            have hq3 : p < q := by have := HM1.out rfl; simp at this; omega
            go_wp2
            refine wp_goto (show TJ g s w r 1 _ _ ∧ Tmu s 1 _ _ < bd from ⟨.inr (.inl ⟨rfl, q, gs, gx, A, c, k + 1, L.take m, VS.take m, (by rw [HLN.out]; exact tframe_of _ rfl rfl), HT3.out, hr1, hg1, hx1, by rw [HLN.out]; omega, hcm, by rw [HLN.out]; omega, (fun st hst => HS.out st (List.mem_of_mem_take hst)), HX.out⟩), ?_⟩)
            refine Nat.lt_of_le_of_lt (Nat.le_of_eq (tmu_frame (g := g) (r := r) (gs := gs) (gx := gx) (p := q) (l := 1) (tframe_of _ rfl rfl) (by exact HT3.out.2.1) (by decide))) ?_
            have := HB.out; omega
    · obtain ⟨hk0, hsb⟩ : decide (k = 0) = false ∧ standsB s p 46 = false := by simpa using hgo
      have HX := Lib.hid (show targetM g s = lastM (astepsM s p L) by rw [HM.out, HA.out, if_neg hgo]; rfl)
      have hk1 : ((k : Int) == 0) = false := by rw [beq_eq_false_iff_ne]; simp at hk0; omega
      rw [hsb] at HON
      clear hsb hgo hk0 HA
      go_wp2_with fail
      refine HON.out.mono ?_
      rintro en w1 ⟨rfl, q1, rfl⟩
      have HT1 := Lib.hid (tst_drewN HT.out q1)
      generalize W.drewN q1 = w1 at *
      go_wp2
      refine wp_label ?_
      rename_i hK
      refine hK _ _ ?_
      refine pass_in H2 rfl bd _ _ (.inr (.inr (.inl ⟨rfl, p, gs, gx, _, _, _, _, L, VS, tframe_of _ rfl rfl, HT1.out, hr1, hg1, hx1, by omega, HS.out, HX.out⟩))) ?_
      refine Nat.le_trans (Nat.le_of_eq (tmu_frame (g := g) (r := r) (gs := gs) (gx := gx) (p := p) (l := 2) (tframe_of _ rfl rfl) (by exact HT1.out.2.1) (by decide))) ?_
      exact HB.out
    -- END climb
  · intro H1
    -- BEGIN first
    have HT0 := Lib.hid (show TBase w r (w.alloc (.cells #[.int .i64 0, .int .i64 0] 43)) from by rw [HR.out]; exact ⟨Blk.new _ _ _, (Below.refl _ _).alloc (Nat.le_refl _) _, by simp⟩)
    go_wp2_with fail
    rw [← HR.out]
    generalize w.alloc (.cells #[.int .i64 0, .int .i64 0] 43) = w1 at *
    refine (parse_any g _ hg).mono ?_
    rintro en w2 ⟨hb2, h⟩
    have HT2 := Lib.hid (HT0.out.below hb2 HT0.out.2.2)
    rcases h with ⟨x, y, hE, rfl⟩ | ⟨l, v, hE, rfl, vs, hI⟩
    · have HM := Lib.hid (targetM_err (s := s) hE)
      simp only [spotV]
      go_upto_region 2 with (fail)
      have hx := parseM_err hE
      have hn := Blk.new w2 43 #[.int .i64 x, .int .i64 y]
      have HT3 := Lib.hid (HT2.out.alloc (.cells #[.int .i64 x, .int .i64 y] 43))
      generalize w2.alloc (.cells #[.int .i64 x, .int .i64 y] 43) = w3 at *
      have k0 : w3.cell? ⟨w2.heap.size, 0, none⟩ = some (.int .i64 x) := hn.cell 0
      have hx0 : (x == 0) = false := by rw [beq_eq_false_iff_ne]; omega
      have hx1 : ¬ x = 0 := by omega
      obtain ⟨b0, b1, b2, b3, b4, b5⟩ := HT3.out.1.two (.int .i64 2)
      clear hE hb2 hx hn
      go_wp2
      (try simp only [Exit.inBlock, Exit.then, jumpsQ])
      refine bodyPost_ret (target_result (HT3.out.done 2 0).1 rfl rfl) rfl ?_
      exact target_mk HR.out HM.out rfl (HT3.out.done 2 0).2
    · simp only [spotV]
      obtain ⟨A, c, rfl, hc1, hc2, -⟩ := own_form hI.2.1
      go_upto_region 2 with (fail)
      have HSM := Lib.hid (parseM_small hE)
      have hI1 := hI.only ((Only.refl r w2).alloc (.cells #[.int .i64 0, .int .i64 0] 43)) HT0.out.2.2
      have hn := Blk.new w2 43 #[.int .i64 0, .int .i64 0]
      have HT3 := Lib.hid (HT2.out.alloc (.cells #[.int .i64 0, .int .i64 0] 43))
      have HVB := Lib.hid (show ∀ k, (Value.slice A l.length c).ownBlock = some k → k < w2.heap.size from fun k hk => (hI.2.1.lt k hk).2)
      have HW3 := Lib.hid (show w2.heap.size + 1 = (w2.alloc (.cells #[.int .i64 0, .int .i64 0] 43)).heap.size by simp)
      generalize w2.alloc (.cells #[.int .i64 0, .int .i64 0] 43) = w3 at *
      have k0 : w3.cell? ⟨w2.heap.size, 0, none⟩ = some (.int .i64 0) := hn.cell 0
      have HI := Lib.hid (hI1.base HT0.out.2.2)
      have HE := Lib.hid hE
      clear hI hI1 hb2 hE hn
      by_cases h0 : l = []
      · subst h0
        have HM := Lib.hid (targetM_nil (s := s) HE.out)
        obtain ⟨b0, b1, b2, b3, b4, b5⟩ := HT3.out.1.two (.int .i64 2)
        go_wp2
        (try simp only [Exit.inBlock, Exit.then, jumpsQ])
        refine bodyPost_ret (target_result (HT3.out.done 2 0).1 rfl rfl) rfl ?_
        exact target_mk HR.out HM.out rfl (HT3.out.done 2 0).2
      · have HM := Lib.hid (targetM_ok (s := s) HE.out h0)
        have hl0 : 0 < l.length := List.length_pos_iff.2 h0
        have h01 : ((l.length : Int) == 0) = false := by rw [beq_eq_false_iff_ne]; omega
        clear h0
        have HT5 := Lib.hid (show TSt w r w3.heap.size (w3.heap.size + 1) s 0 l vs (.slice A l.length c) (.string ByteArray.empty) (.slice none 0 0) ((w3.alloc (.cells #[.string s, .int .i64 0] 74)).alloc (.cells #[.string ByteArray.empty, .slice none 0 0] 70)) from by
          have hb : Below w3.heap.size w3 ((w3.alloc (.cells #[.string s, .int .i64 0] 74)).alloc (.cells #[.string ByteArray.empty, .slice none 0 0] 70)) := ((Below.refl _ _).alloc (Nat.le_refl _) _).alloc (by simp) _
          have h2 := Blk.new (w3.alloc (.cells #[.string s, .int .i64 0] 74)) 70 #[.string ByteArray.empty, .slice none 0 0]
          rw [World.size_alloc] at h2
          refine ⟨HT3.out.below hb HT3.out.2.2, (Blk.new w3 74 #[.string s, .int .i64 0]).alloc _, h2, HI.out.only (Only.of_below (g := r) hb) (by omega), fun e => ?_, Nat.zero_le _⟩
          have h3 := HVB.out _ e
          have h4 := HW3.out
          omega)
        have hgr : r < w3.heap.size := by have := HT3.out.2.2; omega
        go_wp2
        refine wp_label ?_
        rename_i hK
        refine hK _ _ ?_
        refine pass_first H1 rfl _ _ (.inr (.inl ⟨rfl, 0, w3.heap.size, w3.heap.size + 1, A, c, 0, l, vs, tframe_of _ rfl rfl, HT5.out, hgr, by omega, by omega, hc1, hc2, by have := HSM.out.2.1; omega, fun st h => (HSM.out.1 st h).small, HM.out⟩))
    -- END first
end Go.Proofs.YtkfofdmcggoonaaGreatDoor
/-
  The walk of the alias laws' wakes. Condition: unicode/utf8's tables lie as their initialisers lay them.
-/
namespace Go.Proofs.YtkfofdmcggoonaaGreatDoor
open Go.RowKit

theorem tabs3 {w : World} (h : Tabs w) : 3 ≤ w.heap.size := by
  have h1 := (h.2 0 (by decide)).1
  have := World.block_lt_of_cell? _ _ h1
  simp at this; omega
theorem tabs_below {w w' : World} (h : Tabs w) (hb : Below w.heap.size w w') (h3 : 3 ≤ w.heap.size) : Tabs w' := tabs_only h (Only.of_below (g := 3) hb) (Nat.le_refl _)
set_option maxRecDepth 100000 in
theorem wakes_target : targetM ⟨#[109, 47, 119, 91, 116, 61, 115, 104, 111, 114, 116, 93]⟩ ⟨#[46, 46, 47, 119, 91, 64, 116, 61, 39, 119, 105, 100, 101, 39, 93]⟩ = (⟨#[109, 47, 119, 91, 116, 61, 119, 105, 100, 101, 93]⟩, 0, 0) := by kernel_rfl
theorem target_says {g s t : ByteArray} {x y : Int} {w w' : World} {en : Ending} (h : TargetPost g s w en w') (hR : targetM g s = (t, x, y)) : en = .returned (.tuple #[.string t, .agg #[.int .i64 x, .int .i64 y]]) ∧ Below w.heap.size w w' := by
  unfold TargetPost at h
  rw [hR] at h
  exact h
theorem awakes_any (w : World) (hT : Tabs w) (h3 : 3 ≤ w.heap.size) :
    Calls Tryz.prog 5 #[] w fun en w' => en = .returned (.bool true) ∧ Below w.heap.size w w' := by
  have HP := Lib.hid ((target_any ⟨#[109, 47, 119, 91, 116, 61, 115, 104, 111, 114, 116, 93]⟩ ⟨#[46, 46, 47, 119, 91, 64, 116, 61, 39, 119, 105, 100, 101, 39, 93]⟩ w (by decide) (by decide) hT h3).mono fun en w' h => show en = .returned (.tuple #[.string ⟨#[109, 47, 119, 91, 116, 61, 119, 105, 100, 101, 93]⟩, spotV 0 0]) ∧ Below w.heap.size w w' by
    unfold TargetPost at h
    rw [wakes_target] at h
    exact h)
  go_enter Tryz.func5, Tryz.ntmps5
  go_wp2_with fail
  refine HP.out.mono ?_
  rintro en w1 ⟨rfl, hB1⟩
  have HB1 := Lib.hid hB1
  clear hB1
  simp only [spotV]
  go_wp2
  go_ret
  exact ⟨rfl, HB1.out.trans ((Below.refl _ w1).alloc HB1.out.size _)⟩
end Go.Proofs.YtkfofdmcggoonaaGreatDoor
