/-
  The law LoadBack answers true for every bundle. No condition.
-/
import Derived.Test.YthdldooilcbmlaaGreatRows
import Derived.Test.YthdldooilcbmlaaGreatK18
import Derived.Test.YthdldooilcbmlaaGreatK12
import Derived.LoopTactic
import Derived.WalkKit
import Derived.Outline
import Derived.ProofKit
import Derived.OpenShut
import Derived.ShutString
import Derived.ChangeOld
import Derived.Below
import Derived.Deep.CondSized
namespace Go.Proofs.YthdldooilcbmlaaGreat.loadBack
open Go.ChangeShapes Go.WideShapes Go.ChangeAt Go.RowKit
open Go.ChangeMaps (open_string shut_string)
set_option linter.unusedVariables false

theorem own : ownKnob Tryz.prog.godebug = none := by kernel_rfl
theorem laidOut : laidOutB Tryz.prog = true := by kernel_rfl

set_option maxHeartbeats 16000000 in
set_option maxRecDepth 100000 in
theorem back_walk (v : Value) (l : List PStep) (vs : List Value) (w : World) (h : StepsR w v l vs) (hin : BunIn l) :
    Calls Tryz.prog 4 #[.agg #[v]] w fun en w' => en = .returned (.bool true) ∧ Below w.heap.size w w' := by
  have HS := Lib.hid h
  have HIN := Lib.hid hin
  obtain ⟨A, c, rfl, -, -, -, -, -⟩ := h
  obtain ⟨n, hn⟩ : ∃ n, l.length = n := ⟨_, rfl⟩
  rw [hn] at HS ⊢
  clear hn hin
  obtain ⟨W0, hW0⟩ : ∃ W0, w.alloc (.cells #[.slice A n c] 24) = W0 := ⟨_, rfl⟩
  have hb0 : Below w.heap.size w W0 := by rw [← hW0]; exact (Below.refl _ w).alloc (Nat.le_refl _) _
  have b0 : Blk W0 w.heap.size 24 #[.slice A n c] := by rw [← hW0]; exact Blk.new w _ _
  have HWK := Lib.hid (lwakes_any W0)
  have HB0 := Lib.hid hb0
  have HG0 := Lib.hid b0
  clear hb0 b0
  go_enter Tryz.func4, Tryz.ntmps4
  go_wp2_with fail
  refine HWK.out.mono ?_
  rintro en w1 ⟨rfl, hb1⟩
  have HB1 := Lib.hid (HB0.out.trans (hb1.mono HB0.out.size))
  have x0 : w1.cell? ⟨w.heap.size, 0, none⟩ = some (.slice A n c) := (HG0.out.below hb1 HG0.out.lt).cell 0
  have HSO := Lib.hid (some_any (.slice A n c) l vs w1 (HS.out.more HB1.out) HIN.out)
  clear hb1 hW0 HWK HB0 HG0
  go_wp2_with fail
  refine HSO.out.mono ?_
  rintro en w2 ⟨hb2, ⟨A1, n1, c1, A2, n2, c2, rfl⟩ | ⟨Ar, cr, r, us, Bo, d, rfl, hck, hfit, hown, hby⟩⟩
  · have HB2 := Lib.hid (HB1.out.trans (hb2.mono HB1.out.size))
    clear hb2 x0 HSO
    go_wp2
    go_ret
    exact ⟨rfl, HB2.out.alloc HB2.out.size _⟩
  · have HB2 := Lib.hid (HB1.out.trans (hb2.mono HB1.out.size))
    have HCK := Lib.hid (And.intro hck hfit)
    have hba := (Below.refl w2.heap.size w2).alloc (Nat.le_refl _) (.cells #[.slice Ar r.length cr] 24)
    obtain ⟨w3, hw3⟩ : ∃ w3, w2.alloc (.cells #[.slice Ar r.length cr] 24) = w3 := ⟨_, rfl⟩
    have HG3 := Lib.hid (show Blk w3 w2.heap.size 24 #[.slice Ar r.length cr] from by rw [← hw3]; exact Blk.new w2 _ _)
    rw [hw3] at hba
    have HB3 := Lib.hid (HB2.out.trans (hba.mono HB2.out.size))
    have HOW := Lib.hid ((hown.on hba))
    obtain ⟨Ab, cb, eb, hb1, hb2c, hb3⟩ := OB.form (show OB w3 _ _ _ _ from own_more hby hba)
    have hBo : Ab = Bo := by injection eb with h1 h2 h3; exact h1.symm
    have hdo : cb = d := by injection eb with h1 h2 h3; exact h3.symm
    subst hBo hdo
    clear eb
    obtain ⟨nr, hnr⟩ : ∃ nr, r.length = nr := ⟨_, rfl⟩
    obtain ⟨no, hno⟩ : ∃ no, (bytesB r).length = no := ⟨_, rfl⟩
    have HLD := Lib.hid (load_any Ab no cb (bytesB r) w3 hb3 hno (by rw [← hno]; exact hb1) hb2c)
    have HRB := Lib.hid hb3
    have HNR := Lib.hid hnr
    have HNO := Lib.hid hno
    rw [hnr] at HG3 hw3
    rw [hnr, hno]
    obtain ⟨gs, hgs⟩ : ∃ gs, w2.heap.size = gs := ⟨_, rfl⟩
    rw [hgs] at HG3
    clear hb2 x0 HSO hby hck hfit hown hba HB2 hb1 hb2c hb3 hno hnr
    go_upto_region 4 with (fail)
    (try rw [hgs])
    (try rw [hw3])
    clear hw3 hgs
    go_wp2_with fail
    refine HLD.out.mono ?_
    rintro en w4 h4
    obtain ⟨hb4, g, rfl, hl4, -⟩ := load_one HCK.out.1 rfl HCK.out.2 h4
    have HB4 := Lib.hid (HB3.out.trans (hb4.mono HB3.out.size))
    have HL4 := Lib.hid hl4
    have HBU := Lib.hid (lbundle_any hl4)
    have HG4 := Lib.hid (HG3.out.below hb4 HG3.out.lt)
    have HO4 := Lib.hid (HOW.out.on hb4)
    have HR4 := Lib.hid (show RB w4 w4.heap.size Ab (bytesB r) from Reads.more (Reads.below HRB.out hb4) hb4.size)
    clear h4 hb4 hl4 HLD HG3 HOW HRB
    go_wp2_with fail
    refine HBU.out.mono ?_
    rintro en w9 ⟨A10, c10, us2, rfl, ho10, hb10⟩
    have HB9 := Lib.hid (HB4.out.trans (hb10.mono HB4.out.size))
    have HEN := Lib.hid (bencode_any _ r us2 w9 ho10.steps (right_in HCK.out.1))
    have HR9 := Lib.hid (show RB w9 w9.heap.size Ab (bytesB r) from Reads.more (Reads.below HR4.out hb10) hb10.size)
    have HG9 := Lib.hid (HG4.out.below hb10 HG4.out.lt)
    have HO9 := Lib.hid (HO4.out.on hb10)
    have HL9 := Lib.hid (HL4.out.on hb10)
    rw [HNR.out] at HEN
    (try rw [HNR.out])
    clear ho10 hb10 HBU HR4 HG4 HO4 HL4
    go_wp2_with fail
    refine HEN.out.mono ?_
    rintro en w10 ⟨h10, hb10⟩
    obtain ⟨Ao, co, rfl, hro⟩ : ∃ Ao co, en = .returned (.tuple #[.slice Ao no co, .int .i64 0]) ∧ RB w10 w10.heap.size Ao (bytesB r) := by
      rcases h10 with ⟨h, -⟩ | ⟨-, h, -⟩ | ⟨-, -, v, rfl, ho⟩
      · exact absurd HCK.out.1 h
      · exact absurd HCK.out.2 (by omega)
      · obtain ⟨A, c, rfl, h1, h2, h3⟩ := ho.form
        exact ⟨A, c, by rw [HNO.out], h3⟩
    have HB10 := Lib.hid (HB9.out.trans (hb10.mono HB9.out.size))
    have HG10 := Lib.hid (HG9.out.below hb10 HG9.out.lt)
    have HO10 := Lib.hid (HO9.out.on hb10)
    have HL10 := Lib.hid (HL9.out.on hb10)
    have hcv1 := conv_rb (P := Tryz.prog) 27 9 5 co Tryz.underlying27 Tryz.underlying5 Tryz.underlying9 hro
    have hcv2 := conv_rb (P := Tryz.prog) 27 9 5 cb Tryz.underlying27 Tryz.underlying5 Tryz.underlying9 (RB.below HR9.out hb10)
    rw [HNO.out] at hcv1 hcv2
    obtain ⟨tx, htx⟩ : ∃ tx, str (bytesB r) = tx := ⟨_, rfl⟩
    rw [htx] at hcv1 hcv2
    have hte : (tx.toList == tx.toList) = true := by simp
    have x0 : w10.cell? ⟨gs, 0, none⟩ = some (.slice Ar nr cr) := HG10.out.cell 0
    clear h10 hb10 hro HEN htx HR9 HG9 HO9 HL9
    have hnr9 : (nr : Int) ≤ 513 := by have := (checkB_ok HCK.out.1).1; have := HNR.out; omega
    rw [HNR.out] at HO10
    go_wp2
    clear hcv1 hcv2 x0
    go_loopw [51] (fun iv W => ∃ j : Nat, iv = .int .i64 (j : Int) ∧ j ≤ nr ∧ Below w10.heap.size w10 W) (fun iv _ => nr - (Lib.intOf iv).toNat)
    case atStart => exact ⟨0, rfl, Nat.zero_le _, Below.refl _ _⟩
    case round =>
      obtain ⟨j, rfl, hj, hb⟩ := hrel
      have HB := Lib.hid hb
      clear hb
      by_cases hlt : j < nr
      · have hq1 : (j : Int) < (nr : Int) := by omega
        have hq0 : (0 : Int) ≤ (j : Int) := by omega
        obtain ⟨b, hb⟩ : ∃ b, r[j]? = some b := ⟨_, List.getElem?_eq_getElem (by rw [HNR.out]; exact hlt)⟩
        obtain ⟨kv, hkv⟩ : ∃ kv, us[j]? = some kv := ⟨_, List.getElem?_eq_getElem (by rw [HO10.out.2.1, HNR.out]; exact hlt)⟩
        have hvo := HO10.out.2.2 j b kv hb hkv
        obtain ⟨Av, cv, rfl, -, -, hvr⟩ := own_form hvo
        have hso := HO10.out.1
        rw [HNR.out] at hso
        obtain ⟨As, cs, es, -, -, hsr⟩ := own_form hso
        have hAs : As = Ar := by injection es with h1 h2 h3; exact h1.symm
        subst hAs
        clear es hso
        obtain ⟨bk, ok, rfl, hbk, hcl⟩ := (Reads.below hsr HB.out).spot (by omega) (by omega)
        have hst := stepCells_at r us j b _ hb hkv
        have z0 : wr.cell? ⟨bk, ok + j * 2, none⟩ = some (.string b.1) := hcl _ _ hst.1
        have z1 : wr.cell? ⟨bk, ok + j * 2 + 1, none⟩ = some (.slice Av b.2.length cv) := hcl _ _ hst.2
        obtain ⟨nv, hnv⟩ : ∃ nv, b.2.length = nv := ⟨_, rfl⟩
        have HNV := Lib.hid hnv
        have HVR := Lib.hid hvr
        rw [hnv] at z1 HVR
        obtain ⟨nm, hnm⟩ : ∃ nm, b.1 = nm := ⟨_, rfl⟩
        have HNM := Lib.hid hnm
        rw [hnm] at z0
        have hnv9 : (nv : Int) ≤ 16384 := by have := check_few HCK.out.1 b (List.mem_of_getElem? hb); omega
        have HBB := Lib.hid hb
        have hba := (Below.refl wr.heap.size wr).alloc (Nat.le_refl _) (.cells #[.string nm, .slice Av nv cv] 40)
        have HBA := Lib.hid (HB.out.trans (hba.mono HB.out.size))
        have HGK := Lib.hid (Blk.new wr 40 #[.string nm, .slice Av nv cv])
        clear hb hkv hvo hsr hcl hst hnv hnm hvr hba hbk
        go_upto_region 15 with (fail)
        clear z0 z1 HB
        generalize wr.alloc (.cells #[.string nm, .slice Av nv cv] 40) = w11 at *
        obtain ⟨gk, hgk⟩ : ∃ gk, wr.heap.size = gk := ⟨_, rfl⟩
        rw [hgk] at HGK
        (try rw [hgk])
        clear hgk
        have y0 : w11.cell? ⟨gk, 1, none⟩ = some (.slice Av nv cv) := HGK.out.cell 1
        go_wp2
        clear y0
        go_loopw [58] (fun iv W => ∃ q : Nat, iv = .int .i64 (q : Int) ∧ q ≤ nv ∧ Below w11.heap.size w11 W) (fun iv _ => nv - (Lib.intOf iv).toNat)
        case atStart => exact ⟨0, rfl, Nat.zero_le _, Below.refl _ _⟩
        case round =>
          obtain ⟨q, rfl, hq, hb⟩ := hrel
          have HB2 := Lib.hid hb
          have HBW := Lib.hid (HBA.out.trans (hb.mono HBA.out.size))
          clear hb
          by_cases hql : q < nv
          · have hr1 : (q : Int) < (nv : Int) := by omega
            have hr0 : (0 : Int) ≤ (q : Int) := by omega
            obtain ⟨x, hx⟩ : ∃ x, b.2[q]? = some x := ⟨_, List.getElem?_eq_getElem (by rw [HNV.out]; exact hql)⟩
            obtain ⟨bv2, ov, rfl, hbv, hcl⟩ := (Reads.below HVR.out HBW.out).spot (by omega) (by omega)
            have hpc := pairCells_at b.2 q x hx
            have z0 : wr.cell? ⟨bv2, ov + q * 2, none⟩ = some (.string x.1) := hcl _ _ hpc.1
            have z1 : wr.cell? ⟨bv2, ov + q * 2 + 1, none⟩ = some (.string x.2) := hcl _ _ hpc.2
            have hfd : findB r nm x.1 = (x.2, true) := by
              obtain ⟨-, c2, c3⟩ := checkB_ok HCK.out.1
              exact findB_some c2 HBB.out HNM.out (c3 b (List.mem_of_getElem? HBB.out)).2.1 hx rfl
            have hxs : x.1.size ≤ 140737488355328 := (((right_in HCK.out.1).2 b (List.mem_of_getElem? HBB.out)).2.1 x (List.mem_of_getElem? hx)).1
            have hba := (Below.refl wr.heap.size wr).alloc (Nat.le_refl _) (.cells #[.string x.1, .string x.2] 42)
            have HBV := Lib.hid (HB2.out.trans (hba.mono HB2.out.size))
            have HGV := Lib.hid (Blk.new wr 42 #[.string x.1, .string x.2])
            have HDR := Lib.hid (direct_any (HL10.out.on (HBA.out.trans (HBV.out.mono HBA.out.size))) nm x.1 hxs)
            unfold DirPost at HDR
            rw [hfd] at HDR
            simp only at HDR
            have HGK2 := Lib.hid (HGK.out.below HBV.out HGK.out.lt)
            clear hx hcl hpc hfd hba hbv hxs
            obtain ⟨xp, hxp⟩ : ∃ xp, x.1 = xp := ⟨_, rfl⟩
            obtain ⟨xt, hxt⟩ : ∃ xt, x.2 = xt := ⟨_, rfl⟩
            rw [hxp] at z0 HBV HGV HDR HGK2
            rw [hxt] at z1 HBV HGV HDR HGK2
            clear hxp hxt
            go_upto_region 18 with (fail)
            clear z0 z1 HB2 HBW
            generalize wr.alloc (.cells #[.string xp, .string xt] 42) = w12 at *
            obtain ⟨gv, hgv⟩ : ∃ gv, wr.heap.size = gv := ⟨_, rfl⟩
            rw [hgv] at HGV
            (try rw [hgv])
            clear hgv
            have y0 : w12.cell? ⟨gk, 0, none⟩ = some (.string nm) := HGK2.out.cell 0
            have y1 : w12.cell? ⟨gv, 0, none⟩ = some (.string xp) := HGV.out.cell 0
            go_wp2_with fail
            refine HDR.out.mono ?_
            rintro en w13 ⟨rfl, hb13⟩
            have HB13 := Lib.hid (HBV.out.trans (hb13.mono HBV.out.size))
            have y2 : w13.cell? ⟨gv, 1, none⟩ = some (.string xt) := (HGV.out.below hb13 HGV.out.lt).cell 1
            have hte2 : (xt.toList == xt.toList) = true := by simp
            clear hb13 y0 y1
            go_wp2
            go_roundw
            case rel => exact ⟨q + 1, by go_num, hql, HB13.out⟩
            case measure => simp [Lib.intOf] <;> omega
          · obtain rfl : nv = q := by omega
            have hr : ¬ (nv : Int) < (nv : Int) := by omega
            go_wp2
            go_roundw
            case rel => exact ⟨j + 1, by go_num, hlt, HBW.out⟩
            case measure => simp [Lib.intOf] <;> omega
      · obtain rfl : nr = j := by omega
        have hq : ¬ (nr : Int) < (nr : Int) := by omega
        go_wp2
        go_ret
        exact ⟨rfl, HB10.out.trans (HB.out.mono HB10.out.size)⟩
set_option maxRecDepth 100000 in
theorem walk {H : Type} {enc : TypeId × Value → H} (v0 : Value) (d0 : DataW H) (p0 : List MemPlace) (base0 : Nat) (w : World) (hv0 : Value.okWide Tryz.prog w .any base0 24 v0) (w0 : DataW.Trod enc Tryz.prog w 0 (fun _ => true) true 24 v0 d0 p0) (hwt0 : ∀ n ∈ d0.weights Tryz.prog 24, n ≤ 140737488351232) :
    Calls Tryz.prog 4 #[v0] w fun e w' => e = .returned (.bool true) ∧ Below w.heap.size w w' := by
  obtain ⟨u0, l0, vs0, rfl, hs0, hi0⟩ := open_bundle hv0 w0 hwt0
  exact back_walk u0 l0 vs0 w hs0 hi0

set_option maxRecDepth 100000 in
theorem contract (H : Type) (enc : TypeId × Value → H) (W : World) (base : Nat) (args : Array Value) (ds gs : List (DataW H)) (before : List MemPlace)
    (hval0 : ∀ (j : Nat) t v, Tryz.f4.params[j]? = some t → args[j]? = some v → Value.okWide Tryz.prog W .any base t v)
    (hW : DataW.Whole enc Tryz.prog Tryz.f4.params.toList Rows.loadBackSpec.vars false W args.toList ds gs before)
    (hsz0 : (DataW.weightsEach Tryz.prog (Tryz.f4.params.toList ++ Rows.loadBackSpec.plain.varTypes Tryz.prog) (ds ++ gs)).all (· ≤ reachBytes) = true) :
    Calls Tryz.prog 4 args W fun e W' => ∃ v, e = .returned v ∧ Rows.loadBackSpec.post enc Tryz.prog Tryz.f4 false true false false W args v W' := by
  have hval : ∀ (j : Nat) t v, Tryz.f4.params[j]? = some t → args[j]? = some v → Value.okWide Tryz.prog W .any base t v := hval0
  have hsz : (DataW.weightsEach Tryz.prog (Tryz.f4.params.toList ++ Rows.loadBackSpec.plain.varTypes Tryz.prog) (ds ++ gs)).all (· ≤ reachBytes) = true := hsz0
  have hW' := hW
  obtain ⟨p, q, hA0, hV, rfl, hfz, hnd⟩ := hW
  have hA : DataW.TrodAll enc Tryz.prog W 0 (fun _ => true) true Tryz.f4.params.toList args.toList ds p := hA0
  rw [Tryz.params4] at hA hval hsz
  obtain ⟨v0, vs0, d0, ds0, p0, q0, hargs, rfl, rfl, h0, r0⟩ := trodAll_cons hA
  obtain ⟨rfl, rfl, rfl⟩ := trodAll_nil r0
  obtain rfl : args = #[v0] := by cases args; simp_all
  obtain ⟨rfl, rfl⟩ := trodVars_none hV
  have k0 := h0
  have lt0 : ∀ x ∈ p0, x.block < W.heap.size := by obtain ⟨m, hm⟩ := k0; exact DataW.trod_lt m _ _ _ hm
  have hwt0 : ∀ n ∈ d0.weights Tryz.prog 24, n ≤ 140737488351232 := fun n hn => by
    have := of_decide_eq_true (List.all_eq_true.1 hsz _ (DataW.weights_mem_each (j := 0) (t := 24) rfl rfl n hn))
    simpa [reachBytes] using this
  clear hA0 hval0
  refine (walk v0 d0 p0 base W (hval 0 24 v0 rfl rfl) h0 hwt0).mono fun e W' ⟨he, bel⟩ => ?_
  subst he
  exact ⟨_, rfl, _, _, _, [], _, [], hW', trodAll_mk1 (shut_bool Tryz.underlying4 _), (trodAll_cons_mk (Below.trod laidOut (by kernel_rfl) (of_decide_eq_true (by kernel_rfl)) k0 bel lt0) trodAll_mk0), rfl, bel.frame _, fun h => by cases h⟩

set_option maxRecDepth 100000 in
theorem lifted (os : Os) (started : os.Started) (H : Type) (enc : TypeId × Value → H) :
    ReturnsInHanded {} Tryz.checked os 4 .any (Rows.loadBackSpec.pre6 enc Tryz.prog Tryz.f4 Rows.loadBackRow.domain false) (Rows.loadBackSpec.post enc Tryz.prog Tryz.f4 false true false false) := by
  refine returnsInHanded_of_change_sized (C := Tryz.checked) own started (by kernel_rfl) Tryz.func4
    (ChangeSpec.witness6 (enc := enc) (C := Tryz.checked) false ⟨#[], #[.agg #[.slice none 0 0]], []⟩ 8 (by kernel_rfl) (by kernel_rfl) (by kernel_rfl) (by kernel_rfl)) ?_
  intro W base args ds gs before hval hW _ hsz _
  exact contract H enc W base args ds gs before hval hW hsz

theorem over : Rows.loadBackRow.holds Tryz.pinned (OpenSpec.ofChange Rows.loadBackSpec) :=
  OpenClaim.holds_of_wide 4 Tryz.f4 rfl rfl rfl rfl rfl rfl rfl ⟨rfl, rfl, rfl, rfl, rfl⟩ rfl rfl rfl rfl rfl (by kernel_rfl) Tryz.func4 (by kernel_rfl)
    (of_decide_eq_true (by kernel_rfl)) (by unfold Func.isWrapper; first | (rw [if_pos (by decide +kernel)]; kernel_rfl) | (rw [if_neg (by decide +kernel)]; exact ⟨rfl, rfl⟩))
    (fun os started H enc _ => lifted os started H enc)

/-- The statement. -/
theorem proved : Rows.LoadBackSaid := over
#print axioms proved
end Go.Proofs.YthdldooilcbmlaaGreat.loadBack
