/-
  The law PoolTables answers true for every rows and every key. No condition.
-/
import Derived.Test.YtagekiaejhjpnaaRows
import Derived.Test.YtagekiaejhjpnaaPoolWakes
import Derived.Test.YtagekiaejhjpnaaPoolSeek
import Derived.Test.YtagekiaejhjpnaaPoolTable
import Derived.Test.YtagekiaejhjpnaaPoolCmpT
import Derived.Test.YtagekiaejhjpnaaPoolRows
import Derived.WalkKit
import Derived.Outline
import Derived.ProofKit
import Derived.OpenShut
import Derived.ShutString
import Derived.ChangeOld
import Derived.Below
import Derived.Deep.CondSized
namespace Go.Proofs.Ytagekiaejhjpnaa.poolTables
open Go.ChangeShapes Go.WideShapes Go.ChangeAt Go.RowKit
open Go.ChangeMaps (open_string shut_string)
set_option linter.unusedVariables false

theorem own : ownKnob Try.prog.godebug = none := by kernel_rfl
theorem laidOut : laidOutB Try.prog = true := by kernel_rfl

theorem seek_both {l : List RowI} {s v e k : Int} (h1 : SeekT l s v e) (h2 : SeekIs l s k) : (¬ RiseL kl l ∧ v = 0 ∧ e = 2) ∨ (RiseL kl l ∧ k = -1 ∧ v = 0 ∧ e = 4) ∨ (∃ (i : Nat) (y : RowI), RiseL kl l ∧ k = (i : Int) ∧ l[i]? = some y ∧ v = y.2 ∧ e = 0) := by
  rcases h1 with ⟨h, h3, h4⟩ | ⟨h, h3, h4, h5⟩ | ⟨h, h3, h4⟩
  · exact .inl ⟨h, h3, h4⟩
  · rcases h2 with ⟨i, x, rfl, hx, he, -⟩ | ⟨rfl, -⟩
    · exact absurd he (h3 x (List.mem_of_getElem? hx))
    · exact .inr (.inl ⟨h, rfl, h4, h5⟩)
  · rcases h2 with ⟨i, x, rfl, hx, he, -⟩ | ⟨rfl, hn⟩
    · refine .inr (.inr ⟨i, x, h, rfl, hx, ?_, h3⟩)
      rw [← kl_inj h h4 (List.mem_of_getElem? hx) he.symm]
    · exact absurd rfl (hn _ h4)
set_option maxRecDepth 100000 in
set_option maxHeartbeats 16000000 in
theorem tables_walk (v : Value) (l : List RowI) (key : Int) (w : World) (h : RowsR w w.heap.size v l) (hl8 : l.length * 8 ≤ 140737488351232) :
    Calls Try.prog 8 #[v, .int .u32 key] w fun en w' => en = .returned (.bool true) ∧ Below w.heap.size w w' := by
  have HW := Lib.hid (fun W => pwakes_any W)
  have HT := Lib.hid h
  obtain ⟨A, c, rfl, hc, hm, hR⟩ := h
  have HR := Lib.hid hR
  unfold maxLen at hm
  clear hR
  by_cases hgt : l.length > 300
  · have hg1 : (300 : Int) < (l.length : Int) := by omega
    go_enter Try.func8, Try.ntmps8
    go_wp2_with (go_at_call 9; refine (HW.out _).mono ?_; rintro en w1 ⟨rfl, hB1⟩; have HB := Lib.hid hB1; clear hB1)
    go_ret
    exact ⟨rfl, HB.out⟩
  · have hg1 : ¬ (300 : Int) < (l.length : Int) := by omega
    have hn1 : (l.length : Int) ≤ 300 := by omega
    have HRC := Lib.hid (rowCells_one (l := l))
    obtain ⟨i0, hi0, hz0, hz1, hz2⟩ := info_parts row_info
    clear hgt
    by_cases hP : RiseL kl (poolL rl l)
    · have HP := Lib.hid hP
      have hd : decide (RiseL kl (poolL rl l)) = true := by simpa using hP
      clear hP
      go_enter Try.func8, Try.ntmps8
      go_upto_region 5 with (go_at_call 9; refine (HW.out _).mono ?_; rintro en w1 ⟨rfl, hB1⟩; have HB1 := Lib.hid hB1; clear hB1)
      have HRA := Lib.hid (((HR.out.below HB1.out).more HB1.out.size).alloc (Nat.le_refl _) (.cells #[] 38))
      have HE1 := Lib.hid (own_empty w1 38 2)
      have HBA := Lib.hid ((Below.refl _ w1).alloc (Nat.le_refl _) (.cells #[] 38))
      go_upto_region 6 with (first | (go_at_call 24; go_loud (refine (ptable_ok ⟨k3, 0, none⟩ c3 l w3 (rows_of_own HO3.out) (by omega) HP.out).mono ?_; rintro en w4 ⟨⟨tv, rfl, hr4⟩, hb4⟩; have HR4 := Lib.hid hr4; have HB4 := Lib.hid (HB3.out.trans (hb4.mono HB3.out.size)); clear hr4 hb4)) | (at_builtin; go_loud (refine wpList_append_any _ rfl (.tmp 19) (.tmp 20) _ rfl w1.heap.size 38 i0 _ 2 8 Try.underlying33 hi0 hz0 hz1 hz2 rfl (by omega) _ 0 [] rfl HE1.out w1.heap.size A l.length c (rowCells l) rfl HRA.out HRC.out (by simp only [maxLen]; omega) (by omega) (by simp) ?_); intro v3 w3 hown3 hg3 hat3; have HO3 := Lib.hid (show w3.ownsRow w1.heap.size 38 2 v3 l.length (rowCells l) from by simpa using hown3); have HB3 := Lib.hid (HB1.out.trans ((HBA.out.grown hg3 (by simp) (fun g hg => (HE1.out.lt g hg).1)).mono HB1.out.size)); obtain ⟨k3, hk3⟩ := (show ∃ k, v3.ownBlock = some k from hat3.elim (fun e => ⟨_, e⟩) (fun e => ⟨_, e⟩)); obtain ⟨c3, rfl, -, -⟩ := own_some HO3.out hk3; clear hown3 hg3 hat3 hk3))
      have HTT := Lib.hid (reftable_any _ l w4 (HT.out.on HB4.out) (by omega))
      unfold RTabPost at HTT
      rw [hd] at HTT
      go_upto_region 7 with (go_at_call 25; go_loud (refine HTT.out.mono ?_; rintro en w5 ⟨⟨v5, rfl, hr5⟩, hb5⟩; have HR5 := Lib.hid (hr5 HP.out); have HR45 := Lib.hid (HR4.out.on hb5); have HB5 := Lib.hid (HB4.out.trans (hb5.mono HB4.out.size)); clear hr5 hb5))
      clear HTT
      go_upto_region 12 with (first
        | (go_at_call 20; go_loud (refine (pcompare_any _ _ _ _ _ HR45.out HR5.out).mono ?_; rintro en w6 ⟨he6, hg6⟩; rw [cmpT_self] at he6; subst he6; have HBC := Lib.hid hg6.below; have HB6a := Lib.hid (HB5.out.trans (hg6.below.mono HB5.out.size)); clear hg6))
        | (go_at_call 21; go_loud (refine (refcompare_any _ _ _ _ _ (HR45.out.on HBC.out) (HR5.out.on HBC.out)).mono ?_; rintro en wz ⟨v, q, rfl, hv, hwz⟩; rw [cmpT_self] at hv; subst hv; have HB6 := Lib.hid (show Below w.heap.size w wz from hwz ▸ below_drewN HB6a.out _); clear hwz)))
      go_upto_region 13 with (go_at_call 26; go_loud (refine (pseek_any _ l key _ (HT.out.on HB6.out) (by omega)).mono ?_; rintro en w7 ⟨⟨sv, se, rfl, hS⟩, hb7⟩; have HS := Lib.hid hS; have HB7 := Lib.hid (HB6.out.trans (hb7.mono HB6.out.size)); clear hS hb7))
      go_upto_region 14 with (go_at_call 19; go_loud (refine (refseek_any _ l key _ (HT.out.on HB7.out)).mono ?_; rintro en w8 ⟨v8, q8, rfl, ⟨k, rfl, hK⟩, hw8⟩; have HB8 := Lib.hid (show Below w.heap.size w w8 from hw8 ▸ below_drewN HB7.out _); have HK := Lib.hid hK; clear hK hw8))
      have HRO := Lib.hid (HR.out.below HB8.out)
      rcases seek_both HS.out HK.out with ⟨hr, rfl, rfl⟩ | ⟨hr, rfl, rfl, rfl⟩ | ⟨i, y, hr, rfl, hy, rfl, rfl⟩
      · have hda : decide (RiseL kl l) = false := by simpa using hr
        clear hr
        go_wp2_with (first
          | (go_at_call 18; go_loud (refine (refis_any _ l _ (HT.out.on HB8.out)).mono ?_; rintro en W ⟨v, q, rfl, hv, hw9⟩; rw [hda] at hv; subst hv; have HB9 := Lib.hid (show Below w.heap.size w W from hw9 ▸ below_drewN HB8.out _); clear hw9))
          | (go_at_call 27; go_loud (refine (istable_any _ l _ (HT.out.on HB9.out)).mono ?_; rintro en W ⟨v, q, rfl, hv, hw10⟩; rw [hda] at hv; subst hv; have HB10 := Lib.hid (show Below w.heap.size w W from hw10 ▸ below_drewN HB9.out _); clear hw10)))
        go_ret
        exact ⟨rfl, HB10.out⟩
      · have hda : decide (RiseL kl l) = true := by simpa using hr
        clear hr
        go_wp2_with (first
          | (go_at_call 18; go_loud (refine (refis_any _ l _ (HT.out.on HB8.out)).mono ?_; rintro en W ⟨v, q, rfl, hv, hw9⟩; rw [hda] at hv; subst hv; have HB9 := Lib.hid (show Below w.heap.size w W from hw9 ▸ below_drewN HB8.out _); clear hw9))
          | (go_at_call 27; go_loud (refine (istable_any _ l _ (HT.out.on HB9.out)).mono ?_; rintro en W ⟨v, q, rfl, hv, hw10⟩; rw [hda] at hv; subst hv; have HB10 := Lib.hid (show Below w.heap.size w W from hw10 ▸ below_drewN HB9.out _); clear hw10)))
        go_ret
        exact ⟨rfl, HB10.out⟩
      · have hda : decide (RiseL kl l) = true := by simpa using hr
        have hil : i < l.length := (List.getElem?_eq_some_iff.1 hy).1
        have hi2 : (i : Int) < (l.length : Int) := by omega
        have hi3 : ¬ (i : Int) < 0 := by omega
        have hi4 : (0 : Int) ≤ (i : Int) := by omega
        have hi5 : (i : Int).toNat = i := by omega
        obtain ⟨b2, o2, rfl, hb2, hcl2⟩ := HRO.out.spot (by omega) (by omega)
        have HR2 := Lib.hid (hcl2 _ _ (rowCells_at hy).2)
        clear hr hcl2 hy
        go_upto_region 15 with (go_at_call 18; go_loud (refine (refis_any _ l _ (HT.out.on HB8.out)).mono ?_; rintro en W ⟨v, q, rfl, hv, hw9⟩; rw [hda] at hv; subst hv; have HB9 := Lib.hid (show Below w.heap.size w W from hw9 ▸ below_drewN HB8.out _); have HR3 := Lib.hid (show W.cell? ⟨b2, o2 + i * 2 + 1, none⟩ = some (.int .u32 y.2) from hw9 ▸ HR2.out); clear hw9))
        go_upto_region 17 with (go_at_call 27; go_loud (refine (istable_any _ l _ (HT.out.on HB9.out)).mono ?_; rintro en W ⟨v, q, rfl, hv, hw10⟩; rw [hda] at hv; subst hv; have HB10 := Lib.hid (show Below w.heap.size w W from hw10 ▸ below_drewN HB9.out _); have r3 : W.cell? ⟨b2, o2 + i * 2 + 1, none⟩ = some (.int .u32 y.2) := hw10 ▸ HR3.out; clear hw10))
        go_wp2
        go_ret
        exact ⟨rfl, HB10.out⟩
    · have HP := Lib.hid hP
      have hd : decide (RiseL kl (poolL rl l)) = false := by simpa using hP
      clear hP
      go_enter Try.func8, Try.ntmps8
      go_upto_region 5 with (go_at_call 9; refine (HW.out _).mono ?_; rintro en w1 ⟨rfl, hB1⟩; have HB1 := Lib.hid hB1; clear hB1)
      have HRA := Lib.hid (((HR.out.below HB1.out).more HB1.out.size).alloc (Nat.le_refl _) (.cells #[] 38))
      have HE1 := Lib.hid (own_empty w1 38 2)
      have HBA := Lib.hid ((Below.refl _ w1).alloc (Nat.le_refl _) (.cells #[] 38))
      go_upto_region 6 with (first | (go_at_call 24; go_loud (refine (ptable_no ⟨k3, 0, none⟩ c3 l w3 (rows_of_own HO3.out) (by omega) HP.out).mono ?_; rintro en w4 ⟨rfl, hb4⟩; have HB4 := Lib.hid (HB3.out.trans (hb4.mono HB3.out.size)); clear hb4)) | (at_builtin; go_loud (refine wpList_append_any _ rfl (.tmp 19) (.tmp 20) _ rfl w1.heap.size 38 i0 _ 2 8 Try.underlying33 hi0 hz0 hz1 hz2 rfl (by omega) _ 0 [] rfl HE1.out w1.heap.size A l.length c (rowCells l) rfl HRA.out HRC.out (by simp only [maxLen]; omega) (by omega) (by simp) ?_); intro v3 w3 hown3 hg3 hat3; have HO3 := Lib.hid (show w3.ownsRow w1.heap.size 38 2 v3 l.length (rowCells l) from by simpa using hown3); have HB3 := Lib.hid (HB1.out.trans ((HBA.out.grown hg3 (by simp) (fun g hg => (HE1.out.lt g hg).1)).mono HB1.out.size)); obtain ⟨k3, hk3⟩ := (show ∃ k, v3.ownBlock = some k from hat3.elim (fun e => ⟨_, e⟩) (fun e => ⟨_, e⟩)); obtain ⟨c3, rfl, -, -⟩ := own_some HO3.out hk3; clear hown3 hg3 hat3 hk3))
      have HTT := Lib.hid (reftable_any _ l w4 (HT.out.on HB4.out) (by omega))
      unfold RTabPost at HTT
      rw [hd] at HTT
      go_upto_region 7 with (go_at_call 25; go_loud (refine HTT.out.mono ?_; rintro en w5 ⟨⟨v5, rfl, -⟩, hb5⟩; have HB6 := Lib.hid (HB4.out.trans (hb5.mono HB4.out.size)); clear hb5))
      clear HTT
      go_upto_region 12 with (fail)
      go_upto_region 13 with (go_at_call 26; go_loud (refine (pseek_any _ l key _ (HT.out.on HB6.out) (by omega)).mono ?_; rintro en w7 ⟨⟨sv, se, rfl, hS⟩, hb7⟩; have HS := Lib.hid hS; have HB7 := Lib.hid (HB6.out.trans (hb7.mono HB6.out.size)); clear hS hb7))
      go_upto_region 14 with (go_at_call 19; go_loud (refine (refseek_any _ l key _ (HT.out.on HB7.out)).mono ?_; rintro en w8 ⟨v8, q8, rfl, ⟨k, rfl, hK⟩, hw8⟩; have HB8 := Lib.hid (show Below w.heap.size w w8 from hw8 ▸ below_drewN HB7.out _); have HK := Lib.hid hK; clear hK hw8))
      have HRO := Lib.hid (HR.out.below HB8.out)
      rcases seek_both HS.out HK.out with ⟨hr, rfl, rfl⟩ | ⟨hr, rfl, rfl, rfl⟩ | ⟨i, y, hr, rfl, hy, rfl, rfl⟩
      · have hda : decide (RiseL kl l) = false := by simpa using hr
        clear hr
        go_wp2_with (first
          | (go_at_call 18; go_loud (refine (refis_any _ l _ (HT.out.on HB8.out)).mono ?_; rintro en W ⟨v, q, rfl, hv, hw9⟩; rw [hda] at hv; subst hv; have HB9 := Lib.hid (show Below w.heap.size w W from hw9 ▸ below_drewN HB8.out _); clear hw9))
          | (go_at_call 27; go_loud (refine (istable_any _ l _ (HT.out.on HB9.out)).mono ?_; rintro en W ⟨v, q, rfl, hv, hw10⟩; rw [hda] at hv; subst hv; have HB10 := Lib.hid (show Below w.heap.size w W from hw10 ▸ below_drewN HB9.out _); clear hw10)))
        go_ret
        exact ⟨rfl, HB10.out⟩
      · have hda : decide (RiseL kl l) = true := by simpa using hr
        clear hr
        go_wp2_with (first
          | (go_at_call 18; go_loud (refine (refis_any _ l _ (HT.out.on HB8.out)).mono ?_; rintro en W ⟨v, q, rfl, hv, hw9⟩; rw [hda] at hv; subst hv; have HB9 := Lib.hid (show Below w.heap.size w W from hw9 ▸ below_drewN HB8.out _); clear hw9))
          | (go_at_call 27; go_loud (refine (istable_any _ l _ (HT.out.on HB9.out)).mono ?_; rintro en W ⟨v, q, rfl, hv, hw10⟩; rw [hda] at hv; subst hv; have HB10 := Lib.hid (show Below w.heap.size w W from hw10 ▸ below_drewN HB9.out _); clear hw10)))
        go_ret
        exact ⟨rfl, HB10.out⟩
      · have hda : decide (RiseL kl l) = true := by simpa using hr
        have hil : i < l.length := (List.getElem?_eq_some_iff.1 hy).1
        have hi2 : (i : Int) < (l.length : Int) := by omega
        have hi3 : ¬ (i : Int) < 0 := by omega
        have hi4 : (0 : Int) ≤ (i : Int) := by omega
        have hi5 : (i : Int).toNat = i := by omega
        obtain ⟨b2, o2, rfl, hb2, hcl2⟩ := HRO.out.spot (by omega) (by omega)
        have HR2 := Lib.hid (hcl2 _ _ (rowCells_at hy).2)
        clear hr hcl2 hy
        go_upto_region 15 with (go_at_call 18; go_loud (refine (refis_any _ l _ (HT.out.on HB8.out)).mono ?_; rintro en W ⟨v, q, rfl, hv, hw9⟩; rw [hda] at hv; subst hv; have HB9 := Lib.hid (show Below w.heap.size w W from hw9 ▸ below_drewN HB8.out _); have HR3 := Lib.hid (show W.cell? ⟨b2, o2 + i * 2 + 1, none⟩ = some (.int .u32 y.2) from hw9 ▸ HR2.out); clear hw9))
        go_upto_region 17 with (go_at_call 27; go_loud (refine (istable_any _ l _ (HT.out.on HB9.out)).mono ?_; rintro en W ⟨v, q, rfl, hv, hw10⟩; rw [hda] at hv; subst hv; have HB10 := Lib.hid (show Below w.heap.size w W from hw10 ▸ below_drewN HB9.out _); have r3 : W.cell? ⟨b2, o2 + i * 2 + 1, none⟩ = some (.int .u32 y.2) := hw10 ▸ HR3.out; clear hw10))
        go_wp2
        go_ret
        exact ⟨rfl, HB10.out⟩
set_option maxRecDepth 100000 in
theorem walk {H : Type} {enc : TypeId × Value → H} (v0 : Value) (d0 : DataW H) (p0 : List MemPlace) (base0 : Nat) (a1 : Int) (w : World) (hv0 : Value.okWide Try.prog w .any base0 33 v0) (w0 : DataW.Trod enc Try.prog w 0 (fun _ => true) true 33 v0 d0 p0) (hwt0 : ∀ n ∈ d0.weights Try.prog 33, n ≤ 140737488351232) (w1 : (Lit.int .u32 a1).wf = true) :
    Calls Try.prog 8 #[v0, .int .u32 a1] w fun e w' => e = .returned (.bool true) ∧ Below w.heap.size w w' := by
  obtain ⟨l0, ht0, -, hn0⟩ := rows_of_trod (e := 38) Try.underlying33 Try.underlying38 (by kernel_rfl) (by kernel_rfl) (by kernel_rfl) Try.underlying36 Try.underlying36 hwt0 hv0 w0
  exact tables_walk v0 l0 a1 w ht0 hn0

set_option maxRecDepth 100000 in
theorem contract (H : Type) (enc : TypeId × Value → H) (W : World) (base : Nat) (args : Array Value) (ds gs : List (DataW H)) (before : List MemPlace)
    (hval0 : ∀ (j : Nat) t v, Try.f8.params[j]? = some t → args[j]? = some v → Value.okWide Try.prog W .any base t v)
    (hW : DataW.Whole enc Try.prog Try.f8.params.toList Rows.poolTablesSpec.vars false W args.toList ds gs before)
    (hsz0 : (DataW.weightsEach Try.prog (Try.f8.params.toList ++ Rows.poolTablesSpec.plain.varTypes Try.prog) (ds ++ gs)).all (· ≤ reachBytes) = true) :
    Calls Try.prog 8 args W fun e W' => ∃ v, e = .returned v ∧ Rows.poolTablesSpec.post enc Try.prog Try.f8 false true false false W args v W' := by
  have hval : ∀ (j : Nat) t v, Try.f8.params[j]? = some t → args[j]? = some v → Value.okWide Try.prog W .any base t v := hval0
  have hsz : (DataW.weightsEach Try.prog (Try.f8.params.toList ++ Rows.poolTablesSpec.plain.varTypes Try.prog) (ds ++ gs)).all (· ≤ reachBytes) = true := hsz0
  have hW' := hW
  obtain ⟨p, q, hA0, hV, rfl, hfz, hnd⟩ := hW
  have hA : DataW.TrodAll enc Try.prog W 0 (fun _ => true) true Try.f8.params.toList args.toList ds p := hA0
  rw [Try.params8] at hA hval hsz
  obtain ⟨v0, vs0, d0, ds0, p0, q0, hargs, rfl, rfl, h0, r0⟩ := trodAll_cons hA
  obtain ⟨v1, vs1, d1, ds1, p1, q1, rfl, rfl, rfl, h1, r1⟩ := trodAll_cons r0
  obtain ⟨rfl, rfl, rfl⟩ := trodAll_nil r1
  obtain rfl : args = #[v0, v1] := by cases args; simp_all
  obtain ⟨rfl, rfl⟩ := trodVars_none hV
  have k0 := h0
  have lt0 : ∀ x ∈ p0, x.block < W.heap.size := by obtain ⟨m, hm⟩ := k0; exact DataW.trod_lt m _ _ _ hm
  have hwt0 : ∀ n ∈ d0.weights Try.prog 33, n ≤ 140737488351232 := fun n hn => by
    have := of_decide_eq_true (List.all_eq_true.1 hsz _ (DataW.weights_mem_each (j := 0) (t := 33) rfl rfl n hn))
    simpa [reachBytes] using this
  obtain ⟨a1, rfl, rfl, rfl, w1⟩ := open_int Try.underlying36 (hval 1 36 v1 rfl rfl) h1
  clear hA0 hval0
  refine (walk v0 d0 p0 base a1 W (hval 0 33 v0 rfl rfl) h0 hwt0 w1).mono fun e W' ⟨he, bel⟩ => ?_
  subst he
  exact ⟨_, rfl, _, _, _, [], _, [], hW', trodAll_mk1 (shut_bool Try.underlying4 _), (trodAll_cons_mk (Below.trod laidOut (by kernel_rfl) (of_decide_eq_true (by kernel_rfl)) k0 bel lt0) (trodAll_cons_mk (shut_int Try.underlying36 w1) trodAll_mk0)), rfl, bel.frame _, fun h => by cases h⟩

set_option maxRecDepth 100000 in
theorem lifted (os : Os) (started : os.Started) (H : Type) (enc : TypeId × Value → H) :
    ReturnsInHanded {} Try.checked os 8 .any (Rows.poolTablesSpec.pre6 enc Try.prog Try.f8 Rows.poolTablesRow.domain false) (Rows.poolTablesSpec.post enc Try.prog Try.f8 false true false false) := by
  refine returnsInHanded_of_change_sized (C := Try.checked) own started (by kernel_rfl) Try.func8
    (ChangeSpec.witness6 (enc := enc) (C := Try.checked) false ⟨#[], #[.slice none 0 0, .int .u32 0], []⟩ 8 (by kernel_rfl) (by kernel_rfl) (by kernel_rfl) (by kernel_rfl)) ?_
  intro W base args ds gs before hval hW _ hsz _
  exact contract H enc W base args ds gs before hval hW hsz

theorem over : Rows.poolTablesRow.holds Try.pinned (OpenSpec.ofChange Rows.poolTablesSpec) :=
  OpenClaim.holds_of_wide 8 Try.f8 rfl rfl rfl rfl rfl rfl rfl ⟨rfl, rfl, rfl, rfl, rfl⟩ rfl rfl rfl rfl rfl (by kernel_rfl) Try.func8 (by kernel_rfl)
    (of_decide_eq_true (by kernel_rfl)) (by unfold Func.isWrapper; first | (rw [if_pos (by decide +kernel)]; kernel_rfl) | (rw [if_neg (by decide +kernel)]; exact ⟨rfl, rfl⟩))
    (fun os started H enc _ => lifted os started H enc)

/-- The statement. -/
theorem proved : Rows.PoolTablesSaid := over
#print axioms proved
end Go.Proofs.Ytagekiaejhjpnaa.poolTables
