/-
  The law AliasEnds answers true for every list of pairs and every text. Condition: unicode/utf8's tables lie as their initialisers lay them.
-/
import Derived.Test.YtkfofdmcggoonaaDoorRows
import Derived.Test.YtkfofdmcggoonaaDoorCards
import Derived.Test.YtkfofdmcggoonaaDoorTie
import Derived.Deep.DeepHandedRow
import Derived.Deep.DeepWitnessRowRef
import Derived.Lib.LaidIn
import Derived.Lib.LaidU8
import Derived.PinnedBridge
import Derived.Test.YtkfofdmcggoonaaDoorAliasTarget
import Derived.Test.YtkfofdmcggoonaaDoorAliasWay
import Derived.Test.YtkfofdmcggoonaaDoorKeysIn
import Derived.WalkKit
import Derived.Outline
import Derived.ProofKit
import Derived.OpenShut
import Derived.ShutString
import Derived.ChangeOld
import Derived.Below
import Derived.Deep.CondSized
namespace Go.Proofs.YtkfofdmcggoonaaDoor.aliasEnds
open Go.ChangeShapes Go.WideShapes Go.ChangeAt Go.RowKit
open Go.ChangeMaps (open_string shut_string)
set_option linter.unusedVariables false

theorem own : ownKnob Tryd.prog.godebug = none := by kernel_rfl
theorem laidOut : laidOutB Tryd.prog = true := by kernel_rfl

theorem fine_sort {L : List PKey} (hA : AllFine L) (hN : NoRing L) : (∀ x ∈ sortK L, rightB x.1 = true ∧ rightB x.2 = true) ∧ (∀ x ∈ sortK L, ∀ y ∈ sortK L, x.1 = y.1 → x = y) ∧ NoRingE (sortK L) := by
  refine ⟨fun x hx => ?_, fun x hx y hy e => ?_, noRingE_set (fun x => (sortK_mem L x).symm) (noRingE hA hN)⟩
  · have := badA_no (allFine_mem hA ((sortK_mem L x).1 hx))
    exact ⟨this.1, this.2.1⟩
  · obtain ⟨i, hi⟩ := List.mem_iff_getElem?.1 ((sortK_mem L x).1 hx)
    obtain ⟨j, hj⟩ := List.mem_iff_getElem?.1 ((sortK_mem L y).1 hy)
    obtain rfl := allFine_inj hA hi hj e
    rw [hi] at hj
    exact Option.some.inj hj
theorem own_keys_any {w : World} {base : Nat} {v : Value} {ks : List PKey} (h : w.ownsRow base 60 2 v ks.length (pairCells ks)) : KeysAt w w.heap.size v ks := by
  obtain ⟨A', c', rfl, a, b, hr⟩ := own_form h
  exact ⟨A', c', rfl, a, b, hr⟩
/-- What Ends is told of a way. -/
theorem way_form {L : List PKey} {p : ByteArray} {w w' : World} {en : Ending} (hD : ∀ x ∈ L, ∀ y ∈ L, x.1 = y.1 → x = y) (hN : NoRingE L) (h : AWayPost L p w en w') : ∃ (A : Option Addr) (c : Nat) (ls : List ByteArray), en = .returned (.slice A ls.length c) ∧ ls.length ≤ c ∧ c ≤ maxLen ∧ Reads w' w'.heap.size 1 A ls.length (strVs ls) ∧ (∀ (i j : Nat) (x : ByteArray), i < j → ls[i]? = some x → ls[j]? = some x → False) ∧ ls.length ≤ L.length + 1 := by
  obtain ⟨-, ⟨-, rfl⟩ | ⟨ps, q, xs, v, rfl, hown, hway, -, hno⟩⟩ := h
  · exact ⟨none, 0, [], rfl, by simp, by simp [maxLen], Reads.none_, by simp, by simp⟩
  · obtain ⟨A, c, rfl, h1, h2, hr⟩ := own_form hown
    have hl := hway.len
    simp only [List.length_append, List.length_cons, List.length_nil, Nat.add_right_cancel_iff] at hl
    refine ⟨A, c, ps ++ [q], by simp, by simpa using h1, h2, by simpa using hr, fun i j x hij hi hj => hway.once hD hN (fun y hy => ?_) i j x hij hi hj, hway.short hN⟩
    rw [← hl] at hy
    simp at hy
    exact hy ▸ hno
theorem strVs_at {l : List ByteArray} {i : Nat} {x : ByteArray} (h : l[i]? = some x) : (strVs l)[i]? = some (.string x) := by simp [strVs, h]
set_option maxRecDepth 100000 in
set_option maxHeartbeats 16000000 in
theorem ends_walk (v : Value) (L : List PKey) (p : ByteArray) (w : World) (h : KeysAt w w.heap.size v L) (hsz : ∀ x ∈ L, x.1.size ≤ 140737488351232 ∧ x.2.size ≤ 140737488351232) (hlen : L.length * 32 ≤ 140737488351232) (hp : p.size ≤ 140737488351232) (hT : Tabs w) (h3 : 3 ≤ w.heap.size) :
    Calls Tryd.prog 6 #[v, .string p] w fun en w' => en = .returned (.bool true) ∧ Below w.heap.size w w' := by
  have HW := Lib.hid (awakes_any w hT h3)
  have HSZ := Lib.hid (fun x hx => ⟨Nat.le_trans (hsz x hx).1 (by decide), Nat.le_trans (hsz x hx).2 (by decide)⟩ : ∀ x ∈ L, x.1.size ≤ 140737488355328 ∧ x.2.size ≤ 140737488355328)
  obtain ⟨A, c, rfl, hc, hm, hR⟩ := h
  have HR := Lib.hid hR
  unfold maxLen at hm
  clear hR hsz
  have HRC := Lib.hid (pairs_one L)
  obtain ⟨i0, hi0, hz0, hz1, hz2⟩ := info_parts pair_info
  go_enter Tryd.func6, Tryd.ntmps6
  go_upto_region 3 with (go_at_call 8; refine HW.out.mono ?_; rintro en w1 ⟨rfl, hB1⟩; have HB1 := Lib.hid hB1; clear hB1)
  clear HW
  have HRA := Lib.hid (((HR.out.below HB1.out).more HB1.out.size).alloc (Nat.le_refl _) (.cells #[] 60))
  have HE1 := Lib.hid (show (w1.alloc (.cells #[] 60)).ownsRow w1.heap.size 60 2 (.slice (some ⟨w1.heap.size, 0, none⟩) 0 0) 0 [] from World.ownsRow_made _ _ 0 (Nat.le_refl _) (by simp [maxLen]) rfl)
  have HBA := Lib.hid ((Below.refl _ w1).alloc (Nat.le_refl _) (.cells #[] 60))
  go_upto_region 4 with (first | (go_at_call 15; go_loud (refine (new_any v3 L w3 HK3.out HSZ.out (by omega)).mono ?_; rintro en w4 ⟨hb4, hres⟩; have HB4 := Lib.hid (HB3.out.trans (hb4.mono HB3.out.size)); have HRES := Lib.hid hres; clear hb4 hres; rcases HRES.out with ⟨e, a, -, hne, rfl⟩ | ⟨hF, av, rfl, hAL⟩)) | (at_builtin; go_loud (refine wpList_append_any _ rfl (.tmp 15) (.tmp 16) _ rfl w1.heap.size 60 i0 _ 2 32 Tryd.underlying34 hi0 hz0 hz1 hz2 rfl (by omega) _ 0 [] rfl HE1.out w1.heap.size A L.length c (pairCells L) rfl HRA.out HRC.out (by simp only [maxLen]; omega) (by omega) (by simp) ?_); intro v3 w3 hown3 hg3 hat3; have HO3 := Lib.hid (show w3.ownsRow w1.heap.size 60 2 v3 L.length (pairCells L) from by simpa using hown3); have HK3 := Lib.hid (own_keys_any HO3.out); have HB3 := Lib.hid (HB1.out.trans ((HBA.out.grown hg3 (by simp) (fun g hg => (HE1.out.lt g hg).1)).mono HB1.out.size)); clear hown3 hg3 hat3))
  · have hne1 : ¬ e = 0 := hne
    go_wp2
    go_ret
    exact ⟨rfl, HB4.out.alloc HB4.out.size _⟩
  · have HFN := Lib.hid (fine_sort (fault_ok hF).1 (fault_ok hF).2.1)
    have HAL := Lib.hid hAL
    have HKL := Lib.hid (sortK_len L)
    clear hF hAL HRES
    have HAL5 := Lib.hid (HAL.out.on ((Below.refl _ w4).alloc (Nat.le_refl _) (.cells #[.int .i64 0, .int .i64 0] 37)))
    have HB5 := Lib.hid (HB4.out.alloc HB4.out.size (.cells #[.int .i64 0, .int .i64 0] 37))
    have HWA := Lib.hid (away_any av (sortK L) p _ HAL5.out HFN.out.1 HFN.out.2.1 HFN.out.2.2 (by omega) (by have := HKL.out; omega))
    have HWF := Lib.hid (fun en w' => way_form (p := p) (w := w4.alloc (.cells #[.int .i64 0, .int .i64 0] 37)) (w' := w') (en := en) HFN.out.2.1 HFN.out.2.2)
    clear HFN
    go_wp2_with (go_at_call 13; go_loud (refine HWA.out.mono ?_; rintro en w6 hpost; have HB6 := Lib.hid (HB5.out.trans (hpost.1.mono HB5.out.size)); obtain ⟨A6, c6, ls, rfl, hc6, hm6, hr6, hd6, hl6⟩ := HWF.out _ _ hpost; have HR6 := Lib.hid hr6; have HD6 := Lib.hid hd6; have HL6 := Lib.hid (Nat.le_trans hl6 (Nat.succ_le_succ HKL.out)); clear hpost hr6 hd6 hl6; unfold maxLen at hm6; generalize hN : ls.length = N at *; have HN := Lib.hid hN; clear hN))
    clear HWA HWF
    have hL6 := HL6.out
    go_loopw [31] (fun iv wr => ∃ i : Nat, iv = .int .i64 (i : Int) ∧ i ≤ N ∧ Below w6.heap.size w6 wr) (fun iv _ => N - (Lib.intOf iv).toNat)
    case atStart => exact ⟨0, rfl, Nat.zero_le _, Below.refl _ _⟩
    case round =>
      obtain ⟨i, rfl, hi, hB7⟩ := hrel
      have HB7 := Lib.hid hB7
      clear hB7
      by_cases hlt : i < N
      · obtain ⟨x, hx⟩ : ∃ x, ls[i]? = some x := ⟨_, List.getElem?_eq_getElem (by rw [HN.out]; exact hlt)⟩
        have hi2 : (i : Int) < (N : Int) := by omega
        have hi3 : (0 : Int) ≤ (i : Int) := by omega
        have hi4 : i ≤ c6 := by omega
        obtain ⟨b6, o6, rfl, hb6, hcl6⟩ := (HR6.out.below HB7.out).spot (by omega) (by omega)
        have r6 : wr.cell? ⟨b6, o6 + i, none⟩ = some (.string x) := hcl6 _ _ (strVs_at hx)
        have HX := Lib.hid hx
        clear hcl6 hx
        go_wp2
        go_loopw [40] (fun jv W => ∃ j : Nat, jv = .int .i64 (j : Int) ∧ j ≤ i ∧ Below w6.heap.size w6 W) (fun jv _ => i - (Lib.intOf jv).toNat)
        case atStart => exact ⟨0, rfl, Nat.zero_le _, HB7.out⟩
        case round =>
          obtain ⟨j, rfl, hj, hB8⟩ := hrel
          have HB8 := Lib.hid hB8
          clear hB8
          by_cases hlj : j < i
          · obtain ⟨y, hy⟩ : ∃ y, ls[j]? = some y := ⟨_, List.getElem?_eq_getElem (by rw [HN.out]; omega)⟩
            have hne : ¬ x = y := fun e => HD6.out j i x hlj (by rw [hy, e]) HX.out
            have hj2 : (j : Int) < (i : Int) := by omega
            have hj3 : (0 : Int) ≤ (j : Int) := by omega
            obtain ⟨b7, o7, e7, hb7, hcl7⟩ := (HR6.out.below HB8.out).spot (by omega) (by omega)
            cases e7
            have r7 : wr.cell? ⟨b6, o6 + j, none⟩ = some (.string y) := hcl7 _ _ (strVs_at hy)
            have hne2 : (x.toList == y.toList) = false := by rw [ba_beq]; simpa using hne
            clear hcl7 hy
            go_wp2
            go_roundw
            case rel => exact ⟨j + 1, by go_num, hlj, HB8.out⟩
            case measure => simp [Lib.intOf]; omega
          · obtain rfl : j = i := by omega
            have hj2 : ¬ (j : Int) < (j : Int) := by omega
            go_wp2
            go_roundw
            case rel => exact ⟨j + 1, by go_num, hlt, HB8.out⟩
            case measure => simp [Lib.intOf]; omega
      · obtain rfl : i = N := by omega
        have hi2 : ¬ (i : Int) < (i : Int) := by omega
        have hi3 : (i : Int) ≤ (L.length : Int) + 1 := by omega
        go_wp2
        go_ret
        exact ⟨rfl, HB6.out.trans (HB7.out.mono HB6.out.size)⟩
set_option maxRecDepth 100000 in
theorem walk {H : Type} {enc : TypeId × Value → H} (v0 : Value) (d0 : DataW H) (p0 : List MemPlace) (base0 : Nat) (a1 : ByteArray) (w : World) (hv0 : Value.okWide Tryd.prog w .any base0 34 v0) (w0 : DataW.Trod enc Tryd.prog w 0 (fun _ => true) true 34 v0 d0 p0) (hwt0 : ∀ n ∈ d0.weights Tryd.prog 34, n ≤ 140737488351232) (w1 : a1.size ≤ 140737488351232) (hT : Tabs w) (h3 : 3 ≤ w.heap.size) :
    Calls Tryd.prog 6 #[v0, .string a1] w fun e w' => e = .returned (.bool true) ∧ Below w.heap.size w w' := by
  obtain ⟨l0, ht0, hs0, hn0⟩ := keys_of_trod (e := 60) Tryd.underlying34 Tryd.underlying60 (by kernel_rfl) (by kernel_rfl) (by kernel_rfl) Tryd.underlying9 Tryd.underlying9 hwt0 hv0 w0
  exact ends_walk v0 l0 a1 w ht0 hs0 hn0 w1 hT h3

/-- What the row's list gives. -/
theorem laidTabs {W : World} (hL : laidMetH Tryd.prog Rows.aliasEndsRow.laid W) : Tabs W := by
  have h1 := Lib.laidMet.reads hL (.head _)
  have h2 := Lib.laidMet.reads hL (.tail _ (.head _))
  exact utf8Tabs_of_reads decS ⟨by kernel_rfl, by kernel_rfl, by kernel_rfl, by kernel_rfl, by kernel_rfl, by kernel_rfl, by kernel_rfl⟩ (by rw [← Pinned.utf8First_eq]; exact h2) (by rw [show Lib.acceptData = Rows.laid_unicode_utf8_acceptRanges from by kernel_rfl]; exact h1)

set_option maxRecDepth 100000 in
theorem contract (H : Type) (enc : TypeId × Value → H) (W : World) (base : Nat) (args : Array Value) (ds gs : List (DataW H)) (before : List MemPlace)
    (hval0 : ∀ (j : Nat) t v, Tryd.f6.params[j]? = some t → args[j]? = some v → Value.okWide Tryd.prog W .any base t v)
    (hW : DataW.Whole enc Tryd.prog Tryd.f6.params.toList Rows.aliasEndsSpec.vars false W args.toList ds gs before)
    (hsz0 : (DataW.weightsEach Tryd.prog (Tryd.f6.params.toList ++ Rows.aliasEndsSpec.plain.varTypes Tryd.prog) (ds ++ gs)).all (· ≤ reachBytes) = true) (hL : laidMetH Tryd.prog Rows.aliasEndsRow.laid W) :
    Calls Tryd.prog 6 args W fun e W' => ∃ v, e = .returned v ∧ Rows.aliasEndsSpec.post enc Tryd.prog Tryd.f6 false true false false W args v W' := by
  have hval : ∀ (j : Nat) t v, Tryd.f6.params[j]? = some t → args[j]? = some v → Value.okWide Tryd.prog W .any base t v := hval0
  have hsz : (DataW.weightsEach Tryd.prog (Tryd.f6.params.toList ++ Rows.aliasEndsSpec.plain.varTypes Tryd.prog) (ds ++ gs)).all (· ≤ reachBytes) = true := hsz0
  have hW' := hW
  obtain ⟨p, q, hA0, hV, rfl, hfz, hnd⟩ := hW
  have hA : DataW.TrodAll enc Tryd.prog W 0 (fun _ => true) true Tryd.f6.params.toList args.toList ds p := hA0
  rw [Tryd.params6] at hA hval hsz
  obtain ⟨v0, vs0, d0, ds0, p0, q0, hargs, rfl, rfl, h0, r0⟩ := trodAll_cons hA
  obtain ⟨v1, vs1, d1, ds1, p1, q1, rfl, rfl, rfl, h1, r1⟩ := trodAll_cons r0
  obtain ⟨rfl, rfl, rfl⟩ := trodAll_nil r1
  obtain rfl : args = #[v0, v1] := by cases args; simp_all
  obtain ⟨rfl, rfl⟩ := trodVars_none hV
  have k0 := h0
  have lt0 : ∀ x ∈ p0, x.block < W.heap.size := by obtain ⟨m, hm⟩ := k0; exact DataW.trod_lt m _ _ _ hm
  have hwt0 : ∀ n ∈ d0.weights Tryd.prog 34, n ≤ 140737488351232 := fun n hn => by
    have := of_decide_eq_true (List.all_eq_true.1 hsz _ (DataW.weights_mem_each (j := 0) (t := 34) rfl rfl n hn))
    simpa [reachBytes] using this
  obtain ⟨a1, rfl, rfl, rfl, wm1⟩ := open_string Tryd.underlying9 (hval 1 9 v1 rfl rfl) h1
  have w1 : a1.size ≤ 140737488351232 := by
    have := sized_string hsz (j := 1) (t := 9) rfl rfl
    simpa [reachBytes] using this
  clear hA0 hval0
  refine (walk v0 d0 p0 base a1 W (hval 0 34 v0 rfl rfl) h0 hwt0 w1 (laidTabs hL) (tabs3 (laidTabs hL))).mono fun e W' ⟨he, bel⟩ => ?_
  subst he
  exact ⟨_, rfl, _, _, _, [], _, [], hW', trodAll_mk1 (shut_bool Tryd.underlying4 _), (trodAll_cons_mk (Below.trod laidOut (by kernel_rfl) (of_decide_eq_true (by kernel_rfl)) k0 bel lt0) (trodAll_cons_mk (shut_string Tryd.underlying9 wm1) trodAll_mk0)), rfl, bel.frame _, fun h => by cases h⟩

/-- The witness: the settled world, the two tables holding what their initialisers lay. -/
noncomputable def laidWorld (os : Os) : World :=
  let w0 := World.holding Tryd.prog os ⟨#[], #[], []⟩
  let put (h : Array Obj) (g : Nat) (cs : Array Value) : Array Obj := h.modify g fun
    | .cells _ t frozen => .cells cs t frozen
    | o => o
  let h1 := put w0.heap 1 (Lib.firstTab.map fun z => Value.int .u8 z).toArray
  let h2 := put h1 2 ((List.range 16).flatMap fun i => [Value.int .u8 (Lib.accLo i), Value.int .u8 (Lib.accHi i)]).toArray
  { w0 with heap := h2 }
theorem laid_met (os : Os) : laidMet Tryd.prog Rows.aliasEndsRow.laid ((laidWorld os).forCall (fun _ _ => 0) ⟨#[], #[.slice none 0 0, .string ByteArray.empty], []⟩).memory := by
  have h : laidMet Tryd.prog [("unicode/utf8.acceptRanges", Lib.acceptData), ("unicode/utf8.first", Lib.firstData)] ((laidWorld os).forCall (fun _ _ => 0) ⟨#[], #[.slice none 0 0, .string ByteArray.empty], []⟩).memory :=
    (LaidIn.of_run (l := [("unicode/utf8.acceptRanges", Lib.acceptData), ("unicode/utf8.first", Lib.firstData)]) [2, 1] 8 (by kernel_rfl) (by kernel_rfl) (by kernel_rfl) (by kernel_rfl)).met
  have e : Rows.aliasEndsRow.laid = [("unicode/utf8.acceptRanges", Lib.acceptData), ("unicode/utf8.first", Lib.firstData)] := by
    rw [← Pinned.utf8First_eq, show Lib.acceptData = Rows.laid_unicode_utf8_acceptRanges from by kernel_rfl]
    rfl
  rw [e]
  exact h
theorem witness_row (os : Os) {H : Type} (enc : TypeId × Value → H) :
    (OpenSpec.ofChange Rows.aliasEndsSpec).preRow enc Tryd.prog Tryd.f6 Rows.aliasEndsRow.domain false Rows.aliasEndsRow.laid ((laidWorld os).forCall (fun _ _ => 0) ⟨#[], #[.slice none 0 0, .string ByteArray.empty], []⟩).memory #[.slice none 0 0, .string ByteArray.empty] := by
  have hw : (DataW.whole enc Tryd.prog ((laidWorld os).forCall (fun _ _ => 0) ⟨#[], #[.slice none 0 0, .string ByteArray.empty], []⟩).memory Tryd.f6.params.toList (OpenSpec.ofChange Rows.aliasEndsSpec).vars false (#[.slice none 0 0, .string ByteArray.empty] : Array Value).toList 8).map (fun x => (x.1, x.2.1)) =
      some ([.nil, .lit (.string [])], []) := by kernel_rfl
  obtain ⟨⟨x1, x2, x3⟩, hx, hx1⟩ := Option.map_eq_some_iff.1 hw
  simp only [Prod.mk.injEq] at hx1
  obtain ⟨rfl, rfl⟩ := hx1
  exact OpenSpec.preRow_of_cond 8 hx (by kernel_rfl) (fun k hk => by cases hk) (by kernel_rfl) (laid_met os)
set_option maxRecDepth 100000 in
theorem lifted (os : Os) (started : os.Started) (H : Type) (enc : TypeId × Value → H) (F : Stop.Interp) :
    ReturnsInHanded {} Tryd.checked os 6 .any ((OpenSpec.ofChange Rows.aliasEndsSpec).preRow enc Tryd.prog Tryd.f6 Rows.aliasEndsRow.domain false Rows.aliasEndsRow.laid) (((OpenSpec.ofChange Rows.aliasEndsSpec).at F).post enc Tryd.prog Tryd.f6 false true false false) := by
  refine returnsInHanded_of_row (C := Tryd.checked) (s := OpenSpec.ofChange Rows.aliasEndsSpec) own started (by kernel_rfl) Tryd.func6
    (witness_row_atRef (enc := enc) (C := Tryd.checked) false (laidWorld os) #[.slice none 0 0, .string ByteArray.empty] rfl (by kernel_rfl) (by kernel_rfl) (by kernel_rfl) (witness_row os enc)) ?_
  intro W base args ds gs before hval hW _ hk hsz hL _ _
  exact contract H enc W base args ds gs before hval hW hsz hL
theorem said : Rows.aliasEndsRow.holds Tryd.pinned (OpenSpec.ofChange Rows.aliasEndsSpec) :=
  OpenClaim.holds_of_cond 6 Tryd.f6 rfl rfl rfl rfl rfl rfl rfl ⟨rfl, rfl, rfl, rfl, rfl⟩ rfl rfl rfl rfl rfl (by kernel_rfl) Tryd.func6 (by kernel_rfl)
    (of_decide_eq_true (by kernel_rfl)) (by unfold Func.isWrapper; first | (rw [if_pos (by decide +kernel)]; kernel_rfl) | (rw [if_neg (by decide +kernel)]; exact ⟨rfl, rfl⟩))
    (fun os started H enc _ F => by rw [OpenClaim.pre_eq_preRow]; exact lifted os started H enc F)
/-- No parameter wants a stand-in; the program's own looks are off. -/
theorem plain (f : FuncId) (fn : Func) (hf : Tryd.pinned.checked.prog.funcNamed "vernacular/vernacularlaw13.AliasEnds" = some f) (hfn : Tryd.pinned.checked.prog.funcs[f]? = some fn) :
    false = Tryd.pinned.checked.prog.looks [] ∧ ∀ (j : Nat) t, fn.params[j]? = some t → Tryd.pinned.checked.prog.wantsStandIn t = false := by
  obtain rfl : f = 6 := Option.some.inj ((show Tryd.prog.funcNamed "vernacular/vernacularlaw13.AliasEnds" = some 6 by kernel_rfl).symm.trans hf) |>.symm
  obtain rfl : fn = Tryd.f6 := (Option.some.inj (Tryd.func6.symm.trans hfn)).symm
  refine ⟨by kernel_rfl, fun j t ht => ?_⟩
  rw [Tryd.params6] at ht
  have hm := Array.mem_of_getElem? ht
  have hall : (#[34, 9] : Array TypeId).all (fun t => Tryd.prog.wantsStandIn t == false) = true := by kernel_rfl
  have := Array.all_eq_true_iff_forall_mem.1 hall t hm
  exact eq_of_beq this
theorem over : Rows.AliasEndsCardSaid :=
  Claim7.holds_tied_plain_at .later [] _ _ _ _ said (fun _ h => by cases h) (by kernel_rfl) (fun _ h => by cases h) aliasEnds_row_tie rfl ⟨rfl, rfl⟩ (by kernel_rfl) rfl plain (by kernel_rfl)

/-- The statement. -/
theorem proved : Rows.AliasEndsCardSaid := over
#print axioms proved
end Go.Proofs.YtkfofdmcggoonaaDoor.aliasEnds
