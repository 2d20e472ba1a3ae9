/-
  The law AliasBelow answers true for every list of pairs and every two texts. Condition: unicode/utf8's tables lie as their initialisers lay them.
-/
import Derived.Test.YtkfofdmcggoonaaDoorRows
import Derived.Test.YtkfofdmcggoonaaDoorCards
import Derived.Test.YtkfofdmcggoonaaDoorTie
import Derived.Deep.DeepHandedRow
import Derived.Deep.DeepWitnessRowRef
import Derived.Lib.LaidIn
import Derived.Lib.LaidU8
import Derived.PinnedBridge
import Derived.Test.YtkfofdmcggoonaaDoorAliasTarget
import Derived.Test.YtkfofdmcggoonaaDoorAliasWay
import Derived.Test.YtkfofdmcggoonaaDoorKeysIn
import Derived.WalkKit
import Derived.Outline
import Derived.ProofKit
import Derived.OpenShut
import Derived.ShutString
import Derived.ChangeOld
import Derived.Below
import Derived.Deep.CondSized
namespace Go.Proofs.YtkfofdmcggoonaaDoor.aliasBelow
open Go.ChangeShapes Go.WideShapes Go.ChangeAt Go.RowKit
open Go.ChangeMaps (open_string shut_string)
set_option linter.unusedVariables false

theorem own : ownKnob Tryd.prog.godebug = none := by kernel_rfl
theorem laidOut : laidOutB Tryd.prog = true := by kernel_rfl

theorem fine_sort {L : List PKey} (hA : AllFine L) (hN : NoRing L) : (∀ x ∈ sortK L, rightB x.1 = true ∧ rightB x.2 = true) ∧ (∀ x ∈ sortK L, ∀ y ∈ sortK L, x.1 = y.1 → x = y) ∧ NoRingE (sortK L) := by
  refine ⟨fun x hx => ?_, fun x hx y hy e => ?_, noRingE_set (fun x => (sortK_mem L x).symm) (noRingE hA hN)⟩
  · have := badA_no (allFine_mem hA ((sortK_mem L x).1 hx))
    exact ⟨this.1, this.2.1⟩
  · obtain ⟨i, hi⟩ := List.mem_iff_getElem?.1 ((sortK_mem L x).1 hx)
    obtain ⟨j, hj⟩ := List.mem_iff_getElem?.1 ((sortK_mem L y).1 hy)
    obtain rfl := allFine_inj hA hi hj e
    rw [hi] at hj
    exact Option.some.inj hj
theorem own_keys_any {w : World} {base : Nat} {v : Value} {ks : List PKey} (h : w.ownsRow base 60 2 v ks.length (pairCells ks)) : KeysAt w w.heap.size v ks := by
  obtain ⟨A', c', rfl, a, b, hr⟩ := own_form h
  exact ⟨A', c', rfl, a, b, hr⟩
theorem putE_ok {r : Except Int (List UInt8)} (h : putE r = 0) (hn : ∀ e, r = .error e → e ≠ 0) : ∃ t, r = .ok t := by
  cases r with
  | ok t => exact ⟨t, rfl⟩
  | error e => exact absurd h (hn e rfl)
/-- What Join answers, as Below wants it. -/
theorem join_form {a b : ByteArray} {w w' : World} {en : Ending} (h : JoinPost a b w en w') : Below w.heap.size w w' ∧ ∃ (s : ByteArray) (e : Int), en = .returned (.tuple #[.string s, .int .i64 e]) ∧
    (e = 0 → ∃ (m r : List PStep) (t : List UInt8), parseM a = .ok m ∧ parseM b = .ok r ∧ putM (m ++ r) = .ok t ∧ s = str t) := by
  rcases h with ⟨hb, e, he, -, rfl⟩ | ⟨hb, m, r, h1, h2, rfl⟩
  · exact ⟨hb, _, e, rfl, fun h => absurd h he⟩
  · refine ⟨hb, _, _, rfl, fun h => ?_⟩
    obtain ⟨t, ht⟩ := putE_ok h (fun e he => aputM_err he)
    exact ⟨m, r, t, h1, h2, ht, by rw [ht]; rfl⟩
theorem below_in {p : ByteArray} {m r : List PStep} {t : List UInt8} (h1 : parseM p = .ok m) (h3 : putM (m ++ r) = .ok t) : inB (str t) p = true := inB_ok.2 ⟨_, _, print_parse h3, h1, by simp⟩
theorem below_lead {p rest : ByteArray} {m r : List PStep} {t : List UInt8} {x : PKey} (h1 : parseM p = .ok m) (h2 : parseM rest = .ok r) (h3 : putM (m ++ r) = .ok t) (hx : inB p x.1 = true) (hv : rightB x.2 = true) (h : (putE (leadA x (str t)) == 0) = true) :
    (putE (leadA x p) == 0) = true ∧ restM (putS (leadA x (str t))) (putS (leadA x p)) = some rest ∧ (putS (leadA x (str t))).size ≤ 512 ∧ (putS (leadA x p)).size ≤ 512 := by
  obtain ⟨l, g, e1, e2, e3⟩ := inB_ok.1 hx
  rw [h1] at e1
  cases e1
  obtain ⟨v, e4⟩ := rightB_ok.1 hv
  have hgl : g.length ≤ m.length := by
    have := congrArg List.length e3
    rw [List.length_take] at this
    omega
  have q1 : leadA x p = putM (v ++ m.drop g.length) := by unfold leadA; rw [h1, e2, e4]
  have q2 : leadA x (str t) = putM (v ++ (m.drop g.length ++ r)) := by
    unfold leadA
    rw [print_parse h3, e2, e4]
    simp only
    rw [List.drop_append_of_le_length hgl]
  rw [q2] at h ⊢
  rw [q1]
  obtain ⟨t2, ht2⟩ := putE_ok (by simpa using h) (fun e he => aputM_err he)
  have p2 := print_parse ht2
  obtain ⟨t1, ht1, p1⟩ := part_print (m := v ++ m.drop g.length) (n := r) p2 (by simp)
  rw [ht1, ht2]
  refine ⟨rfl, ?_, (parseM_small p2).2.2.1, (parseM_small p1).2.2.1⟩
  show restM (str t2) (str t1) = some rest
  unfold restM
  rw [p2, p1]
  simp only
  rw [← List.append_assoc, if_pos List.take_left, List.drop_left, parse_print h2]
  rfl
theorem lead_best {v : Value} {K : List PKey} {p : ByteArray} {w : World} (h : ALS w v K) (hF : ∀ x ∈ K, rightB x.1 = true ∧ rightB x.2 = true) (hD : ∀ x ∈ K, ∀ y ∈ K, x.1 = y.1 → x = y) (hp : p.size ≤ 140737488355328) (hn : K.length ≤ 8796093022208) {x : PKey} (hx : BestIs K p (some x)) :
    Calls Tryd.prog 12 #[v, .string p] w fun en w' => en = .returned (.tuple #[.string (putS (leadA x p)), .bool (putE (leadA x p) == 0)]) ∧ Below w.heap.size w w' :=
  (alead_any v K p w h hF hp hn).mono fun en w' hh => by
    obtain ⟨hb, ⟨y, hy, rfl⟩ | ⟨hy, rfl⟩⟩ := hh
    · cases best_one hD hx hy
      exact ⟨rfl, hb⟩
    · cases best_one hD hx hy
set_option maxRecDepth 100000 in
set_option maxHeartbeats 16000000 in
theorem below_walk (v : Value) (L : List PKey) (p q : ByteArray) (w : World) (h : KeysAt w w.heap.size v L) (hsz : ∀ x ∈ L, x.1.size ≤ 140737488351232 ∧ x.2.size ≤ 140737488351232) (hlen : L.length * 32 ≤ 140737488351232) (hp : p.size ≤ 140737488351232) (hq : q.size ≤ 140737488351232) (hT : Tabs w) (h3 : 3 ≤ w.heap.size) :
    Calls Tryd.prog 5 #[v, .string p, .string q] w fun en w' => en = .returned (.bool true) ∧ Below w.heap.size w w' := by
  have HW := Lib.hid (awakes_any w hT h3)
  have HSZ := Lib.hid (fun x hx => ⟨Nat.le_trans (hsz x hx).1 (by decide), Nat.le_trans (hsz x hx).2 (by decide)⟩ : ∀ x ∈ L, x.1.size ≤ 140737488355328 ∧ x.2.size ≤ 140737488355328)
  have HJ := Lib.hid (fun W => join_any p q W (by omega) (by omega))
  obtain ⟨A, c, rfl, hc, hm, hR⟩ := h
  have HR := Lib.hid hR
  unfold maxLen at hm
  clear hR hsz
  have HRC := Lib.hid (pairs_one L)
  obtain ⟨i0, hi0, hz0, hz1, hz2⟩ := info_parts pair_info
  go_enter Tryd.func5, Tryd.ntmps5
  go_upto_region 3 with (go_at_call 8; refine HW.out.mono ?_; rintro en w1 ⟨rfl, hB1⟩; have HB1 := Lib.hid hB1; clear hB1)
  clear HW
  have HRA := Lib.hid (((HR.out.below HB1.out).more HB1.out.size).alloc (Nat.le_refl _) (.cells #[] 60))
  have HE1 := Lib.hid (show (w1.alloc (.cells #[] 60)).ownsRow w1.heap.size 60 2 (.slice (some ⟨w1.heap.size, 0, none⟩) 0 0) 0 [] from World.ownsRow_made _ _ 0 (Nat.le_refl _) (by simp [maxLen]) rfl)
  have HBA := Lib.hid ((Below.refl _ w1).alloc (Nat.le_refl _) (.cells #[] 60))
  go_upto_region 4 with (first | (go_at_call 15; go_loud (refine (new_any v3 L w3 HK3.out HSZ.out (by omega)).mono ?_; rintro en w4 ⟨hb4, hres⟩; have HB4 := Lib.hid (HB3.out.trans (hb4.mono HB3.out.size)); have HRES := Lib.hid hres; clear hb4 hres; rcases HRES.out with ⟨e, a, -, hne, rfl⟩ | ⟨hF, av, rfl, hAL⟩)) | (at_builtin; go_loud (refine wpList_append_any _ rfl (.tmp 24) (.tmp 25) _ rfl w1.heap.size 60 i0 _ 2 32 Tryd.underlying34 hi0 hz0 hz1 hz2 rfl (by omega) _ 0 [] rfl HE1.out w1.heap.size A L.length c (pairCells L) rfl HRA.out HRC.out (by simp only [maxLen]; omega) (by omega) (by simp) ?_); intro v3 w3 hown3 hg3 hat3; have HO3 := Lib.hid (show w3.ownsRow w1.heap.size 60 2 v3 L.length (pairCells L) from by simpa using hown3); have HK3 := Lib.hid (own_keys_any HO3.out); have HB3 := Lib.hid (HB1.out.trans ((HBA.out.grown hg3 (by simp) (fun g hg => (HE1.out.lt g hg).1)).mono HB1.out.size)); clear hown3 hg3 hat3))
  · have hne1 : ¬ e = 0 := hne
    have HB5 := Lib.hid (HB4.out.alloc HB4.out.size (.cells #[.int .i64 e, .int .i64 a] 37))
    have hn := Blk.new w4 37 #[.int .i64 e, .int .i64 a]
    generalize w4.alloc (.cells #[.int .i64 e, .int .i64 a] 37) = wf at *
    go_upto_region 5 with (go_at_call 16; go_loud (refine (HJ.out _).mono ?_; intro en w5 hpost; obtain ⟨hb5, wh, je, rfl, hje⟩ := join_form hpost; have HB6 := Lib.hid (HB5.out.trans (hb5.mono HB5.out.size)); have HN5 := Lib.hid hb5; have HJE := Lib.hid hje; clear hpost hb5 hje))
    have r0 : w5.cell? ⟨w4.heap.size, 0, none⟩ = some (.int .i64 e) := (hn.below HN5.out hn.lt).cell 0
    clear hn
    go_wp2
    go_ret
    exact ⟨rfl, HB6.out⟩
  · have HFN := Lib.hid (fine_sort (fault_ok hF).1 (fault_ok hF).2.1)
    have HAL := Lib.hid hAL
    have HKL := Lib.hid (sortK_len L)
    clear hF hAL HRES
    have HAL5 := Lib.hid (HAL.out.on ((Below.refl _ w4).alloc (Nat.le_refl _) (.cells #[.int .i64 0, .int .i64 0] 37)))
    have HB5 := Lib.hid (HB4.out.alloc HB4.out.size (.cells #[.int .i64 0, .int .i64 0] 37))
    have hn := Blk.new w4 37 #[.int .i64 0, .int .i64 0]
    generalize w4.alloc (.cells #[.int .i64 0, .int .i64 0] 37) = wf at *
    go_upto_region 5 with (go_at_call 16; go_loud (refine (HJ.out _).mono ?_; intro en w5 hpost; obtain ⟨hb5, wh, je, rfl, hje⟩ := join_form hpost; have HB6 := Lib.hid (HB5.out.trans (hb5.mono HB5.out.size)); have HN5 := Lib.hid hb5; have HJE := Lib.hid hje; clear hpost hb5 hje))
    have r0 : w5.cell? ⟨w4.heap.size, 0, none⟩ = some (.int .i64 0) := (hn.below HN5.out hn.lt).cell 0
    have HAL6 := Lib.hid (HAL5.out.on HN5.out)
    clear hn HAL HAL5
    by_cases hj0 : je = 0
    · obtain ⟨m, r, t, hm1, hr1, ht1, rfl⟩ := HJE.out hj0
      subst hj0
      have hst := (parseM_small (print_parse ht1)).2.2.1
      have HM := Lib.hid hm1
      have HQ := Lib.hid hr1
      have HT := Lib.hid ht1
      have HIN := Lib.hid (below_in hm1 ht1)
      clear hm1 hr1 ht1 HJE
      generalize hS : str t = S at *
      have HS := Lib.hid hS
      clear hS
      have hS2 : S.size ≤ 140737488355328 := by omega
      have HG1 := Lib.hid (fun W (h : ALS W av (sortK L)) => agroup_any av (sortK L) p W h (fun x hx => (HFN.out.1 x hx).1) (by omega) (by have := HKL.out; omega))
      have HG2 := Lib.hid (fun W (h : ALS W av (sortK L)) => agroup_any av (sortK L) S W h (fun x hx => (HFN.out.1 x hx).1) hS2 (by have := HKL.out; omega))
      go_upto_region 8 with (go_at_call 11; go_loud (refine (HG1.out _ HAL6.out).mono ?_; rintro en w7 ⟨hb7, o1, ho1, rfl⟩; have HB7 := Lib.hid (HB6.out.trans (hb7.mono HB6.out.size)); have HAL7 := Lib.hid (HAL6.out.on hb7); have HO1 := Lib.hid ho1; clear hb7 ho1))
      clear HAL6 r0
      go_upto_region 9 with (go_at_call 11; go_loud (refine (HG2.out _ HAL7.out).mono ?_; rintro en w8 ⟨hb8, o2, ho2, rfl⟩; have HB8 := Lib.hid (HB7.out.trans (hb8.mono HB7.out.size)); have HAL8 := Lib.hid (HAL7.out.on hb8); have HO2 := Lib.hid ho2; clear hb8 ho2))
      clear HG1 HG2 HAL7
      cases o1 with
      | none =>
        simp only [Option.isSome_none]
        generalize (bestK none).1 = g1
        generalize (bestK o2).1 = g2
        go_wp2
        go_ret
        exact ⟨rfl, HB8.out⟩
      | some x =>
        cases o2 with
        | none =>
          have h1 := HO2.out x HO1.out.1
          rw [in_trans HIN.out HO1.out.2.1] at h1
          cases h1
        | some y =>
          simp only [Option.isSome_some, bestK, Option.getD_some]
          by_cases he : x.1 = y.1
          · obtain rfl := HFN.out.2.1 x HO1.out.1 y HO2.out.1 he
            have heq : (x.1.toList == x.1.toList) = true := by simp
            have HF2 := Lib.hid (HFN.out.1 x HO1.out.1)
            have HL1 := Lib.hid (fun W (h : ALS W av (sortK L)) => lead_best h HFN.out.1 HFN.out.2.1 (by omega) (by have := HKL.out; omega) HO1.out)
            have HL2 := Lib.hid (fun W (h : ALS W av (sortK L)) => lead_best h HFN.out.1 HFN.out.2.1 hS2 (by have := HKL.out; omega) HO2.out)
            have HLW := Lib.hid (fun h => below_lead HM.out HQ.out HT.out HO1.out.2.1 HF2.out.2 (by rw [HS.out]; exact h))
            rw [HS.out] at HLW
            generalize leadA x p = r1 at *
            generalize leadA x S = r2 at *
            generalize x.1 = gx at *
            generalize hq1 : (putE r1 == 0) = q1 at *
            generalize hq2 : (putE r2 == 0) = q2 at *
            go_upto_region 14 with (go_at_call 12; go_loud (refine (HL1.out _ HAL8.out).mono ?_; rintro en w9 ⟨rfl, hb9⟩; have HB9 := Lib.hid (HB8.out.trans (hb9.mono HB8.out.size)); have HAL9 := Lib.hid (HAL8.out.on hb9); clear hb9))
            go_upto_region 15 with (go_at_call 12; go_loud (refine (HL2.out _ HAL9.out).mono ?_; rintro en w10 ⟨rfl, hb10⟩; have HB10 := Lib.hid (HB9.out.trans (hb10.mono HB9.out.size)); clear hb10))
            cases q2 with
            | false =>
              generalize putS r1 = s1 at *
              generalize putS r2 = s2 at *
              cases q1 <;> (go_wp2; go_ret; exact ⟨rfl, HB10.out⟩)
            | true =>
              obtain ⟨h1, h2, h3, h4⟩ := HLW.out rfl
              subst h1
              have HRS := Lib.hid (show ∀ W, Calls Tryd.prog 17 #[.string (putS r2), .string (putS r1)] W fun en W' => en = .returned (.tuple #[.string q, .bool true]) ∧ Below W.heap.size W W' from fun W => (rest_any _ _ W (by omega) (by omega)).mono fun en W' h => by
                unfold RestPost at h
                rw [h2] at h
                exact h)
              clear h2 h3 h4 HLW
              generalize putS r1 = s1 at *
              generalize putS r2 = s2 at *
              have hqq : (q.toList == q.toList) = true := by simp
              go_wp2_with (go_at_call 17; go_loud (refine (HRS.out _).mono ?_; rintro en w11 ⟨rfl, hb11⟩; have HB11 := Lib.hid (HB10.out.trans (hb11.mono HB10.out.size)); clear hb11))
              go_ret
              exact ⟨rfl, HB11.out⟩
          · have hne2 : (x.1.toList == y.1.toList) = false := by rw [ba_beq]; simpa using he
            generalize x.1 = gx at *
            generalize y.1 = gy at *
            go_wp2
            go_ret
            exact ⟨rfl, HB8.out⟩
    · have hj1 : (je == 0) = false := by simpa using hj0
      go_wp2
      go_ret
      exact ⟨rfl, HB6.out⟩
set_option maxRecDepth 100000 in
theorem walk {H : Type} {enc : TypeId × Value → H} (v0 : Value) (d0 : DataW H) (p0 : List MemPlace) (base0 : Nat) (a1 : ByteArray) (a2 : ByteArray) (w : World) (hv0 : Value.okWide Tryd.prog w .any base0 34 v0) (w0 : DataW.Trod enc Tryd.prog w 0 (fun _ => true) true 34 v0 d0 p0) (hwt0 : ∀ n ∈ d0.weights Tryd.prog 34, n ≤ 140737488351232) (w1 : a1.size ≤ 140737488351232) (w2 : a2.size ≤ 140737488351232) (hT : Tabs w) (h3 : 3 ≤ w.heap.size) :
    Calls Tryd.prog 5 #[v0, .string a1, .string a2] w fun e w' => e = .returned (.bool true) ∧ Below w.heap.size w w' := by
  obtain ⟨l0, ht0, hs0, hn0⟩ := keys_of_trod (e := 60) Tryd.underlying34 Tryd.underlying60 (by kernel_rfl) (by kernel_rfl) (by kernel_rfl) Tryd.underlying9 Tryd.underlying9 hwt0 hv0 w0
  exact below_walk v0 l0 a1 a2 w ht0 hs0 hn0 w1 w2 hT h3

/-- What the row's list gives. -/
theorem laidTabs {W : World} (hL : laidMetH Tryd.prog Rows.aliasBelowRow.laid W) : Tabs W := by
  have h1 := Lib.laidMet.reads hL (.head _)
  have h2 := Lib.laidMet.reads hL (.tail _ (.head _))
  exact utf8Tabs_of_reads decS ⟨by kernel_rfl, by kernel_rfl, by kernel_rfl, by kernel_rfl, by kernel_rfl, by kernel_rfl, by kernel_rfl⟩ (by rw [← Pinned.utf8First_eq]; exact h2) (by rw [show Lib.acceptData = Rows.laid_unicode_utf8_acceptRanges from by kernel_rfl]; exact h1)

set_option maxRecDepth 100000 in
theorem contract (H : Type) (enc : TypeId × Value → H) (W : World) (base : Nat) (args : Array Value) (ds gs : List (DataW H)) (before : List MemPlace)
    (hval0 : ∀ (j : Nat) t v, Tryd.f5.params[j]? = some t → args[j]? = some v → Value.okWide Tryd.prog W .any base t v)
    (hW : DataW.Whole enc Tryd.prog Tryd.f5.params.toList Rows.aliasBelowSpec.vars false W args.toList ds gs before)
    (hsz0 : (DataW.weightsEach Tryd.prog (Tryd.f5.params.toList ++ Rows.aliasBelowSpec.plain.varTypes Tryd.prog) (ds ++ gs)).all (· ≤ reachBytes) = true) (hL : laidMetH Tryd.prog Rows.aliasBelowRow.laid W) :
    Calls Tryd.prog 5 args W fun e W' => ∃ v, e = .returned v ∧ Rows.aliasBelowSpec.post enc Tryd.prog Tryd.f5 false true false false W args v W' := by
  have hval : ∀ (j : Nat) t v, Tryd.f5.params[j]? = some t → args[j]? = some v → Value.okWide Tryd.prog W .any base t v := hval0
  have hsz : (DataW.weightsEach Tryd.prog (Tryd.f5.params.toList ++ Rows.aliasBelowSpec.plain.varTypes Tryd.prog) (ds ++ gs)).all (· ≤ reachBytes) = true := hsz0
  have hW' := hW
  obtain ⟨p, q, hA0, hV, rfl, hfz, hnd⟩ := hW
  have hA : DataW.TrodAll enc Tryd.prog W 0 (fun _ => true) true Tryd.f5.params.toList args.toList ds p := hA0
  rw [Tryd.params5] at hA hval hsz
  obtain ⟨v0, vs0, d0, ds0, p0, q0, hargs, rfl, rfl, h0, r0⟩ := trodAll_cons hA
  obtain ⟨v1, vs1, d1, ds1, p1, q1, rfl, rfl, rfl, h1, r1⟩ := trodAll_cons r0
  obtain ⟨v2, vs2, d2, ds2, p2, q2, rfl, rfl, rfl, h2, r2⟩ := trodAll_cons r1
  obtain ⟨rfl, rfl, rfl⟩ := trodAll_nil r2
  obtain rfl : args = #[v0, v1, v2] := by cases args; simp_all
  obtain ⟨rfl, rfl⟩ := trodVars_none hV
  have k0 := h0
  have lt0 : ∀ x ∈ p0, x.block < W.heap.size := by obtain ⟨m, hm⟩ := k0; exact DataW.trod_lt m _ _ _ hm
  have hwt0 : ∀ n ∈ d0.weights Tryd.prog 34, n ≤ 140737488351232 := fun n hn => by
    have := of_decide_eq_true (List.all_eq_true.1 hsz _ (DataW.weights_mem_each (j := 0) (t := 34) rfl rfl n hn))
    simpa [reachBytes] using this
  obtain ⟨a1, rfl, rfl, rfl, wm1⟩ := open_string Tryd.underlying9 (hval 1 9 v1 rfl rfl) h1
  have w1 : a1.size ≤ 140737488351232 := by
    have := sized_string hsz (j := 1) (t := 9) rfl rfl
    simpa [reachBytes] using this
  obtain ⟨a2, rfl, rfl, rfl, wm2⟩ := open_string Tryd.underlying9 (hval 2 9 v2 rfl rfl) h2
  have w2 : a2.size ≤ 140737488351232 := by
    have := sized_string hsz (j := 2) (t := 9) rfl rfl
    simpa [reachBytes] using this
  clear hA0 hval0
  refine (walk v0 d0 p0 base a1 a2 W (hval 0 34 v0 rfl rfl) h0 hwt0 w1 w2 (laidTabs hL) (tabs3 (laidTabs hL))).mono fun e W' ⟨he, bel⟩ => ?_
  subst he
  exact ⟨_, rfl, _, _, _, [], _, [], hW', trodAll_mk1 (shut_bool Tryd.underlying4 _), (trodAll_cons_mk (Below.trod laidOut (by kernel_rfl) (of_decide_eq_true (by kernel_rfl)) k0 bel lt0) (trodAll_cons_mk (shut_string Tryd.underlying9 wm1) (trodAll_cons_mk (shut_string Tryd.underlying9 wm2) trodAll_mk0))), rfl, bel.frame _, fun h => by cases h⟩

/-- The witness: the settled world, the two tables holding what their initialisers lay. -/
noncomputable def laidWorld (os : Os) : World :=
  let w0 := World.holding Tryd.prog os ⟨#[], #[], []⟩
  let put (h : Array Obj) (g : Nat) (cs : Array Value) : Array Obj := h.modify g fun
    | .cells _ t frozen => .cells cs t frozen
    | o => o
  let h1 := put w0.heap 1 (Lib.firstTab.map fun z => Value.int .u8 z).toArray
  let h2 := put h1 2 ((List.range 16).flatMap fun i => [Value.int .u8 (Lib.accLo i), Value.int .u8 (Lib.accHi i)]).toArray
  { w0 with heap := h2 }
theorem laid_met (os : Os) : laidMet Tryd.prog Rows.aliasBelowRow.laid ((laidWorld os).forCall (fun _ _ => 0) ⟨#[], #[.slice none 0 0, .string ByteArray.empty, .string ByteArray.empty], []⟩).memory := by
  have h : laidMet Tryd.prog [("unicode/utf8.acceptRanges", Lib.acceptData), ("unicode/utf8.first", Lib.firstData)] ((laidWorld os).forCall (fun _ _ => 0) ⟨#[], #[.slice none 0 0, .string ByteArray.empty, .string ByteArray.empty], []⟩).memory :=
    (LaidIn.of_run (l := [("unicode/utf8.acceptRanges", Lib.acceptData), ("unicode/utf8.first", Lib.firstData)]) [2, 1] 8 (by kernel_rfl) (by kernel_rfl) (by kernel_rfl) (by kernel_rfl)).met
  have e : Rows.aliasBelowRow.laid = [("unicode/utf8.acceptRanges", Lib.acceptData), ("unicode/utf8.first", Lib.firstData)] := by
    rw [← Pinned.utf8First_eq, show Lib.acceptData = Rows.laid_unicode_utf8_acceptRanges from by kernel_rfl]
    rfl
  rw [e]
  exact h
theorem witness_row (os : Os) {H : Type} (enc : TypeId × Value → H) :
    (OpenSpec.ofChange Rows.aliasBelowSpec).preRow enc Tryd.prog Tryd.f5 Rows.aliasBelowRow.domain false Rows.aliasBelowRow.laid ((laidWorld os).forCall (fun _ _ => 0) ⟨#[], #[.slice none 0 0, .string ByteArray.empty, .string ByteArray.empty], []⟩).memory #[.slice none 0 0, .string ByteArray.empty, .string ByteArray.empty] := by
  have hw : (DataW.whole enc Tryd.prog ((laidWorld os).forCall (fun _ _ => 0) ⟨#[], #[.slice none 0 0, .string ByteArray.empty, .string ByteArray.empty], []⟩).memory Tryd.f5.params.toList (OpenSpec.ofChange Rows.aliasBelowSpec).vars false (#[.slice none 0 0, .string ByteArray.empty, .string ByteArray.empty] : Array Value).toList 8).map (fun x => (x.1, x.2.1)) =
      some ([.nil, .lit (.string []), .lit (.string [])], []) := by kernel_rfl
  obtain ⟨⟨x1, x2, x3⟩, hx, hx1⟩ := Option.map_eq_some_iff.1 hw
  simp only [Prod.mk.injEq] at hx1
  obtain ⟨rfl, rfl⟩ := hx1
  exact OpenSpec.preRow_of_cond 8 hx (by kernel_rfl) (fun k hk => by cases hk) (by kernel_rfl) (laid_met os)
set_option maxRecDepth 100000 in
theorem lifted (os : Os) (started : os.Started) (H : Type) (enc : TypeId × Value → H) (F : Stop.Interp) :
    ReturnsInHanded {} Tryd.checked os 5 .any ((OpenSpec.ofChange Rows.aliasBelowSpec).preRow enc Tryd.prog Tryd.f5 Rows.aliasBelowRow.domain false Rows.aliasBelowRow.laid) (((OpenSpec.ofChange Rows.aliasBelowSpec).at F).post enc Tryd.prog Tryd.f5 false true false false) := by
  refine returnsInHanded_of_row (C := Tryd.checked) (s := OpenSpec.ofChange Rows.aliasBelowSpec) own started (by kernel_rfl) Tryd.func5
    (witness_row_atRef (enc := enc) (C := Tryd.checked) false (laidWorld os) #[.slice none 0 0, .string ByteArray.empty, .string ByteArray.empty] rfl (by kernel_rfl) (by kernel_rfl) (by kernel_rfl) (witness_row os enc)) ?_
  intro W base args ds gs before hval hW _ hk hsz hL _ _
  exact contract H enc W base args ds gs before hval hW hsz hL
theorem said : Rows.aliasBelowRow.holds Tryd.pinned (OpenSpec.ofChange Rows.aliasBelowSpec) :=
  OpenClaim.holds_of_cond 5 Tryd.f5 rfl rfl rfl rfl rfl rfl rfl ⟨rfl, rfl, rfl, rfl, rfl⟩ rfl rfl rfl rfl rfl (by kernel_rfl) Tryd.func5 (by kernel_rfl)
    (of_decide_eq_true (by kernel_rfl)) (by unfold Func.isWrapper; first | (rw [if_pos (by decide +kernel)]; kernel_rfl) | (rw [if_neg (by decide +kernel)]; exact ⟨rfl, rfl⟩))
    (fun os started H enc _ F => by rw [OpenClaim.pre_eq_preRow]; exact lifted os started H enc F)
/-- No parameter wants a stand-in; the program's own looks are off. -/
theorem plain (f : FuncId) (fn : Func) (hf : Tryd.pinned.checked.prog.funcNamed "vernacular/vernacularlaw13.AliasBelow" = some f) (hfn : Tryd.pinned.checked.prog.funcs[f]? = some fn) :
    false = Tryd.pinned.checked.prog.looks [] ∧ ∀ (j : Nat) t, fn.params[j]? = some t → Tryd.pinned.checked.prog.wantsStandIn t = false := by
  obtain rfl : f = 5 := Option.some.inj ((show Tryd.prog.funcNamed "vernacular/vernacularlaw13.AliasBelow" = some 5 by kernel_rfl).symm.trans hf) |>.symm
  obtain rfl : fn = Tryd.f5 := (Option.some.inj (Tryd.func5.symm.trans hfn)).symm
  refine ⟨by kernel_rfl, fun j t ht => ?_⟩
  rw [Tryd.params5] at ht
  have hm := Array.mem_of_getElem? ht
  have hall : (#[34, 9, 9] : Array TypeId).all (fun t => Tryd.prog.wantsStandIn t == false) = true := by kernel_rfl
  have := Array.all_eq_true_iff_forall_mem.1 hall t hm
  exact eq_of_beq this
theorem over : Rows.AliasBelowCardSaid :=
  Claim7.holds_tied_plain_at .later [] _ _ _ _ said (fun _ h => by cases h) (by kernel_rfl) (fun _ h => by cases h) aliasBelow_row_tie rfl ⟨rfl, rfl⟩ (by kernel_rfl) rfl plain (by kernel_rfl)

/-- The statement. -/
theorem proved : Rows.AliasBelowCardSaid := over
#print axioms proved
end Go.Proofs.YtkfofdmcggoonaaDoor.aliasBelow
