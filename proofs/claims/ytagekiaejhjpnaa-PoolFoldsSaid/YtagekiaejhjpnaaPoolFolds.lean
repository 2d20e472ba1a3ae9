/-
  The law PoolFolds answers true for every tables. No condition.
-/
import Derived.Test.YtagekiaejhjpnaaRows
import Derived.Test.YtagekiaejhjpnaaPoolWakes
import Derived.Test.YtagekiaejhjpnaaPoolFold
import Derived.Test.YtagekiaejhjpnaaTabTrod
import Derived.WalkKit
import Derived.Outline
import Derived.ProofKit
import Derived.OpenShut
import Derived.ShutString
import Derived.ChangeOld
import Derived.Below
import Derived.Deep.CondSized
namespace Go.Proofs.Ytagekiaejhjpnaa.poolFolds
open Go.ChangeShapes Go.WideShapes Go.ChangeAt Go.RowKit
open Go.ChangeMaps (open_string shut_string)
set_option linter.unusedVariables false

theorem own : ownKnob Try.prog.godebug = none := by kernel_rfl
theorem laidOut : laidOutB Try.prog = true := by kernel_rfl

def allRise (l : List (List RowI)) : Bool := l.all fun t => decide (RiseL kl t)
theorem allRise_iff {l : List (List RowI)} : allRise l = true ↔ ∀ t ∈ l, RiseL kl t := by simp [allRise]
theorem allRise_snoc {l : List (List RowI)} {p : Nat} {t : List RowI} (h : l[p]? = some t) : allRise (l.take (p + 1)) = (allRise (l.take p) && decide (RiseL kl t)) := by
  rw [List.take_add_one, h]
  simp [allRise]
theorem tabsP_form {w : World} {B N : Nat} {v : Value} {ps : List (Value × List RowI)} (h : TabsP w B v ps) (hl : ps.length = N) : ∃ A c, v = .slice A N c ∧ N ≤ c ∧ c ≤ maxLen ∧ Reads w B 1 A N (ps.map Prod.fst) := by
  obtain ⟨A, c, e, h1, h2, h3, -⟩ := h
  subst hl
  exact ⟨A, c, e, h1, h2, h3⟩
theorem intsR_form {w : World} {B N : Nat} {v : Value} {ks : List Nat} (h : IntsR w B v ks) (hl : ks.length = N) : ∃ A c, v = .slice A N c ∧ N ≤ c ∧ c ≤ maxLen ∧ Reads w B 1 A N (ks.map fun k : Nat => Value.int .i64 (k : Int)) := by
  obtain ⟨A, c, e, h1, h2, h3⟩ := h
  subst hl
  exact ⟨A, c, e, h1, h2, h3⟩
theorem tabsP_tab {w : World} {B : Nat} {v : Value} {ps : List (Value × List RowI)} (h : TabsP w B v ps) {i : Nat} {t : List RowI} (ht : (ps.map Prod.snd)[i]? = some t) : ∃ A c, ps[i]? = some (.slice A t.length c, t) ∧ RowsR w B (.slice A t.length c) t := by
  obtain ⟨A, c, e, h1, h2, h3, h4⟩ := h
  rw [List.getElem?_map] at ht
  cases hx : ps[i]? with
  | none => rw [hx] at ht; cases ht
  | some x =>
    obtain ⟨xv, xl⟩ := x
    rw [hx] at ht
    cases ht
    have hr := h4 _ (List.mem_of_getElem? hx)
    obtain ⟨A5, c5, e5, -⟩ := id hr
    simp only at e5
    subst e5
    exact ⟨A5, c5, rfl, hr⟩
theorem qp {w w' : World} {e : Ending} {v : Value} (h : QPost (fun r => r = v) w e w') : e = .returned v ∧ ∃ m, w' = w.drewN m := by
  obtain ⟨u, q, rfl, rfl, h2⟩ := h
  exact ⟨rfl, q, h2⟩
theorem quiet_add {P : Program} {f : FuncId} {args : Array Value} {w : World} {a n : Nat} {v : Value}
    (h : Calls P f args (w.drewN (a + n)) fun e w' => e = .returned v ∧ ∃ m, w' = (w.drewN (a + n)).drewN m) : Calls P f args (w.drewN (a + n)) fun e w'' => e = .returned v ∧ ∃ m, w'' = w.drewN (a + m) :=
  h.mono fun _ _ ⟨he, m, hm⟩ => ⟨he, n + m, by rw [hm, World.drewN_drewN, Nat.add_assoc]⟩
set_option maxRecDepth 100000 in
set_option maxHeartbeats 32000000 in
theorem folds_walk (v : Value) (ps : List (Value × List RowI)) (w : World) (h : TabsP w w.heap.size v ps) (hok : ∀ x ∈ ps, RowsOk x.2) (hsz : ∀ x ∈ ps, x.2.length * 8 ≤ 140737488351232) :
    Calls Try.prog 6 #[v] w fun en w' => en = .returned (.bool true) ∧ Below w.heap.size w w' := by
  have HW := Lib.hid (fun W => pwakes_any W)
  have HT := Lib.hid h
  obtain ⟨A, c, rfl, hc, hm, hR, hRs⟩ := h
  have HR := Lib.hid hR
  have HRS := Lib.hid hRs
  have HOK := Lib.hid hok
  have HSZ := Lib.hid hsz
  unfold maxLen at hm
  clear hR hRs hok hsz
  by_cases hgt : ps.length > 60
  · have hg1 : (60 : Int) < (ps.length : Int) := by omega
    go_enter Try.func6, Try.ntmps6
    go_wp2_with (go_at_call 9; refine (HW.out _).mono ?_; rintro en w1 ⟨rfl, hB1⟩; have HB := Lib.hid hB1; clear hB1)
    go_ret
    exact ⟨rfl, HB.out⟩
  · have hg1 : ¬ (60 : Int) < (ps.length : Int) := by omega
    have HFO := Lib.hid (fun W (h : Below w.heap.size w W) => pfold_any _ ps W (HT.out.on h) HOK.out HSZ.out (by omega))
    have HLL := Lib.hid (show (ps.map Prod.snd).length = ps.length by rw [List.length_map])
    generalize hls : ps.map Prod.snd = ls at *
    have HLS := Lib.hid hls
    clear hls hgt
    generalize hn : ps.length = n at *
    have HN := Lib.hid hn
    have hn1 : (n : Int) ≤ 60 := by omega
    clear hn hc
    go_enter Try.func6, Try.ntmps6
    go_upto_region 7 with (go_at_call 9; refine (HW.out _).mono ?_; rintro en w1 ⟨rfl, hB1⟩; have HB1 := Lib.hid hB1; clear hB1)
    go_wp2
    go_loopw [3, 4, 20] (fun wv bv iv wr => ∃ (p : Nat) (qs : List (Value × List RowI)), iv = .int .i64 (p : Int) ∧ p ≤ n ∧ bv = .bool (!allRise (ls.take p)) ∧ TabsP wr wr.heap.size wv qs ∧ qs.map Prod.snd = poolL tl (ls.take p) ∧ Below w.heap.size w wr) (fun _ _ iv _ => n - (Lib.intOf iv).toNat)
    case atStart => exact ⟨0, [], rfl, Nat.zero_le _, rfl, tabs_nil _ _, rfl, HB1.out⟩
    case round =>
      obtain ⟨p, qs, rfl, hp, rfl, hT, hqs, hB⟩ := hrel
      have HTQ := Lib.hid hT
      have HQS := Lib.hid hqs
      have HB := Lib.hid hB
      have HQL := Lib.hid (show qs.length ≤ 60 by
        rw [← List.length_map (f := Prod.snd), hqs]
        have h1 := poolL_len (lt := tl) (ls.take p)
        have h2 := List.length_take_le p ls
        omega)
      clear hT hqs hB
      by_cases hlt : p < n
      · obtain ⟨t, ht⟩ := at_lt (l := ls) (p := p) (by have := HLL.out; omega)
        obtain ⟨A3, c3, hx, hXR⟩ := tabsP_tab HT.out (i := p) (t := t) (by rw [HLS.out]; exact ht)
        have hq : (p : Int) < (n : Int) := by omega
        have HXR := Lib.hid (hXR.on HB.out)
        obtain ⟨b1, o1, rfl, hb1, hcl1⟩ := (HR.out.below HB.out).spot (by omega) (by omega)
        have r0 : wr.cell? ⟨b1, o1 + p, none⟩ = some (.slice A3 t.length c3) := hcl1 _ _ (tab_cell hx)
        have HX := Lib.hid ht
        have HSN := Lib.hid (allRise_snoc ht)
        clear hcl1 hx hXR ht
        cases hw : allRise (ls.take p)
        · rw [hw] at HSN
          have HPT := Lib.hid (puttable_any _ _ qs t wr HTQ.out HXR.out (by have := HQL.out; omega))
          go_wp2_with (go_at_call 22; go_loud (refine HPT.out.mono ?_; rintro e w2 ⟨⟨v2, qs2, rfl, hq2, ht2⟩, hb2⟩; have HQ2 := Lib.hid hq2; have HT2 := Lib.hid ht2; have HB2 := Lib.hid (HB.out.trans (hb2.mono HB.out.size)); clear hq2 ht2 hb2))
          go_roundw
          case rel => exact ⟨p + 1, qs2, by go_num, hlt, by rw [HSN.out]; rfl, HT2.out, by rw [HQ2.out, HQS.out, List.take_add_one, HX.out, Option.toList_some, poolL_snoc], HB2.out⟩
          case measure => simp [Lib.intOf]; omega
        · rw [hw, Bool.true_and] at HSN
          have HIS := Lib.hid (refis_any _ t wr HXR.out)
          cases hr : decide (RiseL kl t)
          · rw [hr] at HIS HSN
            go_wp2_with (first
              | (go_at_call 18; go_loud (refine HIS.out.mono ?_; rintro e w1 ⟨v1, q, rfl, rfl, rfl⟩; have HB3 := Lib.hid (below_drewN HB.out q); have HPT := Lib.hid (puttable_any _ _ qs t (wr.drewN q) (HTQ.out.on (below_drewN (Below.refl _ _) q)) (HXR.out.on (below_drewN (Below.refl _ _) q)) (by have := HQL.out; omega))))
              | (go_at_call 22; go_loud (refine HPT.out.mono ?_; rintro e w2 ⟨⟨v2, qs2, rfl, hq2, ht2⟩, hb2⟩; have HQ2 := Lib.hid hq2; have HT2 := Lib.hid ht2; have HB2 := Lib.hid (HB3.out.trans (hb2.mono HB3.out.size)); clear hq2 ht2 hb2)))
            go_roundw
            case rel => exact ⟨p + 1, qs2, by go_num, hlt, by rw [HSN.out]; rfl, HT2.out, by rw [HQ2.out, HQS.out, List.take_add_one, HX.out, Option.toList_some, poolL_snoc], HB2.out⟩
            case measure => simp [Lib.intOf]; omega
          · rw [hr] at HIS HSN
            go_wp2_with (first
              | (go_at_call 18; go_loud (refine HIS.out.mono ?_; rintro e w1 ⟨v1, q, rfl, rfl, rfl⟩; have HB3 := Lib.hid (below_drewN HB.out q); have HPT := Lib.hid (puttable_any _ _ qs t (wr.drewN q) (HTQ.out.on (below_drewN (Below.refl _ _) q)) (HXR.out.on (below_drewN (Below.refl _ _) q)) (by have := HQL.out; omega))))
              | (go_at_call 22; go_loud (refine HPT.out.mono ?_; rintro e w2 ⟨⟨v2, qs2, rfl, hq2, ht2⟩, hb2⟩; have HQ2 := Lib.hid hq2; have HT2 := Lib.hid ht2; have HB2 := Lib.hid (HB3.out.trans (hb2.mono HB3.out.size)); clear hq2 ht2 hb2)))
            go_roundw
            case rel => exact ⟨p + 1, qs2, by go_num, hlt, by rw [HSN.out]; rfl, HT2.out, by rw [HQ2.out, HQS.out, List.take_add_one, HX.out, Option.toList_some, poolL_snoc], HB2.out⟩
            case measure => simp [Lib.intOf]; omega
      · obtain rfl : p = n := by omega
        have hq : ¬ (p : Int) < (p : Int) := by omega
        have HTK := Lib.hid (show ls.take p = ls from List.take_of_length_le (by rw [HLL.out]; exact Nat.le_refl _))
        rw [HTK.out] at HQS
        rw [HTK.out]
        cases hw : allRise ls
        · have HNO := Lib.hid (show ¬ ∀ t ∈ ls, RiseL kl t from fun hh => by rw [allRise_iff.2 hh] at hw; cases hw)
          go_wp2_with (go_at_call 23; go_loud (refine (pfold_no (HFO.out _ HB.out) HNO.out).mono ?_; rintro e w2 ⟨rfl, hb2⟩; have HB2 := Lib.hid (HB.out.trans (hb2.mono HB.out.size)); clear hb2))
          go_ret
          exact ⟨rfl, HB2.out⟩
        · have HYES := Lib.hid (allRise_iff.1 hw)
          have HQN := Lib.hid (show qs.length = (poolL tl ls).length by rw [← HQS.out, List.length_map])
          obtain ⟨Aq, cq, rfl, -, -, hrq⟩ := tabsP_form HTQ.out HQN.out
          have HRQ := Lib.hid hrq
          clear hrq
          go_upto_region 14 with (go_at_call 23; go_loud (refine (pfold_ok (HFO.out _ HB.out) HYES.out).mono ?_; rintro e w2 ⟨⟨v2, av2, pso, ks, rfl, hso, hto, hio, hfa⟩, hb2⟩; have HSO := Lib.hid hso; have HTO := Lib.hid hto; have HIO := Lib.hid hio; have HFA := Lib.hid hfa; obtain ⟨Ao, co, rfl, -, -, hro⟩ := tabsP_form hto (N := (poolL tl ls).length) (by rw [← hso, List.length_map]); obtain ⟨Ak, ck, rfl, -, -, hrk⟩ := intsR_form hio (N := p) (by rw [hfa.1, HLL.out]); have HRO := Lib.hid hro; have HRK := Lib.hid hrk; have HB2 := Lib.hid (HB.out.trans (hb2.mono HB.out.size)); have HBB := Lib.hid hb2; clear hso hto hio hfa hro hrk hb2))
          have HTQ2 := Lib.hid (HTQ.out.on HBB.out)
          have HRQ2 := Lib.hid ((HRQ.out.below HBB.out).more HBB.out.size)
          have hNb : (poolL tl ls).length ≤ 60 := by have := HQN.out; have := HQL.out; omega
          have hNi : ((poolL tl ls).length : Int) ≤ 60 := by omega
          generalize hN : (poolL tl ls).length = N at *
          have HPN := Lib.hid hN
          clear hN hw
          go_wp2
          go_loopw [71] (fun iv wr => ∃ q k : Nat, iv = .int .i64 (q : Int) ∧ q ≤ N ∧ wr = w2.drewN k) (fun iv _ => N - (Lib.intOf iv).toNat)
          case atStart => exact ⟨0, 0, rfl, Nat.zero_le _, rfl⟩
          case round =>
            obtain ⟨q, k, rfl, hq0, rfl⟩ := hrel
            by_cases hlt2 : q < N
            · obtain ⟨t, ht⟩ := at_lt (l := poolL tl ls) (p := q) (by rw [HPN.out]; exact hlt2)
              have hq2 : (q : Int) < (N : Int) := by omega
              obtain ⟨A5, c5, hx5, hr5⟩ := tabsP_tab HTO.out (i := q) (t := t) (by rw [HSO.out]; exact ht)
              obtain ⟨A6, c6, hx6, hr6⟩ := tabsP_tab HTQ2.out (i := q) (t := t) (by rw [HQS.out]; exact ht)
              obtain ⟨b5, o5, rfl, hb5, hcl5⟩ := HRO.out.spot (by omega) (by omega)
              obtain ⟨b6, o6, rfl, hb6, hcl6⟩ := HRQ2.out.spot (by omega) (by omega)
              have r5 : w2.cell? ⟨b5, o5 + q, none⟩ = some (.slice A5 t.length c5) := hcl5 _ _ (tab_cell hx5)
              have r6 : w2.cell? ⟨b6, o6 + q, none⟩ = some (.slice A6 t.length c6) := hcl6 _ _ (tab_cell hx6)
              have HCQ := Lib.hid (fun j : Nat => show Calls Try.prog 21 #[.slice A5 t.length c5, .slice A6 t.length c6] (w2.drewN j) (fun e w' => e = .returned (.int .i64 0) ∧ ∃ m, w' = (w2.drewN j).drewN m) from
                (refcompare_any _ _ t t (w2.drewN j) (hr5.on (below_drewN (Below.refl _ _) j)) (hr6.on (below_drewN (Below.refl _ _) j))).mono fun e w' h => by rw [cmpT_self] at h; exact qp h)
              clear hcl5 hcl6 hx5 hx6 hr5 hr6 ht
              go_upto_region 21 with (fail)
              go_quiet ((go_at_call 21; exact quiet_add (HCQ.out _)))
              go_wp2
              go_roundw
              case rel => exact ⟨q + 1, _, by go_num, hlt2, rfl⟩
              case measure => simp [Lib.intOf]; omega
            · obtain rfl : q = N := by omega
              have hq2 : ¬ (q : Int) < (q : Int) := by omega
              go_wp2
              go_loopw [87] (fun iv wr => ∃ j k : Nat, iv = .int .i64 (j : Int) ∧ j ≤ p ∧ wr = w2.drewN k) (fun iv _ => p - (Lib.intOf iv).toNat)
              case atStart => exact ⟨0, k, rfl, Nat.zero_le _, rfl⟩
              case round =>
                obtain ⟨j, k, rfl, hj0, rfl⟩ := hrel
                by_cases hlt3 : j < p
                · obtain ⟨t, ht⟩ := at_lt (l := ls) (p := j) (by have := HLL.out; omega)
                  have hq3 : (j : Int) < (p : Int) := by omega
                  obtain ⟨k0, hk0, hkt⟩ := HFA.out.2 j t ht
                  have hkl : k0 < q := by rw [← HPN.out]; exact (List.getElem?_eq_some_iff.1 hkt).1
                  obtain ⟨A5, c5, hx5, hr5⟩ := tabsP_tab HTO.out (i := k0) (t := t) (by rw [HSO.out]; exact hkt)
                  obtain ⟨A6, c6, hx6, hr6⟩ := tabsP_tab HT.out (i := j) (t := t) (by rw [HLS.out]; exact ht)
                  obtain ⟨b5, o5, rfl, hb5, hcl5⟩ := HRO.out.spot (by omega) (by omega)
                  obtain ⟨b6, o6, rfl, hb6, hcl6⟩ := (HR.out.below HB2.out).spot (by omega) (by omega)
                  obtain ⟨b7, o7, rfl, hb7, hcl7⟩ := HRK.out.spot (by omega) (by omega)
                  have r5 : w2.cell? ⟨b5, o5 + k0, none⟩ = some (.slice A5 t.length c5) := hcl5 _ _ (tab_cell hx5)
                  have r6 : w2.cell? ⟨b6, o6 + j, none⟩ = some (.slice A6 t.length c6) := hcl6 _ _ (tab_cell hx6)
                  have r7 : w2.cell? ⟨b7, o7 + j, none⟩ = some (.int .i64 (k0 : Int)) := hcl7 _ _ (by simp [hk0])
                  have hr6' := hr6.on HB2.out
                  have HCQ := Lib.hid (fun j : Nat => show Calls Try.prog 21 #[.slice A5 t.length c5, .slice A6 t.length c6] (w2.drewN j) (fun e w' => e = .returned (.int .i64 0) ∧ ∃ m, w' = (w2.drewN j).drewN m) from
                    (refcompare_any _ _ t t (w2.drewN j) (hr5.on (below_drewN (Below.refl _ _) j)) (hr6'.on (below_drewN (Below.refl _ _) j))).mono fun e w' h => by rw [cmpT_self] at h; exact qp h)
                  have hk1 : decide ((k0 : Int) < 0) = false := by rw [decide_eq_false_iff_not]; omega
                  have hk2 : decide (q ≤ k0) = false := by rw [decide_eq_false_iff_not]; omega
                  have hk3 : (k0 : Int) < (q : Int) := by omega
                  have hk4 : (k0 : Int).toNat = k0 := by omega
                  have hk5 : (0 : Int) ≤ (k0 : Int) := by omega
                  clear hcl5 hcl6 hcl7 hx5 hx6 hr5 hr6 hr6' ht hk0 hkt hkl
                  go_upto_region 27 with (fail)
                  go_quiet ((go_at_call 21; exact quiet_add (HCQ.out _)))
                  go_wp2
                  go_roundw
                  case rel => exact ⟨j + 1, _, by go_num, hlt3, rfl⟩
                  case measure => simp [Lib.intOf]; omega
                · obtain rfl : j = p := by omega
                  have hq3 : ¬ (j : Int) < (j : Int) := by omega
                  go_wp2
                  go_ret
                  exact ⟨rfl, below_drewN HB2.out _⟩
set_option maxRecDepth 100000 in
theorem walk {H : Type} {enc : TypeId × Value → H} (v0 : Value) (d0 : DataW H) (p0 : List MemPlace) (base0 : Nat) (w : World) (hv0 : Value.okWide Try.prog w .any base0 42 v0) (w0 : DataW.Trod enc Try.prog w 0 (fun _ => true) true 42 v0 d0 p0) (hwt0 : ∀ n ∈ d0.weights Try.prog 42, n ≤ 140737488351232) :
    Calls Try.prog 6 #[v0] w fun e w' => e = .returned (.bool true) ∧ Below w.heap.size w w' := by
  obtain ⟨ps, ht0, hok0, hsz0, -⟩ := tabs_of_trod (t := 33) (e := 38) Try.underlying42 (by kernel_rfl) (by kernel_rfl) Try.underlying33 Try.underlying38 (by kernel_rfl) (by kernel_rfl) (by kernel_rfl) Try.underlying36 Try.underlying36 hwt0 hv0 w0
  exact folds_walk v0 ps w ht0 hok0 hsz0

set_option maxRecDepth 100000 in
theorem contract (H : Type) (enc : TypeId × Value → H) (W : World) (base : Nat) (args : Array Value) (ds gs : List (DataW H)) (before : List MemPlace)
    (hval0 : ∀ (j : Nat) t v, Try.f6.params[j]? = some t → args[j]? = some v → Value.okWide Try.prog W .any base t v)
    (hW : DataW.Whole enc Try.prog Try.f6.params.toList Rows.poolFoldsSpec.vars false W args.toList ds gs before)
    (hsz0 : (DataW.weightsEach Try.prog (Try.f6.params.toList ++ Rows.poolFoldsSpec.plain.varTypes Try.prog) (ds ++ gs)).all (· ≤ reachBytes) = true) :
    Calls Try.prog 6 args W fun e W' => ∃ v, e = .returned v ∧ Rows.poolFoldsSpec.post enc Try.prog Try.f6 false true false false W args v W' := by
  have hval : ∀ (j : Nat) t v, Try.f6.params[j]? = some t → args[j]? = some v → Value.okWide Try.prog W .any base t v := hval0
  have hsz : (DataW.weightsEach Try.prog (Try.f6.params.toList ++ Rows.poolFoldsSpec.plain.varTypes Try.prog) (ds ++ gs)).all (· ≤ reachBytes) = true := hsz0
  have hW' := hW
  obtain ⟨p, q, hA0, hV, rfl, hfz, hnd⟩ := hW
  have hA : DataW.TrodAll enc Try.prog W 0 (fun _ => true) true Try.f6.params.toList args.toList ds p := hA0
  rw [Try.params6] at hA hval hsz
  obtain ⟨v0, vs0, d0, ds0, p0, q0, hargs, rfl, rfl, h0, r0⟩ := trodAll_cons hA
  obtain ⟨rfl, rfl, rfl⟩ := trodAll_nil r0
  obtain rfl : args = #[v0] := by cases args; simp_all
  obtain ⟨rfl, rfl⟩ := trodVars_none hV
  have k0 := h0
  have lt0 : ∀ x ∈ p0, x.block < W.heap.size := by obtain ⟨m, hm⟩ := k0; exact DataW.trod_lt m _ _ _ hm
  have hwt0 : ∀ n ∈ d0.weights Try.prog 42, n ≤ 140737488351232 := fun n hn => by
    have := of_decide_eq_true (List.all_eq_true.1 hsz _ (DataW.weights_mem_each (j := 0) (t := 42) rfl rfl n hn))
    simpa [reachBytes] using this
  clear hA0 hval0
  refine (walk v0 d0 p0 base W (hval 0 42 v0 rfl rfl) h0 hwt0).mono fun e W' ⟨he, bel⟩ => ?_
  subst he
  exact ⟨_, rfl, _, _, _, [], _, [], hW', trodAll_mk1 (shut_bool Try.underlying4 _), (trodAll_cons_mk (Below.trod laidOut (by kernel_rfl) (of_decide_eq_true (by kernel_rfl)) k0 bel lt0) trodAll_mk0), rfl, bel.frame _, fun h => by cases h⟩

set_option maxRecDepth 100000 in
theorem lifted (os : Os) (started : os.Started) (H : Type) (enc : TypeId × Value → H) :
    ReturnsInHanded {} Try.checked os 6 .any (Rows.poolFoldsSpec.pre6 enc Try.prog Try.f6 Rows.poolFoldsRow.domain false) (Rows.poolFoldsSpec.post enc Try.prog Try.f6 false true false false) := by
  refine returnsInHanded_of_change_sized (C := Try.checked) own started (by kernel_rfl) Try.func6
    (ChangeSpec.witness6 (enc := enc) (C := Try.checked) false ⟨#[], #[.slice none 0 0], []⟩ 8 (by kernel_rfl) (by kernel_rfl) (by kernel_rfl) (by kernel_rfl)) ?_
  intro W base args ds gs before hval hW _ hsz _
  exact contract H enc W base args ds gs before hval hW hsz

theorem over : Rows.poolFoldsRow.holds Try.pinned (OpenSpec.ofChange Rows.poolFoldsSpec) :=
  OpenClaim.holds_of_wide 6 Try.f6 rfl rfl rfl rfl rfl rfl rfl ⟨rfl, rfl, rfl, rfl, rfl⟩ rfl rfl rfl rfl rfl (by kernel_rfl) Try.func6 (by kernel_rfl)
    (of_decide_eq_true (by kernel_rfl)) (by unfold Func.isWrapper; first | (rw [if_pos (by decide +kernel)]; kernel_rfl) | (rw [if_neg (by decide +kernel)]; exact ⟨rfl, rfl⟩))
    (fun os started H enc _ => lifted os started H enc)

/-- The statement. -/
theorem proved : Rows.PoolFoldsSaid := over
#print axioms proved
end Go.Proofs.Ytagekiaejhjpnaa.poolFolds
