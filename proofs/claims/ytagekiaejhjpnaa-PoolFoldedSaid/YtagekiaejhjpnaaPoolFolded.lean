/-
  The law PoolFolded answers true for every three tables. No condition.
-/
import Derived.Test.YtagekiaejhjpnaaRows
import Derived.Test.YtagekiaejhjpnaaPoolWakes
import Derived.Test.YtagekiaejhjpnaaPoolFold
import Derived.Test.YtagekiaejhjpnaaTabTrod
import Derived.Test.YtagekiaejhjpnaaRegion
import Derived.WalkKit
import Derived.Outline
import Derived.ProofKit
import Derived.OpenShut
import Derived.ShutString
import Derived.ChangeOld
import Derived.Below
import Derived.Deep.CondSized
namespace Go.Proofs.Ytagekiaejhjpnaa.poolFolded
open Go.ChangeShapes Go.WideShapes Go.ChangeAt Go.RowKit
open Go.ChangeMaps (open_string shut_string)
set_option linter.unusedVariables false

theorem own : ownKnob Try.prog.godebug = none := by kernel_rfl
theorem laidOut : laidOutB Try.prog = true := by kernel_rfl

theorem cmp3 (a b c : List RowI) : cmpT a b = 1 ∨ (cmpT a b = -1 ∧ cmpT b c = 1) ∨ (cmpT a b = -1 ∧ cmpT b c = -1 ∧ cmpT a c = -1) ∨ (cmpT a b = -1 ∧ cmpT b c = 0 ∧ cmpT a c = -1) ∨ (cmpT a b = 0 ∧ cmpT b c = -1 ∧ cmpT a c = -1) ∨ (cmpT a b = 0 ∧ cmpT b c = 0 ∧ cmpT a c = 0) ∨ (cmpT a b = 0 ∧ cmpT b c = 1 ∧ cmpT a c = 1) := by
  rcases cmpT_cases a b with ⟨h1, h2⟩ | ⟨rfl, h1, h2⟩ | ⟨-, -, h2⟩
  · rcases cmpT_cases b c with ⟨h3, h4⟩ | ⟨rfl, h3, h4⟩ | ⟨-, -, h4⟩
    · have h5 : tl a c = true := tlT.tr _ _ _ h1 h3
      have h6 : cmpT a c = -1 := by unfold cmpT; rw [if_pos h5]
      exact .inr (.inr (.inl ⟨h2, h4, h6⟩))
    · exact .inr (.inr (.inr (.inl ⟨h2, h4, h2⟩)))
    · exact .inr (.inl ⟨h2, h4⟩)
  · rcases cmpT_cases a c with ⟨h3, h4⟩ | ⟨rfl, h3, h4⟩ | ⟨-, -, h4⟩
    · exact .inr (.inr (.inr (.inr (.inl ⟨h2, h4, h4⟩))))
    · exact .inr (.inr (.inr (.inr (.inr (.inl ⟨h4, h4, h4⟩)))))
    · exact .inr (.inr (.inr (.inr (.inr (.inr ⟨h2, h4, h4⟩)))))
  · exact .inl h2
theorem tabs_new (w : World) (ps : List (Value × List RowI)) (h : ∀ x ∈ ps, RowsR w w.heap.size x.1 x.2) (hl : ps.length ≤ maxLen) : TabsP (w.alloc (.cells (ps.map Prod.fst).toArray 33)) (w.alloc (.cells (ps.map Prod.fst).toArray 33)).heap.size (.slice (some ⟨w.heap.size, 0, none⟩) ps.length ps.length) ps := by
  refine ⟨_, ps.length, rfl, Nat.le_refl _, hl, ?_, fun x hx => (h x hx).on ((Below.refl _ w).alloc (Nat.le_refl _) _)⟩
  have := reads_new w (ps.map Prod.fst).toArray 33 1 ps.length (by simp)
  rw [World.size_alloc]
  simpa using this
theorem tabsP_form {w : World} {B N : Nat} {v : Value} {ps : List (Value × List RowI)} (h : TabsP w B v ps) (hl : ps.length = N) : ∃ A c, v = .slice A N c ∧ N ≤ c ∧ c ≤ maxLen ∧ Reads w B 1 A N (ps.map Prod.fst) := by
  obtain ⟨A, c, e, h1, h2, h3, -⟩ := h
  subst hl
  exact ⟨A, c, e, h1, h2, h3⟩
theorem intsR_form {w : World} {B N : Nat} {v : Value} {ks : List Nat} (h : IntsR w B v ks) (hl : ks.length = N) : ∃ A c, v = .slice A N c ∧ N ≤ c ∧ c ≤ maxLen ∧ Reads w B 1 A N (ks.map fun k : Nat => Value.int .i64 (k : Int)) := by
  obtain ⟨A, c, e, h1, h2, h3⟩ := h
  subst hl
  exact ⟨A, c, e, h1, h2, h3⟩
theorem tabsP_tab {w : World} {B : Nat} {v : Value} {ps : List (Value × List RowI)} (h : TabsP w B v ps) {i : Nat} {t : List RowI} (ht : (ps.map Prod.snd)[i]? = some t) : ∃ A c, ps[i]? = some (.slice A t.length c, t) ∧ RowsR w B (.slice A t.length c) t := by
  obtain ⟨A, c, e, h1, h2, h3, h4⟩ := h
  rw [List.getElem?_map] at ht
  cases hx : ps[i]? with
  | none => rw [hx] at ht; cases ht
  | some x =>
    obtain ⟨xv, xl⟩ := x
    rw [hx] at ht
    cases ht
    have hr := h4 _ (List.mem_of_getElem? hx)
    obtain ⟨A5, c5, e5, -⟩ := id hr
    simp only at e5
    subst e5
    exact ⟨A5, c5, rfl, hr⟩
set_option maxRecDepth 100000 in
set_option maxHeartbeats 32000000 in
theorem folded_walk (va vb vc : Value) (a b c : List RowI) (w : World) (ha : RowsR w w.heap.size va a) (hb : RowsR w w.heap.size vb b) (hc : RowsR w w.heap.size vc c) (oa : RowsOk a) (ob : RowsOk b) (oc : RowsOk c)
    (la : a.length * 8 ≤ 140737488351232) (lb : b.length * 8 ≤ 140737488351232) (lc : c.length * 8 ≤ 140737488351232) :
    Calls Try.prog 7 #[va, vb, vc] w fun en w' => en = .returned (.bool true) ∧ Below w.heap.size w w' := by
  have HW := Lib.hid (fun W => pwakes_any W)
  have HTA := Lib.hid ha
  have HTB := Lib.hid hb
  have HTC := Lib.hid hc
  obtain ⟨A, ca, rfl, -⟩ := ha
  obtain ⟨B, cb, rfl, -⟩ := hb
  obtain ⟨C, cc, rfl, -⟩ := hc
  have HOK := Lib.hid (show ∀ t ∈ [a, b, c], RowsOk t from fun t ht => by simp at ht; rcases ht with rfl | rfl | rfl <;> assumption)
  have HSZ := Lib.hid (show ∀ t ∈ [a, b, c], t.length * 8 ≤ 140737488351232 from fun t ht => by simp at ht; rcases ht with rfl | rfl | rfl <;> assumption)
  have HFL := Lib.hid (cmpT_flip a b)
  have HC3 := Lib.hid (cmp3 a b c)
  clear oa ob oc la lb lc
  have HFO := Lib.hid (fun W (h : Below w.heap.size w W) => pfold_any _ [(Value.slice A a.length ca, a), (.slice B b.length cb, b), (.slice C c.length cc, c)] _ (tabs_new W _ (fun x hx => by
      simp at hx
      rcases hx with rfl | rfl | rfl
      · exact HTA.out.on h
      · exact HTB.out.on h
      · exact HTC.out.on h) (by simp [maxLen])) (fun x hx => by simp at hx; rcases hx with rfl | rfl | rfl <;> exact HOK.out _ (by simp)) (fun x hx => by simp at hx; rcases hx with rfl | rfl | rfl <;> exact HSZ.out _ (by simp)) (by simp))
  have HBA := Lib.hid (fun W (h : Below w.heap.size w W) => h.alloc h.size (.cells #[.slice A a.length ca, .slice B b.length cb, .slice C c.length cc] 33))
  by_cases hall : ∀ t ∈ [a, b, c], RiseL kl t
  · have HALL := Lib.hid hall
    clear hall
    go_enter Try.func7, Try.ntmps7
    go_upto_region 3 with (go_at_call 9; refine (HW.out _).mono ?_; rintro en w1 ⟨rfl, hB1⟩; have HB1 := Lib.hid hB1; clear hB1)
    go_upto_region 4 with (go_at_call 23; go_loud (refine (pfold_ok (HFO.out w1 HB1.out) HALL.out).mono ?_; rintro en w2 ⟨⟨v2, av2, pso, ks, rfl, hso, hto, -, -⟩, hb2⟩; have HSO := Lib.hid (show pso.map Prod.snd = poolL tl [a, b, c] from hso); have HTO := Lib.hid hto; obtain ⟨Ao, co, rfl, -, -, hro⟩ := tabsP_form hto (N := (poolL tl [a, b, c]).length) (by rw [← List.length_map (f := Prod.snd), hso]; rfl); have HRO := Lib.hid hro; have HB2 := Lib.hid ((HBA.out w1 HB1.out).trans (hb2.mono (HBA.out w1 HB1.out).size)); clear hso hto hro hb2))
    go_upto_region 5 with (first
      | (go_at_call_of 20 (#[Value.slice A a.length ca, Value.slice B b.length cb]); go_loud (refine (pcompare_any _ _ a b _ (HTA.out.on HB2.out) (HTB.out.on HB2.out)).mono ?_; rintro en w3 ⟨rfl, hg⟩; have HG3 := Lib.hid hg.below; have HB3 := Lib.hid (HB2.out.trans (hg.below.mono HB2.out.size)); clear hg))
      | (go_at_call_of 20 (#[Value.slice B b.length cb, Value.slice C c.length cc]); go_loud (refine (pcompare_any _ _ b c _ (HTB.out.on HB3.out) (HTC.out.on HB3.out)).mono ?_; rintro en w4 ⟨rfl, hg⟩; have HG4 := Lib.hid (HG3.out.trans (hg.below.mono HG3.out.size)); have HB4 := Lib.hid (HB3.out.trans (hg.below.mono HB3.out.size)); clear hg))
      | (go_at_call_of 20 (#[Value.slice A a.length ca, Value.slice C c.length cc]); go_loud (refine (pcompare_any _ _ a c _ (HTA.out.on HB4.out) (HTC.out.on HB4.out)).mono ?_; rintro en w5 ⟨rfl, hg⟩; have HG5 := Lib.hid (HG4.out.trans (hg.below.mono HG4.out.size)); have HB5 := Lib.hid (HB4.out.trans (hg.below.mono HB4.out.size)); clear hg)))
    have HCB := Lib.hid (show Calls Try.prog 20 #[.slice B b.length cb, .slice A a.length ca] w5 (fun e w' => e = .returned (.int .i64 (cmpT b a)) ∧ Grew w5 w') from pcompare_any _ _ b a w5 (HTB.out.on HB5.out) (HTA.out.on HB5.out))
    rw [HFL.out] at HCB
    clear HFL
    generalize hX : cmpT a b = X at *
    generalize hY : cmpT b c = Y at *
    generalize hZ : cmpT a c = Z at *
    clear hX hY hZ
    go_cut [63] (fun s63 wx => s63 = .bool false ∧ Below w.heap.size w wx ∧ Below w2.heap.size w2 wx)
    case first =>
      rcases HC3.out with rfl | ⟨rfl, rfl⟩ | ⟨rfl, rfl, rfl⟩ | ⟨rfl, rfl, rfl⟩ | ⟨rfl, rfl, rfl⟩ | ⟨rfl, rfl, rfl⟩ | ⟨rfl, rfl, rfl⟩
      all_goals
        go_wp2_with (go_at_call 20; go_loud (refine HCB.out.mono ?_; rintro en w6 ⟨rfl, hg⟩; have HG6 := Lib.hid (HG5.out.trans (hg.below.mono HG5.out.size)); have HB6 := Lib.hid (HB5.out.trans (hg.below.mono HB5.out.size)); clear hg))
        go_meet
        exact ⟨rfl, HB6.out, HG6.out⟩
    case rest =>
      obtain ⟨rfl, hB6, hG6⟩ := hcut
      have HB6 := Lib.hid hB6
      have HG6 := Lib.hid hG6
      clear hB6 hG6 HCB HC3
      have HTN := Lib.hid (show pso.length = (poolL tl [a, b, c]).length by rw [← List.length_map (f := Prod.snd), HSO.out])
      have HTR := Lib.hid (poolL_rise tlT [a, b, c])
      have HTM := Lib.hid (fun t (h : t ∈ poolL tl [a, b, c]) => (poolL_mem [a, b, c] t).1 h)
      have HTL := Lib.hid (poolL_len (lt := tl) [a, b, c])
      generalize poolL tl [a, b, c] = T at *
      have hTL : T.length ≤ 3 := HTL.out
      generalize hN : T.length = N at *
      have HN := Lib.hid hN
      clear hN
      have hNi : (N : Int) ≤ 3 := by omega
      have HF2 := Lib.hid (pfold_ok (pfold_any _ pso wc (HTO.out.on HG6.out) (fun x hx => HOK.out _ (HTM.out _ (by rw [← HSO.out]; exact List.mem_map.2 ⟨x, hx, rfl⟩))) (fun x hx => HSZ.out _ (HTM.out _ (by rw [← HSO.out]; exact List.mem_map.2 ⟨x, hx, rfl⟩))) (by rw [HTN.out]; omega)) (fun t ht => HALL.out t (HTM.out t (by rw [← HSO.out]; exact ht))))
      rw [HSO.out, poolL_self tlT HTR.out] at HF2
      obtain ⟨Ap, cp, ep, -⟩ := HTO.out
      rw [HTN.out] at ep
      injection ep with ep1 ep2 ep3
      subst ep1
      subst ep3
      clear ep2
      go_upto_region 10 with (go_at_call 23; go_loud (refine HF2.out.mono ?_; rintro en w7 ⟨⟨v3, av3, ps3, ks3, rfl, hs3, ht3, hi3, hf3⟩, hb7⟩; have HS3 := Lib.hid hs3; have HT3 := Lib.hid ht3; have HF3 := Lib.hid hf3; obtain ⟨A8, ca8, rfl, -, -, hr8⟩ := tabsP_form ht3 (N := N) (by rw [← List.length_map (f := Prod.snd), hs3, HN.out]); obtain ⟨A7, ck, rfl, -, -, hr7⟩ := intsR_form hi3 (N := N) (by rw [hf3.1, HN.out]); have HR8 := Lib.hid hr8; have HR7 := Lib.hid hr7; have HB7 := Lib.hid (HB6.out.trans (hb7.mono HB6.out.size)); have HG7 := Lib.hid (HG6.out.trans (hb7.mono HG6.out.size)); clear hs3 ht3 hi3 hf3 hr8 hr7 hb7))
      have HT27 := Lib.hid (HTO.out.on HG7.out)
      have HR27 := Lib.hid ((HRO.out.below HG7.out).more HG7.out.size)
      clear HF2 HFO HBA HW
      go_wp2
      go_loopw [93] (fun iv wr => ∃ q : Nat, iv = .int .i64 (q : Int) ∧ q ≤ N ∧ Below w7.heap.size w7 wr) (fun iv _ => N - (Lib.intOf iv).toNat)
      case atStart => exact ⟨0, rfl, Nat.zero_le _, Below.refl _ _⟩
      case round =>
        obtain ⟨q, rfl, hqN, hB8⟩ := hrel
        have HB8 := Lib.hid hB8
        clear hB8
        by_cases hlt : q < N
        · obtain ⟨t, ht⟩ := at_lt (l := T) (p := q) (by rw [HN.out]; exact hlt)
          have hq2 : (q : Int) < (N : Int) := by omega
          have hq3 : (0 : Int) ≤ (q : Int) := by omega
          obtain ⟨A8, c8, hx8, hr8⟩ := tabsP_tab HT3.out (i := q) (t := t) (by rw [HS3.out]; exact ht)
          obtain ⟨A5, c5, hx5, hr5⟩ := tabsP_tab HT27.out (i := q) (t := t) (by rw [HSO.out]; exact ht)
          have hkq : ks3[q]? = some q := by
            obtain ⟨k, hk, hkt⟩ := HF3.out.2 q t ht
            rw [poolL_self tlT HTR.out] at hkt
            rw [hk, rise_inj tlT HTR.out hkt ht]
          obtain ⟨b8, o8, rfl, hb8', hcl8⟩ := (HR8.out.below HB8.out).spot (by omega) (by omega)
          obtain ⟨b5, o5, rfl, hb5', hcl5⟩ := (HR27.out.below HB8.out).spot (by omega) (by omega)
          obtain ⟨b7, o7, rfl, hb7', hcl7⟩ := (HR7.out.below HB8.out).spot (by omega) (by omega)
          have r8 : wr.cell? ⟨b8, o8 + q, none⟩ = some (.slice A8 t.length c8) := hcl8 _ _ (tab_cell hx8)
          have r5 : wr.cell? ⟨b5, o5 + q, none⟩ = some (.slice A5 t.length c5) := hcl5 _ _ (tab_cell hx5)
          have r7 : wr.cell? ⟨b7, o7 + q, none⟩ = some (.int .i64 (q : Int)) := hcl7 _ _ (by simp [hkq])
          have hb8 : b8 < wr.heap.size := Nat.lt_of_lt_of_le hb8' HB8.out.size
          have hb5 : b5 < wr.heap.size := Nat.lt_of_lt_of_le hb5' HB8.out.size
          have hb7 : b7 < wr.heap.size := Nat.lt_of_lt_of_le hb7' HB8.out.size
          have H8 := Lib.hid (hr8.on HB8.out)
          have H5 := Lib.hid (hr5.on HB8.out)
          have HXT := Lib.hid ht
          clear hcl8 hcl7 hx8 hx5 hr8 hr5 hkq hb8' hb7'
          by_cases hq0 : 0 < q
          · have hd1 : decide (0 < q) = true := by simpa using hq0
            have hd2 : decide ((0 : Int) < (q : Int)) = true := by simp; omega
            obtain ⟨t4, ht4⟩ := at_lt (l := T) (p := q - 1) (by rw [HN.out]; omega)
            obtain ⟨A4, c4, hx4, hr4⟩ := tabsP_tab HT27.out (i := q - 1) (t := t4) (by rw [HSO.out]; exact ht4)
            have r4 : wr.cell? ⟨b5, o5 + (q - 1), none⟩ = some (.slice A4 t4.length c4) := hcl5 _ _ (tab_cell hx4)
            have H4 := Lib.hid (hr4.on HB8.out)
            have HNEG := Lib.hid (show cmpT t4 t = -1 by unfold cmpT; rw [if_pos (rise_at HTR.out ht4 ht (by omega))])
            have hws : IntKind.i64.wrap ((q : Int) - 1) = (q : Int) - 1 := IntWalk.i64_in _ (by omega)
            have hs1 : ((q : Int) - 1).toNat = q - 1 := by omega
            have hs2 : (0 : Int) ≤ (q : Int) - 1 := by omega
            have hs3 : (1 : Int) ≤ (q : Int) := by omega
            have hs4 : (q : Int) - 1 < (N : Int) := by omega
            clear hcl5 hx4 hr4 ht4 ht hb5'
            go_upto_region 15 with (fail)
            refine wp_region_facts (by kernel_rfl) [(96, Fact.is (.slice (some ⟨b7, o7, none⟩) N ck)), (97, Fact.is (.int .i64 (q : Int))), (98, Fact.is (.pointer (some ⟨b7, o7 + q, none⟩))), (99, Fact.is (.int .i64 (q : Int))), (100, Fact.is (.int .i64 (q : Int))), (101, Fact.is (.bool false)), (102, Fact.is (.bool false)), (103, Fact.is (.slice (some ⟨b8, o8, none⟩) N ca8)), (104, Fact.is (.int .i64 (q : Int))), (105, Fact.is (.pointer (some ⟨b8, o8 + q, none⟩))), (106, Fact.is (.slice A8 t.length c8)), (107, Fact.is (.slice (some ⟨b5, o5, none⟩) N co)), (108, Fact.is (.int .i64 (q : Int))), (109, Fact.is (.pointer (some ⟨b5, o5 + q, none⟩))), (110, Fact.is (.slice A5 t.length c5)), (111, Fact.is (.int .i64 0)), (112, Fact.is (.bool false)), (113, Fact.is (.bool false)), (114, Fact.is (.bool false)), (115, Fact.is (.int .i64 (q : Int))), (116, Fact.is (.bool true)), (117, Fact.is (.bool true)), (118, Fact.is (.slice (some ⟨b5, o5, none⟩) N co)), (119, Fact.is (.int .i64 (q : Int))), (120, Fact.is (.int .i64 ((q : Int) - 1))), (121, Fact.is (.pointer (some ⟨b5, o5 + (q - 1), none⟩))), (122, Fact.is (.slice A4 t4.length c4)), (123, Fact.is (.slice (some ⟨b5, o5, none⟩) N co)), (124, Fact.is (.int .i64 (q : Int))), (125, Fact.is (.pointer (some ⟨b5, o5 + q, none⟩))), (126, Fact.is (.slice A5 t.length c5)), (127, Fact.is (.int .i64 (-1))), (128, Fact.is (.bool false)), (129, Fact.is (.bool false)), (130, Fact.is (.bool false))] [false, false, false, false, false, false, false, false, false, false, false, false, false, false, false, false, false, false, false, false, false, false, false, false, false, false, false, false, false, false, false, false, false, false, false, false, false, false, false, false, false, false, false, false, false, false, false, false, false, false, false, false, false, false, false, false, false, false, false, false, false, false, false, false, false, false, false, false, false, false, false, false, false, false, false, false, false, false, false, false, false, false, false, false, false, false, false, false, false, false, false, false, false, false, false, false, true, true, true, true, true, true, true, true, true, true, true, true, true, true, true, true, true, true, true, true, true, true, true, true, true, true, true, true, true, true, true, true, true, true, true, false] (by kernel_rfl) (by kernel_rfl) ?_ ?_
            · refine ⟨?_, ?_, ?_, ?_, ?_, ?_, ?_, ?_, ?_, ?_, ?_, ?_, ?_, ?_, ?_, ?_, ?_, ?_, ?_, ?_, ?_, ?_, ?_, ?_, ?_, ?_, ?_, ?_, ?_, ?_, ?_, ?_, ?_, ?_, ?_, trivial⟩
              · intro s ww hE hs hl K hK
                clear hs hl
                simp only [frameM, fillM, Nat.reduceAdd, Act.put, List.setIfInBounds_toArray, List.set_cons_succ, List.set_cons_zero] at hK ⊢
                go_simp
                exact hK _ _ (Below.refl _ _) rfl
              · intro s ww hE hs hl K hK
                clear hs hl
                simp only [frameM, fillM, Nat.reduceAdd, Act.put, List.setIfInBounds_toArray, List.set_cons_succ, List.set_cons_zero] at hK ⊢
                go_simp
                exact hK _ _ (Below.refl _ _) rfl
              · intro s ww hE hs hl K hK
                have h96 : s 96 = .slice (some ⟨b7, o7, none⟩) N ck := hs 96 (by kernel_rfl)
                have h97 : s 97 = .int .i64 (q : Int) := hs 97 (by kernel_rfl)
                clear hs hl
                simp only [frameM, fillM, Nat.reduceAdd, Act.put, List.setIfInBounds_toArray, List.set_cons_succ, List.set_cons_zero, h96, h97] at hK ⊢
                go_simp
                exact hK _ _ (Below.refl _ _) rfl
              · intro s ww hE hs hl K hK
                have h98 : s 98 = .pointer (some ⟨b7, o7 + q, none⟩) := hs 98 (by kernel_rfl)
                clear hs hl
                have cq := (hE.cell (p := _) hb7).trans r7
                simp only [frameM, fillM, Nat.reduceAdd, Act.put, List.setIfInBounds_toArray, List.set_cons_succ, List.set_cons_zero, h98] at hK ⊢
                go_simp
                exact hK _ _ (Below.refl _ _) rfl
              · intro s ww hE hs hl K hK
                clear hs hl
                simp only [frameM, fillM, Nat.reduceAdd, Act.put, List.setIfInBounds_toArray, List.set_cons_succ, List.set_cons_zero] at hK ⊢
                go_simp
                exact hK _ _ (Below.refl _ _) rfl
              · intro s ww hE hs hl K hK
                have h99 : s 99 = .int .i64 (q : Int) := hs 99 (by kernel_rfl)
                have h100 : s 100 = .int .i64 (q : Int) := hs 100 (by kernel_rfl)
                clear hs hl
                simp only [frameM, fillM, Nat.reduceAdd, Act.put, List.setIfInBounds_toArray, List.set_cons_succ, List.set_cons_zero, h99, h100] at hK ⊢
                go_simp
                exact hK _ _ (Below.refl _ _) rfl
              · intro s ww hE hs hl K hK
                have h101 : s 101 = .bool false := hs 101 (by kernel_rfl)
                clear hs hl
                simp only [frameM, fillM, Nat.reduceAdd, Act.put, List.setIfInBounds_toArray, List.set_cons_succ, List.set_cons_zero, h101] at hK ⊢
                go_simp
                exact hK _ _ (Below.refl _ _) rfl
              · intro s ww hE hs hl K hK
                have h102 : s 102 = .bool false := hs 102 (by kernel_rfl)
                clear hs hl
                simp only [frameM, fillM, Nat.reduceAdd, Act.put, List.setIfInBounds_toArray, List.set_cons_succ, List.set_cons_zero, h102] at hK ⊢
                go_simp
                exact hK _ _ (Below.refl _ _) rfl
              · intro s ww hE hs hl K hK
                have h102 : s 102 = .bool false := hs 102 (by kernel_rfl)
                clear hs hl
                simp only [frameM, fillM, Nat.reduceAdd, Act.put, List.setIfInBounds_toArray, List.set_cons_succ, List.set_cons_zero, h102] at hK ⊢
                go_simp
                exact hK _ _ (Below.refl _ _) rfl
              · intro s ww hE hs hl K hK
                have h103 : s 103 = .slice (some ⟨b8, o8, none⟩) N ca8 := hs 103 (by kernel_rfl)
                have h104 : s 104 = .int .i64 (q : Int) := hs 104 (by kernel_rfl)
                have h102 : s 102 = .bool false := hs 102 (by kernel_rfl)
                clear hs hl
                simp only [frameM, fillM, Nat.reduceAdd, Act.put, List.setIfInBounds_toArray, List.set_cons_succ, List.set_cons_zero, h103, h104, h102] at hK ⊢
                go_simp
                exact hK _ _ (Below.refl _ _) rfl
              · intro s ww hE hs hl K hK
                have h105 : s 105 = .pointer (some ⟨b8, o8 + q, none⟩) := hs 105 (by kernel_rfl)
                have h102 : s 102 = .bool false := hs 102 (by kernel_rfl)
                clear hs hl
                have cq := (hE.cell (p := _) hb8).trans r8
                simp only [frameM, fillM, Nat.reduceAdd, Act.put, List.setIfInBounds_toArray, List.set_cons_succ, List.set_cons_zero, h105, h102] at hK ⊢
                go_simp
                exact hK _ _ (Below.refl _ _) rfl
              · intro s ww hE hs hl K hK
                have h102 : s 102 = .bool false := hs 102 (by kernel_rfl)
                clear hs hl
                simp only [frameM, fillM, Nat.reduceAdd, Act.put, List.setIfInBounds_toArray, List.set_cons_succ, List.set_cons_zero, h102] at hK ⊢
                go_simp
                exact hK _ _ (Below.refl _ _) rfl
              · intro s ww hE hs hl K hK
                have h102 : s 102 = .bool false := hs 102 (by kernel_rfl)
                clear hs hl
                simp only [frameM, fillM, Nat.reduceAdd, Act.put, List.setIfInBounds_toArray, List.set_cons_succ, List.set_cons_zero, h102] at hK ⊢
                go_simp
                exact hK _ _ (Below.refl _ _) rfl
              · intro s ww hE hs hl K hK
                have h107 : s 107 = .slice (some ⟨b5, o5, none⟩) N co := hs 107 (by kernel_rfl)
                have h108 : s 108 = .int .i64 (q : Int) := hs 108 (by kernel_rfl)
                have h102 : s 102 = .bool false := hs 102 (by kernel_rfl)
                clear hs hl
                simp only [frameM, fillM, Nat.reduceAdd, Act.put, List.setIfInBounds_toArray, List.set_cons_succ, List.set_cons_zero, h107, h108, h102] at hK ⊢
                go_simp
                exact hK _ _ (Below.refl _ _) rfl
              · intro s ww hE hs hl K hK
                have h109 : s 109 = .pointer (some ⟨b5, o5 + q, none⟩) := hs 109 (by kernel_rfl)
                have h102 : s 102 = .bool false := hs 102 (by kernel_rfl)
                clear hs hl
                have cq := (hE.cell (p := _) hb5).trans r5
                simp only [frameM, fillM, Nat.reduceAdd, Act.put, List.setIfInBounds_toArray, List.set_cons_succ, List.set_cons_zero, h109, h102] at hK ⊢
                go_simp
                exact hK _ _ (Below.refl _ _) rfl
              · intro s ww hE hs hl K hK
                have h106 : s 106 = .slice A8 t.length c8 := hs 106 (by kernel_rfl)
                have h110 : s 110 = .slice A5 t.length c5 := hs 110 (by kernel_rfl)
                have h102 : s 102 = .bool false := hs 102 (by kernel_rfl)
                clear hs hl
                simp only [frameM, fillM, Nat.reduceAdd, Act.put, List.setIfInBounds_toArray, List.set_cons_succ, List.set_cons_zero, h106, h110, h102] at hK ⊢
                go_simp
                go_at_call 20
                refine (pcompare_any _ _ _ _ ww (H8.out.on hE) (H5.out.on hE)).mono ?_
                rintro e we ⟨rfl, hg⟩
                exact hK _ _ hg.below (by show Value.int .i64 (cmpT _ _) = _; rw [cmpT_self])
              · intro s ww hE hs hl K hK
                have h111 : s 111 = .int .i64 0 := hs 111 (by kernel_rfl)
                have h102 : s 102 = .bool false := hs 102 (by kernel_rfl)
                clear hs hl
                simp only [frameM, fillM, Nat.reduceAdd, Act.put, List.setIfInBounds_toArray, List.set_cons_succ, List.set_cons_zero, h111, h102] at hK ⊢
                go_simp
                exact hK _ _ (Below.refl _ _) rfl
              · intro s ww hE hs hl K hK
                have h102 : s 102 = .bool false := hs 102 (by kernel_rfl)
                have h112 : s 112 = .bool false := hs 112 (by kernel_rfl)
                clear hs hl
                simp only [frameM, fillM, Nat.reduceAdd, Act.put, List.setIfInBounds_toArray, List.set_cons_succ, List.set_cons_zero, h102, h112] at hK ⊢
                go_simp
                exact hK _ _ (Below.refl _ _) rfl
              · intro s ww hE hs hl K hK
                have h113 : s 113 = .bool false := hs 113 (by kernel_rfl)
                clear hs hl
                simp only [frameM, fillM, Nat.reduceAdd, Act.put, List.setIfInBounds_toArray, List.set_cons_succ, List.set_cons_zero, h113] at hK ⊢
                go_simp
                exact hK _ _ (Below.refl _ _) rfl
              · intro s ww hE hs hl K hK
                have h114 : s 114 = .bool false := hs 114 (by kernel_rfl)
                clear hs hl
                simp only [frameM, fillM, Nat.reduceAdd, Act.put, List.setIfInBounds_toArray, List.set_cons_succ, List.set_cons_zero, h114] at hK ⊢
                go_simp
                exact hK _ _ (Below.refl _ _) rfl
              · intro s ww hE hs hl K hK
                have h115 : s 115 = .int .i64 (q : Int) := hs 115 (by kernel_rfl)
                have h114 : s 114 = .bool false := hs 114 (by kernel_rfl)
                clear hs hl
                simp only [frameM, fillM, Nat.reduceAdd, Act.put, List.setIfInBounds_toArray, List.set_cons_succ, List.set_cons_zero, h115, h114] at hK ⊢
                go_simp
                exact hK _ _ (Below.refl _ _) rfl
              · intro s ww hE hs hl K hK
                have h116 : s 116 = .bool true := hs 116 (by kernel_rfl)
                have h114 : s 114 = .bool false := hs 114 (by kernel_rfl)
                clear hs hl
                simp only [frameM, fillM, Nat.reduceAdd, Act.put, List.setIfInBounds_toArray, List.set_cons_succ, List.set_cons_zero, h116, h114] at hK ⊢
                go_simp
                exact hK _ _ (Below.refl _ _) rfl
              · intro s ww hE hs hl K hK
                have h117 : s 117 = .bool true := hs 117 (by kernel_rfl)
                clear hs hl
                simp only [frameM, fillM, Nat.reduceAdd, Act.put, List.setIfInBounds_toArray, List.set_cons_succ, List.set_cons_zero, h117] at hK ⊢
                go_simp
                exact hK _ _ (Below.refl _ _) rfl
              · intro s ww hE hs hl K hK
                have h117 : s 117 = .bool true := hs 117 (by kernel_rfl)
                clear hs hl
                simp only [frameM, fillM, Nat.reduceAdd, Act.put, List.setIfInBounds_toArray, List.set_cons_succ, List.set_cons_zero, h117] at hK ⊢
                go_simp
                exact hK _ _ (Below.refl _ _) rfl
              · intro s ww hE hs hl K hK
                have h119 : s 119 = .int .i64 (q : Int) := hs 119 (by kernel_rfl)
                have h117 : s 117 = .bool true := hs 117 (by kernel_rfl)
                clear hs hl
                simp only [frameM, fillM, Nat.reduceAdd, Act.put, List.setIfInBounds_toArray, List.set_cons_succ, List.set_cons_zero, h119, h117] at hK ⊢
                go_simp
                exact hK _ _ (Below.refl _ _) rfl
              · intro s ww hE hs hl K hK
                have h118 : s 118 = .slice (some ⟨b5, o5, none⟩) N co := hs 118 (by kernel_rfl)
                have h120 : s 120 = .int .i64 ((q : Int) - 1) := hs 120 (by kernel_rfl)
                have h117 : s 117 = .bool true := hs 117 (by kernel_rfl)
                clear hs hl
                simp only [frameM, fillM, Nat.reduceAdd, Act.put, List.setIfInBounds_toArray, List.set_cons_succ, List.set_cons_zero, h118, h120, h117] at hK ⊢
                go_simp
                exact hK _ _ (Below.refl _ _) rfl
              · intro s ww hE hs hl K hK
                have h121 : s 121 = .pointer (some ⟨b5, o5 + (q - 1), none⟩) := hs 121 (by kernel_rfl)
                have h117 : s 117 = .bool true := hs 117 (by kernel_rfl)
                clear hs hl
                have cq := (hE.cell (p := _) hb5).trans r4
                simp only [frameM, fillM, Nat.reduceAdd, Act.put, List.setIfInBounds_toArray, List.set_cons_succ, List.set_cons_zero, h121, h117] at hK ⊢
                go_simp
                exact hK _ _ (Below.refl _ _) rfl
              · intro s ww hE hs hl K hK
                have h117 : s 117 = .bool true := hs 117 (by kernel_rfl)
                clear hs hl
                simp only [frameM, fillM, Nat.reduceAdd, Act.put, List.setIfInBounds_toArray, List.set_cons_succ, List.set_cons_zero, h117] at hK ⊢
                go_simp
                exact hK _ _ (Below.refl _ _) rfl
              · intro s ww hE hs hl K hK
                have h117 : s 117 = .bool true := hs 117 (by kernel_rfl)
                clear hs hl
                simp only [frameM, fillM, Nat.reduceAdd, Act.put, List.setIfInBounds_toArray, List.set_cons_succ, List.set_cons_zero, h117] at hK ⊢
                go_simp
                exact hK _ _ (Below.refl _ _) rfl
              · intro s ww hE hs hl K hK
                have h123 : s 123 = .slice (some ⟨b5, o5, none⟩) N co := hs 123 (by kernel_rfl)
                have h124 : s 124 = .int .i64 (q : Int) := hs 124 (by kernel_rfl)
                have h117 : s 117 = .bool true := hs 117 (by kernel_rfl)
                clear hs hl
                simp only [frameM, fillM, Nat.reduceAdd, Act.put, List.setIfInBounds_toArray, List.set_cons_succ, List.set_cons_zero, h123, h124, h117] at hK ⊢
                go_simp
                exact hK _ _ (Below.refl _ _) rfl
              · intro s ww hE hs hl K hK
                have h125 : s 125 = .pointer (some ⟨b5, o5 + q, none⟩) := hs 125 (by kernel_rfl)
                have h117 : s 117 = .bool true := hs 117 (by kernel_rfl)
                clear hs hl
                have cq := (hE.cell (p := _) hb5).trans r5
                simp only [frameM, fillM, Nat.reduceAdd, Act.put, List.setIfInBounds_toArray, List.set_cons_succ, List.set_cons_zero, h125, h117] at hK ⊢
                go_simp
                exact hK _ _ (Below.refl _ _) rfl
              · intro s ww hE hs hl K hK
                have h122 : s 122 = .slice A4 t4.length c4 := hs 122 (by kernel_rfl)
                have h126 : s 126 = .slice A5 t.length c5 := hs 126 (by kernel_rfl)
                have h117 : s 117 = .bool true := hs 117 (by kernel_rfl)
                clear hs hl
                simp only [frameM, fillM, Nat.reduceAdd, Act.put, List.setIfInBounds_toArray, List.set_cons_succ, List.set_cons_zero, h122, h126, h117] at hK ⊢
                go_simp
                go_at_call 20
                refine (pcompare_any _ _ _ _ ww (H4.out.on hE) (H5.out.on hE)).mono ?_
                rintro e we ⟨rfl, hg⟩
                exact hK _ _ hg.below (by show Value.int .i64 (cmpT _ _) = _; rw [HNEG.out])
              · intro s ww hE hs hl K hK
                have h127 : s 127 = .int .i64 (-1) := hs 127 (by kernel_rfl)
                have h117 : s 117 = .bool true := hs 117 (by kernel_rfl)
                clear hs hl
                simp only [frameM, fillM, Nat.reduceAdd, Act.put, List.setIfInBounds_toArray, List.set_cons_succ, List.set_cons_zero, h127, h117] at hK ⊢
                go_simp
                exact hK _ _ (Below.refl _ _) rfl
              · intro s ww hE hs hl K hK
                have h117 : s 117 = .bool true := hs 117 (by kernel_rfl)
                have h128 : s 128 = .bool false := hs 128 (by kernel_rfl)
                have h114 : s 114 = .bool false := hs 114 (by kernel_rfl)
                clear hs hl
                simp only [frameM, fillM, Nat.reduceAdd, Act.put, List.setIfInBounds_toArray, List.set_cons_succ, List.set_cons_zero, h117, h128, h114] at hK ⊢
                go_simp
                exact hK _ _ (Below.refl _ _) rfl
              · intro s ww hE hs hl K hK
                have h114 : s 114 = .bool false := hs 114 (by kernel_rfl)
                have h129 : s 129 = .bool false := hs 129 (by kernel_rfl)
                clear hs hl
                simp only [frameM, fillM, Nat.reduceAdd, Act.put, List.setIfInBounds_toArray, List.set_cons_succ, List.set_cons_zero, h114, h129] at hK ⊢
                go_simp
                exact hK _ _ (Below.refl _ _) rfl
            · intro s ww hE hs
              have h130 : s 130 = .bool false := hs 130 (by kernel_rfl)
              clear hs
              simp only [frameM, fillM, Nat.reduceAdd]
              simp only [h130]
              clear h130
              have HEE := Lib.hid (HB8.out.trans (hE.mono HB8.out.size))
              clear hE
              go_wp2
              go_roundw
              case rel => exact ⟨q + 1, by go_num, hlt, HEE.out⟩
              case measure => simp [Lib.intOf]; omega
          · have hd1 : decide (0 < q) = false := by simpa using hq0
            have hd2 : decide ((0 : Int) < (q : Int)) = false := by simp; omega
            clear hcl5 ht hb5'
            go_upto_region 15 with (fail)
            refine wp_region_facts (by kernel_rfl) [(96, Fact.is (.slice (some ⟨b7, o7, none⟩) N ck)), (97, Fact.is (.int .i64 (q : Int))), (98, Fact.is (.pointer (some ⟨b7, o7 + q, none⟩))), (99, Fact.is (.int .i64 (q : Int))), (100, Fact.is (.int .i64 (q : Int))), (101, Fact.is (.bool false)), (102, Fact.is (.bool false)), (103, Fact.is (.slice (some ⟨b8, o8, none⟩) N ca8)), (104, Fact.is (.int .i64 (q : Int))), (105, Fact.is (.pointer (some ⟨b8, o8 + q, none⟩))), (106, Fact.is (.slice A8 t.length c8)), (107, Fact.is (.slice (some ⟨b5, o5, none⟩) N co)), (108, Fact.is (.int .i64 (q : Int))), (109, Fact.is (.pointer (some ⟨b5, o5 + q, none⟩))), (110, Fact.is (.slice A5 t.length c5)), (111, Fact.is (.int .i64 0)), (112, Fact.is (.bool false)), (113, Fact.is (.bool false)), (114, Fact.is (.bool false)), (115, Fact.is (.int .i64 (q : Int))), (116, Fact.is (.bool false)), (117, Fact.is (.bool false)), (118, Fact.is (undef)), (119, Fact.is (undef)), (120, Fact.is (undef)), (121, Fact.is (undef)), (122, Fact.is (undef)), (123, Fact.is (undef)), (124, Fact.is (undef)), (125, Fact.is (undef)), (126, Fact.is (undef)), (127, Fact.is (undef)), (128, Fact.is (undef)), (129, Fact.is (.bool false)), (130, Fact.is (.bool false))] [false, false, false, false, false, false, false, false, false, false, false, false, false, false, false, false, false, false, false, false, false, false, false, false, false, false, false, false, false, false, false, false, false, false, false, false, false, false, false, false, false, false, false, false, false, false, false, false, false, false, false, false, false, false, false, false, false, false, false, false, false, false, false, false, false, false, false, false, false, false, false, false, false, false, false, false, false, false, false, false, false, false, false, false, false, false, false, false, false, false, false, false, false, false, false, false, true, true, true, true, true, true, true, true, true, true, true, true, true, true, true, true, true, true, true, true, true, true, true, true, true, true, true, true, true, true, true, true, true, true, true, false] (by kernel_rfl) (by kernel_rfl) ?_ ?_
            · refine ⟨?_, ?_, ?_, ?_, ?_, ?_, ?_, ?_, ?_, ?_, ?_, ?_, ?_, ?_, ?_, ?_, ?_, ?_, ?_, ?_, ?_, ?_, ?_, ?_, ?_, ?_, ?_, ?_, ?_, ?_, ?_, ?_, ?_, ?_, ?_, trivial⟩
              · intro s ww hE hs hl K hK
                clear hs hl
                simp only [frameM, fillM, Nat.reduceAdd, Act.put, List.setIfInBounds_toArray, List.set_cons_succ, List.set_cons_zero] at hK ⊢
                go_simp
                exact hK _ _ (Below.refl _ _) rfl
              · intro s ww hE hs hl K hK
                clear hs hl
                simp only [frameM, fillM, Nat.reduceAdd, Act.put, List.setIfInBounds_toArray, List.set_cons_succ, List.set_cons_zero] at hK ⊢
                go_simp
                exact hK _ _ (Below.refl _ _) rfl
              · intro s ww hE hs hl K hK
                have h96 : s 96 = .slice (some ⟨b7, o7, none⟩) N ck := hs 96 (by kernel_rfl)
                have h97 : s 97 = .int .i64 (q : Int) := hs 97 (by kernel_rfl)
                clear hs hl
                simp only [frameM, fillM, Nat.reduceAdd, Act.put, List.setIfInBounds_toArray, List.set_cons_succ, List.set_cons_zero, h96, h97] at hK ⊢
                go_simp
                exact hK _ _ (Below.refl _ _) rfl
              · intro s ww hE hs hl K hK
                have h98 : s 98 = .pointer (some ⟨b7, o7 + q, none⟩) := hs 98 (by kernel_rfl)
                clear hs hl
                have cq := (hE.cell (p := _) hb7).trans r7
                simp only [frameM, fillM, Nat.reduceAdd, Act.put, List.setIfInBounds_toArray, List.set_cons_succ, List.set_cons_zero, h98] at hK ⊢
                go_simp
                exact hK _ _ (Below.refl _ _) rfl
              · intro s ww hE hs hl K hK
                clear hs hl
                simp only [frameM, fillM, Nat.reduceAdd, Act.put, List.setIfInBounds_toArray, List.set_cons_succ, List.set_cons_zero] at hK ⊢
                go_simp
                exact hK _ _ (Below.refl _ _) rfl
              · intro s ww hE hs hl K hK
                have h99 : s 99 = .int .i64 (q : Int) := hs 99 (by kernel_rfl)
                have h100 : s 100 = .int .i64 (q : Int) := hs 100 (by kernel_rfl)
                clear hs hl
                simp only [frameM, fillM, Nat.reduceAdd, Act.put, List.setIfInBounds_toArray, List.set_cons_succ, List.set_cons_zero, h99, h100] at hK ⊢
                go_simp
                exact hK _ _ (Below.refl _ _) rfl
              · intro s ww hE hs hl K hK
                have h101 : s 101 = .bool false := hs 101 (by kernel_rfl)
                clear hs hl
                simp only [frameM, fillM, Nat.reduceAdd, Act.put, List.setIfInBounds_toArray, List.set_cons_succ, List.set_cons_zero, h101] at hK ⊢
                go_simp
                exact hK _ _ (Below.refl _ _) rfl
              · intro s ww hE hs hl K hK
                have h102 : s 102 = .bool false := hs 102 (by kernel_rfl)
                clear hs hl
                simp only [frameM, fillM, Nat.reduceAdd, Act.put, List.setIfInBounds_toArray, List.set_cons_succ, List.set_cons_zero, h102] at hK ⊢
                go_simp
                exact hK _ _ (Below.refl _ _) rfl
              · intro s ww hE hs hl K hK
                have h102 : s 102 = .bool false := hs 102 (by kernel_rfl)
                clear hs hl
                simp only [frameM, fillM, Nat.reduceAdd, Act.put, List.setIfInBounds_toArray, List.set_cons_succ, List.set_cons_zero, h102] at hK ⊢
                go_simp
                exact hK _ _ (Below.refl _ _) rfl
              · intro s ww hE hs hl K hK
                have h103 : s 103 = .slice (some ⟨b8, o8, none⟩) N ca8 := hs 103 (by kernel_rfl)
                have h104 : s 104 = .int .i64 (q : Int) := hs 104 (by kernel_rfl)
                have h102 : s 102 = .bool false := hs 102 (by kernel_rfl)
                clear hs hl
                simp only [frameM, fillM, Nat.reduceAdd, Act.put, List.setIfInBounds_toArray, List.set_cons_succ, List.set_cons_zero, h103, h104, h102] at hK ⊢
                go_simp
                exact hK _ _ (Below.refl _ _) rfl
              · intro s ww hE hs hl K hK
                have h105 : s 105 = .pointer (some ⟨b8, o8 + q, none⟩) := hs 105 (by kernel_rfl)
                have h102 : s 102 = .bool false := hs 102 (by kernel_rfl)
                clear hs hl
                have cq := (hE.cell (p := _) hb8).trans r8
                simp only [frameM, fillM, Nat.reduceAdd, Act.put, List.setIfInBounds_toArray, List.set_cons_succ, List.set_cons_zero, h105, h102] at hK ⊢
                go_simp
                exact hK _ _ (Below.refl _ _) rfl
              · intro s ww hE hs hl K hK
                have h102 : s 102 = .bool false := hs 102 (by kernel_rfl)
                clear hs hl
                simp only [frameM, fillM, Nat.reduceAdd, Act.put, List.setIfInBounds_toArray, List.set_cons_succ, List.set_cons_zero, h102] at hK ⊢
                go_simp
                exact hK _ _ (Below.refl _ _) rfl
              · intro s ww hE hs hl K hK
                have h102 : s 102 = .bool false := hs 102 (by kernel_rfl)
                clear hs hl
                simp only [frameM, fillM, Nat.reduceAdd, Act.put, List.setIfInBounds_toArray, List.set_cons_succ, List.set_cons_zero, h102] at hK ⊢
                go_simp
                exact hK _ _ (Below.refl _ _) rfl
              · intro s ww hE hs hl K hK
                have h107 : s 107 = .slice (some ⟨b5, o5, none⟩) N co := hs 107 (by kernel_rfl)
                have h108 : s 108 = .int .i64 (q : Int) := hs 108 (by kernel_rfl)
                have h102 : s 102 = .bool false := hs 102 (by kernel_rfl)
                clear hs hl
                simp only [frameM, fillM, Nat.reduceAdd, Act.put, List.setIfInBounds_toArray, List.set_cons_succ, List.set_cons_zero, h107, h108, h102] at hK ⊢
                go_simp
                exact hK _ _ (Below.refl _ _) rfl
              · intro s ww hE hs hl K hK
                have h109 : s 109 = .pointer (some ⟨b5, o5 + q, none⟩) := hs 109 (by kernel_rfl)
                have h102 : s 102 = .bool false := hs 102 (by kernel_rfl)
                clear hs hl
                have cq := (hE.cell (p := _) hb5).trans r5
                simp only [frameM, fillM, Nat.reduceAdd, Act.put, List.setIfInBounds_toArray, List.set_cons_succ, List.set_cons_zero, h109, h102] at hK ⊢
                go_simp
                exact hK _ _ (Below.refl _ _) rfl
              · intro s ww hE hs hl K hK
                have h106 : s 106 = .slice A8 t.length c8 := hs 106 (by kernel_rfl)
                have h110 : s 110 = .slice A5 t.length c5 := hs 110 (by kernel_rfl)
                have h102 : s 102 = .bool false := hs 102 (by kernel_rfl)
                clear hs hl
                simp only [frameM, fillM, Nat.reduceAdd, Act.put, List.setIfInBounds_toArray, List.set_cons_succ, List.set_cons_zero, h106, h110, h102] at hK ⊢
                go_simp
                go_at_call 20
                refine (pcompare_any _ _ _ _ ww (H8.out.on hE) (H5.out.on hE)).mono ?_
                rintro e we ⟨rfl, hg⟩
                exact hK _ _ hg.below (by show Value.int .i64 (cmpT _ _) = _; rw [cmpT_self])
              · intro s ww hE hs hl K hK
                have h111 : s 111 = .int .i64 0 := hs 111 (by kernel_rfl)
                have h102 : s 102 = .bool false := hs 102 (by kernel_rfl)
                clear hs hl
                simp only [frameM, fillM, Nat.reduceAdd, Act.put, List.setIfInBounds_toArray, List.set_cons_succ, List.set_cons_zero, h111, h102] at hK ⊢
                go_simp
                exact hK _ _ (Below.refl _ _) rfl
              · intro s ww hE hs hl K hK
                have h102 : s 102 = .bool false := hs 102 (by kernel_rfl)
                have h112 : s 112 = .bool false := hs 112 (by kernel_rfl)
                clear hs hl
                simp only [frameM, fillM, Nat.reduceAdd, Act.put, List.setIfInBounds_toArray, List.set_cons_succ, List.set_cons_zero, h102, h112] at hK ⊢
                go_simp
                exact hK _ _ (Below.refl _ _) rfl
              · intro s ww hE hs hl K hK
                have h113 : s 113 = .bool false := hs 113 (by kernel_rfl)
                clear hs hl
                simp only [frameM, fillM, Nat.reduceAdd, Act.put, List.setIfInBounds_toArray, List.set_cons_succ, List.set_cons_zero, h113] at hK ⊢
                go_simp
                exact hK _ _ (Below.refl _ _) rfl
              · intro s ww hE hs hl K hK
                have h114 : s 114 = .bool false := hs 114 (by kernel_rfl)
                clear hs hl
                simp only [frameM, fillM, Nat.reduceAdd, Act.put, List.setIfInBounds_toArray, List.set_cons_succ, List.set_cons_zero, h114] at hK ⊢
                go_simp
                exact hK _ _ (Below.refl _ _) rfl
              · intro s ww hE hs hl K hK
                have h115 : s 115 = .int .i64 (q : Int) := hs 115 (by kernel_rfl)
                have h114 : s 114 = .bool false := hs 114 (by kernel_rfl)
                clear hs hl
                simp only [frameM, fillM, Nat.reduceAdd, Act.put, List.setIfInBounds_toArray, List.set_cons_succ, List.set_cons_zero, h115, h114] at hK ⊢
                go_simp
                exact hK _ _ (Below.refl _ _) rfl
              · intro s ww hE hs hl K hK
                have h116 : s 116 = .bool false := hs 116 (by kernel_rfl)
                have h114 : s 114 = .bool false := hs 114 (by kernel_rfl)
                clear hs hl
                simp only [frameM, fillM, Nat.reduceAdd, Act.put, List.setIfInBounds_toArray, List.set_cons_succ, List.set_cons_zero, h116, h114] at hK ⊢
                go_simp
                exact hK _ _ (Below.refl _ _) rfl
              · intro s ww hE hs hl K hK
                have h117 : s 117 = .bool false := hs 117 (by kernel_rfl)
                clear hs hl
                simp only [frameM, fillM, Nat.reduceAdd, Act.put, List.setIfInBounds_toArray, List.set_cons_succ, List.set_cons_zero, h117] at hK ⊢
                go_simp
                exact hK _ _ (Below.refl _ _) rfl
              · intro s ww hE hs hl K hK
                have h117 : s 117 = .bool false := hs 117 (by kernel_rfl)
                clear hs hl
                simp only [frameM, fillM, Nat.reduceAdd, Act.put, List.setIfInBounds_toArray, List.set_cons_succ, List.set_cons_zero, h117] at hK ⊢
                go_simp
                exact hK _ _ (Below.refl _ _) rfl
              · intro s ww hE hs hl K hK
                have h119 : s 119 = undef := hs 119 (by kernel_rfl)
                have h117 : s 117 = .bool false := hs 117 (by kernel_rfl)
                clear hs hl
                simp only [frameM, fillM, Nat.reduceAdd, Act.put, List.setIfInBounds_toArray, List.set_cons_succ, List.set_cons_zero, h119, h117] at hK ⊢
                go_simp
                exact hK _ _ (Below.refl _ _) rfl
              · intro s ww hE hs hl K hK
                have h118 : s 118 = undef := hs 118 (by kernel_rfl)
                have h120 : s 120 = undef := hs 120 (by kernel_rfl)
                have h117 : s 117 = .bool false := hs 117 (by kernel_rfl)
                clear hs hl
                simp only [frameM, fillM, Nat.reduceAdd, Act.put, List.setIfInBounds_toArray, List.set_cons_succ, List.set_cons_zero, h118, h120, h117] at hK ⊢
                go_simp
                exact hK _ _ (Below.refl _ _) rfl
              · intro s ww hE hs hl K hK
                have h121 : s 121 = undef := hs 121 (by kernel_rfl)
                have h117 : s 117 = .bool false := hs 117 (by kernel_rfl)
                clear hs hl
                simp only [frameM, fillM, Nat.reduceAdd, Act.put, List.setIfInBounds_toArray, List.set_cons_succ, List.set_cons_zero, h121, h117] at hK ⊢
                go_simp
                exact hK _ _ (Below.refl _ _) rfl
              · intro s ww hE hs hl K hK
                have h117 : s 117 = .bool false := hs 117 (by kernel_rfl)
                clear hs hl
                simp only [frameM, fillM, Nat.reduceAdd, Act.put, List.setIfInBounds_toArray, List.set_cons_succ, List.set_cons_zero, h117] at hK ⊢
                go_simp
                exact hK _ _ (Below.refl _ _) rfl
              · intro s ww hE hs hl K hK
                have h117 : s 117 = .bool false := hs 117 (by kernel_rfl)
                clear hs hl
                simp only [frameM, fillM, Nat.reduceAdd, Act.put, List.setIfInBounds_toArray, List.set_cons_succ, List.set_cons_zero, h117] at hK ⊢
                go_simp
                exact hK _ _ (Below.refl _ _) rfl
              · intro s ww hE hs hl K hK
                have h123 : s 123 = undef := hs 123 (by kernel_rfl)
                have h124 : s 124 = undef := hs 124 (by kernel_rfl)
                have h117 : s 117 = .bool false := hs 117 (by kernel_rfl)
                clear hs hl
                simp only [frameM, fillM, Nat.reduceAdd, Act.put, List.setIfInBounds_toArray, List.set_cons_succ, List.set_cons_zero, h123, h124, h117] at hK ⊢
                go_simp
                exact hK _ _ (Below.refl _ _) rfl
              · intro s ww hE hs hl K hK
                have h125 : s 125 = undef := hs 125 (by kernel_rfl)
                have h117 : s 117 = .bool false := hs 117 (by kernel_rfl)
                clear hs hl
                simp only [frameM, fillM, Nat.reduceAdd, Act.put, List.setIfInBounds_toArray, List.set_cons_succ, List.set_cons_zero, h125, h117] at hK ⊢
                go_simp
                exact hK _ _ (Below.refl _ _) rfl
              · intro s ww hE hs hl K hK
                have h122 : s 122 = undef := hs 122 (by kernel_rfl)
                have h126 : s 126 = undef := hs 126 (by kernel_rfl)
                have h117 : s 117 = .bool false := hs 117 (by kernel_rfl)
                clear hs hl
                simp only [frameM, fillM, Nat.reduceAdd, Act.put, List.setIfInBounds_toArray, List.set_cons_succ, List.set_cons_zero, h122, h126, h117] at hK ⊢
                go_simp
                exact hK _ _ (Below.refl _ _) rfl
              · intro s ww hE hs hl K hK
                have h127 : s 127 = undef := hs 127 (by kernel_rfl)
                have h117 : s 117 = .bool false := hs 117 (by kernel_rfl)
                clear hs hl
                simp only [frameM, fillM, Nat.reduceAdd, Act.put, List.setIfInBounds_toArray, List.set_cons_succ, List.set_cons_zero, h127, h117] at hK ⊢
                go_simp
                exact hK _ _ (Below.refl _ _) rfl
              · intro s ww hE hs hl K hK
                have h117 : s 117 = .bool false := hs 117 (by kernel_rfl)
                have h128 : s 128 = undef := hs 128 (by kernel_rfl)
                have h114 : s 114 = .bool false := hs 114 (by kernel_rfl)
                clear hs hl
                simp only [frameM, fillM, Nat.reduceAdd, Act.put, List.setIfInBounds_toArray, List.set_cons_succ, List.set_cons_zero, h117, h128, h114] at hK ⊢
                go_simp
                exact hK _ _ (Below.refl _ _) rfl
              · intro s ww hE hs hl K hK
                have h114 : s 114 = .bool false := hs 114 (by kernel_rfl)
                have h129 : s 129 = .bool false := hs 129 (by kernel_rfl)
                clear hs hl
                simp only [frameM, fillM, Nat.reduceAdd, Act.put, List.setIfInBounds_toArray, List.set_cons_succ, List.set_cons_zero, h114, h129] at hK ⊢
                go_simp
                exact hK _ _ (Below.refl _ _) rfl
            · intro s ww hE hs
              have h130 : s 130 = .bool false := hs 130 (by kernel_rfl)
              clear hs
              simp only [frameM, fillM, Nat.reduceAdd]
              simp only [h130]
              clear h130
              have HEE := Lib.hid (HB8.out.trans (hE.mono HB8.out.size))
              clear hE
              go_wp2
              go_roundw
              case rel => exact ⟨q + 1, by go_num, hlt, HEE.out⟩
              case measure => simp [Lib.intOf]; omega
        · obtain rfl : q = N := by omega
          have hq2 : ¬ (q : Int) < (q : Int) := by omega
          go_wp2
          go_ret
          exact ⟨rfl, HB7.out.trans (HB8.out.mono HB7.out.size)⟩
  · have HALL := Lib.hid hall
    clear hall
    go_enter Try.func7, Try.ntmps7
    go_upto_region 3 with (go_at_call 9; refine (HW.out _).mono ?_; rintro en w1 ⟨rfl, hB1⟩; have HB1 := Lib.hid hB1; clear hB1)
    go_upto_region 4 with (go_at_call 23; go_loud (refine (pfold_no (HFO.out w1 HB1.out) HALL.out).mono ?_; rintro en w2 ⟨rfl, hb2⟩; have HB2 := Lib.hid ((HBA.out w1 HB1.out).trans (hb2.mono (HBA.out w1 HB1.out).size)); clear hb2))
    go_upto_region 5 with (first
      | (go_at_call_of 20 (#[Value.slice A a.length ca, Value.slice B b.length cb]); go_loud (refine (pcompare_any _ _ a b _ (HTA.out.on HB2.out) (HTB.out.on HB2.out)).mono ?_; rintro en w3 ⟨rfl, hg⟩; have HB3 := Lib.hid (HB2.out.trans (hg.below.mono HB2.out.size)); clear hg))
      | (go_at_call_of 20 (#[Value.slice B b.length cb, Value.slice C c.length cc]); go_loud (refine (pcompare_any _ _ b c _ (HTB.out.on HB3.out) (HTC.out.on HB3.out)).mono ?_; rintro en w4 ⟨rfl, hg⟩; have HB4 := Lib.hid (HB3.out.trans (hg.below.mono HB3.out.size)); clear hg))
      | (go_at_call_of 20 (#[Value.slice A a.length ca, Value.slice C c.length cc]); go_loud (refine (pcompare_any _ _ a c _ (HTA.out.on HB4.out) (HTC.out.on HB4.out)).mono ?_; rintro en w5 ⟨rfl, hg⟩; have HB5 := Lib.hid (HB4.out.trans (hg.below.mono HB4.out.size)); clear hg)))
    have HCB := Lib.hid (show Calls Try.prog 20 #[.slice B b.length cb, .slice A a.length ca] w5 (fun e w' => e = .returned (.int .i64 (cmpT b a)) ∧ Grew w5 w') from pcompare_any _ _ b a w5 (HTB.out.on HB5.out) (HTA.out.on HB5.out))
    rw [HFL.out] at HCB
    clear HFL
    generalize hX : cmpT a b = X at *
    generalize hY : cmpT b c = Y at *
    generalize hZ : cmpT a c = Z at *
    clear hX hY hZ
    go_cut [63] (fun s63 wx => s63 = .bool false ∧ Below w.heap.size w wx)
    case first =>
      rcases HC3.out with rfl | ⟨rfl, rfl⟩ | ⟨rfl, rfl, rfl⟩ | ⟨rfl, rfl, rfl⟩ | ⟨rfl, rfl, rfl⟩ | ⟨rfl, rfl, rfl⟩ | ⟨rfl, rfl, rfl⟩
      all_goals
        go_wp2_with (go_at_call 20; go_loud (refine HCB.out.mono ?_; rintro en w6 ⟨rfl, hg⟩; have HB6 := Lib.hid (HB5.out.trans (hg.below.mono HB5.out.size)); clear hg))
        go_meet
        exact ⟨rfl, HB6.out⟩
    case rest =>
      obtain ⟨rfl, hB6⟩ := hcut
      have HB6 := Lib.hid hB6
      clear hB6 HCB HC3
      go_wp2
      go_ret
      exact ⟨rfl, HB6.out⟩
set_option maxRecDepth 100000 in
theorem walk {H : Type} {enc : TypeId × Value → H} (v0 : Value) (d0 : DataW H) (p0 : List MemPlace) (base0 : Nat) (v1 : Value) (d1 : DataW H) (p1 : List MemPlace) (base1 : Nat) (v2 : Value) (d2 : DataW H) (p2 : List MemPlace) (base2 : Nat) (w : World) (hv0 : Value.okWide Try.prog w .any base0 33 v0) (w0 : DataW.Trod enc Try.prog w 0 (fun _ => true) true 33 v0 d0 p0) (hwt0 : ∀ n ∈ d0.weights Try.prog 33, n ≤ 140737488351232) (hv1 : Value.okWide Try.prog w .any base1 33 v1) (w1 : DataW.Trod enc Try.prog w 0 (fun _ => true) true 33 v1 d1 p1) (hwt1 : ∀ n ∈ d1.weights Try.prog 33, n ≤ 140737488351232) (hv2 : Value.okWide Try.prog w .any base2 33 v2) (w2 : DataW.Trod enc Try.prog w 0 (fun _ => true) true 33 v2 d2 p2) (hwt2 : ∀ n ∈ d2.weights Try.prog 33, n ≤ 140737488351232) :
    Calls Try.prog 7 #[v0, v1, v2] w fun e w' => e = .returned (.bool true) ∧ Below w.heap.size w w' := by
  obtain ⟨l0, ht0, hs0, hn0⟩ := rows_of_trod (e := 38) Try.underlying33 Try.underlying38 (by kernel_rfl) (by kernel_rfl) (by kernel_rfl) Try.underlying36 Try.underlying36 hwt0 hv0 w0
  obtain ⟨l1, ht1, hs1, hn1⟩ := rows_of_trod (e := 38) Try.underlying33 Try.underlying38 (by kernel_rfl) (by kernel_rfl) (by kernel_rfl) Try.underlying36 Try.underlying36 hwt1 hv1 w1
  obtain ⟨l2, ht2, hs2, hn2⟩ := rows_of_trod (e := 38) Try.underlying33 Try.underlying38 (by kernel_rfl) (by kernel_rfl) (by kernel_rfl) Try.underlying36 Try.underlying36 hwt2 hv2 w2
  exact folded_walk v0 v1 v2 l0 l1 l2 w ht0 ht1 ht2 hs0 hs1 hs2 hn0 hn1 hn2

set_option maxRecDepth 100000 in
theorem contract (H : Type) (enc : TypeId × Value → H) (W : World) (base : Nat) (args : Array Value) (ds gs : List (DataW H)) (before : List MemPlace)
    (hval0 : ∀ (j : Nat) t v, Try.f7.params[j]? = some t → args[j]? = some v → Value.okWide Try.prog W .any base t v)
    (hW : DataW.Whole enc Try.prog Try.f7.params.toList Rows.poolFoldedSpec.vars false W args.toList ds gs before)
    (hsz0 : (DataW.weightsEach Try.prog (Try.f7.params.toList ++ Rows.poolFoldedSpec.plain.varTypes Try.prog) (ds ++ gs)).all (· ≤ reachBytes) = true) :
    Calls Try.prog 7 args W fun e W' => ∃ v, e = .returned v ∧ Rows.poolFoldedSpec.post enc Try.prog Try.f7 false true false false W args v W' := by
  have hval : ∀ (j : Nat) t v, Try.f7.params[j]? = some t → args[j]? = some v → Value.okWide Try.prog W .any base t v := hval0
  have hsz : (DataW.weightsEach Try.prog (Try.f7.params.toList ++ Rows.poolFoldedSpec.plain.varTypes Try.prog) (ds ++ gs)).all (· ≤ reachBytes) = true := hsz0
  have hW' := hW
  obtain ⟨p, q, hA0, hV, rfl, hfz, hnd⟩ := hW
  have hA : DataW.TrodAll enc Try.prog W 0 (fun _ => true) true Try.f7.params.toList args.toList ds p := hA0
  rw [Try.params7] at hA hval hsz
  obtain ⟨v0, vs0, d0, ds0, p0, q0, hargs, rfl, rfl, h0, r0⟩ := trodAll_cons hA
  obtain ⟨v1, vs1, d1, ds1, p1, q1, rfl, rfl, rfl, h1, r1⟩ := trodAll_cons r0
  obtain ⟨v2, vs2, d2, ds2, p2, q2, rfl, rfl, rfl, h2, r2⟩ := trodAll_cons r1
  obtain ⟨rfl, rfl, rfl⟩ := trodAll_nil r2
  obtain rfl : args = #[v0, v1, v2] := by cases args; simp_all
  obtain ⟨rfl, rfl⟩ := trodVars_none hV
  have k0 := h0
  have lt0 : ∀ x ∈ p0, x.block < W.heap.size := by obtain ⟨m, hm⟩ := k0; exact DataW.trod_lt m _ _ _ hm
  have hwt0 : ∀ n ∈ d0.weights Try.prog 33, n ≤ 140737488351232 := fun n hn => by
    have := of_decide_eq_true (List.all_eq_true.1 hsz _ (DataW.weights_mem_each (j := 0) (t := 33) rfl rfl n hn))
    simpa [reachBytes] using this
  have k1 := h1
  have lt1 : ∀ x ∈ p1, x.block < W.heap.size := by obtain ⟨m, hm⟩ := k1; exact DataW.trod_lt m _ _ _ hm
  have hwt1 : ∀ n ∈ d1.weights Try.prog 33, n ≤ 140737488351232 := fun n hn => by
    have := of_decide_eq_true (List.all_eq_true.1 hsz _ (DataW.weights_mem_each (j := 1) (t := 33) rfl rfl n hn))
    simpa [reachBytes] using this
  have k2 := h2
  have lt2 : ∀ x ∈ p2, x.block < W.heap.size := by obtain ⟨m, hm⟩ := k2; exact DataW.trod_lt m _ _ _ hm
  have hwt2 : ∀ n ∈ d2.weights Try.prog 33, n ≤ 140737488351232 := fun n hn => by
    have := of_decide_eq_true (List.all_eq_true.1 hsz _ (DataW.weights_mem_each (j := 2) (t := 33) rfl rfl n hn))
    simpa [reachBytes] using this
  clear hA0 hval0
  refine (walk v0 d0 p0 base v1 d1 p1 base v2 d2 p2 base W (hval 0 33 v0 rfl rfl) h0 hwt0 (hval 1 33 v1 rfl rfl) h1 hwt1 (hval 2 33 v2 rfl rfl) h2 hwt2).mono fun e W' ⟨he, bel⟩ => ?_
  subst he
  exact ⟨_, rfl, _, _, _, [], _, [], hW', trodAll_mk1 (shut_bool Try.underlying4 _), (trodAll_cons_mk (Below.trod laidOut (by kernel_rfl) (of_decide_eq_true (by kernel_rfl)) k0 bel lt0) (trodAll_cons_mk (Below.trod laidOut (by kernel_rfl) (of_decide_eq_true (by kernel_rfl)) k1 bel lt1) (trodAll_cons_mk (Below.trod laidOut (by kernel_rfl) (of_decide_eq_true (by kernel_rfl)) k2 bel lt2) trodAll_mk0))), rfl, bel.frame _, fun h => by cases h⟩

set_option maxRecDepth 100000 in
theorem lifted (os : Os) (started : os.Started) (H : Type) (enc : TypeId × Value → H) :
    ReturnsInHanded {} Try.checked os 7 .any (Rows.poolFoldedSpec.pre6 enc Try.prog Try.f7 Rows.poolFoldedRow.domain false) (Rows.poolFoldedSpec.post enc Try.prog Try.f7 false true false false) := by
  refine returnsInHanded_of_change_sized (C := Try.checked) own started (by kernel_rfl) Try.func7
    (ChangeSpec.witness6 (enc := enc) (C := Try.checked) false ⟨#[], #[.slice none 0 0, .slice none 0 0, .slice none 0 0], []⟩ 8 (by kernel_rfl) (by kernel_rfl) (by kernel_rfl) (by kernel_rfl)) ?_
  intro W base args ds gs before hval hW _ hsz _
  exact contract H enc W base args ds gs before hval hW hsz

theorem over : Rows.poolFoldedRow.holds Try.pinned (OpenSpec.ofChange Rows.poolFoldedSpec) :=
  OpenClaim.holds_of_wide 7 Try.f7 rfl rfl rfl rfl rfl rfl rfl ⟨rfl, rfl, rfl, rfl, rfl⟩ rfl rfl rfl rfl rfl (by kernel_rfl) Try.func7 (by kernel_rfl)
    (of_decide_eq_true (by kernel_rfl)) (by unfold Func.isWrapper; first | (rw [if_pos (by decide +kernel)]; kernel_rfl) | (rw [if_neg (by decide +kernel)]; exact ⟨rfl, rfl⟩))
    (fun os started H enc _ => lifted os started H enc)

/-- The statement. -/
theorem proved : Rows.PoolFoldedSaid := over
#print axioms proved
end Go.Proofs.Ytagekiaejhjpnaa.poolFolded
