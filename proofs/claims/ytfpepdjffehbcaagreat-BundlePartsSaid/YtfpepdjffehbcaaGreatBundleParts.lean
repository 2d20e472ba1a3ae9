/-
  The law BundleParts answers true for every bundle.
-/
import Derived.Test.YtfpepdjffehbcaaGreatRows
import Derived.Test.YtfpepdjffehbcaaGreatRefCheck
import Derived.Test.YtfpepdjffehbcaaGreatRef22C
import Derived.Test.YtfpepdjffehbcaaGreatBunAsk2
import Derived.WalkKit
import Derived.Outline
import Derived.ProofKit
import Derived.OpenShut
import Derived.ShutString
import Derived.ChangeOld
import Derived.Below
import Derived.Deep.CondSized
namespace Go.Proofs.YtfpepdjffehbcaaGreat.bundleParts
open Go.ChangeShapes Go.WideShapes Go.ChangeAt Go.RowKit
open Go.ChangeMaps (open_string shut_string)
set_option linter.unusedVariables false

theorem own : ownKnob Tryz.prog.godebug = none := by kernel_rfl
theorem laidOut : laidOutB Tryz.prog = true := by kernel_rfl

theorem cut_cut (l : List PStep) : cutL (cutL l) = cutL l := by
  unfold cutL
  rw [← List.map_take, List.take_take, List.map_map]
  refine List.map_congr_left fun b _ => ?_
  simp [cutB, List.take_take]
theorem cut_bunin {l : List PStep} (h : BunIn l) : BunIn (cutL l) := by
  refine ⟨?_, fun b hb => ?_⟩
  · unfold cutL; rw [List.length_map, List.length_take]; omega
  · unfold cutL at hb
    obtain ⟨c, hc, rfl⟩ := List.mem_map.1 hb
    obtain ⟨h1, h2, -⟩ := h.2 c (List.mem_of_mem_take hc)
    refine ⟨h1, fun x hx => h2 x (List.mem_of_mem_take hx), ?_⟩
    simp only [cutB, List.length_take]
    omega
theorem sum_small (l : List PStep) (h : ∀ b ∈ l, b.2.length ≤ 30) : (l.map fun b => b.2.length).sum ≤ l.length * 30 := by
  induction l with
  | nil => simp
  | cons b r ih =>
    have h1 := h b (by simp)
    have h2 := ih fun x hx => h x (by simp [hx])
    simp only [List.map_cons, List.sum_cons, List.length_cons]
    omega
theorem cut_tot {l : List PStep} (h : CutSm l) : (l.map fun b => b.2.length).sum ≤ 90000000 := by
  have h1 := sum_small l h.2
  have h2 := h.1
  omega
theorem ask_no {l : List PStep} {no : Value} {P : Value → World → Prop} {f : FuncId} {args : Array Value} {w : World} (h : Calls Tryz.prog f args w (AskPost l no P w)) {k : Int} (hk : (checkB l).1 = k) (hc : k ≠ 0) : Calls Tryz.prog f args w fun e w' => e = .returned (.tuple #[no, .int .i64 k]) ∧ Below w.heap.size w w' := by
  refine h.mono ?_
  rintro e w' ⟨⟨-, rfl⟩ | ⟨h1, -⟩, hb⟩
  · exact ⟨by rw [hk], hb⟩
  · exact absurd (hk.symm.trans h1) hc
theorem askt_yes {l : List PStep} {no : Value} {ts : List ByteArray} {f : FuncId} {args : Array Value} {w : World} (h : Calls Tryz.prog f args w (AskPost l no (fun v w' => Txts w' w'.heap.size v ts) w)) (hc : (checkB l).1 = 0) : Calls Tryz.prog f args w fun e w' => ∃ A n c, e = .returned (.tuple #[.slice A n c, .int .i64 0]) ∧ Txts w' w'.heap.size (.slice A n c) ts ∧ Below w.heap.size w w' := by
  refine h.mono ?_
  rintro e w' ⟨⟨h1, -⟩ | ⟨-, v, rfl, hT⟩, hb⟩
  · exact absurd hc h1
  · obtain ⟨A, c, rfl, -⟩ := id hT
    exact ⟨A, _, c, rfl, hT, hb⟩
theorem askp_yes {l : List PStep} {no : Value} {ts : List (List RowI)} {f : FuncId} {args : Array Value} {w : World} (h : Calls Tryz.prog f args w (AskPost l no (fun v w' => TabsPL w' v ts) w)) (hc : (checkB l).1 = 0) : Calls Tryz.prog f args w fun e w' => ∃ A n c, e = .returned (.tuple #[.slice A n c, .int .i64 0]) ∧ TabsS w' (.slice A n c) ts ∧ Below w.heap.size w w' := by
  refine h.mono ?_
  rintro e w' ⟨⟨h1, -⟩ | ⟨-, v, rfl, hT⟩, hb⟩
  · exact absurd hc h1
  · obtain ⟨ps, -, A, c, rfl, -⟩ := id hT
    exact ⟨A, _, c, rfl, hT, hb⟩
theorem tabs_open {W : World} {A : Option Addr} {n c : Nat} {ts : List (List RowI)} (h : TabsS W (.slice A n c) ts) : ∃ ps : List (Value × List RowI), ps.map Prod.snd = ts ∧ TabsP W W.heap.size (.slice A n c) ps ∧ Reads W W.heap.size 1 A n (ps.map Prod.fst) ∧ n = ts.length ∧ n ≤ maxLen := by
  obtain ⟨ps, h1, h2⟩ := h
  obtain ⟨A', c', e, h3, h4, h5, -⟩ := id h2
  cases e
  exact ⟨ps, h1, h2, h5, by rw [← h1, List.length_map], by omega⟩
theorem tabsP_tab22 {w : World} {B : Nat} {v : Value} {ps : List (Value × List RowI)} (h : TabsP w B v ps) {i : Nat} {t : List RowI} (ht : (ps.map Prod.snd)[i]? = some t) : ∃ A c, ps[i]? = some (.slice A t.length c, t) ∧ RowsR w B (.slice A t.length c) t := by
  obtain ⟨A, c, e, h1, h2, h3, h4⟩ := h
  rw [List.getElem?_map] at ht
  cases hx : ps[i]? with
  | none => rw [hx] at ht; cases ht
  | some x =>
    obtain ⟨xv, xl⟩ := x
    rw [hx] at ht
    cases ht
    have hr := h4 _ (List.mem_of_getElem? hx)
    obtain ⟨A5, c5, e5, -⟩ := id hr
    simp only at e5
    subst e5
    exact ⟨A5, c5, rfl, hr⟩
theorem qp22 {w w' : World} {e : Ending} {v : Value} (h : QPost (fun r => r = v) w e w') : e = .returned v ∧ ∃ m, w' = w.drewN m := by
  obtain ⟨u, q, rfl, rfl, h2⟩ := h
  exact ⟨rfl, q, h2⟩
theorem quiet_add22 {P : Program} {f : FuncId} {args : Array Value} {w : World} {a n : Nat} {v : Value}
    (h : Calls P f args (w.drewN (a + n)) fun e w' => e = .returned v ∧ ∃ m, w' = (w.drewN (a + n)).drewN m) : Calls P f args (w.drewN (a + n)) fun e w'' => e = .returned v ∧ ∃ m, w'' = w.drewN (a + m) :=
  h.mono fun _ _ ⟨he, m, hm⟩ => ⟨he, n + m, by rw [hm, World.drewN_drewN, Nat.add_assoc]⟩
set_option maxHeartbeats 2000000 in
theorem btxt_yes (v1 v2 : Value) (l : List ByteArray) (w : World) (h1 : Txts w w.heap.size v1 l) (h2 : Txts w w.heap.size v2 l) :
    Calls Tryz.prog 20 #[v1, v2] w fun e w' => e = .returned (.bool true) ∧ Below w.heap.size w w' := by
  obtain ⟨A1, c1, rfl, hc1, hm, hR1⟩ := h1
  obtain ⟨A2, c2, rfl, hc2, -, hR2⟩ := h2
  have HR1 := Lib.hid hR1
  have HR2 := Lib.hid hR2
  unfold maxLen at hm
  clear hR1 hR2
  generalize hn : l.length = n at *
  have HN := Lib.hid hn
  have hn1 : (n : Int) ≤ 9223372036854775807 := by omega
  clear hn hc1 hc2
  go_enter Tryz.func20, Tryz.ntmps20
  go_wp2
  go_loopw [13] (fun iv wr => ∃ p q : Nat, iv = .int .i64 (p : Int) ∧ p ≤ n ∧ wr = w.drewN q) (fun iv _ => n - (Lib.intOf iv).toNat)
  case atStart => exact ⟨0, 0, rfl, Nat.zero_le _, rfl⟩
  case round =>
    obtain ⟨p, q, rfl, hp, rfl⟩ := hrel
    by_cases hlt : p < n
    · obtain ⟨x, hx⟩ := at_lt (l := l) (p := p) (by have := HN.out; omega)
      have hq : (p : Int) < (n : Int) := by omega
      obtain ⟨b1, o1, rfl, hb1, hcl1⟩ := HR1.out.spot (by omega) (by omega)
      obtain ⟨b2, o2, rfl, hb2, hcl2⟩ := HR2.out.spot (by omega) (by omega)
      have r0 : w.cell? ⟨b1, o1 + p, none⟩ = some (.string x) := hcl1 _ _ (str_at hx)
      have r1 : w.cell? ⟨b2, o2 + p, none⟩ = some (.string x) := hcl2 _ _ (str_at hx)
      clear hcl1 hcl2 hx
      go_upto_region 6 with (fail)
      go_quiet (fail)
      go_wp2
      go_roundw
      case rel => exact ⟨p + 1, _, by go_num, hlt, rfl⟩
      case measure => simp [Lib.intOf]; omega
    · obtain rfl : p = n := by omega
      have hq : ¬ (p : Int) < (p : Int) := by omega
      go_wp2
      go_ret
      exact ⟨rfl, below_drewN (Below.refl _ _) _⟩
set_option maxHeartbeats 16000000 in
set_option maxRecDepth 100000 in
theorem parts_walk (v : Value) (l : List PStep) (vs : List Value) (w : World) (h : StepsR w v l vs) (hin : BunIn l) :
    Calls Tryz.prog 4 #[.agg #[v]] w fun en w' => en = .returned (.bool true) ∧ Below w.heap.size w w' := by
  have HS := Lib.hid h
  obtain ⟨A, c, rfl, -, -, -, -, -⟩ := h
  obtain ⟨n0, hn0⟩ : ∃ n0, l.length = n0 := ⟨_, rfl⟩
  rw [hn0] at HS ⊢
  clear hn0
  have HBA := Lib.hid ((Below.refl _ w).alloc (Nat.le_refl _) (.cells #[.slice A n0 c] 24))
  have HWK := Lib.hid (fun W => bwakes_any W)
  have HCU := Lib.hid (fun (W : World) (hW : Below w.heap.size w W) => bcut_any (.slice A n0 c) l vs W (HS.out.more hW) hin)
  have HM := Lib.hid (show InB (cutL l) ∧ CutSm (cutL l) ∧ BunIn (cutL l) ∧ cutL (cutL l) = cutL l from ⟨cutL_in hin, cut_small l, cut_bunin hin, cut_cut l⟩)
  clear hin
  have HGA := Lib.hid (Blk.new w 24 #[.slice A n0 c])
  go_enter Tryz.func4, Tryz.ntmps4
  go_upto_region 3 with (go_at_call 8; go_must (refine (HWK.out _).mono ?_; rintro en w1 ⟨rfl, hb1⟩; have HB1 := Lib.hid (HBA.out.trans (hb1.mono HBA.out.size)); have HG1 := Lib.hid (HGA.out.below hb1 HGA.out.lt); clear hb1))
  obtain ⟨h0, hh0⟩ : ∃ h0, w.heap.size = h0 := ⟨_, rfl⟩
  have HH0 := Lib.hid hh0
  rw [hh0] at HG1 ⊢
  have k0 : w1.cell? ⟨h0, 0, none⟩ = some (.slice A n0 c) := HG1.out.cell 0
  clear hh0
  have HC1 := Lib.hid (HCU.out w1 HB1.out)
  go_wp2_with fail
  refine HC1.out.mono ?_
  rintro en w2 ⟨u, us, rfl, hO, hb2⟩
  obtain ⟨Au, cu, rfl, -, -, -⟩ := own_form hO.1
  have HG2 := Lib.hid (HG1.out.below hb2 HG1.out.lt)
  have HO2 := Lib.hid hO
  have HB2 := Lib.hid (HB1.out.trans (hb2.mono HB1.out.size))
  have k1 : w2.cell? ⟨h0, 0, none⟩ = some (.slice A n0 c) := HG2.out.cell 0
  have k2 : w2.frozen? ⟨h0, 0, none⟩ = false := HG2.out.frozen 0
  clear hO hb2 k0 HWK HCU HC1
  obtain ⟨m, hm⟩ : ∃ m, cutL l = m := ⟨_, rfl⟩
  rw [hm] at HM HO2 ⊢
  obtain ⟨na, hna⟩ : ∃ na, m.length = na := ⟨_, rfl⟩
  have HNA := Lib.hid hna
  rw [hna] at HO2 ⊢
  have hna1 : na ≤ 11 := by rw [← hna]; exact HM.out.2.1.1
  have hna2 : (na : Int) ≤ 11 := by omega
  clear hm hna
  go_upto_region 4 with (fail)
  clear k1 k2
  have HX3 := Lib.hid (show Below w.heap.size w (w2.setCell ⟨h0, 0, none⟩ (.slice Au na cu)) ∧ Blk (w2.setCell ⟨h0, 0, none⟩ (.slice Au na cu)) h0 24 #[.slice Au na cu] ∧ StepsR (w2.setCell ⟨h0, 0, none⟩ (.slice Au na cu)) (.slice Au na cu) m us from ⟨HB2.out.setCell (by rw [HH0.out]; exact Nat.le_refl _) _, (cut_in HG2.out HO2.out).1, (cut_in HG2.out HO2.out).2.steps⟩)
  clear HG2 HO2 HB2 HG1 HB1 HGA HBA
  generalize w2.setCell ⟨h0, 0, none⟩ (.slice Au na cu) = w3 at *
  have k0 : w3.cell? ⟨h0, 0, none⟩ = some (.slice Au na cu) := HX3.out.2.1.cell 0
  have HC3 := Lib.hid (bcut_any (.slice Au na cu) m us w3 HX3.out.2.2 HM.out.2.2.1)
  go_wp2_with fail
  refine HC3.out.mono ?_
  rintro en w4 ⟨u4, us4, rfl, hO, hb4⟩
  rw [HM.out.2.2.2] at hO
  obtain ⟨Av, cv, rfl, -, -, -⟩ := own_form hO.1
  rw [HNA.out] at hO ⊢
  have HX5 := Lib.hid (show Below w.heap.size w (w4.alloc (.cells #[.slice Av na cv] 24)) ∧ Blk (w4.alloc (.cells #[.slice Av na cv] 24)) h0 24 #[.slice Au na cu] ∧ Blk (w4.alloc (.cells #[.slice Av na cv] 24)) w4.heap.size 24 #[.slice Av na cv] ∧ StepsR (w4.alloc (.cells #[.slice Av na cv] 24)) (.slice Au na cu) m us ∧ StepsR (w4.alloc (.cells #[.slice Av na cv] 24)) (.slice Av na cv) m us4 from by
    have hba := (Below.refl _ w4).alloc (Nat.le_refl _) (.cells #[.slice Av na cv] 24)
    have hb := hb4.trans (hba.mono hb4.size)
    exact ⟨HX3.out.1.trans (hb.mono HX3.out.1.size), HX3.out.2.1.below hb HX3.out.2.1.lt, Blk.new w4 _ _, HX3.out.2.2.more hb, hO.steps.more hba⟩)
  clear hO hb4 k0 HC3
  go_upto_region 5 with (fail)
  generalize w4.alloc (.cells #[.slice Av na cv] 24) = w5 at *
  obtain ⟨h1, hh1⟩ : ∃ h1, w4.heap.size = h1 := ⟨_, rfl⟩
  rw [hh1] at HX5 ⊢
  clear hh1 HX3
  have HT := Lib.hid (cut_tot HM.out.2.1)
  have HKP := Lib.hid (show ∀ W, Below w5.heap.size w5 W → W.cell? ⟨h0, 0, none⟩ = some (.slice Au na cu) ∧ W.cell? ⟨h1, 0, none⟩ = some (.slice Av na cv) from fun W hW => ⟨(HX5.out.2.1.below hW HX5.out.2.1.lt).cell 0, (HX5.out.2.2.1.below hW HX5.out.2.2.1.lt).cell 0⟩)
  obtain ⟨ck, hck⟩ : ∃ ck, (checkB m).1 = ck := ⟨_, rfl⟩
  obtain ⟨ca, hca⟩ : ∃ ca, (checkB m).2 = ca := ⟨_, rfl⟩
  have HCK := Lib.hid (show ∀ W, Below w5.heap.size w5 W → Calls Tryz.prog 12 #[.agg #[.slice Au na cu]] W (fun e w' => e = .returned (.agg #[.int .i64 ck, .int .i64 ca]) ∧ Below W.heap.size W w') from fun W hW => by
    have h1 := HM.out.1
    have h2 := rcheck_any (.slice Au na cu) m us W (HX5.out.2.2.2.1.more hW) (fun b hb => ⟨(h1.2 b hb).1, (h1.2 b hb).2.1, by have := (h1.2 b hb).2.2; omega⟩) (by have := h1.1; omega) HT.out
    exact h2.mono fun e w' h => ⟨by rw [h.1, hck, hca], h.2⟩)
  have HSA := Lib.hid (show ∀ W, Below w5.heap.size w5 W → Calls Tryz.prog 13 #[.agg #[.slice Av na cv], .agg #[.slice Au na cu]] W (fun e w' => e = .returned (.bool true) ∧ Below W.heap.size W w') from fun W hW => by
    have := bsame_any (.slice Av na cv) (.slice Au na cu) m m us4 us W (HX5.out.2.2.2.2.more hW) (HX5.out.2.2.2.1.more hW)
    exact this.mono fun e w' h => ⟨by rw [h.1, decide_eq_true (rfl : m = m)], h.2⟩)
  clear hca
  have hfl := fun (x y : Int) (W : World) => (show (Instr.field 34 (.agg #[.int .i64 x, .int .i64 y]) 0).run Tryz.prog W = .ok (.int .i64 x) W from by kernel_rfl)
  have kk := HKP.out w5 (Below.refl _ _)
  obtain ⟨k0, k1⟩ := kk
  by_cases z : ck = 0
  · subst z
    have HIN := Lib.hid (books_in hck HM.out.1 HM.out.2.1)
    have HTX := Lib.hid (fun W (hW : Below w5.heap.size w5 W) => askt_yes (btexts_any _ _ _ W (HX5.out.2.2.2.2.more hW) HM.out.1) hck)
    have HPA := Lib.hid (fun W (hW : Below w5.heap.size w5 W) => askt_yes (bpaths_any _ _ _ W (HX5.out.2.2.2.2.more hW) HM.out.1) hck)
    have HTB := Lib.hid (fun W (hW : Below w5.heap.size w5 W) => askp_yes (btables_any _ _ _ W (HX5.out.2.2.2.2.more hW) HM.out.1) hck)
    have HRT := Lib.hid (fun W (hW : Below w5.heap.size w5 W) => rtexts_any _ _ _ W (HX5.out.2.2.2.1.more hW) HIN.out)
    have HRP := Lib.hid (fun W (hW : Below w5.heap.size w5 W) => rpaths_any _ _ _ W (HX5.out.2.2.2.1.more hW) HIN.out)
    have HRB := Lib.hid (fun W (hW : Below w5.heap.size w5 W) => rtables_any _ _ _ W (HX5.out.2.2.2.1.more hW) HIN.out hck)
    clear hck
    go_upto_region 6 with (go_at_call 16; go_must (refine (HTX.out w5 (Below.refl _ _)).mono ?_; rintro en w6 ⟨A6, n6, c6, rfl, ht6, hb6⟩; have HB6 := Lib.hid hb6; have HT6 := Lib.hid ht6; clear hb6 ht6; have hkk := HKP.out _ HB6.out; have k0 := hkk.1; have k1 := hkk.2; clear hkk))
    go_upto_region 7 with (go_at_call 17; go_must (refine (HPA.out w6 HB6.out).mono ?_; rintro en w7 ⟨A7, n7, c7, rfl, ht7, hb7⟩; have HB7 := Lib.hid (HB6.out.trans (hb7.mono HB6.out.size)); have HT7 := Lib.hid (And.intro (HT6.out.on hb7) ht7); clear hb7 ht7; have hkk := HKP.out _ HB7.out; have k0 := hkk.1; have k1 := hkk.2; clear hkk))
    go_upto_region 8 with (go_at_call 18; go_must (refine (HTB.out w7 HB7.out).mono ?_; rintro en w8 ⟨A8, n8, c8, rfl, ht8, hb8⟩; have HB8 := Lib.hid (HB7.out.trans (hb8.mono HB7.out.size)); have HT8 := Lib.hid (And.intro (HT7.out.1.on hb8) (And.intro (HT7.out.2.on hb8) ht8)); clear hb8 ht8; have hkk := HKP.out _ HB8.out; have k0 := hkk.1; have k1 := hkk.2; clear hkk))
    go_upto_region 9 with (go_at_call 12; go_must (refine (HCK.out w8 HB8.out).mono ?_; rintro en w9 ⟨rfl, hb9⟩; have HB9 := Lib.hid (HB8.out.trans (hb9.mono HB8.out.size)); have HT9 := Lib.hid (And.intro (HT8.out.1.on hb9) (And.intro (HT8.out.2.1.on hb9) (HT8.out.2.2.on hb9))); clear hb9; have hkk := HKP.out _ HB9.out; have k0 := hkk.1; have k1 := hkk.2; clear hkk))
    go_upto_region 11 with (go_at_call 13; go_must (refine (HSA.out w9 HB9.out).mono ?_; rintro en w10 ⟨rfl, hb10⟩; have HB10 := Lib.hid (HB9.out.trans (hb10.mono HB9.out.size)); have HTA := Lib.hid (And.intro (HT9.out.1.on hb10) (And.intro (HT9.out.2.1.on hb10) (HT9.out.2.2.on hb10))); clear hb10; have hkk := HKP.out _ HB10.out; have k0 := hkk.1; have k1 := hkk.2; clear hkk))
    go_upto_region 14 with (go_at_call 19; go_must (refine (HRB.out w10 HB10.out).mono ?_; rintro en w11 ⟨A11, n11, c11, rfl, ht11, hb11⟩; have HB11 := Lib.hid (HB10.out.trans (hb11.mono HB10.out.size)); have HTC := Lib.hid (And.intro (HTA.out.1.on hb11) (And.intro (HTA.out.2.1.on hb11) (And.intro (HTA.out.2.2.on hb11) ht11))); clear hb11 ht11; have hkk := HKP.out _ HB11.out; have k0 := hkk.1; have k1 := hkk.2; clear hkk))
    obtain rfl : n11 = n8 := by
      obtain ⟨-, -, -, -, e1, -⟩ := tabs_open HTC.out.2.2.1
      obtain ⟨-, -, -, -, e2, -⟩ := tabs_open HTC.out.2.2.2
      rw [e1, e2]
    go_wp2_with fail
    refine (HRT.out w11 HB11.out).mono ?_
    rintro en w12 ⟨A12, n12, c12, rfl, ht12, hb12⟩
    have HB12 := Lib.hid (HB11.out.trans (hb12.mono HB11.out.size))
    have HY12 := Lib.hid (btxt_yes _ _ _ w12 (HTC.out.1.on hb12) ht12)
    have HT12 := Lib.hid (And.intro (HTC.out.2.1.on hb12) (And.intro (HTC.out.2.2.1.on hb12) (HTC.out.2.2.2.on hb12)))
    clear hb12 ht12 k0 k1
    have hkk := HKP.out _ HB12.out
    have k0 := hkk.1
    have k1 := hkk.2
    clear hkk
    go_wp2_with fail
    refine (HY12.out).mono ?_
    rintro en w13 ⟨rfl, hb13⟩
    have HB13 := Lib.hid (HB12.out.trans (hb13.mono HB12.out.size))
    have HT13 := Lib.hid (And.intro (HT12.out.1.on hb13) (And.intro (HT12.out.2.1.on hb13) (HT12.out.2.2.on hb13)))
    clear hb13 k0 k1
    have hkk := HKP.out _ HB13.out
    have k0 := hkk.1
    have k1 := hkk.2
    clear hkk
    go_wp2_with fail
    refine (HRP.out w13 HB13.out).mono ?_
    rintro en w14 ⟨A14, n14, c14, rfl, ht14, hb14⟩
    have HB14 := Lib.hid (HB13.out.trans (hb14.mono HB13.out.size))
    have HY14 := Lib.hid (btxt_yes _ _ _ w14 (HT13.out.1.on hb14) ht14)
    have HT14 := Lib.hid (And.intro (HT13.out.2.1.on hb14) (HT13.out.2.2.on hb14))
    clear hb14 ht14 k0 k1
    have hkk := HKP.out _ HB14.out
    have k0 := hkk.1
    have k1 := hkk.2
    clear hkk
    go_wp2_with fail
    refine (HY14.out).mono ?_
    rintro en w15 ⟨rfl, hb15⟩
    have HB15 := Lib.hid (HB14.out.trans (hb15.mono HB14.out.size))
    have HT15 := Lib.hid (And.intro (HT14.out.1.on hb15) (HT14.out.2.on hb15))
    clear hb15
    go_upto_region 16 with (fail)
    clear k0 k1
    obtain ⟨ps, hps, hP, hRP, -, hmx⟩ := tabs_open HT15.out.1
    obtain ⟨qs, hqs, hQ, hRQ, -, -⟩ := tabs_open HT15.out.2
    have HPP := Lib.hid (And.intro hP (And.intro hRP hps))
    have HQQ := Lib.hid (And.intro hQ (And.intro hRQ hqs))
    have hlen : (tabsB m).length = n11 := by
      obtain ⟨-, -, -, -, e1, -⟩ := tabs_open HT15.out.1
      exact e1.symm
    have HLEN := Lib.hid hlen
    have hmx2 : (n11 : Int) ≤ 9223372036854775807 := by unfold maxLen at hmx; omega
    have HB16 := Lib.hid (HX5.out.1.trans (HB15.out.mono HX5.out.1.size))
    clear hps hP hRP hqs hQ hRQ hlen hmx
    go_wp2
    go_loopw [94] (fun iv wr => ∃ i k : Nat, iv = .int .i64 (i : Int) ∧ i ≤ n11 ∧ wr = w15.drewN k) (fun iv _ => n11 - (Lib.intOf iv).toNat)
    case atStart => exact ⟨0, 0, rfl, Nat.zero_le _, rfl⟩
    case round =>
      obtain ⟨i, k, rfl, hi, rfl⟩ := hrel
      by_cases hlt : i < n11
      · obtain ⟨t, ht⟩ := at_lt (l := tabsB m) (p := i) (by rw [HLEN.out]; exact hlt)
        have hq : (i : Int) < (n11 : Int) := by omega
        obtain ⟨A5, c5, hx5, hr5⟩ := tabsP_tab22 HPP.out.1 (i := i) (t := t) (by rw [HPP.out.2.2]; exact ht)
        obtain ⟨A6', c6', hx6, hr6⟩ := tabsP_tab22 HQQ.out.1 (i := i) (t := t) (by rw [HQQ.out.2.2]; exact ht)
        obtain ⟨b5, o5, rfl, hb5, hcl5⟩ := HPP.out.2.1.spot (by omega) (by omega)
        obtain ⟨b6, o6, rfl, hb6, hcl6⟩ := HQQ.out.2.1.spot (by omega) (by omega)
        have r5 : w15.cell? ⟨b5, o5 + i, none⟩ = some (.slice A5 t.length c5) := hcl5 _ _ (tab_cell hx5)
        have r6 : w15.cell? ⟨b6, o6 + i, none⟩ = some (.slice A6' t.length c6') := hcl6 _ _ (tab_cell hx6)
        have HCQ := Lib.hid (fun j : Nat => show Calls Tryz.prog 23 #[.slice A5 t.length c5, .slice A6' t.length c6'] (w15.drewN j) (fun e w' => e = .returned (.int .i64 0) ∧ ∃ m, w' = (w15.drewN j).drewN m) from
          (refcompare_any _ _ t t (w15.drewN j) (hr5.on (below_drewN (Below.refl _ _) j)) (hr6.on (below_drewN (Below.refl _ _) j))).mono fun e w' h => by rw [cmpT_self] at h; exact qp22 h)
        clear hcl5 hcl6 hx5 hx6 hr5 hr6 ht
        go_upto_region 19 with (fail)
        go_quiet ((go_at_call 23; exact quiet_add22 (HCQ.out _)))
        go_wp2
        go_roundw
        case rel => exact ⟨i + 1, _, by go_num, hlt, rfl⟩
        case measure => simp [Lib.intOf]; omega
      · obtain rfl : i = n11 := by omega
        have hq : ¬ (i : Int) < (i : Int) := by omega
        go_wp2
        go_ret
        exact ⟨rfl, below_drewN HB16.out _⟩
  · have z3 : (ck == 0) = false := by simpa using z
    have HTX := Lib.hid (fun W (hW : Below w5.heap.size w5 W) => ask_no (btexts_any _ _ _ W (HX5.out.2.2.2.2.more hW) HM.out.1) hck z)
    have HPA := Lib.hid (fun W (hW : Below w5.heap.size w5 W) => ask_no (bpaths_any _ _ _ W (HX5.out.2.2.2.2.more hW) HM.out.1) hck z)
    have HTB := Lib.hid (fun W (hW : Below w5.heap.size w5 W) => ask_no (btables_any _ _ _ W (HX5.out.2.2.2.2.more hW) HM.out.1) hck z)
    clear hck z
    go_upto_region 6 with (go_at_call 16; go_must (refine (HTX.out w5 (Below.refl _ _)).mono ?_; rintro en w6 ⟨rfl, hb6⟩; have HB6 := Lib.hid hb6; clear hb6; have hkk := HKP.out _ HB6.out; have k0 := hkk.1; have k1 := hkk.2; clear hkk))
    go_upto_region 7 with (go_at_call 17; go_must (refine (HPA.out w6 HB6.out).mono ?_; rintro en w7 ⟨rfl, hb7⟩; have HB7 := Lib.hid (HB6.out.trans (hb7.mono HB6.out.size)); clear hb7; have hkk := HKP.out _ HB7.out; have k0 := hkk.1; have k1 := hkk.2; clear hkk))
    go_upto_region 8 with (go_at_call 18; go_must (refine (HTB.out w7 HB7.out).mono ?_; rintro en w8 ⟨rfl, hb8⟩; have HB8 := Lib.hid (HB7.out.trans (hb8.mono HB7.out.size)); clear hb8; have hkk := HKP.out _ HB8.out; have k0 := hkk.1; have k1 := hkk.2; clear hkk))
    go_upto_region 9 with (go_at_call 12; go_must (refine (HCK.out w8 HB8.out).mono ?_; rintro en w9 ⟨rfl, hb9⟩; have HB9 := Lib.hid (HB8.out.trans (hb9.mono HB8.out.size)); clear hb9; have hkk := HKP.out _ HB9.out; have k0 := hkk.1; have k1 := hkk.2; clear hkk))
    go_upto_region 11 with (go_at_call 13; go_must (refine (HSA.out w9 HB9.out).mono ?_; rintro en w10 ⟨rfl, hb10⟩; have HB10 := Lib.hid (HB9.out.trans (hb10.mono HB9.out.size)); clear hb10))
    clear k0 k1
    go_wp2
    go_ret
    exact ⟨rfl, HX5.out.1.trans (HB10.out.mono HX5.out.1.size)⟩
set_option maxRecDepth 100000 in
theorem walk {H : Type} {enc : TypeId × Value → H} (v0 : Value) (d0 : DataW H) (p0 : List MemPlace) (base0 : Nat) (w : World) (hv0 : Value.okWide Tryz.prog w .any base0 24 v0) (w0 : DataW.Trod enc Tryz.prog w 0 (fun _ => true) true 24 v0 d0 p0) (hwt0 : ∀ n ∈ d0.weights Tryz.prog 24, n ≤ 140737488351232) :
    Calls Tryz.prog 4 #[v0] w fun e w' => e = .returned (.bool true) ∧ Below w.heap.size w w' := by
  obtain ⟨u0, l0, vs0, rfl, hs0, hi0⟩ := open_bundle hv0 w0 hwt0
  exact parts_walk u0 l0 vs0 w hs0 hi0

set_option maxRecDepth 100000 in
theorem contract (H : Type) (enc : TypeId × Value → H) (W : World) (base : Nat) (args : Array Value) (ds gs : List (DataW H)) (before : List MemPlace)
    (hval0 : ∀ (j : Nat) t v, Tryz.f4.params[j]? = some t → args[j]? = some v → Value.okWide Tryz.prog W .any base t v)
    (hW : DataW.Whole enc Tryz.prog Tryz.f4.params.toList Rows.bundlePartsSpec.vars false W args.toList ds gs before)
    (hsz0 : (DataW.weightsEach Tryz.prog (Tryz.f4.params.toList ++ Rows.bundlePartsSpec.plain.varTypes Tryz.prog) (ds ++ gs)).all (· ≤ reachBytes) = true) :
    Calls Tryz.prog 4 args W fun e W' => ∃ v, e = .returned v ∧ Rows.bundlePartsSpec.post enc Tryz.prog Tryz.f4 false true false false W args v W' := by
  have hval : ∀ (j : Nat) t v, Tryz.f4.params[j]? = some t → args[j]? = some v → Value.okWide Tryz.prog W .any base t v := hval0
  have hsz : (DataW.weightsEach Tryz.prog (Tryz.f4.params.toList ++ Rows.bundlePartsSpec.plain.varTypes Tryz.prog) (ds ++ gs)).all (· ≤ reachBytes) = true := hsz0
  have hW' := hW
  obtain ⟨p, q, hA0, hV, rfl, hfz, hnd⟩ := hW
  have hA : DataW.TrodAll enc Tryz.prog W 0 (fun _ => true) true Tryz.f4.params.toList args.toList ds p := hA0
  rw [Tryz.params4] at hA hval hsz
  obtain ⟨v0, vs0, d0, ds0, p0, q0, hargs, rfl, rfl, h0, r0⟩ := trodAll_cons hA
  obtain ⟨rfl, rfl, rfl⟩ := trodAll_nil r0
  obtain rfl : args = #[v0] := by cases args; simp_all
  obtain ⟨rfl, rfl⟩ := trodVars_none hV
  have k0 := h0
  have lt0 : ∀ x ∈ p0, x.block < W.heap.size := by obtain ⟨m, hm⟩ := k0; exact DataW.trod_lt m _ _ _ hm
  have hwt0 : ∀ n ∈ d0.weights Tryz.prog 24, n ≤ 140737488351232 := fun n hn => by
    have := of_decide_eq_true (List.all_eq_true.1 hsz _ (DataW.weights_mem_each (j := 0) (t := 24) rfl rfl n hn))
    simpa [reachBytes] using this
  clear hA0 hval0
  refine (walk v0 d0 p0 base W (hval 0 24 v0 rfl rfl) h0 hwt0).mono fun e W' ⟨he, bel⟩ => ?_
  subst he
  exact ⟨_, rfl, _, _, _, [], _, [], hW', trodAll_mk1 (shut_bool Tryz.underlying4 _), (trodAll_cons_mk (Below.trod laidOut (by kernel_rfl) (of_decide_eq_true (by kernel_rfl)) k0 bel lt0) trodAll_mk0), rfl, bel.frame _, fun h => by cases h⟩

set_option maxRecDepth 100000 in
theorem lifted (os : Os) (started : os.Started) (H : Type) (enc : TypeId × Value → H) :
    ReturnsInHanded {} Tryz.checked os 4 .any (Rows.bundlePartsSpec.pre6 enc Tryz.prog Tryz.f4 Rows.bundlePartsRow.domain false) (Rows.bundlePartsSpec.post enc Tryz.prog Tryz.f4 false true false false) := by
  refine returnsInHanded_of_change_sized (C := Tryz.checked) own started (by kernel_rfl) Tryz.func4
    (ChangeSpec.witness6 (enc := enc) (C := Tryz.checked) false ⟨#[], #[.agg #[.slice none 0 0]], []⟩ 8 (by kernel_rfl) (by kernel_rfl) (by kernel_rfl) (by kernel_rfl)) ?_
  intro W base args ds gs before hval hW _ hsz _
  exact contract H enc W base args ds gs before hval hW hsz

theorem over : Rows.bundlePartsRow.holds Tryz.pinned (OpenSpec.ofChange Rows.bundlePartsSpec) :=
  OpenClaim.holds_of_wide 4 Tryz.f4 rfl rfl rfl rfl rfl rfl rfl ⟨rfl, rfl, rfl, rfl, rfl⟩ rfl rfl rfl rfl rfl (by kernel_rfl) Tryz.func4 (by kernel_rfl)
    (of_decide_eq_true (by kernel_rfl)) (by unfold Func.isWrapper; first | (rw [if_pos (by decide +kernel)]; kernel_rfl) | (rw [if_neg (by decide +kernel)]; exact ⟨rfl, rfl⟩))
    (fun os started H enc _ => lifted os started H enc)

/-- The statement. -/
theorem proved : Rows.BundlePartsSaid := over
#print axioms proved
end Go.Proofs.YtfpepdjffehbcaaGreat.bundleParts
