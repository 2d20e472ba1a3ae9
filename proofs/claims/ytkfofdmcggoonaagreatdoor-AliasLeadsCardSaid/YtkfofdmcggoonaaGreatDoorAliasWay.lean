/-
  The walks of Group, Lead, Way and All. Condition: the path is within the reach, and the aliases are right; at most 2^42 of them.
-/
import Derived.Test.YtkfofdmcggoonaaGreatDoorAliasNew
set_option linter.unusedVariables false
set_option linter.unusedSimpArgs false
namespace Go.Proofs.YtkfofdmcggoonaaGreatDoor
open Go.RowKit

def AGroupPost (L : List PKey) (p : ByteArray) (w : World) (en : Ending) (w' : World) : Prop := Below w.heap.size w w' ∧ ∃ o, BestIs L p o ∧ en = .returned (.tuple #[.string (bestK o).1, .bool o.isSome])
theorem agroup_any (v : Value) (L : List PKey) (p : ByteArray) (w : World) (h : ALS w v L) (hF : ∀ x ∈ L, rightB x.1 = true) (hp : p.size ≤ 140737488355328) (hn : L.length ≤ 8796093022208) :
    Calls Tryz.prog 9 #[v, .string p] w (AGroupPost L p w) := by
  have HC := Lib.hid (afind_any v L p w h hF hp hn)
  go_enter Tryz.func9, Tryz.ntmps9
  go_wp2_with fail
  refine HC.out.mono ?_
  rintro en w1 ⟨hb, o, ho, rfl⟩
  have HO := Lib.hid ho
  have HB := Lib.hid hb
  clear ho hb
  generalize hk : bestK o = k at *
  obtain ⟨kk, vv⟩ := k
  have HK := Lib.hid hk
  clear hk
  go_wp2
  go_ret2
  exact ⟨HB.out.alloc HB.out.size _, o, HO.out, by rw [HK.out]; rfl⟩
/-- What Lead answers. -/
def ALeadPost (L : List PKey) (p : ByteArray) (w : World) (en : Ending) (w' : World) : Prop := Below w.heap.size w w' ∧
  ((∃ x, BestIs L p (some x) ∧ en = .returned (.tuple #[.string (putS (leadA x p)), .bool (putE (leadA x p) == 0)])) ∨ (BestIs L p none ∧ en = .returned (.tuple #[.string ByteArray.empty, .bool false])))
theorem lead_parts {p : ByteArray} {x : PKey} (hi : inB p x.1 = true) (hv : rightB x.2 = true) : ∃ (t : List UInt8) (v m : List PStep), restM p x.1 = some (str t) ∧ parseM x.2 = .ok v ∧ parseM (str t) = .ok m ∧ leadA x p = putM (v ++ m) := by
  obtain ⟨l, g, h1, h2, h3⟩ := inB_ok.1 hi
  obtain ⟨v, h4⟩ := rightB_ok.1 hv
  have hp : l = g ++ l.drop g.length := by
    have := List.take_append_drop g.length l
    rw [h3] at this
    exact this.symm
  obtain ⟨t, h5, h6⟩ := part_print2 h1 hp
  refine ⟨t, v, l.drop g.length, ?_, h4, h6, ?_⟩
  · unfold restM
    rw [h1, h2]
    simp only
    rw [if_pos h3, h5]
    rfl
  · unfold leadA
    rw [h1, h2, h4]
set_option maxHeartbeats 1000000 in
theorem alead_any (v : Value) (L : List PKey) (p : ByteArray) (w : World) (h : ALS w v L) (hF : ∀ x ∈ L, rightB x.1 = true ∧ rightB x.2 = true) (hp : p.size ≤ 140737488355328) (hn : L.length ≤ 8796093022208) :
    Calls Tryz.prog 10 #[v, .string p] w (ALeadPost L p w) := by
  have HC := Lib.hid (afind_any v L p w h (fun x hx => (hF x hx).1) hp hn)
  have HF := Lib.hid hF
  clear hF
  go_enter Tryz.func10, Tryz.ntmps10
  go_wp2_with fail
  refine HC.out.mono ?_
  rintro en w1 ⟨hb, o, ho, rfl⟩
  have HO := Lib.hid ho
  have HB := Lib.hid hb
  clear ho hb HC
  cases o with
  | none =>
    simp only [bestK, Option.getD_none, Option.isSome_none]
    go_wp2
    go_ret2
    exact ⟨HB.out.alloc HB.out.size _, .inr ⟨HO.out, rfl⟩⟩
  | some x =>
    obtain ⟨xk, xv⟩ := x
    simp only [bestK, Option.getD_some, Option.isSome_some]
    have hr := HF.out _ HO.out.1
    have hs1 := right_size hr.1
    have hs2 := right_size hr.2
    simp only at hs1 hs2
    obtain ⟨t, vl, ml, hrest, hv, hm, hl⟩ := lead_parts HO.out.2.1 hr.2
    have HRS := Lib.hid (show ∀ W, Calls Tryz.prog 28 #[.string p, .string xk] W fun en W' => en = .returned (.tuple #[.string (str t), .bool true]) ∧ Below W.heap.size W W' from fun W => (rest_any p xk W hp (by omega)).mono fun en W' h => by
      unfold RestPost at h
      rw [hrest] at h
      exact h)
    have hst := (parseM_small hm).2.2.1
    have HJ := Lib.hid (show ∀ W, Calls Tryz.prog 29 #[.string xv, .string (str t)] W fun en W' => en = .returned (.tuple #[.string (putS (putM (vl ++ ml))), .int .i64 (putE (putM (vl ++ ml)))]) ∧ Below W.heap.size W W' from fun W => (join_any xv (str t) W (by omega) (by omega)).mono fun en W' h => by
      rcases h with ⟨hb, e, he, h, rfl⟩ | ⟨hb, l', m', h1, h2, rfl⟩
      · rcases h with ⟨y, h⟩ | ⟨l', y, h1, h2⟩
        · rw [hv] at h; cases h
        · rw [hm] at h2; cases h2
      · rw [hv] at h1
        rw [hm] at h2
        cases h1
        cases h2
        exact ⟨rfl, hb⟩)
    have HL := Lib.hid (show leadA (xk, xv) p = putM (vl ++ ml) from hl)
    clear hrest hv hm hl hr hst
    generalize str t = S at *
    generalize putM (vl ++ ml) = R at *
    have hx1 := Blk.new w1 33 #[.string xk, .string xv]
    have hx2 := HB.out.alloc HB.out.size (.cells #[.string xk, .string xv] 33)
    have HX := Lib.hid (And.intro hx1 hx2)
    clear hx1 hx2
    go_wp2_with fail
    generalize w1.heap.size = bp at *
    generalize w1.alloc (.cells #[.string xk, .string xv] 33) = w2 at *
    refine (HRS.out w2).mono ?_
    rintro en w3 ⟨rfl, hb3⟩
    have k1 : w3.cell? ⟨bp, 1, none⟩ = some (.string xv) := (HX.out.1.below hb3 HX.out.1.lt).cell 1
    have HB3 := Lib.hid (HX.out.2.trans (hb3.mono HX.out.2.size))
    clear hb3
    go_wp2_with fail
    refine (HJ.out w3).mono ?_
    rintro en w4 ⟨rfl, hb4⟩
    have HB4 := Lib.hid (HB3.out.trans (hb4.mono HB3.out.size))
    clear hb4
    generalize hS : putS R = PS at *
    generalize hE : putE R = PE at *
    have HSE := Lib.hid (And.intro hS hE)
    clear hS hE
    go_wp2
    go_ret2
    refine ⟨HB4.out, .inl ⟨_, HO.out, ?_⟩⟩
    rw [HL.out, HSE.out.1, HSE.out.2]
    rfl
theorem aall_any (v : Value) (L : List PKey) (w : World) (h : ALS w v L) (hn : L.length ≤ 4398046511104) :
    Calls Tryz.prog 8 #[v] w fun en w' => (∃ v', en = .returned v' ∧ KeysAt w' w'.heap.size v' L) ∧ Below w.heap.size w w' := by
  obtain ⟨ga, kv, rfl, hG, hk⟩ := h
  have HC := Lib.hid (aclone_any L kv w hk hn)
  obtain ⟨A, c, rfl, -, -, -⟩ := hk
  have g0 : w.cell? ⟨ga, 0, none⟩ = some (.slice A L.length c) := hG.cell 0
  go_enter Tryz.func8, Tryz.ntmps8
  go_wp2_with fail
  refine HC.out.mono ?_
  rintro en w1 ⟨⟨v', rfl, ho⟩, hb⟩
  obtain ⟨A', c', rfl, h1, h2, h3⟩ := own_form ho
  have HK := Lib.hid (show KeysAt w1 w1.heap.size (.slice A' L.length c') L from ⟨A', c', rfl, h1, h2, h3⟩)
  have HB := Lib.hid hb
  clear ho hb h1 h2 h3
  go_wp2
  go_ret
  exact ⟨⟨_, rfl, HK.out⟩, HB.out⟩
theorem str_info : (Tryz.prog.info? 9).map (fun i => (i.zero, i.size, i.bytes)) = some (some (.string ByteArray.empty), 1, 16) := by kernel_rfl
def strVs (l : List ByteArray) : List Value := l.map Value.string
theorem leadA_err {x : PKey} {p : ByteArray} {e : Int} (h : leadA x p = .error e) : e ≠ 0 := by
  unfold leadA at h
  split at h
  · exact aputM_err h
  · cases h
    decide
theorem lead_yes {L : List PKey} {p : ByteArray} {x : PKey} (h : BestIs L p (some x)) (hz : (putE (leadA x p) == 0) = true) : LeadIs L p x (putS (leadA x p)) := by
  cases hl : leadA x p with
  | ok t => exact ⟨h, t, hl, rfl⟩
  | error e =>
    rw [hl] at hz
    exact absurd (by simpa [putE] using hz) (leadA_err hl)
theorem lead_no {L : List PKey} {p : ByteArray} (hD : ∀ x ∈ L, ∀ y ∈ L, x.1 = y.1 → x = y) {x : PKey} (h : BestIs L p (some x)) (hz : (putE (leadA x p) == 0) = false) : NoLead L p := fun y q hl => by
  have e := best_one hD h hl.1
  cases e
  obtain ⟨t, ht, -⟩ := hl.2
  rw [ht] at hz
  simp [putE] at hz
theorem lead_none {L : List PKey} {p : ByteArray} (hD : ∀ x ∈ L, ∀ y ∈ L, x.1 = y.1 → x = y) (h : BestIs L p none) : NoLead L p := fun y q hl => by
  have e := best_one hD h hl.1
  cases e
/-- What Way answers. -/
def AWayPost (L : List PKey) (p : ByteArray) (w : World) (en : Ending) (w' : World) : Prop := Below w.heap.size w w' ∧
  ((rightB p = false ∧ en = .returned (.slice none 0 0)) ∨ (∃ ps q xs v, en = .returned v ∧ w'.ownsRow w.heap.size 9 1 v (ps.length + 1) (strVs (ps ++ [q])) ∧ WayIs L (ps ++ [q]) xs ∧ (ps ++ [q])[0]? = some p ∧ NoLead L q))
/-- Where Way's loop is. -/
def WayAt (L : List PKey) (p0 : ByteArray) (w : World) (ps : List ByteArray) (q : ByteArray) (lv : Value) (wr : World) : Prop :=
  (∃ xs, WayIs L (ps ++ [q]) xs) ∧ (ps ++ [q])[0]? = some p0 ∧ wr.ownsRow w.heap.size 9 1 lv (ps.length + 1) (strVs (ps ++ [q])) ∧ Below w.heap.size w wr
set_option maxHeartbeats 2000000 in
set_option maxRecDepth 100000 in
theorem away_any (v : Value) (L : List PKey) (p : ByteArray) (w : World) (h : ALS w v L) (hF : ∀ x ∈ L, rightB x.1 = true ∧ rightB x.2 = true) (hD : ∀ x ∈ L, ∀ y ∈ L, x.1 = y.1 → x = y) (hRG : NoRingE L) (hp : p.size ≤ 140737488355328) (hn : L.length ≤ 4398046511104) :
    Calls Tryz.prog 11 #[v, .string p] w (AWayPost L p w) := by
  have HA := Lib.hid h
  obtain ⟨ga, kv, rfl, -, -⟩ := h
  have HC := Lib.hid (pcheck_any p w hp)
  have HF := Lib.hid hF
  have HD := Lib.hid hD
  have HRG := Lib.hid hRG
  clear hF hD hRG
  have hfl := fun (x y : Int) (W : World) => (show (Instr.field 43 (.agg #[.int .i64 x, .int .i64 y]) 0).run Tryz.prog W = .ok (.int .i64 x) W from by kernel_rfl)
  go_enter Tryz.func11, Tryz.ntmps11
  go_wp2_with fail
  refine HC.out.mono ?_
  rintro en w1 ⟨rfl, hb1⟩
  have HB1 := Lib.hid hb1
  clear hb1
  cases hr : rightB p
  · have hx : ((errOf p).1 == 0) = false := hr
    have hx2 : ¬ (errOf p).1 = 0 := by simpa using hx
    have HR := Lib.hid hr
    clear hr
    generalize (errOf p).1 = e1 at *
    generalize (errOf p).2 = e2 at *
    go_wp2
    go_ret
    exact ⟨HB1.out, .inl ⟨HR.out, rfl⟩⟩
  · have hx : (errOf p).1 = 0 := by
      have h0 : ((errOf p).1 == 0) = true := hr
      simpa using h0
    rw [hx]
    generalize (errOf p).2 = e2 at *
    have HW0 := Lib.hid (show WayAt L p w [] p (.slice (some ⟨w1.heap.size, 0, none⟩) 1 1) (w1.alloc (.cells #[.string p] 9)) from
      ⟨⟨[], .one p hr⟩, rfl, own_base (own_one w1 9 (.string p)) HB1.out.size, HB1.out.alloc HB1.out.size _⟩)
    clear hr hx
    obtain ⟨i0, hi0, hz0, hz1, hz2⟩ := info_parts str_info
    go_wp2
    generalize w1.alloc (.cells #[.string p] 9) = w2 at *
    generalize w1.heap.size = b1 at *
    go_loopw [1, 5] (fun qv lv wr => ∃ ps q, qv = .string q ∧ WayAt L p w ps q lv wr) (fun _ lv _ => L.length + 2 - lenOf lv)
    case atStart => exact ⟨_, _, rfl, HW0.out⟩
    case round =>
      clear HW0
      obtain ⟨ps, q, rfl, hW⟩ := hrel
      obtain ⟨Al, cl, rfl, -, -, -⟩ := own_form hW.2.2.1
      obtain ⟨xs, hxs⟩ := hW.1
      have hsh := hxs.short HRG.out
      have hqs : q.size ≤ 512 := by
        obtain ⟨qs, q', e, hr⟩ := hxs.last
        have := List.append_inj_right' e rfl
        cases this
        exact right_size hr
      simp only [List.length_append, List.length_cons, List.length_nil] at hsh
      have HXS := Lib.hid hxs
      have HW := Lib.hid hW
      have HLE := Lib.hid (alead_any (.pointer (some ⟨ga, 0, none⟩)) L q wr (HA.out.on hW.2.2.2) HF.out (by omega) (by omega))
      clear hW hxs
      go_wp2_with fail
      refine HLE.out.mono ?_
      rintro en w3 ⟨hb3, hres⟩
      have HB3 := Lib.hid hb3
      have HO3 := Lib.hid (own_more HW.out.2.2.1 hb3)
      have HBW := Lib.hid (HW.out.2.2.2.trans (hb3.mono HW.out.2.2.2.size))
      clear hb3 HLE
      rcases hres with ⟨x, hbest, rfl⟩ | ⟨hbest, rfl⟩
      · cases hz : (putE (leadA x q) == 0)
        · have HNL := Lib.hid (lead_no HD.out hbest hz)
          clear hbest hz
          generalize putS (leadA x q) = S at *
          go_wp2
          go_ret
          exact ⟨HBW.out, .inr ⟨ps, q, xs, _, rfl, HO3.out, HXS.out, HW.out.2.1, HNL.out⟩⟩
        · have HLD := Lib.hid (lead_yes hbest hz)
          clear hbest hz
          generalize putS (leadA x q) = S at *
          have HNW := Lib.hid (WayIs.more HXS.out HLD.out)
          have hsh2 := HNW.out.short HRG.out
          simp only [List.length_append, List.length_cons, List.length_nil] at hsh2
          have HO4 := Lib.hid (own_more HO3.out ((Below.refl _ w3).alloc (Nat.le_refl _) (.cells #[.string S] 9)))
          have HAR := Lib.hid (reads_new w3 #[.string S] 9 1 1 rfl)
          have HB4 := Lib.hid (HBW.out.alloc HBW.out.size (.cells #[.string S] 9))
          go_wp2_with (at_builtin; go_loud (refine wpList_append_any _ rfl (.tmp 27) (.tmp 29) _ rfl w.heap.size 9 i0 _ 1 16 Tryz.underlying37 hi0 hz0 hz1 hz2 rfl (by omega) _ (ps.length + 1) (strVs (ps ++ [q])) rfl HO4.out (w3.heap.size + 1) (some ⟨w3.heap.size, 0, none⟩) 1 1 [.string S] rfl HAR.out (by simp [Value.oneCell']) (by simp only [maxLen]; omega) (by omega) HB4.out.size ?_); intro v5 w5 hown5 hg5 hat5; obtain ⟨A5, c5, rfl, -, -, -⟩ := own_form hown5; have HW5 := Lib.hid (show WayAt L p w (ps ++ [q]) S (.slice A5 (ps.length + 1 + 1) c5) w5 from ⟨⟨_, HNW.out⟩, by rw [List.getElem?_append_left (by simp)]; exact HW.out.2.1, by simpa [strVs] using hown5, HB4.out.grown hg5 HB4.out.size (fun k hk => (HO4.out.lt k hk).1)⟩); clear hown5 hg5 hat5)
          go_roundw
          case rel => exact ⟨_, _, rfl, HW5.out⟩
          case measure => simp [lenOf]; omega
      · have HNL := Lib.hid (lead_none HD.out hbest)
        clear hbest
        go_wp2
        go_ret
        exact ⟨HBW.out, .inr ⟨ps, q, xs, _, rfl, HO3.out, HXS.out, HW.out.2.1, HNL.out⟩⟩
end Go.Proofs.YtkfofdmcggoonaaGreatDoor
