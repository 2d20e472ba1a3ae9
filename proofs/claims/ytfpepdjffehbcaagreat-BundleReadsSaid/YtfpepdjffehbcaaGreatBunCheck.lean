/-
  The walks of bundle's value and Check. Condition: the texts are within the reach.
-/
import Derived.Test.YtfpepdjffehbcaaGreatBunRows
import Derived.Test.YtfpepdjffehbcaaGreatPoolPool
set_option linter.unusedVariables false
set_option linter.unusedSimpArgs false
namespace Go.Proofs.YtfpepdjffehbcaaGreat
open Go.RowKit

theorem ba_some {s : ByteArray} (h : ¬ s = ByteArray.empty) : (s.toList == []) = false ∧ s.toList.isEmpty = false ∧ ¬ s.toList = [] := by
  have h0 : ¬ s.toList = [] := by
    intro e
    rw [Lib.toList_data] at e
    exact h (Go.WideShapes.bytes_inj (by rw [e]; rfl))
  refine ⟨?_, ?_, h0⟩ <;> cases hh : s.toList with
    | nil => exact absurd hh h0
    | cons _ _ => rfl
theorem ba_beqB (a b : ByteArray) : (a.toList == b.toList) = decide (a = b) := by
  rw [Bool.eq_iff_iff]
  simp only [beq_iff_eq, decide_eq_true_eq]
  exact ⟨fun h => by rw [Lib.toList_data, Lib.toList_data] at h; exact Go.WideShapes.bytes_inj h, fun h => by rw [h]⟩
theorem hasT_met (M : List ByteArray) (p : ByteArray) : metB M p = hasT M p := rfl
theorem metF_add (M : List ByteArray) (p : ByteArray) : putMF (metF M) p (.bool true) = metF (addM M p) := by
  unfold addM
  split
  · rename_i h
    funext s
    unfold putMF
    split
    · rename_i e
      rw [e]
      unfold metF
      rw [if_pos (show metB M p = true from h)]
    · rfl
  · exact metF_put M p
theorem metF_get (M : List ByteArray) (p : ByteArray) : (metF M p).getD (.bool false) = .bool (hasT M p) := by
  unfold metF
  by_cases h : hasT M p = true
  · rw [if_pos (show metB M p = true from h), h]; rfl
  · rw [if_neg (show ¬ metB M p = true from h)]
    have : hasT M p = false := by simpa using h
    rw [this]; rfl
theorem metF_some (M : List ByteArray) (p : ByteArray) : (metF M p).isSome = hasT M p := by
  unfold metF
  by_cases h : hasT M p = true
  · rw [if_pos (show metB M p = true from h), h]; rfl
  · rw [if_neg (show ¬ metB M p = true from h)]
    have : hasT M p = false := by simpa using h
    rw [this]; rfl
/-- What value leaves of the map of the paths that have been met. -/
def ValPostB (M : List ByteArray) (ahead : ByteArray) (x : PKey) (b n : Nat) (w : World) (en : Ending) (w' : World) : Prop :=
  en = .returned (.int .i64 (valE M ahead x)) ∧ ((valE M ahead x = 0 ∧ MapS w' b (n + 1) (addM M x.1).length (metF (addM M x.1))) ∨ (valE M ahead x ≠ 0 ∧ MapS w' b n M.length (metF M))) ∧ Only b w w'
theorem below_only {b : Nat} {w w' : World} (h : Below w.heap.size w w') : Only b w w' := ⟨h.os, h.tape, h.output, h.size, fun k hk _ => h.block k hk⟩
-- BEGIN value
set_option maxHeartbeats 8000000 in
set_option maxRecDepth 100000 in
theorem bvalue_any (M : List ByteArray) (ahead : ByteArray) (x : PKey) (b n : Nat) (w : World) (hM : MapS w b n M.length (metF M)) (hn : n ≤ 100000000) (h1 : x.1.size ≤ 140737488355328) (h2 : x.2.size ≤ 140737488355328) :
    Calls Tryz.prog 50 #[.agg #[.string x.1, .string x.2], .string ahead, .map (some b)] w (ValPostB M ahead x b n w) := by
  obtain ⟨p, t⟩ := x
  simp only at h1 h2
  have HMP := Lib.hid hM
  have HB1 := Lib.hid ((Below.refl _ w).alloc (Nat.le_refl _) (.cells #[.string p, .string t] 59))
  have HV := Lib.hid (Blk.new w 59 #[.string p, .string t])
  have HPC := Lib.hid (fun W => pcheck_any p W h1)
  have HUC := Lib.hid (fun W => check_any t W h2)
  have hfl := fun (x y : Int) (W : World) => (show (Instr.field 93 (.agg #[.int .i64 x, .int .i64 y]) 0).run Tryz.prog W = .ok (.int .i64 x) W from by kernel_rfl)
  have HVE := Lib.hid (show ∀ e : Int, valE M ahead (p, t) = e → e ≠ 0 → ∀ W, Below w.heap.size w W → MapS W b n M.length (metF M) → ValPostB M ahead (p, t) b n w (.returned (.int .i64 e)) W from fun e he h0 W hb hm => ⟨by rw [he], .inr ⟨by rw [he]; exact h0, hm⟩, below_only hb⟩)
  by_cases hp0 : p = ByteArray.empty
  · subst hp0
    have HX := Lib.hid (show valE M ahead (ByteArray.empty, t) = 2 from if_pos (.inl rfl))
    go_enter Tryz.func50, Tryz.ntmps50
    go_wp2
    go_ret
    exact HVE.out 2 HX.out (by decide) _ HB1.out (HMP.out.on HB1.out)
  · have hk := ba_some hp0
    have hk1 := hk.1
    have hk2 := hk.2.1
    have hk3 := hk.2.2
    clear hk
    cases hr : rightB p
    · have HX := Lib.hid (show valE M ahead (p, t) = 2 from if_pos (.inr hr))
      have hx : ((errOf p).1 == 0) = false := hr
      have hx2 : ¬ (errOf p).1 = 0 := by simpa using hx
      clear hr
      unfold CheckPost at HPC
      generalize (errOf p).1 = e1 at *
      generalize (errOf p).2 = e2 at *
      go_enter Tryz.func50, Tryz.ntmps50
      go_wp2_with (go_at_call 73; go_loud (refine (HPC.out _).mono ?_; rintro en w2 ⟨rfl, hb2⟩; have HB2 := Lib.hid (HB1.out.trans (hb2.mono HB1.out.size)); clear hb2))
      go_ret
      exact HVE.out 2 HX.out (by decide) _ HB2.out (HMP.out.on HB2.out)
    · have HR := Lib.hid hr
      have hx : (errOf p).1 = 0 := by
        have h0 : ((errOf p).1 == 0) = true := hr
        simpa using h0
      unfold CheckPost at HPC
      rw [hx] at HPC
      clear hr hx
      generalize (errOf p).2 = e2 at *
      have HNE := Lib.hid (show ¬ (p = ByteArray.empty ∨ rightB p = false) from fun h => h.elim hp0 fun h => by rw [HR.out] at h; cases h)
      cases hbl : bl ahead p
      · have hb2 : Op.bytesLess ahead.toList p.toList = false := hbl
        have HX := Lib.hid (show valE M ahead (p, t) = 320 from by unfold valE; rw [if_neg HNE.out, if_pos hbl])
        have hcs : Op.bytesLess p.toList ahead.toList = true ∨ (Op.bytesLess p.toList ahead.toList = false ∧ (p.toList == ahead.toList) = true) := by
          cases h1 : Op.bytesLess p.toList ahead.toList
          · exact .inr ⟨rfl, by rw [blT.conn ahead p hbl h1]; simp⟩
          · exact .inl rfl
        clear hbl hb2
        rcases hcs with h1 | ⟨h1, h2⟩
        all_goals
          go_enter Tryz.func50, Tryz.ntmps50
          go_wp2_with (go_at_call 73; go_loud (refine (HPC.out _).mono ?_; rintro en w2 ⟨rfl, hb2⟩; have HB2 := Lib.hid (HB1.out.trans (hb2.mono HB1.out.size)); have HV2 := Lib.hid (HV.out.below hb2 HV.out.lt); have v0 := HV2.out.cell 0; have v1 := HV2.out.cell 1; clear hb2))
          go_ret
          exact HVE.out 320 HX.out (by decide) _ HB2.out (HMP.out.on HB2.out)
      · have hb2 : Op.bytesLess p.toList ahead.toList = false := by
          cases h1 : Op.bytesLess p.toList ahead.toList
          · rfl
          · have := blT.tr _ _ _ (show bl p ahead = true from h1) hbl
            rw [blT.irr] at this
            cases this
        have hb4 : (p.toList == ahead.toList) = false := by
          rw [ba_beqB]
          exact decide_eq_false fun e => by rw [e, blT.irr] at hbl; cases hbl
        have HBL := Lib.hid (show ¬ bl ahead p = false from by rw [hbl]; simp)
        clear hbl
        unfold checkV at HUC
        cases hbr : broken t with
        | some q =>
          have HX := Lib.hid (show valE M ahead (p, t) = 6 from by unfold valE; rw [if_neg HNE.out, if_neg HBL.out, if_pos (by rw [hbr]; rfl)])
          rw [hbr] at HUC
          simp only [spotV] at HUC
          clear hbr
          go_enter Tryz.func50, Tryz.ntmps50
          go_wp2_with (first | (go_at_call 73; go_loud (refine (HPC.out _).mono ?_; rintro en w2 ⟨rfl, hb2⟩; have HB2 := Lib.hid (HB1.out.trans (hb2.mono HB1.out.size)); have HV2 := Lib.hid (HV.out.below hb2 HV.out.lt); have v0 := HV2.out.cell 0; have v1 := HV2.out.cell 1; clear hb2)) | (go_at_call 49; go_loud (refine (HUC.out _).mono ?_; rintro en w3 ⟨rfl, hb3⟩; have HB3 := Lib.hid (HB2.out.trans (hb3.mono HB2.out.size)); have HV3 := Lib.hid (HV2.out.below hb3 HV2.out.lt); have x0 := HV3.out.cell 0; have x1 := HV3.out.cell 1; clear hb3 v0 v1; skip)))
          go_ret
          exact HVE.out 6 HX.out (by decide) _ HB3.out (HMP.out.on HB3.out)
        | none =>
          have HBR := Lib.hid (show ¬ (broken t).isSome = true from by rw [hbr]; simp)
          rw [hbr] at HUC
          simp only [spotV] at HUC
          clear hbr
          by_cases hsz : 4096 < t.size
          · have hs2 : (4096 : Int) < (t.size : Int) := by omega
            have HX := Lib.hid (show valE M ahead (p, t) = 3 from by unfold valE; rw [if_neg HNE.out, if_neg HBL.out, if_neg HBR.out, if_pos (.inl hsz)])
            go_enter Tryz.func50, Tryz.ntmps50
            go_wp2_with (first | (go_at_call 73; go_loud (refine (HPC.out _).mono ?_; rintro en w2 ⟨rfl, hb2⟩; have HB2 := Lib.hid (HB1.out.trans (hb2.mono HB1.out.size)); have HV2 := Lib.hid (HV.out.below hb2 HV.out.lt); have v0 := HV2.out.cell 0; have v1 := HV2.out.cell 1; clear hb2)) | (go_at_call 49; go_loud (refine (HUC.out _).mono ?_; rintro en w3 ⟨rfl, hb3⟩; have HB3 := Lib.hid (HB2.out.trans (hb3.mono HB2.out.size)); have HV3 := Lib.hid (HV2.out.below hb3 HV2.out.lt); have x0 := HV3.out.cell 0; have x1 := HV3.out.cell 1; clear hb3 v0 v1; skip)))
            go_ret
            exact HVE.out 3 HX.out (by decide) _ HB3.out (HMP.out.on HB3.out)
          · have hs2 : ¬ (4096 : Int) < (t.size : Int) := by omega
            have hpm : p.size ≤ maxLen := by simp only [maxLen]; omega
            by_cases hfull : hasT M p = false ∧ M.length = 16384
            · have HX := Lib.hid (show valE M ahead (p, t) = 3 from by unfold valE; rw [if_neg HNE.out, if_neg HBL.out, if_neg HBR.out, if_pos (.inr hfull)])
              have hm1 : ((M.length : Int) == 16384) = true := by rw [hfull.2]; rfl
              have HMG := Lib.hid (show (metF M p).getD (.bool false) = .bool false from by rw [metF_get, hfull.1])
              clear hfull
              go_enter Tryz.func50, Tryz.ntmps50
              go_wp2_with (first | (go_at_call 73; go_loud (refine (HPC.out _).mono ?_; rintro en w2 ⟨rfl, hb2⟩; have HB2 := Lib.hid (HB1.out.trans (hb2.mono HB1.out.size)); have HV2 := Lib.hid (HV.out.below hb2 HV.out.lt); have v0 := HV2.out.cell 0; have v1 := HV2.out.cell 1; clear hb2)) | (go_at_call 49; go_loud (refine (HUC.out _).mono ?_; rintro en w3 ⟨rfl, hb3⟩; have HB3 := Lib.hid (HB2.out.trans (hb3.mono HB2.out.size)); have HV3 := Lib.hid (HV2.out.below hb3 HV2.out.lt); have x0 := HV3.out.cell 0; have x1 := HV3.out.cell 1; clear hb3 v0 v1; have HM3 := Lib.hid (HMP.out.on HB3.out); have hlk := HM3.out.look law_str Tryz.underlying80 (zero_bool w3) hpm (key_str hpm); rw [HMG.out] at hlk; have hln := fun ty => HM3.out.len Tryz.underlying80 ty)))
              go_ret
              exact HVE.out 3 HX.out (by decide) _ HB3.out (HMP.out.on HB3.out)
            · have HX := Lib.hid (show valE M ahead (p, t) = 0 from by unfold valE; rw [if_neg HNE.out, if_neg HBL.out, if_neg HBR.out, if_neg (fun h => h.elim hsz hfull)])
              have HFU := Lib.hid hfull
              clear hfull
              have HFIN := Lib.hid (show ∀ W w4, Below w.heap.size w W → W.grownBy w4 (some b) → MapS w4 b (n + 1) (if (metF M p).isSome then M.length else M.length + 1) (putMF (metF M) p (.bool true)) → ValPostB M ahead (p, t) b n w (.returned (.int .i64 0)) w4 from fun W w4 hb hg hm => ⟨by rw [HX.out], .inl ⟨HX.out, by
                have hl : (addM M p).length = if (metF M p).isSome then M.length else M.length + 1 := by rw [addM_len, metF_some]
                rw [hl, ← metF_add]
                exact hm⟩, (below_only hb).trans hg⟩)
              cases hh : hasT M p
              · have hml : ¬ (M.length : Int) = 16384 := fun e => HFU.out ⟨hh, by omega⟩
                have hm1 : ((M.length : Int) == 16384) = false := by simpa using hml
                have HMG := Lib.hid (show (metF M p).getD (.bool false) = .bool false from by rw [metF_get, hh])
                clear hh
                go_enter Tryz.func50, Tryz.ntmps50
                go_wp2_with (first | (go_at_call 73; go_loud (refine (HPC.out _).mono ?_; rintro en w2 ⟨rfl, hb2⟩; have HB2 := Lib.hid (HB1.out.trans (hb2.mono HB1.out.size)); have HV2 := Lib.hid (HV.out.below hb2 HV.out.lt); have v0 := HV2.out.cell 0; have v1 := HV2.out.cell 1; clear hb2)) | (go_at_call 49; go_loud (refine (HUC.out _).mono ?_; rintro en w3 ⟨rfl, hb3⟩; have HB3 := Lib.hid (HB2.out.trans (hb3.mono HB2.out.size)); have HV3 := Lib.hid (HV2.out.below hb3 HV2.out.lt); have x0 := HV3.out.cell 0; have x1 := HV3.out.cell 1; clear hb3 v0 v1; have HM3 := Lib.hid (HMP.out.on HB3.out); have hlk := HM3.out.look law_str Tryz.underlying80 (zero_bool w3) hpm (key_str hpm); rw [HMG.out] at hlk; have hln := fun ty => HM3.out.len Tryz.underlying80 ty; obtain ⟨w4, hrun, hM4, hg4⟩ := HM3.out.store law_str Tryz.underlying80 (by simp only [maxLen]; omega) strL_inj hpm (key_str hpm) (.bool true); have HM4 := Lib.hid hM4; have HG4 := Lib.hid hg4; clear hM4 hg4)))
                go_ret
                exact HFIN.out _ _ HB3.out HG4.out HM4.out
              · have HMG := Lib.hid (show (metF M p).getD (.bool false) = .bool true from by rw [metF_get, hh])
                clear hh
                go_enter Tryz.func50, Tryz.ntmps50
                go_wp2_with (first | (go_at_call 73; go_loud (refine (HPC.out _).mono ?_; rintro en w2 ⟨rfl, hb2⟩; have HB2 := Lib.hid (HB1.out.trans (hb2.mono HB1.out.size)); have HV2 := Lib.hid (HV.out.below hb2 HV.out.lt); have v0 := HV2.out.cell 0; have v1 := HV2.out.cell 1; clear hb2)) | (go_at_call 49; go_loud (refine (HUC.out _).mono ?_; rintro en w3 ⟨rfl, hb3⟩; have HB3 := Lib.hid (HB2.out.trans (hb3.mono HB2.out.size)); have HV3 := Lib.hid (HV2.out.below hb3 HV2.out.lt); have x0 := HV3.out.cell 0; have x1 := HV3.out.cell 1; clear hb3 v0 v1; have HM3 := Lib.hid (HMP.out.on HB3.out); have hlk := HM3.out.look law_str Tryz.underlying80 (zero_bool w3) hpm (key_str hpm); rw [HMG.out] at hlk; have hln := fun ty => HM3.out.len Tryz.underlying80 ty; obtain ⟨w4, hrun, hM4, hg4⟩ := HM3.out.store law_str Tryz.underlying80 (by simp only [maxLen]; omega) strL_inj hpm (key_str hpm) (.bool true); have HM4 := Lib.hid hM4; have HG4 := Lib.hid hg4; clear hM4 hg4)))
                go_ret
                exact HFIN.out _ _ HB3.out HG4.out HM4.out
-- END value
/-- The fault's cell at r, the rest above it. -/
def FC (w : World) (r : Nat) (W : World) : Prop := Blk W r 34 #[.int .i64 0, .int .i64 0] ∧ Below r w W ∧ r + 1 ≤ W.heap.size
theorem FC.below {w W W' : World} {r B : Nat} (h : FC w r W) (hb : Below B W W') (hB : r + 1 ≤ B) : FC w r W' := ⟨h.1.below hb (by omega), h.2.1.trans (hb.mono (by omega)), by have := h.2.2; have := hb.size; omega⟩
theorem FC.on {w W W' : World} {r : Nat} (h : FC w r W) (hb : Below W.heap.size W W') : FC w r W' := h.below hb h.2.2
theorem FC.grown {w W W' : World} {r : Nat} {row : Option Nat} (h : FC w r W) (hg : W.grownBy W' row) (hr : ∀ k, row = some k → r + 1 ≤ k) : FC w r W' :=
  ⟨h.1.grown hg (fun e => by have := hr _ e.symm; omega), h.2.1.grown hg (by have := h.2.2; omega) (fun k hk => by have := hr k hk; omega), by have := h.2.2; have := hg.size; omega⟩
theorem FC.done {w W : World} {r : Nat} (h : FC w r W) (x y : Int) : Blk ((W.setCell ⟨r, 0, none⟩ (.int .i64 x)).setCell ⟨r, 1, none⟩ (.int .i64 y)) r 34 #[.int .i64 x, .int .i64 y] ∧ Below r w ((W.setCell ⟨r, 0, none⟩ (.int .i64 x)).setCell ⟨r, 1, none⟩ (.int .i64 y)) :=
  ⟨h.1.two_set _ _, (h.2.1.setCell (p := ⟨r, 0, none⟩) (Nat.le_refl _) _).setCell (p := ⟨r, 1, none⟩) (Nat.le_refl _) _⟩
theorem FC.alloc {w W : World} {r : Nat} (h : FC w r W) (o : Obj) : FC w r (W.alloc o) := h.below ((Below.refl _ W).alloc (Nat.le_refl _) o) h.2.2
theorem FC.drewN {w W : World} {r : Nat} (h : FC w r W) (k : Nat) : FC w r (W.drewN k) := h.below (below_drewN (Below.refl _ W) k) h.2.2
abbrev faultW (x y : Int) : Value := .agg #[.int .i64 x, .int .i64 y]
theorem faultW_size : (Tryz.prog.info? 34).map (·.size) = some 2 := by kernel_rfl
theorem buncheck_result {tmps : Array Value} {w : World} {r0 : Nat} {x y : Int} (hB : Blk w r0 34 #[.int .i64 x, .int .i64 y]) (hp : tmps.getD 2 undef = .pointer (some ⟨r0, 0, none⟩)) :
    (results Tryz.f24 tmps).run Tryz.prog w = .ok (.agg #[.int .i64 x, .int .i64 y]) w :=
  results_row Tryz.results24 tmps w r0 34 _ _ hp hB Tryz.underlying34 rfl faultW_size
/-- How many values the Books ahead of a place have. -/
def valN (l : List PStep) (i : Nat) : Nat := ((l.take i).map fun b => b.2.length).sum
theorem valN_next {l : List PStep} {i : Nat} {b : PStep} (h : l[i]? = some b) : valN l (i + 1) = valN l i + b.2.length := by
  unfold valN
  rw [List.take_add_one, h]
  simp
theorem valN_le (l : List PStep) (i : Nat) : valN l i ≤ (l.map fun b => b.2.length).sum := by
  unfold valN
  conv => rhs; rw [← List.take_append_drop i l, List.map_append, List.sum_append]
  omega
def CheckPostB (l : List PStep) (w : World) (en : Ending) (w' : World) : Prop := en = .returned (faultW (checkB l).1 (checkB l).2) ∧ Below w.heap.size w w'
theorem size_empty {s : ByteArray} : s.size = 0 ↔ s = ByteArray.empty := ByteArray.size_eq_zero_iff
-- BEGIN check
set_option maxHeartbeats 16000000 in
set_option maxRecDepth 100000 in
theorem buncheck_any (v : Value) (l : List PStep) (vs : List Value) (w : World) (h : StepsR w v l vs) (hin : ∀ b ∈ l, b.1.size ≤ 140737488355328 ∧ (∀ x ∈ b.2, x.1.size ≤ 140737488355328 ∧ x.2.size ≤ 140737488355328) ∧ b.2.length ≤ 100000000) (hn : l.length ≤ 100000000) (htot : (l.map fun b => b.2.length).sum ≤ 90000000) :
    Calls Tryz.prog 24 #[.agg #[v]] w (CheckPostB l w) := by
  obtain ⟨A, c, rfl, hc1, hc2, hRd, hvl, hKs⟩ := h
  unfold maxLen at hc2
  have HRD := Lib.hid hRd
  have HVL := Lib.hid hvl
  have HKS := Lib.hid hKs
  have HIN := Lib.hid hin
  have HTOT := Lib.hid htot
  clear hRd hvl hKs hin htot
  obtain ⟨n, hN⟩ : ∃ n, l.length = n := ⟨_, rfl⟩
  rw [hN] at hc1 hn HRD ⊢
  have HN := Lib.hid hN
  clear hN
  have hn1 : (n : Int) ≤ 100000000 := by omega
  obtain ⟨w1, hw1⟩ : ∃ w1, w.alloc (.cells #[.slice A n c] 24) = w1 := ⟨_, rfl⟩
  have HBX := Lib.hid (show Blk w1 w.heap.size 24 #[.slice A n c] ∧ Below w.heap.size w w1 ∧ w1.heap.size = w.heap.size + 1 from by rw [← hw1]; exact ⟨Blk.new _ _ _, (Below.refl _ _).alloc (Nat.le_refl _) _, by simp⟩)
  obtain ⟨r, hr⟩ : ∃ r, r = w.heap.size := ⟨_, rfl⟩
  have HR := Lib.hid hr
  have HF0 := Lib.hid (show FC w1 (r + 1) (w1.alloc (.cells #[.int .i64 0, .int .i64 0] 34)) from by
    have hs := HBX.out.2.2
    rw [hr, ← hs]
    exact ⟨Blk.new _ _ _, (Below.refl _ _).alloc (Nat.le_refl _) _, by simp⟩)
  have HBW := Lib.hid (show ∀ W, FC w1 (r + 1) W → Below w.heap.size w W ∧ W.cell? ⟨r, 0, none⟩ = some (.slice A n c) from fun W hW => ⟨HBX.out.2.1.trans (hW.2.1.mono (by omega)), by
    have := HBX.out.1
    rw [← hr] at this
    exact (hW.2.1.cell (p := ⟨r, 0, none⟩) (by show r < r + 1; omega)).trans (this.cell 0)⟩)
  have HCC := Lib.hid (show ∀ (i : Nat) (b : PStep), l[i]? = some b → ∃ (kb ko : Nat) (kv : Value), A = some ⟨kb, ko, none⟩ ∧ ∀ W, Below w.heap.size w W → W.cell? ⟨kb, ko + i * 2, none⟩ = some (.string b.1) ∧ W.cell? ⟨kb, ko + i * 2 + 1, none⟩ = some kv ∧ KeysAt W W.heap.size kv b.2 from fun i b hb => by
    have hi := (List.getElem?_eq_some_iff.1 hb).1
    obtain ⟨kv, hkv⟩ : ∃ kv, vs[i]? = some kv := ⟨_, List.getElem?_eq_getElem (by rw [HVL.out]; exact hi)⟩
    obtain ⟨kb, ko, rfl, hkb, hcl⟩ := HRD.out.spot (by have := HN.out; omega) (by have := HN.out; omega)
    have hat := stepCells_at l vs i b kv hb hkv
    exact ⟨kb, ko, kv, rfl, fun W hW => ⟨(hW.cell (p := ⟨kb, ko + i * 2, none⟩) hkb).trans (hcl _ _ hat.1), (hW.cell (p := ⟨kb, ko + i * 2 + 1, none⟩) hkb).trans (hcl _ _ hat.2), (HKS.out i b kv hb hkv).more hW hW.size⟩⟩)
  have HW1 := Lib.hid hw1
  clear hr hw1
  have hfl := fun (x y : Int) (W : World) => (show (Instr.field 93 (.agg #[.int .i64 x, .int .i64 y]) 0).run Tryz.prog W = .ok (.int .i64 x) W from by kernel_rfl)
  go_enter Tryz.func24, Tryz.ntmps24
  go_upto_region 2 with (fail)
  rw [HW1.out, ← HR.out]
  generalize w1.alloc (.cells #[.int .i64 0, .int .i64 0] 34) = w2 at *
  have k0 := (HBW.out w2 HF0.out).2
  go_wp2
  clear k0
  go_loopw [3, 16] (fun nv iv wr => ∃ i : Nat, iv = .int .i64 (i : Int) ∧ i ≤ n ∧ nv = .int .i64 (namedN (l.take i) : Int) ∧ FC w1 (r + 1) wr) (fun _ iv _ => n - (Lib.intOf iv).toNat)
  case atStart => exact ⟨0, rfl, Nat.zero_le _, rfl, HF0.out⟩
  case round =>
    clear HF0
    obtain ⟨i, rfl, hi, rfl, hF⟩ := hrel
    have HF := Lib.hid hF
    clear hF
    have hnm : namedN (l.take i) ≤ i := Nat.le_trans (namedN_le _) (by rw [List.length_take]; omega)
    by_cases hlt : i < n
    · have hq : (i : Int) < (n : Int) := by omega
      obtain ⟨b, hb⟩ : ∃ b, l[i]? = some b := ⟨_, List.getElem?_eq_getElem (by rw [HN.out]; exact hlt)⟩
      obtain ⟨kb, ko, kv, rfl, hcw⟩ := HCC.out i b hb
      obtain ⟨z0, z1, hk⟩ := hcw wr (HBW.out wr HF.out).1
      clear hcw
      obtain ⟨Ak, ck, rfl, -, -, -⟩ := hk
      have HST := Lib.hid (namedN_step hb)
      have hbs := (HIN.out b (List.mem_of_getElem? hb)).1
      have HB := Lib.hid hb
      clear hb
      generalize b.2.length = mk at *
      have HF2 := Lib.hid (HF.out.alloc (.cells #[.string b.1, .slice Ak mk ck] 56))
      go_upto_region 5 with (fail)
      have hnb := Blk.new wr 56 #[.string b.1, .slice Ak mk ck]
      generalize wr.alloc (.cells #[.string b.1, .slice Ak mk ck] 56) = w3 at *
      have y0 : w3.cell? ⟨wr.heap.size, 0, none⟩ = some (.string b.1) := hnb.cell 0
      clear hnb z0 z1
      by_cases hbe : b.1 = ByteArray.empty
      · have hs0 : b.1.size = 0 := size_empty.2 hbe
        have hs1 : (b.1.size : Int) = 0 := by omega
        have HX := Lib.hid (show namedN (l.take (i + 1)) = namedN (l.take i) from by rw [HST.out, if_pos hbe]; rfl)
        clear hbe
        go_wp2
        go_roundw
        case rel => exact ⟨i + 1, by go_num, hlt, by rw [HX.out]; go_num, HF2.out⟩
        case measure => simp [Lib.intOf]; omega
      · have hs0 : 1 ≤ b.1.size := Nat.pos_of_ne_zero fun e => hbe (size_empty.1 e)
        have hs1 : (1 : Int) ≤ (b.1.size : Int) := by omega
        have HX := Lib.hid (show namedN (l.take (i + 1)) = namedN (l.take i) + 1 from by rw [HST.out, if_neg hbe])
        clear hbe
        go_wp2
        go_roundw
        case rel => exact ⟨i + 1, by go_num, hlt, by rw [HX.out]; go_num, HF2.out⟩
        case measure => simp [Lib.intOf]; omega
    · obtain rfl : i = n := by omega
      have hq : ¬ (i : Int) < (i : Int) := by omega
      rw [List.take_of_length_le (by rw [HN.out]; exact Nat.le_refl _)] at hnm ⊢
      have k0 := (HBW.out wr HF.out).2
      have HFI := Lib.hid (show ∀ e a, checkB l = (e, a) → ∀ W, FC w1 (r + 1) W → CheckPostB l w (.returned (faultW e a)) ((W.setCell ⟨r + 1, 0, none⟩ (.int .i64 e)).setCell ⟨r + 1, 1, none⟩ (.int .i64 a)) from fun e a he W hW => ⟨by rw [he], HBX.out.2.1.trans ((hW.done e a).2.mono (by have := HR.out; omega))⟩)
      by_cases hbig : 512 < namedN l ∨ 513 < l.length
      · have HCB := Lib.hid (fun (e a : Int) (he : checkB l = (e, a)) W hW => HFI.out e a he W hW)
        have HX := Lib.hid (show checkB l = (3, -1) from if_pos hbig)
        obtain ⟨c0, c1', c2', c3, c4, c5⟩ := HF.out.1.two (.int .i64 3)
        by_cases h5 : 512 < namedN l
        · have h5' : (512 : Int) < (namedN l : Int) := by omega
          go_wp2
          (try simp only [Exit.inBlock, Exit.then])
          exact bodyPost_ret (buncheck_result (HF.out.done 3 (-1)).1 rfl) rfl (HCB.out _ _ HX.out _ HF.out)
        · have h5' : ¬ (512 : Int) < (namedN l : Int) := by omega
          have h6 : (513 : Int) < (i : Int) := by have := HN.out; omega
          go_wp2
          (try simp only [Exit.inBlock, Exit.then])
          exact bodyPost_ret (buncheck_result (HF.out.done 3 (-1)).1 rfl) rfl (HCB.out _ _ HX.out _ HF.out)
      · have h5' : ¬ (512 : Int) < (namedN l : Int) := by omega
        have h6 : ¬ (513 : Int) < (i : Int) := by have := HN.out; omega
        have HCB := Lib.hid (fun (e a : Int) (he : booksE l 0 none [] = (e, a)) W hW => HFI.out e a ((if_neg hbig).trans he) W hW)
        clear HFI
        have hmm := @run_makeMap Tryz.prog
        have HM0 := Lib.hid (show MapS (wr.alloc (.map #[] 0)) wr.heap.size 0 0 (metF []) from by
          have := MapG.made wr Tryz.prog 9 strL strOk
          have e : metF [] = fun _ => none := by funext s; simp [metF, metB]
          rw [e]
          exact this)
        have HF1 := Lib.hid (HF.out.alloc (.map #[] 0))
        have hmb : r + 2 ≤ wr.heap.size := HF.out.2.2
        have k1 := (HBW.out _ HF1.out).2
        go_upto_region 10 with (fail)
        clear k0
        generalize wr.alloc (.map #[] 0) = w4 at *
        generalize wr.heap.size = mb at *
        clear hmm HF
        go_wp2
        clear k1
        go_loopw [40] (fun jv W => ∃ (j : Nat) (M : List ByteArray), jv = .int .i64 (j : Int) ∧ j ≤ i ∧ CkAt l j M ∧ MapS W mb (valN l j) M.length (metF M) ∧ FC w1 (r + 1) W) (fun jv _ => i - (Lib.intOf jv).toNat)
        case atStart => exact ⟨0, [], rfl, Nat.zero_le _, ckAt_start l, HM0.out, HF1.out⟩
        case round =>
          clear HM0 HF1
          obtain ⟨j, M, rfl, hj, hCk, hM, hF⟩ := hrel
          have HCK := Lib.hid hCk
          have HM := Lib.hid hM
          have HF := Lib.hid hF
          clear hCk hM hF
          by_cases hji : j < i
          · have hq2 : (j : Int) < (i : Int) := by omega
            obtain ⟨⟨nm, vl⟩, hb⟩ : ∃ b, l[j]? = some b := ⟨_, List.getElem?_eq_getElem (by rw [HN.out]; exact hji)⟩
            obtain ⟨kb, ko, kv, rfl, hcw⟩ := HCC.out j _ hb
            have HCW := Lib.hid hcw
            obtain ⟨z0, z1, hk⟩ := hcw wr (HBW.out wr HF.out).1
            clear hcw
            have HIB := Lib.hid (HIN.out _ (List.mem_of_getElem? hb))
            have HB := Lib.hid hb
            have HVN := Lib.hid (valN_next hb)
            have HVL2 := Lib.hid (valN_le l (j + 1))
            have HUC := Lib.hid (fun W => check_any nm W HIB.out.1)
            have hnm := HIB.out.1
            simp only at z0 z1 hk HVN hnm
            have HKV := Lib.hid hk
            obtain ⟨Ak, ck, rfl, -, -, -⟩ := hk
            obtain ⟨mk, hmk⟩ : ∃ mk, vl.length = mk := ⟨_, rfl⟩
            rw [hmk] at z1 HVN HKV HCW
            have HMK := Lib.hid hmk
            have HPV := Lib.hid (show ∀ W, FC w1 (r + 1) W → W.cell? ⟨r, 0, none⟩ = some (.slice (some ⟨kb, ko, none⟩) i c) from fun W hW => (HBW.out W hW).2)
            clear hb hmk
            have HF2 := Lib.hid (HF.out.alloc (.cells #[.string nm, .slice Ak mk ck] 56))
            have HM2 := Lib.hid (HM.out.alloc (.cells #[.string nm, .slice Ak mk ck] 56))
            have HG2 := Lib.hid (Blk.new wr 56 #[.string nm, .slice Ak mk ck])
            have hgm : mb < wr.heap.size := HM.out.lt
            have hgr : r + 2 ≤ wr.heap.size := HF.out.2.2
            go_upto_region 13 with (fail)
            generalize wr.alloc (.cells #[.string nm, .slice Ak mk ck] 56) = w5 at *
            have y0 := HG2.out.cell 0
            clear z0 z1
            unfold checkV at HUC
            cases hbr : broken nm with
            | some q =>
              rw [hbr] at HUC
              simp only [spotV] at HUC
              have HE := Lib.hid (show nameE (prevB l j) nm = 6 from by unfold nameE; rw [if_pos (by rw [hbr]; rfl)])
              have HX := Lib.hid (HCK.out.name HB.out (by rw [HE.out]; decide))
              rw [HE.out] at HX
              clear hbr
              go_upto_region 14 with (go_at_call 49; go_loud (refine (HUC.out _).mono ?_; rintro en w6 ⟨rfl, hb6⟩; have HF6 := Lib.hid (HF2.out.on hb6); have HM6 := Lib.hid (HM2.out.on hb6); have HG6 := Lib.hid (HG2.out.below hb6 HG2.out.lt); clear hb6))
              obtain ⟨c0, c1', c2', c3, c4, c5⟩ := HF6.out.1.two (.int .i64 6)
              go_wp2
              (try simp only [Exit.inBlock, Exit.then])
              exact bodyPost_ret (buncheck_result (HF6.out.done 6 j).1 rfl) rfl (HCB.out _ _ HX.out _ HF6.out)
            | none =>
              rw [hbr] at HUC
              simp only [spotV] at HUC
              have HBR := Lib.hid (show ¬ (broken nm).isSome = true from by rw [hbr]; simp)
              clear hbr
              go_upto_region 15 with (go_at_call 49; go_loud (refine (HUC.out _).mono ?_; rintro en w6 ⟨rfl, hb6⟩; have HF6 := Lib.hid (HF2.out.on hb6); have HM6 := Lib.hid (HM2.out.on hb6); have HG6 := Lib.hid (HG2.out.below hb6 HG2.out.lt); clear hb6))
              have x0 : w6.cell? ⟨wr.heap.size, 0, none⟩ = some (.string nm) := HG6.out.cell 0
              clear y0
              by_cases hl : 256 < nm.size
              · have hl2 : (256 : Int) < (nm.size : Int) := by omega
                have HE := Lib.hid (show nameE (prevB l j) nm = 3 from by unfold nameE; rw [if_neg HBR.out, if_pos hl])
                have HX := Lib.hid (HCK.out.name HB.out (by rw [HE.out]; decide))
                rw [HE.out] at HX
                obtain ⟨c0, c1', c2', c3, c4, c5⟩ := HF6.out.1.two (.int .i64 3)
                go_wp2
                (try simp only [Exit.inBlock, Exit.then])
                exact bodyPost_ret (buncheck_result (HF6.out.done 3 j).1 rfl) rfl (HCB.out _ _ HX.out _ HF6.out)
              · have hl2 : ¬ (256 : Int) < (nm.size : Int) := by omega
                obtain ⟨cap0, hc0⟩ : ∃ cap0, valN l j = cap0 := ⟨_, rfl⟩
                rw [hc0] at HM6 HVN
                have HCAP := Lib.hid (show cap0 + mk ≤ 90000000 from by have := HVN.out; have := HVL2.out; have := HTOT.out; omega)
                have HBAD := Lib.hid (fun (e a : Int) (h : booksE l 0 none [] = (e, a)) W hW => HCB.out e a h W hW)
                go_upto_region 17 with (fail)
                have HFIRST := Lib.hid (show j = 0 → nameE (prevB l j) nm = 0 from fun h => by unfold nameE prevB; rw [if_neg HBR.out, if_neg hl, if_pos h])
                have HSEC := Lib.hid (show ∀ (m : Nat) (pn : ByteArray) (pv : List PKey), j = m + 1 → l[m]? = some (pn, pv) → nameE (prevB l j) nm = if bl pn nm = false then 320 else 0 from fun m pn pv h hb => by
                  rw [h, prevB_next hb]
                  unfold nameE
                  rw [if_neg HBR.out, if_neg hl])
                by_cases hne : nameE (prevB l j) nm = 0
                · have HNX := Lib.hid (fun (M' : List ByteArray) (h : valsE vl ByteArray.empty M = (0, M')) => HCK.out.next HB.out hne h)
                  have HVX := Lib.hid (fun (e : Int) (M' : List ByteArray) (h : valsE vl ByteArray.empty M = (e, M')) (he : e ≠ 0) => HCK.out.vals HB.out hne h he)
                  have HKV0 := Lib.hid (show ∀ W, Below w.heap.size w W → KeysAt W W.heap.size (.slice Ak mk ck) vl from fun W hW => by have := (HCW.out W hW).2.2; exact this)
                  rcases Nat.eq_zero_or_pos j with hj0 | hj0
                  case' inl =>
                    subst hj0
                    clear HFIRST HSEC hne
                    go_quiet (fail)
                  case' inr =>
                    obtain ⟨m, rfl⟩ : ∃ m, j = m + 1 := ⟨j - 1, by omega⟩
                    obtain ⟨⟨pn, pv⟩, hpb⟩ : ∃ b, l[m]? = some b := ⟨_, List.getElem?_eq_getElem (by rw [HN.out]; omega)⟩
                    have hs := HSEC.out m pn pv rfl hpb
                    have hless : Op.bytesLess pn.toList nm.toList = true := by
                      cases h : bl pn nm
                      · rw [h, if_pos rfl, hne] at hs
                        exact absurd hs (by decide)
                      · exact h
                    obtain ⟨kb', ko', kv', e', hcw'⟩ := HCC.out m _ hpb
                    cases e'
                    have z3 := (hcw' w6 (HBW.out w6 HF6.out).1).1
                    clear hcw'
                    have kx := HPV.out w6 HF6.out
                    have hmi : (m : Int) < (i : Int) := by omega
                    simp only at z3
                    clear hs hne hpb HFIRST HSEC
                    go_quiet (fail)
                  all_goals
                    have HF7 := Lib.hid (HF6.out.drewN nq)
                    have HM7 := Lib.hid (HM6.out.drewN nq)
                    have HG7 := Lib.hid (HG6.out.drewN nq)
                    have HKV7 := Lib.hid (show ∀ W, FC w1 (r + 1) W → KeysAt W W.heap.size (.slice Ak mk ck) vl from fun W hW => HKV0.out W (HBW.out W hW).1)
                    clear x0 HG6 HF6 HM6
                    generalize w6.drewN nq = w7 at *
                    have x0 : w7.cell? ⟨wr.heap.size, 0, none⟩ = some (.string nm) := HG7.out.cell 0
                    have x1 : w7.cell? ⟨wr.heap.size, 1, none⟩ = some (.slice Ak mk ck) := HG7.out.cell 1
                    have hmk2 : (mk : Int) ≤ 100000000 := by have := HIB.out.2.2; have := HMK.out; omega
                    go_wp2
                    clear x0 x1
                    go_loopw [9, 80] (fun av kv W => ∃ (k : Nat) (M' : List ByteArray) (ahead : ByteArray), kv = .int .i64 (k : Int) ∧ k ≤ mk ∧ av = .string ahead ∧ VkAt vl M k ahead M' ∧ MapS W mb (cap0 + k) M'.length (metF M') ∧ FC w1 (r + 1) W) (fun _ kv _ => mk - (Lib.intOf kv).toNat)
                    case atStart => exact ⟨0, M, ⟨#[]⟩, rfl, Nat.zero_le _, rfl, vkAt_start vl M, HM7.out, HF7.out⟩
                    case round =>
                      clear HF7 HM7 HG7
                      obtain ⟨k, M', ahead, rfl, hk, rfl, hV, hM, hF⟩ := hrel
                      have HV := Lib.hid hV
                      have HM := Lib.hid hM
                      have HF := Lib.hid hF
                      clear hV hM hF
                      by_cases hkm : k < mk
                      · have hq3 : (k : Int) < (mk : Int) := by omega
                        obtain ⟨⟨xp, xt⟩, hx⟩ : ∃ x, vl[k]? = some x := ⟨_, List.getElem?_eq_getElem (by rw [HMK.out]; exact hkm)⟩
                        obtain ⟨Av, cv, ev, hcv, -, hRv⟩ := HKV7.out _ HF.out
                        rw [HMK.out] at ev hcv hRv
                        cases ev
                        obtain ⟨bv, ov, rfl, hbv, hclv⟩ := hRv.spot (by omega) (by omega)
                        have hat := pairCells_at vl k _ hx
                        have y0 : wr.cell? ⟨bv, ov + k * 2, none⟩ = some (.string xp) := hclv _ _ hat.1
                        have y1 : wr.cell? ⟨bv, ov + k * 2 + 1, none⟩ = some (.string xt) := hclv _ _ hat.2
                        have HIX := Lib.hid (HIB.out.2.1 _ (List.mem_of_getElem? hx))
                        have HX := Lib.hid hx
                        clear hclv hat hx
                        have HF8 := Lib.hid (HF.out.alloc (.cells #[.string xp, .string xt] 59))
                        have HM8 := Lib.hid (HM.out.alloc (.cells #[.string xp, .string xt] 59))
                        have HG8 := Lib.hid (Blk.new wr 59 #[.string xp, .string xt])
                        have hgm8 : mb < wr.heap.size := HM.out.lt
                        go_upto_region 23 with (fail)
                        generalize wr.alloc (.cells #[.string xp, .string xt] 59) = w8 at *
                        have u0 : w8.cell? ⟨wr.heap.size, 0, none⟩ = some (.string xp) := HG8.out.cell 0
                        have u1 : w8.cell? ⟨wr.heap.size, 1, none⟩ = some (.string xt) := HG8.out.cell 1
                        have HVA := Lib.hid (bvalue_any M' ahead (xp, xt) mb (cap0 + k) w8 HM8.out (by have := HCAP.out; omega) HIX.out.1 HIX.out.2)
                        clear y0 y1
                        go_wp2_with fail
                        refine HVA.out.mono ?_
                        rintro en w9 ⟨rfl, hmap, hon⟩
                        have HMAP := Lib.hid hmap
                        have HF9 := Lib.hid (HF8.out.grown hon (fun q hq => by cases hq; omega))
                        have HG9 := Lib.hid (HG8.out.grown hon (fun e => by cases e; omega))
                        have u2 : w9.cell? ⟨wr.heap.size, 0, none⟩ = some (.string xp) := HG9.out.cell 0
                        clear hmap hon u0 u1 HVA
                        obtain ⟨ev, hev⟩ : ∃ ev, valE M' ahead (xp, xt) = ev := ⟨_, rfl⟩
                        rw [hev] at HMAP ⊢
                        by_cases he : ev = 0
                        · have he1 : ¬ (ev ≠ 0) := fun h => h he
                          have HNV := Lib.hid (HV.out.next HX.out (by rw [hev]; exact he))
                          have HMV := Lib.hid (show MapS w9 mb (cap0 + (k + 1)) (addM M' xp).length (metF (addM M' xp)) from by
                            rcases HMAP.out with ⟨-, h⟩ | ⟨h, -⟩
                            · exact h
                            · exact absurd he h)
                          subst he
                          clear he1 hev HMAP
                          go_wp2
                          go_roundw
                          case rel => exact ⟨k + 1, addM M' xp, xp, by go_num, hkm, rfl, HNV.out, HMV.out, HF9.out⟩
                          case measure => simp [Lib.intOf]; omega
                        · have he1 : (ev == 0) = false := by simpa using he
                          have HBV := Lib.hid (HV.out.bad HX.out (by rw [hev]; exact he))
                          rw [hev] at HBV
                          have HXX := Lib.hid (HVX.out _ _ HBV.out he)
                          clear hev HMAP
                          obtain ⟨c0, c1', c2', c3, c4, c5⟩ := HF9.out.1.two (.int .i64 ev)
                          go_wp2
                          (try simp only [Exit.inBlock, Exit.then])
                          exact bodyPost_ret (buncheck_result (HF9.out.done ev _).1 rfl) rfl (HCB.out _ _ HXX.out _ HF9.out)
                      · obtain rfl : k = mk := by omega
                        have hq3 : ¬ (k : Int) < (k : Int) := by omega
                        have HDN := Lib.hid (HV.out.done (by rw [HMK.out]; exact Nat.le_refl _))
                        go_wp2
                        go_roundw
                        case rel => exact ⟨_, M', by go_num, by omega, HNX.out _ HDN.out, by rw [HVN.out]; exact HM.out, HF.out⟩
                        case measure => simp [Lib.intOf]; omega
                · rcases Nat.eq_zero_or_pos j with hj0 | hj0
                  · exact absurd (HFIRST.out hj0) hne
                  · obtain ⟨m, rfl⟩ : ∃ m, j = m + 1 := ⟨j - 1, by omega⟩
                    obtain ⟨⟨pn, pv⟩, hpb⟩ : ∃ b, l[m]? = some b := ⟨_, List.getElem?_eq_getElem (by rw [HN.out]; omega)⟩
                    have hs := HSEC.out m pn pv rfl hpb
                    have hbl : bl pn nm = false := by
                      cases h : bl pn nm
                      · rfl
                      · rw [h] at hs
                        exact absurd hs hne
                    have hless : Op.bytesLess pn.toList nm.toList = false := hbl
                    have HX := Lib.hid (HCK.out.name HB.out hne)
                    rw [hs, if_pos hbl] at HX
                    obtain ⟨kb', ko', kv', e', hcw'⟩ := HCC.out m _ hpb
                    cases e'
                    have z3 := (hcw' w6 (HBW.out w6 HF6.out).1).1
                    clear hcw'
                    have kx := HPV.out w6 HF6.out
                    have hmi : (m : Int) < (i : Int) := by omega
                    simp only at z3
                    clear hs hbl hne hpb
                    go_quiet (fail)
                    have HF7 := Lib.hid (HF6.out.drewN nq)
                    generalize w6.drewN nq = w7 at *
                    obtain ⟨c0, c1', c2', c3, c4, c5⟩ := HF7.out.1.two (.int .i64 320)
                    go_wp2
                    (try simp only [Exit.inBlock, Exit.then])
                    exact bodyPost_ret (buncheck_result (HF7.out.done 320 ((m + 1 : Nat) : Int)).1 rfl) rfl (HCB.out _ _ HX.out _ HF7.out)
          · obtain rfl : j = i := by omega
            have hq2 : ¬ (j : Int) < (j : Int) := by omega
            have HX := Lib.hid (HCK.out.done (by rw [HN.out]; exact Nat.le_refl _))
            obtain ⟨c0, c1', c2', c3, c4, c5⟩ := HF.out.1.two (.int .i64 0)
            go_wp2
            (try simp only [Exit.inBlock, Exit.then])
            exact bodyPost_ret (buncheck_result (HF.out.done 0 0).1 rfl) rfl (HCB.out _ _ HX.out _ HF.out)
-- END check
end Go.Proofs.YtfpepdjffehbcaaGreat
