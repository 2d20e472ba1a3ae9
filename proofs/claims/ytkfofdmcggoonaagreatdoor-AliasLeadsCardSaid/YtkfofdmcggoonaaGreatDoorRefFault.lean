/-
  The walk of ref13's Fault. Condition: the texts are within the reach; at most 1000 pairs.
-/
import Derived.Test.YtkfofdmcggoonaaGreatDoorRefComes
import Derived.Test.YtkfofdmcggoonaaGreatDoorAliasNew
set_option linter.unusedVariables false
set_option linter.unusedSimpArgs false
namespace Go.Proofs.YtkfofdmcggoonaaGreatDoor
open Go.RowKit

theorem rparse_err (s : ByteArray) (w : World) (hs : s.size ≤ 140737488355328) :
    Calls Tryz.prog 25 #[.string s] w fun en w' => (∃ v, en = .returned (.tuple #[v, .agg #[.int .i64 (errOf s).1, .int .i64 (errOf s).2]])) ∧ Below w.heap.size w w' :=
  (rparse_any s w hs).mono fun en w' h => by
    obtain ⟨hB, ⟨x, y, hE, rfl⟩ | ⟨l, v, hE, rfl, -⟩⟩ := h
    · exact ⟨⟨_, by unfold errOf; rw [hE]; rfl⟩, hB⟩
    · exact ⟨⟨_, by unfold errOf; rw [hE]; rfl⟩, hB⟩
theorem fine_mem {l : List PKey} (h : AllFine l) {x : PKey} (hx : x ∈ l) : FineP x := badA_no (allFine_mem h hx)
def FaultPost (l : List PKey) (w : World) (en : Ending) (w' : World) : Prop := (∃ e a, FaultIs l e a ∧ en = .returned (faultV e a)) ∧ Below w.heap.size w w'
theorem fault_result {tmps : Array Value} {w : World} {r0 : Nat} {x y : Int} (hB : Blk w r0 27 #[.int .i64 x, .int .i64 y]) (hp : tmps.getD 2 undef = .pointer (some ⟨r0, 0, none⟩)) :
    (results Tryz.f7 tmps).run Tryz.prog w = .ok (.agg #[.int .i64 x, .int .i64 y]) w :=
  results_row Tryz.results7 tmps w r0 27 _ _ hp hB Tryz.underlying27 rfl fault_size
-- BEGIN fault
set_option maxHeartbeats 16000000 in
set_option maxRecDepth 100000 in
theorem fault_any (v : Value) (l : List PKey) (w : World) (h : KeysAt w w.heap.size v l) (hsz : ∀ x ∈ l, x.1.size ≤ 140737488355328 ∧ x.2.size ≤ 140737488355328) (hn : l.length ≤ 1000) :
    Calls Tryz.prog 7 #[v] w (FaultPost l w) := by
  have HK := Lib.hid h
  obtain ⟨A, c, rfl, hc1, hc2, hR⟩ := h
  unfold maxLen at hc2
  have HRD := Lib.hid hR
  have HSZ := Lib.hid hsz
  obtain ⟨n, hN⟩ : ∃ n, l.length = n := ⟨_, rfl⟩
  rw [hN] at hc1 hn HRD ⊢
  have HN := Lib.hid hN
  have hn1 : (n : Int) ≤ 1000 := by omega
  obtain ⟨r, hr⟩ : ∃ r, r = w.heap.size := ⟨_, rfl⟩
  have HR := Lib.hid hr
  clear hR hsz hN hr
  have HF0 := Lib.hid (show FB w r (w.alloc (.cells #[.int .i64 0, .int .i64 0] 27)) from by rw [HR.out]; exact ⟨Blk.new _ _ _, (Below.refl _ _).alloc (Nat.le_refl _) _, by simp⟩)
  go_enter Tryz.func7, Tryz.ntmps7
  go_wp2
  rw [← HR.out]
  generalize w.alloc (.cells #[.int .i64 0, .int .i64 0] 27) = w1 at *
  go_loopw [3] (fun iv wr => ∃ i : Nat, iv = .int .i64 (i : Int) ∧ i ≤ n ∧ (∀ j, j < i → FineAt l j) ∧ FB w r wr) (fun iv _ => n - (Lib.intOf iv).toNat)
  case atStart => exact ⟨0, rfl, Nat.zero_le _, fun j hj => absurd hj (by omega), HF0.out⟩
  case round =>
    clear HF0
    obtain ⟨i, rfl, hi, hFi, hFB⟩ := hrel
    have HFI := Lib.hid hFi
    have HFB := Lib.hid hFB
    clear hFi hFB
    by_cases hlt : i < n
    · obtain ⟨⟨xk, xv⟩, hx⟩ : ∃ x, l[i]? = some x := ⟨_, List.getElem?_eq_getElem (by rw [HN.out]; exact hlt)⟩
      have hq : (i : Int) < (n : Int) := by omega
      have HB0 := Lib.hid (show Below w.heap.size w wr from HR.out ▸ HFB.out.2.1)
      have HS := Lib.hid (HSZ.out _ (List.mem_of_getElem? hx))
      obtain ⟨b, off, rfl, hbo, hcl⟩ := HRD.out.spot (by omega) (by omega)
      have hat := pairCells_at l i _ hx
      have HCC := Lib.hid (fun (X : World) (hX : Below w.heap.size w X) => show X.cell? ⟨b, off + i * 2, none⟩ = some (.string xk) ∧ X.cell? ⟨b, off + i * 2 + 1, none⟩ = some (.string xv) from
        ⟨(hX.cell (p := ⟨b, off + i * 2, none⟩) hbo).trans (hcl _ _ hat.1), (hX.cell (p := ⟨b, off + i * 2 + 1, none⟩) hbo).trans (hcl _ _ hat.2)⟩)
      obtain ⟨z0, z1⟩ := HCC.out wr HB0.out
      have HX := Lib.hid hx
      clear hx hat hcl hbo
      go_upto_region 5 with (go_at_call 25; go_loud (refine (rparse_err xk _ HS.out.1).mono ?_; rintro en w2 ⟨⟨va, rfl⟩, hb2⟩; have HN2 := Lib.hid hb2; clear hb2))
      have HBA := Lib.hid ((HB0.out.trans (HN2.out.mono HB0.out.size)).alloc (Nat.le_trans HB0.out.size HN2.out.size) (.cells #[.int .i64 (errOf xk).1, .int .i64 (errOf xk).2] 43))
      have HFA := Lib.hid ((HFB.out.on HN2.out).alloc (.cells #[.int .i64 (errOf xk).1, .int .i64 (errOf xk).2] 43))
      have HS1 := Lib.hid (Blk.new w2 43 #[.int .i64 (errOf xk).1, .int .i64 (errOf xk).2])
      have HBAD := Lib.hid (show badA (xk, xv) = (!((errOf xk).1 == 0) || !((errOf xv).1 == 0) || decide (xk = ByteArray.empty) || decide (xv = ByteArray.empty)) from rfl)
      generalize (errOf xk).1 = e1 at *
      generalize (errOf xk).2 = y1 at *
      generalize w2.alloc (.cells #[.int .i64 e1, .int .i64 y1] 43) = w3 at *
      obtain ⟨x0, x1⟩ := HCC.out w3 HBA.out
      clear z0 z1
      go_upto_region 6 with (go_at_call 25; go_loud (refine (rparse_err xv _ HS.out.2).mono ?_; rintro en w4 ⟨⟨vb, rfl⟩, hb4⟩; have HN4 := Lib.hid hb4; clear hb4))
      have HBC := Lib.hid ((HBA.out.trans (HN4.out.mono HBA.out.size)).alloc (Nat.le_trans HBA.out.size HN4.out.size) (.cells #[.int .i64 (errOf xv).1, .int .i64 (errOf xv).2] 43))
      have HFC := Lib.hid ((HFA.out.on HN4.out).alloc (.cells #[.int .i64 (errOf xv).1, .int .i64 (errOf xv).2] 43))
      have HS1' := Lib.hid ((HS1.out.below HN4.out HS1.out.lt).alloc (.cells #[.int .i64 (errOf xv).1, .int .i64 (errOf xv).2] 43))
      have HS2 := Lib.hid (Blk.new w4 43 #[.int .i64 (errOf xv).1, .int .i64 (errOf xv).2])
      generalize (errOf xv).1 = e2 at *
      generalize (errOf xv).2 = y2 at *
      generalize w4.alloc (.cells #[.int .i64 e2, .int .i64 y2] 43) = w5 at *
      obtain ⟨q0, q1⟩ := HCC.out w5 HBC.out
      have k0 : w5.cell? ⟨w2.heap.size, 0, none⟩ = some (.int .i64 e1) := HS1'.out.cell 0
      have k1 : w5.cell? ⟨w4.heap.size, 0, none⟩ = some (.int .i64 e2) := HS2.out.cell 0
      have k2 : w5.cell? ⟨r, 0, none⟩ = some (.int .i64 0) := HFC.out.1.cell 0
      have k3 : w5.cell? ⟨r, 1, none⟩ = some (.int .i64 0) := HFC.out.1.cell 1
      clear x0 x1
      have HBD := Lib.hid (HFC.out.done 2 (i : Int))
      have HWR := Lib.hid (fun (e : Int) => show WrongAt l i e → FaultPost l w (.returned (faultV e (i : Int))) ((w5.setCell ⟨r, 0, none⟩ (.int .i64 e)).setCell ⟨r, 1, none⟩ (.int .i64 (i : Int))) from fun hw => ⟨⟨e, (i : Int), .inl ⟨i, rfl, hw, HFI.out⟩, rfl⟩, HR.out ▸ (HFC.out.done e (i : Int)).2⟩)
      clear k2 k3
      obtain ⟨c0, c1', c2', c3, c4, c5⟩ := HFC.out.1.two (.int .i64 2)
      cases hbad : badA (xk, xv)
      · have hpar := HBAD.out
        rw [hbad] at hpar
        simp only [Bool.false_eq, Bool.or_eq_false_iff, Bool.not_eq_false', decide_eq_false_iff_not, beq_iff_eq] at hpar
        obtain ⟨⟨⟨rfl, rfl⟩, hn3⟩, hn4⟩ := hpar
        have hk3 := ba_nonempty hn3
        have hk4 := ba_nonempty hn4
        have hk31 := hk3.1
        have hk32 := hk3.2.1
        have hk33 := hk3.2.2
        have hk41 := hk4.1
        have hk42 := hk4.2.1
        have hk43 := hk4.2.2
        have HBF := Lib.hid hbad
        clear hbad hn3 hn4 hk3 hk4 c0 c1' c2' c3 c4 c5
        go_wp2
        go_loopw [8] (fun jv W => ∃ j : Nat, jv = .int .i64 (j : Int) ∧ j ≤ i ∧ (∀ (k : Nat) (y : PKey), k < j → l[k]? = some y → y.1 ≠ xk) ∧ FB w r W) (fun jv _ => i - (Lib.intOf jv).toNat)
        case atStart => exact ⟨0, rfl, Nat.zero_le _, fun j y hj => absurd hj (by omega), HFC.out⟩
        case round =>
          obtain ⟨j, rfl, hj, hD, hFB2⟩ := hrel
          have HD := Lib.hid hD
          have HF2 := Lib.hid hFB2
          have HB2 := Lib.hid (show Below w.heap.size w wr from HR.out ▸ HF2.out.2.1)
          clear hD hFB2
          by_cases hji : j < i
          · obtain ⟨⟨yk, yv⟩, hy⟩ : ∃ x, l[j]? = some x := ⟨_, List.getElem?_eq_getElem (by rw [HN.out]; omega)⟩
            have hq3 : (j : Int) < (i : Int) := by omega
            have hq4 : (j : Int) < (n : Int) := by omega
            obtain ⟨b', off', e', hbo', hcl'⟩ := HRD.out.spot (by omega) (by omega)
            cases e'
            have haty := pairCells_at l j _ hy
            have m0 : wr.cell? ⟨b, off + j * 2, none⟩ = some (.string yk) := (HB2.out.cell (p := ⟨b, off + j * 2, none⟩) hbo').trans (hcl' _ _ haty.1)
            obtain ⟨m1, m2⟩ := HCC.out wr HB2.out
            have HY := Lib.hid hy
            clear hcl' haty hy
            by_cases he : yk = xk
            · subst he
              have hee : (yk.toList == yk.toList) = true := by simp
              have HX9 := Lib.hid (show FaultIs l 211 i from .inl ⟨i, rfl, ⟨_, HX.out, .inr ⟨HBF.out, ⟨j, _, hji, HY.out, rfl⟩, rfl⟩⟩, HFI.out⟩)
              go_upto_region 11 with (fail)
              go_quiet (fail)
              have HF3 := Lib.hid (HF2.out.drewN nq)
              generalize wr.drewN nq = w6 at *
              obtain ⟨c0, c1', c2', c3, c4, c5⟩ := HF3.out.1.two (.int .i64 211)
              go_wp2
              (try simp only [Exit.inBlock, Exit.then])
              exact bodyPost_ret (fault_result (HF3.out.done 211 i).1 rfl) rfl ⟨⟨211, i, HX9.out, rfl⟩, HR.out ▸ (HF3.out.done 211 i).2⟩
            · have hee : (yk.toList == xk.toList) = false := by rw [ba_beq]; simpa using he
              have HD2 := Lib.hid (show ∀ (k : Nat) (y : PKey), k < j + 1 → l[k]? = some y → y.1 ≠ xk from fun k y hk hy => by
                rcases Nat.lt_or_ge k j with h | h
                · exact HD.out k y h hy
                · obtain rfl : k = j := by omega
                  rw [HY.out] at hy
                  cases hy
                  exact he)
              go_upto_region 11 with (fail)
              go_quiet (fail)
              go_wp2
              go_roundw
              case rel => exact ⟨j + 1, by go_num, hji, HD2.out, HF2.out.drewN _⟩
              case measure => simp [Lib.intOf]; omega
          · obtain rfl : j = i := by omega
            have hq3 : ¬ (j : Int) < (j : Int) := by omega
            have HFI2 := Lib.hid (show ∀ k, k < j + 1 → FineAt l k from fun k hk => by
              rcases Nat.lt_or_ge k j with h | h
              · exact HFI.out k h
              · obtain rfl : k = j := by omega
                exact ⟨_, HX.out, HBF.out, fun ⟨q, y, h1, h2, h3⟩ => HD.out q y h1 h2 h3⟩)
            go_wp2
            go_roundw
            case rel => exact ⟨j + 1, by go_num, hlt, HFI2.out, HF2.out⟩
            case measure => simp [Lib.intOf]; omega
      · have HW2 := Lib.hid (HWR.out 2 ⟨(xk, xv), HX.out, .inl ⟨hbad, rfl⟩⟩)
        have hpar := HBAD.out
        rw [hbad] at hpar
        clear hbad
        by_cases h1 : e1 = 0
        · subst h1
          by_cases h2 : e2 = 0
          · subst h2
            by_cases h3 : xk = ByteArray.empty
            · subst h3
              clear hpar
              go_wp2
              (try simp only [Exit.inBlock, Exit.then])
              exact bodyPost_ret (fault_result (HFC.out.done 2 i).1 rfl) rfl HW2.out
            · have h4 : xv = ByteArray.empty := by simpa [h3] using hpar.symm
              subst h4
              have hk3 := ba_nonempty h3
              have hk31 := hk3.1
              have hk32 := hk3.2.1
              have hk33 := hk3.2.2
              clear hk3 h3 hpar
              go_wp2
              (try simp only [Exit.inBlock, Exit.then])
              exact bodyPost_ret (fault_result (HFC.out.done 2 i).1 rfl) rfl HW2.out
          · have h12 : (e2 == 0) = false := by simpa using h2
            clear hpar
            go_wp2
            (try simp only [Exit.inBlock, Exit.then])
            exact bodyPost_ret (fault_result (HFC.out.done 2 i).1 rfl) rfl HW2.out
        · have h12 : (e1 == 0) = false := by simpa using h1
          clear hpar
          go_wp2
          (try simp only [Exit.inBlock, Exit.then])
          exact bodyPost_ret (fault_result (HFC.out.done 2 i).1 rfl) rfl HW2.out
    · obtain rfl : i = n := by omega
      have hq : ¬ (i : Int) < (i : Int) := by omega
      have HAF := Lib.hid (show AllFine l from fun j hj => HFI.out j (by rw [← HN.out]; exact hj))
      go_wp2
      go_loopw [9] (fun jv W => ∃ j : Nat, jv = .int .i64 (j : Int) ∧ j ≤ i ∧ (∀ k, k < j → ¬ RF l.length (folF l) k k) ∧ FB w r W) (fun jv _ => i - (Lib.intOf jv).toNat)
      case atStart => exact ⟨0, rfl, Nat.zero_le _, fun j hj => absurd hj (by omega), HFB.out⟩
      case round =>
        obtain ⟨j, rfl, hj, hNR, hFB2⟩ := hrel
        have HNR := Lib.hid hNR
        have HFB2 := Lib.hid hFB2
        clear hNR hFB2
        have HB2 := Lib.hid (show Below w.heap.size w wr from HR.out ▸ HFB2.out.2.1)
        by_cases hji : j < i
        · have hq3 : (j : Int) < (i : Int) := by omega
          have HCM := Lib.hid (comes_any _ l j wr (HK.out.more HB2.out HB2.out.size) (fun x hx => fine_mem HAF.out hx) (by rw [HN.out]; exact hji) (by rw [HN.out]; exact hn))
          rw [HN.out] at HCM
          go_upto_region 16 with (fail)
          go_wp2_with fail
          refine HCM.out.mono ?_
          rintro en w6 ⟨⟨bb, rfl, hbb⟩, hb6⟩
          have HF6 := Lib.hid (HFB2.out.on hb6)
          have HBB := Lib.hid hbb
          clear hb6 hbb
          cases bb
          · have HN2 := Lib.hid (show ∀ k, k < j + 1 → ¬ RF l.length (folF l) k k from fun k hk => by
              rcases Nat.lt_or_ge k j with h | h
              · exact HNR.out k h
              · obtain rfl : k = j := by omega
                intro hr
                rw [HN.out] at hr
                have := HBB.out.2 hr
                cases this)
            go_wp2
            go_roundw
            case rel => exact ⟨j + 1, by go_num, hji, HN2.out, HF6.out⟩
            case measure => simp [Lib.intOf]; omega
          · have HX9 := Lib.hid (show FaultIs l 210 j from .inr (.inl ⟨HAF.out, j, rfl, rfl, by rw [HN.out]; exact HBB.out.1 rfl, HNR.out⟩))
            obtain ⟨c0, c1', c2', c3, c4, c5⟩ := HF6.out.1.two (.int .i64 210)
            go_wp2
            (try simp only [Exit.inBlock, Exit.then])
            exact bodyPost_ret (fault_result (HF6.out.done 210 j).1 rfl) rfl ⟨⟨210, j, HX9.out, rfl⟩, HR.out ▸ (HF6.out.done 210 j).2⟩
        · obtain rfl : j = i := by omega
          have hq3 : ¬ (j : Int) < (j : Int) := by omega
          have HX9 := Lib.hid (show FaultIs l 0 0 from .inr (.inr ⟨HAF.out, fun k hr => HNR.out k (by rw [← HN.out]; exact hr.lt) hr, rfl, rfl⟩))
          obtain ⟨c0, c1', c2', c3, c4, c5⟩ := HFB2.out.1.two (.int .i64 0)
          go_wp2
          (try simp only [Exit.inBlock, Exit.then])
          exact bodyPost_ret (fault_result (HFB2.out.done 0 0).1 rfl) rfl ⟨⟨0, 0, HX9.out, rfl⟩, HR.out ▸ (HFB2.out.done 0 0).2⟩
-- END fault
end Go.Proofs.YtkfofdmcggoonaaGreatDoor
