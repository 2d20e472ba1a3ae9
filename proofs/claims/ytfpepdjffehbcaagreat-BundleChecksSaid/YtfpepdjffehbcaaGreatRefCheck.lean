/-
  The walk of the document's Check of a bundle. Condition: the texts are within the reach.
-/
import Derived.Test.YtfpepdjffehbcaaGreatRef22
import Derived.Test.YtfpepdjffehbcaaGreatBunCheck
set_option linter.unusedVariables false
set_option linter.unusedSimpArgs false
namespace Go.Proofs.YtfpepdjffehbcaaGreat
open Go.RowKit

theorem bl_none {p : ByteArray} (h : ¬ p = ByteArray.empty) : bl ByteArray.empty p = true := by
  have e : ByteArray.empty.toList = [] := by rw [Lib.toList_data]; rfl
  show Op.bytesLess ByteArray.empty.toList p.toList = true
  rw [e]
  have h0 := (ba_some h).2.2
  cases hh : p.toList with
  | nil => exact absurd hh h0
  | cons _ _ => rfl
theorem leq_no {a p : ByteArray} (h : bl a p = true) : Op.bytesLess p.toList a.toList = false ∧ (p.toList == a.toList) = false := by
  refine ⟨?_, ?_⟩
  · cases h1 : Op.bytesLess p.toList a.toList
    · rfl
    · have := blT.tr _ _ _ (show bl p a = true from h1) h
      rw [blT.irr] at this
      cases this
  · rw [ba_beqB]
    exact decide_eq_false fun e => by rw [e, blT.irr] at h; cases h
theorem leq_yes {a p : ByteArray} (h : bl a p = false) : Op.bytesLess p.toList a.toList = true ∨ (Op.bytesLess p.toList a.toList = false ∧ (p.toList == a.toList) = true) := by
  cases h1 : Op.bytesLess p.toList a.toList
  · exact .inr ⟨rfl, by rw [blT.conn a p h h1]; simp⟩
  · exact .inl rfl
theorem right_any (s : ByteArray) (w : World) (hs : s.size ≤ 140737488355328) :
    Calls Tryz.prog 39 #[.string s] w fun en w' => en = .returned (.bool (broken s).isNone) ∧ w = w' := by
  have HC := Lib.hid (fun W => broken_any s W hs)
  cases hb : broken s with
  | none =>
    rw [show brokenI s = -1 by unfold brokenI; rw [hb]] at HC
    clear hb
    go_enter Tryz.func39, Tryz.ntmps39
    go_wp2_with (go_at_call 69; refine (HC.out _).mono ?_; rintro en w1 ⟨rfl, rfl⟩)
    go_ret
    exact ⟨rfl, rfl⟩
  | some k =>
    rw [show brokenI s = (k : Int) by unfold brokenI; rw [hb]] at HC
    have hk : ¬ (k : Int) < 0 := by omega
    clear hb
    go_enter Tryz.func39, Tryz.ntmps39
    go_wp2_with (go_at_call 69; refine (HC.out _).mono ?_; rintro en w1 ⟨rfl, rfl⟩)
    go_ret
    exact ⟨rfl, rfl⟩
set_option maxHeartbeats 2000000 in
theorem ris_any (s : ByteArray) (w : World) (hs : s.size ≤ 140737488355328) :
    Calls Tryz.prog 40 #[.string s] w fun en w' => en = .returned (.bool (rightB s)) ∧ Below w.heap.size w w' := by
  have HP := Lib.hid (rparse_any s w hs)
  go_enter Tryz.func40, Tryz.ntmps40
  go_wp2_with fail
  refine HP.out.mono ?_
  rintro en w1 ⟨hB, ⟨x, y, hE, rfl⟩ | ⟨m, v, hE, rfl, -⟩⟩
  · have HR := Lib.hid (show rightB s = false from by
      cases h : rightB s
      · rfl
      · obtain ⟨l, hl⟩ := rightB_ok.1 h
        rw [hE] at hl; cases hl)
    have hx : (x == 0) = false := by
      have h0 : rightB s = (x == 0) := by unfold rightB errOf; rw [hE]
      rw [← h0]; exact HR.out
    have HB := Lib.hid hB
    clear hE hB
    simp only [spotV]
    go_wp2
    go_ret
    exact ⟨by rw [HR.out]; rfl, HB.out.alloc HB.out.size _⟩
  · have HR := Lib.hid (rightB_ok.2 ⟨_, hE⟩)
    have HB := Lib.hid hB
    clear hE hB
    simp only [spotV]
    go_wp2
    go_ret
    exact ⟨by rw [HR.out]; rfl, HB.out.alloc HB.out.size _⟩
theorem rcheck_result {tmps : Array Value} {w : World} {r0 : Nat} {x y : Int} (hB : Blk w r0 34 #[.int .i64 x, .int .i64 y]) (hp : tmps.getD 2 undef = .pointer (some ⟨r0, 0, none⟩)) :
    (results Tryz.f12 tmps).run Tryz.prog w = .ok (.agg #[.int .i64 x, .int .i64 y]) w :=
  results_row Tryz.results12 tmps w r0 34 _ _ hp hB Tryz.underlying34 rfl faultW_size
-- BEGIN rcheck
set_option maxHeartbeats 16000000 in
set_option maxRecDepth 100000 in
theorem rcheck_any (v : Value) (l : List PStep) (vs : List Value) (w : World) (h : StepsR w v l vs) (hin : ∀ b ∈ l, b.1.size ≤ 140737488355328 ∧ (∀ x ∈ b.2, x.1.size ≤ 140737488355328 ∧ x.2.size ≤ 140737488355328) ∧ b.2.length ≤ 100000000) (hn : l.length ≤ 100000000) (htot : (l.map fun b => b.2.length).sum ≤ 90000000) :
    Calls Tryz.prog 12 #[.agg #[v]] w (CheckPostB l w) := by
  obtain ⟨A, c, rfl, hc1, hc2, hRd, hvl, hKs⟩ := h
  unfold maxLen at hc2
  have HRD := Lib.hid hRd
  have HVL := Lib.hid hvl
  have HKS := Lib.hid hKs
  have HIN := Lib.hid hin
  have HTOT := Lib.hid htot
  clear hRd hvl hKs hin htot
  obtain ⟨n, hN⟩ : ∃ n, l.length = n := ⟨_, rfl⟩
  rw [hN] at hc1 hn HRD ⊢
  have HN := Lib.hid hN
  clear hN
  have hn1 : (n : Int) ≤ 100000000 := by omega
  obtain ⟨w1, hw1⟩ : ∃ w1, w.alloc (.cells #[.slice A n c] 24) = w1 := ⟨_, rfl⟩
  have HBX := Lib.hid (show Blk w1 w.heap.size 24 #[.slice A n c] ∧ Below w.heap.size w w1 ∧ w1.heap.size = w.heap.size + 1 from by rw [← hw1]; exact ⟨Blk.new _ _ _, (Below.refl _ _).alloc (Nat.le_refl _) _, by simp⟩)
  obtain ⟨r, hr⟩ : ∃ r, r = w.heap.size := ⟨_, rfl⟩
  have HR := Lib.hid hr
  have HF0 := Lib.hid (show FC w1 (r + 1) (w1.alloc (.cells #[.int .i64 0, .int .i64 0] 34)) from by
    have hs := HBX.out.2.2
    rw [hr, ← hs]
    exact ⟨Blk.new _ _ _, (Below.refl _ _).alloc (Nat.le_refl _) _, by simp⟩)
  have HBW := Lib.hid (show ∀ W, FC w1 (r + 1) W → Below w.heap.size w W ∧ W.cell? ⟨r, 0, none⟩ = some (.slice A n c) from fun W hW => ⟨HBX.out.2.1.trans (hW.2.1.mono (by omega)), by
    have := HBX.out.1
    rw [← hr] at this
    exact (hW.2.1.cell (p := ⟨r, 0, none⟩) (by show r < r + 1; omega)).trans (this.cell 0)⟩)
  have HCC := Lib.hid (show ∀ (i : Nat) (b : PStep), l[i]? = some b → ∃ (kb ko : Nat) (kv : Value), A = some ⟨kb, ko, none⟩ ∧ ∀ W, Below w.heap.size w W → W.cell? ⟨kb, ko + i * 2, none⟩ = some (.string b.1) ∧ W.cell? ⟨kb, ko + i * 2 + 1, none⟩ = some kv ∧ KeysAt W W.heap.size kv b.2 from fun i b hb => by
    have hi := (List.getElem?_eq_some_iff.1 hb).1
    obtain ⟨kv, hkv⟩ : ∃ kv, vs[i]? = some kv := ⟨_, List.getElem?_eq_getElem (by rw [HVL.out]; exact hi)⟩
    obtain ⟨kb, ko, rfl, hkb, hcl⟩ := HRD.out.spot (by have := HN.out; omega) (by have := HN.out; omega)
    have hat := stepCells_at l vs i b kv hb hkv
    exact ⟨kb, ko, kv, rfl, fun W hW => ⟨(hW.cell (p := ⟨kb, ko + i * 2, none⟩) hkb).trans (hcl _ _ hat.1), (hW.cell (p := ⟨kb, ko + i * 2 + 1, none⟩) hkb).trans (hcl _ _ hat.2), (HKS.out i b kv hb hkv).more hW hW.size⟩⟩)
  have HW1 := Lib.hid hw1
  clear hr hw1
  have hfl := fun (x y : Int) (W : World) => (show (Instr.field 93 (.agg #[.int .i64 x, .int .i64 y]) 0).run Tryz.prog W = .ok (.int .i64 x) W from by kernel_rfl)
  go_enter Tryz.func12, Tryz.ntmps12
  go_upto_region 1 with (fail)
  rw [HW1.out, ← HR.out]
  generalize w1.alloc (.cells #[.int .i64 0, .int .i64 0] 34) = w2 at *
  have k0 := (HBW.out w2 HF0.out).2
  go_wp2
  clear k0
  go_loopw [3, 15] (fun nv iv wr => ∃ i : Nat, iv = .int .i64 (i : Int) ∧ i ≤ n ∧ nv = .int .i64 (namedN (l.take i) : Int) ∧ FC w1 (r + 1) wr) (fun _ iv _ => n - (Lib.intOf iv).toNat)
  case atStart => exact ⟨0, rfl, Nat.zero_le _, rfl, HF0.out⟩
  case round =>
    clear HF0
    obtain ⟨i, rfl, hi, rfl, hF⟩ := hrel
    have HF := Lib.hid hF
    clear hF
    have hnm : namedN (l.take i) ≤ i := Nat.le_trans (namedN_le _) (by rw [List.length_take]; omega)
    by_cases hlt : i < n
    · have hq : (i : Int) < (n : Int) := by omega
      obtain ⟨b, hb⟩ : ∃ b, l[i]? = some b := ⟨_, List.getElem?_eq_getElem (by rw [HN.out]; exact hlt)⟩
      obtain ⟨kb, ko, kv, rfl, hcw⟩ := HCC.out i b hb
      obtain ⟨z0, z1, hk⟩ := hcw wr (HBW.out wr HF.out).1
      clear hcw
      obtain ⟨Ak, ck, rfl, -, -, -⟩ := hk
      have HST := Lib.hid (namedN_step hb)
      have hbs := (HIN.out b (List.mem_of_getElem? hb)).1
      have HB := Lib.hid hb
      clear hb
      generalize b.2.length = mk at *
      have HF2 := Lib.hid (HF.out.alloc (.cells #[.string b.1, .slice Ak mk ck] 56))
      go_upto_region 5 with (fail)
      have hnb := Blk.new wr 56 #[.string b.1, .slice Ak mk ck]
      generalize wr.alloc (.cells #[.string b.1, .slice Ak mk ck] 56) = w3 at *
      have y0 : w3.cell? ⟨wr.heap.size, 0, none⟩ = some (.string b.1) := hnb.cell 0
      clear hnb z0 z1
      by_cases hbe : b.1 = ByteArray.empty
      · have hs0 : b.1.size = 0 := size_empty.2 hbe
        have hs1 : (b.1.size : Int) = 0 := by omega
        have hz1 : b.1.toList.isEmpty = true := by rw [hbe, Lib.toList_data]; rfl
        have hz2 : (b.1.toList == []) = true := by rw [hbe, Lib.toList_data]; rfl
        have hz3 : b.1.toList = [] := by rw [hbe, Lib.toList_data]; rfl
        have HX := Lib.hid (show namedN (l.take (i + 1)) = namedN (l.take i) from by rw [HST.out, if_pos hbe]; rfl)
        clear hbe
        go_wp2
        go_roundw
        case rel => exact ⟨i + 1, by go_num, hlt, by rw [HX.out] <;> go_num, HF2.out⟩
        case measure => simp [Lib.intOf]; omega
      · have hs0 : 1 ≤ b.1.size := Nat.pos_of_ne_zero fun e => hbe (size_empty.1 e)
        have hs1 : (1 : Int) ≤ (b.1.size : Int) := by omega
        obtain ⟨hz1, hz2, hz3⟩ := ba_some hbe
        have HX := Lib.hid (show namedN (l.take (i + 1)) = namedN (l.take i) + 1 from by rw [HST.out, if_neg hbe])
        clear hbe
        go_wp2
        go_roundw
        case rel => exact ⟨i + 1, by go_num, hlt, by rw [HX.out] <;> go_num, HF2.out⟩
        case measure => simp [Lib.intOf]; omega
    · obtain rfl : i = n := by omega
      have hq : ¬ (i : Int) < (i : Int) := by omega
      rw [List.take_of_length_le (by rw [HN.out]; exact Nat.le_refl _)] at hnm ⊢
      have k0 := (HBW.out wr HF.out).2
      have HFI := Lib.hid (show ∀ e a, checkB l = (e, a) → ∀ W, FC w1 (r + 1) W → CheckPostB l w (.returned (faultW e a)) ((W.setCell ⟨r + 1, 0, none⟩ (.int .i64 e)).setCell ⟨r + 1, 1, none⟩ (.int .i64 a)) from fun e a he W hW => ⟨by rw [he], HBX.out.2.1.trans ((hW.done e a).2.mono (by have := HR.out; omega))⟩)
      by_cases hbig : 512 < namedN l ∨ 513 < l.length
      · have HCB := Lib.hid (fun (e a : Int) (he : checkB l = (e, a)) W hW => HFI.out e a he W hW)
        have HX := Lib.hid (show checkB l = (3, -1) from if_pos hbig)
        obtain ⟨c0, c1', c2', c3, c4, c5⟩ := HF.out.1.two (.int .i64 3)
        by_cases h5 : 512 < namedN l
        · have h5' : (512 : Int) < (namedN l : Int) := by omega
          go_wp2
          (try simp only [Exit.inBlock, Exit.then])
          exact bodyPost_ret (rcheck_result (HF.out.done 3 (-1)).1 rfl) rfl (HCB.out _ _ HX.out _ HF.out)
        · have h5' : ¬ (512 : Int) < (namedN l : Int) := by omega
          have h6 : (513 : Int) < (i : Int) := by have := HN.out; omega
          go_wp2
          (try simp only [Exit.inBlock, Exit.then])
          exact bodyPost_ret (rcheck_result (HF.out.done 3 (-1)).1 rfl) rfl (HCB.out _ _ HX.out _ HF.out)
      · have h5' : ¬ (512 : Int) < (namedN l : Int) := by omega
        have h6 : ¬ (513 : Int) < (i : Int) := by have := HN.out; omega
        have HCB := Lib.hid (fun (e a : Int) (he : booksE l 0 none [] = (e, a)) W hW => HFI.out e a ((if_neg hbig).trans he) W hW)
        clear HFI
        have hmm := @run_makeMap Tryz.prog
        have HM0 := Lib.hid (show MapS (wr.alloc (.map #[] 0)) wr.heap.size 0 0 (metF []) from by
          have := MapG.made wr Tryz.prog 9 strL strOk
          have e : metF [] = fun _ => none := by funext s; simp [metF, metB]
          rw [e]
          exact this)
        have HF1 := Lib.hid (HF.out.alloc (.map #[] 0))
        have hmb : r + 2 ≤ wr.heap.size := HF.out.2.2
        have k1 := (HBW.out _ HF1.out).2
        go_upto_region 11 with (fail)
        clear k0
        generalize wr.alloc (.map #[] 0) = w4 at *
        generalize wr.heap.size = mb at *
        clear hmm HF
        go_wp2
        clear k1
        go_loopw [38] (fun jv W => ∃ (j : Nat) (M : List ByteArray), jv = .int .i64 (j : Int) ∧ j ≤ i ∧ CkAt l j M ∧ MapS W mb (valN l j) M.length (metF M) ∧ FC w1 (r + 1) W) (fun jv _ => i - (Lib.intOf jv).toNat)
        case atStart => exact ⟨0, [], rfl, Nat.zero_le _, ckAt_start l, HM0.out, HF1.out⟩
        case round =>
          clear HM0 HF1
          obtain ⟨j, M, rfl, hj, hCk, hM, hF⟩ := hrel
          have HCK := Lib.hid hCk
          have HM := Lib.hid hM
          have HF := Lib.hid hF
          clear hCk hM hF
          by_cases hji : j < i
          · have hq2 : (j : Int) < (i : Int) := by omega
            obtain ⟨⟨nm, vl⟩, hb⟩ : ∃ b, l[j]? = some b := ⟨_, List.getElem?_eq_getElem (by rw [HN.out]; exact hji)⟩
            obtain ⟨kb, ko, kv, rfl, hcw⟩ := HCC.out j _ hb
            have HCW := Lib.hid hcw
            obtain ⟨z0, z1, hk⟩ := hcw wr (HBW.out wr HF.out).1
            clear hcw
            have HIB := Lib.hid (HIN.out _ (List.mem_of_getElem? hb))
            have HB := Lib.hid hb
            have HVN := Lib.hid (valN_next hb)
            have HVL2 := Lib.hid (valN_le l (j + 1))
            have HRN := Lib.hid (fun W => right_any nm W HIB.out.1)
            have hnm := HIB.out.1
            simp only at z0 z1 hk HVN hnm
            have HKV := Lib.hid hk
            obtain ⟨Ak, ck, rfl, -, -, -⟩ := hk
            obtain ⟨mk, hmk⟩ : ∃ mk, vl.length = mk := ⟨_, rfl⟩
            rw [hmk] at z1 HVN HKV HCW
            have HMK := Lib.hid hmk
            have HPV := Lib.hid (show ∀ W, FC w1 (r + 1) W → W.cell? ⟨r, 0, none⟩ = some (.slice (some ⟨kb, ko, none⟩) i c) from fun W hW => (HBW.out W hW).2)
            clear hb hmk
            have HF2 := Lib.hid (HF.out.alloc (.cells #[.string nm, .slice Ak mk ck] 56))
            have HM2 := Lib.hid (HM.out.alloc (.cells #[.string nm, .slice Ak mk ck] 56))
            have HG2 := Lib.hid (Blk.new wr 56 #[.string nm, .slice Ak mk ck])
            have hgm : mb < wr.heap.size := HM.out.lt
            have hgr : r + 2 ≤ wr.heap.size := HF.out.2.2
            go_upto_region 14 with (fail)
            generalize wr.alloc (.cells #[.string nm, .slice Ak mk ck] 56) = w5 at *
            have y0 := HG2.out.cell 0
            clear z0 z1
            obtain ⟨gk, hgk⟩ : ∃ gk, wr.heap.size = gk := ⟨_, rfl⟩
            rw [hgk] at HG2 hgm hgr y0 ⊢
            have y1 : w5.cell? ⟨gk, 1, none⟩ = some (.slice Ak mk ck) := HG2.out.cell 1
            have HKV0 := Lib.hid (show ∀ W, Below w.heap.size w W → KeysAt W W.heap.size (.slice Ak mk ck) vl from fun W hW => by have := (HCW.out W hW).2.2; exact this)
            have hmk2 : (mk : Int) ≤ 100000000 := by have h9 : vl.length ≤ 100000000 := HIB.out.2.2; rw [HMK.out] at h9; omega
            cases hbr : broken nm with
            | some q =>
              have HE := Lib.hid (show nameE (prevB l j) nm = 6 from by unfold nameE; rw [if_pos (by rw [hbr]; rfl)])
              have HX := Lib.hid (HCK.out.name HB.out (by rw [HE.out]; decide))
              rw [HE.out] at HX
              rw [hbr] at HRN
              clear hbr
              go_upto_region 21 with (go_at_call 39; refine (HRN.out _).mono ?_; rintro en w6 ⟨rfl, rfl⟩)
              have x0 := y0
              have x1 := y1
              clear y0 y1
              have HKV7 := Lib.hid (show ∀ W, FC w1 (r + 1) W → KeysAt W W.heap.size (.slice Ak mk ck) vl from fun W hW => HKV0.out W (HBW.out W hW).1)
              go_wp2
              clear x0 x1
              go_loopw [9, 71] (fun av kv W => ∃ (k : Nat), kv = .int .i64 (k : Int) ∧ k ≤ mk ∧ av = .int .i64 6 ∧ FC w1 (r + 1) W) (fun _ kv _ => mk - (Lib.intOf kv).toNat)
              case atStart => exact ⟨0, rfl, Nat.zero_le _, rfl, HF2.out⟩
              case round =>
                clear HF2
                obtain ⟨k, rfl, hk, rfl, hF⟩ := hrel
                have HF := Lib.hid hF
                clear hF
                by_cases hkm : k < mk
                · have hq3 : (k : Int) < (mk : Int) := by omega
                  obtain ⟨⟨xp, xt⟩, hx⟩ : ∃ x, vl[k]? = some x := ⟨_, List.getElem?_eq_getElem (by rw [HMK.out]; exact hkm)⟩
                  obtain ⟨Av, cv, ev, hcv, -, hRv⟩ := HKV7.out _ HF.out
                  rw [HMK.out] at ev hcv hRv
                  cases ev
                  obtain ⟨bv, ov, rfl, hbv, hclv⟩ := hRv.spot (by omega) (by omega)
                  have hat := pairCells_at vl k _ hx
                  have y0 : wr.cell? ⟨bv, ov + k * 2, none⟩ = some (.string xp) := hclv _ _ hat.1
                  have y1 : wr.cell? ⟨bv, ov + k * 2 + 1, none⟩ = some (.string xt) := hclv _ _ hat.2
                  clear hclv hat hx
                  have HF8 := Lib.hid (HF.out.alloc (.cells #[.string xp, .string xt] 59))
                  go_upto_region 24 with (fail)
                  generalize wr.alloc (.cells #[.string xp, .string xt] 59) = w8 at *
                  clear y0 y1
                  obtain ⟨c0, c1', c2', c3, c4, c5⟩ := HF8.out.1.two (.int .i64 6)
                  go_wp2
                  (try simp only [Exit.inBlock, Exit.then])
                  exact bodyPost_ret (rcheck_result (HF8.out.done 6 _).1 rfl) rfl (HCB.out _ _ HX.out _ HF8.out)
                · obtain rfl : k = mk := by omega
                  have hq3 : ¬ (k : Int) < (k : Int) := by omega
                  obtain ⟨c0, c1', c2', c3, c4, c5⟩ := HF.out.1.two (.int .i64 6)
                  go_wp2
                  (try simp only [Exit.inBlock, Exit.then])
                  exact bodyPost_ret (rcheck_result (HF.out.done 6 _).1 rfl) rfl (HCB.out _ _ HX.out _ HF.out)
            | none =>
              have HBR := Lib.hid (show ¬ (broken nm).isSome = true from by rw [hbr]; simp)
              rw [hbr] at HRN
              clear hbr
              go_upto_region 17 with (go_at_call 39; refine (HRN.out _).mono ?_; rintro en w6 ⟨rfl, rfl⟩)
              by_cases hl : 256 < nm.size
              · have hl2 : (256 : Int) < (nm.size : Int) := by omega
                have HE := Lib.hid (show nameE (prevB l j) nm = 3 from by unfold nameE; rw [if_neg HBR.out, if_pos hl])
                have HX := Lib.hid (HCK.out.name HB.out (by rw [HE.out]; decide))
                rw [HE.out] at HX
                go_upto_region 21 with (fail)
                have x0 := y0
                have x1 := y1
                clear y0 y1
                have HKV7 := Lib.hid (show ∀ W, FC w1 (r + 1) W → KeysAt W W.heap.size (.slice Ak mk ck) vl from fun W hW => HKV0.out W (HBW.out W hW).1)
                go_wp2
                clear x0 x1
                go_loopw [9, 71] (fun av kv W => ∃ (k : Nat), kv = .int .i64 (k : Int) ∧ k ≤ mk ∧ av = .int .i64 3 ∧ FC w1 (r + 1) W) (fun _ kv _ => mk - (Lib.intOf kv).toNat)
                case atStart => exact ⟨0, rfl, Nat.zero_le _, rfl, HF2.out⟩
                case round =>
                  clear HF2
                  obtain ⟨k, rfl, hk, rfl, hF⟩ := hrel
                  have HF := Lib.hid hF
                  clear hF
                  by_cases hkm : k < mk
                  · have hq3 : (k : Int) < (mk : Int) := by omega
                    obtain ⟨⟨xp, xt⟩, hx⟩ : ∃ x, vl[k]? = some x := ⟨_, List.getElem?_eq_getElem (by rw [HMK.out]; exact hkm)⟩
                    obtain ⟨Av, cv, ev, hcv, -, hRv⟩ := HKV7.out _ HF.out
                    rw [HMK.out] at ev hcv hRv
                    cases ev
                    obtain ⟨bv, ov, rfl, hbv, hclv⟩ := hRv.spot (by omega) (by omega)
                    have hat := pairCells_at vl k _ hx
                    have y0 : wr.cell? ⟨bv, ov + k * 2, none⟩ = some (.string xp) := hclv _ _ hat.1
                    have y1 : wr.cell? ⟨bv, ov + k * 2 + 1, none⟩ = some (.string xt) := hclv _ _ hat.2
                    clear hclv hat hx
                    have HF8 := Lib.hid (HF.out.alloc (.cells #[.string xp, .string xt] 59))
                    go_upto_region 24 with (fail)
                    generalize wr.alloc (.cells #[.string xp, .string xt] 59) = w8 at *
                    clear y0 y1
                    obtain ⟨c0, c1', c2', c3, c4, c5⟩ := HF8.out.1.two (.int .i64 3)
                    go_wp2
                    (try simp only [Exit.inBlock, Exit.then])
                    exact bodyPost_ret (rcheck_result (HF8.out.done 3 _).1 rfl) rfl (HCB.out _ _ HX.out _ HF8.out)
                  · obtain rfl : k = mk := by omega
                    have hq3 : ¬ (k : Int) < (k : Int) := by omega
                    obtain ⟨c0, c1', c2', c3, c4, c5⟩ := HF.out.1.two (.int .i64 3)
                    go_wp2
                    (try simp only [Exit.inBlock, Exit.then])
                    exact bodyPost_ret (rcheck_result (HF.out.done 3 _).1 rfl) rfl (HCB.out _ _ HX.out _ HF.out)
              · have hl2 : ¬ (256 : Int) < (nm.size : Int) := by omega
                obtain ⟨cap0, hc0⟩ : ∃ cap0, valN l j = cap0 := ⟨_, rfl⟩
                rw [hc0] at HM2 HVN
                have HCAP := Lib.hid (show cap0 + mk ≤ 90000000 from by have := HVN.out; have := HVL2.out; have := HTOT.out; omega)
                go_upto_region 19 with (fail)
                have HFIRST := Lib.hid (show j = 0 → nameE (prevB l j) nm = 0 from fun h => by unfold nameE prevB; rw [if_neg HBR.out, if_neg hl, if_pos h])
                have HSEC := Lib.hid (show ∀ (m : Nat) (pn : ByteArray) (pv : List PKey), j = m + 1 → l[m]? = some (pn, pv) → nameE (prevB l j) nm = if bl pn nm = false then 320 else 0 from fun m pn pv h hb => by
                  rw [h, prevB_next hb]
                  unfold nameE
                  rw [if_neg HBR.out, if_neg hl])
                by_cases hne : nameE (prevB l j) nm = 0
                · have HNX := Lib.hid (fun (M' : List ByteArray) (h : valsE vl ByteArray.empty M = (0, M')) => HCK.out.next HB.out hne h)
                  obtain ⟨jz, hjz⟩ : ∃ jz : Int, (j : Int) = jz := ⟨_, rfl⟩
                  have HJZ := Lib.hid hjz
                  have HVX := Lib.hid (fun (e : Int) (M' : List ByteArray) (h : valsE vl ByteArray.empty M = (e, M')) (he : e ≠ 0) => (show booksE l 0 none [] = (e, jz) from hjz ▸ HCK.out.vals HB.out hne h he))
                  clear hjz
                  rcases Nat.eq_zero_or_pos j with hj0 | hj0
                  case' inl =>
                    subst hj0
                    clear HFIRST HSEC hne
                    go_quiet (fail)
                  case' inr =>
                    obtain ⟨m, rfl⟩ : ∃ m, j = m + 1 := ⟨j - 1, by omega⟩
                    obtain ⟨⟨pn, pv⟩, hpb⟩ : ∃ b, l[m]? = some b := ⟨_, List.getElem?_eq_getElem (by rw [HN.out]; omega)⟩
                    have hs := HSEC.out m pn pv rfl hpb
                    have hbl : bl pn nm = true := by
                      cases h : bl pn nm
                      · rw [h, if_pos rfl, hne] at hs
                        exact absurd hs (by decide)
                      · rfl
                    obtain ⟨hb2, hb4⟩ := leq_no hbl
                    obtain ⟨kb', ko', kv', e', hcw'⟩ := HCC.out m _ hpb
                    cases e'
                    have z3 := (hcw' w5 (HBW.out w5 HF2.out).1).1
                    clear hcw'
                    have kx := HPV.out w5 HF2.out
                    have hmi : (m : Int) < (i : Int) := by omega
                    simp only at z3
                    clear hs hne hpb HFIRST HSEC hbl
                    go_quiet (fail)
                    clear kx z3 hb2 hb4
                  all_goals
                    have HF7 := Lib.hid (HF2.out.drewN nq)
                    have HM7 := Lib.hid (HM2.out.drewN nq)
                    have HG7 := Lib.hid (HG2.out.drewN nq)
                    clear y0 y1 HG2 HF2 HM2
                    generalize w5.drewN nq = w7 at *
                    have x0 : w7.cell? ⟨gk, 0, none⟩ = some (.string nm) := HG7.out.cell 0
                    have x1 : w7.cell? ⟨gk, 1, none⟩ = some (.slice Ak mk ck) := HG7.out.cell 1
                    have HKV7 := Lib.hid (show ∀ W, FC w1 (r + 1) W → KeysAt W W.heap.size (.slice Ak mk ck) vl from fun W hW => HKV0.out W (HBW.out W hW).1)
                    go_wp2
                    clear x0 x1
                    go_loopw [9, 71] (fun av kv W => ∃ (k : Nat) (e : Int), kv = .int .i64 (k : Int) ∧ k ≤ mk ∧ av = .int .i64 e ∧ (FC w1 (r + 1) W ∧ Blk W gk 56 #[.string nm, .slice Ak mk ck]) ∧ ((e = 0 ∧ ∃ (M' : List ByteArray) (ahead : ByteArray), VkAt vl M k ahead M' ∧ ((k = 0 ∧ ahead = ByteArray.empty) ∨ ∃ m x, k = m + 1 ∧ vl[m]? = some x ∧ ahead = x.1) ∧ MapS W mb (cap0 + k) M'.length (metF M')) ∨ (e ≠ 0 ∧ booksE l 0 none [] = (e, jz)))) (fun _ kv _ => mk - (Lib.intOf kv).toNat)
                    case atStart => exact ⟨0, 0, rfl, Nat.zero_le _, rfl, ⟨HF7.out, HG7.out⟩, .inl ⟨rfl, M, ByteArray.empty, vkAt_start vl M, .inl ⟨rfl, rfl⟩, HM7.out⟩⟩
                    case round =>
                      clear HF7 HM7 HG7
                      obtain ⟨k, e, rfl, hk, rfl, ⟨hF, hG⟩, hR⟩ := hrel
                      have HF := Lib.hid hF
                      have HG := Lib.hid hG
                      clear hF hG
                      rcases hR with ⟨rfl, M', ahead, hV, hA, hM⟩ | ⟨he0, hE⟩
                      · have HV := Lib.hid hV
                        have HA := Lib.hid hA
                        have HM := Lib.hid hM
                        clear hV hA hM
                        by_cases hkm : k < mk
                        · -- <<V1
                          have hq3 : (k : Int) < (mk : Int) := by omega
                          obtain ⟨⟨xp, xt⟩, hx⟩ : ∃ x, vl[k]? = some x := ⟨_, List.getElem?_eq_getElem (by rw [HMK.out]; exact hkm)⟩
                          obtain ⟨Av, cv, ev, hcv, -, hRv⟩ := HKV7.out _ HF.out
                          rw [HMK.out] at ev hcv hRv
                          cases ev
                          obtain ⟨bv, ov, rfl, hbv, hclv⟩ := hRv.spot (by omega) (by omega)
                          have hat := pairCells_at vl k _ hx
                          have y0 : wr.cell? ⟨bv, ov + k * 2, none⟩ = some (.string xp) := hclv _ _ hat.1
                          have y1 : wr.cell? ⟨bv, ov + k * 2 + 1, none⟩ = some (.string xt) := hclv _ _ hat.2
                          have HIX := Lib.hid (HIB.out.2.1 _ (List.mem_of_getElem? hx))
                          have HX := Lib.hid hx
                          have hxp := HIX.out.1
                          have hxt := HIX.out.2
                          simp only at hxp hxt
                          have HRT := Lib.hid (fun W => right_any xt W hxt)
                          have HIS := Lib.hid (fun W => ris_any xp W hxp)
                          clear hclv hat hx
                          have HF8 := Lib.hid (HF.out.alloc (.cells #[.string xp, .string xt] 59))
                          have HM8 := Lib.hid (HM.out.alloc (.cells #[.string xp, .string xt] 59))
                          have HG8 := Lib.hid (HG.out.below ((Below.refl _ wr).alloc (Nat.le_refl _) (.cells #[.string xp, .string xt] 59)) HG.out.lt)
                          have HW8 := Lib.hid (Blk.new wr 59 #[.string xp, .string xt])
                          have hgm8 : mb < wr.heap.size := HM.out.lt
                          have hcapk : cap0 + k ≤ 90000000 := by have := HCAP.out; omega
                          obtain ⟨kn, hkn⟩ : ∃ kn, k + 1 = kn := ⟨_, rfl⟩
                          have HKN := Lib.hid hkn
                          clear hkn
                          go_upto_region 24 with (fail)
                          generalize wr.alloc (.cells #[.string xp, .string xt] 59) = w8 at *
                          have u0 : w8.cell? ⟨wr.heap.size, 0, none⟩ = some (.string xp) := HW8.out.cell 0
                          have u1 : w8.cell? ⟨wr.heap.size, 1, none⟩ = some (.string xt) := HW8.out.cell 1
                          clear y0 y1 HF HM HG
                          by_cases hp0 : xp = ByteArray.empty
                          · subst hp0
                            have hpm : ByteArray.empty.size ≤ maxLen := by decide
                            have u0 : w8.cell? ⟨wr.heap.size, 0, none⟩ = some (.string ByteArray.empty) := u0
                            have HVE := Lib.hid (show valE M' ahead (ByteArray.empty, xt) = 2 from by unfold valE; rw [if_pos (.inl rfl)])
                            have HBV := Lib.hid (HV.out.bad HX.out (by rw [HVE.out]; decide))
                            rw [HVE.out] at HBV
                            have HXX := Lib.hid (HVX.out _ _ HBV.out (by decide))
                            clear HVE HBV
                            have HFC := Lib.hid HF8.out
                            have HMC := Lib.hid HM8.out
                            have HGC := Lib.hid HG8.out
                            obtain ⟨w20, hrun, hM4, hg4⟩ := HMC.out.store law_str Tryz.underlying80 (by simp only [maxLen]; omega) strL_inj hpm (key_str hpm) (.bool true)
                            have HM4 := Lib.hid hM4
                            have HF20 := Lib.hid (HFC.out.grown hg4 (fun q hq => by cases hq; omega))
                            have HG20 := Lib.hid (HGC.out.grown hg4 (fun e => by cases e; omega))
                            clear hM4 hg4
                            go_wp2
                            go_roundw
                            case rel => exact ⟨kn, _, by rw [← HKN.out]; go_num, by have := HKN.out; omega, rfl, ⟨HF20.out, HG20.out⟩, .inr ⟨by decide, HXX.out⟩⟩
                            case measure => simp [Lib.intOf]; omega
                          · have hpm : xp.size ≤ maxLen := by simp only [maxLen]; omega
                            have hk0 := ba_some hp0
                            have hk1 := hk0.1
                            have hk2 := hk0.2.1
                            have hk3 := hk0.2.2
                            clear hk0
                            cases hr : rightB xp
                            · -- <<V2
                              have HVE := Lib.hid (show valE M' ahead (xp, xt) = 2 from by unfold valE; rw [if_pos (.inr hr)])
                              have HBV := Lib.hid (HV.out.bad HX.out (by rw [HVE.out]; decide))
                              rw [HVE.out] at HBV
                              have HXX := Lib.hid (HVX.out _ _ HBV.out (by decide))
                              clear HVE HBV
                              rw [hr] at HIS
                              clear hr
                              go_upto_region 33 with (go_at_call 40; refine (HIS.out _).mono ?_; rintro en w9 ⟨rfl, hb9⟩; have HF9 := Lib.hid (HF8.out.on hb9); have HM9 := Lib.hid (HM8.out.on hb9); have HG9 := Lib.hid (HG8.out.below hb9 HG8.out.lt); have HW9 := Lib.hid (HW8.out.below hb9 HW8.out.lt); have u2 := HW9.out.cell 0; have u3 := HW9.out.cell 1; clear hb9 u0 u1)
                              have HFC := Lib.hid HF9.out
                              have HMC := Lib.hid HM9.out
                              have HGC := Lib.hid HG9.out
                              obtain ⟨w20, hrun, hM4, hg4⟩ := HMC.out.store law_str Tryz.underlying80 (by simp only [maxLen]; omega) strL_inj hpm (key_str hpm) (.bool true)
                              have HM4 := Lib.hid hM4
                              have HF20 := Lib.hid (HFC.out.grown hg4 (fun q hq => by cases hq; omega))
                              have HG20 := Lib.hid (HGC.out.grown hg4 (fun e => by cases e; omega))
                              clear hM4 hg4
                              go_wp2
                              go_roundw
                              case rel => exact ⟨kn, _, by rw [← HKN.out]; go_num, by have := HKN.out; omega, rfl, ⟨HF20.out, HG20.out⟩, .inr ⟨by decide, HXX.out⟩⟩
                              case measure => simp [Lib.intOf]; omega
                              -- >>V2
                            · -- <<V3
                              have HNE := Lib.hid (show ¬ (xp = ByteArray.empty ∨ rightB xp = false) from fun h => h.elim hp0 fun h => by rw [hr] at h; cases h)
                              rw [hr] at HIS
                              clear hr
                              go_upto_region 27 with (go_at_call 40; refine (HIS.out _).mono ?_; rintro en w9 ⟨rfl, hb9⟩; have HF9 := Lib.hid (HF8.out.on hb9); have HM9 := Lib.hid (HM8.out.on hb9); have HG9 := Lib.hid (HG8.out.below hb9 HG8.out.lt); have HW9 := Lib.hid (HW8.out.below hb9 HW8.out.lt); have u2 := HW9.out.cell 0; have u3 := HW9.out.cell 1; clear hb9 u0 u1)
                              have b0 : w9.cell? ⟨gk, 1, none⟩ = some (.slice (some ⟨bv, ov, none⟩) mk ck) := HG9.out.cell 1
                              clear hk1 hk2 hk3
                              cases hbl : bl ahead xp
                              · -- <<V4
                                obtain ⟨m, px, rfl, hpx, rfl⟩ : ∃ m x, k = m + 1 ∧ vl[m]? = some x ∧ ahead = x.1 := by
                                  rcases HA.out with ⟨-, e⟩ | h
                                  · rw [e, bl_none hp0] at hbl; cases hbl
                                  · exact h
                                have HNEG := Lib.hid hbl
                                have hcs := leq_yes hbl
                                have HVE := Lib.hid (show valE M' px.1 (xp, xt) = 320 from by unfold valE; rw [if_neg HNE.out, if_pos hbl])
                                have HBV := Lib.hid (HV.out.bad HX.out (by rw [HVE.out]; decide))
                                rw [HVE.out] at HBV
                                have HXX := Lib.hid (HVX.out _ _ HBV.out (by decide))
                                clear HVE HBV
                                clear hbl
                                obtain ⟨Av', cv', ev', -, -, hRv'⟩ := HKV7.out w9 HF9.out
                                rw [HMK.out] at ev' hRv'
                                cases ev'
                                obtain ⟨bv', ov', eb, -, hclv'⟩ := hRv'.spot (by omega) (by omega)
                                cases eb
                                have p0 : w9.cell? ⟨bv, ov + m * 2, none⟩ = some (.string px.1) := hclv' _ _ (pairCells_at vl m _ hpx).1
                                have hmi3 : (m : Int) < (mk : Int) := by omega
                                clear hclv' hRv' hpx
                                rcases hcs with h1 | ⟨h1, h2⟩
                                all_goals
                                  go_quiet (fail)
                                  have HFA := Lib.hid (HF9.out.drewN nq)
                                  have HMA := Lib.hid (HM9.out.drewN nq)
                                  have HGA := Lib.hid (HG9.out.drewN nq)
                                  have HWA := Lib.hid (HW9.out.drewN nq)
                                  generalize w9.drewN nq = w10 at *
                                  have v0 : w10.cell? ⟨wr.heap.size, 0, none⟩ = some (.string xp) := HWA.out.cell 0
                                  clear u2 u3 b0 p0
                                  have HFC := Lib.hid HFA.out
                                  have HMC := Lib.hid HMA.out
                                  have HGC := Lib.hid HGA.out
                                  obtain ⟨w20, hrun, hM4, hg4⟩ := HMC.out.store law_str Tryz.underlying80 (by simp only [maxLen]; omega) strL_inj hpm (key_str hpm) (.bool true)
                                  have HM4 := Lib.hid hM4
                                  have HF20 := Lib.hid (HFC.out.grown hg4 (fun q hq => by cases hq; omega))
                                  have HG20 := Lib.hid (HGC.out.grown hg4 (fun e => by cases e; omega))
                                  clear hM4 hg4
                                  go_wp2
                                  go_roundw
                                  case rel => exact ⟨kn, _, by rw [← HKN.out]; go_num, by have := HKN.out; omega, rfl, ⟨HF20.out, HG20.out⟩, .inr ⟨by decide, HXX.out⟩⟩
                                  case measure => simp [Lib.intOf]; omega
                                -- >>V4
                              · -- <<V5
                                have HBL := Lib.hid (show ¬ bl ahead xp = false from by rw [hbl]; simp)
                                obtain ⟨hb2, hb4⟩ := leq_no hbl
                                clear hbl
                                rcases HA.out with ⟨rfl, rfl⟩ | ⟨m, px, rfl, hpx, rfl⟩
                                case' inl =>
                                  go_quiet (fail)
                                case' inr =>
                                  obtain ⟨Av', cv', ev', -, -, hRv'⟩ := HKV7.out w9 HF9.out
                                  rw [HMK.out] at ev' hRv'
                                  cases ev'
                                  obtain ⟨bv', ov', eb, -, hclv'⟩ := hRv'.spot (by omega) (by omega)
                                  cases eb
                                  have p0 : w9.cell? ⟨bv, ov + m * 2, none⟩ = some (.string px.1) := hclv' _ _ (pairCells_at vl m _ hpx).1
                                  have hmi3 : (m : Int) < (mk : Int) := by omega
                                  clear hclv' hRv' hpx
                                  go_quiet (fail)
                                  clear p0
                                all_goals
                                  have HFA := Lib.hid (HF9.out.drewN nq)
                                  have HMA := Lib.hid (HM9.out.drewN nq)
                                  have HGA := Lib.hid (HG9.out.drewN nq)
                                  have HWA := Lib.hid (HW9.out.drewN nq)
                                  generalize w9.drewN nq = w10 at *
                                  have v0 : w10.cell? ⟨wr.heap.size, 0, none⟩ = some (.string xp) := HWA.out.cell 0
                                  have v1 : w10.cell? ⟨wr.heap.size, 1, none⟩ = some (.string xt) := HWA.out.cell 1
                                  clear u2 u3 b0 hb2 hb4
                                  have HFC := Lib.hid HFA.out
                                  have HMC := Lib.hid HMA.out
                                  have HGC := Lib.hid HGA.out
                                  clear HFA HMA HGA HWA
                                  cases hbr : broken xt with
                                  | some q =>
                                    have HISO := Lib.hid (show (broken xt).isSome = true from by rw [hbr]; rfl)
                                    have HVE := Lib.hid (show valE M' _ (xp, xt) = 6 from by unfold valE; rw [if_neg HNE.out, if_neg HBL.out, if_pos HISO.out])
                                    have HBV := Lib.hid (HV.out.bad HX.out (by rw [HVE.out]; decide))
                                    rw [HVE.out] at HBV
                                    have HXX := Lib.hid (HVX.out _ _ HBV.out (by decide))
                                    clear HVE HBV
                                    rw [hbr] at HRT
                                    clear hbr
                                    go_upto_region 33 with (go_at_call 39; refine (HRT.out _).mono ?_; rintro en w11 ⟨rfl, rfl⟩)
                                    obtain ⟨w20, hrun, hM4, hg4⟩ := HMC.out.store law_str Tryz.underlying80 (by simp only [maxLen]; omega) strL_inj hpm (key_str hpm) (.bool true)
                                    have HM4 := Lib.hid hM4
                                    have HF20 := Lib.hid (HFC.out.grown hg4 (fun q hq => by cases hq; omega))
                                    have HG20 := Lib.hid (HGC.out.grown hg4 (fun e => by cases e; omega))
                                    clear hM4 hg4
                                    go_wp2
                                    go_roundw
                                    case rel => exact ⟨kn, _, by rw [← HKN.out]; go_num, by have := HKN.out; omega, rfl, ⟨HF20.out, HG20.out⟩, .inr ⟨by decide, HXX.out⟩⟩
                                    case measure => simp [Lib.intOf]; omega
                                  | none =>
                                    have HBR := Lib.hid (show ¬ (broken xt).isSome = true from by rw [hbr]; simp)
                                    rw [hbr] at HRT
                                    clear hbr
                                    go_upto_region 31 with (go_at_call 39; refine (HRT.out _).mono ?_; rintro en w11 ⟨rfl, rfl⟩)
                                    by_cases hsz : 4096 < xt.size
                                    · have hs2 : (4096 : Int) < (xt.size : Int) := by omega
                                      have HVE := Lib.hid (show valE M' _ (xp, xt) = 3 from by unfold valE; rw [if_neg HNE.out, if_neg HBL.out, if_neg HBR.out, if_pos (.inl hsz)])
                                      have HBV := Lib.hid (HV.out.bad HX.out (by rw [HVE.out]; decide))
                                      rw [HVE.out] at HBV
                                      have HXX := Lib.hid (HVX.out _ _ HBV.out (by decide))
                                      clear HVE HBV
                                      obtain ⟨w20, hrun, hM4, hg4⟩ := HMC.out.store law_str Tryz.underlying80 (by simp only [maxLen]; omega) strL_inj hpm (key_str hpm) (.bool true)
                                      have HM4 := Lib.hid hM4
                                      have HF20 := Lib.hid (HFC.out.grown hg4 (fun q hq => by cases hq; omega))
                                      have HG20 := Lib.hid (HGC.out.grown hg4 (fun e => by cases e; omega))
                                      clear hM4 hg4
                                      go_wp2
                                      go_roundw
                                      case rel => exact ⟨kn, _, by rw [← HKN.out]; go_num, by have := HKN.out; omega, rfl, ⟨HF20.out, HG20.out⟩, .inr ⟨by decide, HXX.out⟩⟩
                                      case measure => simp [Lib.intOf]; omega
                                    · have hs2 : ¬ (4096 : Int) < (xt.size : Int) := by omega
                                      by_cases hfull : hasT M' xp = false ∧ M'.length = 16384
                                      · have hm1 : ((M'.length : Int) == 16384) = true := by rw [hfull.2]; rfl
                                        have HMG := Lib.hid (show (metF M' xp).getD (.bool false) = .bool false from by rw [metF_get, hfull.1])
                                        have HVE := Lib.hid (show valE M' _ (xp, xt) = 3 from by unfold valE; rw [if_neg HNE.out, if_neg HBL.out, if_neg HBR.out, if_pos (.inr hfull)])
                                        have HBV := Lib.hid (HV.out.bad HX.out (by rw [HVE.out]; decide))
                                        rw [HVE.out] at HBV
                                        have HXX := Lib.hid (HVX.out _ _ HBV.out (by decide))
                                        clear HVE HBV
                                        have hlk := HMC.out.look law_str Tryz.underlying80 (zero_bool w10) hpm (key_str hpm)
                                        rw [HMG.out] at hlk
                                        have hln := fun ty => HMC.out.len Tryz.underlying80 ty
                                        clear hfull
                                        obtain ⟨w20, hrun, hM4, hg4⟩ := HMC.out.store law_str Tryz.underlying80 (by simp only [maxLen]; omega) strL_inj hpm (key_str hpm) (.bool true)
                                        have HM4 := Lib.hid hM4
                                        have HF20 := Lib.hid (HFC.out.grown hg4 (fun q hq => by cases hq; omega))
                                        have HG20 := Lib.hid (HGC.out.grown hg4 (fun e => by cases e; omega))
                                        clear hM4 hg4
                                        go_wp2
                                        go_roundw
                                        case rel => exact ⟨kn, _, by rw [← HKN.out]; go_num, by have := HKN.out; omega, rfl, ⟨HF20.out, HG20.out⟩, .inr ⟨by decide, HXX.out⟩⟩
                                        case measure => simp [Lib.intOf]; omega
                                      · have HVE := Lib.hid (show valE M' _ (xp, xt) = 0 from by unfold valE; rw [if_neg HNE.out, if_neg HBL.out, if_neg HBR.out, if_neg (fun h => h.elim hsz hfull)])
                                        have HNV := Lib.hid (show VkAt vl M kn xp (addM M' xp) from HKN.out ▸ HV.out.next HX.out HVE.out)
                                        have HFU := Lib.hid hfull
                                        clear hfull
                                        cases hh : hasT M' xp
                                        · have hml : ¬ (M'.length : Int) = 16384 := fun e => HFU.out ⟨hh, by omega⟩
                                          have hm1 : ((M'.length : Int) == 16384) = false := by simpa using hml
                                          have HMG := Lib.hid (show (metF M' xp).getD (.bool false) = .bool false from by rw [metF_get, hh])
                                          clear hh
                                          have hlk := HMC.out.look law_str Tryz.underlying80 (zero_bool w10) hpm (key_str hpm)
                                          rw [HMG.out] at hlk
                                          have hln := fun ty => HMC.out.len Tryz.underlying80 ty
                                          obtain ⟨w20, hrun, hM4, hg4⟩ := HMC.out.store law_str Tryz.underlying80 (by simp only [maxLen]; omega) strL_inj hpm (key_str hpm) (.bool true)
                                          have HM4 := Lib.hid hM4
                                          have HF20 := Lib.hid (HFC.out.grown hg4 (fun q hq => by cases hq; omega))
                                          have HG20 := Lib.hid (HGC.out.grown hg4 (fun e => by cases e; omega))
                                          clear hM4 hg4
                                          have HMV := Lib.hid (show MapS w20 mb (cap0 + kn) (addM M' xp).length (metF (addM M' xp)) from by
                                            have hl : (addM M' xp).length = if (metF M' xp).isSome then M'.length else M'.length + 1 := by rw [addM_len, metF_some]
                                            rw [hl, ← metF_add, ← HKN.out]
                                            exact HM4.out)
                                          clear HM4
                                          go_wp2
                                          go_roundw
                                          case rel => exact ⟨kn, 0, by rw [← HKN.out]; go_num, by have := HKN.out; omega, rfl, ⟨HF20.out, HG20.out⟩, .inl ⟨rfl, _, _, HNV.out, .inr ⟨_, _, HKN.out.symm, HX.out, rfl⟩, HMV.out⟩⟩
                                          case measure => simp [Lib.intOf]; omega
                                        · have HMG := Lib.hid (show (metF M' xp).getD (.bool false) = .bool true from by rw [metF_get, hh])
                                          clear hh
                                          have hlk := HMC.out.look law_str Tryz.underlying80 (zero_bool w10) hpm (key_str hpm)
                                          rw [HMG.out] at hlk
                                          have hln := fun ty => HMC.out.len Tryz.underlying80 ty
                                          obtain ⟨w20, hrun, hM4, hg4⟩ := HMC.out.store law_str Tryz.underlying80 (by simp only [maxLen]; omega) strL_inj hpm (key_str hpm) (.bool true)
                                          have HM4 := Lib.hid hM4
                                          have HF20 := Lib.hid (HFC.out.grown hg4 (fun q hq => by cases hq; omega))
                                          have HG20 := Lib.hid (HGC.out.grown hg4 (fun e => by cases e; omega))
                                          clear hM4 hg4
                                          have HMV := Lib.hid (show MapS w20 mb (cap0 + kn) (addM M' xp).length (metF (addM M' xp)) from by
                                            have hl : (addM M' xp).length = if (metF M' xp).isSome then M'.length else M'.length + 1 := by rw [addM_len, metF_some]
                                            rw [hl, ← metF_add, ← HKN.out]
                                            exact HM4.out)
                                          clear HM4
                                          go_wp2
                                          go_roundw
                                          case rel => exact ⟨kn, 0, by rw [← HKN.out]; go_num, by have := HKN.out; omega, rfl, ⟨HF20.out, HG20.out⟩, .inl ⟨rfl, _, _, HNV.out, .inr ⟨_, _, HKN.out.symm, HX.out, rfl⟩, HMV.out⟩⟩
                                          case measure => simp [Lib.intOf]; omega
                          -- >>V1
                        · obtain rfl : k = mk := by omega
                          have hq3 : ¬ (k : Int) < (k : Int) := by omega
                          have HDN := Lib.hid (HV.out.done (by rw [HMK.out]; exact Nat.le_refl _))
                          go_wp2
                          go_roundw
                          case rel => exact ⟨_, M', by go_num, by omega, HNX.out _ HDN.out, by rw [HVN.out]; exact HM.out, HF.out⟩
                          case measure => simp [Lib.intOf]; omega
                      · have he1 : (e == 0) = false := by simpa using he0
                        have HXX := Lib.hid hE
                        clear he0 hE
                        by_cases hkm : k < mk
                        · have hq3 : (k : Int) < (mk : Int) := by omega
                          obtain ⟨⟨xp, xt⟩, hx⟩ : ∃ x, vl[k]? = some x := ⟨_, List.getElem?_eq_getElem (by rw [HMK.out]; exact hkm)⟩
                          obtain ⟨Av, cv, ev, hcv, -, hRv⟩ := HKV7.out _ HF.out
                          rw [HMK.out] at ev hcv hRv
                          cases ev
                          obtain ⟨bv, ov, rfl, hbv, hclv⟩ := hRv.spot (by omega) (by omega)
                          have hat := pairCells_at vl k _ hx
                          have y0 : wr.cell? ⟨bv, ov + k * 2, none⟩ = some (.string xp) := hclv _ _ hat.1
                          have y1 : wr.cell? ⟨bv, ov + k * 2 + 1, none⟩ = some (.string xt) := hclv _ _ hat.2
                          clear hclv hat hx
                          have HF8 := Lib.hid (HF.out.alloc (.cells #[.string xp, .string xt] 59))
                          go_upto_region 24 with (fail)
                          generalize wr.alloc (.cells #[.string xp, .string xt] 59) = w8 at *
                          clear y0 y1
                          obtain ⟨c0, c1', c2', c3, c4, c5⟩ := HF8.out.1.two (.int .i64 e)
                          go_wp2
                          (try simp only [Exit.inBlock, Exit.then])
                          exact bodyPost_ret (rcheck_result (HF8.out.done e _).1 rfl) rfl (HCB.out _ _ ((HXX.out.trans (congrArg (Prod.mk _) HJZ.out.symm))) _ HF8.out)
                        · obtain rfl : k = mk := by omega
                          have hq3 : ¬ (k : Int) < (k : Int) := by omega
                          obtain ⟨c0, c1', c2', c3, c4, c5⟩ := HF.out.1.two (.int .i64 e)
                          go_wp2
                          (try simp only [Exit.inBlock, Exit.then])
                          exact bodyPost_ret (rcheck_result (HF.out.done e _).1 rfl) rfl (HCB.out _ _ ((HXX.out.trans (congrArg (Prod.mk _) HJZ.out.symm))) _ HF.out)
                · rcases Nat.eq_zero_or_pos j with hj0 | hj0
                  · exact absurd (HFIRST.out hj0) hne
                  · obtain ⟨m, rfl⟩ : ∃ m, j = m + 1 := ⟨j - 1, by omega⟩
                    obtain ⟨⟨pn, pv⟩, hpb⟩ : ∃ b, l[m]? = some b := ⟨_, List.getElem?_eq_getElem (by rw [HN.out]; omega)⟩
                    have hs := HSEC.out m pn pv rfl hpb
                    have hbl : bl pn nm = false := by
                      cases h : bl pn nm
                      · rfl
                      · rw [h] at hs
                        exact absurd hs hne
                    have HX := Lib.hid (HCK.out.name HB.out hne)
                    rw [hs, if_pos hbl] at HX
                    have hcs := leq_yes hbl
                    obtain ⟨kb', ko', kv', e', hcw'⟩ := HCC.out m _ hpb
                    cases e'
                    have z3 := (hcw' w5 (HBW.out w5 HF2.out).1).1
                    clear hcw'
                    have kx := HPV.out w5 HF2.out
                    have hmi : (m : Int) < (i : Int) := by omega
                    simp only at z3
                    clear hs hbl hne hpb
                    rcases hcs with h1 | ⟨h1, h2⟩
                    all_goals
                      go_quiet (fail)
                      have HF7 := Lib.hid (HF2.out.drewN nq)
                      have HG7 := Lib.hid (HG2.out.drewN nq)
                      clear y0 y1 kx z3
                      generalize w5.drewN nq = w7 at *
                      have x0 : w7.cell? ⟨gk, 0, none⟩ = some (.string nm) := HG7.out.cell 0
                      have x1 : w7.cell? ⟨gk, 1, none⟩ = some (.slice Ak mk ck) := HG7.out.cell 1
                      have HKV7 := Lib.hid (show ∀ W, FC w1 (r + 1) W → KeysAt W W.heap.size (.slice Ak mk ck) vl from fun W hW => HKV0.out W (HBW.out W hW).1)
                      go_wp2
                      clear x0 x1
                      go_loopw [9, 71] (fun av kv W => ∃ (k : Nat), kv = .int .i64 (k : Int) ∧ k ≤ mk ∧ av = .int .i64 320 ∧ FC w1 (r + 1) W) (fun _ kv _ => mk - (Lib.intOf kv).toNat)
                      case atStart => exact ⟨0, rfl, Nat.zero_le _, rfl, HF7.out⟩
                      case round =>
                        clear HF7
                        obtain ⟨k, rfl, hk, rfl, hF⟩ := hrel
                        have HF := Lib.hid hF
                        clear hF
                        by_cases hkm : k < mk
                        · have hq3 : (k : Int) < (mk : Int) := by omega
                          obtain ⟨⟨xp, xt⟩, hx⟩ : ∃ x, vl[k]? = some x := ⟨_, List.getElem?_eq_getElem (by rw [HMK.out]; exact hkm)⟩
                          obtain ⟨Av, cv, ev, hcv, -, hRv⟩ := HKV7.out _ HF.out
                          rw [HMK.out] at ev hcv hRv
                          cases ev
                          obtain ⟨bv, ov, rfl, hbv, hclv⟩ := hRv.spot (by omega) (by omega)
                          have hat := pairCells_at vl k _ hx
                          have y0 : wr.cell? ⟨bv, ov + k * 2, none⟩ = some (.string xp) := hclv _ _ hat.1
                          have y1 : wr.cell? ⟨bv, ov + k * 2 + 1, none⟩ = some (.string xt) := hclv _ _ hat.2
                          clear hclv hat hx
                          have HF8 := Lib.hid (HF.out.alloc (.cells #[.string xp, .string xt] 59))
                          go_upto_region 24 with (fail)
                          generalize wr.alloc (.cells #[.string xp, .string xt] 59) = w8 at *
                          clear y0 y1
                          obtain ⟨c0, c1', c2', c3, c4, c5⟩ := HF8.out.1.two (.int .i64 320)
                          go_wp2
                          (try simp only [Exit.inBlock, Exit.then])
                          exact bodyPost_ret (rcheck_result (HF8.out.done 320 _).1 rfl) rfl (HCB.out _ _ HX.out _ HF8.out)
                        · obtain rfl : k = mk := by omega
                          have hq3 : ¬ (k : Int) < (k : Int) := by omega
                          obtain ⟨c0, c1', c2', c3, c4, c5⟩ := HF.out.1.two (.int .i64 320)
                          go_wp2
                          (try simp only [Exit.inBlock, Exit.then])
                          exact bodyPost_ret (rcheck_result (HF.out.done 320 _).1 rfl) rfl (HCB.out _ _ HX.out _ HF.out)
          · obtain rfl : j = i := by omega
            have hq2 : ¬ (j : Int) < (j : Int) := by omega
            have HX := Lib.hid (HCK.out.done (by rw [HN.out]; exact Nat.le_refl _))
            obtain ⟨c0, c1', c2', c3, c4, c5⟩ := HF.out.1.two (.int .i64 0)
            go_wp2
            (try simp only [Exit.inBlock, Exit.then])
            exact bodyPost_ret (rcheck_result (HF.out.done 0 0).1 rfl) rfl (HCB.out _ _ HX.out _ HF.out)
-- END rcheck
end Go.Proofs.YtfpepdjffehbcaaGreat
