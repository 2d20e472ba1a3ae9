/-
  The walks of the document's Texts, Paths, Tables of a bundle. Condition: the bundle may be, and is small.
-/
import Derived.Test.YtfpepdjffehbcaaGreatRef22B
import Derived.Test.YtfpepdjffehbcaaGreatBunSame
set_option linter.unusedVariables false
set_option linter.unusedSimpArgs false
namespace Go.Proofs.YtfpepdjffehbcaaGreat
open Go.RowKit

/-- Books that may be, few. -/
def BooksIn (l : List PStep) : Prop := (∀ b ∈ l, ValsIn b.2) ∧ l.length ≤ 11
theorem books_in {l : List PStep} (h : (checkB l).1 = 0) (hin : InB l) (hs : CutSm l) : BooksIn l := by
  obtain ⟨-, -, h3⟩ := checkB_ok h
  refine ⟨fun b hb => ⟨fun v hv => ?_, hs.2 b hb⟩, hs.1⟩
  obtain ⟨-, -, h5⟩ := h3 b hb
  have h6 := h5 v hv
  exact ⟨⟨h6.2.1, h6.1⟩, ((hin.2 b hb).2.1 v hv).2⟩
theorem pool_small {L : List ByteArray} {k : Nat} (h : L.length ≤ k) (hk : k ≤ 1000000) : (poolL bl L).length ≤ 1000000 := Nat.le_trans (poolL_len (lt := bl) L) (by omega)
theorem few_take {l : List PStep} (h : BooksIn l) (i : Nat) : (wordsB (l.take i)).length ≤ 1001 ∧ (pathsB (l.take i)).length ≤ 330 := by
  have h1 := few_words30 (l.take i) (fun b hb => (h.1 b (List.mem_of_mem_take hb)).2)
  have h2 := h.2
  rw [List.length_take] at h1
  omega
-- BEGIN texts
set_option maxHeartbeats 8000000 in
set_option maxRecDepth 100000 in
theorem rtexts_any (v : Value) (l : List PStep) (vs : List Value) (w : World) (h : StepsR w v l vs) (hin : BooksIn l) :
    Calls Tryz.prog 21 #[.agg #[v]] w fun e w' => ∃ A m c, e = .returned (.slice A m c) ∧ Txts w' w'.heap.size (.slice A m c) (textsP l) ∧ Below w.heap.size w w' := by
  have HS := Lib.hid h
  have HIN := Lib.hid hin
  obtain ⟨A, c, rfl, -, -, -, -, -⟩ := h
  obtain ⟨n, hN⟩ : ∃ n, l.length = n := ⟨_, rfl⟩
  have HN := Lib.hid hN
  have hn1 : n ≤ 11 := by rw [← hN]; exact hin.2
  rw [hN] at HS ⊢
  clear hN hin
  have hn2 : (n : Int) ≤ 11 := by omega
  have HB0 := Lib.hid ((Below.refl _ w).alloc (Nat.le_refl _) (.cells #[.slice A n c] 24))
  have HG0 := Lib.hid (Blk.new w 24 #[.slice A n c])
  have HSW := Lib.hid (show ∀ W, Below w.heap.size w W → StepsR W (.slice A n c) l vs from fun W hW => HS.out.more hW)
  obtain ⟨w1, hw1⟩ : ∃ w1, w.alloc (.cells #[.slice A n c] 24) = w1 := ⟨_, rfl⟩
  have HW1 := Lib.hid hw1
  rw [hw1] at HB0 HG0
  clear hw1
  go_enter Tryz.func21, Tryz.ntmps21
  go_upto_region 1 with (fail)
  rw [HW1.out]
  have k1 : w1.cell? ⟨w.heap.size, 0, none⟩ = some (.slice A n c) := HG0.out.cell 0
  go_wp2
  clear k1
  go_loopw [3, 13] (fun lv iv W => ∃ (i m : Nat) (A' : Option Addr) (c' : Nat), iv = .int .i64 (i : Int) ∧ i ≤ n ∧ lv = .slice A' m c' ∧ Txts W W.heap.size (.slice A' m c') (poolL bl (wordsB (l.take i))) ∧ Below w.heap.size w W) (fun _ iv _ => n - (Lib.intOf iv).toNat)
  case atStart => exact ⟨0, 0, none, 0, rfl, Nat.zero_le _, rfl, ⟨none, 0, rfl, Nat.zero_le _, Nat.zero_le _, Reads.none_⟩, HB0.out⟩
  case round =>
    obtain ⟨i, m, A', c', rfl, hi, rfl, hT, hB⟩ := hrel
    have HT := Lib.hid hT
    have HB := Lib.hid hB
    have HPL := Lib.hid (pool_small (few_take HIN.out i).1 (by omega))
    clear hT hB
    by_cases hlt : i < n
    · -- <<t1
      have hq : (i : Int) < (n : Int) := by omega
      obtain ⟨⟨nm, vl⟩, hb⟩ : ∃ b, l[i]? = some b := ⟨_, List.getElem?_eq_getElem (by rw [HN.out]; exact hlt)⟩
      obtain ⟨b1, o1, c3, Ak, ck, e1, hlt1, z0, z1, hv1, hk1⟩ := steps_spot (HSW.out wr HB.out) hb
      rw [HN.out] at e1
      cases e1
      have HBB := Lib.hid hb
      have HIB := Lib.hid (HIN.out.1 _ (List.mem_of_getElem? hb))
      have HK1 := Lib.hid (show ∀ W, Below wr.heap.size wr W → KeysAt W W.heap.size (.slice Ak vl.length ck) vl from fun W hW => hk1.more hW hW.size)
      simp only at z0 z1 HIB
      obtain ⟨mk, hmk⟩ : ∃ mk, vl.length = mk := ⟨_, rfl⟩
      have HMK := Lib.hid hmk
      have hmk1 : mk ≤ 30 := by rw [← hmk]; exact HIB.out.2
      have hmk2 : (mk : Int) ≤ 30 := by omega
      rw [hmk] at z1 HK1
      clear hb hv1 hk1 hmk
      have HBA := Lib.hid ((Below.refl wr.heap.size wr).alloc (Nat.le_refl _) (.cells #[.string nm, .slice Ak mk ck] 56))
      have HG6 := Lib.hid (Blk.new wr 56 #[.string nm, .slice Ak mk ck])
      have HB6 := Lib.hid (HB.out.trans (HBA.out.mono HB.out.size))
      have HPU := Lib.hid (rput_say (s := nm) (HT.out.on HBA.out) HPL.out)
      go_upto_region 5 with (fail)
      generalize wr.alloc (.cells #[.string nm, .slice Ak mk ck] 56) = w6 at *
      obtain ⟨gk, hgk⟩ : ∃ gk, wr.heap.size = gk := ⟨_, rfl⟩
      rw [hgk] at HG6 ⊢
      clear z0 z1
      have y0 : w6.cell? ⟨gk, 0, none⟩ = some (.string nm) := HG6.out.cell 0
      have y1 : w6.cell? ⟨gk, 1, none⟩ = some (.slice Ak mk ck) := HG6.out.cell 1
      clear hgk
      go_upto_region 6 with (go_at_call 47; go_must (refine HPU.out.mono ?_; rintro en w7 ⟨A7, m7, c7, rfl, hT7, hb7⟩; have HB7 := Lib.hid (HB6.out.trans (hb7.mono HB6.out.size)); have HBA7 := Lib.hid (HBA.out.trans (hb7.mono HBA.out.size)); have HG7 := Lib.hid (HG6.out.below hb7 HG6.out.lt); have HT7 := Lib.hid (show Txts w7 w7.heap.size (.slice A7 m7 c7) (poolL bl (wordsB (l.take i) ++ [nm])) from by rw [← pool_next]; exact hT7); clear hT7 hb7))
      clear y0 y1
      have y1 : w7.cell? ⟨gk, 1, none⟩ = some (.slice Ak mk ck) := HG7.out.cell 1
      go_wp2
      clear y1
      go_loopw [3, 24] (fun lv jv W => ∃ (j m : Nat) (A' : Option Addr) (c' : Nat), jv = .int .i64 (j : Int) ∧ j ≤ mk ∧ lv = .slice A' m c' ∧ Txts W W.heap.size (.slice A' m c') (poolL bl (wordsB (l.take i) ++ [nm] ++ wordsV (vl.take j))) ∧ Below w7.heap.size w7 W) (fun _ jv _ => mk - (Lib.intOf jv).toNat)
      case atStart => exact ⟨0, m7, A7, c7, rfl, Nat.zero_le _, rfl, by simpa [wordsV] using HT7.out, Below.refl _ _⟩
      case round =>
        clear HT7
        obtain ⟨j, m2, A2, c2, rfl, hj, rfl, hT, hB⟩ := hrel
        have HT2 := Lib.hid hT
        have HBJ := Lib.hid hB
        clear hT hB
        have HBJ2 := Lib.hid (HBA7.out.trans (HBJ.out.mono HBA7.out.size))
        obtain ⟨pre, hpre⟩ : ∃ pre, wordsB (l.take i) ++ [nm] ++ wordsV (vl.take j) = pre := ⟨_, rfl⟩
        have hpl : pre.length ≤ 2000 := by
          rw [← hpre]
          have h1 := (few_take HIN.out i).1
          have h2 := wordsV_len (vl.take j)
          rw [List.length_take] at h2
          simp only [List.length_append, List.length_cons, List.length_nil, h2]
          omega
        have HPRE := Lib.hid hpre
        rw [hpre] at HT2
        clear hpre
        by_cases hjm : j < mk
        · have hq2 : (j : Int) < (mk : Int) := by omega
          obtain ⟨⟨xp, xt⟩, hx⟩ : ∃ x, vl[j]? = some x := ⟨_, List.getElem?_eq_getElem (by rw [HMK.out]; exact hjm)⟩
          obtain ⟨q1, p1, rfl, hq1, z0, z1⟩ := keys_spot (HK1.out wr HBJ2.out) hx
          have HX := Lib.hid hx
          have HPO := Lib.hid (HIB.out.1 _ (List.mem_of_getElem? hx)).1
          simp only at z0 z1 HPO
          clear hx
          have HB8 := Lib.hid (HBJ.out.alloc HBJ.out.size (.cells #[.string xp, .string xt] 59))
          have HT8 := Lib.hid (HT2.out.on ((Below.refl _ wr).alloc (Nat.le_refl _) (.cells #[.string xp, .string xt] 59)))
          have HG8 := Lib.hid (Blk.new wr 59 #[.string xp, .string xt])
          go_upto_region 9 with (fail)
          generalize wr.alloc (.cells #[.string xp, .string xt] 59) = w8 at *
          obtain ⟨gv, hgv⟩ : ∃ gv, wr.heap.size = gv := ⟨_, rfl⟩
          rw [hgv] at HG8 ⊢
          clear hgv z0 z1
          have z0 : w8.cell? ⟨gv, 0, none⟩ = some (.string xp) := HG8.out.cell 0
          have z1 : w8.cell? ⟨gv, 1, none⟩ = some (.string xt) := HG8.out.cell 1
          refine wp_region_M (fun W => W.cell? ⟨gv, 0, none⟩ = some (.string xp) ∧ W.cell? ⟨gv, 1, none⟩ = some (.string xt)) 9 (by kernel_rfl) (by go_keep) (fun hHeld => ?_)
          refine wpAnyM_take (i := 0) (d := (some 28)) (v := ?_) rfl rfl (by kernel_rfl) (by kernel_rfl) (by kernel_rfl) (by kernel_rfl) (by kernel_rfl) (fun _ _ _ h => h) (Or.inl ⟨by rfl, ?_⟩) (by assumption) ?_
          rotate_left
          · intro w hSw
            (try dsimp only at hSw)
            go_simp
            (try with_reducible rfl)
          (try simp only [Act.put, List.setIfInBounds_toArray, List.set_cons_zero, List.set_cons_succ])
          refine wpAnyM_take (i := 1) (d := (some 29)) (v := ?_) rfl rfl (by kernel_rfl) (by kernel_rfl) (by kernel_rfl) (by kernel_rfl) (by kernel_rfl) (fun _ _ _ h => h) (Or.inl ⟨by rfl, ?_⟩) (by assumption) ?_
          rotate_left
          · intro w hSw
            (try dsimp only at hSw)
            go_simp
            (try with_reducible rfl)
          (try simp only [Act.put, List.setIfInBounds_toArray, List.set_cons_zero, List.set_cons_succ])
          refine wpAnyM_take (i := 3) (d := (some 31)) (v := ?_) rfl rfl (by kernel_rfl) (by kernel_rfl) (by kernel_rfl) (by kernel_rfl) (by kernel_rfl) (fun _ _ _ h => h) (Or.inl ⟨by rfl, ?_⟩) (by assumption) ?_
          rotate_left
          · intro w hSw
            (try dsimp only at hSw)
            go_simp
            (try with_reducible rfl)
          (try simp only [Act.put, List.setIfInBounds_toArray, List.set_cons_zero, List.set_cons_succ])
          refine wpAnyM_take (i := 4) (d := (some 32)) (v := ?_) rfl rfl (by kernel_rfl) (by kernel_rfl) (by kernel_rfl) (by kernel_rfl) (by kernel_rfl) (fun _ _ _ h => h) (Or.inl ⟨by rfl, ?_⟩) (by assumption) ?_
          rotate_left
          · intro w hSw
            (try dsimp only at hSw)
            go_simp
            (try with_reducible rfl)
          (try simp only [Act.put, List.setIfInBounds_toArray, List.set_cons_zero, List.set_cons_succ])
          refine wpAnyM_take (i := 5) (d := (some 33)) (v := ?_) rfl rfl (by kernel_rfl) (by kernel_rfl) (by kernel_rfl) (by kernel_rfl) (by kernel_rfl) (fun _ _ _ h => h) (Or.inl ⟨by rfl, ?_⟩) (by assumption) ?_
          rotate_left
          · intro w hSw
            (try dsimp only at hSw)
            go_simp
            (try with_reducible rfl)
          (try simp only [Act.put, List.setIfInBounds_toArray, List.set_cons_zero, List.set_cons_succ])
          refine wpAnyM_take (i := 6) (d := (some 34)) (v := ?_) rfl rfl (by kernel_rfl) (by kernel_rfl) (by kernel_rfl) (by kernel_rfl) (by kernel_rfl) (fun _ _ _ h => h) (Or.inl ⟨by rfl, ?_⟩) (by assumption) ?_
          rotate_left
          · intro w hSw
            (try dsimp only at hSw)
            go_simp
            (try with_reducible rfl)
          (try simp only [Act.put, List.setIfInBounds_toArray, List.set_cons_zero, List.set_cons_succ])
          refine wpAnyM_take (i := 8) (d := (some 36)) (v := ?_) rfl rfl (by kernel_rfl) (by kernel_rfl) (by kernel_rfl) (by kernel_rfl) (by kernel_rfl) (fun _ _ _ h => h) (Or.inl ⟨by rfl, ?_⟩) (by assumption) ?_
          rotate_left
          · intro w hSw
            (try dsimp only at hSw)
            go_simp
            (try with_reducible rfl)
          (try simp only [Act.put, List.setIfInBounds_toArray, List.set_cons_zero, List.set_cons_succ])
          refine wpAnyM_one (i := 2) (by kernel_rfl) ?_
          refine owe_early (i := 2) (d := (some 30)) rfl rfl (fun K hK => ?_)
          go_simp
          refine (rgroup_any xp _ HPO.out).mono ?_
          rintro en w9 ⟨rfl, hb9⟩
          have hbx : Below w8.heap.size w8 w9 := ((Below.refl _ w8).drew).trans hb9
          have HB10 := Lib.hid (HB8.out.trans (hbx.mono HB8.out.size))
          have HBX := Lib.hid hbx
          have z0 := (HG8.out.below hbx HG8.out.lt).cell 0
          have z1 := (HG8.out.below hbx HG8.out.lt).cell 1
          clear hb9 hbx
          refine hK.out _ _ (by go_keep) (fun hHeld => ?_)
          clear hK K
          (try simp only [Act.put, List.setIfInBounds_toArray, List.set_cons_zero, List.set_cons_succ])
          refine wpAnyM_take (i := 7) (d := (some 35)) (v := ?_) rfl rfl (by kernel_rfl) (by kernel_rfl) (by kernel_rfl) (by kernel_rfl) (by kernel_rfl) (fun _ _ _ h => h) (Or.inl ⟨by rfl, ?_⟩) (by assumption) ?_
          rotate_left
          · intro w hSw
            (try dsimp only at hSw)
            go_simp
            (try with_reducible rfl)
          (try simp only [Act.put, List.setIfInBounds_toArray, List.set_cons_zero, List.set_cons_succ])
          refine wpAnyM_done (by kernel_rfl) ?_ _
          (try simp only [Act.put, List.setIfInBounds_toArray, List.set_cons_zero, List.set_cons_succ])
          skip
          clear z0 z1
          have HT10 := Lib.hid (HT8.out.on HBX.out)
          obtain ⟨l3, hl3⟩ : ∃ l3 : List ByteArray, l3 = [grp xp, xp, xt] := ⟨_, rfl⟩
          have HL3 := Lib.hid hl3
          have f0 : ∀ W, (Instr.index 92 (.agg #[.string (grp xp), .string xp, .string xt]) (.int .i64 0)).run Tryz.prog W = .ok (.string (grp xp)) W := fun _ => by kernel_rfl
          have f1 : ∀ W, (Instr.index 92 (.agg #[.string (grp xp), .string xp, .string xt]) (.int .i64 1)).run Tryz.prog W = .ok (.string xp) W := fun _ => by kernel_rfl
          have f2 : ∀ W, (Instr.index 92 (.agg #[.string (grp xp), .string xp, .string xt]) (.int .i64 2)).run Tryz.prog W = .ok (.string xt) W := fun _ => by kernel_rfl
          have HI3 := Lib.hid (show ∀ (q : Nat) (s : ByteArray), l3[q]? = some s → ∀ W, (Instr.index 92 (.agg #[.string (grp xp), .string xp, .string xt]) (.int .i64 (q : Int))).run Tryz.prog W = .ok (.string s) W from fun q s hq W => by
            rw [hl3] at hq
            match q, hq with
            | 0, hq => simp only [List.getElem?_cons_zero, Option.some.injEq] at hq; subst hq; exact f0 W
            | 1, hq => simp only [List.getElem?_cons_succ, List.getElem?_cons_zero, Option.some.injEq] at hq; subst hq; exact f1 W
            | 2, hq => simp only [List.getElem?_cons_succ, List.getElem?_cons_zero, Option.some.injEq] at hq; subst hq; exact f2 W
            | q + 3, hq => simp at hq)
          clear hl3 f0 f1 f2
          go_wp2
          go_loopw [3, 36] (fun lv qv W => ∃ (q m : Nat) (A' : Option Addr) (c' : Nat), qv = .int .i64 (q : Int) ∧ q ≤ 3 ∧ lv = .slice A' m c' ∧ Txts W W.heap.size (.slice A' m c') (poolL bl (pre ++ l3.take q)) ∧ Below w9.heap.size w9 W) (fun _ qv _ => 3 - (Lib.intOf qv).toNat)
          case atStart => exact ⟨0, m2, A2, c2, rfl, Nat.zero_le _, rfl, by simpa using HT10.out, Below.refl _ _⟩
          case round =>
            clear HT10
            obtain ⟨q, m3, A3, c3, rfl, hq, rfl, hT, hB⟩ := hrel
            have HT3 := Lib.hid hT
            have HBQ := Lib.hid hB
            clear hT hB
            by_cases hq3 : q < 3
            · have hq4 : (q : Int) < 3 := by omega
              obtain ⟨s, hs⟩ : ∃ s, l3[q]? = some s := ⟨_, List.getElem?_eq_getElem (by rw [HL3.out]; exact hq3)⟩
              have hix := HI3.out q s hs
              have HSS := Lib.hid hs
              have HPU2 := Lib.hid (rput_say (s := s) HT3.out (pool_small (k := 2003) (by rw [List.length_append, List.length_take]; omega) (by omega)))
              clear hs
              go_wp2_with (go_at_call 47; go_must (refine HPU2.out.mono ?_; rintro en w4 ⟨A4, m4, c4, rfl, hT4, hb4⟩; have HB4 := Lib.hid (HBQ.out.trans (hb4.mono HBQ.out.size)); have HT4 := Lib.hid hT4; clear hT4 hb4))
              go_roundw
              case rel => exact ⟨q + 1, m4, A4, c4, by go_num, hq3, rfl, by have h := HT4.out; rw [pool_next] at h; rw [List.take_add_one, HSS.out, ← List.append_assoc]; exact h, HB4.out⟩
              case measure => simp [Lib.intOf]; omega
            · obtain rfl : q = 3 := by omega
              have hq4 : ¬ ((3 : Nat) : Int) < 3 := by omega
              have HTE := Lib.hid (show Txts wr wr.heap.size (.slice A3 m3 c3) (poolL bl (wordsB (l.take i) ++ [nm] ++ wordsV (vl.take (j + 1)))) from by
                have h := HT3.out
                rw [HL3.out] at h
                rw [wordsV_next HX.out, ← List.append_assoc, HPRE.out]
                exact h)
              go_wp2
              go_roundw
              case rel => exact ⟨j + 1, m3, A3, c3, by go_num, hjm, rfl, HTE.out, HB10.out.trans (HBQ.out.mono HB10.out.size)⟩
              case measure => simp [Lib.intOf]; omega
        · obtain rfl : mk = j := by omega
          have hq2 : ¬ (mk : Int) < (mk : Int) := by omega
          have HTE := Lib.hid (show Txts wr wr.heap.size (.slice A2 m2 c2) (poolL bl (wordsB (l.take (i + 1)))) from by
            have h := HT2.out
            rw [← HPRE.out, List.take_of_length_le (l := vl) (by rw [HMK.out]; exact Nat.le_refl _)] at h
            rw [words_next HBB.out]
            exact h)
          go_wp2
          go_roundw
          case rel => exact ⟨i + 1, m2, A2, c2, by go_num, hlt, rfl, HTE.out, HB7.out.trans (HBJ.out.mono HB7.out.size)⟩
          case measure => simp [Lib.intOf]; omega
      -- >>t1
    · obtain rfl : i = n := by omega
      have hq : ¬ (i : Int) < (i : Int) := by omega
      go_wp2
      go_ret
      exact ⟨_, _, _, rfl, by have h := HT.out; rw [List.take_of_length_le (l := l) (by rw [HN.out]; exact Nat.le_refl _)] at h; exact h, HB.out⟩
-- END texts
-- BEGIN paths
set_option maxHeartbeats 8000000 in
set_option maxRecDepth 100000 in
theorem rpaths_any (v : Value) (l : List PStep) (vs : List Value) (w : World) (h : StepsR w v l vs) (hin : BooksIn l) :
    Calls Tryz.prog 22 #[.agg #[v]] w fun e w' => ∃ A m c, e = .returned (.slice A m c) ∧ Txts w' w'.heap.size (.slice A m c) (pathsP l) ∧ Below w.heap.size w w' := by
  have HS := Lib.hid h
  have HIN := Lib.hid hin
  obtain ⟨A, c, rfl, -, -, -, -, -⟩ := h
  obtain ⟨n, hN⟩ : ∃ n, l.length = n := ⟨_, rfl⟩
  have HN := Lib.hid hN
  have hn1 : n ≤ 11 := by rw [← hN]; exact hin.2
  rw [hN] at HS ⊢
  clear hN hin
  have hn2 : (n : Int) ≤ 11 := by omega
  have HB0 := Lib.hid ((Below.refl _ w).alloc (Nat.le_refl _) (.cells #[.slice A n c] 24))
  have HG0 := Lib.hid (Blk.new w 24 #[.slice A n c])
  have HSW := Lib.hid (show ∀ W, Below w.heap.size w W → StepsR W (.slice A n c) l vs from fun W hW => HS.out.more hW)
  obtain ⟨w1, hw1⟩ : ∃ w1, w.alloc (.cells #[.slice A n c] 24) = w1 := ⟨_, rfl⟩
  have HW1 := Lib.hid hw1
  rw [hw1] at HB0 HG0
  clear hw1
  go_enter Tryz.func22, Tryz.ntmps22
  go_upto_region 1 with (fail)
  rw [HW1.out]
  have k1 : w1.cell? ⟨w.heap.size, 0, none⟩ = some (.slice A n c) := HG0.out.cell 0
  go_wp2
  clear k1
  go_loopw [3, 11] (fun lv iv W => ∃ (i m : Nat) (A' : Option Addr) (c' : Nat), iv = .int .i64 (i : Int) ∧ i ≤ n ∧ lv = .slice A' m c' ∧ Txts W W.heap.size (.slice A' m c') (poolL bl (pathsB (l.take i))) ∧ Below w.heap.size w W) (fun _ iv _ => n - (Lib.intOf iv).toNat)
  case atStart => exact ⟨0, 0, none, 0, rfl, Nat.zero_le _, rfl, ⟨none, 0, rfl, Nat.zero_le _, Nat.zero_le _, Reads.none_⟩, HB0.out⟩
  case round =>
    obtain ⟨i, m, A', c', rfl, hi, rfl, hT, hB⟩ := hrel
    have HT := Lib.hid hT
    have HB := Lib.hid hB
    clear hT hB
    by_cases hlt : i < n
    · -- <<p1
      have hq : (i : Int) < (n : Int) := by omega
      obtain ⟨⟨nm, vl⟩, hb⟩ : ∃ b, l[i]? = some b := ⟨_, List.getElem?_eq_getElem (by rw [HN.out]; exact hlt)⟩
      obtain ⟨b1, o1, c3, Ak, ck, e1, hlt1, z0, z1, hv1, hk1⟩ := steps_spot (HSW.out wr HB.out) hb
      rw [HN.out] at e1
      cases e1
      have HBB := Lib.hid hb
      have HIB := Lib.hid (HIN.out.1 _ (List.mem_of_getElem? hb))
      have HK1 := Lib.hid (show ∀ W, Below wr.heap.size wr W → KeysAt W W.heap.size (.slice Ak vl.length ck) vl from fun W hW => hk1.more hW hW.size)
      simp only at z0 z1 HIB
      obtain ⟨mk, hmk⟩ : ∃ mk, vl.length = mk := ⟨_, rfl⟩
      have HMK := Lib.hid hmk
      have hmk1 : mk ≤ 30 := by rw [← hmk]; exact HIB.out.2
      have hmk2 : (mk : Int) ≤ 30 := by omega
      rw [hmk] at z1 HK1
      clear hb hv1 hk1 hmk
      have HBA := Lib.hid ((Below.refl wr.heap.size wr).alloc (Nat.le_refl _) (.cells #[.string nm, .slice Ak mk ck] 56))
      have HG6 := Lib.hid (Blk.new wr 56 #[.string nm, .slice Ak mk ck])
      have HB6 := Lib.hid (HB.out.trans (HBA.out.mono HB.out.size))
      have HT6 := Lib.hid (HT.out.on HBA.out)
      go_upto_region 5 with (fail)
      generalize wr.alloc (.cells #[.string nm, .slice Ak mk ck] 56) = w6 at *
      obtain ⟨gk, hgk⟩ : ∃ gk, wr.heap.size = gk := ⟨_, rfl⟩
      rw [hgk] at HG6 ⊢
      clear z0 z1
      have y0 : w6.cell? ⟨gk, 0, none⟩ = some (.string nm) := HG6.out.cell 0
      have y1 : w6.cell? ⟨gk, 1, none⟩ = some (.slice Ak mk ck) := HG6.out.cell 1
      clear hgk
      go_wp2
      clear y0 y1
      go_loopw [3, 18] (fun lv jv W => ∃ (j m : Nat) (A' : Option Addr) (c' : Nat), jv = .int .i64 (j : Int) ∧ j ≤ mk ∧ lv = .slice A' m c' ∧ Txts W W.heap.size (.slice A' m c') (poolL bl (pathsB (l.take i) ++ (vl.take j).map Prod.fst)) ∧ Below w6.heap.size w6 W) (fun _ jv _ => mk - (Lib.intOf jv).toNat)
      case atStart => exact ⟨0, m, A', c', rfl, Nat.zero_le _, rfl, by simpa using HT6.out, Below.refl _ _⟩
      case round =>
        clear HT6 HT
        obtain ⟨j, m2, A2, c2, rfl, hj, rfl, hT, hB⟩ := hrel
        have HT2 := Lib.hid hT
        have HBJ := Lib.hid hB
        clear hT hB
        have HBJ2 := Lib.hid (HBA.out.trans (HBJ.out.mono HBA.out.size))
        have HPL := Lib.hid (pool_small (L := pathsB (l.take i) ++ (vl.take j).map Prod.fst) (k := 400) (by rw [List.length_append, List.length_map, List.length_take]; have := (few_take HIN.out i).2; omega) (by omega))
        by_cases hjm : j < mk
        · have hq2 : (j : Int) < (mk : Int) := by omega
          obtain ⟨⟨xp, xt⟩, hx⟩ : ∃ x, vl[j]? = some x := ⟨_, List.getElem?_eq_getElem (by rw [HMK.out]; exact hjm)⟩
          obtain ⟨q1, p1, rfl, hq1, z0, z1⟩ := keys_spot (HK1.out wr HBJ2.out) hx
          have HX := Lib.hid hx
          simp only at z0 z1
          clear hx
          have HBX := Lib.hid ((Below.refl wr.heap.size wr).alloc (Nat.le_refl _) (.cells #[.string xp, .string xt] 59))
          have HB8 := Lib.hid (HBJ.out.trans (HBX.out.mono HBJ.out.size))
          have HG8 := Lib.hid (Blk.new wr 59 #[.string xp, .string xt])
          have HPU2 := Lib.hid (rput_say (s := xp) (HT2.out.on HBX.out) HPL.out)
          go_upto_region 8 with (fail)
          generalize wr.alloc (.cells #[.string xp, .string xt] 59) = w8 at *
          clear z0 z1
          have z0 : w8.cell? ⟨wr.heap.size, 0, none⟩ = some (.string xp) := HG8.out.cell 0
          go_wp2_with (go_at_call 47; go_must (refine HPU2.out.mono ?_; rintro en w4 ⟨A4, m4, c4, rfl, hT4, hb4⟩; have HB4 := Lib.hid (HB8.out.trans (hb4.mono HB8.out.size)); have HT4 := Lib.hid hT4; clear hT4 hb4))
          go_roundw
          case rel => exact ⟨j + 1, m4, A4, c4, by go_num, hjm, rfl, by have h := HT4.out; rw [pool_next] at h; rw [map_next HX.out, ← List.append_assoc]; exact h, HB4.out⟩
          case measure => simp [Lib.intOf]; omega
        · obtain rfl : mk = j := by omega
          have hq2 : ¬ (mk : Int) < (mk : Int) := by omega
          have HTE := Lib.hid (show Txts wr wr.heap.size (.slice A2 m2 c2) (poolL bl (pathsB (l.take (i + 1)))) from by
            have h := HT2.out
            rw [List.take_of_length_le (l := vl) (by rw [HMK.out]; exact Nat.le_refl _)] at h
            rw [paths_next HBB.out]
            exact h)
          go_wp2
          go_roundw
          case rel => exact ⟨i + 1, m2, A2, c2, by go_num, hlt, rfl, HTE.out, HB6.out.trans (HBJ.out.mono HB6.out.size)⟩
          case measure => simp [Lib.intOf]; omega
      -- >>p1
    · obtain rfl : i = n := by omega
      have hq : ¬ (i : Int) < (i : Int) := by omega
      go_wp2
      go_ret
      exact ⟨_, _, _, rfl, by have h := HT.out; rw [List.take_of_length_le (l := l) (by rw [HN.out]; exact Nat.le_refl _)] at h; exact h, HB.out⟩
-- END paths
theorem tabs_form {w : World} {B : Nat} {v : Value} {ps : List (Value × List RowI)} (h : TabsP w B v ps) : ∃ A c, v = .slice A ps.length c := by
  obtain ⟨A, c, e, -⟩ := h
  exact ⟨A, c, e⟩
/-- A list of tables that can be read. -/
def TabsS (W : World) (v : Value) (ts : List (List RowI)) : Prop := ∃ ps : List (Value × List RowI), ps.map Prod.snd = ts ∧ TabsP W W.heap.size v ps
theorem TabsS.on {W W' : World} {v : Value} {ts : List (List RowI)} (h : TabsS W v ts) (hb : Below W.heap.size W W') : TabsS W' v ts := by
  obtain ⟨ps, h1, h2⟩ := h
  exact ⟨ps, h1, h2.on hb⟩
theorem rputtab_say {v tv : Value} {L : List (List RowI)} {t : List RowI} {w : World} (h : TabsS w v (poolL tl L)) (ht : RowsR w w.heap.size tv t) (hlen : L.length ≤ 1000000) :
    Calls Tryz.prog 46 #[v, tv] w fun e w' => ∃ A m c, e = .returned (.slice A m c) ∧ TabsS w' (.slice A m c) (poolL tl (L ++ [t])) ∧ Below w.heap.size w w' := by
  obtain ⟨ps, h1, h2⟩ := h
  have hl : ps.length ≤ 1000000 := by
    have h3 := congrArg List.length h1
    rw [List.length_map] at h3
    rw [h3]
    exact Nat.le_trans (poolL_len (lt := tl) L) hlen
  refine (puttable_any v tv ps t w h2 ht hl).mono ?_
  rintro e w' ⟨⟨u, qs, rfl, hq, hu⟩, hb⟩
  obtain ⟨A, c, rfl⟩ := tabs_form hu
  exact ⟨A, _, c, rfl, ⟨qs, by rw [hq, h1, poolL_snoc], hu⟩, hb⟩
-- BEGIN tables
set_option maxHeartbeats 8000000 in
set_option maxRecDepth 100000 in
theorem rtables_any (v : Value) (l : List PStep) (vs : List Value) (w : World) (h : StepsR w v l vs) (hin : BooksIn l) (hc : (checkB l).1 = 0) :
    Calls Tryz.prog 19 #[.agg #[v]] w fun e w' => ∃ A m c, e = .returned (.slice A m c) ∧ TabsS w' (.slice A m c) (tabsB l) ∧ Below w.heap.size w w' := by
  have HS := Lib.hid h
  have HIN := Lib.hid hin
  obtain ⟨A, c, rfl, -, -, -, -, -⟩ := h
  obtain ⟨n, hN⟩ : ∃ n, l.length = n := ⟨_, rfl⟩
  have HN := Lib.hid hN
  have hn1 : n ≤ 11 := by rw [← hN]; exact hin.2
  rw [hN] at HS ⊢
  clear hN hin
  have hn2 : (n : Int) ≤ 11 := by omega
  have HB0 := Lib.hid ((Below.refl _ w).alloc (Nat.le_refl _) (.cells #[.slice A n c] 24))
  have HG0 := Lib.hid (Blk.new w 24 #[.slice A n c])
  have HSW := Lib.hid (show ∀ W, Below w.heap.size w W → StepsR W (.slice A n c) l vs from fun W hW => HS.out.more hW)
  obtain ⟨w1, hw1⟩ : ∃ w1, w.alloc (.cells #[.slice A n c] 24) = w1 := ⟨_, rfl⟩
  have HW1 := Lib.hid hw1
  rw [hw1] at HB0 HG0
  clear hw1
  have HCK := Lib.hid hc
  clear hc
  have HTN := Lib.hid (show (textsP l).length ≤ 1000000 ∧ (pathsP l).length ≤ 1000000 from by
    have h := few_take HIN.out l.length
    rw [List.take_length] at h
    exact ⟨pool_small h.1 (by omega), pool_small h.2 (by omega)⟩)
  have HTX := Lib.hid (fun (W : World) (hW : Below w1.heap.size w1 W) => rtexts_any (.slice A n c) l vs W (HSW.out W (HB0.out.trans (hW.mono HB0.out.size))) HIN.out)
  have HPX := Lib.hid (fun (W : World) (hW : Below w1.heap.size w1 W) => rpaths_any (.slice A n c) l vs W (HSW.out W (HB0.out.trans (hW.mono HB0.out.size))) HIN.out)
  go_enter Tryz.func19, Tryz.ntmps19
  go_upto_region 1 with (fail)
  rw [HW1.out]
  obtain ⟨h0, hh0⟩ : ∃ h0, w.heap.size = h0 := ⟨_, rfl⟩
  have HH0 := Lib.hid hh0
  have HG1 := Lib.hid (show Blk w1 h0 24 #[.slice A n c] from by rw [← hh0]; exact HG0.out)
  rw [hh0]
  clear hh0
  have k0 : w1.cell? ⟨h0, 0, none⟩ = some (.slice A n c) := HG1.out.cell 0
  refine wp_region_M (fun W => W.cell? ⟨h0, 0, none⟩ = some (.slice A n c)) 4 (by kernel_rfl) (by go_keep) (fun hHeld => ?_)
  refine wpAnyM_take (i := 0) (d := (some 10)) (v := ?_) rfl rfl (by kernel_rfl) (by kernel_rfl) (by kernel_rfl) (by kernel_rfl) (by kernel_rfl) (fun _ _ _ h => h) (Or.inl ⟨by rfl, ?_⟩) (by assumption) ?_
  rotate_left
  · intro w hSw
    (try dsimp only at hSw)
    go_simp
    (try with_reducible rfl)
  (try simp only [Act.put, List.setIfInBounds_toArray, List.set_cons_zero, List.set_cons_succ])
  refine wpAnyM_take (i := 2) (d := (some 12)) (v := ?_) rfl rfl (by kernel_rfl) (by kernel_rfl) (by kernel_rfl) (by kernel_rfl) (by kernel_rfl) (fun _ _ _ h => h) (Or.inl ⟨by rfl, ?_⟩) (by assumption) ?_
  rotate_left
  · intro w hSw
    (try dsimp only at hSw)
    go_simp
    (try with_reducible rfl)
  (try simp only [Act.put, List.setIfInBounds_toArray, List.set_cons_zero, List.set_cons_succ])
  refine wpAnyM_one (i := 1) (by kernel_rfl) ?_
  refine owe_early (i := 1) (d := (some 11)) rfl rfl (fun K hK => ?_)
  go_simp
  refine (HTX.out _ ((Below.refl _ w1).drew)).mono ?_
  rintro en w2 ⟨At, nt, ct, rfl, ht, hb2⟩
  have hbx : Below w1.heap.size w1 w2 := ((Below.refl _ w1).drew).trans hb2
  have HB2 := Lib.hid hbx
  have HT2 := Lib.hid ht
  have k0 := (HG1.out.below hbx HG1.out.lt).cell 0
  clear ht hb2 hbx
  refine hK.out _ _ (by go_keep) (fun hHeld => ?_)
  clear hK K
  (try simp only [Act.put, List.setIfInBounds_toArray, List.set_cons_zero, List.set_cons_succ])
  refine wpAnyM_one (i := 3) (by kernel_rfl) ?_
  refine owe_early (i := 3) (d := (some 13)) rfl rfl (fun K hK => ?_)
  go_simp
  refine (HPX.out _ HB2.out).mono ?_
  rintro en w3 ⟨Ap, np, cp, rfl, hp, hb3⟩
  have HB3 := Lib.hid (HB2.out.trans (hb3.mono HB2.out.size))
  have HT3 := Lib.hid (HT2.out.on hb3)
  have HP3 := Lib.hid hp
  have k0 := (HG1.out.below HB3.out HG1.out.lt).cell 0
  clear hp hb3
  refine hK.out _ _ (by go_keep) (fun hHeld => ?_)
  clear hK K
  (try simp only [Act.put, List.setIfInBounds_toArray, List.set_cons_zero, List.set_cons_succ])
  refine wpAnyM_one (i := 4) (by kernel_rfl) ?_
  refine owe_late (i := 4) (d := (some 3)) rfl rfl (by decide) (fun K hK => ?_)
  go_simp
  refine hK.out _ _ ?_
  clear hK K
  (try simp only [Act.put, List.setIfInBounds_toArray, List.set_cons_zero, List.set_cons_succ])
  refine wpAnyM_one (i := 5) (by kernel_rfl) ?_
  refine owe_late (i := 5) (d := (some 4)) rfl rfl (by decide) (fun K hK => ?_)
  go_simp
  refine hK.out _ _ ?_
  clear hK K
  (try simp only [Act.put, List.setIfInBounds_toArray, List.set_cons_zero, List.set_cons_succ])
  refine wpAnyM_done (by kernel_rfl) ?_ _
  (try simp only [Act.put, List.setIfInBounds_toArray, List.set_cons_zero, List.set_cons_succ])
  skip
  have HB03 := Lib.hid (HB0.out.trans (HB3.out.mono HB0.out.size))
  have HTL := Lib.hid (show (textsP l).length = nt ∧ (pathsP l).length = np from by
    obtain ⟨_, _, e1, -⟩ := HT3.out
    obtain ⟨_, _, e2, -⟩ := HP3.out
    cases e1
    cases e2
    exact ⟨rfl, rfl⟩)
  go_wp2
  clear k0
  go_loopw [5, 17] (fun lv iv W => ∃ (i m : Nat) (A' : Option Addr) (c' : Nat), iv = .int .i64 (i : Int) ∧ i ≤ n ∧ lv = .slice A' m c' ∧ TabsS W (.slice A' m c') (poolL tl (allTabs (textsP l) (pathsP l) (l.take i))) ∧ Below w3.heap.size w3 W) (fun _ iv _ => n - (Lib.intOf iv).toNat)
  case atStart => exact ⟨0, 0, none, 0, rfl, Nat.zero_le _, rfl, ⟨[], rfl, tabs_nil _ _⟩, Below.refl _ _⟩
  case round =>
    obtain ⟨i, m, A', c', rfl, hi, rfl, hT, hB⟩ := hrel
    have HT := Lib.hid hT
    have HB3R := Lib.hid hB
    have HB := Lib.hid (HB03.out.trans (hB.mono HB03.out.size))
    clear hT hB
    by_cases hlt : i < n
    · -- <<x1
      have hq : (i : Int) < (n : Int) := by omega
      obtain ⟨⟨nm, vl⟩, hb⟩ : ∃ b, l[i]? = some b := ⟨_, List.getElem?_eq_getElem (by rw [HN.out]; exact hlt)⟩
      obtain ⟨b1, o1, c3, Ak, ck, e1, hlt1, z0, z1, hv1, hk1⟩ := steps_spot (HSW.out wr HB.out) hb
      rw [HN.out] at e1
      cases e1
      have HBB := Lib.hid hb
      have HIB := Lib.hid (HIN.out.1 _ (List.mem_of_getElem? hb))
      have HK1 := Lib.hid (show ∀ W, Below wr.heap.size wr W → KeysAt W W.heap.size (.slice Ak vl.length ck) vl from fun W hW => hk1.more hW hW.size)
      simp only at z0 z1 HIB
      obtain ⟨mk, hmk⟩ : ∃ mk, vl.length = mk := ⟨_, rfl⟩
      have HMK := Lib.hid hmk
      have hmk1 : mk ≤ 30 := by rw [← hmk]; exact HIB.out.2
      have hmk2 : (mk : Int) ≤ 30 := by omega
      rw [hmk] at z1 HK1
      clear hb hv1 hk1 hmk
      have HBA := Lib.hid ((Below.refl wr.heap.size wr).alloc (Nat.le_refl _) (.cells #[.string nm, .slice Ak mk ck] 56))
      have HG6 := Lib.hid (Blk.new wr 56 #[.string nm, .slice Ak mk ck])
      have HB6 := Lib.hid (HB.out.trans (HBA.out.mono HB.out.size))
      have HT6 := Lib.hid (HT.out.on HBA.out)
      have HB36 := Lib.hid (HB3R.out.trans (HBA.out.mono HB3R.out.size))
      go_upto_region 6 with (fail)
      generalize wr.alloc (.cells #[.string nm, .slice Ak mk ck] 56) = w6 at *
      obtain ⟨gk, hgk⟩ : ∃ gk, wr.heap.size = gk := ⟨_, rfl⟩
      rw [hgk] at HG6 ⊢
      clear z0 z1
      have y0 : w6.cell? ⟨gk, 0, none⟩ = some (.string nm) := HG6.out.cell 0
      have y1 : w6.cell? ⟨gk, 1, none⟩ = some (.slice Ak mk ck) := HG6.out.cell 1
      clear hgk
      have HGR := Lib.hid (rgroups_any nm (.slice Ak mk ck) vl w6 (HK1.out w6 HBA.out) HIB.out)
      go_wp2_with (go_at_call 43; go_must (refine HGR.out.mono ?_; rintro en w7 ⟨Ag, mg, cg, rfl, hg7, hb7⟩; have HB37 := Lib.hid (HB36.out.trans (hb7.mono HB36.out.size)); have HBA7 := Lib.hid (HBA.out.trans (hb7.mono HBA.out.size)); have HG7 := Lib.hid (HG6.out.below hb7 HG6.out.lt); have HT7 := Lib.hid (HT6.out.on hb7); have HGS := Lib.hid hg7; clear hg7 hb7))
      clear y0 y1
      have hgl : (groupsB vl).length = mg := by
        obtain ⟨_, _, e1, -⟩ := HGS.out
        cases e1
        rfl
      have HGL := Lib.hid hgl
      have hmg1 : mg ≤ 30 := by rw [← hgl]; have := groupsB_len vl; have := HMK.out; omega
      have hmg2 : (mg : Int) ≤ 30 := by omega
      clear hgl
      go_loopw [5, 24] (fun lv jv W => ∃ (j m : Nat) (A' : Option Addr) (c' : Nat), jv = .int .i64 (j : Int) ∧ j ≤ mg ∧ lv = .slice A' m c' ∧ TabsS W (.slice A' m c') (poolL tl (allTabs (textsP l) (pathsP l) (l.take i) ++ ((groupsB vl).take j).map fun gr => rowsB (textsP l) (pathsP l) vl gr)) ∧ Below w7.heap.size w7 W) (fun _ jv _ => mg - (Lib.intOf jv).toNat)
      case atStart => exact ⟨0, m, A', c', rfl, Nat.zero_le _, rfl, by simpa using HT7.out, Below.refl _ _⟩
      case round =>
        clear HT7 HT HT6
        obtain ⟨j, m2, A2, c2, rfl, hj, rfl, hT, hB⟩ := hrel
        have HT2 := Lib.hid hT
        have HBJ := Lib.hid hB
        clear hT hB
        have HBJ2 := Lib.hid (HBA7.out.trans (HBJ.out.mono HBA7.out.size))
        have HBJ3 := Lib.hid (HB37.out.trans (HBJ.out.mono HB37.out.size))
        by_cases hjm : j < mg
        · have hq2 : (j : Int) < (mg : Int) := by omega
          obtain ⟨gr, hgr⟩ : ∃ gr, (groupsB vl)[j]? = some gr := ⟨_, List.getElem?_eq_getElem (by rw [HGL.out]; exact hjm)⟩
          obtain ⟨Ag', cg', eg, -, -, hRg⟩ := HGS.out.on HBJ.out
          rw [HGL.out] at eg hRg
          cases eg
          obtain ⟨q1, p1, rfl, hq1, hcl1⟩ := hRg.spot (by omega) (by omega)
          have r0 : wr.cell? ⟨q1, p1 + j, none⟩ = some (.string gr) := hcl1 _ _ (str_at hgr)
          have HGG := Lib.hid hgr
          have y0 : wr.cell? ⟨gk, 0, none⟩ = some (.string nm) := (HG7.out.below HBJ.out HG7.out.lt).cell 0
          have y1 : wr.cell? ⟨gk, 1, none⟩ = some (.slice Ak mk ck) := (HG7.out.below HBJ.out HG7.out.lt).cell 1
          have hvr := ((checkB_ok HCK.out).2.2 _ (List.mem_of_getElem? HBB.out)).2.1
          have HRW := Lib.hid (rrows_any nm gr (.slice Ak mk ck) (.slice At nt ct) (.slice Ap np cp) vl (textsP l) (pathsP l) wr (HK1.out wr HBJ2.out) HIB.out (HT3.out.on HBJ3.out) (HP3.out.on HBJ3.out) HTN.out.1 HTN.out.2 (poolL_rise blT _) hvr (val_in (List.mem_of_getElem? HBB.out)))
          have hal : (allTabs (textsP l) (pathsP l) (l.take i) ++ ((groupsB vl).take j).map fun gr => rowsB (textsP l) (pathsP l) vl gr).length ≤ 1000000 := by
            have h1 := (few_tabs30 (textsP l) (pathsP l) (l.take i) (fun b hb => (HIN.out.1 b (List.mem_of_mem_take hb)).2)).1
            rw [List.length_take] at h1
            rw [List.length_append, List.length_map, List.length_take]
            omega
          have HAL := Lib.hid hal
          clear hcl1 hgr hvr hal hRg
          go_wp2_with (first
            | (go_at_call 44; go_must (refine HRW.out.mono ?_; rintro en w8 ⟨A8, m8, c8, rfl, hr8, hb8⟩; have HB8 := Lib.hid (HBJ.out.trans (hb8.mono HBJ.out.size)); have HPT := Lib.hid (rputtab_say (HT2.out.on hb8) hr8 HAL.out); clear hr8 hb8))
            | (go_at_call 46; go_must (refine HPT.out.mono ?_; rintro en w9 ⟨A9, m9, c9, rfl, hT9, hb9⟩; have HB9 := Lib.hid (HB8.out.trans (hb9.mono HB8.out.size)); have HT9 := Lib.hid hT9; clear hT9 hb9)))
          go_roundw
          case rel => exact ⟨j + 1, m9, A9, c9, by go_num, hjm, rfl, by have h := HT9.out; rw [List.append_assoc] at h; rw [List.take_add_one, HGG.out, List.map_append]; exact h, HB9.out⟩
          case measure => simp [Lib.intOf]; omega
        · obtain rfl : mg = j := by omega
          have hq2 : ¬ (mg : Int) < (mg : Int) := by omega
          have HTE := Lib.hid (show TabsS wr (.slice A2 m2 c2) (poolL tl (allTabs (textsP l) (pathsP l) (l.take (i + 1)))) from by
            have h := HT2.out
            rw [List.take_of_length_le (l := groupsB vl) (by rw [HGL.out]; exact Nat.le_refl _)] at h
            rw [allTabs_next HBB.out]
            exact h)
          go_wp2
          go_roundw
          case rel => exact ⟨i + 1, m2, A2, c2, by go_num, hlt, rfl, HTE.out, HBJ3.out⟩
          case measure => simp [Lib.intOf]; omega
      -- >>x1
    · obtain rfl : i = n := by omega
      have hq : ¬ (i : Int) < (i : Int) := by omega
      go_wp2
      go_ret
      exact ⟨_, _, _, rfl, by have h := HT.out; rw [List.take_of_length_le (l := l) (by rw [HN.out]; exact Nat.le_refl _)] at h; exact h, by first | exact HB.out | (rw [← HH0.out]; exact HB.out)⟩
-- END tables
end Go.Proofs.YtfpepdjffehbcaaGreat
