/-
  The walks of ref13's Find and Lead. Condition: the pairs are right, at most 1000 of them; the path is within the reach.
-/
import Derived.Test.YtkfofdmcggoonaaGreatDoorRefComes
import Derived.Test.YtkfofdmcggoonaaGreatDoorRefPrint
import Derived.Test.YtkfofdmcggoonaaGreatDoorAliasWay
import Derived.Test.YtkfofdmcggoonaaGreatDoorRegion
set_option linter.unusedVariables false
set_option linter.unusedSimpArgs false
namespace Go.Proofs.YtkfofdmcggoonaaGreatDoor
open Go.RowKit

/-- What Find has found among the first n. -/
def RFindAt (l : List PKey) (p : ByteArray) (n : Nat) : Option (Nat × PKey) → Prop
  | none => BestIs (l.take n) p none
  | some k => k.1 < n ∧ l[k.1]? = some k.2 ∧ BestIs (l.take n) p (some k.2)
def findI : Option (Nat × PKey) → Int
  | none => -1
  | some k => (k.1 : Int)
theorem rtake_one {l : List PKey} {n : Nat} {x : PKey} (h : l[n]? = some x) : l.take (n + 1) = l.take n ++ [x] := by
  rw [List.take_add_one, h]
  rfl
theorem find_start (l : List PKey) (p : ByteArray) : RFindAt l p 0 none := fun x hx => by simp at hx
theorem find_skip {l : List PKey} {p : ByteArray} {n : Nat} {b : Option (Nat × PKey)} {x : PKey} (h : RFindAt l p n b) (hx : l[n]? = some x) (hi : inB p x.1 = false) : RFindAt l p (n + 1) b := by
  cases b with
  | none =>
    show BestIs (l.take (n + 1)) p none
    rw [rtake_one hx]
    exact best_skip h hi
  | some k =>
    obtain ⟨h1, h2, h3⟩ := h
    refine ⟨by omega, h2, ?_⟩
    rw [rtake_one hx]
    exact best_skip h3 hi
theorem find_first {l : List PKey} {p : ByteArray} {n : Nat} {x : PKey} (h : RFindAt l p n none) (hx : l[n]? = some x) (hi : inB p x.1 = true) (hr : rightB x.1 = true) : RFindAt l p (n + 1) (some (n, x)) := by
  refine ⟨Nat.lt_succ_self n, hx, ?_⟩
  rw [rtake_one hx]
  exact best_first h hi hr
theorem find_turn {l : List PKey} {p : ByteArray} {n : Nat} {k : Nat × PKey} {x : PKey} (h : RFindAt l p n (some k)) (hx : l[n]? = some x) (hi : inB p x.1 = true) (hr : rightB x.1 = true) (hb : inB x.1 k.2.1 = true) : RFindAt l p (n + 1) (some (n, x)) := by
  refine ⟨Nat.lt_succ_self n, hx, ?_⟩
  rw [rtake_one hx]
  exact best_turn h.2.2 hi hr hb
theorem find_stay {l : List PKey} {p : ByteArray} {n : Nat} {k : Nat × PKey} {x : PKey} (h : RFindAt l p n (some k)) (hx : l[n]? = some x) (hi : inB p x.1 = true) (hb : inB x.1 k.2.1 = false) : RFindAt l p (n + 1) (some k) := by
  refine ⟨by have := h.1; omega, h.2.1, ?_⟩
  rw [rtake_one hx]
  exact best_stay h.2.2 hi hb
def RFindPost (l : List PKey) (p : ByteArray) (w : World) (en : Ending) (w' : World) : Prop := (∃ b, RFindAt l p l.length b ∧ en = .returned (.int .i64 (findI b))) ∧ Below w.heap.size w w'
-- BEGIN find
set_option maxHeartbeats 16000000 in
set_option maxRecDepth 100000 in
theorem rfind_any (v : Value) (l : List PKey) (p : ByteArray) (w : World) (h : KeysAt w w.heap.size v l) (hF : ∀ x ∈ l, FineP x) (hp : p.size ≤ 140737488355328) (hn : l.length ≤ 1000) :
    Calls Tryz.prog 13 #[v, .string p] w (RFindPost l p w) := by
  obtain ⟨A, c, rfl, hc1, hc2, hR⟩ := h
  unfold maxLen at hc2
  have HRD := Lib.hid hR
  have HF := Lib.hid hF
  have HP := Lib.hid hp
  unfold RFindPost
  obtain ⟨n, hN⟩ : ∃ n, l.length = n := ⟨_, rfl⟩
  rw [hN] at hc1 hn HRD ⊢
  have HN := Lib.hid hN
  have hn1 : (n : Int) ≤ 1000 := by omega
  clear hR hF hp hN
  go_enter Tryz.func13, Tryz.ntmps13
  go_wp2
  go_loopw [5, 6] (fun bv iv wr => ∃ (i : Nat) (b : Option (Nat × PKey)), iv = .int .i64 (i : Int) ∧ i ≤ n ∧ RFindAt l p i b ∧ bv = .int .i64 (findI b) ∧ Below w.heap.size w wr) (fun _ iv _ => n - (Lib.intOf iv).toNat)
  case atStart => exact ⟨0, none, rfl, Nat.zero_le _, find_start l p, rfl, Below.refl _ _⟩
  case round =>
    obtain ⟨i, b, rfl, hi, hfa, rfl, hB⟩ := hrel
    have HFA := Lib.hid hfa
    have HB0 := Lib.hid hB
    clear hfa hB
    by_cases hin : i < n
    · have hq1 : (i : Int) < (n : Int) := by omega
      obtain ⟨⟨xk, xv⟩, hx⟩ : ∃ x, l[i]? = some x := ⟨_, List.getElem?_eq_getElem (by rw [HN.out]; exact hin)⟩
      have HX := Lib.hid hx
      have HFX := Lib.hid (HF.out _ (List.mem_of_getElem? hx))
      obtain ⟨bb, o, rfl, hbb, hcl⟩ := HRD.out.spot (by omega) (by omega)
      have HCC := Lib.hid (fun (X : World) (hX : Below w.heap.size w X) (j : Nat) (x : PKey) (hx : l[j]? = some x) => show X.cell? ⟨bb, o + j * 2, none⟩ = some (.string x.1) from
        (hX.cell (p := ⟨bb, o + j * 2, none⟩) hbb).trans (hcl _ _ (pairCells_at l j x hx).1))
      have hbw : bb < wr.heap.size := Nat.lt_of_lt_of_le hbb HB0.out.size
      have HT := Lib.hid (fun X => rin13_right p xk X HP.out HFX.out.1 HFX.out.2.2.1)
      have z0 := HCC.out wr HB0.out i _ hx
      simp only at z0
      clear hx hcl
      by_cases hi1 : inB p xk = true
      · rw [hi1] at HT
        cases b with
        | none =>
          have HN2 := Lib.hid (find_first HFA.out HX.out hi1 HFX.out.1)
          simp only [findI]
          clear hi1
          go_upto_region 5 with (fail)
          refine wp_region_facts (by kernel_rfl) [(13, Fact.is (.string p)), (14, Fact.is (.slice (some ⟨bb, o, none⟩) n c)), (15, Fact.is (.int .i64 (i : Int))), (16, Fact.is (.pointer (some ⟨bb, o + i * 2, none⟩))), (17, Fact.is (.pointer (some ⟨bb, o + i * 2, none⟩))), (18, Fact.is (.string xk)), (19, Fact.is (.bool true)), (20, Fact.is (.bool true)), (21, Fact.is (.int .i64 (-1))), (22, Fact.is (.bool true)), (23, Fact.is (.bool true)), (24, Fact.is (undef)), (25, Fact.is (undef)), (26, Fact.is (undef)), (27, Fact.is (undef)), (28, Fact.is (undef)), (29, Fact.is (undef)), (30, Fact.is (undef)), (31, Fact.is (undef)), (32, Fact.is (undef)), (33, Fact.is (undef)), (34, Fact.is (undef)), (35, Fact.is (.bool true)), (36, Fact.is (.bool true))] [false, false, false, false, false, false, false, false, false, false, false, false, false, true, true, true, true, true, true, true, true, true, true, true, true, true, true, true, true, true, true, true, true, true, true, true, true, false, false] (by kernel_rfl) (by kernel_rfl) ?_ ?_
          · refine ⟨?_, ?_, ?_, ?_, ?_, ?_, ?_, ?_, ?_, ?_, ?_, ?_, ?_, ?_, ?_, ?_, ?_, ?_, ?_, ?_, ?_, ?_, ?_, ?_, trivial⟩
            · intro s ww hE hs hl K hK
              clear hs hl
              simp only [frameM, fillM, Nat.reduceAdd, Act.put, List.setIfInBounds_toArray, List.set_cons_succ, List.set_cons_zero] at hK ⊢
              go_simp
              exact hK _ _ (Below.refl _ _) rfl
            · intro s ww hE hs hl K hK
              clear hs hl
              simp only [frameM, fillM, Nat.reduceAdd, Act.put, List.setIfInBounds_toArray, List.set_cons_succ, List.set_cons_zero] at hK ⊢
              go_simp
              exact hK _ _ (Below.refl _ _) rfl
            · intro s ww hE hs hl K hK
              clear hs hl
              simp only [frameM, fillM, Nat.reduceAdd, Act.put, List.setIfInBounds_toArray, List.set_cons_succ, List.set_cons_zero] at hK ⊢
              go_simp
              exact hK _ _ (Below.refl _ _) rfl
            · intro s ww hE hs hl K hK
              have h14 : s 14 = .slice (some ⟨bb, o, none⟩) n c := hs 14 (by kernel_rfl)
              have h15 : s 15 = .int .i64 (i : Int) := hs 15 (by kernel_rfl)
              clear hs hl
              simp only [frameM, fillM, Nat.reduceAdd, Act.put, List.setIfInBounds_toArray, List.set_cons_succ, List.set_cons_zero, h14, h15] at hK ⊢
              go_simp
              exact hK _ _ (Below.refl _ _) rfl
            · intro s ww hE hs hl K hK
              have h16 : s 16 = .pointer (some ⟨bb, o + i * 2, none⟩) := hs 16 (by kernel_rfl)
              clear hs hl
              simp only [frameM, fillM, Nat.reduceAdd, Act.put, List.setIfInBounds_toArray, List.set_cons_succ, List.set_cons_zero, h16] at hK ⊢
              go_simp
              exact hK _ _ (Below.refl _ _) rfl
            · intro s ww hE hs hl K hK
              have h17 : s 17 = .pointer (some ⟨bb, o + i * 2, none⟩) := hs 17 (by kernel_rfl)
              clear hs hl
              have cq := (hE.cell (p := _) hbw).trans z0
              simp only [frameM, fillM, Nat.reduceAdd, Act.put, List.setIfInBounds_toArray, List.set_cons_succ, List.set_cons_zero, h17] at hK ⊢
              go_simp
              exact hK _ _ (Below.refl _ _) rfl
            · intro s ww hE hs hl K hK
              have h13 : s 13 = .string p := hs 13 (by kernel_rfl)
              have h18 : s 18 = .string xk := hs 18 (by kernel_rfl)
              clear hs hl
              simp only [frameM, fillM, Nat.reduceAdd, Act.put, List.setIfInBounds_toArray, List.set_cons_succ, List.set_cons_zero, h13, h18] at hK ⊢
              go_simp
              go_at_call 30
              refine (HT.out ww).mono ?_
              rintro e we ⟨rfl, hg⟩
              exact hK _ _ hg rfl
            · intro s ww hE hs hl K hK
              have h19 : s 19 = .bool true := hs 19 (by kernel_rfl)
              clear hs hl
              simp only [frameM, fillM, Nat.reduceAdd, Act.put, List.setIfInBounds_toArray, List.set_cons_succ, List.set_cons_zero, h19] at hK ⊢
              go_simp
              exact hK _ _ (Below.refl _ _) rfl
            · intro s ww hE hs hl K hK
              have h20 : s 20 = .bool true := hs 20 (by kernel_rfl)
              clear hs hl
              simp only [frameM, fillM, Nat.reduceAdd, Act.put, List.setIfInBounds_toArray, List.set_cons_succ, List.set_cons_zero, h20] at hK ⊢
              go_simp
              exact hK _ _ (Below.refl _ _) rfl
            · intro s ww hE hs hl K hK
              have h21 : s 21 = .int .i64 (-1) := hs 21 (by kernel_rfl)
              have h20 : s 20 = .bool true := hs 20 (by kernel_rfl)
              clear hs hl
              simp only [frameM, fillM, Nat.reduceAdd, Act.put, List.setIfInBounds_toArray, List.set_cons_succ, List.set_cons_zero, h21, h20] at hK ⊢
              go_simp
              exact hK _ _ (Below.refl _ _) rfl
            · intro s ww hE hs hl K hK
              have h22 : s 22 = .bool true := hs 22 (by kernel_rfl)
              have h20 : s 20 = .bool true := hs 20 (by kernel_rfl)
              clear hs hl
              simp only [frameM, fillM, Nat.reduceAdd, Act.put, List.setIfInBounds_toArray, List.set_cons_succ, List.set_cons_zero, h22, h20] at hK ⊢
              go_simp
              exact hK _ _ (Below.refl _ _) rfl
            · intro s ww hE hs hl K hK
              have h23 : s 23 = .bool true := hs 23 (by kernel_rfl)
              clear hs hl
              simp only [frameM, fillM, Nat.reduceAdd, Act.put, List.setIfInBounds_toArray, List.set_cons_succ, List.set_cons_zero, h23] at hK ⊢
              go_simp
              exact hK _ _ (Below.refl _ _) rfl
            · intro s ww hE hs hl K hK
              have h23 : s 23 = .bool true := hs 23 (by kernel_rfl)
              clear hs hl
              simp only [frameM, fillM, Nat.reduceAdd, Act.put, List.setIfInBounds_toArray, List.set_cons_succ, List.set_cons_zero, h23] at hK ⊢
              go_simp
              exact hK _ _ (Below.refl _ _) rfl
            · intro s ww hE hs hl K hK
              have h24 : s 24 = undef := hs 24 (by kernel_rfl)
              have h25 : s 25 = undef := hs 25 (by kernel_rfl)
              have h23 : s 23 = .bool true := hs 23 (by kernel_rfl)
              clear hs hl
              simp only [frameM, fillM, Nat.reduceAdd, Act.put, List.setIfInBounds_toArray, List.set_cons_succ, List.set_cons_zero, h24, h25, h23] at hK ⊢
              go_simp
              exact hK _ _ (Below.refl _ _) rfl
            · intro s ww hE hs hl K hK
              have h26 : s 26 = undef := hs 26 (by kernel_rfl)
              have h23 : s 23 = .bool true := hs 23 (by kernel_rfl)
              clear hs hl
              simp only [frameM, fillM, Nat.reduceAdd, Act.put, List.setIfInBounds_toArray, List.set_cons_succ, List.set_cons_zero, h26, h23] at hK ⊢
              go_simp
              exact hK _ _ (Below.refl _ _) rfl
            · intro s ww hE hs hl K hK
              have h27 : s 27 = undef := hs 27 (by kernel_rfl)
              have h23 : s 23 = .bool true := hs 23 (by kernel_rfl)
              clear hs hl
              simp only [frameM, fillM, Nat.reduceAdd, Act.put, List.setIfInBounds_toArray, List.set_cons_succ, List.set_cons_zero, h27, h23] at hK ⊢
              go_simp
              exact hK _ _ (Below.refl _ _) rfl
            · intro s ww hE hs hl K hK
              have h23 : s 23 = .bool true := hs 23 (by kernel_rfl)
              clear hs hl
              simp only [frameM, fillM, Nat.reduceAdd, Act.put, List.setIfInBounds_toArray, List.set_cons_succ, List.set_cons_zero, h23] at hK ⊢
              go_simp
              exact hK _ _ (Below.refl _ _) rfl
            · intro s ww hE hs hl K hK
              have h23 : s 23 = .bool true := hs 23 (by kernel_rfl)
              clear hs hl
              simp only [frameM, fillM, Nat.reduceAdd, Act.put, List.setIfInBounds_toArray, List.set_cons_succ, List.set_cons_zero, h23] at hK ⊢
              go_simp
              exact hK _ _ (Below.refl _ _) rfl
            · intro s ww hE hs hl K hK
              have h29 : s 29 = undef := hs 29 (by kernel_rfl)
              have h30 : s 30 = undef := hs 30 (by kernel_rfl)
              have h23 : s 23 = .bool true := hs 23 (by kernel_rfl)
              clear hs hl
              simp only [frameM, fillM, Nat.reduceAdd, Act.put, List.setIfInBounds_toArray, List.set_cons_succ, List.set_cons_zero, h29, h30, h23] at hK ⊢
              go_simp
              exact hK _ _ (Below.refl _ _) rfl
            · intro s ww hE hs hl K hK
              have h31 : s 31 = undef := hs 31 (by kernel_rfl)
              have h23 : s 23 = .bool true := hs 23 (by kernel_rfl)
              clear hs hl
              simp only [frameM, fillM, Nat.reduceAdd, Act.put, List.setIfInBounds_toArray, List.set_cons_succ, List.set_cons_zero, h31, h23] at hK ⊢
              go_simp
              exact hK _ _ (Below.refl _ _) rfl
            · intro s ww hE hs hl K hK
              have h32 : s 32 = undef := hs 32 (by kernel_rfl)
              have h23 : s 23 = .bool true := hs 23 (by kernel_rfl)
              clear hs hl
              simp only [frameM, fillM, Nat.reduceAdd, Act.put, List.setIfInBounds_toArray, List.set_cons_succ, List.set_cons_zero, h32, h23] at hK ⊢
              go_simp
              exact hK _ _ (Below.refl _ _) rfl
            · intro s ww hE hs hl K hK
              have h28 : s 28 = undef := hs 28 (by kernel_rfl)
              have h33 : s 33 = undef := hs 33 (by kernel_rfl)
              have h23 : s 23 = .bool true := hs 23 (by kernel_rfl)
              clear hs hl
              simp only [frameM, fillM, Nat.reduceAdd, Act.put, List.setIfInBounds_toArray, List.set_cons_succ, List.set_cons_zero, h28, h33, h23] at hK ⊢
              go_simp
              exact hK _ _ (Below.refl _ _) rfl
            · intro s ww hE hs hl K hK
              have h23 : s 23 = .bool true := hs 23 (by kernel_rfl)
              have h34 : s 34 = undef := hs 34 (by kernel_rfl)
              have h20 : s 20 = .bool true := hs 20 (by kernel_rfl)
              clear hs hl
              simp only [frameM, fillM, Nat.reduceAdd, Act.put, List.setIfInBounds_toArray, List.set_cons_succ, List.set_cons_zero, h23, h34, h20] at hK ⊢
              go_simp
              exact hK _ _ (Below.refl _ _) rfl
            · intro s ww hE hs hl K hK
              have h20 : s 20 = .bool true := hs 20 (by kernel_rfl)
              have h35 : s 35 = .bool true := hs 35 (by kernel_rfl)
              clear hs hl
              simp only [frameM, fillM, Nat.reduceAdd, Act.put, List.setIfInBounds_toArray, List.set_cons_succ, List.set_cons_zero, h20, h35] at hK ⊢
              go_simp
              exact hK _ _ (Below.refl _ _) rfl
          · intro s ww hE hs
            have h36 : s 36 = .bool true := hs 36 (by kernel_rfl)
            clear hs
            simp only [frameM, fillM, Nat.reduceAdd]
            simp only [h36]
            clear h36
            have HB := Lib.hid (HB0.out.trans (hE.mono HB0.out.size))
            clear hE
            go_wp2
            go_roundw
            case rel => exact ⟨i + 1, some (i, (xk, xv)), by go_num, hin, HN2.out, rfl, HB.out⟩
            case measure => simp [Lib.intOf]; omega
        | some k =>
          obtain ⟨k, yk, yv⟩ := k
          simp only [findI]
          have hkl := HFA.out.1
          have HFY := Lib.hid (HF.out _ (List.mem_of_getElem? HFA.out.2.1))
          have hs1 := right_size HFX.out.1
          simp only at hs1 hkl
          have HT2 := Lib.hid (fun X => rin13_right xk yk X (by omega) HFY.out.1 HFY.out.2.2.1)
          have z1 := HCC.out wr HB0.out k _ HFA.out.2.1
          simp only at z1
          have hq2 : (k : Int) < (n : Int) := by omega
          have hq3 : ¬ (k : Int) < 0 := by omega
          have hq4 : (0 : Int) ≤ (k : Int) := by omega
          obtain ⟨i2, hi2⟩ : ∃ i2, inB xk yk = i2 := ⟨_, rfl⟩
          rw [hi2] at HT2
          have HN2 := Lib.hid (show RFindAt l p (i + 1) (if i2 then some (i, (xk, xv)) else some (k, (yk, yv))) from by
            cases i2
            · exact find_stay HFA.out HX.out hi1 hi2
            · exact find_turn HFA.out HX.out hi1 HFX.out.1 hi2)
          clear hi1 hi2
          go_upto_region 5 with (fail)
          refine wp_region_facts (by kernel_rfl) [(13, Fact.is (.string p)), (14, Fact.is (.slice (some ⟨bb, o, none⟩) n c)), (15, Fact.is (.int .i64 (i : Int))), (16, Fact.is (.pointer (some ⟨bb, o + i * 2, none⟩))), (17, Fact.is (.pointer (some ⟨bb, o + i * 2, none⟩))), (18, Fact.is (.string xk)), (19, Fact.is (.bool true)), (20, Fact.is (.bool true)), (21, Fact.is (.int .i64 (k : Int))), (22, Fact.is (.bool false)), (23, Fact.is (.bool false)), (24, Fact.is (.slice (some ⟨bb, o, none⟩) n c)), (25, Fact.is (.int .i64 (i : Int))), (26, Fact.is (.pointer (some ⟨bb, o + i * 2, none⟩))), (27, Fact.is (.pointer (some ⟨bb, o + i * 2, none⟩))), (28, Fact.is (.string xk)), (29, Fact.is (.slice (some ⟨bb, o, none⟩) n c)), (30, Fact.is (.int .i64 (k : Int))), (31, Fact.is (.pointer (some ⟨bb, o + k * 2, none⟩))), (32, Fact.is (.pointer (some ⟨bb, o + k * 2, none⟩))), (33, Fact.is (.string yk)), (34, Fact.is (.bool i2)), (35, Fact.is (.bool i2)), (36, Fact.is (.bool i2))] [false, false, false, false, false, false, false, false, false, false, false, false, false, true, true, true, true, true, true, true, true, true, true, true, true, true, true, true, true, true, true, true, true, true, true, true, true, false, false] (by kernel_rfl) (by kernel_rfl) ?_ ?_
          · refine ⟨?_, ?_, ?_, ?_, ?_, ?_, ?_, ?_, ?_, ?_, ?_, ?_, ?_, ?_, ?_, ?_, ?_, ?_, ?_, ?_, ?_, ?_, ?_, ?_, trivial⟩
            · intro s ww hE hs hl K hK
              clear hs hl
              simp only [frameM, fillM, Nat.reduceAdd, Act.put, List.setIfInBounds_toArray, List.set_cons_succ, List.set_cons_zero] at hK ⊢
              go_simp
              exact hK _ _ (Below.refl _ _) rfl
            · intro s ww hE hs hl K hK
              clear hs hl
              simp only [frameM, fillM, Nat.reduceAdd, Act.put, List.setIfInBounds_toArray, List.set_cons_succ, List.set_cons_zero] at hK ⊢
              go_simp
              exact hK _ _ (Below.refl _ _) rfl
            · intro s ww hE hs hl K hK
              clear hs hl
              simp only [frameM, fillM, Nat.reduceAdd, Act.put, List.setIfInBounds_toArray, List.set_cons_succ, List.set_cons_zero] at hK ⊢
              go_simp
              exact hK _ _ (Below.refl _ _) rfl
            · intro s ww hE hs hl K hK
              have h14 : s 14 = .slice (some ⟨bb, o, none⟩) n c := hs 14 (by kernel_rfl)
              have h15 : s 15 = .int .i64 (i : Int) := hs 15 (by kernel_rfl)
              clear hs hl
              simp only [frameM, fillM, Nat.reduceAdd, Act.put, List.setIfInBounds_toArray, List.set_cons_succ, List.set_cons_zero, h14, h15] at hK ⊢
              go_simp
              exact hK _ _ (Below.refl _ _) rfl
            · intro s ww hE hs hl K hK
              have h16 : s 16 = .pointer (some ⟨bb, o + i * 2, none⟩) := hs 16 (by kernel_rfl)
              clear hs hl
              simp only [frameM, fillM, Nat.reduceAdd, Act.put, List.setIfInBounds_toArray, List.set_cons_succ, List.set_cons_zero, h16] at hK ⊢
              go_simp
              exact hK _ _ (Below.refl _ _) rfl
            · intro s ww hE hs hl K hK
              have h17 : s 17 = .pointer (some ⟨bb, o + i * 2, none⟩) := hs 17 (by kernel_rfl)
              clear hs hl
              have cq := (hE.cell (p := _) hbw).trans z0
              simp only [frameM, fillM, Nat.reduceAdd, Act.put, List.setIfInBounds_toArray, List.set_cons_succ, List.set_cons_zero, h17] at hK ⊢
              go_simp
              exact hK _ _ (Below.refl _ _) rfl
            · intro s ww hE hs hl K hK
              have h13 : s 13 = .string p := hs 13 (by kernel_rfl)
              have h18 : s 18 = .string xk := hs 18 (by kernel_rfl)
              clear hs hl
              simp only [frameM, fillM, Nat.reduceAdd, Act.put, List.setIfInBounds_toArray, List.set_cons_succ, List.set_cons_zero, h13, h18] at hK ⊢
              go_simp
              go_at_call 30
              refine (HT.out ww).mono ?_
              rintro e we ⟨rfl, hg⟩
              exact hK _ _ hg rfl
            · intro s ww hE hs hl K hK
              have h19 : s 19 = .bool true := hs 19 (by kernel_rfl)
              clear hs hl
              simp only [frameM, fillM, Nat.reduceAdd, Act.put, List.setIfInBounds_toArray, List.set_cons_succ, List.set_cons_zero, h19] at hK ⊢
              go_simp
              exact hK _ _ (Below.refl _ _) rfl
            · intro s ww hE hs hl K hK
              have h20 : s 20 = .bool true := hs 20 (by kernel_rfl)
              clear hs hl
              simp only [frameM, fillM, Nat.reduceAdd, Act.put, List.setIfInBounds_toArray, List.set_cons_succ, List.set_cons_zero, h20] at hK ⊢
              go_simp
              exact hK _ _ (Below.refl _ _) rfl
            · intro s ww hE hs hl K hK
              have h21 : s 21 = .int .i64 (k : Int) := hs 21 (by kernel_rfl)
              have h20 : s 20 = .bool true := hs 20 (by kernel_rfl)
              clear hs hl
              simp only [frameM, fillM, Nat.reduceAdd, Act.put, List.setIfInBounds_toArray, List.set_cons_succ, List.set_cons_zero, h21, h20] at hK ⊢
              go_simp
              exact hK _ _ (Below.refl _ _) rfl
            · intro s ww hE hs hl K hK
              have h22 : s 22 = .bool false := hs 22 (by kernel_rfl)
              have h20 : s 20 = .bool true := hs 20 (by kernel_rfl)
              clear hs hl
              simp only [frameM, fillM, Nat.reduceAdd, Act.put, List.setIfInBounds_toArray, List.set_cons_succ, List.set_cons_zero, h22, h20] at hK ⊢
              go_simp
              exact hK _ _ (Below.refl _ _) rfl
            · intro s ww hE hs hl K hK
              have h23 : s 23 = .bool false := hs 23 (by kernel_rfl)
              clear hs hl
              simp only [frameM, fillM, Nat.reduceAdd, Act.put, List.setIfInBounds_toArray, List.set_cons_succ, List.set_cons_zero, h23] at hK ⊢
              go_simp
              exact hK _ _ (Below.refl _ _) rfl
            · intro s ww hE hs hl K hK
              have h23 : s 23 = .bool false := hs 23 (by kernel_rfl)
              clear hs hl
              simp only [frameM, fillM, Nat.reduceAdd, Act.put, List.setIfInBounds_toArray, List.set_cons_succ, List.set_cons_zero, h23] at hK ⊢
              go_simp
              exact hK _ _ (Below.refl _ _) rfl
            · intro s ww hE hs hl K hK
              have h24 : s 24 = .slice (some ⟨bb, o, none⟩) n c := hs 24 (by kernel_rfl)
              have h25 : s 25 = .int .i64 (i : Int) := hs 25 (by kernel_rfl)
              have h23 : s 23 = .bool false := hs 23 (by kernel_rfl)
              clear hs hl
              simp only [frameM, fillM, Nat.reduceAdd, Act.put, List.setIfInBounds_toArray, List.set_cons_succ, List.set_cons_zero, h24, h25, h23] at hK ⊢
              go_simp
              exact hK _ _ (Below.refl _ _) rfl
            · intro s ww hE hs hl K hK
              have h26 : s 26 = .pointer (some ⟨bb, o + i * 2, none⟩) := hs 26 (by kernel_rfl)
              have h23 : s 23 = .bool false := hs 23 (by kernel_rfl)
              clear hs hl
              simp only [frameM, fillM, Nat.reduceAdd, Act.put, List.setIfInBounds_toArray, List.set_cons_succ, List.set_cons_zero, h26, h23] at hK ⊢
              go_simp
              exact hK _ _ (Below.refl _ _) rfl
            · intro s ww hE hs hl K hK
              have h27 : s 27 = .pointer (some ⟨bb, o + i * 2, none⟩) := hs 27 (by kernel_rfl)
              have h23 : s 23 = .bool false := hs 23 (by kernel_rfl)
              clear hs hl
              have cq := (hE.cell (p := _) hbw).trans z0
              simp only [frameM, fillM, Nat.reduceAdd, Act.put, List.setIfInBounds_toArray, List.set_cons_succ, List.set_cons_zero, h27, h23] at hK ⊢
              go_simp
              exact hK _ _ (Below.refl _ _) rfl
            · intro s ww hE hs hl K hK
              have h23 : s 23 = .bool false := hs 23 (by kernel_rfl)
              clear hs hl
              simp only [frameM, fillM, Nat.reduceAdd, Act.put, List.setIfInBounds_toArray, List.set_cons_succ, List.set_cons_zero, h23] at hK ⊢
              go_simp
              exact hK _ _ (Below.refl _ _) rfl
            · intro s ww hE hs hl K hK
              have h23 : s 23 = .bool false := hs 23 (by kernel_rfl)
              clear hs hl
              simp only [frameM, fillM, Nat.reduceAdd, Act.put, List.setIfInBounds_toArray, List.set_cons_succ, List.set_cons_zero, h23] at hK ⊢
              go_simp
              exact hK _ _ (Below.refl _ _) rfl
            · intro s ww hE hs hl K hK
              have h29 : s 29 = .slice (some ⟨bb, o, none⟩) n c := hs 29 (by kernel_rfl)
              have h30 : s 30 = .int .i64 (k : Int) := hs 30 (by kernel_rfl)
              have h23 : s 23 = .bool false := hs 23 (by kernel_rfl)
              clear hs hl
              simp only [frameM, fillM, Nat.reduceAdd, Act.put, List.setIfInBounds_toArray, List.set_cons_succ, List.set_cons_zero, h29, h30, h23] at hK ⊢
              go_simp
              exact hK _ _ (Below.refl _ _) rfl
            · intro s ww hE hs hl K hK
              have h31 : s 31 = .pointer (some ⟨bb, o + k * 2, none⟩) := hs 31 (by kernel_rfl)
              have h23 : s 23 = .bool false := hs 23 (by kernel_rfl)
              clear hs hl
              simp only [frameM, fillM, Nat.reduceAdd, Act.put, List.setIfInBounds_toArray, List.set_cons_succ, List.set_cons_zero, h31, h23] at hK ⊢
              go_simp
              exact hK _ _ (Below.refl _ _) rfl
            · intro s ww hE hs hl K hK
              have h32 : s 32 = .pointer (some ⟨bb, o + k * 2, none⟩) := hs 32 (by kernel_rfl)
              have h23 : s 23 = .bool false := hs 23 (by kernel_rfl)
              clear hs hl
              have cq := (hE.cell (p := _) hbw).trans z1
              simp only [frameM, fillM, Nat.reduceAdd, Act.put, List.setIfInBounds_toArray, List.set_cons_succ, List.set_cons_zero, h32, h23] at hK ⊢
              go_simp
              exact hK _ _ (Below.refl _ _) rfl
            · intro s ww hE hs hl K hK
              have h28 : s 28 = .string xk := hs 28 (by kernel_rfl)
              have h33 : s 33 = .string yk := hs 33 (by kernel_rfl)
              have h23 : s 23 = .bool false := hs 23 (by kernel_rfl)
              clear hs hl
              simp only [frameM, fillM, Nat.reduceAdd, Act.put, List.setIfInBounds_toArray, List.set_cons_succ, List.set_cons_zero, h28, h33, h23] at hK ⊢
              go_simp
              go_at_call 30
              refine (HT2.out ww).mono ?_
              rintro e we ⟨rfl, hg⟩
              exact hK _ _ hg rfl
            · intro s ww hE hs hl K hK
              have h23 : s 23 = .bool false := hs 23 (by kernel_rfl)
              have h34 : s 34 = .bool i2 := hs 34 (by kernel_rfl)
              have h20 : s 20 = .bool true := hs 20 (by kernel_rfl)
              clear hs hl
              simp only [frameM, fillM, Nat.reduceAdd, Act.put, List.setIfInBounds_toArray, List.set_cons_succ, List.set_cons_zero, h23, h34, h20] at hK ⊢
              go_simp
              exact hK _ _ (Below.refl _ _) rfl
            · intro s ww hE hs hl K hK
              have h20 : s 20 = .bool true := hs 20 (by kernel_rfl)
              have h35 : s 35 = .bool i2 := hs 35 (by kernel_rfl)
              clear hs hl
              simp only [frameM, fillM, Nat.reduceAdd, Act.put, List.setIfInBounds_toArray, List.set_cons_succ, List.set_cons_zero, h20, h35] at hK ⊢
              go_simp
              exact hK _ _ (Below.refl _ _) rfl
          · intro s ww hE hs
            have h36 : s 36 = .bool i2 := hs 36 (by kernel_rfl)
            clear hs
            simp only [frameM, fillM, Nat.reduceAdd]
            simp only [h36]
            clear h36
            have HB := Lib.hid (HB0.out.trans (hE.mono HB0.out.size))
            clear hE
            cases i2
            · go_wp2
              go_roundw
              case rel => exact ⟨i + 1, some (k, (yk, yv)), by go_num, hin, HN2.out, rfl, HB.out⟩
              case measure => simp [Lib.intOf]; omega
            · go_wp2
              go_roundw
              case rel => exact ⟨i + 1, some (i, (xk, xv)), by go_num, hin, HN2.out, rfl, HB.out⟩
              case measure => simp [Lib.intOf]; omega
      · have hi0 : inB p xk = false := by simpa using hi1
        rw [hi0] at HT
        have HN2 := Lib.hid (find_skip HFA.out HX.out hi0)
        clear hi1 hi0
        generalize hbe : findI b = be at *
        have HBE := Lib.hid hbe
        clear hbe
        go_upto_region 5 with (fail)
        refine wp_region_facts (by kernel_rfl) [(13, Fact.is (.string p)), (14, Fact.is (.slice (some ⟨bb, o, none⟩) n c)), (15, Fact.is (.int .i64 (i : Int))), (16, Fact.is (.pointer (some ⟨bb, o + i * 2, none⟩))), (17, Fact.is (.pointer (some ⟨bb, o + i * 2, none⟩))), (18, Fact.is (.string xk)), (19, Fact.is (.bool false)), (20, Fact.is (.bool false)), (21, Fact.is (undef)), (22, Fact.is (undef)), (23, Fact.is (undef)), (24, Fact.is (undef)), (25, Fact.is (undef)), (26, Fact.is (undef)), (27, Fact.is (undef)), (28, Fact.is (undef)), (29, Fact.is (undef)), (30, Fact.is (undef)), (31, Fact.is (undef)), (32, Fact.is (undef)), (33, Fact.is (undef)), (34, Fact.is (undef)), (35, Fact.is (undef)), (36, Fact.is (.bool false))] [false, false, false, false, false, false, false, false, false, false, false, false, false, true, true, true, true, true, true, true, true, true, true, true, true, true, true, true, true, true, true, true, true, true, true, true, true, false, false] (by kernel_rfl) (by kernel_rfl) ?_ ?_
        · refine ⟨?_, ?_, ?_, ?_, ?_, ?_, ?_, ?_, ?_, ?_, ?_, ?_, ?_, ?_, ?_, ?_, ?_, ?_, ?_, ?_, ?_, ?_, ?_, ?_, trivial⟩
          · intro s ww hE hs hl K hK
            clear hs hl
            simp only [frameM, fillM, Nat.reduceAdd, Act.put, List.setIfInBounds_toArray, List.set_cons_succ, List.set_cons_zero] at hK ⊢
            go_simp
            exact hK _ _ (Below.refl _ _) rfl
          · intro s ww hE hs hl K hK
            clear hs hl
            simp only [frameM, fillM, Nat.reduceAdd, Act.put, List.setIfInBounds_toArray, List.set_cons_succ, List.set_cons_zero] at hK ⊢
            go_simp
            exact hK _ _ (Below.refl _ _) rfl
          · intro s ww hE hs hl K hK
            clear hs hl
            simp only [frameM, fillM, Nat.reduceAdd, Act.put, List.setIfInBounds_toArray, List.set_cons_succ, List.set_cons_zero] at hK ⊢
            go_simp
            exact hK _ _ (Below.refl _ _) rfl
          · intro s ww hE hs hl K hK
            have h14 : s 14 = .slice (some ⟨bb, o, none⟩) n c := hs 14 (by kernel_rfl)
            have h15 : s 15 = .int .i64 (i : Int) := hs 15 (by kernel_rfl)
            clear hs hl
            simp only [frameM, fillM, Nat.reduceAdd, Act.put, List.setIfInBounds_toArray, List.set_cons_succ, List.set_cons_zero, h14, h15] at hK ⊢
            go_simp
            exact hK _ _ (Below.refl _ _) rfl
          · intro s ww hE hs hl K hK
            have h16 : s 16 = .pointer (some ⟨bb, o + i * 2, none⟩) := hs 16 (by kernel_rfl)
            clear hs hl
            simp only [frameM, fillM, Nat.reduceAdd, Act.put, List.setIfInBounds_toArray, List.set_cons_succ, List.set_cons_zero, h16] at hK ⊢
            go_simp
            exact hK _ _ (Below.refl _ _) rfl
          · intro s ww hE hs hl K hK
            have h17 : s 17 = .pointer (some ⟨bb, o + i * 2, none⟩) := hs 17 (by kernel_rfl)
            clear hs hl
            have cq := (hE.cell (p := _) hbw).trans z0
            simp only [frameM, fillM, Nat.reduceAdd, Act.put, List.setIfInBounds_toArray, List.set_cons_succ, List.set_cons_zero, h17] at hK ⊢
            go_simp
            exact hK _ _ (Below.refl _ _) rfl
          · intro s ww hE hs hl K hK
            have h13 : s 13 = .string p := hs 13 (by kernel_rfl)
            have h18 : s 18 = .string xk := hs 18 (by kernel_rfl)
            clear hs hl
            simp only [frameM, fillM, Nat.reduceAdd, Act.put, List.setIfInBounds_toArray, List.set_cons_succ, List.set_cons_zero, h13, h18] at hK ⊢
            go_simp
            go_at_call 30
            refine (HT.out ww).mono ?_
            rintro e we ⟨rfl, hg⟩
            exact hK _ _ hg rfl
          · intro s ww hE hs hl K hK
            have h19 : s 19 = .bool false := hs 19 (by kernel_rfl)
            clear hs hl
            simp only [frameM, fillM, Nat.reduceAdd, Act.put, List.setIfInBounds_toArray, List.set_cons_succ, List.set_cons_zero, h19] at hK ⊢
            go_simp
            exact hK _ _ (Below.refl _ _) rfl
          · intro s ww hE hs hl K hK
            have h20 : s 20 = .bool false := hs 20 (by kernel_rfl)
            clear hs hl
            simp only [frameM, fillM, Nat.reduceAdd, Act.put, List.setIfInBounds_toArray, List.set_cons_succ, List.set_cons_zero, h20] at hK ⊢
            go_simp
            exact hK _ _ (Below.refl _ _) rfl
          · intro s ww hE hs hl K hK
            have h21 : s 21 = undef := hs 21 (by kernel_rfl)
            have h20 : s 20 = .bool false := hs 20 (by kernel_rfl)
            clear hs hl
            simp only [frameM, fillM, Nat.reduceAdd, Act.put, List.setIfInBounds_toArray, List.set_cons_succ, List.set_cons_zero, h21, h20] at hK ⊢
            go_simp
            exact hK _ _ (Below.refl _ _) rfl
          · intro s ww hE hs hl K hK
            have h22 : s 22 = undef := hs 22 (by kernel_rfl)
            have h20 : s 20 = .bool false := hs 20 (by kernel_rfl)
            clear hs hl
            simp only [frameM, fillM, Nat.reduceAdd, Act.put, List.setIfInBounds_toArray, List.set_cons_succ, List.set_cons_zero, h22, h20] at hK ⊢
            go_simp
            exact hK _ _ (Below.refl _ _) rfl
          · intro s ww hE hs hl K hK
            have h23 : s 23 = undef := hs 23 (by kernel_rfl)
            clear hs hl
            simp only [frameM, fillM, Nat.reduceAdd, Act.put, List.setIfInBounds_toArray, List.set_cons_succ, List.set_cons_zero, h23] at hK ⊢
            go_simp
            exact hK _ _ (Below.refl _ _) rfl
          · intro s ww hE hs hl K hK
            have h23 : s 23 = undef := hs 23 (by kernel_rfl)
            clear hs hl
            simp only [frameM, fillM, Nat.reduceAdd, Act.put, List.setIfInBounds_toArray, List.set_cons_succ, List.set_cons_zero, h23] at hK ⊢
            go_simp
            exact hK _ _ (Below.refl _ _) rfl
          · intro s ww hE hs hl K hK
            have h24 : s 24 = undef := hs 24 (by kernel_rfl)
            have h25 : s 25 = undef := hs 25 (by kernel_rfl)
            have h23 : s 23 = undef := hs 23 (by kernel_rfl)
            clear hs hl
            simp only [frameM, fillM, Nat.reduceAdd, Act.put, List.setIfInBounds_toArray, List.set_cons_succ, List.set_cons_zero, h24, h25, h23] at hK ⊢
            go_simp
            exact hK _ _ (Below.refl _ _) rfl
          · intro s ww hE hs hl K hK
            have h26 : s 26 = undef := hs 26 (by kernel_rfl)
            have h23 : s 23 = undef := hs 23 (by kernel_rfl)
            clear hs hl
            simp only [frameM, fillM, Nat.reduceAdd, Act.put, List.setIfInBounds_toArray, List.set_cons_succ, List.set_cons_zero, h26, h23] at hK ⊢
            go_simp
            exact hK _ _ (Below.refl _ _) rfl
          · intro s ww hE hs hl K hK
            have h27 : s 27 = undef := hs 27 (by kernel_rfl)
            have h23 : s 23 = undef := hs 23 (by kernel_rfl)
            clear hs hl
            simp only [frameM, fillM, Nat.reduceAdd, Act.put, List.setIfInBounds_toArray, List.set_cons_succ, List.set_cons_zero, h27, h23] at hK ⊢
            go_simp
            exact hK _ _ (Below.refl _ _) rfl
          · intro s ww hE hs hl K hK
            have h23 : s 23 = undef := hs 23 (by kernel_rfl)
            clear hs hl
            simp only [frameM, fillM, Nat.reduceAdd, Act.put, List.setIfInBounds_toArray, List.set_cons_succ, List.set_cons_zero, h23] at hK ⊢
            go_simp
            exact hK _ _ (Below.refl _ _) rfl
          · intro s ww hE hs hl K hK
            have h23 : s 23 = undef := hs 23 (by kernel_rfl)
            clear hs hl
            simp only [frameM, fillM, Nat.reduceAdd, Act.put, List.setIfInBounds_toArray, List.set_cons_succ, List.set_cons_zero, h23] at hK ⊢
            go_simp
            exact hK _ _ (Below.refl _ _) rfl
          · intro s ww hE hs hl K hK
            have h29 : s 29 = undef := hs 29 (by kernel_rfl)
            have h30 : s 30 = undef := hs 30 (by kernel_rfl)
            have h23 : s 23 = undef := hs 23 (by kernel_rfl)
            clear hs hl
            simp only [frameM, fillM, Nat.reduceAdd, Act.put, List.setIfInBounds_toArray, List.set_cons_succ, List.set_cons_zero, h29, h30, h23] at hK ⊢
            go_simp
            exact hK _ _ (Below.refl _ _) rfl
          · intro s ww hE hs hl K hK
            have h31 : s 31 = undef := hs 31 (by kernel_rfl)
            have h23 : s 23 = undef := hs 23 (by kernel_rfl)
            clear hs hl
            simp only [frameM, fillM, Nat.reduceAdd, Act.put, List.setIfInBounds_toArray, List.set_cons_succ, List.set_cons_zero, h31, h23] at hK ⊢
            go_simp
            exact hK _ _ (Below.refl _ _) rfl
          · intro s ww hE hs hl K hK
            have h32 : s 32 = undef := hs 32 (by kernel_rfl)
            have h23 : s 23 = undef := hs 23 (by kernel_rfl)
            clear hs hl
            simp only [frameM, fillM, Nat.reduceAdd, Act.put, List.setIfInBounds_toArray, List.set_cons_succ, List.set_cons_zero, h32, h23] at hK ⊢
            go_simp
            exact hK _ _ (Below.refl _ _) rfl
          · intro s ww hE hs hl K hK
            have h28 : s 28 = undef := hs 28 (by kernel_rfl)
            have h33 : s 33 = undef := hs 33 (by kernel_rfl)
            have h23 : s 23 = undef := hs 23 (by kernel_rfl)
            clear hs hl
            simp only [frameM, fillM, Nat.reduceAdd, Act.put, List.setIfInBounds_toArray, List.set_cons_succ, List.set_cons_zero, h28, h33, h23] at hK ⊢
            go_simp
            exact hK _ _ (Below.refl _ _) rfl
          · intro s ww hE hs hl K hK
            have h23 : s 23 = undef := hs 23 (by kernel_rfl)
            have h34 : s 34 = undef := hs 34 (by kernel_rfl)
            have h20 : s 20 = .bool false := hs 20 (by kernel_rfl)
            clear hs hl
            simp only [frameM, fillM, Nat.reduceAdd, Act.put, List.setIfInBounds_toArray, List.set_cons_succ, List.set_cons_zero, h23, h34, h20] at hK ⊢
            go_simp
            exact hK _ _ (Below.refl _ _) rfl
          · intro s ww hE hs hl K hK
            have h20 : s 20 = .bool false := hs 20 (by kernel_rfl)
            have h35 : s 35 = undef := hs 35 (by kernel_rfl)
            clear hs hl
            simp only [frameM, fillM, Nat.reduceAdd, Act.put, List.setIfInBounds_toArray, List.set_cons_succ, List.set_cons_zero, h20, h35] at hK ⊢
            go_simp
            exact hK _ _ (Below.refl _ _) rfl
        · intro s ww hE hs
          have h36 : s 36 = .bool false := hs 36 (by kernel_rfl)
          clear hs
          simp only [frameM, fillM, Nat.reduceAdd]
          simp only [h36]
          clear h36
          have HB := Lib.hid (HB0.out.trans (hE.mono HB0.out.size))
          clear hE
          go_wp2
          go_roundw
          case rel => exact ⟨i + 1, b, by go_num, hin, HN2.out, by rw [HBE.out], HB.out⟩
          case measure => simp [Lib.intOf]; omega
    · obtain rfl : i = n := by omega
      have hq1 : ¬ (i : Int) < (i : Int) := by omega
      go_wp2
      go_ret
      exact ⟨⟨b, HFA.out, rfl⟩, HB0.out⟩
-- END find
theorem rparse_ok (s : ByteArray) (m : List PStep) (w : World) (hm : parseM s = .ok m) (hs : s.size ≤ 140737488355328) :
    Calls Tryz.prog 25 #[.string s] w fun en w' => Below w.heap.size w w' ∧ ∃ (A : Option Addr) (c : Nat) (vs : List Value), en = .returned (.tuple #[.slice A m.length c, .agg #[.int .i64 0, .int .i64 0]]) ∧ StepsIn w' w.heap.size (.slice A m.length c) m vs ∧ m.length ≤ c ∧ c ≤ maxLen :=
  (rparse_any s w hs).mono fun en w' h => by
    obtain ⟨hB, ⟨x, y, hE, rfl⟩ | ⟨l, v, hE, rfl, vs, hI⟩⟩ := h
    · rw [hm] at hE; cases hE
    · rw [hm] at hE
      cases hE
      obtain ⟨A, c, rfl, h1, h2, -⟩ := own_form hI.2.1
      exact ⟨hB, A, c, vs, rfl, hI, h1, h2⟩
theorem own_keys_l {w : World} {base : Nat} {v : Value} {ks : List PKey} (h : w.ownsRow base 33 2 v ks.length (pairCells ks)) : KeysAt w w.heap.size v ks := by
  obtain ⟨A', c', rfl, a, b, hr⟩ := own_form h
  exact ⟨A', c', rfl, a, b, hr⟩
/-- Steps that Lead puts together: each one's keys stand below, or are a row of their own. -/
def OutAt (B : Nat) (w0 : World) (L : List PStep) (VS : List Value) (v : Value) (wr : World) : Prop :=
  VS.length = L.length ∧ wr.ownsRow B 70 2 v L.length (stepCells L VS) ∧ (∀ (i : Nat) (st : PStep) (kv : Value), L[i]? = some st → VS[i]? = some kv → KeysAt w0 B kv st.2 ∨ wr.ownsRow B 33 2 kv st.2.length (pairCells st.2)) ∧ Below B w0 wr ∧ B ≤ wr.heap.size
theorem OutAt.reads {B : Nat} {w0 : World} {L : List PStep} {VS : List Value} {v : Value} {wr : World} (h : OutAt B w0 L VS v wr) : StepsR wr v L VS := by
  obtain ⟨h1, h2, h3, h4, h5⟩ := h
  obtain ⟨A, c, rfl, a, b, hr⟩ := own_form h2
  refine ⟨A, c, rfl, a, b, hr, h1, fun i st kv hi hj => ?_⟩
  rcases h3 i st kv hi hj with h | h
  · exact h.more h4 h5
  · exact own_keys_l h
theorem OutAt.start {B : Nat} {w0 w1 : World} {m : List PStep} {vs : List Value} {v : Value} (h : StepsIn w1 B v m vs) (hb : Below B w0 w1) (hB : B ≤ w1.heap.size) : OutAt B w0 m vs v w1 :=
  ⟨h.1, h.2.1, fun i st kv hi hj => .inr (h.2.2.1 i st kv hi hj), hb, hB⟩
theorem OutAt.alloc {B : Nat} {w0 : World} {L : List PStep} {VS : List Value} {v : Value} {wr : World} (h : OutAt B w0 L VS v wr) (o : Obj) : OutAt B w0 L VS v (wr.alloc o) := by
  obtain ⟨h1, h2, h3, h4, h5⟩ := h
  exact ⟨h1, h2.alloc o, fun i st kv hi hj => (h3 i st kv hi hj).imp id (·.alloc o), h4.alloc h5 o, by simp; omega⟩
theorem OutAt.push {B : Nat} {w0 : World} {L : List PStep} {VS : List Value} {v v5 kv : Value} {wr w5 : World} {st : PStep} (h : OutAt B w0 L VS v wr) (hk : KeysAt w0 B kv st.2) (hg : wr.grownBy w5 v.ownBlock) (hown : w5.ownsRow B 70 2 v5 (L.length + 1) (stepCells L VS ++ [.string st.1, kv])) : OutAt B w0 (L ++ [st]) (VS ++ [kv]) v5 w5 := by
  obtain ⟨h1, h2, h3, h4, h5⟩ := h
  refine ⟨by simp [h1], ?_, fun i st' kv' hi hj => ?_, h4.grown hg h5 (fun k hk => (h2.lt k hk).1), Nat.le_trans h5 hg.size⟩
  · rw [stepCells_append L VS st kv h1]
    simpa using hown
  · by_cases hlt : i < L.length
    · rw [List.getElem?_append_left hlt] at hi
      rw [List.getElem?_append_left (by omega)] at hj
      refine (h3 i st' kv' hi hj).imp id fun hr => hr.kept hg ?_
      cases hkb : kv'.ownBlock with
      | none => exact .inl rfl
      | some k => exact .inr fun e => own_other hr h2 (by decide) k hkb e.symm
    · have hx := (List.getElem?_eq_some_iff.1 hi).1
      simp only [List.length_append, List.length_cons, List.length_nil] at hx
      obtain rfl : i = L.length := by omega
      rw [List.getElem?_append_right (Nat.le_refl _)] at hi
      rw [List.getElem?_append_right (by omega)] at hj
      simp only [Nat.sub_self, List.getElem?_cons_zero, Option.some.injEq] at hi
      rw [h1] at hj
      simp only [Nat.sub_self, List.getElem?_cons_zero, Option.some.injEq] at hj
      subst hi hj
      exact .inl hk
theorem take_drop_next {α : Type} {l : List α} {i n : Nat} {x : α} (h : l[i]? = some x) (hn : n ≤ i) : (l.take (i + 1)).drop n = (l.take i).drop n ++ [x] := by
  have hi := (List.getElem?_eq_some_iff.1 h).1
  rw [List.take_add_one, h, Option.toList, List.drop_append_of_le_length (by rw [List.length_take]; omega)]
-- BEGIN lead
set_option maxHeartbeats 16000000 in
set_option maxRecDepth 100000 in
theorem rlead_any (v : Value) (l : List PKey) (p : ByteArray) (w : World) (h : KeysAt w w.heap.size v l) (hF : ∀ x ∈ l, FineP x) (hp : p.size ≤ 140737488355328) (hn : l.length ≤ 1000) :
    Calls Tryz.prog 14 #[v, .string p] w (ALeadPost l p w) := by
  have HFI := Lib.hid (rfind_any v l p w h hF hp hn)
  obtain ⟨A, c, rfl, hc1, hc2, hR⟩ := h
  unfold maxLen at hc2
  have HRD := Lib.hid hR
  have HF := Lib.hid hF
  have HP := Lib.hid hp
  unfold RFindPost at HFI
  obtain ⟨n, hN⟩ : ∃ n, l.length = n := ⟨_, rfl⟩
  rw [hN] at hc1 hn HRD HFI ⊢
  have HN := Lib.hid hN
  have hn1 : (n : Int) ≤ 1000 := by omega
  clear hR hF hp hN
  go_enter Tryz.func14, Tryz.ntmps14
  go_wp2_with fail
  refine HFI.out.mono ?_
  rintro en w1 ⟨⟨b, hb, rfl⟩, hB1⟩
  have HB1 := Lib.hid hB1
  have HBA := Lib.hid hb
  clear hb hB1 HFI
  cases b with
  | none =>
    simp only [findI]
    have HBE := Lib.hid (show BestIs l p none from by
      have h2 : BestIs (l.take n) p none := HBA.out
      rw [List.take_of_length_le (by rw [HN.out]; exact Nat.le_refl _)] at h2
      exact h2)
    go_wp2
    go_ret2
    exact ⟨HB1.out, .inr ⟨HBE.out, rfl⟩⟩
  | some k =>
    obtain ⟨k, xk, xv⟩ := k
    simp only [findI]
    have hkn : k < n := HBA.out.1
    have HKX := Lib.hid (show l[k]? = some (xk, xv) from HBA.out.2.1)
    have HBE := Lib.hid (show BestIs l p (some (xk, xv)) from by
      have h2 := HBA.out.2.2
      rw [List.take_of_length_le (by rw [HN.out]; exact Nat.le_refl _)] at h2
      exact h2)
    have HFX := Lib.hid (HF.out _ (List.mem_of_getElem? HKX.out))
    have hq1 : (k : Int) < (n : Int) := by omega
    have hq2 : ¬ (k : Int) < 0 := by omega
    have hq3 : (0 : Int) ≤ (k : Int) := by omega
    obtain ⟨pl, gl, hpl, hgl, htk⟩ := inB_ok.1 HBE.out.2.1
    obtain ⟨vl, hvl⟩ := rightB_ok.1 HFX.out.2.1
    have HLD := Lib.hid (show leadA (xk, xv) p = putM (vl ++ pl.drop gl.length) from by
      unfold leadA
      rw [hpl, hgl, hvl])
    have HSP := Lib.hid (parseM_small hpl)
    have HSV := Lib.hid (parseM_small hvl)
    have hs1 := right_size HFX.out.1
    have hs2 := right_size HFX.out.2.1
    simp only at hs1 hs2
    have HC1 := Lib.hid (fun W => rparse_ok p pl W hpl HP.out)
    have HC2 := Lib.hid (fun W => rparse_ok xk gl W hgl (by omega))
    have HC3 := Lib.hid (fun W => rparse_ok xv vl W hvl (by omega))
    have hgp : gl.length ≤ pl.length := by
      have := congrArg List.length htk
      rw [List.length_take] at this
      omega
    have hp64 : (pl.length : Int) ≤ 64 := by have := HSP.out.2.1; omega
    have hv64 : (vl.length : Int) ≤ 64 := by have := HSV.out.2.1; omega
    clear htk hpl hgl hvl
    obtain ⟨bb, o, rfl, hbb, hcl⟩ := HRD.out.spot (by omega) (by omega)
    have hat := pairCells_at l k _ HKX.out
    have HCC := Lib.hid (fun (X : World) (hX : Below w.heap.size w X) => show X.cell? ⟨bb, o + k * 2, none⟩ = some (.string xk) ∧ X.cell? ⟨bb, o + k * 2 + 1, none⟩ = some (.string xv) from
      ⟨(hX.cell (p := ⟨bb, o + k * 2, none⟩) hbb).trans (hcl _ _ hat.1), (hX.cell (p := ⟨bb, o + k * 2 + 1, none⟩) hbb).trans (hcl _ _ hat.2)⟩)
    clear hat hcl hbb
    go_wp2_with fail
    refine (HC1.out _).mono ?_
    rintro en w2 ⟨hb2, A1, c1, vs1, rfl, hI1, hd1, hd2⟩
    have HB3 := Lib.hid ((HB1.out.trans (hb2.mono HB1.out.size)).alloc (Nat.le_trans HB1.out.size hb2.size) (.cells #[.int .i64 0, .int .i64 0] 43))
    have HS3 := Lib.hid (hI1.reads.more ((Below.refl _ w2).alloc (Nat.le_refl _) (.cells #[.int .i64 0, .int .i64 0] 43)))
    unfold maxLen at hd2
    obtain ⟨z0, z1⟩ := HCC.out _ HB3.out
    clear hb2 hI1
    go_upto_region 5 with (fail)
    generalize w2.alloc (.cells #[.int .i64 0, .int .i64 0] 43) = w3 at *
    go_wp2_with fail
    refine (HC2.out _).mono ?_
    rintro en w4 ⟨hb4, A2, c2, vs2, rfl, -, he1, he2⟩
    have HB5 := Lib.hid ((HB3.out.trans (hb4.mono HB3.out.size)).alloc (Nat.le_trans HB3.out.size hb4.size) (.cells #[.int .i64 0, .int .i64 0] 43))
    have HS5 := Lib.hid ((HS3.out.more hb4).more ((Below.refl _ w4).alloc (Nat.le_refl _) (.cells #[.int .i64 0, .int .i64 0] 43)))
    clear hb4 z0 z1
    obtain ⟨y0, y1⟩ := HCC.out _ HB5.out
    go_upto_region 6 with (fail)
    generalize w4.alloc (.cells #[.int .i64 0, .int .i64 0] 43) = w5 at *
    go_wp2_with fail
    refine (HC3.out _).mono ?_
    rintro en w6 ⟨hb6, A3, c3, vs3, rfl, hI3, hf1, hf2⟩
    have HB7 := Lib.hid ((HB5.out.trans (hb6.mono HB5.out.size)).alloc (Nat.le_trans HB5.out.size hb6.size) (.cells #[.int .i64 0, .int .i64 0] 43))
    have HO7 := Lib.hid ((OutAt.start hI3 hb6 hb6.size).alloc (.cells #[.int .i64 0, .int .i64 0] 43))
    clear hb6 hI3 y0 y1
    go_upto_region 7 with (fail)
    generalize w6.alloc (.cells #[.int .i64 0, .int .i64 0] 43) = w7 at *
    obtain ⟨i0, hi0, hz0, hz1, hz2⟩ := info_parts stepz_info
    have HRD5 := Lib.hid (show Reads w5 w5.heap.size 2 A1 pl.length (stepCells pl vs1) from by obtain ⟨A', c', e, _, _, h, _⟩ := HS5.out; cases e; exact h)
    have HL5 := Lib.hid (show vs1.length = pl.length from by obtain ⟨_, _, _, _, _, _, h, _⟩ := HS5.out; exact h)
    have HST := Lib.hid (show vl = vl ++ (pl.take gl.length).drop gl.length from by rw [List.drop_of_length_le (by rw [List.length_take]; omega), List.append_nil])
    go_wp2
    go_loopw [11, 13] (fun ov iv wr => ∃ (i : Nat) (L : List PStep) (VS : List Value), iv = .int .i64 (i : Int) ∧ gl.length ≤ i ∧ i ≤ pl.length ∧ L = vl ++ (pl.take i).drop gl.length ∧ OutAt w5.heap.size w5 L VS ov wr) (fun _ iv _ => pl.length - (Lib.intOf iv).toNat)
    case atStart => exact ⟨gl.length, vl, vs3, rfl, Nat.le_refl _, hgp, HST.out, HO7.out⟩
    case round =>
      obtain ⟨i, L, VS, rfl, hgi, hip, hL, hO⟩ := hrel
      obtain ⟨A7, c7, rfl, -, -, -⟩ := own_form hO.2.1
      have HL := Lib.hid hL
      have HO := Lib.hid hO
      have hLl : L.length ≤ 128 := by
        rw [hL, List.length_append, List.length_drop, List.length_take]
        have := HSP.out.2.1
        have := HSV.out.2.1
        omega
      have hLi : (L.length : Int) ≤ 128 := by omega
      clear hL hO
      by_cases hin : i < pl.length
      · have hq5 : (i : Int) < (pl.length : Int) := by omega
        have hq6 : (0 : Int) ≤ (i : Int) := by omega
        obtain ⟨st, hst⟩ : ∃ st, pl[i]? = some st := ⟨pl[i]'hin, by simp [hin]⟩
        obtain ⟨kv, hkv⟩ : ∃ kv, vs1[i]? = some kv := ⟨vs1[i]'(by rw [HL5.out]; exact hin), by simp [HL5.out, hin]⟩
        have HKV := Lib.hid (show KeysAt w5 w5.heap.size kv st.2 from by obtain ⟨_, _, _, _, _, _, _, h⟩ := HS5.out; exact h i _ kv hst hkv)
        obtain ⟨Ak, ck, rfl, -, -, -⟩ := HKV.out
        obtain ⟨b5, o5, hA, hb5, hcells⟩ := HRD5.out.spot (by omega) (by omega)
        cases hA
        have hat := stepCells_at pl vs1 i st _ hst hkv
        have r0 : wr.cell? ⟨b5, o5 + i * 2, none⟩ = some (.string st.1) := (HO.out.2.2.2.1.cell (p := ⟨b5, o5 + i * 2, none⟩) hb5).trans (hcells _ _ hat.1)
        have r1 : wr.cell? ⟨b5, o5 + i * 2 + 1, none⟩ = some (.slice Ak st.2.length ck) := (HO.out.2.2.2.1.cell (p := ⟨b5, o5 + i * 2 + 1, none⟩) hb5).trans (hcells _ _ hat.2)
        have HNX := Lib.hid (show L ++ [st] = vl ++ (pl.take (i + 1)).drop gl.length from by rw [take_drop_next hst hgi, HL.out, List.append_assoc])
        have HPU := Lib.hid (fun (v5 : Value) (W5 : World) => (HO.out.alloc (.cells #[.string st.1, .slice Ak st.2.length ck] 70)).push (v5 := v5) (w5 := W5) (st := st) HKV.out)
        have HAL := Lib.hid ((HO.out.alloc (.cells #[.string st.1, .slice Ak st.2.length ck] 70)).2.1)
        have HAB := Lib.hid ((HO.out.alloc (.cells #[.string st.1, .slice Ak st.2.length ck] 70)).2.2.2.2)
        generalize st.2.length = mk at *
        generalize st.1 = nm at *
        have HAR := Lib.hid (reads_new wr #[.string nm, .slice Ak mk ck] 70 2 1 rfl)
        clear hat hcells hst hkv HKV
        go_wp2_with (at_builtin; go_loud (refine wpList_append_any _ rfl (.tmp 52) (.tmp 57) _ rfl w5.heap.size 70 i0 _ 2 40 Tryz.underlying59 hi0 hz0 hz1 hz2 rfl (by omega) _ L.length (stepCells L VS) rfl HAL.out (wr.heap.size + 1) (some ⟨wr.heap.size, 0, none⟩) 1 1 [.string nm, .slice Ak mk ck] rfl HAR.out (by simp [Value.oneCell']) (by simp only [maxLen]; omega) (by omega) HAB.out ?_); intro v8 w8 hown8 hg8 hat8; have HO8 := Lib.hid (HPU.out v8 w8 hg8 hown8); clear hown8 hg8 hat8)
        go_roundw
        case rel => exact ⟨i + 1, _, _, by go_num, by omega, hin, HNX.out, HO8.out⟩
        case measure => simp [Lib.intOf]; omega
      · obtain rfl : i = pl.length := by omega
        have hq5 : ¬ (pl.length : Int) < (pl.length : Int) := by omega
        have HBW := Lib.hid (HB5.out.trans (HO.out.2.2.2.1.mono HB5.out.size))
        have HPR := Lib.hid (rprint_any _ L VS wr HO.out.reads (fun st hs => by
          rw [HL.out] at hs
          rcases List.mem_append.1 hs with h | h
          · exact (HSV.out.1 st h).small
          · exact (HSP.out.1 st (List.mem_of_mem_take (List.mem_of_mem_drop h))).small) (by omega))
        have HX := Lib.hid (show putM L = leadA (xk, xv) p from by rw [HLD.out, HL.out, List.take_length])
        unfold PutPost at HPR
        rw [HX.out] at HPR
        generalize hr : leadA (xk, xv) p = R at *
        have HRR := Lib.hid hr
        clear hr
        generalize hps : putS R = PS at *
        generalize hpe : putE R = PE at *
        have HPS := Lib.hid (And.intro hps hpe)
        clear hps hpe
        go_wp2_with fail
        refine HPR.out.mono ?_
        rintro en w9 ⟨rfl, hb9⟩
        have HB9 := Lib.hid (HBW.out.trans (hb9.mono HBW.out.size))
        clear hb9
        go_wp2
        go_ret2
        refine ⟨HB9.out, .inl ⟨(xk, xv), HBE.out, ?_⟩⟩
        rw [HRR.out, HPS.out.1, HPS.out.2]
        rfl
-- END lead
end Go.Proofs.YtkfofdmcggoonaaGreatDoor
