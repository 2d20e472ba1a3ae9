/-
  A slice of pairs of texts that came in, as a list of pairs. No condition.
-/
import Derived.Test.YtkfofdmcggoonaaGreatDoorStructs
import Derived.Test.YtkfofdmcggoonaaGreatDoorPathMay
import Derived.SizedLaws
set_option linter.unusedVariables false
set_option linter.unusedSimpArgs false
namespace Go.Proofs.YtkfofdmcggoonaaGreatDoor
open Go.RowKit Go.ChangeShapes Go.WideShapes Go.Deep

theorem pairCells_inv : ∀ (ps : List PKey) (j : Nat) (u : Value), (pairCells ps)[j]? = some u → ∃ i, i < ps.length ∧ ((j = i * 2 ∧ u = .string (ps.getD i (ByteArray.empty, ByteArray.empty)).1) ∨ (j = i * 2 + 1 ∧ u = .string (ps.getD i (ByteArray.empty, ByteArray.empty)).2))
  | [], j, u, h => by simp [pairCells] at h
  | p :: ps, j, u, h => by
    have hc : pairCells (p :: ps) = .string p.1 :: .string p.2 :: pairCells ps := by simp [pairCells]
    rw [hc] at h
    match j, h with
    | 0, h => exact ⟨0, by simp, .inl ⟨rfl, by simpa using h.symm⟩⟩
    | 1, h => exact ⟨0, by simp, .inr ⟨rfl, by simpa using h.symm⟩⟩
    | j + 2, h =>
      obtain ⟨i, hi, hx⟩ := pairCells_inv ps j u (by simpa using h)
      refine ⟨i + 1, by simpa using hi, ?_⟩
      rcases hx with ⟨rfl, e⟩ | ⟨rfl, e⟩
      · exact .inl ⟨by omega, by simpa using e⟩
      · exact .inr ⟨by omega, by simpa using e⟩
theorem weightsAll_mem {H : Type} {P : Program} {e : TypeId} {n : Nat} {d : DataW H} (hn : n ∈ d.weights P e) : ∀ (l : List (DataW H)), d ∈ l → n ∈ DataW.weightsAll P e l
  | [], h => by cases h
  | x :: l, h => by
    simp only [DataW.weightsAll, List.mem_append]
    rcases List.mem_cons.1 h with rfl | h
    · exact .inl hn
    · exact .inr (weightsAll_mem hn l h)
/-- A slice of pairs of texts that came in. -/
theorem keys_of_trod {H : Type} {enc : TypeId × Value → H} {P : Program} {w : World} {b0 : Nat} {t e : TypeId} {f1 f2 : Field} {v : Value} {d : DataW H} {p : List MemPlace}
    (ht : P.underlying t = some (.slice e)) (he : P.underlying e = some (.struct #[f1, f2])) (hone : oneCellFields P #[f1, f2] = true) (hC : P.cellsOf e = 2) (hby : P.bytesOf e = 32)
    (h1 : P.underlying f1.type = some .string) (h2 : P.underlying f2.type = some .string) (hwt : ∀ n ∈ d.weights P t, n ≤ 140737488351232)
    (hv : Value.okWide P w .any b0 t v) (h : DataW.Trod enc P w 0 (fun _ => true) true t v d p) :
    ∃ (l : List PKey), KeysAt w w.heap.size v l ∧ (∀ x ∈ l, x.1.size ≤ 140737488351232 ∧ x.2.size ≤ 140737488351232) ∧ l.length * 32 ≤ 140737488351232 := by
  obtain ⟨a, len, cap, rfl⟩ := okWide_slice ht hv
  obtain ⟨fuel, hf⟩ := h
  rcases open_slice_fields ht he hone hC hf with ⟨hcs, _⟩ | ⟨x, l, c, m, D, Pl, hcs, _, hl, hm, hmm, hx, hi⟩
  · simp [Value.cells] at hcs
    obtain ⟨rfl, rfl, rfl⟩ := hcs
    exact ⟨[], ⟨none, 0, rfl, by simp, by simp [maxLen], Reads.none_⟩, by simp, by simp⟩
  · simp [Value.cells] at hcs
    obtain ⟨rfl, rfl, rfl⟩ := hcs
    have hmm' : m = cap := by simpa using hmm
    subst hmm'
    simp only [Prod.mk.injEq] at hx
    have hcell : ∀ i, i < m → ∃ q : PKey, w.cell? (x.add (i * 2)) = some (.string q.1) ∧ w.cell? (x.add (i * 2 + 1)) = some (.string q.2) ∧ (i < len → q.1.size ≤ 140737488351232 ∧ q.2.size ≤ 140737488351232) := by
      intro i him
      obtain ⟨ys, n, hD, _, hyl, hfs⟩ := hi i him
      obtain ⟨v1, y1, hc1, hy1, ht1⟩ := hfs 0 f1 rfl
      obtain ⟨v2, y2, hc2, hy2, ht2⟩ := hfs 1 f2 rfl
      obtain ⟨n1, e1, w1, -⟩ := DataW.trod_string h1 ht1
      obtain ⟨n2, e2, w2, -⟩ := DataW.trod_string h2 ht2
      simp only [List.cons.injEq, and_true] at e1 e2
      subst e1; subst e2; subst w1; subst w2
      refine ⟨(n1, n2), by simpa using hc1, by simpa using hc2, fun hil => ?_⟩
      obtain ⟨a1, a2, rfl⟩ : ∃ a1 a2, ys = [a1, a2] := by
        match ys, hyl with
        | [a1, a2], _ => exact ⟨a1, a2, rfl⟩
      simp only [List.getElem?_cons_zero, List.getElem?_cons_succ, Option.some.injEq] at hy1 hy2
      subst hy1; subst hy2
      have hmem : ∀ k, k ∈ (D i).weights P e → k ≤ 140737488351232 := fun k hk => by
        refine hwt k ?_
        rw [hx.1]
        simp only [DataW.weights, ht, List.mem_cons, List.mem_append]
        exact .inr (.inl (weightsAll_mem hk _ (List.mem_map.2 ⟨i, List.mem_range.2 hil, rfl⟩)))
      have hw2 : (D i).weights P e = [n1.data.toList.length, n2.data.toList.length] := by
        rw [hD]
        simp only [DataW.weights, he]
        simp [DataW.weightsEach, DataW.weights]
      have g1 := hmem n1.data.toList.length (by rw [hw2]; simp)
      have g2 := hmem n2.data.toList.length (by rw [hw2]; simp)
      exact ⟨by simpa using g1, by simpa using g2⟩
    obtain ⟨f, hf'⟩ := choose_lt hcell
    have hget : ∀ i, i < len → ((List.range len).map f).getD i (ByteArray.empty, ByteArray.empty) = f i := fun i hi' => by simp [List.getD_eq_getElem?_getD, hi']
    refine ⟨(List.range len).map f, ⟨some x, m, by simp, by simpa using hl, hm, ⟨by simp [pairCells_len], fun hn => ⟨x, rfl, ?_, fun j u hu => ?_⟩⟩⟩, fun q hq => ?_, ?_⟩
    · have hn' : 0 < len := by simpa using hn
      have := World.block_lt_of_cell? _ _ (hf' 0 (by omega)).1
      rwa [block_of_add] at this
    · obtain ⟨i, hi', hju⟩ := pairCells_inv _ j u hu
      have hi2 : i < len := by simpa using hi'
      rw [hget i hi2] at hju
      rcases hju with ⟨rfl, rfl⟩ | ⟨rfl, rfl⟩
      · exact (hf' i (by omega)).1
      · exact (hf' i (by omega)).2.1
    · obtain ⟨i, hi', rfl⟩ := List.mem_map.1 hq
      have := List.mem_range.1 hi'
      exact (hf' i (by omega)).2.2 this
    · have hw1 := hwt ((len + (m - len)) * P.bytesOf e) (by rw [hx.1]; simp only [DataW.weights, ht, List.length_map, List.length_range]; simp)
      rw [hby] at hw1
      simp only [List.length_map, List.length_range]
      omega
end Go.Proofs.YtkfofdmcggoonaaGreatDoor
