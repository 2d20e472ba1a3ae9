/-
  A slice of pairs of texts that came in, as a list of pairs. No condition.
-/
import Derived.Test.YtfpepdjffehbcaaGreatPoolCmpT
import Derived.Test.YtfpepdjffehbcaaGreatPathPrint
import Derived.SizedLaws
import Derived.Test.YtfpepdjffehbcaaGreatBlocks
import Derived.OrdersHeld
import Derived.Deep.RegionHeld3
import Derived.Test.YtfpepdjffehbcaaGreatBunGet
import Derived.Test.YtfpepdjffehbcaaGreatBunEnc
set_option linter.unusedVariables false
set_option linter.unusedSimpArgs false
namespace Go.Proofs.YtfpepdjffehbcaaGreat
open Go.RowKit Go.ChangeShapes Go.WideShapes Go.Deep

theorem pairCells_inv : ∀ (ps : List PKey) (j : Nat) (u : Value), (pairCells ps)[j]? = some u → ∃ i, i < ps.length ∧ ((j = i * 2 ∧ u = .string (ps.getD i (ByteArray.empty, ByteArray.empty)).1) ∨ (j = i * 2 + 1 ∧ u = .string (ps.getD i (ByteArray.empty, ByteArray.empty)).2))
  | [], j, u, h => by simp [pairCells] at h
  | p :: ps, j, u, h => by
    have hc : pairCells (p :: ps) = .string p.1 :: .string p.2 :: pairCells ps := by simp [pairCells]
    rw [hc] at h
    match j, h with
    | 0, h => exact ⟨0, by simp, .inl ⟨rfl, by simpa using h.symm⟩⟩
    | 1, h => exact ⟨0, by simp, .inr ⟨rfl, by simpa using h.symm⟩⟩
    | j + 2, h =>
      obtain ⟨i, hi, hx⟩ := pairCells_inv ps j u (by simpa using h)
      refine ⟨i + 1, by simpa using hi, ?_⟩
      rcases hx with ⟨rfl, e⟩ | ⟨rfl, e⟩
      · exact .inl ⟨by omega, by simpa using e⟩
      · exact .inr ⟨by omega, by simpa using e⟩
theorem weightsAll_mem {H : Type} {P : Program} {e : TypeId} {n : Nat} {d : DataW H} (hn : n ∈ d.weights P e) : ∀ (l : List (DataW H)), d ∈ l → n ∈ DataW.weightsAll P e l
  | [], h => by cases h
  | x :: l, h => by
    simp only [DataW.weightsAll, List.mem_append]
    rcases List.mem_cons.1 h with rfl | h
    · exact .inl hn
    · exact .inr (weightsAll_mem hn l h)
/-- A slice of pairs of texts that came in. -/
theorem keys_of_trod {H : Type} {enc : TypeId × Value → H} {P : Program} {w : World} {b0 : Nat} {t e : TypeId} {f1 f2 : Field} {v : Value} {d : DataW H} {p : List MemPlace}
    (ht : P.underlying t = some (.slice e)) (he : P.underlying e = some (.struct #[f1, f2])) (hone : oneCellFields P #[f1, f2] = true) (hC : P.cellsOf e = 2) (hby : P.bytesOf e = 32)
    (h1 : P.underlying f1.type = some .string) (h2 : P.underlying f2.type = some .string) (hwt : ∀ n ∈ d.weights P t, n ≤ 140737488351232)
    (hv : Value.okWide P w .any b0 t v) (h : DataW.Trod enc P w 0 (fun _ => true) true t v d p) :
    ∃ (l : List PKey), KeysAt w w.heap.size v l ∧ (∀ x ∈ l, x.1.size ≤ 140737488351232 ∧ x.2.size ≤ 140737488351232) ∧ l.length * 32 ≤ 140737488351232 := by
  obtain ⟨a, len, cap, rfl⟩ := okWide_slice ht hv
  obtain ⟨fuel, hf⟩ := h
  rcases open_slice_fields ht he hone hC hf with ⟨hcs, _⟩ | ⟨x, l, c, m, D, Pl, hcs, _, hl, hm, hmm, hx, hi⟩
  · simp [Value.cells] at hcs
    obtain ⟨rfl, rfl, rfl⟩ := hcs
    exact ⟨[], ⟨none, 0, rfl, by simp, by simp [maxLen], Reads.none_⟩, by simp, by simp⟩
  · simp [Value.cells] at hcs
    obtain ⟨rfl, rfl, rfl⟩ := hcs
    have hmm' : m = cap := by simpa using hmm
    subst hmm'
    simp only [Prod.mk.injEq] at hx
    have hcell : ∀ i, i < m → ∃ q : PKey, w.cell? (x.add (i * 2)) = some (.string q.1) ∧ w.cell? (x.add (i * 2 + 1)) = some (.string q.2) ∧ (i < len → q.1.size ≤ 140737488351232 ∧ q.2.size ≤ 140737488351232) := by
      intro i him
      obtain ⟨ys, n, hD, _, hyl, hfs⟩ := hi i him
      obtain ⟨v1, y1, hc1, hy1, ht1⟩ := hfs 0 f1 rfl
      obtain ⟨v2, y2, hc2, hy2, ht2⟩ := hfs 1 f2 rfl
      obtain ⟨n1, e1, w1, -⟩ := DataW.trod_string h1 ht1
      obtain ⟨n2, e2, w2, -⟩ := DataW.trod_string h2 ht2
      simp only [List.cons.injEq, and_true] at e1 e2
      subst e1; subst e2; subst w1; subst w2
      refine ⟨(n1, n2), by simpa using hc1, by simpa using hc2, fun hil => ?_⟩
      obtain ⟨a1, a2, rfl⟩ : ∃ a1 a2, ys = [a1, a2] := by
        match ys, hyl with
        | [a1, a2], _ => exact ⟨a1, a2, rfl⟩
      simp only [List.getElem?_cons_zero, List.getElem?_cons_succ, Option.some.injEq] at hy1 hy2
      subst hy1; subst hy2
      have hmem : ∀ k, k ∈ (D i).weights P e → k ≤ 140737488351232 := fun k hk => by
        refine hwt k ?_
        rw [hx.1]
        simp only [DataW.weights, ht, List.mem_cons, List.mem_append]
        exact .inr (.inl (weightsAll_mem hk _ (List.mem_map.2 ⟨i, List.mem_range.2 hil, rfl⟩)))
      have hw2 : (D i).weights P e = [n1.data.toList.length, n2.data.toList.length] := by
        rw [hD]
        simp only [DataW.weights, he]
        simp [DataW.weightsEach, DataW.weights]
      have g1 := hmem n1.data.toList.length (by rw [hw2]; simp)
      have g2 := hmem n2.data.toList.length (by rw [hw2]; simp)
      exact ⟨by simpa using g1, by simpa using g2⟩
    obtain ⟨f, hf'⟩ := choose_lt hcell
    have hget : ∀ i, i < len → ((List.range len).map f).getD i (ByteArray.empty, ByteArray.empty) = f i := fun i hi' => by simp [List.getD_eq_getElem?_getD, hi']
    refine ⟨(List.range len).map f, ⟨some x, m, by simp, by simpa using hl, hm, ⟨by simp [pairCells_len], fun hn => ⟨x, rfl, ?_, fun j u hu => ?_⟩⟩⟩, fun q hq => ?_, ?_⟩
    · have hn' : 0 < len := by simpa using hn
      have := World.block_lt_of_cell? _ _ (hf' 0 (by omega)).1
      rwa [block_of_add] at this
    · obtain ⟨i, hi', hju⟩ := pairCells_inv _ j u hu
      have hi2 : i < len := by simpa using hi'
      rw [hget i hi2] at hju
      rcases hju with ⟨rfl, rfl⟩ | ⟨rfl, rfl⟩
      · exact (hf' i (by omega)).1
      · exact (hf' i (by omega)).2.1
    · obtain ⟨i, hi', rfl⟩ := List.mem_map.1 hq
      have := List.mem_range.1 hi'
      exact (hf' i (by omega)).2.2 this
    · have hw1 := hwt ((len + (m - len)) * P.bytesOf e) (by rw [hx.1]; simp only [DataW.weights, ht, List.length_map, List.length_range]; simp)
      rw [hby] at hw1
      simp only [List.length_map, List.length_range]
      omega
end Go.Proofs.YtfpepdjffehbcaaGreat
/-
  A bundle that came in: a list of Books, each a name and pairs of a path and a text. No condition.
-/
set_option linter.unusedVariables false
set_option linter.unusedSimpArgs false
namespace Go.Proofs.YtfpepdjffehbcaaGreat
open Go.RowKit Go.ChangeShapes Go.WideShapes Go.Deep

/-- A slice of pairs of texts among the cells of something else. -/
theorem keys_of_cs {H : Type} {enc : TypeId × Value → H} {P : Program} {w : World} {t e : TypeId} {f1 f2 : Field} {v : Value} {fuel : Nat} {x : DataW H × List MemPlace}
    (ht : P.underlying t = some (.slice e)) (he : P.underlying e = some (.struct #[f1, f2])) (hone : oneCellFields P #[f1, f2] = true) (hC : P.cellsOf e = 2) (hby : P.bytesOf e = 32)
    (h1 : P.underlying f1.type = some .string) (h2 : P.underlying f2.type = some .string) (hwt : ∀ n ∈ x.1.weights P t, n ≤ 140737488351232)
    (hf : DataW.trod enc P w 0 (fun _ => true) true fuel t [v] = some x) :
    ∃ (l : List PKey), KeysAt w w.heap.size v l ∧ (∀ x ∈ l, x.1.size ≤ 140737488351232 ∧ x.2.size ≤ 140737488351232) ∧ l.length * 32 ≤ 140737488351232 := by
  rcases open_slice_fields ht he hone hC hf with ⟨hcs, _⟩ | ⟨a, len, cap, m, D, Pl, hcs, _, hl, hm, hmm, hx, hi⟩
  · simp only [List.cons.injEq, and_true] at hcs
    subst hcs
    exact ⟨[], ⟨none, 0, rfl, by simp, by simp [maxLen], Reads.none_⟩, by simp, by simp⟩
  · simp only [List.cons.injEq, and_true] at hcs
    subst hcs
    have hmm' : m = cap := by simpa using hmm
    subst hmm'
    have hcell : ∀ i, i < m → ∃ q : PKey, w.cell? (a.add (i * 2)) = some (.string q.1) ∧ w.cell? (a.add (i * 2 + 1)) = some (.string q.2) ∧ (i < len → q.1.size ≤ 140737488351232 ∧ q.2.size ≤ 140737488351232) := by
      intro i him
      obtain ⟨ys, n, hD, _, hyl, hfs⟩ := hi i him
      obtain ⟨v1, y1, hc1, hy1, ht1⟩ := hfs 0 f1 rfl
      obtain ⟨v2, y2, hc2, hy2, ht2⟩ := hfs 1 f2 rfl
      obtain ⟨n1, e1, w1, -⟩ := DataW.trod_string h1 ht1
      obtain ⟨n2, e2, w2, -⟩ := DataW.trod_string h2 ht2
      simp only [List.cons.injEq, and_true] at e1 e2
      subst e1; subst e2; subst w1; subst w2
      refine ⟨(n1, n2), by simpa using hc1, by simpa using hc2, fun hil => ?_⟩
      obtain ⟨a1, a2, rfl⟩ : ∃ a1 a2, ys = [a1, a2] := by
        match ys, hyl with
        | [a1, a2], _ => exact ⟨a1, a2, rfl⟩
      simp only [List.getElem?_cons_zero, List.getElem?_cons_succ, Option.some.injEq] at hy1 hy2
      subst hy1; subst hy2
      have hmem : ∀ k, k ∈ (D i).weights P e → k ≤ 140737488351232 := fun k hk => by
        refine hwt k ?_
        rw [hx]
        simp only [DataW.weights, ht, List.mem_cons, List.mem_append]
        exact .inr (.inl (weightsAll_mem hk _ (List.mem_map.2 ⟨i, List.mem_range.2 hil, rfl⟩)))
      have hw2 : (D i).weights P e = [n1.data.toList.length, n2.data.toList.length] := by
        rw [hD]
        simp only [DataW.weights, he]
        simp [DataW.weightsEach, DataW.weights]
      have g1 := hmem n1.data.toList.length (by rw [hw2]; simp)
      have g2 := hmem n2.data.toList.length (by rw [hw2]; simp)
      exact ⟨by simpa using g1, by simpa using g2⟩
    obtain ⟨f, hf'⟩ := choose_lt hcell
    have hget : ∀ i, i < len → ((List.range len).map f).getD i (ByteArray.empty, ByteArray.empty) = f i := fun i hi' => by simp [List.getD_eq_getElem?_getD, hi']
    refine ⟨(List.range len).map f, ⟨some a, m, by simp, by simpa using hl, hm, ⟨by simp [pairCells_len], fun hn => ⟨a, rfl, ?_, fun j u hu => ?_⟩⟩⟩, fun q hq => ?_, ?_⟩
    · have hn' : 0 < len := by simpa using hn
      have := World.block_lt_of_cell? _ _ (hf' 0 (by omega)).1
      rwa [block_of_add] at this
    · obtain ⟨i, hi', hju⟩ := pairCells_inv _ j u hu
      have hi2 : i < len := by simpa using hi'
      rw [hget i hi2] at hju
      rcases hju with ⟨rfl, rfl⟩ | ⟨rfl, rfl⟩
      · exact (hf' i (by omega)).1
      · exact (hf' i (by omega)).2.1
    · obtain ⟨i, hi', rfl⟩ := List.mem_map.1 hq
      have := List.mem_range.1 hi'
      exact (hf' i (by omega)).2.2 this
    · have hw1 := hwt ((len + (m - len)) * P.bytesOf e) (by rw [hx]; simp only [DataW.weights, ht, List.length_map, List.length_range]; simp)
      rw [hby] at hw1
      simp only [List.length_map, List.length_range]
      omega
theorem stepCells_inv : ∀ (l : List PStep) (vs : List Value) (j : Nat) (u : Value), vs.length = l.length → (stepCells l vs)[j]? = some u → ∃ i, i < l.length ∧ ((j = i * 2 ∧ u = .string (l.getD i (ByteArray.empty, [])).1) ∨ (j = i * 2 + 1 ∧ u = vs.getD i .nilIface))
  | [], [], j, u, _, h => by simp [stepCells] at h
  | p :: l, v :: vs, j, u, hl, h => by
    have hc : stepCells (p :: l) (v :: vs) = .string p.1 :: v :: stepCells l vs := rfl
    rw [hc] at h
    match j, h with
    | 0, h => exact ⟨0, by simp, .inl ⟨rfl, by simpa using h.symm⟩⟩
    | 1, h => exact ⟨0, by simp, .inr ⟨rfl, by simpa using h.symm⟩⟩
    | j + 2, h =>
      obtain ⟨i, hi, hx⟩ := stepCells_inv l vs j u (by simpa using hl) (by simpa using h)
      refine ⟨i + 1, by simpa using hi, ?_⟩
      rcases hx with ⟨rfl, e⟩ | ⟨rfl, e⟩
      · exact .inl ⟨by omega, by simpa using e⟩
      · exact .inr ⟨by omega, by simpa using e⟩
  | [], _ :: _, _, _, hl, _ => by simp at hl
  | _ :: _, [], _, _, hl, _ => by simp at hl
/-- What is told of the sizes of a bundle that came in. -/
def BunIn (l : List PStep) : Prop := l.length * 40 ≤ 140737488351232 ∧ ∀ b ∈ l, b.1.size ≤ 140737488351232 ∧ (∀ x ∈ b.2, x.1.size ≤ 140737488351232 ∧ x.2.size ≤ 140737488351232) ∧ b.2.length * 32 ≤ 140737488351232
/-- A slice of Books. -/
theorem books_of_cs {H : Type} {enc : TypeId × Value → H} {P : Program} {w : World} {t e t2 e2 : TypeId} {g1 g2 f1 f2 : Field} {v : Value} {fuel : Nat} {x : DataW H × List MemPlace}
    (ht : P.underlying t = some (.slice e)) (he : P.underlying e = some (.struct #[g1, g2])) (hone : oneCellFields P #[g1, g2] = true) (hC : P.cellsOf e = 2) (hby : P.bytesOf e = 40)
    (hg1 : P.underlying g1.type = some .string) (hg2 : g2.type = t2) (ht2 : P.underlying t2 = some (.slice e2)) (he2 : P.underlying e2 = some (.struct #[f1, f2])) (hone2 : oneCellFields P #[f1, f2] = true) (hC2 : P.cellsOf e2 = 2) (hby2 : P.bytesOf e2 = 32)
    (h1 : P.underlying f1.type = some .string) (h2 : P.underlying f2.type = some .string) (hwt : ∀ n ∈ x.1.weights P t, n ≤ 140737488351232)
    (hf : DataW.trod enc P w 0 (fun _ => true) true fuel t [v] = some x) :
    ∃ (l : List PStep) (vs : List Value), StepsR w v l vs ∧ BunIn l := by
  subst hg2
  rcases open_slice_fields ht he hone hC hf with ⟨hcs, _⟩ | ⟨a, len, cap, m, D, Pl, hcs, _, hl, hm, hmm, hx, hi⟩
  · simp only [List.cons.injEq, and_true] at hcs
    subst hcs
    exact ⟨[], [], ⟨none, 0, rfl, by simp, by simp [maxLen], Reads.none_, rfl, by simp⟩, by simp, by simp⟩
  · simp only [List.cons.injEq, and_true] at hcs
    subst hcs
    have hmm' : m = cap := by simpa using hmm
    subst hmm'
    have hcell : ∀ i, i < m → ∃ q : PStep × Value, w.cell? (a.add (i * 2)) = some (.string q.1.1) ∧ w.cell? (a.add (i * 2 + 1)) = some q.2 ∧ (i < len → q.1.1.size ≤ 140737488351232 ∧ KeysAt w w.heap.size q.2 q.1.2 ∧ (∀ x ∈ q.1.2, x.1.size ≤ 140737488351232 ∧ x.2.size ≤ 140737488351232) ∧ q.1.2.length * 32 ≤ 140737488351232) := by
      intro i him
      obtain ⟨ys, n, hD, _, hyl, hfs⟩ := hi i him
      obtain ⟨v1, y1, hc1, hy1, ht1⟩ := hfs 0 g1 rfl
      obtain ⟨v2, y2, hc2, hy2, hk2⟩ := hfs 1 g2 rfl
      obtain ⟨n1, e1, w1, -⟩ := DataW.trod_string hg1 ht1
      simp only [List.cons.injEq, and_true] at e1
      subst e1; subst w1
      obtain ⟨a1, a2, rfl⟩ : ∃ a1 a2, ys = [a1, a2] := by
        match ys, hyl with
        | [a1, a2], _ => exact ⟨a1, a2, rfl⟩
      simp only [List.getElem?_cons_zero, List.getElem?_cons_succ, Option.some.injEq] at hy1 hy2
      subst hy1; subst hy2
      by_cases hil : i < len
      · have hmem : ∀ k, k ∈ (D i).weights P e → k ≤ 140737488351232 := fun k hk => by
          refine hwt k ?_
          rw [hx]
          simp only [DataW.weights, ht, List.mem_cons, List.mem_append]
          exact .inr (.inl (weightsAll_mem hk _ (List.mem_map.2 ⟨i, List.mem_range.2 hil, rfl⟩)))
        have hw2 : (D i).weights P e = n1.data.toList.length :: a2.1.weights P g2.type := by
          rw [hD]
          simp only [DataW.weights, he]
          simp [DataW.weightsEach, DataW.weights]
        obtain ⟨lk, hk3, hk4, hk5⟩ := keys_of_cs ht2 he2 hone2 hC2 hby2 h1 h2 (fun k hk => hmem k (by rw [hw2]; exact List.mem_cons_of_mem _ hk)) hk2
        have g1 := hmem n1.data.toList.length (by rw [hw2]; simp)
        exact ⟨((n1, lk), v2), by simpa using hc1, by simpa using hc2, fun _ => ⟨by simpa using g1, hk3, hk4, hk5⟩⟩
      · exact ⟨((n1, []), v2), by simpa using hc1, by simpa using hc2, fun h => absurd h hil⟩
    obtain ⟨f, hf'⟩ := choose_lt hcell
    have hget : ∀ i, i < len → ((List.range len).map fun i => (f i).1).getD i (ByteArray.empty, []) = (f i).1 := fun i hi' => by simp [List.getD_eq_getElem?_getD, hi']
    have hget2 : ∀ i, i < len → ((List.range len).map fun i => (f i).2).getD i .nilIface = (f i).2 := fun i hi' => by simp [List.getD_eq_getElem?_getD, hi']
    refine ⟨(List.range len).map fun i => (f i).1, (List.range len).map fun i => (f i).2, ⟨some a, m, by simp, by simpa using hl, hm, ⟨by rw [stepCells_len _ _ (by simp)], fun hn => ⟨a, rfl, ?_, fun j u hu => ?_⟩⟩, by simp, fun i st kv hst hkv => ?_⟩, ?_, fun q hq => ?_⟩
    · have hn' : 0 < len := by simpa using hn
      have := World.block_lt_of_cell? _ _ (hf' 0 (by omega)).1
      rwa [block_of_add] at this
    · obtain ⟨i, hi', hju⟩ := stepCells_inv _ _ j u (by simp) hu
      have hi2 : i < len := by simpa using hi'
      rw [hget i hi2, hget2 i hi2] at hju
      rcases hju with ⟨rfl, rfl⟩ | ⟨rfl, rfl⟩
      · exact (hf' i (by omega)).1
      · exact (hf' i (by omega)).2.1
    · have hi2 : i < len := by simpa using (List.getElem?_eq_some_iff.1 hst).1
      simp [hi2] at hst hkv
      rw [← hst, ← hkv]
      exact ((hf' i (by omega)).2.2 hi2).2.1
    · have hw1 := hwt ((len + (m - len)) * P.bytesOf e) (by rw [hx]; simp only [DataW.weights, ht, List.length_map, List.length_range]; simp)
      rw [hby] at hw1
      simp only [List.length_map, List.length_range]
      omega
    · obtain ⟨i, hi', rfl⟩ := List.mem_map.1 hq
      have hi2 := List.mem_range.1 hi'
      have := (hf' i (by omega)).2.2 hi2
      exact ⟨this.1, this.2.2.1, this.2.2.2⟩
/-- A bundle that came in. -/
theorem bundle_of_trod {H : Type} {enc : TypeId × Value → H} {P : Program} {w : World} {b0 : Nat} {tb t e t2 e2 : TypeId} {k1 g1 g2 f1 f2 : Field} {v : Value} {d : DataW H} {p : List MemPlace}
    (htb : P.underlying tb = some (.struct #[k1])) (hk1 : k1.type = t) (ho1 : k1.offset = 0) (hct : P.cellsOf t = 1) (hctb : P.cellsOf tb = 1)
    (ht : P.underlying t = some (.slice e)) (he : P.underlying e = some (.struct #[g1, g2])) (hone : oneCellFields P #[g1, g2] = true) (hC : P.cellsOf e = 2) (hby : P.bytesOf e = 40)
    (hg1 : P.underlying g1.type = some .string) (hg2 : g2.type = t2) (ht2 : P.underlying t2 = some (.slice e2)) (he2 : P.underlying e2 = some (.struct #[f1, f2])) (hone2 : oneCellFields P #[f1, f2] = true) (hC2 : P.cellsOf e2 = 2) (hby2 : P.bytesOf e2 = 32)
    (h1 : P.underlying f1.type = some .string) (h2 : P.underlying f2.type = some .string) (hwt : ∀ n ∈ d.weights P tb, n ≤ 140737488351232)
    (hv : Value.okWide P w .any b0 tb v) (h : DataW.Trod enc P w 0 (fun _ => true) true tb v d p) :
    ∃ (u : Value) (l : List PStep) (vs : List Value), v = .agg #[u] ∧ StepsR w u l vs ∧ BunIn l := by
  subst hk1
  unfold Value.okWide at hv
  rw [htb] at hv
  obtain ⟨cs, rfl, -, -⟩ := hv
  obtain ⟨fuel, hf⟩ := h
  obtain ⟨y0, n, hx, hcl, hy⟩ := trod_struct1 htb hf
  rw [hctb] at hcl
  obtain ⟨u, hu⟩ : ∃ u, (Value.agg cs).cells.toList = [u] := by
    match hh : (Value.agg cs).cells.toList, hcl with
    | [u], _ => exact ⟨u, rfl⟩
  rw [hu, ho1, hct] at hy
  simp only [Prod.mk.injEq] at hx
  obtain ⟨l, vs, hs, hb⟩ := books_of_cs ht he hone hC hby hg1 hg2 ht2 he2 hone2 hC2 hby2 h1 h2 (x := y0) (fun k hk => hwt k (by
    rw [hx.1]
    simp only [DataW.weights, htb]
    simp [DataW.weightsEach, hk])) (by simpa using hy)
  have hcs : cs = #[u] := Array.toList_inj.1 (show cs.toList = _ from hu)
  exact ⟨u, l, vs, by rw [hcs], hs, hb⟩
end Go.Proofs.YtfpepdjffehbcaaGreat
/-
  A region that draws its order and ends in an operation that waits for all the others (a store): what it loads is taken first, and the last operation may write what was loaded. No program in sight. Plain lemmas; no condition.
-/
set_option linter.unusedVariables false
set_option linter.unusedSimpArgs false
namespace Go.Proofs.YtfpepdjffehbcaaGreat
open Go.RowKit

/-- Operation m waits for operation i. -/
def waitsB (ops : Array Oper) (m i : Nat) : Bool := ((ops[m]?).map fun o => o.after.any fun e => Region.binds .any e && e.on == i).getD false
/-- Whatever order is picked, and S holds behind each operation but m. -/
def wpAnyL (P : Program) (ops : Array Oper) (Q : Exit → Act → World → Prop) (S : World → Prop) (m : Nat) : Nat → Array Bool → Act → World → Prop
  | 0, listed, a, w => Region.ready .any ops listed = [] ∧ Q .normal a w
  | fuel + 1, listed, a, w =>
    (Region.ready .any ops listed = [] → Q .normal a w) ∧
    ∀ i ∈ Region.ready .any ops listed, wpOp P ops Q i (fun a' w' => (i ≠ m → S w') ∧ wpAnyL P ops Q S m fuel (listed.setIfInBounds i true) a' w') a w
section
variable {P : Program} {ops : Array Oper} {Q : Exit → Act → World → Prop} {S : World → Prop} {m : Nat}
theorem wpAny_of_L : ∀ (fuel : Nat) (listed : Array Bool) (a : Act) (w : World), wpAnyL P ops Q S m fuel listed a w → wpAny P .any ops Q fuel listed a w
  | 0, _, _, _, h => h
  | fuel + 1, _, _, _, h => ⟨h.1, fun i hi => wpOp_mono (fun a' w' h' => wpAny_of_L fuel _ a' w' h'.2) (h.2 i hi)⟩
theorem waits_not {i j : Nat} {oj : Oper} (hw : waitsB ops m i = true) (hoj : ops[j]? = some oj) (hn : ∀ e ∈ oj.after, Region.binds .any e = true → e.on ≠ i) : j ≠ m := by
  rintro rfl
  unfold waitsB at hw
  simp only [hoj, Option.map_some, Option.getD_some, Array.any_eq_true] at hw
  obtain ⟨q, hq, he⟩ := hw
  simp only [Bool.and_eq_true, beq_iff_eq] at he
  exact hn _ (Array.getElem_mem hq) he.1 he.2
theorem wpAnyL_first {i : Nat} {oi : Oper} {v : Value} (hi : ops[i]? = some oi) (hw : waitsB ops m i = true) (hsel : ∀ (j : Nat) (o : Oper) cs b, ops[j]? = some o → o.op ≠ .select cs b)
    (hQ : ∀ c a w, Q (.panic c) (a.put oi.dst v) w → Q (.panic c) a w) :
    ∀ (fuel : Nat) (listed : Array Bool) (a : Act) (w : World),
      (∀ j oj, ops[j]? = some oj → j ≠ i → listed.getD j true = false → (∀ e ∈ oj.after, Region.binds .any e = true → e.on ≠ i) → oi.apart ops oj = true) →
      i ∈ Region.ready .any ops listed → YieldsIf P ops S oi v a → S w →
      wpAnyL P ops Q S m fuel (listed.setIfInBounds i true) (a.put oi.dst v) w → wpAnyL P ops Q S m (fuel + 1) listed a w := by
  intro fuel
  induction fuel with
  | zero =>
    intro listed a w _ hr hy hS H
    refine ⟨fun h => (by rw [h] at hr; cases hr), fun j hj => ?_⟩
    by_cases hji : j = i
    · subst hji; exact hy.wpOp hi hS ⟨fun _ => hS, H⟩
    · have := ready_mono hj hji
      rw [H.1] at this
      cases this
  | succ fuel ih =>
    intro listed a w hfree hr hy hS H
    refine ⟨fun h => (by rw [h] at hr; cases hr), fun j hj => ?_⟩
    by_cases hji : j = i
    · subst hji; exact hy.wpOp hi hS ⟨fun _ => hS, H⟩
    · have h1 := H.2 j (ready_mono hj hji)
      obtain ⟨hjun, oj, hoj, hall⟩ := mem_ready.1 hj
      have hnot : ∀ e ∈ oj.after, Region.binds .any e = true → e.on ≠ i := fun e he hb heq => by
        have h1 := hall e he hb
        have h0 := (mem_ready.1 hr).1
        rw [heq] at h1
        rcases Nat.lt_or_ge i listed.size with h' | h'
        · simp [h'] at h0 h1; rw [h0] at h1; cases h1
        · simp [Array.getElem?_eq_none h'] at h1
      have hjm := waits_not hw hoj hnot
      have h2 := wpOp_putIf hoj (hfree j oj hoj hji hjun hnot) (fun cs b => hsel i oi cs b hi) (fun cs b => hsel j oj cs b hoj) hQ hy h1
      have hfree' : ∀ k ok, ops[k]? = some ok → k ≠ i → (listed.setIfInBounds j true).getD k true = false →
          (∀ e ∈ ok.after, Region.binds .any e = true → e.on ≠ i) → oi.apart ops ok = true := fun k ok hk hki hun hno => by
        refine hfree k ok hk hki ?_ hno
        by_cases hjk : j = k
        · subst hjk; exact hjun
        · rw [getD_set_ne true hjk] at hun; exact hun
      refine wpOp_mono (fun a' w' h3 => ⟨h3.2.1, ih (listed.setIfInBounds j true) a' w' hfree' (ready_mono hr (Ne.symm hji)) h3.1 (h3.2.1 hjm) ?_⟩) h2
      rw [Array.setIfInBounds_comm _ _ hji]
      exact h3.2.2
theorem wpAnyL_take {i : Nat} {oi : Oper} {d : Option Tmp} {v : Value} {fuel : Nat} {listed : Array Bool} {a : Act} {w : World} (hi : ops[i]? = some oi) (hd : oi.dst = d) (hw : waitsB ops m i = true)
    (hs : Region.noSelect ops = true) (hf : Region.free .any ops listed i = true) (hr : (Region.ready .any ops listed).contains i = true)
    (hQ : ∀ c a w, Q (.panic c) (a.put d v) w → Q (.panic c) a w) (hy : YieldsIf P ops S oi v a) (hS : S w)
    (h : wpAnyL P ops Q S m fuel (listed.setIfInBounds i true) (a.put d v) w) : wpAnyL P ops Q S m (fuel + 1) listed a w := by
  subst hd
  exact wpAnyL_first hi hw (Region.noSelect_spec hs) hQ fuel listed a w (Region.free_spec hi hf) (by simpa using hr) hy hS h
/-- One operation alone may come up. -/
theorem wpAnyL_step {i : Nat} {o : Oper} {d : Option Tmp} {fuel : Nat} {listed : Array Bool} {a : Act} {w : World} (hr : Region.ready .any ops listed = [i]) (ho : ops[i]? = some o) (hd : o.dst = d)
    (h : ∀ K' : Act → World → Prop, Shut (∀ v w, S w → (S w → wpAnyL P ops Q S m fuel (listed.setIfInBounds i true) (a.put d v) w) → K' (a.put o.dst v) w) → if Region.wanted o (yielded ops a.tmps) = true then Oper.wp P o a w K' Q else K' (a.put o.dst undef) w) : wpAnyL P ops Q S m (fuel + 1) listed a w := by
  subst hd
  refine ⟨fun h0 => (by rw [h0] at hr; cases hr), fun j hj => ?_⟩
  rw [hr, List.mem_singleton] at hj
  subst hj
  exact wpOp_step ho fun K' hK => h K' fun v w hS hW => hK _ w ⟨fun _ => hS, hW hS⟩
/-- .. and it is the last one. -/
theorem wpAnyL_last {o : Oper} {fuel : Nat} {listed : Array Bool} {a : Act} {w : World} (hr : Region.ready .any ops listed = [m]) (hr2 : Region.ready .any ops (listed.setIfInBounds m true) = []) (ho : ops[m]? = some o)
    (h : ∀ K' : Act → World → Prop, Shut (∀ a w, Q .normal a w → K' a w) → if Region.wanted o (yielded ops a.tmps) = true then Oper.wp P o a w K' Q else K' (a.put o.dst undef) w) : wpAnyL P ops Q S m (fuel + 1) listed a w := by
  refine ⟨fun h0 => (by rw [h0] at hr; cases hr), fun j hj => ?_⟩
  rw [hr, List.mem_singleton] at hj
  subst hj
  refine wpOp_step ho fun K' hK => h K' fun a w hQ => hK a w ⟨fun hn => absurd rfl hn, ?_⟩
  cases fuel with
  | zero => exact ⟨hr2, hQ⟩
  | succ _ => exact ⟨fun _ => hQ, by rw [hr2]; simp⟩
theorem wp_region_L {id : Nat} {a : Act} {w : World} (S : World → Prop) (m : Nat) (hm : P.follows .mixedOrders = true) (hS : S w.drew)
    (h : S w.drew → wpAnyL P ops Q S m ops.size (Array.replicate ops.size false) a w.drew) : (Code.region id ops true).wp P Q a w :=
  wp_region_any hm (wpAny_of_L _ _ _ _ (h hS))
end
end Go.Proofs.YtfpepdjffehbcaaGreat
/-
  The walks of the law's cut, and bundles that lie in rows of their own. Condition: the bundle came in.
-/
set_option linter.unusedVariables false
set_option linter.unusedSimpArgs false
namespace Go.Proofs.YtfpepdjffehbcaaGreat
open Go.RowKit

/-- A bundle in rows of its own. -/
def BunOwn (W : World) (base : Nat) (v : Value) (l : List PStep) (vs : List Value) : Prop := W.ownsRow base 56 2 v l.length (stepCells l vs) ∧ vs.length = l.length ∧ ∀ (i : Nat) (b : PStep) (kv : Value), l[i]? = some b → vs[i]? = some kv → W.ownsRow base 59 2 kv b.2.length (pairCells b.2)
theorem BunOwn.nil (W : World) (base : Nat) : BunOwn W base (.slice none 0 0) [] [] := ⟨World.ownsRow_nil _ _ _ _, rfl, fun i b kv h => by simp at h⟩
theorem BunOwn.steps {W : World} {base : Nat} {v : Value} {l : List PStep} {vs : List Value} (h : BunOwn W base v l vs) : StepsR W v l vs := by
  obtain ⟨h1, h2, h3⟩ := h
  obtain ⟨A, c, rfl, a1, a2, a3⟩ := own_form h1
  refine ⟨A, c, rfl, a1, a2, a3, h2, fun i b kv hb hk => ?_⟩
  obtain ⟨A', c', rfl, b1, b2, b3⟩ := own_form (h3 i b kv hb hk)
  exact ⟨A', c', rfl, b1, b2, b3⟩
theorem BunOwn.on {W W' : World} {base : Nat} {v : Value} {l : List PStep} {vs : List Value} (h : BunOwn W base v l vs) (hb : Below W.heap.size W W') : BunOwn W' base v l vs := ⟨own_more h.1 hb, h.2.1, fun i b kv h1 h2 => own_more (h.2.2 i b kv h1 h2) hb⟩
theorem BunOwn.base {W : World} {base base' : Nat} {v : Value} {l : List PStep} {vs : List Value} (h : BunOwn W base v l vs) (hb : base' ≤ base) : BunOwn W base' v l vs := ⟨own_base h.1 hb, h.2.1, fun i b kv h1 h2 => own_base (h.2.2 i b kv h1 h2) hb⟩
/-- .. and with one Book more. -/
theorem BunOwn.push {W W' : World} {base : Nat} {v v' : Value} {l : List PStep} {vs : List Value} (h : BunOwn W base v l vs) (b : PStep) {kv : Value} {n : Nat} (hn : l.length = n) (hk : W.ownsRow base 59 2 kv b.2.length (pairCells b.2)) (hown : W'.ownsRow base 56 2 v' (n + 1) (stepCells l vs ++ [.string b.1, kv])) (hg : W.grownBy W' v.ownBlock) : BunOwn W' base v' (l ++ [b]) (vs ++ [kv]) := by
  subst hn
  obtain ⟨h1, h2, h3⟩ := h
  refine ⟨by rw [stepCells_append l vs b kv h2, List.length_append]; exact hown, by simp [h2], fun i c ku hi hj => ?_⟩
  rcases Nat.lt_or_ge i l.length with hl | hl
  · rw [List.getElem?_append_left hl] at hi
    rw [List.getElem?_append_left (by omega)] at hj
    exact own_stays (h3 i c ku hi hj) h1 (by decide) hg
  · rw [List.getElem?_append_right hl] at hi
    rw [List.getElem?_append_right (by omega)] at hj
    have h0 : i - l.length = 0 := by
      have := (List.getElem?_eq_some_iff.1 hi).1
      simp at this
      omega
    rw [h0] at hi
    rw [show i - vs.length = 0 by omega] at hj
    cases hi
    cases hj
    exact own_stays hk h1 (by decide) hg
theorem bookI : (Tryz.prog.info? 56).map (fun i => (i.zero, i.size, i.bytes)) = some (some (.agg #[.string ByteArray.empty, .slice none 0 0]), 2, 40) := by kernel_rfl
theorem valueI : (Tryz.prog.info? 59).map (fun i => (i.zero, i.size, i.bytes)) = some (some (.agg #[.string ByteArray.empty, .string ByteArray.empty]), 2, 32) := by kernel_rfl
theorem bundle_size : (Tryz.prog.info? 24).map (·.size) = some 1 := by kernel_rfl
theorem pairs_one {l : List PKey} : ∀ u ∈ pairCells l, u.oneCell' = true := by
  intro u hu
  obtain ⟨r, -, hr⟩ := List.mem_flatMap.1 hu
  simp only [List.mem_cons, List.not_mem_nil, or_false] at hr
  rcases hr with rfl | rfl <;> rfl
theorem pairs_take (l : List PKey) (q : Nat) : pairCells (l.take q) = (pairCells l).take (q * 2) := by
  induction l generalizing q with
  | nil => simp [pairCells]
  | cons x r ih =>
    cases q with
    | zero => simp [pairCells]
    | succ q =>
      have h := ih q
      unfold pairCells at h ⊢
      rw [List.take_succ_cons, List.flatMap_cons, List.flatMap_cons, h, show (q + 1) * 2 = q * 2 + 2 by omega]
      rfl
/-- A bundle that can be played in time. -/
def cutB (b : PStep) : PStep := (b.1, b.2.take 30)
def cutL (l : List PStep) : List PStep := (l.take 10).map cutB
theorem cutL_in {l : List PStep} (h : BunIn l) : InB (cutL l) := by
  refine ⟨by unfold cutL; rw [List.length_map, List.length_take]; omega, fun b hb => ?_⟩
  unfold cutL at hb
  obtain ⟨c, hc, rfl⟩ := List.mem_map.1 hb
  obtain ⟨h1, h2, -⟩ := h.2 c (List.mem_of_mem_take hc)
  refine ⟨by unfold cutB; simp only; omega, fun x hx => ?_, by unfold cutB; rw [List.length_take]; omega⟩
  unfold cutB at hx
  have := h2 x (List.mem_of_mem_take hx)
  omega
def CutPost (l : List PStep) (w : World) (e : Ending) (w' : World) : Prop := ∃ u vs', e = .returned (.agg #[u]) ∧ BunOwn w' w.heap.size u (cutL l) vs' ∧ Below w.heap.size w w'
theorem cut_result {tmps : Array Value} {w : World} {r0 : Nat} {x : Value} (hB : Blk w r0 24 #[x]) (hp : tmps.getD 2 undef = .pointer (some ⟨r0, 0, none⟩)) :
    (results Tryz.f9 tmps).run Tryz.prog w = .ok (.agg #[x]) w :=
  results_row Tryz.results9 tmps w r0 24 _ _ hp hB Tryz.underlying24 rfl bundle_size
/-- The state of cut. -/
def CutAt (w : World) (v : Value) (W : World) (u : Value) (m : List PStep) (vs : List Value) : Prop :=
  Below w.heap.size w W ∧ Blk W w.heap.size 24 #[v] ∧ Blk W (w.heap.size + 1) 24 #[.slice none 0 0] ∧ Blk W (w.heap.size + 2) 24 #[u] ∧ BunOwn W (w.heap.size + 3) u m vs
theorem CutAt.on {w W W' : World} {v u : Value} {m : List PStep} {vs : List Value} (h : CutAt w v W u m vs) (hb : Below W.heap.size W W') : CutAt w v W' u m vs :=
  ⟨h.1.trans (hb.mono h.1.size), h.2.1.below hb h.2.1.lt, h.2.2.1.below hb h.2.2.1.lt, h.2.2.2.1.below hb h.2.2.2.1.lt, h.2.2.2.2.on hb⟩
theorem CutAt.size {w W : World} {v u : Value} {m : List PStep} {vs : List Value} (h : CutAt w v W u m vs) : w.heap.size + 3 ≤ W.heap.size := h.2.2.2.1.lt
theorem CutAt.push {w W W' : World} {v u u' : Value} {m : List PStep} {vs : List Value} (h : CutAt w v W u m vs) (b : PStep) {kv : Value} {n : Nat} (hn : m.length = n) (hk : W.ownsRow (w.heap.size + 3) 59 2 kv b.2.length (pairCells b.2)) (hown : W'.ownsRow (w.heap.size + 3) 56 2 u' (n + 1) (stepCells m vs ++ [.string b.1, kv])) (hg : W.grownBy W' u.ownBlock) :
    CutAt w v (W'.setCell ⟨w.heap.size + 2, 0, none⟩ u') u' (m ++ [b]) (vs ++ [kv]) ∧ Blk W' (w.heap.size + 2) 24 #[u] := by
  obtain ⟨h1, h2, h3, h4, h5⟩ := h
  have hr := h5.1
  have b1 := h1.grown hg h1.size (fun k hk => by have := (hr.lt k hk).1; omega)
  have b4 := blk_stays h4 hr (by decide) hg
  have hp := h5.push b hn hk hown hg
  have hs := grown_set W' (w.heap.size + 2) 0 u'
  refine ⟨⟨b1.setCell (by simp) _, (blk_stays h2 hr (by decide) hg).far (by simp) _, (blk_stays h3 hr (by decide) hg).far (by simp) _, b4.set_ 0 u', ?_⟩, b4⟩
  exact ⟨own_stays3 hp.1 b4 (by decide) hs, hp.2.1, fun i c ku hi hj => own_stays3 (hp.2.2 i c ku hi hj) b4 (by decide) hs⟩
set_option maxHeartbeats 8000000 in
set_option maxRecDepth 100000 in
theorem bcut_any (v : Value) (l : List PStep) (vs : List Value) (w : World) (h : StepsR w v l vs) (hin : BunIn l) :
    Calls Tryz.prog 9 #[.agg #[v]] w (CutPost l w) := by
  obtain ⟨A, c, rfl, hc1, hc2, hRd, hvl, hKs⟩ := h
  unfold maxLen at hc2
  have HRD := Lib.hid hRd
  have HVL := Lib.hid hvl
  have HKS := Lib.hid hKs
  have HIN := Lib.hid hin
  clear hRd hvl hKs hin
  obtain ⟨n, hN⟩ : ∃ n, l.length = n := ⟨_, rfl⟩
  rw [hN] at hc1 HRD ⊢
  have HN := Lib.hid hN
  clear hN
  have hn63 : (n : Int) ≤ 9223372036854775807 := by omega
  have HCC := Lib.hid (show ∀ (i : Nat) (b : PStep), l[i]? = some b → ∃ (kb ko : Nat) (kv : Value), A = some ⟨kb, ko, none⟩ ∧ ∀ W, Below w.heap.size w W → W.cell? ⟨kb, ko + i * 2, none⟩ = some (.string b.1) ∧ W.cell? ⟨kb, ko + i * 2 + 1, none⟩ = some kv ∧ KeysAt W W.heap.size kv b.2 from fun i b hb => by
    have hi := (List.getElem?_eq_some_iff.1 hb).1
    obtain ⟨kv, hkv⟩ : ∃ kv, vs[i]? = some kv := ⟨_, List.getElem?_eq_getElem (by rw [HVL.out]; exact hi)⟩
    obtain ⟨kb, ko, rfl, hkb, hcl⟩ := HRD.out.spot (by have := HN.out; omega) (by have := HN.out; omega)
    have hat := stepCells_at l vs i b kv hb hkv
    exact ⟨kb, ko, kv, rfl, fun W hW => ⟨(hW.cell (p := ⟨kb, ko + i * 2, none⟩) hkb).trans (hcl _ _ hat.1), (hW.cell (p := ⟨kb, ko + i * 2 + 1, none⟩) hkb).trans (hcl _ _ hat.2), (HKS.out i b kv hb hkv).more hW hW.size⟩⟩)
  obtain ⟨w3, hw3⟩ : ∃ w3, ((w.alloc (.cells #[.slice A n c] 24)).alloc (.cells #[.slice none 0 0] 24)).alloc (.cells #[.slice none 0 0] 24) = w3 := ⟨_, rfl⟩
  have HW3 := Lib.hid hw3
  have HC0 := Lib.hid (show CutAt w (.slice A n c) w3 (.slice none 0 0) ((l.take 0).map cutB) [] from by
    rw [← hw3]
    refine ⟨(((Below.refl _ w).alloc (Nat.le_refl _) _).alloc (by simp) _).alloc (by simp; omega) _, ((Blk.new w _ _).alloc _).alloc _, ?_, ?_, BunOwn.nil _ _⟩
    · have := (Blk.new (w.alloc (.cells #[.slice A n c] 24)) 24 #[.slice none 0 0]).alloc (.cells #[.slice none 0 0] 24)
      simpa only [World.size_alloc] using this
    · have := Blk.new ((w.alloc (.cells #[.slice A n c] 24)).alloc (.cells #[.slice none 0 0] 24)) 24 #[.slice none 0 0]
      simpa only [World.size_alloc] using this)
  clear hw3
  obtain ⟨i0, hi0, hz0, hz1, hz2⟩ := info_parts bookI
  obtain ⟨i1, hi1, hy0, hy1, hy2⟩ := info_parts valueI
  have HFIN := Lib.hid (show ∀ (i : Nat) (W : World) (u : Value) (us : List Value), (i = n ∨ i = 10) → i ≤ n → i ≤ 10 → CutAt w (.slice A n c) W u ((l.take i).map cutB) us → BunOwn (W.setCell ⟨w.heap.size + 1, 0, none⟩ u) w.heap.size u (cutL l) us ∧ Below w.heap.size w (W.setCell ⟨w.heap.size + 1, 0, none⟩ u) ∧ Blk (W.setCell ⟨w.heap.size + 1, 0, none⟩ u) (w.heap.size + 1) 24 #[u] from fun i W u us hi hn h10 hC => by
    have e : (l.take i).map cutB = cutL l := by
      unfold cutL
      congr 1
      rcases hi with rfl | rfl
      · rw [List.take_of_length_le (by rw [HN.out]; exact Nat.le_refl _), List.take_of_length_le (by rw [HN.out]; exact h10)]
      · rfl
    rw [e] at hC
    obtain ⟨h1, h2, h3, h4, h5⟩ := hC
    have hs := grown_set W (w.heap.size + 1) 0 u
    have hb : BunOwn (W.setCell ⟨w.heap.size + 1, 0, none⟩ u) (w.heap.size + 3) u (cutL l) us := ⟨own_stays3 h5.1 h3 (by decide) hs, h5.2.1, fun i c ku hi hj => own_stays3 (h5.2.2 i c ku hi hj) h3 (by decide) hs⟩
    exact ⟨hb.base (by omega), h1.setCell (by simp) _, h3.set_ 0 u⟩)
  go_enter Tryz.func9, Tryz.ntmps9
  go_upto_region 2 with (fail)
  rw [HW3.out]
  obtain ⟨h0, hh0⟩ : ∃ h0, w.heap.size = h0 := ⟨_, rfl⟩
  have HH0 := Lib.hid hh0
  rw [hh0] at HFIN ⊢
  have k0 : w3.cell? ⟨h0, 0, none⟩ = some (.slice A n c) := by rw [← hh0]; exact HC0.out.2.1.cell 0
  clear hh0
  go_wp2
  clear k0
  go_loopw [9] (fun iv W => ∃ (i : Nat) (u : Value) (us : List Value), iv = .int .i64 (i : Int) ∧ i ≤ n ∧ i ≤ 10 ∧ CutAt w (.slice A n c) W u ((l.take i).map cutB) us) (fun iv _ => n - (Lib.intOf iv).toNat)
  case atStart => exact ⟨0, _, _, rfl, Nat.zero_le _, Nat.zero_le _, HC0.out⟩
  case round =>
    clear HC0
    obtain ⟨i, u, us, rfl, hi, h10, hC⟩ := hrel
    have HC := Lib.hid hC
    have hsz : h0 + 3 ≤ wr.heap.size := by have := hC.size; have := HH0.out; omega
    obtain ⟨Au, cu, rfl, -, -, -⟩ := own_form hC.2.2.2.2.1
    have hml : ((l.take i).map cutB).length = i := by rw [List.length_map, List.length_take, HN.out]; omega
    rw [hml] at HC
    have HML := Lib.hid hml
    have HAU := Lib.hid (show ∀ k, (Value.slice Au i cu).ownBlock = some k → k < wr.heap.size from fun k hk => (HC.out.2.2.2.2.1.lt k hk).2)
    have u0 : wr.cell? ⟨h0 + 1 + 1, 0, none⟩ = some (.slice Au i cu) := by rw [← HH0.out]; exact HC.out.2.2.2.1.cell 0
    have u1 : wr.cell? ⟨h0 + 1, 0, none⟩ = some (.slice none 0 0) := by rw [← HH0.out]; exact HC.out.2.2.1.cell 0
    have u2 : wr.frozen? ⟨h0 + 1, 0, none⟩ = false := by rw [← HH0.out]; exact HC.out.2.2.1.frozen 0
    clear hC hml
    by_cases hlt : i < n
    · have hq : (i : Int) < (n : Int) := by omega
      obtain ⟨⟨nm, vl⟩, hb⟩ : ∃ b, l[i]? = some b := ⟨_, List.getElem?_eq_getElem (by rw [HN.out]; exact hlt)⟩
      obtain ⟨kb, ko, kv, rfl, hcw⟩ := HCC.out i _ hb
      obtain ⟨z0, z1, hk⟩ := hcw wr HC.out.1
      have HCW := Lib.hid (show ∀ W, Below w.heap.size w W → KeysAt W W.heap.size kv vl from fun W hW => (hcw W hW).2.2)
      have HB := Lib.hid hb
      simp only at z0 z1 hk
      obtain ⟨Ak, ck, rfl, hck1, hck2, -⟩ := hk
      unfold maxLen at hck2
      obtain ⟨mk, hmk⟩ : ∃ mk, vl.length = mk := ⟨_, rfl⟩
      have HMK := Lib.hid hmk
      rw [hmk] at z1 HCW hck1
      clear hcw hb hmk
      have hck3 : (mk : Int) ≤ (ck : Int) := by omega
      have hck4 : (ck : Int) ≤ 9223372036854775807 := by omega
      have HC6 := Lib.hid (HC.out.on ((Below.refl _ wr).alloc (Nat.le_refl _) (.cells #[.string nm, .slice Ak mk ck] 56)))
      have HG6 := Lib.hid (Blk.new wr 56 #[.string nm, .slice Ak mk ck])
      by_cases he : i = 10
      · have he1 : ((i : Int) == 10) = true := by rw [he]; rfl
        have HFI := Lib.hid (HFIN.out i (wr.alloc (.cells #[.string nm, .slice Ak mk ck] 56)) _ us (.inr he) hi h10 HC6.out)
        have v0 : (wr.alloc (.cells #[.string nm, .slice Ak mk ck] 56)).cell? ⟨h0 + 1 + 1, 0, none⟩ = some (.slice Au i cu) := by rw [← HH0.out]; exact HC6.out.2.2.2.1.cell 0
        have v1 : (wr.alloc (.cells #[.string nm, .slice Ak mk ck] 56)).cell? ⟨h0 + 1, 0, none⟩ = some (.slice none 0 0) := by rw [← HH0.out]; exact HC6.out.2.2.1.cell 0
        have v2 : (wr.alloc (.cells #[.string nm, .slice Ak mk ck] 56)).frozen? ⟨h0 + 1, 0, none⟩ = false := by rw [← HH0.out]; exact HC6.out.2.2.1.frozen 0
        clear he u0 u1 u2
        go_wp2
        (try simp only [Exit.inBlock, Exit.then])
        exact bodyPost_ret (cut_result HFI.out.2.2 rfl) rfl ⟨_, _, rfl, by rw [HH0.out]; exact HFI.out.1, by rw [HH0.out]; exact HFI.out.2.1⟩
      · have he1 : ((i : Int) == 10) = false := by
          have : ¬ (i : Int) = 10 := by omega
          simpa using this
        have hi9 : i ≤ 9 := by omega
        clear he u1 u2
        go_upto_region 6 with (fail)
        clear he1
        generalize wr.alloc (.cells #[.string nm, .slice Ak mk ck] 56) = w6 at *
        obtain ⟨g5, hg5⟩ : ∃ g5, wr.heap.size = g5 := ⟨_, rfl⟩
        rw [hg5] at HG6 hsz HAU ⊢
        clear hg5 z0 z1 u0
        have n0 : w6.cell? ⟨g5, 0, none⟩ = some (.string nm) := HG6.out.cell 0
        have n1 : w6.cell? ⟨g5, 1, none⟩ = some (.slice Ak mk ck) := HG6.out.cell 1
        have u0 : w6.cell? ⟨h0 + 1 + 1, 0, none⟩ = some (.slice Au i cu) := by rw [← HH0.out]; exact HC6.out.2.2.2.1.cell 0
        have hg5l : g5 < w6.heap.size := HG6.out.lt
        have hbd := ((Below.refl w6.heap.size w6).alloc (Nat.le_refl _) (.cells #[] 59)).drew
        have HCD := Lib.hid (HC6.out.on hbd)
        have HGD := Lib.hid (HG6.out.below hbd HG6.out.lt)
        have HED := Lib.hid (show ((w6.alloc (.cells #[] 59)).drew).ownsRow (w.heap.size + 3) 59 2 (.slice (some ⟨w6.heap.size, 0, none⟩) 0 0) 0 [] from own_base (own_more (own_empty w6 59 2) ((Below.refl _ _).drew)) HC6.out.size)
        have HKD := Lib.hid (show KeysAt ((w6.alloc (.cells #[] 59)).drew) ((w6.alloc (.cells #[] 59)).drew).heap.size (.slice Ak mk ck) vl from HCW.out _ HCD.out.1)
        have HZD := Lib.hid (show w.heap.size + 3 ≤ ((w6.alloc (.cells #[] 59)).drew).heap.size from HCD.out.size)
        clear hbd
        obtain ⟨q, hqd⟩ : ∃ q, q = min mk 30 := ⟨_, rfl⟩
        have hq1 : q ≤ mk ∧ q ≤ 30 := by omega
        have hmin : min (mk : Int) 30 = (q : Int) := by omega
        have HQD := Lib.hid hqd
        clear hqd
        have hq2 : (0 : Int) ≤ (q : Int) := by omega
        have hq3 : (q : Int) ≤ (ck : Int) := by omega
        have HRQ := Lib.hid (show Reads ((w6.alloc (.cells #[] 59)).drew) ((w6.alloc (.cells #[] 59)).drew).heap.size 2 Ak q (pairCells (vl.take 30)) from by
          obtain ⟨A', c', e', -, -, hR⟩ := HKD.out
          rw [HMK.out] at e' hR
          cases e'
          have := hR.take (k := q) (by omega)
          rw [← pairs_take] at this
          have e2 : vl.take q = vl.take 30 := (by
            rcases Nat.le_total mk 30 with h | h
            · rw [HQD.out, Nat.min_eq_left h, List.take_of_length_le (by rw [HMK.out]; exact Nat.le_refl _), List.take_of_length_le (by rw [HMK.out]; exact h)]
            · rw [HQD.out, Nat.min_eq_right h])
          rw [e2] at this
          exact this)
        have HQL := Lib.hid (show (vl.take 30).length = q from by rw [List.length_take, HMK.out]; omega)
        refine wp_region_L (fun W => W.cell? ⟨g5, 0, none⟩ = some (.string nm) ∧ W.cell? ⟨g5, 1, none⟩ = some (.slice Ak mk ck) ∧ W.cell? ⟨h0 + 1 + 1, 0, none⟩ = some (.slice Au i cu)) 17 (by kernel_rfl) (by go_keep) (fun hHeld => ?_)
        refine wpAnyL_take (i := 0) (d := (some 16)) (v := ?_) rfl rfl (by kernel_rfl) (by kernel_rfl) (by kernel_rfl) (by kernel_rfl) (fun _ _ _ h => h) (Or.inl ⟨by rfl, ?_⟩) (by assumption) ?_
        rotate_left
        · intro w hSw
          (try dsimp only at hSw)
          go_simp
          (try with_reducible rfl)
        (try simp only [Act.put, List.setIfInBounds_toArray, List.set_cons_zero, List.set_cons_succ])
        refine wpAnyL_take (i := 1) (d := (some 17)) (v := ?_) rfl rfl (by kernel_rfl) (by kernel_rfl) (by kernel_rfl) (by kernel_rfl) (fun _ _ _ h => h) (Or.inl ⟨by rfl, ?_⟩) (by assumption) ?_
        rotate_left
        · intro w hSw
          (try dsimp only at hSw)
          go_simp
          (try with_reducible rfl)
        (try simp only [Act.put, List.setIfInBounds_toArray, List.set_cons_zero, List.set_cons_succ])
        refine wpAnyL_take (i := 2) (d := (some 18)) (v := ?_) rfl rfl (by kernel_rfl) (by kernel_rfl) (by kernel_rfl) (by kernel_rfl) (fun _ _ _ h => h) (Or.inl ⟨by rfl, ?_⟩) (by assumption) ?_
        rotate_left
        · intro w hSw
          (try dsimp only at hSw)
          go_simp
          (try with_reducible rfl)
        (try simp only [Act.put, List.setIfInBounds_toArray, List.set_cons_zero, List.set_cons_succ])
        refine wpAnyL_take (i := 3) (d := (some 19)) (v := ?_) rfl rfl (by kernel_rfl) (by kernel_rfl) (by kernel_rfl) (by kernel_rfl) (fun _ _ _ h => h) (Or.inl ⟨by rfl, ?_⟩) (by assumption) ?_
        rotate_left
        · intro w hSw
          (try dsimp only at hSw)
          go_simp
          (try with_reducible rfl)
        (try simp only [Act.put, List.setIfInBounds_toArray, List.set_cons_zero, List.set_cons_succ])
        refine wpAnyL_take (i := 5) (d := (some 21)) (v := ?_) rfl rfl (by kernel_rfl) (by kernel_rfl) (by kernel_rfl) (by kernel_rfl) (fun _ _ _ h => h) (Or.inl ⟨by rfl, ?_⟩) (by assumption) ?_
        rotate_left
        · intro w hSw
          (try dsimp only at hSw)
          go_simp
          (try with_reducible rfl)
        (try simp only [Act.put, List.setIfInBounds_toArray, List.set_cons_zero, List.set_cons_succ])
        refine wpAnyL_take (i := 6) (d := (some 22)) (v := ?_) rfl rfl (by kernel_rfl) (by kernel_rfl) (by kernel_rfl) (by kernel_rfl) (fun _ _ _ h => h) (Or.inl ⟨by rfl, ?_⟩) (by assumption) ?_
        rotate_left
        · intro w hSw
          (try dsimp only at hSw)
          go_simp
          (try with_reducible rfl)
        (try simp only [Act.put, List.setIfInBounds_toArray, List.set_cons_zero, List.set_cons_succ])
        refine wpAnyL_take (i := 7) (d := (some 23)) (v := ?_) rfl rfl (by kernel_rfl) (by kernel_rfl) (by kernel_rfl) (by kernel_rfl) (fun _ _ _ h => h) (Or.inl ⟨by rfl, ?_⟩) (by assumption) ?_
        rotate_left
        · intro w hSw
          (try dsimp only at hSw)
          go_simp
          (try with_reducible rfl)
        (try simp only [Act.put, List.setIfInBounds_toArray, List.set_cons_zero, List.set_cons_succ])
        refine wpAnyL_take (i := 8) (d := (some 24)) (v := ?_) rfl rfl (by kernel_rfl) (by kernel_rfl) (by kernel_rfl) (by kernel_rfl) (fun _ _ _ h => h) (Or.inl ⟨by rfl, ?_⟩) (by assumption) ?_
        rotate_left
        · intro w hSw
          (try dsimp only at hSw)
          go_simp
          (try with_reducible rfl)
        (try simp only [Act.put, List.setIfInBounds_toArray, List.set_cons_zero, List.set_cons_succ])
        refine wpAnyL_take (i := 9) (d := (some 25)) (v := ?_) rfl rfl (by kernel_rfl) (by kernel_rfl) (by kernel_rfl) (by kernel_rfl) (fun _ _ _ h => h) (Or.inl ⟨by rfl, ?_⟩) (by assumption) ?_
        rotate_left
        · intro w hSw
          (try dsimp only at hSw)
          go_simp
          (try with_reducible rfl)
        (try simp only [Act.put, List.setIfInBounds_toArray, List.set_cons_zero, List.set_cons_succ])
        refine wpAnyL_take (i := 10) (d := (some 26)) (v := ?_) rfl rfl (by kernel_rfl) (by kernel_rfl) (by kernel_rfl) (by kernel_rfl) (fun _ _ _ h => h) (Or.inl ⟨by rfl, ?_⟩) (by assumption) ?_
        rotate_left
        · intro w hSw
          (try dsimp only at hSw)
          go_simp
          (try with_reducible rfl)
        (try simp only [Act.put, List.setIfInBounds_toArray, List.set_cons_zero, List.set_cons_succ])
        refine wpAnyL_take (i := 11) (d := (some 27)) (v := ?_) rfl rfl (by kernel_rfl) (by kernel_rfl) (by kernel_rfl) (by kernel_rfl) (fun _ _ _ h => h) (Or.inl ⟨by rfl, ?_⟩) (by assumption) ?_
        rotate_left
        · intro w hSw
          (try dsimp only at hSw)
          go_simp
          (try with_reducible rfl)
        (try simp only [Act.put, List.setIfInBounds_toArray, List.set_cons_zero, List.set_cons_succ])
        refine wpAnyL_step (i := 4) (d := (some 20)) (by kernel_rfl) rfl rfl (fun K hK => ?_)
        go_simp
        refine hK.out _ _ (by go_keep) (fun hHeld => ?_)
        clear hK K
        (try simp only [Act.put, List.setIfInBounds_toArray, List.set_cons_zero, List.set_cons_succ])
        refine wpAnyL_step (i := 12) (d := (some 28)) (by kernel_rfl) rfl rfl (fun K hK => ?_)
        (refine step_append_any (by rfl) (.tmp 20) (.tmp 27) 54 (by rfl) (w.heap.size + 3) 59 i1 _ 2 32 Tryz.underlying54 hi1 hy0 hy1 hy2 rfl (by omega) (.slice (some ⟨w6.heap.size, 0, none⟩) 0 0) 0 [] (by rfl) HED.out _ Ak q ck (pairCells (vl.take 30)) (by rfl) HRQ.out pairs_one (by simp only [maxLen]; omega) (by omega) HZD.out ?_; intro v7 w7 hown7 hg7 hat7; simp only [Nat.zero_add, List.nil_append] at hown7; obtain ⟨A7, c7, rfl, -, -, -⟩ := own_form hown7; have hb7 : Below w6.heap.size w6 w7 := (((Below.refl w6.heap.size w6).alloc (Nat.le_refl _) (.cells #[] 59)).drew).grown hg7 (by simp) (fun k hk => by cases hk; exact Nat.le_refl _); have HC7 := Lib.hid (HC6.out.on hb7); have HG7 := Lib.hid (HG6.out.below hb7 HG6.out.lt); have HO7 := Lib.hid hown7; have n0 := HG7.out.cell 0; have n1 := HG7.out.cell 1; have u0 : w7.cell? ⟨h0 + 1 + 1, 0, none⟩ = some (.slice Au i cu) := (by rw [← HH0.out]; exact HC7.out.2.2.2.1.cell 0); have hg5l : g5 < w7.heap.size := HG7.out.lt; have HC8 := Lib.hid (HC7.out.on ((Below.refl _ w7).alloc (Nat.le_refl _) (.cells #[.string nm, .slice A7 q c7] 56))); have HO8 := Lib.hid (own_more HO7.out ((Below.refl _ w7).alloc (Nat.le_refl _) (.cells #[.string nm, .slice A7 q c7] 56))); have HG8 := Lib.hid (HG7.out.alloc (.cells #[.string nm, .slice A7 q c7] 56)); have HN8 := Lib.hid (reads_new w7 #[.string nm, .slice A7 q c7] 56 2 1 rfl); have HB8 := Lib.hid HC8.out.2.2.2.2.1; have HZ8 := Lib.hid HC8.out.size; clear hown7 hg7 hat7 hb7)
        refine hK.out _ _ (by go_keep) (fun hHeld => ?_)
        clear hK K
        (try simp only [Act.put, List.setIfInBounds_toArray, List.set_cons_zero, List.set_cons_succ])
        refine wpAnyL_take (i := 13) (d := (some 29)) (v := ?_) rfl rfl (by kernel_rfl) (by kernel_rfl) (by kernel_rfl) (by kernel_rfl) (fun _ _ _ h => h) (Or.inl ⟨by rfl, ?_⟩) (by assumption) ?_
        rotate_left
        · intro w hSw
          (try dsimp only at hSw)
          go_simp
          (try with_reducible rfl)
        (try simp only [Act.put, List.setIfInBounds_toArray, List.set_cons_zero, List.set_cons_succ])
        refine wpAnyL_step (i := 14) (d := (some 30)) (by kernel_rfl) rfl rfl (fun K hK => ?_)
        go_simp
        refine hK.out _ _ (by go_keep) (fun hHeld => ?_)
        clear hK K
        (try simp only [Act.put, List.setIfInBounds_toArray, List.set_cons_zero, List.set_cons_succ])
        refine wpAnyL_step (i := 15) (d := (some 31)) (by kernel_rfl) rfl rfl (fun K hK => ?_)
        (refine step_append_any (by rfl) (.tmp 17) (.tmp 30) 22 (by rfl) (w.heap.size + 3) 56 i0 _ 2 40 Tryz.underlying22 hi0 hz0 hz1 hz2 rfl (by omega) (.slice Au i cu) i (stepCells ((l.take i).map cutB) us) (by rfl) (by rw [HML.out] at HB8; exact HB8.out) (w7.heap.size + 1) (some ⟨w7.heap.size, 0, none⟩) 1 1 [.string nm, .slice A7 q c7] (by rfl) HN8.out (by simp [Value.oneCell']) (by simp only [maxLen]; omega) (by omega) HZ8.out ?_; intro v9 w9 hown9 hg9 hat9; have hp9 := HC8.out.push (nm, vl.take 30) HML.out (by rw [HQL.out]; exact HO8.out) hown9 hg9; obtain ⟨A9, c9, rfl, -, -, -⟩ := own_form hown9; have HC9 := Lib.hid hp9.1; have HF9 := Lib.hid hp9.2; have HG9 := Lib.hid (HG8.out.grown hg9 (fun e => by have := HAU.out g5 e.symm; omega)); have n0 := HG9.out.cell 0; have n1 := HG9.out.cell 1; have u0 : w9.cell? ⟨h0 + 1 + 1, 0, none⟩ = some (.slice Au i cu) := (by rw [← HH0.out]; exact HF9.out.cell 0); have u3 : w9.frozen? ⟨h0 + 1 + 1, 0, none⟩ = false := (by rw [← HH0.out]; exact HF9.out.frozen 0); clear hown9 hg9 hat9 hp9)
        refine hK.out _ _ (by go_keep) (fun hHeld => ?_)
        clear hK K
        (try simp only [Act.put, List.setIfInBounds_toArray, List.set_cons_zero, List.set_cons_succ])
        refine wpAnyL_take (i := 16) (d := (some 32)) (v := ?_) rfl rfl (by kernel_rfl) (by kernel_rfl) (by kernel_rfl) (by kernel_rfl) (fun _ _ _ h => h) (Or.inl ⟨by rfl, ?_⟩) (by assumption) ?_
        rotate_left
        · intro w hSw
          (try dsimp only at hSw)
          go_simp
          (try with_reducible rfl)
        (try simp only [Act.put, List.setIfInBounds_toArray, List.set_cons_zero, List.set_cons_succ])
        refine wpAnyL_last (by kernel_rfl) (by kernel_rfl) rfl (fun K hK => ?_)
        go_simp
        refine hK.out _ _ ?_
        clear hK K
        (try simp only [Act.put, List.setIfInBounds_toArray, List.set_cons_zero, List.set_cons_succ])
        clear n0 n1 u0 u3
        have HC10 := Lib.hid (show CutAt w (.slice (some ⟨kb, ko, none⟩) n c) (w9.setCell ⟨h0 + 1 + 1, 0, none⟩ (.slice A9 (i + 1) c9)) (.slice A9 (i + 1) c9) ((l.take i).map cutB ++ [(nm, vl.take 30)]) (us ++ [.slice A7 q c7]) from by have := HC9.out; rw [HH0.out] at this; exact this)
        generalize w9.setCell ⟨h0 + 1 + 1, 0, none⟩ (.slice A9 (i + 1) c9) = w10 at *
        go_wp2
        go_roundw
        case rel => exact ⟨i + 1, _, us ++ [.slice A7 q c7], by go_num, hlt, by omega, by rw [List.take_add_one, HB.out, List.map_append]; exact HC10.out⟩
        case measure => simp [Lib.intOf]; omega
    · obtain rfl : i = n := by omega
      have hq : ¬ (i : Int) < (i : Int) := by omega
      have HFI := Lib.hid (HFIN.out i wr _ us (.inl rfl) hi h10 HC.out)
      go_wp2
      (try simp only [Exit.inBlock, Exit.then])
      exact bodyPost_ret (cut_result HFI.out.2.2 rfl) rfl ⟨_, _, rfl, by rw [HH0.out]; exact HFI.out.1, by rw [HH0.out]; exact HFI.out.2.1⟩
end Go.Proofs.YtfpepdjffehbcaaGreat
