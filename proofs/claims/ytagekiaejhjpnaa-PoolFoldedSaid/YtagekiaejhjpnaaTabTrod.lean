/-
  A slice of slices of rows that came in, as a list of tables. No condition.
-/
import Derived.Test.YtagekiaejhjpnaaPoolRows
import Derived.Test.YtagekiaejhjpnaaPutTable
namespace Go.Proofs.Ytagekiaejhjpnaa
open Go.RowKit Go.ChangeShapes Go.WideShapes Go.Deep

theorem rows_of_cs {H : Type} {enc : TypeId × Value → H} {P : Program} {w : World} {t e : TypeId} {f1 f2 : Field} {v : Value} {fuel : Nat} {x : DataW H × List MemPlace}
    (ht : P.underlying t = some (.slice e)) (he : P.underlying e = some (.struct #[f1, f2])) (hone : oneCellFields P #[f1, f2] = true) (hC : P.cellsOf e = 2) (hby : P.bytesOf e = 8)
    (h1 : P.underlying f1.type = some (.int .u32)) (h2 : P.underlying f2.type = some (.int .u32)) (hwt : ∀ n ∈ x.1.weights P t, n ≤ 140737488351232)
    (hf : DataW.trod enc P w 0 (fun _ => true) true fuel t [v] = some x) :
    ∃ (l : List RowI), RowsR w w.heap.size v l ∧ RowsOk l ∧ l.length * 8 ≤ 140737488351232 := by
  rcases open_slice_fields ht he hone hC hf with ⟨hcs, _⟩ | ⟨a, len, c, m, D, Pl, hcs, _, hl, hm, hmm, hxx, hi⟩
  · simp only [List.cons.injEq, and_true] at hcs
    subst hcs
    exact ⟨[], rows_nil _ _, (fun q hq => by cases hq), by simp⟩
  · simp only [List.cons.injEq, and_true] at hcs
    subst hcs
    have hmm' : m = c := by simpa using hmm
    subst hmm'
    have hcell : ∀ i, i < m → ∃ q : Int × Int, w.cell? (a.add (i * 2)) = some (.int .u32 q.1) ∧ w.cell? (a.add (i * 2 + 1)) = some (.int .u32 q.2) ∧ (Lit.int .u32 q.1).wf = true ∧ (Lit.int .u32 q.2).wf = true := by
      intro i him
      obtain ⟨ys, n, _, _, _, hfs⟩ := hi i him
      obtain ⟨v1, y1, hc1, _, ht1⟩ := hfs 0 f1 rfl
      obtain ⟨v2, y2, hc2, _, ht2⟩ := hfs 1 f2 rfl
      obtain ⟨n1, e1, _, w1⟩ := DataW.trod_int h1 ht1
      obtain ⟨n2, e2, _, w2⟩ := DataW.trod_int h2 ht2
      simp only [List.cons.injEq, and_true] at e1 e2
      subst e1; subst e2
      exact ⟨(n1, n2), by simpa using hc1, by simpa using hc2, w1, w2⟩
    obtain ⟨f, hf'⟩ := choose_lt hcell
    have hget : ∀ i, i < len → ((List.range len).map f).getD i (0, 0) = f i := fun i hi' => by simp [List.getD_eq_getElem?_getD, hi']
    refine ⟨(List.range len).map f, ⟨some a, m, by simp, by simpa using hl, hm, ⟨by rw [rowCells_len], fun hn => ⟨a, rfl, ?_, fun j u hu => ?_⟩⟩⟩, fun q hq => ?_, ?_⟩
    · have hn' : 0 < len := by simpa using hn
      have := World.block_lt_of_cell? _ _ (hf' 0 (by omega)).1
      rwa [block_of_add] at this
    · obtain ⟨i, hi', hju⟩ := pvs_inv .u32 .u32 _ j u hu
      have hi2 : i < len := by simpa using hi'
      rw [hget i hi2] at hju
      rcases hju with ⟨rfl, rfl⟩ | ⟨rfl, rfl⟩
      · exact (hf' i (by omega)).1
      · exact (hf' i (by omega)).2.1
    · obtain ⟨i, hi', rfl⟩ := List.mem_map.1 hq
      have := (hf' i (by have := List.mem_range.1 hi'; omega)).2.2
      exact ⟨u32_range this.1, u32_range this.2⟩
    · have hw1 := hwt ((len + (m - len)) * P.bytesOf e) (by rw [hxx]; simp only [DataW.weights, ht]; simp)
      rw [hby] at hw1
      simp
      omega
theorem tabs_of_trod {H : Type} {enc : TypeId × Value → H} {P : Program} {w : World} {b0 : Nat} {tt t e : TypeId} {f1 f2 : Field} {v : Value} {d : DataW H} {p : List MemPlace}
    (htt : P.underlying tt = some (.slice t)) (hct : P.cellsOf t = 1) (hbt : P.bytesOf t = 24) (ht : P.underlying t = some (.slice e)) (he : P.underlying e = some (.struct #[f1, f2])) (hone : oneCellFields P #[f1, f2] = true) (hC : P.cellsOf e = 2) (hby : P.bytesOf e = 8)
    (h1 : P.underlying f1.type = some (.int .u32)) (h2 : P.underlying f2.type = some (.int .u32)) (hwt : ∀ n ∈ d.weights P tt, n ≤ 140737488351232)
    (hv : Value.okWide P w .any b0 tt v) (h : DataW.Trod enc P w 0 (fun _ => true) true tt v d p) :
    ∃ ps : List (Value × List RowI), TabsP w w.heap.size v ps ∧ (∀ x ∈ ps, RowsOk x.2) ∧ (∀ x ∈ ps, x.2.length * 8 ≤ 140737488351232) ∧ ps.length * 24 ≤ 140737488351232 := by
  obtain ⟨A, len, cap, rfl⟩ := okWide_slice htt hv
  obtain ⟨fuel, hf⟩ := h
  rcases open_slice1 htt hct hf with ⟨hcs, _⟩ | ⟨a, l, c, m, n, V, D, Pl, hcs, hb, hl, hm, hmm, hxx, hx⟩
  · simp [Value.cells] at hcs
    obtain ⟨rfl, rfl, rfl⟩ := hcs
    exact ⟨[], tabs_nil _ _, (fun x hx => by cases hx), (fun x hx => by cases hx), by simp⟩
  · simp [Value.cells] at hcs
    obtain ⟨rfl, rfl, rfl⟩ := hcs
    have hmm' : m = cap := by simpa using hmm
    subst hmm'
    simp only [Prod.mk.injEq] at hxx
    have hall : ∀ (l : List (DataW H)) (y : DataW H), y ∈ l → ∀ n ∈ y.weights P t, n ∈ DataW.weightsAll P t l := by
      intro l
      induction l with
      | nil => intro y hy; cases hy
      | cons z l ih =>
        intro y hy n hn
        simp only [DataW.weightsAll, List.mem_append]
        rcases List.mem_cons.1 hy with rfl | hy
        · exact .inl hn
        · exact .inr (ih y hy n hn)
    have hel : ∀ i, i < len → ∃ l : List RowI, RowsR w w.heap.size (V i) l ∧ RowsOk l ∧ l.length * 8 ≤ 140737488351232 := by
      intro i hi
      refine rows_of_cs ht he hone hC hby h1 h2 (fun n hn => hwt n ?_) (hx i (by omega)).2
      rw [hxx.1]
      simp only [DataW.weights, htt, List.mem_cons, List.mem_append]
      exact .inr (.inl (hall _ (D i) (List.mem_map.2 ⟨i, List.mem_range.2 hi, rfl⟩) n hn))
    obtain ⟨f, hf'⟩ := choose_lt hel
    refine ⟨(List.range len).map fun i => (V i, f i), ⟨some a, m, by simp, by simpa using hl, hm, ⟨by simp, fun hn => ⟨a, rfl, ?_, fun j u hu => ?_⟩⟩, fun x hx => ?_⟩, fun x hx => ?_, fun x hx => ?_, ?_⟩
    · have hn' : 0 < len := by simpa using hn
      have := World.block_lt_of_cell? _ _ (hx 0 (by omega)).1
      rwa [block_of_add] at this
    · rw [List.map_map, List.getElem?_map] at hu
      by_cases hj : j < len
      · simp [hj] at hu
        rw [← hu]
        exact (hx j (by omega)).1
      · simp [hj] at hu
    · obtain ⟨i, hi', rfl⟩ := List.mem_map.1 hx
      exact (hf' i (List.mem_range.1 hi')).1
    · obtain ⟨i, hi', rfl⟩ := List.mem_map.1 hx
      exact (hf' i (List.mem_range.1 hi')).2.1
    · obtain ⟨i, hi', rfl⟩ := List.mem_map.1 hx
      exact (hf' i (List.mem_range.1 hi')).2.2
    · have hw1 := hwt ((len + (m - len)) * P.bytesOf t) (by rw [hxx.1]; simp only [DataW.weights, htt]; simp)
      rw [hbt] at hw1
      simp
      omega
end Go.Proofs.Ytagekiaejhjpnaa
