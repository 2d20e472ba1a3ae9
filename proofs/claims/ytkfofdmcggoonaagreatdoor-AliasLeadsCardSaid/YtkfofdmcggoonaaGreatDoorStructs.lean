/-
  An argument that is a slice of structs of one-cell fields, opened to cells; no program in sight. Plain lemmas; no condition.
-/
import Derived.Test.YtkfofdmcggoonaaGreatDoorBlocks
import Derived.Deep.Slices
import Derived.Deep.Fields
import Derived.ChangeSame
set_option linter.unusedVariables false
set_option linter.unusedSimpArgs false
namespace Go.Proofs.YtkfofdmcggoonaaGreatDoor
open Go.RowKit Go.ChangeShapes Go.WideShapes Go.Deep
section
variable {H : Type} {enc : TypeId × Value → H} {P : Program} {w : World} {base : Nat} {spare : Nat → Bool} {held : Bool}
theorem open_slice_fields {t e : TypeId} {fs : Array Field} {fuel : Nat} {cs : List Value} {x : DataW H × List MemPlace} (ht : P.underlying t = some (.slice e)) (he : P.underlying e = some (.struct fs))
    (hone : oneCellFields P fs = true) (hC : P.cellsOf e = fs.size) (h : DataW.trod enc P w base spare held fuel t cs = some x) :
    (cs = [.slice none 0 0] ∧ x = (.nil, [])) ∨
    ∃ (a : Addr) (len cap m : Nat) (D : Nat → DataW H) (Pl : Nat → List MemPlace), cs = [.slice (some a) len cap] ∧ base ≤ a.block ∧ len ≤ cap ∧ cap ≤ maxLen ∧ m = (if spare a.block then cap else len) ∧
      x = (.slice ((List.range len).map D) ((List.range (m - len)).map fun j => D (len + j)), MemPlace.row a (m * fs.size) ++ (List.range m).flatMap Pl) ∧
      ∀ i, i < m → ∃ (ys : List (DataW H × List MemPlace)) (n : Nat), D i = .agg (ys.map (·.1)) ∧ Pl i = ys.flatMap (·.2) ∧ ys.length = fs.size ∧
        ∀ (j : Nat) (f : Field), fs[j]? = some f → ∃ (v : Value) (y : DataW H × List MemPlace), w.cell? (a.add (i * fs.size + j)) = some v ∧ ys[j]? = some y ∧ DataW.trod enc P w base spare held n f.type [v] = some y := by
  rcases open_slice ht h with h0 | ⟨a, len, cap, m, n, D, Pl, hcs, hb, hl, hm, hmm, hx, hi⟩
  · exact .inl h0
  · refine .inr ⟨a, len, cap, m, D, Pl, hcs, hb, hl, hm, hmm, by rw [hC] at hx; exact hx, fun i him => ?_⟩
    obtain ⟨cs', hc, ht'⟩ := hi i him
    rw [hC] at hc
    obtain ⟨ys, n', hn', hy, hlen, hyl, hf⟩ := DataW.trod_struct he ht'
    obtain ⟨_, hcl, hat⟩ := World.cells?_some hc
    simp only [Prod.mk.injEq] at hy
    refine ⟨ys, n', hy.1, hy.2, hyl, fun j f hj => ?_⟩
    obtain ⟨ho, hk⟩ := hone_of hone j f hj
    have hjl : j < fs.size := (Array.getElem?_eq_some_iff.1 hj).1
    have hcell := hat j hjl
    have hv : cs'[j]? = some (cs'[j]'(by omega)) := List.getElem?_eq_getElem (by omega)
    have h1 := hf j f hj
    rw [ho, hk] at h1
    have hone' : (cs'.drop j).take 1 = [cs'[j]'(by omega)] := by
      rw [List.drop_eq_getElem_cons (by omega)]
      rfl
    rw [hone'] at h1
    have hys : ys[j]? = some (ys[j]'(by omega)) := List.getElem?_eq_getElem (by omega)
    refine ⟨_, _, ?_, hys, h1.trans hys⟩
    rw [← Go.Deep.add_add, hcell, hv]
end

/-- Pairs of integers as cells. -/
def pvs (k1 k2 : IntKind) (ps : List (Int × Int)) : List Value := ps.flatMap fun p => [.int k1 p.1, .int k2 p.2]
theorem pvs_len (k1 k2 : IntKind) (ps : List (Int × Int)) : (pvs k1 k2 ps).length = ps.length * 2 := by
  induction ps with
  | nil => rfl
  | cons p ps ih =>
    have : pvs k1 k2 (p :: ps) = [.int k1 p.1, .int k2 p.2] ++ pvs k1 k2 ps := by simp [pvs]
    rw [this, List.length_append, ih, List.length_cons]
    simp only [List.length_cons, List.length_nil]
    omega
theorem pvs_get (k1 k2 : IntKind) : ∀ (ps : List (Int × Int)) (i : Nat), i < ps.length → (pvs k1 k2 ps)[i * 2]? = some (.int k1 (ps.getD i (0, 0)).1) ∧ (pvs k1 k2 ps)[i * 2 + 1]? = some (.int k2 (ps.getD i (0, 0)).2)
  | [], i, h => by simp at h
  | p :: ps, 0, _ => by simp [pvs]
  | p :: ps, i + 1, h => by
    have := pvs_get k1 k2 ps i (by simpa using h)
    have e : pvs k1 k2 (p :: ps) = .int k1 p.1 :: .int k2 p.2 :: pvs k1 k2 ps := by simp [pvs]
    rw [e, show (i + 1) * 2 = i * 2 + 1 + 1 by omega]
    simpa using this
theorem pvs_inv (k1 k2 : IntKind) : ∀ (ps : List (Int × Int)) (j : Nat) (u : Value), (pvs k1 k2 ps)[j]? = some u → ∃ i, i < ps.length ∧ ((j = i * 2 ∧ u = .int k1 (ps.getD i (0, 0)).1) ∨ (j = i * 2 + 1 ∧ u = .int k2 (ps.getD i (0, 0)).2)) := by
  intro ps j u h
  have hj : j < ps.length * 2 := by
    rw [← pvs_len k1 k2 ps]
    exact (List.getElem?_eq_some_iff.1 h).1
  have hg := pvs_get k1 k2 ps (j / 2) (by omega)
  rcases Nat.mod_two_eq_zero_or_one j with h2 | h2
  · refine ⟨j / 2, by omega, .inl ⟨by omega, ?_⟩⟩
    rw [show j / 2 * 2 = j by omega, h] at hg
    exact Option.some.inj hg.1
  · refine ⟨j / 2, by omega, .inr ⟨by omega, ?_⟩⟩
    rw [show j / 2 * 2 + 1 = j by omega, h] at hg
    exact Option.some.inj hg.2
/-- A slice of structs of two integers that came in. -/
theorem pairs_of_trod {H : Type} {enc : TypeId × Value → H} {P : Program} {w : World} {b0 : Nat} {t e : TypeId} {f1 f2 : Field} {k1 k2 : IntKind} {v : Value} {d : DataW H} {p : List MemPlace}
    (ht : P.underlying t = some (.slice e)) (he : P.underlying e = some (.struct #[f1, f2])) (hone : oneCellFields P #[f1, f2] = true) (hC : P.cellsOf e = 2)
    (h1 : P.underlying f1.type = some (.int k1)) (h2 : P.underlying f2.type = some (.int k2))
    (hv : Value.okWide P w .any b0 t v) (h : DataW.Trod enc P w 0 (fun _ => true) true t v d p) :
    ∃ (A : Option Addr) (c : Nat) (ps : List (Int × Int)), v = .slice A ps.length c ∧ ps.length ≤ c ∧ c ≤ maxLen ∧ Reads w w.heap.size 2 A ps.length (pvs k1 k2 ps) ∧ (∀ q ∈ ps, (Lit.int k1 q.1).wf = true ∧ (Lit.int k2 q.2).wf = true) := by
  obtain ⟨a, len, cap, rfl⟩ := okWide_slice ht hv
  obtain ⟨fuel, hf⟩ := h
  rcases open_slice_fields ht he hone hC hf with ⟨hcs, _⟩ | ⟨x, l, c, m, D, Pl, hcs, _, hl, hm, hmm, _, hi⟩
  · simp [Value.cells] at hcs
    obtain ⟨rfl, rfl, rfl⟩ := hcs
    exact ⟨none, 0, [], rfl, by simp, by simp [maxLen], Reads.none_, by simp⟩
  · simp [Value.cells] at hcs
    obtain ⟨rfl, rfl, rfl⟩ := hcs
    have hmm' : m = cap := by simpa using hmm
    subst hmm'
    have hcell : ∀ i, i < m → ∃ q : Int × Int, w.cell? (x.add (i * 2)) = some (.int k1 q.1) ∧ w.cell? (x.add (i * 2 + 1)) = some (.int k2 q.2) ∧ (Lit.int k1 q.1).wf = true ∧ (Lit.int k2 q.2).wf = true := by
      intro i him
      obtain ⟨ys, n, _, _, _, hfs⟩ := hi i him
      obtain ⟨v1, y1, hc1, _, ht1⟩ := hfs 0 f1 rfl
      obtain ⟨v2, y2, hc2, _, ht2⟩ := hfs 1 f2 rfl
      obtain ⟨n1, e1, _, w1⟩ := DataW.trod_int h1 ht1
      obtain ⟨n2, e2, _, w2⟩ := DataW.trod_int h2 ht2
      simp only [List.cons.injEq, and_true] at e1 e2
      subst e1; subst e2
      exact ⟨(n1, n2), by simpa using hc1, by simpa using hc2, w1, w2⟩
    obtain ⟨f, hf'⟩ := choose_lt hcell
    have hget : ∀ i, i < len → ((List.range len).map f).getD i (0, 0) = f i := fun i hi' => by simp [List.getD_eq_getElem?_getD, hi']
    refine ⟨some x, m, (List.range len).map f, by simp, by simpa using hl, hm, ⟨by rw [pvs_len], fun hn => ⟨x, rfl, ?_, fun j u hu => ?_⟩⟩, fun q hq => ?_⟩
    · have hn' : 0 < len := by simpa using hn
      have := World.block_lt_of_cell? _ _ (hf' 0 (by omega)).1
      rwa [block_of_add] at this
    · obtain ⟨i, hi', hju⟩ := pvs_inv k1 k2 _ j u hu
      have hi2 : i < len := by simpa using hi'
      rw [hget i hi2] at hju
      rcases hju with ⟨rfl, rfl⟩ | ⟨rfl, rfl⟩
      · exact (hf' i (by omega)).1
      · exact (hf' i (by omega)).2.1
    · obtain ⟨i, hi', rfl⟩ := List.mem_map.1 hq
      exact (hf' i (by have := List.mem_range.1 hi'; omega)).2.2
end Go.Proofs.YtkfofdmcggoonaaGreatDoor
