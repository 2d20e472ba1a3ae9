/-
  A slice of strings that came in, as a list of texts. No condition.
-/
import Derived.Test.YtagekiaejhjpnaaPoolStr
import Derived.SliceStrings
import Derived.SizedLaws
namespace Go.Proofs.Ytagekiaejhjpnaa
open Go.RowKit Go.ChangeShapes Go.WideShapes

theorem texts_of_trod {H : Type} {enc : TypeId × Value → H} {P : Program} {w : World} {b0 : Nat} {t e : TypeId} {v : Value} {d : DataW H} {p : List MemPlace}
    (ht : P.underlying t = some (.slice e)) (he : P.underlying e = some .string) (hc : P.cellsOf e = 1) (hby : P.bytesOf e = 16) (hwt : ∀ n ∈ d.weights P t, n ≤ 140737488351232)
    (hv : Value.okWide P w .any b0 t v) (h : DataW.Trod enc P w 0 (fun _ => true) true t v d p) :
    ∃ (l : List ByteArray), Txts w w.heap.size v l ∧ (∀ s ∈ l, s.size ≤ 140737488351232) ∧ l.length * 16 ≤ 140737488351232 ∧ (d = .nil ∧ l = [] ∨ ∃ ss : List ByteArray, d = .slice (strs l) (strs ss)) := by
  obtain ⟨A, len, cap, rfl⟩ := okWide_slice ht hv
  obtain ⟨fuel, hf⟩ := h
  rcases open_strings ht he hc hf with ⟨hcs, hx⟩ | ⟨x, l, c, ss, hcs, _, hl, hm, hz, hx, hcell, hwz⟩
  · simp [Value.cells] at hcs
    obtain ⟨rfl, rfl, rfl⟩ := hcs
    simp only [Prod.mk.injEq] at hx
    exact ⟨[], ⟨none, 0, rfl, by simp, by simp [maxLen], Reads.none_⟩, by simp, by simp, .inl ⟨hx.1, rfl⟩⟩
  · simp [Value.cells] at hcs
    obtain ⟨rfl, rfl, rfl⟩ := hcs
    simp only [Prod.mk.injEq] at hx
    have hz' : ss.length = cap := by simpa using hz
    have hlen : (ss.take len).length = len := by rw [List.length_take]; omega
    have hw1 := hwt ((len + (cap - len)) * P.bytesOf e) (by rw [hx.1]; simp only [DataW.weights, ht, strs, List.length_map, List.length_take, List.length_drop, hz', Nat.min_eq_left hl]; simp)
    rw [hby] at hw1
    refine ⟨ss.take len, ⟨some x, cap, by rw [hlen], by rw [hlen]; exact hl, hm, ⟨by simp, fun hn => ⟨x, rfl, ?_, fun j u hu => ?_⟩⟩⟩, fun s hs => ?_, by rw [hlen]; omega, .inr ⟨ss.drop len, hx.1⟩⟩
    · rw [hlen] at hn
      have := World.block_lt_of_cell? _ _ (hcell 0 (by omega))
      rwa [block_of_add] at this
    · rw [List.getElem?_map] at hu
      cases hj : (ss.take len)[j]? with
      | none => rw [hj] at hu; cases hu
      | some y =>
        rw [hj] at hu
        cases hu
        obtain ⟨hjl, rfl⟩ := List.getElem?_eq_some_iff.1 hj
        have hj2 : j < ss.length := by rw [hlen] at hjl; omega
        have := hcell j hj2
        rw [this]
        simp [List.getD_eq_getElem?_getD, hj2]
    · have := hwt s.data.toList.length (by
        rw [hx.1]
        simp only [DataW.weights, ht, List.mem_cons, List.mem_append]
        refine .inr (.inl ?_)
        have hmem : ∀ (l : List ByteArray), s ∈ l → s.data.toList.length ∈ DataW.weightsAll P e (strs (H := H) l) := by
          intro l
          induction l with
          | nil => simp
          | cons y l ih =>
            intro hs
            simp only [strs, List.map_cons, DataW.weightsAll, DataW.weights, List.mem_append, List.mem_singleton] at ih ⊢
            rcases List.mem_cons.1 hs with rfl | hs
            · exact .inl rfl
            · exact .inr (ih hs)
        exact hmem _ hs)
      simpa using this
end Go.Proofs.Ytagekiaejhjpnaa
