/-
  A slice of rows that came in, as a list of pairs of numbers. No condition.
-/
import Derived.Test.YtagekiaejhjpnaaPoolRow
import Derived.Test.YtagekiaejhjpnaaStructs
import Derived.SizedLaws
namespace Go.Proofs.Ytagekiaejhjpnaa
open Go.RowKit Go.ChangeShapes Go.WideShapes Go.Deep

theorem row_info : (Try.prog.info? 38).map (fun i => (i.zero, i.size, i.bytes)) = some (some (.agg #[.int .u32 0, .int .u32 0]), 2, 8) := by kernel_rfl
/-- Rows whose numbers are of 32 bits. -/
def RowsOk (l : List RowI) : Prop := ∀ q ∈ l, (0 ≤ q.1 ∧ q.1 < 4294967296) ∧ 0 ≤ q.2 ∧ q.2 < 4294967296
theorem u32_range {n : Int} (h : (Lit.int .u32 n).wf = true) : 0 ≤ n ∧ n < 4294967296 := by
  have h0 : IntKind.u32.min = 0 := rfl
  have h1 : IntKind.u32.max = 4294967295 := rfl
  simp [Lit.wf] at h
  omega
theorem rows_of_trod {H : Type} {enc : TypeId × Value → H} {P : Program} {w : World} {b0 : Nat} {t e : TypeId} {f1 f2 : Field} {v : Value} {d : DataW H} {p : List MemPlace}
    (ht : P.underlying t = some (.slice e)) (he : P.underlying e = some (.struct #[f1, f2])) (hone : oneCellFields P #[f1, f2] = true) (hC : P.cellsOf e = 2) (hby : P.bytesOf e = 8)
    (h1 : P.underlying f1.type = some (.int .u32)) (h2 : P.underlying f2.type = some (.int .u32)) (hwt : ∀ n ∈ d.weights P t, n ≤ 140737488351232)
    (hv : Value.okWide P w .any b0 t v) (h : DataW.Trod enc P w 0 (fun _ => true) true t v d p) :
    ∃ (l : List RowI), RowsR w w.heap.size v l ∧ RowsOk l ∧ l.length * 8 ≤ 140737488351232 := by
  obtain ⟨A, c, l, rfl, hc, hm, hR, hw⟩ := pairs_of_trod ht he hone hC h1 h2 hv h
  refine ⟨l, ⟨A, c, rfl, hc, hm, hR⟩, fun q hq => ⟨u32_range (hw q hq).1, u32_range (hw q hq).2⟩, ?_⟩
  obtain ⟨fuel, hf⟩ := h
  rcases open_slice_fields ht he hone hC hf with ⟨hcs, _⟩ | ⟨x, n, c', m, D, Pl, hcs, _, hl, hm, hmm, hx, hi⟩
  · simp [Value.cells] at hcs
    omega
  · simp [Value.cells] at hcs
    obtain ⟨rfl, rfl, rfl⟩ := hcs
    simp only [Prod.mk.injEq] at hx
    have hw1 := hwt ((l.length + (m - l.length)) * P.bytesOf e) (by rw [hx.1]; simp only [DataW.weights, ht]; simp)
    rw [hby] at hw1
    omega
end Go.Proofs.Ytagekiaejhjpnaa
