/-
  Tables that are read one behind another: a row of rows of the call's own. Plain lemmas; no condition.
-/
import Derived.Test.YtfpepdjffehbcaaGreatBunCut
set_option linter.unusedVariables false
set_option linter.unusedSimpArgs false
namespace Go.Proofs.YtfpepdjffehbcaaGreat
open Go.RowKit

theorem own_unlike {w : World} {base base' : Nat} {e e' : TypeId} {size size' n n' : Nat} {v v' : Value} {xs xs' : List Value} (h : w.ownsRow base e size v n xs) (h' : w.ownsRow base' e' size' v' n' xs') (hee : e ≠ e') {k : Nat} (h1 : v.ownBlock = some k) : v'.ownBlock ≠ some k := by
  intro h2
  rcases h'.2 with ⟨rfl, -⟩ | ⟨g', cap, cur, rfl, _, hh, _⟩
  · simp [Value.ownBlock] at h2
  · have hg : g' = k := by simpa [Value.ownBlock] using h2
    subst hg
    exact own_blkB h hh hee h1 rfl
/-- A list of texts of the call's own, at B or above, below C. -/
def TxtO (W : World) (B C : Nat) (v : Value) (M : List ByteArray) : Prop := W.ownsRow B 9 1 v M.length (M.map Value.string) ∧ ∀ k, v.ownBlock = some k → k < C
theorem TxtO.on {W W' : World} {B C : Nat} {v : Value} {M : List ByteArray} (h : TxtO W B C v M) (hb : Below W.heap.size W W') : TxtO W' B C v M := ⟨own_more h.1 hb, h.2⟩
theorem TxtO.kept {W W' : World} {B C : Nat} {v : Value} {M : List ByteArray} {row : Option Nat} (h : TxtO W B C v M) (hg : W.grownBy W' row) (hr : ∀ k, row = some k → k < B ∨ C ≤ k) : TxtO W' B C v M :=
  ⟨own_stays2 h.1 hg fun k hk e => by have h1 := hr k e; have h2 := (h.1.lt k hk).1; have h3 := h.2 k hk; omega, h.2⟩
theorem TxtO.up {W : World} {B C : Nat} {v : Value} {M : List ByteArray} (h : TxtO W B C v M) {D : Nat} (hD : C ≤ D) : TxtO W B D v M := ⟨h.1, fun k hk => Nat.lt_of_lt_of_le (h.2 k hk) hD⟩
theorem TxtO.txts {W : World} {B C : Nat} {v : Value} {M : List ByteArray} (h : TxtO W B C v M) : Txts W W.heap.size v M := own_form h.1
/-- Tables at B or above, below C. -/
def TabO (W : World) (B C : Nat) (tv : Value) (ps : List (Value × List RowI)) : Prop :=
  W.ownsRow B 50 1 tv ps.length (ps.map Prod.fst) ∧ (∀ k, tv.ownBlock = some k → k < C) ∧ ∀ x ∈ ps, W.ownsRow B 73 2 x.1 x.2.length (rowCells x.2) ∧ ∀ k, x.1.ownBlock = some k → k < C
theorem TabO.nil (W : World) (B C : Nat) : TabO W B C (.slice none 0 0) [] := ⟨World.ownsRow_nil _ _ _ _, (fun k h => by simp [Value.ownBlock] at h), fun x hx => by cases hx⟩
theorem TabO.on {W W' : World} {B C : Nat} {tv : Value} {ps : List (Value × List RowI)} (h : TabO W B C tv ps) (hb : Below W.heap.size W W') : TabO W' B C tv ps := ⟨own_more h.1 hb, h.2.1, fun x hx => ⟨own_more (h.2.2 x hx).1 hb, (h.2.2 x hx).2⟩⟩
/-- Kept where a block below B or from C on turns. -/
theorem TabO.kept {W W' : World} {B C : Nat} {tv : Value} {ps : List (Value × List RowI)} {row : Option Nat} (h : TabO W B C tv ps) (hg : W.grownBy W' row) (hr : ∀ k, row = some k → k < B ∨ C ≤ k) : TabO W' B C tv ps :=
  ⟨own_stays2 h.1 hg fun k hk e => by have h1 := hr k e; have h2 := (h.1.lt k hk).1; have h3 := h.2.1 k hk; omega, h.2.1,
   fun x hx => ⟨own_stays2 (h.2.2 x hx).1 hg fun k hk e => by have h1 := hr k e; have h2 := ((h.2.2 x hx).1.lt k hk).1; have h3 := (h.2.2 x hx).2 k hk; omega, (h.2.2 x hx).2⟩⟩
theorem TabO.up {W : World} {B C : Nat} {tv : Value} {ps : List (Value × List RowI)} (h : TabO W B C tv ps) : TabO W B W.heap.size tv ps := ⟨h.1, fun k hk => (h.1.lt k hk).2, fun x hx => ⟨(h.2.2 x hx).1, fun k hk => ((h.2.2 x hx).1.lt k hk).2⟩⟩
/-- A table more. -/
theorem TabO.push {W W' : World} {B C : Nat} {tv rv v' : Value} {ps : List (Value × List RowI)} {t : List RowI} {n : Nat} (h : TabO W B C tv ps) (hn : ps.length = n) (hr : W.ownsRow C 73 2 rv t.length (rowCells t)) (hC : B ≤ C) (hown : W'.ownsRow B 50 1 v' (n + 1) (ps.map Prod.fst ++ [rv])) (hg : W.grownBy W' tv.ownBlock) : TabO W' B W'.heap.size v' (ps ++ [(rv, t)]) := by
  subst hn
  refine ⟨by rw [List.length_append, List.map_append]; exact hown, fun k hk => (hown.lt k hk).2, fun x hx => ?_⟩
  rcases List.mem_append.1 hx with hx | hx
  · have h1 := (h.2.2 x hx).1
    have h2 := own_stays2 h1 hg fun k hk e => own_unlike h1 h.1 (by decide) hk e
    exact ⟨h2, fun k hk => (h2.lt k hk).2⟩
  · rw [List.mem_singleton.1 hx]
    have h2 := own_base (own_stays2 hr hg fun k hk e => own_unlike hr h.1 (by decide) hk e) hC
    exact ⟨h2, fun k hk => (h2.lt k hk).2⟩
end Go.Proofs.YtfpepdjffehbcaaGreat
