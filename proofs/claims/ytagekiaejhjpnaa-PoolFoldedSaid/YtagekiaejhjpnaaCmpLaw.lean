/-
  The order of rows and of tables as numbers; worlds that only grew. Plain lemmas; no condition.
-/
import Derived.Test.YtagekiaejhjpnaaRiseLaw
import Derived.Shelf.SlSorted.Search
namespace Go.Proofs.Ytagekiaejhjpnaa
open Go.RowKit Go.Shelf Go.Sort

def cmpU (a b : Int) : Int := if a < b then -1 else if b < a then 1 else 0
def cmpR (x y : Int × Int) : Int := if rl x y = true then -1 else if x = y then 0 else 1
theorem cmpR_eq (x y : Int × Int) : cmpR x y = if cmpU x.1 y.1 ≠ 0 then cmpU x.1 y.1 else cmpU x.2 y.2 := by
  unfold cmpR cmpU
  by_cases h1 : x.1 < y.1
  · rw [if_pos (rl_iff.2 (.inl h1)), if_pos h1]
    simp
  · by_cases h2 : y.1 < x.1
    · rw [if_neg (by rw [rl_iff]; omega), if_neg h1, if_pos h2, if_neg (fun e => by rw [e] at h2; omega)]
      simp
    · rw [if_neg h1, if_neg h2]
      simp only [ne_eq, not_true_eq_false, if_false]
      by_cases h3 : x.2 < y.2
      · rw [if_pos (rl_iff.2 (.inr ⟨by omega, h3⟩)), if_pos h3]
      · rw [if_neg (by rw [rl_iff]; omega), if_neg h3]
        by_cases h4 : y.2 < x.2
        · rw [if_pos h4, if_neg (fun e => by rw [e] at h4; omega)]
        · rw [if_neg h4, if_pos (Prod.ext (by omega) (by omega))]
theorem cmpR_zero {x y : Int × Int} : cmpR x y = 0 ↔ x = y := by
  unfold cmpR
  constructor
  · intro h
    split at h
    · omega
    · split at h
      · assumption
      · omega
  · rintro rfl
    rw [rlT.irr]
    simp
theorem cmpR_self (x : Int × Int) : cmpR x x = 0 := cmpR_zero.2 rfl
theorem cmpR_neg {x y : Int × Int} : decide (cmpR x y < 0) = rl x y := by
  unfold cmpR
  cases h : rl x y
  · simp only [Bool.false_eq_true, if_false]
    split <;> simp
  · simp
/-- The order of tables, as a number. -/
def cmpT (a b : List (Int × Int)) : Int := if lexL rl a b = true then -1 else if a = b then 0 else 1
theorem lexL_prefix {α : Type} [DecidableEq α] (lt : α → α → Bool) (a x y : List α) : lexL lt (a ++ x) (a ++ y) = lexL lt x y := by
  induction a with
  | nil => rfl
  | cons z a ih => simpa [lexL] using ih
theorem cmpT_prefix (a x y : List (Int × Int)) : cmpT (a ++ x) (a ++ y) = cmpT x y := by
  unfold cmpT
  rw [lexL_prefix]
  simp
theorem cmpT_cons (x y : Int × Int) (l m : List (Int × Int)) : cmpT (x :: l) (y :: m) = if x = y then cmpT l m else cmpR x y := by
  by_cases h : x = y
  · subst h
    have := cmpT_prefix [x] l m
    simpa using this
  · unfold cmpT cmpR
    simp only [lexL, if_neg h]
    have : ¬ (x :: l = y :: m) := fun e => h (by injection e)
    rw [if_neg this]
theorem cmpT_at {l m : List (Int × Int)} {p : Nat} {x y : Int × Int} (h : l.take p = m.take p) (hx : l[p]? = some x) (hy : m[p]? = some y) (hne : x ≠ y) : cmpT l m = cmpR x y := by
  obtain ⟨h1, e1⟩ := List.getElem?_eq_some_iff.1 hx
  obtain ⟨h2, e2⟩ := List.getElem?_eq_some_iff.1 hy
  have e3 : l = m.take p ++ x :: l.drop (p + 1) := by
    rw [← h, ← e1, ← List.drop_eq_getElem_cons h1, List.take_append_drop]
  have e4 : m = m.take p ++ y :: m.drop (p + 1) := by
    rw [← e2, ← List.drop_eq_getElem_cons h2, List.take_append_drop]
  have := cmpT_prefix (m.take p) (x :: l.drop (p + 1)) (y :: m.drop (p + 1))
  rw [← e3, ← e4] at this
  rw [this, cmpT_cons, if_neg hne]
theorem cmpT_some (x : Int × Int) (r : List (Int × Int)) : cmpT (x :: r) [] = 1 := by simp [cmpT, lexL]
theorem cmpT_none (x : Int × Int) (r : List (Int × Int)) : cmpT [] (x :: r) = -1 := by simp [cmpT, lexL]
theorem cmpT_short {l m : List (Int × Int)} {p : Nat} (h : l.take p = m.take p) (hm : m.length ≤ p) (hl : p < l.length) : cmpT l m = 1 := by
  have e : l = m ++ l[p] :: l.drop (p + 1) := by
    rw [← List.drop_eq_getElem_cons hl]
    conv => lhs; rw [← List.take_append_drop p l, h, List.take_of_length_le hm]
  have := cmpT_prefix m (l[p] :: l.drop (p + 1)) []
  rw [List.append_nil, ← e] at this
  rw [this, cmpT_some]
theorem cmpT_long {l m : List (Int × Int)} {p : Nat} (h : l.take p = m.take p) (hl : l.length ≤ p) (hm : p < m.length) : cmpT l m = -1 := by
  have e : m = l ++ m[p] :: m.drop (p + 1) := by
    rw [← List.drop_eq_getElem_cons hm]
    conv => lhs; rw [← List.take_append_drop p m, ← h, List.take_of_length_le hl]
  have := cmpT_prefix l [] (m[p] :: m.drop (p + 1))
  rw [List.append_nil, ← e] at this
  rw [this, cmpT_none]
theorem cmpT_self (l : List (Int × Int)) : cmpT l l = 0 := by
  unfold cmpT
  rw [(lexT rlT).irr]
  simp
theorem cmpT_zero {l m : List (Int × Int)} : cmpT l m = 0 ↔ l = m := by
  unfold cmpT
  constructor
  · intro h
    split at h
    · omega
    · split at h
      · assumption
      · omega
  · rintro rfl
    rw [(lexT rlT).irr]
    simp
theorem cmpT_neg {l m : List (Int × Int)} : cmpT l m < 0 ↔ lexL rl l m = true := by
  unfold cmpT
  constructor
  · intro h
    split at h
    · assumption
    · split at h <;> omega
  · intro h
    rw [if_pos h]
    decide
theorem cmpT_flip (l m : List (Int × Int)) : cmpT m l = -cmpT l m := by
  unfold cmpT
  cases h : lexL rl l m
  · cases h2 : lexL rl m l
    · have := (lexT rlT).conn _ _ h h2
      subst this
      simp
    · have hne : ¬ l = m := fun e => by subst e; rw [(lexT rlT).irr] at h2; cases h2
      simp [hne]
  · have h2 := (lexT rlT).asym h
    have hne : ¬ m = l := fun e => by subst e; rw [(lexT rlT).irr] at h; cases h
    simp [h2, hne]
/-- The order of tables. -/
abbrev tl : List (Int × Int) → List (Int × Int) → Bool := lexL rl
theorem tlT : TotalLt tl := lexT rlT
theorem cmpT_cases (a b : List (Int × Int)) : (tl a b = true ∧ cmpT a b = -1) ∨ (a = b ∧ tl a b = false ∧ cmpT a b = 0) ∨ (tl a b = false ∧ a ≠ b ∧ cmpT a b = 1) := by
  unfold cmpT
  cases h : lexL rl a b
  · by_cases e : a = b
    · exact .inr (.inl ⟨e, h, by simp [e]⟩)
    · exact .inr (.inr ⟨h, e, by simp [e]⟩)
  · exact .inl ⟨h, by simp⟩
/-- A world that has only grown. -/
def Grew (w w' : World) : Prop := ∃ q os, w' = grow (w.drewN q) os
theorem Grew.refl (w : World) : Grew w w := ⟨0, #[], by rw [grow_empty]; rfl⟩
theorem grow_drewN (w : World) (q : Nat) (os : Array Obj) : (grow w os).drewN q = grow (w.drewN q) os := rfl
theorem Grew.trans {a b c : World} (h : Grew a b) (k : Grew b c) : Grew a c := by
  obtain ⟨q, os, rfl⟩ := h
  obtain ⟨q', os', rfl⟩ := k
  refine ⟨q + q', os ++ os', ?_⟩
  rw [grow_drewN, World.drewN_drewN]
  simp [grow, Array.append_assoc]
theorem Grew.alloc {a b : World} (h : Grew a b) (o : Obj) : Grew a (b.alloc o) := h.trans ⟨0, #[o], by rw [alloc_eq_grow]; rfl⟩
theorem Grew.drewN {a b : World} (h : Grew a b) (q : Nat) : Grew a (b.drewN q) := h.trans ⟨q, #[], by rw [grow_empty]⟩
theorem Grew.drew {a b : World} (h : Grew a b) : Grew a b.drew := h.drewN 1
theorem Grew.below {a b : World} (h : Grew a b) : Below a.heap.size a b := by
  obtain ⟨q, os, rfl⟩ := h
  exact below_grown_sl _ a q os (Nat.le_refl _)
end Go.Proofs.Ytagekiaejhjpnaa
