/-
  What is reached in a table of what follows what: by a pile, and round by round; plainly. No condition, no program in sight.
-/
set_option linter.unusedVariables false
set_option linter.unusedSimpArgs false
namespace Go.Proofs.YtkfofdmcggoonaaGreatDoor

/-- k is reached from i. -/
inductive RF (n : Nat) (f : Nat → Nat → Bool) (i : Nat) : Nat → Prop
  | one {k : Nat} (hk : k < n) (h : f i k = true) : RF n f i k
  | more {j k : Nat} (h : RF n f i j) (hk : k < n) (h2 : f j k = true) : RF n f i k
theorem RF.lt {n : Nat} {f : Nat → Nat → Bool} {i k : Nat} (h : RF n f i k) : k < n := by
  cases h with
  | one hk _ => exact hk
  | more _ hk _ => exact hk
theorem rf_closed {n : Nat} {f : Nat → Nat → Bool} {i : Nat} (M : Nat → Prop) (h1 : ∀ k, k < n → f i k = true → M k) (h2 : ∀ j k, M j → j < n → k < n → f j k = true → M k) : ∀ k, RF n f i k → M k := by
  intro k h
  induction h with
  | one hk h => exact h1 _ hk h
  | more hj hk h ih => exact h2 _ _ ih hj.lt hk h
theorem rf_next {n : Nat} {f : Nat → Nat → Bool} {i j k : Nat} (h : j = i ∨ RF n f i j) (hk : k < n) (h2 : f j k = true) : RF n f i k := by
  rcases h with rfl | h
  · exact .one hk h2
  · exact .more h hk h2
def met? (m : List Bool) (k : Nat) : Prop := m[k]? = some true
theorem met_set {m : List Bool} {k j : Nat} (hk : k < m.length) : met? (m.set k true) j ↔ j = k ∨ met? m j := by
  unfold met?
  rw [List.getElem?_set]
  by_cases h : k = j
  · rw [if_pos h, if_pos hk]
    exact ⟨fun _ => .inl h.symm, fun _ => rfl⟩
  · rw [if_neg h]
    exact ⟨.inr, fun h' => h'.elim (fun e => absurd e.symm h) id⟩
theorem count_set : ∀ {m : List Bool} {k : Nat}, m[k]? = some false → (m.set k true).count false + 1 = m.count false
  | [], k, h => by simp at h
  | x :: m, 0, h => by
    simp at h
    subst h
    simp
  | x :: m, k + 1, h => by
    have := count_set (m := m) (k := k) (by simpa using h)
    simp only [List.set_cons_succ, List.count_cons]
    omega
theorem met_not {m : List Bool} {k : Nat} (hk : k < m.length) (h : ¬ met? m k) : m[k]? = some false := by
  unfold met? at h
  rw [List.getElem?_eq_getElem hk] at h ⊢
  cases hb : m[k]
  · rfl
  · rw [hb] at h; exact absurd rfl h
/-- Where the way by a pile is, between two places. -/
def ReachInv (n : Nat) (f : Nat → Nat → Bool) (i : Nat) (met : List Bool) (pile : List Nat) : Prop :=
  met.length = n ∧ i < n ∧ (∀ j ∈ pile, j < n ∧ (j = i ∨ met? met j)) ∧ (∀ k, met? met k → RF n f i k) ∧
    (∀ j, j < n → (j = i ∨ met? met j) → j ∈ pile ∨ ∀ k, k < n → f j k = true → k ≠ i ∧ met? met k) ∧ pile.length + met.count false ≤ n + 1
/-- Where it is within a place's row. -/
def ReachMid (n : Nat) (f : Nat → Nat → Bool) (i : Nat) (met : List Bool) (pile : List Nat) (j k : Nat) : Prop :=
  met.length = n ∧ i < n ∧ j < n ∧ (j = i ∨ met? met j) ∧ (∀ j ∈ pile, j < n ∧ (j = i ∨ met? met j)) ∧ (∀ k, met? met k → RF n f i k) ∧
    (∀ j', j' < n → (j' = i ∨ met? met j') → j' ∈ pile ∨ j' = j ∨ ∀ k, k < n → f j' k = true → k ≠ i ∧ met? met k) ∧
    (∀ k', k' < k → f j k' = true → k' ≠ i ∧ met? met k') ∧ pile.length + met.count false ≤ n
theorem reach_start {n : Nat} (f : Nat → Nat → Bool) {i : Nat} (hi : i < n) : ReachInv n f i (List.replicate n false) [i] := by
  have hm : ∀ k, ¬ met? (List.replicate n false) k := fun k h => by
    unfold met? at h
    rw [List.getElem?_replicate] at h
    split at h
    · cases h
    · cases h
  refine ⟨by simp, hi, fun j hj => ?_, fun k hk => absurd hk (hm k), fun j _ hj => ?_, by simp; omega⟩
  · rw [List.mem_singleton.1 hj]
    exact ⟨hi, .inl rfl⟩
  · rcases hj with rfl | hj
    · exact .inl (by simp)
    · exact absurd hj (hm j)
section
variable {n : Nat} {f : Nat → Nat → Bool} {i j k : Nat} {met : List Bool} {pile : List Nat}
theorem reach_pop (h : ReachInv n f i met (pile ++ [j])) : ReachMid n f i met pile j 0 := by
  obtain ⟨h1, h2, h3, h4, h5, h6⟩ := h
  have hj := h3 j (by simp)
  refine ⟨h1, h2, hj.1, hj.2, fun j' hj' => h3 j' (by simp [hj']), h4, fun j' hj' hm => ?_, fun k' hk' => absurd hk' (by omega), by simp at h6; omega⟩
  rcases h5 j' hj' hm with h | h
  · rcases List.mem_append.1 h with h | h
    · exact .inl h
    · exact .inr (.inl (List.mem_singleton.1 h))
  · exact .inr (.inr h)
theorem reach_skip (h : ReachMid n f i met pile j k) (hk : f j k = false ∨ (k ≠ i ∧ met? met k)) : ReachMid n f i met pile j (k + 1) := by
  obtain ⟨h1, h2, h3, h4, h5, h6, h7, h8, h9⟩ := h
  refine ⟨h1, h2, h3, h4, h5, h6, h7, fun k' hk' hf => ?_, h9⟩
  rcases Nat.lt_or_ge k' k with hlt | hge
  · exact h8 k' hlt hf
  · obtain rfl : k' = k := by omega
    rcases hk with hk | hk
    · rw [hk] at hf; cases hf
    · exact hk
theorem reach_put (h : ReachMid n f i met pile j k) (hkn : k < n) (hf : f j k = true) (hki : k ≠ i) (hm : ¬ met? met k) : ReachMid n f i (met.set k true) (pile ++ [k]) j (k + 1) := by
  obtain ⟨h1, h2, h3, h4, h5, h6, h7, h8, h9⟩ := h
  have hkm : k < met.length := by omega
  have hs : ∀ j, met? (met.set k true) j ↔ j = k ∨ met? met j := fun j => met_set hkm
  have hc := count_set (met_not hkm hm)
  have hr : RF n f i k := rf_next (h4.imp id (h6 j)) hkn hf
  refine ⟨by simpa using h1, h2, h3, h4.imp id (fun h => (hs j).2 (.inr h)), fun j' hj' => ?_, fun k' hk' => ?_, fun j' hj' hm' => ?_, fun k' hk' hf' => ?_, by simp; omega⟩
  · rcases List.mem_append.1 hj' with h | h
    · exact ⟨(h5 j' h).1, (h5 j' h).2.imp id (fun h => (hs j').2 (.inr h))⟩
    · rw [List.mem_singleton.1 h]
      exact ⟨hkn, .inr ((hs k).2 (.inl rfl))⟩
  · rcases (hs k').1 hk' with rfl | h
    · exact hr
    · exact h6 k' h
  · by_cases e : j' = k
    · exact .inl (by simp [e])
    · have hm2 : j' = i ∨ met? met j' := hm'.imp id (fun h => ((hs j').1 h).resolve_left e)
      rcases h7 j' hj' hm2 with h | h | h
      · exact .inl (by simp [h])
      · exact .inr (.inl h)
      · exact .inr (.inr fun k' hk' hf' => ⟨(h k' hk' hf').1, (hs k').2 (.inr (h k' hk' hf').2)⟩)
  · rcases Nat.lt_or_ge k' k with hlt | hge
    · exact ⟨(h8 k' hlt hf').1, (hs k').2 (.inr (h8 k' hlt hf').2)⟩
    · obtain rfl : k' = k := by omega
      exact ⟨hki, (hs k').2 (.inl rfl)⟩
theorem reach_done (h : ReachMid n f i met pile j n) : ReachInv n f i met pile := by
  obtain ⟨h1, h2, h3, h4, h5, h6, h7, h8, h9⟩ := h
  refine ⟨h1, h2, h5, h6, fun j' hj' hm => ?_, by omega⟩
  rcases h7 j' hj' hm with h | rfl | h
  · exact .inl h
  · exact .inr h8
  · exact .inr h
theorem reach_hit (h : ReachMid n f i met pile j k) (hki : k = i) (hf : f j k = true) : RF n f i i := by
  subst hki
  obtain ⟨h1, h2, h3, h4, h5, h6, -⟩ := h
  exact rf_next (h4.imp id (h6 j)) h2 hf
theorem reach_end (h : ReachInv n f i met []) : ¬ RF n f i i := by
  obtain ⟨h1, h2, h3, h4, h5, h6⟩ := h
  have hall : ∀ j, j < n → (j = i ∨ met? met j) → ∀ k, k < n → f j k = true → k ≠ i ∧ met? met k := fun j hj hm => (h5 j hj hm).resolve_left (by simp)
  intro hr
  exact (rf_closed (fun k => k ≠ i ∧ met? met k) (fun k hk hf => hall i h2 (.inl rfl) k hk hf) (fun j k hj hjn hk hf => hall j hjn (.inr hj.2) k hk hf) i hr).1 rfl
/-- Round by round: what is met is reached. -/
def RoundInv (n : Nat) (f : Nat → Nat → Bool) (i : Nat) (met : List Bool) : Prop := met.length = n ∧ i < n ∧ ∀ k, met? met k → RF n f i k
/-- k follows the place, or one that is met. -/
def OnB (n : Nat) (f : Nat → Nat → Bool) (i : Nat) (met : List Bool) (k : Nat) : Prop := f i k = true ∨ ∃ j, j < n ∧ met? met j ∧ f j k = true
theorem round_start (f : Nat → Nat → Bool) (hi : i < n) : RoundInv n f i (List.replicate n false) := by
  refine ⟨by simp, hi, fun k h => ?_⟩
  unfold met? at h
  rw [List.getElem?_replicate] at h
  split at h
  · cases h
  · cases h
theorem round_put (h : RoundInv n f i met) (hk : k < n) (ho : OnB n f i met k) : RoundInv n f i (met.set k true) := by
  obtain ⟨h1, h2, h3⟩ := h
  refine ⟨by simpa using h1, h2, fun k' hk' => ?_⟩
  rcases (met_set (by omega)).1 hk' with rfl | h
  · rcases ho with ho | ⟨j, hj, hm, hf⟩
    · exact .one hk ho
    · exact .more (h3 j hm) hk hf
  · exact h3 k' h
theorem round_end (h : RoundInv n f i met) (hc : ∀ k, k < n → OnB n f i met k → met? met k) : met? met i ↔ RF n f i i :=
  ⟨h.2.2 i, fun hr => rf_closed (fun k => met? met k) (fun k hk hf => hc k hk (.inl hf)) (fun j k hj hjn hk hf => hc k hk (.inr ⟨j, hjn, hj, hf⟩)) i hr⟩
end
end Go.Proofs.YtkfofdmcggoonaaGreatDoor
