/-
  What path.Parse computes, and how its steps lie in the heap; no program in sight. Plain Lean; no condition.
-/
import Derived.Test.YtjebaibcfmjinaaPathStep
namespace Go.Proofs.Ytjebaibcfmjinaa
open Go.RowKit

abbrev PStep := ByteArray × List PKey
def stepsF : Nat → ByteArray → Nat → List PStep → Except (Int × Int) (List PStep)
  | 0, _, p, _ => .error (3, (p : Int))
  | k + 1, s, p, l =>
    if l.length = 64 then .error (3, (p : Int)) else
      match stepM s p with
      | .error e => .error e
      | .ok (st, q) => if q = s.size then .ok (l ++ [st]) else if standsB s q 47 = true then stepsF k s (q + 1) (l ++ [st]) else .error (160, (q : Int))
def stepsM (s : ByteArray) (p : Nat) (l : List PStep) : Except (Int × Int) (List PStep) := stepsF (65 - l.length) s p l
def parseM (s : ByteArray) : Except (Int × Int) (List PStep) :=
  if s.size > 512 then .error (3, 512) else
    match broken s with
    | some k => .error (6, (k : Int))
    | none => if s.size = 0 then .ok [] else stepsM s 0 []
theorem steps_full {s : ByteArray} {p : Nat} {l : List PStep} (h : l.length = 64) : stepsM s p l = .error (3, (p : Int)) := by
  unfold stepsM
  rw [h]
  simp [stepsF, h]
section
variable {s : ByteArray} {p : Nat} {l : List PStep}
theorem steps_step (h : l.length < 64) : stepsM s p l = match stepM s p with
      | .error e => .error e
      | .ok (st, q) => if q = s.size then .ok (l ++ [st]) else if standsB s q 47 = true then stepsM s (q + 1) (l ++ [st]) else .error (160, (q : Int)) := by
  unfold stepsM
  rw [show 65 - l.length = (64 - l.length) + 1 by omega]
  simp only [stepsF]
  rw [if_neg (by omega)]
  cases stepM s p with
  | error e => rfl
  | ok x =>
    obtain ⟨st, q⟩ := x
    simp only [List.length_append, List.length_cons, List.length_nil]
    rw [show 65 - (l.length + (0 + 1)) = 64 - l.length by omega]
theorem steps_err {e : Int × Int} (h : l.length < 64) (hs : stepM s p = .error e) : stepsM s p l = .error e := by rw [steps_step h, hs]
theorem steps_end {st : PStep} (h : l.length < 64) (hs : stepM s p = .ok (st, s.size)) : stepsM s p l = .ok (l ++ [st]) := by
  rw [steps_step h, hs]
  simp
theorem steps_go {st : PStep} {q : Nat} (h : l.length < 64) (hs : stepM s p = .ok (st, q)) (hq : q ≠ s.size) (hb : standsB s q 47 = true) : stepsM s p l = stepsM s (q + 1) (l ++ [st]) := by
  rw [steps_step h, hs]
  simp [hq, hb]
theorem steps_no {st : PStep} {q : Nat} (h : l.length < 64) (hs : stepM s p = .ok (st, q)) (hq : q ≠ s.size) (hb : standsB s q 47 = false) : stepsM s p l = .error (160, (q : Int)) := by
  rw [steps_step h, hs]
  simp [hq, hb]
end
theorem keysF_ok (s : ByteArray) : ∀ (k p : Nat) (ks l : List PKey) (q : Nat), p ≤ s.size → keysF k s p ks = .ok (l, q) → p ≤ q ∧ q ≤ s.size := by
  intro k
  induction k with
  | zero => intro p ks l q hp h; simp [keysF] at h; omega
  | succ k ih =>
    intro p ks l q hp h
    simp only [keysF] at h
    split at h
    · rename_i hb
      have hl := stands_lt hb
      cases hn : nameM s (p + 1) with
      | error e => rw [hn] at h; cases h
      | ok x =>
        obtain ⟨key, q1⟩ := x
        have hq := nameM_ok hn (by omega)
        rw [hn] at h
        simp only at h
        split at h
        · split at h
          · cases hv : valAt s (q1 + 1) (q1 + 1) false [] with
            | error e => rw [hv] at h; cases h
            | ok y =>
              obtain ⟨v, r⟩ := y
              have hr := valAt_ok hv
              rw [hv] at h
              simp only at h
              have := ih r _ _ _ hr.2 h
              omega
          · cases h
        · cases h
    · simp at h
      omega
theorem stepM_ok {s : ByteArray} {p q : Nat} {st : PStep} (h : stepM s p = .ok (st, q)) (hp : p ≤ s.size) : p ≤ q ∧ q ≤ s.size := by
  unfold stepM at h
  cases hn : nameM s p with
  | error e => rw [hn] at h; cases h
  | ok x =>
    obtain ⟨nm, q1⟩ := x
    have hq := nameM_ok hn hp
    rw [hn] at h
    simp only at h
    cases hk : keysM s q1 [] with
    | error e => rw [hk] at h; cases h
    | ok y =>
      obtain ⟨ks, r⟩ := y
      rw [hk] at h
      simp at h
      have := keysF_ok s _ q1 [] ks r hq.2.1 hk
      omega

/-- The cells of a row of steps whose keys are the values vs. -/
def stepCells : List PStep → List Value → List Value
  | st :: l, v :: vs => .string st.1 :: v :: stepCells l vs
  | _, _ => []
theorem stepCells_len : ∀ (l : List PStep) (vs : List Value), vs.length = l.length → (stepCells l vs).length = l.length * 2
  | [], [], _ => rfl
  | st :: l, v :: vs, h => by
    have := stepCells_len l vs (by simpa using h)
    simp [stepCells, this]
    omega
  | [], _ :: _, h => by simp at h
  | _ :: _, [], h => by simp at h
theorem stepCells_append : ∀ (l : List PStep) (vs : List Value) (st : PStep) (v : Value), vs.length = l.length → stepCells (l ++ [st]) (vs ++ [v]) = stepCells l vs ++ [.string st.1, v]
  | [], [], _, _, _ => rfl
  | st0 :: l, v0 :: vs, st, v, h => by
    have := stepCells_append l vs st v (by simpa using h)
    simp [stepCells, this]
  | [], _ :: _, _, _, h => by simp at h
  | _ :: _, [], _, _, h => by simp at h
theorem stepCells_at : ∀ (l : List PStep) (vs : List Value) (i : Nat) (st : PStep) (v : Value), l[i]? = some st → vs[i]? = some v → (stepCells l vs)[i * 2]? = some (.string st.1) ∧ (stepCells l vs)[i * 2 + 1]? = some v
  | st0 :: l, v0 :: vs, 0, st, v, h1, h2 => by
    simp at h1 h2
    subst h1 h2
    simp [stepCells]
  | st0 :: l, v0 :: vs, i + 1, st, v, h1, h2 => by
    have := stepCells_at l vs i st v (by simpa using h1) (by simpa using h2)
    simp only [stepCells]
    rw [show (i + 1) * 2 = i * 2 + 2 by omega, show i * 2 + 2 + 1 = i * 2 + 1 + 2 by omega]
    simpa using this
  | [], _, _, _, _, h1, _ => by simp at h1
  | _ :: _, [], _, _, _, _, h2 => by simp at h2
/-- The rows of keys, rising. -/
def KeysOwn (w : World) (base : Nat) (l : List PStep) (vs : List Value) : Prop :=
  (∀ (i : Nat) (st : PStep) (kv : Value), l[i]? = some st → vs[i]? = some kv → w.ownsRow base 51 2 kv st.2.length (pairCells st.2)) ∧
  (∀ (i j a b : Nat) (kv kv' : Value), i < j → vs[i]? = some kv → vs[j]? = some kv' → kv.ownBlock = some a → kv'.ownBlock = some b → a < b)
def StepsIn (w : World) (base : Nat) (v : Value) (l : List PStep) (vs : List Value) : Prop :=
  vs.length = l.length ∧ w.ownsRow base 40 2 v l.length (stepCells l vs) ∧ KeysOwn w base l vs
def StepsOwn (w : World) (base : Nat) (v : Value) (l : List PStep) : Prop := ∃ vs, StepsIn w base v l vs
theorem stepsIn_nil (w : World) (base : Nat) : StepsIn w base (.slice none 0 0) [] [] :=
  ⟨rfl, World.ownsRow_nil _ _ _ _, ⟨fun i st kv h _ => by simp at h, fun i j a b kv kv' _ h => by simp at h⟩⟩
theorem KeysOwn.kept {w w' : World} {base : Nat} {l : List PStep} {vs : List Value} {row : Option Nat} (h : KeysOwn w base l vs) (_hlen : vs.length = l.length) (hg : w.grownBy w' row) (hne : ∀ (i : Nat) (kv : Value) (k : Nat), vs[i]? = some kv → kv.ownBlock = some k → row ≠ some k) : KeysOwn w' base l vs := by
  refine ⟨fun i st kv h1 h2 => (h.1 i st kv h1 h2).kept hg ?_, h.2⟩
  cases hk : kv.ownBlock with
  | none => exact .inl rfl
  | some k => exact .inr fun e => hne i kv k h2 hk e.symm
theorem StepsIn.step {w : World} {base : Nat} {v : Value} {l : List PStep} {vs : List Value} (h : StepsIn w base v l vs) {i : Nat} {kv : Value} (hi : vs[i]? = some kv) : ∃ st, l[i]? = some st := by
  have := (List.getElem?_eq_some_iff.1 hi).1
  have := h.1
  exact ⟨l[i]'(by omega), by simp [show i < l.length by omega]⟩
theorem StepsIn.lt {w : World} {base : Nat} {v : Value} {l : List PStep} {vs : List Value} (h : StepsIn w base v l vs) : ∀ (i : Nat) (kv : Value) (k : Nat), vs[i]? = some kv → kv.ownBlock = some k → base ≤ k ∧ k < w.heap.size := by
  intro i kv k hi hk
  obtain ⟨st, hst⟩ := h.step hi
  exact (h.2.2.1 i st kv hst hi).lt k hk
theorem StepsIn.only {g : Nat} {w w' : World} {base : Nat} {v : Value} {l : List PStep} {vs : List Value} (h : StepsIn w base v l vs) (hO : Only g w w') (hg : g < base) : StepsIn w' base v l vs := by
  have hlt := h.lt
  obtain ⟨h1, h2, h3⟩ := h
  refine ⟨h1, h2.kept hO ?_, h3.kept h1 hO ?_⟩
  · cases hv : v.ownBlock with
    | none => exact .inl rfl
    | some k =>
      have := (h2.lt k hv).1
      exact .inr (by simp; omega)
  · intro i kv k hi hk e
    have := (hlt i kv k hi hk).1
    simp at e
    omega
/-- Rows of other types are other rows. -/
theorem own_other {w : World} {base base' : Nat} {e e' : TypeId} {size size' : Nat} {v v' : Value} {n n' : Nat} {xs xs' : List Value} (h : w.ownsRow base e size v n xs) (h' : w.ownsRow base' e' size' v' n' xs') (hee : e ≠ e') : ∀ k, v.ownBlock = some k → v'.ownBlock ≠ some k := by
  intro k hk hk'
  rcases h.2 with ⟨rfl, _⟩ | ⟨g, cap, cur, rfl, _, hg, _⟩
  · simp [Value.ownBlock] at hk
  · rcases h'.2 with ⟨rfl, _⟩ | ⟨g', cap', cur', rfl, _, hg', _⟩
    · simp [Value.ownBlock] at hk'
    · simp [Value.ownBlock] at hk hk'
      subst hk hk'
      rw [hg] at hg'
      simp at hg'
      exact hee hg'.2
/-- One step more behind them. -/
theorem StepsIn.push {w w' : World} {base B : Nat} {v v' kv : Value} {l : List PStep} {vs : List Value} {st : PStep} (h : StepsIn w base v l vs) (hB : base ≤ B) (hl : ∀ (i : Nat) (kv' : Value) (k : Nat), vs[i]? = some kv' → kv'.ownBlock = some k → k < B)
    (hk : w.ownsRow B 51 2 kv st.2.length (pairCells st.2)) (hg : w.grownBy w' v.ownBlock)
    (hown : w'.ownsRow base 40 2 v' (l.length + 1) (stepCells l vs ++ [.string st.1, kv])) : StepsIn w' base v' (l ++ [st]) (vs ++ [kv]) := by
  have hst := fun (i : Nat) (kv' : Value) (hi : vs[i]? = some kv') => h.step hi
  obtain ⟨h1, h2, h3⟩ := h
  have hrow : ∀ (i : Nat) (kv' : Value) (k : Nat), vs[i]? = some kv' → kv'.ownBlock = some k → v.ownBlock ≠ some k := by
    intro i kv' k hi hkk
    obtain ⟨st', hst'⟩ := hst i kv' hi
    exact own_other (h3.1 i st' kv' hst' hi) h2 (by decide) k hkk
  have h3' := h3.kept h1 hg hrow
  have hk' : w'.ownsRow B 51 2 kv st.2.length (pairCells st.2) := hk.kept hg (by
    cases hkb : kv.ownBlock with
    | none => exact .inl rfl
    | some k => exact .inr fun e => own_other hk h2 (by decide) k hkb e.symm)
  refine ⟨by simp [h1], ?_, ?_, ?_⟩
  · rw [stepCells_append l vs st kv h1, List.length_append]
    exact hown
  · intro i st' kv' hi hi'
    rcases Nat.lt_or_ge i l.length with hlt' | hge
    · rw [List.getElem?_append_left hlt'] at hi
      rw [List.getElem?_append_left (by omega)] at hi'
      exact h3'.1 i st' kv' hi hi'
    · rw [List.getElem?_append_right hge] at hi
      rw [List.getElem?_append_right (by omega)] at hi'
      have hi0 : i - l.length = 0 := by
        have := (List.getElem?_eq_some_iff.1 hi).1
        simp at this
        omega
      rw [hi0] at hi
      rw [show i - vs.length = 0 by omega] at hi'
      simp at hi hi'
      subst hi hi'
      exact own_base hk' hB
  · intro i j a b kv1 kv2 hij hi hj ha hb
    rcases Nat.lt_or_ge j l.length with hlt' | hge
    · rw [List.getElem?_append_left (by omega)] at hi hj
      exact h3.2 i j a b kv1 kv2 hij hi hj ha hb
    · rw [List.getElem?_append_right (by omega)] at hj
      have hj0 : j - vs.length = 0 := by
        have := (List.getElem?_eq_some_iff.1 hj).1
        simp at this
        omega
      rw [List.getElem?_append_left (by omega)] at hi
      rw [hj0] at hj
      simp at hj
      subst hj
      have := hl i kv1 a hi ha
      have := (hk.lt b hb).1
      omega
end Go.Proofs.Ytjebaibcfmjinaa
