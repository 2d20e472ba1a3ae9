/-
  What path.Parse gives is small; no program in sight. Plain Lean; no condition.
-/
import Derived.Test.YtjebaibcfmjinaaPathText
namespace Go.Proofs.Ytjebaibcfmjinaa
open Go.RowKit

theorem nameM_small {s : ByteArray} {p q : Nat} {nm : ByteArray} (h : nameM s p = .ok (nm, q)) (hp : p ≤ s.size) : nm.size ≤ 64 ∧ p < q := by
  obtain ⟨h1, h2, rfl, h4, h5⟩ := nameM_ok h hp
  unfold nameErr at h5
  split at h5
  · rename_i hlt
    split at h5
    · rename_i hst
      split at h5
      · cases h5
      · rename_i h64
        have hn : nameB s[p] = true := by simp [nameB, hst]
        have e := nameEnd_step hlt
        rw [if_pos hn] at e
        have l := (nameEnd_le (s := s) (p := p + 1) (by omega)).1
        rw [← e, ← h4] at l
        rw [← h4] at h64
        refine ⟨?_, by omega⟩
        simp
        omega
    · cases h5
  · cases h5
theorem valF_small (s : ByteArray) (fr : Nat) : ∀ (k q : Nat) (esc : Bool) (out l : List UInt8) (r : Nat), valF k s fr q esc out = .ok (l, r) → l.length ≤ 64 := by
  intro k
  induction k with
  | zero => intro q esc out l r h; cases h
  | succ k ih =>
    intro q esc out l r h
    simp only [valF] at h
    split at h
    · split at h
      · split at h
        · exact ih _ _ _ _ _ h
        · cases h
      · split at h
        · exact ih _ _ _ _ _ h
        · split at h
          · split at h
            · cases h
            · rename_i h64
              simp only [Except.ok.injEq, Prod.mk.injEq] at h
              rw [← h.1]
              omega
          · split at h
            · cases h
            · exact ih _ _ _ _ _ h
    · cases h
theorem valAt_small {s : ByteArray} {fr q r : Nat} {esc : Bool} {out l : List UInt8} (h : valAt s fr q esc out = .ok (l, r)) : l.length ≤ 64 := valF_small s fr _ q esc out l r h
def KeysTiny (ks : List PKey) : Prop := ∀ k ∈ ks, k.1.size ≤ 64 ∧ k.2.size ≤ 64
theorem keysF_small (s : ByteArray) : ∀ (k p : Nat) (ks l : List PKey) (q : Nat), p ≤ s.size → keysF k s p ks = .ok (l, q) → KeysTiny ks → ks.length ≤ p → KeysTiny l ∧ l.length ≤ q := by
  intro k
  induction k with
  | zero => intro p ks l q hp h ht hl; simp [keysF] at h; rw [← h.1, ← h.2]; exact ⟨ht, hl⟩
  | succ k ih =>
    intro p ks l q hp h ht hl
    simp only [keysF] at h
    split at h
    · rename_i hb
      have hlt := stands_lt hb
      cases hn : nameM s (p + 1) with
      | error e => rw [hn] at h; cases h
      | ok x =>
        obtain ⟨key, q1⟩ := x
        have hq := nameM_ok hn (by omega)
        have hsm := nameM_small hn (by omega)
        rw [hn] at h
        simp only at h
        split at h
        · split at h
          · cases hv : valAt s (q1 + 1) (q1 + 1) false [] with
            | error e => rw [hv] at h; cases h
            | ok y =>
              obtain ⟨v, r⟩ := y
              have hr := valAt_ok hv
              have hvs := valAt_small hv
              rw [hv] at h
              simp only at h
              refine ih r _ _ _ hr.2 h ?_ (by simp; omega)
              intro k hk
              rcases List.mem_append.1 hk with hk | hk
              · exact ht k hk
              · simp at hk
                subst hk
                exact ⟨hsm.1, by show (str v).size ≤ 64; rw [show (str v).size = v.length from by show v.toArray.size = _; simp]; exact hvs⟩
          · cases h
        · cases h
    · simp at h
      rw [← h.1, ← h.2]
      exact ⟨ht, hl⟩
def StepTiny (st : PStep) : Prop := st.1.size ≤ 64 ∧ st.2.length ≤ 512 ∧ KeysTiny st.2
theorem StepTiny.small {st : PStep} (h : StepTiny st) : StepSmall st := ⟨by have := h.1; omega, by have := h.2.1; omega, fun k hk => by have := h.2.2 k hk; omega⟩
theorem stepM_small {s : ByteArray} {p q : Nat} {st : PStep} (h : stepM s p = .ok (st, q)) (hp : p ≤ s.size) (hs : s.size ≤ 512) : StepTiny st := by
  unfold stepM at h
  cases hn : nameM s p with
  | error e => rw [hn] at h; cases h
  | ok x =>
    obtain ⟨nm, q1⟩ := x
    have hq := nameM_ok hn hp
    have hsm := nameM_small hn hp
    rw [hn] at h
    simp only at h
    cases hk : keysM s q1 [] with
    | error e => rw [hk] at h; cases h
    | ok y =>
      obtain ⟨ks, r⟩ := y
      rw [hk] at h
      simp at h
      have h1 := keysF_small s _ q1 [] ks r hq.2.1 hk (fun k hk => (by cases hk)) (Nat.zero_le _)
      have h2 := keysF_ok s _ q1 [] ks r hq.2.1 hk
      rw [← h.1]
      exact ⟨hsm.1, by show ks.length ≤ 512; omega, h1.1⟩
theorem stepsF_small (s : ByteArray) (hs : s.size ≤ 512) : ∀ (k p : Nat) (l m : List PStep), p ≤ s.size → stepsF k s p l = .ok m → (∀ st ∈ l, StepTiny st) → l.length ≤ 64 → (∀ st ∈ m, StepTiny st) ∧ m.length ≤ 64 ∧ 0 < m.length := by
  intro k
  induction k with
  | zero => intro p l m hp h; cases h
  | succ k ih =>
    intro p l m hp h ht hl
    simp only [stepsF] at h
    split at h
    · cases h
    · rename_i h64
      cases hn : stepM s p with
      | error e => rw [hn] at h; cases h
      | ok x =>
        obtain ⟨st, q⟩ := x
        have hq := stepM_ok hn hp
        have hsm := stepM_small hn hp hs
        rw [hn] at h
        simp only at h
        have hall : ∀ x ∈ l ++ [st], StepTiny x := by
          intro x hx
          rcases List.mem_append.1 hx with hx | hx
          · exact ht x hx
          · simp at hx; rw [hx]; exact hsm
        split at h
        · simp at h
          rw [← h]
          exact ⟨hall, by simp; omega, by simp⟩
        · split at h
          · rename_i hb
            exact ih (q + 1) _ _ (stands_lt hb) h hall (by simp; omega)
          · cases h
theorem parseM_small {s : ByteArray} {l : List PStep} (h : parseM s = .ok l) : (∀ st ∈ l, StepTiny st) ∧ l.length ≤ 64 ∧ s.size ≤ 512 ∧ (l = [] ↔ s.size = 0) := by
  unfold parseM at h
  split at h
  · cases h
  · rename_i h512
    split at h
    · cases h
    · split at h
      · rename_i h0
        simp at h
        subst h
        exact ⟨fun st hst => (by cases hst), by simp, by omega, by simp [h0]⟩
      · rename_i h0
        have := stepsF_small s (by omega) _ 0 [] l (by omega) h (fun st hst => (by cases hst)) (by simp)
        refine ⟨this.1, this.2.1, by omega, ?_⟩
        constructor
        · rintro rfl
          simp at this
        · intro e
          exact absurd e h0
def Bad (x : Int) : Prop := x = 3 ∨ x = 160
theorem nameErr_bad {s : ByteArray} {p : Nat} {x y : Int} (h : nameErr s p = some (x, y)) : Bad x := by
  unfold nameErr at h
  repeat' split at h
  all_goals first | (simp at h; exact .inl h.1.symm) | (simp at h; exact .inr h.1.symm) | cases h
theorem nameM_bad {s : ByteArray} {p : Nat} {x y : Int} (h : nameM s p = .error (x, y)) : Bad x := by
  unfold nameM at h
  cases hn : nameErr s p with
  | none => rw [hn] at h; cases h
  | some e =>
    rw [hn] at h
    simp at h
    subst h
    exact nameErr_bad hn
theorem valF_bad (s : ByteArray) (fr : Nat) : ∀ (k q : Nat) (esc : Bool) (out : List UInt8) (x y : Int), valF k s fr q esc out = .error (x, y) → Bad x := by
  intro k
  induction k with
  | zero => intro q esc out x y h; simp [valF] at h; exact .inr h.1.symm
  | succ k ih =>
    intro q esc out x y h
    simp only [valF] at h
    repeat' split at h
    all_goals first | exact ih _ _ _ _ _ h | (simp at h; exact .inl h.1.symm) | (simp at h; exact .inr h.1.symm) | cases h
theorem keysF_bad (s : ByteArray) : ∀ (k p : Nat) (ks : List PKey) (x y : Int), keysF k s p ks = .error (x, y) → Bad x := by
  intro k
  induction k with
  | zero => intro p ks x y h; cases h
  | succ k ih =>
    intro p ks x y h
    simp only [keysF] at h
    split at h
    · cases hn : nameM s (p + 1) with
      | error e => rw [hn] at h; simp at h; subst h; exact nameM_bad hn
      | ok z =>
        obtain ⟨key, q1⟩ := z
        rw [hn] at h
        simp only at h
        split at h
        · split at h
          · cases hv : valAt s (q1 + 1) (q1 + 1) false [] with
            | error e => rw [hv] at h; simp at h; subst h; exact valF_bad _ _ _ _ _ _ _ _ hv
            | ok z2 =>
              obtain ⟨v, r⟩ := z2
              rw [hv] at h
              simp only at h
              exact ih _ _ _ _ h
          · simp at h; exact .inr h.1.symm
        · simp at h; exact .inr h.1.symm
    · cases h
theorem stepM_bad {s : ByteArray} {p : Nat} {x y : Int} (h : stepM s p = .error (x, y)) : Bad x := by
  unfold stepM at h
  cases hn : nameM s p with
  | error e => rw [hn] at h; simp at h; subst h; exact nameM_bad hn
  | ok z =>
    obtain ⟨nm, q1⟩ := z
    rw [hn] at h
    simp only at h
    cases hk : keysM s q1 [] with
    | error e => rw [hk] at h; simp at h; subst h; exact keysF_bad _ _ _ _ _ _ hk
    | ok z2 => rw [hk] at h; simp at h
theorem stepsF_bad (s : ByteArray) : ∀ (k p : Nat) (l : List PStep) (x y : Int), stepsF k s p l = .error (x, y) → Bad x := by
  intro k
  induction k with
  | zero => intro p l x y h; simp [stepsF] at h; exact .inl h.1.symm
  | succ k ih =>
    intro p l x y h
    simp only [stepsF] at h
    split at h
    · simp at h; exact .inl h.1.symm
    · cases hn : stepM s p with
      | error e => rw [hn] at h; simp at h; subst h; exact stepM_bad hn
      | ok z =>
        obtain ⟨st, q⟩ := z
        rw [hn] at h
        simp only at h
        split at h
        · cases h
        · split at h
          · exact ih _ _ _ _ h
          · simp at h; exact .inr h.1.symm
theorem parseM_err {s : ByteArray} {x y : Int} (h : parseM s = .error (x, y)) : x = 3 ∨ x = 6 ∨ x = 160 := by
  unfold parseM at h
  split at h
  · simp at h; exact .inl h.1.symm
  · split at h
    · simp at h; exact .inr (.inl h.1.symm)
    · split at h
      · cases h
      · rcases stepsF_bad _ _ _ _ _ _ h with h | h
        · exact .inl h
        · exact .inr (.inr h)
end Go.Proofs.Ytjebaibcfmjinaa
