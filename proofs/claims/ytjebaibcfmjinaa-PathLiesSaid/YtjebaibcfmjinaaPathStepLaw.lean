/-
  What path's step reader computes; no program in sight. Plain Lean; no condition.
-/
import Derived.Test.YtjebaibcfmjinaaPathVal
import Derived.ScopeJumps
import Derived.WalkMore
namespace Go.Proofs.Ytjebaibcfmjinaa
open Go.RowKit

abbrev PKey := ByteArray × ByteArray
def nameM (s : ByteArray) (at_ : Nat) : Except (Int × Int) (ByteArray × Nat) := match nameErr s at_ with
  | some e => .error e
  | none => .ok (s.extract at_ (nameEnd s at_), nameEnd s at_)
/-- May this key stand behind those? -/
def risesB (ks : List PKey) (key : ByteArray) : Bool := match ks.getLast? with
  | none => true
  | some k => Op.bytesLess k.1.toList key.toList
/-- The keys from place p on. -/
def keysF : Nat → ByteArray → Nat → List PKey → Except (Int × Int) (List PKey × Nat)
  | 0, _, p, ks => .ok (ks, p)
  | k + 1, s, p, ks =>
    if standsB s p 91 = true then
      match nameM s (p + 1) with
      | .error e => .error e
      | .ok (key, q) =>
        if risesB ks key = true then
          if standsB s q 61 = true then
            match valAt s (q + 1) (q + 1) false [] with
            | .error e => .error e
            | .ok (v, q') => keysF k s q' (ks ++ [(key, str v)])
          else .error (160, (q : Int))
        else .error (160, ((p + 1 : Nat) : Int))
    else .ok (ks, p)
def keysM (s : ByteArray) (p : Nat) (ks : List PKey) : Except (Int × Int) (List PKey × Nat) := keysF (s.size + 1 - p) s p ks
def stepM (s : ByteArray) (p : Nat) : Except (Int × Int) ((ByteArray × List PKey) × Nat) := match nameM s p with
  | .error e => .error e
  | .ok (nm, q) => match keysM s q [] with
    | .error e => .error e
    | .ok (ks, r) => .ok ((nm, ks), r)
theorem nameEnd_le {s : ByteArray} {p : Nat} (h : p ≤ s.size) : p ≤ nameEnd s p ∧ nameEnd s p ≤ s.size := ⟨(nameEnd_ge s _ p).1, (nameEnd_ge s _ p).2 h⟩
theorem nameM_ok {s : ByteArray} {p q : Nat} {nm : ByteArray} (h : nameM s p = .ok (nm, q)) (hp : p ≤ s.size) : p ≤ q ∧ q ≤ s.size ∧ nm = s.extract p q ∧ q = nameEnd s p ∧ nameErr s p = none := by
  unfold nameM at h
  cases hn : nameErr s p with
  | some e => rw [hn] at h; cases h
  | none =>
    rw [hn] at h
    simp only [Except.ok.injEq, Prod.mk.injEq] at h
    obtain ⟨h1, h2⟩ := h
    subst h2
    exact ⟨(nameEnd_le hp).1, (nameEnd_le hp).2, h1.symm, rfl, rfl⟩
theorem valF_ok (s : ByteArray) (fr : Nat) : ∀ (k q : Nat) (esc : Bool) (out l : List UInt8) (r : Nat), valF k s fr q esc out = .ok (l, r) → q < r ∧ r ≤ s.size := by
  intro k
  induction k with
  | zero => intro q esc out l r h; cases h
  | succ k ih =>
    intro q esc out l r h
    have hd := decode_pos s q
    simp only [valF] at h
    split at h
    · rename_i hq
      split at h
      · split at h
        · have := ih _ _ _ _ _ h; omega
        · cases h
      · split at h
        · have := ih _ _ _ _ _ h; omega
        · split at h
          · split at h
            · cases h
            · simp only [Except.ok.injEq, Prod.mk.injEq] at h
              omega
          · split at h
            · cases h
            · have := ih _ _ _ _ _ h; omega
    · cases h
theorem valAt_ok {s : ByteArray} {fr q r : Nat} {esc : Bool} {out l : List UInt8} (h : valAt s fr q esc out = .ok (l, r)) : q < r ∧ r ≤ s.size := valF_ok s fr _ q esc out l r h
theorem stands_lt {s : ByteArray} {p : Nat} {b : UInt8} (h : standsB s p b = true) : p < s.size := (stands_at h).1
theorem keysF_fuel (s : ByteArray) : ∀ (k p : Nat) (ks : List PKey) (j : Nat), s.size + 1 ≤ p + k → p ≤ s.size → k ≤ j → keysF j s p ks = keysF k s p ks := by
  intro k
  induction k with
  | zero => intro p ks j h1 h2 h3; omega
  | succ k ih =>
    intro p ks j h1 h2 h3
    cases j with
    | zero => omega
    | succ j =>
      simp only [keysF]
      split
      · rename_i hb
        have hl := stands_lt hb
        cases hn : nameM s (p + 1) with
        | error e => rfl
        | ok x =>
          obtain ⟨key, q⟩ := x
          have hq := nameM_ok hn (by omega)
          simp only
          split
          · split
            · cases hv : valAt s (q + 1) (q + 1) false [] with
              | error e => rfl
              | ok y =>
                obtain ⟨v, r⟩ := y
                have hr := valAt_ok hv
                simp only
                exact ih r _ j (by omega) hr.2 (by omega)
            · rfl
          · rfl
      · rfl
section
variable {s : ByteArray} {p : Nat} {ks : List PKey}
theorem keysM_step (hp : p ≤ s.size) : keysM s p ks = if standsB s p 91 = true then
      match nameM s (p + 1) with
      | .error e => .error e
      | .ok (key, q) =>
        if risesB ks key = true then
          if standsB s q 61 = true then
            match valAt s (q + 1) (q + 1) false [] with
            | .error e => .error e
            | .ok (v, q') => keysM s q' (ks ++ [(key, str v)])
          else .error (160, (q : Int))
        else .error (160, ((p + 1 : Nat) : Int))
    else .ok (ks, p) := by
  unfold keysM
  rw [show s.size + 1 - p = (s.size - p) + 1 by omega]
  simp only [keysF]
  split
  · rename_i hb
    have hl := stands_lt hb
    cases hn : nameM s (p + 1) with
    | error e => rfl
    | ok x =>
      obtain ⟨key, q⟩ := x
      have hq := nameM_ok hn (by omega)
      simp only
      split
      · split
        · cases hv : valAt s (q + 1) (q + 1) false [] with
          | error e => rfl
          | ok y =>
            obtain ⟨v, r⟩ := y
            have hr := valAt_ok hv
            simp only
            exact keysF_fuel s _ r _ _ (by omega) hr.2 (by omega)
        · rfl
      · rfl
  · rfl
theorem km_none (hp : p ≤ s.size) (h : standsB s p 91 = false) : keysM s p ks = .ok (ks, p) := by
  rw [keysM_step hp, if_neg (by rw [h]; simp)]
theorem km_name {e : Int × Int} (hp : p ≤ s.size) (h : standsB s p 91 = true) (hn : nameErr s (p + 1) = some e) : keysM s p ks = .error e := by
  rw [keysM_step hp, if_pos h]
  unfold nameM
  rw [hn]
theorem km_falls {key : ByteArray} {q : Nat} (hp : p ≤ s.size) (h : standsB s p 91 = true) (hn : nameM s (p + 1) = .ok (key, q)) (hr : risesB ks key = false) : keysM s p ks = .error (160, ((p + 1 : Nat) : Int)) := by
  rw [keysM_step hp, if_pos h, hn]
  simp only
  rw [if_neg (by rw [hr]; simp)]
theorem km_noeq {key : ByteArray} {q : Nat} (hp : p ≤ s.size) (h : standsB s p 91 = true) (hn : nameM s (p + 1) = .ok (key, q)) (hr : risesB ks key = true) (he : standsB s q 61 = false) : keysM s p ks = .error (160, (q : Int)) := by
  rw [keysM_step hp, if_pos h, hn]
  simp only
  rw [if_pos hr, if_neg (by rw [he]; simp)]
theorem km_val {key : ByteArray} {q : Nat} {e : Int × Int} (hp : p ≤ s.size) (h : standsB s p 91 = true) (hn : nameM s (p + 1) = .ok (key, q)) (hr : risesB ks key = true) (he : standsB s q 61 = true) (hv : valAt s (q + 1) (q + 1) false [] = .error e) : keysM s p ks = .error e := by
  rw [keysM_step hp, if_pos h, hn]
  simp only
  rw [if_pos hr, if_pos he, hv]
theorem km_go {key : ByteArray} {q r : Nat} {v : List UInt8} (hp : p ≤ s.size) (h : standsB s p 91 = true) (hn : nameM s (p + 1) = .ok (key, q)) (hr : risesB ks key = true) (he : standsB s q 61 = true) (hv : valAt s (q + 1) (q + 1) false [] = .ok (v, r)) : keysM s p ks = keysM s r (ks ++ [(key, str v)]) := by
  rw [keysM_step hp, if_pos h, hn]
  simp only
  rw [if_pos hr, if_pos he, hv]
end
/-- The cells of keys. -/
def pairCells (ks : List PKey) : List Value := ks.flatMap fun k => [.string k.1, .string k.2]
theorem pairCells_len (ks : List PKey) : (pairCells ks).length = ks.length * 2 := by
  induction ks with
  | nil => rfl
  | cons k ks ih => simp only [pairCells, List.flatMap_cons, List.length_append] at ih ⊢; rw [ih]; simp; omega
theorem pairCells_append (ks ls : List PKey) : pairCells (ks ++ ls) = pairCells ks ++ pairCells ls := by simp [pairCells]
theorem pairCells_at (ks : List PKey) (i : Nat) (k : PKey) (h : ks[i]? = some k) : (pairCells ks)[i * 2]? = some (.string k.1) ∧ (pairCells ks)[i * 2 + 1]? = some (.string k.2) := by
  induction ks generalizing i with
  | nil => simp at h
  | cons x ks ih =>
    cases i with
    | zero => simp at h; subst h; simp [pairCells]
    | succ i =>
      have := ih i (by simpa using h)
      simp only [pairCells, List.flatMap_cons] at this ⊢
      rw [show (i + 1) * 2 = 2 + i * 2 by omega, show 2 + i * 2 + 1 = 2 + (i * 2 + 1) by omega]
      rw [List.getElem?_append_right (by simp), List.getElem?_append_right (by simp)]
      simpa using this
end Go.Proofs.Ytjebaibcfmjinaa
