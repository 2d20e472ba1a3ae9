/-
  What the bytes of a bundle tell, read number by number: plainly. Plain lemmas; no condition.
-/
import Derived.Test.YtfpepdjffehbcaaGreatBunBytesP
set_option linter.unusedVariables false
set_option linter.unusedSimpArgs false
namespace Go.Proofs.YtfpepdjffehbcaaGreat
open Go.RowKit

/-- A list's pieces from place i on, and the rest. -/
def Run {α : Type} (f : α → List UInt8) (L : List α) (R : List UInt8) (i : Nat) : List UInt8 := (L.drop i).flatMap f ++ R
theorem run_step {α : Type} {f : α → List UInt8} {L : List α} {R : List UInt8} {i : Nat} {x : α} (h : L[i]? = some x) : Run f L R i = f x ++ Run f L R (i + 1) := by
  unfold Run
  obtain ⟨hlt, rfl⟩ := List.getElem?_eq_some_iff.1 h
  rw [List.drop_eq_getElem_cons hlt, List.flatMap_cons, List.append_assoc]
theorem run_end {α : Type} {f : α → List UInt8} {L : List α} {R : List UInt8} {i : Nat} (h : L.length ≤ i) : Run f L R i = R := by
  unfold Run
  rw [List.drop_of_length_le h]
  rfl
/-- The path's number as it is written. -/
def pathBy (T : List ByteArray) (s : ByteArray) : List UInt8 := le 4 (idx T s)
def tailX (l : List PStep) : List UInt8 := le 4 l.length ++ Run (bookBy (textsP l) (pathsP l) (tabsB l)) l (le 4 (crc (bodyB l))) 0
def tailP (l : List PStep) : List UInt8 := le 4 (tabsB l).length ++ Run tabBy (tabsB l) (tailX l) 0
def tailT (l : List PStep) : List UInt8 := le 4 (pathsP l).length ++ Run (pathBy (textsP l)) (pathsP l) (tailP l) 0
theorem bytes_run (l : List PStep) : bytesB l = [86, 82, 78, 67] ++ (le 2 1 ++ (le 4 (textsP l).length ++ Run textBy (textsP l) (tailT l) 0)) := by
  unfold bytesB tailT tailP tailX Run
  generalize le 4 (crc (bodyB l)) = z
  unfold bodyB pathBy
  simp only [List.drop_zero, List.append_assoc]
/-- A Book's values, group by group. -/
def regroup (vs : List PKey) : List PKey := (groupsB vs).flatMap fun g => vs.filter fun v => decide (grp v.1 = g)
theorem regroup_mem {vs : List PKey} {v : PKey} : v ∈ regroup vs ↔ v ∈ vs := by
  unfold regroup
  rw [List.mem_flatMap]
  constructor
  · rintro ⟨g, -, h⟩
    exact (List.mem_filter.1 h).1
  · intro h
    exact ⟨grp v.1, groups_mem h, List.mem_filter.2 ⟨h, by simp⟩⟩
theorem flat_len_le {α β : Type} {f : α → List β} {k : Nat} : ∀ {l : List α}, (∀ x ∈ l, (f x).length ≤ k) → (l.flatMap f).length ≤ k * l.length
  | [], _ => Nat.zero_le _
  | x :: l, h => by
    rw [List.flatMap_cons, List.length_append, List.length_cons, Nat.mul_succ]
    have h1 := flat_len_le (l := l) fun y hy => h y (List.mem_cons_of_mem _ hy)
    have h2 := h x List.mem_cons_self
    omega
theorem regroup_len (vs : List PKey) : (regroup vs).length ≤ vs.length * vs.length := by
  have h1 : (regroup vs).length ≤ vs.length * (groupsB vs).length := flat_len_le fun g _ => List.length_filter_le _ _
  exact Nat.le_trans h1 (Nat.mul_le_mul_left _ (few_groups vs))
def gotL (l : List PStep) : List PStep := l.map fun b => (b.1, regroup b.2)
theorem got_same (l : List PStep) : SaySame l (gotL l) := by
  refine ⟨fun n => ?_, fun n v => ?_⟩
  · unfold gotL
    rw [List.map_map]
    rfl
  · rw [valsOf_mem, valsOf_mem]
    unfold gotL
    constructor
    · rintro ⟨b, hb, h1, h2⟩
      exact ⟨_, List.mem_map.2 ⟨b, hb, rfl⟩, h1, regroup_mem.2 h2⟩
    · rintro ⟨b, hb, h1, h2⟩
      obtain ⟨b', hb', rfl⟩ := List.mem_map.1 hb
      exact ⟨b', hb', h1, regroup_mem.1 h2⟩
/-- Sorted, it is the bundle again. -/
theorem got_sorted {l : List PStep} (h : (checkB l).1 = 0) {r : List PStep} {e a : Int} (hs : SortIs (gotL l) r e a) : r = l ∧ e = 0 ∧ a = 0 := by
  obtain ⟨-, h2, h3⟩ := checkB_ok h
  have hv : ∀ b ∈ l, RiseL (fun x y => bl x.1 y.1) b.2 := fun b hb => (h3 b hb).2.1
  have hself := sortOut_self h2 hv
  exact sort_same (got_same l) (show SortIs l l 0 0 from .inr ⟨rise_cons h2 hv, .inr ⟨by rw [hself]; exact h, hself.symm, rfl, rfl⟩⟩) hs
theorem got_of {T P : List ByteArray} {vs : List PKey} (h : ∀ v ∈ vs, v.1 ∈ P ∧ v.2 ∈ T) (g : ByteArray) : (rowsB T P vs g).map (fun r => (P.getD r.1.toNat ByteArray.empty, T.getD r.2.toNat ByteArray.empty)) = vs.filter fun v => decide (grp v.1 = g) := by
  unfold rowsB
  rw [List.map_map]
  have : ∀ v ∈ vs.filter fun v => decide (grp v.1 = g), ((fun r : RowI => (P.getD r.1.toNat ByteArray.empty, T.getD r.2.toNat ByteArray.empty)) ∘ fun v : PKey => ((idx P v.1 : Int), (idx T v.2 : Int))) v = v := by
    intro v hv
    have hm := h v (List.mem_filter.1 hv).1
    show (P.getD ((idx P v.1 : Nat) : Int).toNat ByteArray.empty, T.getD ((idx T v.2 : Nat) : Int).toNat ByteArray.empty) = v
    rw [Int.toNat_natCast, Int.toNat_natCast, getD_idx hm.1, getD_idx hm.2]
  rw [List.map_congr_left this, List.map_id']
end Go.Proofs.YtfpepdjffehbcaaGreat
