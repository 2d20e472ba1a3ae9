/-
  What Get answers, said plainly; Parse's steps. No condition.
-/
import Derived.Test.YtjebaibcfmjinaaPathParse
import Derived.Test.YtjebaibcfmjinaaPathSmall
import Derived.Test.YtjebaibcfmjinaaPathRest
namespace Go.Proofs.Ytjebaibcfmjinaa
open Go.RowKit

theorem StepsR.slices {w : World} {v : Value} {l : List PStep} {vs : List Value} (h : StepsR w v l vs) : ∀ u ∈ vs, ∃ a n c, u = Value.slice a n c := by
  obtain ⟨A, c, e, h1, h2, h3, h4, h5⟩ := h
  intro u hu
  obtain ⟨i, hi, rfl⟩ := List.getElem_of_mem hu
  obtain ⟨A', c', e', -⟩ := h5 i (l[i]'(by omega)) vs[i] (by simp [show i < l.length by omega]) (by simp [hi])
  exact ⟨A', _, c', e'⟩
/-- A key's value in the last step of a name. -/
def GetIs (l : List PStep) (nm key : ByteArray) (r : Option ByteArray) : Prop :=
  (r = none ∧ ∀ (st : PStep), st ∈ l → st.1 ≠ nm) ∨ (∃ (i : Nat) (st : PStep), l[i]? = some st ∧ st.1 = nm ∧ (∀ (j : Nat) (st' : PStep), i < j → l[j]? = some st' → st'.1 ≠ nm) ∧
    ((r = none ∧ ∀ (k : PKey), k ∈ st.2 → k.1 ≠ key) ∨ (∃ (j : Nat) (k : PKey), st.2[j]? = some k ∧ k.1 = key ∧ (∀ (k' : PKey), k' ∈ st.2.take j → k'.1 ≠ key) ∧ r = some k.2)))
def parseL (s : ByteArray) : List PStep := match parseM s with | .ok l => l | .error _ => []
def ParseLPost (l : List PStep) (w : World) (en : Ending) (w' : World) : Prop := Below w.heap.size w w' ∧
  ∃ A c x y vs, en = .returned (.tuple #[.slice A l.length c, .agg #[.int .i64 x, .int .i64 y]]) ∧ StepsR w' (.slice A l.length c) l vs
theorem ParsePost.l {s : ByteArray} {w : World} {en : Ending} {w' : World} (h : ParsePost s w en w') : ParseLPost (parseL s) w en w' := by
  obtain ⟨hB, ⟨x, y, hE, rfl⟩ | ⟨l, v, hE, rfl, vs, hO⟩⟩ := h
  · have e : parseL s = [] := by unfold parseL; rw [hE]
    refine ⟨hB, none, 0, x, y, [], by rw [e]; rfl, ?_⟩
    rw [e]
    exact (stepsIn_nil w' 0).reads
  · have e : parseL s = l := by unfold parseL; rw [hE]
    have hr := hO.reads
    obtain ⟨A, c, rfl, -⟩ := id hr
    exact ⟨hB, A, c, 0, 0, vs, by rw [e]; rfl, by rw [e]; exact hr⟩
theorem parseL_small (s : ByteArray) : (∀ st ∈ parseL s, StepTiny st) ∧ (parseL s).length ≤ 64 := by
  unfold parseL
  split
  · rename_i l h
    exact ⟨(parseM_small h).1, (parseM_small h).2.1⟩
  · exact ⟨fun st h => (by cases h), by decide⟩
def GetPost (l : List PStep) (nm key : ByteArray) (w : World) (en : Ending) (w' : World) : Prop := ∃ r, GetIs l nm key r ∧ en = .returned (.tuple #[.string (r.getD ByteArray.empty), .bool r.isSome]) ∧ Below w.heap.size w w'

/-- What find tells of a step's keys. -/
def KeyIs (ks : List PKey) (key : ByteArray) (r : Option ByteArray) : Prop :=
  (r = none ∧ ∀ (k : PKey), k ∈ ks → k.1 ≠ key) ∨ (∃ (j : Nat) (k : PKey), ks[j]? = some k ∧ k.1 = key ∧ (∀ (k' : PKey), k' ∈ ks.take j → k'.1 ≠ key) ∧ r = some k.2)
theorem find_cases (key : ByteArray) : ∀ ks : List PKey, (∃ (j : Nat) (k : PKey), ks[j]? = some k ∧ k.1 = key ∧ ∀ k' ∈ ks.take j, k'.1 ≠ key) ∨ (∀ k' ∈ ks, k'.1 ≠ key)
  | [] => .inr (fun k h => by cases h)
  | k :: ks => by
    by_cases h : k.1 = key
    · exact .inl ⟨0, k, rfl, h, fun k' h => by simp at h⟩
    · rcases find_cases key ks with ⟨j, k', hj, hk, ht⟩ | hn
      · refine .inl ⟨j + 1, k', by simpa using hj, hk, fun x hx => ?_⟩
        rw [List.take_succ_cons] at hx
        rcases List.mem_cons.1 hx with rfl | hx
        · exact h
        · exact ht x hx
      · refine .inr fun x hx => ?_
        rcases List.mem_cons.1 hx with rfl | hx
        · exact h
        · exact hn x hx
theorem keyIs_unique {ks : List PKey} {key : ByteArray} {r r' : Option ByteArray} (h : KeyIs ks key r) (h' : KeyIs ks key r') : r = r' := by
  rcases h with ⟨rfl, hn⟩ | ⟨j, k, hj, hk, ht, rfl⟩
  · rcases h' with ⟨rfl, -⟩ | ⟨j', k', hj', hk', -, rfl⟩
    · rfl
    · exact absurd hk' (hn k' (List.mem_of_getElem? hj'))
  · rcases h' with ⟨rfl, hn⟩ | ⟨j', k', hj', hk', ht', rfl⟩
    · exact absurd hk (hn k (List.mem_of_getElem? hj))
    · rcases Nat.lt_trichotomy j j' with h | rfl | h
      · exact absurd hk (ht' k (List.mem_iff_getElem?.2 ⟨j, by rw [List.getElem?_take]; simp [h, hj]⟩))
      · rw [hj] at hj'; cases hj'; rfl
      · exact absurd hk' (ht k' (List.mem_iff_getElem?.2 ⟨j', by rw [List.getElem?_take]; simp [h, hj']⟩))
theorem getIs_unique {l : List PStep} {nm key : ByteArray} {r r' : Option ByteArray} (h : GetIs l nm key r) (h' : GetIs l nm key r') : r = r' := by
  rcases h with ⟨rfl, hn⟩ | ⟨i, st, hi, hs, hl, hr⟩
  · rcases h' with ⟨rfl, -⟩ | ⟨i', st', hi', hs', -, -⟩
    · rfl
    · exact absurd hs' (hn st' (List.mem_of_getElem? hi'))
  · rcases h' with ⟨rfl, hn⟩ | ⟨i', st', hi', hs', hl', hr'⟩
    · exact absurd hs (hn st (List.mem_of_getElem? hi))
    · rcases Nat.lt_trichotomy i i' with h | rfl | h
      · exact absurd hs' (hl i' st' h hi')
      · rw [hi] at hi'
        cases hi'
        exact keyIs_unique hr hr'
      · exact absurd hs (hl' i st h hi)
end Go.Proofs.Ytjebaibcfmjinaa
