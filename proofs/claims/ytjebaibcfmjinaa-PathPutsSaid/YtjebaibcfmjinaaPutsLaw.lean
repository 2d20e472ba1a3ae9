/-
  What is put and taken out again, said plainly. No condition.
-/
import Derived.Test.YtjebaibcfmjinaaPathWithout
import Derived.Test.YtjebaibcfmjinaaPathGet
import Derived.Test.YtjebaibcfmjinaaPathRT
namespace Go.Proofs.Ytjebaibcfmjinaa
open Go.RowKit Go.Shelf

theorem putK_keyIs : ∀ (ks : List PKey) (key value : ByteArray), KeyIs (putK ks (key, value)) key (some value)
  | [], key, value => .inr ⟨0, (key, value), rfl, rfl, fun k h => (by simp at h), rfl⟩
  | x :: xs, key, value => by
    unfold putK
    by_cases h : x.1 = key
    · rw [if_pos h]
      exact .inr ⟨0, (key, value), rfl, rfl, fun k h => (by simp at h), rfl⟩
    · rw [if_neg h]
      split
      · exact .inr ⟨0, (key, value), rfl, rfl, fun k h => (by simp at h), rfl⟩
      · rcases putK_keyIs xs key value with ⟨h1, -⟩ | ⟨j, k, h1, h2, h3, h4⟩
        · cases h1
        · refine .inr ⟨j + 1, k, by simpa using h1, h2, fun k' hk' => ?_, h4⟩
          rw [List.take_succ_cons, List.mem_cons] at hk'
          rcases hk' with rfl | hk'
          · exact h
          · exact h3 k' hk'
theorem putK_drop : ∀ (ks : List PKey) (key value : ByteArray), dropK (putK ks (key, value)) key = dropK ks key
  | [], key, value => by simp [putK, dropK]
  | x :: xs, key, value => by
    unfold putK
    by_cases h : x.1 = key
    · rw [if_pos h]
      simp [dropK, h]
    · rw [if_neg h]
      split
      · simp [dropK]
      · have ih := putK_drop xs key value
        unfold dropK at ih ⊢
        rw [List.filter_cons, List.filter_cons, ih]
theorem putK_has (ks : List PKey) (key value : ByteArray) : HasK (putK ks (key, value)) key := by
  rcases putK_keyIs ks key value with ⟨h, -⟩ | ⟨j, k, h1, h2, -, -⟩
  · cases h
  · exact ⟨k, List.mem_of_getElem? h1, h2⟩
theorem dropK_none {ks : List PKey} {key : ByteArray} (h : ¬ HasK ks key) : dropK ks key = ks := by
  unfold dropK
  rw [List.filter_eq_self]
  intro x hx
  simp only [decide_eq_true_eq]
  exact fun e => h ⟨x, hx, e⟩
theorem take_last {l : List PStep} {k : Nat} {st : PStep} (hl : l.length = k + 1) (h : l[k]? = some st) : l.take k ++ [st] = l := by
  apply List.ext_getElem?
  intro i
  rcases Nat.lt_trichotomy i k with h1 | rfl | h1
  · rw [List.getElem?_append_left (by rw [List.length_take]; omega), List.getElem?_take, if_pos h1]
  · rw [List.getElem?_append_right (by rw [List.length_take]; omega), List.length_take, Nat.min_eq_left (by omega), Nat.sub_self, h]
    rfl
  · rw [List.getElem?_eq_none (by rw [List.length_append, List.length_take]; simp; omega), List.getElem?_eq_none (by omega)]
theorem front_last {l : List PStep} {k : Nat} {x : PStep} (hl : l.length = k + 1) : (l.take k ++ [x])[k]? = some x := by
  rw [List.getElem?_append_right (by rw [List.length_take]; omega), List.length_take, Nat.min_eq_left (by omega), Nat.sub_self]
  rfl
theorem front_past {l : List PStep} {k j : Nat} {x : PStep} (hl : l.length = k + 1) (h : k < j) : (l.take k ++ [x])[j]? = none :=
  List.getElem?_eq_none (by rw [List.length_append, List.length_take]; simp; omega)
theorem front_set {l : List PStep} {k : Nat} {x y : PStep} (hl : l.length = k + 1) : (l.take k ++ [x]).set k y = l.take k ++ [y] := by
  rw [List.set_append_right _ _ (by rw [List.length_take]; omega), List.length_take, Nat.min_eq_left (by omega), Nat.sub_self]
  rfl
/-- What With tells where it answers no error: the old steps, the last of them, and the new steps. -/
def PutsIs (p key value s : ByteArray) (st : PStep) : Prop := ∃ (l : List PStep) (k : Nat), parseM p = .ok l ∧ l.length = k + 1 ∧ l[k]? = some st ∧ parseM s = .ok (l.take k ++ [(st.1, putK st.2 (key, value))])
theorem PutsIs.get {p key value s : ByteArray} {st : PStep} (h : PutsIs p key value s st) {r : Option ByteArray} (hr : GetIs (parseL s) st.1 key r) : r = some value := by
  obtain ⟨l, k, -, hl, hst, hs⟩ := h
  have e : parseL s = l.take k ++ [(st.1, putK st.2 (key, value))] := by unfold parseL; rw [hs]
  rw [e] at hr
  refine getIs_unique hr (.inr ⟨k, _, front_last hl, rfl, fun j st' hj h => ?_, putK_keyIs st.2 key value⟩)
  rw [front_past hl hj] at h
  cases h
/-- The path without the key in its last step. -/
def backS (p key : ByteArray) (st : PStep) : ByteArray := putS (putM ((parseL p).take ((parseL p).length - 1) ++ [(st.1, dropK st.2 key)]))
theorem PutsIs.back {p key value s : ByteArray} {st : PStep} (h : PutsIs p key value s st) {W : World} {en : Ending} {W' : World} (hw : WithoutPost s key W en W') : Below W.heap.size W W' ∧ en = .returned (.tuple #[.string (backS p key st), .bool true]) := by
  obtain ⟨l, k, hp, hl, hst, hs⟩ := h
  obtain ⟨hB, ⟨⟨e, he⟩, -⟩ | ⟨l2, h2, h⟩⟩ := hw
  · rw [hs] at he
    cases he
  · rw [hs] at h2
    cases h2
    have hw2 : WoIs (l.take k ++ [(st.1, putK st.2 (key, value))]) key (some (l.take k ++ [(st.1, dropK st.2 key)])) := by
      refine .inr ⟨k, _, front_last hl, putK_has _ _ _, fun j st' hj h => ?_, ?_⟩
      · rw [front_past hl hj] at h
        cases h
      · rw [front_set hl, putK_drop]
    have e : backS p key st = putS (putM (l.take k ++ [(st.1, dropK st.2 key)])) := by
      unfold backS parseL
      rw [hp]
      simp only
      rw [hl, Nat.add_sub_cancel]
    rcases h with ⟨h, -⟩ | ⟨l', h, rfl⟩
    · exact absurd (woIs_unique h hw2) (by simp)
    · have := woIs_unique h hw2
      cases this
      exact ⟨hB, by rw [e]⟩
theorem PutsIs.own {p key value s : ByteArray} {st : PStep} (h : PutsIs p key value s st) {W : World} {en : Ending} {W' : World} (hw : WithoutPost p key W en W') : Below W.heap.size W W' ∧ ∃ (v : ByteArray) (b : Bool), en = .returned (.tuple #[.string v, .bool b]) ∧ (HasK st.2 key → v = backS p key st ∧ b = true) := by
  obtain ⟨l, k, hp, hl, hst, hs⟩ := h
  obtain ⟨hB, ⟨⟨e, he⟩, -⟩ | ⟨l2, h2, h⟩⟩ := hw
  · rw [hp] at he
    cases he
  · rw [hp] at h2
    cases h2
    have e : backS p key st = putS (putM (l.take k ++ [(st.1, dropK st.2 key)])) := by
      unfold backS parseL
      rw [hp]
      simp only
      rw [hl, Nat.add_sub_cancel]
    have hw2 : HasK st.2 key → WoIs l key (some (l.take k ++ [(st.1, dropK st.2 key)])) := fun hk => by
      refine .inr ⟨k, st, hst, hk, fun j st' hj h => ?_, ?_⟩
      · rw [List.getElem?_eq_none (by omega)] at h
        cases h
      · have h9 := front_set (x := st) (y := (st.1, dropK st.2 key)) hl
        rw [take_last hl hst] at h9
        rw [h9]
    rcases h with ⟨h, rfl⟩ | ⟨l', h, rfl⟩
    · exact ⟨hB, _, _, rfl, fun hk => absurd (woIs_unique h (hw2 hk)) (by simp)⟩
    · refine ⟨hB, _, _, rfl, fun hk => ⟨?_, rfl⟩⟩
      have := woIs_unique h (hw2 hk)
      cases this
      exact e.symm
theorem PutsIs.not {p key value s : ByteArray} {st : PStep} (h : PutsIs p key value s st) (hk : ¬ HasK st.2 key) : backS p key st = p := by
  obtain ⟨l, k, hp, hl, hst, hs⟩ := h
  have e : backS p key st = putS (putM (l.take k ++ [(st.1, dropK st.2 key)])) := by
    unfold backS parseL
    rw [hp]
    simp only
    rw [hl, Nat.add_sub_cancel]
  rw [e, dropK_none hk, show ((st.1, st.2) : PStep) = st from rfl, take_last hl hst, parse_print hp]
  rfl
theorem PutsIs.last {p key value s : ByteArray} {st : PStep} (h : PutsIs p key value s st) {W : World} {en : Ending} {W' : World} (hw : LastPost p W en W') : Below W.heap.size W W' ∧ ∃ (A : Option Addr) (c : Nat), KeysAt W' W'.heap.size (.slice A st.2.length c) st.2 ∧ en = .returned (.tuple #[.agg #[.string st.1, .slice A st.2.length c], .int .i64 0]) := by
  obtain ⟨l, k, hp, hl, hst, hs⟩ := h
  rcases hw with ⟨hb, e, he, h | h, rfl⟩ | ⟨hb, l', k', st', A, c, h1, h2, h3, h4, rfl⟩
  · obtain ⟨y, h⟩ := h
    rw [hp] at h
    cases h
  · rw [hp] at h
    cases h.1
    simp at hl
  · rw [hp] at h1
    cases h1
    obtain rfl : k = k' := by omega
    rw [hst] at h3
    cases h3
    exact ⟨hb, A, c, h4, rfl⟩
theorem putF_err : ∀ (l : List PStep) (sh : Bool) (sz : Nat) (ts : List (List UInt8)) (e : Int), putF l sh sz ts = .error e → e = 160
  | [], _, _, _, _, h => by cases h
  | st :: l, sh, sz, ts, e, h => by
    unfold putF at h
    split at h
    · exact putF_err l _ _ _ e h
    · cases h
      rfl
theorem putM_err {l : List PStep} {e : Int} (h : putM l = .error e) : e ≠ 0 := by
  unfold putM at h
  split at h
  · rename_i e' h'
    cases h
    have := putF_err _ _ _ _ _ h'
    omega
  · split at h
    · cases h
    · cases h
      decide
theorem with_puts {p key value : ByteArray} {W : World} {en : Ending} {W' : World} (h : WithPost p key value W en W') : Below W.heap.size W W' ∧
    ((∃ e : Int, e ≠ 0 ∧ en = .returned (.tuple #[.string ByteArray.empty, .int .i64 e])) ∨ ∃ (s : ByteArray) (st : PStep), PutsIs p key value s st ∧ en = .returned (.tuple #[.string s, .int .i64 0])) := by
  obtain ⟨hB, ⟨e, he, -, rfl⟩ | ⟨l, k, st, hp, hl, hst, rfl⟩⟩ := h
  · exact ⟨hB, .inl ⟨e, he, rfl⟩⟩
  · cases hm : putM (l.take k ++ [(st.1, putK st.2 (key, value))]) with
    | error e => exact ⟨hB, .inl ⟨e, putM_err hm, rfl⟩⟩
    | ok t => exact ⟨hB, .inr ⟨str t, st, ⟨l, k, hp, hl, hst, print_parse hm⟩, rfl⟩⟩
def hasB (ks : List PKey) (key : ByteArray) : Bool := ks.any fun x => x.1.toList == key.toList
theorem hasB_take {ks : List PKey} {key : ByteArray} {p : Nat} {x : PKey} (h : ks[p]? = some x) : hasB (ks.take (p + 1)) key = (hasB (ks.take p) key || (x.1.toList == key.toList)) := by
  unfold hasB
  rw [List.take_add_one, h]
  simp
theorem hasB_iff {ks : List PKey} {key : ByteArray} : hasB ks key = true ↔ HasK ks key := by
  unfold hasB HasK
  rw [List.any_eq_true]
  constructor
  · rintro ⟨x, hx, h⟩
    exact ⟨x, hx, by rw [ba_beq] at h; simpa using h⟩
  · rintro ⟨x, hx, h⟩
    exact ⟨x, hx, by rw [ba_beq]; simpa using h⟩
end Go.Proofs.Ytjebaibcfmjinaa
