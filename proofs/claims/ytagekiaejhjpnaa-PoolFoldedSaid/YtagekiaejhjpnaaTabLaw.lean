/-
  Tables as lists, plainly: a row put into a table; a list without its neighbours alike; what is told of keys. No condition, no program in sight.
-/
import Derived.Test.YtagekiaejhjpnaaPoolRow
namespace Go.Proofs.Ytagekiaejhjpnaa
open Go.RowKit

theorem kl_inj {l : List RowI} (h : RiseL kl l) {x y : RowI} (hx : x ∈ l) (hy : y ∈ l) (e : x.1 = y.1) : x = y := by
  obtain ⟨i, hi, rfl⟩ := List.mem_iff_getElem.1 hx
  obtain ⟨j, hj, rfl⟩ := List.mem_iff_getElem.1 hy
  rcases Nat.lt_trichotomy i j with h1 | h1 | h1
  · have := List.pairwise_iff_getElem.1 h i j hi hj h1
    simp only [kl, decide_eq_true_eq] at this
    omega
  · subst h1
    rfl
  · have := List.pairwise_iff_getElem.1 h j i hj hi h1
    simp only [kl, decide_eq_true_eq] at this
    omega
theorem kl_rl {l : List RowI} (h : RiseL kl l) : RiseL rl l := h.imp fun {a b} hab => by
  simp only [kl, decide_eq_true_eq] at hab
  exact rl_iff.2 (.inl hab)
theorem insL_in {α : Type} [DecidableEq α] {lt : α → α → Bool} (T : TotalLt lt) {l : List α} (h : RiseL lt l) {x : α} (hx : x ∈ l) : insL lt l x = l :=
  rise_unique T (insL_rise T x h) h fun y => by
    rw [insL_mem]
    exact ⟨fun h => h.elim (fun e => by rw [e]; exact hx) id, .inr⟩
/-- What the document's PutRow tells. -/
def PutR (t : List RowI) (r : RowI) (out : List RowI) (ok : Bool) : Prop := (∃ y ∈ t, y.1 = r.1 ∧ out = t ∧ ok = decide (y = r)) ∨ ((∀ y ∈ t, y.1 ≠ r.1) ∧ out = insL rl t r ∧ ok = true)
theorem kl_ins {t : List RowI} {r : RowI} (h : RiseL kl t) (hn : ∀ y ∈ t, y.1 ≠ r.1) : RiseL kl (insL rl t r) := by
  refine List.Pairwise.imp_of_mem ?_ (insL_rise rlT r (kl_rl h))
  intro a b ha hb hab
  have hne := rlT.ne hab
  rw [rl_iff] at hab
  simp only [kl, decide_eq_true_eq]
  rcases hab with h1 | ⟨h1, -⟩
  · exact h1
  · exfalso
    rcases (insL_mem t r a).1 ha with e1 | ha2
    · rcases (insL_mem t r b).1 hb with e2 | hb2
      · exact hne (e1.trans e2.symm)
      · exact hn b hb2 (by rw [← h1, e1])
    · rcases (insL_mem t r b).1 hb with e2 | hb2
      · exact hn a ha2 (by rw [h1, e2])
      · exact hne (kl_inj h ha2 hb2 h1)
/-- One row more: what is the table then. -/
theorem tab_step {l t out : List RowI} {p : Nat} {r : RowI} {ok : Bool} (hx : l[p]? = some r) (ht : t = poolL rl (l.take p)) (hr : RiseL kl t) (h : PutR t r out ok) :
    (ok = true ∧ out = poolL rl (l.take (p + 1)) ∧ RiseL kl out) ∨ (ok = false ∧ ¬ RiseL kl (poolL rl l)) := by
  have hs : poolL rl (l.take (p + 1)) = insL rl t r := by
    rw [List.take_add_one, hx, ht]
    exact poolL_snoc _ _
  rcases h with ⟨y, hy, hk, rfl, rfl⟩ | ⟨hn, rfl, rfl⟩
  · by_cases he : y = r
    · subst he
      exact .inl ⟨by simp, by rw [hs, insL_in rlT (kl_rl hr) hy], hr⟩
    · refine .inr ⟨by simpa using he, fun hc => he ?_⟩
      have h1 : y ∈ poolL rl l := (poolL_mem l y).2 (List.mem_of_mem_take ((poolL_mem _ y).1 (by rw [← ht]; exact hy)))
      have h2 : r ∈ poolL rl l := (poolL_mem l r).2 (List.mem_of_getElem? hx)
      exact kl_inj hc h1 h2 hk
  · exact .inl ⟨rfl, hs.symm, kl_ins hr hn⟩
/-- Where PutRow stops looking. -/
theorem putR_at {t : List RowI} {r : RowI} {p : Nat} (hr : RiseL kl t) (h0 : ∀ j x, j < p → t[j]? = some x → x.1 < r.1) (hp : p ≤ t.length) :
    (∀ x, t[p]? = some x → x.1 = r.1 → PutR t r t (decide (x = r))) ∧ ((∀ x, t[p]? = some x → r.1 < x.1) → PutR t r (t.take p ++ r :: t.drop p) true) := by
  refine ⟨fun x hx he => .inl ⟨x, List.mem_of_getElem? hx, he, rfl, rfl⟩, fun h1 => .inr ⟨fun y hy he => ?_, ?_, rfl⟩⟩
  · obtain ⟨j, hj, e⟩ := List.mem_iff_getElem.1 hy
    have hj' : t[j]? = some y := by simp [hj, e]
    rcases Nat.lt_trichotomy j p with h | h | h
    · have := h0 j y h hj'
      omega
    · subst h
      have := h1 y hj'
      omega
    · obtain ⟨x, hx⟩ := at_lt (l := t) (p := p) (by omega)
      have h2 := h1 x hx
      have h3 := rise_at hr hx hj' h
      simp only [kl, decide_eq_true_eq] at h3
      omega
  · rw [insL_split t r p (fun j x hj hx => rl_iff.2 (.inl (h0 j x hj hx))) hp (fun x hx => by
      have := h1 x hx
      cases h : rl x r
      · rfl
      · rw [rl_iff] at h; omega), if_neg (fun hx => by have := h1 r hx; omega)]
/-- One put between. -/
theorem put_midG {α : Type} {l : List α} {s : α} {p : Nat} (hp : p ≤ l.length) : (l.take p ++ s :: l.drop p).length = l.length + 1 ∧ (l.take p ++ s :: l.drop p).take (p + 1) = l.take p ++ [s] ∧ ∀ j x, p ≤ j → l[j]? = some x → (l.take p ++ s :: l.drop p)[j + 1]? = some x := by
  have h1 : (l.take p).length = p := by rw [List.length_take]; omega
  refine ⟨by simp; omega, ?_, fun j x hj hx => ?_⟩
  · rw [List.take_append, h1, show p + 1 - p = 1 by omega, List.take_take]
    simp
  · rw [List.getElem?_append_right (by omega), h1, show j + 1 - p = (j - p) + 1 by omega, List.getElem?_cons_succ, List.getElem?_drop, show p + (j - p) = j by omega]
    exact hx
/-- What is not less stands behind. -/
def SortedR (l : List RowI) : Prop := l.Pairwise fun x y => rl y x = false
/-- A list without neighbours that are alike. -/
def compF {α : Type} [DecidableEq α] (a : List α) (x : α) : List α := if a.getLast? = some x then a else a ++ [x]
def compL {α : Type} [DecidableEq α] (l : List α) : List α := l.foldl compF []
section
variable {α : Type} [DecidableEq α]
theorem compL_snoc (l : List α) (x : α) : compL (l ++ [x]) = compF (compL l) x := by simp [compL, List.foldl_append]
theorem compF_last (a : List α) (x : α) : (compF a x).getLast? = some x := by
  unfold compF
  split
  · assumption
  · simp
theorem compL_last (l : List α) : (compL l).getLast? = l.getLast? := by
  rcases List.eq_nil_or_concat l with rfl | ⟨m, x, rfl⟩
  · rfl
  · rw [List.concat_eq_append, compL_snoc, compF_last]
    simp
theorem compL_mem (l : List α) : ∀ x, x ∈ compL l ↔ x ∈ l := by
  have h : ∀ (n : Nat) (l : List α), l.length = n → ∀ x, x ∈ compL l ↔ x ∈ l := by
    intro n
    induction n with
    | zero => intro l hl x; rw [List.length_eq_zero_iff.1 hl]; simp [compL]
    | succ n ih =>
      intro l hl x
      rcases List.eq_nil_or_concat l with rfl | ⟨m, y, rfl⟩
      · simp [compL]
      · rw [List.concat_eq_append] at hl ⊢
        have hm : m.length = n := by simpa using hl
        rw [compL_snoc]
        unfold compF
        split
        · rename_i e
          rw [ih m hm x]
          simp only [List.mem_append, List.mem_singleton]
          refine ⟨.inl, fun h => h.elim id fun e2 => ?_⟩
          rw [compL_last] at e
          rw [e2]
          exact List.mem_of_getLast? e
        · simp [ih m hm x]
  exact h _ l rfl
theorem compL_len (l : List α) : (compL l).length ≤ l.length := by
  have h : ∀ (l a : List α), (l.foldl compF a).length ≤ a.length + l.length := by
    intro l
    induction l with
    | nil => simp
    | cons x l ih =>
      intro a
      have := ih (compF a x)
      have h2 : (compF a x).length ≤ a.length + 1 := by
        unfold compF
        split <;> simp
      simp only [List.foldl_cons, List.length_cons]
      omega
  have := h l []
  simpa [compL] using this
/-- One more, by its neighbour. -/
theorem compL_step {l : List α} {j : Nat} {x y : α} (hx : l[j]? = some x) (hy : l[j + 1]? = some y) : compL (l.take (j + 2)) = if x = y then compL (l.take (j + 1)) else compL (l.take (j + 1)) ++ [y] := by
  have hl : (compL (l.take (j + 1))).getLast? = some x := by
    rw [compL_last, List.take_add_one, hx]
    simp
  rw [show j + 2 = (j + 1) + 1 by omega, List.take_add_one, hy]
  simp only [Option.toList_some]
  rw [compL_snoc]
  unfold compF
  rw [hl]
  by_cases h : x = y
  · simp [h]
  · rw [if_neg (fun e => h (Option.some.inj e)), if_neg h]
theorem compL_one {l : List α} {x : α} (hx : l[0]? = some x) : compL (l.take 1) = [x] := by
  rw [show (1 : Nat) = 0 + 1 from rfl, List.take_add_one, hx]
  simp [compL, compF]
/-- All neighbours unlike. -/
theorem compL_all {l : List α} : ∀ (k : Nat), k ≤ l.length → (∀ (j : Nat) (x y : α), j + 1 < k → l[j]? = some x → l[j + 1]? = some y → x ≠ y) → compL (l.take k) = l.take k
  | 0, _, _ => by simp [compL]
  | 1, h, _ => by
    obtain ⟨x, hx⟩ := at_lt (l := l) (p := 0) (by omega)
    rw [compL_one hx, show (1 : Nat) = 0 + 1 from rfl, List.take_add_one, hx]
    simp
  | k + 2, h, hn => by
    obtain ⟨x, hx⟩ := at_lt (l := l) (p := k) (by omega)
    obtain ⟨y, hy⟩ := at_lt (l := l) (p := k + 1) (by omega)
    rw [compL_step hx hy, if_neg (hn k x y (by omega) hx hy), compL_all (k + 1) (by omega) (fun j x y hj => hn j x y (by omega)), List.take_add_one (i := k + 1), hy]
    simp
end
theorem comp_rise {l : List RowI} (h : SortedR l) : RiseL rl (compL l) := by
  have key : ∀ (n : Nat) (l : List RowI), l.length = n → SortedR l → RiseL rl (compL l) := by
    intro n
    induction n with
    | zero => intro l hl _; rw [List.length_eq_zero_iff.1 hl]; exact List.Pairwise.nil
    | succ n ih =>
      intro l hl hs
      rcases List.eq_nil_or_concat l with rfl | ⟨m, y, rfl⟩
      · exact List.Pairwise.nil
      · rw [List.concat_eq_append] at hl hs ⊢
        have hm : m.length = n := by simpa using hl
        obtain ⟨h1, h2, h3⟩ := List.pairwise_append.1 hs
        have hr := ih m hm h1
        rw [compL_snoc]
        unfold compF
        split
        · exact hr
        · rename_i hne
          refine List.pairwise_append.2 ⟨hr, List.pairwise_singleton _ _, fun a ha b hb => ?_⟩
          simp only [List.mem_singleton] at hb
          subst hb
          have ham := (compL_mem m a).1 ha
          have h4 := h3 a ham b (by simp)
          have hab : a ≠ b := by
            intro e
            subst e
            apply hne
            rw [compL_last]
            obtain ⟨z, hz⟩ : ∃ z, m.getLast? = some z := by
              cases hg : m.getLast? with
              | none => rw [List.getLast?_eq_none_iff.1 hg] at ham; cases ham
              | some z => exact ⟨z, rfl⟩
            rw [hz]
            have hzm : z ∈ m := List.mem_of_getLast? hz
            have h5 := h3 z hzm a (by simp)
            by_cases e : a = z
            · rw [e]
            · exfalso
              obtain ⟨i, hi, e1⟩ := List.mem_iff_getElem.1 ham
              have hzl : m[m.length - 1]? = some z := by rw [← List.getLast?_eq_getElem?]; exact hz
              have hii : i < m.length - 1 := by
                rcases Nat.lt_or_ge i (m.length - 1) with h | h
                · exact h
                · have : i = m.length - 1 := by omega
                  subst this
                  rw [List.getElem?_eq_getElem hi, e1] at hzl
                  exact absurd (Option.some.inj hzl) e
              obtain ⟨hzl1, e2⟩ := List.getElem?_eq_some_iff.1 hzl
              have h6 := List.pairwise_iff_getElem.1 h1 i (m.length - 1) hi hzl1 hii
              rw [e1, e2] at h6
              exact e (rlT.conn a z h5 h6)
          exact rlT.flip h4 (fun e => hab e.symm)
  exact key _ l rfl h
theorem comp_pool {l l' : List RowI} (h : SortedR l') (hm : ∀ x, x ∈ l' ↔ x ∈ l) : compL l' = poolL rl l :=
  poolL_eq rlT (comp_rise h) fun x => (compL_mem l' x).trans (hm x)
/-- Neighbours of one key in what rises. -/
theorem kl_of_adj {l : List RowI} (h : RiseL rl l) (hn : ∀ (j : Nat) (x y : RowI), l[j]? = some x → l[j + 1]? = some y → x.1 ≠ y.1) : RiseL kl l :=
  rise_of_adj kl_tr l fun j x y hx hy => by
    have h1 := rise_at h hx hy (by omega)
    have h2 := hn j x y hx hy
    rw [rl_iff] at h1
    simp only [kl, decide_eq_true_eq]
    omega
end Go.Proofs.Ytagekiaejhjpnaa
