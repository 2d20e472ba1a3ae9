/-
  Rising lists, plainly: putting in, taking each once, what is alike; how many places a search leaves. No condition, no program in sight.
-/
import Derived.Test.YtagekiaejhjpnaaSortRow
namespace Go.Proofs.Ytagekiaejhjpnaa
open Go.RowKit

structure TotalLt {α : Type} (lt : α → α → Bool) : Prop where
  irr : ∀ a, lt a a = false
  tr : ∀ a b c, lt a b = true → lt b c = true → lt a c = true
  conn : ∀ a b, lt a b = false → lt b a = false → a = b
section
variable {α : Type} {lt : α → α → Bool}
theorem TotalLt.asym (T : TotalLt lt) {a b : α} (h : lt a b = true) : lt b a = false := by
  cases e : lt b a
  · rfl
  · have := T.tr _ _ _ h e
    rw [T.irr] at this
    cases this
theorem TotalLt.ne (T : TotalLt lt) {a b : α} (h : lt a b = true) : a ≠ b := fun e => by rw [e, T.irr] at h; cases h
theorem TotalLt.flip (T : TotalLt lt) {a b : α} (h : lt a b = false) (hne : a ≠ b) : lt b a = true := by
  cases e : lt b a
  · exact absurd (T.conn _ _ h e) hne
  · rfl
def RiseL (lt : α → α → Bool) (l : List α) : Prop := l.Pairwise fun x y => lt x y = true
instance (l : List α) : Decidable (RiseL lt l) := inferInstanceAs (Decidable (l.Pairwise fun x y => lt x y = true))
theorem rise_of_adj (tr : ∀ a b c, lt a b = true → lt b c = true → lt a c = true) : ∀ (l : List α), (∀ (j : Nat) (x y : α), l[j]? = some x → l[j + 1]? = some y → lt x y = true) → RiseL lt l
  | [], _ => List.Pairwise.nil
  | [x], _ => by simp [RiseL]
  | x :: y :: l, h => by
    have h1 := rise_of_adj tr (y :: l) fun j a b ha hb => h (j + 1) a b (by simpa using ha) (by simpa using hb)
    have hxy := h 0 x y (by simp) (by simp)
    refine List.pairwise_cons.2 ⟨fun z hz => ?_, h1⟩
    rcases List.mem_cons.1 hz with rfl | hz
    · exact hxy
    · exact tr _ _ _ hxy ((List.pairwise_cons.1 h1).1 z hz)
theorem rise_at {l : List α} (h : RiseL lt l) {i j : Nat} {x y : α} (hx : l[i]? = some x) (hy : l[j]? = some y) (hij : i < j) : lt x y = true := by
  obtain ⟨hi, rfl⟩ := List.getElem?_eq_some_iff.1 hx
  obtain ⟨hj, rfl⟩ := List.getElem?_eq_some_iff.1 hy
  exact List.pairwise_iff_getElem.1 h i j hi hj hij
theorem rise_take {l : List α} (h : RiseL lt l) (k : Nat) : RiseL lt (l.take k) := List.Pairwise.sublist (List.take_sublist _ _) h
theorem rise_unique (T : TotalLt lt) : ∀ {a b : List α}, RiseL lt a → RiseL lt b → (∀ x, x ∈ a ↔ x ∈ b) → a = b
  | [], [], _, _, _ => rfl
  | [], y :: b, _, _, h => by have := (h y).2 (by simp); simp at this
  | x :: a, [], _, _, h => by have := (h x).1 (by simp); simp at this
  | x :: a, y :: b, ha, hb, h => by
    obtain ⟨a1, a2⟩ := List.pairwise_cons.1 ha
    obtain ⟨b1, b2⟩ := List.pairwise_cons.1 hb
    have hxy : x = y := by
      rcases List.mem_cons.1 ((h x).1 (by simp)) with e | hx
      · exact e
      · rcases List.mem_cons.1 ((h y).2 (by simp)) with e | hy
        · exact e.symm
        · have := T.asym (a1 y hy)
          rw [b1 x hx] at this
          cases this
    subst hxy
    refine congrArg (x :: ·) (rise_unique T a2 b2 fun z => ⟨fun hz => ?_, fun hz => ?_⟩)
    · rcases List.mem_cons.1 ((h z).1 (by simp [hz])) with e | h'
      · exact absurd e.symm (T.ne (a1 z hz))
      · exact h'
    · rcases List.mem_cons.1 ((h z).2 (by simp [hz])) with e | h'
      · exact absurd e.symm (T.ne (b1 z hz))
      · exact h'
theorem rise_inj (T : TotalLt lt) {l : List α} (h : RiseL lt l) {i j : Nat} {x : α} (hx : l[i]? = some x) (hy : l[j]? = some x) : i = j := by
  rcases Nat.lt_trichotomy i j with e | e | e
  · have := rise_at h hx hy e; rw [T.irr] at this; cases this
  · exact e
  · have := rise_at h hy hx e; rw [T.irr] at this; cases this
end
section
variable {α : Type} [DecidableEq α] {lt : α → α → Bool}
/-- A list with one more. -/
def insL (lt : α → α → Bool) : List α → α → List α
  | [], s => [s]
  | x :: xs, s => if lt x s = true then x :: insL lt xs s else if x = s then x :: xs else s :: x :: xs
theorem insL_mem (l : List α) (s x : α) : x ∈ insL lt l s ↔ x = s ∨ x ∈ l := by
  induction l with
  | nil => simp [insL]
  | cons y l ih =>
    unfold insL
    split
    · simp only [List.mem_cons, ih]
      constructor
      · rintro (h | h | h)
        · exact .inr (.inl h)
        · exact .inl h
        · exact .inr (.inr h)
      · rintro (h | h | h)
        · exact .inr (.inl h)
        · exact .inl h
        · exact .inr (.inr h)
    · split
      · rename_i h
        subst h
        simp only [List.mem_cons]
        constructor
        · exact fun h => .inr h
        · rintro (h | h)
          · exact .inl h
          · exact h
      · simp only [List.mem_cons]
theorem insL_rise (T : TotalLt lt) {l : List α} (s : α) (h : RiseL lt l) : RiseL lt (insL lt l s) := by
  induction l with
  | nil => simp [insL, RiseL]
  | cons y l ih =>
    obtain ⟨h1, h2⟩ := List.pairwise_cons.1 h
    unfold insL
    split
    · rename_i hy
      refine List.pairwise_cons.2 ⟨fun x hx => ?_, ih h2⟩
      rcases (insL_mem l s x).1 hx with rfl | hx
      · exact hy
      · exact h1 x hx
    · rename_i hy
      split
      · exact h
      · rename_i hne
        have hsy : lt s y = true := T.flip (by simpa using hy) hne
        refine List.pairwise_cons.2 ⟨fun x hx => ?_, h⟩
        rcases List.mem_cons.1 hx with rfl | hx
        · exact hsy
        · exact T.tr _ _ _ hsy (h1 x hx)
/-- Each once, rising. -/
def poolL (lt : α → α → Bool) (l : List α) : List α := l.foldl (insL lt) []
theorem foldl_ins_mem (l : List α) : ∀ (a : List α) (x : α), x ∈ l.foldl (insL lt) a ↔ x ∈ a ∨ x ∈ l := by
  induction l with
  | nil => simp
  | cons y l ih =>
    intro a x
    simp only [List.foldl_cons, ih, insL_mem, List.mem_cons]
    constructor
    · rintro ((h | h) | h)
      · exact .inr (.inl h)
      · exact .inl h
      · exact .inr (.inr h)
    · rintro (h | h | h)
      · exact .inl (.inr h)
      · exact .inl (.inl h)
      · exact .inr h
theorem foldl_ins_rise (T : TotalLt lt) (l : List α) : ∀ (a : List α), RiseL lt a → RiseL lt (l.foldl (insL lt) a) := by
  induction l with
  | nil => exact fun _ h => h
  | cons y l ih => exact fun a h => ih _ (insL_rise T y h)
theorem poolL_mem (l : List α) (x : α) : x ∈ poolL lt l ↔ x ∈ l := by simp [poolL, foldl_ins_mem]
theorem poolL_rise (T : TotalLt lt) (l : List α) : RiseL lt (poolL lt l) := foldl_ins_rise T l [] List.Pairwise.nil
theorem poolL_eq (T : TotalLt lt) {l a : List α} (ha : RiseL lt a) (h : ∀ x, x ∈ a ↔ x ∈ l) : a = poolL lt l :=
  rise_unique T ha (poolL_rise T l) fun x => (h x).trans (poolL_mem l x).symm
theorem poolL_snoc (l : List α) (x : α) : poolL lt (l ++ [x]) = insL lt (poolL lt l) x := by simp [poolL, List.foldl_append]
theorem insL_len (l : List α) (s : α) : (insL lt l s).length ≤ l.length + 1 := by
  induction l with
  | nil => simp [insL]
  | cons y l ih =>
    unfold insL
    split
    · simp only [List.length_cons]; omega
    · split
      · simp
      · simp
theorem foldl_ins_len (l : List α) : ∀ a : List α, (l.foldl (insL lt) a).length ≤ a.length + l.length := by
  induction l with
  | nil => simp
  | cons y l ih =>
    intro a
    have h1 := ih (insL lt a y)
    have h2 := insL_len (lt := lt) a y
    simp only [List.foldl_cons, List.length_cons]
    omega
theorem poolL_len (l : List α) : (poolL lt l).length ≤ l.length := by
  have := foldl_ins_len (lt := lt) l []
  simpa [poolL] using this
theorem poolL_self (T : TotalLt lt) {l : List α} (h : RiseL lt l) : poolL lt l = l := (poolL_eq T h fun _ => Iff.rfl).symm
theorem poolL_congr (T : TotalLt lt) {l m : List α} (h : ∀ x, x ∈ l ↔ x ∈ m) : poolL lt l = poolL lt m :=
  poolL_eq T (poolL_rise T l) fun x => (poolL_mem l x).trans (h x)
/-- The place where one is put: all ahead are less, none less behind. -/
theorem insL_split : ∀ (l : List α) (s : α) (i : Nat), (∀ j x, j < i → l[j]? = some x → lt x s = true) → i ≤ l.length → (∀ x, l[i]? = some x → lt x s = false) →
    insL lt l s = (if l[i]? = some s then l else l.take i ++ s :: l.drop i)
  | [], s, i, _, hi, _ => by
    have : i = 0 := by simpa using hi
    subst this
    simp [insL]
  | y :: l, s, 0, _, _, h => by
    have := h y (by simp)
    unfold insL
    rw [if_neg (by simp [this])]
    by_cases e : y = s
    · simp [e]
    · simp [e]
  | y :: l, s, i + 1, h0, hi, h => by
    have h1 := h0 0 y (by omega) (by simp)
    unfold insL
    rw [if_pos h1, insL_split l s i (fun j x hj hx => h0 (j + 1) x (by omega) (by simpa using hx)) (by simpa using hi) (fun x hx => h x (by simpa using hx))]
    simp only [List.getElem?_cons_succ]
    split
    · rfl
    · simp
end
/-- How many places a search leaves: the first at which it is so. -/
theorem count_prefix (p : Nat → Bool) : ∀ (n : Nat), (∀ a b, a ≤ b → b < n → p a = true → p b = true) →
    (List.range n).countP (fun i => !p i) ≤ n ∧ (∀ i, i < (List.range n).countP (fun i => !p i) → p i = false) ∧ ∀ i, (List.range n).countP (fun i => !p i) ≤ i → i < n → p i = true
  | 0, _ => by simp
  | n + 1, hm => by
    obtain ⟨h1, h2, h3⟩ := count_prefix p n fun a b h hb => hm a b h (by omega)
    rw [List.range_succ, List.countP_append]
    cases hp : p n
    · have hall : ∀ i, i < n → p i = false := fun i hi => by
        cases e : p i
        · rfl
        · have := hm i n (by omega) (by omega) e
          rw [hp] at this
          cases this
      have hc : (List.range n).countP (fun i => !p i) = n := by
        rcases Nat.lt_or_ge ((List.range n).countP fun i => !p i) n with h | h
        · have := h3 _ (Nat.le_refl _) h
          rw [hall _ h] at this
          cases this
        · omega
      simp only [List.countP_singleton, hp, hc]
      refine ⟨by simp, fun i hi => ?_, fun i h h' => ?_⟩
      · rcases Nat.lt_or_ge i n with h | h
        · exact hall i h
        · have : i = n := by simp at hi; omega
          rw [this, hp]
      · simp at h; omega
    · simp only [List.countP_singleton, hp]
      simp only [Bool.not_true, Bool.false_eq_true, if_false, Nat.add_zero]
      refine ⟨by omega, h2, fun i h h' => ?_⟩
      rcases Nat.lt_or_ge i n with h4 | h4
      · exact h3 i h h4
      · have : i = n := by omega
        rw [this, hp]
/-- Texts' order. -/
def bl (a b : ByteArray) : Bool := Op.bytesLess a.toList b.toList
theorem blT : TotalLt bl where
  irr a := bl_irr _
  tr a b c := bl_trans _ _ _
  conn a b h1 h2 := by
    have := bl_conn _ _ h1 h2
    rw [Lib.toList_data, Lib.toList_data] at this
    obtain ⟨⟨x⟩⟩ := a
    obtain ⟨⟨y⟩⟩ := b
    simp at this
    rw [this]
/-- Rows' order: by the key, then the value. -/
def rl (a b : Int × Int) : Bool := decide (a.1 < b.1) || (decide (a.1 = b.1) && decide (a.2 < b.2))
theorem rl_iff {a b : Int × Int} : rl a b = true ↔ a.1 < b.1 ∨ (a.1 = b.1 ∧ a.2 < b.2) := by simp [rl]
theorem rlT : TotalLt rl where
  irr a := by cases h : rl a a <;> simp_all [rl_iff]
  tr a b c h1 h2 := by rw [rl_iff] at *; omega
  conn a b h1 h2 := by
    have e1 : ¬ (a.1 < b.1 ∨ (a.1 = b.1 ∧ a.2 < b.2)) := fun h => by rw [← rl_iff] at h; rw [h] at h1; cases h1
    have e2 : ¬ (b.1 < a.1 ∨ (b.1 = a.1 ∧ b.2 < a.2)) := fun h => by rw [← rl_iff] at h; rw [h] at h2; cases h2
    exact Prod.ext (by omega) (by omega)
/-- Lists' order, by their elements' order. -/
def lexL {α : Type} [DecidableEq α] (lt : α → α → Bool) : List α → List α → Bool
  | _, [] => false
  | [], _ :: _ => true
  | x :: a, y :: b => if x = y then lexL lt a b else lt x y
theorem lexT {α : Type} [DecidableEq α] {lt : α → α → Bool} (T : TotalLt lt) : TotalLt (lexL lt) where
  irr a := by
    induction a with
    | nil => rfl
    | cons x a ih => simpa [lexL] using ih
  tr a b c := by
    induction a generalizing b c with
    | nil =>
      intro h1 h2
      cases b with
      | nil => simp [lexL] at h1
      | cons y b => cases c with
        | nil => simp [lexL] at h2
        | cons z c => rfl
    | cons x a ih =>
      intro h1 h2
      cases b with
      | nil => simp [lexL] at h1
      | cons y b => cases c with
        | nil => simp [lexL] at h2
        | cons z c =>
          simp only [lexL] at h1 h2 ⊢
          by_cases e1 : x = y
          · subst e1
            by_cases e2 : x = z
            · subst e2
              simp only [if_true] at h1 h2 ⊢
              exact ih _ _ h1 h2
            · simp only [if_neg e2, if_true] at h1 h2 ⊢
              exact h2
          · simp only [if_neg e1] at h1
            by_cases e2 : y = z
            · subst e2
              simp only [if_neg e1]
              exact h1
            · simp only [if_neg e2] at h2
              have h3 := T.tr _ _ _ h1 h2
              rw [if_neg (T.ne h3)]
              exact h3
  conn a b := by
    induction a generalizing b with
    | nil =>
      intro h1 h2
      cases b with
      | nil => rfl
      | cons y b => simp [lexL] at h1
    | cons x a ih =>
      intro h1 h2
      cases b with
      | nil => simp [lexL] at h2
      | cons y b =>
        simp only [lexL] at h1 h2
        by_cases e : x = y
        · subst e
          simp only [if_true] at h1 h2
          rw [ih b h1 h2]
        · rw [if_neg e] at h1
          rw [if_neg (fun h => e h.symm)] at h2
          exact absurd (T.conn _ _ h1 h2) e
end Go.Proofs.Ytagekiaejhjpnaa
