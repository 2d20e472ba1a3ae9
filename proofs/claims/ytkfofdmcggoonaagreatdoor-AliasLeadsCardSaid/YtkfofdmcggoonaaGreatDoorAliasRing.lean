/-
  What follows what among aliases, rings, and where a path leads; plainly. No condition, no program in sight.
-/
import Derived.Test.YtkfofdmcggoonaaGreatDoorPathPrint
import Derived.Test.YtkfofdmcggoonaaGreatDoorPathRT
import Derived.Test.YtkfofdmcggoonaaGreatDoorReach
set_option linter.unusedVariables false
set_option linter.unusedSimpArgs false
namespace Go.Proofs.YtkfofdmcggoonaaGreatDoor
open Go.RowKit

/-- Does the first alias follow the second one? -/
def folB (nx one : PKey) : Bool := inB one.2 nx.1 || inB nx.1 one.2
/-- The k-th alias follows the i-th one. -/
def folF (l : List PKey) (i k : Nat) : Bool := match l[i]?, l[k]? with
  | some x, some y => folB y x
  | _, _ => false
theorem folF_at {l : List PKey} {i k : Nat} {x y : PKey} (hx : l[i]? = some x) (hy : l[k]? = some y) : folF l i k = folB y x := by
  unfold folF
  rw [hx, hy]
/-- From one alias to another, each following the one before. -/
inductive RchE (l : List PKey) : PKey → PKey → Prop
  | one {x y : PKey} (hx : x ∈ l) (hy : y ∈ l) (h : folB y x = true) : RchE l x y
  | more {x y z : PKey} (h : RchE l x y) (hz : z ∈ l) (h2 : folB z y = true) : RchE l x z
theorem RchE.mem {l : List PKey} {x y : PKey} (h : RchE l x y) : x ∈ l ∧ y ∈ l := by
  induction h with
  | one hx hy _ => exact ⟨hx, hy⟩
  | more _ hz _ ih => exact ⟨ih.1, hz⟩
theorem RchE.trans {l : List PKey} {x y z : PKey} (h : RchE l x y) (h2 : RchE l y z) : RchE l x z := by
  induction h2 with
  | one _ hz h3 => exact h.more hz h3
  | more _ hz h3 ih => exact ih.more hz h3
theorem RchE.set {l m : List PKey} (he : ∀ x, x ∈ l ↔ x ∈ m) {x y : PKey} (h : RchE l x y) : RchE m x y := by
  induction h with
  | one hx hy h => exact .one ((he _).1 hx) ((he _).1 hy) h
  | more _ hz h ih => exact ih.more ((he _).1 hz) h
theorem rchE_of {l : List PKey} {i : Nat} {x : PKey} (hx : l[i]? = some x) {k : Nat} (h : RF l.length (folF l) i k) : ∃ y, l[k]? = some y ∧ RchE l x y := by
  induction h with
  | @one k hk h =>
    have hy : l[k]? = some l[k] := List.getElem?_eq_getElem hk
    rw [folF_at hx hy] at h
    exact ⟨_, hy, .one (List.mem_of_getElem? hx) (List.mem_of_getElem? hy) h⟩
  | @more j k hj hk h ih =>
    obtain ⟨z, hz, ih⟩ := ih
    have hy : l[k]? = some l[k] := List.getElem?_eq_getElem hk
    rw [folF_at hz hy] at h
    exact ⟨_, hy, ih.more (List.mem_of_getElem? hy) h⟩
theorem rf_of {l : List PKey} {i : Nat} {x y : PKey} (hd : ∀ (a b : Nat) (x y : PKey), l[a]? = some x → l[b]? = some y → x.1 = y.1 → a = b) (hx : l[i]? = some x) (h : RchE l x y) : ∃ k, l[k]? = some y ∧ RF l.length (folF l) i k := by
  induction h with
  | @one y ha hy h =>
    obtain ⟨k, hk⟩ := List.mem_iff_getElem?.1 hy
    exact ⟨k, hk, .one (List.getElem?_eq_some_iff.1 hk).1 (by rw [folF_at hx hk]; exact h)⟩
  | @more y z h hz h2 ih =>
    obtain ⟨j, hj, ih⟩ := ih
    obtain ⟨k, hk⟩ := List.mem_iff_getElem?.1 hz
    exact ⟨k, hk, ih.more (List.getElem?_eq_some_iff.1 hk).1 (by rw [folF_at hj hk]; exact h2)⟩
/-- An alias that can't be. -/
def badA (x : PKey) : Bool := !rightB x.1 || !rightB x.2 || decide (x.1 = ByteArray.empty) || decide (x.2 = ByteArray.empty)
theorem badA_no {x : PKey} (h : badA x = false) : rightB x.1 = true ∧ rightB x.2 = true ∧ x.1 ≠ ByteArray.empty ∧ x.2 ≠ ByteArray.empty := by
  unfold badA at h
  simp only [Bool.or_eq_false_iff, Bool.not_eq_false', decide_eq_false_iff_not] at h
  exact ⟨h.1.1.1, h.1.1.2, h.1.2, h.2⟩
def AgainAt (l : List PKey) (i : Nat) (x : PKey) : Prop := ∃ k y, k < i ∧ l[k]? = some y ∧ y.1 = x.1
def WrongAt (l : List PKey) (i : Nat) (e : Int) : Prop := ∃ x, l[i]? = some x ∧ ((badA x = true ∧ e = 2) ∨ (badA x = false ∧ AgainAt l i x ∧ e = 211))
def FineAt (l : List PKey) (i : Nat) : Prop := ∃ x, l[i]? = some x ∧ badA x = false ∧ ¬ AgainAt l i x
theorem wrong_fine {l : List PKey} {i : Nat} {e : Int} (h : WrongAt l i e) (h2 : FineAt l i) : False := by
  obtain ⟨x, hx, h⟩ := h
  obtain ⟨y, hy, h3, h4⟩ := h2
  rw [hx] at hy
  cases hy
  rcases h with ⟨h, -⟩ | ⟨-, h, -⟩
  · rw [h3] at h; cases h
  · exact h4 h
theorem wrong_one {l : List PKey} {i : Nat} {e e' : Int} (h : WrongAt l i e) (h2 : WrongAt l i e') : e = e' := by
  obtain ⟨x, hx, h⟩ := h
  obtain ⟨y, hy, h2⟩ := h2
  rw [hx] at hy
  cases hy
  rcases h with ⟨h, e1⟩ | ⟨h, -, e1⟩ <;> rcases h2 with ⟨h2, e2⟩ | ⟨h2, -, e2⟩
  · rw [e1, e2]
  · rw [h] at h2; cases h2
  · rw [h] at h2; cases h2
  · rw [e1, e2]
def AllFine (l : List PKey) : Prop := ∀ j, j < l.length → FineAt l j
def NoRing (l : List PKey) : Prop := ∀ i, ¬ RF l.length (folF l) i i
def NoRingE (l : List PKey) : Prop := ∀ x, ¬ RchE l x x
/-- What is wrong with aliases. -/
def FaultIs (l : List PKey) (e a : Int) : Prop :=
  (∃ i : Nat, a = (i : Int) ∧ WrongAt l i e ∧ ∀ j, j < i → FineAt l j) ∨
  (AllFine l ∧ ∃ i : Nat, a = (i : Int) ∧ e = 210 ∧ RF l.length (folF l) i i ∧ ∀ j, j < i → ¬ RF l.length (folF l) j j) ∨
  (AllFine l ∧ NoRing l ∧ e = 0 ∧ a = 0)
theorem wrong_lt {l : List PKey} {i : Nat} {e : Int} (h : WrongAt l i e) : i < l.length := by
  obtain ⟨x, hx, -⟩ := h
  exact (List.getElem?_eq_some_iff.1 hx).1
theorem fault_one {l : List PKey} {e a e' a' : Int} (h : FaultIs l e a) (h2 : FaultIs l e' a') : e = e' ∧ a = a' := by
  rcases h with ⟨i, rfl, h1, hi⟩ | ⟨hf, i, rfl, rfl, h1, hi⟩ | ⟨hf, hn, rfl, rfl⟩
  · rcases h2 with ⟨k, rfl, h2, hk⟩ | ⟨hf, -⟩ | ⟨hf, -⟩
    · rcases Nat.lt_trichotomy i k with h | rfl | h
      · exact absurd (hk i h) (wrong_fine h1)
      · exact ⟨wrong_one h1 h2, rfl⟩
      · exact absurd (hi k h) (wrong_fine h2)
    · exact absurd (hf i (wrong_lt h1)) (wrong_fine h1)
    · exact absurd (hf i (wrong_lt h1)) (wrong_fine h1)
  · rcases h2 with ⟨k, rfl, h2, hk⟩ | ⟨-, k, rfl, rfl, h2, hk⟩ | ⟨-, hn, -⟩
    · exact absurd (hf k (wrong_lt h2)) (wrong_fine h2)
    · rcases Nat.lt_trichotomy i k with h | rfl | h
      · exact absurd h1 (hk i h)
      · exact ⟨rfl, rfl⟩
      · exact absurd h2 (hi k h)
    · exact absurd h1 (hn i)
  · rcases h2 with ⟨k, rfl, h2, hk⟩ | ⟨-, k, rfl, rfl, h2, hk⟩ | ⟨-, -, rfl, rfl⟩
    · exact absurd (hf k (wrong_lt h2)) (wrong_fine h2)
    · exact absurd h2 (hn k)
    · exact ⟨rfl, rfl⟩
theorem fault_ok {l : List PKey} {a : Int} (h : FaultIs l 0 a) : AllFine l ∧ NoRing l ∧ a = 0 := by
  rcases h with ⟨i, rfl, ⟨x, -, h⟩, -⟩ | ⟨-, i, -, h, -⟩ | ⟨h1, h2, -, h3⟩
  · rcases h with ⟨-, h⟩ | ⟨-, -, h⟩ <;> exact absurd h (by decide)
  · exact absurd h (by decide)
  · exact ⟨h1, h2, h3⟩
theorem allFine_mem {l : List PKey} (h : AllFine l) {x : PKey} (hx : x ∈ l) : badA x = false := by
  obtain ⟨i, hi⟩ := List.mem_iff_getElem?.1 hx
  obtain ⟨y, hy, hb, -⟩ := h i (List.getElem?_eq_some_iff.1 hi).1
  rw [hi] at hy
  cases hy
  exact hb
theorem allFine_inj {l : List PKey} (h : AllFine l) {x y : PKey} {i k : Nat} (hx : l[i]? = some x) (hy : l[k]? = some y) (e : x.1 = y.1) : i = k := by
  rcases Nat.lt_trichotomy i k with hlt | rfl | hlt
  · obtain ⟨z, hz, -, hn⟩ := h k (List.getElem?_eq_some_iff.1 hy).1
    rw [hy] at hz
    cases hz
    exact absurd ⟨i, x, hlt, hx, e⟩ hn
  · rfl
  · obtain ⟨z, hz, -, hn⟩ := h i (List.getElem?_eq_some_iff.1 hx).1
    rw [hx] at hz
    cases hz
    exact absurd ⟨k, y, hlt, hy, e.symm⟩ hn
theorem noRingE {l : List PKey} (hf : AllFine l) (h : NoRing l) : NoRingE l := fun x hx => by
  obtain ⟨i, hi⟩ := List.mem_iff_getElem?.1 hx.mem.1
  obtain ⟨k, hk, hr⟩ := rf_of (fun a b x y h1 h2 e => allFine_inj hf h1 h2 e) hi hx
  obtain rfl : k = i := allFine_inj hf hk hi rfl
  exact h k hr
theorem noRingE_set {l m : List PKey} (he : ∀ x, x ∈ l ↔ x ∈ m) (h : NoRingE l) : NoRingE m := fun x hx => h x (hx.set fun y => (he y).symm)
theorem nodup_len {α : Type} [DecidableEq α] : ∀ (xs l : List α), xs.Nodup → (∀ x ∈ xs, x ∈ l) → xs.length ≤ l.length
  | [], _, _, _ => Nat.zero_le _
  | x :: xs, l, hn, hs => by
    obtain ⟨h1, h2⟩ := List.nodup_cons.1 hn
    have hx := hs x (by simp)
    have := nodup_len xs (l.erase x) h2 (fun y hy => (List.mem_erase_of_ne (fun e => h1 (by rw [← e]; exact hy))).2 (hs y (by simp [hy])))
    rw [List.length_erase_of_mem hx] at this
    have : 0 < l.length := List.length_pos_of_mem hx
    simp only [List.length_cons]
    omega
/-- The alias of the longest group in which a path lies. -/
def BestIs (l : List PKey) (p : ByteArray) : Option PKey → Prop
  | none => ∀ x ∈ l, inB p x.1 = false
  | some x => x ∈ l ∧ inB p x.1 = true ∧ ∀ y ∈ l, inB p y.1 = true → inB x.1 y.1 = true
theorem best_nil (p : ByteArray) : BestIs [] p none := fun x hx => by cases hx
theorem best_skip {l : List PKey} {p : ByteArray} {o : Option PKey} {x : PKey} (h : BestIs l p o) (hx : inB p x.1 = false) : BestIs (l ++ [x]) p o := by
  cases o with
  | none =>
    intro y hy
    rcases List.mem_append.1 hy with hy | hy
    · exact h y hy
    · rw [List.mem_singleton.1 hy]; exact hx
  | some b =>
    obtain ⟨h1, h2, h3⟩ := h
    refine ⟨by simp [h1], h2, fun y hy hp => ?_⟩
    rcases List.mem_append.1 hy with hy | hy
    · exact h3 y hy hp
    · rw [List.mem_singleton.1 hy, hx] at hp; cases hp
theorem best_first {l : List PKey} {p : ByteArray} {x : PKey} (h : BestIs l p none) (hx : inB p x.1 = true) (hr : rightB x.1 = true) : BestIs (l ++ [x]) p (some x) := by
  refine ⟨by simp, hx, fun y hy hp => ?_⟩
  rcases List.mem_append.1 hy with hy | hy
  · rw [h y hy] at hp; cases hp
  · rw [List.mem_singleton.1 hy, in_self]; exact hr
theorem best_turn {l : List PKey} {p : ByteArray} {b x : PKey} (h : BestIs l p (some b)) (hx : inB p x.1 = true) (hr : rightB x.1 = true) (hb : inB x.1 b.1 = true) : BestIs (l ++ [x]) p (some x) := by
  obtain ⟨h1, h2, h3⟩ := h
  refine ⟨by simp, hx, fun y hy hp => ?_⟩
  rcases List.mem_append.1 hy with hy | hy
  · exact in_trans hb (h3 y hy hp)
  · rw [List.mem_singleton.1 hy, in_self]; exact hr
theorem best_stay {l : List PKey} {p : ByteArray} {b x : PKey} (h : BestIs l p (some b)) (hx : inB p x.1 = true) (hb : inB x.1 b.1 = false) : BestIs (l ++ [x]) p (some b) := by
  obtain ⟨h1, h2, h3⟩ := h
  refine ⟨by simp [h1], h2, fun y hy hp => ?_⟩
  rcases List.mem_append.1 hy with hy | hy
  · exact h3 y hy hp
  · rw [List.mem_singleton.1 hy] at hp ⊢
    rcases in_line hx h2 with h | h
    · rw [hb] at h; cases h
    · exact h
theorem best_set {l m : List PKey} {p : ByteArray} {o : Option PKey} (h : BestIs l p o) (he : ∀ x, x ∈ l ↔ x ∈ m) : BestIs m p o := by
  cases o with
  | none => exact fun x hx => h x ((he x).2 hx)
  | some b => exact ⟨(he b).1 h.1, h.2.1, fun y hy => h.2.2 y ((he y).2 hy)⟩
theorem best_one {l : List PKey} {p : ByteArray} {o o' : Option PKey} (hf : ∀ x ∈ l, ∀ y ∈ l, x.1 = y.1 → x = y) (h : BestIs l p o) (h2 : BestIs l p o') : o = o' := by
  cases o with
  | none =>
    cases o' with
    | none => rfl
    | some b => have := h b h2.1; rw [h2.2.1] at this; cases this
  | some a =>
    cases o' with
    | none => have := h2 a h.1; rw [h.2.1] at this; cases this
    | some b => rw [hf a h.1 b h2.1 (in_anti (h.2.2 b h2.1 h2.2.1) (h2.2.2 a h.1 h.2.1))]
/-- Where a path leads by an alias: the path, and what is wrong. -/
def leadA (x : PKey) (p : ByteArray) : Except Int (List UInt8) := match parseM p, parseM x.1, parseM x.2 with
  | .ok l, .ok g, .ok v => putM (v ++ l.drop g.length)
  | _, _, _ => .error 2
theorem leadA_in {x : PKey} {p : ByteArray} {t : List UInt8} (h : leadA x p = .ok t) : inB (str t) x.2 = true ∧ rightB (str t) = true := by
  unfold leadA at h
  split at h
  · rename_i l g v h1 h2 h3
    have hs := print_parse h
    exact ⟨inB_ok.2 ⟨_, v, hs, h3, by simp⟩, rightB_ok.2 ⟨_, hs⟩⟩
  · cases h
/-- A path leads to another one by an alias. -/
def LeadIs (l : List PKey) (p : ByteArray) (x : PKey) (q : ByteArray) : Prop := BestIs l p (some x) ∧ ∃ t, leadA x p = .ok t ∧ q = str t
/-- A path leads nowhere. -/
def NoLead (l : List PKey) (p : ByteArray) : Prop := ∀ x q, ¬ LeadIs l p x q
/-- A way: the paths, and the aliases by which they lead. -/
inductive WayIs (l : List PKey) : List ByteArray → List PKey → Prop
  | one (p : ByteArray) (h : rightB p = true) : WayIs l [p] []
  | more {ps : List ByteArray} {xs : List PKey} {p q : ByteArray} {x : PKey} (h : WayIs l (ps ++ [p]) xs) (hl : LeadIs l p x q) : WayIs l (ps ++ [p] ++ [q]) (xs ++ [x])
theorem WayIs.len {l : List PKey} {ps : List ByteArray} {xs : List PKey} (h : WayIs l ps xs) : ps.length = xs.length + 1 := by
  induction h with
  | one => rfl
  | more _ _ ih => simp at ih ⊢; omega
theorem WayIs.last {l : List PKey} {ps : List ByteArray} {xs : List PKey} (h : WayIs l ps xs) : ∃ qs q, ps = qs ++ [q] ∧ rightB q = true := by
  cases h with
  | one p h => exact ⟨[], p, rfl, h⟩
  | more h hl =>
    obtain ⟨-, t, ht, rfl⟩ := hl
    exact ⟨_, _, rfl, (leadA_in ht).2⟩
/-- Each path of a way but the last leads on to the next one. -/
theorem WayIs.at_ {l : List PKey} {ps : List ByteArray} {xs : List PKey} (h : WayIs l ps xs) : ∀ (i : Nat) (x : PKey), xs[i]? = some x → ∃ p q, ps[i]? = some p ∧ ps[i + 1]? = some q ∧ LeadIs l p x q := by
  induction h with
  | one => intro i x h; simp at h
  | @more ps xs p q x h hl ih =>
    intro i y hy
    have hlen := h.len
    simp only [List.length_append, List.length_cons, List.length_nil] at hlen
    by_cases hi : i < xs.length
    · rw [List.getElem?_append_left hi] at hy
      obtain ⟨p', q', h1, h2, h3⟩ := ih i y hy
      exact ⟨p', q', by rw [List.getElem?_append_left (by simp; omega)]; exact h1, by rw [List.getElem?_append_left (by simp; omega)]; exact h2, h3⟩
    · have hx := (List.getElem?_eq_some_iff.1 hy).1
      simp only [List.length_append, List.length_cons, List.length_nil] at hx
      obtain rfl : i = xs.length := by omega
      rw [List.getElem?_append_right (Nat.le_refl _)] at hy
      simp only [Nat.sub_self, List.getElem?_cons_zero, Option.some.injEq] at hy
      subst hy
      refine ⟨p, q, ?_, ?_, hl⟩
      · rw [List.getElem?_append_left (by simp; omega), List.getElem?_append_right (by omega)]
        simp [show xs.length - ps.length = 0 by omega]
      · rw [List.getElem?_append_right (by simp; omega)]
        simp [show xs.length + 1 - (ps.length + 1) = 0 by omega]
/-- The alias by which what is led to leads on follows the one by which it was led to. -/
theorem lead_fol {l : List PKey} {p q r : ByteArray} {x y : PKey} (h1 : LeadIs l p x q) (h2 : LeadIs l q y r) : folB y x = true := by
  obtain ⟨-, t, ht, rfl⟩ := h1
  have ha := (leadA_in ht).1
  have hc := h2.1.2.1
  unfold folB
  rcases in_line ha hc with h | h
  · rw [h]; rfl
  · rw [h]; simp
theorem WayIs.rch {l : List PKey} {ps : List ByteArray} {xs : List PKey} (h : WayIs l ps xs) : ∀ (i d : Nat) (x y : PKey), xs[i]? = some x → xs[i + d + 1]? = some y → RchE l x y := by
  intro i d
  induction d with
  | zero =>
    intro x y hx hy
    obtain ⟨p, q, h1, h2, h3⟩ := h.at_ i x hx
    obtain ⟨p', q', h1', h2', h3'⟩ := h.at_ (i + 1) y hy
    rw [h2] at h1'
    cases h1'
    exact .one h3.1.1 h3'.1.1 (lead_fol h3 h3')
  | succ d ih =>
    intro x y hx hy
    have hlt := (List.getElem?_eq_some_iff.1 hy).1
    have hz : xs[i + d + 1]? = some (xs[i + d + 1]'(by omega)) := List.getElem?_eq_getElem (by omega)
    have h1 := ih x _ hx hz
    obtain ⟨p, q, h1', h2', h3'⟩ := h.at_ _ _ hz
    obtain ⟨p2, q2, h4, h5, h6⟩ := h.at_ _ _ hy
    rw [show i + (d + 1) + 1 = i + d + 1 + 1 by omega] at h4
    rw [h2'] at h4
    cases h4
    exact h1.more h6.1.1 (lead_fol h3' h6)
theorem WayIs.nodup {l : List PKey} (hr : NoRingE l) {ps : List ByteArray} {xs : List PKey} (h : WayIs l ps xs) : xs.Nodup := by
  rw [List.nodup_iff_pairwise_ne, List.pairwise_iff_getElem]
  intro i j hi hj hij e
  have h1 := h.rch i (j - i - 1) xs[i] xs[j] (List.getElem?_eq_getElem hi) (by rw [show i + (j - i - 1) + 1 = j by omega]; exact List.getElem?_eq_getElem hj)
  rw [← e] at h1
  exact hr _ h1
theorem WayIs.short {l : List PKey} (hr : NoRingE l) {ps : List ByteArray} {xs : List PKey} (h : WayIs l ps xs) : ps.length ≤ l.length + 1 := by
  have := nodup_len xs l (h.nodup hr) (fun x hx => by
    obtain ⟨i, hi⟩ := List.mem_iff_getElem?.1 hx
    obtain ⟨p, q, -, -, h3⟩ := h.at_ i x hi
    exact h3.1.1)
  rw [h.len]
  omega
/-- In a way that ends nothing stands twice. -/
theorem WayIs.once {l : List PKey} (hf : ∀ x ∈ l, ∀ y ∈ l, x.1 = y.1 → x = y) (hr : NoRingE l) {ps : List ByteArray} {xs : List PKey} (h : WayIs l ps xs) (he : ∀ p, ps[xs.length]? = some p → NoLead l p) (i j : Nat) (p : ByteArray) (hij : i < j) (hi : ps[i]? = some p) (hj : ps[j]? = some p) : False := by
  have hlen := h.len
  have hjl := (List.getElem?_eq_some_iff.1 hj).1
  have hxi : xs[i]? = some (xs[i]'(by omega)) := List.getElem?_eq_getElem (by omega)
  obtain ⟨p1, q1, h1, -, h3⟩ := h.at_ i _ hxi
  rw [hi] at h1
  cases h1
  by_cases hjx : j < xs.length
  · have hxj : xs[j]? = some xs[j] := List.getElem?_eq_getElem hjx
    obtain ⟨p2, q2, h4, -, h6⟩ := h.at_ j _ hxj
    rw [hj] at h4
    cases h4
    have e := best_one hf h3.1 h6.1
    have hn := h.nodup hr
    rw [List.nodup_iff_pairwise_ne, List.pairwise_iff_getElem] at hn
    exact hn i j (by omega) hjx hij (Option.some.inj e)
  · obtain rfl : j = xs.length := by omega
    exact he p hj _ _ h3
end Go.Proofs.YtkfofdmcggoonaaGreatDoor
