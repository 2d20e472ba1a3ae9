/-
  The order of rows and of tables as numbers; worlds that only grew. Plain lemmas; no condition.
-/
import Derived.Test.YtfpepdjffehbcaaGreatRiseLaw
import Derived.Shelf.SlSorted.Search
import Derived.Test.YtfpepdjffehbcaaGreatPoolPool
import Derived.Test.YtfpepdjffehbcaaGreatBlocks
import Derived.Deep.Slices
import Derived.Deep.Fields
import Derived.ChangeSame
import Derived.SizedLaws
import Derived.Laws.StructEq
set_option linter.unusedVariables false
set_option linter.unusedSimpArgs false
namespace Go.Proofs.YtfpepdjffehbcaaGreat
open Go.RowKit Go.Shelf Go.Sort

def cmpU (a b : Int) : Int := if a < b then -1 else if b < a then 1 else 0
def cmpR (x y : Int × Int) : Int := if rl x y = true then -1 else if x = y then 0 else 1
theorem cmpR_eq (x y : Int × Int) : cmpR x y = if cmpU x.1 y.1 ≠ 0 then cmpU x.1 y.1 else cmpU x.2 y.2 := by
  unfold cmpR cmpU
  by_cases h1 : x.1 < y.1
  · rw [if_pos (rl_iff.2 (.inl h1)), if_pos h1]
    simp
  · by_cases h2 : y.1 < x.1
    · rw [if_neg (by rw [rl_iff]; omega), if_neg h1, if_pos h2, if_neg (fun e => by rw [e] at h2; omega)]
      simp
    · rw [if_neg h1, if_neg h2]
      simp only [ne_eq, not_true_eq_false, if_false]
      by_cases h3 : x.2 < y.2
      · rw [if_pos (rl_iff.2 (.inr ⟨by omega, h3⟩)), if_pos h3]
      · rw [if_neg (by rw [rl_iff]; omega), if_neg h3]
        by_cases h4 : y.2 < x.2
        · rw [if_pos h4, if_neg (fun e => by rw [e] at h4; omega)]
        · rw [if_neg h4, if_pos (Prod.ext (by omega) (by omega))]
theorem cmpR_zero {x y : Int × Int} : cmpR x y = 0 ↔ x = y := by
  unfold cmpR
  constructor
  · intro h
    split at h
    · omega
    · split at h
      · assumption
      · omega
  · rintro rfl
    rw [rlT.irr]
    simp
theorem cmpR_self (x : Int × Int) : cmpR x x = 0 := cmpR_zero.2 rfl
theorem cmpR_neg {x y : Int × Int} : decide (cmpR x y < 0) = rl x y := by
  unfold cmpR
  cases h : rl x y
  · simp only [Bool.false_eq_true, if_false]
    split <;> simp
  · simp
/-- The order of tables, as a number. -/
def cmpT (a b : List (Int × Int)) : Int := if lexL rl a b = true then -1 else if a = b then 0 else 1
theorem lexL_prefix {α : Type} [DecidableEq α] (lt : α → α → Bool) (a x y : List α) : lexL lt (a ++ x) (a ++ y) = lexL lt x y := by
  induction a with
  | nil => rfl
  | cons z a ih => simpa [lexL] using ih
theorem cmpT_prefix (a x y : List (Int × Int)) : cmpT (a ++ x) (a ++ y) = cmpT x y := by
  unfold cmpT
  rw [lexL_prefix]
  simp
theorem cmpT_cons (x y : Int × Int) (l m : List (Int × Int)) : cmpT (x :: l) (y :: m) = if x = y then cmpT l m else cmpR x y := by
  by_cases h : x = y
  · subst h
    have := cmpT_prefix [x] l m
    simpa using this
  · unfold cmpT cmpR
    simp only [lexL, if_neg h]
    have : ¬ (x :: l = y :: m) := fun e => h (by injection e)
    rw [if_neg this]
theorem cmpT_at {l m : List (Int × Int)} {p : Nat} {x y : Int × Int} (h : l.take p = m.take p) (hx : l[p]? = some x) (hy : m[p]? = some y) (hne : x ≠ y) : cmpT l m = cmpR x y := by
  obtain ⟨h1, e1⟩ := List.getElem?_eq_some_iff.1 hx
  obtain ⟨h2, e2⟩ := List.getElem?_eq_some_iff.1 hy
  have e3 : l = m.take p ++ x :: l.drop (p + 1) := by
    rw [← h, ← e1, ← List.drop_eq_getElem_cons h1, List.take_append_drop]
  have e4 : m = m.take p ++ y :: m.drop (p + 1) := by
    rw [← e2, ← List.drop_eq_getElem_cons h2, List.take_append_drop]
  have := cmpT_prefix (m.take p) (x :: l.drop (p + 1)) (y :: m.drop (p + 1))
  rw [← e3, ← e4] at this
  rw [this, cmpT_cons, if_neg hne]
theorem cmpT_some (x : Int × Int) (r : List (Int × Int)) : cmpT (x :: r) [] = 1 := by simp [cmpT, lexL]
theorem cmpT_none (x : Int × Int) (r : List (Int × Int)) : cmpT [] (x :: r) = -1 := by simp [cmpT, lexL]
theorem cmpT_short {l m : List (Int × Int)} {p : Nat} (h : l.take p = m.take p) (hm : m.length ≤ p) (hl : p < l.length) : cmpT l m = 1 := by
  have e : l = m ++ l[p] :: l.drop (p + 1) := by
    rw [← List.drop_eq_getElem_cons hl]
    conv => lhs; rw [← List.take_append_drop p l, h, List.take_of_length_le hm]
  have := cmpT_prefix m (l[p] :: l.drop (p + 1)) []
  rw [List.append_nil, ← e] at this
  rw [this, cmpT_some]
theorem cmpT_long {l m : List (Int × Int)} {p : Nat} (h : l.take p = m.take p) (hl : l.length ≤ p) (hm : p < m.length) : cmpT l m = -1 := by
  have e : m = l ++ m[p] :: m.drop (p + 1) := by
    rw [← List.drop_eq_getElem_cons hm]
    conv => lhs; rw [← List.take_append_drop p m, ← h, List.take_of_length_le hl]
  have := cmpT_prefix l [] (m[p] :: m.drop (p + 1))
  rw [List.append_nil, ← e] at this
  rw [this, cmpT_none]
theorem cmpT_self (l : List (Int × Int)) : cmpT l l = 0 := by
  unfold cmpT
  rw [(lexT rlT).irr]
  simp
theorem cmpT_zero {l m : List (Int × Int)} : cmpT l m = 0 ↔ l = m := by
  unfold cmpT
  constructor
  · intro h
    split at h
    · omega
    · split at h
      · assumption
      · omega
  · rintro rfl
    rw [(lexT rlT).irr]
    simp
theorem cmpT_neg {l m : List (Int × Int)} : cmpT l m < 0 ↔ lexL rl l m = true := by
  unfold cmpT
  constructor
  · intro h
    split at h
    · assumption
    · split at h <;> omega
  · intro h
    rw [if_pos h]
    decide
theorem cmpT_flip (l m : List (Int × Int)) : cmpT m l = -cmpT l m := by
  unfold cmpT
  cases h : lexL rl l m
  · cases h2 : lexL rl m l
    · have := (lexT rlT).conn _ _ h h2
      subst this
      simp
    · have hne : ¬ l = m := fun e => by subst e; rw [(lexT rlT).irr] at h2; cases h2
      simp [hne]
  · have h2 := (lexT rlT).asym h
    have hne : ¬ m = l := fun e => by subst e; rw [(lexT rlT).irr] at h; cases h
    simp [h2, hne]
/-- The order of tables. -/
abbrev tl : List (Int × Int) → List (Int × Int) → Bool := lexL rl
theorem tlT : TotalLt tl := lexT rlT
theorem cmpT_cases (a b : List (Int × Int)) : (tl a b = true ∧ cmpT a b = -1) ∨ (a = b ∧ tl a b = false ∧ cmpT a b = 0) ∨ (tl a b = false ∧ a ≠ b ∧ cmpT a b = 1) := by
  unfold cmpT
  cases h : lexL rl a b
  · by_cases e : a = b
    · exact .inr (.inl ⟨e, h, by simp [e]⟩)
    · exact .inr (.inr ⟨h, e, by simp [e]⟩)
  · exact .inl ⟨h, by simp⟩
/-- A world that has only grown. -/
def Grew (w w' : World) : Prop := ∃ q os, w' = grow (w.drewN q) os
theorem Grew.refl (w : World) : Grew w w := ⟨0, #[], by rw [grow_empty]; rfl⟩
theorem grow_drewN (w : World) (q : Nat) (os : Array Obj) : (grow w os).drewN q = grow (w.drewN q) os := rfl
theorem Grew.trans {a b c : World} (h : Grew a b) (k : Grew b c) : Grew a c := by
  obtain ⟨q, os, rfl⟩ := h
  obtain ⟨q', os', rfl⟩ := k
  refine ⟨q + q', os ++ os', ?_⟩
  rw [grow_drewN, World.drewN_drewN]
  simp [grow, Array.append_assoc]
theorem Grew.alloc {a b : World} (h : Grew a b) (o : Obj) : Grew a (b.alloc o) := h.trans ⟨0, #[o], by rw [alloc_eq_grow]; rfl⟩
theorem Grew.drewN {a b : World} (h : Grew a b) (q : Nat) : Grew a (b.drewN q) := h.trans ⟨q, #[], by rw [grow_empty]⟩
theorem Grew.drew {a b : World} (h : Grew a b) : Grew a b.drew := h.drewN 1
theorem Grew.below {a b : World} (h : Grew a b) : Below a.heap.size a b := by
  obtain ⟨q, os, rfl⟩ := h
  exact below_grown_sl _ a q os (Nat.le_refl _)
end Go.Proofs.YtfpepdjffehbcaaGreat
/-
  The walks of what looks at tables (do keys rise; where does a key stand; the document's order of tables). Condition: the tables are within the reach.
-/
set_option linter.unusedVariables false
set_option linter.unusedSimpArgs false
namespace Go.Proofs.YtfpepdjffehbcaaGreat
open Go.RowKit

abbrev RowI := Int × Int
def rowCells (l : List RowI) : List Value := l.flatMap fun r => [.int .u32 r.1, .int .u32 r.2]
theorem rowCells_len (l : List RowI) : (rowCells l).length = l.length * 2 := by
  induction l with
  | nil => rfl
  | cons x l ih => simp only [rowCells, List.flatMap_cons, List.length_append, List.length_cons, List.length_nil] at ih ⊢; omega
theorem rowCells_at {l : List RowI} {i : Nat} {x : RowI} (h : l[i]? = some x) : (rowCells l)[i * 2]? = some (.int .u32 x.1) ∧ (rowCells l)[i * 2 + 1]? = some (.int .u32 x.2) := by
  induction l generalizing i with
  | nil => simp at h
  | cons y l ih =>
    cases i with
    | zero => simp at h; subst h; simp [rowCells]
    | succ i =>
      simp only [List.getElem?_cons_succ] at h
      have := ih h
      rw [show (i + 1) * 2 = i * 2 + 1 + 1 by omega]
      simpa [rowCells] using this
theorem rowCells_append (l m : List RowI) : rowCells (l ++ m) = rowCells l ++ rowCells m := by simp [rowCells]
theorem rowCells_one {l : List RowI} : ∀ u ∈ rowCells l, u.oneCell' = true := by
  intro u hu
  obtain ⟨r, -, hr⟩ := List.mem_flatMap.1 hu
  simp only [List.mem_cons, List.mem_nil_iff, or_false] at hr
  rcases hr with rfl | rfl <;> rfl
theorem rows_take {l : List RowI} {p : Nat} {x : RowI} (h : l[p]? = some x) : rowCells (l.take (p + 1)) = rowCells (l.take p) ++ [.int .u32 x.1, .int .u32 x.2] := by
  rw [List.take_add_one, h]
  simp [rowCells]
/-- A table, read. -/
def RowsR (w : World) (B : Nat) (v : Value) (l : List RowI) : Prop := ∃ A c, v = .slice A l.length c ∧ l.length ≤ c ∧ c ≤ maxLen ∧ Reads w B 2 A l.length (rowCells l)
theorem RowsR.below {w w' : World} {B : Nat} {v : Value} {l : List RowI} (h : RowsR w B v l) (hb : Below B w w') : RowsR w' B v l := by
  obtain ⟨A, c, e, h1, h2, h3⟩ := h
  exact ⟨A, c, e, h1, h2, h3.below hb⟩
theorem RowsR.more {w : World} {B B' : Nat} {v : Value} {l : List RowI} (h : RowsR w B v l) (hB : B ≤ B') : RowsR w B' v l := by
  obtain ⟨A, c, e, h1, h2, h3⟩ := h
  exact ⟨A, c, e, h1, h2, Reads.more h3 hB⟩
theorem RowsR.on {w w' : World} {v : Value} {l : List RowI} (h : RowsR w w.heap.size v l) (hb : Below w.heap.size w w') : RowsR w' w'.heap.size v l := (h.below hb).more hb.size
theorem rows_of_own {w : World} {base : Nat} {e : TypeId} {v : Value} {l : List RowI} (h : w.ownsRow base e 2 v l.length (rowCells l)) : RowsR w w.heap.size v l := own_form h
theorem rows_nil (w : World) (B : Nat) : RowsR w B (.slice none 0 0) [] := ⟨none, 0, rfl, Nat.le_refl _, by simp [maxLen], Reads.none_⟩
/-- Do keys rise? -/
def kl (a b : RowI) : Bool := decide (a.1 < b.1)
theorem kl_tr (a b c : RowI) (h1 : kl a b = true) (h2 : kl b c = true) : kl a c = true := by
  simp only [kl, decide_eq_true_eq] at *
  omega
/-- What the document's Seek tells. -/
def SeekIs (l : List RowI) (key : Int) (r : Int) : Prop := (∃ (i : Nat) (x : RowI), r = (i : Int) ∧ l[i]? = some x ∧ x.1 = key ∧ ∀ j y, j < i → l[j]? = some y → y.1 ≠ key) ∨ (r = -1 ∧ ∀ y ∈ l, y.1 ≠ key)

set_option maxHeartbeats 2000000 in
theorem istable_any (v : Value) (l : List RowI) (w : World) (h : RowsR w w.heap.size v l) :
    Calls Tryz.prog 85 #[v] w (QPost (fun r => r = .bool (decide (RiseL kl l))) w) := by
  obtain ⟨A, c, rfl, hc, hm, hR⟩ := h
  have HR := Lib.hid hR
  unfold maxLen at hm
  clear hR
  generalize hn : l.length = n at *
  have HN := Lib.hid hn
  have hn1 : (n : Int) ≤ 9223372036854775807 := by omega
  clear hn hc
  go_enter Tryz.func85, Tryz.ntmps85
  go_wp2
  go_loopw [3] (fun iv wr => ∃ p q : Nat, iv = .int .i64 ((p : Int) + 1) ∧ p ≤ n ∧ (∀ (j : Nat) (x y : RowI), j < p → l[j]? = some x → l[j + 1]? = some y → kl x y = true) ∧ wr = w.drewN q) (fun iv _ => (n + 2) - (Lib.intOf iv).toNat)
  case atStart => exact ⟨0, 0, rfl, Nat.zero_le _, fun j x y h => absurd h (by omega), rfl⟩
  case round =>
    obtain ⟨p, q, rfl, hp, hT, rfl⟩ := hrel
    have HT := Lib.hid hT
    clear hT
    by_cases hlt : p + 1 < n
    · obtain ⟨x, hx⟩ := at_lt (l := l) (p := p) (by have := HN.out; omega)
      obtain ⟨y, hy⟩ := at_lt (l := l) (p := p + 1) (by have := HN.out; omega)
      have hq : (p : Int) + 1 < (n : Int) := by omega
      obtain ⟨b1, o1, rfl, hb1, hcl1⟩ := HR.out.spot (by omega) (by omega)
      have r0 := hcl1 _ _ (rowCells_at hx).1
      have r1 : w.cell? ⟨b1, o1 + (p + 1) * 2, none⟩ = some (.int .u32 y.1) := hcl1 _ _ (rowCells_at hy).1
      have hs1 : IntKind.i64.wrap ((p : Int) + 1 - 1) = (p : Int) := by rw [IntKind.wrap_i64]; omega
      have hs2 : ((p : Int) + 1).toNat = p + 1 := by omega
      have hs3 : (0 : Int) ≤ (p : Int) + 1 := by omega
      have hs4 : (p : Int) < (n : Int) := by omega
      have HX := Lib.hid (And.intro hx hy)
      clear hcl1 hx hy
      by_cases hb : x.1 < y.1
      · have HB := Lib.hid (show kl x y = true by simpa [kl] using hb)
        have hb2 : ¬ y.1 ≤ x.1 := by omega
        have hb3 : decide (y.1 ≤ x.1) = false := by simpa using hb
        clear hb
        go_upto_region 5 with (fail)
        go_quiet (fail)
        go_wp2
        go_roundw
        case rel =>
          refine ⟨p + 1, q + nq, by go_num, by omega, fun j a b hj ha hb => ?_, rfl⟩
          rcases Nat.lt_or_ge j p with h | h
          · exact HT.out j a b h ha hb
          · obtain rfl : j = p := by omega
            rw [HX.out.1] at ha
            rw [HX.out.2] at hb
            cases ha
            cases hb
            exact HB.out
        case measure => simp [Lib.intOf]; omega
      · have HNR := Lib.hid (show decide (RiseL kl l) = false by
          rw [decide_eq_false_iff_not]
          intro hr
          have := rise_at hr HX.out.1 HX.out.2 (by omega)
          simp only [kl, decide_eq_true_eq] at this
          omega)
        have hb2 : y.1 ≤ x.1 := by omega
        have hb3 : decide (y.1 ≤ x.1) = true := by simpa using hb2
        clear hb
        go_upto_region 5 with (fail)
        go_quiet (fail)
        go_wp2
        go_ret
        exact ⟨_, q + nq, rfl, (show Value.bool false = _ from congrArg Value.bool HNR.out.symm), by rw [World.drewN_drewN]⟩
    · have hq : ¬ (p : Int) + 1 < (n : Int) := by omega
      have HYR := Lib.hid (show decide (RiseL kl l) = true by
        rw [decide_eq_true_iff]
        refine rise_of_adj kl_tr l fun j x y hx hy => ?_
        have := (List.getElem?_eq_some_iff.1 hy).1
        have := HN.out
        exact HT.out j x y (by omega) hx hy)
      go_wp2
      go_ret
      exact ⟨_, _, rfl, (show Value.bool true = _ from congrArg Value.bool HYR.out.symm), rfl⟩

end Go.Proofs.YtfpepdjffehbcaaGreat
/-
  Tables as lists, plainly: a row put into a table; a list without its neighbours alike; what is told of keys. No condition, no program in sight.
-/
set_option linter.unusedVariables false
set_option linter.unusedSimpArgs false
namespace Go.Proofs.YtfpepdjffehbcaaGreat
open Go.RowKit

theorem kl_inj {l : List RowI} (h : RiseL kl l) {x y : RowI} (hx : x ∈ l) (hy : y ∈ l) (e : x.1 = y.1) : x = y := by
  obtain ⟨i, hi, rfl⟩ := List.mem_iff_getElem.1 hx
  obtain ⟨j, hj, rfl⟩ := List.mem_iff_getElem.1 hy
  rcases Nat.lt_trichotomy i j with h1 | h1 | h1
  · have := List.pairwise_iff_getElem.1 h i j hi hj h1
    simp only [kl, decide_eq_true_eq] at this
    omega
  · subst h1
    rfl
  · have := List.pairwise_iff_getElem.1 h j i hj hi h1
    simp only [kl, decide_eq_true_eq] at this
    omega
theorem kl_rl {l : List RowI} (h : RiseL kl l) : RiseL rl l := h.imp fun {a b} hab => by
  simp only [kl, decide_eq_true_eq] at hab
  exact rl_iff.2 (.inl hab)
theorem insL_in {α : Type} [DecidableEq α] {lt : α → α → Bool} (T : TotalLt lt) {l : List α} (h : RiseL lt l) {x : α} (hx : x ∈ l) : insL lt l x = l :=
  rise_unique T (insL_rise T x h) h fun y => by
    rw [insL_mem]
    exact ⟨fun h => h.elim (fun e => by rw [e]; exact hx) id, .inr⟩
/-- What the document's PutRow tells. -/
def PutR (t : List RowI) (r : RowI) (out : List RowI) (ok : Bool) : Prop := (∃ y ∈ t, y.1 = r.1 ∧ out = t ∧ ok = decide (y = r)) ∨ ((∀ y ∈ t, y.1 ≠ r.1) ∧ out = insL rl t r ∧ ok = true)
theorem kl_ins {t : List RowI} {r : RowI} (h : RiseL kl t) (hn : ∀ y ∈ t, y.1 ≠ r.1) : RiseL kl (insL rl t r) := by
  refine List.Pairwise.imp_of_mem ?_ (insL_rise rlT r (kl_rl h))
  intro a b ha hb hab
  have hne := rlT.ne hab
  rw [rl_iff] at hab
  simp only [kl, decide_eq_true_eq]
  rcases hab with h1 | ⟨h1, -⟩
  · exact h1
  · exfalso
    rcases (insL_mem t r a).1 ha with e1 | ha2
    · rcases (insL_mem t r b).1 hb with e2 | hb2
      · exact hne (e1.trans e2.symm)
      · exact hn b hb2 (by rw [← h1, e1])
    · rcases (insL_mem t r b).1 hb with e2 | hb2
      · exact hn a ha2 (by rw [h1, e2])
      · exact hne (kl_inj h ha2 hb2 h1)
/-- One row more: what is the table then. -/
theorem tab_step {l t out : List RowI} {p : Nat} {r : RowI} {ok : Bool} (hx : l[p]? = some r) (ht : t = poolL rl (l.take p)) (hr : RiseL kl t) (h : PutR t r out ok) :
    (ok = true ∧ out = poolL rl (l.take (p + 1)) ∧ RiseL kl out) ∨ (ok = false ∧ ¬ RiseL kl (poolL rl l)) := by
  have hs : poolL rl (l.take (p + 1)) = insL rl t r := by
    rw [List.take_add_one, hx, ht]
    exact poolL_snoc _ _
  rcases h with ⟨y, hy, hk, rfl, rfl⟩ | ⟨hn, rfl, rfl⟩
  · by_cases he : y = r
    · subst he
      exact .inl ⟨by simp, by rw [hs, insL_in rlT (kl_rl hr) hy], hr⟩
    · refine .inr ⟨by simpa using he, fun hc => he ?_⟩
      have h1 : y ∈ poolL rl l := (poolL_mem l y).2 (List.mem_of_mem_take ((poolL_mem _ y).1 (by rw [← ht]; exact hy)))
      have h2 : r ∈ poolL rl l := (poolL_mem l r).2 (List.mem_of_getElem? hx)
      exact kl_inj hc h1 h2 hk
  · exact .inl ⟨rfl, hs.symm, kl_ins hr hn⟩
/-- Where PutRow stops looking. -/
theorem putR_at {t : List RowI} {r : RowI} {p : Nat} (hr : RiseL kl t) (h0 : ∀ j x, j < p → t[j]? = some x → x.1 < r.1) (hp : p ≤ t.length) :
    (∀ x, t[p]? = some x → x.1 = r.1 → PutR t r t (decide (x = r))) ∧ ((∀ x, t[p]? = some x → r.1 < x.1) → PutR t r (t.take p ++ r :: t.drop p) true) := by
  refine ⟨fun x hx he => .inl ⟨x, List.mem_of_getElem? hx, he, rfl, rfl⟩, fun h1 => .inr ⟨fun y hy he => ?_, ?_, rfl⟩⟩
  · obtain ⟨j, hj, e⟩ := List.mem_iff_getElem.1 hy
    have hj' : t[j]? = some y := by simp [hj, e]
    rcases Nat.lt_trichotomy j p with h | h | h
    · have := h0 j y h hj'
      omega
    · subst h
      have := h1 y hj'
      omega
    · obtain ⟨x, hx⟩ := at_lt (l := t) (p := p) (by omega)
      have h2 := h1 x hx
      have h3 := rise_at hr hx hj' h
      simp only [kl, decide_eq_true_eq] at h3
      omega
  · rw [insL_split t r p (fun j x hj hx => rl_iff.2 (.inl (h0 j x hj hx))) hp (fun x hx => by
      have := h1 x hx
      cases h : rl x r
      · rfl
      · rw [rl_iff] at h; omega), if_neg (fun hx => by have := h1 r hx; omega)]
/-- One put between. -/
theorem put_midG {α : Type} {l : List α} {s : α} {p : Nat} (hp : p ≤ l.length) : (l.take p ++ s :: l.drop p).length = l.length + 1 ∧ (l.take p ++ s :: l.drop p).take (p + 1) = l.take p ++ [s] ∧ ∀ j x, p ≤ j → l[j]? = some x → (l.take p ++ s :: l.drop p)[j + 1]? = some x := by
  have h1 : (l.take p).length = p := by rw [List.length_take]; omega
  refine ⟨by simp; omega, ?_, fun j x hj hx => ?_⟩
  · rw [List.take_append, h1, show p + 1 - p = 1 by omega, List.take_take]
    simp
  · rw [List.getElem?_append_right (by omega), h1, show j + 1 - p = (j - p) + 1 by omega, List.getElem?_cons_succ, List.getElem?_drop, show p + (j - p) = j by omega]
    exact hx
/-- What is not less stands behind. -/
def SortedR (l : List RowI) : Prop := l.Pairwise fun x y => rl y x = false
/-- A list without neighbours that are alike. -/
def compF {α : Type} [DecidableEq α] (a : List α) (x : α) : List α := if a.getLast? = some x then a else a ++ [x]
def compL {α : Type} [DecidableEq α] (l : List α) : List α := l.foldl compF []
section
variable {α : Type} [DecidableEq α]
theorem compL_snoc (l : List α) (x : α) : compL (l ++ [x]) = compF (compL l) x := by simp [compL, List.foldl_append]
theorem compF_last (a : List α) (x : α) : (compF a x).getLast? = some x := by
  unfold compF
  split
  · assumption
  · simp
theorem compL_last (l : List α) : (compL l).getLast? = l.getLast? := by
  rcases List.eq_nil_or_concat l with rfl | ⟨m, x, rfl⟩
  · rfl
  · rw [List.concat_eq_append, compL_snoc, compF_last]
    simp
theorem compL_mem (l : List α) : ∀ x, x ∈ compL l ↔ x ∈ l := by
  have h : ∀ (n : Nat) (l : List α), l.length = n → ∀ x, x ∈ compL l ↔ x ∈ l := by
    intro n
    induction n with
    | zero => intro l hl x; rw [List.length_eq_zero_iff.1 hl]; simp [compL]
    | succ n ih =>
      intro l hl x
      rcases List.eq_nil_or_concat l with rfl | ⟨m, y, rfl⟩
      · simp [compL]
      · rw [List.concat_eq_append] at hl ⊢
        have hm : m.length = n := by simpa using hl
        rw [compL_snoc]
        unfold compF
        split
        · rename_i e
          rw [ih m hm x]
          simp only [List.mem_append, List.mem_singleton]
          refine ⟨.inl, fun h => h.elim id fun e2 => ?_⟩
          rw [compL_last] at e
          rw [e2]
          exact List.mem_of_getLast? e
        · simp [ih m hm x]
  exact h _ l rfl
theorem compL_len (l : List α) : (compL l).length ≤ l.length := by
  have h : ∀ (l a : List α), (l.foldl compF a).length ≤ a.length + l.length := by
    intro l
    induction l with
    | nil => simp
    | cons x l ih =>
      intro a
      have := ih (compF a x)
      have h2 : (compF a x).length ≤ a.length + 1 := by
        unfold compF
        split <;> simp
      simp only [List.foldl_cons, List.length_cons]
      omega
  have := h l []
  simpa [compL] using this
/-- One more, by its neighbour. -/
theorem compL_step {l : List α} {j : Nat} {x y : α} (hx : l[j]? = some x) (hy : l[j + 1]? = some y) : compL (l.take (j + 2)) = if x = y then compL (l.take (j + 1)) else compL (l.take (j + 1)) ++ [y] := by
  have hl : (compL (l.take (j + 1))).getLast? = some x := by
    rw [compL_last, List.take_add_one, hx]
    simp
  rw [show j + 2 = (j + 1) + 1 by omega, List.take_add_one, hy]
  simp only [Option.toList_some]
  rw [compL_snoc]
  unfold compF
  rw [hl]
  by_cases h : x = y
  · simp [h]
  · rw [if_neg (fun e => h (Option.some.inj e)), if_neg h]
theorem compL_one {l : List α} {x : α} (hx : l[0]? = some x) : compL (l.take 1) = [x] := by
  rw [show (1 : Nat) = 0 + 1 from rfl, List.take_add_one, hx]
  simp [compL, compF]
/-- All neighbours unlike. -/
theorem compL_all {l : List α} : ∀ (k : Nat), k ≤ l.length → (∀ (j : Nat) (x y : α), j + 1 < k → l[j]? = some x → l[j + 1]? = some y → x ≠ y) → compL (l.take k) = l.take k
  | 0, _, _ => by simp [compL]
  | 1, h, _ => by
    obtain ⟨x, hx⟩ := at_lt (l := l) (p := 0) (by omega)
    rw [compL_one hx, show (1 : Nat) = 0 + 1 from rfl, List.take_add_one, hx]
    simp
  | k + 2, h, hn => by
    obtain ⟨x, hx⟩ := at_lt (l := l) (p := k) (by omega)
    obtain ⟨y, hy⟩ := at_lt (l := l) (p := k + 1) (by omega)
    rw [compL_step hx hy, if_neg (hn k x y (by omega) hx hy), compL_all (k + 1) (by omega) (fun j x y hj => hn j x y (by omega)), List.take_add_one (i := k + 1), hy]
    simp
end
theorem comp_rise {l : List RowI} (h : SortedR l) : RiseL rl (compL l) := by
  have key : ∀ (n : Nat) (l : List RowI), l.length = n → SortedR l → RiseL rl (compL l) := by
    intro n
    induction n with
    | zero => intro l hl _; rw [List.length_eq_zero_iff.1 hl]; exact List.Pairwise.nil
    | succ n ih =>
      intro l hl hs
      rcases List.eq_nil_or_concat l with rfl | ⟨m, y, rfl⟩
      · exact List.Pairwise.nil
      · rw [List.concat_eq_append] at hl hs ⊢
        have hm : m.length = n := by simpa using hl
        obtain ⟨h1, h2, h3⟩ := List.pairwise_append.1 hs
        have hr := ih m hm h1
        rw [compL_snoc]
        unfold compF
        split
        · exact hr
        · rename_i hne
          refine List.pairwise_append.2 ⟨hr, List.pairwise_singleton _ _, fun a ha b hb => ?_⟩
          simp only [List.mem_singleton] at hb
          subst hb
          have ham := (compL_mem m a).1 ha
          have h4 := h3 a ham b (by simp)
          have hab : a ≠ b := by
            intro e
            subst e
            apply hne
            rw [compL_last]
            obtain ⟨z, hz⟩ : ∃ z, m.getLast? = some z := by
              cases hg : m.getLast? with
              | none => rw [List.getLast?_eq_none_iff.1 hg] at ham; cases ham
              | some z => exact ⟨z, rfl⟩
            rw [hz]
            have hzm : z ∈ m := List.mem_of_getLast? hz
            have h5 := h3 z hzm a (by simp)
            by_cases e : a = z
            · rw [e]
            · exfalso
              obtain ⟨i, hi, e1⟩ := List.mem_iff_getElem.1 ham
              have hzl : m[m.length - 1]? = some z := by rw [← List.getLast?_eq_getElem?]; exact hz
              have hii : i < m.length - 1 := by
                rcases Nat.lt_or_ge i (m.length - 1) with h | h
                · exact h
                · have : i = m.length - 1 := by omega
                  subst this
                  rw [List.getElem?_eq_getElem hi, e1] at hzl
                  exact absurd (Option.some.inj hzl) e
              obtain ⟨hzl1, e2⟩ := List.getElem?_eq_some_iff.1 hzl
              have h6 := List.pairwise_iff_getElem.1 h1 i (m.length - 1) hi hzl1 hii
              rw [e1, e2] at h6
              exact e (rlT.conn a z h5 h6)
          exact rlT.flip h4 (fun e => hab e.symm)
  exact key _ l rfl h
theorem comp_pool {l l' : List RowI} (h : SortedR l') (hm : ∀ x, x ∈ l' ↔ x ∈ l) : compL l' = poolL rl l :=
  poolL_eq rlT (comp_rise h) fun x => (compL_mem l' x).trans (hm x)
/-- Neighbours of one key in what rises. -/
theorem kl_of_adj {l : List RowI} (h : RiseL rl l) (hn : ∀ (j : Nat) (x y : RowI), l[j]? = some x → l[j + 1]? = some y → x.1 ≠ y.1) : RiseL kl l :=
  rise_of_adj kl_tr l fun j x y hx hy => by
    have h1 := rise_at h hx hy (by omega)
    have h2 := hn j x y hx hy
    rw [rl_iff] at h1
    simp only [kl, decide_eq_true_eq]
    omega
end Go.Proofs.YtfpepdjffehbcaaGreat
/-
  An argument that is a slice of structs of one-cell fields, opened to cells; no program in sight. Plain lemmas; no condition.
-/
set_option linter.unusedVariables false
set_option linter.unusedSimpArgs false
namespace Go.Proofs.YtfpepdjffehbcaaGreat
open Go.RowKit Go.ChangeShapes Go.WideShapes Go.Deep
section
variable {H : Type} {enc : TypeId × Value → H} {P : Program} {w : World} {base : Nat} {spare : Nat → Bool} {held : Bool}
theorem open_slice_fields {t e : TypeId} {fs : Array Field} {fuel : Nat} {cs : List Value} {x : DataW H × List MemPlace} (ht : P.underlying t = some (.slice e)) (he : P.underlying e = some (.struct fs))
    (hone : oneCellFields P fs = true) (hC : P.cellsOf e = fs.size) (h : DataW.trod enc P w base spare held fuel t cs = some x) :
    (cs = [.slice none 0 0] ∧ x = (.nil, [])) ∨
    ∃ (a : Addr) (len cap m : Nat) (D : Nat → DataW H) (Pl : Nat → List MemPlace), cs = [.slice (some a) len cap] ∧ base ≤ a.block ∧ len ≤ cap ∧ cap ≤ maxLen ∧ m = (if spare a.block then cap else len) ∧
      x = (.slice ((List.range len).map D) ((List.range (m - len)).map fun j => D (len + j)), MemPlace.row a (m * fs.size) ++ (List.range m).flatMap Pl) ∧
      ∀ i, i < m → ∃ (ys : List (DataW H × List MemPlace)) (n : Nat), D i = .agg (ys.map (·.1)) ∧ Pl i = ys.flatMap (·.2) ∧ ys.length = fs.size ∧
        ∀ (j : Nat) (f : Field), fs[j]? = some f → ∃ (v : Value) (y : DataW H × List MemPlace), w.cell? (a.add (i * fs.size + j)) = some v ∧ ys[j]? = some y ∧ DataW.trod enc P w base spare held n f.type [v] = some y := by
  rcases open_slice ht h with h0 | ⟨a, len, cap, m, n, D, Pl, hcs, hb, hl, hm, hmm, hx, hi⟩
  · exact .inl h0
  · refine .inr ⟨a, len, cap, m, D, Pl, hcs, hb, hl, hm, hmm, by rw [hC] at hx; exact hx, fun i him => ?_⟩
    obtain ⟨cs', hc, ht'⟩ := hi i him
    rw [hC] at hc
    obtain ⟨ys, n', hn', hy, hlen, hyl, hf⟩ := DataW.trod_struct he ht'
    obtain ⟨_, hcl, hat⟩ := World.cells?_some hc
    simp only [Prod.mk.injEq] at hy
    refine ⟨ys, n', hy.1, hy.2, hyl, fun j f hj => ?_⟩
    obtain ⟨ho, hk⟩ := hone_of hone j f hj
    have hjl : j < fs.size := (Array.getElem?_eq_some_iff.1 hj).1
    have hcell := hat j hjl
    have hv : cs'[j]? = some (cs'[j]'(by omega)) := List.getElem?_eq_getElem (by omega)
    have h1 := hf j f hj
    rw [ho, hk] at h1
    have hone' : (cs'.drop j).take 1 = [cs'[j]'(by omega)] := by
      rw [List.drop_eq_getElem_cons (by omega)]
      rfl
    rw [hone'] at h1
    have hys : ys[j]? = some (ys[j]'(by omega)) := List.getElem?_eq_getElem (by omega)
    refine ⟨_, _, ?_, hys, h1.trans hys⟩
    rw [← Go.Deep.add_add, hcell, hv]
end

/-- Pairs of integers as cells. -/
def pvs (k1 k2 : IntKind) (ps : List (Int × Int)) : List Value := ps.flatMap fun p => [.int k1 p.1, .int k2 p.2]
theorem pvs_len (k1 k2 : IntKind) (ps : List (Int × Int)) : (pvs k1 k2 ps).length = ps.length * 2 := by
  induction ps with
  | nil => rfl
  | cons p ps ih =>
    have : pvs k1 k2 (p :: ps) = [.int k1 p.1, .int k2 p.2] ++ pvs k1 k2 ps := by simp [pvs]
    rw [this, List.length_append, ih, List.length_cons]
    simp only [List.length_cons, List.length_nil]
    omega
theorem pvs_get (k1 k2 : IntKind) : ∀ (ps : List (Int × Int)) (i : Nat), i < ps.length → (pvs k1 k2 ps)[i * 2]? = some (.int k1 (ps.getD i (0, 0)).1) ∧ (pvs k1 k2 ps)[i * 2 + 1]? = some (.int k2 (ps.getD i (0, 0)).2)
  | [], i, h => by simp at h
  | p :: ps, 0, _ => by simp [pvs]
  | p :: ps, i + 1, h => by
    have := pvs_get k1 k2 ps i (by simpa using h)
    have e : pvs k1 k2 (p :: ps) = .int k1 p.1 :: .int k2 p.2 :: pvs k1 k2 ps := by simp [pvs]
    rw [e, show (i + 1) * 2 = i * 2 + 1 + 1 by omega]
    simpa using this
theorem pvs_inv (k1 k2 : IntKind) : ∀ (ps : List (Int × Int)) (j : Nat) (u : Value), (pvs k1 k2 ps)[j]? = some u → ∃ i, i < ps.length ∧ ((j = i * 2 ∧ u = .int k1 (ps.getD i (0, 0)).1) ∨ (j = i * 2 + 1 ∧ u = .int k2 (ps.getD i (0, 0)).2)) := by
  intro ps j u h
  have hj : j < ps.length * 2 := by
    rw [← pvs_len k1 k2 ps]
    exact (List.getElem?_eq_some_iff.1 h).1
  have hg := pvs_get k1 k2 ps (j / 2) (by omega)
  rcases Nat.mod_two_eq_zero_or_one j with h2 | h2
  · refine ⟨j / 2, by omega, .inl ⟨by omega, ?_⟩⟩
    rw [show j / 2 * 2 = j by omega, h] at hg
    exact Option.some.inj hg.1
  · refine ⟨j / 2, by omega, .inr ⟨by omega, ?_⟩⟩
    rw [show j / 2 * 2 + 1 = j by omega, h] at hg
    exact Option.some.inj hg.2
/-- A slice of structs of two integers that came in. -/
theorem pairs_of_trod {H : Type} {enc : TypeId × Value → H} {P : Program} {w : World} {b0 : Nat} {t e : TypeId} {f1 f2 : Field} {k1 k2 : IntKind} {v : Value} {d : DataW H} {p : List MemPlace}
    (ht : P.underlying t = some (.slice e)) (he : P.underlying e = some (.struct #[f1, f2])) (hone : oneCellFields P #[f1, f2] = true) (hC : P.cellsOf e = 2)
    (h1 : P.underlying f1.type = some (.int k1)) (h2 : P.underlying f2.type = some (.int k2))
    (hv : Value.okWide P w .any b0 t v) (h : DataW.Trod enc P w 0 (fun _ => true) true t v d p) :
    ∃ (A : Option Addr) (c : Nat) (ps : List (Int × Int)), v = .slice A ps.length c ∧ ps.length ≤ c ∧ c ≤ maxLen ∧ Reads w w.heap.size 2 A ps.length (pvs k1 k2 ps) ∧ (∀ q ∈ ps, (Lit.int k1 q.1).wf = true ∧ (Lit.int k2 q.2).wf = true) := by
  obtain ⟨a, len, cap, rfl⟩ := okWide_slice ht hv
  obtain ⟨fuel, hf⟩ := h
  rcases open_slice_fields ht he hone hC hf with ⟨hcs, _⟩ | ⟨x, l, c, m, D, Pl, hcs, _, hl, hm, hmm, _, hi⟩
  · simp [Value.cells] at hcs
    obtain ⟨rfl, rfl, rfl⟩ := hcs
    exact ⟨none, 0, [], rfl, by simp, by simp [maxLen], Reads.none_, by simp⟩
  · simp [Value.cells] at hcs
    obtain ⟨rfl, rfl, rfl⟩ := hcs
    have hmm' : m = cap := by simpa using hmm
    subst hmm'
    have hcell : ∀ i, i < m → ∃ q : Int × Int, w.cell? (x.add (i * 2)) = some (.int k1 q.1) ∧ w.cell? (x.add (i * 2 + 1)) = some (.int k2 q.2) ∧ (Lit.int k1 q.1).wf = true ∧ (Lit.int k2 q.2).wf = true := by
      intro i him
      obtain ⟨ys, n, _, _, _, hfs⟩ := hi i him
      obtain ⟨v1, y1, hc1, _, ht1⟩ := hfs 0 f1 rfl
      obtain ⟨v2, y2, hc2, _, ht2⟩ := hfs 1 f2 rfl
      obtain ⟨n1, e1, _, w1⟩ := DataW.trod_int h1 ht1
      obtain ⟨n2, e2, _, w2⟩ := DataW.trod_int h2 ht2
      simp only [List.cons.injEq, and_true] at e1 e2
      subst e1; subst e2
      exact ⟨(n1, n2), by simpa using hc1, by simpa using hc2, w1, w2⟩
    obtain ⟨f, hf'⟩ := choose_lt hcell
    have hget : ∀ i, i < len → ((List.range len).map f).getD i (0, 0) = f i := fun i hi' => by simp [List.getD_eq_getElem?_getD, hi']
    refine ⟨some x, m, (List.range len).map f, by simp, by simpa using hl, hm, ⟨by rw [pvs_len], fun hn => ⟨x, rfl, ?_, fun j u hu => ?_⟩⟩, fun q hq => ?_⟩
    · have hn' : 0 < len := by simpa using hn
      have := World.block_lt_of_cell? _ _ (hf' 0 (by omega)).1
      rwa [block_of_add] at this
    · obtain ⟨i, hi', hju⟩ := pvs_inv k1 k2 _ j u hu
      have hi2 : i < len := by simpa using hi'
      rw [hget i hi2] at hju
      rcases hju with ⟨rfl, rfl⟩ | ⟨rfl, rfl⟩
      · exact (hf' i (by omega)).1
      · exact (hf' i (by omega)).2.1
    · obtain ⟨i, hi', rfl⟩ := List.mem_map.1 hq
      exact (hf' i (by have := List.mem_range.1 hi'; omega)).2.2
end Go.Proofs.YtfpepdjffehbcaaGreat
/-
  A slice of rows that came in, as a list of pairs of numbers. No condition.
-/
set_option linter.unusedVariables false
set_option linter.unusedSimpArgs false
namespace Go.Proofs.YtfpepdjffehbcaaGreat
open Go.RowKit Go.ChangeShapes Go.WideShapes Go.Deep

theorem row_info : (Tryz.prog.info? 73).map (fun i => (i.zero, i.size, i.bytes)) = some (some (.agg #[.int .u32 0, .int .u32 0]), 2, 8) := by kernel_rfl
/-- Rows whose numbers are of 32 bits. -/
def RowsOk (l : List RowI) : Prop := ∀ q ∈ l, (0 ≤ q.1 ∧ q.1 < 4294967296) ∧ 0 ≤ q.2 ∧ q.2 < 4294967296
theorem u32_range {n : Int} (h : (Lit.int .u32 n).wf = true) : 0 ≤ n ∧ n < 4294967296 := by
  have h0 : IntKind.u32.min = 0 := rfl
  have h1 : IntKind.u32.max = 4294967295 := rfl
  simp [Lit.wf] at h
  omega
theorem rows_of_trod {H : Type} {enc : TypeId × Value → H} {P : Program} {w : World} {b0 : Nat} {t e : TypeId} {f1 f2 : Field} {v : Value} {d : DataW H} {p : List MemPlace}
    (ht : P.underlying t = some (.slice e)) (he : P.underlying e = some (.struct #[f1, f2])) (hone : oneCellFields P #[f1, f2] = true) (hC : P.cellsOf e = 2) (hby : P.bytesOf e = 8)
    (h1 : P.underlying f1.type = some (.int .u32)) (h2 : P.underlying f2.type = some (.int .u32)) (hwt : ∀ n ∈ d.weights P t, n ≤ 140737488351232)
    (hv : Value.okWide P w .any b0 t v) (h : DataW.Trod enc P w 0 (fun _ => true) true t v d p) :
    ∃ (l : List RowI), RowsR w w.heap.size v l ∧ RowsOk l ∧ l.length * 8 ≤ 140737488351232 := by
  obtain ⟨A, c, l, rfl, hc, hm, hR, hw⟩ := pairs_of_trod ht he hone hC h1 h2 hv h
  refine ⟨l, ⟨A, c, rfl, hc, hm, hR⟩, fun q hq => ⟨u32_range (hw q hq).1, u32_range (hw q hq).2⟩, ?_⟩
  obtain ⟨fuel, hf⟩ := h
  rcases open_slice_fields ht he hone hC hf with ⟨hcs, _⟩ | ⟨x, n, c', m, D, Pl, hcs, _, hl, hm, hmm, hx, hi⟩
  · simp [Value.cells] at hcs
    omega
  · simp [Value.cells] at hcs
    obtain ⟨rfl, rfl, rfl⟩ := hcs
    simp only [Prod.mk.injEq] at hx
    have hw1 := hwt ((l.length + (m - l.length)) * P.bytesOf e) (by rw [hx.1]; simp only [DataW.weights, ht]; simp)
    rw [hby] at hw1
    omega
end Go.Proofs.YtfpepdjffehbcaaGreat
/-
  The walks of the order of rows and tables: cmp.Compare, cmp.Or, byKey, slices.CompareFunc, pool.Compare and its closure. Condition: the tables are within the reach.
-/
set_option linter.unusedVariables false
set_option linter.unusedSimpArgs false
namespace Go.Proofs.YtfpepdjffehbcaaGreat
open Go.RowKit

theorem isnan_any (x : Int) (w : World) : Calls Tryz.prog 146 #[.int .u32 x] w fun e w' => e = .returned (.bool false) ∧ w = w' := by
  go_enter Tryz.func146, Tryz.ntmps146
  go_wp2
  go_ret
  exact ⟨by simp, rfl⟩
theorem cmpu_any (a b : Int) (w : World) : Calls Tryz.prog 120 #[.int .u32 a, .int .u32 b] w fun e w' => e = .returned (.int .i64 (cmpU a b)) ∧ w = w' := by
  have HN := Lib.hid (fun x => isnan_any x w)
  by_cases h1 : a < b
  · have HC := Lib.hid (show cmpU a b = -1 by unfold cmpU; rw [if_pos h1])
    have h2 : decide (a < b) = true := by simpa using h1
    go_enter Tryz.func120, Tryz.ntmps120
    go_wp2_with (go_at_call 146; refine (HN.out _).mono ?_; rintro e w' ⟨rfl, rfl⟩)
    go_ret
    exact ⟨by rw [HC.out]; rfl, rfl⟩
  · by_cases h2 : b < a
    · have HC := Lib.hid (show cmpU a b = 1 by unfold cmpU; rw [if_neg h1, if_pos h2])
      have h3 : decide (a < b) = false := by simpa using h1
      have h4 : decide (b < a) = true := by simpa using h2
      go_enter Tryz.func120, Tryz.ntmps120
      go_wp2_with (go_at_call 146; refine (HN.out _).mono ?_; rintro e w' ⟨rfl, rfl⟩)
      go_ret
      exact ⟨by rw [HC.out]; rfl, rfl⟩
    · have HC := Lib.hid (show cmpU a b = 0 by unfold cmpU; rw [if_neg h1, if_neg h2])
      have h3 : decide (a < b) = false := by simpa using h1
      have h4 : decide (b < a) = false := by simpa using h2
      go_enter Tryz.func120, Tryz.ntmps120
      go_wp2_with (go_at_call 146; refine (HN.out _).mono ?_; rintro e w' ⟨rfl, rfl⟩)
      go_ret
      exact ⟨by rw [HC.out]; rfl, rfl⟩
theorem bykey_any (x y : RowI) (w : World) : Calls Tryz.prog 119 #[.agg #[.int .u32 x.1, .int .u32 x.2], .agg #[.int .u32 y.1, .int .u32 y.2]] w fun e w' => e = .returned (.int .i64 (cmpU x.1 y.1)) ∧ Grew w w' := by
  have HC := Lib.hid (fun W => cmpu_any x.1 y.1 W)
  have HG := Lib.hid (((Grew.refl w).alloc (.cells #[.int .u32 x.1, .int .u32 x.2] 73)).alloc (.cells #[.int .u32 y.1, .int .u32 y.2] 73))
  go_enter Tryz.func119, Tryz.ntmps119
  go_wp2_with (go_at_call 120; refine (HC.out _).mono ?_; rintro e w' ⟨rfl, rfl⟩)
  go_ret
  exact ⟨rfl, HG.out⟩
theorem or_any (b : Nat) (x y : Int) (w : World) (h0 : w.cell? ⟨b, 0, none⟩ = some (.int .i64 x)) (h1 : w.cell? ⟨b, 1, none⟩ = some (.int .i64 y)) :
    Calls Tryz.prog 118 #[.slice (some ⟨b, 0, none⟩) 2 2] w fun e w' => e = .returned (.int .i64 (if x ≠ 0 then x else y)) ∧ w = w' := by
  by_cases hx : x = 0
  · have hx2 : (x == 0) = true := by simpa using hx
    rw [if_neg (by simpa using hx)]
    subst hx
    by_cases hy : y = 0
    · subst hy
      go_enter Tryz.func118, Tryz.ntmps118
      go_wp2
      refine wp_loop_rounds 3 ?_
      rw [rounds_succ]
      go_wp2
      rw [rounds_succ]
      go_wp2
      rw [rounds_succ]
      go_wp2
      go_ret
      exact ⟨rfl, rfl⟩
    · have hy2 : (y == 0) = false := by simpa using hy
      go_enter Tryz.func118, Tryz.ntmps118
      go_wp2
      refine wp_loop_rounds 2 ?_
      rw [rounds_succ]
      go_wp2
      rw [rounds_succ]
      go_wp2
      go_ret
      exact ⟨rfl, rfl⟩
  · have hx2 : (x == 0) = false := by simpa using hx
    rw [if_pos hx]
    go_enter Tryz.func118, Tryz.ntmps118
    go_wp2
    refine wp_loop_rounds 1 ?_
    rw [rounds_succ]
    go_wp2
    go_ret
    exact ⟨rfl, rfl⟩
theorem new_two (w : World) (t : TypeId) (a b : Value) : (w.alloc (.cells #[a, b] t)).cell? ⟨w.heap.size, 0, none⟩ = some a ∧ (w.alloc (.cells #[a, b] t)).cell? ⟨w.heap.size, 1, none⟩ = some b := ⟨(Blk.new w t #[a, b]).cell 0, (Blk.new w t #[a, b]).cell 1⟩
set_option maxHeartbeats 4000000 in
theorem compare1_any (x y : RowI) (w : World) : Calls Tryz.prog 117 #[.agg #[.int .u32 x.1, .int .u32 x.2], .agg #[.int .u32 y.1, .int .u32 y.2]] w fun e w' => e = .returned (.int .i64 (cmpR x y)) ∧ Grew w w' := by
  have HE := Lib.hid (cmpR_eq x y)
  have HOR := Lib.hid (show ∀ (b : Nat) (W : World), W.cell? ⟨b, 0, none⟩ = some (.int .i64 (cmpU x.1 y.1)) → W.cell? ⟨b, 1, none⟩ = some (.int .i64 (cmpU x.2 y.2)) → Calls Tryz.prog 118 #[.slice (some ⟨b, 0, none⟩) 2 2] W fun e w' => e = .returned (.int .i64 (cmpR x y)) ∧ W = w' from fun b W h0 h1 => (or_any b _ _ W h0 h1).mono fun _ _ h => ⟨by rw [HE.out]; exact h.1, h.2⟩)
  have HBK := Lib.hid (fun W => bykey_any x y W)
  have HCU := Lib.hid (fun W => cmpu_any x.2 y.2 W)
  obtain ⟨W0, hW0⟩ : ∃ W0, (w.alloc (.cells #[.int .u32 x.1, .int .u32 x.2] 73)).alloc (.cells #[.int .u32 y.1, .int .u32 y.2] 73) = W0 := ⟨_, rfl⟩
  have hG : Grew w W0 := by rw [← hW0]; exact ((Grew.refl w).alloc _).alloc _
  have hz : W0.heap.size = w.heap.size + 2 := by rw [← hW0]; simp
  have k0 : W0.cell? ⟨w.heap.size, 0, none⟩ = some (.int .u32 x.1) := by rw [← hW0]; exact ((Blk.new w _ _).alloc _).cell 0
  have k1 : W0.cell? ⟨w.heap.size, 1, none⟩ = some (.int .u32 x.2) := by rw [← hW0]; exact ((Blk.new w _ _).alloc _).cell 1
  have k2 : W0.cell? ⟨w.heap.size + 1, 0, none⟩ = some (.int .u32 y.1) := by
    rw [← hW0]
    simp
  have k3 : W0.cell? ⟨w.heap.size + 1, 1, none⟩ = some (.int .u32 y.2) := by
    rw [← hW0]
    simp
  go_enter Tryz.func117, Tryz.ntmps117
  go_wp2
  (try rw [hW0])
  have HGW := Lib.hid hG
  have HZ := Lib.hid hz
  have HC := Lib.hid (show ∀ X, Grew W0 X → (X.cell? ⟨w.heap.size, 0, none⟩ = some (.int .u32 x.1) ∧ X.cell? ⟨w.heap.size, 1, none⟩ = some (.int .u32 x.2)) ∧ X.cell? ⟨w.heap.size + 1, 0, none⟩ = some (.int .u32 y.1) ∧ X.cell? ⟨w.heap.size + 1, 1, none⟩ = some (.int .u32 y.2) from fun X h => by
    have hb := h.below
    exact ⟨⟨(hb.cell (p := ⟨w.heap.size, 0, none⟩) (by show w.heap.size < W0.heap.size; omega)).trans k0, (hb.cell (p := ⟨w.heap.size, 1, none⟩) (by show w.heap.size < W0.heap.size; omega)).trans k1⟩, (hb.cell (p := ⟨w.heap.size + 1, 0, none⟩) (by show w.heap.size + 1 < W0.heap.size; omega)).trans k2, (hb.cell (p := ⟨w.heap.size + 1, 1, none⟩) (by show w.heap.size + 1 < W0.heap.size; omega)).trans k3⟩)
  have HG := Lib.hid (Grew.refl W0).drew
  clear hW0 hG hz
  go_region_held3 (fun w' => (w'.cell? ⟨w.heap.size, 0, none⟩ = some (.int .u32 x.1) ∧ w'.cell? ⟨w.heap.size, 1, none⟩ = some (.int .u32 x.2)) ∧ w'.cell? ⟨w.heap.size + 1, 0, none⟩ = some (.int .u32 y.1) ∧ w'.cell? ⟨w.heap.size + 1, 1, none⟩ = some (.int .u32 y.2)) (go_keep) (first
    | (go_at_call 119; go_loud (refine (HBK.out _).mono ?_; rintro e wt ⟨rfl, hgt⟩; have HG := Lib.hid (HG.out.trans hgt); obtain ⟨⟨k0, k1⟩, k2, k3⟩ := HC.out wt HG.out; clear hgt))
    | (go_at_call 120; go_loud (refine (HCU.out _).mono ?_; rintro e wt ⟨rfl, rfl⟩))
    | (go_at_call 118; go_loud (refine (HOR.out _ _ (new_two _ _ _ _).1 (new_two _ _ _ _).2).mono ?_; rintro e wt ⟨rfl, rfl⟩))
    | fail "no arm")
  all_goals
    go_wp2
    go_ret
    exact ⟨rfl, HGW.out.trans (HG.out.alloc _)⟩
end Go.Proofs.YtfpepdjffehbcaaGreat
/-
  The walks of slices.CompareFunc at tables, pool.Compare, the document's Compare. Condition: the tables are within the reach.
-/
set_option linter.unusedVariables false
set_option linter.unusedSimpArgs false
namespace Go.Proofs.YtfpepdjffehbcaaGreat
open Go.RowKit

def CmpPost (a b : List RowI) (w : World) (e : Ending) (w' : World) : Prop := e = .returned (.int .i64 (cmpT a b)) ∧ Grew w w'
set_option maxHeartbeats 4000000 in
theorem comparefunc_any (v1 v2 : Value) (l m : List RowI) (w : World) (h1 : RowsR w w.heap.size v1 l) (h2 : RowsR w w.heap.size v2 m) :
    Calls Tryz.prog 116 #[v1, v2, .func (.func 117) #[] #[]] w (CmpPost l m w) := by
  obtain ⟨A1, c1, rfl, hc1, hm1, hR1⟩ := h1
  obtain ⟨A2, c2, rfl, hc2, hm2, hR2⟩ := h2
  have HR1 := Lib.hid hR1
  have HR2 := Lib.hid hR2
  unfold maxLen at hm1 hm2
  have hn1 : (l.length : Int) ≤ 9223372036854775807 := by omega
  have hn2 : (m.length : Int) ≤ 9223372036854775807 := by omega
  have HC1 := Lib.hid (fun x y W => compare1_any x y W)
  clear hR1 hR2 hc1 hc2
  go_enter Tryz.func116, Tryz.ntmps116
  go_wp2
  go_loopw [13] (fun iv wr => ∃ p : Nat, iv = .int .i64 (p : Int) ∧ p ≤ l.length ∧ l.take p = m.take p ∧ Grew w wr ∧ p ≤ m.length) (fun iv _ => l.length - (Lib.intOf iv).toNat)
  case atStart => exact ⟨0, rfl, Nat.zero_le _, by simp, Grew.refl _, Nat.zero_le _⟩
  case round =>
    obtain ⟨p, rfl, hp, hT, hG, hpm⟩ := hrel
    have HT := Lib.hid hT
    have HG := Lib.hid hG
    clear hT hG
    by_cases hlt : p < l.length
    · have hq : (p : Int) < (l.length : Int) := by omega
      obtain ⟨x, hx⟩ := at_lt hlt
      obtain ⟨b1, o1, rfl, hb1, hcl1⟩ := (HR1.out.below HG.out.below).spot (by omega) (by omega)
      have r0 := hcl1 _ _ (rowCells_at hx).1
      have r1 : wr.cell? ⟨b1, o1 + p * 2 + 1, none⟩ = some (.int .u32 x.2) := hcl1 _ _ (rowCells_at hx).2
      have hb1w : b1 < wr.heap.size := Nat.lt_of_lt_of_le hb1 HG.out.below.size
      have HX := Lib.hid hx
      clear hcl1 hx
      by_cases hlm : p < m.length
      · have hq2 : ¬ (m.length : Int) ≤ (p : Int) := by omega
        have hq4 : (p : Int) < (m.length : Int) := by omega
        have hq3 : decide ((m.length : Int) ≤ (p : Int)) = false := by simpa using hq4
        obtain ⟨y, hy⟩ := at_lt hlm
        obtain ⟨b2, o2, rfl, hb2, hcl2⟩ := (HR2.out.below HG.out.below).spot (by omega) (by omega)
        have r2 := hcl2 _ _ (rowCells_at hy).1
        have r3 : wr.cell? ⟨b2, o2 + p * 2 + 1, none⟩ = some (.int .u32 y.2) := hcl2 _ _ (rowCells_at hy).2
        have hb2w : b2 < wr.heap.size := Nat.lt_of_lt_of_le hb2 HG.out.below.size
        have HY := Lib.hid hy
        clear hcl2 hy
        by_cases he : x = y
        · subst he
          have HZ := Lib.hid (cmpR_self x)
          have hz : (cmpR x x == 0) = true := by simp [cmpR_self]
          go_wp2_with (go_at_call 117; go_loud (refine (HC1.out x x _).mono ?_; rintro e w1 ⟨rfl, hg1⟩; rw [HZ.out]; have HG1 := Lib.hid (((HG.out.alloc _).alloc _).trans hg1); clear hg1))
          go_roundw
          case rel => exact ⟨p + 1, by go_num, hlt, by rw [List.take_add_one, List.take_add_one, HT.out, HX.out, HY.out], HG1.out, hlm⟩
          case measure => simp [Lib.intOf]; omega
        · have HZ := Lib.hid (cmpT_at HT.out HX.out HY.out he)
          have hz : (cmpR x y == 0) = false := by
            rw [beq_eq_false_iff_ne]
            exact fun e => he (cmpR_zero.1 e)
          have hz2 : ¬ cmpR x y = 0 := by simpa using hz
          go_wp2_with (go_at_call 117; go_loud (refine (HC1.out x y _).mono ?_; rintro e w1 ⟨rfl, hg1⟩; have HG1 := Lib.hid (((HG.out.alloc _).alloc _).trans hg1); clear hg1))
          go_ret
          exact ⟨by rw [HZ.out]; rfl, HG1.out⟩
      · have hq2 : (m.length : Int) ≤ (p : Int) := by omega
        have hq3 : decide ((m.length : Int) ≤ (p : Int)) = true := by simpa using hq2
        have HZ := Lib.hid (cmpT_short HT.out (by omega) hlt)
        go_wp2
        go_ret
        exact ⟨by rw [HZ.out]; rfl, HG.out.alloc _⟩
    · obtain rfl : p = l.length := by omega
      have hq : ¬ (l.length : Int) < (l.length : Int) := by omega
      by_cases hlm : l.length < m.length
      · have hq2 : (l.length : Int) < (m.length : Int) := by omega
        have HZ := Lib.hid (cmpT_long HT.out (Nat.le_refl _) hlm)
        go_wp2
        go_ret
        exact ⟨by rw [HZ.out]; rfl, HG.out⟩
      · have hq2 : ¬ (l.length : Int) < (m.length : Int) := by omega
        have HZ := Lib.hid (show cmpT l m = 0 from cmpT_zero.2 (by
          have := HT.out
          rwa [List.take_length, List.take_of_length_le (by omega)] at this))
        go_wp2
        go_ret
        exact ⟨by rw [HZ.out]; rfl, HG.out⟩
theorem pcompare_any (v1 v2 : Value) (l m : List RowI) (w : World) (h1 : RowsR w w.heap.size v1 l) (h2 : RowsR w w.heap.size v2 m) :
    Calls Tryz.prog 83 #[v1, v2] w (CmpPost l m w) := by
  have HC := Lib.hid (comparefunc_any v1 v2 l m w h1 h2)
  clear h1 h2
  go_enter Tryz.func83, Tryz.ntmps83
  go_wp2_with (go_at_call 116; go_loud (refine HC.out.mono ?_; rintro e w1 ⟨rfl, hg1⟩))
  go_ret
  exact ⟨rfl, hg1⟩
set_option maxHeartbeats 8000000 in
theorem refcompare_any (v1 v2 : Value) (l m : List RowI) (w : World) (h1 : RowsR w w.heap.size v1 l) (h2 : RowsR w w.heap.size v2 m) :
    Calls Tryz.prog 23 #[v1, v2] w (QPost (fun r => r = .int .i64 (cmpT l m)) w) := by
  obtain ⟨A1, c1, rfl, hc1, hm1, hR1⟩ := h1
  obtain ⟨A2, c2, rfl, hc2, hm2, hR2⟩ := h2
  have HR1 := Lib.hid hR1
  have HR2 := Lib.hid hR2
  unfold maxLen at hm1 hm2
  have hn1 : (l.length : Int) ≤ 9223372036854775807 := by omega
  have hn2 : (m.length : Int) ≤ 9223372036854775807 := by omega
  clear hR1 hR2 hc1 hc2
  go_enter Tryz.func23, Tryz.ntmps23
  go_wp2
  go_loopw [5] (fun iv wr => ∃ p q : Nat, iv = .int .i64 (p : Int) ∧ p ≤ l.length ∧ l.take p = m.take p ∧ wr = w.drewN q ∧ p ≤ m.length) (fun iv _ => l.length - (Lib.intOf iv).toNat)
  case atStart => exact ⟨0, 0, rfl, Nat.zero_le _, by simp, rfl, Nat.zero_le _⟩
  case round =>
    obtain ⟨p, q, rfl, hp, hT, rfl, hpm⟩ := hrel
    have HT := Lib.hid hT
    clear hT
    by_cases hlt : p < l.length
    · have hq : (p : Int) < (l.length : Int) := by omega
      by_cases hlm : p < m.length
      · have hq4 : (p : Int) < (m.length : Int) := by omega
        obtain ⟨x, hx⟩ := at_lt hlt
        obtain ⟨y, hy⟩ := at_lt hlm
        obtain ⟨b1, o1, rfl, hb1, hcl1⟩ := HR1.out.spot (by omega) (by omega)
        obtain ⟨b2, o2, rfl, hb2, hcl2⟩ := HR2.out.spot (by omega) (by omega)
        have r0 := hcl1 _ _ (rowCells_at hx).1
        have r1 : w.cell? ⟨b1, o1 + p * 2 + 1, none⟩ = some (.int .u32 x.2) := hcl1 _ _ (rowCells_at hx).2
        have r2 := hcl2 _ _ (rowCells_at hy).1
        have r3 : w.cell? ⟨b2, o2 + p * 2 + 1, none⟩ = some (.int .u32 y.2) := hcl2 _ _ (rowCells_at hy).2
        have HX := Lib.hid hx
        have HY := Lib.hid hy
        clear hcl1 hcl2 hx hy
        by_cases h1 : x.1 < y.1
        · have HZ := Lib.hid (show cmpT l m = -1 by rw [cmpT_at HT.out HX.out HY.out (fun e => by rw [e] at h1; omega)]; unfold cmpR; rw [if_pos (rl_iff.2 (.inl h1))])
          have h1b : decide (x.1 < y.1) = true := by simpa using h1
          go_upto_region 4 with (fail)
          go_quiet (fail)
          go_wp2
          go_ret
          exact ⟨_, q + nq, rfl, (show Value.int .i64 (-1) = _ from by rw [HZ.out]), by rw [World.drewN_drewN]⟩
        · have h1b : decide (x.1 < y.1) = false := by simpa using h1
          by_cases h2 : x.1 = y.1
          · have h2b : (x.1 == y.1) = true := by simpa using h2
            by_cases h3 : x.2 < y.2
            · have HZ := Lib.hid (show cmpT l m = -1 by rw [cmpT_at HT.out HX.out HY.out (fun e => by rw [e] at h3; omega)]; unfold cmpR; rw [if_pos (rl_iff.2 (.inr ⟨h2, h3⟩))])
              have h3b : decide (x.2 < y.2) = true := by simpa using h3
              clear h1 h2
              go_upto_region 4 with (fail)
              go_quiet (fail)
              go_wp2
              go_ret
              exact ⟨_, q + nq, rfl, (show Value.int .i64 (-1) = _ from by rw [HZ.out]), by rw [World.drewN_drewN]⟩
            · have h3b : decide (x.2 < y.2) = false := by simpa using h3
              by_cases h4 : x.2 = y.2
              · obtain rfl : x = y := Prod.ext h2 h4
                clear h1 h2 h3 h4
                have h5 : (x.2 == x.2) = true := by simp
                go_upto_region 4 with (fail)
                go_quiet (fail)
                go_upto_region 6 with (fail)
                go_quiet (fail)
                go_wp2
                exact ⟨⟨p + 1, _, by go_num, hlt, by rw [List.take_add_one, List.take_add_one, HT.out, HX.out, HY.out], rfl, hlm⟩, by simp only [Lib.intOf]; omega⟩
              · have h4b : (x.2 == y.2) = false := by simpa using h4
                have HZ := Lib.hid (show cmpT l m = 1 by rw [cmpT_at HT.out HX.out HY.out (fun e => by rw [e] at h4; omega)]; unfold cmpR; rw [if_neg (by rw [rl_iff]; omega), if_neg (fun e => by rw [e] at h4; omega)])
                clear h1 h2 h3
                go_upto_region 4 with (fail)
                go_quiet (fail)
                go_upto_region 6 with (fail)
                go_quiet (fail)
                go_wp2
                go_ret
                exact ⟨_, _, rfl, (show Value.int .i64 1 = _ from by rw [HZ.out]), by simp only [World.drewN_drewN]; rfl⟩
          · have h2b : (x.1 == y.1) = false := by simpa using h2
            have HZ := Lib.hid (show cmpT l m = 1 by rw [cmpT_at HT.out HX.out HY.out (fun e => by rw [e] at h2; omega)]; unfold cmpR; rw [if_neg (by rw [rl_iff]; omega), if_neg (fun e => by rw [e] at h2; omega)])
            clear h1
            go_upto_region 4 with (fail)
            go_quiet (fail)
            go_upto_region 6 with (fail)
            go_quiet (fail)
            go_wp2
            go_ret
            exact ⟨_, _, rfl, (show Value.int .i64 1 = _ from by rw [HZ.out]), by simp only [World.drewN_drewN]; rfl⟩
      · obtain rfl : p = m.length := by omega
        have hq2 : ¬ (m.length : Int) < (m.length : Int) := by omega
        have hq5 : ¬ (l.length : Int) < (m.length : Int) := by omega
        have HZ := Lib.hid (cmpT_short HT.out (Nat.le_refl _) hlt)
        go_wp2
        go_ret
        exact ⟨_, q, rfl, (show Value.int .i64 1 = _ from by rw [HZ.out]), rfl⟩
    · obtain rfl : p = l.length := by omega
      have hq : ¬ (l.length : Int) < (l.length : Int) := by omega
      by_cases hlm : l.length < m.length
      · have hq2 : (l.length : Int) < (m.length : Int) := by omega
        have HZ := Lib.hid (cmpT_long HT.out (Nat.le_refl _) hlm)
        go_wp2
        go_ret
        exact ⟨_, q, rfl, (show Value.int .i64 (-1) = _ from by rw [HZ.out]), rfl⟩
      · have hq2 : ¬ (l.length : Int) < (m.length : Int) := by omega
        have hq3 : ¬ (m.length : Int) < (l.length : Int) := by omega
        have HZ := Lib.hid (show cmpT l m = 0 from cmpT_zero.2 (by
          have := HT.out
          rwa [List.take_length, List.take_of_length_le (by omega)] at this))
        go_wp2
        go_ret
        exact ⟨_, q, rfl, (show Value.int .i64 0 = _ from by rw [HZ.out]), rfl⟩
end Go.Proofs.YtfpepdjffehbcaaGreat
