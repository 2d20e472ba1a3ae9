/-
  Tables as texts, plainly: four bytes a number, the highest first; their order is the order of tables. Where each table of a list stands among the tables once each. No condition beyond that the numbers are of 32 bits.
-/
import Derived.Test.YtagekiaejhjpnaaPoolRows
import Derived.Shelf.Spec.SearchS
namespace Go.Proofs.Ytagekiaejhjpnaa
open Go.RowKit

def by8 (n : Int) : UInt8 := UInt8.ofNat (n % 256).toNat
theorem by8_nat (n : Int) : ((by8 n).toNat : Int) = n % 256 := by
  have h1 : (n % 256).toNat < 256 := by omega
  unfold by8
  rw [UInt8.toNat_ofNat', Nat.mod_eq_of_lt h1]
  omega
theorem by8_lt (a b : Int) : (by8 a < by8 b) ↔ a % 256 < b % 256 := by
  rw [UInt8.lt_iff_toNat_lt, ← Int.ofNat_lt, by8_nat, by8_nat]
theorem by8_eq (a b : Int) : (by8 a = by8 b) ↔ a % 256 = b % 256 := by
  rw [← UInt8.toNat_inj, ← Int.ofNat_inj, by8_nat, by8_nat]
def be4 (n : Int) : List UInt8 := [by8 (n / 16777216), by8 (n / 65536), by8 (n / 256), by8 n]
theorem be4_len (n : Int) : (be4 n).length = 4 := rfl
theorem be4_inj {a b : Int} (ha : 0 ≤ a ∧ a < 4294967296) (hb : 0 ≤ b ∧ b < 4294967296) : be4 a = be4 b ↔ a = b := by
  constructor
  · intro h
    simp only [be4, List.cons.injEq, by8_eq, and_true] at h
    omega
  · rintro rfl
    rfl
theorem digits {a : Int} (ha : 0 ≤ a ∧ a < 4294967296) : ∃ d3 d2 d1 d0 : Int, (0 ≤ d3 ∧ d3 < 256) ∧ (0 ≤ d2 ∧ d2 < 256) ∧ (0 ≤ d1 ∧ d1 < 256) ∧ (0 ≤ d0 ∧ d0 < 256) ∧ a = d3 * 16777216 + d2 * 65536 + d1 * 256 + d0 ∧
    a / 16777216 % 256 = d3 ∧ a / 65536 % 256 = d2 ∧ a / 256 % 256 = d1 ∧ a % 256 = d0 := by
  refine ⟨a / 16777216, a / 65536 % 256, a / 256 % 256, a % 256, ?_, ?_, ?_, ?_, ?_, ?_, rfl, rfl, rfl⟩ <;> omega
theorem be4_less {a b : Int} (ha : 0 ≤ a ∧ a < 4294967296) (hb : 0 ≤ b ∧ b < 4294967296) : Op.bytesLess (be4 a) (be4 b) = decide (a < b) := by
  simp only [be4, Op.bytesLess, Bool.or_false, Bool.and_false]
  rw [Bool.eq_iff_iff]
  simp only [Bool.or_eq_true, Bool.and_eq_true, decide_eq_true_eq, beq_iff_eq, by8_lt, by8_eq]
  obtain ⟨a3, a2, a1, a0, h3, h2, h1, h0, e, e3, e2, e1, e0⟩ := digits ha
  obtain ⟨b3, b2, b1, b0, k3, k2, k1, k0, f, f3, f2, f1, f0⟩ := digits hb
  rw [e3, e2, e1, e0, f3, f2, f1, f0]
  clear e3 e2 e1 e0 f3 f2 f1 f0 ha hb
  omega
theorem less_app (u v x y : List UInt8) (h : u.length = v.length) : Op.bytesLess (u ++ x) (v ++ y) = if u = v then Op.bytesLess x y else Op.bytesLess u v := by
  induction u generalizing v with
  | nil =>
    cases v with
    | nil => simp
    | cons b v => cases h
  | cons a u ih =>
    cases v with
    | nil => cases h
    | cons b v =>
      simp only [List.length_cons, Nat.add_right_cancel_iff] at h
      simp only [List.cons_append, Op.bytesLess, ih v h, List.cons.injEq]
      by_cases e : a = b
      · subst e
        by_cases e2 : u = v
        · simp [e2]
        · simp [e2]
      · have e2 : (a == b) = false := by simpa using e
        simp [e2, e]
def rowB (r : RowI) : List UInt8 := be4 r.1 ++ be4 r.2
theorem rowB_len (r : RowI) : (rowB r).length = 8 := rfl
def RowOk (q : RowI) : Prop := (0 ≤ q.1 ∧ q.1 < 4294967296) ∧ 0 ≤ q.2 ∧ q.2 < 4294967296
theorem rowB_inj {x y : RowI} (hx : RowOk x) (hy : RowOk y) : rowB x = rowB y ↔ x = y := by
  constructor
  · intro h
    obtain ⟨h1, h2⟩ := List.append_inj h rfl
    exact Prod.ext ((be4_inj hx.1 hy.1).1 h1) ((be4_inj hx.2 hy.2).1 h2)
  · rintro rfl
    rfl
theorem rowB_less {x y : RowI} (hx : RowOk x) (hy : RowOk y) : Op.bytesLess (rowB x) (rowB y) = rl x y := by
  unfold rowB
  rw [less_app (be4 x.1) (be4 y.1) (be4 x.2) (be4 y.2) rfl, be4_less hx.1 hy.1, be4_less hx.2 hy.2]
  unfold rl
  by_cases h : x.1 = y.1
  · rw [if_pos (by rw [h]), decide_eq_false (show ¬ x.1 < y.1 by omega), decide_eq_true h]
    simp
  · rw [if_neg (fun e => h ((be4_inj hx.1 hy.1).1 e)), decide_eq_false h]
    simp
/-- A table as bytes. -/
def tabB (l : List RowI) : List UInt8 := l.flatMap rowB
theorem tabB_len (l : List RowI) : (tabB l).length = l.length * 8 := by
  induction l with
  | nil => rfl
  | cons x l ih => simp only [tabB, List.flatMap_cons, List.length_append, rowB_len, List.length_cons] at ih ⊢; omega
theorem tabB_snoc (l : List RowI) (x : RowI) : tabB (l ++ [x]) = tabB l ++ rowB x := by simp [tabB]
theorem tabB_less : ∀ {a b : List RowI}, RowsOk a → RowsOk b → Op.bytesLess (tabB a) (tabB b) = lexL rl a b
  | a, [], _, _ => by simp [tabB, lexL, Op.bytesLess]
  | [], y :: b, _, _ => by simp [tabB, lexL, rowB, be4, Op.bytesLess]
  | x :: a, y :: b, ha, hb => by
    have hx : RowOk x := ha x (by simp)
    have hy : RowOk y := hb y (by simp)
    have ih := tabB_less (a := a) (b := b) (fun q hq => ha q (by simp [hq])) (fun q hq => hb q (by simp [hq]))
    simp only [tabB, List.flatMap_cons] at ih ⊢
    rw [less_app (rowB x) (rowB y) _ _ rfl, ih, rowB_less hx hy]
    simp only [lexL]
    by_cases h : x = y
    · rw [if_pos (by rw [h]), if_pos h]
    · rw [if_neg (fun e => h ((rowB_inj hx hy).1 e)), if_neg h]
def textB (l : List RowI) : ByteArray := ⟨(tabB l).toArray⟩
theorem textB_toList (l : List RowI) : (textB l).toList = tabB l := by rw [Lib.toList_data]; rfl
theorem textB_size (l : List RowI) : (textB l).size = l.length * 8 := by
  show (tabB l).toArray.size = _
  rw [List.size_toArray, tabB_len]
theorem textB_less {a b : List RowI} (ha : RowsOk a) (hb : RowsOk b) : bl (textB a) (textB b) = tl a b := by
  unfold bl
  rw [textB_toList, textB_toList, tabB_less ha hb]
theorem textB_inj {a b : List RowI} (ha : RowsOk a) (hb : RowsOk b) (h : textB a = textB b) : a = b := by
  have h1 := textB_less ha hb
  have h2 := textB_less hb ha
  rw [h, blT.irr] at h1 h2
  exact tlT.conn a b h1.symm h2.symm
/-- The texts of tables, once each: those of the tables once each. -/
theorem pool_texts {l : List (List RowI)} (h : ∀ t ∈ l, RowsOk t) : poolL bl (l.map textB) = (poolL tl l).map textB := by
  refine (poolL_eq blT ?_ fun x => ?_).symm
  · have hr := poolL_rise tlT l
    unfold RiseL
    rw [List.pairwise_map]
    refine hr.imp_of_mem fun {a b} ha hb hab => ?_
    rw [textB_less (h a ((poolL_mem l a).1 ha)) (h b ((poolL_mem l b).1 hb))]
    exact hab
  · simp only [List.mem_map, poolL_mem]
/-- Where each table stands. -/
def FoldAt (ls : List (List RowI)) (ks : List Nat) : Prop := ks.length = ls.length ∧ ∀ (i : Nat) (t : List RowI), ls[i]? = some t → ∃ k, ks[i]? = some k ∧ (poolL tl ls)[k]? = some t
theorem pool_at {ls : List (List RowI)} {t : List RowI} (h : t ∈ ls) : ∃ k : Nat, (poolL tl ls)[k]? = some t :=
  List.mem_iff_getElem?.1 ((poolL_mem ls t).2 h)
/-- What the halving tells of the texts. -/
theorem halving {ls : List (List RowI)} (h : ∀ t ∈ ls, RowsOk t) {k : Nat} {t : List RowI} (hk : (poolL tl ls)[k]? = some t) :
    Lib.bsGo (fun j => Op.bytesLess ((((poolL tl ls).map textB)[j]?).getD (textB t)).toList (textB t).toList) (poolL tl ls).length 0 (poolL tl ls).length = k := by
  have hkl := (List.getElem?_eq_some_iff.1 hk).1
  have hok : ∀ x ∈ poolL tl ls, RowsOk x := fun x hx => h x ((poolL_mem ls x).1 hx)
  have ht := hok t (List.mem_of_getElem? hk)
  refine Lib.bsGo_spec _ k (fun j hj => ?_) (fun j hj => ?_) _ _ _ (by omega) (by omega) (by omega)
  · obtain ⟨y, hy⟩ : ∃ y, (poolL tl ls)[j]? = some y := ⟨(poolL tl ls)[j], by simp [show j < (poolL tl ls).length by omega]⟩
    rw [List.getElem?_map, hy]
    have := textB_less (hok y (List.mem_of_getElem? hy)) ht
    unfold bl at this
    simp only [Option.map_some, Option.getD_some, this]
    exact rise_at (poolL_rise tlT ls) hy hk hj
  · cases hy : (poolL tl ls)[j]? with
    | none =>
      rw [List.getElem?_map, hy]
      simp only [Option.map_none, Option.getD_none]
      exact bl_irr _
    | some y =>
      rw [List.getElem?_map, hy]
      have := textB_less (hok y (List.mem_of_getElem? hy)) ht
      unfold bl at this
      simp only [Option.map_some, Option.getD_some, this]
      rcases Nat.lt_or_ge k j with h1 | h1
      · exact tlT.asym (rise_at (poolL_rise tlT ls) hk hy h1)
      · obtain rfl : j = k := by omega
        rw [hk] at hy
        cases hy
        exact tlT.irr _
end Go.Proofs.Ytagekiaejhjpnaa
