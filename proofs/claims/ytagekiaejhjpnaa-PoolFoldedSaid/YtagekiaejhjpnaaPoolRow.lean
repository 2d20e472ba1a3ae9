/-
  The walks of what looks at tables (do keys rise; where does a key stand; the document's order of tables). Condition: the tables are within the reach.
-/
import Derived.Test.YtagekiaejhjpnaaPoolStr
import Derived.Test.YtagekiaejhjpnaaCmpLaw
namespace Go.Proofs.Ytagekiaejhjpnaa
open Go.RowKit

abbrev RowI := Int × Int
def rowCells (l : List RowI) : List Value := l.flatMap fun r => [.int .u32 r.1, .int .u32 r.2]
theorem rowCells_len (l : List RowI) : (rowCells l).length = l.length * 2 := by
  induction l with
  | nil => rfl
  | cons x l ih => simp only [rowCells, List.flatMap_cons, List.length_append, List.length_cons, List.length_nil] at ih ⊢; omega
theorem rowCells_at {l : List RowI} {i : Nat} {x : RowI} (h : l[i]? = some x) : (rowCells l)[i * 2]? = some (.int .u32 x.1) ∧ (rowCells l)[i * 2 + 1]? = some (.int .u32 x.2) := by
  induction l generalizing i with
  | nil => simp at h
  | cons y l ih =>
    cases i with
    | zero => simp at h; subst h; simp [rowCells]
    | succ i =>
      simp only [List.getElem?_cons_succ] at h
      have := ih h
      rw [show (i + 1) * 2 = i * 2 + 1 + 1 by omega]
      simpa [rowCells] using this
theorem rowCells_append (l m : List RowI) : rowCells (l ++ m) = rowCells l ++ rowCells m := by simp [rowCells]
theorem rowCells_one {l : List RowI} : ∀ u ∈ rowCells l, u.oneCell' = true := by
  intro u hu
  obtain ⟨r, -, hr⟩ := List.mem_flatMap.1 hu
  simp only [List.mem_cons, List.mem_nil_iff, or_false] at hr
  rcases hr with rfl | rfl <;> rfl
theorem rows_take {l : List RowI} {p : Nat} {x : RowI} (h : l[p]? = some x) : rowCells (l.take (p + 1)) = rowCells (l.take p) ++ [.int .u32 x.1, .int .u32 x.2] := by
  rw [List.take_add_one, h]
  simp [rowCells]
/-- A table, read. -/
def RowsR (w : World) (B : Nat) (v : Value) (l : List RowI) : Prop := ∃ A c, v = .slice A l.length c ∧ l.length ≤ c ∧ c ≤ maxLen ∧ Reads w B 2 A l.length (rowCells l)
theorem RowsR.below {w w' : World} {B : Nat} {v : Value} {l : List RowI} (h : RowsR w B v l) (hb : Below B w w') : RowsR w' B v l := by
  obtain ⟨A, c, e, h1, h2, h3⟩ := h
  exact ⟨A, c, e, h1, h2, h3.below hb⟩
theorem RowsR.more {w : World} {B B' : Nat} {v : Value} {l : List RowI} (h : RowsR w B v l) (hB : B ≤ B') : RowsR w B' v l := by
  obtain ⟨A, c, e, h1, h2, h3⟩ := h
  exact ⟨A, c, e, h1, h2, Reads.more h3 hB⟩
theorem RowsR.on {w w' : World} {v : Value} {l : List RowI} (h : RowsR w w.heap.size v l) (hb : Below w.heap.size w w') : RowsR w' w'.heap.size v l := (h.below hb).more hb.size
theorem rows_of_own {w : World} {base : Nat} {e : TypeId} {v : Value} {l : List RowI} (h : w.ownsRow base e 2 v l.length (rowCells l)) : RowsR w w.heap.size v l := own_form h
theorem rows_nil (w : World) (B : Nat) : RowsR w B (.slice none 0 0) [] := ⟨none, 0, rfl, Nat.le_refl _, by simp [maxLen], Reads.none_⟩
/-- Do keys rise? -/
def kl (a b : RowI) : Bool := decide (a.1 < b.1)
theorem kl_tr (a b c : RowI) (h1 : kl a b = true) (h2 : kl b c = true) : kl a c = true := by
  simp only [kl, decide_eq_true_eq] at *
  omega
/-- What the document's Seek tells. -/
def SeekIs (l : List RowI) (key : Int) (r : Int) : Prop := (∃ (i : Nat) (x : RowI), r = (i : Int) ∧ l[i]? = some x ∧ x.1 = key ∧ ∀ j y, j < i → l[j]? = some y → y.1 ≠ key) ∨ (r = -1 ∧ ∀ y ∈ l, y.1 ≠ key)

set_option maxHeartbeats 2000000 in
theorem istable_any (v : Value) (l : List RowI) (w : World) (h : RowsR w w.heap.size v l) :
    Calls Try.prog 27 #[v] w (QPost (fun r => r = .bool (decide (RiseL kl l))) w) := by
  obtain ⟨A, c, rfl, hc, hm, hR⟩ := h
  have HR := Lib.hid hR
  unfold maxLen at hm
  clear hR
  generalize hn : l.length = n at *
  have HN := Lib.hid hn
  have hn1 : (n : Int) ≤ 9223372036854775807 := by omega
  clear hn hc
  go_enter Try.func27, Try.ntmps27
  go_wp2
  go_loopw [3] (fun iv wr => ∃ p q : Nat, iv = .int .i64 ((p : Int) + 1) ∧ p ≤ n ∧ (∀ (j : Nat) (x y : RowI), j < p → l[j]? = some x → l[j + 1]? = some y → kl x y = true) ∧ wr = w.drewN q) (fun iv _ => (n + 2) - (Lib.intOf iv).toNat)
  case atStart => exact ⟨0, 0, rfl, Nat.zero_le _, fun j x y h => absurd h (by omega), rfl⟩
  case round =>
    obtain ⟨p, q, rfl, hp, hT, rfl⟩ := hrel
    have HT := Lib.hid hT
    clear hT
    by_cases hlt : p + 1 < n
    · obtain ⟨x, hx⟩ := at_lt (l := l) (p := p) (by have := HN.out; omega)
      obtain ⟨y, hy⟩ := at_lt (l := l) (p := p + 1) (by have := HN.out; omega)
      have hq : (p : Int) + 1 < (n : Int) := by omega
      obtain ⟨b1, o1, rfl, hb1, hcl1⟩ := HR.out.spot (by omega) (by omega)
      have r0 := hcl1 _ _ (rowCells_at hx).1
      have r1 : w.cell? ⟨b1, o1 + (p + 1) * 2, none⟩ = some (.int .u32 y.1) := hcl1 _ _ (rowCells_at hy).1
      have hs1 : IntKind.i64.wrap ((p : Int) + 1 - 1) = (p : Int) := by rw [IntKind.wrap_i64]; omega
      have hs2 : ((p : Int) + 1).toNat = p + 1 := by omega
      have hs3 : (0 : Int) ≤ (p : Int) + 1 := by omega
      have hs4 : (p : Int) < (n : Int) := by omega
      have HX := Lib.hid (And.intro hx hy)
      clear hcl1 hx hy
      by_cases hb : x.1 < y.1
      · have HB := Lib.hid (show kl x y = true by simpa [kl] using hb)
        have hb2 : ¬ y.1 ≤ x.1 := by omega
        have hb3 : decide (y.1 ≤ x.1) = false := by simpa using hb
        clear hb
        go_upto_region 5 with (fail)
        go_quiet (fail)
        go_wp2
        go_roundw
        case rel =>
          refine ⟨p + 1, q + nq, by go_num, by omega, fun j a b hj ha hb => ?_, rfl⟩
          rcases Nat.lt_or_ge j p with h | h
          · exact HT.out j a b h ha hb
          · obtain rfl : j = p := by omega
            rw [HX.out.1] at ha
            rw [HX.out.2] at hb
            cases ha
            cases hb
            exact HB.out
        case measure => simp [Lib.intOf]; omega
      · have HNR := Lib.hid (show decide (RiseL kl l) = false by
          rw [decide_eq_false_iff_not]
          intro hr
          have := rise_at hr HX.out.1 HX.out.2 (by omega)
          simp only [kl, decide_eq_true_eq] at this
          omega)
        have hb2 : y.1 ≤ x.1 := by omega
        have hb3 : decide (y.1 ≤ x.1) = true := by simpa using hb2
        clear hb
        go_upto_region 5 with (fail)
        go_quiet (fail)
        go_wp2
        go_ret
        exact ⟨_, q + nq, rfl, (show Value.bool false = _ from congrArg Value.bool HNR.out.symm), by rw [World.drewN_drewN]⟩
    · have hq : ¬ (p : Int) + 1 < (n : Int) := by omega
      have HYR := Lib.hid (show decide (RiseL kl l) = true by
        rw [decide_eq_true_iff]
        refine rise_of_adj kl_tr l fun j x y hx hy => ?_
        have := (List.getElem?_eq_some_iff.1 hy).1
        have := HN.out
        exact HT.out j x y (by omega) hx hy)
      go_wp2
      go_ret
      exact ⟨_, _, rfl, (show Value.bool true = _ from congrArg Value.bool HYR.out.symm), rfl⟩

set_option maxHeartbeats 2000000 in
theorem refis_any (v : Value) (l : List RowI) (w : World) (h : RowsR w w.heap.size v l) :
    Calls Try.prog 18 #[v] w (QPost (fun r => r = .bool (decide (RiseL kl l))) w) := by
  obtain ⟨A, c, rfl, hc, hm, hR⟩ := h
  have HR := Lib.hid hR
  unfold maxLen at hm
  clear hR
  generalize hn : l.length = n at *
  have HN := Lib.hid hn
  have hn1 : (n : Int) ≤ 9223372036854775807 := by omega
  clear hn hc
  go_enter Try.func18, Try.ntmps18
  go_wp2
  go_loopw [3] (fun iv wr => ∃ p q : Nat, iv = .int .i64 ((p : Int) + 1) ∧ p ≤ n ∧ (∀ (j : Nat) (x y : RowI), j < p → l[j]? = some x → l[j + 1]? = some y → kl x y = true) ∧ wr = w.drewN q) (fun iv _ => (n + 2) - (Lib.intOf iv).toNat)
  case atStart => exact ⟨0, 0, rfl, Nat.zero_le _, fun j x y h => absurd h (by omega), rfl⟩
  case round =>
    obtain ⟨p, q, rfl, hp, hT, rfl⟩ := hrel
    have HT := Lib.hid hT
    clear hT
    by_cases hlt : p + 1 < n
    · obtain ⟨x, hx⟩ := at_lt (l := l) (p := p) (by have := HN.out; omega)
      obtain ⟨y, hy⟩ := at_lt (l := l) (p := p + 1) (by have := HN.out; omega)
      have hq : (p : Int) + 1 < (n : Int) := by omega
      obtain ⟨b1, o1, rfl, hb1, hcl1⟩ := HR.out.spot (by omega) (by omega)
      have r0 := hcl1 _ _ (rowCells_at hx).1
      have r1 : w.cell? ⟨b1, o1 + (p + 1) * 2, none⟩ = some (.int .u32 y.1) := hcl1 _ _ (rowCells_at hy).1
      have hs1 : IntKind.i64.wrap ((p : Int) + 1 - 1) = (p : Int) := by rw [IntKind.wrap_i64]; omega
      have hs2 : ((p : Int) + 1).toNat = p + 1 := by omega
      have hs3 : (0 : Int) ≤ (p : Int) + 1 := by omega
      have hs4 : (p : Int) < (n : Int) := by omega
      have HX := Lib.hid (And.intro hx hy)
      clear hcl1 hx hy
      by_cases hb : x.1 < y.1
      · have HB := Lib.hid (show kl x y = true by simpa [kl] using hb)
        have hb2 : ¬ y.1 ≤ x.1 := by omega
        have hb3 : decide (y.1 ≤ x.1) = false := by simpa using hb
        clear hb
        go_upto_region 5 with (fail)
        go_quiet (fail)
        go_wp2
        go_roundw
        case rel =>
          refine ⟨p + 1, q + nq, by go_num, by omega, fun j a b hj ha hb => ?_, rfl⟩
          rcases Nat.lt_or_ge j p with h | h
          · exact HT.out j a b h ha hb
          · obtain rfl : j = p := by omega
            rw [HX.out.1] at ha
            rw [HX.out.2] at hb
            cases ha
            cases hb
            exact HB.out
        case measure => simp [Lib.intOf]; omega
      · have HNR := Lib.hid (show decide (RiseL kl l) = false by
          rw [decide_eq_false_iff_not]
          intro hr
          have := rise_at hr HX.out.1 HX.out.2 (by omega)
          simp only [kl, decide_eq_true_eq] at this
          omega)
        have hb2 : y.1 ≤ x.1 := by omega
        have hb3 : decide (y.1 ≤ x.1) = true := by simpa using hb2
        clear hb
        go_upto_region 5 with (fail)
        go_quiet (fail)
        go_wp2
        go_ret
        exact ⟨_, q + nq, rfl, (show Value.bool false = _ from congrArg Value.bool HNR.out.symm), by rw [World.drewN_drewN]⟩
    · have hq : ¬ (p : Int) + 1 < (n : Int) := by omega
      have HYR := Lib.hid (show decide (RiseL kl l) = true by
        rw [decide_eq_true_iff]
        refine rise_of_adj kl_tr l fun j x y hx hy => ?_
        have := (List.getElem?_eq_some_iff.1 hy).1
        have := HN.out
        exact HT.out j x y (by omega) hx hy)
      go_wp2
      go_ret
      exact ⟨_, _, rfl, (show Value.bool true = _ from congrArg Value.bool HYR.out.symm), rfl⟩

set_option maxHeartbeats 2000000 in
theorem refseek_any (v : Value) (l : List RowI) (key : Int) (w : World) (h : RowsR w w.heap.size v l) :
    Calls Try.prog 19 #[v, .int .u32 key] w (QPost (fun r => ∃ k, r = .int .i64 k ∧ SeekIs l key k) w) := by
  obtain ⟨A, c, rfl, hc, hm, hR⟩ := h
  have HR := Lib.hid hR
  unfold maxLen at hm
  clear hR
  generalize hn : l.length = n at *
  have HN := Lib.hid hn
  have hn1 : (n : Int) ≤ 9223372036854775807 := by omega
  clear hn hc
  go_enter Try.func19, Try.ntmps19
  go_wp2
  go_loop [5] (fun iv => ∃ p : Nat, iv = .int .i64 (p : Int) ∧ p ≤ n ∧ (∀ j y, j < p → l[j]? = some y → y.1 ≠ key)) (fun iv => n - (Lib.intOf iv).toNat)
  case atStart => exact ⟨0, rfl, Nat.zero_le _, fun j y h => absurd h (by omega)⟩
  case round =>
    obtain ⟨p, rfl, hp, hT⟩ := hrel
    have HT := Lib.hid hT
    clear hT
    by_cases hlt : p < n
    · obtain ⟨x, hx⟩ := at_lt (l := l) (p := p) (by have := HN.out; omega)
      have hq : (p : Int) < (n : Int) := by omega
      obtain ⟨b1, o1, rfl, hb1, hcl1⟩ := HR.out.spot (by omega) (by omega)
      have r0 := hcl1 _ _ (rowCells_at hx).1
      have HX := Lib.hid hx
      clear hcl1 hx
      by_cases he : x.1 = key
      · have HE := Lib.hid he
        have hb : (x.1 == key) = true := by simpa using he
        clear he
        go_wp2
        go_ret
        exact ⟨_, 0, rfl, ⟨_, rfl, .inl ⟨p, x, rfl, HX.out, HE.out, HT.out⟩⟩, rfl⟩
      · have hb : (x.1 == key) = false := by simpa using he
        have HE := Lib.hid he
        go_wp2
        go_round
        case rel =>
          refine ⟨p + 1, by go_num, by omega, fun j y hj hy => ?_⟩
          rcases Nat.lt_or_ge j p with h | h
          · exact HT.out j y h hy
          · obtain rfl : j = p := by omega
            rw [HX.out] at hy
            cases hy
            exact HE.out
        case measure => simp [Lib.intOf]; omega
    · have hq : ¬ (p : Int) < (n : Int) := by omega
      have HNI := Lib.hid (show ∀ y ∈ l, y.1 ≠ key from fun y hs => by
        obtain ⟨j, hj, e⟩ := List.mem_iff_getElem.1 hs
        exact HT.out j y (by have := HN.out; omega) (by simp [hj, e]))
      go_wp2
      go_ret
      exact ⟨_, 0, rfl, ⟨_, rfl, .inr ⟨rfl, HNI.out⟩⟩, rfl⟩
end Go.Proofs.Ytagekiaejhjpnaa
