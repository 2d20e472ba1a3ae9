/-
  The walk of slices.Compact at rows. Condition: the row is of the caller's own, within the reach.
-/
import Derived.Test.YtagekiaejhjpnaaTabLaw
import Derived.Test.YtagekiaejhjpnaaPutRow
import Derived.Test.YtagekiaejhjpnaaSortRow
import Derived.Lib.SliceRun
import Derived.Laws.StructEq
namespace Go.Proofs.Ytagekiaejhjpnaa
open Go.RowKit

theorem own_setCells {base : Nat} {e : TypeId} {size g n c : Nat} : ∀ (vs : List Value) (o : Nat) (w : World) (xs : List Value), w.ownsRow base e size (.slice (some ⟨g, 0, none⟩) n c) n xs →
    ∃ xs', (w.setCells g o vs).ownsRow base e size (.slice (some ⟨g, 0, none⟩) n c) n xs' ∧ xs'.take o = xs.take o
  | [], _, _, xs, h => ⟨xs, h, rfl⟩
  | v :: r, o, w, xs, h => by
    obtain ⟨xs', h1, h2⟩ := own_setCells r (o + 1) (w.setCell ⟨g, o, none⟩ v) (xs.set o v) (own_set h o v)
    refine ⟨xs', h1, ?_⟩
    have h3 := congrArg (List.take o) h2
    rw [List.take_take, List.take_take, Nat.min_eq_left (by omega)] at h3
    rw [h3, List.take_set_of_le (Nat.le_refl _)]
theorem only_setCells {g : Nat} : ∀ (vs : List Value) (o : Nat) (a w : World), Only g a w → Only g a (w.setCells g o vs)
  | [], _, _, _, h => h
  | v :: r, o, a, _, h => only_setCells r (o + 1) a _ (h.setCell (p := ⟨g, o, none⟩) (.inl rfl) v)
theorem own_cut {w : World} {base : Nat} {e : TypeId} {size g n c k : Nat} {xs : List Value} (h : w.ownsRow base e size (.slice (some ⟨g, 0, none⟩) n c) n xs) (hk : k ≤ n) : w.ownsRow base e size (.slice (some ⟨g, 0, none⟩) k c) k (xs.take (k * size)) := by
  obtain ⟨h1, h2⟩ := h
  have hle : k * size ≤ n * size := Nat.mul_le_mul_right _ hk
  refine ⟨by rw [List.length_take, h1]; exact Nat.min_eq_left hle, ?_⟩
  rcases h2 with ⟨h2, -⟩ | ⟨g', cap, cur, hv, hb, hh, hn, hm, hcs, hx⟩
  · cases h2
  · cases hv
    refine .inr ⟨g, c, cur, rfl, hb, hh, by omega, hm, hcs, ?_⟩
    rw [← hx, List.take_take, Nat.min_eq_left hle]
theorem zero_row (w : World) : (zeroValue 38).run Try.prog w = .ok (.agg #[.int .u32 0, .int .u32 0]) w := by kernel_rfl
theorem run_clear_rows (w : World) (b o n c : Nat) (hn : 0 < n) (hc : ∀ j, j < n * 2 → (w.cell? ⟨b, o + j, none⟩).isSome = true) (hf : ∀ j, j < n * 2 → w.frozen? ⟨b, o + j, none⟩ = false) :
    ∃ vs, ∀ ty, (Builtin.clear_ #[33] ty #[.slice (some ⟨b, o, none⟩) n c]).run Try.prog w = .ok (.tuple #[]) (w.setCells b o vs) := by
  have hzl : (Builtin.zeroCells (Value.agg #[.int .u32 0, .int .u32 0]).cells n).toList.length = n * 2 := by simp [Builtin.zeroCells, Value.cells]
  have hz1 : ∀ v ∈ (Builtin.zeroCells (Value.agg #[.int .u32 0, .int .u32 0]).cells n).toList, v.oneCell' = true := by
    intro v hv
    simp only [Builtin.zeroCells, Value.cells, Array.toList_map, List.mem_map] at hv
    obtain ⟨i, -, rfl⟩ := hv
    rcases Nat.mod_two_eq_zero_or_one i with h | h <;> simp [h, Value.oneCell']
  refine ⟨(Builtin.zeroCells (Value.agg #[.int .u32 0, .int .u32 0]).cells n).toList, fun ty => ?_⟩
  have hst := run_storeCells_cells (P := Try.prog) b o (Builtin.zeroCells (Value.agg #[.int .u32 0, .int .u32 0]).cells n).toList 0 w (fun j hj => by rw [hzl] at hj; exact hc j hj) (fun j hj => by rw [hzl] at hj; exact hf j hj) hz1
  simp only [Nat.add_zero] at hst
  obtain ⟨m, rfl⟩ : ∃ m, n = m + 1 := ⟨n - 1, by omega⟩
  simp [Builtin.clear_, run_underlying Try.underlying33, hst]
/-- How two rows differ. -/
theorem row_ne {x y : RowI} (h : x ≠ y) : (x.1 == y.1) = false ∨ ((x.1 == y.1) = true ∧ (x.2 == y.2) = false) := by
  by_cases h1 : x.1 = y.1
  · refine .inr ⟨by simpa using h1, ?_⟩
    rw [beq_eq_false_iff_ne]
    exact fun h2 => h (Prod.ext h1 h2)
  · exact .inl (by simpa using h1)
theorem mid_at {α : Type} {C l : List α} {k i : Nat} {x : α} (hC : C.length = k) (hki : k ≤ i) (hx : l[i]? = some x) : (C ++ l.drop k)[i]? = some x := by
  rw [List.getElem?_append_right (by omega), List.getElem?_drop, hC, show k + (i - k) = i by omega]
  exact hx
theorem mid_set {α : Type} {C l : List α} {k : Nat} {y : α} (hC : C.length = k) (hk : k < l.length) : (C ++ l.drop k).set k y = (C ++ [y]) ++ l.drop (k + 1) := by
  subst hC
  rw [List.set_append_right _ _ (Nat.le_refl _), Nat.sub_self, List.drop_eq_getElem_cons hk, List.set_cons_zero]
  simp
theorem rowCells_set {l : List RowI} {k : Nat} {y : RowI} (hk : k < l.length) : ((rowCells l).set (k * 2) (.int .u32 y.1)).set (k * 2 + 1) (.int .u32 y.2) = rowCells (l.set k y) := by
  induction l generalizing k with
  | nil => simp at hk
  | cons x l ih =>
    cases k with
    | zero => rfl
    | succ k =>
      simp only [List.length_cons, Nat.add_lt_add_iff_right] at hk
      have := ih hk
      have e : rowCells (x :: l) = .int .u32 x.1 :: .int .u32 x.2 :: rowCells l := rfl
      have e2 : ∀ m, rowCells (x :: m) = .int .u32 x.1 :: .int .u32 x.2 :: rowCells m := fun _ => rfl
      rw [e, show (k + 1) * 2 = k * 2 + 1 + 1 by omega, List.set_cons_succ, List.set_cons_succ, List.set_cons_succ, List.set_cons_succ, this, List.set_cons_succ, e2]
theorem own_put {w : World} {base g n c k : Nat} {e : TypeId} {C l : List RowI} {y : RowI} (h : w.ownsRow base e 2 (.slice (some ⟨g, 0, none⟩) n c) n (rowCells (C ++ l.drop k))) (hC : C.length = k) (hk : k < l.length) :
    ((w.setCell ⟨g, k * 2, none⟩ (.int .u32 y.1)).setCell ⟨g, k * 2 + 1, none⟩ (.int .u32 y.2)).ownsRow base e 2 (.slice (some ⟨g, 0, none⟩) n c) n (rowCells ((C ++ [y]) ++ l.drop (k + 1))) := by
  have := own_set (own_set h (k * 2) (.int .u32 y.1)) (k * 2 + 1) (.int .u32 y.2)
  rw [rowCells_set (by simp; omega), mid_set hC hk] at this
  exact this
def CompPost (g c : Nat) (l : List RowI) (base : Nat) (w : World) (e : Ending) (w' : World) : Prop :=
  e = .returned (.slice (some ⟨g, 0, none⟩) (compL l).length c) ∧ w'.ownsRow base 38 2 (.slice (some ⟨g, 0, none⟩) (compL l).length c) (compL l).length (rowCells (compL l)) ∧ Only g w w'
set_option maxRecDepth 100000 in
set_option maxHeartbeats 16000000 in
theorem compact_any (g c : Nat) (l : List RowI) (w : World) (base : Nat) (h : w.ownsRow base 38 2 (.slice (some ⟨g, 0, none⟩) l.length c) l.length (rowCells l)) (hlen : l.length ≤ 1000000) (hnc : l.length ≤ c) (hcm : c ≤ maxLen) :
    Calls Try.prog 42 #[.slice (some ⟨g, 0, none⟩) l.length c] w (CompPost g c l base w) := by
  have HO0 := Lib.hid h
  have HGL := Lib.hid (show g < w.heap.size from (h.lt g rfl).2)
  clear h
  unfold maxLen at hcm
  generalize hn : l.length = n at *
  have HN := Lib.hid hn
  have hn1 : (n : Int) ≤ 1000000 := by omega
  have hc1 : (n : Int) ≤ (c : Int) := by omega
  clear hn
  by_cases hn2 : n < 2
  · have hn3 : (n : Int) < 2 := by omega
    have HCE := Lib.hid (show compL l = l by
      have := compL_all (l := l) l.length (Nat.le_refl _) (fun j x y hj => absurd hj (by have := HN.out; omega))
      rwa [List.take_length] at this)
    go_enter Try.func42, Try.ntmps42
    go_wp2
    go_ret
    unfold CompPost
    rw [HCE.out, HN.out]
    exact ⟨rfl, HO0.out, Only.refl _ _⟩
  · have hn3 : ¬ (n : Int) < 2 := by omega
    go_enter Try.func42, Try.ntmps42
    go_wp2
    go_loopw [3] (fun iv wr => ∃ p q : Nat, iv = .int .i64 ((p : Int) + 1) ∧ p + 1 ≤ n ∧ (∀ (j : Nat) (x y : RowI), j + 1 < p + 1 → l[j]? = some x → l[j + 1]? = some y → x ≠ y) ∧ wr = w.drewN q) (fun iv _ => (n + 2) - (Lib.intOf iv).toNat)
    case atStart => exact ⟨0, 0, rfl, by omega, fun j x y h => absurd h (by omega), rfl⟩
    case round =>
      obtain ⟨p, q, rfl, hp, hT, rfl⟩ := hrel
      have HT := Lib.hid hT
      clear hT
      have hs1 : IntKind.i64.wrap ((p : Int) + 1 - 1) = (p : Int) := by rw [IntKind.wrap_i64]; omega
      have hs2 : ((p : Int) + 1).toNat = p + 1 := by omega
      have hs3 : (0 : Int) ≤ (p : Int) + 1 := by omega
      by_cases hlt : p + 1 < n
      · obtain ⟨x, hx⟩ := at_lt (l := l) (p := p) (by have := HN.out; omega)
        obtain ⟨y, hy⟩ := at_lt (l := l) (p := p + 1) (by have := HN.out; omega)
        have hq : (p : Int) + 1 < (n : Int) := by omega
        have hs4 : (p : Int) < (n : Int) := by omega
        have r0 : w.cell? ⟨g, p * 2, none⟩ = some (.int .u32 x.1) := own_cell HO0.out _ _ (rowCells_at hx).1
        have r1 : w.cell? ⟨g, p * 2 + 1, none⟩ = some (.int .u32 x.2) := own_cell HO0.out _ _ (rowCells_at hx).2
        have r2 : w.cell? ⟨g, (p + 1) * 2, none⟩ = some (.int .u32 y.1) := own_cell HO0.out _ _ (rowCells_at hy).1
        have r3 : w.cell? ⟨g, (p + 1) * 2 + 1, none⟩ = some (.int .u32 y.2) := own_cell HO0.out _ _ (rowCells_at hy).2
        have HX := Lib.hid (And.intro hx hy)
        clear hx hy
        by_cases hxy : y = x
        · subst hxy
          have hz1 : (y.1 == y.1) = true := by simp
          have hz2 : (y.2 == y.2) = true := by simp
          have HC0 := Lib.hid (show compL (l.take (p + 2)) = l.take (p + 1) by
            rw [compL_step HX.out.1 HX.out.2, if_pos rfl]
            exact compL_all (p + 1) (by rw [HN.out]; omega) HT.out)
          go_upto_region 6 with (fail)
          go_quiet (fail)
          go_wp2
          go_loopw [3, 5] (fun kv jv wr => ∃ k j : Nat, kv = .int .i64 (k : Int) ∧ jv = .int .i64 ((j : Int) + 1) ∧ p + 2 + j ≤ n ∧ (compL (l.take (p + 2 + j))).length = k ∧ k ≤ p + 1 + j ∧ wr.ownsRow base 38 2 (.slice (some ⟨g, 0, none⟩) n c) n (rowCells (compL (l.take (p + 2 + j)) ++ l.drop k)) ∧ Only g w wr) (fun _ jv _ => (n + 2) - (Lib.intOf jv).toNat)
          case atStart =>
            refine ⟨p + 1, 0, by go_num, rfl, by omega, ?_, by omega, ?_, (Only.refl _ _).drewN _⟩
            · have := HN.out
              rw [show p + 2 + 0 = p + 2 from rfl, HC0.out, List.length_take]
              omega
            · rw [show p + 2 + 0 = p + 2 from rfl, HC0.out, List.take_append_drop]
              exact HO0.out
          case round =>
            obtain ⟨k, j, rfl, rfl, hj, hk, hkj, hO, hB⟩ := hrel
            have HK := Lib.hid hk
            have HO := Lib.hid hO
            have HB := Lib.hid hB
            clear hk hO hB
            have hj1 : IntKind.i64.wrap ((j : Int) + 1 - 1) = (j : Int) := by rw [IntKind.wrap_i64]; omega
            have hj2 : ((j : Int) + 1).toNat = j + 1 := by omega
            have hj3 : (0 : Int) ≤ (j : Int) + 1 := by omega
            have hkn : (k : Int) < (n : Int) := by omega
            by_cases hlt2 : p + 2 + j < n
            · obtain ⟨a, ha⟩ := at_lt (l := l) (p := p + 1 + j) (by have := HN.out; omega)
              obtain ⟨b, hb⟩ := at_lt (l := l) (p := p + 2 + j) (by have := HN.out; omega)
              have hq2 : (j : Int) + 1 < ((n - (p + 1) : Nat) : Int) := by omega
              have hq3 : (j : Int) < ((n - (p + 1) : Nat) : Int) := by omega
              have m1 := mid_at (C := compL (l.take (p + 2 + j))) HK.out (by omega) ha
              have m2 := mid_at (C := compL (l.take (p + 2 + j))) HK.out (by omega) hb
              have r4 : wr.cell? ⟨g, (p + 1) * 2 + j * 2, none⟩ = some (.int .u32 a.1) := by have := own_cell HO.out _ _ (rowCells_at m1).1; rw [← this]; congr 2; omega
              have r5 : wr.cell? ⟨g, (p + 1) * 2 + j * 2 + 1, none⟩ = some (.int .u32 a.2) := by have := own_cell HO.out _ _ (rowCells_at m1).2; rw [← this]; congr 2; omega
              have r6 : wr.cell? ⟨g, (p + 1) * 2 + (j + 1) * 2, none⟩ = some (.int .u32 b.1) := by have := own_cell HO.out _ _ (rowCells_at m2).1; rw [← this]; congr 2; omega
              have r7 : wr.cell? ⟨g, (p + 1) * 2 + (j + 1) * 2 + 1, none⟩ = some (.int .u32 b.2) := by have := own_cell HO.out _ _ (rowCells_at m2).2; rw [← this]; congr 2; omega
              have HST := Lib.hid (compL_step (j := p + 1 + j) ha (show l[p + 1 + j + 1]? = some b by rw [← hb]; congr 1; omega))
              clear m1 m2 ha hb
              by_cases hab : b = a
              · subst hab
                have hz3 : (b.1 == b.1) = true := by simp
                have hz4 : (b.2 == b.2) = true := by simp
                go_upto_region 11 with (fail)
                go_quiet (fail)
                go_wp2
                go_roundw
                case rel =>
                  have HE := HST.out
                  rw [if_pos rfl, show p + 1 + j + 1 = p + 2 + j by omega, show p + 1 + j + 2 = p + 2 + (j + 1) by omega] at HE
                  exact ⟨k, j + 1, rfl, by go_num, by omega, by rw [HE]; exact HK.out, by omega, by rw [HE]; exact HO.out, HB.out.drewN _⟩
                case measure => simp [Lib.intOf]; omega
              · have f0 : wr.frozen? ⟨g, k * 2, none⟩ = false := own_free HO.out _
                have f1 : wr.frozen? ⟨g, k * 2 + 1, none⟩ = false := own_free HO.out _
                obtain ⟨z, hz⟩ := at_lt (l := l) (p := k) (by have := HN.out; omega)
                have k0 : wr.cell? ⟨g, k * 2, none⟩ = some (.int .u32 z.1) := own_cell HO.out _ _ (rowCells_at (mid_at HK.out (Nat.le_refl k) hz)).1
                have k1 : wr.cell? ⟨g, k * 2 + 1, none⟩ = some (.int .u32 z.2) := own_cell HO.out _ _ (rowCells_at (mid_at HK.out (Nat.le_refl k) hz)).2
                have HPU := Lib.hid (own_put (y := b) HO.out HK.out (by have := HN.out; omega))
                clear hz
                rcases row_ne hab with hz3 | ⟨hz3, hz4⟩
                · have HNE := Lib.hid (fun e : a = b => hab e.symm)
                  clear hab
                  go_upto_region 11 with (fail)
                  go_quiet (fail)
                  go_wp2
                  go_roundw
                  case rel =>
                    have HE := HST.out
                    rw [if_neg HNE.out, show p + 1 + j + 1 = p + 2 + j by omega, show p + 1 + j + 2 = p + 2 + (j + 1) by omega] at HE
                    refine ⟨k + 1, j + 1, by go_num, by go_num, by omega, ?_, by omega, ?_, ?_⟩
                    · rw [HE, List.length_append, HK.out]; rfl
                    · rw [HE]; exact HPU.out
                    · exact (((HB.out.drewN nq).setCell (p := ⟨g, k * 2, none⟩) (.inl rfl) _).setCell (p := ⟨g, k * 2 + 1, none⟩) (.inl rfl) _)
                  case measure => simp [Lib.intOf]; omega
                · have HNE := Lib.hid (fun e : a = b => hab e.symm)
                  clear hab
                  go_upto_region 11 with (fail)
                  go_quiet (fail)
                  go_wp2
                  go_roundw
                  case rel =>
                    have HE := HST.out
                    rw [if_neg HNE.out, show p + 1 + j + 1 = p + 2 + j by omega, show p + 1 + j + 2 = p + 2 + (j + 1) by omega] at HE
                    refine ⟨k + 1, j + 1, by go_num, by go_num, by omega, ?_, by omega, ?_, ?_⟩
                    · rw [HE, List.length_append, HK.out]; rfl
                    · rw [HE]; exact HPU.out
                    · exact (((HB.out.drewN nq).setCell (p := ⟨g, k * 2, none⟩) (.inl rfl) _).setCell (p := ⟨g, k * 2 + 1, none⟩) (.inl rfl) _)
                  case measure => simp [Lib.intOf]; omega
            · obtain rfl : n = p + 2 + j := by omega
              have hq2 : ¬ (j : Int) + 1 < ((p + 2 + j - (p + 1) : Nat) : Int) := by omega
              have HKL := Lib.hid (show k ≤ p + 2 + j by omega)
              obtain ⟨vs, hcl⟩ := run_clear_rows wr g (k * 2) (p + 2 + j - k) (c - k) (by omega) (fun i hi => by
                  have h1 := (List.getElem?_eq_some_iff (l := rowCells (compL (l.take (p + 2 + j)) ++ l.drop k)) (i := k * 2 + i) (a := _)).2 ⟨by
                    rw [rowCells_len, List.length_append, HK.out, List.length_drop]
                    have := HN.out
                    omega, rfl⟩
                  rw [own_cell HO.out _ _ h1]
                  rfl) (fun i hi => own_free HO.out _)
              have HCL := Lib.hid (And.intro (own_setCells vs (k * 2) wr _ HO.out) (only_setCells vs (k * 2) w wr HB.out))
              go_wp2
              go_ret
              obtain ⟨xs', ho2, htk⟩ := HCL.out.1
              have HFIN : compL l = compL (l.take (p + 2 + j)) := by rw [List.take_of_length_le (by have := HN.out; omega)]
              unfold CompPost
              rw [HFIN, HK.out]
              refine ⟨rfl, ?_, HCL.out.2⟩
              have h3 := own_cut ho2 HKL.out
              rw [htk] at h3
              have h4 : (rowCells (compL (l.take (p + 2 + j)) ++ l.drop k)).take (k * 2) = rowCells (compL (l.take (p + 2 + j))) := by
                rw [rowCells_append, List.take_append_of_le_length (by rw [rowCells_len, HK.out]; exact Nat.le_refl _), List.take_of_length_le (by rw [rowCells_len, HK.out]; exact Nat.le_refl _)]
              rw [h4] at h3
              exact h3
        · rcases row_ne hxy with hz1 | ⟨hz1, hz2⟩
          · have HNE := Lib.hid (fun e : y = x => hxy e)
            clear hxy
            go_upto_region 6 with (fail)
            go_quiet (fail)
            go_wp2
            go_roundw
            case rel =>
              refine ⟨p + 1, q + nq, by go_num, by omega, fun j a b hj ha hb => ?_, rfl⟩
              rcases Nat.lt_or_ge (j + 1) (p + 1) with h | h
              · exact HT.out j a b h ha hb
              · obtain rfl : j = p := by omega
                rw [HX.out.1] at ha
                rw [HX.out.2] at hb
                cases ha
                cases hb
                exact fun e => HNE.out e.symm
            case measure => simp [Lib.intOf]; omega
          · have HNE := Lib.hid (fun e : y = x => hxy e)
            clear hxy
            go_upto_region 6 with (fail)
            go_quiet (fail)
            go_wp2
            go_roundw
            case rel =>
              refine ⟨p + 1, q + nq, by go_num, by omega, fun j a b hj ha hb => ?_, rfl⟩
              rcases Nat.lt_or_ge (j + 1) (p + 1) with h | h
              · exact HT.out j a b h ha hb
              · obtain rfl : j = p := by omega
                rw [HX.out.1] at ha
                rw [HX.out.2] at hb
                cases ha
                cases hb
                exact fun e => HNE.out e.symm
            case measure => simp [Lib.intOf]; omega
      · have hq : ¬ (p : Int) + 1 < (n : Int) := by omega
        have HCE := Lib.hid (show compL l = l by
          have := compL_all (l := l) l.length (Nat.le_refl _) (fun j x y hj => HT.out j x y (by have := HN.out; omega))
          rwa [List.take_length] at this)
        go_wp2
        go_ret
        unfold CompPost
        rw [HCE.out, HN.out]
        exact ⟨rfl, HO0.out, (Only.refl _ _).drewN q⟩
end Go.Proofs.Ytagekiaejhjpnaa
