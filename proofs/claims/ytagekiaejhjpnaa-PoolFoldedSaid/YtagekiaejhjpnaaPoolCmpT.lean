/-
  The walks of slices.CompareFunc at tables, pool.Compare, the document's Compare. Condition: the tables are within the reach.
-/
import Derived.Test.YtagekiaejhjpnaaPoolCmp
import Derived.Laws.StructEq
namespace Go.Proofs.Ytagekiaejhjpnaa
open Go.RowKit

def CmpPost (a b : List RowI) (w : World) (e : Ending) (w' : World) : Prop := e = .returned (.int .i64 (cmpT a b)) ∧ Grew w w'
set_option maxHeartbeats 4000000 in
theorem comparefunc_any (v1 v2 : Value) (l m : List RowI) (w : World) (h1 : RowsR w w.heap.size v1 l) (h2 : RowsR w w.heap.size v2 m) :
    Calls Try.prog 32 #[v1, v2, .func (.func 33) #[] #[]] w (CmpPost l m w) := by
  obtain ⟨A1, c1, rfl, hc1, hm1, hR1⟩ := h1
  obtain ⟨A2, c2, rfl, hc2, hm2, hR2⟩ := h2
  have HR1 := Lib.hid hR1
  have HR2 := Lib.hid hR2
  unfold maxLen at hm1 hm2
  have hn1 : (l.length : Int) ≤ 9223372036854775807 := by omega
  have hn2 : (m.length : Int) ≤ 9223372036854775807 := by omega
  have HC1 := Lib.hid (fun x y W => compare1_any x y W)
  clear hR1 hR2 hc1 hc2
  go_enter Try.func32, Try.ntmps32
  go_wp2
  go_loopw [13] (fun iv wr => ∃ p : Nat, iv = .int .i64 (p : Int) ∧ p ≤ l.length ∧ l.take p = m.take p ∧ Grew w wr ∧ p ≤ m.length) (fun iv _ => l.length - (Lib.intOf iv).toNat)
  case atStart => exact ⟨0, rfl, Nat.zero_le _, by simp, Grew.refl _, Nat.zero_le _⟩
  case round =>
    obtain ⟨p, rfl, hp, hT, hG, hpm⟩ := hrel
    have HT := Lib.hid hT
    have HG := Lib.hid hG
    clear hT hG
    by_cases hlt : p < l.length
    · have hq : (p : Int) < (l.length : Int) := by omega
      obtain ⟨x, hx⟩ := at_lt hlt
      obtain ⟨b1, o1, rfl, hb1, hcl1⟩ := (HR1.out.below HG.out.below).spot (by omega) (by omega)
      have r0 := hcl1 _ _ (rowCells_at hx).1
      have r1 : wr.cell? ⟨b1, o1 + p * 2 + 1, none⟩ = some (.int .u32 x.2) := hcl1 _ _ (rowCells_at hx).2
      have hb1w : b1 < wr.heap.size := Nat.lt_of_lt_of_le hb1 HG.out.below.size
      have HX := Lib.hid hx
      clear hcl1 hx
      by_cases hlm : p < m.length
      · have hq2 : ¬ (m.length : Int) ≤ (p : Int) := by omega
        have hq4 : (p : Int) < (m.length : Int) := by omega
        have hq3 : decide ((m.length : Int) ≤ (p : Int)) = false := by simpa using hq4
        obtain ⟨y, hy⟩ := at_lt hlm
        obtain ⟨b2, o2, rfl, hb2, hcl2⟩ := (HR2.out.below HG.out.below).spot (by omega) (by omega)
        have r2 := hcl2 _ _ (rowCells_at hy).1
        have r3 : wr.cell? ⟨b2, o2 + p * 2 + 1, none⟩ = some (.int .u32 y.2) := hcl2 _ _ (rowCells_at hy).2
        have hb2w : b2 < wr.heap.size := Nat.lt_of_lt_of_le hb2 HG.out.below.size
        have HY := Lib.hid hy
        clear hcl2 hy
        by_cases he : x = y
        · subst he
          have HZ := Lib.hid (cmpR_self x)
          have hz : (cmpR x x == 0) = true := by simp [cmpR_self]
          go_wp2_with (go_at_call 33; go_loud (refine (HC1.out x x _).mono ?_; rintro e w1 ⟨rfl, hg1⟩; rw [HZ.out]; have HG1 := Lib.hid (((HG.out.alloc _).alloc _).trans hg1); clear hg1))
          go_roundw
          case rel => exact ⟨p + 1, by go_num, hlt, by rw [List.take_add_one, List.take_add_one, HT.out, HX.out, HY.out], HG1.out, hlm⟩
          case measure => simp [Lib.intOf]; omega
        · have HZ := Lib.hid (cmpT_at HT.out HX.out HY.out he)
          have hz : (cmpR x y == 0) = false := by
            rw [beq_eq_false_iff_ne]
            exact fun e => he (cmpR_zero.1 e)
          have hz2 : ¬ cmpR x y = 0 := by simpa using hz
          go_wp2_with (go_at_call 33; go_loud (refine (HC1.out x y _).mono ?_; rintro e w1 ⟨rfl, hg1⟩; have HG1 := Lib.hid (((HG.out.alloc _).alloc _).trans hg1); clear hg1))
          go_ret
          exact ⟨by rw [HZ.out]; rfl, HG1.out⟩
      · have hq2 : (m.length : Int) ≤ (p : Int) := by omega
        have hq3 : decide ((m.length : Int) ≤ (p : Int)) = true := by simpa using hq2
        have HZ := Lib.hid (cmpT_short HT.out (by omega) hlt)
        go_wp2
        go_ret
        exact ⟨by rw [HZ.out]; rfl, HG.out.alloc _⟩
    · obtain rfl : p = l.length := by omega
      have hq : ¬ (l.length : Int) < (l.length : Int) := by omega
      by_cases hlm : l.length < m.length
      · have hq2 : (l.length : Int) < (m.length : Int) := by omega
        have HZ := Lib.hid (cmpT_long HT.out (Nat.le_refl _) hlm)
        go_wp2
        go_ret
        exact ⟨by rw [HZ.out]; rfl, HG.out⟩
      · have hq2 : ¬ (l.length : Int) < (m.length : Int) := by omega
        have HZ := Lib.hid (show cmpT l m = 0 from cmpT_zero.2 (by
          have := HT.out
          rwa [List.take_length, List.take_of_length_le (by omega)] at this))
        go_wp2
        go_ret
        exact ⟨by rw [HZ.out]; rfl, HG.out⟩
theorem pcompare_any (v1 v2 : Value) (l m : List RowI) (w : World) (h1 : RowsR w w.heap.size v1 l) (h2 : RowsR w w.heap.size v2 m) :
    Calls Try.prog 20 #[v1, v2] w (CmpPost l m w) := by
  have HC := Lib.hid (comparefunc_any v1 v2 l m w h1 h2)
  clear h1 h2
  go_enter Try.func20, Try.ntmps20
  go_wp2_with (go_at_call 32; go_loud (refine HC.out.mono ?_; rintro e w1 ⟨rfl, hg1⟩))
  go_ret
  exact ⟨rfl, hg1⟩
set_option maxHeartbeats 8000000 in
theorem refcompare_any (v1 v2 : Value) (l m : List RowI) (w : World) (h1 : RowsR w w.heap.size v1 l) (h2 : RowsR w w.heap.size v2 m) :
    Calls Try.prog 21 #[v1, v2] w (QPost (fun r => r = .int .i64 (cmpT l m)) w) := by
  obtain ⟨A1, c1, rfl, hc1, hm1, hR1⟩ := h1
  obtain ⟨A2, c2, rfl, hc2, hm2, hR2⟩ := h2
  have HR1 := Lib.hid hR1
  have HR2 := Lib.hid hR2
  unfold maxLen at hm1 hm2
  have hn1 : (l.length : Int) ≤ 9223372036854775807 := by omega
  have hn2 : (m.length : Int) ≤ 9223372036854775807 := by omega
  clear hR1 hR2 hc1 hc2
  go_enter Try.func21, Try.ntmps21
  go_wp2
  go_loopw [5] (fun iv wr => ∃ p q : Nat, iv = .int .i64 (p : Int) ∧ p ≤ l.length ∧ l.take p = m.take p ∧ wr = w.drewN q ∧ p ≤ m.length) (fun iv _ => l.length - (Lib.intOf iv).toNat)
  case atStart => exact ⟨0, 0, rfl, Nat.zero_le _, by simp, rfl, Nat.zero_le _⟩
  case round =>
    obtain ⟨p, q, rfl, hp, hT, rfl, hpm⟩ := hrel
    have HT := Lib.hid hT
    clear hT
    by_cases hlt : p < l.length
    · have hq : (p : Int) < (l.length : Int) := by omega
      by_cases hlm : p < m.length
      · have hq4 : (p : Int) < (m.length : Int) := by omega
        obtain ⟨x, hx⟩ := at_lt hlt
        obtain ⟨y, hy⟩ := at_lt hlm
        obtain ⟨b1, o1, rfl, hb1, hcl1⟩ := HR1.out.spot (by omega) (by omega)
        obtain ⟨b2, o2, rfl, hb2, hcl2⟩ := HR2.out.spot (by omega) (by omega)
        have r0 := hcl1 _ _ (rowCells_at hx).1
        have r1 : w.cell? ⟨b1, o1 + p * 2 + 1, none⟩ = some (.int .u32 x.2) := hcl1 _ _ (rowCells_at hx).2
        have r2 := hcl2 _ _ (rowCells_at hy).1
        have r3 : w.cell? ⟨b2, o2 + p * 2 + 1, none⟩ = some (.int .u32 y.2) := hcl2 _ _ (rowCells_at hy).2
        have HX := Lib.hid hx
        have HY := Lib.hid hy
        clear hcl1 hcl2 hx hy
        by_cases h1 : x.1 < y.1
        · have HZ := Lib.hid (show cmpT l m = -1 by rw [cmpT_at HT.out HX.out HY.out (fun e => by rw [e] at h1; omega)]; unfold cmpR; rw [if_pos (rl_iff.2 (.inl h1))])
          have h1b : decide (x.1 < y.1) = true := by simpa using h1
          go_upto_region 4 with (fail)
          go_quiet (fail)
          go_wp2
          go_ret
          exact ⟨_, q + nq, rfl, (show Value.int .i64 (-1) = _ from by rw [HZ.out]), by rw [World.drewN_drewN]⟩
        · have h1b : decide (x.1 < y.1) = false := by simpa using h1
          by_cases h2 : x.1 = y.1
          · have h2b : (x.1 == y.1) = true := by simpa using h2
            by_cases h3 : x.2 < y.2
            · have HZ := Lib.hid (show cmpT l m = -1 by rw [cmpT_at HT.out HX.out HY.out (fun e => by rw [e] at h3; omega)]; unfold cmpR; rw [if_pos (rl_iff.2 (.inr ⟨h2, h3⟩))])
              have h3b : decide (x.2 < y.2) = true := by simpa using h3
              clear h1 h2
              go_upto_region 4 with (fail)
              go_quiet (fail)
              go_wp2
              go_ret
              exact ⟨_, q + nq, rfl, (show Value.int .i64 (-1) = _ from by rw [HZ.out]), by rw [World.drewN_drewN]⟩
            · have h3b : decide (x.2 < y.2) = false := by simpa using h3
              by_cases h4 : x.2 = y.2
              · obtain rfl : x = y := Prod.ext h2 h4
                clear h1 h2 h3 h4
                have h5 : (x.2 == x.2) = true := by simp
                go_upto_region 4 with (fail)
                go_quiet (fail)
                go_upto_region 6 with (fail)
                go_quiet (fail)
                go_wp2
                exact ⟨⟨p + 1, _, by go_num, hlt, by rw [List.take_add_one, List.take_add_one, HT.out, HX.out, HY.out], rfl, hlm⟩, by simp only [Lib.intOf]; omega⟩
              · have h4b : (x.2 == y.2) = false := by simpa using h4
                have HZ := Lib.hid (show cmpT l m = 1 by rw [cmpT_at HT.out HX.out HY.out (fun e => by rw [e] at h4; omega)]; unfold cmpR; rw [if_neg (by rw [rl_iff]; omega), if_neg (fun e => by rw [e] at h4; omega)])
                clear h1 h2 h3
                go_upto_region 4 with (fail)
                go_quiet (fail)
                go_upto_region 6 with (fail)
                go_quiet (fail)
                go_wp2
                go_ret
                exact ⟨_, _, rfl, (show Value.int .i64 1 = _ from by rw [HZ.out]), by simp only [World.drewN_drewN]; rfl⟩
          · have h2b : (x.1 == y.1) = false := by simpa using h2
            have HZ := Lib.hid (show cmpT l m = 1 by rw [cmpT_at HT.out HX.out HY.out (fun e => by rw [e] at h2; omega)]; unfold cmpR; rw [if_neg (by rw [rl_iff]; omega), if_neg (fun e => by rw [e] at h2; omega)])
            clear h1
            go_upto_region 4 with (fail)
            go_quiet (fail)
            go_upto_region 6 with (fail)
            go_quiet (fail)
            go_wp2
            go_ret
            exact ⟨_, _, rfl, (show Value.int .i64 1 = _ from by rw [HZ.out]), by simp only [World.drewN_drewN]; rfl⟩
      · obtain rfl : p = m.length := by omega
        have hq2 : ¬ (m.length : Int) < (m.length : Int) := by omega
        have hq5 : ¬ (l.length : Int) < (m.length : Int) := by omega
        have HZ := Lib.hid (cmpT_short HT.out (Nat.le_refl _) hlt)
        go_wp2
        go_ret
        exact ⟨_, q, rfl, (show Value.int .i64 1 = _ from by rw [HZ.out]), rfl⟩
    · obtain rfl : p = l.length := by omega
      have hq : ¬ (l.length : Int) < (l.length : Int) := by omega
      by_cases hlm : l.length < m.length
      · have hq2 : (l.length : Int) < (m.length : Int) := by omega
        have HZ := Lib.hid (cmpT_long HT.out (Nat.le_refl _) hlm)
        go_wp2
        go_ret
        exact ⟨_, q, rfl, (show Value.int .i64 (-1) = _ from by rw [HZ.out]), rfl⟩
      · have hq2 : ¬ (l.length : Int) < (m.length : Int) := by omega
        have hq3 : ¬ (m.length : Int) < (l.length : Int) := by omega
        have HZ := Lib.hid (show cmpT l m = 0 from cmpT_zero.2 (by
          have := HT.out
          rwa [List.take_length, List.take_of_length_le (by omega)] at this))
        go_wp2
        go_ret
        exact ⟨_, q, rfl, (show Value.int .i64 0 = _ from by rw [HZ.out]), rfl⟩
end Go.Proofs.Ytagekiaejhjpnaa
