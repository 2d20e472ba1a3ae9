/-
  The walks of the document's PutRow and Table. Condition: at most 1000000 rows.
-/
import Derived.Test.YtfpepdjffehbcaaGreatPoolCmpT
import Derived.Test.YtfpepdjffehbcaaGreatBlocks
import Derived.Laws.AppendOwn
import Derived.Laws.StructEq
import Derived.Test.YtfpepdjffehbcaaGreatRiseLaw
import Derived.Lib.SliceRun
import Derived.Test.YtfpepdjffehbcaaGreatPoolPool
import Derived.Test.YtfpepdjffehbcaaGreatSearchLay
import Derived.Test.YtfpepdjffehbcaaGreatSortRLay
set_option linter.unusedVariables false
set_option linter.unusedSimpArgs false
namespace Go.Proofs.YtfpepdjffehbcaaGreat
open Go.RowKit

abbrev ROW (w : World) (base : Nat) (v : Value) (l : List RowI) : Prop := w.ownsRow base 73 2 v l.length (rowCells l)
def PutRPost (t : List RowI) (r : RowI) (w : World) (e : Ending) (w' : World) : Prop := (∃ v out ok, e = .returned (.tuple #[v, .bool ok]) ∧ PutR t r out ok ∧ RowsR w' w'.heap.size v out) ∧ Below w.heap.size w w'
set_option maxHeartbeats 8000000 in
theorem putrow_any (v : Value) (l : List RowI) (s : RowI) (w : World) (h : RowsR w w.heap.size v l) (hrise : RiseL kl l) (hlen : l.length ≤ 1000000) :
    Calls Tryz.prog 72 #[v, .agg #[.int .u32 s.1, .int .u32 s.2]] w (PutRPost l s w) := by
  obtain ⟨A, c, rfl, hc, hm, hR⟩ := id h
  obtain ⟨W0, hW0⟩ : ∃ W0, w.alloc (.cells #[.int .u32 s.1, .int .u32 s.2] 73) = W0 := ⟨_, rfl⟩
  have HB0 := Lib.hid (show Below w.heap.size w W0 by rw [← hW0]; exact (Below.refl _ w).alloc (Nat.le_refl _) _)
  have HZ0 := Lib.hid (show W0.heap.size = w.heap.size + 1 by rw [← hW0]; simp)
  have HK0 := Lib.hid (show W0.cell? ⟨w.heap.size, 0, none⟩ = some (.int .u32 s.1) ∧ W0.cell? ⟨w.heap.size, 1, none⟩ = some (.int .u32 s.2) by rw [← hW0]; exact new_two w _ _ _)
  have HK := Lib.hid (show ∀ X, Below W0.heap.size W0 X → X.cell? ⟨w.heap.size, 0, none⟩ = some (.int .u32 s.1) ∧ X.cell? ⟨w.heap.size, 1, none⟩ = some (.int .u32 s.2) from fun X hb => by
    have hz := HZ0.out
    exact ⟨(hb.cell (p := ⟨w.heap.size, 0, none⟩) (by show w.heap.size < W0.heap.size; omega)).trans HK0.out.1, (hb.cell (p := ⟨w.heap.size, 1, none⟩) (by show w.heap.size < W0.heap.size; omega)).trans HK0.out.2⟩)
  have HT0 := Lib.hid h
  have HRI := Lib.hid hrise
  have HR := Lib.hid (show Reads W0 W0.heap.size 2 A l.length (rowCells l) from (hR.below HB0.out).more HB0.out.size)
  unfold maxLen at hm
  clear hR h hrise
  generalize hn : l.length = n at *
  have HN := Lib.hid hn
  have hn1 : (n : Int) ≤ 1000000 := by omega
  clear hn
  obtain ⟨i0, hi0, hz0, hz1, hz2⟩ := info_parts row_info
  go_enter Tryz.func72, Tryz.ntmps72
  go_wp2
  (try rw [hW0])
  clear hW0
  go_loopw [6, 7] (fun ov iv wr => ∃ p : Nat, iv = .int .i64 (p : Int) ∧ p ≤ n ∧ (∀ (j : Nat) (x : RowI), j < p → l[j]? = some x → x.1 < s.1) ∧ wr.ownsRow W0.heap.size 73 2 ov p (rowCells (l.take p)) ∧ Below W0.heap.size W0 wr) (fun _ iv _ => n - (Lib.intOf iv).toNat)
  case atStart => exact ⟨0, rfl, Nat.zero_le _, fun j x h => absurd h (by omega), World.ownsRow_nil _ _ _ _, Below.refl _ _⟩
  case round =>
    obtain ⟨p, rfl, hp, hT, hO, hB⟩ := hrel
    have HT := Lib.hid hT
    have HO := Lib.hid hO
    have HB := Lib.hid hB
    obtain ⟨k0, k1⟩ := HK.out _ hB
    clear hT hO hB
    by_cases hlt : p < n
    · obtain ⟨x, hx⟩ := at_lt (l := l) (p := p) (by have := HN.out; omega)
      have hq : (p : Int) < (n : Int) := by omega
      obtain ⟨b1, o1, rfl, hb1, hcl1⟩ := (HR.out.below HB.out).spot (by omega) (by omega)
      have r0 := hcl1 _ _ (rowCells_at hx).1
      have r1 : wr.cell? ⟨b1, o1 + p * 2 + 1, none⟩ = some (.int .u32 x.2) := hcl1 _ _ (rowCells_at hx).2
      have HX := Lib.hid hx
      clear hcl1 hx
      by_cases hb : x.1 < s.1
      · have HBL := Lib.hid hb
        have hb2 : decide (x.1 < s.1) = true := by simpa using hb
        clear hb
        go_wp2
        go_quiet (fail)
        have HO := Lib.hid (show (wr.drewN nq).ownsRow W0.heap.size 73 2 _ p (rowCells (l.take p)) from HO.out)
        have HB := Lib.hid (below_drewN HB.out nq)
        have r0 : (wr.drewN nq).cell? ⟨b1, o1 + p * 2, none⟩ = some (.int .u32 x.1) := r0
        have r1 : (wr.drewN nq).cell? ⟨b1, o1 + p * 2 + 1, none⟩ = some (.int .u32 x.2) := r1
        generalize wr.drewN nq = wq at *
        have HA := Lib.hid (And.intro (HO.out.alloc (.cells #[.int .u32 x.1, .int .u32 x.2] 73)) (And.intro (reads_new wq #[.int .u32 x.1, .int .u32 x.2] 73 2 1 rfl) (show W0.heap.size ≤ (wq.alloc (.cells #[.int .u32 x.1, .int .u32 x.2] 73)).heap.size by have := HB.out.size; simp; omega)))
        go_wp2_with (at_builtin; go_loud (refine wpList_append_any _ rfl (.tmp 22) (.tmp 27) _ rfl W0.heap.size 73 i0 _ 2 8 Tryz.underlying50 hi0 hz0 hz1 hz2 rfl (by omega) _ p (rowCells (l.take p)) rfl HA.out.1 (wq.heap.size + 1) (some ⟨wq.heap.size, 0, none⟩) 1 1 [.int .u32 x.1, .int .u32 x.2] rfl HA.out.2.1 (by simp [Value.oneCell']) (by simp only [maxLen]; omega) (by omega) HA.out.2.2 ?_); intro v3 w3 hown3 hg3 hat3; have HOW := Lib.hid hown3; have HG := Lib.hid hg3; clear hown3 hg3 hat3)
        go_roundw
        case rel =>
          refine ⟨p + 1, by go_num, hlt, fun j y hj hy => ?_, by rw [rows_take HX.out]; exact HOW.out, ?_⟩
          · rcases Nat.lt_or_ge j p with h | h
            · exact HT.out j y h hy
            · obtain rfl : j = p := by omega
              rw [HX.out] at hy
              cases hy
              exact HBL.out
          · exact (HB.out.alloc HB.out.size _).grown HG.out HA.out.2.2 (fun k hk => (HO.out.lt k hk).1)
        case measure => simp [Lib.intOf]; omega
      · have hb2 : decide (x.1 < s.1) = false := by simpa using hb
        have HPR := Lib.hid (putR_at HRI.out HT.out (show p ≤ l.length by rw [HN.out]; exact hp))
        by_cases he : x.1 = s.1
        · have he2 : (x.1 == s.1) = true := by simpa using he
          have HPX := Lib.hid (HPR.out.1 x HX.out he)
          by_cases hv : x.2 = s.2
          · have hv2 : (x.2 == s.2) = true := by simpa using hv
            have HEQ := Lib.hid (show decide (x = s) = true by simpa using Prod.ext he hv)
            rw [HEQ.out] at HPX
            clear hb he hv HPR
            go_wp2
            go_quiet (fail)
            go_wp2
            go_upto_region 6 with (fail)
            go_quiet (fail)
            go_upto_region 7 with (fail)
            go_quiet (fail)
            go_wp2
            go_ret2
            refine ⟨⟨_, _, _, rfl, HPX.out, ?_⟩, ?_⟩
            · exact HT0.out.on (HB0.out.trans ((below_drewN (below_drewN (below_drewN HB.out _) _) _).mono HB0.out.size))
            · exact HB0.out.trans ((below_drewN (below_drewN (below_drewN HB.out _) _) _).mono HB0.out.size)
          · have hv2 : (x.2 == s.2) = false := by simpa using hv
            have HEQ := Lib.hid (show decide (x = s) = false by rw [decide_eq_false_iff_not]; exact fun e => hv (by rw [e]))
            rw [HEQ.out] at HPX
            clear hb he hv HPR
            go_wp2
            go_quiet (fail)
            go_wp2
            go_upto_region 6 with (fail)
            go_quiet (fail)
            go_upto_region 7 with (fail)
            go_quiet (fail)
            go_wp2
            go_ret2
            refine ⟨⟨_, _, _, rfl, HPX.out, ?_⟩, ?_⟩
            · exact HT0.out.on (HB0.out.trans ((below_drewN (below_drewN (below_drewN HB.out _) _) _).mono HB0.out.size))
            · exact HB0.out.trans ((below_drewN (below_drewN (below_drewN HB.out _) _) _).mono HB0.out.size)
        · have he2 : (x.1 == s.1) = false := by simpa using he
          have HPO := Lib.hid (HPR.out.2 (fun y hy => by rw [HX.out] at hy; cases hy; omega))
          clear hb he HPR
          go_wp2
          go_quiet (fail)
          have k0 : (wr.drewN nq).cell? ⟨w.heap.size, 0, none⟩ = some (.int .u32 s.1) := k0
          have k1 : (wr.drewN nq).cell? ⟨w.heap.size, 1, none⟩ = some (.int .u32 s.2) := k1
          have r0 : (wr.drewN nq).cell? ⟨b1, o1 + p * 2, none⟩ = some (.int .u32 x.1) := r0
          have HO := Lib.hid (show (wr.drewN nq).ownsRow W0.heap.size 73 2 _ p (rowCells (l.take p)) from HO.out)
          have HB := Lib.hid (below_drewN HB.out nq)
          generalize wr.drewN nq = wa at *
          go_upto_region 6 with (fail)
          go_quiet (fail)
          have k0 : (wa.drewN nq).cell? ⟨w.heap.size, 0, none⟩ = some (.int .u32 s.1) := k0
          have k1 : (wa.drewN nq).cell? ⟨w.heap.size, 1, none⟩ = some (.int .u32 s.2) := k1
          have r0 : (wa.drewN nq).cell? ⟨b1, o1 + p * 2, none⟩ = some (.int .u32 x.1) := r0
          have HO := Lib.hid (show (wa.drewN nq).ownsRow W0.heap.size 73 2 _ p (rowCells (l.take p)) from HO.out)
          have HB := Lib.hid (below_drewN HB.out nq)
          generalize wa.drewN nq = wq at *
          have HA := Lib.hid (And.intro (HO.out.alloc (.cells #[.int .u32 s.1, .int .u32 s.2] 73)) (And.intro (reads_new wq #[.int .u32 s.1, .int .u32 s.2] 73 2 1 rfl) (show W0.heap.size ≤ (wq.alloc (.cells #[.int .u32 s.1, .int .u32 s.2] 73)).heap.size by have := HB.out.size; simp; omega)))
          have HMID := Lib.hid (put_midG (s := s) (show p ≤ l.length by rw [HN.out]; exact hp))
          have HTK := Lib.hid (show rowCells ((l.take p ++ s :: l.drop p).take (p + 1)) = rowCells (l.take p) ++ [.int .u32 s.1, .int .u32 s.2] by rw [HMID.out.2.1, rowCells_append]; rfl)
          go_wp2_with (at_builtin; go_loud (refine wpList_append_any _ rfl (.tmp 52) (.tmp 54) _ rfl W0.heap.size 73 i0 _ 2 8 Tryz.underlying50 hi0 hz0 hz1 hz2 rfl (by omega) _ p (rowCells (l.take p)) rfl HA.out.1 (wq.heap.size + 1) (some ⟨wq.heap.size, 0, none⟩) 1 1 [.int .u32 s.1, .int .u32 s.2] rfl HA.out.2.1 (by simp [Value.oneCell']) (by simp only [maxLen]; omega) (by omega) HA.out.2.2 ?_); intro v3 w3 hown3 hg3 hat3; have HOW := Lib.hid (HTK.out.symm.subst (motive := fun z => w3.ownsRow W0.heap.size 73 2 v3 (p + 1) z) hown3); have HB3 := Lib.hid (show Below W0.heap.size W0 w3 from (HB.out.alloc HB.out.size _).grown hg3 HA.out.2.2 (fun k hk => (HO.out.lt k hk).1)); clear hown3 hg3 hat3)
          clear HA HO HB HTK
          generalize l.take p ++ s :: l.drop p = m at *
          go_loopw [6, 7] (fun ov iv wr => ∃ j : Nat, iv = .int .i64 (j : Int) ∧ p ≤ j ∧ j ≤ n ∧ wr.ownsRow W0.heap.size 73 2 ov (j + 1) (rowCells (m.take (j + 1))) ∧ Below W0.heap.size W0 wr) (fun _ iv _ => n - (Lib.intOf iv).toNat)
          case atStart => exact ⟨p, rfl, Nat.le_refl _, by omega, HOW.out, HB3.out⟩
          case round =>
            obtain ⟨j, rfl, hpj, hj, hO, hB⟩ := hrel
            have HO := Lib.hid hO
            have HB := Lib.hid hB
            clear hO hB
            by_cases hlt2 : j < n
            · obtain ⟨y, hy⟩ := at_lt (l := l) (p := j) (by have := HN.out; omega)
              have hq2 : (j : Int) < (n : Int) := by omega
              have HMY := Lib.hid (HMID.out.2.2 j y hpj hy)
              obtain ⟨b2, o2, e2, hb2, hcl2⟩ := (HR.out.below HB.out).spot (by omega) (by omega)
              cases e2
              have r2 := hcl2 _ _ (rowCells_at hy).1
              have r3 : wr.cell? ⟨b1, o1 + j * 2 + 1, none⟩ = some (.int .u32 y.2) := hcl2 _ _ (rowCells_at hy).2
              clear hcl2 hy
              have HA := Lib.hid (And.intro (HO.out.alloc (.cells #[.int .u32 y.1, .int .u32 y.2] 73)) (And.intro (reads_new wr #[.int .u32 y.1, .int .u32 y.2] 73 2 1 rfl) (show W0.heap.size ≤ (wr.alloc (.cells #[.int .u32 y.1, .int .u32 y.2] 73)).heap.size by have := HB.out.size; simp; omega)))
              go_wp2_with (at_builtin; go_loud (refine wpList_append_any _ rfl (.tmp 60) (.tmp 65) _ rfl W0.heap.size 73 i0 _ 2 8 Tryz.underlying50 hi0 hz0 hz1 hz2 rfl (by omega) _ (j + 1) (rowCells (m.take (j + 1))) rfl HA.out.1 (wr.heap.size + 1) (some ⟨wr.heap.size, 0, none⟩) 1 1 [.int .u32 y.1, .int .u32 y.2] rfl HA.out.2.1 (by simp [Value.oneCell']) (by simp only [maxLen]; omega) (by omega) HA.out.2.2 ?_); intro v4 w4 hown3 hg3 hat3; have HOX := Lib.hid hown3; have HG := Lib.hid hg3; clear hown3 hg3 hat3)
              go_roundw
              case rel =>
                refine ⟨j + 1, by go_num, by omega, hlt2, by rw [rows_take HMY.out]; exact HOX.out, ?_⟩
                exact (HB.out.alloc HB.out.size _).grown HG.out HA.out.2.2 (fun k hk => (HO.out.lt k hk).1)
              case measure => simp [Lib.intOf]; omega
            · obtain rfl : j = n := by omega
              have hq2 : ¬ (j : Int) < (j : Int) := by omega
              have HZ := Lib.hid (show m.take (j + 1) = m from List.take_of_length_le (by rw [HMID.out.1, HN.out]; exact Nat.le_refl _))
              have HML := Lib.hid (show m.length = j + 1 by rw [HMID.out.1, HN.out])
              rw [HZ.out] at HO
              go_wp2
              go_ret2
              exact ⟨⟨_, _, _, rfl, HPO.out, rows_of_own (by rw [HML.out]; exact HO.out)⟩, HB0.out.trans (HB.out.mono HB0.out.size)⟩
    · obtain rfl : p = n := by omega
      have hq : ¬ (p : Int) < (p : Int) := by omega
      have HPO := Lib.hid ((putR_at (r := s) HRI.out HT.out (show p ≤ l.length by rw [HN.out]; exact hp)).2 (fun y hy => by rw [List.getElem?_eq_none (by rw [HN.out]; omega)] at hy; cases hy))
      go_wp2
      go_quiet (fail)
      have k0 : (wr.drewN nq).cell? ⟨w.heap.size, 0, none⟩ = some (.int .u32 s.1) := k0
      have k1 : (wr.drewN nq).cell? ⟨w.heap.size, 1, none⟩ = some (.int .u32 s.2) := k1
      have HOa := Lib.hid (show (wr.drewN nq).ownsRow W0.heap.size 73 2 _ p (rowCells (l.take p)) from HO.out)
      have HBa := Lib.hid (below_drewN HB.out nq)
      clear HO HB
      generalize wr.drewN nq = wa at *
      go_upto_region 6 with (fail)
      go_quiet (fail)
      have k0 : (wa.drewN nq).cell? ⟨w.heap.size, 0, none⟩ = some (.int .u32 s.1) := k0
      have k1 : (wa.drewN nq).cell? ⟨w.heap.size, 1, none⟩ = some (.int .u32 s.2) := k1
      have HO := Lib.hid (show (wa.drewN nq).ownsRow W0.heap.size 73 2 _ p (rowCells (l.take p)) from HOa.out)
      have HB := Lib.hid (below_drewN HBa.out nq)
      clear HOa HBa
      generalize wa.drewN nq = wq at *
      have HA := Lib.hid (And.intro (HO.out.alloc (.cells #[.int .u32 s.1, .int .u32 s.2] 73)) (And.intro (reads_new wq #[.int .u32 s.1, .int .u32 s.2] 73 2 1 rfl) (show W0.heap.size ≤ (wq.alloc (.cells #[.int .u32 s.1, .int .u32 s.2] 73)).heap.size by have := HB.out.size; simp; omega)))
      have HMID := Lib.hid (put_midG (s := s) (show p ≤ l.length by rw [HN.out]; exact hp))
      have HTK := Lib.hid (show rowCells ((l.take p ++ s :: l.drop p).take (p + 1)) = rowCells (l.take p) ++ [.int .u32 s.1, .int .u32 s.2] by rw [HMID.out.2.1, rowCells_append]; rfl)
      go_wp2_with (at_builtin; go_loud (refine wpList_append_any _ rfl (.tmp 52) (.tmp 54) _ rfl W0.heap.size 73 i0 _ 2 8 Tryz.underlying50 hi0 hz0 hz1 hz2 rfl (by omega) _ p (rowCells (l.take p)) rfl HA.out.1 (wq.heap.size + 1) (some ⟨wq.heap.size, 0, none⟩) 1 1 [.int .u32 s.1, .int .u32 s.2] rfl HA.out.2.1 (by simp [Value.oneCell']) (by simp only [maxLen]; omega) (by omega) HA.out.2.2 ?_); intro v3 w3 hown3 hg3 hat3; have HOW := Lib.hid (HTK.out.symm.subst (motive := fun z => w3.ownsRow W0.heap.size 73 2 v3 (p + 1) z) hown3); have HB3 := Lib.hid (show Below W0.heap.size W0 w3 from (HB.out.alloc HB.out.size _).grown hg3 HA.out.2.2 (fun k hk => (HO.out.lt k hk).1)); clear hown3 hg3 hat3)
      clear HA HO HB HTK
      generalize l.take p ++ s :: l.drop p = m at *
      go_loopw [6, 7] (fun ov iv wr => ∃ j : Nat, iv = .int .i64 (j : Int) ∧ p ≤ j ∧ j ≤ p ∧ wr.ownsRow W0.heap.size 73 2 ov (j + 1) (rowCells (m.take (j + 1))) ∧ Below W0.heap.size W0 wr) (fun _ iv _ => p - (Lib.intOf iv).toNat)
      case atStart => exact ⟨p, rfl, Nat.le_refl _, by omega, HOW.out, HB3.out⟩
      case round =>
        obtain ⟨j, rfl, hpj, hj, hO, hB⟩ := hrel
        have HO := Lib.hid hO
        have HB := Lib.hid hB
        clear hO hB
        by_cases hlt2 : j < p
        · exact absurd hlt2 (by omega)
        · obtain rfl : j = p := by omega
          have hq2 : ¬ (j : Int) < (j : Int) := by omega
          have HZ := Lib.hid (show m.take (j + 1) = m from List.take_of_length_le (by rw [HMID.out.1, HN.out]; exact Nat.le_refl _))
          have HML := Lib.hid (show m.length = j + 1 by rw [HMID.out.1, HN.out])
          rw [HZ.out] at HO
          go_wp2
          go_ret2
          exact ⟨⟨_, _, _, rfl, HPO.out, rows_of_own (by rw [HML.out]; exact HO.out)⟩, HB0.out.trans (HB.out.mono HB0.out.size)⟩

def RTabPost (rows : List RowI) (w : World) (e : Ending) (w' : World) : Prop := (∃ v, e = .returned (.tuple #[v, .bool (decide (RiseL kl (poolL rl rows)))]) ∧ (RiseL kl (poolL rl rows) → RowsR w' w'.heap.size v (poolL rl rows))) ∧ Below w.heap.size w w'
end Go.Proofs.YtfpepdjffehbcaaGreat
/-
  The walk of slices.Compact at rows. Condition: the row is of the caller's own, within the reach.
-/
set_option linter.unusedVariables false
set_option linter.unusedSimpArgs false
namespace Go.Proofs.YtfpepdjffehbcaaGreat
open Go.RowKit

theorem own_setCells {base : Nat} {e : TypeId} {size g n c : Nat} : ∀ (vs : List Value) (o : Nat) (w : World) (xs : List Value), w.ownsRow base e size (.slice (some ⟨g, 0, none⟩) n c) n xs →
    ∃ xs', (w.setCells g o vs).ownsRow base e size (.slice (some ⟨g, 0, none⟩) n c) n xs' ∧ xs'.take o = xs.take o
  | [], _, _, xs, h => ⟨xs, h, rfl⟩
  | v :: r, o, w, xs, h => by
    obtain ⟨xs', h1, h2⟩ := own_setCells r (o + 1) (w.setCell ⟨g, o, none⟩ v) (xs.set o v) (own_set h o v)
    refine ⟨xs', h1, ?_⟩
    have h3 := congrArg (List.take o) h2
    rw [List.take_take, List.take_take, Nat.min_eq_left (by omega)] at h3
    rw [h3, List.take_set_of_le (Nat.le_refl _)]
theorem only_setCells {g : Nat} : ∀ (vs : List Value) (o : Nat) (a w : World), Only g a w → Only g a (w.setCells g o vs)
  | [], _, _, _, h => h
  | v :: r, o, a, _, h => only_setCells r (o + 1) a _ (h.setCell (p := ⟨g, o, none⟩) (.inl rfl) v)
theorem own_cut {w : World} {base : Nat} {e : TypeId} {size g n c k : Nat} {xs : List Value} (h : w.ownsRow base e size (.slice (some ⟨g, 0, none⟩) n c) n xs) (hk : k ≤ n) : w.ownsRow base e size (.slice (some ⟨g, 0, none⟩) k c) k (xs.take (k * size)) := by
  obtain ⟨h1, h2⟩ := h
  have hle : k * size ≤ n * size := Nat.mul_le_mul_right _ hk
  refine ⟨by rw [List.length_take, h1]; exact Nat.min_eq_left hle, ?_⟩
  rcases h2 with ⟨h2, -⟩ | ⟨g', cap, cur, hv, hb, hh, hn, hm, hcs, hx⟩
  · cases h2
  · cases hv
    refine .inr ⟨g, c, cur, rfl, hb, hh, by omega, hm, hcs, ?_⟩
    rw [← hx, List.take_take, Nat.min_eq_left hle]
theorem zero_row (w : World) : (zeroValue 73).run Tryz.prog w = .ok (.agg #[.int .u32 0, .int .u32 0]) w := by kernel_rfl
theorem run_clear_rows (w : World) (b o n c : Nat) (hn : 0 < n) (hc : ∀ j, j < n * 2 → (w.cell? ⟨b, o + j, none⟩).isSome = true) (hf : ∀ j, j < n * 2 → w.frozen? ⟨b, o + j, none⟩ = false) :
    ∃ vs, ∀ ty, (Builtin.clear_ #[50] ty #[.slice (some ⟨b, o, none⟩) n c]).run Tryz.prog w = .ok (.tuple #[]) (w.setCells b o vs) := by
  have hzl : (Builtin.zeroCells (Value.agg #[.int .u32 0, .int .u32 0]).cells n).toList.length = n * 2 := by simp [Builtin.zeroCells, Value.cells]
  have hz1 : ∀ v ∈ (Builtin.zeroCells (Value.agg #[.int .u32 0, .int .u32 0]).cells n).toList, v.oneCell' = true := by
    intro v hv
    simp only [Builtin.zeroCells, Value.cells, Array.toList_map, List.mem_map] at hv
    obtain ⟨i, -, rfl⟩ := hv
    rcases Nat.mod_two_eq_zero_or_one i with h | h <;> simp [h, Value.oneCell']
  refine ⟨(Builtin.zeroCells (Value.agg #[.int .u32 0, .int .u32 0]).cells n).toList, fun ty => ?_⟩
  have hst := run_storeCells_cells (P := Tryz.prog) b o (Builtin.zeroCells (Value.agg #[.int .u32 0, .int .u32 0]).cells n).toList 0 w (fun j hj => by rw [hzl] at hj; exact hc j hj) (fun j hj => by rw [hzl] at hj; exact hf j hj) hz1
  simp only [Nat.add_zero] at hst
  obtain ⟨m, rfl⟩ : ∃ m, n = m + 1 := ⟨n - 1, by omega⟩
  simp [Builtin.clear_, run_underlying Tryz.underlying50, hst]
/-- How two rows differ. -/
theorem row_ne {x y : RowI} (h : x ≠ y) : (x.1 == y.1) = false ∨ ((x.1 == y.1) = true ∧ (x.2 == y.2) = false) := by
  by_cases h1 : x.1 = y.1
  · refine .inr ⟨by simpa using h1, ?_⟩
    rw [beq_eq_false_iff_ne]
    exact fun h2 => h (Prod.ext h1 h2)
  · exact .inl (by simpa using h1)
theorem mid_at {α : Type} {C l : List α} {k i : Nat} {x : α} (hC : C.length = k) (hki : k ≤ i) (hx : l[i]? = some x) : (C ++ l.drop k)[i]? = some x := by
  rw [List.getElem?_append_right (by omega), List.getElem?_drop, hC, show k + (i - k) = i by omega]
  exact hx
theorem mid_set {α : Type} {C l : List α} {k : Nat} {y : α} (hC : C.length = k) (hk : k < l.length) : (C ++ l.drop k).set k y = (C ++ [y]) ++ l.drop (k + 1) := by
  subst hC
  rw [List.set_append_right _ _ (Nat.le_refl _), Nat.sub_self, List.drop_eq_getElem_cons hk, List.set_cons_zero]
  simp
theorem rowCells_set {l : List RowI} {k : Nat} {y : RowI} (hk : k < l.length) : ((rowCells l).set (k * 2) (.int .u32 y.1)).set (k * 2 + 1) (.int .u32 y.2) = rowCells (l.set k y) := by
  induction l generalizing k with
  | nil => simp at hk
  | cons x l ih =>
    cases k with
    | zero => rfl
    | succ k =>
      simp only [List.length_cons, Nat.add_lt_add_iff_right] at hk
      have := ih hk
      have e : rowCells (x :: l) = .int .u32 x.1 :: .int .u32 x.2 :: rowCells l := rfl
      have e2 : ∀ m, rowCells (x :: m) = .int .u32 x.1 :: .int .u32 x.2 :: rowCells m := fun _ => rfl
      rw [e, show (k + 1) * 2 = k * 2 + 1 + 1 by omega, List.set_cons_succ, List.set_cons_succ, List.set_cons_succ, List.set_cons_succ, this, List.set_cons_succ, e2]
theorem own_put {w : World} {base g n c k : Nat} {e : TypeId} {C l : List RowI} {y : RowI} (h : w.ownsRow base e 2 (.slice (some ⟨g, 0, none⟩) n c) n (rowCells (C ++ l.drop k))) (hC : C.length = k) (hk : k < l.length) :
    ((w.setCell ⟨g, k * 2, none⟩ (.int .u32 y.1)).setCell ⟨g, k * 2 + 1, none⟩ (.int .u32 y.2)).ownsRow base e 2 (.slice (some ⟨g, 0, none⟩) n c) n (rowCells ((C ++ [y]) ++ l.drop (k + 1))) := by
  have := own_set (own_set h (k * 2) (.int .u32 y.1)) (k * 2 + 1) (.int .u32 y.2)
  rw [rowCells_set (by simp; omega), mid_set hC hk] at this
  exact this
def CompPost (g c : Nat) (l : List RowI) (base : Nat) (w : World) (e : Ending) (w' : World) : Prop :=
  e = .returned (.slice (some ⟨g, 0, none⟩) (compL l).length c) ∧ w'.ownsRow base 73 2 (.slice (some ⟨g, 0, none⟩) (compL l).length c) (compL l).length (rowCells (compL l)) ∧ Only g w w'
set_option maxRecDepth 100000 in
set_option maxHeartbeats 16000000 in
theorem compact_any (g c : Nat) (l : List RowI) (w : World) (base : Nat) (h : w.ownsRow base 73 2 (.slice (some ⟨g, 0, none⟩) l.length c) l.length (rowCells l)) (hlen : l.length ≤ 1000000) (hnc : l.length ≤ c) (hcm : c ≤ maxLen) :
    Calls Tryz.prog 84 #[.slice (some ⟨g, 0, none⟩) l.length c] w (CompPost g c l base w) := by
  have HO0 := Lib.hid h
  have HGL := Lib.hid (show g < w.heap.size from (h.lt g rfl).2)
  clear h
  unfold maxLen at hcm
  generalize hn : l.length = n at *
  have HN := Lib.hid hn
  have hn1 : (n : Int) ≤ 1000000 := by omega
  have hc1 : (n : Int) ≤ (c : Int) := by omega
  clear hn
  by_cases hn2 : n < 2
  · have hn3 : (n : Int) < 2 := by omega
    have HCE := Lib.hid (show compL l = l by
      have := compL_all (l := l) l.length (Nat.le_refl _) (fun j x y hj => absurd hj (by have := HN.out; omega))
      rwa [List.take_length] at this)
    go_enter Tryz.func84, Tryz.ntmps84
    go_wp2
    go_ret
    unfold CompPost
    rw [HCE.out, HN.out]
    exact ⟨rfl, HO0.out, Only.refl _ _⟩
  · have hn3 : ¬ (n : Int) < 2 := by omega
    go_enter Tryz.func84, Tryz.ntmps84
    go_wp2
    go_loopw [3] (fun iv wr => ∃ p q : Nat, iv = .int .i64 ((p : Int) + 1) ∧ p + 1 ≤ n ∧ (∀ (j : Nat) (x y : RowI), j + 1 < p + 1 → l[j]? = some x → l[j + 1]? = some y → x ≠ y) ∧ wr = w.drewN q) (fun iv _ => (n + 2) - (Lib.intOf iv).toNat)
    case atStart => exact ⟨0, 0, rfl, by omega, fun j x y h => absurd h (by omega), rfl⟩
    case round =>
      obtain ⟨p, q, rfl, hp, hT, rfl⟩ := hrel
      have HT := Lib.hid hT
      clear hT
      have hs1 : IntKind.i64.wrap ((p : Int) + 1 - 1) = (p : Int) := by rw [IntKind.wrap_i64]; omega
      have hs2 : ((p : Int) + 1).toNat = p + 1 := by omega
      have hs3 : (0 : Int) ≤ (p : Int) + 1 := by omega
      by_cases hlt : p + 1 < n
      · obtain ⟨x, hx⟩ := at_lt (l := l) (p := p) (by have := HN.out; omega)
        obtain ⟨y, hy⟩ := at_lt (l := l) (p := p + 1) (by have := HN.out; omega)
        have hq : (p : Int) + 1 < (n : Int) := by omega
        have hs4 : (p : Int) < (n : Int) := by omega
        have r0 : w.cell? ⟨g, p * 2, none⟩ = some (.int .u32 x.1) := own_cell HO0.out _ _ (rowCells_at hx).1
        have r1 : w.cell? ⟨g, p * 2 + 1, none⟩ = some (.int .u32 x.2) := own_cell HO0.out _ _ (rowCells_at hx).2
        have r2 : w.cell? ⟨g, (p + 1) * 2, none⟩ = some (.int .u32 y.1) := own_cell HO0.out _ _ (rowCells_at hy).1
        have r3 : w.cell? ⟨g, (p + 1) * 2 + 1, none⟩ = some (.int .u32 y.2) := own_cell HO0.out _ _ (rowCells_at hy).2
        have HX := Lib.hid (And.intro hx hy)
        clear hx hy
        by_cases hxy : y = x
        · subst hxy
          have hz1 : (y.1 == y.1) = true := by simp
          have hz2 : (y.2 == y.2) = true := by simp
          have HC0 := Lib.hid (show compL (l.take (p + 2)) = l.take (p + 1) by
            rw [compL_step HX.out.1 HX.out.2, if_pos rfl]
            exact compL_all (p + 1) (by rw [HN.out]; omega) HT.out)
          go_upto_region 6 with (fail)
          go_quiet (fail)
          go_wp2
          go_loopw [3, 5] (fun kv jv wr => ∃ k j : Nat, kv = .int .i64 (k : Int) ∧ jv = .int .i64 ((j : Int) + 1) ∧ p + 2 + j ≤ n ∧ (compL (l.take (p + 2 + j))).length = k ∧ k ≤ p + 1 + j ∧ wr.ownsRow base 73 2 (.slice (some ⟨g, 0, none⟩) n c) n (rowCells (compL (l.take (p + 2 + j)) ++ l.drop k)) ∧ Only g w wr) (fun _ jv _ => (n + 2) - (Lib.intOf jv).toNat)
          case atStart =>
            refine ⟨p + 1, 0, by go_num, rfl, by omega, ?_, by omega, ?_, (Only.refl _ _).drewN _⟩
            · have := HN.out
              rw [show p + 2 + 0 = p + 2 from rfl, HC0.out, List.length_take]
              omega
            · rw [show p + 2 + 0 = p + 2 from rfl, HC0.out, List.take_append_drop]
              exact HO0.out
          case round =>
            obtain ⟨k, j, rfl, rfl, hj, hk, hkj, hO, hB⟩ := hrel
            have HK := Lib.hid hk
            have HO := Lib.hid hO
            have HB := Lib.hid hB
            clear hk hO hB
            have hj1 : IntKind.i64.wrap ((j : Int) + 1 - 1) = (j : Int) := by rw [IntKind.wrap_i64]; omega
            have hj2 : ((j : Int) + 1).toNat = j + 1 := by omega
            have hj3 : (0 : Int) ≤ (j : Int) + 1 := by omega
            have hkn : (k : Int) < (n : Int) := by omega
            by_cases hlt2 : p + 2 + j < n
            · obtain ⟨a, ha⟩ := at_lt (l := l) (p := p + 1 + j) (by have := HN.out; omega)
              obtain ⟨b, hb⟩ := at_lt (l := l) (p := p + 2 + j) (by have := HN.out; omega)
              have hq2 : (j : Int) + 1 < ((n - (p + 1) : Nat) : Int) := by omega
              have hq3 : (j : Int) < ((n - (p + 1) : Nat) : Int) := by omega
              have m1 := mid_at (C := compL (l.take (p + 2 + j))) HK.out (by omega) ha
              have m2 := mid_at (C := compL (l.take (p + 2 + j))) HK.out (by omega) hb
              have r4 : wr.cell? ⟨g, (p + 1) * 2 + j * 2, none⟩ = some (.int .u32 a.1) := by have := own_cell HO.out _ _ (rowCells_at m1).1; rw [← this]; congr 2; omega
              have r5 : wr.cell? ⟨g, (p + 1) * 2 + j * 2 + 1, none⟩ = some (.int .u32 a.2) := by have := own_cell HO.out _ _ (rowCells_at m1).2; rw [← this]; congr 2; omega
              have r6 : wr.cell? ⟨g, (p + 1) * 2 + (j + 1) * 2, none⟩ = some (.int .u32 b.1) := by have := own_cell HO.out _ _ (rowCells_at m2).1; rw [← this]; congr 2; omega
              have r7 : wr.cell? ⟨g, (p + 1) * 2 + (j + 1) * 2 + 1, none⟩ = some (.int .u32 b.2) := by have := own_cell HO.out _ _ (rowCells_at m2).2; rw [← this]; congr 2; omega
              have HST := Lib.hid (compL_step (j := p + 1 + j) ha (show l[p + 1 + j + 1]? = some b by rw [← hb]; congr 1; omega))
              clear m1 m2 ha hb
              by_cases hab : b = a
              · subst hab
                have hz3 : (b.1 == b.1) = true := by simp
                have hz4 : (b.2 == b.2) = true := by simp
                go_upto_region 11 with (fail)
                go_quiet (fail)
                go_wp2
                go_roundw
                case rel =>
                  have HE := HST.out
                  rw [if_pos rfl, show p + 1 + j + 1 = p + 2 + j by omega, show p + 1 + j + 2 = p + 2 + (j + 1) by omega] at HE
                  exact ⟨k, j + 1, rfl, by go_num, by omega, by rw [HE]; exact HK.out, by omega, by rw [HE]; exact HO.out, HB.out.drewN _⟩
                case measure => simp [Lib.intOf]; omega
              · have f0 : wr.frozen? ⟨g, k * 2, none⟩ = false := own_free HO.out _
                have f1 : wr.frozen? ⟨g, k * 2 + 1, none⟩ = false := own_free HO.out _
                obtain ⟨z, hz⟩ := at_lt (l := l) (p := k) (by have := HN.out; omega)
                have k0 : wr.cell? ⟨g, k * 2, none⟩ = some (.int .u32 z.1) := own_cell HO.out _ _ (rowCells_at (mid_at HK.out (Nat.le_refl k) hz)).1
                have k1 : wr.cell? ⟨g, k * 2 + 1, none⟩ = some (.int .u32 z.2) := own_cell HO.out _ _ (rowCells_at (mid_at HK.out (Nat.le_refl k) hz)).2
                have HPU := Lib.hid (own_put (y := b) HO.out HK.out (by have := HN.out; omega))
                clear hz
                rcases row_ne hab with hz3 | ⟨hz3, hz4⟩
                · have HNE := Lib.hid (fun e : a = b => hab e.symm)
                  clear hab
                  go_upto_region 11 with (fail)
                  go_quiet (fail)
                  go_wp2
                  go_roundw
                  case rel =>
                    have HE := HST.out
                    rw [if_neg HNE.out, show p + 1 + j + 1 = p + 2 + j by omega, show p + 1 + j + 2 = p + 2 + (j + 1) by omega] at HE
                    refine ⟨k + 1, j + 1, by go_num, by go_num, by omega, ?_, by omega, ?_, ?_⟩
                    · rw [HE, List.length_append, HK.out]; rfl
                    · rw [HE]; exact HPU.out
                    · exact (((HB.out.drewN nq).setCell (p := ⟨g, k * 2, none⟩) (.inl rfl) _).setCell (p := ⟨g, k * 2 + 1, none⟩) (.inl rfl) _)
                  case measure => simp [Lib.intOf]; omega
                · have HNE := Lib.hid (fun e : a = b => hab e.symm)
                  clear hab
                  go_upto_region 11 with (fail)
                  go_quiet (fail)
                  go_wp2
                  go_roundw
                  case rel =>
                    have HE := HST.out
                    rw [if_neg HNE.out, show p + 1 + j + 1 = p + 2 + j by omega, show p + 1 + j + 2 = p + 2 + (j + 1) by omega] at HE
                    refine ⟨k + 1, j + 1, by go_num, by go_num, by omega, ?_, by omega, ?_, ?_⟩
                    · rw [HE, List.length_append, HK.out]; rfl
                    · rw [HE]; exact HPU.out
                    · exact (((HB.out.drewN nq).setCell (p := ⟨g, k * 2, none⟩) (.inl rfl) _).setCell (p := ⟨g, k * 2 + 1, none⟩) (.inl rfl) _)
                  case measure => simp [Lib.intOf]; omega
            · obtain rfl : n = p + 2 + j := by omega
              have hq2 : ¬ (j : Int) + 1 < ((p + 2 + j - (p + 1) : Nat) : Int) := by omega
              have HKL := Lib.hid (show k ≤ p + 2 + j by omega)
              obtain ⟨vs, hcl⟩ := run_clear_rows wr g (k * 2) (p + 2 + j - k) (c - k) (by omega) (fun i hi => by
                  have h1 := (List.getElem?_eq_some_iff (l := rowCells (compL (l.take (p + 2 + j)) ++ l.drop k)) (i := k * 2 + i) (a := _)).2 ⟨by
                    rw [rowCells_len, List.length_append, HK.out, List.length_drop]
                    have := HN.out
                    omega, rfl⟩
                  rw [own_cell HO.out _ _ h1]
                  rfl) (fun i hi => own_free HO.out _)
              have HCL := Lib.hid (And.intro (own_setCells vs (k * 2) wr _ HO.out) (only_setCells vs (k * 2) w wr HB.out))
              go_wp2
              go_ret
              obtain ⟨xs', ho2, htk⟩ := HCL.out.1
              have HFIN : compL l = compL (l.take (p + 2 + j)) := by rw [List.take_of_length_le (by have := HN.out; omega)]
              unfold CompPost
              rw [HFIN, HK.out]
              refine ⟨rfl, ?_, HCL.out.2⟩
              have h3 := own_cut ho2 HKL.out
              rw [htk] at h3
              have h4 : (rowCells (compL (l.take (p + 2 + j)) ++ l.drop k)).take (k * 2) = rowCells (compL (l.take (p + 2 + j))) := by
                rw [rowCells_append, List.take_append_of_le_length (by rw [rowCells_len, HK.out]; exact Nat.le_refl _), List.take_of_length_le (by rw [rowCells_len, HK.out]; exact Nat.le_refl _)]
              rw [h4] at h3
              exact h3
        · rcases row_ne hxy with hz1 | ⟨hz1, hz2⟩
          · have HNE := Lib.hid (fun e : y = x => hxy e)
            clear hxy
            go_upto_region 6 with (fail)
            go_quiet (fail)
            go_wp2
            go_roundw
            case rel =>
              refine ⟨p + 1, q + nq, by go_num, by omega, fun j a b hj ha hb => ?_, rfl⟩
              rcases Nat.lt_or_ge (j + 1) (p + 1) with h | h
              · exact HT.out j a b h ha hb
              · obtain rfl : j = p := by omega
                rw [HX.out.1] at ha
                rw [HX.out.2] at hb
                cases ha
                cases hb
                exact fun e => HNE.out e.symm
            case measure => simp [Lib.intOf]; omega
          · have HNE := Lib.hid (fun e : y = x => hxy e)
            clear hxy
            go_upto_region 6 with (fail)
            go_quiet (fail)
            go_wp2
            go_roundw
            case rel =>
              refine ⟨p + 1, q + nq, by go_num, by omega, fun j a b hj ha hb => ?_, rfl⟩
              rcases Nat.lt_or_ge (j + 1) (p + 1) with h | h
              · exact HT.out j a b h ha hb
              · obtain rfl : j = p := by omega
                rw [HX.out.1] at ha
                rw [HX.out.2] at hb
                cases ha
                cases hb
                exact fun e => HNE.out e.symm
            case measure => simp [Lib.intOf]; omega
      · have hq : ¬ (p : Int) + 1 < (n : Int) := by omega
        have HCE := Lib.hid (show compL l = l by
          have := compL_all (l := l) l.length (Nat.le_refl _) (fun j x y hj => HT.out j x y (by have := HN.out; omega))
          rwa [List.take_length] at this)
        go_wp2
        go_ret
        unfold CompPost
        rw [HCE.out, HN.out]
        exact ⟨rfl, HO0.out, (Only.refl _ _).drewN q⟩
end Go.Proofs.YtfpepdjffehbcaaGreat
/-
  The walk of pool.Find: the place of a text in a pool. Condition: the list is within the reach.
-/
set_option linter.unusedVariables false
set_option linter.unusedSimpArgs false
namespace Go.Proofs.YtfpepdjffehbcaaGreat
open Go.RowKit Go.Shelf Go.Sort

/-- What Find tells. -/
def FindT (l : List ByteArray) (s : ByteArray) (k e : Int) : Prop :=
  (¬ RiseL bl l ∧ k = 0 ∧ e = 2) ∨ (RiseL bl l ∧ s ∉ l ∧ k = 0 ∧ e = 4) ∨ (RiseL bl l ∧ e = 0 ∧ ∃ i : Nat, k = (i : Int) ∧ l[i]? = some s)
def FindPost (l : List ByteArray) (s : ByteArray) (w : World) (e : Ending) (w' : World) : Prop := (∃ k x, e = .returned (.tuple #[.int .i64 k, .int .i64 x]) ∧ FindT l s k x) ∧ Below w.heap.size w w'
end Go.Proofs.YtfpepdjffehbcaaGreat
/-
  The walk of the pool laws' wakes. No condition.
-/
set_option linter.unusedVariables false
set_option linter.unusedSimpArgs false
namespace Go.Proofs.YtfpepdjffehbcaaGreat
open Go.RowKit

theorem own_empty (w : World) (e : TypeId) (size : Nat) : (w.alloc (.cells #[] e)).ownsRow w.heap.size e size (.slice (some ⟨w.heap.size, 0, none⟩) 0 0) 0 [] :=
  ⟨by simp, .inr ⟨w.heap.size, 0, #[], rfl, Nat.le_refl _, heap_alloc_new w _, Nat.le_refl _, by simp [maxLen], by simp, by simp⟩⟩
theorem txts_new (w : World) (l : List ByteArray) (c : Nat) (hc : l.length ≤ c) (hm : c ≤ maxLen) : Txts (w.alloc (.cells (l.map Value.string).toArray 9)) (w.heap.size + 1) (.slice (some ⟨w.heap.size, 0, none⟩) l.length c) l :=
  ⟨_, c, rfl, hc, hm, by have := reads_new w (l.map Value.string).toArray 9 1 l.length (by simp); simpa using this⟩
theorem lists_new (w : World) (ls : List (Value × List ByteArray)) (h : ∀ x ∈ ls, Txts w w.heap.size x.1 x.2) : ListsT (w.alloc (.cells (ls.map (·.1)).toArray 40)) (some ⟨w.heap.size, 0, none⟩) ls := by
  refine ⟨?_, fun x hx => (h x hx).on ((Below.refl _ w).alloc (Nat.le_refl _) _)⟩
  have := reads_new w (ls.map (·.1)).toArray 40 1 ls.length (by simp)
  rw [World.size_alloc]
  simpa using this
def wkA : ByteArray := ⟨#[97]⟩
def wkB : ByteArray := ⟨#[98]⟩
theorem wk_rise : RiseL bl [⟨#[]⟩, wkA, wkB] := by
  have h1 : bl ⟨#[]⟩ wkA = true := by unfold bl; rw [Lib.toList_data, Lib.toList_data]; rfl
  have h2 : bl ⟨#[]⟩ wkB = true := by unfold bl; rw [Lib.toList_data, Lib.toList_data]; rfl
  have h3 : bl wkA wkB = true := by unfold bl; rw [Lib.toList_data, Lib.toList_data]; rfl
  simp [RiseL, h1, h2, h3]
theorem wk_pool : poolL bl ([wkB, wkA] ++ [wkA, ⟨#[]⟩]) = [⟨#[]⟩, wkA, wkB] := (poolL_eq blT wk_rise fun x => by
  simp only [List.cons_append, List.nil_append, List.mem_cons, List.mem_nil_iff, or_false]
  constructor
  · rintro (h | h | h) <;> simp [h]
  · rintro (h | h | h | h) <;> simp [h]).symm
theorem wk_find {k e : Int} (h : FindT [⟨#[]⟩, wkA, wkB] wkA k e) : k = 1 ∧ e = 0 := by
  rcases h with ⟨h, -⟩ | ⟨-, h, -⟩ | ⟨-, he, i, hk, hi⟩
  · exact absurd wk_rise h
  · exact absurd (by simp) h
  · have := rise_inj blT wk_rise hi (show [⟨#[]⟩, wkA, wkB][1]? = some wkA from rfl)
    exact ⟨by omega, he⟩
end Go.Proofs.YtfpepdjffehbcaaGreat
/-
  The walks of slices.Clone and slices.SortFunc at rows, and of the order that pool.Table sorts by. Condition: the rows are within the reach.
-/
set_option linter.unusedVariables false
set_option linter.unusedSimpArgs false
namespace Go.Proofs.YtfpepdjffehbcaaGreat
open Go.RowKit Go.Shelf Go.Lib Go.Sort

abbrev rA (r : RowI) : Value := .int .u32 r.1
abbrev rB (r : RowI) : Value := .int .u32 r.2
theorem rows_cells (l : List RowI) : rowCells l = cells2 rA rB l := rfl
theorem own_some {w : World} {base k : Nat} {e : TypeId} {size n : Nat} {v : Value} {xs : List Value} (h : w.ownsRow base e size v n xs) (hk : v.ownBlock = some k) : ∃ c, v = .slice (some ⟨k, 0, none⟩) n c ∧ n ≤ c ∧ c ≤ maxLen := by
  rcases h.2 with ⟨rfl, -⟩ | ⟨g, c, cur, rfl, -, -, h1, h2, -⟩
  · simp [Value.ownBlock] at hk
  · simp only [Value.ownBlock, Option.some.injEq] at hk
    subst hk
    exact ⟨c, rfl, h1, h2⟩
theorem swo_of {α : Type} {lt : α → α → Bool} (T : TotalLt lt) : SWO lt where
  irrefl := T.irr
  trans := T.tr
  ntrans x y z h1 h2 := by
    cases h : lt x z
    · rfl
    · cases h3 : lt y x
      · have e := T.conn _ _ h1 h3
        rw [e] at h
        rw [h] at h2
        exact h2
      · have := T.tr _ _ _ h3 h
        rw [this] at h2
        cases h2
def ClonePost (l : List RowI) (w : World) (e : Ending) (w' : World) : Prop := (∃ v, e = .returned v ∧ w'.ownsRow w.heap.size 73 2 v l.length (rowCells l)) ∧ Below w.heap.size w w'
set_option maxRecDepth 100000 in
set_option maxHeartbeats 4000000 in
theorem clone_some (a : Addr) (c : Nat) (l : List RowI) (w : World) (h : RowsR w w.heap.size (.slice (some a) l.length c) l) (hlen : l.length * 8 ≤ 140737488351232) :
    Calls Tryz.prog 80 #[.slice (some a) l.length c] w fun e w' => (∃ g c', e = .returned (.slice (some ⟨g, 0, none⟩) l.length c') ∧ w'.ownsRow w.heap.size 73 2 (.slice (some ⟨g, 0, none⟩) l.length c') l.length (rowCells l) ∧ l.length ≤ c' ∧ c' ≤ maxLen) ∧ Below w.heap.size w w' := by
  obtain ⟨A', c', e, hc, hm, hR⟩ := h
  cases e
  have HR := Lib.hid (hR.alloc (Nat.le_refl _) (.cells #[] 73))
  have HE1 := Lib.hid (own_empty w 73 2)
  have HB1 := Lib.hid ((Below.refl _ w).alloc (Nat.le_refl _) (.cells #[] 73))
  have HRC := Lib.hid (rowCells_one (l := l))
  obtain ⟨i0, hi0, hz0, hz1, hz2⟩ := info_parts row_info
  clear hR hc hm
  have heq := fun W => Lib.run_eql_slice_nil (P := Tryz.prog) W 50 73 (some a) l.length c 0 0 Tryz.underlying50
  go_enter Tryz.func80, Tryz.ntmps80
  go_wp2_with (at_builtin; go_loud (refine wpList_append_any _ rfl (.tmp 5) (.tmp 6) _ rfl w.heap.size 73 i0 _ 2 8 Tryz.underlying50 hi0 hz0 hz1 hz2 rfl (by omega) _ 0 [] rfl HE1.out w.heap.size (some a) l.length c (rowCells l) rfl HR.out HRC.out (by simp only [maxLen]; omega) (by omega) (by simp) ?_); intro v3 w3 hown3 hg3 hat3; have HO3 := Lib.hid (show w3.ownsRow w.heap.size 73 2 v3 l.length (rowCells l) from by simpa using hown3); have HB3 := Lib.hid (HB1.out.grown hg3 (by simp) (fun g hg => (HE1.out.lt g hg).1)); have HAT := Lib.hid (show ∃ k, v3.ownBlock = some k from hat3.elim (fun e => ⟨_, e⟩) (fun e => ⟨_, e⟩)); clear hown3 hg3 hat3)
  go_ret
  obtain ⟨k, hk⟩ := HAT.out
  obtain ⟨c3, rfl, h1, h2⟩ := own_some HO3.out hk
  exact ⟨⟨k, c3, rfl, HO3.out, h1, h2⟩, HB3.out⟩
set_option maxHeartbeats 4000000 in
theorem clone_any (v : Value) (l : List RowI) (w : World) (h : RowsR w w.heap.size v l) (hlen : l.length * 8 ≤ 140737488351232) :
    Calls Tryz.prog 80 #[v] w (ClonePost l w) := by
  obtain ⟨A, c, rfl, hc, hm, hR⟩ := id h
  cases A with
  | some a => exact (clone_some a c l w h hlen).mono fun e w' ⟨⟨g, c', he, ho, _, _⟩, hb⟩ => ⟨⟨_, he, ho⟩, hb⟩
  | none =>
    have hl : l = [] := by
      rcases Nat.eq_zero_or_pos l.length with h0 | h0
      · exact List.length_eq_zero_iff.1 h0
      · obtain ⟨a, ha, -⟩ := hR.2 h0
        cases ha
    subst hl
    clear hR h hc hm
    have heq := fun W => Lib.run_eql_slice_nil (P := Tryz.prog) W 50 73 none 0 c 0 0 Tryz.underlying50
    go_enter Tryz.func80, Tryz.ntmps80
    go_wp2
    go_ret
    exact ⟨⟨_, rfl, World.ownsRow_nil _ _ _ _⟩, Below.refl _ _⟩
theorem row_new (w : World) (x : RowI) : RowsR (w.alloc (.cells #[.int .u32 x.1, .int .u32 x.2] 73)) (w.heap.size + 1) (.slice (some ⟨w.heap.size, 0, none⟩) 1 1) [x] :=
  ⟨_, 1, rfl, by simp, by simp [maxLen], reads_new w #[.int .u32 x.1, .int .u32 x.2] 73 2 1 rfl⟩
set_option maxHeartbeats 4000000 in
theorem tcmp_any (x y : RowI) (w : World) : Calls Tryz.prog 82 #[.agg #[.int .u32 x.1, .int .u32 x.2], .agg #[.int .u32 y.1, .int .u32 y.2]] w fun e w' => e = .returned (.int .i64 (cmpR x y)) ∧ Grew w w' := by
  obtain ⟨W0, hW0⟩ : ∃ W0, (w.alloc (.cells #[.int .u32 x.1, .int .u32 x.2] 73)).alloc (.cells #[.int .u32 y.1, .int .u32 y.2] 73) = W0 := ⟨_, rfl⟩
  have hG : Grew w W0 := by rw [← hW0]; exact ((Grew.refl w).alloc _).alloc _
  have hz : W0.heap.size = w.heap.size + 2 := by rw [← hW0]; simp
  have k0 : W0.cell? ⟨w.heap.size, 0, none⟩ = some (.int .u32 x.1) := by rw [← hW0]; exact ((Blk.new w _ _).alloc _).cell 0
  have k1 : W0.cell? ⟨w.heap.size, 1, none⟩ = some (.int .u32 x.2) := by rw [← hW0]; exact ((Blk.new w _ _).alloc _).cell 1
  have k2 : W0.cell? ⟨w.heap.size + 1, 0, none⟩ = some (.int .u32 y.1) := by
    rw [← hW0]
    simp
  have k3 : W0.cell? ⟨w.heap.size + 1, 1, none⟩ = some (.int .u32 y.2) := by
    rw [← hW0]
    simp
  have b0 : w.heap.size < W0.heap.size := by omega
  have b1 : w.heap.size + 1 < W0.heap.size := by omega
  have b2 : w.heap.size < W0.heap.size + 1 := by omega
  have b3 : w.heap.size + 1 < W0.heap.size + 1 := by omega
  have HG := Lib.hid hG
  have HC := Lib.hid (show Calls Tryz.prog 83 #[.slice (some ⟨W0.heap.size, 0, none⟩) 1 1, .slice (some ⟨W0.heap.size + 1, 0, none⟩) 1 1] ((W0.alloc (.cells #[.int .u32 x.1, .int .u32 x.2] 73)).alloc (.cells #[.int .u32 y.1, .int .u32 y.2] 73)) (fun e w' => e = .returned (.int .i64 (cmpR x y)) ∧ Grew ((W0.alloc (.cells #[.int .u32 x.1, .int .u32 x.2] 73)).alloc (.cells #[.int .u32 y.1, .int .u32 y.2] 73)) w') from by
    have h1 : RowsR ((W0.alloc (.cells #[.int .u32 x.1, .int .u32 x.2] 73)).alloc (.cells #[.int .u32 y.1, .int .u32 y.2] 73)) (W0.heap.size + 1 + 1) (.slice (some ⟨W0.heap.size, 0, none⟩) 1 1) [x] :=
      ((row_new W0 x).below ((Below.refl _ _).alloc (by simp) _)).more (by omega)
    have h2 := row_new (W0.alloc (.cells #[.int .u32 x.1, .int .u32 x.2] 73)) y
    rw [World.size_alloc] at h2
    have h3 : ((W0.alloc (.cells #[.int .u32 x.1, .int .u32 x.2] 73)).alloc (.cells #[.int .u32 y.1, .int .u32 y.2] 73)).heap.size = W0.heap.size + 1 + 1 := by simp
    have h4 := pcompare_any _ _ [x] [y] _ (by rw [h3]; exact h1) (by rw [h3]; exact h2)
    have h5 : cmpT [x] [y] = cmpR x y := by
      rw [cmpT_cons]
      by_cases e : x = y
      · rw [if_pos e, e, cmpR_self, cmpT_self]
      · rw [if_neg e]
    refine h4.mono fun e w' ⟨he, hg⟩ => ⟨by rw [he, h5], hg⟩)
  clear hz hG
  go_enter Tryz.func82, Tryz.ntmps82
  go_upto_region 1 with (fail)
  (try rw [hW0])
  clear hW0
  go_wp2_with (go_at_call 83; go_loud (refine HC.out.mono ?_; rintro e wt ⟨rfl, hgt⟩; have HGT := Lib.hid (((HG.out.alloc _).alloc _).trans hgt); clear hgt))
  go_ret
  exact ⟨rfl, HGT.out⟩
theorem sortrows_any (g c : Nat) (d : Array RowI) (w : World) (hH : HoldsK (fun k => [rA k, rB k]) 2 w g 0 d) (hg : g < w.heap.size) (hd : d.size ≤ 1000000) :
    Calls Tryz.prog 81 #[.slice (some ⟨g, 0, none⟩) d.size c, .func (.func 82) #[] #[]] w fun e w' => e = .returned (.tuple #[]) ∧
      ∃ d' n os, PermIn 0 d.size d d' ∧ SortedIn rl 0 d.size d' ∧ w' = sortWorldK (fun k : RowI => [rA k, rB k]) 2 w g 0 n d' os := by
  have hlt : (ltOf fun x y : RowI => cmpR x y) = rl := by
    funext x y
    exact cmpR_neg
  have eg : ∀ args w, (callFunc 82 args).run Tryz.prog w = .ok (.enter 82 args) w := enters_of Tryz.func82 (by kernel_rfl) rfl
  have hcon := AnyQ.slices_SortFunc sortR 2 Tryz.isAgg73 Tryz.sizeOf73 (fun k : RowI => [rA k, rB k]) (fun _ => rfl) (fun x v hv => by simp at hv; rcases hv with rfl | rfl <;> rfl) (fun x y : RowI => cmpR x y)
    (by rw [hlt]; exact swo_of rlT) 82 #[] g 0 c d w eg (fun _ _ _ _ x y => tcmp_any x y _) hH hg (by omega)
  rw [hlt] at hcon
  exact hcon
/-- pool.Table's sort. -/
theorem tsort_any (g c : Nat) (l : List RowI) (w : World) (base : Nat) (h : w.ownsRow base 73 2 (.slice (some ⟨g, 0, none⟩) l.length c) l.length (rowCells l)) (hlen : l.length ≤ 1000000) :
    Calls Tryz.prog 81 #[.slice (some ⟨g, 0, none⟩) l.length c, .func (.func 82) #[] #[]] w fun e w' => e = .returned (.tuple #[]) ∧
      (∃ l' : List RowI, l'.length = l.length ∧ (∀ x, x ∈ l' ↔ x ∈ l) ∧ SortedR l' ∧ w'.ownsRow base 73 2 (.slice (some ⟨g, 0, none⟩) l.length c) l.length (rowCells l')) ∧ Only g w w' := by
  have hsz : l.toArray.size = l.length := by simp
  have hH : HoldsK (fun k => [rA k, rB k]) 2 w g 0 l.toArray := by
    rcases Nat.eq_zero_or_pos l.length with h0 | h0
    · intro j hj
      simp [h0] at hj
    · exact (own_holds (d := l.toArray) (a := rA) (b := rB) (base := base) (c := c) (by rw [hsz]; exact h) (by rw [hsz]; exact h0)).1
  have hc := sortrows_any g c l.toArray w hH (h.lt g rfl).2 (by rw [hsz]; exact hlen)
  rw [hsz] at hc
  refine hc.mono fun e w' ⟨he, d', n, os, hp, hs, hw⟩ => ?_
  subst hw
  obtain ⟨h1, h2⟩ := permIn_perm l.toArray d' (by rw [hsz]; exact hp)
  refine ⟨he, ⟨d'.toList, by rw [Array.length_toList, h2, hsz], fun x => h1.mem_iff, sortedIn_pairwise rl d' (by rw [h2, hsz]; exact hs), ?_⟩, sortWorldK_grown _ _ _ _ _ _ _⟩
  exact own_sorted h (by rw [h2, hsz]) n os
end Go.Proofs.YtfpepdjffehbcaaGreat
/-
  The walk of pool.Table. Condition: at most 1000000 rows.
-/
set_option linter.unusedVariables false
set_option linter.unusedSimpArgs false
namespace Go.Proofs.YtfpepdjffehbcaaGreat
open Go.RowKit

def PTabPost (rows : List RowI) (w : World) (e : Ending) (w' : World) : Prop :=
  ((RiseL kl (poolL rl rows) ∧ ∃ v, e = .returned (.tuple #[v, .int .i64 0]) ∧ w'.ownsRow w.heap.size 73 2 v (poolL rl rows).length (rowCells (poolL rl rows))) ∨ (¬ RiseL kl (poolL rl rows) ∧ e = .returned (.tuple #[.slice none 0 0, .int .i64 5]))) ∧ Below w.heap.size w w'
theorem ptab_mk {rows t : List RowI} {w w' : World} {e : Ending} (h : poolL rl rows = t) (hx : ((RiseL kl t ∧ ∃ v, e = .returned (.tuple #[v, .int .i64 0]) ∧ w'.ownsRow w.heap.size 73 2 v t.length (rowCells t)) ∨ (¬ RiseL kl t ∧ e = .returned (.tuple #[.slice none 0 0, .int .i64 5]))) ∧ Below w.heap.size w w') : PTabPost rows w e w' := by
  subst h
  exact hx
set_option maxHeartbeats 8000000 in
theorem ptable_any (a : Addr) (c : Nat) (l : List RowI) (w : World) (h : RowsR w w.heap.size (.slice (some a) l.length c) l) (hlen : l.length ≤ 1000000) :
    Calls Tryz.prog 64 #[.slice (some a) l.length c] w (PTabPost l w) := by
  have HC := Lib.hid (clone_some a c l w h (by omega))
  generalize hn : l.length = n at *
  have HN := Lib.hid hn
  have hn1 : (n : Int) ≤ 1000000 := by omega
  clear hn h
  go_enter Tryz.func64, Tryz.ntmps64
  go_upto_region 2 with (go_at_call 80; go_loud (refine HC.out.mono ?_; rintro e w1 ⟨⟨g, c1, rfl, ho, hc1, hm1⟩, hb⟩; have HO1 := Lib.hid ho; have HB1 := Lib.hid hb; clear ho hb))
  have HTS := Lib.hid (tsort_any g c1 l w1 w.heap.size (by rw [HN.out]; exact HO1.out) (by rw [HN.out]; exact hlen))
  rw [HN.out] at HTS
  go_upto_region 3 with (go_at_call 81; go_loud (refine HTS.out.mono ?_; rintro e w2 ⟨rfl, ⟨l2, hl2, hm2, hs2, ho2⟩, hg2⟩; have HL2 := Lib.hid hl2; have HM2 := Lib.hid hm2; have HS2 := Lib.hid hs2; have HO2 := Lib.hid ho2; have HG2 := Lib.hid hg2; clear hl2 hm2 hs2 ho2 hg2))
  have HCM := Lib.hid (compact_any g c1 l2 w2 w.heap.size (by rw [HL2.out]; exact HO2.out) (by rw [HL2.out]; exact hlen) (by rw [HL2.out]; exact hc1) hm1)
  rw [HL2.out] at HCM
  have HCP := Lib.hid (comp_pool (l := l) HS2.out HM2.out)
  unfold CompPost at HCM
  rw [HCP.out] at HCM
  clear HTS HCP
  have HRR := Lib.hid (poolL_rise rlT l)
  have hpl : (poolL rl l).length ≤ 1000000 := by have := poolL_len (lt := rl) l; have := HN.out; omega
  generalize hpt : poolL rl l = t at *
  have HPT := Lib.hid hpt
  clear hpt
  generalize ht : t.length = m at *
  have HT := Lib.hid ht
  clear ht
  go_upto_region 4 with (go_at_call 84; go_loud (refine HCM.out.mono ?_; rintro e w3 ⟨rfl, ho3, hg3⟩; have HO3 := Lib.hid ho3; have HG3 := Lib.hid hg3; clear ho3 hg3))
  have hm3 : (m : Int) ≤ 1000000 := by omega
  have HB3 := Lib.hid (show Below w.heap.size w w3 from (HB1.out.grown HG2.out HB1.out.size (fun k hk => by cases hk; exact (HO1.out.lt g rfl).1)).grown HG3.out (by have h1 := HB1.out.size; have h2 := HG2.out.size; omega) (fun k hk => by cases hk; exact (HO1.out.lt g rfl).1))
  go_wp2
  go_loopw [5] (fun iv wr => ∃ p q : Nat, iv = .int .i64 ((p : Int) + 1) ∧ p ≤ m ∧ (∀ (j : Nat) (x y : RowI), j + 1 < p + 1 → t[j]? = some x → t[j + 1]? = some y → x.1 ≠ y.1) ∧ wr = w3.drewN q) (fun iv _ => (m + 2) - (Lib.intOf iv).toNat)
  case atStart => exact ⟨0, 0, rfl, by omega, fun j x y h => absurd h (by omega), rfl⟩
  case round =>
    obtain ⟨p, q, rfl, hp, hT, rfl⟩ := hrel
    have HAD := Lib.hid hT
    clear hT
    have hs1 : IntKind.i64.wrap ((p : Int) + 1 - 1) = (p : Int) := by rw [IntKind.wrap_i64]; omega
    have hs2 : ((p : Int) + 1).toNat = p + 1 := by omega
    have hs3 : (0 : Int) ≤ (p : Int) + 1 := by omega
    by_cases hlt : p + 1 < m
    · obtain ⟨x, hx⟩ := at_lt (l := t) (p := p) (by have := HT.out; omega)
      obtain ⟨y, hy⟩ := at_lt (l := t) (p := p + 1) (by have := HT.out; omega)
      have hq : (p : Int) + 1 < (m : Int) := by omega
      have hs4 : (p : Int) < (m : Int) := by omega
      have r0 : w3.cell? ⟨g, p * 2, none⟩ = some (.int .u32 x.1) := own_cell HO3.out _ _ (rowCells_at hx).1
      have r1 : w3.cell? ⟨g, p * 2 + 1, none⟩ = some (.int .u32 x.2) := own_cell HO3.out _ _ (rowCells_at hx).2
      have r2 : w3.cell? ⟨g, (p + 1) * 2, none⟩ = some (.int .u32 y.1) := own_cell HO3.out _ _ (rowCells_at hy).1
      have r3 : w3.cell? ⟨g, (p + 1) * 2 + 1, none⟩ = some (.int .u32 y.2) := own_cell HO3.out _ _ (rowCells_at hy).2
      have HX := Lib.hid (And.intro hx hy)
      have HLT := Lib.hid (rl_iff.1 (rise_at HRR.out hx hy (by omega)))
      clear hx hy
      by_cases hxy : x.1 = y.1
      · have hz1 : (x.1 == y.1) = true := by simpa using hxy
        have hz2 : (x.2 == y.2) = false := by have := HLT.out; rw [beq_eq_false_iff_ne]; omega
        have HNO := Lib.hid (show ¬ RiseL kl t from fun h => by
          have := rise_at h HX.out.1 HX.out.2 (by omega)
          simp only [kl, decide_eq_true_eq] at this
          omega)
        clear hxy
        go_upto_region 7 with (fail)
        go_quiet (fail)
        go_wp2
        go_ret2
        exact ptab_mk HPT.out ⟨.inr ⟨HNO.out, rfl⟩, below_drewN (below_drewN HB3.out _) _⟩
      · have hz1 : (x.1 == y.1) = false := by simpa using hxy
        have HNE := Lib.hid (fun e : x.1 = y.1 => hxy e)
        clear hxy
        go_upto_region 7 with (fail)
        go_quiet (fail)
        go_wp2
        go_roundw
        case rel =>
          refine ⟨p + 1, q + nq, by go_num, by omega, fun j a b hj ha hb => ?_, rfl⟩
          rcases Nat.lt_or_ge (j + 1) (p + 1) with h | h
          · exact HAD.out j a b h ha hb
          · obtain rfl : j = p := by omega
            rw [HX.out.1] at ha
            rw [HX.out.2] at hb
            cases ha
            cases hb
            exact HNE.out
        case measure => simp [Lib.intOf]; omega
    · have hq : ¬ (p : Int) + 1 < (m : Int) := by omega
      have HRK := Lib.hid (kl_of_adj HRR.out (fun j x y hx hy => by
        have h1 := (List.getElem?_eq_some_iff.1 hy).1
        have := HT.out
        exact HAD.out j x y (by omega) hx hy))
      go_wp2
      go_ret2
      have HO4 := own_cut HO3.out (Nat.le_refl m)
      exact ptab_mk HPT.out ⟨.inl ⟨HRK.out, _, rfl, (by rw [HT.out]; exact HO3.out)⟩, below_drewN HB3.out q⟩
/-- .. where the rows are a table: the row that comes back is the call's own. -/
theorem ptable_own (a : Addr) (c : Nat) (l : List RowI) (w : World) (h : RowsR w w.heap.size (.slice (some a) l.length c) l) (hlen : l.length ≤ 1000000) (hr : RiseL kl (poolL rl l)) :
    Calls Tryz.prog 64 #[.slice (some a) l.length c] w fun e w' => (∃ v, e = .returned (.tuple #[v, .int .i64 0]) ∧ w'.ownsRow w.heap.size 73 2 v (poolL rl l).length (rowCells (poolL rl l))) ∧ Below w.heap.size w w' :=
  (ptable_any a c l w h hlen).mono fun _ _ ⟨hc, hb⟩ => ⟨hc.elim (fun h => h.2) (fun h => absurd hr h.1), hb⟩
theorem ptable_ok (a : Addr) (c : Nat) (l : List RowI) (w : World) (h : RowsR w w.heap.size (.slice (some a) l.length c) l) (hlen : l.length ≤ 1000000) (hr : RiseL kl (poolL rl l)) :
    Calls Tryz.prog 64 #[.slice (some a) l.length c] w fun e w' => (∃ v, e = .returned (.tuple #[v, .int .i64 0]) ∧ RowsR w' w'.heap.size v (poolL rl l)) ∧ Below w.heap.size w w' :=
  (ptable_any a c l w h hlen).mono fun _ _ ⟨hc, hb⟩ => ⟨hc.elim (fun ⟨_, v, e, ho⟩ => ⟨v, e, rows_of_own ho⟩) (fun h => absurd hr h.1), hb⟩
theorem ptable_no (a : Addr) (c : Nat) (l : List RowI) (w : World) (h : RowsR w w.heap.size (.slice (some a) l.length c) l) (hlen : l.length ≤ 1000000) (hr : ¬ RiseL kl (poolL rl l)) :
    Calls Tryz.prog 64 #[.slice (some a) l.length c] w fun e w' => e = .returned (.tuple #[.slice none 0 0, .int .i64 5]) ∧ Below w.heap.size w w' :=
  (ptable_any a c l w h hlen).mono fun _ _ ⟨hc, hb⟩ => ⟨hc.elim (fun h => absurd h.1 hr) (fun h => h.2), hb⟩
end Go.Proofs.YtfpepdjffehbcaaGreat
