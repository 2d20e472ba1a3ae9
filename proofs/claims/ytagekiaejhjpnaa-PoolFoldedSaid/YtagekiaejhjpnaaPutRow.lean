/-
  The walks of the document's PutRow and Table. Condition: at most 1000000 rows.
-/
import Derived.Test.YtagekiaejhjpnaaTabLaw
import Derived.Test.YtagekiaejhjpnaaPoolRows
import Derived.Test.YtagekiaejhjpnaaPoolCmp
import Derived.Test.YtagekiaejhjpnaaAppend
import Derived.Laws.AppendOwn
import Derived.Laws.StructEq
namespace Go.Proofs.Ytagekiaejhjpnaa
open Go.RowKit

abbrev ROW (w : World) (base : Nat) (v : Value) (l : List RowI) : Prop := w.ownsRow base 38 2 v l.length (rowCells l)
def PutRPost (t : List RowI) (r : RowI) (w : World) (e : Ending) (w' : World) : Prop := (∃ v out ok, e = .returned (.tuple #[v, .bool ok]) ∧ PutR t r out ok ∧ RowsR w' w'.heap.size v out) ∧ Below w.heap.size w w'
set_option maxHeartbeats 8000000 in
theorem putrow_any (v : Value) (l : List RowI) (s : RowI) (w : World) (h : RowsR w w.heap.size v l) (hrise : RiseL kl l) (hlen : l.length ≤ 1000000) :
    Calls Try.prog 43 #[v, .agg #[.int .u32 s.1, .int .u32 s.2]] w (PutRPost l s w) := by
  obtain ⟨A, c, rfl, hc, hm, hR⟩ := id h
  obtain ⟨W0, hW0⟩ : ∃ W0, w.alloc (.cells #[.int .u32 s.1, .int .u32 s.2] 38) = W0 := ⟨_, rfl⟩
  have HB0 := Lib.hid (show Below w.heap.size w W0 by rw [← hW0]; exact (Below.refl _ w).alloc (Nat.le_refl _) _)
  have HZ0 := Lib.hid (show W0.heap.size = w.heap.size + 1 by rw [← hW0]; simp)
  have HK0 := Lib.hid (show W0.cell? ⟨w.heap.size, 0, none⟩ = some (.int .u32 s.1) ∧ W0.cell? ⟨w.heap.size, 1, none⟩ = some (.int .u32 s.2) by rw [← hW0]; exact new_two w _ _ _)
  have HK := Lib.hid (show ∀ X, Below W0.heap.size W0 X → X.cell? ⟨w.heap.size, 0, none⟩ = some (.int .u32 s.1) ∧ X.cell? ⟨w.heap.size, 1, none⟩ = some (.int .u32 s.2) from fun X hb => by
    have hz := HZ0.out
    exact ⟨(hb.cell (p := ⟨w.heap.size, 0, none⟩) (by show w.heap.size < W0.heap.size; omega)).trans HK0.out.1, (hb.cell (p := ⟨w.heap.size, 1, none⟩) (by show w.heap.size < W0.heap.size; omega)).trans HK0.out.2⟩)
  have HT0 := Lib.hid h
  have HRI := Lib.hid hrise
  have HR := Lib.hid (show Reads W0 W0.heap.size 2 A l.length (rowCells l) from (hR.below HB0.out).more HB0.out.size)
  unfold maxLen at hm
  clear hR h hrise
  generalize hn : l.length = n at *
  have HN := Lib.hid hn
  have hn1 : (n : Int) ≤ 1000000 := by omega
  clear hn
  obtain ⟨i0, hi0, hz0, hz1, hz2⟩ := info_parts row_info
  go_enter Try.func43, Try.ntmps43
  go_wp2
  (try rw [hW0])
  clear hW0
  go_loopw [6, 7] (fun ov iv wr => ∃ p : Nat, iv = .int .i64 (p : Int) ∧ p ≤ n ∧ (∀ (j : Nat) (x : RowI), j < p → l[j]? = some x → x.1 < s.1) ∧ wr.ownsRow W0.heap.size 38 2 ov p (rowCells (l.take p)) ∧ Below W0.heap.size W0 wr) (fun _ iv _ => n - (Lib.intOf iv).toNat)
  case atStart => exact ⟨0, rfl, Nat.zero_le _, fun j x h => absurd h (by omega), World.ownsRow_nil _ _ _ _, Below.refl _ _⟩
  case round =>
    obtain ⟨p, rfl, hp, hT, hO, hB⟩ := hrel
    have HT := Lib.hid hT
    have HO := Lib.hid hO
    have HB := Lib.hid hB
    obtain ⟨k0, k1⟩ := HK.out _ hB
    clear hT hO hB
    by_cases hlt : p < n
    · obtain ⟨x, hx⟩ := at_lt (l := l) (p := p) (by have := HN.out; omega)
      have hq : (p : Int) < (n : Int) := by omega
      obtain ⟨b1, o1, rfl, hb1, hcl1⟩ := (HR.out.below HB.out).spot (by omega) (by omega)
      have r0 := hcl1 _ _ (rowCells_at hx).1
      have r1 : wr.cell? ⟨b1, o1 + p * 2 + 1, none⟩ = some (.int .u32 x.2) := hcl1 _ _ (rowCells_at hx).2
      have HX := Lib.hid hx
      clear hcl1 hx
      by_cases hb : x.1 < s.1
      · have HBL := Lib.hid hb
        have hb2 : decide (x.1 < s.1) = true := by simpa using hb
        clear hb
        go_wp2
        go_quiet (fail)
        have HO := Lib.hid (show (wr.drewN nq).ownsRow W0.heap.size 38 2 _ p (rowCells (l.take p)) from HO.out)
        have HB := Lib.hid (below_drewN HB.out nq)
        have r0 : (wr.drewN nq).cell? ⟨b1, o1 + p * 2, none⟩ = some (.int .u32 x.1) := r0
        have r1 : (wr.drewN nq).cell? ⟨b1, o1 + p * 2 + 1, none⟩ = some (.int .u32 x.2) := r1
        generalize wr.drewN nq = wq at *
        have HA := Lib.hid (And.intro (HO.out.alloc (.cells #[.int .u32 x.1, .int .u32 x.2] 38)) (And.intro (reads_new wq #[.int .u32 x.1, .int .u32 x.2] 38 2 1 rfl) (show W0.heap.size ≤ (wq.alloc (.cells #[.int .u32 x.1, .int .u32 x.2] 38)).heap.size by have := HB.out.size; simp; omega)))
        go_wp2_with (at_builtin; go_loud (refine wpList_append_any _ rfl (.tmp 22) (.tmp 27) _ rfl W0.heap.size 38 i0 _ 2 8 Try.underlying33 hi0 hz0 hz1 hz2 rfl (by omega) _ p (rowCells (l.take p)) rfl HA.out.1 (wq.heap.size + 1) (some ⟨wq.heap.size, 0, none⟩) 1 1 [.int .u32 x.1, .int .u32 x.2] rfl HA.out.2.1 (by simp [Value.oneCell']) (by simp only [maxLen]; omega) (by omega) HA.out.2.2 ?_); intro v3 w3 hown3 hg3 hat3; have HOW := Lib.hid hown3; have HG := Lib.hid hg3; clear hown3 hg3 hat3)
        go_roundw
        case rel =>
          refine ⟨p + 1, by go_num, hlt, fun j y hj hy => ?_, by rw [rows_take HX.out]; exact HOW.out, ?_⟩
          · rcases Nat.lt_or_ge j p with h | h
            · exact HT.out j y h hy
            · obtain rfl : j = p := by omega
              rw [HX.out] at hy
              cases hy
              exact HBL.out
          · exact (HB.out.alloc HB.out.size _).grown HG.out HA.out.2.2 (fun k hk => (HO.out.lt k hk).1)
        case measure => simp [Lib.intOf]; omega
      · have hb2 : decide (x.1 < s.1) = false := by simpa using hb
        have HPR := Lib.hid (putR_at HRI.out HT.out (show p ≤ l.length by rw [HN.out]; exact hp))
        by_cases he : x.1 = s.1
        · have he2 : (x.1 == s.1) = true := by simpa using he
          have HPX := Lib.hid (HPR.out.1 x HX.out he)
          by_cases hv : x.2 = s.2
          · have hv2 : (x.2 == s.2) = true := by simpa using hv
            have HEQ := Lib.hid (show decide (x = s) = true by simpa using Prod.ext he hv)
            rw [HEQ.out] at HPX
            clear hb he hv HPR
            go_wp2
            go_quiet (fail)
            go_wp2
            go_upto_region 6 with (fail)
            go_quiet (fail)
            go_upto_region 7 with (fail)
            go_quiet (fail)
            go_wp2
            go_ret2
            refine ⟨⟨_, _, _, rfl, HPX.out, ?_⟩, ?_⟩
            · exact HT0.out.on (HB0.out.trans ((below_drewN (below_drewN (below_drewN HB.out _) _) _).mono HB0.out.size))
            · exact HB0.out.trans ((below_drewN (below_drewN (below_drewN HB.out _) _) _).mono HB0.out.size)
          · have hv2 : (x.2 == s.2) = false := by simpa using hv
            have HEQ := Lib.hid (show decide (x = s) = false by rw [decide_eq_false_iff_not]; exact fun e => hv (by rw [e]))
            rw [HEQ.out] at HPX
            clear hb he hv HPR
            go_wp2
            go_quiet (fail)
            go_wp2
            go_upto_region 6 with (fail)
            go_quiet (fail)
            go_upto_region 7 with (fail)
            go_quiet (fail)
            go_wp2
            go_ret2
            refine ⟨⟨_, _, _, rfl, HPX.out, ?_⟩, ?_⟩
            · exact HT0.out.on (HB0.out.trans ((below_drewN (below_drewN (below_drewN HB.out _) _) _).mono HB0.out.size))
            · exact HB0.out.trans ((below_drewN (below_drewN (below_drewN HB.out _) _) _).mono HB0.out.size)
        · have he2 : (x.1 == s.1) = false := by simpa using he
          have HPO := Lib.hid (HPR.out.2 (fun y hy => by rw [HX.out] at hy; cases hy; omega))
          clear hb he HPR
          go_wp2
          go_quiet (fail)
          have k0 : (wr.drewN nq).cell? ⟨w.heap.size, 0, none⟩ = some (.int .u32 s.1) := k0
          have k1 : (wr.drewN nq).cell? ⟨w.heap.size, 1, none⟩ = some (.int .u32 s.2) := k1
          have r0 : (wr.drewN nq).cell? ⟨b1, o1 + p * 2, none⟩ = some (.int .u32 x.1) := r0
          have HO := Lib.hid (show (wr.drewN nq).ownsRow W0.heap.size 38 2 _ p (rowCells (l.take p)) from HO.out)
          have HB := Lib.hid (below_drewN HB.out nq)
          generalize wr.drewN nq = wa at *
          go_upto_region 6 with (fail)
          go_quiet (fail)
          have k0 : (wa.drewN nq).cell? ⟨w.heap.size, 0, none⟩ = some (.int .u32 s.1) := k0
          have k1 : (wa.drewN nq).cell? ⟨w.heap.size, 1, none⟩ = some (.int .u32 s.2) := k1
          have r0 : (wa.drewN nq).cell? ⟨b1, o1 + p * 2, none⟩ = some (.int .u32 x.1) := r0
          have HO := Lib.hid (show (wa.drewN nq).ownsRow W0.heap.size 38 2 _ p (rowCells (l.take p)) from HO.out)
          have HB := Lib.hid (below_drewN HB.out nq)
          generalize wa.drewN nq = wq at *
          have HA := Lib.hid (And.intro (HO.out.alloc (.cells #[.int .u32 s.1, .int .u32 s.2] 38)) (And.intro (reads_new wq #[.int .u32 s.1, .int .u32 s.2] 38 2 1 rfl) (show W0.heap.size ≤ (wq.alloc (.cells #[.int .u32 s.1, .int .u32 s.2] 38)).heap.size by have := HB.out.size; simp; omega)))
          have HMID := Lib.hid (put_midG (s := s) (show p ≤ l.length by rw [HN.out]; exact hp))
          have HTK := Lib.hid (show rowCells ((l.take p ++ s :: l.drop p).take (p + 1)) = rowCells (l.take p) ++ [.int .u32 s.1, .int .u32 s.2] by rw [HMID.out.2.1, rowCells_append]; rfl)
          go_wp2_with (at_builtin; go_loud (refine wpList_append_any _ rfl (.tmp 52) (.tmp 54) _ rfl W0.heap.size 38 i0 _ 2 8 Try.underlying33 hi0 hz0 hz1 hz2 rfl (by omega) _ p (rowCells (l.take p)) rfl HA.out.1 (wq.heap.size + 1) (some ⟨wq.heap.size, 0, none⟩) 1 1 [.int .u32 s.1, .int .u32 s.2] rfl HA.out.2.1 (by simp [Value.oneCell']) (by simp only [maxLen]; omega) (by omega) HA.out.2.2 ?_); intro v3 w3 hown3 hg3 hat3; have HOW := Lib.hid (HTK.out.symm.subst (motive := fun z => w3.ownsRow W0.heap.size 38 2 v3 (p + 1) z) hown3); have HB3 := Lib.hid (show Below W0.heap.size W0 w3 from (HB.out.alloc HB.out.size _).grown hg3 HA.out.2.2 (fun k hk => (HO.out.lt k hk).1)); clear hown3 hg3 hat3)
          clear HA HO HB HTK
          generalize l.take p ++ s :: l.drop p = m at *
          go_loopw [6, 7] (fun ov iv wr => ∃ j : Nat, iv = .int .i64 (j : Int) ∧ p ≤ j ∧ j ≤ n ∧ wr.ownsRow W0.heap.size 38 2 ov (j + 1) (rowCells (m.take (j + 1))) ∧ Below W0.heap.size W0 wr) (fun _ iv _ => n - (Lib.intOf iv).toNat)
          case atStart => exact ⟨p, rfl, Nat.le_refl _, by omega, HOW.out, HB3.out⟩
          case round =>
            obtain ⟨j, rfl, hpj, hj, hO, hB⟩ := hrel
            have HO := Lib.hid hO
            have HB := Lib.hid hB
            clear hO hB
            by_cases hlt2 : j < n
            · obtain ⟨y, hy⟩ := at_lt (l := l) (p := j) (by have := HN.out; omega)
              have hq2 : (j : Int) < (n : Int) := by omega
              have HMY := Lib.hid (HMID.out.2.2 j y hpj hy)
              obtain ⟨b2, o2, e2, hb2, hcl2⟩ := (HR.out.below HB.out).spot (by omega) (by omega)
              cases e2
              have r2 := hcl2 _ _ (rowCells_at hy).1
              have r3 : wr.cell? ⟨b1, o1 + j * 2 + 1, none⟩ = some (.int .u32 y.2) := hcl2 _ _ (rowCells_at hy).2
              clear hcl2 hy
              have HA := Lib.hid (And.intro (HO.out.alloc (.cells #[.int .u32 y.1, .int .u32 y.2] 38)) (And.intro (reads_new wr #[.int .u32 y.1, .int .u32 y.2] 38 2 1 rfl) (show W0.heap.size ≤ (wr.alloc (.cells #[.int .u32 y.1, .int .u32 y.2] 38)).heap.size by have := HB.out.size; simp; omega)))
              go_wp2_with (at_builtin; go_loud (refine wpList_append_any _ rfl (.tmp 60) (.tmp 65) _ rfl W0.heap.size 38 i0 _ 2 8 Try.underlying33 hi0 hz0 hz1 hz2 rfl (by omega) _ (j + 1) (rowCells (m.take (j + 1))) rfl HA.out.1 (wr.heap.size + 1) (some ⟨wr.heap.size, 0, none⟩) 1 1 [.int .u32 y.1, .int .u32 y.2] rfl HA.out.2.1 (by simp [Value.oneCell']) (by simp only [maxLen]; omega) (by omega) HA.out.2.2 ?_); intro v4 w4 hown3 hg3 hat3; have HOX := Lib.hid hown3; have HG := Lib.hid hg3; clear hown3 hg3 hat3)
              go_roundw
              case rel =>
                refine ⟨j + 1, by go_num, by omega, hlt2, by rw [rows_take HMY.out]; exact HOX.out, ?_⟩
                exact (HB.out.alloc HB.out.size _).grown HG.out HA.out.2.2 (fun k hk => (HO.out.lt k hk).1)
              case measure => simp [Lib.intOf]; omega
            · obtain rfl : j = n := by omega
              have hq2 : ¬ (j : Int) < (j : Int) := by omega
              have HZ := Lib.hid (show m.take (j + 1) = m from List.take_of_length_le (by rw [HMID.out.1, HN.out]; exact Nat.le_refl _))
              have HML := Lib.hid (show m.length = j + 1 by rw [HMID.out.1, HN.out])
              rw [HZ.out] at HO
              go_wp2
              go_ret2
              exact ⟨⟨_, _, _, rfl, HPO.out, rows_of_own (by rw [HML.out]; exact HO.out)⟩, HB0.out.trans (HB.out.mono HB0.out.size)⟩
    · obtain rfl : p = n := by omega
      have hq : ¬ (p : Int) < (p : Int) := by omega
      have HPO := Lib.hid ((putR_at (r := s) HRI.out HT.out (show p ≤ l.length by rw [HN.out]; exact hp)).2 (fun y hy => by rw [List.getElem?_eq_none (by rw [HN.out]; omega)] at hy; cases hy))
      go_wp2
      go_quiet (fail)
      have k0 : (wr.drewN nq).cell? ⟨w.heap.size, 0, none⟩ = some (.int .u32 s.1) := k0
      have k1 : (wr.drewN nq).cell? ⟨w.heap.size, 1, none⟩ = some (.int .u32 s.2) := k1
      have HOa := Lib.hid (show (wr.drewN nq).ownsRow W0.heap.size 38 2 _ p (rowCells (l.take p)) from HO.out)
      have HBa := Lib.hid (below_drewN HB.out nq)
      clear HO HB
      generalize wr.drewN nq = wa at *
      go_upto_region 6 with (fail)
      go_quiet (fail)
      have k0 : (wa.drewN nq).cell? ⟨w.heap.size, 0, none⟩ = some (.int .u32 s.1) := k0
      have k1 : (wa.drewN nq).cell? ⟨w.heap.size, 1, none⟩ = some (.int .u32 s.2) := k1
      have HO := Lib.hid (show (wa.drewN nq).ownsRow W0.heap.size 38 2 _ p (rowCells (l.take p)) from HOa.out)
      have HB := Lib.hid (below_drewN HBa.out nq)
      clear HOa HBa
      generalize wa.drewN nq = wq at *
      have HA := Lib.hid (And.intro (HO.out.alloc (.cells #[.int .u32 s.1, .int .u32 s.2] 38)) (And.intro (reads_new wq #[.int .u32 s.1, .int .u32 s.2] 38 2 1 rfl) (show W0.heap.size ≤ (wq.alloc (.cells #[.int .u32 s.1, .int .u32 s.2] 38)).heap.size by have := HB.out.size; simp; omega)))
      have HMID := Lib.hid (put_midG (s := s) (show p ≤ l.length by rw [HN.out]; exact hp))
      have HTK := Lib.hid (show rowCells ((l.take p ++ s :: l.drop p).take (p + 1)) = rowCells (l.take p) ++ [.int .u32 s.1, .int .u32 s.2] by rw [HMID.out.2.1, rowCells_append]; rfl)
      go_wp2_with (at_builtin; go_loud (refine wpList_append_any _ rfl (.tmp 52) (.tmp 54) _ rfl W0.heap.size 38 i0 _ 2 8 Try.underlying33 hi0 hz0 hz1 hz2 rfl (by omega) _ p (rowCells (l.take p)) rfl HA.out.1 (wq.heap.size + 1) (some ⟨wq.heap.size, 0, none⟩) 1 1 [.int .u32 s.1, .int .u32 s.2] rfl HA.out.2.1 (by simp [Value.oneCell']) (by simp only [maxLen]; omega) (by omega) HA.out.2.2 ?_); intro v3 w3 hown3 hg3 hat3; have HOW := Lib.hid (HTK.out.symm.subst (motive := fun z => w3.ownsRow W0.heap.size 38 2 v3 (p + 1) z) hown3); have HB3 := Lib.hid (show Below W0.heap.size W0 w3 from (HB.out.alloc HB.out.size _).grown hg3 HA.out.2.2 (fun k hk => (HO.out.lt k hk).1)); clear hown3 hg3 hat3)
      clear HA HO HB HTK
      generalize l.take p ++ s :: l.drop p = m at *
      go_loopw [6, 7] (fun ov iv wr => ∃ j : Nat, iv = .int .i64 (j : Int) ∧ p ≤ j ∧ j ≤ p ∧ wr.ownsRow W0.heap.size 38 2 ov (j + 1) (rowCells (m.take (j + 1))) ∧ Below W0.heap.size W0 wr) (fun _ iv _ => p - (Lib.intOf iv).toNat)
      case atStart => exact ⟨p, rfl, Nat.le_refl _, by omega, HOW.out, HB3.out⟩
      case round =>
        obtain ⟨j, rfl, hpj, hj, hO, hB⟩ := hrel
        have HO := Lib.hid hO
        have HB := Lib.hid hB
        clear hO hB
        by_cases hlt2 : j < p
        · exact absurd hlt2 (by omega)
        · obtain rfl : j = p := by omega
          have hq2 : ¬ (j : Int) < (j : Int) := by omega
          have HZ := Lib.hid (show m.take (j + 1) = m from List.take_of_length_le (by rw [HMID.out.1, HN.out]; exact Nat.le_refl _))
          have HML := Lib.hid (show m.length = j + 1 by rw [HMID.out.1, HN.out])
          rw [HZ.out] at HO
          go_wp2
          go_ret2
          exact ⟨⟨_, _, _, rfl, HPO.out, rows_of_own (by rw [HML.out]; exact HO.out)⟩, HB0.out.trans (HB.out.mono HB0.out.size)⟩

def RTabPost (rows : List RowI) (w : World) (e : Ending) (w' : World) : Prop := (∃ v, e = .returned (.tuple #[v, .bool (decide (RiseL kl (poolL rl rows)))]) ∧ (RiseL kl (poolL rl rows) → RowsR w' w'.heap.size v (poolL rl rows))) ∧ Below w.heap.size w w'
set_option maxHeartbeats 8000000 in
theorem reftable_any (v : Value) (l : List RowI) (w : World) (h : RowsR w w.heap.size v l) (hlen : l.length ≤ 1000000) :
    Calls Try.prog 25 #[v] w (RTabPost l w) := by
  obtain ⟨A, c, rfl, hc, hm, hR⟩ := h
  have HR := Lib.hid hR
  unfold maxLen at hm
  clear hR
  generalize hn : l.length = n at *
  have HN := Lib.hid hn
  have hn1 : (n : Int) ≤ 1000000 := by omega
  clear hn
  go_enter Try.func25, Try.ntmps25
  go_wp2
  go_loopw [4, 5] (fun ov iv wr => ∃ p : Nat, iv = .int .i64 (p : Int) ∧ p ≤ n ∧ RiseL kl (poolL rl (l.take p)) ∧ RowsR wr wr.heap.size ov (poolL rl (l.take p)) ∧ Below w.heap.size w wr) (fun _ iv _ => n - (Lib.intOf iv).toNat)
  case atStart => exact ⟨0, rfl, Nat.zero_le _, List.Pairwise.nil, rows_nil _ _, Below.refl _ _⟩
  case round =>
    obtain ⟨p, rfl, hp, hT, hO, hB⟩ := hrel
    have HT := Lib.hid hT
    have HO := Lib.hid hO
    have HB := Lib.hid hB
    clear hT hO hB
    by_cases hlt : p < n
    · obtain ⟨x, hx⟩ := at_lt (l := l) (p := p) (by have := HN.out; omega)
      have hq : (p : Int) < (n : Int) := by omega
      obtain ⟨b1, o1, rfl, hb1, hcl1⟩ := (HR.out.below HB.out).spot (by omega) (by omega)
      have r0 := hcl1 _ _ (rowCells_at hx).1
      have r1 : wr.cell? ⟨b1, o1 + p * 2 + 1, none⟩ = some (.int .u32 x.2) := hcl1 _ _ (rowCells_at hx).2
      have HX := Lib.hid hx
      have HPT := Lib.hid (putrow_any _ (poolL rl (l.take p)) x wr HO.out HT.out (by have h1 := poolL_len (lt := rl) (l.take p); rw [List.length_take] at h1; omega))
      clear hcl1 hx
      go_upto_region 6 with (go_at_call 43; go_loud (refine HPT.out.mono ?_; rintro e w2 ⟨⟨v2, out, ok, rfl, hP, hR2⟩, hb2⟩; have HS := Lib.hid (tab_step HX.out rfl HT.out hP); have HR2 := Lib.hid hR2; have HB2 := Lib.hid (HB.out.trans (hb2.mono HB.out.size)); clear hP hR2 hb2))
      rcases HS.out with ⟨rfl, he, hr⟩ | ⟨rfl, hr⟩
      · have HE := Lib.hid he
        have HRI := Lib.hid hr
        clear he hr
        go_wp2
        go_roundw
        case rel => exact ⟨p + 1, by go_num, hlt, by rw [← HE.out]; exact HRI.out, by rw [← HE.out]; exact HR2.out, HB2.out⟩
        case measure => simp [Lib.intOf]; omega
      · have HRI := Lib.hid hr
        clear hr
        go_wp2
        go_ret2
        exact ⟨⟨_, by rw [decide_eq_false HRI.out]; rfl, fun h => absurd h HRI.out⟩, HB2.out⟩
    · obtain rfl : p = n := by omega
      have hq : ¬ (p : Int) < (p : Int) := by omega
      have HZ := Lib.hid (show l.take p = l from List.take_of_length_le (by rw [HN.out]; exact Nat.le_refl _))
      rw [HZ.out] at HT HO
      go_wp2
      go_ret2
      exact ⟨⟨_, by rw [decide_eq_true HT.out]; rfl, fun _ => HO.out⟩, HB.out⟩
end Go.Proofs.Ytagekiaejhjpnaa
