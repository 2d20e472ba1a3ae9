/-
  The walk of pool.Table. Condition: at most 1000000 rows.
-/
import Derived.Test.YtagekiaejhjpnaaCompact
import Derived.Test.YtagekiaejhjpnaaTabSort
namespace Go.Proofs.Ytagekiaejhjpnaa
open Go.RowKit

def PTabPost (rows : List RowI) (w : World) (e : Ending) (w' : World) : Prop :=
  ((RiseL kl (poolL rl rows) ∧ ∃ v, e = .returned (.tuple #[v, .int .i64 0]) ∧ RowsR w' w'.heap.size v (poolL rl rows)) ∨ (¬ RiseL kl (poolL rl rows) ∧ e = .returned (.tuple #[.slice none 0 0, .int .i64 5]))) ∧ Below w.heap.size w w'
theorem ptab_mk {rows t : List RowI} {w w' : World} {e : Ending} (h : poolL rl rows = t) (hx : ((RiseL kl t ∧ ∃ v, e = .returned (.tuple #[v, .int .i64 0]) ∧ RowsR w' w'.heap.size v t) ∨ (¬ RiseL kl t ∧ e = .returned (.tuple #[.slice none 0 0, .int .i64 5]))) ∧ Below w.heap.size w w') : PTabPost rows w e w' := by
  subst h
  exact hx
set_option maxHeartbeats 8000000 in
theorem ptable_any (a : Addr) (c : Nat) (l : List RowI) (w : World) (h : RowsR w w.heap.size (.slice (some a) l.length c) l) (hlen : l.length ≤ 1000000) :
    Calls Try.prog 24 #[.slice (some a) l.length c] w (PTabPost l w) := by
  have HC := Lib.hid (clone_some a c l w h (by omega))
  generalize hn : l.length = n at *
  have HN := Lib.hid hn
  have hn1 : (n : Int) ≤ 1000000 := by omega
  clear hn h
  go_enter Try.func24, Try.ntmps24
  go_upto_region 2 with (go_at_call 37; go_loud (refine HC.out.mono ?_; rintro e w1 ⟨⟨g, c1, rfl, ho, hc1, hm1⟩, hb⟩; have HO1 := Lib.hid ho; have HB1 := Lib.hid hb; clear ho hb))
  have HTS := Lib.hid (tsort_any g c1 l w1 w.heap.size (by rw [HN.out]; exact HO1.out) (by rw [HN.out]; exact hlen))
  rw [HN.out] at HTS
  go_upto_region 3 with (go_at_call 40; go_loud (refine HTS.out.mono ?_; rintro e w2 ⟨rfl, ⟨l2, hl2, hm2, hs2, ho2⟩, hg2⟩; have HL2 := Lib.hid hl2; have HM2 := Lib.hid hm2; have HS2 := Lib.hid hs2; have HO2 := Lib.hid ho2; have HG2 := Lib.hid hg2; clear hl2 hm2 hs2 ho2 hg2))
  have HCM := Lib.hid (compact_any g c1 l2 w2 w.heap.size (by rw [HL2.out]; exact HO2.out) (by rw [HL2.out]; exact hlen) (by rw [HL2.out]; exact hc1) hm1)
  rw [HL2.out] at HCM
  have HCP := Lib.hid (comp_pool (l := l) HS2.out HM2.out)
  unfold CompPost at HCM
  rw [HCP.out] at HCM
  clear HTS HCP
  have HRR := Lib.hid (poolL_rise rlT l)
  have hpl : (poolL rl l).length ≤ 1000000 := by have := poolL_len (lt := rl) l; have := HN.out; omega
  generalize hpt : poolL rl l = t at *
  have HPT := Lib.hid hpt
  clear hpt
  generalize ht : t.length = m at *
  have HT := Lib.hid ht
  clear ht
  go_upto_region 4 with (go_at_call 42; go_loud (refine HCM.out.mono ?_; rintro e w3 ⟨rfl, ho3, hg3⟩; have HO3 := Lib.hid ho3; have HG3 := Lib.hid hg3; clear ho3 hg3))
  have hm3 : (m : Int) ≤ 1000000 := by omega
  have HB3 := Lib.hid (show Below w.heap.size w w3 from (HB1.out.grown HG2.out HB1.out.size (fun k hk => by cases hk; exact (HO1.out.lt g rfl).1)).grown HG3.out (by have h1 := HB1.out.size; have h2 := HG2.out.size; omega) (fun k hk => by cases hk; exact (HO1.out.lt g rfl).1))
  go_wp2
  go_loopw [5] (fun iv wr => ∃ p q : Nat, iv = .int .i64 ((p : Int) + 1) ∧ p ≤ m ∧ (∀ (j : Nat) (x y : RowI), j + 1 < p + 1 → t[j]? = some x → t[j + 1]? = some y → x.1 ≠ y.1) ∧ wr = w3.drewN q) (fun iv _ => (m + 2) - (Lib.intOf iv).toNat)
  case atStart => exact ⟨0, 0, rfl, by omega, fun j x y h => absurd h (by omega), rfl⟩
  case round =>
    obtain ⟨p, q, rfl, hp, hT, rfl⟩ := hrel
    have HAD := Lib.hid hT
    clear hT
    have hs1 : IntKind.i64.wrap ((p : Int) + 1 - 1) = (p : Int) := by rw [IntKind.wrap_i64]; omega
    have hs2 : ((p : Int) + 1).toNat = p + 1 := by omega
    have hs3 : (0 : Int) ≤ (p : Int) + 1 := by omega
    by_cases hlt : p + 1 < m
    · obtain ⟨x, hx⟩ := at_lt (l := t) (p := p) (by have := HT.out; omega)
      obtain ⟨y, hy⟩ := at_lt (l := t) (p := p + 1) (by have := HT.out; omega)
      have hq : (p : Int) + 1 < (m : Int) := by omega
      have hs4 : (p : Int) < (m : Int) := by omega
      have r0 : w3.cell? ⟨g, p * 2, none⟩ = some (.int .u32 x.1) := own_cell HO3.out _ _ (rowCells_at hx).1
      have r1 : w3.cell? ⟨g, p * 2 + 1, none⟩ = some (.int .u32 x.2) := own_cell HO3.out _ _ (rowCells_at hx).2
      have r2 : w3.cell? ⟨g, (p + 1) * 2, none⟩ = some (.int .u32 y.1) := own_cell HO3.out _ _ (rowCells_at hy).1
      have r3 : w3.cell? ⟨g, (p + 1) * 2 + 1, none⟩ = some (.int .u32 y.2) := own_cell HO3.out _ _ (rowCells_at hy).2
      have HX := Lib.hid (And.intro hx hy)
      have HLT := Lib.hid (rl_iff.1 (rise_at HRR.out hx hy (by omega)))
      clear hx hy
      by_cases hxy : x.1 = y.1
      · have hz1 : (x.1 == y.1) = true := by simpa using hxy
        have hz2 : (x.2 == y.2) = false := by have := HLT.out; rw [beq_eq_false_iff_ne]; omega
        have HNO := Lib.hid (show ¬ RiseL kl t from fun h => by
          have := rise_at h HX.out.1 HX.out.2 (by omega)
          simp only [kl, decide_eq_true_eq] at this
          omega)
        clear hxy
        go_upto_region 7 with (fail)
        go_quiet (fail)
        go_wp2
        go_ret2
        exact ptab_mk HPT.out ⟨.inr ⟨HNO.out, rfl⟩, below_drewN (below_drewN HB3.out _) _⟩
      · have hz1 : (x.1 == y.1) = false := by simpa using hxy
        have HNE := Lib.hid (fun e : x.1 = y.1 => hxy e)
        clear hxy
        go_upto_region 7 with (fail)
        go_quiet (fail)
        go_wp2
        go_roundw
        case rel =>
          refine ⟨p + 1, q + nq, by go_num, by omega, fun j a b hj ha hb => ?_, rfl⟩
          rcases Nat.lt_or_ge (j + 1) (p + 1) with h | h
          · exact HAD.out j a b h ha hb
          · obtain rfl : j = p := by omega
            rw [HX.out.1] at ha
            rw [HX.out.2] at hb
            cases ha
            cases hb
            exact HNE.out
        case measure => simp [Lib.intOf]; omega
    · have hq : ¬ (p : Int) + 1 < (m : Int) := by omega
      have HRK := Lib.hid (kl_of_adj HRR.out (fun j x y hx hy => by
        have h1 := (List.getElem?_eq_some_iff.1 hy).1
        have := HT.out
        exact HAD.out j x y (by omega) hx hy))
      go_wp2
      go_ret2
      have HO4 := own_cut HO3.out (Nat.le_refl m)
      exact ptab_mk HPT.out ⟨.inl ⟨HRK.out, _, rfl, rows_of_own (by rw [HT.out]; exact HO3.out)⟩, below_drewN HB3.out q⟩
theorem ptable_ok (a : Addr) (c : Nat) (l : List RowI) (w : World) (h : RowsR w w.heap.size (.slice (some a) l.length c) l) (hlen : l.length ≤ 1000000) (hr : RiseL kl (poolL rl l)) :
    Calls Try.prog 24 #[.slice (some a) l.length c] w fun e w' => (∃ v, e = .returned (.tuple #[v, .int .i64 0]) ∧ RowsR w' w'.heap.size v (poolL rl l)) ∧ Below w.heap.size w w' :=
  (ptable_any a c l w h hlen).mono fun _ _ ⟨hc, hb⟩ => ⟨hc.elim (fun h => h.2) (fun h => absurd hr h.1), hb⟩
theorem ptable_no (a : Addr) (c : Nat) (l : List RowI) (w : World) (h : RowsR w w.heap.size (.slice (some a) l.length c) l) (hlen : l.length ≤ 1000000) (hr : ¬ RiseL kl (poolL rl l)) :
    Calls Try.prog 24 #[.slice (some a) l.length c] w fun e w' => e = .returned (.tuple #[.slice none 0 0, .int .i64 5]) ∧ Below w.heap.size w w' :=
  (ptable_any a c l w h hlen).mono fun _ _ ⟨hc, hb⟩ => ⟨hc.elim (fun h => absurd h.1 hr) (fun h => h.2), hb⟩
end Go.Proofs.Ytagekiaejhjpnaa
