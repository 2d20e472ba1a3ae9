/-
  The walk of alias.reaches. Condition: at most 2^43 aliases.
-/
import Derived.Test.YtkfofdmcggoonaaGreatDoorAliasAsk
set_option linter.unusedVariables false
set_option linter.unusedSimpArgs false
namespace Go.Proofs.YtkfofdmcggoonaaGreatDoor
open Go.RowKit

def boolVs (l : List Bool) : List Value := l.map Value.bool
def natVs (l : List Nat) : List Value := l.map fun k : Nat => Value.int .i64 (k : Int)
/-- Rows of bools, each as long as there are rows. -/
def BRows (w : World) (B : Nat) (v : Value) (n : Nat) (f : Nat → Nat → Bool) : Prop := ∃ A c vs, v = .slice A n c ∧ n ≤ c ∧ c ≤ maxLen ∧ vs.length = n ∧ Reads w B 1 A n vs ∧
  ∀ i kv, vs[i]? = some kv → ∃ A' c', kv = .slice A' n c' ∧ n ≤ c' ∧ c' ≤ maxLen ∧ Reads w B 1 A' n ((List.range n).map fun k => Value.bool (f i k))
theorem BRows.below {w w' : World} {B : Nat} {v : Value} {n : Nat} {f : Nat → Nat → Bool} (h : BRows w B v n f) (hb : Below B w w') : BRows w' B v n f := by
  obtain ⟨A, c, vs, h1, h2, h3, h4, h5, h6⟩ := h
  refine ⟨A, c, vs, h1, h2, h3, h4, h5.below hb, fun i kv hi => ?_⟩
  obtain ⟨A', c', e, a, b, hr⟩ := h6 i kv hi
  exact ⟨A', c', e, a, b, hr.below hb⟩
theorem BRows.more {w : World} {B B' : Nat} {v : Value} {n : Nat} {f : Nat → Nat → Bool} (h : BRows w B v n f) (hB : B ≤ B') : BRows w B' v n f := by
  obtain ⟨A, c, vs, h1, h2, h3, h4, h5, h6⟩ := h
  refine ⟨A, c, vs, h1, h2, h3, h4, h5.more hB, fun i kv hi => ?_⟩
  obtain ⟨A', c', e, a, b, hr⟩ := h6 i kv hi
  exact ⟨A', c', e, a, b, hr.more hB⟩
theorem bool_info : (Tryz.prog.info? 4).map (fun i => (i.zero, i.size, i.bytes)) = some (some (.bool false), 1, 1) := by kernel_rfl
theorem aint_info : (Tryz.prog.info? 3).map (fun i => (i.zero, i.size, i.bytes)) = some (some (.int .i64 0), 1, 8) := by kernel_rfl
theorem boolVs_one (l : List Bool) : ∀ u ∈ boolVs l, u.oneCell' = true := by
  intro u hu
  obtain ⟨b, -, rfl⟩ := List.mem_map.1 hu
  rfl
/-- A row of one new cell. -/
theorem own_one (w : World) (e : TypeId) (u : Value) : (w.alloc (.cells #[u] e)).ownsRow w.heap.size e 1 (.slice (some ⟨w.heap.size, 0, none⟩) 1 1) 1 [u] :=
  ⟨rfl, .inr ⟨w.heap.size, 1, #[u], rfl, Nat.le_refl _, Blk.new w e #[u], Nat.le_refl _, by simp [maxLen], rfl, rfl⟩⟩
def isFalse : Value → Bool
  | .bool false => true
  | _ => false
/-- How many places of a row are not met. -/
def falsesAt (g : Nat) (w : World) : Nat := match w.heap[g]? with
  | some (.cells cs _ _) => cs.toList.countP isFalse
  | _ => 0
theorem count_bools : ∀ l : List Bool, (boolVs l).countP isFalse = l.count false
  | [] => rfl
  | b :: l => by
    have := count_bools l
    unfold boolVs at this
    simp only [boolVs, List.map_cons, List.countP_cons, List.count_cons, this]
    cases b <;> rfl
theorem falses_own {w : World} {base g n : Nat} {e : TypeId} {l : List Bool} (h : w.ownsRow base e 1 (.slice (some ⟨g, 0, none⟩) n n) n (boolVs l)) : falsesAt g w = l.count false := by
  rcases h.2 with ⟨h', _⟩ | ⟨g', cap', cur, h', hb, hg, hnc, hcm, hcs, htake⟩
  · simp at h'
  · simp only [Value.slice.injEq, Option.some.injEq, Addr.mk.injEq, and_true, true_and] at h'
    obtain ⟨rfl, rfl⟩ := h'
    unfold falsesAt
    rw [hg]
    simp only
    rw [List.take_of_length_le (by simp; omega)] at htake
    rw [htake]
    exact count_bools l
def lenOf : Value → Nat
  | .slice _ n _ => n
  | _ => 0
/-- What reaches has made: the places that are met, and the pile. -/
def RRows (w : World) (B gm n : Nat) (pv : Value) (met : List Bool) (pile : List Nat) (wr : World) : Prop :=
  wr.ownsRow B 4 1 (.slice (some ⟨gm, 0, none⟩) n n) n (boolVs met) ∧ wr.ownsRow B 3 1 pv pile.length (natVs pile) ∧ Below B w wr ∧ B ≤ gm ∧ B ≤ wr.heap.size
def ReachPost (n : Nat) (f : Nat → Nat → Bool) (i : Nat) (w : World) (en : Ending) (w' : World) : Prop := (∃ b, en = .returned (.bool b) ∧ (b = true ↔ RF n f i i)) ∧ Below w.heap.size w w'
theorem bools_at {n : Nat} {g : Nat → Bool} {k : Nat} (hk : k < n) : ((List.range n).map fun k => Value.bool (g k))[k]? = some (.bool (g k)) := by simp [hk]
theorem boolVs_at {l : List Bool} {k : Nat} {b : Bool} (h : l[k]? = some b) : (boolVs l)[k]? = some (.bool b) := by simp [boolVs, h]
theorem natVs_at {l : List Nat} {k x : Nat} (h : l[k]? = some x) : (natVs l)[k]? = some (.int .i64 (x : Int)) := by simp [natVs, h]
theorem last_split {α : Type} {l : List α} {m : Nat} (h : l.length = m + 1) : ∃ q x, l = q ++ [x] ∧ q.length = m := by
  have hne : l ≠ [] := fun e => by rw [e] at h; cases h
  exact ⟨l.dropLast, l.getLast hne, (List.dropLast_concat_getLast hne).symm, by rw [List.length_dropLast, h]; rfl⟩
section
variable {w wr w' : World} {B gm n : Nat} {pv pv' : Value} {met : List Bool} {pile : List Nat}
theorem rrows_alloc (h : RRows w B gm n pv met pile wr) (o : Obj) : RRows w B gm n pv met pile (wr.alloc o) :=
  ⟨own_more h.1 ((Below.refl _ _).alloc (Nat.le_refl _) o), own_more h.2.1 ((Below.refl _ _).alloc (Nat.le_refl _) o), h.2.2.1.alloc h.2.2.2.2 o, h.2.2.2.1, by have := h.2.2.2.2; simp; omega⟩
theorem rrows_set (h : RRows w B gm n pv met pile wr) (k : Nat) : RRows w B gm n pv (met.set k true) pile (wr.setCell ⟨gm, k, none⟩ (.bool true)) := by
  obtain ⟨h1, h2, h3, h4, h5⟩ := h
  have hs := World.ownsRow.stored h1 k (.bool true)
  refine ⟨?_, h2.kept hs.2 ?_, h3.setCell (p := ⟨gm, k, none⟩) h4 _, h4, by simpa [World.setCell] using h5⟩
  · have := hs.1
    unfold boolVs at this ⊢
    rw [List.map_set]
    exact this
  · cases hv : pv.ownBlock with
    | none => exact .inl rfl
    | some g => exact .inr fun e => own_other h2 h1 (by decide) g hv e.symm
theorem rrows_front {Ap : Option Addr} {cp m j : Nat} {q : List Nat} (h : RRows w B gm n (.slice Ap (q ++ [j]).length cp) met (q ++ [j]) wr) (hq : q.length = m) : RRows w B gm n (.slice Ap m cp) met q wr := by
  obtain ⟨h1, h2, h3, h4, h5⟩ := h
  refine ⟨h1, ?_, h3, h4, h5⟩
  have := own_front h2 (by simp) (m := m) (by simp; omega)
  rw [hq]
  have e : (natVs (q ++ [j])).take (m * 1) = natVs q := by
    unfold natVs
    rw [List.map_append, List.take_append_of_le_length (by simp; omega), List.take_of_length_le (by simp; omega)]
  rwa [e] at this
theorem rrows_push {k : Nat} (h : RRows w B gm n pv met pile wr) (hg : wr.grownBy w' pv.ownBlock) (ho : w'.ownsRow B 3 1 pv' (pile.length + 1) (natVs pile ++ [.int .i64 (k : Int)])) : RRows w B gm n pv' met (pile ++ [k]) w' := by
  obtain ⟨h1, h2, h3, h4, h5⟩ := h
  refine ⟨h1.kept hg (.inr fun e => own_other h1 h2 (by decide) gm rfl e.symm), ?_, h3.grown hg h5 (fun k hk => (h2.lt k hk).1), h4, Nat.le_trans h5 hg.size⟩
  rw [List.length_append]
  unfold natVs at ho ⊢
  rw [List.map_append]
  exact ho
end
set_option maxHeartbeats 16000000 in
set_option maxRecDepth 100000 in
theorem reaches_any (v : Value) (n i : Nat) (f : Nat → Nat → Bool) (w : World) (h : BRows w w.heap.size v n f) (hi : i < n) (hn : n ≤ 8796093022208) :
    Calls Tryz.prog 20 #[v, .int .i64 (i : Int)] w (ReachPost n f i w) := by
  obtain ⟨A, c, vs, rfl, hc1, hc2, hvl, hR, hV⟩ := h
  have HRD := Lib.hid hR
  have HV := Lib.hid hV
  have HVL := Lib.hid hvl
  obtain ⟨B, hB⟩ : ∃ B, B = w.heap.size := ⟨_, rfl⟩
  have HB := Lib.hid hB
  obtain ⟨i0, hi0, hz0, hz1, hz2⟩ := info_parts bool_info
  obtain ⟨i1, hj0, hy0, hy1, hy2⟩ := info_parts aint_info
  have hn1 : (n : Int) ≤ 8796093022208 := by omega
  have hi1 : (i : Int) < (n : Int) := by omega
  clear hR hV hvl hB
  go_enter Tryz.func20, Tryz.ntmps20
  go_upto_region 2 with (at_make; refine wpList_make_full _ rfl _ _ 50 rfl w.heap.size 4 i0 (.bool false) 1 Tryz.underlying50 hi0 hz0 hz1 .i64 .i64 _ _ n rfl rfl rfl rfl (by rw [hz2]; omega) (by simp only [maxLen]; omega) (Nat.le_refl _) ?_; intro w1 hown1 hg1)
  rw [show (Value.bool false).cells = #[.bool false] from rfl, Nat.mul_one, toList_madeCells_one] at hown1
  have HA0 := Lib.hid (show RRows w B B n (.slice (some ⟨w1.heap.size, 0, none⟩) 1 1) (List.replicate n false) [i] (w1.alloc (.cells #[.int .i64 (i : Int)] 3)) from by
    have hlt := (hown1.lt w.heap.size rfl).2
    have hbel : Below w1.heap.size w1 (w1.alloc (.cells #[.int .i64 (i : Int)] 3)) := (Below.refl _ _).alloc (Nat.le_refl _) _
    have h1 : Below w.heap.size w w1 := (Below.refl _ w).grown hg1 (Nat.le_refl _) (fun k hk => by cases hk)
    rw [HB.out]
    exact ⟨by simpa [boolVs] using own_more hown1 hbel, own_base (own_one w1 3 (.int .i64 (i : Int))) (by omega), h1.trans (hbel.mono (by omega)), Nat.le_refl _, by simp; omega⟩)
  rw [← HB.out]
  go_wp2
  clear hown1 hg1
  generalize w1.alloc (.cells #[.int .i64 (i : Int)] 3) = w2 at *
  go_loopw [6] (fun pv wr => ∃ met pile, ReachInv n f i met pile ∧ RRows w B B n pv met pile wr) (fun pv wr => 2 * falsesAt B wr + lenOf pv)
  case atStart => exact ⟨_, _, reach_start f hi, HA0.out⟩
  case round =>
    clear HA0
    obtain ⟨met, pile, hI, hRR⟩ := hrel
    obtain ⟨Ap, cp, rfl, hpc, hpm, -⟩ := own_form hRR.2.1
    have HI := Lib.hid hI
    have HRR := Lib.hid hRR
    clear hI hRR
    by_cases h0 : pile.length = 0
    · obtain rfl := List.eq_nil_of_length_eq_zero h0
      go_wp2
      go_ret
      exact ⟨⟨false, rfl, by simpa using reach_end HI.out⟩, HB.out ▸ HRR.out.2.2.1⟩
    · obtain ⟨m, hm⟩ : ∃ m, pile.length = m + 1 := ⟨pile.length - 1, by omega⟩
      obtain ⟨q, j, rfl, hq⟩ := last_split hm
      have HMID := Lib.hid (reach_pop HI.out)
      have HRF := Lib.hid (rrows_front HRR.out hq)
      obtain ⟨gp, rfl, -, -⟩ := own_spot HRR.out.2.1 (by rw [hm]; omega)
      have k0 : wr.cell? ⟨gp, m, none⟩ = some (.int .i64 (j : Int)) := own_cell HRR.out.2.1 m _ (natVs_at (by rw [List.getElem?_append_right (by omega)]; simp [show m - q.length = 0 by omega]))
      have hjn : j < n := HMID.out.2.2.1
      have HBW := Lib.hid (show Below w.heap.size w wr from HB.out ▸ HRR.out.2.2.1)
      obtain ⟨b, off, rfl, hbo, hcl⟩ := (HRD.out.below HBW.out).spot (by omega) (by omega)
      obtain ⟨kv, hkv⟩ : ∃ kv, vs[j]? = some kv := ⟨vs[j]'(by rw [HVL.out]; exact hjn), List.getElem?_eq_getElem _⟩
      have k1 := hcl j _ hkv
      obtain ⟨A', c', rfl, hc1', hc2', hR'⟩ := HV.out j kv hkv
      have HR2 := Lib.hid hR'
      have hjn1 : (j : Int) < (n : Int) := by omega
      have hmc : (m : Int) ≤ (cp : Int) := by omega
      have hmc2 : (cp : Int) ≤ 9223372036854775807 := by simp only [maxLen] at hpm; omega
      have hmn : (m : Int) ≤ 8796093022209 := by have := HI.out.2.2.2.2.2; omega
      have HMS := Lib.hid (show 2 * falsesAt B wr + (m + 1) = 2 * met.count false + q.length + 1 by rw [falses_own HRR.out.1, hq]; omega)
      rw [hm]
      clear h0 hkv hcl hR' hbo
      go_wp2
      obtain ⟨wo, hwo⟩ : ∃ wo : World, wo = wr := ⟨_, rfl⟩
      have HWO := Lib.hid hwo
      clear hwo k0 k1
      have HRO := Lib.hid (show RRows w B B n (.slice (some ⟨gp, 0, none⟩) m cp) met q wo from HWO.out ▸ HRF.out)
      go_loopw [6, 34] (fun pv kv wr => ∃ (k : Nat) (met' : List Bool) (pile : List Nat), kv = .int .i64 (k : Int) ∧ k ≤ n ∧ ReachMid n f i met' pile j k ∧ RRows w B B n pv met' pile wr ∧ 2 * met'.count false + pile.length ≤ 2 * met.count false + q.length) (fun _ kv _ => n - (Lib.intOf kv).toNat)
      case atStart => exact ⟨0, met, q, rfl, Nat.zero_le _, HMID.out, HRF.out, Nat.le_refl _⟩
      case round =>
        clear HRF HMID
        obtain ⟨k, met', pile, rfl, hk, hM, hRR, hC⟩ := hrel
        obtain ⟨Ap2, cp2, rfl, -, -, -⟩ := own_form hRR.2.1
        have HM := Lib.hid hM
        have HR3 := Lib.hid hRR
        have HC := Lib.hid hC
        have hmb := hM.1
        have HMB := Lib.hid hmb
        clear hM hRR hC hmb
        by_cases hkn : k < n
        · have hq1 : (k : Int) < (n : Int) := by omega
          have HBW2 := Lib.hid (show Below w.heap.size w wr from HB.out ▸ HR3.out.2.2.1)
          obtain ⟨b2, off2, rfl, hbo2, hcl2⟩ := (HR2.out.below HBW2.out).spot (by omega) (by omega)
          have k0 := hcl2 k _ (bools_at hkn)
          clear hcl2 hbo2
          cases hf : f j k
          · rw [hf] at k0
            have HG := Lib.hid (reach_skip HM.out (.inl hf))
            clear hf
            go_wp2
            go_roundw
            case rel => exact ⟨k + 1, met', pile, by go_num, hkn, HG.out, HR3.out, HC.out⟩
            case measure => simp [Lib.intOf]; omega
          · rw [hf] at k0
            by_cases hki : k = i
            · have HH := Lib.hid (reach_hit HM.out hki hf)
              subst hki
              clear hf
              go_wp2
              go_ret
              exact ⟨⟨true, rfl, by simpa using HH.out⟩, HBW2.out⟩
            · have hki2 : ((k : Int) == (i : Int)) = false := by rw [beq_eq_false_iff_ne]; omega
              have hki3 : ¬ (k : Int) = (i : Int) := by omega
              obtain ⟨mb, hmb⟩ : ∃ mb, met'[k]? = some mb := ⟨met'[k]'(by rw [HMB.out]; exact hkn), List.getElem?_eq_getElem _⟩
              have k3 : wr.cell? ⟨B, k, none⟩ = some (.bool mb) := own_cell HR3.out.1 k _ (boolVs_at hmb)
              have f3 := own_free HR3.out.1 k
              cases mb
              · have HG := Lib.hid (reach_put HM.out hkn hf hki (fun h => by unfold met? at h; rw [hmb] at h; cases h))
                have HCN := Lib.hid (count_set hmb)
                have HR4 := Lib.hid (rrows_set HR3.out k)
                have HR5 := Lib.hid (rrows_alloc HR4.out (.cells #[.int .i64 (k : Int)] 3))
                have har := reads_new (wr.setCell ⟨B, k, none⟩ (.bool true)) #[.int .i64 (k : Int)] 3 1 1 rfl
                rw [show (wr.setCell ⟨B, k, none⟩ (.bool true)).heap.size = wr.heap.size by simp [World.setCell]] at har
                have HAR := Lib.hid har
                clear har
                have hpl : pile.length ≤ 8796093022208 := by have := HM.out.2.2.2.2.2.2.2.2; omega
                clear hf hmb
                go_wp2_with (at_builtin; go_loud (refine wpList_append_any _ rfl (.tmp 56) (.tmp 58) _ rfl B 3 i1 _ 1 8 Tryz.underlying79 hj0 hy0 hy1 hy2 rfl (by omega) _ pile.length (natVs pile) rfl HR5.out.2.1 (wr.heap.size + 1) (some ⟨wr.heap.size, 0, none⟩) 1 1 [.int .i64 (k : Int)] rfl HAR.out (by simp [Value.oneCell']) (by simp only [maxLen]; omega) (by omega) HR5.out.2.2.2.2 ?_); intro v6 w6 hown6 hg6 hat6; obtain ⟨A6, c6, rfl, -, -, -⟩ := own_form hown6; have HR6 := Lib.hid (rrows_push HR5.out hg6 hown6); clear hown6 hg6 hat6)
                go_roundw
                case rel => exact ⟨k + 1, _, _, by go_num, hkn, HG.out, HR6.out, by have := HC.out; have := HCN.out; simp; omega⟩
                case measure => simp [Lib.intOf]; omega
              · have HG := Lib.hid (reach_skip HM.out (.inr ⟨hki, hmb⟩))
                clear hf hmb
                go_wp2
                go_roundw
                case rel => exact ⟨k + 1, met', pile, by go_num, hkn, HG.out, HR3.out, HC.out⟩
                case measure => simp [Lib.intOf]; omega
        · obtain rfl : k = n := by omega
          have hq1 : ¬ (k : Int) < (k : Int) := by omega
          have HG := Lib.hid (reach_done HM.out)
          go_wp2
          go_roundw
          case rel => exact ⟨met', pile, HG.out, HR3.out⟩
          case measure =>
            have e1 := falses_own HR3.out.1
            have e2 := falses_own HRO.out.1
            have := HC.out
            have := HMS.out
            simp only [lenOf]
            rw [e1]
            omega
end Go.Proofs.YtkfofdmcggoonaaGreatDoor
