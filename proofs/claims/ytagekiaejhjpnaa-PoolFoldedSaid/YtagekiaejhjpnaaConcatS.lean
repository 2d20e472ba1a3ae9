/-
  The walks of slices.Grow (of nil) and slices.Concat at texts. Condition: at most 10000000 elements.
-/
import Derived.Test.YtagekiaejhjpnaaPoolPut
import Derived.Lib.AppendZeros
namespace Go.Proofs.Ytagekiaejhjpnaa
open Go.RowKit

theorem wpList_append_runS {P : Program} (w : World) {ops : Array Oper} {rest : List Oper} {o : Oper} {a : Act} {Q : Exit → Act → World → Prop} (hgd : o.guard = none) (s x : Operand) (t tn : TypeId)
    (ho : o.op = .call { callee := .builtin .append, args := #[s, x], argTypes := #[t, tn] }) (vs vx : Value) (hs : a.eval s = vs) (hx : a.eval x = vx)
    (v' : Value) (w' : World) (hr : (Builtin.append_ #[t, tn] o.type #[vs, vx]).run P w = .ok v' w') (h : wpList P ops Q rest (a.put o.dst v') w') : wpList P ops Q (o :: rest) a w :=
  Lib.wpList_append_run w hgd s x t tn ho vs vx hs hx v' w' hr h
def GrowPostS (w : World) (en : Ending) (w' : World) : Prop := ∃ v, en = .returned v ∧ w'.ownsRow w.heap.size 9 1 v 0 [] ∧ w.grownBy w' none
set_option maxRecDepth 10000000 in
theorem grow_anyS (n : Nat) (w : World) (hn : n ≤ 10000000) :
    Calls Try.prog 45 #[.slice none 0 0, .int .i64 (n : Int)] w (GrowPostS w) := by
  by_cases h0 : n = 0
  · subst h0
    go_enter Try.func45, Try.ntmps45
    go_wp2
    go_ret
    exact ⟨_, rfl, World.ownsRow_nil _ _ _ _, World.grownBy.refl _ _⟩
  · have hn0 : ¬ (n : Int) < 0 := by omega
    have hn1 : (0 : Int) < (n : Int) := by omega
    have hn2 : (n : Int) ≤ 10000000 := by omega
    obtain ⟨i0, hi0, hz0, hz1, hz2⟩ := info_parts str_info
    have HA := Lib.hid (Lib.run_append_nil_zeros (P := Try.prog) w 22 3 22 9 i0 _ .i64 .i64 Try.underlying22 Try.underlying3 hi0 hz0 n (by omega) (by omega) (by omega) (by rw [hz2]; omega))
    have HO := Lib.hid (show ∀ cap, cap = grownCap w n 0 9 → (w.drew.alloc (.cells (Builtin.zeroCells (Value.string ByteArray.empty).cells n ++ Builtin.zeroCells (Value.string ByteArray.empty).cells (cap - n)) 9)).ownsRow w.heap.size 9 1 (.slice (some ⟨w.heap.size, 0, none⟩) 0 cap) 0 [] from fun cap hc => by
      have hge := grownCap_ge w n 0 9
      have hcm : grownCap w n 0 9 ≤ maxLen := grownCap_le_maxLen w n 0 9 (by simp only [maxLen]; omega)
      have hz : (Value.string ByteArray.empty).cells.size = 1 := rfl
      refine ⟨rfl, .inr ⟨w.heap.size, cap, _, rfl, Nat.le_refl _, heap_alloc_new w.drew _, Nat.zero_le _, by omega, ?_, by simp⟩⟩
      simp only [Array.size_append, size_zeroCells, hz]
      omega)
    have HG := Lib.hid (show ∀ o, w.grownBy (w.drew.alloc o) none from fun o => ⟨rfl, rfl, rfl, by simp, fun k hk _ => Below.heap_alloc w.drew o k hk⟩)
    generalize grownCap w n 0 9 = cap at *
    clear h0
    go_enter Try.func45, Try.ntmps45
    go_wp2_with (at_builtin; go_loud (refine wpList_append_runS w rfl (.tmp 20) (.tmp 21) _ _ rfl _ _ rfl rfl _ _ HA.out ?_))
    go_ret
    exact ⟨_, rfl, HO.out _ rfl, HG.out _⟩

/-- A row of two-cell elements, read. -/
def RowRS (w : World) (B : Nat) (v : Value) (n : Nat) (xs : List Value) : Prop := ∃ A c, v = .slice A n c ∧ n ≤ c ∧ c ≤ maxLen ∧ Reads w B 1 A n xs
abbrev LRowS := Value × Nat × List Value
def sumLS (ls : List LRowS) : Nat := (ls.map fun x => x.2.1).sum
def flatLS (ls : List LRowS) : List Value := ls.flatMap fun x => x.2.2
theorem sumL_takeS (ls : List LRowS) (p : Nat) (x : LRowS) (h : ls[p]? = some x) : sumLS (ls.take (p + 1)) = sumLS (ls.take p) + x.2.1 := by
  rw [List.take_add_one, h]
  simp [sumLS]
theorem flatL_takeS (ls : List LRowS) (p : Nat) (x : LRowS) (h : ls[p]? = some x) : flatLS (ls.take (p + 1)) = flatLS (ls.take p) ++ x.2.2 := by
  rw [List.take_add_one, h]
  simp [flatLS]
theorem sumL_leS (ls : List LRowS) (p : Nat) : sumLS (ls.take p) ≤ sumLS ls := by
  have : sumLS ls = sumLS (ls.take p) + sumLS (ls.drop p) := by
    conv => lhs; rw [← List.take_append_drop p ls]
    simp only [sumLS, List.map_append, List.sum_append]
  omega
def ConcatPostS (ls : List LRowS) (w : World) (en : Ending) (w' : World) : Prop := ∃ v, en = .returned v ∧ w'.ownsRow w.heap.size 9 1 v (sumLS ls) (flatLS ls) ∧ Below w.heap.size w w'
def ListsAtS (w : World) (A : Option Addr) (ls : List LRowS) : Prop :=
  Reads w w.heap.size 1 A ls.length (ls.map fun x => x.1) ∧ ∀ x ∈ ls, RowRS w w.heap.size x.1 x.2.1 x.2.2 ∧ ∀ u ∈ x.2.2, u.oneCell' = true

set_option maxHeartbeats 4000000 in
theorem concat_anyS (A : Option Addr) (m c : Nat) (ls : List LRowS) (w : World) (hm : ls.length = m) (hl : ListsAtS w A ls) (hn : sumLS ls ≤ 10000000) (hms : m ≤ 1000) :
    Calls Try.prog 28 #[.slice A m c] w (ConcatPostS ls w) := by
  have hms2 : (m : Int) ≤ 1000 := by omega
  have HL := Lib.hid hl
  have HM := Lib.hid hm
  have HN := Lib.hid hn
  clear hl hm hn
  go_enter Try.func28, Try.ntmps28
  go_wp2
  go_loopw [3, 5, 11] (fun sv _ iv wr => wr = w ∧ ∃ p : Nat, sv = .int .i64 (sumLS (ls.take p) : Int) ∧ iv = .int .i64 (p : Int) ∧ p ≤ m) (fun _ _ iv _ => m - (Lib.intOf iv).toNat)
  case atStart => exact ⟨rfl, 0, by simp [sumLS], rfl, Nat.zero_le _⟩
  case round =>
    obtain ⟨rfl, p, rfl, rfl, hp⟩ := hrel
    by_cases hlt : p < m
    · obtain ⟨x, hx⟩ : ∃ x, ls[p]? = some x := ⟨ls[p]'(by have := HM.out; omega), by have := HM.out; simp [this, hlt]⟩
      have hq : (p : Int) < (m : Int) := by omega
      have hmem := HL.out.2 x (List.mem_of_getElem? hx)
      obtain ⟨b, o, rfl, hbo, hcells⟩ := HL.out.1.spot (by have := HM.out; omega) (by omega)
      have hc0 : wr.cell? ⟨b, o + p, none⟩ = some x.1 := hcells p _ (by simp [hx])
      obtain ⟨⟨A1, c1, hv, _, _, _⟩, _⟩ := hmem
      rw [hv] at hc0
      have HT := Lib.hid (sumL_takeS ls p x hx)
      have hs1 : (sumLS (ls.take p) : Int) + (x.2.1 : Int) ≤ 10000000 := by
        have h1 := sumL_leS ls (p + 1)
        have h2 := HN.out
        rw [HT.out] at h1
        omega
      have hs2 : ¬ ((sumLS (ls.take p) : Int) + (x.2.1 : Int)) < 0 := by omega
      generalize sumLS (ls.take p) = sp at *
      clear hcells hv
      go_wp2
      go_roundw
      case rel => exact ⟨trivial, p + 1, by rw [HT.out]; simp, by simp, hlt⟩
      case measure => simp [Lib.intOf]; omega
    · obtain rfl : p = m := by omega
      have hq : ¬ (p : Int) < (p : Int) := by omega
      have HT := Lib.hid (show ls.take p = ls from List.take_of_length_le (by have := HM.out; omega))
      rw [HT.out]
      have HG := Lib.hid (grow_anyS (sumLS ls) wr HN.out)
      have hsz : (sumLS ls : Int) ≤ 10000000 := by have := HN.out; omega
      have HF := Lib.hid (show sumLS ls = sumLS ls from rfl)
      clear hlt hq
      go_upto_region 10 with (go_at_call 45; go_loud (refine HG.out.mono ?_; rintro en w1 ⟨v1, rfl, hO1, hG1⟩; have HO1 := Lib.hid hO1; have HG1 := Lib.hid hG1; clear hO1 hG1))
      have HBl := Lib.hid (show Below wr.heap.size wr w1 from ⟨HG1.out.os, HG1.out.tape, HG1.out.output, HG1.out.size, fun k hk => HG1.out.block k hk (by simp)⟩)
      clear HG HG1
      have HR0 := Lib.hid HL.out.1
      have HR1 := Lib.hid HL.out.2
      clear HL
      generalize hbase : wr.heap.size = base at *
      have HBASE := Lib.hid hbase
      clear hbase
      go_wp2
      go_loopw [6, 8, 27] (fun v _ iv W => ∃ q : Nat, iv = .int .i64 (q : Int) ∧ q ≤ p ∧ W.ownsRow base 9 1 v (sumLS (ls.take q)) (flatLS (ls.take q)) ∧ Below base wr W) (fun _ _ iv _ => p - (Lib.intOf iv).toNat)
      case atStart => exact ⟨0, rfl, Nat.zero_le _, by simpa [sumLS, flatLS] using HO1.out, HBl.out⟩
      case round =>
        obtain ⟨q, rfl, hqp, hown, hB⟩ := hrel
        have HO := Lib.hid hown
        have HB := Lib.hid hB
        clear hown hB
        by_cases hlt : q < p
        · obtain ⟨x, hx⟩ : ∃ x, ls[q]? = some x := ⟨ls[q]'(by have := HM.out; omega), by have := HM.out; simp [this, hlt]⟩
          have hq : (q : Int) < (p : Int) := by omega
          have hmem := HR1.out x (List.mem_of_getElem? hx)
          obtain ⟨b, o, rfl, hbo, hcells⟩ := (HR0.out.below HB.out).spot (by have := HM.out; omega) (by omega)
          have hc0 : wr.cell? ⟨b, o + q, none⟩ = some x.1 := hcells q _ (by simp [hx])
          obtain ⟨⟨A1, c1, hv, _, _, hRd⟩, hone⟩ := hmem
          rw [hv] at hc0
          have HT := Lib.hid (And.intro (sumL_takeS ls q x hx) (flatL_takeS ls q x hx))
          have HS := Lib.hid (show sumLS (ls.take q) + x.2.1 ≤ 10000000 by
            have h1 := sumL_leS ls (q + 1)
            have h2 := HN.out
            rw [HT.out.1] at h1
            omega)
          have HRd := Lib.hid (hRd.below HB.out)
          have HOne := Lib.hid hone
          obtain ⟨i0, hi0, hz0, hz1, hz2⟩ := info_parts str_info
          generalize sumLS (ls.take q) = sq at *
          generalize flatLS (ls.take q) = fq at *
          clear hcells hv hRd hone
          go_wp2_with (at_builtin; go_loud (refine wpList_append_any _ rfl (.tmp 31) (.tmp 32) _ rfl base 9 i0 _ 1 16 Try.underlying22 hi0 hz0 hz1 hz2 rfl (by omega) _ sq fq rfl HO.out base A1 x.2.1 c1 x.2.2 rfl HRd.out HOne.out (by have := HS.out; simp only [maxLen]; omega) (by have := HS.out; omega) (by have := HB.out.size; have := HBASE.out; omega) ?_); intro v3 w5 hown3 hg3 hat3; have HO5 := Lib.hid hown3; have HG5 := Lib.hid hg3; have HA5 := Lib.hid hat3; clear hown3 hg3 hat3)
          go_roundw
          case rel => exact ⟨q + 1, by simp, hlt, by rw [HT.out.1, HT.out.2]; exact HO5.out, HB.out.grown HG5.out (by have := HB.out.size; have := HBASE.out; omega) (fun k hk => (HO.out.lt k hk).1)⟩
          case measure => simp [Lib.intOf]; omega
        · have hq : ¬ (q : Int) < (p : Int) := by omega
          have HT2 := Lib.hid (show ls.take q = ls from List.take_of_length_le (by have := HM.out; omega))
          rw [HT2.out] at HO
          go_wp2
          go_ret
          exact ⟨_, rfl, by rw [HBASE.out]; exact HO.out, by rw [HBASE.out]; exact HB.out⟩
end Go.Proofs.Ytagekiaejhjpnaa
