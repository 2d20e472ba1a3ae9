/-
  The law OctetPuts answers true for every slice of bytes and all numbers, and leaves the bytes as they were. No condition.
-/
import Derived.Test.YtfkkfkfngdpgbaaRows
import Derived.Test.YtfkkfkfngdpgbaaOctWakes
import Derived.Test.YtfkkfkfngdpgbaaConv
import Derived.Test.YtfkkfkfngdpgbaaRegion
import Derived.WalkKit
import Derived.Outline
import Derived.ProofKit
import Derived.OpenShut
import Derived.ShutString
import Derived.ChangeOld
import Derived.Below
import Derived.Deep.CondSized
namespace Go.Proofs.Ytfkkfkfngdpgbaa.octetPuts
open Go.ChangeShapes Go.WideShapes Go.ChangeAt Go.RowKit
open Go.ChangeMaps (open_string shut_string)
set_option linter.unusedVariables false

theorem own : ownKnob Try.prog.godebug = none := by kernel_rfl
theorem laidOut : laidOutB Try.prog = true := by kernel_rfl

/-- What the walk is told of a slice of integers that came in: it is nil, or it leads to a row of 'cap' cells. -/
def IsRow (k : IntKind) (w : World) (a : Option Addr) (len cap : Nat) (zs : List Int) : Prop :=
  (a = none ∧ len = 0 ∧ cap = 0 ∧ zs = []) ∨
  ∃ x, a = some x ∧ len ≤ cap ∧ cap ≤ maxLen ∧ zs.length = cap ∧ (∀ i, i < zs.length → w.cell? (x.add i) = some (.int k (zs.getD i 0))) ∧ ∀ n ∈ zs, (Lit.int k n).wf = true
theorem bulk_lits {H : Type} (k : IntKind) : ∀ zs : List Int, Rows.uptoBulkAll (lits (H := H) k zs) = zs.length
  | [] => rfl
  | n :: zs => by
    have := bulk_lits (H := H) k zs
    simp only [lits] at this
    simp only [lits, List.map_cons, Rows.uptoBulkAll, Rows.uptoBulk, List.length_cons, this]
    omega
theorem bulk_row {H : Type} (k : IntKind) (zs : List Int) (len : Nat) {cap : Nat} (hl : len ≤ cap) (hz : zs.length = cap) : Rows.uptoBulk (.slice (lits (H := H) k (zs.take len)) (lits k (zs.drop len))) = cap + 1 := by
  simp only [Rows.uptoBulk, bulk_lits, List.length_take, List.length_drop, hz]
  omega

set_option maxHeartbeats 4000000 in
theorem walk (a0 : Option Addr) (len0 cap0 : Nat) (z0 : List Int) (a1 : Int) (a2 : Int) (w : World) (w0 : IsRow .u8 w a0 len0 cap0 z0) (hcap0 : cap0 * 1 ≤ 140737488351232) (w1 : (Lit.int .u16 a1).wf = true) (w2 : (Lit.int .u32 a2).wf = true) :
    Calls Try.prog 5 #[.slice a0 len0 cap0, .int .u16 a1, .int .u32 a2] w fun e w' => e = .returned (.bool true) ∧ Below w.heap.size w w' := by
  obtain ⟨l, rfl, hr, hlc, hm, hc⟩ := rb_of_row w0
  have hx := bounds_u16 w1
  have hy := bounds_u32 w2
  obtain ⟨x, rfl⟩ := Int.eq_ofNat_of_zero_le hx.1
  obtain ⟨y, rfl⟩ := Int.eq_ofNat_of_zero_le hy.1
  have hl : l.length ≤ 140737488351232 := by omega
  clear hcap0 hc hlc w0 w1 w2
  obtain ⟨l2, hl2⟩ : ∃ l2, l2 = l ++ le 2 x := ⟨_, rfl⟩
  obtain ⟨l3, hl3⟩ : ∃ l3, l3 = l ++ le 4 y := ⟨_, rfl⟩
  have HL2 := Lib.hid hl2
  have HL3 := Lib.hid hl3
  clear hl2 hl3
  go_enter Try.func5, Try.ntmps5
  go_wp2_with (go_at_call 11; refine (wakes_any _).mono ?_; rintro e wa ⟨rfl, hba⟩)
  go_wp2_with fail
  have hz := hba.size
  refine (both_any l [] a0 none cap0 0 w.heap.size wa (hr.below hba) Reads.none_ hz (by simp; omega)).mono ?_
  rintro e wb ⟨v7, rfl, ho7, hbb⟩
  rw [List.append_nil] at ho7
  obtain ⟨A1, c1, rfl, hlc1, hcm1, hr1⟩ := ho7.form
  have hz1 := hbb.size
  go_wp2_with fail
  refine (put16_any l x a0 cap0 w.heap.size wb ((hr.below hba).below (below_mono hbb hz)) (by omega) (by omega) (by omega)).mono ?_
  rintro e wc ⟨v8, rfl, ho8, hbc⟩
  rw [← HL2.out] at ho8
  obtain ⟨A2, c2, rfl, hlc2, hcm2, hr2⟩ := ho8.form
  have hz2 := hbc.size
  go_wp2_with fail
  refine (put32_any l y a0 cap0 w.heap.size wc (((hr.below hba).below (below_mono hbb hz)).below (below_mono hbc (by omega))) (by omega) (by omega) (by omega)).mono ?_
  rintro e wd ⟨v9, rfl, ho9, hbd⟩
  rw [← HL3.out] at ho9
  obtain ⟨A3, c3, rfl, hlc3, hcm3, hr3⟩ := ho9.form
  have hz3 := hbd.size
  have hbw : Below w.heap.size w wd := ((hba.trans (below_mono hbb hz)).trans (below_mono hbc (by omega))).trans (below_mono hbd (by omega))
  go_wp2_with fail
  have hr0 : RB wd wd.heap.size a0 l := (hr.below hbw).more hbw.size
  replace hr1 : RB wd wd.heap.size A1 l := ((hr1.below hbc).below (below_mono hbd (by omega))).more (by omega)
  replace hr2 : RB wd wd.heap.size A2 l2 := (hr2.below hbd).more hbd.size
  clear ho7 ho8 ho9 hba hbb hbc hbd hr
  refine wp_region_facts (by kernel_rfl) [(20, Fact.is (.slice A2 l2.length c2)), (21, Fact.is (.string (str l2))), (22, Fact.is (.slice A1 l.length c1)), (23, Fact.is (.int .u16 (x : Int))), (24, Fact.is (.int .u32 (x : Int))), (25, Fact.bytes wd.heap.size 5 (le 2 x)), (26, Fact.bytes wd.heap.size 5 (l2)), (27, Fact.is (.string (str l2))), (28, Fact.is (.bool true)), (29, Fact.is (.bool true)), (30, Fact.is (.slice A3 l3.length c3)), (31, Fact.is (.string (str l3))), (32, Fact.is (.slice A1 l.length c1)), (33, Fact.is (.int .u32 (y : Int))), (34, Fact.bytes wd.heap.size 5 (le 4 y)), (35, Fact.bytes wd.heap.size 5 (l3)), (36, Fact.is (.string (str l3))), (37, Fact.is (.bool true)), (38, Fact.is (.bool true)), (39, Fact.is (.bool true)), (40, Fact.is (.slice a0 l.length cap0)), (41, Fact.is (.string (str l))), (42, Fact.is (.slice A1 l.length c1)), (43, Fact.is (.string (str l))), (44, Fact.is (.bool true)), (45, Fact.is (.bool true)), (6, Fact.is (.bool true))] [false, false, false, false, false, false, true, false, false, false, false, false, false, false, false, false, false, false, false, false, true, true, true, true, true, true, true, true, true, true, true, true, true, true, true, true, true, true, true, true, true, true, true, true, true, true] (by kernel_rfl) (by kernel_rfl) ?_ ?_
  · refine ⟨?_, ?_, ?_, ?_, ?_, ?_, ?_, ?_, ?_, ?_, ?_, ?_, ?_, ?_, ?_, ?_, ?_, ?_, ?_, ?_, ?_, ?_, ?_, ?_, ?_, ?_, ?_, trivial⟩
    · intro s ww hE hs hl K hK
      clear hs hl
      simp only [frameM, fillM, Nat.reduceAdd, Act.put, List.setIfInBounds_toArray, List.set_cons_succ, List.set_cons_zero] at hK ⊢
      go_simp
      exact hK _ _ (Below.refl _ _) rfl
    · intro s ww hE hs hl K hK
      have h20 : s 20 = .slice A2 l2.length c2 := hs 20 (by kernel_rfl)
      clear hs hl
      simp only [frameM, fillM, Nat.reduceAdd, Act.put, List.setIfInBounds_toArray, List.set_cons_succ, List.set_cons_zero, h20] at hK ⊢
      have hcv := conv_rb (P := Try.prog) 22 9 5 c2 Try.underlying22 Try.underlying5 Try.underlying9 (hr2.below hE)
      go_simp
      exact hK _ _ (Below.refl _ _) rfl
    · intro s ww hE hs hl K hK
      clear hs hl
      simp only [frameM, fillM, Nat.reduceAdd, Act.put, List.setIfInBounds_toArray, List.set_cons_succ, List.set_cons_zero] at hK ⊢
      go_simp
      exact hK _ _ (Below.refl _ _) rfl
    · intro s ww hE hs hl K hK
      clear hs hl
      simp only [frameM, fillM, Nat.reduceAdd, Act.put, List.setIfInBounds_toArray, List.set_cons_succ, List.set_cons_zero] at hK ⊢
      go_simp
      exact hK _ _ (Below.refl _ _) rfl
    · intro s ww hE hs hl K hK
      have h23 : s 23 = .int .u16 (x : Int) := hs 23 (by kernel_rfl)
      clear hs hl
      have hwx : IntKind.u32.wrap (x : Int) = (x : Int) := by rw [IntKind.wrap_u32]; omega
      simp only [frameM, fillM, Nat.reduceAdd, Act.put, List.setIfInBounds_toArray, List.set_cons_succ, List.set_cons_zero, h23] at hK ⊢
      go_simp
      exact hK _ _ (Below.refl _ _) rfl
    · intro s ww hE hs hl K hK
      have h24 : s 24 = .int .u32 (x : Int) := hs 24 (by kernel_rfl)
      clear hs hl
      simp only [frameM, fillM, Nat.reduceAdd, Act.put, List.setIfInBounds_toArray, List.set_cons_succ, List.set_cons_zero, h24] at hK ⊢
      go_simp
      go_at_call 15
      refine (low_any 2 x _ (by omega) (by omega)).mono ?_
      rintro e we ⟨v, rfl, ho, hb⟩
      exact hK _ _ hb (ho.base hE.size)
    · intro s ww hE hs hl K hK
      have h22 : s 22 = .slice A1 l.length c1 := hs 22 (by kernel_rfl)
      have h25 : OB ww wd.heap.size 5 (s 25) (le 2 x) := hs 25 (by kernel_rfl)
      clear hs hl
      obtain ⟨A5, c5, e5, hl5, hm5, hr5⟩ := h25.form
      simp only [frameM, fillM, Nat.reduceAdd, Act.put, List.setIfInBounds_toArray, List.set_cons_succ, List.set_cons_zero, h22, e5] at hK ⊢
      have hn5 : (le 2 x).length ≤ 4 := by rw [le_len]; omega
      have hz5 := hE.size
      go_simp
      go_at_call 13
      refine (both_any l (le 2 x) A1 A5 c1 c5 ww.heap.size ww ((hr1.below hE).more hz5) hr5 (Nat.le_refl _) (by omega)).mono ?_
      rintro e we ⟨v, rfl, ho, hb⟩
      rw [← HL2.out] at ho
      exact hK _ _ hb (ho.base hz5)
    · intro s ww hE hs hl K hK
      have h26 : OB ww wd.heap.size 5 (s 26) (l2) := hs 26 (by kernel_rfl)
      clear hs hl
      obtain ⟨A5, c5, e5, hl5, hm5, hr5⟩ := h26.form
      simp only [frameM, fillM, Nat.reduceAdd, Act.put, List.setIfInBounds_toArray, List.set_cons_succ, List.set_cons_zero, e5] at hK ⊢
      have hcv := conv_rb (P := Try.prog) 22 9 5 c5 Try.underlying22 Try.underlying5 Try.underlying9 hr5
      go_simp
      exact hK _ _ (Below.refl _ _) rfl
    · intro s ww hE hs hl K hK
      have h21 : s 21 = .string (str l2) := hs 21 (by kernel_rfl)
      have h27 : s 27 = .string (str l2) := hs 27 (by kernel_rfl)
      clear hs hl
      simp only [frameM, fillM, Nat.reduceAdd, Act.put, List.setIfInBounds_toArray, List.set_cons_succ, List.set_cons_zero, h21, h27] at hK ⊢
      go_simp
      exact hK _ _ (Below.refl _ _) rfl
    · intro s ww hE hs hl K hK
      have h28 : s 28 = .bool true := hs 28 (by kernel_rfl)
      clear hs hl
      simp only [frameM, fillM, Nat.reduceAdd, Act.put, List.setIfInBounds_toArray, List.set_cons_succ, List.set_cons_zero, h28] at hK ⊢
      go_simp
      exact hK _ _ (Below.refl _ _) rfl
    · intro s ww hE hs hl K hK
      have h29 : s 29 = .bool true := hs 29 (by kernel_rfl)
      clear hs hl
      simp only [frameM, fillM, Nat.reduceAdd, Act.put, List.setIfInBounds_toArray, List.set_cons_succ, List.set_cons_zero, h29] at hK ⊢
      go_simp
      exact hK _ _ (Below.refl _ _) rfl
    · intro s ww hE hs hl K hK
      have h30 : s 30 = .slice A3 l3.length c3 := hs 30 (by kernel_rfl)
      have h29 : s 29 = .bool true := hs 29 (by kernel_rfl)
      clear hs hl
      simp only [frameM, fillM, Nat.reduceAdd, Act.put, List.setIfInBounds_toArray, List.set_cons_succ, List.set_cons_zero, h30, h29] at hK ⊢
      have hcv := conv_rb (P := Try.prog) 22 9 5 c3 Try.underlying22 Try.underlying5 Try.underlying9 (hr3.below hE)
      go_simp
      exact hK _ _ (Below.refl _ _) rfl
    · intro s ww hE hs hl K hK
      have h29 : s 29 = .bool true := hs 29 (by kernel_rfl)
      clear hs hl
      simp only [frameM, fillM, Nat.reduceAdd, Act.put, List.setIfInBounds_toArray, List.set_cons_succ, List.set_cons_zero, h29] at hK ⊢
      go_simp
      exact hK _ _ (Below.refl _ _) rfl
    · intro s ww hE hs hl K hK
      have h29 : s 29 = .bool true := hs 29 (by kernel_rfl)
      clear hs hl
      simp only [frameM, fillM, Nat.reduceAdd, Act.put, List.setIfInBounds_toArray, List.set_cons_succ, List.set_cons_zero, h29] at hK ⊢
      go_simp
      exact hK _ _ (Below.refl _ _) rfl
    · intro s ww hE hs hl K hK
      have h33 : s 33 = .int .u32 (y : Int) := hs 33 (by kernel_rfl)
      have h29 : s 29 = .bool true := hs 29 (by kernel_rfl)
      clear hs hl
      simp only [frameM, fillM, Nat.reduceAdd, Act.put, List.setIfInBounds_toArray, List.set_cons_succ, List.set_cons_zero, h33, h29] at hK ⊢
      go_simp
      go_at_call 15
      refine (low_any 4 y _ (by omega) (by omega)).mono ?_
      rintro e we ⟨v, rfl, ho, hb⟩
      exact hK _ _ hb (ho.base hE.size)
    · intro s ww hE hs hl K hK
      have h32 : s 32 = .slice A1 l.length c1 := hs 32 (by kernel_rfl)
      have h34 : OB ww wd.heap.size 5 (s 34) (le 4 y) := hs 34 (by kernel_rfl)
      have h29 : s 29 = .bool true := hs 29 (by kernel_rfl)
      clear hs hl
      obtain ⟨A5, c5, e5, hl5, hm5, hr5⟩ := h34.form
      simp only [frameM, fillM, Nat.reduceAdd, Act.put, List.setIfInBounds_toArray, List.set_cons_succ, List.set_cons_zero, h32, h29, e5] at hK ⊢
      have hn5 : (le 4 y).length ≤ 4 := by rw [le_len]; omega
      have hz5 := hE.size
      go_simp
      go_at_call 13
      refine (both_any l (le 4 y) A1 A5 c1 c5 ww.heap.size ww ((hr1.below hE).more hz5) hr5 (Nat.le_refl _) (by omega)).mono ?_
      rintro e we ⟨v, rfl, ho, hb⟩
      rw [← HL3.out] at ho
      exact hK _ _ hb (ho.base hz5)
    · intro s ww hE hs hl K hK
      have h35 : OB ww wd.heap.size 5 (s 35) (l3) := hs 35 (by kernel_rfl)
      have h29 : s 29 = .bool true := hs 29 (by kernel_rfl)
      clear hs hl
      obtain ⟨A5, c5, e5, hl5, hm5, hr5⟩ := h35.form
      simp only [frameM, fillM, Nat.reduceAdd, Act.put, List.setIfInBounds_toArray, List.set_cons_succ, List.set_cons_zero, h29, e5] at hK ⊢
      have hcv := conv_rb (P := Try.prog) 22 9 5 c5 Try.underlying22 Try.underlying5 Try.underlying9 hr5
      go_simp
      exact hK _ _ (Below.refl _ _) rfl
    · intro s ww hE hs hl K hK
      have h31 : s 31 = .string (str l3) := hs 31 (by kernel_rfl)
      have h36 : s 36 = .string (str l3) := hs 36 (by kernel_rfl)
      have h29 : s 29 = .bool true := hs 29 (by kernel_rfl)
      clear hs hl
      simp only [frameM, fillM, Nat.reduceAdd, Act.put, List.setIfInBounds_toArray, List.set_cons_succ, List.set_cons_zero, h31, h36, h29] at hK ⊢
      go_simp
      exact hK _ _ (Below.refl _ _) rfl
    · intro s ww hE hs hl K hK
      have h29 : s 29 = .bool true := hs 29 (by kernel_rfl)
      have h37 : s 37 = .bool true := hs 37 (by kernel_rfl)
      clear hs hl
      simp only [frameM, fillM, Nat.reduceAdd, Act.put, List.setIfInBounds_toArray, List.set_cons_succ, List.set_cons_zero, h29, h37] at hK ⊢
      go_simp
      exact hK _ _ (Below.refl _ _) rfl
    · intro s ww hE hs hl K hK
      have h38 : s 38 = .bool true := hs 38 (by kernel_rfl)
      clear hs hl
      simp only [frameM, fillM, Nat.reduceAdd, Act.put, List.setIfInBounds_toArray, List.set_cons_succ, List.set_cons_zero, h38] at hK ⊢
      go_simp
      exact hK _ _ (Below.refl _ _) rfl
    · intro s ww hE hs hl K hK
      have h39 : s 39 = .bool true := hs 39 (by kernel_rfl)
      clear hs hl
      simp only [frameM, fillM, Nat.reduceAdd, Act.put, List.setIfInBounds_toArray, List.set_cons_succ, List.set_cons_zero, h39] at hK ⊢
      go_simp
      exact hK _ _ (Below.refl _ _) rfl
    · intro s ww hE hs hl K hK
      have h40 : s 40 = .slice a0 l.length cap0 := hs 40 (by kernel_rfl)
      have h39 : s 39 = .bool true := hs 39 (by kernel_rfl)
      clear hs hl
      simp only [frameM, fillM, Nat.reduceAdd, Act.put, List.setIfInBounds_toArray, List.set_cons_succ, List.set_cons_zero, h40, h39] at hK ⊢
      have hcv := conv_rb (P := Try.prog) 22 9 5 cap0 Try.underlying22 Try.underlying5 Try.underlying9 (hr0.below hE)
      go_simp
      exact hK _ _ (Below.refl _ _) rfl
    · intro s ww hE hs hl K hK
      have h39 : s 39 = .bool true := hs 39 (by kernel_rfl)
      clear hs hl
      simp only [frameM, fillM, Nat.reduceAdd, Act.put, List.setIfInBounds_toArray, List.set_cons_succ, List.set_cons_zero, h39] at hK ⊢
      go_simp
      exact hK _ _ (Below.refl _ _) rfl
    · intro s ww hE hs hl K hK
      have h42 : s 42 = .slice A1 l.length c1 := hs 42 (by kernel_rfl)
      have h39 : s 39 = .bool true := hs 39 (by kernel_rfl)
      clear hs hl
      simp only [frameM, fillM, Nat.reduceAdd, Act.put, List.setIfInBounds_toArray, List.set_cons_succ, List.set_cons_zero, h42, h39] at hK ⊢
      have hcv := conv_rb (P := Try.prog) 22 9 5 c1 Try.underlying22 Try.underlying5 Try.underlying9 (hr1.below hE)
      go_simp
      exact hK _ _ (Below.refl _ _) rfl
    · intro s ww hE hs hl K hK
      have h41 : s 41 = .string (str l) := hs 41 (by kernel_rfl)
      have h43 : s 43 = .string (str l) := hs 43 (by kernel_rfl)
      have h39 : s 39 = .bool true := hs 39 (by kernel_rfl)
      clear hs hl
      simp only [frameM, fillM, Nat.reduceAdd, Act.put, List.setIfInBounds_toArray, List.set_cons_succ, List.set_cons_zero, h41, h43, h39] at hK ⊢
      go_simp
      exact hK _ _ (Below.refl _ _) rfl
    · intro s ww hE hs hl K hK
      have h39 : s 39 = .bool true := hs 39 (by kernel_rfl)
      have h44 : s 44 = .bool true := hs 44 (by kernel_rfl)
      clear hs hl
      simp only [frameM, fillM, Nat.reduceAdd, Act.put, List.setIfInBounds_toArray, List.set_cons_succ, List.set_cons_zero, h39, h44] at hK ⊢
      go_simp
      exact hK _ _ (Below.refl _ _) rfl
    · intro s ww hE hs hl K hK
      have h45 : s 45 = .bool true := hs 45 (by kernel_rfl)
      clear hs hl
      simp only [frameM, fillM, Nat.reduceAdd, Act.put, List.setIfInBounds_toArray, List.set_cons_succ, List.set_cons_zero, h45] at hK ⊢
      go_simp
      exact hK _ _ (Below.refl _ _) rfl
  · intro s ww hE hs
    have h6 : s 6 = .bool true := hs 6 (by kernel_rfl)
    clear hs
    simp only [frameM, fillM, Nat.reduceAdd]
    go_wp2_with fail
    go_ret
    simp only [Array.getD_eq_getD_getElem?]
    exact ⟨by simp [h6], hbw.trans (below_mono hE hbw.size)⟩

set_option maxRecDepth 100000 in
theorem contract (H : Type) (enc : TypeId × Value → H) (W : World) (base : Nat) (args : Array Value) (ds gs : List (DataW H)) (before : List MemPlace)
    (hval0 : ∀ (j : Nat) t v, Try.f5.params[j]? = some t → args[j]? = some v → Value.okWide Try.prog W .any base t v)
    (hW : DataW.Whole enc Try.prog Try.f5.params.toList Rows.octetPutsSpec.vars false W args.toList ds gs before)
    (hsz0 : (DataW.weightsEach Try.prog (Try.f5.params.toList ++ Rows.octetPutsSpec.plain.varTypes Try.prog) (ds ++ gs)).all (· ≤ reachBytes) = true) :
    Calls Try.prog 5 args W fun e W' => ∃ v, e = .returned v ∧ Rows.octetPutsSpec.post enc Try.prog Try.f5 false true false false W args v W' := by
  have hval : ∀ (j : Nat) t v, Try.f5.params[j]? = some t → args[j]? = some v → Value.okWide Try.prog W .any base t v := hval0
  have hsz : (DataW.weightsEach Try.prog (Try.f5.params.toList ++ Rows.octetPutsSpec.plain.varTypes Try.prog) (ds ++ gs)).all (· ≤ reachBytes) = true := hsz0
  have hW' := hW
  obtain ⟨p, q, hA0, hV, rfl, hfz, hnd⟩ := hW
  have hA : DataW.TrodAll enc Try.prog W 0 (fun _ => true) true Try.f5.params.toList args.toList ds p := hA0
  rw [Try.params5] at hA hval hsz
  obtain ⟨v0, vs0, d0, ds0, p0, q0, hargs, rfl, rfl, h0, r0⟩ := trodAll_cons hA
  obtain ⟨v1, vs1, d1, ds1, p1, q1, rfl, rfl, rfl, h1, r1⟩ := trodAll_cons r0
  obtain ⟨v2, vs2, d2, ds2, p2, q2, rfl, rfl, rfl, h2, r2⟩ := trodAll_cons r1
  obtain ⟨rfl, rfl, rfl⟩ := trodAll_nil r2
  obtain rfl : args = #[v0, v1, v2] := by cases args; simp_all
  obtain ⟨rfl, rfl⟩ := trodVars_none hV
  obtain ⟨a0, len0, cap0, rfl⟩ := okWide_slice Try.underlying22 (hval 0 22 v0 rfl rfl)
  have k0 := h0
  have lt0 : ∀ x ∈ p0, x.block < W.heap.size := by obtain ⟨m, hm⟩ := k0; exact DataW.trod_lt m _ _ _ hm
  obtain ⟨z0, w0, hcap0, hbk0⟩ : ∃ zs, IsRow .u8 W a0 len0 cap0 zs ∧ cap0 * 1 ≤ 140737488351232 ∧ Rows.uptoBulk d0 = cap0 + 1 := by
    obtain ⟨fuel, hf⟩ := h0
    rcases open_ints Try.underlying22 Try.underlying5 (by kernel_rfl) hf with ⟨hcs, hx⟩ | ⟨x, l, c, zs, hcs, _, hl, hm, hz, hx, hcell, hwz⟩
    · simp [Value.cells] at hcs
      obtain ⟨rfl, rfl, rfl⟩ := hcs
      simp only [Prod.mk.injEq] at hx
      exact ⟨[], .inl ⟨rfl, rfl, rfl, rfl⟩, by omega, by rw [hx.1]; simp [Rows.uptoBulk]⟩
    · simp [Value.cells] at hcs
      obtain ⟨rfl, rfl, rfl⟩ := hcs
      simp only [Prod.mk.injEq] at hx
      obtain ⟨hd, _⟩ := hx
      have hz' : zs.length = cap0 := by simpa using hz
      refine ⟨zs, .inr ⟨_, rfl, hl, hm, hz', hcell, hwz⟩, ?_, by rw [hd]; exact bulk_row _ _ _ hl hz'⟩
      have hb := sized_slice hsz (j := 0) (t := 22) (e := 5) rfl (by rw [← hd]; rfl) Try.underlying22
      rw [show Try.prog.bytesOf 5 = 1 from by kernel_rfl] at hb
      simp only [lits, List.length_map, List.length_take, List.length_drop, reachBytes, hz'] at hb
      rw [Nat.min_eq_left hl] at hb
      rw [show len0 + (cap0 - len0) = cap0 from by omega] at hb
      simpa using hb
  obtain ⟨a1, rfl, rfl, rfl, w1⟩ := open_int Try.underlying29 (hval 1 29 v1 rfl rfl) h1
  obtain ⟨a2, rfl, rfl, rfl, w2⟩ := open_int Try.underlying23 (hval 2 23 v2 rfl rfl) h2
  clear hA0 hval0
  refine (walk a0 len0 cap0 z0 a1 a2 W w0 hcap0 w1 w2).mono fun e W' ⟨he, bel⟩ => ?_
  subst he
  exact ⟨_, rfl, _, _, _, [], _, [], hW', trodAll_mk1 (shut_bool Try.underlying4 _), (trodAll_cons_mk (Below.trod laidOut (by kernel_rfl) (of_decide_eq_true (by kernel_rfl)) k0 bel lt0) (trodAll_cons_mk (shut_int Try.underlying29 w1) (trodAll_cons_mk (shut_int Try.underlying23 w2) trodAll_mk0))), rfl, bel.frame _, fun h => by cases h⟩

set_option maxRecDepth 100000 in
theorem lifted (os : Os) (started : os.Started) (H : Type) (enc : TypeId × Value → H) :
    ReturnsInHanded {} Try.checked os 5 .any (Rows.octetPutsSpec.pre6 enc Try.prog Try.f5 Rows.octetPutsRow.domain false) (Rows.octetPutsSpec.post enc Try.prog Try.f5 false true false false) := by
  refine returnsInHanded_of_change_sized (C := Try.checked) own started (by kernel_rfl) Try.func5
    (ChangeSpec.witness6 (enc := enc) (C := Try.checked) false ⟨#[], #[.slice none 0 0, .int .u16 0, .int .u32 0], []⟩ 8 (by kernel_rfl) (by kernel_rfl) (by kernel_rfl) (by kernel_rfl)) ?_
  intro W base args ds gs before hval hW _ hsz _
  exact contract H enc W base args ds gs before hval hW hsz

theorem over : Rows.octetPutsRow.holds Try.pinned (OpenSpec.ofChange Rows.octetPutsSpec) :=
  OpenClaim.holds_of_wide 5 Try.f5 rfl rfl rfl rfl rfl rfl rfl ⟨rfl, rfl, rfl, rfl, rfl⟩ rfl rfl rfl rfl rfl (by kernel_rfl) Try.func5 (by kernel_rfl)
    (of_decide_eq_true (by kernel_rfl)) (by unfold Func.isWrapper; first | (rw [if_pos (by decide +kernel)]; kernel_rfl) | (rw [if_neg (by decide +kernel)]; exact ⟨rfl, rfl⟩))
    (fun os started H enc _ => lifted os started H enc)

/-- The statement. -/
theorem proved : Rows.OctetPutsSaid := over
#print axioms proved
end Go.Proofs.Ytfkkfkfngdpgbaa.octetPuts
