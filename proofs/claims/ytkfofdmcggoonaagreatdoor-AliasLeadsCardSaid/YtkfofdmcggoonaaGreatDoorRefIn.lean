/-
  The walks of ref13's SameStep and In. Condition: the texts are within the reach; the second path of In is right and not empty.
-/
import Derived.Test.YtkfofdmcggoonaaGreatDoorRefParse
import Derived.Test.YtkfofdmcggoonaaGreatDoorAliasRing
import Derived.Test.YtkfofdmcggoonaaGreatDoorPairs
import Derived.Deep.RegionHeld3
import Derived.BigQuiet
set_option linter.unusedVariables false
set_option linter.unusedSimpArgs false
namespace Go.Proofs.YtkfofdmcggoonaaGreatDoor
open Go.RowKit

theorem take_snoc_iff {α : Type} {k l : List α} {p : Nat} {x y : α} (h : k.take p = l.take p) (hx : k[p]? = some x) (hy : l[p]? = some y) (e : x = y) : k.take (p + 1) = l.take (p + 1) := by
  rw [List.take_add_one, List.take_add_one, hx, hy, h, e]
theorem differs {α : Type} {k l : List α} {p : Nat} {x y : α} (hx : k[p]? = some x) (hy : l[p]? = some y) (e : ¬ x = y) : ¬ k = l := fun h => by
  rw [h, hy] at hx
  exact e (Option.some.inj hx).symm
-- BEGIN same
set_option maxHeartbeats 4000000 in
set_option maxRecDepth 100000 in
theorem samestep_any (n1 n2 : ByteArray) (k1 k2 : List PKey) (u1 u2 : Value) (w : World) (h1 : KeysAt w w.heap.size u1 k1) (h2 : KeysAt w w.heap.size u2 k2) (hl1 : k1.length ≤ 1000000) (hl2 : k2.length ≤ 1000000) :
    Calls Tryz.prog 54 #[.agg #[.string n1, u1], .agg #[.string n2, u2]] w fun en w' => en = .returned (.bool (decide (((n1, k1) : PStep) = (n2, k2)))) ∧ Below w.heap.size w w' := by
  obtain ⟨A1, c1, rfl, hc1, hm1, hr1⟩ := h1
  obtain ⟨A2, c2, rfl, hc2, hm2, hr2⟩ := h2
  unfold maxLen at hm1 hm2
  have HBX := Lib.hid (show Below w.heap.size w ((w.alloc (.cells #[.string n1, .slice A1 k1.length c1] 70)).alloc (.cells #[.string n2, .slice A2 k2.length c2] 70)) from ((Below.refl _ w).alloc (Nat.le_refl _) _).alloc (by simp) _)
  have hB1 := (Blk.new w 70 #[.string n1, .slice A1 k1.length c1]).alloc (.cells #[.string n2, .slice A2 k2.length c2] 70)
  have hB2 := Blk.new (w.alloc (.cells #[.string n1, .slice A1 k1.length c1] 70)) 70 #[.string n2, .slice A2 k2.length c2]
  have HR1 := Lib.hid (hr1.below HBX.out)
  have HR2 := Lib.hid (hr2.below HBX.out)
  clear hr1 hr2
  go_enter Tryz.func54, Tryz.ntmps54
  go_upto_region 1 with (fail)
  have hsz : (w.alloc (.cells #[.string n1, .slice A1 k1.length c1] 70)).heap.size = w.heap.size + 1 := by simp
  rw [hsz] at hB2
  clear hsz
  generalize (w.alloc (.cells #[.string n1, .slice A1 k1.length c1] 70)).alloc (.cells #[.string n2, .slice A2 k2.length c2] 70) = w1 at *
  have z0 : w1.cell? ⟨w.heap.size, 0, none⟩ = some (.string n1) := hB1.cell 0
  have z1 : w1.cell? ⟨w.heap.size, 1, none⟩ = some (.slice A1 k1.length c1) := hB1.cell 1
  have z2 : w1.cell? ⟨w.heap.size + 1, 0, none⟩ = some (.string n2) := hB2.cell 0
  have z3 : w1.cell? ⟨w.heap.size + 1, 1, none⟩ = some (.slice A2 k2.length c2) := hB2.cell 1
  have hs1 := hB1.lt
  have hs2 := hB2.lt
  clear hB1 hB2
  by_cases hn : n1 = n2
  · subst hn
    have hn2 : (n1.toList == n1.toList) = true := by simp
    by_cases hl : k1.length = k2.length
    · obtain ⟨N, hN1, hN2⟩ : ∃ N, k1.length = N ∧ k2.length = N := ⟨_, rfl, hl.symm⟩
      rw [hN1] at hl1 hc1 HR1 z1 ⊢
      rw [hN2] at hl2 hc2 HR2 z3 ⊢
      have HN1 := Lib.hid hN1
      have HN2 := Lib.hid hN2
      clear hl hN1 hN2
      go_wp2
      go_loopw [5] (fun iv wr => ∃ p : Nat, iv = .int .i64 (p : Int) ∧ p ≤ N ∧ k1.take p = k2.take p ∧ Below w1.heap.size w1 wr) (fun iv _ => N - (Lib.intOf iv).toNat)
      case atStart => exact ⟨0, rfl, Nat.zero_le _, rfl, Below.refl _ _⟩
      case round =>
        obtain ⟨p, rfl, hp, heq, hB⟩ := hrel
        have HEQ := Lib.hid heq
        have HB := Lib.hid hB
        clear heq hB
        have y0 : wr.cell? ⟨w.heap.size, 0, none⟩ = some (.string n1) := (HB.out.cell (p := ⟨w.heap.size, 0, none⟩) hs1).trans z0
        have y1 : wr.cell? ⟨w.heap.size, 1, none⟩ = some (.slice A1 N c1) := (HB.out.cell (p := ⟨w.heap.size, 1, none⟩) hs1).trans z1
        have y2 : wr.cell? ⟨w.heap.size + 1, 0, none⟩ = some (.string n1) := (HB.out.cell (p := ⟨w.heap.size + 1, 0, none⟩) hs2).trans z2
        have y3 : wr.cell? ⟨w.heap.size + 1, 1, none⟩ = some (.slice A2 N c2) := (HB.out.cell (p := ⟨w.heap.size + 1, 1, none⟩) hs2).trans z3
        by_cases hlp : p < N
        · obtain ⟨⟨e1, f1⟩, hx⟩ : ∃ x, k1[p]? = some x := ⟨_, List.getElem?_eq_getElem (by rw [HN1.out]; exact hlp)⟩
          obtain ⟨⟨e2, f2⟩, hy⟩ : ∃ x, k2[p]? = some x := ⟨_, List.getElem?_eq_getElem (by rw [HN2.out]; exact hlp)⟩
          have hq1 : (p : Int) < (N : Int) := by omega
          have hq3 : (0 : Int) ≤ (p : Int) := by omega
          obtain ⟨b1, o1, rfl, hb1, hcl1⟩ := (HR1.out.below (HB.out.mono (Nat.le_of_lt hs1))).spot (by omega) (by omega)
          obtain ⟨b2, o2, rfl, hb2, hcl2⟩ := (HR2.out.below (HB.out.mono (Nat.le_of_lt hs1))).spot (by omega) (by omega)
          have hat1 := pairCells_at k1 p _ hx
          have hat2 := pairCells_at k2 p _ hy
          have x0 : wr.cell? ⟨b1, o1 + p * 2, none⟩ = some (.string e1) := hcl1 _ _ hat1.1
          have x1 : wr.cell? ⟨b1, o1 + p * 2 + 1, none⟩ = some (.string f1) := hcl1 _ _ hat1.2
          have x2 : wr.cell? ⟨b2, o2 + p * 2, none⟩ = some (.string e2) := hcl2 _ _ hat2.1
          have x3 : wr.cell? ⟨b2, o2 + p * 2 + 1, none⟩ = some (.string f2) := hcl2 _ _ hat2.2
          have HX1 := Lib.hid hx
          have HY1 := Lib.hid hy
          clear hcl1 hcl2 hat1 hat2 hx hy
          by_cases hee : e1 = e2
          · subst hee
            have he2 : (e1.toList == e1.toList) = true := by simp
            by_cases hff : f1 = f2
            · subst hff
              have hf2 : (f1.toList == f1.toList) = true := by simp
              have HEN := Lib.hid (take_snoc_iff HEQ.out HX1.out HY1.out rfl)
              go_upto_region 6 with (fail)
              go_quiet (fail)
              go_wp2
              go_roundw
              case rel => exact ⟨p + 1, by go_num, hlp, HEN.out, below_drewN HB.out _⟩
              case measure => simp [Lib.intOf]; omega
            · have hf2 : (f1.toList == f2.toList) = false := by rw [ba_beq]; simpa using hff
              have HX := Lib.hid (show decide (((n1, k1) : PStep) = (n1, k2)) = false from decide_eq_false fun e => differs HX1.out HY1.out (fun e => hff (by cases e; rfl)) (congrArg Prod.snd e))
              have HY := Lib.hid (show decide (k1 = k2) = false from decide_eq_false fun e => differs HX1.out HY1.out (fun e => hff (by cases e; rfl)) e)
              go_upto_region 6 with (fail)
              go_quiet (fail)
              go_wp2
              go_ret
              exact ⟨by first | (rw [HX.out]; rfl) | (rw [HY.out]; rfl), HBX.out.trans ((below_drewN HB.out _).mono HBX.out.size)⟩
          · have he2 : (e1.toList == e2.toList) = false := by rw [ba_beq]; simpa using hee
            have HX := Lib.hid (show decide (((n1, k1) : PStep) = (n1, k2)) = false from decide_eq_false fun e => differs HX1.out HY1.out (fun e => hee (by cases e; rfl)) (congrArg Prod.snd e))
            have HY := Lib.hid (show decide (k1 = k2) = false from decide_eq_false fun e => differs HX1.out HY1.out (fun e => hee (by cases e; rfl)) e)
            go_upto_region 6 with (fail)
            go_quiet (fail)
            go_wp2
            go_ret
            exact ⟨by first | (rw [HX.out]; rfl) | (rw [HY.out]; rfl), HBX.out.trans ((below_drewN HB.out _).mono HBX.out.size)⟩
        · have hq1 : ¬ (p : Int) < (N : Int) := by omega
          obtain rfl : p = N := by omega
          have HX := Lib.hid (show decide (((n1, k1) : PStep) = (n1, k2)) = true from decide_eq_true (by
            have := HEQ.out
            rw [List.take_of_length_le (by rw [HN1.out]; exact Nat.le_refl _), List.take_of_length_le (by rw [HN2.out]; exact Nat.le_refl _)] at this
            rw [this]))
          have HY := Lib.hid (show decide (k1 = k2) = true from decide_eq_true (by
            have := of_decide_eq_true HX.out
            exact congrArg Prod.snd this))
          go_wp2
          go_ret
          exact ⟨by first | (rw [HX.out]; rfl) | (rw [HY.out]; rfl), HBX.out.trans (HB.out.mono HBX.out.size)⟩
    · have hl2 : ((k1.length : Int) == (k2.length : Int)) = false := by rw [beq_eq_false_iff_ne]; omega
      have hl3 : ¬ (k1.length : Int) = (k2.length : Int) := by omega
      have HX := Lib.hid (show decide (((n1, k1) : PStep) = (n1, k2)) = false from decide_eq_false fun e => hl (by cases e; rfl))
      go_wp2
      go_ret
      exact ⟨by rw [HX.out]; rfl, HBX.out⟩
  · have hn2 : (n1.toList == n2.toList) = false := by rw [ba_beq]; simpa using hn
    have HX := Lib.hid (show decide (((n1, k1) : PStep) = (n2, k2)) = false from decide_eq_false fun e => hn (by cases e; rfl))
    go_wp2
    go_ret
    exact ⟨by rw [HX.out]; rfl, HBX.out⟩
-- END same
-- BEGIN in
set_option maxHeartbeats 16000000 in
set_option maxRecDepth 100000 in
theorem rin13_any (a b : ByteArray) (m : List PStep) (w : World) (ha : a.size ≤ 140737488355328) (hb : b.size ≤ 140737488355328) (hm : parseM b = .ok m) (hne : 0 < m.length) :
    Calls Tryz.prog 30 #[.string a, .string b] w fun en w' => en = .returned (.bool (inB a b)) ∧ Below w.heap.size w w' := by
  have HPA := Lib.hid (show ∀ W, Calls Tryz.prog 25 #[.string a] W (ParseSays a W) from fun W => rparse_any a W ha)
  have HPB := Lib.hid (show ∀ W, Calls Tryz.prog 25 #[.string b] W (fun en w' => Below W.heap.size W w' ∧ ∃ (A : Option Addr) (c : Nat) (ws : List Value), en = .returned (.tuple #[.slice A m.length c, .agg #[.int .i64 0, .int .i64 0]]) ∧ StepsR w' (.slice A m.length c) m ws ∧ m.length ≤ c) from fun W => (rparse_any b W hb).mono fun en w' h => by
    obtain ⟨hB, ⟨x, y, hE, rfl⟩ | ⟨l, v, hE, rfl, vs, hI⟩⟩ := h
    · rw [hm] at hE; cases hE
    · rw [hm] at hE
      cases hE
      obtain ⟨A1, c1, rfl, h1, -, -⟩ := own_form hI.2.1
      exact ⟨hB, A1, c1, vs, rfl, hI.reads, h1⟩)
  have HSB := Lib.hid (parseM_small hm)
  have HMB := Lib.hid hm
  have hm64 : (m.length : Int) ≤ 64 := by have := HSB.out.2.1; omega
  have hm0 : (0 : Int) < (m.length : Int) := by omega
  clear hm
  go_enter Tryz.func30, Tryz.ntmps30
  go_upto_region 2 with (go_at_call 25; go_loud (refine (HPA.out _).mono ?_; rintro en w1 ⟨hB1, ⟨x, y, hE, rfl⟩ | ⟨l, v, hE, rfl, hO⟩⟩; rotate_left; obtain ⟨vs, hI⟩ := hO; obtain ⟨A1, c1, rfl, hlc, -, -⟩ := own_form hI.2.1; have HI := Lib.hid hI.reads; clear hI; rotate_right; all_goals (have HE := Lib.hid hE; have HB1 := Lib.hid hB1; clear hE hB1)))
  · have HX := Lib.hid (show inB a b = false by unfold inB restM; rw [HE.out]; rfl)
    have HB2 := Lib.hid (HB1.out.alloc HB1.out.size (.cells #[.int .i64 x, .int .i64 y] 43))
    generalize w1.alloc (.cells #[.int .i64 x, .int .i64 y] 43) = w2 at *
    go_upto_region 3 with (go_at_call 25; go_loud (refine (HPB.out _).mono ?_; rintro en w3 ⟨hb3, A2, c2, ws, rfl, -, hmc⟩; have HB3 := Lib.hid (HB2.out.trans (hb3.mono HB2.out.size)); clear hb3))
    go_wp2
    go_ret
    exact ⟨by rw [HX.out]; rfl, HB3.out.alloc HB3.out.size _⟩
  · have HSA := Lib.hid (parseM_small HE.out)
    have hl64 : (l.length : Int) ≤ 64 := by have := HSA.out.2.1; omega
    have HB2 := Lib.hid (HB1.out.alloc HB1.out.size (.cells #[.int .i64 0, .int .i64 0] 43))
    have HR2 := Lib.hid (HI.out.more ((Below.refl _ w1).alloc (Nat.le_refl _) (.cells #[.int .i64 0, .int .i64 0] 43)))
    generalize w1.alloc (.cells #[.int .i64 0, .int .i64 0] 43) = w2 at *
    go_upto_region 3 with (go_at_call 25; go_loud (refine (HPB.out _).mono ?_; rintro en w3 ⟨hb3, A2, c2, ws, rfl, hws, hmc⟩; have HB3 := Lib.hid (HB2.out.trans (hb3.mono HB2.out.size)); have HRA3 := Lib.hid (HR2.out.more hb3); have HRB3 := Lib.hid hws; clear hb3 hws))
    have HBX := Lib.hid (HB3.out.alloc HB3.out.size (.cells #[.int .i64 0, .int .i64 0] 43))
    have HRA := Lib.hid (HRA3.out.more ((Below.refl _ w3).alloc (Nat.le_refl _) (.cells #[.int .i64 0, .int .i64 0] 43)))
    have HRB := Lib.hid (HRB3.out.more ((Below.refl _ w3).alloc (Nat.le_refl _) (.cells #[.int .i64 0, .int .i64 0] 43)))
    generalize w3.alloc (.cells #[.int .i64 0, .int .i64 0] 43) = w4 at *
    have hcl : (l.length : Int) ≤ (c1 : Int) := by omega
    have hcm : (m.length : Int) ≤ (c2 : Int) := by omega
    clear HI HR2 HRA3 HRB3
    by_cases hml : m.length ≤ l.length
    · have hq : ¬ (l.length : Int) < (m.length : Int) := by omega
      go_wp2
      go_loopw [9] (fun iv wr => ∃ p : Nat, iv = .int .i64 (p : Int) ∧ p ≤ m.length ∧ l.take p = m.take p ∧ Below w4.heap.size w4 wr) (fun iv _ => m.length - (Lib.intOf iv).toNat)
      case atStart => exact ⟨0, rfl, Nat.zero_le _, rfl, Below.refl _ _⟩
      case round =>
        obtain ⟨p, rfl, hp, heq, hB⟩ := hrel
        have HEQ := Lib.hid heq
        have HB := Lib.hid hB
        clear heq hB
        by_cases hlp : p < m.length
        · have hq1 : (p : Int) < (m.length : Int) := by omega
          have hq2 : (p : Int) < (l.length : Int) := by omega
          obtain ⟨⟨n1, k1⟩, hx⟩ : ∃ st : PStep, l[p]? = some st := ⟨l[p]'(by omega), by simp [show p < l.length by omega]⟩
          obtain ⟨⟨n2, k2⟩, hy⟩ : ∃ st : PStep, m[p]? = some st := ⟨m[p]'hlp, by simp [hlp]⟩
          obtain ⟨u1, hu1⟩ : ∃ kv, vs[p]? = some kv := ⟨vs[p]'(by obtain ⟨_, _, _, _, _, _, h, _⟩ := HRA.out; omega), by obtain ⟨_, _, _, _, _, _, h, _⟩ := HRA.out; simp [h, show p < l.length by omega]⟩
          obtain ⟨u2, hu2⟩ : ∃ kv, ws[p]? = some kv := ⟨ws[p]'(by obtain ⟨_, _, _, _, _, _, h, _⟩ := HRB.out; omega), by obtain ⟨_, _, _, _, _, _, h, _⟩ := HRB.out; simp [h, hlp]⟩
          have HK1 := Lib.hid (show KeysAt w4 w4.heap.size u1 k1 from by obtain ⟨_, _, _, _, _, _, _, h⟩ := HRA.out; exact h p _ u1 hx hu1)
          have HK2 := Lib.hid (show KeysAt w4 w4.heap.size u2 k2 from by obtain ⟨_, _, _, _, _, _, _, h⟩ := HRB.out; exact h p _ u2 hy hu2)
          have hd1 : Reads w4 w4.heap.size 2 A1 l.length (stepCells l vs) := by obtain ⟨A', c', e, _, _, h, _⟩ := HRA.out; cases e; exact h
          have hd2 : Reads w4 w4.heap.size 2 A2 m.length (stepCells m ws) := by obtain ⟨A', c', e, _, _, h, _⟩ := HRB.out; cases e; exact h
          have hs1 := stepCells_at l vs p _ u1 hx hu1
          have hs2 := stepCells_at m ws p _ u2 hy hu2
          obtain ⟨b1, o1, rfl, hb1, hc1⟩ := hd1.spot (by omega) (by omega)
          obtain ⟨b2, o2, rfl, hb2, hc2⟩ := hd2.spot (by omega) (by omega)
          have HC := Lib.hid (show ∀ X, Below w4.heap.size w4 X → (X.cell? ⟨b1, o1 + p * 2, none⟩ = some (.string n1) ∧ X.cell? ⟨b1, o1 + p * 2 + 1, none⟩ = some u1) ∧ X.cell? ⟨b2, o2 + p * 2, none⟩ = some (.string n2) ∧ X.cell? ⟨b2, o2 + p * 2 + 1, none⟩ = some u2 from fun X h =>
            ⟨⟨(h.cell (p := ⟨b1, o1 + p * 2, none⟩) hb1).trans (hc1 _ _ hs1.1), (h.cell (p := ⟨b1, o1 + p * 2 + 1, none⟩) hb1).trans (hc1 _ _ hs1.2)⟩, (h.cell (p := ⟨b2, o2 + p * 2, none⟩) hb2).trans (hc2 _ _ hs2.1), (h.cell (p := ⟨b2, o2 + p * 2 + 1, none⟩) hb2).trans (hc2 _ _ hs2.2)⟩)
          have HS1 := Lib.hid (show k1.length ≤ 1000000 from Nat.le_trans (HSA.out.1 _ (List.mem_of_getElem? hx)).small.2.1 (by decide))
          have HS2 := Lib.hid (show k2.length ≤ 1000000 from Nat.le_trans (HSB.out.1 _ (List.mem_of_getElem? hy)).small.2.1 (by decide))
          have HX1 := Lib.hid hx
          have HY1 := Lib.hid hy
          have HT := Lib.hid (show ∀ X, Below w4.heap.size w4 X → Calls Tryz.prog 54 #[.agg #[.string n1, u1], .agg #[.string n2, u2]] X (fun en w' => en = .returned (.bool (decide (((n1, k1) : PStep) = (n2, k2)))) ∧ Below X.heap.size X w') from fun X h => samestep_any n1 n2 k1 k2 u1 u2 X (HK1.out.more h h.size) (HK2.out.more h h.size) HS1.out HS2.out)
          obtain ⟨⟨z0, z1⟩, z2, z3⟩ := HC.out wr HB.out
          clear hx hy hu1 hu2 hd1 hd2 hs1 hs2 hc1 hc2
          generalize hdec : decide (((n1, k1) : PStep) = (n2, k2)) = dd at HT
          have HDD := Lib.hid hdec
          clear hdec
          have HB0 := HB
          have HB : Hid (Below w4.heap.size w4 wr.drew) := Lib.hid (below_drewN HB.out 1)
          go_upto_region 8 with (fail)
          go_region_held3 (fun w' => (w'.cell? ⟨b1, o1 + p * 2, none⟩ = some (.string n1) ∧ w'.cell? ⟨b1, o1 + p * 2 + 1, none⟩ = some u1) ∧ w'.cell? ⟨b2, o2 + p * 2, none⟩ = some (.string n2) ∧ w'.cell? ⟨b2, o2 + p * 2 + 1, none⟩ = some u2) (go_keep) (first
            | (go_at_call 54; go_loud (refine (HT.out _ (HB.out)).mono ?_; rintro e wt ⟨rfl, hBt⟩; have HB := Lib.hid (HB.out.trans (hBt.mono HB.out.size)); obtain ⟨⟨z0, z1⟩, z2, z3⟩ := HC.out wt HB.out; clear hBt))
            | fail "no arm")
          all_goals
            cases dd
            · have HX := Lib.hid (show inB a b = false from by
                cases h : inB a b with
                | false => rfl
                | true =>
                  obtain ⟨l', m', h1, h2, h3⟩ := inB_ok.1 h
                  rw [HE.out] at h1; rw [HMB.out] at h2
                  cases h1; cases h2
                  have h := congrArg (fun x : List PStep => x[p]?) h3
                  simp only [List.getElem?_take, if_pos hlp, HX1.out, HY1.out] at h
                  exact absurd (Option.some.inj h) (of_decide_eq_false HDD.out))
              go_wp2
              go_ret
              exact ⟨by rw [HX.out]; rfl, HBX.out.trans (HB.out.mono HBX.out.size)⟩
            · have HEN := Lib.hid (take_snoc_iff HEQ.out HX1.out HY1.out (of_decide_eq_true HDD.out))
              go_wp2
              go_roundw
              case rel => exact ⟨p + 1, by go_num, hlp, HEN.out, HB.out⟩
              case measure => simp [Lib.intOf]; omega
        · have hq1 : ¬ (p : Int) < (m.length : Int) := by omega
          obtain rfl : p = m.length := by omega
          have HX := Lib.hid (show inB a b = true from inB_ok.2 ⟨l, m, HE.out, HMB.out, by rw [HEQ.out, List.take_length]⟩)
          go_wp2
          go_ret
          exact ⟨by rw [HX.out]; rfl, HBX.out.trans (HB.out.mono HBX.out.size)⟩
    · have hq : (l.length : Int) < (m.length : Int) := by omega
      have HX := Lib.hid (show inB a b = false from by
        cases h : inB a b with
        | false => rfl
        | true =>
          obtain ⟨l', m', h1, h2, h3⟩ := inB_ok.1 h
          rw [HE.out] at h1; rw [HMB.out] at h2
          cases h1; cases h2
          have := congrArg List.length h3
          rw [List.length_take] at this
          omega)
      go_wp2
      go_ret
      exact ⟨by rw [HX.out]; rfl, HBX.out⟩
-- END in
end Go.Proofs.YtkfofdmcggoonaaGreatDoor
