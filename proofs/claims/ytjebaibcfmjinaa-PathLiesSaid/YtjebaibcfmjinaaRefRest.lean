/-
  The walk of the document's Rest. Condition: both paths are within the reach.
-/
import Derived.Test.YtjebaibcfmjinaaRefParse
import Derived.Test.YtjebaibcfmjinaaRefPrint
import Derived.Test.YtjebaibcfmjinaaPathIn
import Derived.Deep.RegionHeld3
namespace Go.Proofs.Ytjebaibcfmjinaa
open Go.RowKit

/-- Two right steps of one text are one. -/
theorem text_inj {x y : PStep} (hx : mayM x = (true, true)) (hy : mayM y = (true, true)) (h : textL x = textL y) : x = y := by
  have h1 := step_read (s := str (textL x)) (p := 0) (t := []) (.inl rfl) (by rw [List.append_nil]; exact T_zero _) hx
  have h2 := step_read (s := str (textL x)) (p := 0) (st := y) (t := []) (.inl rfl) (by rw [List.append_nil, ← h]; exact T_zero _) hy
  rw [h1] at h2
  simp only [Except.ok.injEq, Prod.mk.injEq] at h2
  exact h2.1
theorem text_beq {x y : PStep} (hx : mayM x = (true, true)) (hy : mayM y = (true, true)) : ((str (textL x)).toList == (str (textL y)).toList) = decide (x = y) := by
  rw [ba_beq]
  by_cases h : x = y
  · subst h
    simp
  · rw [decide_eq_false h, decide_eq_false]
    intro e
    exact h (text_inj hx hy (by have := congrArg (fun s => s.data.toList) e; simpa [str_list] using this))
set_option maxHeartbeats 16000000 in
set_option maxRecDepth 100000 in
theorem rrest_any (a b : ByteArray) (w : World) (ha : a.size ≤ 140737488355328) (hb : b.size ≤ 140737488355328) :
    Calls Try.prog 13 #[.string a, .string b] w (RestPost a b w) := by
  have HPA := Lib.hid (show ∀ W, Calls Try.prog 15 #[.string a] W (ParseSays a W) from fun W => rparse_any a W ha)
  have HPB := Lib.hid (show ∀ W, Calls Try.prog 15 #[.string b] W (ParseSays b W) from fun W => rparse_any b W hb)
  go_enter Try.func13, Try.ntmps13
  go_upto_region 2 with (go_at_call 15; go_loud (refine (HPA.out _).mono ?_; rintro en w1 ⟨hB1, ⟨x, y, hE, rfl⟩ | ⟨l, v, hE, rfl, hO⟩⟩; rotate_left; obtain ⟨vs, hI⟩ := hO; obtain ⟨A1, c1, rfl, -, -, -⟩ := own_form hI.2.1; have HI := Lib.hid hI; clear hI; rotate_right; all_goals (have HE := Lib.hid hE; have HB1 := Lib.hid hB1; clear hE hB1)))
  · have HX := Lib.hid (show restM a b = none by unfold restM; rw [HE.out])
    have hx0 : (x == 0) = false := by
      rw [beq_eq_false_iff_ne]
      have := parseM_err HE.out
      omega
    have hx1 : ¬ x = 0 := by simpa using hx0
    go_upto_region 3 with (go_at_call 15; go_loud (refine (HPB.out _).mono ?_; rintro en w2 ⟨hB2, ⟨x2, y2, hE2, rfl⟩ | ⟨m, v2, hE2, rfl, hO2⟩⟩; rotate_left; obtain ⟨ws, hI2⟩ := hO2; obtain ⟨A2, c2, rfl, -, -, -⟩ := own_form hI2.2.1; have HI2 := Lib.hid hI2; clear hI2; rotate_right; all_goals (have HE2 := Lib.hid hE2; have HB2 := Lib.hid hB2; clear hE2 hB2)))
    · have hS := Blk.new w1 26 #[.int .i64 x, .int .i64 y]
      have hk7 := (hS.below HB2.out (Blk.lt hS)).alloc (.cells #[.int .i64 x2, .int .i64 y2] 26)
      have hk9 := Blk.new w2 26 #[.int .i64 x2, .int .i64 y2]
      have hw1 : w.heap.size ≤ w1.heap.size := HB1.out.size
      have hw2 : w1.heap.size < w2.heap.size := by have := HB2.out.size; simp at this; omega
      have HBX := Lib.hid (show Below w.heap.size w (w2.alloc (.cells #[.int .i64 x2, .int .i64 y2] 26)) from (((HB1.out.alloc hw1 _).trans (HB2.out.mono (by simp; omega))).alloc (by omega) _))
      have HBY := Lib.hid (show Below w1.heap.size w1 (w2.alloc (.cells #[.int .i64 x2, .int .i64 y2] 26)) from ((((Below.refl _ w1).alloc (Nat.le_refl _) _).trans (HB2.out.mono (by simp))).alloc (by omega) _))
      have HBZ := Lib.hid (show Below w2.heap.size w2 (w2.alloc (.cells #[.int .i64 x2, .int .i64 y2] 26)) from (Below.refl _ w2).alloc (Nat.le_refl _) _)
      generalize w2.alloc (.cells #[.int .i64 x2, .int .i64 y2] 26) = w3 at *
      have k7 : w3.cell? ⟨w1.heap.size, 0, none⟩ = some (.int .i64 x) := hk7.cell 0
      have k9 : w3.cell? ⟨w2.heap.size, 0, none⟩ = some (.int .i64 x2) := hk9.cell 0
      clear hS hk7 hk9
      go_wp2
      go_ret2
      exact ⟨by rw [HX.out]; rfl, HBX.out⟩
    · have hS := Blk.new w1 26 #[.int .i64 x, .int .i64 y]
      have hk7 := (hS.below HB2.out (Blk.lt hS)).alloc (.cells #[.int .i64 0, .int .i64 0] 26)
      have hk9 := Blk.new w2 26 #[.int .i64 0, .int .i64 0]
      have hw1 : w.heap.size ≤ w1.heap.size := HB1.out.size
      have hw2 : w1.heap.size < w2.heap.size := by have := HB2.out.size; simp at this; omega
      have HBX := Lib.hid (show Below w.heap.size w (w2.alloc (.cells #[.int .i64 0, .int .i64 0] 26)) from (((HB1.out.alloc hw1 _).trans (HB2.out.mono (by simp; omega))).alloc (by omega) _))
      have HBY := Lib.hid (show Below w1.heap.size w1 (w2.alloc (.cells #[.int .i64 0, .int .i64 0] 26)) from ((((Below.refl _ w1).alloc (Nat.le_refl _) _).trans (HB2.out.mono (by simp))).alloc (by omega) _))
      have HBZ := Lib.hid (show Below w2.heap.size w2 (w2.alloc (.cells #[.int .i64 0, .int .i64 0] 26)) from (Below.refl _ w2).alloc (Nat.le_refl _) _)
      generalize w2.alloc (.cells #[.int .i64 0, .int .i64 0] 26) = w3 at *
      have k7 : w3.cell? ⟨w1.heap.size, 0, none⟩ = some (.int .i64 x) := hk7.cell 0
      have k9 : w3.cell? ⟨w2.heap.size, 0, none⟩ = some (.int .i64 0) := hk9.cell 0
      clear hS hk7 hk9
      go_wp2
      go_ret2
      exact ⟨by rw [HX.out]; rfl, HBX.out⟩
  · go_upto_region 3 with (go_at_call 15; go_loud (refine (HPB.out _).mono ?_; rintro en w2 ⟨hB2, ⟨x2, y2, hE2, rfl⟩ | ⟨m, v2, hE2, rfl, hO2⟩⟩; rotate_left; obtain ⟨ws, hI2⟩ := hO2; obtain ⟨A2, c2, rfl, -, -, -⟩ := own_form hI2.2.1; have HI2 := Lib.hid hI2; clear hI2; rotate_right; all_goals (have HE2 := Lib.hid hE2; have HB2 := Lib.hid hB2; clear hE2 hB2)))
    · have HX := Lib.hid (show restM a b = none by unfold restM; rw [HE.out, HE2.out])
      have hx0 : (x2 == 0) = false := by
        rw [beq_eq_false_iff_ne]
        have := parseM_err HE2.out
        omega
      have hx1 : ¬ x2 = 0 := by simpa using hx0
      have hS := Blk.new w1 26 #[.int .i64 0, .int .i64 0]
      have hk7 := (hS.below HB2.out (Blk.lt hS)).alloc (.cells #[.int .i64 x2, .int .i64 y2] 26)
      have hk9 := Blk.new w2 26 #[.int .i64 x2, .int .i64 y2]
      have hw1 : w.heap.size ≤ w1.heap.size := HB1.out.size
      have hw2 : w1.heap.size < w2.heap.size := by have := HB2.out.size; simp at this; omega
      have HBX := Lib.hid (show Below w.heap.size w (w2.alloc (.cells #[.int .i64 x2, .int .i64 y2] 26)) from (((HB1.out.alloc hw1 _).trans (HB2.out.mono (by simp; omega))).alloc (by omega) _))
      have HBY := Lib.hid (show Below w1.heap.size w1 (w2.alloc (.cells #[.int .i64 x2, .int .i64 y2] 26)) from ((((Below.refl _ w1).alloc (Nat.le_refl _) _).trans (HB2.out.mono (by simp))).alloc (by omega) _))
      have HBZ := Lib.hid (show Below w2.heap.size w2 (w2.alloc (.cells #[.int .i64 x2, .int .i64 y2] 26)) from (Below.refl _ w2).alloc (Nat.le_refl _) _)
      generalize w2.alloc (.cells #[.int .i64 x2, .int .i64 y2] 26) = w3 at *
      have k7 : w3.cell? ⟨w1.heap.size, 0, none⟩ = some (.int .i64 0) := hk7.cell 0
      have k9 : w3.cell? ⟨w2.heap.size, 0, none⟩ = some (.int .i64 x2) := hk9.cell 0
      clear hS hk7 hk9
      go_wp2
      go_ret2
      exact ⟨by rw [HX.out]; rfl, HBX.out⟩
    · have HSA := Lib.hid (parseM_small HE.out)
      have HSB := Lib.hid (parseM_small HE2.out)
      have hl64 : (l.length : Int) ≤ 64 := by have := HSA.out.2.1; omega
      have hm64 : (m.length : Int) ≤ 64 := by have := HSB.out.2.1; omega
      have hS := Blk.new w1 26 #[.int .i64 0, .int .i64 0]
      have hk7 := (hS.below HB2.out (Blk.lt hS)).alloc (.cells #[.int .i64 0, .int .i64 0] 26)
      have hk9 := Blk.new w2 26 #[.int .i64 0, .int .i64 0]
      have hw1 : w.heap.size ≤ w1.heap.size := HB1.out.size
      have hw2 : w1.heap.size < w2.heap.size := by have := HB2.out.size; simp at this; omega
      have HBX := Lib.hid (show Below w.heap.size w (w2.alloc (.cells #[.int .i64 0, .int .i64 0] 26)) from (((HB1.out.alloc hw1 _).trans (HB2.out.mono (by simp; omega))).alloc (by omega) _))
      have HBY := Lib.hid (show Below w1.heap.size w1 (w2.alloc (.cells #[.int .i64 0, .int .i64 0] 26)) from ((((Below.refl _ w1).alloc (Nat.le_refl _) _).trans (HB2.out.mono (by simp))).alloc (by omega) _))
      have HBZ := Lib.hid (show Below w2.heap.size w2 (w2.alloc (.cells #[.int .i64 0, .int .i64 0] 26)) from (Below.refl _ w2).alloc (Nat.le_refl _) _)
      generalize w2.alloc (.cells #[.int .i64 0, .int .i64 0] 26) = w3 at *
      have k7 : w3.cell? ⟨w1.heap.size, 0, none⟩ = some (.int .i64 0) := hk7.cell 0
      have k9 : w3.cell? ⟨w2.heap.size, 0, none⟩ = some (.int .i64 0) := hk9.cell 0
      clear hS hk7 hk9
      by_cases hml : m.length ≤ l.length
      · have hq : ¬ (l.length : Int) < (m.length : Int) := by omega
        have hcl : (m.length : Int) ≤ (c1 : Int) := by
          obtain ⟨A', c', heq, h1, -, -⟩ := own_form HI.out.2.1
          cases heq
          omega
        have hRA : StepsR w3 (.slice A1 l.length c1) l vs := HI.out.reads.more HBY.out
        have hRB : StepsR w3 (.slice A2 m.length c2) m ws := HI2.out.reads.more HBZ.out
        have HRA := Lib.hid hRA
        have HRB := Lib.hid hRB
        have HML := Lib.hid hml
        have hcm : (m.length : Int) ≤ (c2 : Int) := by
          obtain ⟨A', c', heq, h1, -, -⟩ := own_form HI2.out.2.1
          cases heq
          omega
        have hlc : (l.length : Int) ≤ (c1 : Int) := by
          obtain ⟨A', c', heq, h1, -, -⟩ := own_form HI.out.2.1
          cases heq
          omega
        clear hRA hRB
        go_wp2
        go_loopw [10, 40] (fun _ iv wr => ∃ p : Nat, iv = .int .i64 (p : Int) ∧ p ≤ m.length ∧ l.take p = m.take p ∧ Below w3.heap.size w3 wr) (fun _ iv _ => m.length - (Lib.intOf iv).toNat)
        case atStart => exact ⟨0, rfl, Nat.zero_le _, rfl, Below.refl _ _⟩
        case round =>
          obtain ⟨p, rfl, hp, heq, hB⟩ := hrel
          have HEQ := Lib.hid heq
          have HB := Lib.hid hB
          clear heq hB
          by_cases hlp : p < m.length
          · have hq1 : (p : Int) < (m.length : Int) := by omega
            have hq2 : (p : Int) < (l.length : Int) := by omega
            obtain ⟨⟨n1, k1⟩, hx⟩ : ∃ st : PStep, l[p]? = some st := ⟨l[p]'(by omega), by simp [show p < l.length by omega]⟩
            obtain ⟨⟨n2, k2⟩, hy⟩ : ∃ st : PStep, m[p]? = some st := ⟨m[p]'hlp, by simp [hlp]⟩
            obtain ⟨u1, hu1⟩ : ∃ kv, vs[p]? = some kv := ⟨vs[p]'(by obtain ⟨_, _, _, _, _, _, h, _⟩ := HRA.out; omega), by obtain ⟨_, _, _, _, _, _, h, _⟩ := HRA.out; simp [h, show p < l.length by omega]⟩
            obtain ⟨u2, hu2⟩ : ∃ kv, ws[p]? = some kv := ⟨ws[p]'(by obtain ⟨_, _, _, _, _, _, h, _⟩ := HRB.out; omega), by obtain ⟨_, _, _, _, _, _, h, _⟩ := HRB.out; simp [h, hlp]⟩
            have HK1 := Lib.hid (show KeysAt w3 w3.heap.size u1 k1 from by obtain ⟨_, _, _, _, _, _, _, h⟩ := HRA.out; exact h p _ u1 hx hu1)
            have HK2 := Lib.hid (show KeysAt w3 w3.heap.size u2 k2 from by obtain ⟨_, _, _, _, _, _, _, h⟩ := HRB.out; exact h p _ u2 hy hu2)
            have hd1 : Reads w3 w3.heap.size 2 A1 l.length (stepCells l vs) := by obtain ⟨A', c', e, _, _, h, _⟩ := HRA.out; cases e; exact h
            have hd2 : Reads w3 w3.heap.size 2 A2 m.length (stepCells m ws) := by obtain ⟨A', c', e, _, _, h, _⟩ := HRB.out; cases e; exact h
            have hs1 := stepCells_at l vs p _ u1 hx hu1
            have hs2 := stepCells_at m ws p _ u2 hy hu2
            obtain ⟨b1, o1, rfl, hb1, hc1⟩ := hd1.spot (by omega) (by omega)
            obtain ⟨b2, o2, rfl, hb2, hc2⟩ := hd2.spot (by omega) (by omega)
            have HC := Lib.hid (show ∀ X, Below w3.heap.size w3 X → (X.cell? ⟨b1, o1 + p * 2, none⟩ = some (.string n1) ∧ X.cell? ⟨b1, o1 + p * 2 + 1, none⟩ = some u1) ∧ X.cell? ⟨b2, o2 + p * 2, none⟩ = some (.string n2) ∧ X.cell? ⟨b2, o2 + p * 2 + 1, none⟩ = some u2 from fun X h =>
              ⟨⟨(h.cell (p := ⟨b1, o1 + p * 2, none⟩) hb1).trans (hc1 _ _ hs1.1), (h.cell (p := ⟨b1, o1 + p * 2 + 1, none⟩) hb1).trans (hc1 _ _ hs1.2)⟩, (h.cell (p := ⟨b2, o2 + p * 2, none⟩) hb2).trans (hc2 _ _ hs2.1), (h.cell (p := ⟨b2, o2 + p * 2 + 1, none⟩) hb2).trans (hc2 _ _ hs2.2)⟩)
            have HM1 := Lib.hid (show mayM (n1, k1) = (true, true) from parse_may HE.out _ (List.mem_of_getElem? hx))
            have HM2 := Lib.hid (show mayM (n2, k2) = (true, true) from parse_may HE2.out _ (List.mem_of_getElem? hy))
            have HS1 := Lib.hid (show StepSmall (n1, k1) from (HSA.out.1 _ (List.mem_of_getElem? hx)).small)
            have HS2 := Lib.hid (show StepSmall (n2, k2) from (HSB.out.1 _ (List.mem_of_getElem? hy)).small)
            have HX1 := Lib.hid hx
            have HY1 := Lib.hid hy
            obtain ⟨t1, ht1⟩ : ∃ t1, t1 = str (textL (n1, k1)) := ⟨_, rfl⟩
            obtain ⟨t2, ht2⟩ : ∃ t2, t2 = str (textL (n2, k2)) := ⟨_, rfl⟩
            have HT1 := Lib.hid (show ∀ X, Below w3.heap.size w3 X → Calls Try.prog 29 #[.agg #[.string n1, u1]] X (fun en w' => en = .returned (.string t1) ∧ Below X.heap.size X w') from fun X h => (rtext_any (n1, k1) u1 X (HK1.out.more h h.size) HS1.out).mono fun en w' h => by rw [ht1]; exact h)
            have HT2 := Lib.hid (show ∀ X, Below w3.heap.size w3 X → Calls Try.prog 29 #[.agg #[.string n2, u2]] X (fun en w' => en = .returned (.string t2) ∧ Below X.heap.size X w') from fun X h => (rtext_any (n2, k2) u2 X (HK2.out.more h h.size) HS2.out).mono fun en w' h => by rw [ht2]; exact h)
            obtain ⟨⟨z0, z1⟩, z2, z3⟩ := HC.out wr HB.out
            clear hx hy hu1 hu2 hd1 hd2 hs1 hs2 hc1 hc2
            have H12 := Lib.hid (And.intro ht1 ht2)
            clear ht1 ht2
            have HB0 := HB
            have HB : Hid (Below w3.heap.size w3 wr.drew) := Lib.hid (below_drewN HB.out 1)
            go_upto_region 8 with (fail)
            go_region_held3 (fun w' => (w'.cell? ⟨b1, o1 + p * 2, none⟩ = some (.string n1) ∧ w'.cell? ⟨b1, o1 + p * 2 + 1, none⟩ = some u1) ∧ w'.cell? ⟨b2, o2 + p * 2, none⟩ = some (.string n2) ∧ w'.cell? ⟨b2, o2 + p * 2 + 1, none⟩ = some u2) (go_keep) (first
              | (go_at_call_of 29 (#[Value.agg #[Value.string n2, u2]]); go_loud (refine (HT2.out _ (HB.out)).mono ?_; rintro e wt ⟨rfl, hBt⟩; have HB := Lib.hid (HB.out.trans (hBt.mono HB.out.size)); obtain ⟨⟨z0, z1⟩, z2, z3⟩ := HC.out wt HB.out; clear hBt))
              | (go_at_call_of 29 (#[Value.agg #[Value.string n1, u1]]); go_loud (refine (HT1.out _ (HB.out)).mono ?_; rintro e wt ⟨rfl, hBt⟩; have HB := Lib.hid (HB.out.trans (hBt.mono HB.out.size)); obtain ⟨⟨z0, z1⟩, z2, z3⟩ := HC.out wt HB.out; clear hBt))
              | fail "no arm")
            all_goals
              by_cases he : ((n1, k1) : PStep) = (n2, k2)
              · have hn : (t2.toList == t1.toList) = true := by rw [H12.out.1, H12.out.2, ← he]; simp
                have HEN := Lib.hid (show l.take (p + 1) = m.take (p + 1) by rw [List.take_add_one, List.take_add_one, HX1.out, HY1.out, HEQ.out, he])
                clear he
                have hn2 : t2.toList = t1.toList := eq_of_beq hn
                have hn3 : (!(t2.toList == t1.toList)) = false := by rw [hn]; rfl
                go_wp2
                · rename_i h9
                  rw [hn3] at h9
                  cases h9
                exact ⟨⟨p + 1, by go_num, hlp, HEN.out, HB.out⟩, by simp only [Lib.intOf]; omega⟩
              · have hn : (t2.toList == t1.toList) = false := by rw [H12.out.1, H12.out.2, text_beq HM2.out HM1.out]; exact decide_eq_false (fun e => he e.symm)
                have HX := Lib.hid (show restM a b = none by
                  unfold restM
                  rw [HE.out, HE2.out]
                  simp only
                  rw [if_neg]
                  intro e
                  have h := congrArg (fun x : List PStep => x[p]?) e
                  simp only [List.getElem?_take, if_pos hlp, HX1.out, HY1.out] at h
                  exact he (by injection h))
                have hn2 : ¬ t2.toList = t1.toList := fun e => by rw [beq_iff_eq.2 e] at hn; cases hn
                have hn3 : (!(t2.toList == t1.toList)) = true := by rw [hn]; rfl
                clear he
                go_wp2
                · go_ret2
                  exact ⟨by rw [HX.out]; rfl, HBX.out.trans (HB.out.mono HBX.out.size)⟩
                · rename_i h9
                  rw [hn3] at h9
                  cases h9
          · have hq1 : ¬ (p : Int) < (m.length : Int) := by omega
            obtain rfl : p = m.length := by omega
            have he : l.take m.length = m := by rw [HEQ.out, List.take_length]
            have HX := Lib.hid (show restM a b = some (putS (putM (l.drop m.length))) by unfold restM; rw [HE.out, HE2.out]; simp only; rw [if_pos he])
            have HSD := Lib.hid (show ∀ st ∈ l.drop m.length, StepSmall st from fun st hst => (HSA.out.1 st (List.mem_of_mem_drop hst)).small)
            have HPR := Lib.hid (rprint_any _ (l.drop m.length) (vs.drop m.length) wr ((HRA.out.more HB.out).drop HML.out) HSD.out (by have := HSA.out.2.1; rw [List.length_drop]; omega))
            clear he
            go_upto_region 12 with (go_at_call 24; go_loud (refine HPR.out.mono ?_; rintro en w5 ⟨rfl, hB5⟩; have HB5 := Lib.hid hB5; clear hB5))
            go_wp2
            all_goals go_ret2
            all_goals exact ⟨by rw [HX.out]; rfl, HBX.out.trans ((HB.out.trans (HB5.out.mono HB.out.size)).mono HBX.out.size)⟩
      · have hq : (l.length : Int) < (m.length : Int) := by omega
        have HX := Lib.hid (show restM a b = none by
          unfold restM
          rw [HE.out, HE2.out]
          simp only
          rw [if_neg]
          intro e
          have := congrArg List.length e
          rw [List.length_take] at this
          omega)
        clear hml
        go_wp2
        go_ret2
        exact ⟨by rw [HX.out]; rfl, HBX.out⟩
end Go.Proofs.Ytjebaibcfmjinaa
