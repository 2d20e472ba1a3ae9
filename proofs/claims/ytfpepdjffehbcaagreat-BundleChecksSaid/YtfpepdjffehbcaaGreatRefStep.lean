/-
  The walk of the document's scan: step. Condition: the string is not long (Parse refuses it else).
-/
import Derived.Test.YtfpepdjffehbcaaGreatRefVal
import Derived.Test.YtfpepdjffehbcaaGreatPathPrint
set_option linter.unusedVariables false
set_option linter.unusedSimpArgs false
namespace Go.Proofs.YtfpepdjffehbcaaGreat
open Go.RowKit

theorem SC.alloc {w : World} {g : Nat} {s : ByteArray} {at_ : Nat} {e a : Int} (h : SC w g s at_ e a) (o : Obj) : SC (w.alloc o) g s at_ e a := Blk.alloc h o
theorem scX_pr {g r0 b0 p : Nat} {s : ByteArray} {e a : Int} {w W w8 : World} {nm : ByteArray} {ks : List PKey} {v u : Value} (h : StepX g r0 b0 w nm ks v W) (hR : SC W g s p e a) (hg : W.grownBy w8 v.ownBlock) : SC (w8.setCell ⟨b0, 1, none⟩ u) g s p e a :=
  (Blk.grown hR hg (fun e => by have := stepX_own h _ e.symm; have := h.2.2.2.2; omega)).far (by have := h.2.2.2.2; simp; omega) u
def RStepPost (g at_ : Nat) (s : ByteArray) (a : Int) (w : World) (en : Ending) (w' : World) : Prop :=
  (∃ x y nm A n c p, x ≠ 0 ∧ stepM s at_ = .error (x, y) ∧ en = .returned (.agg #[.string nm, .slice A n c]) ∧ SC w' g s p x y ∧ Only g w w') ∨
  (∃ nm ks v q, stepM s at_ = .ok ((nm, ks), q) ∧ en = .returned (.agg #[.string nm, v]) ∧ w'.ownsRow w.heap.size 193 2 v ks.length (pairCells ks) ∧ SC w' g s q 0 a ∧ Only g w w')
theorem rstep_bad {g at_ r0 b0 p : Nat} {s : ByteArray} {a x y : Int} {w W : World} {nm : ByteArray} {ks : List PKey} {v : Value} (hx : x ≠ 0) (h : StepX g r0 b0 w nm ks v W) (hR : SC W g s p x y) (hM : stepM s at_ = .error (x, y)) :
    RStepPost g at_ s a w (.returned (.agg #[.string nm, v])) ((W.setCell ⟨r0, 0, none⟩ (.string nm)).setCell ⟨r0, 1, none⟩ v) := by
  obtain ⟨A, c, rfl, -, -, -⟩ := own_form h.2.2.1
  exact .inl ⟨x, y, _, _, _, _, p, hx, hM, rfl, (hR.far (by simp; have := h.2.2.2.2; omega) _).far (by simp; have := h.2.2.2.2; omega) _, stepX_only h⟩
theorem rstep_fine {g at_ r0 b0 p : Nat} {s : ByteArray} {a : Int} {w W : World} {nm : ByteArray} {ks : List PKey} {v : Value} (h : StepX g r0 b0 w nm ks v W) (hR : SC W g s p 0 a) (hM : stepM s at_ = .ok ((nm, ks), p)) :
    RStepPost g at_ s a w (.returned (.agg #[.string nm, v])) ((W.setCell ⟨r0, 0, none⟩ (.string nm)).setCell ⟨r0, 1, none⟩ v) := by
  refine .inr ⟨nm, ks, v, p, hM, rfl, ?_, (hR.far (by simp; have := h.2.2.2.2; omega) _).far (by simp; have := h.2.2.2.2; omega) _, stepX_only h⟩
  have hX := h.2.2.2.2
  exact own_base (own_far (own_far h.2.2.1 (by simp; omega) _) (by simp; omega) _) (by omega)
theorem rstep_result {tmps : Array Value} {w : World} {r0 : Nat} {nm : ByteArray} {v : Value} (hB : Blk w r0 138 #[.string nm, v]) (hp : tmps.getD 2 undef = .pointer (some ⟨r0, 0, none⟩)) :
    (results Tryz.f90 tmps).run Tryz.prog w = .ok (.agg #[.string nm, v]) w :=
  results_row Tryz.results90 tmps w r0 138 #[.string nm, v] _ hp hB Tryz.underlying138 rfl step_info
theorem nameErr_ne {s : ByteArray} {p : Nat} {x y : Int} (h : nameErr s p = some (x, y)) : x ≠ 0 := by
  unfold nameErr at h
  split at h
  · split at h
    · split at h
      · simp at h; omega
      · cases h
    · simp at h; omega
  · simp at h; omega
/-- Where step's loop is. -/
def RStepIn (g r0 b0 at_ : Nat) (s : ByteArray) (a : Int) (w : World) (nm : ByteArray) (wr : World) : Prop := ∃ (p : Nat) (ks : List PKey) (v : Value), StepX g r0 b0 w nm ks v wr ∧
  ((SC wr g s p 0 a ∧ p ≤ s.size ∧ ks.length ≤ p ∧ brokenAt s p = none ∧ stepM s at_ = stepRest nm (keysM s p ks)) ∨ (∃ x y, x ≠ 0 ∧ SC wr g s p x y ∧ stepM s at_ = .error (x, y)))

set_option maxRecDepth 100000 in
set_option maxHeartbeats 8000000 in
theorem rstep_any (g at_ : Nat) (s : ByteArray) (a : Int) (w : World) (h : SC w g s at_ 0 a) (hle : at_ ≤ s.size) (hs : s.size ≤ 100000) (hbr : brokenAt s at_ = none) :
    Calls Tryz.prog 90 #[.pointer (some ⟨g, 0, none⟩)] w (RStepPost g at_ s a w) := by
  have hg := h.lt
  have HN := Lib.hid (fun W hW => rname_any g at_ s a W hW hle (by omega))
  have HP := Lib.hid (h.alloc (.cells #[.string ByteArray.empty, .slice none 0 0] 138))
  have HB := Lib.hid (Blk.new w 138 #[.string ByteArray.empty, .slice none 0 0])
  have HO := Lib.hid ((Only.refl g w).alloc (.cells #[.string ByteArray.empty, .slice none 0 0] 138))
  have HBR := Lib.hid hbr
  clear h hbr
  go_enter Tryz.func90, Tryz.ntmps90
  go_wp2_with (go_at_call 124; go_loud (refine (HN.out _ HP.out).mono ?_; rintro en w1 (⟨x, y, p, nm, hE, rfl, hR1, hO1⟩ | ⟨hE, rfl, hR1, hO1⟩)))
  · have HX := Lib.hid (show StepX g w.heap.size w1.heap.size w nm [] (.slice none 0 0) (w1.alloc (Obj.cells #[Value.string nm, Value.slice none 0 0] 138)) from
        ⟨((hO1.block _ (by simp) (by simp; omega)).trans HB.out |> fun hB : Blk w1 _ _ _ => hB.alloc _), Blk.new _ _ _, World.ownsRow_nil _ _ _ _, (HO.out.trans hO1).alloc _, hg, Nat.le_refl _, by have := hO1.size; simp at this; omega, by simp⟩)
    have HR := Lib.hid (hR1.alloc (Obj.cells #[Value.string nm, Value.slice none 0 0] 138))
    have HS := Lib.hid (show stepM s at_ = .error (x, y) by unfold stepM nameM; rw [hE])
    have HNE := Lib.hid (nameErr_ne hE)
    clear hR1 hO1 HN HP HB HO hE
    generalize hW0 : w1.alloc (Obj.cells #[Value.string nm, Value.slice none 0 0] 138) = W0 at *
    clear hW0
    generalize w1.heap.size = b0 at *
    generalize w.heap.size = r0 at *
    have hx' : (x == 0) = false := by rw [beq_eq_false_iff_ne]; exact HNE.out
    go_loopw [4, 5, 6, 7] (fun _ _ _ _ wr => wr = W0) (fun _ _ _ _ _ => 0)
    case atStart => exact rfl
    case round =>
      subst hrel
      obtain ⟨c0, c1, d0, f0, f1, d1, g1, g2⟩ := stepX_ret HX.out
      have k2 := HR.out.c2
      go_wp2
      change bodyPost Tryz.prog Tryz.f90 (RStepPost g at_ s a w) Exit.ret _ _
      exact bodyPost_ret (rstep_result (stepX_blk HX.out) rfl) rfl (rstep_bad HNE.out HX.out HR.out HS.out)
  · have HX := Lib.hid (show StepX g w.heap.size w1.heap.size w (s.extract at_ (nameEnd s at_)) [] (.slice none 0 0) (w1.alloc (Obj.cells #[Value.string (s.extract at_ (nameEnd s at_)), Value.slice none 0 0] 138)) from
        ⟨((hO1.block _ (by simp) (by simp; omega)).trans HB.out |> fun hB : Blk w1 _ _ _ => hB.alloc _), Blk.new _ _ _, World.ownsRow_nil _ _ _ _, (HO.out.trans hO1).alloc _, hg, Nat.le_refl _, by have := hO1.size; simp at this; omega, by simp⟩)
    have HR := Lib.hid (hR1.alloc (Obj.cells #[Value.string (s.extract at_ (nameEnd s at_)), Value.slice none 0 0] 138))
    have HS := Lib.hid (show stepM s at_ = stepRest (s.extract at_ (nameEnd s at_)) (keysM s (nameEnd s at_) []) from stepM_rest (by unfold nameM; rw [hE]))
    have HL := Lib.hid (nameEnd_le hle).2
    have HBE := Lib.hid (nameEnd_bound s.size at_ (by omega) hle HBR.out)
    clear hR1 hO1 HN HP HB HO hE hle HBR
    generalize hW0 : w1.alloc (Obj.cells #[Value.string (s.extract at_ (nameEnd s at_)), Value.slice none 0 0] 138) = W0 at *
    clear hW0
    generalize s.extract at_ (nameEnd s at_) = nm at *
    generalize nameEnd s at_ = p0 at *
    generalize w1.heap.size = b0 at *
    generalize w.heap.size = r0 at *
    go_loopw [4, 5, 6, 7] (fun _ _ _ _ wr => RStepIn g r0 b0 at_ s a w nm wr) (fun _ _ _ _ wr => scMu g s.size wr)
    case atStart => exact ⟨p0, [], _, HX.out, .inl ⟨HR.out, HL.out, Nat.zero_le _, HBE.out, HS.out⟩⟩
    case round =>
      clear HR HX HL HBE HS
      obtain ⟨p, ks, v, hX, hJ⟩ := hrel
      obtain ⟨A, vc, rfl, -, -, hRd⟩ := own_form hX.2.2.1
      have HX := Lib.hid hX
      have HRd := Lib.hid hRd
      clear hX hRd
      rcases hJ with ⟨hR, hp, hkp, hb, hM⟩ | ⟨x, y, hx, hR, hM⟩
      · have HR := Lib.hid hR
        have HJ := Lib.hid (And.intro hkp hM)
        have HB := Lib.hid hb
        have HP := Lib.hid hp
        have c2 := hR.c2
        clear hR hkp hM hb hp
        cases hsb : standsB s p 91
        · have HI := Lib.hid (is_any g p s 0 a 91 wr HR.out (by omega) false hsb)
          have HM := Lib.hid (show stepM s at_ = .ok ((nm, ks), p) by rw [HJ.out.2, km_none HP.out hsb]; rfl)
          clear hsb
          go_wp2_with (go_at_call 91; go_loud (refine HI.out.mono ?_; rintro en w2 ⟨rfl, hR1, hO1⟩; obtain ⟨c0, c1, d0, f0, f1, d1, g1, g2⟩ := stepX_ret (HX.out.only hO1); have HX1 := Lib.hid (HX.out.only hO1); clear HX))
          change bodyPost Tryz.prog Tryz.f90 (RStepPost g at_ s a w) Exit.ret _ _
          exact bodyPost_ret (rstep_result (stepX_blk HX1.out) rfl) rfl (rstep_fine HX1.out hR1 HM.out)
        · have HI := Lib.hid (is_any g p s 0 a 91 wr HR.out (by omega) true hsb)
          obtain ⟨p1, hp1⟩ : ∃ p1, p1 = p + 1 := ⟨_, rfl⟩
          have HSB := Lib.hid (show standsB s p 91 = true ∧ p1 = p + 1 ∧ p1 ≤ s.size ∧ brokenAt s p1 = none from ⟨hsb, hp1, by have := stands_lt hsb; omega, by rw [hp1]; exact stands_bound hsb (by decide) HB.out⟩)
          have hp1i : (p : Int) + 1 = (p1 : Int) := by omega
          have hpb : (p : Int) < 1000000 := by have := HP.out; omega
          clear hsb hp1
          go_upto_region 4 with (go_at_call 91; go_loud (refine HI.out.mono ?_; rintro en w2 ⟨rfl, hR1, hO1⟩; have k1 := hR1.c1; have kf := Blk.frozen hR1 1; have HX1 := Lib.hid (HX.out.only (hO1.setCell (p := ⟨g, 1, none⟩) (.inl rfl) (.int .i64 (p1 : Int)))); have HR1 := Lib.hid (hR1.goto_ p1); clear HX hR1 hO1))
          generalize World.setCell w2 _ _ = w3 at *
          clear k1 kf hp1i hpb c2 HI
          have k1 := HR1.out.c1
          go_upto_region 7 with (go_at_call 124; go_loud (refine (rname_any g p1 s a _ HR1.out HSB.out.2.2.1 (by omega)).mono ?_; rintro en w4 (⟨x, y, p', key, hE, rfl, hR2, hO2⟩ | ⟨hE, rfl, hR2, hO2⟩); all_goals (have HX2 := Lib.hid (HX1.out.only hO2); obtain ⟨c0, c1, d0, f0, f1, d1, g1, g2⟩ := stepX_ret HX2.out; have HR2 := Lib.hid hR2; have HE := Lib.hid hE; clear hE hR2 hO2)))
          · have HNE := Lib.hid (nameErr_ne HE.out)
            have HM := Lib.hid (show stepM s at_ = .error (x, y) by rw [HJ.out.2, km_name HP.out HSB.out.1 (by rw [← HSB.out.2.1]; exact HE.out)]; rfl)
            have HV := Lib.hid (step_last HX2.out key)
            have hx' : (x == 0) = false := by rw [beq_eq_false_iff_ne]; exact HNE.out
            have HN2 := Lib.hid (show ks.length ≤ 100000 by have := HJ.out.1; have := HP.out; omega)
            clear HE k1
            generalize hN : ks.length = n at *
            clear hN
            cases hse : standsB s p' 61
            all_goals
              have HI := Lib.hid (is_any g p' s x y 61 w4 HR2.out (by omega) _ hse)
              clear hse
              rcases HV.out with ⟨rfl, hB⟩ | ⟨m, gb, kl, rfl, rfl, hcell, hB⟩
              · clear HV hB
                go_wp2_with (first | (go_at_call 91; go_loud (refine (HI.out).mono ?_; rintro en w5 ⟨rfl, hR5, hO5⟩; have k5 := hR5.c1; have k52 := hR5.c2; have HX5 := Lib.hid (HX2.out.only hO5); obtain ⟨e0, e1, e2, e3, e4, e5, e6, e7⟩ := stepX_ret HX5.out; have HR5 := Lib.hid hR5; clear hR5 hO5)) | (go_at_call 89; go_loud (refine (wrong_keep g p' s x y 160 _ _ HR5.out HNE.out).mono ?_; rintro en w6 ⟨rfl, rfl⟩)))
                change bodyPost Tryz.prog Tryz.f90 (RStepPost g at_ s a w) Exit.ret _ _
                exact bodyPost_ret (rstep_result (stepX_blk HX5.out) rfl) rfl (rstep_bad HNE.out HX5.out HR5.out HM.out)
              · clear HV
                have hwr : IntKind.i64.wrap (m : Int) = (m : Int) := by have := HN2.out; rw [IntKind.wrap_i64]; omega
                have hm1 : (m : Int) < (m : Int) + 1 := by omega
                have hm : (m : Int) ≤ 100000 := by have := HN2.out; omega
                clear hB
                cases hb : Op.bytesLess kl.1.toList key.toList
                all_goals
                  go_wp2_with (first | (go_at_call 91; go_loud (refine (HI.out).mono ?_; rintro en w5 ⟨rfl, hR5, hO5⟩; have k5 := hR5.c1; have k52 := hR5.c2; have HX5 := Lib.hid (HX2.out.only hO5); obtain ⟨e0, e1, e2, e3, e4, e5, e6, e7⟩ := stepX_ret HX5.out; have HR5 := Lib.hid hR5; clear hR5 hO5)) | (go_at_call 89; go_loud (first | (refine (wrong_keep g p' s x y 160 _ _ HR5.out HNE.out).mono ?_; rintro en w6 ⟨rfl, rfl⟩) | (refine (wrong_keep g p' s x y 160 _ _ HR2.out HNE.out).mono ?_; rintro en w6 ⟨rfl, rfl⟩))))
                  all_goals
                    change bodyPost Tryz.prog Tryz.f90 (RStepPost g at_ s a w) Exit.ret _ _
                    exact bodyPost_ret (rstep_result (stepX_blk HX5.out) rfl) rfl (rstep_bad HNE.out HX5.out HR5.out HM.out)
          · have HNM := Lib.hid (show nameM s p1 = .ok (s.extract p1 (nameEnd s p1), nameEnd s p1) by unfold nameM; rw [HE.out])
            clear HE k1
            generalize s.extract p1 (nameEnd s p1) = key at *
            generalize nameEnd s p1 = q at *
            have HQ := Lib.hid (nameM_ok HNM.out HSB.out.2.2.1)
            have HQB := Lib.hid (nameM_bound HNM.out HSB.out.2.2.1 HSB.out.2.2.2)
            have HV := Lib.hid (step_last HX2.out key)
            have HN2 := Lib.hid (show ks.length ≤ 100000 by have := HJ.out.1; have := HP.out; omega)
            generalize hN : ks.length = n at *
            have HL := Lib.hid hN
            clear hN
            rcases HV.out with ⟨rfl, hB⟩ | ⟨m, gb, kl, rfl, rfl, hcell, hB⟩
            · clear HV
              have HB9 := Lib.hid hB
              clear hB
              go_upto_region 9 with (fail)
              cases hse : standsB s q 61
              · have HI := Lib.hid (is_any g q s 0 a 61 w4 HR2.out (by omega) false hse)
                have HM := Lib.hid (show stepM s at_ = .error (160, (q : Int)) by rw [HJ.out.2, km_noeq HP.out HSB.out.1 (by rw [← HSB.out.2.1]; exact HNM.out) HB9.out hse]; rfl)
                clear hse
                go_wp2_with (first | (go_at_call 91; go_loud (refine (HI.out).mono ?_; rintro en w5 ⟨rfl, hR5, hO5⟩; have k5 := hR5.c1; have k52 := hR5.c2; have HX5 := Lib.hid (HX2.out.only hO5); obtain ⟨e0, e1, e2, e3, e4, e5, e6, e7⟩ := stepX_ret HX5.out; have HR5 := Lib.hid hR5; clear hR5 hO5)) | (go_at_call 89; go_loud (refine (wrong_set g q s a 160 q _ HR5.out).mono ?_; rintro en w6 ⟨rfl, hR6, hO6⟩; have k62 := hR6.c2; obtain ⟨i0, i1, i2, i3, i4, i5, i6, i7⟩ := stepX_ret (HX5.out.only hO6); have HX6 := Lib.hid (HX5.out.only hO6))))
                change bodyPost Tryz.prog Tryz.f90 (RStepPost g at_ s a w) Exit.ret _ _
                exact bodyPost_ret (rstep_result (stepX_blk HX6.out) rfl) rfl (rstep_bad (by omega) HX6.out hR6 HM.out)
              · have HI := Lib.hid (is_any g q s 0 a 61 w4 HR2.out (by omega) true hse)
                obtain ⟨q1, hq1⟩ : ∃ q1, q1 = q + 1 := ⟨_, rfl⟩
                have HSE := Lib.hid (show standsB s q 61 = true ∧ q1 = q + 1 ∧ q1 ≤ s.size ∧ brokenAt s q1 = none from ⟨hse, hq1, by have := stands_lt hse; omega, by rw [hq1]; exact stands_bound hse (by decide) HQB.out⟩)
                have hq1i : (q : Int) + 1 = (q1 : Int) := by omega
                have hqb : (q : Int) < 1000000 := by have := HQ.out; omega
                clear hse hq1
                go_upto_region 13 with (go_at_call 91; go_loud (refine HI.out.mono ?_; rintro en w5 ⟨rfl, hR5, hO5⟩; have k5 := hR5.c1; have k52 := hR5.c2; have kf := Blk.frozen hR5 1; have HX5 := Lib.hid (HX2.out.only (hO5.setCell (p := ⟨g, 1, none⟩) (.inl rfl) (.int .i64 (q1 : Int)))); have HR5 := Lib.hid (hR5.goto_ q1); clear hR5 hO5))
                generalize World.setCell w5 _ _ = w6 at *
                clear k5 k52 kf hq1i hqb HI HR2 HX2 c0 c1 d0 d1 f0 f1 g1 g2
                go_upto_region 14 with (go_at_call 125; go_loud (refine (rvalue_any g q1 s a _ HR5.out HSE.out.2.2.1 hs HSE.out.2.2.2).mono ?_; rintro en w7 (⟨x, y, p', V, hx, hE, rfl, hR7, hO7⟩ | ⟨l, q2, hE, rfl, hR7, hO7⟩); all_goals (have HX7 := Lib.hid (HX5.out.only hO7); have HR7 := Lib.hid hR7; have HE := Lib.hid hE; clear hE hR7 hO7 HX5 HR5)))
                · have HM := Lib.hid (show stepM s at_ = .error (x, y) by rw [HJ.out.2, km_val HP.out HSB.out.1 (by rw [← HSB.out.2.1]; exact HNM.out) HB9.out HSE.out.1 (by rw [← HSE.out.2.1]; exact HE.out)]; rfl)
                  obtain ⟨c0, c1, d0, f0, f1, d1, g1, g2⟩ := stepX_ret HX7.out
                  have k2 := HR7.out.c2
                  have hx' : (x == 0) = false := by rw [beq_eq_false_iff_ne]; exact hx
                  have HNE := Lib.hid hx
                  clear hx
                  go_wp2
                  change bodyPost Tryz.prog Tryz.f90 (RStepPost g at_ s a w) Exit.ret _ _
                  exact bodyPost_ret (rstep_result (stepX_blk HX7.out) rfl) rfl (rstep_bad HNE.out HX7.out HR7.out HM.out)
                · have HM := Lib.hid (show stepM s at_ = stepRest nm (keysM s (q2 + 1) (ks ++ [(key, str l)])) by rw [HJ.out.2, km_go HP.out HSB.out.1 (by rw [← HSB.out.2.1]; exact HNM.out) HB9.out HSE.out.1 (by rw [← HSE.out.2.1]; exact HE.out)])
                  have HV2 := Lib.hid (And.intro (valAt_ok HE.out) (valAt_bound HE.out HSE.out.2.2.2).1)
                  generalize str l = val at *
                  clear HE
                  obtain ⟨q3, hq3⟩ : ∃ q3, q3 = q2 + 1 := ⟨_, rfl⟩
                  rw [← hq3] at HM HV2
                  have HQ3 := Lib.hid hq3
                  have k1 := HR7.out.c1
                  have k2 := HR7.out.c2
                  have kf := Blk.frozen HR7.out 1
                  have hq3i : (q2 : Int) + 1 = (q3 : Int) := by omega
                  have hq2b : (q2 : Int) < 1000000 := by have := HV2.out; omega
                  clear hq3
                  go_upto_region 16 with (fail)
                  have HX8 := Lib.hid (HX7.out.only (((Only.refl g w7).setCell (p := ⟨g, 1, none⟩) (.inl rfl) (.int .i64 (q3 : Int)))))
                  have HR8 := Lib.hid (HR7.out.goto_ q3)
                  generalize World.setCell w7 _ _ = w8 at *
                  clear k1 k2 kf hq3i hq2b HX7 HR7
                  have c1 := HX8.out.2.1.cell 1
                  have HXA := Lib.hid (HX8.out.only ((Only.refl g w8).alloc (.cells #[.string key, .string val] 193)))
                  have HRA := Lib.hid (HR8.out.alloc (.cells #[.string key, .string val] 193))
                  have HRDD := Lib.hid (reads_new w8 #[.string key, .string val] 193 2 1 rfl)
                  obtain ⟨i0, hi0, hz0, hz1, hz2⟩ := info_parts pair_info
                  go_wp2_with (at_builtin; go_loud (refine wpList_append_any _ rfl (.tmp 91) (.tmp 95) _ rfl (b0 + 1) 193 i0 _ 2 32 Tryz.underlying136 hi0 hz0 hz1 hz2 rfl (by omega) _ ks.length (pairCells ks) rfl HXA.out.2.2.1 (w8.heap.size + 1) (some ⟨w8.heap.size, 0, none⟩) 1 1 [.string key, .string val] rfl (HRDD.out) (by simp [Value.oneCell']) (by have := HL.out; have := HN2.out; simp only [maxLen]; omega) (by have := HL.out; have := HN2.out; omega) (by have := HXA.out.2.2.2.2; omega) ?_); intro v3 w9 hown3 hg3 hat3; obtain ⟨A3, vc3, rfl, -, -, -⟩ := own_form hown3; have b9 := stepX_b0 HXA.out hg3; have b90 := b9.cell 1; have b91 := b9.frozen 1; have HX9 := Lib.hid (stepX_push HXA.out hg3 hown3); have HR9 := Lib.hid (scX_pr (u := .slice A3 (ks.length + 1) vc3) HXA.out HRA.out hg3); clear b9 hown3 hg3 hat3)
                  go_roundw
                  case rel =>
                    refine ⟨q3, ks ++ [(key, val)], _, HX9.out, .inl ⟨HR9.out, HV2.out.1.2, ?_, HV2.out.2, HM.out⟩⟩
                    have := HL.out
                    have := HJ.out.1
                    have := HSB.out.2
                    have := HSE.out.2
                    have := HQ.out.1
                    have := HV2.out
                    simp
                    omega
                  case measure =>
                    rw [scMu_ok HR.out, scMu_ok HR9.out]
                    have := HSB.out.2
                    have := HSE.out.2
                    have := HQ.out
                    have := HV2.out
                    omega
            · clear HV
              have hwr : IntKind.i64.wrap (m : Int) = (m : Int) := by have := HN2.out; rw [IntKind.wrap_i64]; omega
              have hm1 : (m : Int) < (m : Int) + 1 := by omega
              have hm : (m : Int) ≤ 100000 := by have := HN2.out; omega
              have HT := Lib.hid (bl_total key.toList kl.1.toList)
              have hbl : (Op.bytesLess key.toList kl.1.toList || key.toList == kl.1.toList) = !Op.bytesLess kl.1.toList key.toList := HT.out
              cases hb : Op.bytesLess kl.1.toList key.toList
              · have HB9 := Lib.hid (hB.trans hb)
                have hle1 : (Op.bytesLess key.toList kl.1.toList || key.toList == kl.1.toList) = true := by rw [hbl, hb]; rfl
                have HM := Lib.hid (show stepM s at_ = .error (160, (p1 : Int)) by rw [HJ.out.2, km_falls HP.out HSB.out.1 (by rw [← HSB.out.2.1]; exact HNM.out) HB9.out, HSB.out.2.1]; rfl)
                clear hB hb hbl HT
                have HLE := Lib.hid hle1
                clear hle1
                have HF := Lib.hid (wrong_set g q s a 160 p1 w4 HR2.out)
                cases hse : standsB s q 61
                all_goals
                  have HI := Lib.hid (fun W hW => is_any g q s 160 p1 61 W hW (by omega) _ hse)
                  clear hse
                  cases hx1 : Op.bytesLess key.toList kl.1.toList
                  all_goals
                    cases hx2 : (key.toList == kl.1.toList)
                    all_goals
                      first
                        | (have hle := HLE.out; rw [hx1, hx2] at hle; cases hle; done)
                        | (go_wp2_with (first | (go_at_call 91; go_loud (refine (HI.out _ HRW.out).mono ?_; rintro en w5 ⟨rfl, hR5, hO5⟩; have k5 := hR5.c1; have k52 := hR5.c2; have HX5 := Lib.hid (HXW.out.only hO5); obtain ⟨e0, e1, e2, e3, e4, e5, e6, e7⟩ := stepX_ret HX5.out; have HR5 := Lib.hid hR5; clear hR5 hO5)) | (go_at_call 89; go_loud (first | (refine (wrong_keep g q s 160 p1 160 _ _ HR5.out (by omega)).mono ?_; rintro en w6 ⟨rfl, rfl⟩) | (refine HF.out.mono ?_; rintro en wW ⟨rfl, hRW, hOW⟩; have HRW := Lib.hid hRW; have HXW := Lib.hid (HX2.out.only hOW); clear hRW hOW))))
                           all_goals
                             change bodyPost Tryz.prog Tryz.f90 (RStepPost g at_ s a w) Exit.ret _ _
                             exact bodyPost_ret (rstep_result (stepX_blk HX5.out) rfl) rfl (rstep_bad (by omega) HX5.out HR5.out HM.out))
              · have HB9 := Lib.hid (hB.trans hb)
                have hle1 : (Op.bytesLess key.toList kl.1.toList || key.toList == kl.1.toList) = false := by rw [hbl, hb]; rfl
                clear hB hb hbl HT
                simp only [Bool.or_eq_false_iff] at hle1
                obtain ⟨hle1, hle2⟩ := hle1
                go_upto_region 9 with (fail)
                clear hcell hle1 hle2 hwr hm1
                cases hse : standsB s q 61
                · have HI := Lib.hid (is_any g q s 0 a 61 w4 HR2.out (by omega) false hse)
                  have HM := Lib.hid (show stepM s at_ = .error (160, (q : Int)) by rw [HJ.out.2, km_noeq HP.out HSB.out.1 (by rw [← HSB.out.2.1]; exact HNM.out) HB9.out hse]; rfl)
                  clear hse
                  go_wp2_with (first | (go_at_call 91; go_loud (refine (HI.out).mono ?_; rintro en w5 ⟨rfl, hR5, hO5⟩; have k5 := hR5.c1; have k52 := hR5.c2; have HX5 := Lib.hid (HX2.out.only hO5); obtain ⟨e0, e1, e2, e3, e4, e5, e6, e7⟩ := stepX_ret HX5.out; have HR5 := Lib.hid hR5; clear hR5 hO5)) | (go_at_call 89; go_loud (refine (wrong_set g q s a 160 q _ HR5.out).mono ?_; rintro en w6 ⟨rfl, hR6, hO6⟩; have k62 := hR6.c2; obtain ⟨i0, i1, i2, i3, i4, i5, i6, i7⟩ := stepX_ret (HX5.out.only hO6); have HX6 := Lib.hid (HX5.out.only hO6))))
                  change bodyPost Tryz.prog Tryz.f90 (RStepPost g at_ s a w) Exit.ret _ _
                  exact bodyPost_ret (rstep_result (stepX_blk HX6.out) rfl) rfl (rstep_bad (by omega) HX6.out hR6 HM.out)
                · have HI := Lib.hid (is_any g q s 0 a 61 w4 HR2.out (by omega) true hse)
                  obtain ⟨q1, hq1⟩ : ∃ q1, q1 = q + 1 := ⟨_, rfl⟩
                  have HSE := Lib.hid (show standsB s q 61 = true ∧ q1 = q + 1 ∧ q1 ≤ s.size ∧ brokenAt s q1 = none from ⟨hse, hq1, by have := stands_lt hse; omega, by rw [hq1]; exact stands_bound hse (by decide) HQB.out⟩)
                  have hq1i : (q : Int) + 1 = (q1 : Int) := by omega
                  have hqb : (q : Int) < 1000000 := by have := HQ.out; omega
                  clear hse hq1
                  go_upto_region 13 with (go_at_call 91; go_loud (refine HI.out.mono ?_; rintro en w5 ⟨rfl, hR5, hO5⟩; have k5 := hR5.c1; have k52 := hR5.c2; have kf := Blk.frozen hR5 1; have HX5 := Lib.hid (HX2.out.only (hO5.setCell (p := ⟨g, 1, none⟩) (.inl rfl) (.int .i64 (q1 : Int)))); have HR5 := Lib.hid (hR5.goto_ q1); clear hR5 hO5))
                  generalize World.setCell w5 _ _ = w6 at *
                  clear k5 k52 kf hq1i hqb HI HR2 HX2 c0 c1 d0 d1 f0 f1 g1 g2
                  go_upto_region 14 with (go_at_call 125; go_loud (refine (rvalue_any g q1 s a _ HR5.out HSE.out.2.2.1 hs HSE.out.2.2.2).mono ?_; rintro en w7 (⟨x, y, p', V, hx, hE, rfl, hR7, hO7⟩ | ⟨l, q2, hE, rfl, hR7, hO7⟩); all_goals (have HX7 := Lib.hid (HX5.out.only hO7); have HR7 := Lib.hid hR7; have HE := Lib.hid hE; clear hE hR7 hO7 HX5 HR5)))
                  · have HM := Lib.hid (show stepM s at_ = .error (x, y) by rw [HJ.out.2, km_val HP.out HSB.out.1 (by rw [← HSB.out.2.1]; exact HNM.out) HB9.out HSE.out.1 (by rw [← HSE.out.2.1]; exact HE.out)]; rfl)
                    obtain ⟨c0, c1, d0, f0, f1, d1, g1, g2⟩ := stepX_ret HX7.out
                    have k2 := HR7.out.c2
                    have hx' : (x == 0) = false := by rw [beq_eq_false_iff_ne]; exact hx
                    have HNE := Lib.hid hx
                    clear hx
                    go_wp2
                    change bodyPost Tryz.prog Tryz.f90 (RStepPost g at_ s a w) Exit.ret _ _
                    exact bodyPost_ret (rstep_result (stepX_blk HX7.out) rfl) rfl (rstep_bad HNE.out HX7.out HR7.out HM.out)
                  · have HM := Lib.hid (show stepM s at_ = stepRest nm (keysM s (q2 + 1) (ks ++ [(key, str l)])) by rw [HJ.out.2, km_go HP.out HSB.out.1 (by rw [← HSB.out.2.1]; exact HNM.out) HB9.out HSE.out.1 (by rw [← HSE.out.2.1]; exact HE.out)])
                    have HV2 := Lib.hid (And.intro (valAt_ok HE.out) (valAt_bound HE.out HSE.out.2.2.2).1)
                    generalize str l = val at *
                    clear HE
                    obtain ⟨q3, hq3⟩ : ∃ q3, q3 = q2 + 1 := ⟨_, rfl⟩
                    rw [← hq3] at HM HV2
                    have HQ3 := Lib.hid hq3
                    have k1 := HR7.out.c1
                    have k2 := HR7.out.c2
                    have kf := Blk.frozen HR7.out 1
                    have hq3i : (q2 : Int) + 1 = (q3 : Int) := by omega
                    have hq2b : (q2 : Int) < 1000000 := by have := HV2.out; omega
                    clear hq3
                    go_upto_region 16 with (fail)
                    have HX8 := Lib.hid (HX7.out.only (((Only.refl g w7).setCell (p := ⟨g, 1, none⟩) (.inl rfl) (.int .i64 (q3 : Int)))))
                    have HR8 := Lib.hid (HR7.out.goto_ q3)
                    generalize World.setCell w7 _ _ = w8 at *
                    clear k1 k2 kf hq3i hq2b HX7 HR7
                    have c1 := HX8.out.2.1.cell 1
                    have HXA := Lib.hid (HX8.out.only ((Only.refl g w8).alloc (.cells #[.string key, .string val] 193)))
                    have HRA := Lib.hid (HR8.out.alloc (.cells #[.string key, .string val] 193))
                    have HRDD := Lib.hid (reads_new w8 #[.string key, .string val] 193 2 1 rfl)
                    obtain ⟨i0, hi0, hz0, hz1, hz2⟩ := info_parts pair_info
                    go_wp2_with (at_builtin; go_loud (refine wpList_append_any _ rfl (.tmp 91) (.tmp 95) _ rfl (b0 + 1) 193 i0 _ 2 32 Tryz.underlying136 hi0 hz0 hz1 hz2 rfl (by omega) _ ks.length (pairCells ks) rfl HXA.out.2.2.1 (w8.heap.size + 1) (some ⟨w8.heap.size, 0, none⟩) 1 1 [.string key, .string val] rfl (HRDD.out) (by simp [Value.oneCell']) (by have := HL.out; have := HN2.out; simp only [maxLen]; omega) (by have := HL.out; have := HN2.out; omega) (by have := HXA.out.2.2.2.2; omega) ?_); intro v3 w9 hown3 hg3 hat3; obtain ⟨A3, vc3, rfl, -, -, -⟩ := own_form hown3; have b9 := stepX_b0 HXA.out hg3; have b90 := b9.cell 1; have b91 := b9.frozen 1; have HX9 := Lib.hid (stepX_push HXA.out hg3 hown3); have HR9 := Lib.hid (scX_pr (u := .slice A3 (ks.length + 1) vc3) HXA.out HRA.out hg3); clear b9 hown3 hg3 hat3)
                    go_roundw
                    case rel =>
                      refine ⟨q3, ks ++ [(key, val)], _, HX9.out, .inl ⟨HR9.out, HV2.out.1.2, ?_, HV2.out.2, HM.out⟩⟩
                      have := HL.out
                      have := HJ.out.1
                      have := HSB.out.2
                      have := HSE.out.2
                      have := HQ.out.1
                      have := HV2.out
                      simp
                      omega
                    case measure =>
                      rw [scMu_ok HR.out, scMu_ok HR9.out]
                      have := HSB.out.2
                      have := HSE.out.2
                      have := HQ.out
                      have := HV2.out
                      omega
      · obtain ⟨c0, c1, d0, f0, f1, d1, g1, g2⟩ := stepX_ret HX.out
        have k2 := hR.c2
        have hx' : (x == 0) = false := by rw [beq_eq_false_iff_ne]; exact hx
        have HNE := Lib.hid hx
        clear hx
        go_wp2
        change bodyPost Tryz.prog Tryz.f90 (RStepPost g at_ s a w) Exit.ret _ _
        exact bodyPost_ret (rstep_result (stepX_blk HX.out) rfl) rfl (rstep_bad HNE.out HX.out hR hM)
end Go.Proofs.YtfpepdjffehbcaaGreat
