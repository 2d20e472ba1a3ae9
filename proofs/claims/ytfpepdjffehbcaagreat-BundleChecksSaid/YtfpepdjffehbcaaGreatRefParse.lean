/-
  The walk of the document's Parse. Condition: the string is within the reach.
-/
import Derived.Test.YtfpepdjffehbcaaGreatRefStep
set_option linter.unusedVariables false
set_option linter.unusedSimpArgs false
namespace Go.Proofs.YtfpepdjffehbcaaGreat
open Go.RowKit

theorem rparse_result {tmps : Array Value} {w : World} {r0 : Nat} {x y : Int} {v : Value} (hB : Blk w r0 93 #[.int .i64 x, .int .i64 y]) (hp : tmps.getD 3 undef = .pointer (some ⟨r0, 0, none⟩)) (hu : tmps.getD 2 undef = v) :
    (results Tryz.f70 tmps).run Tryz.prog w = .ok (.tuple #[v, spotV x y]) w :=
  results_tmp_row Tryz.results70 tmps w r0 93 #[.int .i64 x, .int .i64 y] _ hp hB Tryz.underlying93 rfl spot_info hu
/-- Where Parse's loop is. -/
def RParseOk (g r0 : Nat) (s : ByteArray) (wA : World) (v : Value) (p : Nat) (l : List PStep) (vs : List Value) (wr : World) : Prop :=
  SC wr g s p 0 0 ∧ Blk wr r0 93 #[.int .i64 0, .int .i64 0] ∧ Only g wA wr ∧ StepsIn wr wA.heap.size v l vs ∧ p ≤ s.size ∧ l.length ≤ p ∧ l.length ≤ 64 ∧ brokenAt s p = none ∧ parseM s = stepsM s p l
def RParseBad (g r0 : Nat) (s : ByteArray) (wA : World) (x y : Int) (p : Nat) (wr : World) : Prop :=
  x ≠ 0 ∧ SC wr g s p x y ∧ Blk wr r0 93 #[.int .i64 0, .int .i64 0] ∧ Only g wA wr ∧ parseM s = .error (x, y)
def RParseIn (g r0 : Nat) (s : ByteArray) (wA : World) (v : Value) (wr : World) : Prop := (∃ p l vs, RParseOk g r0 s wA v p l vs wr) ∨ (∃ x y p, RParseBad g r0 s wA x y p wr)

set_option maxHeartbeats 8000000 in
set_option maxRecDepth 100000 in
theorem rparse_any (s : ByteArray) (w : World) (hs : s.size ≤ 140737488355328) :
    Calls Tryz.prog 70 #[.string s] w (ParsePost s w) := by
  by_cases h512 : s.size > 512
  · have hq : (512 : Int) < (s.size : Int) := by omega
    have HM := Lib.hid (show parseM s = .error (3, 512) by unfold parseM; rw [if_pos h512])
    go_enter Tryz.func70, Tryz.ntmps70
    go_wp2
    exact bodyPost_ret (rparse_result (Blk.new w _ _) rfl rfl) rfl ⟨(Below.refl _ _).alloc (Nat.le_refl _) _, .inl ⟨3, 512, HM.out, rfl⟩⟩
  · have hq : ¬ (512 : Int) < (s.size : Int) := by omega
    have HC := Lib.hid (fun W => broken_any s W hs)
    have hB := Blk.new w 93 #[.int .i64 0, .int .i64 0]
    cases hbr : broken s with
    | some k =>
      rw [show brokenI s = (k : Int) by unfold brokenI; rw [hbr]] at HC
      have HM := Lib.hid (show parseM s = .error (6, (k : Int)) by unfold parseM; rw [if_neg h512, hbr])
      clear hbr
      obtain ⟨b0, b1, b2, b3, b4, b5⟩ := hB.two (.int .i64 6)
      have HB := Lib.hid hB
      clear hB
      go_enter Tryz.func70, Tryz.ntmps70
      go_wp2_with (go_at_call 69; refine (HC.out _).mono ?_; rintro en w1 ⟨rfl, rfl⟩)
      exact bodyPost_ret (rparse_result (Blk.new w _ _) rfl rfl) rfl ⟨(Below.refl _ _).alloc (Nat.le_refl _) _, .inl ⟨6, k, HM.out, rfl⟩⟩
    | none =>
      rw [show brokenI s = -1 by unfold brokenI; rw [hbr]] at HC
      by_cases h0 : s.size = 0
      · obtain rfl : s = ByteArray.empty := ByteArray.ext (Array.eq_empty_of_size_eq_zero h0)
        have HM := Lib.hid (show parseM ByteArray.empty = .ok [] by unfold parseM; rw [if_neg h512, hbr]; rfl)
        clear hbr
        obtain ⟨b0, b1, b2, b3, b4, b5⟩ := hB.two (.int .i64 0)
        have HB := Lib.hid hB
        clear hB
        go_enter Tryz.func70, Tryz.ntmps70
        go_wp2_with (go_at_call 69; refine (HC.out _).mono ?_; rintro en w1 ⟨rfl, rfl⟩)
        exact bodyPost_ret (rparse_result (Blk.new w _ _) rfl rfl) rfl ⟨(Below.refl _ _).alloc (Nat.le_refl _) _, .inr ⟨[], _, HM.out, rfl, [], stepsIn_nil _ _⟩⟩
      · have hne : s.toList.isEmpty = false := by
          rw [Lib.toList_data]
          cases hd : s.data.toList with
          | nil => exact absurd (by rw [← ba_len, hd]; rfl) h0
          | cons _ _ => rfl
        have HM := Lib.hid (show parseM s = stepsM s 0 [] by unfold parseM; rw [if_neg h512, hbr]; simp only; rw [if_neg h0])
        have HS := Lib.hid (show 0 < s.size ∧ s.size ≤ 512 by omega)
        have HBR := Lib.hid (show brokenAt s 0 = none by rw [← broken_at]; exact hbr)
        have HB := Lib.hid (hB.alloc (.cells #[.string s, .int .i64 0, .int .i64 0, .int .i64 0] 158))
        have HR := Lib.hid (show SC ((w.alloc (.cells #[.int .i64 0, .int .i64 0] 93)).alloc (.cells #[.string s, .int .i64 0, .int .i64 0, .int .i64 0] 158)) (w.heap.size + 1) s 0 0 0 from by
          have := Blk.new (w.alloc (.cells #[.int .i64 0, .int .i64 0] 93)) 158 #[.string s, .int .i64 0, .int .i64 0, .int .i64 0]
          simpa [SC] using this)
        have HG := Lib.hid (show w.heap.size < w.heap.size + 1 ∧ w.heap.size + 1 < ((w.alloc (.cells #[.int .i64 0, .int .i64 0] 93)).alloc (.cells #[.string s, .int .i64 0, .int .i64 0, .int .i64 0] 158)).heap.size by simp)
        have HBA := Lib.hid (((Below.refl _ w).alloc (Nat.le_refl _) (.cells #[.int .i64 0, .int .i64 0] 93)).alloc (by simp) (.cells #[.string s, .int .i64 0, .int .i64 0, .int .i64 0] 158))
        clear hbr h0 hB
        go_enter Tryz.func70, Tryz.ntmps70
        go_wp2_with (go_at_call 69; refine (HC.out _).mono ?_; rintro en w1 ⟨rfl, rfl⟩)
        clear HC
        generalize ((w.alloc (.cells #[.int .i64 0, .int .i64 0] 93)).alloc (.cells #[.string s, .int .i64 0, .int .i64 0, .int .i64 0] 158)) = wA at *
        generalize w.heap.size + 1 = g at *
        go_loopw [6] (fun v wr => RParseIn g w.heap.size s wA v wr) (fun _ wr => scMu g s.size wr)
        case atStart => exact .inl ⟨0, [], [], HR.out, HB.out, Only.refl g wA, stepsIn_nil _ _, Nat.zero_le _, Nat.zero_le _, by simp, HBR.out, HM.out⟩
        case round =>
          clear HM HR HB HBR
          rcases hrel with ⟨p, l, vs, hR, hB, hO, hI, hp, hlp, hl64, hbr, hM⟩ | ⟨x, y, p, hx, hR, hB, hO, hE⟩
          · obtain ⟨A, c, rfl, -, -, -⟩ := own_form hI.2.1
            have HM := Lib.hid hM
            have HI := Lib.hid hI
            have HO := Lib.hid hO
            have HB := Lib.hid hB
            have HR := Lib.hid hR
            have HBR := Lib.hid hbr
            have HP := Lib.hid (show p ≤ s.size ∧ l.length ≤ p ∧ l.length ≤ 64 from ⟨hp, hlp, hl64⟩)
            have c2 := hR.c2
            clear hM hI hO hp hlp hB hq hR hbr
            by_cases h64 : l.length = 64
            · have HE := Lib.hid (show parseM s = .error (3, (p : Int)) by rw [HM.out]; exact steps_full h64)
              have h64' : ((l.length : Int) == 64) = true := by simp [h64]
              have k1 := HR.out.c1
              clear h64 hl64
              go_upto_region 18 with (go_at_call 89; go_loud (refine (wrong_set g p s 0 3 p _ HR.out).mono ?_; rintro en w2 ⟨rfl, hR2, hO2⟩; have HB2 := Lib.hid (show Blk w2 _ _ _ from (hO2.block _ HB.out.lt (by have := HG.out; simp; omega)).trans HB.out); have HO2 := Lib.hid (HO.out.trans hO2); have HR2 := Lib.hid hR2; clear hR2 hO2 k1 c2))
              obtain ⟨b0, b1, b2, b3, b4, b5⟩ := HB2.out.two (.int .i64 3)
              have k2 := HR2.out.c2
              have k3 := HR2.out.c3
              have hx' : ((3 : Int) == 0) = false := by rw [beq_eq_false_iff_ne]; exact (by omega)
              go_upto_region 19 with (fail)
              go_region_with (fail)
              all_goals
                go_wp2
                change bodyPost Tryz.prog Tryz.f70 (ParsePost s w) Exit.ret _ _
                exact bodyPost_ret (rparse_result ((HB2.out.two_set _ _).drewN 1) rfl rfl) rfl (parse_bad ⟨Nat.le_refl _, HG.out.1⟩ HO2.out HBA.out HG.out.2 HE.out)
            · have hl : l.length < 64 := by omega
              have h64' : ((l.length : Int) == 64) = false := by rw [beq_eq_false_iff_ne]; omega
              have HL := Lib.hid hl
              have HSI := Lib.hid (show s.size ≤ 100000 by have := HS.out; omega)
              clear h64 hl64 hl
              go_upto_region 13 with (fail)
              have HW := Lib.hid (show g < wr.heap.size from HR.out.lt)
              obtain ⟨i0, hi0, hz0, hz1, hz2⟩ := info_parts stepz_info
              go_upto_region 14 with (first
                | (go_at_call 90; go_loud (refine (rstep_any g p s 0 wr HR.out HP.out.1 HSI.out HBR.out).mono ?_; rintro en w2 (⟨x, y, nm, A1, n1, c1, p1, hx, hE, rfl, hR2, hO2⟩ | ⟨nm, ks, kv, q, hE, rfl, hK2, hR2, hO2⟩); have HO3 := Lib.hid (hO2.alloc (.cells #[.string nm, .slice A1 n1 c1] 138)); have HR3 := Lib.hid (hR2.alloc (.cells #[.string nm, .slice A1 n1 c1] 138)); have HRD := Lib.hid (reads_new w2 #[.string nm, .slice A1 n1 c1] 138 2 1 rfl); have HSZ := Lib.hid hO2.size; have HI3 := Lib.hid (HI.out.only HO3.out HG.out.2); have HB3 := Lib.hid (Blk.alloc ((hO2.block _ HB.out.lt (by have := HG.out; simp; omega)).trans HB.out : Blk w2 _ _ _) (.cells #[.string nm, .slice A1 n1 c1] 138)); have HE := Lib.hid hE; have HX := Lib.hid hx; clear hx hE hR2 hO2; rotate_left; obtain ⟨A1, c1, rfl, -, -, -⟩ := own_form hK2; have HO3 := Lib.hid (hO2.alloc (.cells #[.string nm, .slice A1 ks.length c1] 138)); have HR3 := Lib.hid (hR2.alloc (.cells #[.string nm, .slice A1 ks.length c1] 138)); have HRD := Lib.hid (reads_new w2 #[.string nm, .slice A1 ks.length c1] 138 2 1 rfl); have HSZ := Lib.hid hO2.size; have HI3 := Lib.hid (HI.out.only HO3.out HG.out.2); have HB3 := Lib.hid (Blk.alloc ((hO2.block _ HB.out.lt (by have := HG.out; simp; omega)).trans HB.out : Blk w2 _ _ _) (.cells #[.string nm, .slice A1 ks.length c1] 138)); have HE := Lib.hid hE; have HK3 := Lib.hid (own_only hK2 ((Only.refl g w2).alloc (.cells #[.string nm, .slice A1 ks.length c1] 138)) HW.out); clear hE hK2 hR2 hO2; rotate_right))
                | (at_builtin; go_loud (first | (refine wpList_append_any _ rfl (.tmp 38) (.tmp 41) _ rfl wA.heap.size 138 i0 _ 2 40 Tryz.underlying131 hi0 hz0 hz1 hz2 rfl (by omega) _ l.length (stepCells l vs) rfl HI3.out.2.1 (w2.heap.size + 1) (some ⟨w2.heap.size, 0, none⟩) 1 1 [.string nm, .slice A1 n1 c1] rfl (HRD.out) (by simp [Value.oneCell']) (by have := HL.out; simp only [maxLen]; omega) (by have := HL.out; omega) (Nat.le_trans HO.out.size HO3.out.size) ?_) | (refine wpList_append_any _ rfl (.tmp 38) (.tmp 41) _ rfl wA.heap.size 138 i0 _ 2 40 Tryz.underlying131 hi0 hz0 hz1 hz2 rfl (by omega) _ l.length (stepCells l vs) rfl HI3.out.2.1 (w2.heap.size + 1) (some ⟨w2.heap.size, 0, none⟩) 1 1 [.string nm, .slice A1 ks.length c1] rfl (HRD.out) (by simp [Value.oneCell']) (by have := HL.out; simp only [maxLen]; omega) (by have := HL.out; omega) (Nat.le_trans HO.out.size HO3.out.size) ?_)); intro v3 w5 hown3 hg3 hat3; obtain ⟨A3, c3, rfl, -, -, -⟩ := own_form hown3))
              · have HE9 := Lib.hid (show parseM s = .error (x, y) by rw [HM.out]; exact steps_err HL.out HE.out)
                have hrow : ∀ k, (Value.slice A l.length c).ownBlock = some k → wA.heap.size ≤ k := fun k hk => (HI3.out.2.1.lt k hk).1
                have HR5 := Lib.hid (show SC w5 g s p1 x y from Blk.grown HR3.out hg3 (fun e => by have := hrow _ e.symm; have := HG.out; omega))
                have HO5 := Lib.hid ((HO.out.trans HO3.out).grown hg3 hrow)
                have HB5 := Lib.hid (show Blk w5 w.heap.size 93 #[.int .i64 0, .int .i64 0] from Blk.grown HB3.out hg3 (fun e => by have := hrow _ e.symm; have := HG.out; omega))
                clear hown3 hg3 hat3 hrow HI3 HO3 HR3 HRD HB3
                obtain ⟨b0, b1, b2, b3, b4, b5⟩ := HB5.out.two (.int .i64 x)
                have k2 := HR5.out.c2
                have k3 := HR5.out.c3
                have hx' : ((x : Int) == 0) = false := by rw [beq_eq_false_iff_ne]; exact HX.out
                go_upto_region 19 with (fail)
                go_region_with (fail)
                all_goals
                  go_wp2
                  change bodyPost Tryz.prog Tryz.f70 (ParsePost s w) Exit.ret _ _
                  exact bodyPost_ret (rparse_result ((HB5.out.two_set _ _).drewN 1) rfl rfl) rfl (parse_bad ⟨Nat.le_refl _, HG.out.1⟩ HO5.out HBA.out HG.out.2 HE9.out)
              · have HI5 := Lib.hid (StepsIn.push (st := (nm, ks)) HI3.out HO.out.size (fun i kv' k hi hk => (HI.out.lt i kv' k hi hk).2) HK3.out hg3 hown3)
                have hrow : ∀ k, (Value.slice A l.length c).ownBlock = some k → wA.heap.size ≤ k := fun k hk => (HI3.out.2.1.lt k hk).1
                have HR5 := Lib.hid (show SC w5 g s q 0 0 from Blk.grown HR3.out hg3 (fun e => by have := hrow _ e.symm; have := HG.out; omega))
                have HO5 := Lib.hid ((HO.out.trans HO3.out).grown hg3 hrow)
                have HB5 := Lib.hid (show Blk w5 w.heap.size 93 #[.int .i64 0, .int .i64 0] from Blk.grown HB3.out hg3 (fun e => by have := hrow _ e.symm; have := HG.out; omega))
                clear hown3 hg3 hat3 hrow HI3 HO3 HR3 HRD HB3 HK3
                have HQ := Lib.hid (stepM_ok HE.out HP.out.1)
                have HQB := Lib.hid (stepM_bound HE.out HP.out.1 HBR.out)
                have k1 := HR5.out.c1
                have k2 := HR5.out.c2
                by_cases hq : q = s.size
                · have HM2 := Lib.hid (show parseM s = .ok (l ++ [(nm, ks)]) by rw [HM.out]; exact steps_end HL.out (by rw [← hq]; exact HE.out))
                  have hq1 : ((q : Int) == (s.size : Int)) = true := by simp [hq]
                  obtain ⟨b0, b1, b2, b3, b4, b5⟩ := HB5.out.two (.int .i64 0)
                  clear hq
                  go_wp2
                  refine bodyPost_ret (rparse_result (HB5.out.two_set _ _) rfl rfl) rfl ⟨((Below.only HBA.out HO5.out (by have := HG.out; omega) (by have := HG.out; omega)).setCell (by simp) _).setCell (by simp) _, .inr ⟨_, _, HM2.out, rfl, _, StepsIn.base (StepsIn.only (g := w.heap.size) HI5.out (((Only.refl w.heap.size w5).setCell (.inl rfl) _).setCell (.inl rfl) _) (by have := HG.out; omega)) (by have := HG.out; omega)⟩⟩
                · have hq1 : ((q : Int) == (s.size : Int)) = false := by rw [beq_eq_false_iff_ne]; omega
                  have HQN := Lib.hid hq
                  clear hq
                  obtain ⟨q1, hq1'⟩ : ∃ q1, q1 = q + 1 := ⟨_, rfl⟩
                  have HQ1 := Lib.hid hq1'
                  have hqi : (q : Int) + 1 = (q1 : Int) := by omega
                  have hqb : (q : Int) < 1000000 := by have := HQ.out; have := HS.out; omega
                  clear hq1'
                  cases hsl : standsB s q 47
                  · have HI6 := Lib.hid (is_any g q s 0 0 47 w5 HR5.out (by have := HS.out; omega) false hsl)
                    have HE9 := Lib.hid (show parseM s = .error (160, (q : Int)) by rw [HM.out]; exact steps_no HL.out HE.out HQN.out hsl)
                    clear hsl
                    go_upto_region 17 with (first
                      | (go_at_call 91; go_loud (refine HI6.out.mono ?_; rintro en w6 ⟨rfl, hR6, hO6⟩; have HO6 := Lib.hid (HO5.out.trans hO6); have HB6 := Lib.hid (show Blk w6 _ _ _ from (hO6.block _ HB5.out.lt (by have := HG.out; simp; omega)).trans HB5.out); have k6 := hR6.c1; have HR6 := Lib.hid hR6; clear hR6 hO6))
                      | (go_at_call 89; go_loud (refine (wrong_set g q s 0 160 q _ HR6.out).mono ?_; rintro en w7 ⟨rfl, hR7, hO7⟩; have HB7 := Lib.hid (show Blk w7 _ _ _ from (hO7.block _ HB6.out.lt (by have := HG.out; simp; omega)).trans HB6.out); have HO7 := Lib.hid (HO6.out.trans hO7); have HR7 := Lib.hid hR7; clear hR7 hO7)))
                    clear k1 k2 k6
                    have k1 := HR7.out.c1
                    have kf := Blk.frozen HR7.out 1
                    go_wp2
                    go_roundw
                    case rel => exact .inr ⟨160, q, q1, by omega, HR7.out.goto_ q1, HB7.out.far (by have := HG.out; simp; omega) _, HO7.out.setCell (.inl rfl) _, HE9.out⟩
                    case measure =>
                      rw [scMu_bad (HR7.out.goto_ q1) (by omega), scMu_ok HR.out]
                      have := HP.out
                      omega
                  · have HI6 := Lib.hid (is_any g q s 0 0 47 w5 HR5.out (by have := HS.out; omega) true hsl)
                    have HM2 := Lib.hid (show parseM s = stepsM s q1 (l ++ [(nm, ks)]) by rw [HM.out, HQ1.out]; exact steps_go HL.out HE.out HQN.out hsl)
                    have HSL := Lib.hid (show q1 ≤ s.size ∧ brokenAt s q1 = none from ⟨by have := stands_lt hsl; have := HQ1.out; omega, by rw [HQ1.out]; exact stands_bound hsl (by decide) HQB.out⟩)
                    clear hsl
                    go_wp2_with (go_at_call 91; go_loud (refine HI6.out.mono ?_; rintro en w6 ⟨rfl, hR6, hO6⟩; have HO6 := Lib.hid (HO5.out.trans hO6); have HB6 := Lib.hid (show Blk w6 _ _ _ from (hO6.block _ HB5.out.lt (by have := HG.out; simp; omega)).trans HB5.out); have HI7 := Lib.hid (HI5.out.only hO6 HG.out.2); have k6 := hR6.c1; have kf := Blk.frozen hR6 1; have HR6 := Lib.hid hR6; clear hR6 hO6))
                    go_roundw
                    case rel => exact .inl ⟨q1, l ++ [(nm, ks)], _, HR6.out.goto_ q1, HB6.out.far (by have := HG.out; simp; omega) _, HO6.out.setCell (.inl rfl) _, HI7.out.only ((Only.refl g _).setCell (.inl rfl) _) HG.out.2, HSL.out.1, by have := HP.out; have := HQ.out; have := HQ1.out; simp; omega, by have := HL.out; simp; omega, HSL.out.2, HM2.out⟩
                    case measure =>
                      rw [scMu_ok (HR6.out.goto_ q1), scMu_ok HR.out]
                      have := HQ1.out
                      have := HQ.out
                      have := HP.out
                      have := HSL.out.1
                      omega
          · have HR := Lib.hid hR
            have HB := Lib.hid hB
            have HO := Lib.hid hO
            have HE := Lib.hid hE
            have c2 := hR.c2
            clear hR hB hO hE
            obtain ⟨b0, b1, b2, b3, b4, b5⟩ := HB.out.two (.int .i64 x)
            have k2 := HR.out.c2
            have k3 := HR.out.c3
            have hx' : ((x : Int) == 0) = false := by rw [beq_eq_false_iff_ne]; exact hx
            go_upto_region 19 with (fail)
            go_region_with (fail)
            all_goals
              go_wp2
              change bodyPost Tryz.prog Tryz.f70 (ParsePost s w) Exit.ret _ _
              exact bodyPost_ret (rparse_result ((HB.out.two_set _ _).drewN 1) rfl rfl) rfl (parse_bad ⟨Nat.le_refl _, HG.out.1⟩ HO.out HBA.out HG.out.2 HE.out)

end Go.Proofs.YtfpepdjffehbcaaGreat
