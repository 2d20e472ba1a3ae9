/-
  The walk of path.Parse. Condition: the string is within the reach.
-/
import Derived.Test.YtjebaibcfmjinaaPathParseLaw
import Derived.Test.YtjebaibcfmjinaaUtfCheck
namespace Go.Proofs.Ytjebaibcfmjinaa
open Go.RowKit

def ParsePost (s : ByteArray) (w : World) (en : Ending) (w' : World) : Prop := Below w.heap.size w w' ∧
  ((∃ x y, parseM s = .error (x, y) ∧ en = .returned (.tuple #[.slice none 0 0, spotV x y])) ∨ (∃ l v, parseM s = .ok l ∧ en = .returned (.tuple #[v, spotV 0 0]) ∧ StepsOwn w' w.heap.size v l))
theorem results_tmp_row {fn : Func} {P : Program} {p u : Tmp} {ty : TypeId} (h : fn.results = #[.tmp u, .cell p ty]) (tmps : Array Value) (w : World) (g : Nat) (t : TypeId) (cs : Array Value) (d : TypeDesc)
    (hp : tmps.getD p undef = .pointer (some ⟨g, 0, none⟩)) (hg : Blk w g t cs)
    (hu : P.underlying ty = some d) (hd : (match d with | .struct _ | .array _ _ => true | _ => false) = true) (hi : (P.info? ty).map (·.size) = some cs.size) {x : Value} (hx : tmps.getD u undef = x) :
    (results fn tmps).run P w = .ok (.tuple #[x, .agg cs]) w := by
  have hp' : tmps[p]?.getD undef = .pointer (some ⟨g, 0, none⟩) := by simpa using hp
  have hx' : tmps[u]?.getD undef = x := by simpa using hx
  simp [results, h, hp', hx', asAddr, run_loadVar_row w g t ty cs (0, 0) d hg hu hd hi, Result.andThen]
theorem spot_info : (Try.prog.info? 26).map (·.size) = some 2 := by kernel_rfl
theorem parse_result {tmps : Array Value} {w : World} {r0 : Nat} {x y : Int} {v : Value} (hB : Blk w r0 26 #[.int .i64 x, .int .i64 y]) (hp : tmps.getD 3 undef = .pointer (some ⟨r0, 0, none⟩)) (hu : tmps.getD 2 undef = v) :
    (results Try.f28 tmps).run Try.prog w = .ok (.tuple #[v, spotV x y]) w :=
  results_tmp_row Try.results28 tmps w r0 26 #[.int .i64 x, .int .i64 y] _ hp hB Try.underlying26 rfl spot_info hu
/-- A store of two cells: what it reads. -/
theorem Blk.two {w : World} {r : Nat} {t : TypeId} {a b : Value} (h : Blk w r t #[a, b]) (x : Value) :
    w.cell? ⟨r, 0, none⟩ = some a ∧ w.frozen? ⟨r, 0, none⟩ = false ∧ w.cell? ⟨r, 1, none⟩ = some b ∧ w.frozen? ⟨r, 1, none⟩ = false ∧
    (w.setCell ⟨r, 0, none⟩ x).cell? ⟨r, 1, none⟩ = some b ∧ (w.setCell ⟨r, 0, none⟩ x).frozen? ⟨r, 1, none⟩ = false :=
  ⟨h.cell 0, h.frozen 0, h.cell 1, h.frozen 1, (h.set_ 0 x).cell 1, (h.set_ 0 x).frozen 1⟩
theorem Blk.two_set {w : World} {r : Nat} {t : TypeId} {a b : Value} (h : Blk w r t #[a, b]) (x y : Value) : Blk ((w.setCell ⟨r, 0, none⟩ x).setCell ⟨r, 1, none⟩ y) r t #[x, y] := (h.set_ 0 x).set_ 1 y

theorem own_only {g : Nat} {w w' : World} {base : Nat} {e : TypeId} {size : Nat} {v : Value} {n : Nat} {xs : List Value} (h : w.ownsRow base e size v n xs) (hO : Only g w w') (hg : g < base) : w'.ownsRow base e size v n xs := h.kept hO (by
  cases hv : v.ownBlock with
  | none => exact .inl rfl
  | some k =>
    have := (h.lt k hv).1
    exact .inr (by simp; omega))
/-- Where Parse's loop is. -/
def ParseAt (g r0 : Nat) (s : ByteArray) (wA : World) (v : Value) (p : Nat) (l : List PStep) (vs : List Value) (wr : World) : Prop :=
  PR wr g s p 0 0 ∧ Blk wr r0 26 #[.int .i64 0, .int .i64 0] ∧ Only g wA wr ∧ StepsIn wr wA.heap.size v l vs ∧ p ≤ s.size ∧ l.length ≤ p ∧ l.length ≤ 64 ∧ parseM s = stepsM s p l
theorem StepsIn.base {w : World} {base base' : Nat} {v : Value} {l : List PStep} {vs : List Value} (h : StepsIn w base v l vs) (hb : base' ≤ base) : StepsIn w base' v l vs :=
  ⟨h.1, own_base h.2.1 hb, fun i st kv h1 h2 => own_base (h.2.2.1 i st kv h1 h2) hb, h.2.2.2⟩
theorem stepz_info : (Try.prog.info? 40).map (fun i => (i.zero, i.size, i.bytes)) = some (some (.agg #[.string ByteArray.empty, .slice none 0 0]), 2, 40) := by kernel_rfl
/-- The end of a reader that failed. -/
theorem parse_bad {g r0 : Nat} {s : ByteArray} {w wA W : World} {x y : Int} (hw : w.heap.size ≤ r0 ∧ r0 < g) (hO : Only g wA W) (hBL : Below w.heap.size w wA) (hgA : g < wA.heap.size) (hM : parseM s = .error (x, y)) :
    ParsePost s w (.returned (.tuple #[.slice none 0 0, spotV x y])) ((W.setCell ⟨r0, 0, none⟩ (.int .i64 x)).setCell ⟨r0, 1, none⟩ (.int .i64 y)).drew :=
  ⟨(((Below.only hBL hO (by omega) (by omega)).setCell (by simp; omega) _).setCell (by simp; omega) _).drew, .inl ⟨x, y, hM, rfl⟩⟩

set_option maxHeartbeats 4000000 in
theorem parse_any (s : ByteArray) (w : World) (hs : s.size ≤ 140737488355328) :
    Calls Try.prog 28 #[.string s] w (ParsePost s w) := by
  by_cases h512 : s.size > 512
  · have hq : (512 : Int) < (s.size : Int) := by omega
    have HM := Lib.hid (show parseM s = .error (3, 512) by unfold parseM; rw [if_pos h512])
    go_enter Try.func28, Try.ntmps28
    go_wp2
    exact bodyPost_ret (parse_result (Blk.new w _ _) rfl rfl) rfl ⟨(Below.refl _ _).alloc (Nat.le_refl _) _, .inl ⟨3, 512, HM.out, rfl⟩⟩
  · have hq : ¬ (512 : Int) < (s.size : Int) := by omega
    have HC := Lib.hid (fun W => check_any s W hs)
    cases hbr : broken s with
    | some k =>
      rw [show checkV s = .agg #[.int .i64 6, .int .i64 k] by unfold checkV; rw [hbr]; rfl] at HC
      have HM := Lib.hid (show parseM s = .error (6, (k : Int)) by unfold parseM; rw [if_neg h512, hbr])
      clear hbr
      go_enter Try.func28, Try.ntmps28
      go_upto_region 5 with (go_at_call 48; refine (HC.out _).mono ?_; rintro en w1 ⟨rfl, hO1⟩; have hB1 := (Blk.new w 26 #[.int .i64 0, .int .i64 0]).below hO1 (by simp); have HBL := Lib.hid (((Below.refl _ w).alloc (Nat.le_refl _) _).trans (hO1.mono (by simp))); have HSZ := Lib.hid hO1.size; obtain ⟨b0, b1, b2, b3, b4, b5⟩ := (hB1.alloc (.cells #[.int .i64 6, .int .i64 k] 26)).two (.int .i64 6); have HB1 := Lib.hid hB1; clear hB1 hO1)
      go_region_with (fail)
      all_goals
        go_wp2
        exact bodyPost_ret (parse_result (((HB1.out.alloc _).two_set _ _).drewN 1) rfl rfl) rfl ⟨(((HBL.out.alloc (by have := HSZ.out; simp at this; omega) _).setCell (by simp) _).setCell (by simp) _).drew, .inl ⟨6, k, HM.out, rfl⟩⟩
    | none =>
      rw [show checkV s = .agg #[.int .i64 0, .int .i64 0] by unfold checkV; rw [hbr]; rfl] at HC
      by_cases h0 : s.size = 0
      · obtain rfl : s = ByteArray.empty := ByteArray.ext (Array.eq_empty_of_size_eq_zero h0)
        have HM := Lib.hid (show parseM ByteArray.empty = .ok [] by unfold parseM; rw [if_neg h512, hbr]; rfl)
        clear hbr
        go_enter Try.func28, Try.ntmps28
        go_upto_region 5 with (go_at_call 48; refine (HC.out _).mono ?_; rintro en w1 ⟨rfl, hO1⟩; have hB1 := (Blk.new w 26 #[.int .i64 0, .int .i64 0]).below hO1 (by simp); have HBL := Lib.hid (((Below.refl _ w).alloc (Nat.le_refl _) _).trans (hO1.mono (by simp))); have HSZ := Lib.hid hO1.size; obtain ⟨b0, b1, b2, b3, b4, b5⟩ := (hB1.alloc (.cells #[.int .i64 0, .int .i64 0] 26)).two (.int .i64 0); have HB1 := Lib.hid hB1; clear hB1 hO1)
        go_region_with (fail)
        all_goals
          go_wp2
          exact bodyPost_ret (parse_result (((HB1.out.alloc _).two_set _ _).drewN 1) rfl rfl) rfl ⟨(((HBL.out.alloc (by have := HSZ.out; simp at this; omega) _).setCell (by simp) _).setCell (by simp) _).drew, .inr ⟨[], _, HM.out, rfl, [], stepsIn_nil _ _⟩⟩
      · have hne : s.toList.isEmpty = false := by
          rw [Lib.toList_data]
          cases hd : s.data.toList with
          | nil => exact absurd (by rw [← ba_len, hd]; rfl) h0
          | cons _ _ => rfl
        have HM := Lib.hid (show parseM s = stepsM s 0 [] by unfold parseM; rw [if_neg h512, hbr]; simp only; rw [if_neg h0])
        have HS := Lib.hid (show 0 < s.size ∧ s.size ≤ 512 by omega)
        clear hbr h0
        go_enter Try.func28, Try.ntmps28
        go_wp2_with (go_at_call 48; refine (HC.out _).mono ?_; rintro en w1 ⟨rfl, hO1⟩; have hB1 := (Blk.new w 26 #[.int .i64 0, .int .i64 0]).below hO1 (by simp); have HBL := Lib.hid (((Below.refl _ w).alloc (Nat.le_refl _) _).trans (hO1.mono (by simp))); have HSZ := Lib.hid hO1.size; have HB1 := Lib.hid hB1; clear hB1 hO1 HC)
        have HR := Lib.hid (show PR ((w1.alloc (.cells #[.int .i64 0, .int .i64 0] 26)).alloc (.cells #[.string s, .int .i64 0, .int .i64 0, .int .i64 0] 81)) (w1.heap.size + 1) s 0 0 0 from by
          have := Blk.new (w1.alloc (.cells #[.int .i64 0, .int .i64 0] 26)) 81 #[.string s, .int .i64 0, .int .i64 0, .int .i64 0]
          simpa [PR] using this)
        have HB := Lib.hid ((HB1.out.alloc (.cells #[.int .i64 0, .int .i64 0] 26)).alloc (.cells #[.string s, .int .i64 0, .int .i64 0, .int .i64 0] 81))
        have HG := Lib.hid (show w.heap.size < w1.heap.size + 1 ∧ w1.heap.size + 1 < ((w1.alloc (.cells #[.int .i64 0, .int .i64 0] 26)).alloc (.cells #[.string s, .int .i64 0, .int .i64 0, .int .i64 0] 81)).heap.size by
          have := HSZ.out
          simp at this ⊢
          omega)
        have HBA := Lib.hid ((HBL.out.alloc (by have := HSZ.out; simp at this; omega) (.cells #[.int .i64 0, .int .i64 0] 26)).alloc (by have := HSZ.out; simp at this ⊢; omega) (.cells #[.string s, .int .i64 0, .int .i64 0, .int .i64 0] 81))
        clear HBL HSZ HB1
        generalize ((w1.alloc (.cells #[.int .i64 0, .int .i64 0] 26)).alloc (.cells #[.string s, .int .i64 0, .int .i64 0, .int .i64 0] 81)) = wA at *
        generalize w1.heap.size + 1 = g at *
        go_loopw [2, 6, 7, 8] (fun _ v _ _ wr => ∃ p l vs, ParseAt g w.heap.size s wA v p l vs wr) (fun _ _ _ _ wr => s.size + 2 - atOf g wr)
        case atStart => exact ⟨0, [], [], HR.out, HB.out, Only.refl g wA, stepsIn_nil _ _, Nat.zero_le _, Nat.zero_le _, by simp, HM.out⟩
        case round =>
          obtain ⟨p, l, vs, hR, hB, hO, hI, hp, hlp, hl64, hM⟩ := hrel
          obtain ⟨A, c, rfl, -, -, -⟩ := own_form hI.2.1
          clear HM HR HB
          have HM := Lib.hid hM
          have HI := Lib.hid hI
          have HO := Lib.hid hO
          have HB := Lib.hid hB
          have HR := Lib.hid hR
          have HP := Lib.hid (show p ≤ s.size ∧ l.length ≤ p ∧ l.length ≤ 64 from ⟨hp, hlp, hl64⟩)
          clear hM hI hO hp hlp hB hq
          by_cases h64 : l.length = 64
          · have HE := Lib.hid (show parseM s = .error (3, (p : Int)) by rw [HM.out]; exact steps_full h64)
            have h64' : ((l.length : Int) == 64) = true := by simp [h64]
            have k1 := hR.c1
            clear h64 hR hl64
            go_upto_region 10 with (go_at_call 49; go_loud (refine (fail_any g p s 0 0 3 p _ HR.out).mono ?_; rintro en w2 ⟨rfl, hR2, hO2⟩; have k2 := hR2.c2; have k3 := hR2.c3; have HB2 := Lib.hid (show Blk w2 _ _ _ from (hO2.block _ HB.out.lt (by have := HG.out; simp; omega)).trans HB.out); obtain ⟨b0, b1, b2, b3, b4, b5⟩ := HB2.out.two (.int .i64 3); have HO2 := Lib.hid (HO.out.trans hO2); clear hR2 hO2))
            go_region_with (fail)
            all_goals
              go_wp2
              change bodyPost Try.prog Try.f28 (ParsePost s w) Exit.ret _ _
              exact bodyPost_ret (parse_result ((HB2.out.two_set _ _).drewN 1) rfl rfl) rfl (parse_bad ⟨Nat.le_refl _, HG.out.1⟩ HO2.out HBA.out HG.out.2 HE.out)
          · have hl : l.length < 64 := by omega
            have h64' : ((l.length : Int) == 64) = false := by rw [beq_eq_false_iff_ne]; omega
            have HL := Lib.hid hl
            have HSI := Lib.hid (show s.size ≤ 100000 by have := HS.out; omega)
            clear h64 hl64 hl hR
            go_upto_region 12 with (go_at_call 50; go_loud (refine (step_any g p s 0 0 wr HR.out HP.out.1 HSI.out).mono ?_; rintro en w2 (⟨x, y, nm, A1, n1, c1, p1, hE, rfl, hR2, hO2⟩ | ⟨nm, ks, kv, q, hE, rfl, hK2, hR2, hO2⟩); rotate_left; obtain ⟨A1, c1, rfl, -, -, -⟩ := own_form hK2; rotate_right))
            · have HE := Lib.hid (show parseM s = .error (x, y) by rw [HM.out]; exact steps_err HL.out hE)
              have HO3 := Lib.hid (HO.out.trans (hO2.alloc (.cells #[.string nm, .slice A1 n1 c1] 40)))
              have HB3 := Lib.hid (show Blk (w2.alloc (.cells #[.string nm, .slice A1 n1 c1] 40)) _ _ _ from Blk.alloc ((hO2.block _ HB.out.lt (by have := HG.out; simp; omega)).trans HB.out) _)
              have hR3 : PR _ g s p1 x y := hR2.alloc (.cells #[.string nm, .slice A1 n1 c1] 40)
              have k2 := hR3.c2
              have k3 := hR3.c3
              clear hR2 hO2 hE hR3
              generalize w2.alloc (.cells #[.string nm, .slice A1 n1 c1] 40) = w3 at *
              obtain ⟨b0, b1, b2, b3, b4, b5⟩ := HB3.out.two (.int .i64 x)
              go_upto_region 13 with (fail)
              go_region_with (fail)
              all_goals
                go_wp2
                change bodyPost Try.prog Try.f28 (ParsePost s w) Exit.ret _ _
                exact bodyPost_ret (parse_result ((HB3.out.two_set _ _).drewN 1) rfl rfl) rfl (parse_bad ⟨Nat.le_refl _, HG.out.1⟩ HO3.out HBA.out HG.out.2 HE.out)
            · have HE := Lib.hid hE
              have HQ := Lib.hid (stepM_ok hE HP.out.1)
              have HW := Lib.hid (show g < wr.heap.size from HR.out.lt)
              have HK3 := Lib.hid (own_only hK2 (((Only.refl g w2).alloc (.cells #[.string nm, .slice A1 ks.length c1] 40)).alloc (.cells #[.string nm, .slice A1 ks.length c1] 40)) HW.out)
              have HO3 := Lib.hid ((hO2.alloc (.cells #[.string nm, .slice A1 ks.length c1] 40)).alloc (.cells #[.string nm, .slice A1 ks.length c1] 40))
              have HR3 := Lib.hid ((hR2.alloc (.cells #[.string nm, .slice A1 ks.length c1] 40)).alloc (.cells #[.string nm, .slice A1 ks.length c1] 40))
              have hB7 := Blk.new w2 40 #[.string nm, .slice A1 ks.length c1]
              have k70 : (w2.alloc (.cells #[.string nm, .slice A1 ks.length c1] 40)).cell? ⟨w2.heap.size, 0, none⟩ = some (.string nm) := hB7.cell 0
              have k71 : (w2.alloc (.cells #[.string nm, .slice A1 ks.length c1] 40)).cell? ⟨w2.heap.size, 1, none⟩ = some (.slice A1 ks.length c1) := hB7.cell 1
              have HRD := Lib.hid (reads_new (w2.alloc (.cells #[.string nm, .slice A1 ks.length c1] 40)) #[.string nm, .slice A1 ks.length c1] 40 2 1 rfl)
              have HS3 := Lib.hid (show wr.heap.size ≤ w2.heap.size from hO2.size)
              clear hE hK2 hR2 hO2 hB7
              have HI3 := Lib.hid (HI.out.only HO3.out HG.out.2)
              generalize w2.alloc (.cells #[.string nm, .slice A1 ks.length c1] 40) = w3 at *
              obtain ⟨i0, hi0, hz0, hz1, hz2⟩ := info_parts stepz_info
              go_upto_region 15 with (at_builtin; go_loud (refine wpList_append_any _ rfl (.tmp 50) (.tmp 52) _ rfl wA.heap.size 40 i0 _ 2 40 Try.underlying32 hi0 hz0 hz1 hz2 rfl (by omega) _ l.length (stepCells l vs) rfl HI3.out.2.1 (w3.heap.size + 1) (some ⟨w3.heap.size, 0, none⟩) 1 1 [.string nm, .slice A1 ks.length c1] rfl (HRD.out) (by simp [Value.oneCell']) (by have := HL.out; simp only [maxLen]; omega) (by have := HL.out; omega) (by have := HO.out.size; have := HO3.out.size; omega) ?_); intro v3 w5 hown3 hg3 hat3)
              have HI5 := Lib.hid (StepsIn.push (st := (nm, ks)) HI3.out HO.out.size (fun i kv' k hi hk => (HI.out.lt i kv' k hi hk).2) HK3.out hg3 hown3)
              have hrow : ∀ k, (Value.slice A l.length c).ownBlock = some k → wA.heap.size ≤ k := fun k hk => (HI3.out.2.1.lt k hk).1
              have hR5 : PR w5 g s q 0 0 := Blk.grown HR3.out hg3 (fun e => by have := hrow _ e.symm; have := HG.out; omega)
              have HO5 := Lib.hid ((HO.out.trans HO3.out).grown hg3 hrow)
              have HB5 := Lib.hid (show Blk w5 w.heap.size 26 #[.int .i64 0, .int .i64 0] from Blk.grown ((HO3.out.block _ HB.out.lt (by have := HG.out; simp; omega)).trans HB.out) hg3 (fun e => by have := hrow _ e.symm; have := HG.out; omega))
              obtain ⟨A3, c3, rfl, -, -, -⟩ := own_form hown3
              clear hown3 hg3 hat3 hrow HI3 HO3 HK3 HR3 HRD k70 k71
              have k1 := hR5.c1
              have HR5 := Lib.hid hR5
              clear hR5
              by_cases hq : q = s.size
              · have HM2 := Lib.hid (show parseM s = .ok (l ++ [(nm, ks)]) by rw [HM.out]; exact steps_end HL.out (by rw [← hq]; exact HE.out))
                have hq1 : ((q : Int) == (s.size : Int)) = true := by simp [hq]
                obtain ⟨b0, b1, b2, b3, b4, b5⟩ := HB5.out.two (.int .i64 0)
                clear hq
                go_wp2
                refine bodyPost_ret (parse_result (HB5.out.two_set _ _) rfl rfl) rfl ⟨((Below.only HBA.out HO5.out (by have := HG.out; omega) (by have := HG.out; omega)).setCell (by simp) _).setCell (by simp) _, .inr ⟨_, _, HM2.out, rfl, _, StepsIn.base (StepsIn.only (g := w.heap.size) HI5.out (((Only.refl w.heap.size w5).setCell (.inl rfl) _).setCell (.inl rfl) _) (by have := HG.out; omega)) (by have := HG.out; omega)⟩⟩
              · have hq1 : ((q : Int) == (s.size : Int)) = false := by rw [beq_eq_false_iff_ne]; omega
                have HQN := Lib.hid hq
                clear hq
                cases hsl : standsB s q 47
                · have HNx := Lib.hid (next_no g q s 0 0 47 w5 HR5.out (by have := HS.out; omega) hsl)
                  have HE := Lib.hid (show parseM s = .error (160, (q : Int)) by rw [HM.out]; exact steps_no HL.out HE.out HQN.out hsl)
                  clear hsl
                  go_upto_region 19 with (first
                    | (go_at_call 51
                       refine HNx.out.mono ?_
                       rintro en w6 ⟨rfl, hR6, hO6⟩
                       have HO6 := Lib.hid (HO5.out.trans hO6)
                       have HB6 := Lib.hid (show Blk w6 _ _ _ from (hO6.block _ HB5.out.lt (by have := HG.out; simp; omega)).trans HB5.out)
                       have k6 := hR6.c1
                       have HR6 := Lib.hid hR6
                       clear hR6 hO6)
                    | (go_at_call 49
                       refine (fail_any g q s 0 0 160 q _ HR6.out).mono ?_
                       rintro en w7 ⟨rfl, hR7, hO7⟩
                       have k2 := hR7.c2
                       have k3 := hR7.c3
                       have HB7 := Lib.hid (show Blk w7 _ _ _ from (hO7.block _ HB6.out.lt (by have := HG.out; simp; omega)).trans HB6.out)
                       obtain ⟨b0, b1, b2, b3, b4, b5⟩ := HB7.out.two (.int .i64 160)
                       have HO7 := Lib.hid (HO6.out.trans hO7)
                       clear hR7 hO7))
                  go_region_with (fail)
                  all_goals
                    go_wp2
                    change bodyPost Try.prog Try.f28 (ParsePost s w) Exit.ret _ _
                    exact bodyPost_ret (parse_result ((HB7.out.two_set _ _).drewN 1) rfl rfl) rfl (parse_bad ⟨Nat.le_refl _, HG.out.1⟩ HO7.out HBA.out HG.out.2 HE.out)
                · have HNx := Lib.hid (next_yes g q s 0 0 47 w5 HR5.out (by have := HS.out; omega) hsl)
                  have HM2 := Lib.hid (show parseM s = stepsM s (q + 1) (l ++ [(nm, ks)]) by rw [HM.out]; exact steps_go HL.out HE.out HQN.out hsl)
                  have HSL := Lib.hid (stands_lt hsl)
                  clear hsl
                  go_wp2_with (go_at_call 51; refine HNx.out.mono ?_; rintro en w6 ⟨rfl, hR6, hO6⟩; have HO6 := Lib.hid hO6; have HR6 := Lib.hid hR6; clear hR6 hO6)
                  go_roundw
                  case rel => exact ⟨q + 1, l ++ [(nm, ks)], _, HR6.out, (HO6.out.block _ HB5.out.lt (by have := HG.out; simp; omega)).trans HB5.out, HO5.out.trans HO6.out, HI5.out.only HO6.out HG.out.2, HSL.out, by have := HP.out; have := HQ.out; simp; omega, by have := HL.out; simp; omega, HM2.out⟩
                  case measure =>
                    rw [atOf_pr HR.out, atOf_pr HR6.out]
                    have := HSL.out
                    have := HQ.out
                    omega
end Go.Proofs.Ytjebaibcfmjinaa
