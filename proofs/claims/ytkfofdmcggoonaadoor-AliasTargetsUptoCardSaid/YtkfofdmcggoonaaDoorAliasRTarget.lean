/-
  The walk of the document's Target. Condition: the text is at most 1048576 bytes.
-/
import Derived.Test.YtkfofdmcggoonaaDoorAliasStepsLaw
import Derived.Test.YtkfofdmcggoonaaDoorRefParse
import Derived.Test.YtkfofdmcggoonaaDoorRefPrint
namespace Go.Proofs.YtkfofdmcggoonaaDoor
open Go.RowKit

def TargetPost (g s : ByteArray) (w : World) (en : Ending) (w' : World) : Prop := en = .returned (.tuple #[.string (targetM g s).1, spotV (targetM g s).2.1 (targetM g s).2.2]) ∧ Below w.heap.size w w'
theorem target_mk {g s a : ByteArray} {x y : Int} {w w' : World} {en : Ending} {r : Nat} (hr : r = w.heap.size) (h : targetM g s = (a, x, y)) (he : en = .returned (.tuple #[.string a, spotV x y])) (hb : Below r w w') : TargetPost g s w en w' := by
  subst hr
  unfold TargetPost
  rw [h]
  exact ⟨he, hb⟩
theorem rtarget_result {tmps : Array Value} {w : World} {r0 : Nat} {x y : Int} {v : Value} (hB : Blk w r0 25 #[.int .i64 x, .int .i64 y]) (hp : tmps.getD 5 undef = .pointer (some ⟨r0, 0, none⟩)) (hu : tmps.getD 4 undef = v) :
    (results Tryd.f10 tmps).run Tryd.prog w = .ok (.tuple #[v, spotV x y]) w :=
  results_tmp_row Tryd.results10 tmps w r0 25 #[.int .i64 x, .int .i64 y] _ hp hB Tryd.underlying25 rfl spot_info hu
/-- The result's cell at r, the rest above it. -/
def TBase (w : World) (r : Nat) (W : World) : Prop := Blk W r 25 #[.int .i64 0, .int .i64 0] ∧ Below r w W ∧ r + 1 ≤ W.heap.size
theorem TBase.below {w W W' : World} {r B : Nat} (h : TBase w r W) (hb : Below B W W') (hB : r + 1 ≤ B) : TBase w r W' := ⟨h.1.below hb (by omega), h.2.1.trans (hb.mono (by omega)), by have := h.2.2; have := hb.size; omega⟩
theorem TBase.grown {w W W' : World} {r : Nat} {row : Option Nat} (h : TBase w r W) (hg : W.grownBy W' row) (hr : ∀ k, row = some k → r + 1 ≤ k) : TBase w r W' :=
  ⟨h.1.grown hg (fun e => by have := hr _ e.symm; omega), h.2.1.grown hg (by have := h.2.2; omega) (fun k hk => by have := hr k hk; omega), by have := h.2.2; have := hg.size; omega⟩
theorem TBase.done {w W : World} {r : Nat} (h : TBase w r W) (x y : Int) : Blk ((W.setCell ⟨r, 0, none⟩ (.int .i64 x)).setCell ⟨r, 1, none⟩ (.int .i64 y)) r 25 #[.int .i64 x, .int .i64 y] ∧ Below r w ((W.setCell ⟨r, 0, none⟩ (.int .i64 x)).setCell ⟨r, 1, none⟩ (.int .i64 y)) :=
  ⟨h.1.two_set _ _, (h.2.1.setCell (p := ⟨r, 0, none⟩) (Nat.le_refl _) _).setCell (p := ⟨r, 1, none⟩) (Nat.le_refl _) _⟩
theorem TBase.alloc {w W : World} {r : Nat} (h : TBase w r W) (o : Obj) : TBase w r (W.alloc o) := h.below ((Below.refl _ W).alloc (Nat.le_refl _) o) h.2.2
theorem TBase.drewN {w W : World} {r : Nat} (h : TBase w r W) (k : Nat) : TBase w r (W.drewN k) := h.below (below_drewN (Below.refl _ W) k) h.2.2
theorem aputF_err : ∀ (l : List PStep) (sh : Bool) (sz : Nat) (ts : List (List UInt8)) (e : Int), putF l sh sz ts = .error e → e = 160
  | [], _, _, _, _, h => by cases h
  | st :: l, sh, sz, ts, e, h => by
    unfold putF at h
    split at h
    · exact aputF_err l _ _ _ e h
    · cases h
      rfl
theorem aputM_err {l : List PStep} {e : Int} (h : putM l = .error e) : e ≠ 0 := by
  unfold putM at h
  split at h
  · rename_i e' h'
    cases h
    have := aputF_err _ _ _ _ _ h'
    omega
  · split at h
    · cases h
    · cases h
      decide
theorem take_get {α : Type} {l : List α} {n i : Nat} {x : α} (h : (l.take n)[i]? = some x) : l[i]? = some x := by
  rw [List.getElem?_take] at h
  split at h
  · exact h
  · cases h
theorem keysOwn_take {w : World} {base : Nat} {l : List PStep} {vs : List Value} (h : KeysOwn w base l vs) (n : Nat) : KeysOwn w base (l.take n) (vs.take n) :=
  ⟨fun i st kv h1 h2 => h.1 i st kv (take_get h1) (take_get h2), fun i j a b kv kv' hij h1 h2 => h.2 i j a b kv kv' hij (take_get h1) (take_get h2)⟩
theorem stepCells_next {l : List PStep} {vs : List Value} {i : Nat} {st : PStep} {kv : Value} (hl : vs.length = l.length) (h1 : l[i]? = some st) (h2 : vs[i]? = some kv) :
    stepCells (l.take (i + 1)) (vs.take (i + 1)) = stepCells (l.take i) (vs.take i) ++ [.string st.1, kv] := by
  rw [List.take_add_one, List.take_add_one, h1, h2]
  exact stepCells_append _ _ _ _ (by simp [hl])
/-- Where Target's last loop is. -/
def RTAt (g s : ByteArray) (w : World) (r p : Nat) (L : List PStep) (VS : List Value) (more : Bool) (ov : Value) (wr : World) : Prop :=
  p ≤ s.size ∧ TBase w r wr ∧ StepsIn wr (r + 1) ov L VS ∧ (more = true → L.length * 2 ≤ 128 + p) ∧ L.length * 2 ≤ 129 + p ∧ (∀ st ∈ L, StepSmall st) ∧
    targetM g s = (if more = true then lastM (astepsM s p L) else if p = s.size then lastM (.ok L) else lastM (.error p))
set_option maxHeartbeats 16000000 in
set_option maxRecDepth 100000 in
theorem rtarget_any (g s : ByteArray) (w : World) (hg : g.size ≤ 140737488355328) (hs : s.size ≤ 1048576) :
    Calls Tryd.prog 10 #[.string g, .string s] w (TargetPost g s w) := by
  have hs2 : s.size ≤ 140737488355328 := by omega
  have HS2 := Lib.hid hs2
  clear hs2
  obtain ⟨r, hr⟩ : ∃ r, r = w.heap.size := ⟨_, rfl⟩
  have HR := Lib.hid hr
  have HT0 := Lib.hid (show TBase w r (w.alloc (.cells #[.int .i64 0, .int .i64 0] 25)) from by rw [hr]; exact ⟨Blk.new _ _ _, (Below.refl _ _).alloc (Nat.le_refl _) _, by simp⟩)
  have HP := Lib.hid (fun W => rparse_any g W hg)
  go_enter Tryd.func10, Tryd.ntmps10
  go_wp2_with fail
  rw [← hr]
  clear hr
  generalize w.alloc (.cells #[.int .i64 0, .int .i64 0] 25) = w1 at *
  refine (HP.out _).mono ?_
  rintro en w2 ⟨hb2, h⟩
  have HT2 := Lib.hid (HT0.out.below hb2 HT0.out.2.2)
  rcases h with ⟨x, y, hE, rfl⟩ | ⟨l, v, hE, rfl, vs, hI⟩
  · have HM := Lib.hid (targetM_err (s := s) hE)
    simp only [spotV]
    go_upto_region 2 with (fail)
    have hx := parseM_err hE
    have hn := Blk.new w2 25 #[.int .i64 x, .int .i64 y]
    have HT3 := Lib.hid (HT2.out.alloc (.cells #[.int .i64 x, .int .i64 y] 25))
    generalize w2.alloc (.cells #[.int .i64 x, .int .i64 y] 25) = w3 at *
    have k0 : w3.cell? ⟨w2.heap.size, 0, none⟩ = some (.int .i64 x) := hn.cell 0
    have hx0 : (x == 0) = false := by rw [beq_eq_false_iff_ne]; omega
    have hx1 : ¬ x = 0 := by omega
    obtain ⟨b0, b1, b2, b3, b4, b5⟩ := HT3.out.1.two (.int .i64 2)
    clear hE hb2 hx hn
    go_wp2
    (try simp only [Exit.inBlock, Exit.then])
    refine bodyPost_ret (rtarget_result (HT3.out.done 2 0).1 rfl rfl) rfl ?_
    exact target_mk HR.out HM.out rfl (HT3.out.done 2 0).2
  · simp only [spotV]
    obtain ⟨A, c, rfl, hc1, hc2, -⟩ := own_form hI.2.1
    go_upto_region 2 with (fail)
    have HSM := Lib.hid (parseM_small hE)
    have hI1 := hI.only ((Only.refl r w2).alloc (.cells #[.int .i64 0, .int .i64 0] 25)) HT0.out.2.2
    have hn := Blk.new w2 25 #[.int .i64 0, .int .i64 0]
    have HT3 := Lib.hid (HT2.out.alloc (.cells #[.int .i64 0, .int .i64 0] 25))
    have HKB := Lib.hid (show ∀ (i : Nat) (kv : Value) (k : Nat), vs[i]? = some kv → kv.ownBlock = some k → k < w2.heap.size from fun i kv k hi hk => (hI.lt i kv k hi hk).2)
    have HVB := Lib.hid (show ∀ k, (Value.slice A l.length c).ownBlock = some k → k < w2.heap.size from fun k hk => (hI.2.1.lt k hk).2)
    have HW3 := Lib.hid (show w2.heap.size + 1 = (w2.alloc (.cells #[.int .i64 0, .int .i64 0] 25)).heap.size by simp)
    generalize w2.alloc (.cells #[.int .i64 0, .int .i64 0] 25) = w3 at *
    have k0 : w3.cell? ⟨w2.heap.size, 0, none⟩ = some (.int .i64 0) := hn.cell 0
    have HI := Lib.hid hI1
    have HE := Lib.hid hE
    clear hI hI1 hb2 hE hn
    generalize hN : l.length = n0 at *
    have HN := Lib.hid hN
    have hn1 : (n0 : Int) ≤ 64 := by have := HSM.out.2.1; omega
    clear hN
    by_cases h0 : n0 = 0
    · subst h0
      have HM := Lib.hid (targetM_nil (s := s) (show parseM g = .ok [] by rw [HE.out, List.eq_nil_of_length_eq_zero HN.out]))
      obtain ⟨b0, b1, b2, b3, b4, b5⟩ := HT3.out.1.two (.int .i64 2)
      go_wp2
      (try simp only [Exit.inBlock, Exit.then])
      refine bodyPost_ret (rtarget_result (HT3.out.done 2 0).1 rfl rfl) rfl ?_
      exact target_mk HR.out HM.out rfl (HT3.out.done 2 0).2
    · have HM := Lib.hid (targetM_ok (s := s) HE.out (fun e => h0 (by rw [← HN.out, e]; rfl)))
      have h01 : ((n0 : Int) == 0) = false := by rw [beq_eq_false_iff_ne]; omega
      go_wp2
      clear h0 h01 k0
      go_loopw [6, 8, 9] (fun uv av fv wr => ∃ (p n : Nat) (f : Bool), uv = .slice A n c ∧ av = .int .i64 (p : Int) ∧ fv = .bool f ∧ p ≤ s.size ∧ n ≤ n0 ∧ aclimbM s 0 l true = aclimbM s p (l.take n) f ∧ ∃ k, wr = w3.drewN k) (fun _ av _ _ => s.size - (Lib.intOf av).toNat)
      case atStart => exact ⟨0, n0, true, rfl, rfl, rfl, Nat.zero_le _, Nat.le_refl _, by rw [List.take_of_length_le (by rw [HN.out]; exact Nat.le_refl _)], 0, rfl⟩
      case round =>
        obtain ⟨p, n, f, rfl, rfl, rfl, hp, hn, hE, k, rfl⟩ := hrel
        have HE2 := Lib.hid hE
        have HT := Lib.hid (HT3.out.drewN k)
        clear hE
        by_cases hgo : (f || standsB s p 46) = true
        · have hA := aclimbM_eq (up := l.take n) (first := f) hp
          rw [if_pos hgo] at hA
          have hf : f = true ∨ (f = false ∧ ∃ h : p < s.size, ((s[p].toNat : Int) == 46) = true) := by
            cases f
            · obtain ⟨h1, h2⟩ := stands_at (show standsB s p 46 = true by simpa using hgo)
              exact .inr ⟨rfl, h1, by rw [h2]; rfl⟩
            · exact .inl rfl
          clear hgo
          by_cases hn0 : n = 0
          · subst hn0
            have HX := Lib.hid (show targetM g s = (ByteArray.empty, 230, (p : Int)) by rw [HM.out, HE2.out, hA, if_pos (by simp)]; rfl)
            clear hA HE2
            generalize w3.drewN k = w4 at *
            obtain ⟨b0, b1, b2, b3, b4, b5⟩ := HT.out.1.two (.int .i64 230)
            rcases hf with rfl | ⟨rfl, hlt, hcb⟩
            · go_wp2
              (try simp only [Exit.inBlock, Exit.then])
              refine bodyPost_ret (rtarget_result (HT.out.done 230 p).1 rfl rfl) rfl ?_
              exact target_mk HR.out HX.out rfl (HT.out.done 230 p).2
            · have hq : (p : Int) < (s.size : Int) := by omega
              go_wp2
              (try simp only [Exit.inBlock, Exit.then])
              refine bodyPost_ret (rtarget_result (HT.out.done 230 p).1 rfl rfl) rfl ?_
              exact target_mk HR.out HX.out rfl (HT.out.done 230 p).2
          · obtain ⟨m, rfl⟩ : ∃ m, n = m + 1 := ⟨n - 1, by omega⟩
            have hne : l.take (m + 1) ≠ [] := fun e => by
              have := congrArg List.length e
              rw [List.length_take, HN.out] at this
              simp at this
              omega
            rw [if_neg hne] at hA
            rcases e1 : mustM s p [46, 46, 47] with ⟨q, b1⟩
            have m1 := mustM_le s [46, 46, 47] p hp
            have HMU := Lib.hid (rmust_of (b := ⟨#[46, 46, 47]⟩) [46, 46, 47] rfl e1 hp HS2.out (by decide))
            rw [e1] at m1 hA
            obtain ⟨m1a, m1b, m1c⟩ := m1
            simp only at m1a m1b m1c
            have HM1 := Lib.hid m1c
            clear m1c hne e1
            cases b1
            · have HX := Lib.hid (show targetM g s = (ByteArray.empty, 230, (q : Int)) by rw [HM.out, HE2.out, hA]; rfl)
              clear hA HE2
              rcases hf with rfl | ⟨rfl, hlt, hcb⟩
              all_goals
                (try have hq : (p : Int) < (s.size : Int) := by omega)
                go_wp2_with fail
                refine (HMU.out _).mono ?_
                rintro en w5 ⟨rfl, k5, rfl⟩
                have HT5 := Lib.hid (HT.out.drewN k5)
                generalize (w3.drewN k).drewN k5 = w5 at *
                obtain ⟨b0, b1, b2, b3, b4, b5⟩ := HT5.out.1.two (.int .i64 230)
                go_wp2
                (try simp only [Exit.inBlock, Exit.then])
                refine bodyPost_ret (rtarget_result (HT5.out.done 230 q).1 rfl rfl) rfl ?_
                exact target_mk HR.out HX.out rfl (HT5.out.done 230 q).2
            · have HX := Lib.hid (show aclimbM s 0 l true = aclimbM s q (l.take m) false by
                rw [HE2.out, hA]
                simp only
                rw [show (l.take (m + 1)).dropLast = l.take m by rw [List.dropLast_eq_take, List.length_take, List.take_take, HN.out]; congr 1; omega])
              clear hA HE2
              have hmc : (m : Int) ≤ (c : Int) := by omega
              have hmc2 : (c : Int) ≤ 9223372036854775807 := by simp only [maxLen] at hc2; omega
              have hmc3 : (m : Int) ≤ 64 := by omega
              rcases hf with rfl | ⟨rfl, hlt, hcb⟩
              all_goals
                (try have hq : (p : Int) < (s.size : Int) := by omega)
                go_wp2_with fail
                refine (HMU.out _).mono ?_
                rintro en w5 ⟨rfl, k5, rfl⟩
                go_wp2
                go_roundw
                case rel => exact ⟨q, m, false, rfl, rfl, rfl, m1b, by omega, HX.out, k + k5, rfl⟩
                case measure => have := HM1.out trivial; simp [Lib.intOf]; simp at this; omega
        · have hF : f = false ∧ standsB s p 46 = false := by
            cases f
            · exact ⟨rfl, by simpa using hgo⟩
            · exact absurd (show (true || standsB s p 46) = true from rfl) hgo
          obtain ⟨rfl, hsb⟩ := hF
          have hA := aclimbM_eq (up := l.take n) (first := false) hp
          rw [if_neg hgo] at hA
          have HX := Lib.hid (show targetM g s = lastM (astepsM s p (l.take n)) by rw [HM.out, HE2.out, hA]; rfl)
          have HI4 := Lib.hid (show StepsIn (w3.drewN k) (r + 1) (.slice A n0 c) l vs from StepsIn.base ⟨HI.out.1, HN.out ▸ HI.out.2.1, HI.out.2.2⟩ (HT0.out.2.2))
          clear hA HE2 hgo
          have HT4 := HT
          have HRD := Lib.hid (own_reads (show (w3.drewN k).ownsRow (r + 1) 55 2 (.slice A n0 c) n0 (stepCells l vs) from HN.out ▸ HI4.out.2.1))
          have HNX := Lib.hid hn
          obtain ⟨i0, hi0, hz0, hz1, hz2⟩ := info_parts stepz_info
          have hn2 : (n : Int) ≤ 64 := by omega
          have hq : (∃ h : p < s.size, ((s[p].toNat : Int) == 46) = false) ∨ ¬ ((p : Int) < (s.size : Int)) := by
            by_cases h : p < s.size
            · refine .inl ⟨h, ?_⟩
              have h1 := beq_dec s[p] 46
              rw [show (s[p] == 46) = false by
                cases h2 : (s[p] == 46)
                · rfl
                · exact absurd (show standsB s p 46 = true by unfold standsB; rw [dif_pos h, h2]) (by rw [hsb]; simp)] at h1
              exact h1.symm
            · exact .inr (by omega)
          clear hsb HT HP HM HT3 HE HI hn
          generalize w3.drewN k = w4 at *
          rcases hq with ⟨hlt, hcb⟩ | hlt
          all_goals
            (try have hq : (p : Int) < (s.size : Int) := by omega)
            go_wp2
            go_loopw [12, 13] (fun ov iv wr => ∃ i : Nat, iv = .int .i64 (i : Int) ∧ i ≤ n ∧ wr.ownsRow w4.heap.size 55 2 ov i (stepCells (l.take i) (vs.take i)) ∧ Below w4.heap.size w4 wr) (fun _ iv _ => n - (Lib.intOf iv).toNat)
            case atStart => exact ⟨0, rfl, Nat.zero_le _, World.ownsRow_nil _ _ _ _, Below.refl _ _⟩
            case round =>
              obtain ⟨i, rfl, hi, hO, hB⟩ := hrel
              obtain ⟨A7, c7, rfl, -, -, -⟩ := own_form hO
              have HO := Lib.hid hO
              have HB := Lib.hid hB
              clear hO hB
              by_cases hin : i < n
              · obtain ⟨st, hst⟩ : ∃ st, l[i]? = some st := ⟨l[i]'(by rw [HN.out]; have := HNX.out; omega), by simp [HN.out, show i < n0 by have := HNX.out; omega]⟩
                obtain ⟨kv, hkv⟩ : ∃ kv, vs[i]? = some kv := ⟨vs[i]'(by rw [HI4.out.1, HN.out]; have := HNX.out; omega), by simp [HI4.out.1, HN.out, show i < n0 by have := HNX.out; omega]⟩
                obtain ⟨Ak, ck, rfl, -, -, -⟩ := own_form (HI4.out.2.2.1 i st kv hst hkv)
                have hq1 : (i : Int) < (n : Int) := by omega
                obtain ⟨b, o, hA, hbo, hcells⟩ := (HRD.out.below HB.out).spot (by have := HNX.out; omega) (by omega)
                cases hA
                have hat := stepCells_at l vs i st _ hst hkv
                have r0 := hcells _ _ hat.1
                have r1 : wr.cell? ⟨_, _ + i * 2 + 1, none⟩ = some (.slice Ak st.2.length ck) := hcells _ _ hat.2
                have HCN := Lib.hid (stepCells_next HI4.out.1 hst hkv)
                generalize st.2.length = mk at *
                generalize st.1 = nm at *
                have HAL := Lib.hid (HO.out.alloc (.cells #[.string nm, .slice Ak mk ck] 55))
                have HAR := Lib.hid (reads_new wr #[.string nm, .slice Ak mk ck] 55 2 1 rfl)
                have HAB := Lib.hid (show w4.heap.size ≤ (wr.alloc (.cells #[.string nm, .slice Ak mk ck] 55)).heap.size by have := HB.out.size; simp; omega)
                clear hat hcells hst hkv
                go_wp2_with (at_builtin; go_loud (refine wpList_append_any _ rfl (.tmp 75) (.tmp 80) _ rfl w4.heap.size 55 i0 _ 2 40 Tryd.underlying48 hi0 hz0 hz1 hz2 rfl (by omega) _ i (stepCells (l.take i) (vs.take i)) rfl HAL.out (wr.heap.size + 1) (some ⟨wr.heap.size, 0, none⟩) 1 1 [.string nm, .slice Ak mk ck] rfl HAR.out (by simp [Value.oneCell']) (by simp only [maxLen]; omega) (by omega) HAB.out ?_); intro v5 w5 hown5 hg5 hat5; obtain ⟨A5, c5, rfl, -, -, -⟩ := own_form hown5; have hg5' : (wr.alloc (.cells #[.string nm, .slice Ak mk ck] 55)).grownBy w5 (Value.slice A7 i c7).ownBlock := hg5; have HO5 := Lib.hid (HCN.out ▸ hown5); have HB5 := Lib.hid ((HB.out.alloc (by have := HB.out.size; omega) (.cells #[.string nm, .slice Ak mk ck] 55)).grown hg5' HAB.out (fun k hk => (HO.out.lt k hk).1)); clear hown5 hg5 hg5' hat5)
                go_roundw
                case rel => exact ⟨i + 1, by go_num, hin, HO5.out, HB5.out⟩
                case measure => simp [Lib.intOf]; omega
              · obtain rfl : i = n := by omega
                have hq1 : ¬ (i : Int) < (i : Int) := by omega
                have HI5 := Lib.hid (show StepsIn wr (r + 1) (.slice A7 i c7) (l.take i) (vs.take i) from
                  ⟨by simp [HI4.out.1], by rw [show (l.take i).length = i by rw [List.length_take, HN.out]; have := HNX.out; omega]; exact own_base HO.out HT4.out.2.2, keysOwn_take (HI4.out.2.2.kept HI4.out.1 (grown_below HB.out none) (fun _ _ _ _ _ => by simp)) i⟩)
                have HT5 := Lib.hid (HT4.out.below HB.out HT4.out.2.2)
                have HSL := Lib.hid (show ∀ st ∈ l.take i, StepSmall st from fun st h => (HSM.out.1 st (List.mem_of_mem_take h)).small)
                have HLL := Lib.hid (show (l.take i).length ≤ 64 by rw [List.length_take]; omega)
                clear HO HB HI4 HRD hq1
                go_wp2
                go_loopw [8, 12, 14] (fun av ov mv wr => ∃ (p : Nat) (L : List PStep) (VS : List Value) (more : Bool), av = .int .i64 (p : Int) ∧ mv = .bool more ∧ RTAt g s w r p L VS more ov wr) (fun av _ _ _ => s.size - (Lib.intOf av).toNat)
                case atStart => exact ⟨p, _, _, true, rfl, rfl, hp, HT5.out, HI5.out, fun _ => by have := HLL.out; omega, by have := HLL.out; omega, HSL.out, by rw [if_pos rfl]; exact HX.out⟩
                case round =>
                  (try clear hcb)
                  clear HX HI5 HT5 HSL HLL HNX HSM HN HT4 hlt hp hn2 hi hin
                  obtain ⟨p, L, VS, more, rfl, rfl, hp, hT, hI, hl1, hl2, hS, hM⟩ := hrel
                  obtain ⟨A7, c7, rfl, -, -, -⟩ := own_form hI.2.1
                  have HT := Lib.hid hT
                  have HI := Lib.hid hI
                  have HL := Lib.hid (And.intro hl1 hl2)
                  have HS := Lib.hid hS
                  have HM := Lib.hid hM
                  have hLB : (L.length : Int) ≤ 600000 := by omega
                  clear hT hI hl1 hl2 hS hM
                  cases more
                  · by_cases hps : p = s.size
                    · have HX := Lib.hid (show targetM g s = lastM (.ok L) by rw [HM.out, if_neg (by simp), if_pos hps])
                      have hq1 : ¬ (p : Int) < (s.size : Int) := by omega
                      have HPR := Lib.hid (rprint_any (.slice A7 L.length c7) L VS wr HI.out.reads HS.out (by omega))
                      go_wp2_with fail
                      refine HPR.out.mono ?_
                      rintro en w6 ⟨rfl, hB6⟩
                      have HT6 := Lib.hid (HT.out.below hB6 HT.out.2.2)
                      clear hB6
                      obtain ⟨b0, b1, b2, b3, b4, b5⟩ := HT6.out.1.two (.int .i64 0)
                      obtain ⟨d0, d1, d2, d3, d4, d5⟩ := HT6.out.1.two (.int .i64 3)
                      cases hput : putM L with
                      | error e =>
                        have hz : (e == 0) = false := by rw [beq_eq_false_iff_ne]; exact aputM_err hput
                        have hz2 : ¬ e = 0 := aputM_err hput
                        have HX2 := Lib.hid (show targetM g s = (ByteArray.empty, 3, 0) by rw [HX.out]; simp only [lastM, hput])
                        simp only [putE, putS]
                        clear hput
                        go_wp2
                        (try simp only [Exit.inBlock, Exit.then])
                        refine bodyPost_ret (rtarget_result (HT6.out.done 3 0).1 rfl rfl) rfl ?_
                        exact target_mk HR.out HX2.out rfl (HT6.out.done 3 0).2
                      | ok tt =>
                        have HX2 := Lib.hid (show targetM g s = (str tt, 0, 0) by rw [HX.out]; simp only [lastM, hput])
                        simp only [putE, putS]
                        clear hput
                        go_wp2
                        (try simp only [Exit.inBlock, Exit.then])
                        refine bodyPost_ret (rtarget_result (HT6.out.done 0 0).1 rfl rfl) rfl ?_
                        exact target_mk HR.out HX2.out rfl (HT6.out.done 0 0).2
                    · have HX := Lib.hid (show targetM g s = (ByteArray.empty, 230, (p : Int)) by rw [HM.out, if_neg (by simp), if_neg hps]; rfl)
                      have hq1 : (p : Int) < (s.size : Int) := by omega
                      obtain ⟨b0, b1, b2, b3, b4, b5⟩ := HT.out.1.two (.int .i64 230)
                      go_wp2
                      (try simp only [Exit.inBlock, Exit.then])
                      refine bodyPost_ret (rtarget_result (HT.out.done 230 p).1 rfl rfl) rfl ?_
                      exact target_mk HR.out HX.out rfl (HT.out.done 230 p).2
                  · have hA := astepsM_eq (up := L) hp
                    have HNA := Lib.hid (fun W => r13name_any p s W hp HS2.out)
                    have n1 := aname_le hp
                    have HM2 := Lib.hid (show targetM g s = lastM (astepsM s p L) by rw [HM.out, if_pos rfl])
                    generalize hna : aname s p = e at *
                    obtain ⟨n1a, n1b⟩ := n1
                    have HNE := Lib.hid hna
                    clear hna
                    by_cases hep : e = p
                    · rw [if_pos hep] at hA
                      have HX := Lib.hid (show targetM g s = (ByteArray.empty, 230, (p : Int)) by rw [HM2.out, hA]; rfl)
                      have hz : ((e : Int) == (p : Int)) = true := by rw [hep]; simp
                      clear hA hep
                      go_wp2_with fail
                      refine (HNA.out _).mono ?_
                      rintro en w6 ⟨rfl, rfl⟩
                      obtain ⟨b0, b1, b2, b3, b4, b5⟩ := HT.out.1.two (.int .i64 230)
                      go_wp2
                      (try simp only [Exit.inBlock, Exit.then])
                      refine bodyPost_ret (rtarget_result (HT.out.done 230 p).1 rfl rfl) rfl ?_
                      exact target_mk HR.out HX.out rfl (HT.out.done 230 p).2
                    · rw [if_neg hep] at hA
                      have HA := Lib.hid hA
                      have hz : ((e : Int) == (p : Int)) = false := by rw [beq_eq_false_iff_ne]; omega
                      have HEP := Lib.hid hep
                      have i1 : (p : Int) ≤ (e : Int) := by omega
                      have i2 : (e : Int) ≤ (s.size : Int) := by omega
                      clear hA hep
                      go_wp2_with fail
                      refine (HNA.out _).mono ?_
                      rintro en w6 ⟨rfl, rfl⟩
                      go_wp2_with fail
                      refine (rkeys_any e s _ n1b (by omega)).mono ?_
                      rintro en w7 ⟨hB7, ⟨x, hx, rfl⟩ | ⟨ks, q, v7, hx, rfl, ho7⟩⟩
                      · have HX := Lib.hid (show targetM g s = (ByteArray.empty, 230, (x : Int)) by rw [HM2.out, HA.out, hx]; rfl)
                        have HT7 := Lib.hid (HT.out.below hB7 HT.out.2.2)
                        clear hx hB7
                        obtain ⟨b0, b1, b2, b3, b4, b5⟩ := HT7.out.1.two (.int .i64 230)
                        go_wp2
                        (try simp only [Exit.inBlock, Exit.then])
                        refine bodyPost_ret (rtarget_result (HT7.out.done 230 x).1 rfl rfl) rfl ?_
                        exact target_mk HR.out HX.out rfl (HT7.out.done 230 x).2
                      · obtain ⟨j1, j2, j3, j4, j5, -⟩ := akeysM_inv s (s.size - e) e [] ks q (Nat.le_refl _) n1b hx
                        obtain ⟨A8, c8, rfl, -, -, -⟩ := own_form ho7
                        have HA2 := Lib.hid (show targetM g s = lastM (if standsB s q 47 = true then astepsM s (q + 1) (L ++ [(s.extract p e, sortK ks)]) else if q = s.size then .ok (L ++ [(s.extract p e, sortK ks)]) else .error q) by rw [HM2.out, HA.out, hx])
                        have HSN := Lib.hid (show ∀ st ∈ L ++ [(s.extract p e, sortK ks)], StepSmall st from fun st h => by
                          rcases List.mem_append.1 h with h | h
                          · exact HS.out st h
                          · simp only [List.mem_singleton] at h
                            subst h
                            refine ⟨by simp; omega, by have := sortK_len ks; simp at j4 ⊢; omega, fun k hk => ?_⟩
                            have := j5 (fun _ h => by cases h) k ((sortK_mem _ _).1 hk)
                            exact ⟨by have := this.1; omega, by have := this.2; omega⟩)
                        have HK7 := Lib.hid ho7
                        have HI7 := Lib.hid (HI.out.only (Only.of_below (g := r) hB7) (by omega))
                        have HT7 := Lib.hid (HT.out.below hB7 HT.out.2.2)
                        have HJ := Lib.hid (And.intro j1 j2)
                        have hj1 : (q : Int) ≤ 1048576 := by omega
                        have HEP2 := Lib.hid (show p + 1 ≤ q by have := HEP.out; omega)
                        clear hx ho7 hB7 j1 j2 j3 j4 j5 HA HM2 HM HEP
                        generalize hmk : (sortK ks).length = mk at *
                        have HMK := Lib.hid hmk
                        clear hmk
                        have HIA := Lib.hid (HI7.out.only ((Only.refl r w7).alloc (.cells #[.string (s.extract p e), .slice A8 mk c8] 55)) (by omega))
                        have HTA := Lib.hid (HT7.out.alloc (.cells #[.string (s.extract p e), .slice A8 mk c8] 55))
                        have HKA := Lib.hid (HK7.out.alloc (.cells #[.string (s.extract p e), .slice A8 mk c8] 55))
                        have HAR := Lib.hid (reads_new w7 #[.string (s.extract p e), .slice A8 mk c8] 55 2 1 rfl)
                        obtain ⟨i0, hi0, hz0, hz1, hz2⟩ := info_parts stepz_info
                        have HKB2 := Lib.hid (show ∀ (i : Nat) (kv' : Value) (k : Nat), VS[i]? = some kv' → kv'.ownBlock = some k → k < w6.heap.size from fun i kv k hi hk => (HI.out.lt i kv k hi hk).2)
                        have HRB := Lib.hid HT.out.2.2
                        have HLX := Lib.hid (show L.length ≤ 600000 by omega)
                        have APP : ∀ (v5 : Value) (w5 : World), w5.ownsRow (r + 1) 55 2 v5 (L.length + 1) (stepCells L VS ++ [.string (s.extract p e), .slice A8 mk c8]) → (w7.alloc (.cells #[.string (s.extract p e), .slice A8 mk c8] 55)).grownBy w5 (Value.slice A7 L.length c7).ownBlock → StepsIn w5 (r + 1) v5 (L ++ [(s.extract p e, sortK ks)]) (VS ++ [.slice A8 mk c8]) ∧ TBase w r w5 := fun v5 w5 h1 h2 =>
                          ⟨StepsIn.push (st := (s.extract p e, sortK ks)) HIA.out HRB.out HKB2.out (by rw [HMK.out]; exact HKA.out) h2 h1, HTA.out.grown h2 (fun k hk => (HIA.out.2.1.lt k hk).1)⟩
                        have HAPP := Lib.hid APP
                        clear APP
                        have hnext : (standsB s q 47 = true ∧ ∃ h : q < s.size, ((s[q].toNat : Int) == 47) = true) ∨ (standsB s q 47 = false ∧ ((∃ h : q < s.size, ((s[q].toNat : Int) == 47) = false) ∨ ¬ ((q : Int) < (s.size : Int)))) := by
                          cases h : standsB s q 47
                          · refine .inr ⟨rfl, ?_⟩
                            by_cases hlt : q < s.size
                            · refine .inl ⟨hlt, ?_⟩
                              have h1 := beq_dec s[q] 47
                              rw [show (s[q] == 47) = false by
                                cases h2 : (s[q] == 47)
                                · rfl
                                · exact absurd (show standsB s q 47 = true by unfold standsB; rw [dif_pos hlt, h2]) (by rw [h]; simp)] at h1
                              exact h1.symm
                            · exact .inr (by omega)
                          · obtain ⟨h1, h2⟩ := stands_at h
                            exact .inl ⟨rfl, h1, by rw [h2]; rfl⟩
                        rcases hnext with ⟨h47, hlt, hcb⟩ | ⟨h47, hnx⟩
                        · have HM5 := Lib.hid (show targetM g s = lastM (astepsM s (q + 1) (L ++ [(s.extract p e, sortK ks)])) by rw [HA2.out, if_pos h47])
                          have hq1 : (q : Int) < (s.size : Int) := by omega
                          clear h47
                          go_wp2_with (at_builtin; go_loud (refine wpList_append_any _ rfl (.tmp 102) (.tmp 109) _ rfl (r + 1) 55 i0 _ 2 40 Tryd.underlying48 hi0 hz0 hz1 hz2 rfl (by omega) _ L.length (stepCells L VS) rfl HIA.out.2.1 (w7.heap.size + 1) (some ⟨w7.heap.size, 0, none⟩) 1 1 [.string (s.extract p e), .slice A8 mk c8] rfl HAR.out (by simp [Value.oneCell']) (by have := HLX.out; simp only [maxLen]; omega) (by have := HLX.out; omega) HTA.out.2.2 ?_); intro v5 w5 hown5 hg5 hat5; obtain ⟨A5, c5, rfl, -, -, -⟩ := own_form hown5; have HI5 := Lib.hid (HAPP.out _ _ hown5 hg5).1; have HT5 := Lib.hid (HAPP.out _ _ hown5 hg5).2; clear hown5 hg5 hat5)
                          go_roundw
                          case rel => exact ⟨q + 1, L ++ [(s.extract p e, sortK ks)], VS ++ [.slice A8 mk c8], true, by go_num, rfl, hlt, HT5.out, HI5.out, fun _ => by have := HL.out.1 trivial; have := HEP2.out; simp; omega, by have := HL.out.1 trivial; have := HEP2.out; simp; omega, HSN.out, by rw [if_pos rfl]; exact HM5.out⟩
                          case measure => have := HEP2.out; simp [Lib.intOf]; omega
                        · have HM5 := Lib.hid (show targetM g s = (if q = s.size then lastM (.ok (L ++ [(s.extract p e, sortK ks)])) else lastM (.error q)) by
                            rw [HA2.out, h47, if_neg (by simp)]
                            by_cases h : q = s.size
                            · rw [if_pos h, if_pos h]
                            · rw [if_neg h, if_neg h])
                          clear h47
                          rcases hnx with ⟨hlt, hcb⟩ | hlt
                          all_goals
                            (try have hq1 : (q : Int) < (s.size : Int) := by omega)
                            go_wp2_with (at_builtin; go_loud (refine wpList_append_any _ rfl (.tmp 102) (.tmp 109) _ rfl (r + 1) 55 i0 _ 2 40 Tryd.underlying48 hi0 hz0 hz1 hz2 rfl (by omega) _ L.length (stepCells L VS) rfl HIA.out.2.1 (w7.heap.size + 1) (some ⟨w7.heap.size, 0, none⟩) 1 1 [.string (s.extract p e), .slice A8 mk c8] rfl HAR.out (by simp [Value.oneCell']) (by have := HLX.out; simp only [maxLen]; omega) (by have := HLX.out; omega) HTA.out.2.2 ?_); intro v5 w5 hown5 hg5 hat5; obtain ⟨A5, c5, rfl, -, -, -⟩ := own_form hown5; have HI5 := Lib.hid (HAPP.out _ _ hown5 hg5).1; have HT5 := Lib.hid (HAPP.out _ _ hown5 hg5).2; clear hown5 hg5 hat5)
                            go_roundw
                            case rel => exact ⟨q, L ++ [(s.extract p e, sortK ks)], VS ++ [.slice A8 mk c8], false, rfl, rfl, HJ.out.2, HT5.out, HI5.out, (fun h => by cases h), by have := HL.out.1 trivial; have := HEP2.out; simp; omega, HSN.out, by rw [if_neg (by simp)]; exact HM5.out⟩
                            case measure => have := HEP2.out; have := HJ.out.2; simp [Lib.intOf]; omega
end Go.Proofs.YtkfofdmcggoonaaDoor
