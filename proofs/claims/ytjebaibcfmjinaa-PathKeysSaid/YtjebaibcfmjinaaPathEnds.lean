/-
  The walks of path.ends, Parent, Last and Join. Condition: the strings are within the reach.
-/
import Derived.Test.YtjebaibcfmjinaaPathWakes
namespace Go.Proofs.Ytjebaibcfmjinaa
open Go.RowKit

theorem results_tmp_row_tmp {fn : Func} {P : Program} {p u z : Tmp} {ty : TypeId} (h : fn.results = #[.tmp u, .cell p ty, .tmp z]) (tmps : Array Value) (w : World) (g : Nat) (t : TypeId) (cs : Array Value) (d : TypeDesc)
    (hp : tmps.getD p undef = .pointer (some ⟨g, 0, none⟩)) (hg : Blk w g t cs)
    (hu : P.underlying ty = some d) (hd : (match d with | .struct _ | .array _ _ => true | _ => false) = true) (hi : (P.info? ty).map (·.size) = some cs.size) {x y : Value} (hx : tmps.getD u undef = x) (hy : tmps.getD z undef = y) :
    (results fn tmps).run P w = .ok (.tuple #[x, .agg cs, y]) w := by
  have hp' : tmps[p]?.getD undef = .pointer (some ⟨g, 0, none⟩) := by simpa using hp
  have hx' : tmps[u]?.getD undef = x := by simpa using hx
  have hy' : tmps[z]?.getD undef = y := by simpa using hy
  simp [results, h, hp', hx', hy', asAddr, run_loadVar_row w g t ty cs (0, 0) d hg hu hd hi, Result.andThen]
theorem ends_result {tmps : Array Value} {w : World} {r0 : Nat} {nm : ByteArray} {v x y : Value} (hB : Blk w r0 40 #[.string nm, v]) (hp : tmps.getD 3 undef = .pointer (some ⟨r0, 0, none⟩)) (hu : tmps.getD 2 undef = x) (hz : tmps.getD 4 undef = y) :
    (results Try.f41 tmps).run Try.prog w = .ok (.tuple #[x, .agg #[.string nm, v], y]) w :=
  results_tmp_row_tmp Try.results41 tmps w r0 40 #[.string nm, v] _ hp hB Try.underlying40 rfl step_info hu hz
/-- What ends says. -/
def EndsBad (p : ByteArray) (w : World) (en : Ending) (w' : World) : Prop := Below w.heap.size w w' ∧ ∃ e : Int, e ≠ 0 ∧ ((∃ y, parseM p = .error (e, y)) ∨ (parseM p = .ok [] ∧ e = 4)) ∧
  en = .returned (.tuple #[.slice none 0 0, .agg #[.string ByteArray.empty, .slice none 0 0], .int .i64 e])
def EndsGood (p : ByteArray) (w : World) (en : Ending) (w' : World) : Prop := Below w.heap.size w w' ∧ ∃ (l : List PStep) (vs : List Value) (A : Option Addr) (c k : Nat) (st : PStep) (kv : Value), parseM p = .ok l ∧ l.length = k + 1 ∧ StepsIn w' w.heap.size (.slice A l.length c) l vs ∧
  l[k]? = some st ∧ vs[k]? = some kv ∧ en = .returned (.tuple #[.slice A k c, .agg #[.string st.1, kv], .int .i64 0])
def EndsPost (p : ByteArray) (w : World) (en : Ending) (w' : World) : Prop := EndsBad p w en w' ∨ EndsGood p w en w'
set_option maxHeartbeats 4000000 in
theorem ends_any (p : ByteArray) (w : World) (hs : p.size ≤ 140737488355328) :
    Calls Try.prog 41 #[.string p] w (EndsPost p w) := by
  have HP := Lib.hid (fun W => parse_says p W hs)
  have HB0 := Lib.hid (Blk.new w 40 #[.string ByteArray.empty, .slice none 0 0])
  have HBA := Lib.hid (show Below w.heap.size w (w.alloc (.cells #[.string ByteArray.empty, .slice none 0 0] 40)) from (Below.refl _ _).alloc (Nat.le_refl _) _)
  go_enter Try.func41, Try.ntmps41
  go_upto_region 2 with (go_at_call 28; go_loud (refine (HP.out _).mono ?_; rintro en w1 ⟨hB1, ⟨x, y, hE, rfl⟩ | ⟨l, v, hE, rfl, hO⟩⟩; rotate_left; obtain ⟨vs, hI⟩ := hO; obtain ⟨A1, c1, rfl, -, -, -⟩ := own_form hI.2.1; have HI := Lib.hid hI; clear hI; rotate_right; all_goals (have HE := Lib.hid hE; have HB1 := Lib.hid hB1; have HK := Lib.hid (HB0.out.below hB1 (Blk.lt HB0.out)); clear hE hB1)))
  · have hk := HK.out.alloc (.cells #[.int .i64 x, .int .i64 y] 26)
    have hn := Blk.new w1 26 #[.int .i64 x, .int .i64 y]
    have HB2 := Lib.hid (show Below w.heap.size w (w1.alloc (.cells #[.int .i64 x, .int .i64 y] 26)) from (HBA.out.trans (HB1.out.mono (by simp))).alloc (by have := HB1.out.size; simp at this; omega) _)
    generalize w1.alloc (.cells #[.int .i64 x, .int .i64 y] 26) = w2 at *
    obtain ⟨b0, b1, b2, b3, b4, b5⟩ := hk.two (.string ⟨#[]⟩)
    have k0 : w2.cell? ⟨w1.heap.size, 0, none⟩ = some (.int .i64 x) := hn.cell 0
    have HK2 := Lib.hid (hk.two_set (.string ⟨#[]⟩) (.slice none 0 0))
    have hx0 : (x == 0) = false := by
      rw [beq_eq_false_iff_ne]
      have := parseM_err HE.out
      omega
    have HX := Lib.hid hx0
    have hx1 : ¬ x = 0 := by simpa using hx0
    clear hk hn HK
    have hne : ¬ w1.heap.size = w.heap.size := by have := HB1.out.size; simp at this; omega
    have hne2 : ¬ w.heap.size = w1.heap.size := fun e => hne e.symm
    go_upto_region 4 with (fail)
    go_region_with (fail)
    all_goals
      go_wp2
      exact bodyPost_ret (ends_result (HK2.out.drewN 1) rfl rfl rfl) rfl (.inl ⟨((HB2.out.setCell (by simp) _).setCell (by simp) _).drew, x, by simpa using HX.out, .inl ⟨y, HE.out⟩, rfl⟩)
  · have hk := HK.out.alloc (.cells #[.int .i64 0, .int .i64 0] 26)
    have hn := Blk.new w1 26 #[.int .i64 0, .int .i64 0]
    have HB2 := Lib.hid (show Below w.heap.size w (w1.alloc (.cells #[.int .i64 0, .int .i64 0] 26)) from (HBA.out.trans (HB1.out.mono (by simp))).alloc (by have := HB1.out.size; simp at this; omega) _)
    have HBY := Lib.hid (show Only w1.heap.size w1 (w1.alloc (.cells #[.int .i64 0, .int .i64 0] 26)) from (Only.refl _ _).alloc _)
    have HWS := Lib.hid (show w.heap.size + 1 ≤ w1.heap.size by have := HB1.out.size; simp at this; omega)
    have hI2 : StepsIn (w1.alloc (.cells #[.int .i64 0, .int .i64 0] 26)) (w.heap.size + 1) (.slice A1 l.length c1) l vs := by
      have h := HI.out
      simp only [World.size_alloc] at h
      exact StepsIn.only (g := w.heap.size) h ((Only.refl _ _).alloc _) (by omega)
    generalize w1.alloc (.cells #[.int .i64 0, .int .i64 0] 26) = w2 at *
    have k0 : w2.cell? ⟨w1.heap.size, 0, none⟩ = some (.int .i64 0) := hn.cell 0
    have HSM := Lib.hid (parseM_small HE.out)
    have HI2 := Lib.hid hI2
    clear hn HK HI hI2
    rcases Nat.eq_zero_or_pos l.length with hl | hl
    · have hl := List.eq_nil_of_length_eq_zero hl
      subst hl
      obtain ⟨b0, b1, b2, b3, b4, b5⟩ := hk.two (.string ⟨#[]⟩)
      have HK2 := Lib.hid (hk.two_set (.string ⟨#[]⟩) (.slice none 0 0))
      clear hk
      go_wp2
      exact bodyPost_ret (ends_result HK2.out rfl rfl rfl) rfl (.inl ⟨(HB2.out.setCell (by simp) _).setCell (by simp) _, 4, by decide, .inr ⟨HE.out, rfl⟩, rfl⟩)
    · obtain ⟨k, hk1⟩ : ∃ k, l.length = k + 1 := ⟨l.length - 1, by omega⟩
      obtain ⟨st, hst⟩ : ∃ st, l[k]? = some st := ⟨l[k]'(by omega), by simp [hk1]⟩
      obtain ⟨kv, hkv⟩ : ∃ kv, vs[k]? = some kv := ⟨vs[k]'(by have := HI2.out.1; omega), by have := HI2.out.1; simp [this, hk1]⟩
      have hat := stepCells_at l vs k st kv hst hkv
      obtain ⟨Ak, ck, hkf, -, -, -⟩ := own_form (HI2.out.2.2.1 k st kv hst hkv)
      have hx := HI2.out
      obtain ⟨b, o, rfl, hbo, hcells⟩ := Reads.spot (own_reads HI2.out.2.1) (by omega) (by omega)
      have r0 := hcells _ _ hat.1
      have r1 : w2.cell? ⟨b, o + k * 2 + 1, none⟩ = some kv := hcells _ _ hat.2
      have HGET := Lib.hid (show parseM p = .ok l ∧ l.length = k + 1 ∧ l[k]? = some st ∧ vs[k]? = some kv from ⟨HE.out, hk1, hst, hkv⟩)
      have hcl : ((k : Int) + 1) ≤ (c1 : Int) := by
        obtain ⟨A', c', heq, h1, -, -⟩ := own_form HI2.out.2.1
        cases heq
        omega
      have hk64 : (k : Int) ≤ 64 := by have := HSM.out.2.1; omega
      have hwr : IntKind.i64.wrap (k : Int) = (k : Int) := by rw [IntKind.wrap_i64]; omega
      have hm1 : (k : Int) < (k : Int) + 1 := by omega
      obtain ⟨b0, b1, b2, b3, b4, b5⟩ := hk.two (.string st.1)
      subst hkf
      have HK2 := Lib.hid (hk.two_set (.string st.1) (.slice Ak st.2.length ck))
      rw [hk1] at HI2 ⊢
      clear hk hat hcells hst hkv hl hk1 hx
      go_upto_region 7 with (fail)
      go_region_with (fail)
      all_goals go_wp2
      all_goals
        refine bodyPost_ret (ends_result (HK2.out.drewN 1) rfl rfl rfl) rfl (.inr ⟨((HB2.out.setCell (by simp) _).setCell (by simp) _).drew, l, vs, _, c1, k, st, _, HGET.out.1, HGET.out.2.1, ?_, HGET.out.2.2.1, HGET.out.2.2.2, rfl⟩)
        rw [HGET.out.2.1]
        exact StepsIn.base (StepsIn.only (g := w.heap.size) HI2.out ((((Only.refl w.heap.size w2).setCell (.inl rfl) _).setCell (.inl rfl) _).drew) (by omega)) (by omega)
/-- What Parent says. -/
def ParentBad (p : ByteArray) (w : World) (en : Ending) (w' : World) : Prop := Below w.heap.size w w' ∧ ∃ e : Int, e ≠ 0 ∧ ((∃ y, parseM p = .error (e, y)) ∨ (parseM p = .ok [] ∧ e = 4)) ∧ en = .returned (.tuple #[.string ByteArray.empty, .int .i64 e])
def ParentGood (p : ByteArray) (w : World) (en : Ending) (w' : World) : Prop := Below w.heap.size w w' ∧ ∃ (l : List PStep) (k : Nat), parseM p = .ok l ∧ l.length = k + 1 ∧ en = .returned (.tuple #[.string (putS (putM (l.take k))), .int .i64 (putE (putM (l.take k)))])
def ParentPost (p : ByteArray) (w : World) (en : Ending) (w' : World) : Prop := ParentBad p w en w' ∨ ParentGood p w en w'
set_option maxHeartbeats 2000000 in
theorem parent_any (p : ByteArray) (w : World) (hs : p.size ≤ 140737488355328) :
    Calls Try.prog 20 #[.string p] w (ParentPost p w) := by
  have HE := Lib.hid (fun W => ends_any p W hs)
  go_enter Try.func20, Try.ntmps20
  go_upto_region 2 with (go_at_call 41; go_loud (refine (HE.out _).mono ?_; rintro en w1 (⟨hB1, e, he, hp, rfl⟩ | ⟨hB1, l, vs, A, c, k, st, kv, hp, hl, hI, hst, hkv, rfl⟩); rotate_left; obtain ⟨Ak, ck, hkf, -, -, -⟩ := own_form (hI.2.2.1 k st kv hst hkv); subst hkf; rotate_right; all_goals (have HB1 := Lib.hid hB1; have HPP := Lib.hid hp; clear hB1 hp)))
  · have hx0 : (e == 0) = false := by rw [beq_eq_false_iff_ne]; exact he
    have hx1 : ¬ e = 0 := he
    have HX := Lib.hid he
    clear he
    go_wp2
    go_ret2
    exact .inl ⟨HB1.out.alloc HB1.out.size _, e, HX.out, HPP.out, rfl⟩
  · have HR := Lib.hid (show StepsR (w1.alloc (.cells #[.string st.1, .slice Ak st.2.length ck] 40)) (.slice A k c) (l.take k) (vs.take k) from (hI.reads.take (show k ≤ l.length by omega)).more ((Below.refl _ _).alloc (Nat.le_refl _) _))
    have HS := Lib.hid (show ∀ st ∈ l.take k, StepSmall st from fun st hst => ((parseM_small HPP.out).1 st (List.mem_of_mem_take hst)).small)
    have HL := Lib.hid (show (l.take k).length ≤ 1000 by have := (parseM_small HPP.out).2.1; rw [List.length_take]; omega)
    have HLL := Lib.hid hl
    have HB2 := Lib.hid (show Below w.heap.size w (w1.alloc (.cells #[.string st.1, .slice Ak st.2.length ck] 40)) from HB1.out.alloc HB1.out.size _)
    generalize w1.alloc (.cells #[.string st.1, .slice Ak st.2.length ck] 40) = w2 at *
    have HP := Lib.hid (put_one _ (l.take k) (vs.take k) w2 HR.out HS.out HL.out)
    clear hI hst hkv hl
    go_wp2_with (go_at_call 33; go_loud (refine HP.out.mono ?_; rintro en w3 ⟨rfl, hB3⟩; have HB3 := Lib.hid hB3; clear hB3))
    go_ret2
    exact .inr ⟨(HB2.out.alloc HB2.out.size _).trans (HB3.out.mono (by have := HB2.out.size; simp; omega)), l, k, HPP.out, HLL.out, rfl⟩
theorem last_result {tmps : Array Value} {w : World} {r0 : Nat} {nm : ByteArray} {v : Value} {y : Value} (hB : Blk w r0 40 #[.string nm, v]) (hp : tmps.getD 2 undef = .pointer (some ⟨r0, 0, none⟩)) (hu : tmps.getD 3 undef = y) :
    (results Try.f21 tmps).run Try.prog w = .ok (.tuple #[.agg #[.string nm, v], y]) w :=
  results_row_tmp Try.results21 tmps w r0 40 #[.string nm, v] _ hp hB Try.underlying40 rfl step_info hu
def LastBad (p : ByteArray) (w : World) (en : Ending) (w' : World) : Prop := Below w.heap.size w w' ∧ ∃ e : Int, e ≠ 0 ∧ ((∃ y, parseM p = .error (e, y)) ∨ (parseM p = .ok [] ∧ e = 4)) ∧ en = .returned (.tuple #[.agg #[.string ByteArray.empty, .slice none 0 0], .int .i64 e])
def LastGood (p : ByteArray) (w : World) (en : Ending) (w' : World) : Prop := Below w.heap.size w w' ∧ ∃ (l : List PStep) (k : Nat) (st : PStep) (A : Option Addr) (c : Nat), parseM p = .ok l ∧ l.length = k + 1 ∧ l[k]? = some st ∧ KeysAt w' w'.heap.size (.slice A st.2.length c) st.2 ∧
  en = .returned (.tuple #[.agg #[.string st.1, .slice A st.2.length c], .int .i64 0])
def LastPost (p : ByteArray) (w : World) (en : Ending) (w' : World) : Prop := LastBad p w en w' ∨ LastGood p w en w'
set_option maxHeartbeats 2000000 in
theorem last_any (p : ByteArray) (w : World) (hs : p.size ≤ 140737488355328) :
    Calls Try.prog 21 #[.string p] w (LastPost p w) := by
  have HE := Lib.hid (fun W => ends_any p W hs)
  have HB0 := Lib.hid (Blk.new w 40 #[.string ByteArray.empty, .slice none 0 0])
  have HBA := Lib.hid (show Below w.heap.size w (w.alloc (.cells #[.string ByteArray.empty, .slice none 0 0] 40)) from (Below.refl _ _).alloc (Nat.le_refl _) _)
  go_enter Try.func21, Try.ntmps21
  go_upto_region 2 with (go_at_call 41; go_loud (refine (HE.out _).mono ?_; rintro en w1 (⟨hB1, e, he, hp, rfl⟩ | ⟨hB1, l, vs, A, c, k, st, kv, hp, hl, hI, hst, hkv, rfl⟩); rotate_left; have hKA := hI.2.2.1 k st kv hst hkv; obtain ⟨Ak, ck, hkf, -, -, -⟩ := own_form hKA; subst hkf; rotate_right; all_goals (have HB1 := Lib.hid hB1; have HPP := Lib.hid hp; have HK := Lib.hid (HB0.out.below hB1 (Blk.lt HB0.out)); clear hB1 hp)))
  · have hk := HK.out.alloc (.cells #[.string ByteArray.empty, .slice none 0 0] 40)
    have hn := Blk.new w1 40 #[.string ByteArray.empty, .slice none 0 0]
    have HB2 := Lib.hid (show Below w.heap.size w (w1.alloc (.cells #[.string ByteArray.empty, .slice none 0 0] 40)) from (HBA.out.trans (HB1.out.mono (by simp))).alloc (by have := HB1.out.size; simp at this; omega) _)
    generalize w1.alloc (.cells #[.string ByteArray.empty, .slice none 0 0] 40) = w2 at *
    obtain ⟨b0, b1, b2, b3, b4, b5⟩ := hk.two (.string ByteArray.empty)
    have k0 : w2.cell? ⟨w1.heap.size, 0, none⟩ = some (.string ByteArray.empty) := hn.cell 0
    have k1 : w2.cell? ⟨w1.heap.size, 1, none⟩ = some (.slice none 0 0) := hn.cell 1
    have HK2 := Lib.hid (hk.two_set (.string ByteArray.empty) (.slice none 0 0))
    have HX := Lib.hid he
    clear hk hn HK he
    go_wp2
    exact bodyPost_ret (last_result HK2.out rfl rfl) rfl (.inl ⟨(HB2.out.setCell (by simp) _).setCell (by simp) _, e, HX.out, HPP.out, rfl⟩)
  · have hk := HK.out.alloc (.cells #[.string st.1, .slice Ak st.2.length ck] 40)
    have hn := Blk.new w1 40 #[.string st.1, .slice Ak st.2.length ck]
    have HB2 := Lib.hid (show Below w.heap.size w (w1.alloc (.cells #[.string st.1, .slice Ak st.2.length ck] 40)) from (HBA.out.trans (HB1.out.mono (by simp))).alloc (by have := HB1.out.size; simp at this; omega) _)
    have HO := Lib.hid (show (w1.alloc (.cells #[.string st.1, .slice Ak st.2.length ck] 40)).ownsRow (w.heap.size + 1) 51 2 (.slice Ak st.2.length ck) st.2.length (pairCells st.2) from by
      have h := hKA.alloc (.cells #[.string st.1, .slice Ak st.2.length ck] 40)
      rw [World.size_alloc] at h
      exact h)
    have HG := Lib.hid (And.intro hl hst)
    generalize w1.alloc (.cells #[.string st.1, .slice Ak st.2.length ck] 40) = w2 at *
    obtain ⟨b0, b1, b2, b3, b4, b5⟩ := hk.two (.string st.1)
    have k0 : w2.cell? ⟨w1.heap.size, 0, none⟩ = some (.string st.1) := hn.cell 0
    have k1 : w2.cell? ⟨w1.heap.size, 1, none⟩ = some (.slice Ak st.2.length ck) := hn.cell 1
    have HK2 := Lib.hid (hk.two_set (.string st.1) (.slice Ak st.2.length ck))
    clear hk hn HK hKA hI hst hkv hl
    go_wp2
    refine bodyPost_ret (last_result HK2.out rfl rfl) rfl (.inr ⟨(HB2.out.setCell (by simp) _).setCell (by simp) _, l, k, st, Ak, ck, HPP.out, HG.out.1, HG.out.2, ?_, rfl⟩)
    have h := own_far (own_far HO.out (p := ⟨w.heap.size, 0, none⟩) (by simp) (.string st.1)) (p := ⟨w.heap.size, 1, none⟩) (by simp) (.slice Ak st.2.length ck)
    obtain ⟨A', c', heq, h1, h2, h3⟩ := own_form h
    cases heq
    exact ⟨Ak, ck, rfl, h1, h2, h3⟩
end Go.Proofs.Ytjebaibcfmjinaa
