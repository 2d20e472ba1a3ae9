/-
  The law PathKeys answers true for every path, key and value. No condition.
-/
import Derived.Test.YtjebaibcfmjinaaRows
import Derived.Test.YtjebaibcfmjinaaKeysLaw
import Derived.Test.YtjebaibcfmjinaaPathWakes
import Derived.Deep.RegionHeld3
import Derived.WalkKit
import Derived.Outline
import Derived.ProofKit
import Derived.OpenShut
import Derived.ShutString
import Derived.ChangeOld
import Derived.Below
import Derived.Deep.CondSized
namespace Go.Proofs.Ytjebaibcfmjinaa.pathKeys
open Go.ChangeShapes Go.WideShapes Go.ChangeAt Go.RowKit
open Go.ChangeMaps (open_string shut_string)
set_option linter.unusedVariables false

theorem own : ownKnob Try.prog.godebug = none := by kernel_rfl
theorem laidOut : laidOutB Try.prog = true := by kernel_rfl

set_option maxRecDepth 100000 in
set_option maxHeartbeats 16000000 in
theorem keys_walk (a b c : ByteArray) (w : World) (ha : a.size ≤ 140737488351232) (hb : b.size ≤ 140737488351232) (hc : c.size ≤ 140737488351232) :
    Calls Try.prog 7 #[.string a, .string b, .string c] w fun en w' => en = .returned (.bool true) ∧ Below w.heap.size w w' := by
  have HW := Lib.hid (fun W => wakes_any W)
  have HCU := Lib.hid (show ∀ s W, s = a ∨ s = b ∨ s = c → Calls Try.prog 10 #[.string s] W fun en w' => en = .returned (.string (cutS s)) ∧ w' = W from fun s W h => cut_any s W (by rcases h with rfl | rfl | rfl <;> omega))
  have hsa := cutS_size a
  have hsb := cutS_size b
  have hsc := cutS_size c
  have HSB := Lib.hid hsb
  have HSC := Lib.hid hsc
  have HPA := Lib.hid (show ∀ W, Calls Try.prog 15 #[.string (cutS a)] W (ParseSays (cutS a) W) from fun W => rparse_any (cutS a) W (by omega))
  have HWI := Lib.hid (fun W => with_any (cutS a) (cutS b) (cutS c) W (by omega) (by omega) (by omega))
  obtain ⟨t, is, hdet⟩ := wo_det (cutS a) (cutS b)
  have HWO := Lib.hid (fun W => (without_any (cutS a) (cutS b) W (by omega)).mono fun en W' h => hdet W en W' h)
  have HRW := Lib.hid (fun W => (rwithout_any (cutS a) (cutS b) W (by omega)).mono fun en W' h => hdet W en W' h)
  clear hdet hsa hsb hsc
  have htt : (t.toList == t.toList) = true := by simp
  have hii : (is == is) = true := by simp
  go_enter Try.func7, Try.ntmps7
  go_upto_region 4 with (first
    | (go_at_call 9; refine (HW.out _).mono ?_; rintro en w1 ⟨rfl, hB1⟩; have HB := Lib.hid hB1; clear hB1)
    | (go_at_call 10; refine (HCU.out _ _ (by simp)).mono ?_; rintro en w2 ⟨rfl, rfl⟩))
  clear HCU HW
  generalize cutS a = A at *
  generalize cutS b = B at *
  generalize cutS c = C at *
  go_upto_region 5 with (go_at_call 15; go_loud (refine (HPA.out _).mono ?_; rintro e w1 ⟨hB1, ⟨x, y, hE, rfl⟩ | ⟨l, v, hE, rfl, vs, hI⟩⟩; rotate_left; (obtain ⟨Al, cl, rfl, -, -, -⟩ := own_form hI.2.1); rotate_right; all_goals (have HB1 := Lib.hid (HB.out.trans (hB1.mono HB.out.size)); have HE := Lib.hid hE; clear hB1 hE)))
  · have hx0 : (x == 0) = false := by
      rw [beq_eq_false_iff_ne]
      have := parseM_err HE.out
      omega
    have hxx : (x == x) = true := by simp
    have HWE := Lib.hid (fun W => (HWI.out W).mono fun en W' h => with_err HE.out h)
    have hs0 := Blk.new w1 26 #[.int .i64 x, .int .i64 y]
    have HB2 := Lib.hid (HB1.out.alloc HB1.out.size (.cells #[.int .i64 x, .int .i64 y] 26))
    have hlt : w1.heap.size < (w1.alloc (.cells #[.int .i64 x, .int .i64 y] 26)).heap.size := by simp
    generalize (w1.alloc (.cells #[.int .i64 x, .int .i64 y] 26)) = w2 at *
    generalize w1.heap.size = r8 at *
    have HS := Lib.hid hs0
    clear hs0
    go_upto_region 10 with (go_at_call 23; go_loud (refine (HWE.out _).mono ?_; rintro en w3 ⟨rfl, hB3⟩; have HB3 := Lib.hid (HB2.out.trans (hB3.mono HB2.out.size)); have k0 : w3.cell? ⟨r8, 0, none⟩ = some (.int .i64 x) := Blk.cell (HS.out.below hB3 hlt) 0; clear hB3))
    go_wp2_with (first
      | (go_at_call 26; go_loud (refine (HWO.out _).mono ?_; rintro en w4 ⟨rfl, hB4⟩; have HB4 := Lib.hid (HB3.out.trans (hB4.mono HB3.out.size)); clear hB4))
      | (go_at_call 27; go_loud (refine (HRW.out _).mono ?_; rintro en w5 ⟨rfl, hB5⟩; have HB5 := Lib.hid (HB4.out.trans (hB5.mono HB4.out.size)); clear hB5)))
    go_ret
    exact ⟨rfl, HB5.out⟩
  · have hs0 := Blk.new w1 26 #[.int .i64 0, .int .i64 0]
    have HB2 := Lib.hid (HB1.out.alloc HB1.out.size (.cells #[.int .i64 0, .int .i64 0] 26))
    have HR2 := Lib.hid (hI.reads.more ((Below.refl _ _).alloc (Nat.le_refl _) (.cells #[.int .i64 0, .int .i64 0] 26)))
    have hlt : w1.heap.size < (w1.alloc (.cells #[.int .i64 0, .int .i64 0] 26)).heap.size := by simp
    clear hI
    generalize (w1.alloc (.cells #[.int .i64 0, .int .i64 0] 26)) = w2 at *
    generalize w1.heap.size = r8 at *
    have HS := Lib.hid hs0
    clear hs0
    by_cases hl0 : l = []
    · subst hl0
      have HWE := Lib.hid (fun W => (HWI.out W).mono fun en W' h => with_none HE.out h)
      simp only [List.length_nil]
      go_upto_region 10 with (go_at_call 23; go_loud (refine (HWE.out _).mono ?_; rintro en w3 ⟨rfl, hB3⟩; have HB3 := Lib.hid (HB2.out.trans (hB3.mono HB2.out.size)); have k0 : w3.cell? ⟨r8, 0, none⟩ = some (.int .i64 0) := Blk.cell (HS.out.below hB3 hlt) 0; clear hB3))
      go_wp2_with (first
        | (go_at_call 26; go_loud (refine (HWO.out _).mono ?_; rintro en w4 ⟨rfl, hB4⟩; have HB4 := Lib.hid (HB3.out.trans (hB4.mono HB3.out.size)); clear hB4))
        | (go_at_call 27; go_loud (refine (HRW.out _).mono ?_; rintro en w5 ⟨rfl, hB5⟩; have HB5 := Lib.hid (HB4.out.trans (hB5.mono HB4.out.size)); clear hB5)))
      go_ret
      exact ⟨rfl, HB5.out⟩
    · obtain ⟨k, hlk⟩ : ∃ k, l.length = k + 1 := ⟨l.length - 1, by have := List.length_pos_iff.2 hl0; omega⟩
      obtain ⟨⟨sn, ks⟩, hst⟩ : ∃ st : PStep, l[k]? = some st := ⟨l[k]'(by omega), by simp [hlk]⟩
      have HSM := Lib.hid (show (∀ st ∈ l, StepTiny st) ∧ l.length ≤ 64 from ⟨(parseM_small HE.out).1, (parseM_small HE.out).2.1⟩)
      have HRK := Lib.hid (show RisesK ks from parse_rises HE.out _ (List.mem_of_getElem? hst))
      have HKL := Lib.hid (show ks.length ≤ 512 from (HSM.out.1 _ (List.mem_of_getElem? hst)).2.1)
      have HWE := Lib.hid (fun W => (HWI.out W).mono fun en W' h => with_some HE.out hlk hst h)
      have HLK := Lib.hid hlk
      have HST := Lib.hid hst
      have hn1 : (l.length : Int) ≤ 64 := by have := HSM.out.2; omega
      have hn2 : (k : Int) < (l.length : Int) := by omega
      have hn3 : (l.length : Int) - 1 = (k : Int) := by omega
      have hn4 : ((l.length : Int) == 0) = false := by rw [beq_eq_false_iff_ne]; omega
      have hn5 : ¬ ((l.length : Int) = 0) := by omega
      clear hlk hst hl0
      go_upto_region 10 with (go_at_call 23; go_loud (refine (HWE.out _).mono ?_; rintro en w3 ⟨rfl, hB3⟩; have HB3 := Lib.hid (HB2.out.trans (hB3.mono HB2.out.size)); have HR3 := Lib.hid (HR2.out.more hB3); have k0 : w3.cell? ⟨r8, 0, none⟩ = some (.int .i64 0) := Blk.cell (HS.out.below hB3 hlt) 0; clear hB3))
      go_upto_region 7 with fail
      obtain ⟨kv, hkv⟩ : ∃ kv, vs[k]? = some kv := ⟨vs[k]'(by obtain ⟨_, _, _, _, _, _, h, _⟩ := HR3.out; have := HLK.out; omega), by obtain ⟨_, _, _, _, _, _, h, _⟩ := HR3.out; have := HLK.out; simp [h, this]⟩
      have HK3 := Lib.hid (show KeysAt w3 w3.heap.size kv ks from by
        obtain ⟨_, _, _, _, _, _, _, h⟩ := HR3.out
        exact h k (sn, ks) kv HST.out hkv)
      have hRd : Reads w3 w3.heap.size 2 Al l.length (stepCells l vs) := by obtain ⟨A', c', e, _, _, h, _⟩ := HR3.out; cases e; exact h
      have hcs := stepCells_at l vs k (sn, ks) kv HST.out hkv
      obtain ⟨b1, o1, rfl, hb1, hcl1⟩ := hRd.spot (by omega) (by omega)
      have x0 : w3.cell? ⟨b1, o1 + k * 2, none⟩ = some (.string sn) := hcl1 _ _ hcs.1
      have x1 : w3.cell? ⟨b1, o1 + k * 2 + 1, none⟩ = some kv := hcl1 _ _ hcs.2
      have HC := Lib.hid (show ∀ X, Below w3.heap.size w3 X → X.cell? ⟨b1, o1 + k * 2, none⟩ = some (.string sn) ∧ X.cell? ⟨b1, o1 + k * 2 + 1, none⟩ = some kv from fun X h => ⟨(h.cell (p := ⟨b1, o1 + k * 2, none⟩) hb1).trans x0, (h.cell (p := ⟨b1, o1 + k * 2 + 1, none⟩) hb1).trans x1⟩)
      have HSS := Lib.hid (putK_small (key := B) (value := C) (HSM.out.1 _ (List.mem_of_getElem? HST.out)) (by have := HSB.out; omega) (by have := HSC.out; omega))
      have HPU := Lib.hid (show ∀ X, Below w3.heap.size w3 X → Calls Try.prog 25 #[.agg #[.string sn, kv], .string B, .string C] X (fun en w' => ∃ Ap cp, en = .returned (.agg #[.string sn, .slice Ap (putK ks (B, C)).length cp]) ∧ w'.ownsRow w3.heap.size 51 2 (.slice Ap (putK ks (B, C)).length cp) (putK ks (B, C)).length (pairCells (putK ks (B, C))) ∧ Below w3.heap.size w3 w' ∧ Below X.heap.size X w') from fun X hX => (rput_any (sn, ks) B C kv X (HK3.out.more hX hX.size) (by have := HKL.out; show ks.length ≤ 1000000; omega)).mono fun en w' h => by
        obtain ⟨v, rfl, ho, hb⟩ := h
        simp only [refPut_eq ks (B, C) HRK.out] at ho ⊢
        obtain ⟨A', c', rfl, -, -, -⟩ := own_form ho
        exact ⟨A', c', rfl, own_base ho hX.size, hX.trans (hb.mono hX.size), hb⟩)
      have hkl2 : (putK ks (B, C)).length ≤ 1000 := by have := putK_len ks (B, C); have := HKL.out; omega
      clear HWE HRK HK3 hkv hRd hcl1 hcs
      generalize putK ks (B, C) = ks2 at *
      obtain ⟨m, hm⟩ : ∃ m, ks2.length = m := ⟨_, rfl⟩
      rw [hm] at HPU hkl2
      have HM := Lib.hid hm
      clear hm
      generalize hL2 : l.take k ++ [(sn, ks2)] = L2 at *
      have HL2 := Lib.hid hL2
      clear hL2
      have hss : ((putS (putM L2)).toList == (putS (putM L2)).toList) = true := by simp
      have hee : (putE (putM L2) == putE (putM L2)) = true := by simp
      obtain ⟨i0, hi0, hz0, hz1, hz2⟩ := info_parts stepz_info
      obtain ⟨news, hnews⟩ : ∃ news, news = (stepCells l vs).take (k * 2) := ⟨_, rfl⟩
      have HRq := Lib.hid (show Reads w3 w3.heap.size 2 (some ⟨b1, o1, none⟩) k news from by
        obtain ⟨_, _, e, _, _, h, _⟩ := HR3.out
        cases e
        rw [hnews]
        exact h.take (by omega))
      have HOC := Lib.hid (show ∀ u ∈ news, u.oneCell' = true from fun u hu => by
        rw [hnews] at hu
        exact stepCells_one HR3.out u (List.mem_of_mem_take hu))
      have HNW := Lib.hid hnews
      have hcl : (l.length : Int) ≤ (cl : Int) := by obtain ⟨_, _, e, h, _⟩ := HR3.out; cases e; omega
      have hkc : (k : Int) ≤ (cl : Int) := by omega
      have HBX := Lib.hid (below_drewN (Below.refl w3.heap.size w3) 1)
      have n0 := World.new_ne w3 ⟨b1, o1 + k * 2, none⟩ x0
      have n1 := World.new_ne w3 ⟨b1, o1 + k * 2 + 1, none⟩ x1
      clear hnews k0
      go_region_held3 (fun w' => w'.cell? ⟨b1, o1 + k * 2, none⟩ = some (.string sn) ∧ w'.cell? ⟨b1, o1 + k * 2 + 1, none⟩ = some kv) (go_keep) (first
        | (go_loud (refine step_append_any (o := ⟨some 46, _, _, _, _, _⟩) rfl (.tmp 42) (.tmp 45) 32 (by rfl) w3.heap.size 40 i0 _ 2 40 Try.underlying32 hi0 hz0 hz1 hz2 (by rfl) (by omega) _ 0 [] (by rfl) (own_empty (Blk.new w3.drew 40 #[]) (Nat.le_refl _) 2) w3.heap.size (some ⟨b1, o1, none⟩) k cl news (by rfl) (HRq.out.below (below_al HBX.out _)) HOC.out (by simp only [maxLen]; omega) (by omega) (below_al HBX.out _).size ?_; intro v4 w4 ho4 hg4 hat4; simp only [Nat.zero_add, List.nil_append] at ho4; have HO4 := Lib.hid ho4; obtain ⟨A4, c4, rfl, -, -, -⟩ := own_form ho4; have hbx4 : Below w3.heap.size w3 w4 := Below.grown (below_al HBX.out _) hg4 (below_al HBX.out _).size (fun k e => by simp [Act.eval, Value.ownBlock] at e <;> omega); have HBX := Lib.hid hbx4; obtain ⟨z0, z1⟩ := HC.out w4 HBX.out; have m0 := World.new_ne w4 _ z0; have m1 := World.new_ne w4 _ z1; clear ho4 hg4 hat4 hbx4))
        | (go_loud (refine step_append_any (o := ⟨some 55, _, _, _, _, _⟩) rfl (.tmp 46) (.tmp 54) 32 (by rfl) w3.heap.size 40 i0 _ 2 40 Try.underlying32 hi0 hz0 hz1 hz2 (by rfl) (by omega) _ k news (by rfl) (HO4.out.alloc _) _ _ 1 1 [.string sn, .slice Ap m cp] (by rfl) (reads_new wp #[.string sn, .slice Ap m cp] 40 2 1 rfl) (by simp [Value.oneCell']) (by simp only [maxLen]; omega) (by omega) ((below_al HBX.out _).size) ?_; intro v6 w6 ho6 hg6 hat6; have hbx6 : Below w3.heap.size w3 w6 := Below.grown (below_al HBX.out _) hg6 ((below_al HBX.out _).size) (fun k e => by have := HO4.out.lt k e; omega); have hd6 : (Value.slice Ap m cp).ownBlock = none ∨ (Value.slice Ap m cp).ownBlock ≠ (Value.slice A4 k c4).ownBlock := own_apart2 HOP.out HO4.out (by decide); have hop6 : w6.ownsRow w3.heap.size 51 2 (.slice Ap m cp) m (pairCells ks2) := World.ownsRow.kept (HOP.out.alloc _) hg6 hd6; obtain ⟨A6, c6, rfl, k1, k2, k3⟩ := own_form ho6; have HPR := Lib.hid (keys_print HLK.out HNW.out HR3.out HL2.out (own_keys hop6 HM.out) HSM.out HSS.out k1 k2 k3 hbx6); have HBX := Lib.hid hbx6; obtain ⟨z0, z1⟩ := HC.out w6 HBX.out; have m0 := World.new_ne w6 _ z0; have m1 := World.new_ne w6 _ z1; clear ho6 hg6 hat6 hbx6 hop6 k1 k2 k3))
        | (go_at_call 25; go_loud (refine (HPU.out _ HBX.out).mono ?_; rintro e wp ⟨Ap, cp, rfl, hop, hbp, hcp⟩; have HO4 := Lib.hid (own_more HO4.out hcp); have HOP := Lib.hid hop; have HBX := Lib.hid hbp; obtain ⟨z0, z1⟩ := HC.out wp HBX.out; have m0 := World.new_ne wp _ z0; have m1 := World.new_ne wp _ z1; clear hop hbp hcp))
        | (go_at_call 24; go_loud (refine HPR.out.mono ?_; rintro e w8 ⟨rfl, hB8⟩; have HBX := Lib.hid (HBX.out.trans (hB8.mono HBX.out.size)); obtain ⟨z0, z1⟩ := HC.out w8 HBX.out; have m0 := World.new_ne w8 _ z0; have m1 := World.new_ne w8 _ z1; clear hB8))
        | fail "no arm")
      all_goals
        go_wp2_with (first
          | (go_at_call 26; go_loud (refine (HWO.out _).mono ?_; rintro en w9 ⟨rfl, hB9⟩; have HBX := Lib.hid (HBX.out.trans (hB9.mono HBX.out.size)); clear hB9))
          | (go_at_call 27; go_loud (refine (HRW.out _).mono ?_; rintro en w5 ⟨rfl, hB5⟩; have HBX := Lib.hid (HBX.out.trans (hB5.mono HBX.out.size)); clear hB5)))
        go_ret
        exact ⟨rfl, HB3.out.trans (HBX.out.mono HB3.out.size)⟩
theorem walk (a0 : ByteArray) (a1 : ByteArray) (a2 : ByteArray) (w : World) (w0 : a0.size ≤ 140737488351232) (w1 : a1.size ≤ 140737488351232) (w2 : a2.size ≤ 140737488351232) :
    Calls Try.prog 7 #[.string a0, .string a1, .string a2] w fun e w' => e = .returned (.bool true) ∧ Below w.heap.size w w' := by
  exact keys_walk a0 a1 a2 w w0 w1 w2

set_option maxRecDepth 100000 in
theorem contract (H : Type) (enc : TypeId × Value → H) (W : World) (base : Nat) (args : Array Value) (ds gs : List (DataW H)) (before : List MemPlace)
    (hval0 : ∀ (j : Nat) t v, Try.f7.params[j]? = some t → args[j]? = some v → Value.okWide Try.prog W .any base t v)
    (hW : DataW.Whole enc Try.prog Try.f7.params.toList Rows.pathKeysSpec.vars false W args.toList ds gs before)
    (hsz0 : (DataW.weightsEach Try.prog (Try.f7.params.toList ++ Rows.pathKeysSpec.plain.varTypes Try.prog) (ds ++ gs)).all (· ≤ reachBytes) = true) :
    Calls Try.prog 7 args W fun e W' => ∃ v, e = .returned v ∧ Rows.pathKeysSpec.post enc Try.prog Try.f7 false true false false W args v W' := by
  have hval : ∀ (j : Nat) t v, Try.f7.params[j]? = some t → args[j]? = some v → Value.okWide Try.prog W .any base t v := hval0
  have hsz : (DataW.weightsEach Try.prog (Try.f7.params.toList ++ Rows.pathKeysSpec.plain.varTypes Try.prog) (ds ++ gs)).all (· ≤ reachBytes) = true := hsz0
  have hW' := hW
  obtain ⟨p, q, hA0, hV, rfl, hfz, hnd⟩ := hW
  have hA : DataW.TrodAll enc Try.prog W 0 (fun _ => true) true Try.f7.params.toList args.toList ds p := hA0
  rw [Try.params7] at hA hval hsz
  obtain ⟨v0, vs0, d0, ds0, p0, q0, hargs, rfl, rfl, h0, r0⟩ := trodAll_cons hA
  obtain ⟨v1, vs1, d1, ds1, p1, q1, rfl, rfl, rfl, h1, r1⟩ := trodAll_cons r0
  obtain ⟨v2, vs2, d2, ds2, p2, q2, rfl, rfl, rfl, h2, r2⟩ := trodAll_cons r1
  obtain ⟨rfl, rfl, rfl⟩ := trodAll_nil r2
  obtain rfl : args = #[v0, v1, v2] := by cases args; simp_all
  obtain ⟨rfl, rfl⟩ := trodVars_none hV
  obtain ⟨a0, rfl, rfl, rfl, wm0⟩ := open_string Try.underlying9 (hval 0 9 v0 rfl rfl) h0
  have w0 : a0.size ≤ 140737488351232 := by
    have := sized_string hsz (j := 0) (t := 9) rfl rfl
    simpa [reachBytes] using this
  obtain ⟨a1, rfl, rfl, rfl, wm1⟩ := open_string Try.underlying9 (hval 1 9 v1 rfl rfl) h1
  have w1 : a1.size ≤ 140737488351232 := by
    have := sized_string hsz (j := 1) (t := 9) rfl rfl
    simpa [reachBytes] using this
  obtain ⟨a2, rfl, rfl, rfl, wm2⟩ := open_string Try.underlying9 (hval 2 9 v2 rfl rfl) h2
  have w2 : a2.size ≤ 140737488351232 := by
    have := sized_string hsz (j := 2) (t := 9) rfl rfl
    simpa [reachBytes] using this
  clear hA0 hval0
  refine (walk a0 a1 a2 W w0 w1 w2).mono fun e W' ⟨he, bel⟩ => ?_
  subst he
  exact ⟨_, rfl, _, _, _, [], _, [], hW', trodAll_mk1 (shut_bool Try.underlying4 _), (trodAll_cons_mk (shut_string Try.underlying9 wm0) (trodAll_cons_mk (shut_string Try.underlying9 wm1) (trodAll_cons_mk (shut_string Try.underlying9 wm2) trodAll_mk0))), rfl, bel.frame _, fun h => by cases h⟩

set_option maxRecDepth 100000 in
theorem lifted (os : Os) (started : os.Started) (H : Type) (enc : TypeId × Value → H) :
    ReturnsInHanded {} Try.checked os 7 .any (Rows.pathKeysSpec.pre6 enc Try.prog Try.f7 Rows.pathKeysRow.domain false) (Rows.pathKeysSpec.post enc Try.prog Try.f7 false true false false) := by
  refine returnsInHanded_of_change_sized (C := Try.checked) own started (by kernel_rfl) Try.func7
    (ChangeSpec.witness6 (enc := enc) (C := Try.checked) false ⟨#[], #[.string ByteArray.empty, .string ByteArray.empty, .string ByteArray.empty], []⟩ 8 (by kernel_rfl) (by kernel_rfl) (by kernel_rfl) (by kernel_rfl)) ?_
  intro W base args ds gs before hval hW _ hsz _
  exact contract H enc W base args ds gs before hval hW hsz

theorem over : Rows.pathKeysRow.holds Try.pinned (OpenSpec.ofChange Rows.pathKeysSpec) :=
  OpenClaim.holds_of_wide 7 Try.f7 rfl rfl rfl rfl rfl rfl rfl ⟨rfl, rfl, rfl, rfl, rfl⟩ rfl rfl rfl rfl rfl (by kernel_rfl) Try.func7 (by kernel_rfl)
    (of_decide_eq_true (by kernel_rfl)) (by unfold Func.isWrapper; first | (rw [if_pos (by decide +kernel)]; kernel_rfl) | (rw [if_neg (by decide +kernel)]; exact ⟨rfl, rfl⟩))
    (fun os started H enc _ => lifted os started H enc)

/-- The statement. -/
theorem proved : Rows.PathKeysSaid := over
#print axioms proved
end Go.Proofs.Ytjebaibcfmjinaa.pathKeys
