/-
  The law PathPuts answers true for every path, key and value. No condition.
-/
import Derived.Test.YtjebaibcfmjinaaRows
import Derived.Test.YtjebaibcfmjinaaPutsLaw
import Derived.Test.YtjebaibcfmjinaaPathWakes
import Derived.WalkKit
import Derived.Outline
import Derived.ProofKit
import Derived.OpenShut
import Derived.ShutString
import Derived.ChangeOld
import Derived.Below
import Derived.Deep.CondSized
namespace Go.Proofs.Ytjebaibcfmjinaa.pathPuts
open Go.ChangeShapes Go.WideShapes Go.ChangeAt Go.RowKit
open Go.ChangeMaps (open_string shut_string)
set_option linter.unusedVariables false

theorem own : ownKnob Try.prog.godebug = none := by kernel_rfl
theorem laidOut : laidOutB Try.prog = true := by kernel_rfl

set_option maxRecDepth 100000 in
set_option maxHeartbeats 8000000 in
theorem puts_walk (a b c : ByteArray) (w : World) (ha : a.size ≤ 140737488351232) (hb : b.size ≤ 140737488351232) (hc : c.size ≤ 140737488351232) :
    Calls Try.prog 8 #[.string a, .string b, .string c] w fun en w' => en = .returned (.bool true) ∧ Below w.heap.size w w' := by
  have HW := Lib.hid (fun W => wakes_any W)
  have HCU := Lib.hid (show ∀ s W, s = a ∨ s = b ∨ s = c → Calls Try.prog 10 #[.string s] W fun en w' => en = .returned (.string (cutS s)) ∧ w' = W from fun s W h => cut_any s W (by rcases h with rfl | rfl | rfl <;> omega))
  have HSA := cutS_size a
  have HSB := cutS_size b
  have HSC := cutS_size c
  have HWI := Lib.hid (fun W => (with_any (cutS a) (cutS b) (cutS c) W (by omega) (by omega) (by omega)).mono fun en W' h => with_puts h)
  have HLA := Lib.hid (fun W => last_any (cutS a) W (by omega))
  have HWO := Lib.hid (fun W => without_any (cutS a) (cutS b) W (by omega))
  go_enter Try.func8, Try.ntmps8
  go_upto_region 4 with (first
    | (go_at_call 9; refine (HW.out _).mono ?_; rintro en w1 ⟨rfl, hB1⟩; have HB := Lib.hid hB1; clear hB1)
    | (go_at_call 10; refine (HCU.out _ _ (by simp)).mono ?_; rintro en w2 ⟨rfl, rfl⟩))
  clear HCU HW HSA HSB HSC
  generalize cutS a = A at *
  generalize cutS b = B at *
  generalize cutS c = C at *
  go_upto_region 5 with (go_at_call 23; go_loud (refine (HWI.out _).mono ?_; rintro en w3 ⟨hB3, ⟨e, he, rfl⟩ | ⟨s, st, hP, rfl⟩⟩ <;> (have HB := Lib.hid (HB.out.trans (hB3.mono HB.out.size)); clear hB3)))
  · have he0 : (e == 0) = false := by rw [beq_eq_false_iff_ne]; exact he
    go_wp2
    go_ret
    exact ⟨rfl, HB.out⟩
  · have HP := Lib.hid hP
    clear hP
    have HSS := Lib.hid (show s.size ≤ 512 by obtain ⟨l, k, _, _, _, hs⟩ := HP.out; exact (parseM_small hs).2.2.1)
    have HGE := Lib.hid (fun nm key W => get_any s nm key W (by have := HSS.out; omega))
    have HWS := Lib.hid (fun W => without_any s B W (by have := HSS.out; omega))
    have HNN := Lib.hid (show st.2.length ≤ 512 by obtain ⟨l, k, h1, _, h3, _⟩ := HP.out; exact ((parseM_small h1).1 st (List.mem_of_getElem? h3)).2.1)
    go_upto_region 8 with (go_at_call 21; go_loud (refine (HLA.out _).mono ?_; intro en w5 h5; obtain ⟨hB5, A5, c5, hK5, rfl⟩ := HP.out.last h5; have HB := Lib.hid (HB.out.trans (hB5.mono HB.out.size)); have HK5 := Lib.hid hK5; clear h5 hB5 hK5))
    have hs0 := Blk.new w5 40 #[.string st.1, .slice A5 st.2.length c5]
    have HB := Lib.hid (show Below w.heap.size w (w5.alloc (.cells #[.string st.1, .slice A5 st.2.length c5] 40)) from HB.out.alloc HB.out.size _)
    have HK6 := Lib.hid (HK5.out.more (show Below w5.heap.size w5 (w5.alloc (.cells #[.string st.1, .slice A5 st.2.length c5] 40)) from (Below.refl _ _).alloc (Nat.le_refl _) _) (show w5.heap.size ≤ (w5.alloc (.cells #[.string st.1, .slice A5 st.2.length c5] 40)).heap.size by simp))
    clear HK5
    have hlt : w5.heap.size < (w5.alloc (.cells #[.string st.1, .slice A5 st.2.length c5] 40)).heap.size := by simp
    generalize w5.alloc (.cells #[.string st.1, .slice A5 st.2.length c5] 40) = w6 at *
    generalize w5.heap.size = r9 at *
    have HS := Lib.hid hs0
    have k0 : w6.cell? ⟨r9, 0, none⟩ = some (.string st.1) := hs0.cell 0
    clear hs0
    go_upto_region 11 with (go_at_call 17; go_loud (refine (HGE.out _ _ _).mono ?_; rintro en w7 ⟨r, hr, rfl, hB7⟩; obtain rfl := HP.out.get hr; have HS := Lib.hid (show Blk w7 r9 40 #[.string st.1, .slice A5 st.2.length c5] from HS.out.below hB7 hlt); have HK5 := Lib.hid (HK6.out.more hB7 hB7.size); have HB := Lib.hid (HB.out.trans (hB7.mono HB.out.size)); have hlt : r9 < w7.heap.size := Nat.lt_of_lt_of_le hlt hB7.size; clear hr hB7))
    have hcc : (((some C).getD ByteArray.empty).toList == C.toList) = true := by simp
    simp only [Option.getD_some] at *
    go_upto_region 14 with (go_at_call 26; go_loud (refine (HWS.out _).mono ?_; intro en w8 h8; obtain ⟨hB8, rfl⟩ := HP.out.back h8; have HS := Lib.hid (show Blk w8 r9 40 #[.string st.1, .slice A5 st.2.length c5] from HS.out.below hB8 hlt); have HK5 := Lib.hid (HK5.out.more hB8 hB8.size); have HB := Lib.hid (HB.out.trans (hB8.mono HB.out.size)); have hlt : r9 < w8.heap.size := Nat.lt_of_lt_of_le hlt hB8.size; clear h8 hB8))
    go_upto_region 15 with (go_at_call 26; go_loud (refine (HWO.out _).mono ?_; intro en w9 h9; obtain ⟨hB9, v, hd, rfl, hv⟩ := HP.out.own h9; have HV := Lib.hid hv; have HS := Lib.hid (show Blk w9 r9 40 #[.string st.1, .slice A5 st.2.length c5] from HS.out.below hB9 hlt); have HK5 := Lib.hid (HK5.out.more hB9 hB9.size); have HB := Lib.hid (HB.out.trans (hB9.mono HB.out.size)); have hlt : r9 < w9.heap.size := Nat.lt_of_lt_of_le hlt hB9.size; clear h9 hB9 hv))
    have HNO := Lib.hid (fun h => HP.out.not (key := B) h)
    clear HP HGE HWS HWO HWI HLA
    generalize backS A B st = u at *
    obtain ⟨nm, ks⟩ := st
    simp only at *
    have k1 : w9.cell? ⟨r9, 1, none⟩ = some (.slice A5 ks.length c5) := HS.out.cell 1
    have HRd := Lib.hid (show Reads w9 w9.heap.size 2 A5 ks.length (pairCells ks) by obtain ⟨_, _, e, _, _, h⟩ := HK5.out; cases e; exact h)
    generalize hlen : ks.length = n at *
    have HLEN := Lib.hid hlen
    have hn1 : (n : Int) ≤ 512 := by have := HNN.out; omega
    clear hlen HS HK5
    go_wp2
    go_loopw [15, 17, 76] (fun ov _ iv wr => ∃ p : Nat, iv = .int .i64 (p : Int) ∧ p ≤ n ∧ ov = .bool (hasB (ks.take p) B) ∧ Below w9.heap.size w9 wr) (fun _ _ iv _ => n - (Lib.intOf iv).toNat)
    case atStart => exact ⟨0, rfl, Nat.zero_le _, rfl, Below.refl _ _⟩
    case round =>
      obtain ⟨p, rfl, hp, rfl, hB⟩ := hrel
      have HBr := Lib.hid hB
      clear hB
      by_cases hlp : p < n
      · obtain ⟨x, hx⟩ : ∃ x, ks[p]? = some x := ⟨ks[p]'(by rw [HLEN.out]; exact hlp), by simp [HLEN.out, hlp]⟩
        have hq1 : (p : Int) < (n : Int) := by omega
        obtain ⟨bb, oo, rfl, hbo, hcells⟩ := (HRd.out.below HBr.out).spot (by omega) (by omega)
        have hat := pairCells_at ks p x hx
        have r0 := hcells _ _ hat.1
        have r1 : wr.cell? ⟨bb, oo + p * 2 + 1, none⟩ = some (.string x.2) := hcells _ _ hat.2
        have HN := Lib.hid (hasB_take (key := B) hx)
        have HPX := Lib.hid (Blk.new wr 51 #[.string x.1, .string x.2])
        have HBn := Lib.hid (HBr.out.alloc HBr.out.size (.cells #[.string x.1, .string x.2] 51))
        clear hcells hat hx
        generalize hob : hasB (ks.take p) B = ob at *
        go_upto_region 21 with (fail)
        clear r0 r1
        generalize (wr.alloc (.cells #[.string x.1, .string x.2] 51)) = W1 at *
        generalize wr.heap.size = kb at *
        have q0 : W1.cell? ⟨kb, 0, none⟩ = some (.string x.1) := HPX.out.cell 0
        cases ob with
        | true =>
          go_wp2
          go_roundw
          case rel => exact ⟨p + 1, by go_num, hlp, by rw [HN.out]; rfl, HBn.out⟩
          case measure => simp [Lib.intOf]; omega
        | false =>
          go_wp2
          go_roundw
          case rel => exact ⟨p + 1, by go_num, hlp, by rw [HN.out]; rfl, HBn.out⟩
          case measure => simp [Lib.intOf]; omega
      · have hq1 : ¬ (p : Int) < (n : Int) := by omega
        rw [List.take_of_length_le (by rw [HLEN.out]; omega)]
        cases hob : hasB ks B with
        | true =>
          obtain ⟨rfl, rfl⟩ := HV.out (hasB_iff.1 hob)
          have hvv : (v.toList == v.toList) = true := by simp
          go_wp2
          go_ret
          exact ⟨rfl, HB.out.trans (HBr.out.mono HB.out.size)⟩
        | false =>
          obtain rfl := HNO.out (fun h => by rw [hasB_iff.2 h] at hob; cases hob)
          have hvv : (u.toList == u.toList) = true := by simp
          go_wp2
          go_ret
          exact ⟨rfl, HB.out.trans (HBr.out.mono HB.out.size)⟩
theorem walk (a0 : ByteArray) (a1 : ByteArray) (a2 : ByteArray) (w : World) (w0 : a0.size ≤ 140737488351232) (w1 : a1.size ≤ 140737488351232) (w2 : a2.size ≤ 140737488351232) :
    Calls Try.prog 8 #[.string a0, .string a1, .string a2] w fun e w' => e = .returned (.bool true) ∧ Below w.heap.size w w' := by
  exact puts_walk a0 a1 a2 w w0 w1 w2

set_option maxRecDepth 100000 in
theorem contract (H : Type) (enc : TypeId × Value → H) (W : World) (base : Nat) (args : Array Value) (ds gs : List (DataW H)) (before : List MemPlace)
    (hval0 : ∀ (j : Nat) t v, Try.f8.params[j]? = some t → args[j]? = some v → Value.okWide Try.prog W .any base t v)
    (hW : DataW.Whole enc Try.prog Try.f8.params.toList Rows.pathPutsSpec.vars false W args.toList ds gs before)
    (hsz0 : (DataW.weightsEach Try.prog (Try.f8.params.toList ++ Rows.pathPutsSpec.plain.varTypes Try.prog) (ds ++ gs)).all (· ≤ reachBytes) = true) :
    Calls Try.prog 8 args W fun e W' => ∃ v, e = .returned v ∧ Rows.pathPutsSpec.post enc Try.prog Try.f8 false true false false W args v W' := by
  have hval : ∀ (j : Nat) t v, Try.f8.params[j]? = some t → args[j]? = some v → Value.okWide Try.prog W .any base t v := hval0
  have hsz : (DataW.weightsEach Try.prog (Try.f8.params.toList ++ Rows.pathPutsSpec.plain.varTypes Try.prog) (ds ++ gs)).all (· ≤ reachBytes) = true := hsz0
  have hW' := hW
  obtain ⟨p, q, hA0, hV, rfl, hfz, hnd⟩ := hW
  have hA : DataW.TrodAll enc Try.prog W 0 (fun _ => true) true Try.f8.params.toList args.toList ds p := hA0
  rw [Try.params8] at hA hval hsz
  obtain ⟨v0, vs0, d0, ds0, p0, q0, hargs, rfl, rfl, h0, r0⟩ := trodAll_cons hA
  obtain ⟨v1, vs1, d1, ds1, p1, q1, rfl, rfl, rfl, h1, r1⟩ := trodAll_cons r0
  obtain ⟨v2, vs2, d2, ds2, p2, q2, rfl, rfl, rfl, h2, r2⟩ := trodAll_cons r1
  obtain ⟨rfl, rfl, rfl⟩ := trodAll_nil r2
  obtain rfl : args = #[v0, v1, v2] := by cases args; simp_all
  obtain ⟨rfl, rfl⟩ := trodVars_none hV
  obtain ⟨a0, rfl, rfl, rfl, wm0⟩ := open_string Try.underlying9 (hval 0 9 v0 rfl rfl) h0
  have w0 : a0.size ≤ 140737488351232 := by
    have := sized_string hsz (j := 0) (t := 9) rfl rfl
    simpa [reachBytes] using this
  obtain ⟨a1, rfl, rfl, rfl, wm1⟩ := open_string Try.underlying9 (hval 1 9 v1 rfl rfl) h1
  have w1 : a1.size ≤ 140737488351232 := by
    have := sized_string hsz (j := 1) (t := 9) rfl rfl
    simpa [reachBytes] using this
  obtain ⟨a2, rfl, rfl, rfl, wm2⟩ := open_string Try.underlying9 (hval 2 9 v2 rfl rfl) h2
  have w2 : a2.size ≤ 140737488351232 := by
    have := sized_string hsz (j := 2) (t := 9) rfl rfl
    simpa [reachBytes] using this
  clear hA0 hval0
  refine (walk a0 a1 a2 W w0 w1 w2).mono fun e W' ⟨he, bel⟩ => ?_
  subst he
  exact ⟨_, rfl, _, _, _, [], _, [], hW', trodAll_mk1 (shut_bool Try.underlying4 _), (trodAll_cons_mk (shut_string Try.underlying9 wm0) (trodAll_cons_mk (shut_string Try.underlying9 wm1) (trodAll_cons_mk (shut_string Try.underlying9 wm2) trodAll_mk0))), rfl, bel.frame _, fun h => by cases h⟩

set_option maxRecDepth 100000 in
theorem lifted (os : Os) (started : os.Started) (H : Type) (enc : TypeId × Value → H) :
    ReturnsInHanded {} Try.checked os 8 .any (Rows.pathPutsSpec.pre6 enc Try.prog Try.f8 Rows.pathPutsRow.domain false) (Rows.pathPutsSpec.post enc Try.prog Try.f8 false true false false) := by
  refine returnsInHanded_of_change_sized (C := Try.checked) own started (by kernel_rfl) Try.func8
    (ChangeSpec.witness6 (enc := enc) (C := Try.checked) false ⟨#[], #[.string ByteArray.empty, .string ByteArray.empty, .string ByteArray.empty], []⟩ 8 (by kernel_rfl) (by kernel_rfl) (by kernel_rfl) (by kernel_rfl)) ?_
  intro W base args ds gs before hval hW _ hsz _
  exact contract H enc W base args ds gs before hval hW hsz

theorem over : Rows.pathPutsRow.holds Try.pinned (OpenSpec.ofChange Rows.pathPutsSpec) :=
  OpenClaim.holds_of_wide 8 Try.f8 rfl rfl rfl rfl rfl rfl rfl ⟨rfl, rfl, rfl, rfl, rfl⟩ rfl rfl rfl rfl rfl (by kernel_rfl) Try.func8 (by kernel_rfl)
    (of_decide_eq_true (by kernel_rfl)) (by unfold Func.isWrapper; first | (rw [if_pos (by decide +kernel)]; kernel_rfl) | (rw [if_neg (by decide +kernel)]; exact ⟨rfl, rfl⟩))
    (fun os started H enc _ => lifted os started H enc)

/-- The statement. -/
theorem proved : Rows.PathPutsSaid := over
#print axioms proved
end Go.Proofs.Ytjebaibcfmjinaa.pathPuts
