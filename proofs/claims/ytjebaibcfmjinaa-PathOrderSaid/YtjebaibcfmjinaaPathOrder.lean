/-
  The law PathOrder answers true for every three strings. No condition.
-/
import Derived.Test.YtjebaibcfmjinaaRows
import Derived.Test.YtjebaibcfmjinaaPathWakes
import Derived.WalkKit
import Derived.Outline
import Derived.ProofKit
import Derived.OpenShut
import Derived.ShutString
import Derived.ChangeOld
import Derived.Below
import Derived.Deep.CondSized
namespace Go.Proofs.Ytjebaibcfmjinaa.pathOrder
open Go.ChangeShapes Go.WideShapes Go.ChangeAt Go.RowKit
open Go.ChangeMaps (open_string shut_string)
set_option linter.unusedVariables false

theorem own : ownKnob Try.prog.godebug = none := by kernel_rfl
theorem laidOut : laidOutB Try.prog = true := by kernel_rfl

set_option maxRecDepth 100000 in
set_option maxHeartbeats 4000000 in
theorem order_walk (a b c : ByteArray) (w : World) (ha : a.size ≤ 140737488351232) (hb : b.size ≤ 140737488351232) (hc : c.size ≤ 140737488351232) :
    Calls Try.prog 3 #[.string a, .string b, .string c] w fun en w' => en = .returned (.bool true) ∧ Below w.heap.size w w' := by
  have HW := Lib.hid (fun W => wakes_any W)
  have HCU := Lib.hid (show ∀ s W, s = a ∨ s = b ∨ s = c → Calls Try.prog 10 #[.string s] W fun en w' => en = .returned (.string (cutS s)) ∧ w' = W from fun s W h => cut_any s W (by rcases h with rfl | rfl | rfl <;> omega))
  have HSA := cutS_size a
  have HSB := cutS_size b
  have HSC := cutS_size c
  go_enter Try.func3, Try.ntmps3
  go_upto_region 4 with (first
    | (go_at_call 9; refine (HW.out _).mono ?_; rintro en w1 ⟨rfl, hB1⟩)
    | (go_at_call 10; refine (HCU.out _ _ (by simp)).mono ?_; rintro en w2 ⟨rfl, rfl⟩))
  clear HCU HW
  generalize cutS a = A at *
  generalize cutS b = B at *
  generalize cutS c = C at *
  have HB := Lib.hid hB1
  clear hB1
  have HCK := Lib.hid (show Calls Try.prog 11 #[.string A] w2 fun en w' => en = .returned (.agg #[.int .i64 (errOf A).1, .int .i64 (errOf A).2]) ∧ Below w2.heap.size w2 w' from pcheck_any A w2 (by omega))
  have HIN := Lib.hid (show ∀ p q W, (p = A ∨ p = B ∨ p = C) → (q = A ∨ q = B ∨ q = C ∨ q = ⟨#[]⟩) → Calls Try.prog 12 #[.string p, .string q] W fun en w' => en = .returned (.bool (inB p q)) ∧ Below W.heap.size W w' from fun p q W hp hq =>
    in_any p q W (by rcases hp with rfl | rfl | rfl <;> omega) (by rcases hq with rfl | rfl | rfl | rfl <;> first | omega | decide))
  have hfd := fun W => spot_field0 (errOf A).1 (errOf A).2 W
  have hAA := in_self A
  have hA0 : inB A ⟨#[]⟩ = rightB A := in_none A
  have hR : ((errOf A).1 == 0) = rightB A := rfl
  have HT := Lib.hid (fun h1 h2 => in_trans (a := A) (b := B) (c := C) h1 h2)
  have HX := Lib.hid (fun h1 h2 => in_anti (a := A) (b := B) h1 h2)
  have HL := Lib.hid (fun h1 h2 => in_line (a := A) (b := B) (c := C) h1 h2)
  generalize rightB A = r at *
  generalize (errOf A).1 = ex at *
  generalize (errOf A).2 = ey at *
  clear HSA HSB HSC
  go_upto_region 7 with (first
    | (go_at_call 11; go_loud (refine HCK.out.mono ?_; rintro en w3 ⟨rfl, hB3⟩; have HB := Lib.hid (HB.out.trans (hB3.mono HB.out.size)); clear hB3))
    | (go_at_call 12; go_loud (refine (HIN.out _ _ _ (by simp) (by simp)).mono ?_; rintro en w3 ⟨rfl, hB3⟩; have HB := Lib.hid (HB.out.trans (hB3.mono HB.out.size)); clear hB3)))
  clear hAA hA0 hR hfd HCK
  cases hx : inB A B
  · clear HT HX HL
    go_wp2_with (go_at_call 12; go_loud (refine (HIN.out _ _ _ (by simp) (by simp)).mono ?_; rintro en w3 ⟨rfl, hB3⟩; have HB := Lib.hid (HB.out.trans (hB3.mono HB.out.size)); clear hB3))
    go_ret
    exact ⟨rfl, HB.out⟩
  · cases hu : inB B A
    · cases hy : inB B C
      · cases hz : inB A C
        · clear HT HX HL
          go_wp2_with (go_at_call 12; go_loud (refine (HIN.out _ _ _ (by simp) (by simp)).mono ?_; rintro en w3 ⟨rfl, hB3⟩; have HB := Lib.hid (HB.out.trans (hB3.mono HB.out.size)); clear hB3))
          go_ret
          exact ⟨rfl, HB.out⟩
        · have hv : inB C B = true := by
            rcases HL.out hx hz with h | h
            · rw [hy] at h; cases h
            · exact h
          clear HT HX HL
          go_wp2_with (go_at_call 12; go_loud (refine (HIN.out _ _ _ (by simp) (by simp)).mono ?_; rintro en w3 ⟨rfl, hB3⟩; have HB := Lib.hid (HB.out.trans (hB3.mono HB.out.size)); clear hB3))
          go_ret
          exact ⟨rfl, HB.out⟩
      · have hz := HT.out hx hy
        clear HT HX HL
        go_wp2_with (go_at_call 12; go_loud (refine (HIN.out _ _ _ (by simp) (by simp)).mono ?_; rintro en w3 ⟨rfl, hB3⟩; have HB := Lib.hid (HB.out.trans (hB3.mono HB.out.size)); clear hB3))
        go_ret
        exact ⟨rfl, HB.out⟩
    · have hab := HX.out hx hu
      subst hab
      have hxx : (A.toList == A.toList) = true := by simp
      cases hy : inB A C
      · clear HT HX HL
        go_wp2_with (go_at_call 12; go_loud (refine (HIN.out _ _ _ (by simp) (by simp)).mono ?_; rintro en w3 ⟨rfl, hB3⟩; have HB := Lib.hid (HB.out.trans (hB3.mono HB.out.size)); clear hB3))
        go_ret
        exact ⟨rfl, HB.out⟩
      · clear HT HX HL
        go_wp2_with (go_at_call 12; go_loud (refine (HIN.out _ _ _ (by simp) (by simp)).mono ?_; rintro en w3 ⟨rfl, hB3⟩; have HB := Lib.hid (HB.out.trans (hB3.mono HB.out.size)); clear hB3))
        go_ret
        exact ⟨rfl, HB.out⟩
theorem walk (a0 : ByteArray) (a1 : ByteArray) (a2 : ByteArray) (w : World) (w0 : a0.size ≤ 140737488351232) (w1 : a1.size ≤ 140737488351232) (w2 : a2.size ≤ 140737488351232) :
    Calls Try.prog 3 #[.string a0, .string a1, .string a2] w fun e w' => e = .returned (.bool true) ∧ Below w.heap.size w w' := by
  exact order_walk a0 a1 a2 w w0 w1 w2

set_option maxRecDepth 100000 in
theorem contract (H : Type) (enc : TypeId × Value → H) (W : World) (base : Nat) (args : Array Value) (ds gs : List (DataW H)) (before : List MemPlace)
    (hval0 : ∀ (j : Nat) t v, Try.f3.params[j]? = some t → args[j]? = some v → Value.okWide Try.prog W .any base t v)
    (hW : DataW.Whole enc Try.prog Try.f3.params.toList Rows.pathOrderSpec.vars false W args.toList ds gs before)
    (hsz0 : (DataW.weightsEach Try.prog (Try.f3.params.toList ++ Rows.pathOrderSpec.plain.varTypes Try.prog) (ds ++ gs)).all (· ≤ reachBytes) = true) :
    Calls Try.prog 3 args W fun e W' => ∃ v, e = .returned v ∧ Rows.pathOrderSpec.post enc Try.prog Try.f3 false true false false W args v W' := by
  have hval : ∀ (j : Nat) t v, Try.f3.params[j]? = some t → args[j]? = some v → Value.okWide Try.prog W .any base t v := hval0
  have hsz : (DataW.weightsEach Try.prog (Try.f3.params.toList ++ Rows.pathOrderSpec.plain.varTypes Try.prog) (ds ++ gs)).all (· ≤ reachBytes) = true := hsz0
  have hW' := hW
  obtain ⟨p, q, hA0, hV, rfl, hfz, hnd⟩ := hW
  have hA : DataW.TrodAll enc Try.prog W 0 (fun _ => true) true Try.f3.params.toList args.toList ds p := hA0
  rw [Try.params3] at hA hval hsz
  obtain ⟨v0, vs0, d0, ds0, p0, q0, hargs, rfl, rfl, h0, r0⟩ := trodAll_cons hA
  obtain ⟨v1, vs1, d1, ds1, p1, q1, rfl, rfl, rfl, h1, r1⟩ := trodAll_cons r0
  obtain ⟨v2, vs2, d2, ds2, p2, q2, rfl, rfl, rfl, h2, r2⟩ := trodAll_cons r1
  obtain ⟨rfl, rfl, rfl⟩ := trodAll_nil r2
  obtain rfl : args = #[v0, v1, v2] := by cases args; simp_all
  obtain ⟨rfl, rfl⟩ := trodVars_none hV
  obtain ⟨a0, rfl, rfl, rfl, wm0⟩ := open_string Try.underlying9 (hval 0 9 v0 rfl rfl) h0
  have w0 : a0.size ≤ 140737488351232 := by
    have := sized_string hsz (j := 0) (t := 9) rfl rfl
    simpa [reachBytes] using this
  obtain ⟨a1, rfl, rfl, rfl, wm1⟩ := open_string Try.underlying9 (hval 1 9 v1 rfl rfl) h1
  have w1 : a1.size ≤ 140737488351232 := by
    have := sized_string hsz (j := 1) (t := 9) rfl rfl
    simpa [reachBytes] using this
  obtain ⟨a2, rfl, rfl, rfl, wm2⟩ := open_string Try.underlying9 (hval 2 9 v2 rfl rfl) h2
  have w2 : a2.size ≤ 140737488351232 := by
    have := sized_string hsz (j := 2) (t := 9) rfl rfl
    simpa [reachBytes] using this
  clear hA0 hval0
  refine (walk a0 a1 a2 W w0 w1 w2).mono fun e W' ⟨he, bel⟩ => ?_
  subst he
  exact ⟨_, rfl, _, _, _, [], _, [], hW', trodAll_mk1 (shut_bool Try.underlying4 _), (trodAll_cons_mk (shut_string Try.underlying9 wm0) (trodAll_cons_mk (shut_string Try.underlying9 wm1) (trodAll_cons_mk (shut_string Try.underlying9 wm2) trodAll_mk0))), rfl, bel.frame _, fun h => by cases h⟩

set_option maxRecDepth 100000 in
theorem lifted (os : Os) (started : os.Started) (H : Type) (enc : TypeId × Value → H) :
    ReturnsInHanded {} Try.checked os 3 .any (Rows.pathOrderSpec.pre6 enc Try.prog Try.f3 Rows.pathOrderRow.domain false) (Rows.pathOrderSpec.post enc Try.prog Try.f3 false true false false) := by
  refine returnsInHanded_of_change_sized (C := Try.checked) own started (by kernel_rfl) Try.func3
    (ChangeSpec.witness6 (enc := enc) (C := Try.checked) false ⟨#[], #[.string ByteArray.empty, .string ByteArray.empty, .string ByteArray.empty], []⟩ 8 (by kernel_rfl) (by kernel_rfl) (by kernel_rfl) (by kernel_rfl)) ?_
  intro W base args ds gs before hval hW _ hsz _
  exact contract H enc W base args ds gs before hval hW hsz

theorem over : Rows.pathOrderRow.holds Try.pinned (OpenSpec.ofChange Rows.pathOrderSpec) :=
  OpenClaim.holds_of_wide 3 Try.f3 rfl rfl rfl rfl rfl rfl rfl ⟨rfl, rfl, rfl, rfl, rfl⟩ rfl rfl rfl rfl rfl (by kernel_rfl) Try.func3 (by kernel_rfl)
    (of_decide_eq_true (by kernel_rfl)) (by unfold Func.isWrapper; first | (rw [if_pos (by decide +kernel)]; kernel_rfl) | (rw [if_neg (by decide +kernel)]; exact ⟨rfl, rfl⟩))
    (fun os started H enc _ => lifted os started H enc)

/-- The statement. -/
theorem proved : Rows.PathOrderSaid := over
#print axioms proved
end Go.Proofs.Ytjebaibcfmjinaa.pathOrder
