/-
  The law PathGets answers true for every path, name and key. No condition.
-/
import Derived.Test.YtjebaibcfmjinaaRows
import Derived.Test.YtjebaibcfmjinaaPathGet
import Derived.Test.YtjebaibcfmjinaaRefGet
import Derived.Test.YtjebaibcfmjinaaPathWakes
import Derived.WalkKit
import Derived.Outline
import Derived.ProofKit
import Derived.OpenShut
import Derived.ShutString
import Derived.ChangeOld
import Derived.Below
import Derived.Deep.CondSized
namespace Go.Proofs.Ytjebaibcfmjinaa.pathGets
open Go.ChangeShapes Go.WideShapes Go.ChangeAt Go.RowKit
open Go.ChangeMaps (open_string shut_string)
set_option linter.unusedVariables false

theorem own : ownKnob Try.prog.godebug = none := by kernel_rfl
theorem laidOut : laidOutB Try.prog = true := by kernel_rfl

set_option maxRecDepth 100000 in
set_option maxHeartbeats 4000000 in
theorem gets_walk (a b c : ByteArray) (w : World) (ha : a.size ≤ 140737488351232) (hb : b.size ≤ 140737488351232) (hc : c.size ≤ 140737488351232) :
    Calls Try.prog 5 #[.string a, .string b, .string c] w fun en w' => en = .returned (.bool true) ∧ Below w.heap.size w w' := by
  have HW := Lib.hid (fun W => wakes_any W)
  have HCU := Lib.hid (show ∀ s W, s = a ∨ s = b ∨ s = c → Calls Try.prog 10 #[.string s] W fun en w' => en = .returned (.string (cutS s)) ∧ w' = W from fun s W h => cut_any s W (by rcases h with rfl | rfl | rfl <;> omega))
  have HSA := cutS_size a
  have HG := Lib.hid (fun nm key W => get_any (cutS a) nm key W (by omega))
  have HR := Lib.hid (fun nm key W => rget_any (cutS a) nm key W (by omega))
  go_enter Try.func5, Try.ntmps5
  go_upto_region 4 with (first
    | (go_at_call 9; refine (HW.out _).mono ?_; rintro en w1 ⟨rfl, hB1⟩; have HB := Lib.hid hB1; clear hB1)
    | (go_at_call 10; refine (HCU.out _ _ (by simp)).mono ?_; rintro en w2 ⟨rfl, rfl⟩))
  clear HCU HW HSA
  generalize cutS a = A at *
  generalize cutS b = B at *
  generalize cutS c = C at *
  go_upto_region 5 with (go_at_call 17; go_loud (refine (HG.out _ _ _).mono ?_; rintro en w3 ⟨r, hr, rfl, hB3⟩; have HB := Lib.hid (HB.out.trans (hB3.mono HB.out.size)); have HGI := Lib.hid hr; clear hr hB3))
  go_upto_region 6 with (go_at_call 18; go_loud (refine (HR.out _ _ _).mono ?_; rintro en w4 ⟨r', hr', rfl, hB4⟩; have HB := Lib.hid (HB.out.trans (hB4.mono HB.out.size)); obtain rfl := getIs_unique HGI.out hr'; clear hr' hB4))
  have hss : ((r.getD ByteArray.empty).toList == (r.getD ByteArray.empty).toList) = true := by simp
  have hbb : (r.isSome == r.isSome) = true := by simp
  go_wp2
  go_ret
  exact ⟨rfl, HB.out⟩
theorem walk (a0 : ByteArray) (a1 : ByteArray) (a2 : ByteArray) (w : World) (w0 : a0.size ≤ 140737488351232) (w1 : a1.size ≤ 140737488351232) (w2 : a2.size ≤ 140737488351232) :
    Calls Try.prog 5 #[.string a0, .string a1, .string a2] w fun e w' => e = .returned (.bool true) ∧ Below w.heap.size w w' := by
  exact gets_walk a0 a1 a2 w w0 w1 w2

set_option maxRecDepth 100000 in
theorem contract (H : Type) (enc : TypeId × Value → H) (W : World) (base : Nat) (args : Array Value) (ds gs : List (DataW H)) (before : List MemPlace)
    (hval0 : ∀ (j : Nat) t v, Try.f5.params[j]? = some t → args[j]? = some v → Value.okWide Try.prog W .any base t v)
    (hW : DataW.Whole enc Try.prog Try.f5.params.toList Rows.pathGetsSpec.vars false W args.toList ds gs before)
    (hsz0 : (DataW.weightsEach Try.prog (Try.f5.params.toList ++ Rows.pathGetsSpec.plain.varTypes Try.prog) (ds ++ gs)).all (· ≤ reachBytes) = true) :
    Calls Try.prog 5 args W fun e W' => ∃ v, e = .returned v ∧ Rows.pathGetsSpec.post enc Try.prog Try.f5 false true false false W args v W' := by
  have hval : ∀ (j : Nat) t v, Try.f5.params[j]? = some t → args[j]? = some v → Value.okWide Try.prog W .any base t v := hval0
  have hsz : (DataW.weightsEach Try.prog (Try.f5.params.toList ++ Rows.pathGetsSpec.plain.varTypes Try.prog) (ds ++ gs)).all (· ≤ reachBytes) = true := hsz0
  have hW' := hW
  obtain ⟨p, q, hA0, hV, rfl, hfz, hnd⟩ := hW
  have hA : DataW.TrodAll enc Try.prog W 0 (fun _ => true) true Try.f5.params.toList args.toList ds p := hA0
  rw [Try.params5] at hA hval hsz
  obtain ⟨v0, vs0, d0, ds0, p0, q0, hargs, rfl, rfl, h0, r0⟩ := trodAll_cons hA
  obtain ⟨v1, vs1, d1, ds1, p1, q1, rfl, rfl, rfl, h1, r1⟩ := trodAll_cons r0
  obtain ⟨v2, vs2, d2, ds2, p2, q2, rfl, rfl, rfl, h2, r2⟩ := trodAll_cons r1
  obtain ⟨rfl, rfl, rfl⟩ := trodAll_nil r2
  obtain rfl : args = #[v0, v1, v2] := by cases args; simp_all
  obtain ⟨rfl, rfl⟩ := trodVars_none hV
  obtain ⟨a0, rfl, rfl, rfl, wm0⟩ := open_string Try.underlying9 (hval 0 9 v0 rfl rfl) h0
  have w0 : a0.size ≤ 140737488351232 := by
    have := sized_string hsz (j := 0) (t := 9) rfl rfl
    simpa [reachBytes] using this
  obtain ⟨a1, rfl, rfl, rfl, wm1⟩ := open_string Try.underlying9 (hval 1 9 v1 rfl rfl) h1
  have w1 : a1.size ≤ 140737488351232 := by
    have := sized_string hsz (j := 1) (t := 9) rfl rfl
    simpa [reachBytes] using this
  obtain ⟨a2, rfl, rfl, rfl, wm2⟩ := open_string Try.underlying9 (hval 2 9 v2 rfl rfl) h2
  have w2 : a2.size ≤ 140737488351232 := by
    have := sized_string hsz (j := 2) (t := 9) rfl rfl
    simpa [reachBytes] using this
  clear hA0 hval0
  refine (walk a0 a1 a2 W w0 w1 w2).mono fun e W' ⟨he, bel⟩ => ?_
  subst he
  exact ⟨_, rfl, _, _, _, [], _, [], hW', trodAll_mk1 (shut_bool Try.underlying4 _), (trodAll_cons_mk (shut_string Try.underlying9 wm0) (trodAll_cons_mk (shut_string Try.underlying9 wm1) (trodAll_cons_mk (shut_string Try.underlying9 wm2) trodAll_mk0))), rfl, bel.frame _, fun h => by cases h⟩

set_option maxRecDepth 100000 in
theorem lifted (os : Os) (started : os.Started) (H : Type) (enc : TypeId × Value → H) :
    ReturnsInHanded {} Try.checked os 5 .any (Rows.pathGetsSpec.pre6 enc Try.prog Try.f5 Rows.pathGetsRow.domain false) (Rows.pathGetsSpec.post enc Try.prog Try.f5 false true false false) := by
  refine returnsInHanded_of_change_sized (C := Try.checked) own started (by kernel_rfl) Try.func5
    (ChangeSpec.witness6 (enc := enc) (C := Try.checked) false ⟨#[], #[.string ByteArray.empty, .string ByteArray.empty, .string ByteArray.empty], []⟩ 8 (by kernel_rfl) (by kernel_rfl) (by kernel_rfl) (by kernel_rfl)) ?_
  intro W base args ds gs before hval hW _ hsz _
  exact contract H enc W base args ds gs before hval hW hsz

theorem over : Rows.pathGetsRow.holds Try.pinned (OpenSpec.ofChange Rows.pathGetsSpec) :=
  OpenClaim.holds_of_wide 5 Try.f5 rfl rfl rfl rfl rfl rfl rfl ⟨rfl, rfl, rfl, rfl, rfl⟩ rfl rfl rfl rfl rfl (by kernel_rfl) Try.func5 (by kernel_rfl)
    (of_decide_eq_true (by kernel_rfl)) (by unfold Func.isWrapper; first | (rw [if_pos (by decide +kernel)]; kernel_rfl) | (rw [if_neg (by decide +kernel)]; exact ⟨rfl, rfl⟩))
    (fun os started H enc _ => lifted os started H enc)

/-- The statement. -/
theorem proved : Rows.PathGetsSaid := over
#print axioms proved
end Go.Proofs.Ytjebaibcfmjinaa.pathGets
