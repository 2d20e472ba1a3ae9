/-
  The law PathLies answers true for every two strings. No condition.
-/
import Derived.Test.YtjebaibcfmjinaaRows
import Derived.Test.YtjebaibcfmjinaaPathNames
import Derived.Test.YtjebaibcfmjinaaRefRest
import Derived.Test.YtjebaibcfmjinaaPathWakes
import Derived.LoopNIn
import Derived.WalkKit
import Derived.Outline
import Derived.ProofKit
import Derived.OpenShut
import Derived.ShutString
import Derived.ChangeOld
import Derived.Below
import Derived.Deep.CondSized
namespace Go.Proofs.Ytjebaibcfmjinaa.pathLies
open Go.ChangeShapes Go.WideShapes Go.ChangeAt Go.RowKit
open Go.ChangeMaps (open_string shut_string)
set_option linter.unusedVariables false

theorem own : ownKnob Try.prog.godebug = none := by kernel_rfl
theorem laidOut : laidOutB Try.prog = true := by kernel_rfl

attribute [local go_sem] Oper.semAt_some
set_option maxRecDepth 100000 in
set_option maxHeartbeats 8000000 in
theorem lies_walk (a b : ByteArray) (w : World) (ha : a.size ≤ 140737488351232) (hb : b.size ≤ 140737488351232) :
    Calls Try.prog 4 #[.string a, .string b] w fun en w' => en = .returned (.bool true) ∧ Below w.heap.size w w' := by
  have HW := Lib.hid (fun W => wakes_any W)
  have HCU := Lib.hid (show ∀ s W, s = a ∨ s = b → Calls Try.prog 10 #[.string s] W fun en w' => en = .returned (.string (cutS s)) ∧ w' = W from fun s W h => cut_any s W (by rcases h with rfl | rfl <;> omega))
  have HSA := cutS_size a
  have HSB := cutS_size b
  refine (callsIn_wide (n := 9)).1 ?_
  refine callsIn_of_wp_marks Try.func4 rfl trivial ?_ rfl
  simp only [Try.ntmps4, List.size_toArray, List.length_cons, List.length_nil, Nat.reduceAdd, Nat.reduceSub, Array.replicate_succ, Array.replicate_zero, List.push_toArray, List.append_toArray, List.nil_append, List.cons_append]
  refine wpIn_wide.2 ?_
  go_upto_region 4 with (first
    | (go_at_call 9; refine (HW.out _).mono ?_; rintro en w1 ⟨rfl, hB1⟩; have HB := Lib.hid hB1; clear hB1)
    | (go_at_call 10; refine (HCU.out _ _ (by simp)).mono ?_; rintro en w2 ⟨rfl, rfl⟩))
  clear HCU HW
  generalize cutS a = A at *
  generalize cutS b = B at *
  obtain ⟨rs, rb, hrv, hrb⟩ : ∃ rs rb, restV (restM A B) = .tuple #[.string rs, .bool rb] ∧ inB A B = rb := by
    unfold inB
    cases restM A B with
    | none => exact ⟨_, _, rfl, rfl⟩
    | some t => exact ⟨_, _, rfl, rfl⟩
  have H1 := Lib.hid (show ∀ W, Calls Try.prog 13 #[.string A, .string B] W fun en w' => en = .returned (.tuple #[.string rs, .bool rb]) ∧ Below W.heap.size W w' from fun W => by rw [← hrv]; exact rrest_any A B W (by omega) (by omega))
  have H2 := Lib.hid (show ∀ W, Calls Try.prog 14 #[.string A, .string B] W fun en w' => en = .returned (.tuple #[.string rs, .bool rb]) ∧ Below W.heap.size W w' from fun W => by rw [← hrv]; exact rest_any A B W (by omega) (by omega))
  have H3 := Lib.hid (show ∀ W, Calls Try.prog 12 #[.string A, .string B] W fun en w' => en = .returned (.bool rb) ∧ Below W.heap.size W w' from fun W => by rw [← hrb]; exact in_any A B W (by omega) (by omega))
  have H4 := Lib.hid (fun W => rparse_any A W (by omega))
  clear hrv hrb
  have hss : (rs.toList == rs.toList) = true := by simp
  have hbb : (rb == rb) = true := by simp
  go_upto_region 8 with (first
    | (go_at_call 13; go_loud (refine (H1.out _).mono ?_; rintro en w3 ⟨rfl, hB3⟩; have HB := Lib.hid (HB.out.trans (hB3.mono HB.out.size)); clear hB3))
    | (go_at_call 14; go_loud (refine (H2.out _).mono ?_; rintro en w3 ⟨rfl, hB3⟩; have HB := Lib.hid (HB.out.trans (hB3.mono HB.out.size)); clear hB3))
    | (go_at_call 12; go_loud (refine (H3.out _).mono ?_; rintro en w3 ⟨rfl, hB3⟩; have HB := Lib.hid (HB.out.trans (hB3.mono HB.out.size)); clear hB3)))
  have HBX := Lib.hid (show ∀ W1, Below (w.alloc (.cells #[.bool false] 4)).heap.size (w.alloc (.cells #[.bool false] 4)) W1 → Boxed W1 w.heap.size 4 (.bool false) ∧ Below w.heap.size w W1 ∧ w.heap.size < W1.heap.size from fun W1 hb => ⟨(hb.block _ (by simp)).trans (Boxed.new w _ _), ((Below.refl _ w).alloc (Nat.le_refl _) _).trans (hb.mono (by simp)), by have := hb.size; simp at this; omega⟩)
  go_upto_region 9 with (go_at_call 15; go_loud (refine (H4.out _).mono ?_; rintro en w4 hP4; obtain ⟨hB4, Al, cl, px, py, rfl, vs, hvs, hO, hle, hsl⟩ := says_names hP4; clear hP4; have HB := Lib.hid (HB.out.trans (hB4.mono HB.out.size)); have HO := Lib.hid hO; have HSL := Lib.hid hsl; clear hB4 hO hsl))
  go_upto_region 10 with (go_at_call 16; go_loud (refine (names_any _ _).mono ?_; rintro en w5 ⟨rfl, rfl⟩))
  have hqn := fun w => run_eql_func_nil (P := Try.prog) w 36 (.func 38) #[] #[.pointer (some ⟨w4.heap.size + 1 + 1, 0, none⟩)] _ Try.underlying36 rfl
  go_upto_region 12 with (fail)
  clear hqn
  obtain ⟨Ao, co, eo, -, -, hRd⟩ := own_form HO.out
  cases eo
  have hz4 : w.heap.size < w4.heap.size := (HBX.out _ HB.out).2.2
  obtain ⟨W0, hW0⟩ : ∃ W0, ((w4.alloc (.cells #[.slice Al (namesOf A).length cl] 32)).alloc (.cells #[.int .i64 px, .int .i64 py] 26)).alloc (.cells #[.string A] 9) = W0 := ⟨_, rfl⟩
  have hb0 : Below w4.heap.size w4 W0 := by rw [← hW0]; exact (((Below.refl _ w4).alloc (Nat.le_refl _) _).alloc (by simp) _).alloc (by simp; omega) _
  have hsz : W0.heap.size = w4.heap.size + 3 := by rw [← hW0]; simp
  have b4 : Boxed W0 w.heap.size 4 (.bool false) := (hb0.block _ hz4).trans (HBX.out _ HB.out).1
  have bL : Boxed W0 w4.heap.size 32 (.slice Al (namesOf A).length cl) := by rw [← hW0]; exact ((Boxed.new w4 _ _).alloc _).alloc _
  have bN : Boxed W0 (w4.heap.size + 1 + 1) 9 (.string A) := by
    rw [← hW0]
    have := Boxed.new ((w4.alloc (.cells #[.slice Al (namesOf A).length cl] 32)).alloc (.cells #[.int .i64 px, .int .i64 py] 26)) 9 (.string A)
    simpa using this
  have HF := Lib.hid (And.intro b4 (And.intro bL (And.intro bN (And.intro (show Below w.heap.size w W0 from (HBX.out _ HB.out).2.1.trans (hb0.mono (by omega))) (hRd.below hb0)))))
  have HC := Lib.hid bN.cell
  have HZ := Lib.hid (And.intro hz4 hsz)
  rw [hW0]
  clear hW0 hb0 b4 bL bN hRd HO HBX HB H1 H2 H3 H4 hss hbb hsz hz4 HSL
  generalize hr9 : w4.heap.size = r9 at *
  generalize hr0 : w.heap.size = r0 at *
  clear hr9 w4
  go_upto_region 13 with (fail)
  refine (wpIn_wide (n := 9)).1 ?_
  have HB0 := Lib.hid (Below.refl W0.heap.size W0)
  have HM0 := Lib.hid (show MarksOk W0 [] from ⟨List.nodup_nil, fun _ h => by cases h⟩)
  have HVL := Lib.hid hvs
  clear hvs
  refine wpIn_loop_rounds 3 ?_
  rw [roundsIn_succ]
  gi_wp2
  obtain ⟨X0, hW1⟩ : ∃ X0, W0.alloc (.cells #[.int .i64 0] 3) = X0 := ⟨_, rfl⟩
  have HS := Lib.hid (show Below W0.heap.size W0 X0 ∧ Boxed X0 W0.heap.size 3 (.int .i64 0) ∧ W0.heap.size ≤ W0.heap.size ∧ W0.heap.size < X0.heap.size ∧ MarksOk X0 [] from ⟨by rw [← hW1]; exact HB0.out.alloc HB0.out.size _, by rw [← hW1]; exact Boxed.new _ _ _, HB0.out.size, by rw [← hW1]; simp, by rw [← hW1]; exact marks_below HM0.out ((Below.refl _ _).alloc (Nat.le_refl _) _)⟩)
  rw [hW1]
  clear hW1
  have hcN : X0.cell? ⟨r9 + 1 + 1, 0, none⟩ = some (.string A) := by have := HZ.out; exact (HS.out.1.cell (p := ⟨r9 + 1 + 1, 0, none⟩) (by show r9 + 1 + 1 < W0.heap.size; omega)).trans HC.out
  have HCN := Lib.hid hcN
  clear hcN
  refine wpIn_rangeFunc_ownH rfl (by decide) (gf := 38) (lb := #[.pointer (some ⟨r9 + 1 + 1, 0, none⟩)]) rfl trivial (enters_of Try.func38 (by kernel_rfl) rfl)
    (names_stops 8 (by decide) (r9 + 1 + 1) X0.heap.size A (by omega) X0 (Nat.le_refl _) HCN.out) cellsFrom_t (fun W l o o' _ h hc _ => cellsFrom_b W l o o' h hc) (Below.refl _ _) (fun _ => rfl)
    (fun pre W => Boxed W W0.heap.size 3 (.int .i64 ((pre.length : Nat) : Int)) ∧ Only W0.heap.size X0 W)
    (fun cd pre W => cd = Code.ret ∧ ¬ Asc (namesOf A).length pre)
    (OwnFrom.and (Own.from (boxed_own _ _ _) _) ownFrom_only)
    (fun cd => ownFrom_pure _ _)
    ⟨HS.out.2.1, Only.refl _ _⟩
    (fun i a' W => a' = { tmps := #[.string A, .string B, undef, undef, .pointer (some ⟨r0, 0, none⟩), .string rs, .bool rb, .string rs, .bool rb, .pointer (some ⟨r9, 0, none⟩), .pointer (some ⟨r9 + 1, 0, none⟩), .func (.func 38) #[] #[.pointer (some ⟨r9 + 1 + 1, 0, none⟩)], .int .i64 0, .pointer (some ⟨W0.heap.size, 0, none⟩), .int .i64 (i.val : Int), .string ((namesOf A).get i).1, .bool true, .bool false, .string a, .string A, .string b, .string B, .tuple #[.string rs, .bool rb], .string A, .string B, .tuple #[.string rs, .bool rb], .string rs, .bool rb, .tuple #[.string rs, .bool rb], .string A, .string B, .tuple #[.string rs, .bool rb], .string rs, .bool rb, .string rs, .string rs, .bool false, .bool false, .bool rb, .bool rb, .bool false, .bool false, .bool false, .string A, .string B, .bool rb, .bool rb, .bool false, .bool false, .tuple #[.slice Al (namesOf A).length cl, .agg #[.int .i64 px, .int .i64 py]], .string A, .tuple #[.slice Al (namesOf A).length cl, .agg #[.int .i64 px, .int .i64 py]], .slice Al (namesOf A).length cl, .agg #[.int .i64 px, .int .i64 py], .string A, .func (.func 38) #[] #[.pointer (some ⟨r9 + 1 + 1, 0, none⟩)], .func (.func 38) #[] #[.pointer (some ⟨r9 + 1 + 1, 0, none⟩)], .bool false, .int .i64 0, .bool true, undef, undef, .func (.func 38) #[] #[.pointer (some ⟨r9 + 1 + 1, 0, none⟩)], .int .i64 (i.val : Int), .string ((namesOf A).get i).1, undef, undef, undef, undef, undef, undef, undef, undef, undef, undef, undef, undef, undef, undef, undef, undef, undef, undef, undef, undef, undef, undef, undef, undef, undef, undef, undef], defers := [] })
    (fun i a' => ownFrom_pure _ _)
    ?assign ?body ?done ?stop
  case assign =>
    rintro lp pre i W K hI hK
    have HI := Lib.hid hI
    clear hI
    simp only [nmEnc]
    gi_wp2
    exact hK _ _ (KeepsFrom.refl _ _) (cellsFrom_refl _ _) HI.out rfl
  case body =>
    rintro lp pre i a' W hl ⟨rr, hr⟩ ⟨bk, hO⟩ rfl hlt
    have hz := HZ.out
    have hS := HS.out
    have HBW := Lib.hid (show Below W0.heap.size W0 W from hS.1.trans (hO.below hS.2.2.1 hS.1.size))
    have f1 : W.cell? ⟨W0.heap.size, 0, none⟩ = some (.int .i64 ((pre.length : Nat) : Int)) := bk.cell
    have f2 : W.cell? ⟨r9, 0, none⟩ = some (.slice Al (namesOf A).length cl) := (HBW.out.cell (p := ⟨r9, 0, none⟩) (by show r9 < W0.heap.size; omega)).trans HF.out.2.1.cell
    have f3 : W.frozen? ⟨W0.heap.size, 0, none⟩ = false := bk.frozen
    have f4 : W.cell? ⟨r0, 0, none⟩ = some (.bool false) := (HBW.out.cell (p := ⟨r0, 0, none⟩) (by show r0 < W0.heap.size; omega)).trans HF.out.1.cell
    have f5 : W.frozen? ⟨r0, 0, none⟩ = false := (HBW.out.frozen (p := ⟨r0, 0, none⟩) (by show r0 < W0.heap.size; omega)).trans HF.out.1.frozen
    have HK := Lib.hid (And.intro bk (And.intro hO hS))
    have hpl : (pre.length : Int) < ((namesOf A).length : Int) := by omega
    have hl64 : ((namesOf A).length : Int) ≤ 64 := by omega
    have hir : (i.val : Int) < ((namesOf A).length : Int) := by have := i.isLt; omega
    by_cases hx : i.val = pre.length
    · have hg : (namesOf A)[pre.length]? = some ((namesOf A).get i) := by rw [← hx]; simp
      obtain ⟨kv, hkv⟩ : ∃ kv, vs[pre.length]? = some kv := ⟨vs[pre.length]'(by rw [HVL.out]; exact hlt), by simp [HVL.out, hlt]⟩
      have hcs := stepCells_at (namesOf A) vs pre.length _ _ hg hkv
      obtain ⟨b1, o1, rfl, hb1, hcl1⟩ := HF.out.2.2.2.2.spot (by omega) (by omega)
      have f6 : W.cell? ⟨b1, o1 + pre.length * 2, none⟩ = some (.string ((namesOf A).get i).1) := (HBW.out.cell (p := ⟨b1, o1 + pre.length * 2, none⟩) (by show b1 < W0.heap.size; omega)).trans (hcl1 _ _ hcs.1)
      have hw1 : IntKind.i64.wrap ((pre.length : Int) + 1) = (pre.length : Int) + 1 := by rw [IntKind.wrap_i64]; omega
      rw [hx]
      clear hg hkv hcs hcl1 hr hlt hl hO bk hS hz
      clear hx
      generalize ((namesOf A).get i).1 = nm at *
      have hnn : (nm.toList == nm.toList) = true := by simp
      gi_wp2
      refine ⟨(KeepsOthers.setCell _ _ _).from _, cellsFrom_set (by have := HK.out.2.2.2.2.2.1; exact this) _, ?_, HK.out.2.1.setCell (.inl rfl) _⟩
      have := HK.out.1.set (.int .i64 ((pre.length : Int) + 1))
      simpa using this
    · have hx2 : ¬ (i.val : Int) = (pre.length : Int) := by omega
      have hx3 : ((i.val : Int) == (pre.length : Int)) = false := by simpa using hx2
      have HX := Lib.hid (show ¬ Asc (namesOf A).length (pre ++ [i]) from fun h => hx (h pre.length i (by simp)))
      clear hx hr hlt hl hO bk hS hz f2
      generalize ((namesOf A).get i).1 = nm at *
      gi_wp2
      exact ⟨(KeepsOthers.setCell _ _ _).from _, rfl, HX.out⟩
  case stop =>
    rintro D cd pre W hD hDs ⟨rfl, hn⟩ hK
    exact absurd hDs.1 hn
  case done =>
    rintro D0 xs Z0 hD ⟨-, hlen⟩ ⟨bk, hO⟩ hK
    have hz := HZ.out
    have hS := HS.out
    have HBW := Lib.hid (show Below W0.heap.size W0 Z0 ∧ MarksOk Z0 (D0 :: []) ∧ W0.heap.size ≤ D0 from ⟨hS.1.trans (hO.below hS.2.2.1 hS.1.size), marks_cons hS.2.2.2.2 (marks_only hS.2.2.2.2 hS.2.1 hO) hD hK, by have := hS.1.size; omega⟩)
    rw [hlen] at bk
    have f1 : Z0.cell? ⟨W0.heap.size, 0, none⟩ = some (.int .i64 (((namesOf A).length : Nat) : Int)) := bk.cell
    have f2 : Z0.cell? ⟨r9, 0, none⟩ = some (.slice Al (namesOf A).length cl) := (HBW.out.1.cell (p := ⟨r9, 0, none⟩) (by show r9 < W0.heap.size; omega)).trans HF.out.2.1.cell
    have hcN : Z0.cell? ⟨r9 + 1 + 1, 0, none⟩ = some (.string A) := by have := HZ.out; exact (HBW.out.1.cell (p := ⟨r9 + 1 + 1, 0, none⟩) (by show r9 + 1 + 1 < W0.heap.size; omega)).trans HC.out
    have HCN := Lib.hid hcN
    clear hcN
    have hl64 : ((namesOf A).length : Int) ≤ 64 := by omega
    have hll : (((namesOf A).length : Int) == ((namesOf A).length : Int)) = true := by simp
    clear hlen bk hO hK hD hz hS HS
    gi_wp2
    clear f1 f2 hll hl64
    refine (fun (hd : ∀ (D : Nat) (W : World), Z0.heap.size ≤ D → Below Z0.heap.size Z0 W → W.heap[D]? = some (.deferred (some [])) → _) => wpIn_rangeFunc_ownH (α := Fin (namesOf A).length) (encs := nmEnc (namesOf A)) (Kp := CellsFrom Z0.heap.size) rfl (by decide) (gf := 38) (lb := #[.pointer (some ⟨r9 + 1 + 1, 0, none⟩)]) rfl trivial (enters_of Try.func38 (by kernel_rfl) rfl)
      (names_stops 8 (by decide) (r9 + 1 + 1) Z0.heap.size A (by omega) Z0 (Nat.le_refl _) HCN.out) cellsFrom_t (fun W l o o' _ h hc _ => cellsFrom_b W l o o' h hc) (Below.refl _ _) (fun _ => rfl)
      (fun pre W => Below Z0.heap.size Z0 W)
      (fun cd pre W => cd = Code.exit 4 ∧ Below Z0.heap.size Z0 W)
      (ownFrom_below (Nat.le_refl _) (Nat.le_refl _))
      (fun cd => OwnFrom.and (ownFrom_pure _ _) (ownFrom_below (Nat.le_refl _) (Nat.le_refl _)))
      (Below.refl _ _)
      (fun i a' W => a' = { tmps := #[.string A, .string B, undef, undef, .pointer (some ⟨r0, 0, none⟩), .string rs, .bool rb, .string rs, .bool rb, .pointer (some ⟨r9, 0, none⟩), .pointer (some ⟨r9 + 1, 0, none⟩), .func (.func 38) #[] #[.pointer (some ⟨r9 + 1 + 1, 0, none⟩)], .int .i64 0, .pointer (some ⟨W0.heap.size, 0, none⟩), undef, undef, .bool true, .bool false, .string a, .string A, .string b, .string B, .tuple #[.string rs, .bool rb], .string A, .string B, .tuple #[.string rs, .bool rb], .string rs, .bool rb, .tuple #[.string rs, .bool rb], .string A, .string B, .tuple #[.string rs, .bool rb], .string rs, .bool rb, .string rs, .string rs, .bool false, .bool false, .bool rb, .bool rb, .bool false, .bool false, .bool false, .string A, .string B, .bool rb, .bool rb, .bool false, .bool false, .tuple #[.slice Al (namesOf A).length cl, .agg #[.int .i64 px, .int .i64 py]], .string A, .tuple #[.slice Al (namesOf A).length cl, .agg #[.int .i64 px, .int .i64 py]], .slice Al (namesOf A).length cl, .agg #[.int .i64 px, .int .i64 py], .string A, .func (.func 38) #[] #[.pointer (some ⟨r9 + 1 + 1, 0, none⟩)], .func (.func 38) #[] #[.pointer (some ⟨r9 + 1 + 1, 0, none⟩)], .bool false, .int .i64 0, .bool true, undef, undef, .func (.func 38) #[] #[.pointer (some ⟨r9 + 1 + 1, 0, none⟩)], undef, undef, undef, undef, undef, undef, undef, undef, undef, undef, undef, undef, undef, undef, undef, undef, undef, undef, undef, undef, undef, undef, .int .i64 ((namesOf A).length : Nat), .slice Al (namesOf A).length cl, .int .i64 ((namesOf A).length : Nat), .bool false, .func (.func 38) #[] #[.pointer (some ⟨r9 + 1 + 1, 0, none⟩)], .int .i64 (i.val : Int), .string ((namesOf A).get i).1], defers := [] })
      (fun i a' => ownFrom_pure _ _)
      ?assign ?body (fun D xs W hD _ hI hK => hd D W hD hI hK) ?stop) ?next
    case assign =>
      rintro lp pre i W K hI hK
      have HI := Lib.hid hI
      clear hI
      simp only [nmEnc]
      gi_wp2
      exact hK _ _ (KeepsFrom.refl _ _) (cellsFrom_refl _ _) HI.out rfl
    case body =>
      rintro lp pre i a' W hl ⟨rr, hr⟩ hI rfl hlt
      have HI := Lib.hid hI
      clear hI hr
      gi_wp2
      exact ⟨KeepsFrom.refl _ _, rfl, HI.out⟩
    case stop =>
      rintro D cd pre W hD hDs ⟨rfl, hI⟩ hK
      exact wpIn_exit (hd D W hD hI hK)
    case next =>
      intro E0 P1 hD hI hK
      have HB1 := Lib.hid (show Below W0.heap.size W0 P1 from HBW.out.1.trans (hI.mono HBW.out.1.size))
      have HM1 := Lib.hid (show MarksOk P1 [E0, D0] from marks_cons HBW.out.2.1 (marks_below HBW.out.2.1 hI) hD hK)
      have HR1 := Lib.hid (show W0.heap.size ≤ E0 ∧ W0.heap.size ≤ D0 from ⟨Nat.le_trans HBW.out.1.size hD, HBW.out.2.2⟩)
      clear hD hI hK HBW HCN
      gi_wp2
      rw [roundsIn_succ]
      gi_wp2
      obtain ⟨X1, hW1⟩ : ∃ X1, P1.alloc (.cells #[.int .i64 0] 3) = X1 := ⟨_, rfl⟩
      have HS := Lib.hid (show Below W0.heap.size W0 X1 ∧ Boxed X1 P1.heap.size 3 (.int .i64 0) ∧ W0.heap.size ≤ P1.heap.size ∧ P1.heap.size < X1.heap.size ∧ MarksOk X1 [E0, D0] from ⟨by rw [← hW1]; exact HB1.out.alloc HB1.out.size _, by rw [← hW1]; exact Boxed.new _ _ _, HB1.out.size, by rw [← hW1]; simp, by rw [← hW1]; exact marks_below HM1.out ((Below.refl _ _).alloc (Nat.le_refl _) _)⟩)
      rw [hW1]
      clear hW1
      generalize P1.heap.size = k1 at *
      have hcN : X1.cell? ⟨r9 + 1 + 1, 0, none⟩ = some (.string A) := by have := HZ.out; exact (HS.out.1.cell (p := ⟨r9 + 1 + 1, 0, none⟩) (by show r9 + 1 + 1 < W0.heap.size; omega)).trans HC.out
      have HCN := Lib.hid hcN
      clear hcN
      refine wpIn_rangeFunc_ownH rfl (by decide) (gf := 38) (lb := #[.pointer (some ⟨r9 + 1 + 1, 0, none⟩)]) rfl trivial (enters_of Try.func38 (by kernel_rfl) rfl)
        (names_stops 8 (by decide) (r9 + 1 + 1) X1.heap.size A (by omega) X1 (Nat.le_refl _) HCN.out) cellsFrom_t (fun W l o o' _ h hc _ => cellsFrom_b W l o o' h hc) (Below.refl _ _) (fun _ => rfl)
        (fun pre W => Boxed W k1 3 (.int .i64 ((pre.length : Nat) : Int)) ∧ Only k1 X1 W)
        (fun cd pre W => cd = Code.ret ∧ ¬ Asc (namesOf A).length pre)
        (OwnFrom.and (Own.from (boxed_own _ _ _) _) ownFrom_only)
        (fun cd => ownFrom_pure _ _)
        ⟨HS.out.2.1, Only.refl _ _⟩
        (fun i a' W => a' = { tmps := #[.string A, .string B, undef, undef, .pointer (some ⟨r0, 0, none⟩), .string rs, .bool rb, .string rs, .bool rb, .pointer (some ⟨r9, 0, none⟩), .pointer (some ⟨r9 + 1, 0, none⟩), .func (.func 38) #[] #[.pointer (some ⟨r9 + 1 + 1, 0, none⟩)], .int .i64 1, .pointer (some ⟨k1, 0, none⟩), .int .i64 (i.val : Int), .string ((namesOf A).get i).1, .bool true, .bool false, .string a, .string A, .string b, .string B, .tuple #[.string rs, .bool rb], .string A, .string B, .tuple #[.string rs, .bool rb], .string rs, .bool rb, .tuple #[.string rs, .bool rb], .string A, .string B, .tuple #[.string rs, .bool rb], .string rs, .bool rb, .string rs, .string rs, .bool false, .bool false, .bool rb, .bool rb, .bool false, .bool false, .bool false, .string A, .string B, .bool rb, .bool rb, .bool false, .bool false, .tuple #[.slice Al (namesOf A).length cl, .agg #[.int .i64 px, .int .i64 py]], .string A, .tuple #[.slice Al (namesOf A).length cl, .agg #[.int .i64 px, .int .i64 py]], .slice Al (namesOf A).length cl, .agg #[.int .i64 px, .int .i64 py], .string A, .func (.func 38) #[] #[.pointer (some ⟨r9 + 1 + 1, 0, none⟩)], .func (.func 38) #[] #[.pointer (some ⟨r9 + 1 + 1, 0, none⟩)], .bool false, .int .i64 1, .bool true, .int .i64 0, .int .i64 1, .func (.func 38) #[] #[.pointer (some ⟨r9 + 1 + 1, 0, none⟩)], .int .i64 (i.val : Int), .string ((namesOf A).get i).1, undef, undef, undef, undef, undef, undef, undef, undef, undef, undef, undef, undef, undef, undef, undef, undef, undef, undef, undef, undef, .int .i64 ((namesOf A).length : Nat), .slice Al (namesOf A).length cl, .int .i64 ((namesOf A).length : Nat), .bool false, .func (.func 38) #[] #[.pointer (some ⟨r9 + 1 + 1, 0, none⟩)], undef, undef], defers := [] })
        (fun i a' => ownFrom_pure _ _)
        ?assign ?body ?done ?stop
      case assign =>
        rintro lp pre i W K hI hK
        have HI := Lib.hid hI
        clear hI
        simp only [nmEnc]
        gi_wp2
        exact hK _ _ (KeepsFrom.refl _ _) (cellsFrom_refl _ _) HI.out rfl
      case body =>
        rintro lp pre i a' W hl ⟨rr, hr⟩ ⟨bk, hO⟩ rfl hlt
        have hz := HZ.out
        have hS := HS.out
        have HBW := Lib.hid (show Below W0.heap.size W0 W from hS.1.trans (hO.below hS.2.2.1 hS.1.size))
        have f1 : W.cell? ⟨k1, 0, none⟩ = some (.int .i64 ((pre.length : Nat) : Int)) := bk.cell
        have f2 : W.cell? ⟨r9, 0, none⟩ = some (.slice Al (namesOf A).length cl) := (HBW.out.cell (p := ⟨r9, 0, none⟩) (by show r9 < W0.heap.size; omega)).trans HF.out.2.1.cell
        have f3 : W.frozen? ⟨k1, 0, none⟩ = false := bk.frozen
        have f4 : W.cell? ⟨r0, 0, none⟩ = some (.bool false) := (HBW.out.cell (p := ⟨r0, 0, none⟩) (by show r0 < W0.heap.size; omega)).trans HF.out.1.cell
        have f5 : W.frozen? ⟨r0, 0, none⟩ = false := (HBW.out.frozen (p := ⟨r0, 0, none⟩) (by show r0 < W0.heap.size; omega)).trans HF.out.1.frozen
        have HK := Lib.hid (And.intro bk (And.intro hO hS))
        have hpl : (pre.length : Int) < ((namesOf A).length : Int) := by omega
        have hl64 : ((namesOf A).length : Int) ≤ 64 := by omega
        have hir : (i.val : Int) < ((namesOf A).length : Int) := by have := i.isLt; omega
        by_cases hx : i.val = pre.length
        · have hg : (namesOf A)[pre.length]? = some ((namesOf A).get i) := by rw [← hx]; simp
          obtain ⟨kv, hkv⟩ : ∃ kv, vs[pre.length]? = some kv := ⟨vs[pre.length]'(by rw [HVL.out]; exact hlt), by simp [HVL.out, hlt]⟩
          have hcs := stepCells_at (namesOf A) vs pre.length _ _ hg hkv
          obtain ⟨b1, o1, rfl, hb1, hcl1⟩ := HF.out.2.2.2.2.spot (by omega) (by omega)
          have f6 : W.cell? ⟨b1, o1 + pre.length * 2, none⟩ = some (.string ((namesOf A).get i).1) := (HBW.out.cell (p := ⟨b1, o1 + pre.length * 2, none⟩) (by show b1 < W0.heap.size; omega)).trans (hcl1 _ _ hcs.1)
          have hw1 : IntKind.i64.wrap ((pre.length : Int) + 1) = (pre.length : Int) + 1 := by rw [IntKind.wrap_i64]; omega
          rw [hx]
          clear hg hkv hcs hcl1 hr hlt hl hO bk hS hz
          clear hx
          generalize ((namesOf A).get i).1 = nm at *
          have hnn : (nm.toList == nm.toList) = true := by simp
          gi_wp2
          refine ⟨(KeepsOthers.setCell _ _ _).from _, cellsFrom_set (by have := HK.out.2.2.2.2.2.1; exact this) _, ?_, HK.out.2.1.setCell (.inl rfl) _⟩
          have := HK.out.1.set (.int .i64 ((pre.length : Int) + 1))
          simpa using this
        · have hx2 : ¬ (i.val : Int) = (pre.length : Int) := by omega
          have hx3 : ((i.val : Int) == (pre.length : Int)) = false := by simpa using hx2
          have HX := Lib.hid (show ¬ Asc (namesOf A).length (pre ++ [i]) from fun h => hx (h pre.length i (by simp)))
          clear hx hr hlt hl hO bk hS hz f2
          generalize ((namesOf A).get i).1 = nm at *
          gi_wp2
          exact ⟨(KeepsOthers.setCell _ _ _).from _, rfl, HX.out⟩
      case stop =>
        rintro D cd pre W hD hDs ⟨rfl, hn⟩ hK
        exact absurd hDs.1 hn
      case done =>
        rintro D1 xs Z1 hD ⟨-, hlen⟩ ⟨bk, hO⟩ hK
        have hz := HZ.out
        have hS := HS.out
        have HBW := Lib.hid (show Below W0.heap.size W0 Z1 ∧ MarksOk Z1 (D1 :: [E0, D0]) ∧ W0.heap.size ≤ D1 from ⟨hS.1.trans (hO.below hS.2.2.1 hS.1.size), marks_cons hS.2.2.2.2 (marks_only hS.2.2.2.2 hS.2.1 hO) hD hK, by have := hS.1.size; omega⟩)
        rw [hlen] at bk
        have f1 : Z1.cell? ⟨k1, 0, none⟩ = some (.int .i64 (((namesOf A).length : Nat) : Int)) := bk.cell
        have f2 : Z1.cell? ⟨r9, 0, none⟩ = some (.slice Al (namesOf A).length cl) := (HBW.out.1.cell (p := ⟨r9, 0, none⟩) (by show r9 < W0.heap.size; omega)).trans HF.out.2.1.cell
        have hcN : Z1.cell? ⟨r9 + 1 + 1, 0, none⟩ = some (.string A) := by have := HZ.out; exact (HBW.out.1.cell (p := ⟨r9 + 1 + 1, 0, none⟩) (by show r9 + 1 + 1 < W0.heap.size; omega)).trans HC.out
        have HCN := Lib.hid hcN
        clear hcN
        have hl64 : ((namesOf A).length : Int) ≤ 64 := by omega
        have hll : (((namesOf A).length : Int) == ((namesOf A).length : Int)) = true := by simp
        clear hlen bk hO hK hD hz hS HS
        gi_wp2
        clear f1 f2 hll hl64
        refine (fun (hd : ∀ (D : Nat) (W : World), Z1.heap.size ≤ D → Below Z1.heap.size Z1 W → W.heap[D]? = some (.deferred (some [])) → _) => wpIn_rangeFunc_ownH (α := Fin (namesOf A).length) (encs := nmEnc (namesOf A)) (Kp := CellsFrom Z1.heap.size) rfl (by decide) (gf := 38) (lb := #[.pointer (some ⟨r9 + 1 + 1, 0, none⟩)]) rfl trivial (enters_of Try.func38 (by kernel_rfl) rfl)
          (names_stops 8 (by decide) (r9 + 1 + 1) Z1.heap.size A (by omega) Z1 (Nat.le_refl _) HCN.out) cellsFrom_t (fun W l o o' _ h hc _ => cellsFrom_b W l o o' h hc) (Below.refl _ _) (fun _ => rfl)
          (fun pre W => Below Z1.heap.size Z1 W)
          (fun cd pre W => cd = Code.exit 4 ∧ Below Z1.heap.size Z1 W)
          (ownFrom_below (Nat.le_refl _) (Nat.le_refl _))
          (fun cd => OwnFrom.and (ownFrom_pure _ _) (ownFrom_below (Nat.le_refl _) (Nat.le_refl _)))
          (Below.refl _ _)
          (fun i a' W => a' = { tmps := #[.string A, .string B, undef, undef, .pointer (some ⟨r0, 0, none⟩), .string rs, .bool rb, .string rs, .bool rb, .pointer (some ⟨r9, 0, none⟩), .pointer (some ⟨r9 + 1, 0, none⟩), .func (.func 38) #[] #[.pointer (some ⟨r9 + 1 + 1, 0, none⟩)], .int .i64 1, .pointer (some ⟨k1, 0, none⟩), undef, undef, .bool true, .bool false, .string a, .string A, .string b, .string B, .tuple #[.string rs, .bool rb], .string A, .string B, .tuple #[.string rs, .bool rb], .string rs, .bool rb, .tuple #[.string rs, .bool rb], .string A, .string B, .tuple #[.string rs, .bool rb], .string rs, .bool rb, .string rs, .string rs, .bool false, .bool false, .bool rb, .bool rb, .bool false, .bool false, .bool false, .string A, .string B, .bool rb, .bool rb, .bool false, .bool false, .tuple #[.slice Al (namesOf A).length cl, .agg #[.int .i64 px, .int .i64 py]], .string A, .tuple #[.slice Al (namesOf A).length cl, .agg #[.int .i64 px, .int .i64 py]], .slice Al (namesOf A).length cl, .agg #[.int .i64 px, .int .i64 py], .string A, .func (.func 38) #[] #[.pointer (some ⟨r9 + 1 + 1, 0, none⟩)], .func (.func 38) #[] #[.pointer (some ⟨r9 + 1 + 1, 0, none⟩)], .bool false, .int .i64 1, .bool true, .int .i64 0, .int .i64 1, .func (.func 38) #[] #[.pointer (some ⟨r9 + 1 + 1, 0, none⟩)], undef, undef, undef, undef, undef, undef, undef, undef, undef, undef, undef, undef, undef, undef, undef, undef, undef, undef, undef, undef, undef, undef, .int .i64 ((namesOf A).length : Nat), .slice Al (namesOf A).length cl, .int .i64 ((namesOf A).length : Nat), .bool false, .func (.func 38) #[] #[.pointer (some ⟨r9 + 1 + 1, 0, none⟩)], .int .i64 (i.val : Int), .string ((namesOf A).get i).1], defers := [] })
          (fun i a' => ownFrom_pure _ _)
          ?assign ?body (fun D xs W hD _ hI hK => hd D W hD hI hK) ?stop) ?next
        case assign =>
          rintro lp pre i W K hI hK
          have HI := Lib.hid hI
          clear hI
          simp only [nmEnc]
          gi_wp2
          exact hK _ _ (KeepsFrom.refl _ _) (cellsFrom_refl _ _) HI.out rfl
        case body =>
          rintro lp pre i a' W hl ⟨rr, hr⟩ hI rfl hlt
          have HI := Lib.hid hI
          clear hI hr
          gi_wp2
          exact ⟨KeepsFrom.refl _ _, rfl, HI.out⟩
        case stop =>
          rintro D cd pre W hD hDs ⟨rfl, hI⟩ hK
          exact wpIn_exit (hd D W hD hI hK)
        case next =>
          intro E1 P2 hD hI hK
          have HB2 := Lib.hid (show Below W0.heap.size W0 P2 from HBW.out.1.trans (hI.mono HBW.out.1.size))
          have HM2 := Lib.hid (show MarksOk P2 [E1, D1, E0, D0] from marks_cons HBW.out.2.1 (marks_below HBW.out.2.1 hI) hD hK)
          have HR2 := Lib.hid (show W0.heap.size ≤ E1 ∧ W0.heap.size ≤ D1 from ⟨Nat.le_trans HBW.out.1.size hD, HBW.out.2.2⟩)
          clear hD hI hK HBW HCN
          gi_wp2
          rw [roundsIn_succ]
          gi_wp2
          have hz := HZ.out
          have f4 : P2.cell? ⟨r0, 0, none⟩ = some (.bool false) := (HB2.out.cell (p := ⟨r0, 0, none⟩) (by show r0 < W0.heap.size; omega)).trans HF.out.1.cell
          have f5 : P2.frozen? ⟨r0, 0, none⟩ = false := (HB2.out.frozen (p := ⟨r0, 0, none⟩) (by show r0 < W0.heap.size; omega)).trans HF.out.1.frozen
          have hbx : Boxed P2 r0 4 (.bool false) := (HB2.out.block _ (by omega)).trans HF.out.1
          have HBX := Lib.hid hbx
          have HZ2 := Lib.hid hz
          clear hz hbx
          go_wp2
          refine leaves_marks r0 [E1, D1, E0, D0] (P2.setCell ⟨r0, 0, none⟩ (.bool true)) _ (Turned.refl _ _) (fun D hD => ?_) ⟨HM2.out.1, fun D hD => ?_⟩ (fun Z hT => ⟨.bool true, ?_, rfl, ?_⟩)
          · have h1 := HR1.out
            have h2 := HR2.out
            have h3 := HZ2.out
            simp only [List.mem_cons, List.mem_nil_iff, or_false] at hD
            rcases hD with rfl | rfl | rfl | rfl <;> omega
          · rw [Below.heap_setCell P2 _ _ D (fun e => ?_)]
            · exact HM2.out.2 D hD
            · have h1 := HR1.out
              have h2 := HR2.out
              have h3 := HZ2.out
              have e2 : D = r0 := e
              simp only [List.mem_cons, List.mem_nil_iff, or_false] at hD
              rcases hD with h | h | h | h <;> omega
          · have hc : Z.cell? ⟨r0, 0, none⟩ = some (.bool true) := Boxed.cell (hT.2 r0 _ _ _ (HBX.out.set (.bool true)))
            simp [results, Try.f4, go_sem, hc]
          · exact (((HF.out.2.2.2.1.trans (HB2.out.mono (by have := HZ2.out; omega))).setCell (p := ⟨r0, 0, none⟩) (Nat.le_refl _) _).trans hT.1).mono (by rw [hr0]; exact Nat.le_refl _)
theorem walk (a0 : ByteArray) (a1 : ByteArray) (w : World) (w0 : a0.size ≤ 140737488351232) (w1 : a1.size ≤ 140737488351232) :
    Calls Try.prog 4 #[.string a0, .string a1] w fun e w' => e = .returned (.bool true) ∧ Below w.heap.size w w' := by
  exact lies_walk a0 a1 w w0 w1

set_option maxRecDepth 100000 in
theorem contract (H : Type) (enc : TypeId × Value → H) (W : World) (base : Nat) (args : Array Value) (ds gs : List (DataW H)) (before : List MemPlace)
    (hval0 : ∀ (j : Nat) t v, Try.f4.params[j]? = some t → args[j]? = some v → Value.okWide Try.prog W .any base t v)
    (hW : DataW.Whole enc Try.prog Try.f4.params.toList Rows.pathLiesSpec.vars false W args.toList ds gs before)
    (hsz0 : (DataW.weightsEach Try.prog (Try.f4.params.toList ++ Rows.pathLiesSpec.plain.varTypes Try.prog) (ds ++ gs)).all (· ≤ reachBytes) = true) :
    Calls Try.prog 4 args W fun e W' => ∃ v, e = .returned v ∧ Rows.pathLiesSpec.post enc Try.prog Try.f4 false true false false W args v W' := by
  have hval : ∀ (j : Nat) t v, Try.f4.params[j]? = some t → args[j]? = some v → Value.okWide Try.prog W .any base t v := hval0
  have hsz : (DataW.weightsEach Try.prog (Try.f4.params.toList ++ Rows.pathLiesSpec.plain.varTypes Try.prog) (ds ++ gs)).all (· ≤ reachBytes) = true := hsz0
  have hW' := hW
  obtain ⟨p, q, hA0, hV, rfl, hfz, hnd⟩ := hW
  have hA : DataW.TrodAll enc Try.prog W 0 (fun _ => true) true Try.f4.params.toList args.toList ds p := hA0
  rw [Try.params4] at hA hval hsz
  obtain ⟨v0, vs0, d0, ds0, p0, q0, hargs, rfl, rfl, h0, r0⟩ := trodAll_cons hA
  obtain ⟨v1, vs1, d1, ds1, p1, q1, rfl, rfl, rfl, h1, r1⟩ := trodAll_cons r0
  obtain ⟨rfl, rfl, rfl⟩ := trodAll_nil r1
  obtain rfl : args = #[v0, v1] := by cases args; simp_all
  obtain ⟨rfl, rfl⟩ := trodVars_none hV
  obtain ⟨a0, rfl, rfl, rfl, wm0⟩ := open_string Try.underlying9 (hval 0 9 v0 rfl rfl) h0
  have w0 : a0.size ≤ 140737488351232 := by
    have := sized_string hsz (j := 0) (t := 9) rfl rfl
    simpa [reachBytes] using this
  obtain ⟨a1, rfl, rfl, rfl, wm1⟩ := open_string Try.underlying9 (hval 1 9 v1 rfl rfl) h1
  have w1 : a1.size ≤ 140737488351232 := by
    have := sized_string hsz (j := 1) (t := 9) rfl rfl
    simpa [reachBytes] using this
  clear hA0 hval0
  refine (walk a0 a1 W w0 w1).mono fun e W' ⟨he, bel⟩ => ?_
  subst he
  exact ⟨_, rfl, _, _, _, [], _, [], hW', trodAll_mk1 (shut_bool Try.underlying4 _), (trodAll_cons_mk (shut_string Try.underlying9 wm0) (trodAll_cons_mk (shut_string Try.underlying9 wm1) trodAll_mk0)), rfl, bel.frame _, fun h => by cases h⟩

set_option maxRecDepth 100000 in
theorem lifted (os : Os) (started : os.Started) (H : Type) (enc : TypeId × Value → H) :
    ReturnsInHanded {} Try.checked os 4 .any (Rows.pathLiesSpec.pre6 enc Try.prog Try.f4 Rows.pathLiesRow.domain false) (Rows.pathLiesSpec.post enc Try.prog Try.f4 false true false false) := by
  refine returnsInHanded_of_change_sized (C := Try.checked) own started (by kernel_rfl) Try.func4
    (ChangeSpec.witness6 (enc := enc) (C := Try.checked) false ⟨#[], #[.string ByteArray.empty, .string ByteArray.empty], []⟩ 8 (by kernel_rfl) (by kernel_rfl) (by kernel_rfl) (by kernel_rfl)) ?_
  intro W base args ds gs before hval hW _ hsz _
  exact contract H enc W base args ds gs before hval hW hsz

theorem over : Rows.pathLiesRow.holds Try.pinned (OpenSpec.ofChange Rows.pathLiesSpec) :=
  OpenClaim.holds_of_wide 4 Try.f4 rfl rfl rfl rfl rfl rfl rfl ⟨rfl, rfl, rfl, rfl, rfl⟩ rfl rfl rfl rfl rfl (by kernel_rfl) Try.func4 (by kernel_rfl)
    (of_decide_eq_true (by kernel_rfl)) (by unfold Func.isWrapper; first | (rw [if_pos (by decide +kernel)]; kernel_rfl) | (rw [if_neg (by decide +kernel)]; exact ⟨rfl, rfl⟩))
    (fun os started H enc _ => lifted os started H enc)

/-- The statement. -/
theorem proved : Rows.PathLiesSaid := over
#print axioms proved
end Go.Proofs.Ytjebaibcfmjinaa.pathLies
