/-
  A region within a round of a range over a function, at the wide fence: it may be walked as outside. Plain lemmas; no condition.
-/
import Derived.RangeFuncCalls
import Derived.OrdersIn
import Derived.RegionTactic
import Derived.TacticsIn
import Derived.Test.YtjebaibcfmjinaaWords
import Derived.Test.YtjebaibcfmjinaaPathDelete
namespace Go.Proofs.Ytjebaibcfmjinaa
open Go.RowKit

theorem oper_in {P : Program} {o : Oper} {a : Act} {K : Act → World → Prop} {Q : Exit → Act → World → Prop} {l n : Nat} {w : World} (hnd : ∀ c, o.op ≠ .defer c) (h : Oper.wp P o a w K Q) : Oper.wpIn (Fence.wide.inRound l) n P o a w K Q := by
  refine ⟨fun _ _ => trivial, ?_⟩
  rw [show (Fence.wide.inRound l).round = some l from rfl, Oper.semAt_some l _ _ hnd]
  unfold Oper.wp at h
  cases hr : (execOp a.eval o).run P w with
  | halt x w' =>
    rw [hr] at h
    cases x <;> first | exact h | exact h.elim
  | ok v w' =>
    rw [hr] at h
    cases v with
    | value v => exact h
    | skip => exact h
    | defer d => exact h
    | enter f args => exact ⟨fun e => by simp [Fence.wide] at e, CallsIn.inRound l (callsIn_wide.2 h)⟩
    | row row args =>
      refine ⟨fun e => by simp [Fence.wide] at e, fun c cs _ => ?_⟩
      obtain ⟨v, w'', r, s⟩ := h c cs
      exact ⟨v, w'', r, stepsIn_wide.2 s⟩
    | _ => exact h.elim
theorem wpOp_in {P : Program} {ops : Array Oper} {Q : Exit → Act → World → Prop} {i l n : Nat} {K K' : Act → World → Prop} {a : Act} {w : World} (hnd : ∀ (i : Nat) (o : Oper), ops[i]? = some o → ∀ c, o.op ≠ .defer c) (hL : ¬ LetsOut Q) (hK : ∀ a w, K a w → K' a w)
    (h : wpOp P ops Q i K a w) : wpOpIn (Fence.wide.inRound l) n P ops Q i K' a w := by
  unfold wpOp at h
  unfold wpOpIn
  cases ho : ops[i]? with
  | none => rw [ho] at h; exact hK _ _ h
  | some o =>
    rw [ho] at h
    simp only at h ⊢
    split
    · rename_i hw
      rw [if_pos hw] at h
      rcases h with h | h
      · exact oper_in (hnd i o ho) (Oper.wp_mono hK h)
      · exact absurd h.2 hL
    · rename_i hw
      rw [if_neg hw] at h
      exact ⟨fun _ _ => trivial, hK _ _ h⟩
theorem wpAny_in {P : Program} {md : Region.Mode} {ops : Array Oper} {Q : Exit → Act → World → Prop} {l n : Nat} (hnd : ∀ (i : Nat) (o : Oper), ops[i]? = some o → ∀ c, o.op ≠ .defer c) (hL : ¬ LetsOut Q) :
    ∀ (fuel : Nat) (listed : Array Bool) (a : Act) (w : World), wpAny P md ops Q fuel listed a w → wpAnyIn (Fence.wide.inRound l) n P md ops Q fuel listed a w
  | 0, _, _, _, h => h
  | fuel + 1, listed, a, w, h => ⟨h.1, fun i hi => wpOp_in hnd hL (fun a w => wpAny_in hnd hL fuel _ a w) (h.2 i hi)⟩
def plainOps (ops : Array Oper) : Bool := ops.all fun o => match o.op with | .defer _ => false | _ => true
theorem plainOps_at {ops : Array Oper} (h : plainOps ops = true) : ∀ (i : Nat) (o : Oper), ops[i]? = some o → ∀ c, o.op ≠ .defer c := by
  intro i o hi c e
  obtain ⟨hlt, rfl⟩ := Array.getElem?_eq_some_iff.1 hi
  have := Array.all_eq_true.1 h i hlt
  rw [e] at this
  cases this
/-- The way in. -/
theorem wpIn_region_out {P : Program} {ops : Array Oper} {Q : Exit → Act → World → Prop} {l n id : Nat} {a : Act} {w : World} (hm : P.follows .mixedOrders = true) (hp : plainOps ops = true) (hL : ∀ a w, ¬ Q .outgrown a w)
    (h : wpAny P .any ops Q ops.size (Array.replicate ops.size false) a w.drew) : (Code.region id ops true).wpIn (Fence.wide.inRound l) n P Q a w :=
  wpIn_region_any hm (wpAny_in (plainOps_at hp) (fun ⟨a, w, h⟩ => hL a w h) _ _ _ _ h)
end Go.Proofs.Ytjebaibcfmjinaa
/-
  The walk of path.Without. Condition: the path is within the reach.
-/
namespace Go.Proofs.Ytjebaibcfmjinaa
open Go.RowKit Go.Shelf

attribute [local go_sem] Oper.semAt_some

theorem grown_undrew {w w' : World} {row : Option Nat} (h : w.drew.grownBy w' row) : w.grownBy w' row := ⟨h.os, h.tape, h.output, h.size, h.block⟩
set_option maxRecDepth 100000 in
set_option maxHeartbeats 8000000 in
theorem without_any (p key : ByteArray) (w : World) (hs : p.size ≤ 140737488355328) :
    Calls Try.prog 26 #[.string p, .string key] w (WithoutPost p key w) := by
  have HP := Lib.hid (fun W => parse_says p W hs)
  refine (callsIn_wide (n := 9)).1 ?_
  refine callsIn_of_wp_marks Try.func26 rfl trivial ?_ rfl
  simp only [Try.ntmps26, List.size_toArray, List.length_cons, List.length_nil, Nat.reduceAdd, Nat.reduceSub, Array.replicate_succ, Array.replicate_zero, List.push_toArray, List.append_toArray, List.nil_append, List.cons_append]
  have HBX := Lib.hid (show ∀ W1, Below (((w.alloc (.cells #[.string key] 9)).alloc (.cells #[.string ⟨#[]⟩] 9)).alloc (.cells #[.bool false] 4)).heap.size (((w.alloc (.cells #[.string key] 9)).alloc (.cells #[.string ⟨#[]⟩] 9)).alloc (.cells #[.bool false] 4)) W1 → Boxed W1 w.heap.size 9 (.string key) ∧ Boxed W1 (w.heap.size + 1) 9 (.string ⟨#[]⟩) ∧ Boxed W1 (w.heap.size + 1 + 1) 4 (.bool false) ∧ Below w.heap.size w W1 ∧ w.heap.size + 3 ≤ W1.heap.size from fun W1 hb => by
    have z0 := (((Boxed.new w 9 (.string key)).alloc (.cells #[.string ⟨#[]⟩] 9)).alloc (.cells #[.bool false] 4))
    have z1 := ((Boxed.new (w.alloc (.cells #[.string key] 9)) 9 (.string ⟨#[]⟩)).alloc (.cells #[.bool false] 4))
    have z2 := (Boxed.new ((w.alloc (.cells #[.string key] 9)).alloc (.cells #[.string ⟨#[]⟩] 9)) 4 (.bool false))
    rw [World.size_alloc] at z1
    rw [World.size_alloc, World.size_alloc] at z2
    refine ⟨(hb.block _ (by simp; omega)).trans z0, (hb.block _ (by simp)).trans z1, (hb.block _ (by simp)).trans z2, ((((Below.refl _ w).alloc (Nat.le_refl _) _).alloc (by simp) _).alloc (by simp; omega) _).trans (hb.mono (by simp; omega)), by have := hb.size; simp at this; omega⟩)
  gi_wp2_with (first
    | (refine ⟨trivial, ?_⟩; gi_at_call 28; go_loud (refine (callsIn_wide.2 (HP.out _)).mono ?_; rintro e w1 ⟨hB1, hR1⟩; obtain ⟨e0, e1, e2, e3, e4⟩ := HBX.out _ hB1; have HE := Lib.hid (And.intro e0 (And.intro e1 (And.intro e2 (And.intro e3 e4)))); have q4 := e1.cell; have q5 := e2.cell; have f4 := e1.frozen; have f5 := e2.frozen; have l1 : w.heap.size + 1 < w1.heap.size := (by omega); have l2 : w.heap.size + 1 + 1 < w1.heap.size := (by omega); have l3 : w.heap.size + 1 < w1.heap.size + 1 := (by omega); have l4 : w.heap.size + 1 + 1 < w1.heap.size + 1 := (by omega); have l5 : w.heap.size < w1.heap.size := (by omega); have l6 : w.heap.size < w1.heap.size + 1 := (by omega); clear hB1 e0 e1 e2 e3 e4; rcases hR1 with ⟨x, y, hE, rfl⟩ | ⟨l, v, hE, rfl, vs, hI⟩; (have hx0 : (x == 0) = false := (by rw [beq_eq_false_iff_ne]; have := parseM_err hE; omega)); rotate_left; (obtain ⟨A, c, rfl, -, -, -⟩ := own_form hI.2.1); rotate_right; all_goals (have HPE := Lib.hid hE; clear hE)))
    | (refine ⟨trivial, ?_⟩; gi_at_call 39; go_loud (refine (backward_in Fence.wide _ trivial rfl _ _ _ _).mono ?_; rintro e w' ⟨rfl, rfl⟩)))
  · obtain ⟨e0, e1, e2, e3, e4⟩ := HE.out
    have g1 : Boxed ((((w1.setCell ⟨w.heap.size + 1, 0, none⟩ (.string ⟨#[]⟩)).setCell ⟨w.heap.size + 1 + 1, 0, none⟩ (.bool false)).alloc (.cells #[.slice none 0 0] 32)).alloc (.cells #[.int .i64 x, .int .i64 y] 26)) (w.heap.size + 1) 9 (.string ⟨#[]⟩) := (((e1.set _).other (by omega) _).alloc _).alloc _
    have g2 : Boxed ((((w1.setCell ⟨w.heap.size + 1, 0, none⟩ (.string ⟨#[]⟩)).setCell ⟨w.heap.size + 1 + 1, 0, none⟩ (.bool false)).alloc (.cells #[.slice none 0 0] 32)).alloc (.cells #[.int .i64 x, .int .i64 y] 26)) (w.heap.size + 1 + 1) 4 (.bool false) := (((e2.other (by omega) _).set _).alloc _).alloc _
    refine ⟨.tuple #[.string ⟨#[]⟩, .bool false], ?_, ((((e3.setCell (p := ⟨w.heap.size + 1, 0, none⟩) (by simp) _).setCell (p := ⟨w.heap.size + 1 + 1, 0, none⟩) (by simp; omega) _).alloc (by simp [World.setCell]; omega) _).alloc (by simp [World.setCell]; omega) _), .inl ⟨⟨_, HPE.out⟩, rfl⟩⟩
    simp [results, Try.f26, go_sem, g1.cell, g2.cell]
  · have HSM := Lib.hid (show (∀ st ∈ l, StepTiny st) ∧ l.length ≤ 64 ∧ (∀ st ∈ l, RisesK st.2) from ⟨(parseM_small HPE.out).1, (parseM_small HPE.out).2.1, parse_rises HPE.out⟩)
    obtain ⟨e0, e1, e2, e3, e4⟩ := HE.out
    obtain ⟨W0, hW0⟩ : ∃ W0, ((w1.alloc (.cells #[.slice A l.length c] 32)).alloc (.cells #[.int .i64 0, .int .i64 0] 26)).alloc (.cells #[.slice A l.length c] 32) = W0 := ⟨_, rfl⟩
    have hb10 : Below w1.heap.size w1 W0 := by rw [← hW0]; exact (((Below.refl _ w1).alloc (Nat.le_refl _) _).alloc (by simp) _).alloc (by simp; omega) _
    have hsz0 : W0.heap.size = w1.heap.size + 3 := by rw [← hW0]; simp
    have b0 : Boxed W0 w.heap.size 9 (.string key) := (hb10.block _ l5).trans e0
    have b1 : Boxed W0 (w.heap.size + 1) 9 (.string ⟨#[]⟩) := (hb10.block _ l1).trans e1
    have b2 : Boxed W0 (w.heap.size + 1 + 1) 4 (.bool false) := (hb10.block _ l2).trans e2
    have b6 : Boxed W0 w1.heap.size 32 (.slice A l.length c) := by rw [← hW0]; exact ((Boxed.new w1 _ _).alloc _).alloc _
    have bS : W0.cell? ⟨w1.heap.size + 1 + 1, 0, none⟩ = some (.slice A l.length c) := by
      rw [← hW0]
      have := (Boxed.new ((w1.alloc (.cells #[.slice A l.length c] 32)).alloc (.cells #[.int .i64 0, .int .i64 0] 26)) 32 (.slice A l.length c)).cell
      simpa using this
    have hI0 : StepsIn W0 (w.heap.size + 3) (.slice A l.length c) l vs := by
      have h := StepsIn.only (g := w.heap.size) hI (Only.of_below hb10) (by simp; omega)
      exact h.base (by simp)
    have HI0 := Lib.hid hI0
    have hR0 := hI0.reads
    have hRd : Reads W0 W0.heap.size 2 A l.length (stepCells l vs) := by obtain ⟨_, _, e, _, _, h, _⟩ := hR0; cases e; exact h
    have HB0 := Lib.hid (show Below w.heap.size w W0 from e3.trans (hb10.mono (by omega)))
    have hsl := hR0.slices
    have HVL := Lib.hid hI0.1
    have HSL := Lib.hid hsl
    have h09 := e4
    clear hsl
    rw [hW0]
    clear hW0 hb10 hI0 hR0 e0 e1 e2 e3 e4 HE l1 l2 l3 l4 l5 l6 q4 q5 f4 f5 hI HBX
    generalize hr9 : w1.heap.size = r9 at *
    generalize hr0 : w.heap.size = r0 at *
    have HRD := Lib.hid hRd
    clear hRd
    refine wpIn_rangeFunc_ownH rfl (by decide) (gf := 60) (lb := #[.pointer (some ⟨r9 + 1 + 1, 0, none⟩)]) rfl trivial (enters_of Try.func60 (by kernel_rfl) rfl)
      (backward_stops Fence.wide 8 trivial rfl (by decide) (r9 + 1 + 1) W0.heap.size A c l vs HVL.out HSL.out (by have := HSM.out.2.1; omega) W0 (by omega) (Nat.le_refl _) bS HRD.out) belowK_t (belowK_b (Nat.le_refl _)) (Below.refl _ _) (fun _ => rfl)
      (fun pre W => (NoK l key pre ∧ Boxed W r0 9 (.string key)) ∧ Boxed W (r0 + 1) 9 (.string ⟨#[]⟩) ∧ Boxed W (r0 + 1 + 1) 4 (.bool false) ∧ Boxed W r9 32 (.slice A l.length c) ∧ Below W0.heap.size W0 W)
      (fun cd pre W => ∃ l', ((cd = Code.ret ∧ HitK l key pre l') ∧ Boxed W (r0 + 1) 9 (.string (putS (putM l')))) ∧ Boxed W (r0 + 1 + 1) 4 (.bool true) ∧ Below r0 w W)
      (OwnFrom.and (OwnFrom.and (ownFrom_pure _ _) (Own.from (boxed_own _ _ _) _)) (OwnFrom.and (Own.from (boxed_own _ _ _) _) (OwnFrom.and (Own.from (boxed_own _ _ _) _) (OwnFrom.and (Own.from (boxed_own _ _ _) _) (ownFrom_below (Nat.le_refl _) (Nat.le_refl _))))))
      (fun cd => ownFrom_ex fun r => OwnFrom.and (OwnFrom.and (ownFrom_pure _ _) (Own.from (boxed_own _ _ _) _)) (OwnFrom.and (Own.from (boxed_own _ _ _) _) (ownFrom_below (by omega) (by omega))))
      ⟨⟨fun i h => (by cases h), b0⟩, b1, b2, b6, Below.refl _ _⟩
      (fun i a' W => ∃ Bx, W0.heap.size ≤ Bx ∧ Blk W Bx 40 #[.string (l.get i).1, .slice (sliceA (vs.getD i.val undef)) (sliceN (vs.getD i.val undef)) (sliceC (vs.getD i.val undef))] ∧ a' = { tmps := #[.string p, .string key, undef, .pointer (some ⟨r0, 0, none⟩), .pointer (some ⟨r0 + 1, 0, none⟩), .pointer (some ⟨r0 + 1 + 1, 0, none⟩), .pointer (some ⟨r9, 0, none⟩), .pointer (some ⟨r9 + 1, 0, none⟩), .int .i64 (i.val : Int), .pointer (some ⟨Bx, 0, none⟩), undef, undef, undef, .tuple #[.slice A l.length c, .agg #[.int .i64 0, .int .i64 0]], .string p, .tuple #[.slice A l.length c, .agg #[.int .i64 0, .int .i64 0]], .slice A l.length c, .agg #[.int .i64 0, .int .i64 0], .pointer (some ⟨r9 + 1, 0, none⟩), .int .i64 0, .bool false, .slice A l.length c, .func (.func 60) #[] #[.pointer (some ⟨r9 + 1 + 1, 0, none⟩)], .int .i64 (i.val : Int), .agg #[.string (l.get i).1, .slice (sliceA (vs.getD i.val undef)) (sliceN (vs.getD i.val undef)) (sliceC (vs.getD i.val undef))], undef, undef, undef, undef, undef, undef, undef, undef, undef, undef, undef, undef, undef, undef, undef, undef, undef, undef, undef, undef, undef, undef, undef], defers := [] })
      (fun i a' => ownFrom_ex fun Bx => OwnFrom.and (ownFrom_pure _ _) (OwnFrom.and (blk_own _ _ _ _) (ownFrom_pure _ _)))
      ?assign ?body ?done ?stop
    case assign =>
      rintro lp pre i W K ⟨⟨hp, b0⟩, b1, b2, b3, hB⟩ hK
      have HI := Lib.hid (And.intro hp (And.intro b0 (And.intro b1 (And.intro b2 (And.intro b3 hB)))))
      clear hp b0 b1 b2 b3 hB
      simp only [bkEnc]
      gi_wp2
      obtain ⟨hp, b0, b1, b2, b3, hB⟩ := HI.out
      exact hK _ _ ((KeepsOthers.alloc _ _).from _) ((Below.refl _ W).alloc hB.size _) ⟨⟨hp, b0.alloc _⟩, b1.alloc _, b2.alloc _, b3.alloc _, hB.alloc hB.size _⟩ ⟨W.heap.size, hB.size, Blk.new W _ _, rfl⟩
    case body =>
      rintro lp pre i a' W hl ⟨rr, hr⟩ ⟨⟨hp, b0⟩, b1, b2, b3, hB⟩ ⟨Bx, hBx, bX, rfl⟩ hlt
      have cK := b0.cell
      obtain ⟨kv, hkv⟩ : ∃ kv, vs[i.val]? = some kv := ⟨vs[i.val]'(by rw [HVL.out]; exact i.isLt), by simp [HVL.out, i.isLt]⟩
      have hst : l[i.val]? = some (l.get i) := by simp
      have hgd : vs.getD i.val undef = kv := by rw [List.getD_eq_getElem?_getD, hkv]; rfl
      have hkl : (l.get i).2.length ≤ 512 := (HSM.out.1 (l.get i) (List.get_mem _ _)).2.1
      have hri : RisesK (l.get i).2 := HSM.out.2.2 (l.get i) (List.get_mem _ _)
      have hIW : StepsIn W (r0 + 3) (.slice A l.length c) l vs := HI0.out.only (Only.of_below hB) (g := r0) (by omega)
      obtain ⟨ka, kc, rfl, hk1, hk2, hk3⟩ := own_form (hIW.2.2.1 i.val (l.get i) kv hst hkv)
      rw [hgd] at bX ⊢
      simp only [sliceA, sliceN, sliceC] at bX ⊢
      have HKA := Lib.hid (show KeysAt W W.heap.size (.slice ka (l.get i).2.length kc) (l.get i).2 from ⟨ka, kc, rfl, hk1, hk2, hk3⟩)
      have HIW := Lib.hid hIW
      have HKV := Lib.hid hkv
      have HST := Lib.hid hst
      have HP := Lib.hid hp
      have HW := Lib.hid (And.intro b0 (And.intro b1 (And.intro b2 (And.intro b3 hB))))
      have HRI := Lib.hid hri
      clear hgd hkv hr hlt hp hst hk3 hIW hri
      generalize hgi : l.get i = st at *
      have HGI := Lib.hid hgi
      clear hgi
      obtain ⟨sn, ks⟩ := st
      simp only at *
      have x0 : W.cell? ⟨Bx, 0, none⟩ = some (.string sn) := bX.cell 0
      have x1 : W.cell? ⟨Bx, 1, none⟩ = some (.slice ka ks.length kc) := bX.cell 1
      have HX := Lib.hid bX
      have HB5 := Lib.hid (show Below r0 w W from HB0.out.trans (hB.mono (by omega)))
      have hWs : W0.heap.size ≤ W.heap.size := hB.size
      clear b0 b1 b2 b3 hB bX
      rcases find_cases key ks with ⟨j, k, hj, hk, ht⟩ | hno
      · have HC := Lib.hid (find_hit sn key _ ks W HKA.out (by omega) hj hk ht)
        have hjl : (j : Int) < (ks.length : Int) := by have := (List.getElem?_eq_some_iff.1 hj).1; omega
        have HJ := Lib.hid (And.intro hj hk)
        clear hj hk ht
        gi_wp2_with (refine ⟨trivial, ?_⟩; gi_at_call 40; go_loud (refine (CallsIn.inRound lp (callsIn_wide.2 HC.out)).mono ?_; rintro e w2 ⟨rfl, hB2⟩; have HB2 := Lib.hid hB2; clear hB2))
        obtain ⟨b, rfl, hbw, hbl⟩ := own_spot (HI0.out.2.2.1 i.val (sn, ks) _ HST.out HKV.out) (show 0 < ks.length by omega)
        obtain ⟨bs, rfl, hsw, hsl⟩ := own_spot HI0.out.2.1 (Nat.lt_of_le_of_lt (Nat.zero_le _) i.isLt)
        have HI2 := Lib.hid (show StepsIn w2 (r0 + 3) (.slice (some ⟨bs, 0, none⟩) l.length c) l vs from HIW.out.only (Only.of_below HB2.out) (g := r0) (by omega))
        have HN9 := Lib.hid (show b ≠ r9 from own_blk (HI2.out.2.2.1 i.val (sn, ks) _ HST.out HKV.out) (show Blk w2 r9 32 #[.slice (some ⟨bs, 0, none⟩) l.length c] from (HB2.out.block _ HW.out.2.2.2.1.lt).trans HW.out.2.2.2.1) (by decide) rfl)
        have m6 : w2.cell? ⟨r9, 0, none⟩ = some (.slice (some ⟨bs, 0, none⟩) l.length c) := Boxed.cell ((HB2.out.block _ HW.out.2.2.2.1.lt).trans HW.out.2.2.2.1)
        have m9 : w2.cell? ⟨Bx, 1, none⟩ = some (.slice (some ⟨b, 0, none⟩) ks.length kc) := (HX.out.below HB2.out HX.out.lt).cell 1
        have hwr : IntKind.i64.wrap ((j : Int) + 1) = (j : Int) + 1 := by rw [IntKind.wrap_i64]; omega
        have hil : ((i.val : Nat) : Int) < (l.length : Int) := by have := i.isLt; omega
        have HDEL := Lib.hid (delete_any b kc j ks (r0 + 3) w2.drew (HI2.out.2.2.1 i.val (sn, ks) _ HST.out HKV.out) (by omega) (by omega))
        have HK3 := Lib.hid (show ∀ w3 : World, w2.drew.grownBy w3 (some b) → w3.cell? ⟨bs, i.val * 2 + 1, none⟩ = some (.slice (some ⟨b, 0, none⟩) ks.length kc) ∧ w3.frozen? ⟨bs, i.val * 2 + 1, none⟩ = false ∧ w3.cell? ⟨r9, 0, none⟩ = some (.slice (some ⟨bs, 0, none⟩) l.length c) from fun w3 hg => by
          have hg' : w2.grownBy w3 (Value.slice (some ⟨b, 0, none⟩) ks.length kc).ownBlock := grown_undrew hg
          have hrow := row_stays HI2.out HST.out HKV.out hg'
          refine ⟨own_cell hrow (i.val * 2 + 1) _ (stepCells_at l vs i.val (sn, ks) _ HST.out HKV.out).2, own_free hrow (i.val * 2 + 1), (World.cell?_of_block (hg'.block r9 (World.block_lt_of_cell? _ _ m6) (fun e => ?_))).trans m6⟩
          have h : some r9 = some b := e
          cases h
          exact HN9.out rfl)
        have HT := Lib.hid (show ∀ w3 : World, w2.drew.grownBy w3 (some b) → w3.ownsRow (r0 + 3) 51 2 (.slice (some ⟨b, 0, none⟩) (ks.length - 1) kc) (ks.length - 1) (pairCells (ks.eraseIdx j)) → ∀ W4, w3.setCell ⟨bs, i.val * 2 + 1, none⟩ (.slice (some ⟨b, 0, none⟩) (ks.length - 1) kc) = W4 →
            StepsR W4 (.slice (some ⟨bs, 0, none⟩) l.length c) (l.set i.val (sn, dropK ks key)) (vs.set i.val (.slice (some ⟨b, 0, none⟩) (ks.length - 1) kc)) ∧ Boxed W4 r9 32 (.slice (some ⟨bs, 0, none⟩) l.length c) ∧ Boxed W4 (r0 + 1) 9 (.string ⟨#[]⟩) ∧ Boxed W4 (r0 + 1 + 1) 4 (.bool false) ∧ KeepsFrom W0.heap.size W W4 ∧ Below r0 w W4 ∧ r0 ≤ W4.heap.size from fun w3 hg0 ho W4 hW4 => by
          have hg : w2.grownBy w3 (some b) := grown_undrew hg0
          have hlen : (ks.eraseIdx j).length = ks.length - 1 := by rw [List.length_eraseIdx, if_pos (by omega)]
          have hg' : w2.grownBy w3 (Value.slice (some ⟨b, 0, none⟩) ks.length kc).ownBlock := hg
          have hrow := row_stays HI2.out HST.out HKV.out hg'
          have hB9 : Boxed w3 r9 32 (.slice (some ⟨bs, 0, none⟩) l.length c) := Boxed.kept (show Boxed w2 r9 32 (.slice (some ⟨bs, 0, none⟩) l.length c) from (HB2.out.block _ HW.out.2.2.2.1.lt).trans HW.out.2.2.2.1) hg (fun e => HN9.out (by cases e; rfl))
          have hB1 : Boxed w3 (r0 + 1) 9 (.string ⟨#[]⟩) := Boxed.kept (show Boxed w2 (r0 + 1) 9 (.string ⟨#[]⟩) from (HB2.out.block _ HW.out.2.1.lt).trans HW.out.2.1) hg (fun e => by cases e; omega)
          have hB2' : Boxed w3 (r0 + 1 + 1) 4 (.bool false) := Boxed.kept (show Boxed w2 (r0 + 1 + 1) 4 (.bool false) from (HB2.out.block _ HW.out.2.2.1.lt).trans HW.out.2.2.1) hg (fun e => by cases e; omega)
          have hs9 : bs ≠ r9 := own_blk hrow (show Blk w3 r9 32 #[.slice (some ⟨bs, 0, none⟩) l.length c] from hB9) (by decide) rfl
          have hO : Only bs w3 W4 := by rw [← hW4]; exact (Only.refl bs w3).setCell (.inl rfl) _
          refine ⟨?_, hB9.kept hO (fun e => hs9 (by cases e; rfl)), hB1.kept hO (fun e => by cases e; omega), hB2'.kept hO (fun e => by cases e; omega), ?_, ?_, ?_⟩
          · rw [← hW4, ← erase_drop ks j k key HRI.out HJ.out.1 HJ.out.2]
            exact steps_set HI2.out HST.out HKV.out hg' (by rw [hlen]; exact ho)
          · refine (keepsFrom_below HB2.out).trans (KeepsFrom.trans (KeepsFrom.of_grownBy (show w2.grownBy w3 (some b) from hg) (fun x e => by cases e; exact hbl)) ?_)
            rw [← hW4]
            exact (KeepsOthers.setCell _ _ _).from _
          · have h1 : Below r0 w w2 := HB5.out.trans (HB2.out.mono (by have := hr0; have := HB5.out.size; omega))
            have h2 : Below r0 w w3 := h1.grown (show w2.grownBy w3 (some b) from hg) (by have := hr0; have := h1.size; omega) (fun x e => by cases e; omega)
            rw [← hW4]
            exact h2.setCell (p := ⟨bs, i.val * 2 + 1, none⟩) (by simp; omega) _
          · have h1 : Below r0 w w2 := HB5.out.trans (HB2.out.mono (by have := hr0; have := HB5.out.size; omega))
            have := hr0
            have := h1.size
            have := hg'.size
            rw [← hW4]
            simp [World.setCell]
            omega)
        have HHK := Lib.hid (show HitK l key (pre ++ [i]) (l.set i.val (sn, dropK ks key)) from ⟨pre, i, rfl, HP.out, by rw [HGI.out]; exact ⟨k, List.mem_of_getElem? HJ.out.1, HJ.out.2⟩, by rw [HGI.out]⟩)
        have HSS := Lib.hid (show (∀ st ∈ l.set i.val (sn, dropK ks key), StepSmall st) ∧ (l.set i.val (sn, dropK ks key)).length ≤ 1000 from ⟨fun st h => by
          rcases List.mem_or_eq_of_mem_set h with h | rfl
          · exact (HSM.out.1 st h).small
          · have h0 := (HSM.out.1 (sn, ks) (List.mem_of_getElem? HST.out)).small
            exact ⟨h0.1, Nat.le_trans (List.length_filter_le _ _) h0.2.1, fun x hx => h0.2.2 x (List.mem_filter.1 hx).1⟩, by rw [List.length_set]; have := HSM.out.2.1; omega⟩)
        refine wpIn_region_out (by kernel_rfl) (by kernel_rfl) (fun _ _ h => h) ?_
        refine wpAny_take (i := 1) (v := .int .i64 (i.val : Int)) rfl (by kernel_rfl) (by kernel_rfl) (by kernel_rfl) (fun _ _ _ h => h) (Or.inl ⟨by rfl, fun w => by go_simp⟩) ?_
        refine wpAny_take (i := 2) (v := .pointer (some ⟨Bx, 1, none⟩)) rfl (by kernel_rfl) (by kernel_rfl) (by kernel_rfl) (fun _ _ _ h => h) (Or.inl ⟨by rfl, fun w => by go_simp⟩) ?_
        refine wpAny_take (i := 4) (v := .int .i64 (j : Int)) rfl (by kernel_rfl) (by kernel_rfl) (by kernel_rfl) (fun _ _ _ h => h) (Or.inl ⟨by rfl, fun w => by go_simp⟩) ?_
        refine wpAny_take (i := 5) (v := .int .i64 (j : Int)) rfl (by kernel_rfl) (by kernel_rfl) (by kernel_rfl) (fun _ _ _ h => h) (Or.inl ⟨by rfl, fun w => by go_simp⟩) ?_
        refine wpAny_take (i := 6) (v := .int .i64 ((j : Int) + 1)) rfl (by kernel_rfl) (by kernel_rfl) (by kernel_rfl) (fun _ _ _ h => h) (Or.inl ⟨by rfl, fun w => by go_simp⟩) ?_
        refine wpAny_ready (rs := [0, 3]) (by kernel_rfl) (by simp) ?_
        refine AllReady.cons rfl (fun K hK => ?_) ?_
        · go_simp
          refine hK _ _ ?_
          clear hK K
          refine wpAny_ready (rs := [3]) (by kernel_rfl) (by simp) ?_
          refine AllReady.cons rfl (fun K hK => ?_) AllReady.nil
          go_simp
          refine hK _ _ ?_
          clear hK K
          refine wpAny_ready (rs := [7]) (by kernel_rfl) (by simp) ?_
          refine AllReady.cons rfl (fun K hK => ?_) AllReady.nil
          go_simp
          refine HDEL.out.mono ?_
          rintro e w3 ⟨rfl, ho3, hg3⟩
          obtain ⟨u1, u2, u3⟩ := HK3.out w3 hg3
          have HO3 := Lib.hid ho3
          have HG3 := Lib.hid hg3
          clear ho3 hg3
          refine hK _ _ ?_
          clear hK K
          refine wpAny_take (i := 8) (v := .pointer (some ⟨bs, i.val * 2, none⟩)) rfl (by kernel_rfl) (by kernel_rfl) (by kernel_rfl) (fun _ _ _ h => h) (Or.inl ⟨by rfl, fun w => by go_simp⟩) ?_
          refine wpAny_take (i := 9) (v := .pointer (some ⟨bs, i.val * 2 + 1, none⟩)) rfl (by kernel_rfl) (by kernel_rfl) (by kernel_rfl) (fun _ _ _ h => h) (Or.inl ⟨by rfl, fun w => by go_simp⟩) ?_
          refine wpAny_ready (rs := [10]) (by kernel_rfl) (by simp) ?_
          refine AllReady.cons rfl (fun K hK => ?_) AllReady.nil
          go_simp
          refine hK _ _ ?_
          clear hK K
          refine wpAny_done (by kernel_rfl) ?_ _
          obtain ⟨W4, hW4⟩ : ∃ W4, w3.setCell ⟨bs, i.val * 2 + 1, none⟩ (.slice (some ⟨b, 0, none⟩) (ks.length - 1) kc) = W4 := ⟨_, rfl⟩
          obtain ⟨s1, s2, s3, s4, s5, s6, s7⟩ := HT.out w3 HG3.out HO3.out W4 hW4
          rw [hW4]
          clear hW4 u1 u2 u3 m6 m9 x0 x1
          have HPUT := Lib.hid (put_one _ _ _ W4 s1 HSS.out.1 HSS.out.2)
          have HS := Lib.hid (And.intro s2 (And.intro s3 (And.intro s4 (And.intro s5 (And.intro s6 s7)))))
          have v6 := s2.cell
          clear s1 s2 s3 s4 s5 s6 s7
          gi_wp2_with (refine ⟨trivial, ?_⟩; gi_at_call 33; go_loud (refine (CallsIn.inRound lp (callsIn_wide.2 HPUT.out)).mono ?_; rintro e w5 ⟨rfl, hB6⟩; obtain ⟨t2, t3, t4, t5, t6, t7⟩ := HS.out; have g1 : Boxed w5 (r0 + 1) 9 (.string ⟨#[]⟩) := (hB6.block _ (by have := t3.lt; simp; omega)).trans (t3.alloc _); have g2 : Boxed w5 (r0 + 1 + 1) 4 (.bool false) := (hB6.block _ (by have := t4.lt; simp; omega)).trans (t4.alloc _); have q1 := g1.cell; have q2 := g2.cell; have f1 := g1.frozen; have f2 := g2.frozen; have HGG := Lib.hid (And.intro g1 g2); have HB6 := Lib.hid hB6; clear hB6 t2 t3 t4 t5 t6 t7 g1 g2))
          obtain ⟨t2, t3, t4, t5, t6, t7⟩ := HS.out
          refine ⟨t5.trans ((((KeepsOthers.alloc _ _).from _).trans (keepsFrom_below HB6.out)).trans (((KeepsOthers.setCell _ _ _).from _).trans ((KeepsOthers.setCell _ _ _).from _))), _, ⟨⟨rfl, HHK.out⟩, (HGG.out.1.set _).other (by omega) _⟩, (HGG.out.2.other (by omega) _).set _, ((((t6.alloc t7 _).trans (HB6.out.mono (by simp; omega))).setCell (p := ⟨r0 + 1, 0, none⟩) (by simp) _).setCell (p := ⟨r0 + 1 + 1, 0, none⟩) (by simp; omega) _)⟩
        refine AllReady.cons rfl (fun K hK => ?_) AllReady.nil
        go_simp
        refine hK _ _ ?_
        clear hK K
        refine wpAny_ready (rs := [0, 7]) (by kernel_rfl) (by simp) ?_
        refine AllReady.cons rfl (fun K hK => ?_) ?_
        · go_simp
          refine hK _ _ ?_
          clear hK K
          refine wpAny_ready (rs := [7]) (by kernel_rfl) (by simp) ?_
          refine AllReady.cons rfl (fun K hK => ?_) AllReady.nil
          go_simp
          refine HDEL.out.mono ?_
          rintro e w3 ⟨rfl, ho3, hg3⟩
          obtain ⟨u1, u2, u3⟩ := HK3.out w3 hg3
          have HO3 := Lib.hid ho3
          have HG3 := Lib.hid hg3
          clear ho3 hg3
          refine hK _ _ ?_
          clear hK K
          refine wpAny_take (i := 8) (v := .pointer (some ⟨bs, i.val * 2, none⟩)) rfl (by kernel_rfl) (by kernel_rfl) (by kernel_rfl) (fun _ _ _ h => h) (Or.inl ⟨by rfl, fun w => by go_simp⟩) ?_
          refine wpAny_take (i := 9) (v := .pointer (some ⟨bs, i.val * 2 + 1, none⟩)) rfl (by kernel_rfl) (by kernel_rfl) (by kernel_rfl) (fun _ _ _ h => h) (Or.inl ⟨by rfl, fun w => by go_simp⟩) ?_
          refine wpAny_ready (rs := [10]) (by kernel_rfl) (by simp) ?_
          refine AllReady.cons rfl (fun K hK => ?_) AllReady.nil
          go_simp
          refine hK _ _ ?_
          clear hK K
          refine wpAny_done (by kernel_rfl) ?_ _
          obtain ⟨W4, hW4⟩ : ∃ W4, w3.setCell ⟨bs, i.val * 2 + 1, none⟩ (.slice (some ⟨b, 0, none⟩) (ks.length - 1) kc) = W4 := ⟨_, rfl⟩
          obtain ⟨s1, s2, s3, s4, s5, s6, s7⟩ := HT.out w3 HG3.out HO3.out W4 hW4
          rw [hW4]
          clear hW4 u1 u2 u3 m6 m9 x0 x1
          have HPUT := Lib.hid (put_one _ _ _ W4 s1 HSS.out.1 HSS.out.2)
          have HS := Lib.hid (And.intro s2 (And.intro s3 (And.intro s4 (And.intro s5 (And.intro s6 s7)))))
          have v6 := s2.cell
          clear s1 s2 s3 s4 s5 s6 s7
          gi_wp2_with (refine ⟨trivial, ?_⟩; gi_at_call 33; go_loud (refine (CallsIn.inRound lp (callsIn_wide.2 HPUT.out)).mono ?_; rintro e w5 ⟨rfl, hB6⟩; obtain ⟨t2, t3, t4, t5, t6, t7⟩ := HS.out; have g1 : Boxed w5 (r0 + 1) 9 (.string ⟨#[]⟩) := (hB6.block _ (by have := t3.lt; simp; omega)).trans (t3.alloc _); have g2 : Boxed w5 (r0 + 1 + 1) 4 (.bool false) := (hB6.block _ (by have := t4.lt; simp; omega)).trans (t4.alloc _); have q1 := g1.cell; have q2 := g2.cell; have f1 := g1.frozen; have f2 := g2.frozen; have HGG := Lib.hid (And.intro g1 g2); have HB6 := Lib.hid hB6; clear hB6 t2 t3 t4 t5 t6 t7 g1 g2))
          obtain ⟨t2, t3, t4, t5, t6, t7⟩ := HS.out
          refine ⟨t5.trans ((((KeepsOthers.alloc _ _).from _).trans (keepsFrom_below HB6.out)).trans (((KeepsOthers.setCell _ _ _).from _).trans ((KeepsOthers.setCell _ _ _).from _))), _, ⟨⟨rfl, HHK.out⟩, (HGG.out.1.set _).other (by omega) _⟩, (HGG.out.2.other (by omega) _).set _, ((((t6.alloc t7 _).trans (HB6.out.mono (by simp; omega))).setCell (p := ⟨r0 + 1, 0, none⟩) (by simp) _).setCell (p := ⟨r0 + 1 + 1, 0, none⟩) (by simp; omega) _)⟩
        refine AllReady.cons rfl (fun K hK => ?_) AllReady.nil
        go_simp
        refine HDEL.out.mono ?_
        rintro e w3 ⟨rfl, ho3, hg3⟩
        obtain ⟨u1, u2, u3⟩ := HK3.out w3 hg3
        have HO3 := Lib.hid ho3
        have HG3 := Lib.hid hg3
        clear ho3 hg3
        refine hK _ _ ?_
        clear hK K
        refine wpAny_ready (rs := [0]) (by kernel_rfl) (by simp) ?_
        refine AllReady.cons rfl (fun K hK => ?_) AllReady.nil
        go_simp
        refine hK _ _ ?_
        clear hK K
        refine wpAny_take (i := 8) (v := .pointer (some ⟨bs, i.val * 2, none⟩)) rfl (by kernel_rfl) (by kernel_rfl) (by kernel_rfl) (fun _ _ _ h => h) (Or.inl ⟨by rfl, fun w => by go_simp⟩) ?_
        refine wpAny_take (i := 9) (v := .pointer (some ⟨bs, i.val * 2 + 1, none⟩)) rfl (by kernel_rfl) (by kernel_rfl) (by kernel_rfl) (fun _ _ _ h => h) (Or.inl ⟨by rfl, fun w => by go_simp⟩) ?_
        refine wpAny_ready (rs := [10]) (by kernel_rfl) (by simp) ?_
        refine AllReady.cons rfl (fun K hK => ?_) AllReady.nil
        go_simp
        refine hK _ _ ?_
        clear hK K
        refine wpAny_done (by kernel_rfl) ?_ _
        obtain ⟨W4, hW4⟩ : ∃ W4, w3.setCell ⟨bs, i.val * 2 + 1, none⟩ (.slice (some ⟨b, 0, none⟩) (ks.length - 1) kc) = W4 := ⟨_, rfl⟩
        obtain ⟨s1, s2, s3, s4, s5, s6, s7⟩ := HT.out w3 HG3.out HO3.out W4 hW4
        rw [hW4]
        clear hW4 u1 u2 u3 m6 m9 x0 x1
        have HPUT := Lib.hid (put_one _ _ _ W4 s1 HSS.out.1 HSS.out.2)
        have HS := Lib.hid (And.intro s2 (And.intro s3 (And.intro s4 (And.intro s5 (And.intro s6 s7)))))
        have v6 := s2.cell
        clear s1 s2 s3 s4 s5 s6 s7
        gi_wp2_with (refine ⟨trivial, ?_⟩; gi_at_call 33; go_loud (refine (CallsIn.inRound lp (callsIn_wide.2 HPUT.out)).mono ?_; rintro e w5 ⟨rfl, hB6⟩; obtain ⟨t2, t3, t4, t5, t6, t7⟩ := HS.out; have g1 : Boxed w5 (r0 + 1) 9 (.string ⟨#[]⟩) := (hB6.block _ (by have := t3.lt; simp; omega)).trans (t3.alloc _); have g2 : Boxed w5 (r0 + 1 + 1) 4 (.bool false) := (hB6.block _ (by have := t4.lt; simp; omega)).trans (t4.alloc _); have q1 := g1.cell; have q2 := g2.cell; have f1 := g1.frozen; have f2 := g2.frozen; have HGG := Lib.hid (And.intro g1 g2); have HB6 := Lib.hid hB6; clear hB6 t2 t3 t4 t5 t6 t7 g1 g2))
        obtain ⟨t2, t3, t4, t5, t6, t7⟩ := HS.out
        refine ⟨t5.trans ((((KeepsOthers.alloc _ _).from _).trans (keepsFrom_below HB6.out)).trans (((KeepsOthers.setCell _ _ _).from _).trans ((KeepsOthers.setCell _ _ _).from _))), _, ⟨⟨rfl, HHK.out⟩, (HGG.out.1.set _).other (by omega) _⟩, (HGG.out.2.other (by omega) _).set _, ((((t6.alloc t7 _).trans (HB6.out.mono (by simp; omega))).setCell (p := ⟨r0 + 1, 0, none⟩) (by simp) _).setCell (p := ⟨r0 + 1 + 1, 0, none⟩) (by simp; omega) _)⟩
      · have HC := Lib.hid (find_miss sn key _ ks W HKA.out (by omega) hno)
        have HNO := Lib.hid hno
        clear hno
        gi_wp2_with (refine ⟨trivial, ?_⟩; gi_at_call 40; go_loud (refine (CallsIn.inRound lp (callsIn_wide.2 HC.out)).mono ?_; rintro e w2 ⟨rfl, hB2⟩; have HB2 := Lib.hid hB2; clear hB2))
        obtain ⟨g0, g1, g2, g3, g4⟩ := HW.out
        refine ⟨keepsFrom_below HB2.out, HB2.out.mono hWs, ⟨?_, (HB2.out.block _ g0.lt).trans g0⟩, (HB2.out.block _ g1.lt).trans g1, (HB2.out.block _ g2.lt).trans g2, (HB2.out.block _ g3.lt).trans g3, g4.trans (HB2.out.mono hWs)⟩
        intro j hj
        rcases List.mem_append.1 hj with h | h
        · exact HP.out j h
        · simp at h
          subst h
          rw [HGI.out]
          rintro ⟨k, hk, he⟩
          exact HNO.out k hk he
    case done =>
      rintro D xs W hD ⟨hDs, hlen⟩ ⟨⟨hp, b0⟩, b1, b2, b3, hB⟩ hK
      have HG := Lib.hid (noK_is hDs hlen hp)
      have HBX := Lib.hid (show Below w.heap.size w W from by rw [hr0]; exact HB0.out.trans (hB.mono (by omega)))
      have q6 := b1.cell
      have q7 := b2.cell
      have f6 := b1.frozen
      have f7 := b2.frozen
      clear hDs hlen hp hB
      gi_wp2
      have hK1 := (KeepsOthers.setCell W ⟨r0 + 1, 0, none⟩ (.string p)).same D _ hK rfl
      have hK2 := (KeepsOthers.setCell _ ⟨r0 + 1 + 1, 0, none⟩ (.bool false)).same D _ hK1 rfl
      refine ⟨by simp, .inl ⟨_, _, rfl, run_takeDeferred hK2, ?_⟩⟩
      have hc6 := cell_kept ((b1.set (.string p)).other (B' := r0 + 1 + 1) (by omega) (.bool false)).cell (grownBy_putObj' _ D (.deferred none)) (fun r e => by cases e; exact ⟨_, hK2, rfl⟩)
      have hc7 := cell_kept ((b2.other (B' := r0 + 1) (by omega) (.string p)).set (.bool false)).cell (grownBy_putObj' _ D (.deferred none)) (fun r e => by cases e; exact ⟨_, hK2, rfl⟩)
      refine ⟨.tuple #[.string p, .bool false], ?_, ((HBX.out.setCell (p := ⟨r0 + 1, 0, none⟩) (by simp; omega) _).setCell (p := ⟨r0 + 1 + 1, 0, none⟩) (by simp; omega) _).trans (belowK_b (w := w) (Nat.le_refl _) _ D _ _ (by omega) hK2 rfl rfl), .inr ⟨l, HPE.out, .inl ⟨HG.out, rfl⟩⟩⟩
      simp [results, Try.f26, go_sem, hc6, hc7]
    case stop =>
      rintro D cd pre W hD hDs ⟨l', ⟨⟨rfl, hH⟩, b2⟩, b3, hB⟩ hK
      have HG := Lib.hid (hitK_is hDs hH)
      have HBX := Lib.hid (show Below w.heap.size w W from by rw [hr0]; exact hB)
      clear hDs hH hB
      gi_wp2
      refine ⟨by simp, .inl ⟨_, _, rfl, run_takeDeferred hK, ?_⟩⟩
      have hc6 := cell_kept b2.cell (grownBy_putObj' _ D (.deferred none)) (fun r e => by cases e; exact ⟨_, hK, rfl⟩)
      have hc7 := cell_kept b3.cell (grownBy_putObj' _ D (.deferred none)) (fun r e => by cases e; exact ⟨_, hK, rfl⟩)
      refine ⟨.tuple #[.string (putS (putM l')), .bool true], ?_, HBX.out.trans (belowK_b (w := w) (Nat.le_refl _) _ D _ _ (by omega) hK rfl rfl), .inr ⟨l, HPE.out, .inr ⟨l', HG.out, rfl⟩⟩⟩
      simp [results, Try.f26, go_sem, hc6, hc7]
end Go.Proofs.Ytjebaibcfmjinaa
