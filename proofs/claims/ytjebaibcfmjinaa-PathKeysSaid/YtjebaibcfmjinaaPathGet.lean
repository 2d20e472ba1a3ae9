/-
  The walk of path.Get. Condition: the string is within the reach.
-/
import Derived.Test.YtjebaibcfmjinaaPathBackw
import Derived.Test.YtjebaibcfmjinaaGetLaw
import Derived.Outline
namespace Go.Proofs.Ytjebaibcfmjinaa
open Go.RowKit Go.Shelf

attribute [local go_sem] Oper.semAt_some

theorem keepsFrom_below {B : Nat} {W W' : World} (h : Below W.heap.size W W') : KeepsFrom B W W' :=
  ⟨h.size, fun k _ _ hk _ => (h.block k (Array.getElem?_eq_some_iff.1 hk).1).trans hk⟩
theorem blk_own {β : Type} (B g : Nat) (t : TypeId) (cs : Array Value) : OwnFrom B (fun (_ : β) W => Blk W g t cs) := fun _ X _ _ hs hg hrow =>
  hs.grown hg (fun e => by obtain ⟨-, o, ho, hc⟩ := hrow g e.symm; rw [show X.heap[g]? = _ from hs] at ho; cases ho; cases hc)
theorem ownFrom_ex {β γ : Type} {B : Nat} {I : γ → β → World → Prop} (h : ∀ r, OwnFrom B (I r)) : OwnFrom B (fun s W => ∃ r, I r s W) := fun s X Y row ⟨r, hs⟩ hg hr => ⟨r, h r s X Y row hs hg hr⟩
/-- The name of none of these steps. -/
def NotIn (l : List PStep) (nm : ByteArray) (pre : List (Fin l.length)) : Prop := ∀ (i : Fin l.length), i ∈ pre → (l.get i).1 ≠ nm
/-- The last of these is the step of that name. -/
def Hit (l : List PStep) (nm key : ByteArray) (pre : List (Fin l.length)) (r : Option ByteArray) : Prop := ∃ ini last, pre = ini ++ [last] ∧ NotIn l nm ini ∧ (l.get last).1 = nm ∧ KeyIs (l.get last).2 key r
theorem hit_get {l : List PStep} {nm key : ByteArray} {pre : List (Fin l.length)} {r : Option ByteArray} (hD : Desc l.length pre) (h : Hit l nm key pre r) : GetIs l nm key r := by
  obtain ⟨ini, last, rfl, h1, h2, h3⟩ := h
  have hl := hD ini.length last (by simp)
  refine .inr ⟨last.val, l.get last, by simp, h2, ?_, h3⟩
  intro j st' hj hst
  obtain ⟨hlt, rfl⟩ := List.getElem?_eq_some_iff.1 hst
  have hini : Desc l.length ini := fun a x hx => hD a x (by rw [List.getElem?_append_left (List.getElem?_eq_some_iff.1 hx).1]; exact hx)
  exact h1 ⟨j, hlt⟩ (desc_mem hini (.inl (by simp only; omega)))
theorem none_get {l : List PStep} {nm key : ByteArray} {pre : List (Fin l.length)} (hD : Desc l.length pre) (hl : pre.length = l.length) (h : NotIn l nm pre) : GetIs l nm key none := by
  refine .inl ⟨rfl, ?_⟩
  intro st hst
  obtain ⟨j, hj, rfl⟩ := List.getElem_of_mem hst
  exact h ⟨j, hj⟩ (desc_mem hD (.inl (by simp only; omega)))

theorem find_hit (nm key : ByteArray) (kv : Value) (ks : List PKey) (w : World) (h : KeysAt w w.heap.size kv ks) (hk : ks.length ≤ 1000000) {j : Nat} {k : PKey} (h1 : ks[j]? = some k) (h2 : k.1 = key) (h3 : ∀ k' ∈ ks.take j, k'.1 ≠ key) :
    Calls Try.prog 40 #[.agg #[.string nm, kv], .string key] w fun en w' => en = .returned (.int .i64 (j : Int)) ∧ Below w.heap.size w w' :=
  (find_any nm key kv ks w h hk).mono fun en w' ⟨⟨r, he, hF⟩, hB⟩ => by
    refine ⟨?_, hB⟩
    rcases hF with ⟨i, k', rfl, g1, g2, g3⟩ | ⟨rfl, hn⟩
    · rcases Nat.lt_trichotomy j i with h | rfl | h
      · exact absurd h2 (g3 k (List.mem_iff_getElem?.2 ⟨j, by rw [List.getElem?_take]; simp [h, h1]⟩))
      · exact he
      · exact absurd g2 (h3 k' (List.mem_iff_getElem?.2 ⟨i, by rw [List.getElem?_take]; simp [h, g1]⟩))
    · exact absurd h2 (hn k (List.mem_of_getElem? h1))
theorem find_miss (nm key : ByteArray) (kv : Value) (ks : List PKey) (w : World) (h : KeysAt w w.heap.size kv ks) (hk : ks.length ≤ 1000000) (h3 : ∀ k' ∈ ks, k'.1 ≠ key) :
    Calls Try.prog 40 #[.agg #[.string nm, kv], .string key] w fun en w' => en = .returned (.int .i64 (-1)) ∧ Below w.heap.size w w' :=
  (find_any nm key kv ks w h hk).mono fun en w' ⟨⟨r, he, hF⟩, hB⟩ => by
    refine ⟨?_, hB⟩
    rcases hF with ⟨i, k', rfl, g1, g2, g3⟩ | ⟨rfl, hn⟩
    · exact absurd g2 (h3 k' (List.mem_of_getElem? g1))
    · exact he

set_option maxRecDepth 100000 in
set_option maxHeartbeats 4000000 in
theorem get_any (p nm key : ByteArray) (w : World) (hs : p.size ≤ 140737488355328) :
    Calls Try.prog 17 #[.string p, .string nm, .string key] w (GetPost (parseL p) nm key w) := by
  have hP := fun W => (parse_any p W hs).mono fun _ _ h => h.l
  have HP := Lib.hid hP
  have HSM := Lib.hid (parseL_small p)
  clear hP hs
  generalize parseL p = l at *
  refine (callsIn_wide (n := 9)).1 ?_
  refine callsIn_of_wp_marks Try.func17 rfl trivial ?_ rfl
  simp only [Try.ntmps17, List.size_toArray, List.length_cons, List.length_nil, Nat.reduceAdd, Nat.reduceSub, Array.replicate_succ, Array.replicate_zero, List.push_toArray, List.append_toArray, List.nil_append, List.cons_append]
  gi_wp2_with (first
    | (refine ⟨trivial, ?_⟩; gi_at_call 28; go_loud (refine (callsIn_wide.2 (HP.out _)).mono ?_; rintro e w1 ⟨hB1, A, c, x, y, vs, rfl, hR1⟩; have HB1 := Lib.hid hB1; have HR1 := Lib.hid hR1; clear hB1 hR1))
    | (refine ⟨trivial, ?_⟩; gi_at_call 39; refine (backward_in Fence.wide _ trivial rfl _ _ _ _).mono ?_; rintro e w' ⟨rfl, rfl⟩))
  have hR1 := HR1.out
  have hsz1 : w.heap.size + 4 ≤ w1.heap.size := by have := HB1.out.size; simp at this; omega
  obtain ⟨W0, hW0⟩ : ∃ W0, (w1.alloc (.cells #[.int .i64 x, .int .i64 y] 26)).alloc (.cells #[.slice A l.length c] 32) = W0 := ⟨_, rfl⟩
  have hb10 : Below w1.heap.size w1 W0 := by rw [← hW0]; exact ((Below.refl _ w1).alloc (Nat.le_refl _) _).alloc (by simp) _
  have hsz0 : W0.heap.size = w1.heap.size + 2 := by rw [← hW0]; simp
  have bx : ∀ (k : Nat) (t : TypeId) (v : Value), k < w.heap.size + 4 → Boxed ((((w.alloc (.cells #[.string nm] 9)).alloc (.cells #[.string key] 9)).alloc (.cells #[.string ByteArray.empty] 9)).alloc (.cells #[.bool false] 4)) k t v → Boxed W0 k t v := fun k t v hk hb =>
    (hb10.block k (by omega)).trans ((HB1.out.block k (by simp; omega)).trans hb)
  have b0 : Boxed W0 w.heap.size 9 (.string nm) := bx _ _ _ (by omega) (((((Boxed.new w 9 (.string nm)).alloc _).alloc _).alloc _))
  have b1 : Boxed W0 (w.heap.size + 1) 9 (.string key) := bx _ _ _ (by omega) (by have := (((Boxed.new (w.alloc (.cells #[.string nm] 9)) 9 (.string key)).alloc (.cells #[.string ByteArray.empty] 9)).alloc (.cells #[.bool false] 4)); simpa using this)
  have b2 : Boxed W0 (w.heap.size + 1 + 1) 9 (.string ByteArray.empty) := bx _ _ _ (by omega) (by have := ((Boxed.new ((w.alloc (.cells #[.string nm] 9)).alloc (.cells #[.string key] 9)) 9 (.string ByteArray.empty)).alloc (.cells #[.bool false] 4)); simpa using this)
  have b3 : Boxed W0 (w.heap.size + 1 + 1 + 1) 4 (.bool false) := bx _ _ _ (by omega) (by have := (Boxed.new (((w.alloc (.cells #[.string nm] 9)).alloc (.cells #[.string key] 9)).alloc (.cells #[.string ByteArray.empty] 9)) 4 (.bool false)); simpa using this)
  have bS : W0.cell? ⟨w1.heap.size + 1, 0, none⟩ = some (.slice A l.length c) := by
    rw [← hW0]
    simp
  have hB0 : Below w.heap.size w W0 := ((((((Below.refl _ w).alloc (Nat.le_refl _) _).alloc (by simp) _).alloc (by simp; omega) _).alloc (by simp; omega) _).trans (HB1.out.mono (by simp; omega))).trans (hb10.mono (by omega))
  have hR0 := hR1.more hb10
  rw [hW0]
  have HB0 := Lib.hid hB0
  have HR0 := Lib.hid hR0
  clear hW0 hb10 bx hB0 hR0 hR1
  generalize hr9 : w1.heap.size = r9 at *
  generalize hr0 : w.heap.size = r0 at *
  refine wpIn_rangeFunc_ownH rfl (by decide) (gf := 60) (lb := #[.pointer (some ⟨r9 + 1, 0, none⟩)]) rfl trivial (enters_of Try.func60 (by kernel_rfl) rfl)
    (backward_stops Fence.wide 8 trivial rfl (by decide) (r9 + 1) W0.heap.size A c l vs (by obtain ⟨_, _, _, _, _, _, h5, _⟩ := HR0.out; exact h5) HR0.out.slices (by have := HSM.out.2; omega) W0 (by omega) (Nat.le_refl _) bS (by obtain ⟨_, _, e, _, _, h, _⟩ := HR0.out; cases e; exact h)) belowK_t (belowK_b (Nat.le_refl _)) (Below.refl _ _) (fun _ => rfl)
    (fun pre W => (NotIn l nm pre ∧ Boxed W r0 9 (.string nm)) ∧ Boxed W (r0 + 1) 9 (.string key) ∧ Boxed W (r0 + 1 + 1) 9 (.string ByteArray.empty) ∧ Boxed W (r0 + 1 + 1 + 1) 4 (.bool false) ∧ Below W0.heap.size W0 W)
    (fun cd pre W => ∃ r, ((cd = (if r.isSome then Code.ret else Code.exit 0) ∧ Hit l nm key pre r) ∧ Boxed W (r0 + 1 + 1) 9 (.string (r.getD ByteArray.empty))) ∧ Boxed W (r0 + 1 + 1 + 1) 4 (.bool r.isSome) ∧ Below r0 w W)
    (OwnFrom.and (OwnFrom.and (ownFrom_pure _ _) (Own.from (boxed_own _ _ _) _)) (OwnFrom.and (Own.from (boxed_own _ _ _) _) (OwnFrom.and (Own.from (boxed_own _ _ _) _) (OwnFrom.and (Own.from (boxed_own _ _ _) _) (ownFrom_below (Nat.le_refl _) (Nat.le_refl _))))))
    (fun cd => ownFrom_ex fun r => OwnFrom.and (OwnFrom.and (ownFrom_pure _ _) (Own.from (boxed_own _ _ _) _)) (OwnFrom.and (Own.from (boxed_own _ _ _) _) (ownFrom_below (by omega) (by omega))))
    ⟨⟨fun i h => (by cases h), b0⟩, b1, b2, b3, Below.refl _ _⟩
    (fun i a' W => ∃ Bx, W0.heap.size ≤ Bx ∧ Blk W Bx 40 #[.string (l.get i).1, .slice (sliceA (vs.getD i.val undef)) (sliceN (vs.getD i.val undef)) (sliceC (vs.getD i.val undef))] ∧ a' = { tmps := #[.string p, .string nm, .string key, undef, .pointer (some ⟨r0, 0, none⟩), .pointer (some ⟨r0 + 1, 0, none⟩), .pointer (some ⟨r0 + 1 + 1, 0, none⟩), .pointer (some ⟨r0 + 1 + 1 + 1, 0, none⟩), .slice A l.length c, .pointer (some ⟨r9, 0, none⟩), undef, .pointer (some ⟨Bx, 0, none⟩), undef, .tuple #[.slice A l.length c, .agg #[.int .i64 x, .int .i64 y]], .string p, .tuple #[.slice A l.length c, .agg #[.int .i64 x, .int .i64 y]], .slice A l.length c, .agg #[.int .i64 x, .int .i64 y], .slice A l.length c, .func (.func 60) #[] #[.pointer (some ⟨r9 + 1, 0, none⟩)], .int .i64 (i.val : Int), .agg #[.string (l.get i).1, .slice (sliceA (vs.getD i.val undef)) (sliceN (vs.getD i.val undef)) (sliceC (vs.getD i.val undef))], undef, undef, undef, undef, undef, undef, undef, undef, undef, undef, undef, undef, undef, undef, undef], defers := [] })
    (fun i a' => ownFrom_ex fun Bx => OwnFrom.and (ownFrom_pure _ _) (OwnFrom.and (blk_own _ _ _ _) (ownFrom_pure _ _)))
    ?assign ?body ?done ?stop
  case assign =>
    rintro lp pre i W K ⟨⟨hp, b0⟩, b1, b2, b3, hB⟩ hK
    have HI := Lib.hid (And.intro hp (And.intro b0 (And.intro b1 (And.intro b2 (And.intro b3 hB)))))
    clear hp b0 b1 b2 b3 hB
    simp only [bkEnc]
    gi_wp2
    obtain ⟨hp, b0, b1, b2, b3, hB⟩ := HI.out
    exact hK _ _ ((KeepsOthers.alloc _ _).from _) ((Below.refl _ W).alloc hB.size _) ⟨⟨hp, b0.alloc _⟩, b1.alloc _, b2.alloc _, b3.alloc _, hB.alloc hB.size _⟩ ⟨W.heap.size, hB.size, Blk.new W _ _, rfl⟩
  case body =>
    rintro lp pre i a' W hl ⟨rr, hr⟩ ⟨⟨hp, b0⟩, b1, b2, b3, hB⟩ ⟨Bx, hBx, bX, rfl⟩ hlt
    have cB := b0.cell
    have cK := b1.cell
    obtain ⟨kv, hkv⟩ : ∃ kv, vs[i.val]? = some kv := by
      obtain ⟨_, _, _, _, _, _, h5, _⟩ := HR0.out
      have := i.isLt
      exact ⟨vs[i.val]'(by omega), by simp [show i.val < vs.length by omega]⟩
    have hK : KeysAt W W.heap.size kv (l.get i).2 := by
      obtain ⟨_, _, _, _, _, _, _, h6⟩ := HR0.out
      exact (h6 i.val (l.get i) kv (by simp) hkv).more hB hB.size
    have hgd : vs.getD i.val undef = kv := by rw [List.getD_eq_getElem?_getD, hkv]; rfl
    have hkl : (l.get i).2.length ≤ 1000000 := by
      have := (HSM.out.1 (l.get i) (List.get_mem _ _)).2.1
      omega
    obtain ⟨ka, kc, rfl, -⟩ := id hK
    rw [hgd] at bX ⊢
    simp only [sliceA, sliceN, sliceC] at bX ⊢
    have HS := Lib.hid (show ∃ st, l.get i = st from ⟨_, rfl⟩)
    have HP := Lib.hid hp
    have HW := Lib.hid (And.intro b0 (And.intro b1 (And.intro b2 (And.intro b3 hB))))
    clear hgd hkv hr hlt hp HS
    generalize hst : l.get i = st at *
    have HST := Lib.hid hst
    clear hst
    obtain ⟨sn, ks⟩ := st
    simp only at *
    have x0 := bX.cell 0
    have x1 := bX.cell 1
    have HX := Lib.hid bX
    have HKA := Lib.hid hK
    clear b0 b1 b2 b3 hB bX hK
    have HHE := Lib.hid (show W.heap.size ≤ W.heap.size from Nat.le_refl _)
    have HB5 := Lib.hid (show Below r0 w W from HB0.out.trans (HW.out.2.2.2.2.mono (by omega)))
    by_cases hn : sn = nm
    · have hb : (sn.toList == nm.toList) = true := by simp [hn]
      have hb2 : sn.toList = nm.toList := by rw [hn]
      have HN := Lib.hid hn
      clear hn
      have hWs : W0.heap.size ≤ W.heap.size := HW.out.2.2.2.2.size
      rcases find_cases key ks with ⟨j, k, hj, hk, ht⟩ | hno
      · have HC := Lib.hid (find_hit sn key _ ks W HKA.out hkl hj hk ht)
        have hjl : (j : Int) < (ks.length : Int) := by have := (List.getElem?_eq_some_iff.1 hj).1; omega
        have HR := Lib.hid (show Hit l nm key (pre ++ [i]) (some k.2) from ⟨pre, i, rfl, HP.out, by rw [HST.out]; exact HN.out, by rw [HST.out]; exact .inr ⟨j, k, hj, hk, ht, rfl⟩⟩)
        have HJ := Lib.hid hj
        clear hj hk ht
        gi_wp2_with (refine ⟨trivial, ?_⟩; gi_at_call 40; go_loud (refine (CallsIn.inRound lp (callsIn_wide.2 HC.out)).mono ?_; rintro e w2 ⟨rfl, hB2⟩; have HB2 := Lib.hid hB2; clear hB2; have c20 := (HX.out.below HB2.out HX.out.lt).cell 1; have c26 := (HB2.out.block _ HW.out.2.2.1.lt).trans HW.out.2.2.1; have c27 := (HB2.out.block _ HW.out.2.2.2.1.lt).trans HW.out.2.2.2.1; have HC26 := Lib.hid (show Boxed w2 (r0 + 1 + 1) 9 (.string ByteArray.empty) from c26); have HC27 := Lib.hid (show Boxed w2 (r0 + 1 + 1 + 1) 4 (.bool false) from c27); have q6 := HC26.out.cell; have q7 := HC27.out.cell; have f6 := HC26.out.frozen; have f7 := HC27.out.frozen; clear c26 c27; obtain ⟨Ak, ck, eAk, hk1, hk2, hkr⟩ := HKA.out.more HB2.out HB2.out.size; cases eAk; obtain ⟨kb, ko, rfl, hkb, hkc⟩ := hkr.spot (by omega) (by omega); have q5 : w2.cell? ⟨kb, ko + j * 2 + 1, none⟩ = some (.string k.2) := hkc _ _ (pairCells_at ks j k HJ.out).2; clear hkc hkr))
        exact ⟨(keepsFrom_below HB2.out).trans (((KeepsOthers.setCell _ _ _).from _).trans ((KeepsOthers.setCell _ _ _).from _)), some k.2, ⟨⟨rfl, HR.out⟩, (HC26.out.set (.string k.2)).other (by omega) (.bool true)⟩, (HC27.out.other (by omega) (.string k.2)).set (.bool true), ((HB5.out.trans (HB2.out.mono (by have := hr0; have := HB5.out.size; omega))).setCell (p := ⟨r0 + 1 + 1, 0, none⟩) (by simp; omega) _).setCell (p := ⟨r0 + 1 + 1 + 1, 0, none⟩) (by simp; omega) _⟩
      · have HC := Lib.hid (find_miss sn key _ ks W HKA.out hkl hno)
        have HR := Lib.hid (show Hit l nm key (pre ++ [i]) none from ⟨pre, i, rfl, HP.out, by rw [HST.out]; exact HN.out, by rw [HST.out]; exact .inl ⟨rfl, hno⟩⟩)
        clear hno
        gi_wp2_with (refine ⟨trivial, ?_⟩; gi_at_call 40; go_loud (refine (CallsIn.inRound lp (callsIn_wide.2 HC.out)).mono ?_; rintro e w2 ⟨rfl, hB2⟩; have HB2 := Lib.hid hB2; clear hB2))
        exact ⟨keepsFrom_below HB2.out, none, ⟨⟨rfl, HR.out⟩, (HB2.out.block _ HW.out.2.2.1.lt).trans HW.out.2.2.1⟩, (HB2.out.block _ HW.out.2.2.2.1.lt).trans HW.out.2.2.2.1, HB5.out.trans (HB2.out.mono (by have := hr0; have := HB5.out.size; omega))⟩
    · have hb : (sn.toList == nm.toList) = false := by rw [ba_beq]; simp [hn]
      have hb2 : ¬ sn.toList = nm.toList := fun e => hn (ba_ext e)
      have HN := Lib.hid hn
      clear hn
      gi_wp2
      obtain ⟨g0, g1, g2, g3, g4⟩ := HW.out
      refine ⟨KeepsFrom.refl _ _, Below.refl _ _, ⟨?_, g0⟩, g1, g2, g3, g4⟩
      intro j hj
      rcases List.mem_append.1 hj with h | h
      · exact HP.out j h
      · simp at h
        subst h
        rw [HST.out]
        exact HN.out
  case done =>
    rintro D xs W hD ⟨hDs, hlen⟩ ⟨⟨hp, b0⟩, b1, b2, b3, hB⟩ hK
    have HG := Lib.hid (none_get hDs hlen hp (key := key))
    have HBX := Lib.hid (show Below w.heap.size w W from by rw [hr0]; exact HB0.out.trans (hB.mono (by omega)))
    have q6 := b2.cell
    have q7 := b3.cell
    have f6 := b2.frozen
    have f7 := b3.frozen
    clear hDs hlen hp hB
    gi_wp2
    have hK1 := (KeepsOthers.setCell W ⟨r0 + 1 + 1, 0, none⟩ (.string ⟨#[]⟩)).same D _ hK rfl
    have hK2 := (KeepsOthers.setCell _ ⟨r0 + 1 + 1 + 1, 0, none⟩ (.bool false)).same D _ hK1 rfl
    refine ⟨by simp, .inl ⟨_, _, rfl, run_takeDeferred hK2, ?_⟩⟩
    have hc6 := cell_kept ((b2.set (.string ⟨#[]⟩)).other (B' := r0 + 1 + 1 + 1) (by omega) (.bool false)).cell (grownBy_putObj' _ D (.deferred none)) (fun r e => by cases e; exact ⟨_, hK2, rfl⟩)
    have hc7 := cell_kept ((b3.other (B' := r0 + 1 + 1) (by omega) (.string ⟨#[]⟩)).set (.bool false)).cell (grownBy_putObj' _ D (.deferred none)) (fun r e => by cases e; exact ⟨_, hK2, rfl⟩)
    refine ⟨.tuple #[.string ⟨#[]⟩, .bool false], ?_, none, HG.out, rfl, ((HBX.out.setCell (p := ⟨r0 + 1 + 1, 0, none⟩) (by simp; omega) _).setCell (p := ⟨r0 + 1 + 1 + 1, 0, none⟩) (by simp; omega) _).trans (belowK_b (w := w) (Nat.le_refl _) _ D _ _ (by omega) hK2 rfl rfl)⟩
    simp [results, Try.f17, go_sem, hc6, hc7]
  case stop =>
    rintro D cd pre W hD hDs ⟨r, ⟨⟨rfl, hH⟩, b2⟩, b3, hB⟩ hK
    have HG := Lib.hid (hit_get hDs hH)
    have HBX := Lib.hid (show Below w.heap.size w W from by rw [hr0]; exact hB)
    clear hDs hH hB
    cases r with
    | none =>
      have q6 := b2.cell
      have q7 := b3.cell
      have f6 := b2.frozen
      have f7 := b3.frozen
      simp only [Option.getD_none, Option.isSome_none] at b2 b3 q6 q7
      rw [show (if (none : Option ByteArray).isSome = true then Code.ret else Code.exit 0) = Code.exit 0 from rfl]
      gi_wp2
      have hK1 := (KeepsOthers.setCell W ⟨r0 + 1 + 1, 0, none⟩ (.string ⟨#[]⟩)).same D _ hK rfl
      have hK2 := (KeepsOthers.setCell _ ⟨r0 + 1 + 1 + 1, 0, none⟩ (.bool false)).same D _ hK1 rfl
      refine ⟨by simp, .inl ⟨_, _, rfl, run_takeDeferred hK2, ?_⟩⟩
      have hc6 := cell_kept ((b2.set (.string ⟨#[]⟩)).other (B' := r0 + 1 + 1 + 1) (by omega) (.bool false)).cell (grownBy_putObj' _ D (.deferred none)) (fun r e => by cases e; exact ⟨_, hK2, rfl⟩)
      have hc7 := cell_kept ((b3.other (B' := r0 + 1 + 1) (by omega) (.string ⟨#[]⟩)).set (.bool false)).cell (grownBy_putObj' _ D (.deferred none)) (fun r e => by cases e; exact ⟨_, hK2, rfl⟩)
      refine ⟨.tuple #[.string ⟨#[]⟩, .bool false], ?_, none, HG.out, rfl, ((HBX.out.setCell (p := ⟨r0 + 1 + 1, 0, none⟩) (by simp; omega) _).setCell (p := ⟨r0 + 1 + 1 + 1, 0, none⟩) (by simp; omega) _).trans (belowK_b (w := w) (Nat.le_refl _) _ D _ _ (by omega) hK2 rfl rfl)⟩
      simp [results, Try.f17, go_sem, hc6, hc7]
    | some v =>
      simp only [Option.getD_some, Option.isSome_some] at b2 b3
      rw [show (if (some v : Option ByteArray).isSome = true then Code.ret else Code.exit 0) = Code.ret from rfl]
      gi_wp2
      refine ⟨by simp, .inl ⟨_, _, rfl, run_takeDeferred hK, ?_⟩⟩
      have hc6 := cell_kept b2.cell (grownBy_putObj' _ D (.deferred none)) (fun r e => by cases e; exact ⟨_, hK, rfl⟩)
      have hc7 := cell_kept b3.cell (grownBy_putObj' _ D (.deferred none)) (fun r e => by cases e; exact ⟨_, hK, rfl⟩)
      refine ⟨.tuple #[.string v, .bool true], ?_, some v, HG.out, rfl, HBX.out.trans (belowK_b (w := w) (Nat.le_refl _) _ D _ _ (by omega) hK rfl rfl)⟩
      simp [results, Try.f17, go_sem, hc6, hc7]
end Go.Proofs.Ytjebaibcfmjinaa
