/-
  The walks of bundle's Encode, Size, Texts, Paths, Tables. Condition: the texts are within the reach; at most 100 Books of at most 5000 values.
-/
import Derived.Test.YtfpepdjffehbcaaGreatBunBytes
set_option linter.unusedVariables false
set_option linter.unusedSimpArgs false
namespace Go.Proofs.YtfpepdjffehbcaaGreat
open Go.RowKit

/-- A bundle that is not large. -/
def InB (l : List PStep) : Prop := l.length ≤ 100 ∧ ∀ b ∈ l, b.1.size ≤ 140737488355328 ∧ (∀ x ∈ b.2, x.1.size ≤ 140737488355328 ∧ x.2.size ≤ 140737488355328) ∧ b.2.length ≤ 5000
theorem InB.few {l : List PStep} (h : InB l) : BunFew l := ⟨h.1, fun b hb => (h.2 b hb).2.2⟩
/-- A bundle taken by value, laid out. -/
theorem lay_in {v : Value} {l : List PStep} {vs : List Value} {w : World} (h : StepsR w v l vs) (hin : InB l) : ∃ A c, v = .slice A l.length c ∧ ∀ n, l.length = n →
    Calls Tryz.prog 37 #[.agg #[.slice A n c]] (w.alloc (.cells #[.slice A n c] 24)) (fun en w' => ((((checkB l).1 ≠ 0 ∧ en = .returned (.tuple #[.pointer none, .int .i64 (checkB l).1])) ∨ ((checkB l).1 = 0 ∧ ∃ g : Nat, en = .returned (.tuple #[.pointer (some ⟨g, 0, none⟩), .int .i64 0]) ∧ LayAt l g w')) ∧ Below w.heap.size w w')) := by
  have HS := Lib.hid h
  obtain ⟨A, c, rfl, -, -, -, -, -⟩ := h
  refine ⟨A, c, rfl, fun n hn => ?_⟩
  subst hn
  have hb := (Below.refl _ w).alloc (Nat.le_refl _) (.cells #[.slice A l.length c] 24)
  refine (lay_any _ l vs _ (HS.out.more hb) hin.2 hin.1).mono ?_
  rintro en w' ⟨h1, h2⟩
  refine ⟨?_, hb.trans (h2.mono (by simp))⟩
  rcases h1 with h1 | ⟨h1, g, h3, -, h4⟩
  · exact .inl h1
  · exact .inr ⟨h1, g, h3, h4⟩
/-- What a question about a bundle answers: an error and nothing, or what is asked. -/
def AskPost (l : List PStep) (no : Value) (P : Value → World → Prop) (w : World) (en : Ending) (w' : World) : Prop := (((checkB l).1 ≠ 0 ∧ en = .returned (.tuple #[no, .int .i64 (checkB l).1])) ∨ ((checkB l).1 = 0 ∧ ∃ v, en = .returned (.tuple #[v, .int .i64 0]) ∧ P v w')) ∧ Below w.heap.size w w'
def EncPost (l : List PStep) (w : World) (en : Ending) (w' : World) : Prop := (((checkB l).1 ≠ 0 ∧ en = .returned (.tuple #[.slice none 0 0, .int .i64 (checkB l).1])) ∨ ((checkB l).1 = 0 ∧ 16777216 < (bytesB l).length ∧ en = .returned (.tuple #[.slice none 0 0, .int .i64 3])) ∨ ((checkB l).1 = 0 ∧ (bytesB l).length ≤ 16777216 ∧ ∃ v, en = .returned (.tuple #[v, .int .i64 0]) ∧ OB w' w.heap.size 5 v (bytesB l))) ∧ Below w.heap.size w w'
theorem bytes_few {l : List PStep} (h : (checkB l).1 = 0) (hf : BunFew l) : (bytesB l).length ≤ 29000000004 := by
  have := (few_all h hf).len
  unfold bytesB
  rw [List.length_append, le_len]
  omega
theorem bytes_own {l : List PStep} {g : Nat} {w : World} (hc : (checkB l).1 = 0) (hf : BunFew l) (h : LayAt l g w) : Calls Tryz.prog 38 #[.pointer (some ⟨g, 0, none⟩)] w (fun e w' => ∃ A c, e = .returned (.slice A (bytesB l).length c) ∧ OB w' w.heap.size 5 (.slice A (bytesB l).length c) (bytesB l) ∧ Below w.heap.size w w') := by
  refine (bbytes_any l g w hc hf h).mono ?_
  rintro e w' ⟨v, rfl, ho, hb⟩
  obtain ⟨A, c, rfl, -, -, -⟩ := OB.form ho
  exact ⟨A, c, rfl, ho, hb⟩
def TabsPL (W : World) (v : Value) (ts : List (List RowI)) : Prop := ∃ qs : List (Value × List RowI), qs.map Prod.snd = ts ∧ TabsP W W.heap.size v qs
set_option maxHeartbeats 4000000 in
set_option maxRecDepth 100000 in
theorem bencode_any (v : Value) (l : List PStep) (vs : List Value) (w : World) (h : StepsR w v l vs) (hin : InB l) :
    Calls Tryz.prog 10 #[.agg #[v]] w (EncPost l w) := by
  obtain ⟨A, c, rfl, hla⟩ := lay_in h hin
  have HF := Lib.hid hin.few
  obtain ⟨n, hn⟩ : ∃ n, l.length = n := ⟨_, rfl⟩
  have HLA := Lib.hid (hla n hn)
  rw [hn]
  clear hla hn h hin
  obtain ⟨e0, he0⟩ : ∃ e0, (checkB l).1 = e0 := ⟨_, rfl⟩
  have HE0 := Lib.hid he0
  rw [he0] at HLA
  clear he0
  by_cases hz : e0 = 0
  · subst hz
    have HLB := Lib.hid (HLA.out.mono (R' := fun en w' => (∃ g : Nat, en = .returned (.tuple #[.pointer (some ⟨g, 0, none⟩), .int .i64 0]) ∧ LayAt l g w') ∧ Below w.heap.size w w') (by
      rintro en w' ⟨h1 | ⟨-, h1⟩, h2⟩
      · exact absurd rfl h1.1
      · exact ⟨h1, h2⟩))
    clear HLA
    go_enter Tryz.func10, Tryz.ntmps10
    go_upto_region 4 with (go_at_call 37; go_must (refine HLB.out.mono ?_; rintro en w2 ⟨⟨g, rfl, hla⟩, hb2⟩; have HB2 := Lib.hid hb2; have HLY := Lib.hid hla; clear hb2 hla))
    have HBY := Lib.hid (bytes_own HE0.out HF.out HLY.out)
    have hlb := bytes_few HE0.out HF.out
    obtain ⟨m, hm⟩ : ∃ m, (bytesB l).length = m := ⟨_, rfl⟩
    have HMQ := Lib.hid hm
    rw [hm] at HBY hlb
    clear hm
    by_cases hbig : 16777216 < m
    · have hbig2 : (16777216 : Int) < (m : Int) := by omega
      go_wp2_with (go_at_call 38; go_must (refine HBY.out.mono ?_; rintro en w3 ⟨A3, c3, rfl, ho3, hb3⟩; have HB3 := Lib.hid hb3; clear ho3 hb3))
      go_ret2
      exact ⟨.inr (.inl ⟨HE0.out, by rw [HMQ.out]; exact hbig, rfl⟩), HB2.out.trans (HB3.out.mono HB2.out.size)⟩
    · have hbig2 : ¬ (16777216 : Int) < (m : Int) := by omega
      go_wp2_with (go_at_call 38; go_must (refine HBY.out.mono ?_; rintro en w3 ⟨A3, c3, rfl, ho3, hb3⟩; have HB3 := Lib.hid hb3; have HO3 := Lib.hid ho3; clear ho3 hb3))
      go_ret2
      exact ⟨.inr (.inr ⟨HE0.out, by rw [HMQ.out]; omega, _, rfl, by rw [← HMQ.out] at HO3 ⊢; exact HO3.out.base HB2.out.size⟩), HB2.out.trans (HB3.out.mono HB2.out.size)⟩
  · have hz1 : (e0 == 0) = false := by simpa using hz
    have HLB := Lib.hid (HLA.out.mono (R' := fun en w' => en = .returned (.tuple #[.pointer none, .int .i64 e0]) ∧ Below w.heap.size w w') (by
      rintro en w' ⟨⟨-, h1⟩ | ⟨h1, -⟩, h2⟩
      · exact ⟨h1, h2⟩
      · exact absurd h1 hz))
    have HNO := Lib.hid (fun (W : World) (hb : Below w.heap.size w W) => (show EncPost l w (.returned (.tuple #[.slice none 0 0, .int .i64 e0])) W from ⟨.inl ⟨by rw [HE0.out]; exact hz, by rw [HE0.out]⟩, hb⟩))
    clear HLA hz HE0
    go_enter Tryz.func10, Tryz.ntmps10
    go_wp2_with (go_at_call 37; go_must (refine HLB.out.mono ?_; rintro en w2 ⟨rfl, hb2⟩; have HB2 := Lib.hid hb2; clear hb2))
    go_ret2
    exact HNO.out _ HB2.out
set_option maxHeartbeats 4000000 in
set_option maxRecDepth 100000 in
theorem bsize_any (v : Value) (l : List PStep) (vs : List Value) (w : World) (h : StepsR w v l vs) (hin : InB l) :
    Calls Tryz.prog 11 #[.agg #[v]] w (AskPost l (.int .i64 0) (fun v _ => v = .int .i64 ((bytesB l).length : Int)) w) := by
  obtain ⟨A, c, rfl, hla⟩ := lay_in h hin
  have HF := Lib.hid hin.few
  obtain ⟨n, hn⟩ : ∃ n, l.length = n := ⟨_, rfl⟩
  have HLA := Lib.hid (hla n hn)
  rw [hn]
  clear hla hn h hin
  obtain ⟨e0, he0⟩ : ∃ e0, (checkB l).1 = e0 := ⟨_, rfl⟩
  have HE0 := Lib.hid he0
  rw [he0] at HLA
  clear he0
  by_cases hz : e0 = 0
  · subst hz
    have HLB := Lib.hid (HLA.out.mono (R' := fun en w' => (∃ g : Nat, en = .returned (.tuple #[.pointer (some ⟨g, 0, none⟩), .int .i64 0]) ∧ LayAt l g w') ∧ Below w.heap.size w w') (by
      rintro en w' ⟨h1 | ⟨-, h1⟩, h2⟩
      · exact absurd rfl h1.1
      · exact ⟨h1, h2⟩))
    clear HLA
    go_enter Tryz.func11, Tryz.ntmps11
    go_upto_region 4 with (go_at_call 37; go_must (refine HLB.out.mono ?_; rintro en w2 ⟨⟨g, rfl, hla⟩, hb2⟩; have HB2 := Lib.hid hb2; have HLY := Lib.hid hla; clear hb2 hla))
    have HBY := Lib.hid (bytes_own HE0.out HF.out HLY.out)
    have hlb := bytes_few HE0.out HF.out
    obtain ⟨m, hm⟩ : ∃ m, (bytesB l).length = m := ⟨_, rfl⟩
    have HMQ := Lib.hid hm
    rw [hm] at HBY hlb
    clear hm
    go_wp2_with (go_at_call 38; go_must (refine HBY.out.mono ?_; rintro en w3 ⟨A3, c3, rfl, ho3, hb3⟩; have HB3 := Lib.hid hb3; clear ho3 hb3))
    go_ret2
    exact ⟨.inr ⟨HE0.out, _, rfl, by rw [HMQ.out]; rfl⟩, HB2.out.trans (HB3.out.mono HB2.out.size)⟩
  · have hz1 : (e0 == 0) = false := by simpa using hz
    have HLB := Lib.hid (HLA.out.mono (R' := fun en w' => en = .returned (.tuple #[.pointer none, .int .i64 e0]) ∧ Below w.heap.size w w') (by
      rintro en w' ⟨⟨-, h1⟩ | ⟨h1, -⟩, h2⟩
      · exact ⟨h1, h2⟩
      · exact absurd h1 hz))
    have HNO := Lib.hid (fun (W : World) (hb : Below w.heap.size w W) => (show AskPost l (.int .i64 0) (fun v _ => v = .int .i64 ((bytesB l).length : Int)) w (.returned (.tuple #[.int .i64 0, .int .i64 e0])) W from ⟨.inl ⟨by rw [HE0.out]; exact hz, by rw [HE0.out]⟩, hb⟩))
    clear HLA hz HE0
    go_enter Tryz.func11, Tryz.ntmps11
    go_wp2_with (go_at_call 37; go_must (refine HLB.out.mono ?_; rintro en w2 ⟨rfl, hb2⟩; have HB2 := Lib.hid hb2; clear hb2))
    go_ret2
    exact HNO.out _ HB2.out
set_option maxHeartbeats 4000000 in
set_option maxRecDepth 100000 in
theorem btexts_any (v : Value) (l : List PStep) (vs : List Value) (w : World) (h : StepsR w v l vs) (hin : InB l) :
    Calls Tryz.prog 16 #[.agg #[v]] w (AskPost l (.slice none 0 0) (fun v w' => Txts w' w'.heap.size v (textsP l)) w) := by
  obtain ⟨A, c, rfl, hla⟩ := lay_in h hin
  have HF := Lib.hid hin.few
  obtain ⟨n, hn⟩ : ∃ n, l.length = n := ⟨_, rfl⟩
  have HLA := Lib.hid (hla n hn)
  rw [hn]
  clear hla hn h hin
  obtain ⟨e0, he0⟩ : ∃ e0, (checkB l).1 = e0 := ⟨_, rfl⟩
  have HE0 := Lib.hid he0
  rw [he0] at HLA
  clear he0
  by_cases hz : e0 = 0
  · subst hz
    have HLB := Lib.hid (HLA.out.mono (R' := fun en w' => (∃ g : Nat, en = .returned (.tuple #[.pointer (some ⟨g, 0, none⟩), .int .i64 0]) ∧ LayAt l g w') ∧ Below w.heap.size w w') (by
      rintro en w' ⟨h1 | ⟨-, h1⟩, h2⟩
      · exact absurd rfl h1.1
      · exact ⟨h1, h2⟩))
    clear HLA
    go_enter Tryz.func16, Tryz.ntmps16
    go_upto_region 4 with (go_at_call 37; go_must (refine HLB.out.mono ?_; rintro en w2 ⟨⟨g, rfl, hla⟩, hb2⟩; have HB2 := Lib.hid hb2; have HLY := Lib.hid hla; clear hb2 hla))
    obtain ⟨At, ct, Ap, cp, xv, bv, qs, bs, h1, h2, h3, h4, h5, h6, h7⟩ := HLY.out
    have k0 : w2.cell? ⟨g, 0, none⟩ = some (.slice At (textsP l).length ct) := h1.cell 0
    have HRS := Lib.hid h2
    clear h1 h2 h3 h4 h5 h6 h7
    go_wp2
    go_ret2
    exact ⟨.inr ⟨HE0.out, _, rfl, HRS.out⟩, HB2.out⟩
  · have hz1 : (e0 == 0) = false := by simpa using hz
    have HLB := Lib.hid (HLA.out.mono (R' := fun en w' => en = .returned (.tuple #[.pointer none, .int .i64 e0]) ∧ Below w.heap.size w w') (by
      rintro en w' ⟨⟨-, h1⟩ | ⟨h1, -⟩, h2⟩
      · exact ⟨h1, h2⟩
      · exact absurd h1 hz))
    have HNO := Lib.hid (fun (W : World) (hb : Below w.heap.size w W) => (show AskPost l (.slice none 0 0) (fun v w' => Txts w' w'.heap.size v (textsP l)) w (.returned (.tuple #[.slice none 0 0, .int .i64 e0])) W from ⟨.inl ⟨by rw [HE0.out]; exact hz, by rw [HE0.out]⟩, hb⟩))
    clear HLA hz HE0
    go_enter Tryz.func16, Tryz.ntmps16
    go_wp2_with (go_at_call 37; go_must (refine HLB.out.mono ?_; rintro en w2 ⟨rfl, hb2⟩; have HB2 := Lib.hid hb2; clear hb2))
    go_ret2
    exact HNO.out _ HB2.out
set_option maxHeartbeats 4000000 in
set_option maxRecDepth 100000 in
theorem bpaths_any (v : Value) (l : List PStep) (vs : List Value) (w : World) (h : StepsR w v l vs) (hin : InB l) :
    Calls Tryz.prog 17 #[.agg #[v]] w (AskPost l (.slice none 0 0) (fun v w' => Txts w' w'.heap.size v (pathsP l)) w) := by
  obtain ⟨A, c, rfl, hla⟩ := lay_in h hin
  have HF := Lib.hid hin.few
  obtain ⟨n, hn⟩ : ∃ n, l.length = n := ⟨_, rfl⟩
  have HLA := Lib.hid (hla n hn)
  rw [hn]
  clear hla hn h hin
  obtain ⟨e0, he0⟩ : ∃ e0, (checkB l).1 = e0 := ⟨_, rfl⟩
  have HE0 := Lib.hid he0
  rw [he0] at HLA
  clear he0
  by_cases hz : e0 = 0
  · subst hz
    have HLB := Lib.hid (HLA.out.mono (R' := fun en w' => (∃ g : Nat, en = .returned (.tuple #[.pointer (some ⟨g, 0, none⟩), .int .i64 0]) ∧ LayAt l g w') ∧ Below w.heap.size w w') (by
      rintro en w' ⟨h1 | ⟨-, h1⟩, h2⟩
      · exact absurd rfl h1.1
      · exact ⟨h1, h2⟩))
    clear HLA
    go_enter Tryz.func17, Tryz.ntmps17
    go_upto_region 4 with (go_at_call 37; go_must (refine HLB.out.mono ?_; rintro en w2 ⟨⟨g, rfl, hla⟩, hb2⟩; have HB2 := Lib.hid hb2; have HLY := Lib.hid hla; clear hb2 hla))
    obtain ⟨At, ct, Ap, cp, xv, bv, qs, bs, h1, h2, h3, h4, h5, h6, h7⟩ := HLY.out
    have k0 : w2.cell? ⟨g, 1, none⟩ = some (.slice Ap (pathsP l).length cp) := h1.cell 1
    have HRS := Lib.hid h3
    clear h1 h2 h3 h4 h5 h6 h7
    go_wp2
    go_ret2
    exact ⟨.inr ⟨HE0.out, _, rfl, HRS.out⟩, HB2.out⟩
  · have hz1 : (e0 == 0) = false := by simpa using hz
    have HLB := Lib.hid (HLA.out.mono (R' := fun en w' => en = .returned (.tuple #[.pointer none, .int .i64 e0]) ∧ Below w.heap.size w w') (by
      rintro en w' ⟨⟨-, h1⟩ | ⟨h1, -⟩, h2⟩
      · exact ⟨h1, h2⟩
      · exact absurd h1 hz))
    have HNO := Lib.hid (fun (W : World) (hb : Below w.heap.size w W) => (show AskPost l (.slice none 0 0) (fun v w' => Txts w' w'.heap.size v (pathsP l)) w (.returned (.tuple #[.slice none 0 0, .int .i64 e0])) W from ⟨.inl ⟨by rw [HE0.out]; exact hz, by rw [HE0.out]⟩, hb⟩))
    clear HLA hz HE0
    go_enter Tryz.func17, Tryz.ntmps17
    go_wp2_with (go_at_call 37; go_must (refine HLB.out.mono ?_; rintro en w2 ⟨rfl, hb2⟩; have HB2 := Lib.hid hb2; clear hb2))
    go_ret2
    exact HNO.out _ HB2.out
set_option maxHeartbeats 4000000 in
set_option maxRecDepth 100000 in
theorem btables_any (v : Value) (l : List PStep) (vs : List Value) (w : World) (h : StepsR w v l vs) (hin : InB l) :
    Calls Tryz.prog 18 #[.agg #[v]] w (AskPost l (.slice none 0 0) (fun v w' => TabsPL w' v (tabsB l)) w) := by
  obtain ⟨A, c, rfl, hla⟩ := lay_in h hin
  have HF := Lib.hid hin.few
  obtain ⟨n, hn⟩ : ∃ n, l.length = n := ⟨_, rfl⟩
  have HLA := Lib.hid (hla n hn)
  rw [hn]
  clear hla hn h hin
  obtain ⟨e0, he0⟩ : ∃ e0, (checkB l).1 = e0 := ⟨_, rfl⟩
  have HE0 := Lib.hid he0
  rw [he0] at HLA
  clear he0
  by_cases hz : e0 = 0
  · subst hz
    have HLB := Lib.hid (HLA.out.mono (R' := fun en w' => (∃ g : Nat, en = .returned (.tuple #[.pointer (some ⟨g, 0, none⟩), .int .i64 0]) ∧ LayAt l g w') ∧ Below w.heap.size w w') (by
      rintro en w' ⟨h1 | ⟨-, h1⟩, h2⟩
      · exact absurd rfl h1.1
      · exact ⟨h1, h2⟩))
    clear HLA
    go_enter Tryz.func18, Tryz.ntmps18
    go_upto_region 4 with (go_at_call 37; go_must (refine HLB.out.mono ?_; rintro en w2 ⟨⟨g, rfl, hla⟩, hb2⟩; have HB2 := Lib.hid hb2; have HLY := Lib.hid hla; clear hb2 hla))
    obtain ⟨At, ct, Ap, cp, xv, bv, qs, bs, h1, h2, h3, h4, h5, h6, h7⟩ := HLY.out
    obtain ⟨Ax, cx, rfl, hx⟩ := h5
    have k0 : w2.cell? ⟨g, 2, none⟩ = some (.slice Ax qs.length cx) := h1.cell 2
    have HRS := Lib.hid (show TabsPL w2 (.slice Ax qs.length cx) (tabsB l) from ⟨qs, h4, Ax, cx, rfl, hx⟩)
    clear h1 h2 h3 h4 h6 hx h7
    go_wp2
    go_ret2
    exact ⟨.inr ⟨HE0.out, _, rfl, HRS.out⟩, HB2.out⟩
  · have hz1 : (e0 == 0) = false := by simpa using hz
    have HLB := Lib.hid (HLA.out.mono (R' := fun en w' => en = .returned (.tuple #[.pointer none, .int .i64 e0]) ∧ Below w.heap.size w w') (by
      rintro en w' ⟨⟨-, h1⟩ | ⟨h1, -⟩, h2⟩
      · exact ⟨h1, h2⟩
      · exact absurd h1 hz))
    have HNO := Lib.hid (fun (W : World) (hb : Below w.heap.size w W) => (show AskPost l (.slice none 0 0) (fun v w' => TabsPL w' v (tabsB l)) w (.returned (.tuple #[.slice none 0 0, .int .i64 e0])) W from ⟨.inl ⟨by rw [HE0.out]; exact hz, by rw [HE0.out]⟩, hb⟩))
    clear HLA hz HE0
    go_enter Tryz.func18, Tryz.ntmps18
    go_wp2_with (go_at_call 37; go_must (refine HLB.out.mono ?_; rintro en w2 ⟨rfl, hb2⟩; have HB2 := Lib.hid hb2; clear hb2))
    go_ret2
    exact HNO.out _ HB2.out
end Go.Proofs.YtfpepdjffehbcaaGreat
