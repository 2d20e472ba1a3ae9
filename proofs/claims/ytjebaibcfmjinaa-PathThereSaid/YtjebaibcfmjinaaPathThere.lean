/-
  The law PathThere answers true for every two strings. No condition.
-/
import Derived.Test.YtjebaibcfmjinaaRows
import Derived.Test.YtjebaibcfmjinaaPathJoin
import Derived.Test.YtjebaibcfmjinaaPathRT
import Derived.WalkKit
import Derived.Outline
import Derived.ProofKit
import Derived.OpenShut
import Derived.ShutString
import Derived.ChangeOld
import Derived.Below
import Derived.Deep.CondSized
namespace Go.Proofs.Ytjebaibcfmjinaa.pathThere
open Go.ChangeShapes Go.WideShapes Go.ChangeAt Go.RowKit
open Go.ChangeMaps (open_string shut_string)
set_option linter.unusedVariables false

theorem own : ownKnob Try.prog.godebug = none := by kernel_rfl
theorem laidOut : laidOutB Try.prog = true := by kernel_rfl

theorem putE_bad {l : List PStep} {e : Int} (h : putM l = .error e) : e ≠ 0 := by
  unfold putM at h
  cases hp : putF l (decide (l.length ≤ 64)) 0 [] with
  | error x =>
    rw [hp] at h
    simp at h
    subst h
    have aux : ∀ (l : List PStep) (sh : Bool) (sz : Nat) (ts : List (List UInt8)) (x : Int), putF l sh sz ts = .error x → x = 160 := by
      intro l
      induction l with
      | nil => intro sh sz ts x h; simp [putF] at h
      | cons st l ih =>
        intro sh sz ts x h
        simp only [putF] at h
        split at h
        · exact ih _ _ _ _ h
        · simp at h; exact h.symm
    have := aux _ _ _ _ _ hp
    omega
  | ok y =>
    obtain ⟨sh, sz, ts⟩ := y
    rw [hp] at h
    simp only at h
    split at h
    · cases h
    · simp at h; omega
/-- What the first half asks. -/
theorem there_join {A B : ByteArray} {l m : List PStep} {t : List UInt8} (ha : parseM A = .ok l) (hb : parseM B = .ok m) (hp : putM (l ++ m) = .ok t) : restM (str t) A = some B ∧ inB (str t) A = true := by
  have hs := print_parse hp
  have hm := parse_print hb
  constructor
  · unfold restM
    rw [hs, ha]
    simp only
    rw [if_pos (by simp), List.drop_left, hm]
    show some (str B.data.toList) = some B
    rw [← str_self]
  · exact inB_ok.2 ⟨l ++ m, l, hs, ha, by simp⟩
/-- What the second half asks. -/
theorem there_up {A : ByteArray} {l : List PStep} {k : Nat} {st : PStep} (ha : parseM A = .ok l) (hl : l.length = k + 1) (hst : l[k]? = some st) :
    ∃ t1 t2, putM (l.take k) = .ok t1 ∧ putM [st] = .ok t2 ∧ parseM (str t1) = .ok (l.take k) ∧ parseM (str t2) = .ok [st] ∧ putM (l.take k ++ [st]) = .ok A.data.toList ∧ inB A (str t1) = true ∧ inB (str t1) A = false := by
  have e : l = l.take k ++ [st] := by
    have h1 : l.drop k = [st] := by
      obtain ⟨hlt, rfl⟩ := List.getElem?_eq_some_iff.1 hst
      rw [List.drop_eq_getElem_cons hlt, List.drop_of_length_le (by omega)]
    rw [← h1, List.take_append_drop]
  obtain ⟨t1, p1, q1⟩ := part_print ha e
  obtain ⟨t2, p2, q2⟩ := part_print2 ha e
  refine ⟨t1, t2, p1, p2, q1, q2, by rw [← e]; exact parse_print ha, inB_ok.2 ⟨l, l.take k, ha, q1, ?_⟩, ?_⟩
  · rw [List.length_take, Nat.min_eq_left (by omega)]
  · cases h : inB (str t1) A
    · rfl
    · obtain ⟨l', m', h1, h2, h3⟩ := inB_ok.1 h
      rw [q1] at h1
      rw [ha] at h2
      cases h1
      cases h2
      have := congrArg List.length h3
      simp at this
      omega
/-- A slice of one step. -/
theorem steps_one {w : World} {kv : Value} {st : PStep} (h : KeysAt w w.heap.size kv st.2) : StepsR (w.alloc (.cells #[.string st.1, kv] 40)) (.slice (some ⟨w.heap.size, 0, none⟩) 1 1) [st] [kv] := by
  have hr := reads_new w #[.string st.1, kv] 40 2 1 rfl
  refine ⟨_, 1, rfl, Nat.le_refl _, by decide, by simpa [stepCells] using hr, rfl, ?_⟩
  intro i x v hi hj
  match i with
  | 0 =>
    simp at hi hj
    subst hi hj
    exact h.more ((Below.refl _ _).alloc (Nat.le_refl _) _) (by simp)
  | i + 1 => simp at hi
set_option maxRecDepth 100000 in
set_option maxHeartbeats 8000000 in
theorem there_walk (a b : ByteArray) (w : World) (ha : a.size ≤ 140737488351232) (hb : b.size ≤ 140737488351232) :
    Calls Try.prog 6 #[.string a, .string b] w fun en w' => en = .returned (.bool true) ∧ Below w.heap.size w w' := by
  have HW := Lib.hid (fun W => wakes_any W)
  have HCU := Lib.hid (show ∀ s W, s = a ∨ s = b → Calls Try.prog 10 #[.string s] W fun en w' => en = .returned (.string (cutS s)) ∧ w' = W from fun s W h => cut_any s W (by rcases h with rfl | rfl <;> omega))
  have HSA := cutS_size a
  have HSB := cutS_size b
  go_enter Try.func6, Try.ntmps6
  go_upto_region 4 with (first
    | (go_at_call 9; refine (HW.out _).mono ?_; rintro en w1 ⟨rfl, hB1⟩; have HB := Lib.hid hB1; clear hB1)
    | (go_at_call 10; refine (HCU.out _ _ (by simp)).mono ?_; rintro en w2 ⟨rfl, rfl⟩))
  clear HCU HW
  generalize cutS a = A at *
  generalize cutS b = B at *
  have HJ := Lib.hid (join_any A B w2 (by omega) (by omega))
  by_cases hP : ∃ l m t, parseM A = .ok l ∧ parseM B = .ok m ∧ putM (l ++ m) = .ok t
  · obtain ⟨l, m, t, hA, hB, hT⟩ := hP
    have HT := Lib.hid (there_join hA hB hT)
    have HSZ := Lib.hid (parseM_small (print_parse hT)).2.2.1
    have HJM := Lib.hid (show ∀ en W', JoinPost A B w2 en W' → en = .returned (.tuple #[.string (str t), .int .i64 0]) ∧ Below w2.heap.size w2 W' from fun en W' h => by
      rcases h with ⟨hb, e, he, h, rfl⟩ | ⟨hb, l', m', h1, h2, rfl⟩
      · rcases h with ⟨y, h⟩ | ⟨l', y, h1, h2⟩
        · rw [hA] at h; cases h
        · rw [hB] at h2; cases h2
      · rw [hA] at h1
        rw [hB] at h2
        cases h1
        cases h2
        rw [hT]
        exact ⟨rfl, hb⟩)
    generalize str t = S at *
    have HR := Lib.hid (show ∀ W, Calls Try.prog 14 #[.string S, .string A] W fun en W' => en = .returned (.tuple #[.string B, .bool true]) ∧ Below W.heap.size W W' from fun W => (rest_any S A W (by have := HSZ.out; omega) (by omega)).mono fun en W' h => by
      unfold RestPost at h
      rw [HT.out.1] at h
      exact h)
    have HI := Lib.hid (show ∀ W, Calls Try.prog 12 #[.string S, .string A] W fun en W' => en = .returned (.bool true) ∧ Below W.heap.size W W' from fun W => (in_any S A W (by have := HSZ.out; omega) (by omega)).mono fun en W' h => by
      unfold InPost at h
      rw [show (restM S A).isSome = true from HT.out.2] at h
      exact h)
    have hbb : (B.toList == B.toList) = true := by simp
    clear hA hB hT
    go_upto_region 9 with (first
      | (go_at_call 19; go_loud (refine HJ.out.mono ?_; intro en w3 h3; obtain ⟨rfl, hB3⟩ := HJM.out _ _ h3; have HB := Lib.hid (HB.out.trans (hB3.mono HB.out.size)); clear h3 hB3))
      | (go_at_call 14; go_loud (refine (HR.out _).mono ?_; rintro en w3 ⟨rfl, hB3⟩; have HB := Lib.hid (HB.out.trans (hB3.mono HB.out.size)); clear hB3))
      | (go_at_call 12; go_loud (refine (HI.out _).mono ?_; rintro en w3 ⟨rfl, hB3⟩; have HB := Lib.hid (HB.out.trans (hB3.mono HB.out.size)); clear hB3)))
    have HPA := Lib.hid (fun W => parent_any A W (by omega))
    by_cases hQ : ∃ l k st, parseM A = .ok l ∧ l.length = k + 1 ∧ l[k]? = some st
    · obtain ⟨l2, k, st, hA, hl, hst⟩ := hQ
      obtain ⟨t1, t2, p1, p2, q1, q2, p3, i1, i2⟩ := there_up hA hl hst
      have HSU := Lib.hid (parseM_small q1).2.2.1
      have HSV := Lib.hid (parseM_small q2).2.2.1
      have HSS := Lib.hid (((parseM_small hA).1 st (List.mem_of_getElem? hst)).small)
      have HPM := Lib.hid (show ∀ W en W', ParentPost A W en W' → en = .returned (.tuple #[.string (str t1), .int .i64 0]) ∧ Below W.heap.size W W' from fun W en W' h => by
        rcases h with ⟨hb, e, he, h, rfl⟩ | ⟨hb, l', k', h1, h2, rfl⟩
        · rcases h with ⟨y, h⟩ | ⟨h, -⟩
          · rw [hA] at h; cases h
          · rw [hA] at h; cases h; simp at hl
        · rw [hA] at h1
          cases h1
          have : k' = k := by omega
          subst this
          rw [p1]
          exact ⟨rfl, hb⟩)
      have HLA := Lib.hid (fun W => last_any A W (by omega))
      have HLM := Lib.hid (show ∀ W en W', LastPost A W en W' → ∃ Ak ck, KeysAt W' W'.heap.size (.slice Ak st.2.length ck) st.2 ∧ en = .returned (.tuple #[.agg #[.string st.1, .slice Ak st.2.length ck], .int .i64 0]) ∧ Below W.heap.size W W' from fun W en W' h => by
        rcases h with ⟨hb, e, he, h, rfl⟩ | ⟨hb, l', k', st', Ak, ck, h1, h2, h3, h4, rfl⟩
        · rcases h with ⟨y, h⟩ | ⟨h, -⟩
          · rw [hA] at h; cases h
          · rw [hA] at h; cases h; simp at hl
        · rw [hA] at h1
          cases h1
          have : k' = k := by omega
          subst this
          rw [hst] at h3
          cases h3
          exact ⟨Ak, ck, h4, rfl, hb⟩)
      have HPP := Lib.hid (show ∀ W en W', PutPost [st] W en W' → en = .returned (.tuple #[.string (str t2), .int .i64 0]) ∧ Below W.heap.size W W' from fun W en W' h => by
        unfold PutPost at h
        rw [p2] at h
        exact h)
      have HJM2 := Lib.hid (show ∀ W en W', JoinPost (str t1) (str t2) W en W' → en = .returned (.tuple #[.string A, .int .i64 0]) ∧ Below W.heap.size W W' from fun W en W' h => by
        rcases h with ⟨hb, e, he, h, rfl⟩ | ⟨hb, l', m', h1, h2, rfl⟩
        · rcases h with ⟨y, h⟩ | ⟨l', y, h1, h2⟩
          · rw [q1] at h; cases h
          · rw [q2] at h2; cases h2
        · rw [q1] at h1
          rw [q2] at h2
          cases h1
          cases h2
          rw [p3]
          refine ⟨?_, hb⟩
          show Ending.returned (.tuple #[.string (str A.data.toList), .int .i64 0]) = _
          rw [← str_self])
      have hI1 : inB A (str t1) = true := i1
      have hI2 : inB (str t1) A = false := i2
      generalize str t1 = U at *
      generalize str t2 = V at *
      have HJ2 := Lib.hid (fun W => join_any U V W (by have := HSU.out; omega) (by have := HSV.out; omega))
      have HI2 := Lib.hid (show ∀ W, Calls Try.prog 12 #[.string A, .string U] W fun en W' => en = .returned (.bool true) ∧ Below W.heap.size W W' from fun W => (in_any A U W (by omega) (by have := HSU.out; omega)).mono fun en W' h => by
        unfold InPost at h
        rw [show (restM A U).isSome = true from hI1] at h
        exact h)
      have HI3 := Lib.hid (show ∀ W, Calls Try.prog 12 #[.string U, .string A] W fun en W' => en = .returned (.bool false) ∧ Below W.heap.size W W' from fun W => (in_any U A W (by have := HSU.out; omega) (by omega)).mono fun en W' h => by
        unfold InPost at h
        rw [show (restM U A).isSome = false from hI2] at h
        exact h)
      have haa : (A.toList == A.toList) = true := by simp
      clear hA hl hst p1 p2 p3 q1 q2 i1 i2 hI1 hI2
      go_upto_region 13 with (first
        | (go_at_call 20; go_loud (refine (HPA.out _).mono ?_; intro en w4 h4; obtain ⟨rfl, hB4⟩ := HPM.out _ _ _ h4; have HB := Lib.hid (HB.out.trans (hB4.mono HB.out.size)); clear h4 hB4))
        | (go_at_call 21; go_loud (refine (HLA.out _).mono ?_; intro en w5 h5; obtain ⟨Ak, ck, hKA, rfl, hB5⟩ := HLM.out _ _ _ h5; have HB := Lib.hid (HB.out.trans (hB5.mono HB.out.size)); have HKA := Lib.hid hKA; clear h5 hB5 hKA)))
      have hs0 := Blk.new w5 40 #[.string st.1, .slice Ak st.2.length ck]
      have HB := Lib.hid (show Below w.heap.size w (w5.alloc (.cells #[.string st.1, .slice Ak st.2.length ck] 40)) from HB.out.alloc HB.out.size _)
      have HKA := Lib.hid (HKA.out.more (show Below w5.heap.size w5 (w5.alloc (.cells #[.string st.1, .slice Ak st.2.length ck] 40)) from (Below.refl _ _).alloc (Nat.le_refl _) _) (show w5.heap.size ≤ (w5.alloc (.cells #[.string st.1, .slice Ak st.2.length ck] 40)).heap.size by simp))
      generalize w5.alloc (.cells #[.string st.1, .slice Ak st.2.length ck] 40) = w6 at *
      have k0 : w6.cell? ⟨w5.heap.size, 0, none⟩ = some (.string st.1) := hs0.cell 0
      have k1 : w6.cell? ⟨w5.heap.size, 1, none⟩ = some (.slice Ak st.2.length ck) := hs0.cell 1
      have HPR := Lib.hid (print_any _ [st] [.slice Ak st.2.length ck] _ (steps_one HKA.out) (by intro x hx; simp at hx; rw [hx]; exact HSS.out) (by simp))
      have HW6 := Lib.hid (show Below w6.heap.size w6 (w6.alloc (.cells #[.string st.1, .slice Ak st.2.length ck] 40)) from (Below.refl _ _).alloc (Nat.le_refl _) _)
      clear hs0
      go_wp2_with (first
        | (go_at_call 22; go_loud (refine HPR.out.mono ?_; intro en w7 h7; obtain ⟨rfl, hB7⟩ := HPP.out _ _ _ h7; have HB := Lib.hid (HB.out.trans ((HW6.out.trans (hB7.mono HW6.out.size)).mono HB.out.size)); clear h7 hB7))
        | (go_at_call 19; go_loud (refine (HJ2.out _).mono ?_; intro en w8 h8; obtain ⟨rfl, hB8⟩ := HJM2.out _ _ _ h8; have HB := Lib.hid (HB.out.trans (hB8.mono HB.out.size)); clear h8 hB8))
        | (go_at_call_of 12 (#[Value.string A, Value.string U]); go_loud (refine (HI2.out _).mono ?_; rintro en w9 ⟨rfl, hB9⟩; have HB := Lib.hid (HB.out.trans (hB9.mono HB.out.size)); clear hB9))
        | (go_at_call_of 12 (#[Value.string U, Value.string A]); go_loud (refine (HI3.out _).mono ?_; rintro en w9 ⟨rfl, hB9⟩; have HB := Lib.hid (HB.out.trans (hB9.mono HB.out.size)); clear hB9)))
      go_ret
      exact ⟨rfl, HB.out⟩
    · have HPM := Lib.hid (show ∀ W en W', ParentPost A W en W' → ∃ e : Int, e ≠ 0 ∧ en = .returned (.tuple #[.string ByteArray.empty, .int .i64 e]) ∧ Below W.heap.size W W' from fun W en W' h => by
        rcases h with ⟨hb, e, he, h, rfl⟩ | ⟨hb, l', k', h1, h2, rfl⟩
        · exact ⟨e, he, rfl, hb⟩
        · exact absurd ⟨l', k', l'[k']'(by omega), h1, h2, by simp [h2]⟩ hQ)
      clear hQ
      go_wp2_with (go_at_call 20; go_loud (refine (HPA.out _).mono ?_; intro en w4 h4; obtain ⟨e, he, rfl, hB4⟩ := HPM.out _ _ _ h4; have HB := Lib.hid (HB.out.trans (hB4.mono HB.out.size)); have he0 : (e == 0) = false := (by rw [beq_eq_false_iff_ne]; exact he); clear h4 hB4))
      go_ret
      exact ⟨rfl, HB.out⟩
  · have HJM := Lib.hid (show ∀ en W', JoinPost A B w2 en W' → ∃ (x : ByteArray) (e : Int), e ≠ 0 ∧ en = .returned (.tuple #[.string x, .int .i64 e]) ∧ Below w2.heap.size w2 W' from fun en W' h => by
      rcases h with ⟨hb, e, he, h, rfl⟩ | ⟨hb, l', m', h1, h2, rfl⟩
      · exact ⟨_, e, he, rfl, hb⟩
      · cases hp : putM (l' ++ m') with
        | ok t => exact absurd ⟨l', m', t, h1, h2, hp⟩ hP
        | error e => exact ⟨_, e, putE_bad hp, rfl, hb⟩)
    clear hP
    go_upto_region 9 with (go_at_call 19; go_loud (refine HJ.out.mono ?_; intro en w3 h3; obtain ⟨x, e, he, rfl, hB3⟩ := HJM.out _ _ h3; have HB := Lib.hid (HB.out.trans (hB3.mono HB.out.size)); have he0 : (e == 0) = false := (by rw [beq_eq_false_iff_ne]; exact he); clear h3 hB3))
    clear he he0
    have HPA := Lib.hid (fun W => parent_any A W (by omega))
    by_cases hQ : ∃ l k st, parseM A = .ok l ∧ l.length = k + 1 ∧ l[k]? = some st
    · obtain ⟨l2, k, st, hA, hl, hst⟩ := hQ
      obtain ⟨t1, t2, p1, p2, q1, q2, p3, i1, i2⟩ := there_up hA hl hst
      have HSU := Lib.hid (parseM_small q1).2.2.1
      have HSV := Lib.hid (parseM_small q2).2.2.1
      have HSS := Lib.hid (((parseM_small hA).1 st (List.mem_of_getElem? hst)).small)
      have HPM := Lib.hid (show ∀ W en W', ParentPost A W en W' → en = .returned (.tuple #[.string (str t1), .int .i64 0]) ∧ Below W.heap.size W W' from fun W en W' h => by
        rcases h with ⟨hb, e, he, h, rfl⟩ | ⟨hb, l', k', h1, h2, rfl⟩
        · rcases h with ⟨y, h⟩ | ⟨h, -⟩
          · rw [hA] at h; cases h
          · rw [hA] at h; cases h; simp at hl
        · rw [hA] at h1
          cases h1
          have : k' = k := by omega
          subst this
          rw [p1]
          exact ⟨rfl, hb⟩)
      have HLA := Lib.hid (fun W => last_any A W (by omega))
      have HLM := Lib.hid (show ∀ W en W', LastPost A W en W' → ∃ Ak ck, KeysAt W' W'.heap.size (.slice Ak st.2.length ck) st.2 ∧ en = .returned (.tuple #[.agg #[.string st.1, .slice Ak st.2.length ck], .int .i64 0]) ∧ Below W.heap.size W W' from fun W en W' h => by
        rcases h with ⟨hb, e, he, h, rfl⟩ | ⟨hb, l', k', st', Ak, ck, h1, h2, h3, h4, rfl⟩
        · rcases h with ⟨y, h⟩ | ⟨h, -⟩
          · rw [hA] at h; cases h
          · rw [hA] at h; cases h; simp at hl
        · rw [hA] at h1
          cases h1
          have : k' = k := by omega
          subst this
          rw [hst] at h3
          cases h3
          exact ⟨Ak, ck, h4, rfl, hb⟩)
      have HPP := Lib.hid (show ∀ W en W', PutPost [st] W en W' → en = .returned (.tuple #[.string (str t2), .int .i64 0]) ∧ Below W.heap.size W W' from fun W en W' h => by
        unfold PutPost at h
        rw [p2] at h
        exact h)
      have HJM2 := Lib.hid (show ∀ W en W', JoinPost (str t1) (str t2) W en W' → en = .returned (.tuple #[.string A, .int .i64 0]) ∧ Below W.heap.size W W' from fun W en W' h => by
        rcases h with ⟨hb, e, he, h, rfl⟩ | ⟨hb, l', m', h1, h2, rfl⟩
        · rcases h with ⟨y, h⟩ | ⟨l', y, h1, h2⟩
          · rw [q1] at h; cases h
          · rw [q2] at h2; cases h2
        · rw [q1] at h1
          rw [q2] at h2
          cases h1
          cases h2
          rw [p3]
          refine ⟨?_, hb⟩
          show Ending.returned (.tuple #[.string (str A.data.toList), .int .i64 0]) = _
          rw [← str_self])
      have hI1 : inB A (str t1) = true := i1
      have hI2 : inB (str t1) A = false := i2
      generalize str t1 = U at *
      generalize str t2 = V at *
      have HJ2 := Lib.hid (fun W => join_any U V W (by have := HSU.out; omega) (by have := HSV.out; omega))
      have HI2 := Lib.hid (show ∀ W, Calls Try.prog 12 #[.string A, .string U] W fun en W' => en = .returned (.bool true) ∧ Below W.heap.size W W' from fun W => (in_any A U W (by omega) (by have := HSU.out; omega)).mono fun en W' h => by
        unfold InPost at h
        rw [show (restM A U).isSome = true from hI1] at h
        exact h)
      have HI3 := Lib.hid (show ∀ W, Calls Try.prog 12 #[.string U, .string A] W fun en W' => en = .returned (.bool false) ∧ Below W.heap.size W W' from fun W => (in_any U A W (by have := HSU.out; omega) (by omega)).mono fun en W' h => by
        unfold InPost at h
        rw [show (restM U A).isSome = false from hI2] at h
        exact h)
      have haa : (A.toList == A.toList) = true := by simp
      clear hA hl hst p1 p2 p3 q1 q2 i1 i2 hI1 hI2
      go_upto_region 13 with (first
        | (go_at_call 20; go_loud (refine (HPA.out _).mono ?_; intro en w4 h4; obtain ⟨rfl, hB4⟩ := HPM.out _ _ _ h4; have HB := Lib.hid (HB.out.trans (hB4.mono HB.out.size)); clear h4 hB4))
        | (go_at_call 21; go_loud (refine (HLA.out _).mono ?_; intro en w5 h5; obtain ⟨Ak, ck, hKA, rfl, hB5⟩ := HLM.out _ _ _ h5; have HB := Lib.hid (HB.out.trans (hB5.mono HB.out.size)); have HKA := Lib.hid hKA; clear h5 hB5 hKA)))
      have hs0 := Blk.new w5 40 #[.string st.1, .slice Ak st.2.length ck]
      have HB := Lib.hid (show Below w.heap.size w (w5.alloc (.cells #[.string st.1, .slice Ak st.2.length ck] 40)) from HB.out.alloc HB.out.size _)
      have HKA := Lib.hid (HKA.out.more (show Below w5.heap.size w5 (w5.alloc (.cells #[.string st.1, .slice Ak st.2.length ck] 40)) from (Below.refl _ _).alloc (Nat.le_refl _) _) (show w5.heap.size ≤ (w5.alloc (.cells #[.string st.1, .slice Ak st.2.length ck] 40)).heap.size by simp))
      generalize w5.alloc (.cells #[.string st.1, .slice Ak st.2.length ck] 40) = w6 at *
      have k0 : w6.cell? ⟨w5.heap.size, 0, none⟩ = some (.string st.1) := hs0.cell 0
      have k1 : w6.cell? ⟨w5.heap.size, 1, none⟩ = some (.slice Ak st.2.length ck) := hs0.cell 1
      have HPR := Lib.hid (print_any _ [st] [.slice Ak st.2.length ck] _ (steps_one HKA.out) (by intro x hx; simp at hx; rw [hx]; exact HSS.out) (by simp))
      have HW6 := Lib.hid (show Below w6.heap.size w6 (w6.alloc (.cells #[.string st.1, .slice Ak st.2.length ck] 40)) from (Below.refl _ _).alloc (Nat.le_refl _) _)
      clear hs0
      go_wp2_with (first
        | (go_at_call 22; go_loud (refine HPR.out.mono ?_; intro en w7 h7; obtain ⟨rfl, hB7⟩ := HPP.out _ _ _ h7; have HB := Lib.hid (HB.out.trans ((HW6.out.trans (hB7.mono HW6.out.size)).mono HB.out.size)); clear h7 hB7))
        | (go_at_call 19; go_loud (refine (HJ2.out _).mono ?_; intro en w8 h8; obtain ⟨rfl, hB8⟩ := HJM2.out _ _ _ h8; have HB := Lib.hid (HB.out.trans (hB8.mono HB.out.size)); clear h8 hB8))
        | (go_at_call_of 12 (#[Value.string A, Value.string U]); go_loud (refine (HI2.out _).mono ?_; rintro en w9 ⟨rfl, hB9⟩; have HB := Lib.hid (HB.out.trans (hB9.mono HB.out.size)); clear hB9))
        | (go_at_call_of 12 (#[Value.string U, Value.string A]); go_loud (refine (HI3.out _).mono ?_; rintro en w9 ⟨rfl, hB9⟩; have HB := Lib.hid (HB.out.trans (hB9.mono HB.out.size)); clear hB9)))
      go_ret
      exact ⟨rfl, HB.out⟩
    · have HPM := Lib.hid (show ∀ W en W', ParentPost A W en W' → ∃ e : Int, e ≠ 0 ∧ en = .returned (.tuple #[.string ByteArray.empty, .int .i64 e]) ∧ Below W.heap.size W W' from fun W en W' h => by
        rcases h with ⟨hb, e, he, h, rfl⟩ | ⟨hb, l', k', h1, h2, rfl⟩
        · exact ⟨e, he, rfl, hb⟩
        · exact absurd ⟨l', k', l'[k']'(by omega), h1, h2, by simp [h2]⟩ hQ)
      clear hQ
      go_wp2_with (go_at_call 20; go_loud (refine (HPA.out _).mono ?_; intro en w4 h4; obtain ⟨e, he, rfl, hB4⟩ := HPM.out _ _ _ h4; have HB := Lib.hid (HB.out.trans (hB4.mono HB.out.size)); have he0 : (e == 0) = false := (by rw [beq_eq_false_iff_ne]; exact he); clear h4 hB4))
      go_ret
      exact ⟨rfl, HB.out⟩
theorem walk (a0 : ByteArray) (a1 : ByteArray) (w : World) (w0 : a0.size ≤ 140737488351232) (w1 : a1.size ≤ 140737488351232) :
    Calls Try.prog 6 #[.string a0, .string a1] w fun e w' => e = .returned (.bool true) ∧ Below w.heap.size w w' := by
  exact there_walk a0 a1 w w0 w1

set_option maxRecDepth 100000 in
theorem contract (H : Type) (enc : TypeId × Value → H) (W : World) (base : Nat) (args : Array Value) (ds gs : List (DataW H)) (before : List MemPlace)
    (hval0 : ∀ (j : Nat) t v, Try.f6.params[j]? = some t → args[j]? = some v → Value.okWide Try.prog W .any base t v)
    (hW : DataW.Whole enc Try.prog Try.f6.params.toList Rows.pathThereSpec.vars false W args.toList ds gs before)
    (hsz0 : (DataW.weightsEach Try.prog (Try.f6.params.toList ++ Rows.pathThereSpec.plain.varTypes Try.prog) (ds ++ gs)).all (· ≤ reachBytes) = true) :
    Calls Try.prog 6 args W fun e W' => ∃ v, e = .returned v ∧ Rows.pathThereSpec.post enc Try.prog Try.f6 false true false false W args v W' := by
  have hval : ∀ (j : Nat) t v, Try.f6.params[j]? = some t → args[j]? = some v → Value.okWide Try.prog W .any base t v := hval0
  have hsz : (DataW.weightsEach Try.prog (Try.f6.params.toList ++ Rows.pathThereSpec.plain.varTypes Try.prog) (ds ++ gs)).all (· ≤ reachBytes) = true := hsz0
  have hW' := hW
  obtain ⟨p, q, hA0, hV, rfl, hfz, hnd⟩ := hW
  have hA : DataW.TrodAll enc Try.prog W 0 (fun _ => true) true Try.f6.params.toList args.toList ds p := hA0
  rw [Try.params6] at hA hval hsz
  obtain ⟨v0, vs0, d0, ds0, p0, q0, hargs, rfl, rfl, h0, r0⟩ := trodAll_cons hA
  obtain ⟨v1, vs1, d1, ds1, p1, q1, rfl, rfl, rfl, h1, r1⟩ := trodAll_cons r0
  obtain ⟨rfl, rfl, rfl⟩ := trodAll_nil r1
  obtain rfl : args = #[v0, v1] := by cases args; simp_all
  obtain ⟨rfl, rfl⟩ := trodVars_none hV
  obtain ⟨a0, rfl, rfl, rfl, wm0⟩ := open_string Try.underlying9 (hval 0 9 v0 rfl rfl) h0
  have w0 : a0.size ≤ 140737488351232 := by
    have := sized_string hsz (j := 0) (t := 9) rfl rfl
    simpa [reachBytes] using this
  obtain ⟨a1, rfl, rfl, rfl, wm1⟩ := open_string Try.underlying9 (hval 1 9 v1 rfl rfl) h1
  have w1 : a1.size ≤ 140737488351232 := by
    have := sized_string hsz (j := 1) (t := 9) rfl rfl
    simpa [reachBytes] using this
  clear hA0 hval0
  refine (walk a0 a1 W w0 w1).mono fun e W' ⟨he, bel⟩ => ?_
  subst he
  exact ⟨_, rfl, _, _, _, [], _, [], hW', trodAll_mk1 (shut_bool Try.underlying4 _), (trodAll_cons_mk (shut_string Try.underlying9 wm0) (trodAll_cons_mk (shut_string Try.underlying9 wm1) trodAll_mk0)), rfl, bel.frame _, fun h => by cases h⟩

set_option maxRecDepth 100000 in
theorem lifted (os : Os) (started : os.Started) (H : Type) (enc : TypeId × Value → H) :
    ReturnsInHanded {} Try.checked os 6 .any (Rows.pathThereSpec.pre6 enc Try.prog Try.f6 Rows.pathThereRow.domain false) (Rows.pathThereSpec.post enc Try.prog Try.f6 false true false false) := by
  refine returnsInHanded_of_change_sized (C := Try.checked) own started (by kernel_rfl) Try.func6
    (ChangeSpec.witness6 (enc := enc) (C := Try.checked) false ⟨#[], #[.string ByteArray.empty, .string ByteArray.empty], []⟩ 8 (by kernel_rfl) (by kernel_rfl) (by kernel_rfl) (by kernel_rfl)) ?_
  intro W base args ds gs before hval hW _ hsz _
  exact contract H enc W base args ds gs before hval hW hsz

theorem over : Rows.pathThereRow.holds Try.pinned (OpenSpec.ofChange Rows.pathThereSpec) :=
  OpenClaim.holds_of_wide 6 Try.f6 rfl rfl rfl rfl rfl rfl rfl ⟨rfl, rfl, rfl, rfl, rfl⟩ rfl rfl rfl rfl rfl (by kernel_rfl) Try.func6 (by kernel_rfl)
    (of_decide_eq_true (by kernel_rfl)) (by unfold Func.isWrapper; first | (rw [if_pos (by decide +kernel)]; kernel_rfl) | (rw [if_neg (by decide +kernel)]; exact ⟨rfl, rfl⟩))
    (fun os started H enc _ => lifted os started H enc)

/-- The statement. -/
theorem proved : Rows.PathThereSaid := over
#print axioms proved
end Go.Proofs.Ytjebaibcfmjinaa.pathThere
