/-
  The walk of path.Join. Condition: the strings are within the reach.
-/
import Derived.Test.YtjebaibcfmjinaaPathEnds
namespace Go.Proofs.Ytjebaibcfmjinaa
open Go.RowKit

theorem stepCells_append2 : ∀ (l m : List PStep) (vs ws : List Value), vs.length = l.length → stepCells (l ++ m) (vs ++ ws) = stepCells l vs ++ stepCells m ws
  | [], _, [], _, _ => rfl
  | st :: l, m, v :: vs, ws, h => by
    have := stepCells_append2 l m vs ws (by simpa using h)
    simp [stepCells, this]
  | [], _, _ :: _, _, h => by simp at h
  | _ :: _, _, [], _, h => by simp at h
theorem StepsR.rowR {w : World} {v : Value} {l : List PStep} {vs : List Value} (h : StepsR w v l vs) : RowR w w.heap.size v l.length (stepCells l vs) := by
  obtain ⟨A, c, rfl, h1, h2, h3, _, _⟩ := h
  exact ⟨A, c, rfl, h1, h2, h3⟩
/-- put of two lists of steps. -/
theorem put_two (v1 v2 : Value) (l m : List PStep) (vs ws : List Value) (w : World) (h1 : StepsR w v1 l vs) (h2 : StepsR w v2 m ws) (hs1 : ∀ st ∈ l, StepSmall st) (hs2 : ∀ st ∈ m, StepSmall st) (hl : l.length ≤ 400) (hm : m.length ≤ 400) :
    Calls Try.prog 33 #[.slice (some ⟨w.heap.size, 0, none⟩) 2 2] (w.alloc (.cells #[v1, v2] 32)) (PutPost (l ++ m) (w.alloc (.cells #[v1, v2] 32))) := by
  have hb : Below w.heap.size w (w.alloc (.cells #[v1, v2] 32)) := (Below.refl _ _).alloc (Nat.le_refl _) _
  have h1' := h1.more hb
  have h2' := h2.more hb
  have ho1 := stepCells_one h1'
  have ho2 := stepCells_one h2'
  have hr1 := h1'.rowR
  have hr2 := h2'.rowR
  obtain ⟨_, _, _, _, _, _, hl1, hk1⟩ := h1'
  obtain ⟨_, _, _, _, _, _, hl2, hk2⟩ := h2'
  refine put_any _ 2 2 [(v1, l.length, stepCells l vs), (v2, m.length, stepCells m ws)] (l ++ m) (vs ++ ws) _ rfl ⟨⟨?_, ?_⟩, by simp [flatL, stepCells_append2 l m vs ws hl1], by simp [sumL], by simp [hl1, hl2], ?_, ?_, by simp; omega, by simp⟩
  · have := reads_new w #[v1, v2] 32 1 2 rfl
    simpa using this
  · intro x hx
    simp at hx
    rcases hx with rfl | rfl
    · exact ⟨hr1, ho1⟩
    · exact ⟨hr2, ho2⟩
  · intro i st kv hi hj
    rcases Nat.lt_or_ge i l.length with hlt | hge
    · rw [List.getElem?_append_left hlt] at hi
      rw [List.getElem?_append_left (by omega)] at hj
      exact hk1 i st kv hi hj
    · rw [List.getElem?_append_right hge] at hi
      rw [List.getElem?_append_right (by omega), hl1] at hj
      exact hk2 _ st kv hi hj
  · intro st hst
    rcases List.mem_append.1 hst with h | h
    · exact hs1 st h
    · exact hs2 st h
def JoinBad (a b : ByteArray) (w : World) (en : Ending) (w' : World) : Prop := Below w.heap.size w w' ∧ ∃ e : Int, e ≠ 0 ∧ ((∃ y, parseM a = .error (e, y)) ∨ ∃ l y, parseM a = .ok l ∧ parseM b = .error (e, y)) ∧ en = .returned (.tuple #[.string ByteArray.empty, .int .i64 e])
def JoinGood (a b : ByteArray) (w : World) (en : Ending) (w' : World) : Prop := Below w.heap.size w w' ∧ ∃ l m, parseM a = .ok l ∧ parseM b = .ok m ∧ en = .returned (.tuple #[.string (putS (putM (l ++ m))), .int .i64 (putE (putM (l ++ m)))])
def JoinPost (a b : ByteArray) (w : World) (en : Ending) (w' : World) : Prop := JoinBad a b w en w' ∨ JoinGood a b w en w'
set_option maxHeartbeats 4000000 in
theorem join_any (a b : ByteArray) (w : World) (ha : a.size ≤ 140737488355328) (hb : b.size ≤ 140737488355328) :
    Calls Try.prog 19 #[.string a, .string b] w (JoinPost a b w) := by
  have HPA := Lib.hid (fun W => parse_says a W ha)
  have HPB := Lib.hid (fun W => parse_says b W hb)
  go_enter Try.func19, Try.ntmps19
  go_upto_region 2 with (go_at_call 28; go_loud (refine (HPA.out _).mono ?_; rintro en w1 ⟨hB1, ⟨x, y, hE, rfl⟩ | ⟨l, v, hE, rfl, hO⟩⟩; rotate_left; obtain ⟨vs, hI⟩ := hO; obtain ⟨A1, c1, rfl, -, -, -⟩ := own_form hI.2.1; have HI := Lib.hid hI.reads; clear hI; rotate_right; all_goals (have HE := Lib.hid hE; have HB1 := Lib.hid hB1; clear hE hB1)))
  · have hx0 : (x == 0) = false := by
      rw [beq_eq_false_iff_ne]
      have := parseM_err HE.out
      omega
    have HX := Lib.hid hx0
    have hx1 : ¬ x = 0 := by simpa using hx0
    have hn := Blk.new w1 26 #[.int .i64 x, .int .i64 y]
    have HB2 := Lib.hid (show Below w.heap.size w (w1.alloc (.cells #[.int .i64 x, .int .i64 y] 26)) from HB1.out.alloc HB1.out.size _)
    generalize w1.alloc (.cells #[.int .i64 x, .int .i64 y] 26) = w2 at *
    have k0 : w2.cell? ⟨w1.heap.size, 0, none⟩ = some (.int .i64 x) := hn.cell 0
    clear hn
    go_upto_region 3 with (fail)
    go_quiet (fail)
    go_wp2
    go_ret2
    exact .inl ⟨below_drewN HB2.out _, x, by simpa using HX.out, .inl ⟨y, HE.out⟩, rfl⟩
  · have hn := Blk.new w1 26 #[.int .i64 0, .int .i64 0]
    have HB2 := Lib.hid (show Below w.heap.size w (w1.alloc (.cells #[.int .i64 0, .int .i64 0] 26)) from HB1.out.alloc HB1.out.size _)
    have HR := Lib.hid (HI.out.more (show Below w1.heap.size w1 (w1.alloc (.cells #[.int .i64 0, .int .i64 0] 26)) from (Below.refl _ _).alloc (Nat.le_refl _) _))
    generalize w1.alloc (.cells #[.int .i64 0, .int .i64 0] 26) = w2 at *
    have k0 : w2.cell? ⟨w1.heap.size, 0, none⟩ = some (.int .i64 0) := hn.cell 0
    clear hn HI
    go_upto_region 5 with (go_at_call 28; go_loud (refine (HPB.out _).mono ?_; rintro en w3 ⟨hB3, ⟨x, y, hE3, rfl⟩ | ⟨m, v2, hE3, rfl, hO3⟩⟩; rotate_left; obtain ⟨ws, hI3⟩ := hO3; obtain ⟨A2, c2, rfl, -, -, -⟩ := own_form hI3.2.1; have HI3 := Lib.hid hI3.reads; clear hI3; rotate_right; all_goals (have HE3 := Lib.hid hE3; have HB3 := Lib.hid hB3; clear hE3 hB3)))
    · have hx0 : (x == 0) = false := by
        rw [beq_eq_false_iff_ne]
        have := parseM_err HE3.out
        omega
      have HX := Lib.hid hx0
      have hx1 : ¬ x = 0 := by simpa using hx0
      have hn := Blk.new w3 26 #[.int .i64 x, .int .i64 y]
      have HB4 := Lib.hid (show Below w.heap.size w (w3.alloc (.cells #[.int .i64 x, .int .i64 y] 26)) from (HB2.out.trans (HB3.out.mono HB2.out.size)).alloc (Nat.le_trans HB2.out.size HB3.out.size) _)
      generalize w3.alloc (.cells #[.int .i64 x, .int .i64 y] 26) = w4 at *
      have k1 : w4.cell? ⟨w3.heap.size, 0, none⟩ = some (.int .i64 x) := hn.cell 0
      clear hn
      go_upto_region 6 with (fail)
      go_quiet (fail)
      go_wp2
      go_ret2
      exact .inl ⟨below_drewN HB4.out _, x, by simpa using HX.out, .inr ⟨l, y, HE.out, HE3.out⟩, rfl⟩
    · have hn := Blk.new w3 26 #[.int .i64 0, .int .i64 0]
      have HB4 := Lib.hid (show Below w.heap.size w (w3.alloc (.cells #[.int .i64 0, .int .i64 0] 26)) from (HB2.out.trans (HB3.out.mono HB2.out.size)).alloc (Nat.le_trans HB2.out.size HB3.out.size) _)
      have hb34 : Below w3.heap.size w3 (w3.alloc (.cells #[.int .i64 0, .int .i64 0] 26)) := (Below.refl _ _).alloc (Nat.le_refl _) _
      have HR1 := Lib.hid ((HR.out.more HB3.out).more hb34)
      have HR2 := Lib.hid (HI3.out.more hb34)
      generalize w3.alloc (.cells #[.int .i64 0, .int .i64 0] 26) = w4 at *
      have k1 : w4.cell? ⟨w3.heap.size, 0, none⟩ = some (.int .i64 0) := hn.cell 0
      have HS1 := Lib.hid (parseM_small HE.out)
      have HS2 := Lib.hid (parseM_small HE3.out)
      have HPUT := Lib.hid (put_two _ _ l m vs ws w4 HR1.out HR2.out (fun st h => (HS1.out.1 st h).small) (fun st h => (HS2.out.1 st h).small) (by have := HS1.out.2.1; omega) (by have := HS2.out.2.1; omega))
      clear hn hb34 HR HI3
      go_wp2_with (go_at_call 33; go_loud (refine HPUT.out.mono ?_; rintro en w5 ⟨rfl, hB5⟩; have HB5 := Lib.hid hB5; clear hB5))
      go_ret2
      exact .inr ⟨(HB4.out.alloc HB4.out.size _).trans (HB5.out.mono (by have := HB4.out.size; simp; omega)), l, m, HE.out, HE3.out, rfl⟩
end Go.Proofs.Ytjebaibcfmjinaa
