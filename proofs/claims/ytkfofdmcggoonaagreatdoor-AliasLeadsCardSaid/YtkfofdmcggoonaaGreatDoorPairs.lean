/-
  Putting a key into rising keys, plainly. No condition, no program in sight.
-/
import Derived.Test.YtkfofdmcggoonaaGreatDoorRiseLaw
import Derived.Test.YtkfofdmcggoonaaGreatDoorPathRT
import Derived.Test.YtkfofdmcggoonaaGreatDoorPathPrint
import Derived.Test.YtkfofdmcggoonaaGreatDoorSortLay
set_option linter.unusedVariables false
set_option linter.unusedSimpArgs false
namespace Go.Proofs.YtkfofdmcggoonaaGreatDoor
open Go.RowKit

def RisesK (ks : List PKey) : Prop := ks.Pairwise (fun x y => Op.bytesLess x.1.toList y.1.toList = true)
theorem keysOk_rises : ∀ (ks : List PKey) (ah : ByteArray), keysOk ah ks = true → RisesK ks ∧ ∀ x ∈ ks, Op.bytesLess ah.toList x.1.toList = true
  | [], _, _ => ⟨List.Pairwise.nil, fun _ h => by cases h⟩
  | k :: ks, ah, h => by
    simp only [keysOk, Bool.and_eq_true] at h
    obtain ⟨h1, h2⟩ := h
    have hk : Op.bytesLess ah.toList k.1.toList = true := by
      simp only [keyOk, Bool.and_eq_true] at h1
      exact h1.1.1.2
    obtain ⟨r1, r2⟩ := keysOk_rises ks k.1 h2
    refine ⟨List.pairwise_cons.2 ⟨r2, r1⟩, fun x hx => ?_⟩
    rcases List.mem_cons.1 hx with rfl | hx
    · exact hk
    · exact bl_trans _ _ _ hk (r2 x hx)
theorem parse_rises {p : ByteArray} {l : List PStep} (h : parseM p = .ok l) : ∀ st ∈ l, RisesK st.2 := by
  intro st hst
  have h1 := (putM_inv (parse_print h)).1 st hst
  unfold mayM at h1
  split at h1
  · rename_i hk
    exact (keysOk_rises _ _ hk).1
  · cases h1
theorem ba_ext' {a b : ByteArray} (h : a.toList = b.toList) : a = b := by
  rw [Lib.toList_data, Lib.toList_data] at h
  obtain ⟨⟨x⟩⟩ := a
  obtain ⟨⟨y⟩⟩ := b
  simp at h
  rw [h]
def putK : List PKey → PKey → List PKey
  | [], k => [k]
  | x :: xs, k => if x.1 = k.1 then k :: xs else if Op.bytesLess k.1.toList x.1.toList = true then k :: x :: xs else x :: putK xs k
theorem putK_set : ∀ (ks : List PKey) (k x : PKey) (j : Nat), RisesK ks → ks[j]? = some x → x.1 = k.1 → putK ks k = ks.set j k
  | [], _, _, _, _, h, _ => by simp at h
  | y :: ks, k, x, 0, _, h, e => by
    simp at h
    subst h
    simp [putK, e]
  | y :: ks, k, x, j + 1, hr, h, e => by
    simp only [List.getElem?_cons_succ] at h
    have h1 := (List.pairwise_cons.1 hr).1 x (List.mem_of_getElem? h)
    have h2 : ¬ y.1 = k.1 := fun e2 => by rw [e2, e, bl_irr] at h1; cases h1
    have h3 : ¬ Op.bytesLess k.1.toList y.1.toList = true := fun e2 => by
      rw [← e] at e2
      have := bl_trans _ _ _ h1 e2
      rw [bl_irr] at this
      cases this
    simp only [putK, if_neg h2, if_neg h3, List.set_cons_succ]
    rw [putK_set ks k x j (List.pairwise_cons.1 hr).2 h e]
theorem putK_perm : ∀ (ks : List PKey) (k : PKey), (∀ x ∈ ks, x.1 ≠ k.1) → (ks ++ [k]).Perm (putK ks k)
  | [], k, _ => List.Perm.refl _
  | y :: ks, k, h => by
    simp only [putK, if_neg (h y (by simp))]
    split
    · exact (List.perm_append_comm (l₁ := y :: ks) (l₂ := [k]))
    · exact (putK_perm ks k fun x hx => h x (by simp [hx])).cons y
theorem putK_mem : ∀ (ks : List PKey) (k x : PKey), x ∈ putK ks k → x = k ∨ x ∈ ks
  | [], k, x, h => by simp [putK] at h; exact .inl h
  | y :: ks, k, x, h => by
    simp only [putK] at h
    split at h
    · rcases List.mem_cons.1 h with h | h
      · exact .inl h
      · exact .inr (by simp [h])
    · split at h
      · rcases List.mem_cons.1 h with h | h
        · exact .inl h
        · exact .inr h
      · rcases List.mem_cons.1 h with h | h
        · exact .inr (by simp [h])
        · rcases putK_mem ks k x h with h | h
          · exact .inl h
          · exact .inr (by simp [h])
theorem putK_len : ∀ (ks : List PKey) (k : PKey), (putK ks k).length ≤ ks.length + 1
  | [], _ => by simp [putK]
  | y :: ks, k => by
    have := putK_len ks k
    simp only [putK]
    split
    · simp
    · split
      · simp
      · simpa using this
theorem putK_rises : ∀ (ks : List PKey) (k : PKey), RisesK ks → RisesK (putK ks k)
  | [], k, _ => by simp [putK, RisesK]
  | y :: ks, k, h => by
    obtain ⟨h1, h2⟩ := List.pairwise_cons.1 h
    simp only [putK]
    split
    · rename_i e
      exact List.pairwise_cons.2 ⟨fun x hx => by rw [← e]; exact h1 x hx, h2⟩
    · rename_i hne
      split
      · rename_i hl
        exact List.pairwise_cons.2 ⟨fun x hx => by
          rcases List.mem_cons.1 hx with rfl | hx
          · exact hl
          · exact bl_trans _ _ _ hl (h1 x hx), h⟩
      · rename_i hl
        have hl' : Op.bytesLess k.1.toList y.1.toList = false := by cases hh : Op.bytesLess k.1.toList y.1.toList; rfl; exact absurd hh hl
        have hyk : Op.bytesLess y.1.toList k.1.toList = true := by
          cases hh : Op.bytesLess y.1.toList k.1.toList
          · exact absurd (ba_ext' (bl_conn _ _ hh hl')) hne
          · rfl
        refine List.pairwise_cons.2 ⟨fun x hx => ?_, putK_rises ks k h2⟩
        rcases putK_mem ks k x hx with rfl | hx
        · exact hyk
        · exact h1 x hx
/-- The document's way. -/
def refPut : Bool → List PKey → PKey → List PKey
  | d, [], k => if d then [] else [k]
  | d, x :: xs, k => (if !d && !(Op.bytesLess x.1.toList k.1.toList) then [k] else []) ++ ((if x.1 = k.1 then [] else [x]) ++ refPut (d || !(Op.bytesLess x.1.toList k.1.toList)) xs k)
theorem refPut_done : ∀ (ks : List PKey) (k : PKey), (∀ x ∈ ks, x.1 ≠ k.1) → refPut true ks k = ks
  | [], _, _ => rfl
  | x :: ks, k, h => by
    simp only [refPut, Bool.not_true, Bool.false_and, Bool.true_or, if_neg (h x (by simp))]
    rw [refPut_done ks k fun y hy => h y (by simp [hy])]
    rfl
theorem refPut_eq : ∀ (ks : List PKey) (k : PKey), RisesK ks → refPut false ks k = putK ks k
  | [], _, _ => rfl
  | x :: ks, k, h => by
    obtain ⟨h1, h2⟩ := List.pairwise_cons.1 h
    simp only [refPut, putK, Bool.not_false, Bool.true_and, Bool.false_or]
    by_cases e : x.1 = k.1
    · have hb : Op.bytesLess x.1.toList k.1.toList = false := by rw [e]; exact bl_irr _
      rw [hb, if_pos e, if_pos e]
      rw [show (!false) = true from rfl, refPut_done ks k fun y hy e2 => by have := h1 y hy; rw [e, e2, bl_irr] at this; cases this]
      rfl
    · rw [if_neg e, if_neg e]
      cases hb : Op.bytesLess x.1.toList k.1.toList
      · have hb2 : Op.bytesLess k.1.toList x.1.toList = true := by
          cases hh : Op.bytesLess k.1.toList x.1.toList
          · exact absurd (ba_ext' (bl_conn _ _ hb hh)) e
          · rfl
        rw [if_pos hb2]
        rw [show (!false) = true from rfl, refPut_done ks k fun y hy e2 => by
          have := bl_trans _ _ _ hb2 (h1 y hy)
          rw [e2, bl_irr] at this
          cases this]
        rfl
      · have hb2 : ¬ Op.bytesLess k.1.toList x.1.toList = true := fun hh => by
          have := bl_trans _ _ _ hb hh
          rw [bl_irr] at this
          cases this
        rw [if_neg hb2]
        rw [show (!true) = false from rfl, refPut_eq ks k h2]
        rfl
def dropK (ks : List PKey) (key : ByteArray) : List PKey := ks.filter fun x => decide (x.1 ≠ key)
theorem dropK_take {ks : List PKey} {p : Nat} {x : PKey} {key : ByteArray} (h : ks[p]? = some x) : dropK (ks.take (p + 1)) key = dropK (ks.take p) key ++ (if x.1 = key then [] else [x]) := by
  rw [List.take_add_one, h]
  simp only [dropK, List.filter_append, Option.toList_some]
  by_cases e : x.1 = key <;> simp [e]
theorem own_blk {w : World} {base r g : Nat} {e t : TypeId} {size n : Nat} {v : Value} {xs : List Value} {cs : Array Value} (h : w.ownsRow base e size v n xs) (hB : Blk w r t cs) (hne : e ≠ t) (hg : v.ownBlock = some g) : g ≠ r := by
  rintro rfl
  rcases h.2 with ⟨rfl, -⟩ | ⟨g', cap, cur, rfl, _, hh, _⟩
  · simp [Value.ownBlock] at hg
  · simp [Value.ownBlock] at hg
    subst hg
    unfold Blk at hB
    rw [hB] at hh
    cases hh
    exact hne rfl
end Go.Proofs.YtkfofdmcggoonaaGreatDoor
/-
  The walk of path.Join. Condition: the strings are within the reach.
-/
namespace Go.Proofs.YtkfofdmcggoonaaGreatDoor
open Go.RowKit

theorem stepCells_append2 : ∀ (l m : List PStep) (vs ws : List Value), vs.length = l.length → stepCells (l ++ m) (vs ++ ws) = stepCells l vs ++ stepCells m ws
  | [], _, [], _, _ => rfl
  | st :: l, m, v :: vs, ws, h => by
    have := stepCells_append2 l m vs ws (by simpa using h)
    simp [stepCells, this]
  | [], _, _ :: _, _, h => by simp at h
  | _ :: _, _, [], _, h => by simp at h
theorem StepsR.rowR {w : World} {v : Value} {l : List PStep} {vs : List Value} (h : StepsR w v l vs) : RowR w w.heap.size v l.length (stepCells l vs) := by
  obtain ⟨A, c, rfl, h1, h2, h3, _, _⟩ := h
  exact ⟨A, c, rfl, h1, h2, h3⟩
/-- put of two lists of steps. -/
theorem put_two (v1 v2 : Value) (l m : List PStep) (vs ws : List Value) (w : World) (h1 : StepsR w v1 l vs) (h2 : StepsR w v2 m ws) (hs1 : ∀ st ∈ l, StepSmall st) (hs2 : ∀ st ∈ m, StepSmall st) (hl : l.length ≤ 400) (hm : m.length ≤ 400) :
    Calls Tryz.prog 53 #[.slice (some ⟨w.heap.size, 0, none⟩) 2 2] (w.alloc (.cells #[v1, v2] 59)) (PutPost (l ++ m) (w.alloc (.cells #[v1, v2] 59))) := by
  have hb : Below w.heap.size w (w.alloc (.cells #[v1, v2] 59)) := (Below.refl _ _).alloc (Nat.le_refl _) _
  have h1' := h1.more hb
  have h2' := h2.more hb
  have ho1 := stepCells_one h1'
  have ho2 := stepCells_one h2'
  have hr1 := h1'.rowR
  have hr2 := h2'.rowR
  obtain ⟨_, _, _, _, _, _, hl1, hk1⟩ := h1'
  obtain ⟨_, _, _, _, _, _, hl2, hk2⟩ := h2'
  refine put_any _ 2 2 [(v1, l.length, stepCells l vs), (v2, m.length, stepCells m ws)] (l ++ m) (vs ++ ws) _ rfl ⟨⟨?_, ?_⟩, by simp [flatL, stepCells_append2 l m vs ws hl1], by simp [sumL], by simp [hl1, hl2], ?_, ?_, by simp; omega, by simp⟩
  · have := reads_new w #[v1, v2] 59 1 2 rfl
    simpa using this
  · intro x hx
    simp at hx
    rcases hx with rfl | rfl
    · exact ⟨hr1, ho1⟩
    · exact ⟨hr2, ho2⟩
  · intro i st kv hi hj
    rcases Nat.lt_or_ge i l.length with hlt | hge
    · rw [List.getElem?_append_left hlt] at hi
      rw [List.getElem?_append_left (by omega)] at hj
      exact hk1 i st kv hi hj
    · rw [List.getElem?_append_right hge] at hi
      rw [List.getElem?_append_right (by omega), hl1] at hj
      exact hk2 _ st kv hi hj
  · intro st hst
    rcases List.mem_append.1 hst with h | h
    · exact hs1 st h
    · exact hs2 st h
def JoinBad (a b : ByteArray) (w : World) (en : Ending) (w' : World) : Prop := Below w.heap.size w w' ∧ ∃ e : Int, e ≠ 0 ∧ ((∃ y, parseM a = .error (e, y)) ∨ ∃ l y, parseM a = .ok l ∧ parseM b = .error (e, y)) ∧ en = .returned (.tuple #[.string ByteArray.empty, .int .i64 e])
def JoinGood (a b : ByteArray) (w : World) (en : Ending) (w' : World) : Prop := Below w.heap.size w w' ∧ ∃ l m, parseM a = .ok l ∧ parseM b = .ok m ∧ en = .returned (.tuple #[.string (putS (putM (l ++ m))), .int .i64 (putE (putM (l ++ m)))])
def JoinPost (a b : ByteArray) (w : World) (en : Ending) (w' : World) : Prop := JoinBad a b w en w' ∨ JoinGood a b w en w'
set_option maxHeartbeats 4000000 in
theorem join_any (a b : ByteArray) (w : World) (ha : a.size ≤ 140737488355328) (hb : b.size ≤ 140737488355328) :
    Calls Tryz.prog 29 #[.string a, .string b] w (JoinPost a b w) := by
  have HPA := Lib.hid (fun W => parse_says a W ha)
  have HPB := Lib.hid (fun W => parse_says b W hb)
  go_enter Tryz.func29, Tryz.ntmps29
  go_upto_region 2 with (go_at_call 32; go_loud (refine (HPA.out _).mono ?_; rintro en w1 ⟨hB1, ⟨x, y, hE, rfl⟩ | ⟨l, v, hE, rfl, hO⟩⟩; rotate_left; obtain ⟨vs, hI⟩ := hO; obtain ⟨A1, c1, rfl, -, -, -⟩ := own_form hI.2.1; have HI := Lib.hid hI.reads; clear hI; rotate_right; all_goals (have HE := Lib.hid hE; have HB1 := Lib.hid hB1; clear hE hB1)))
  · have hx0 : (x == 0) = false := by
      rw [beq_eq_false_iff_ne]
      have := parseM_err HE.out
      omega
    have HX := Lib.hid hx0
    have hx1 : ¬ x = 0 := by simpa using hx0
    have hn := Blk.new w1 43 #[.int .i64 x, .int .i64 y]
    have HB2 := Lib.hid (show Below w.heap.size w (w1.alloc (.cells #[.int .i64 x, .int .i64 y] 43)) from HB1.out.alloc HB1.out.size _)
    generalize w1.alloc (.cells #[.int .i64 x, .int .i64 y] 43) = w2 at *
    have k0 : w2.cell? ⟨w1.heap.size, 0, none⟩ = some (.int .i64 x) := hn.cell 0
    clear hn
    go_upto_region 3 with (fail)
    go_quiet (fail)
    go_wp2
    go_ret2
    exact .inl ⟨below_drewN HB2.out _, x, by simpa using HX.out, .inl ⟨y, HE.out⟩, rfl⟩
  · have hn := Blk.new w1 43 #[.int .i64 0, .int .i64 0]
    have HB2 := Lib.hid (show Below w.heap.size w (w1.alloc (.cells #[.int .i64 0, .int .i64 0] 43)) from HB1.out.alloc HB1.out.size _)
    have HR := Lib.hid (HI.out.more (show Below w1.heap.size w1 (w1.alloc (.cells #[.int .i64 0, .int .i64 0] 43)) from (Below.refl _ _).alloc (Nat.le_refl _) _))
    generalize w1.alloc (.cells #[.int .i64 0, .int .i64 0] 43) = w2 at *
    have k0 : w2.cell? ⟨w1.heap.size, 0, none⟩ = some (.int .i64 0) := hn.cell 0
    clear hn HI
    go_upto_region 5 with (go_at_call 32; go_loud (refine (HPB.out _).mono ?_; rintro en w3 ⟨hB3, ⟨x, y, hE3, rfl⟩ | ⟨m, v2, hE3, rfl, hO3⟩⟩; rotate_left; obtain ⟨ws, hI3⟩ := hO3; obtain ⟨A2, c2, rfl, -, -, -⟩ := own_form hI3.2.1; have HI3 := Lib.hid hI3.reads; clear hI3; rotate_right; all_goals (have HE3 := Lib.hid hE3; have HB3 := Lib.hid hB3; clear hE3 hB3)))
    · have hx0 : (x == 0) = false := by
        rw [beq_eq_false_iff_ne]
        have := parseM_err HE3.out
        omega
      have HX := Lib.hid hx0
      have hx1 : ¬ x = 0 := by simpa using hx0
      have hn := Blk.new w3 43 #[.int .i64 x, .int .i64 y]
      have HB4 := Lib.hid (show Below w.heap.size w (w3.alloc (.cells #[.int .i64 x, .int .i64 y] 43)) from (HB2.out.trans (HB3.out.mono HB2.out.size)).alloc (Nat.le_trans HB2.out.size HB3.out.size) _)
      generalize w3.alloc (.cells #[.int .i64 x, .int .i64 y] 43) = w4 at *
      have k1 : w4.cell? ⟨w3.heap.size, 0, none⟩ = some (.int .i64 x) := hn.cell 0
      clear hn
      go_upto_region 6 with (fail)
      go_quiet (fail)
      go_wp2
      go_ret2
      exact .inl ⟨below_drewN HB4.out _, x, by simpa using HX.out, .inr ⟨l, y, HE.out, HE3.out⟩, rfl⟩
    · have hn := Blk.new w3 43 #[.int .i64 0, .int .i64 0]
      have HB4 := Lib.hid (show Below w.heap.size w (w3.alloc (.cells #[.int .i64 0, .int .i64 0] 43)) from (HB2.out.trans (HB3.out.mono HB2.out.size)).alloc (Nat.le_trans HB2.out.size HB3.out.size) _)
      have hb34 : Below w3.heap.size w3 (w3.alloc (.cells #[.int .i64 0, .int .i64 0] 43)) := (Below.refl _ _).alloc (Nat.le_refl _) _
      have HR1 := Lib.hid ((HR.out.more HB3.out).more hb34)
      have HR2 := Lib.hid (HI3.out.more hb34)
      generalize w3.alloc (.cells #[.int .i64 0, .int .i64 0] 43) = w4 at *
      have k1 : w4.cell? ⟨w3.heap.size, 0, none⟩ = some (.int .i64 0) := hn.cell 0
      have HS1 := Lib.hid (parseM_small HE.out)
      have HS2 := Lib.hid (parseM_small HE3.out)
      have HPUT := Lib.hid (put_two _ _ l m vs ws w4 HR1.out HR2.out (fun st h => (HS1.out.1 st h).small) (fun st h => (HS2.out.1 st h).small) (by have := HS1.out.2.1; omega) (by have := HS2.out.2.1; omega))
      clear hn hb34 HR HI3
      go_wp2_with (go_at_call 53; go_loud (refine HPUT.out.mono ?_; rintro en w5 ⟨rfl, hB5⟩; have HB5 := Lib.hid hB5; clear hB5))
      go_ret2
      exact .inr ⟨(HB4.out.alloc HB4.out.size _).trans (HB5.out.mono (by have := HB4.out.size; simp; omega)), l, m, HE.out, HE3.out, rfl⟩
end Go.Proofs.YtkfofdmcggoonaaGreatDoor
/-
  Rows of keys: how they are kept and sorted. Condition: at most 1000000 keys.
-/
namespace Go.Proofs.YtkfofdmcggoonaaGreatDoor
open Go.RowKit Go.Shelf Go.Lib Go.Sort

instance : Inhabited PKey := ⟨(ByteArray.empty, ByteArray.empty)⟩
abbrev kA (k : PKey) : Value := .string k.1
abbrev kB (k : PKey) : Value := .string k.2
theorem pairs_cells (ks : List PKey) : pairCells ks = cells2 kA kB ks := rfl
theorem compare_any (a b : ByteArray) (w : World) : Calls Tryz.prog 24 #[.string a, .string b] w fun e w' => e = .returned (.int .i64 (Lib.compareBytes a.data.toList b.data.toList)) ∧ w' = w := Go.Proofs.Any.strings_Compare cmpS a b w
/-- What a function that compares two keys answers. -/
def Cmps (F : FuncId) : Prop := ∀ (x y : PKey) (W : World), Calls Tryz.prog F #[.agg #[.string x.1, .string x.2], .agg #[.string y.1, .string y.2]] W fun e w' => e = .returned (.int .i64 (Lib.compareBytes x.1.data.toList y.1.data.toList)) ∧ ∃ q os', w' = grow (W.drewN q) os'
theorem sort_of (F : FuncId) (eg : ∀ args w, (callFunc F args).run Tryz.prog w = .ok (.enter F args) w) (hF : Cmps F) (g c : Nat) (d : Array PKey) (w : World) (hH : HoldsK (fun k => [kA k, kB k]) 2 w g 0 d) (hg : g < w.heap.size) (hd : d.size ≤ 8796093022208) :
    Calls Tryz.prog 22 #[.slice (some ⟨g, 0, none⟩) d.size c, .func (.func F) #[] #[]] w fun e w' => e = .returned (.tuple #[]) ∧
      ∃ d' n os, PermIn 0 d.size d d' ∧ SortedIn (fun x y : PKey => Op.bytesLess x.1.toList y.1.toList) 0 d.size d' ∧ w' = sortWorldK (fun k : PKey => [kA k, kB k]) 2 w g 0 n d' os := by
  have hlt : (ltOf fun x y : PKey => Lib.compareBytes x.1.data.toList y.1.data.toList) = fun x y : PKey => Op.bytesLess x.1.toList y.1.toList := by
    funext x y
    rw [Lib.toList_data, Lib.toList_data, ← cb_less]
    rfl
  have hcon := AnyQ.slices_SortFunc sortP 2 Tryz.isAgg33 Tryz.sizeOf33 (fun k : PKey => [kA k, kB k]) (fun _ => rfl) (fun x v hv => by simp at hv; rcases hv with rfl | rfl <;> rfl) (fun x y : PKey => Lib.compareBytes x.1.data.toList y.1.data.toList)
    (by rw [hlt]; exact bl_swo _) F #[] g 0 c d w eg (fun _ _ _ _ x y => hF x y _) hH hg (by omega)
  rw [hlt] at hcon
  exact hcon
theorem own_spot {w : World} {base : Nat} {e : TypeId} {size n m c : Nat} {A : Option Addr} {xs : List Value} (h : w.ownsRow base e size (.slice A m c) n xs) (hn : 0 < n) : ∃ g, A = some ⟨g, 0, none⟩ ∧ base ≤ g ∧ g < w.heap.size := by
  obtain ⟨g, cap, hv, h1, h2⟩ := h.form hn
  cases hv
  exact ⟨g, rfl, h1, h2⟩
/-- Where the keys of step i turn, the other rows stay. -/
theorem keys_stay {w W : World} {base : Nat} {v : Value} {l : List PStep} {vs : List Value} {i : Nat} {kv : Value} (hI : StepsIn w base v l vs) (hkv : vs[i]? = some kv) (hg : w.grownBy W kv.ownBlock) {j : Nat} (hji : j ≠ i) {st : PStep} {kj : Value} (hst : l[j]? = some st) (hj : vs[j]? = some kj) :
    W.ownsRow base 33 2 kj st.2.length (pairCells st.2) := by
  refine (hI.2.2.1 j st kj hst hj).kept hg ?_
  cases h1 : kj.ownBlock with
  | none => exact .inl rfl
  | some a =>
    refine .inr fun e => ?_
    rcases Nat.lt_or_gt_of_ne hji with h | h
    · have := hI.2.2.2 j i a a kj kv h hj hkv h1 e.symm
      omega
    · have := hI.2.2.2 i j a a kv kj h hkv hj e.symm h1
      omega
theorem row_stays {w W : World} {base : Nat} {v : Value} {l : List PStep} {vs : List Value} {i : Nat} {kv : Value} {st : PStep} (hI : StepsIn w base v l vs) (hst : l[i]? = some st) (hkv : vs[i]? = some kv) (hg : w.grownBy W kv.ownBlock) : W.ownsRow base 70 2 v l.length (stepCells l vs) := by
  refine hI.2.1.kept hg ?_
  cases h1 : v.ownBlock with
  | none => exact .inl rfl
  | some a => exact .inr fun e => own_other hI.2.1 (hI.2.2.1 i st kv hst hkv) (by decide) a h1 e.symm
theorem front_stays {w W : World} {base n c : Nat} {A : Option Addr} {l : List PStep} {vs : List Value} {kv : Value} {st : PStep} (hI : StepsIn w base (.slice A l.length c) l vs) (hl : l.length = n + 1) (hst : l[n]? = some st) (hkv : vs[n]? = some kv) (hg : w.grownBy W kv.ownBlock) :
    StepsR W (.slice A n c) (l.take n) (vs.take n) := by
  obtain ⟨A', c', e, h1, h2, hr⟩ := own_form (row_stays hI hst hkv hg)
  cases e
  have hn : (l.take n).length = n := by rw [List.length_take]; omega
  refine ⟨A, c, by rw [hn], by omega, h2, ?_, by rw [List.length_take, List.length_take, hI.1], fun i st' kv' hi hj => ?_⟩
  · rw [hn, stepCells_take]
    exact hr.take (by omega)
  · rw [List.getElem?_take] at hi hj
    split at hi
    · rename_i hlt
      rw [if_pos hlt] at hj
      obtain ⟨A', c', rfl, a, b, hr'⟩ := own_form (keys_stay hI hkv hg (by omega) hi hj)
      exact ⟨A', c', rfl, a, b, hr'⟩
    · cases hi
theorem grown_trans {a b c : World} {row row' : Option Nat} (h : a.grownBy b row) (k : b.grownBy c row') (hr : ∀ i, row' = some i → row = some i ∨ a.heap.size ≤ i) : a.grownBy c row :=
  ⟨k.os.trans h.os, k.tape.trans h.tape, k.output.trans h.output, Nat.le_trans h.size k.size, fun i hi hne => (k.block i (Nat.lt_of_lt_of_le hi h.size) (fun e => by
    rcases hr i e.symm with h1 | h1
    · exact hne h1.symm
    · omega)).trans (h.block i hi hne)⟩
theorem grown_below {a b : World} (h : Below a.heap.size a b) (row : Option Nat) : a.grownBy b row := ⟨h.os, h.tape, h.output, h.size, fun i hi _ => h.block i hi⟩
theorem pairs_snoc (ks : List PKey) (x : PKey) : pairCells ks ++ [.string x.1, .string x.2] = cells2 kA kB (ks ++ [x]) := by simp [pairCells, cells2]
/-- A slice of one step. -/
theorem steps_one {w : World} {kv : Value} {st : PStep} (h : KeysAt w w.heap.size kv st.2) : StepsR (w.alloc (.cells #[.string st.1, kv] 70)) (.slice (some ⟨w.heap.size, 0, none⟩) 1 1) [st] [kv] := by
  have hr := reads_new w #[.string st.1, kv] 70 2 1 rfl
  refine ⟨_, 1, rfl, Nat.le_refl _, by decide, by simpa [stepCells] using hr, rfl, ?_⟩
  intro i x v hi hj
  match i with
  | 0 =>
    simp at hi hj
    subst hi hj
    exact h.more ((Below.refl _ _).alloc (Nat.le_refl _) _) (by simp)
  | i + 1 => simp at hi
end Go.Proofs.YtkfofdmcggoonaaGreatDoor
