/-
  Putting a key into rising keys, plainly. No condition, no program in sight.
-/
import Derived.Test.YtjebaibcfmjinaaSortRow
import Derived.Test.YtjebaibcfmjinaaPathRT
namespace Go.Proofs.Ytjebaibcfmjinaa
open Go.RowKit

def RisesK (ks : List PKey) : Prop := ks.Pairwise (fun x y => Op.bytesLess x.1.toList y.1.toList = true)
theorem keysOk_rises : ∀ (ks : List PKey) (ah : ByteArray), keysOk ah ks = true → RisesK ks ∧ ∀ x ∈ ks, Op.bytesLess ah.toList x.1.toList = true
  | [], _, _ => ⟨List.Pairwise.nil, fun _ h => by cases h⟩
  | k :: ks, ah, h => by
    simp only [keysOk, Bool.and_eq_true] at h
    obtain ⟨h1, h2⟩ := h
    have hk : Op.bytesLess ah.toList k.1.toList = true := by
      simp only [keyOk, Bool.and_eq_true] at h1
      exact h1.1.1.2
    obtain ⟨r1, r2⟩ := keysOk_rises ks k.1 h2
    refine ⟨List.pairwise_cons.2 ⟨r2, r1⟩, fun x hx => ?_⟩
    rcases List.mem_cons.1 hx with rfl | hx
    · exact hk
    · exact bl_trans _ _ _ hk (r2 x hx)
theorem parse_rises {p : ByteArray} {l : List PStep} (h : parseM p = .ok l) : ∀ st ∈ l, RisesK st.2 := by
  intro st hst
  have h1 := (putM_inv (parse_print h)).1 st hst
  unfold mayM at h1
  split at h1
  · rename_i hk
    exact (keysOk_rises _ _ hk).1
  · cases h1
theorem ba_ext' {a b : ByteArray} (h : a.toList = b.toList) : a = b := by
  rw [Lib.toList_data, Lib.toList_data] at h
  obtain ⟨⟨x⟩⟩ := a
  obtain ⟨⟨y⟩⟩ := b
  simp at h
  rw [h]
def putK : List PKey → PKey → List PKey
  | [], k => [k]
  | x :: xs, k => if x.1 = k.1 then k :: xs else if Op.bytesLess k.1.toList x.1.toList = true then k :: x :: xs else x :: putK xs k
theorem putK_set : ∀ (ks : List PKey) (k x : PKey) (j : Nat), RisesK ks → ks[j]? = some x → x.1 = k.1 → putK ks k = ks.set j k
  | [], _, _, _, _, h, _ => by simp at h
  | y :: ks, k, x, 0, _, h, e => by
    simp at h
    subst h
    simp [putK, e]
  | y :: ks, k, x, j + 1, hr, h, e => by
    simp only [List.getElem?_cons_succ] at h
    have h1 := (List.pairwise_cons.1 hr).1 x (List.mem_of_getElem? h)
    have h2 : ¬ y.1 = k.1 := fun e2 => by rw [e2, e, bl_irr] at h1; cases h1
    have h3 : ¬ Op.bytesLess k.1.toList y.1.toList = true := fun e2 => by
      rw [← e] at e2
      have := bl_trans _ _ _ h1 e2
      rw [bl_irr] at this
      cases this
    simp only [putK, if_neg h2, if_neg h3, List.set_cons_succ]
    rw [putK_set ks k x j (List.pairwise_cons.1 hr).2 h e]
theorem putK_perm : ∀ (ks : List PKey) (k : PKey), (∀ x ∈ ks, x.1 ≠ k.1) → (ks ++ [k]).Perm (putK ks k)
  | [], k, _ => List.Perm.refl _
  | y :: ks, k, h => by
    simp only [putK, if_neg (h y (by simp))]
    split
    · exact (List.perm_append_comm (l₁ := y :: ks) (l₂ := [k]))
    · exact (putK_perm ks k fun x hx => h x (by simp [hx])).cons y
theorem putK_mem : ∀ (ks : List PKey) (k x : PKey), x ∈ putK ks k → x = k ∨ x ∈ ks
  | [], k, x, h => by simp [putK] at h; exact .inl h
  | y :: ks, k, x, h => by
    simp only [putK] at h
    split at h
    · rcases List.mem_cons.1 h with h | h
      · exact .inl h
      · exact .inr (by simp [h])
    · split at h
      · rcases List.mem_cons.1 h with h | h
        · exact .inl h
        · exact .inr h
      · rcases List.mem_cons.1 h with h | h
        · exact .inr (by simp [h])
        · rcases putK_mem ks k x h with h | h
          · exact .inl h
          · exact .inr (by simp [h])
theorem putK_len : ∀ (ks : List PKey) (k : PKey), (putK ks k).length ≤ ks.length + 1
  | [], _ => by simp [putK]
  | y :: ks, k => by
    have := putK_len ks k
    simp only [putK]
    split
    · simp
    · split
      · simp
      · simpa using this
theorem putK_rises : ∀ (ks : List PKey) (k : PKey), RisesK ks → RisesK (putK ks k)
  | [], k, _ => by simp [putK, RisesK]
  | y :: ks, k, h => by
    obtain ⟨h1, h2⟩ := List.pairwise_cons.1 h
    simp only [putK]
    split
    · rename_i e
      exact List.pairwise_cons.2 ⟨fun x hx => by rw [← e]; exact h1 x hx, h2⟩
    · rename_i hne
      split
      · rename_i hl
        exact List.pairwise_cons.2 ⟨fun x hx => by
          rcases List.mem_cons.1 hx with rfl | hx
          · exact hl
          · exact bl_trans _ _ _ hl (h1 x hx), h⟩
      · rename_i hl
        have hl' : Op.bytesLess k.1.toList y.1.toList = false := by cases hh : Op.bytesLess k.1.toList y.1.toList; rfl; exact absurd hh hl
        have hyk : Op.bytesLess y.1.toList k.1.toList = true := by
          cases hh : Op.bytesLess y.1.toList k.1.toList
          · exact absurd (ba_ext' (bl_conn _ _ hh hl')) hne
          · rfl
        refine List.pairwise_cons.2 ⟨fun x hx => ?_, putK_rises ks k h2⟩
        rcases putK_mem ks k x hx with rfl | hx
        · exact hyk
        · exact h1 x hx
/-- The document's way. -/
def refPut : Bool → List PKey → PKey → List PKey
  | d, [], k => if d then [] else [k]
  | d, x :: xs, k => (if !d && !(Op.bytesLess x.1.toList k.1.toList) then [k] else []) ++ ((if x.1 = k.1 then [] else [x]) ++ refPut (d || !(Op.bytesLess x.1.toList k.1.toList)) xs k)
theorem refPut_done : ∀ (ks : List PKey) (k : PKey), (∀ x ∈ ks, x.1 ≠ k.1) → refPut true ks k = ks
  | [], _, _ => rfl
  | x :: ks, k, h => by
    simp only [refPut, Bool.not_true, Bool.false_and, Bool.true_or, if_neg (h x (by simp))]
    rw [refPut_done ks k fun y hy => h y (by simp [hy])]
    rfl
theorem refPut_eq : ∀ (ks : List PKey) (k : PKey), RisesK ks → refPut false ks k = putK ks k
  | [], _, _ => rfl
  | x :: ks, k, h => by
    obtain ⟨h1, h2⟩ := List.pairwise_cons.1 h
    simp only [refPut, putK, Bool.not_false, Bool.true_and, Bool.false_or]
    by_cases e : x.1 = k.1
    · have hb : Op.bytesLess x.1.toList k.1.toList = false := by rw [e]; exact bl_irr _
      rw [hb, if_pos e, if_pos e]
      rw [show (!false) = true from rfl, refPut_done ks k fun y hy e2 => by have := h1 y hy; rw [e, e2, bl_irr] at this; cases this]
      rfl
    · rw [if_neg e, if_neg e]
      cases hb : Op.bytesLess x.1.toList k.1.toList
      · have hb2 : Op.bytesLess k.1.toList x.1.toList = true := by
          cases hh : Op.bytesLess k.1.toList x.1.toList
          · exact absurd (ba_ext' (bl_conn _ _ hb hh)) e
          · rfl
        rw [if_pos hb2]
        rw [show (!false) = true from rfl, refPut_done ks k fun y hy e2 => by
          have := bl_trans _ _ _ hb2 (h1 y hy)
          rw [e2, bl_irr] at this
          cases this]
        rfl
      · have hb2 : ¬ Op.bytesLess k.1.toList x.1.toList = true := fun hh => by
          have := bl_trans _ _ _ hb hh
          rw [bl_irr] at this
          cases this
        rw [if_neg hb2]
        rw [show (!true) = false from rfl, refPut_eq ks k h2]
        rfl
def dropK (ks : List PKey) (key : ByteArray) : List PKey := ks.filter fun x => decide (x.1 ≠ key)
theorem dropK_take {ks : List PKey} {p : Nat} {x : PKey} {key : ByteArray} (h : ks[p]? = some x) : dropK (ks.take (p + 1)) key = dropK (ks.take p) key ++ (if x.1 = key then [] else [x]) := by
  rw [List.take_add_one, h]
  simp only [dropK, List.filter_append, Option.toList_some]
  by_cases e : x.1 = key <;> simp [e]
theorem own_blk {w : World} {base r g : Nat} {e t : TypeId} {size n : Nat} {v : Value} {xs : List Value} {cs : Array Value} (h : w.ownsRow base e size v n xs) (hB : Blk w r t cs) (hne : e ≠ t) (hg : v.ownBlock = some g) : g ≠ r := by
  rintro rfl
  rcases h.2 with ⟨rfl, -⟩ | ⟨g', cap, cur, rfl, _, hh, _⟩
  · simp [Value.ownBlock] at hg
  · simp [Value.ownBlock] at hg
    subst hg
    unfold Blk at hB
    rw [hB] at hh
    cases hh
    exact hne rfl
end Go.Proofs.Ytjebaibcfmjinaa
