/-
  A bundle with its last Book twice, by a longer name: what is wrong with it, and its size; a path's group as a range over the path finds it. Plain lemmas; no condition.
-/
import Derived.Test.YtfpepdjffehbcaaBunBytesP
import Derived.Test.YtfpepdjffehbcaaPathRT
set_option linter.unusedVariables false
set_option linter.unusedSimpArgs false
namespace Go.Proofs.Ytfpepdjffehbcaa
open Go.RowKit

/-- A name and a wave. -/
def wave (n : ByteArray) : ByteArray := n ++ ⟨#[126]⟩
theorem wave_size (n : ByteArray) : (wave n).size = n.size + 1 := by unfold wave; rw [ByteArray.size_append]; rfl
theorem broken_wave {n : ByteArray} (h : broken n = none) : broken (wave n) = none := by
  obtain ⟨rs, hr, he, -⟩ := right_text h
  have h1 : encL (rs ++ [126]) = n.data.toList ++ [126] := by
    have : encL (rs ++ [126]) = encL rs ++ encL [126] := by unfold encL; rw [List.flatMap_append]
    rw [this, he]
    rfl
  have ht : T (wave n) 0 (encL (rs ++ [126])) := ⟨by rw [h1]; simp [wave], Nat.zero_le _⟩
  exact (runes_right (rs ++ [126]) 0 (fun r hr2 => by
    rcases List.mem_append.1 hr2 with h | h
    · exact hr r h
    · rw [List.mem_singleton.1 h]; exact .inl (by decide)) ht).1
theorem less_snoc (x : UInt8) : ∀ l : List UInt8, Op.bytesLess l (l ++ [x]) = true
  | [] => rfl
  | a :: l => by
    have h := less_snoc x l
    simp [Op.bytesLess, h]
theorem bl_wave (n : ByteArray) : bl n (wave n) = true := by
  unfold bl
  rw [Lib.toList_data, Lib.toList_data]
  have : (wave n).data.toList = n.data.toList ++ [126] := by simp [wave]
  rw [this]
  exact less_snoc 126 _
theorem nameE_wave {prev : Option ByteArray} {n : ByteArray} (h : nameE prev n = 0) : nameE (some n) (wave n) = 0 ∨ nameE (some n) (wave n) = 3 := by
  have hb : broken n = none := by
    unfold nameE at h
    split at h
    · exact absurd h (by decide)
    · rename_i h1
      cases hn : broken n with
      | none => rfl
      | some k => rw [hn] at h1; exact absurd rfl h1
  unfold nameE
  rw [broken_wave hb, if_neg (by simp)]
  split
  · exact .inr rfl
  · left
    simp only
    rw [bl_wave, if_neg (by simp)]
theorem valsE_met : ∀ (vs : List PKey) (a : ByteArray) (M : List ByteArray), (valsE vs a M).1 = 0 → ∀ q, q ∈ (valsE vs a M).2 ↔ q ∈ M ∨ q ∈ vs.map Prod.fst
  | [], a, M, _, q => by simp [valsE]
  | x :: r, a, M, h, q => by
    simp only [valsE] at h ⊢
    split at h
    · rename_i hv
      rw [if_pos hv, valsE_met r x.1 _ h q, addM_mem, List.map_cons, List.mem_cons]
      constructor
      · rintro ((h | h) | h)
        · exact .inr (.inl h)
        · exact .inl h
        · exact .inr (.inr h)
      · rintro (h | h | h)
        · exact .inl (.inr h)
        · exact .inl (.inl h)
        · exact .inr h
    · rename_i hv
      exact absurd h hv
theorem valsE_again : ∀ (vs : List PKey) (a : ByteArray) (M M' : List ByteArray), (valsE vs a M).1 = 0 → (∀ x ∈ vs, x.1 ∈ M') → (valsE vs a M').1 = 0
  | [], a, M, M', _, _ => rfl
  | x :: r, a, M, M', h, hm => by
    simp only [valsE] at h ⊢
    split at h
    · rename_i hv
      have hx : hasT M' x.1 = true := hasT_iff.2 (hm x List.mem_cons_self)
      have hv' : valE M' a x = 0 := by
        obtain ⟨v1, v2, v3, v4, v5⟩ := valE_le hv
        unfold valE
        rw [if_neg (by rw [v2]; simpa using v1), if_neg (by rw [v3]; decide), if_neg (by rw [v4]; decide), if_neg (by rw [hx]; simp; omega)]
      rw [if_pos hv']
      have ha : addM M' x.1 = M' := by unfold addM; rw [if_pos hx]
      rw [ha]
      exact valsE_again r x.1 _ M' h fun y hy => hm y (List.mem_cons_of_mem _ hy)
    · rename_i hv
      exact absurd h hv
theorem booksE_wave {n : ByteArray} {vs : List PKey} : ∀ (k : List PStep) (i : Nat) (prev : Option ByteArray) (M : List ByteArray), (booksE (k ++ [(n, vs)]) i prev M).1 = 0 → (booksE (k ++ [(n, vs), (wave n, vs)]) i prev M).1 = 0 ∨ (booksE (k ++ [(n, vs), (wave n, vs)]) i prev M).1 = 3
  | [], i, prev, M, h => by
    simp only [List.nil_append, booksE] at h ⊢
    split at h
    · rename_i hn
      split at h
      · rename_i hv
        rw [if_pos hn, if_pos hv]
        have hv2 := valsE_again vs ByteArray.empty M (valsE vs ByteArray.empty M).2 hv fun x hx => (valsE_met vs _ _ hv x.1).2 (.inr (List.mem_map.2 ⟨x, hx, rfl⟩))
        rcases nameE_wave hn with h1 | h1
        · rw [if_pos h1, if_pos hv2]
          exact .inl rfl
        · rw [h1, if_neg (by decide)]
          exact .inr rfl
      · rename_i hv
        exact absurd h hv
    · rename_i hn
      exact absurd h hn
  | b :: k, i, prev, M, h => by
    simp only [List.cons_append, booksE] at h ⊢
    split at h
    · rename_i hn
      split at h
      · rename_i hv
        rw [if_pos hn, if_pos hv]
        exact booksE_wave k _ _ _ h
      · rename_i hv
        exact absurd h hv
    · rename_i hn
      exact absurd h hn
/-- With its last Book twice, a right bundle is right or too long. -/
theorem twice_check {k : List PStep} {n : ByteArray} {vs : List PKey} (h : (checkB (k ++ [(n, vs)])).1 = 0) : (checkB (k ++ [(n, vs), (wave n, vs)])).1 = 0 ∨ (checkB (k ++ [(n, vs), (wave n, vs)])).1 = 3 := by
  unfold checkB at h ⊢
  split at h
  · exact absurd h (by decide)
  · split
    · exact .inr rfl
    · exact booksE_wave k 0 none [] h
/-- The groups of a Book's first values, as a map meets them. -/
def grpM (vs : List PKey) : List ByteArray := vs.foldl (fun M v => addM M (grp v.1)) []
theorem grpM_snoc (vs : List PKey) (v : PKey) : grpM (vs ++ [v]) = addM (grpM vs) (grp v.1) := by unfold grpM; rw [List.foldl_append]; rfl
theorem grpM_fold : ∀ (vs : List PKey) (M : List ByteArray), M.Nodup → (vs.foldl (fun M v => addM M (grp v.1)) M).Nodup ∧ ∀ g, g ∈ vs.foldl (fun M v => addM M (grp v.1)) M ↔ g ∈ M ∨ g ∈ vs.map fun v => grp v.1
  | [], M, h => ⟨h, fun g => by simp⟩
  | v :: vs, M, h => by
    obtain ⟨h1, h2⟩ := grpM_fold vs (addM M (grp v.1)) (addM_nodup h _)
    refine ⟨h1, fun g => ?_⟩
    rw [List.foldl_cons, h2, addM_mem, List.map_cons, List.mem_cons]
    constructor
    · rintro ((h | h) | h)
      · exact .inr (.inl h)
      · exact .inl h
      · exact .inr (.inr h)
    · rintro (h | h | h)
      · exact .inl (.inr h)
      · exact .inl (.inl h)
      · exact .inr h
theorem grpM_len (vs : List PKey) : (grpM vs).length = (groupsB vs).length := by
  obtain ⟨h1, h2⟩ := grpM_fold vs [] List.nodup_nil
  refine ((List.perm_ext_iff_of_nodup h1 (rise_nodup blT (poolL_rise blT (vs.map fun v => grp v.1)))).2 fun g => ?_).length_eq
  rw [h2, poolL_mem]
  simp
theorem nameEnd_in : ∀ (k : Nat) (s : ByteArray) (p i : Nat), p ≤ i → i < nameEndF k s p → ∃ h : i < s.size, nameB s[i] = true
  | 0, s, p, i, h1, h2 => by simp only [nameEndF] at h2; omega
  | k + 1, s, p, i, h1, h2 => by
    simp only [nameEndF] at h2
    split at h2
    · rename_i hp
      split at h2
      · rename_i hb
        by_cases e : i = p
        · subst e; exact ⟨hp, hb⟩
        · exact nameEnd_in k s (p + 1) i (by omega) h2
      · omega
    · omega
theorem nameB_plain (b : UInt8) (hb : nameB b = true) : b.toNat < 128 ∧ b ≠ 47 ∧ b ≠ 91 := by
  have h : ∀ n : Fin 256, nameB (UInt8.ofNat n.val) = true → (UInt8.ofNat n.val).toNat < 128 ∧ UInt8.ofNat n.val ≠ 47 ∧ UInt8.ofNat n.val ≠ 91 := by decide +kernel
  have := h ⟨b.toNat, b.toNat_lt⟩
  rw [show UInt8.ofNat b.toNat = b by simp] at this
  exact this hb
theorem stepsF_front (s : ByteArray) : ∀ (k p : Nat) (l m : List PStep), stepsF k s p l = .ok m → ∃ r, m = l ++ r
  | 0, p, l, m, h => by simp only [stepsF] at h; cases h
  | k + 1, p, l, m, h => by
    simp only [stepsF] at h
    split at h
    · cases h
    · split at h
      · cases h
      · rename_i st q hst
        split at h
        · cases h
          exact ⟨[st], rfl⟩
        · split at h
          · obtain ⟨r, hr⟩ := stepsF_front s k _ _ _ h
            exact ⟨st :: r, by rw [hr, List.append_assoc]; rfl⟩
          · cases h
/-- A right path's group: the path up to the first '/' or '['. -/
theorem grp_end {p : ByteArray} (h : rightB p = true) (h0 : p ≠ ByteArray.empty) : grp p = p.extract 0 (nameEnd p 0) ∧ nameEnd p 0 ≤ p.size ∧ ∀ hl : nameEnd p 0 < p.size, p[nameEnd p 0] = 47 ∨ p[nameEnd p 0] = 91 := by
  obtain ⟨l, hl⟩ := rightB_ok.1 h
  have hle := (nameEnd_le (s := p) (p := 0) (Nat.zero_le _)).2
  have hl0 := hl
  unfold parseM at hl
  split at hl
  · cases hl
  · split at hl
    · cases hl
    · have hz : ¬ p.size = 0 := fun e => h0 (by
        apply ByteArray.ext
        exact Array.eq_empty_of_size_eq_zero e)
      rw [if_neg hz] at hl
      rw [steps_step (by simp)] at hl
      cases hs : stepM p 0 with
      | error e => rw [hs] at hl; cases hl
      | ok x =>
        obtain ⟨st, q⟩ := x
        rw [hs] at hl
        have hs0 := hs
        unfold stepM at hs
        cases hn : nameM p 0 with
        | error e => rw [hn] at hs; cases hs
        | ok y =>
          obtain ⟨nm, q1⟩ := y
          rw [hn] at hs
          obtain ⟨-, hq2, hnm, hq1, -⟩ := nameM_ok hn (Nat.zero_le _)
          subst hq1
          simp only at hs
          cases hk : keysM p (nameEnd p 0) [] with
          | error e => rw [hk] at hs; cases hs
          | ok z =>
            obtain ⟨ks, r⟩ := z
            rw [hk] at hs
            simp only [Except.ok.injEq, Prod.mk.injEq] at hs
            obtain ⟨h1, h2⟩ := hs
            subst h2
            have hst : st.1 = p.extract 0 (nameEnd p 0) := by rw [← h1]; exact hnm
            have hr : r = p.size ∨ standsB p r 47 = true := by
              simp only at hl
              split at hl
              · rename_i e; exact .inl e
              · split at hl
                · rename_i e; exact .inr e
                · cases hl
            have hgr : ∃ r', l = st :: r' := by
              simp only at hl
              split at hl
              · simp only [Except.ok.injEq] at hl
                exact ⟨[], hl.symm⟩
              · split at hl
                · obtain ⟨m, hm⟩ := stepsF_front _ _ _ _ _ hl
                  exact ⟨m, hm⟩
                · cases hl
            obtain ⟨r', rfl⟩ := hgr
            refine ⟨?_, hle, fun hlt => ?_⟩
            · unfold grp
              rw [hl0]
              exact hst
            · unfold keysM at hk
              rw [show p.size + 1 - nameEnd p 0 = (p.size - nameEnd p 0) + 1 by omega] at hk
              simp only [keysF] at hk
              split at hk
              · rename_i hs91
                right
                unfold standsB at hs91
                rw [dif_pos hlt] at hs91
                simpa using hs91
              · simp only [Except.ok.injEq, Prod.mk.injEq] at hk
                rcases hr with hr | hr
                · omega
                · rw [← hk.2] at hr
                  unfold standsB at hr
                  rw [dif_pos hlt] at hr
                  left
                  simpa using hr
end Go.Proofs.Ytfpepdjffehbcaa
