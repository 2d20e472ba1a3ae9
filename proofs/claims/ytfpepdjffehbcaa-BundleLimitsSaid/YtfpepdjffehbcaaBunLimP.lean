/-
  Four letters of a number, a path of them, and what is wrong with as many Books and paths as there may be, plainly. Plain lemmas; no condition.
-/
import Derived.Test.YtfpepdjffehbcaaBunBytesP
set_option linter.unusedVariables false
set_option linter.unusedSimpArgs false
namespace Go.Proofs.Ytfpepdjffehbcaa
open Go.RowKit

/-- A text of small letters. -/
def LowS (s : ByteArray) : Prop := ∀ (p : Nat) (h : p < s.size), 97 ≤ s[p].toNat ∧ s[p].toNat ≤ 122
theorem low_broken {s : ByteArray} (h : LowS s) : broken s = none := by
  rw [broken_at]
  have : ∀ k p, s.size ≤ p + k → brokenAt s p = none := by
    intro k
    induction k with
    | zero => intro p hp; exact brokenAt_end (by omega)
    | succ k ih =>
      intro p hp
      by_cases hlt : p < s.size
      · have h1 := h p hlt
        rw [brokenAt_step hlt, decode_ascii s p hlt (by omega), if_neg (by simp; omega)]
        exact ih (p + 1) (by omega)
      · exact brokenAt_end hlt
  exact this s.size 0 (by omega)
theorem nameB_small : ∀ b : UInt8, 97 ≤ b.toNat ∧ b.toNat ≤ 122 → nameB b = true ∧ startB b = true := by
  intro b hb
  have h1 : letterB b = true := by
    unfold letterB
    simp only [Bool.or_eq_true, Bool.and_eq_true, decide_eq_true_eq]
    exact .inl ⟨UInt8.le_iff_toNat_le.2 hb.1, UInt8.le_iff_toNat_le.2 hb.2⟩
  unfold nameB startB
  rw [h1]
  exact ⟨rfl, rfl⟩
theorem low_nameEnd {s : ByteArray} (h : LowS s) : nameEnd s 0 = s.size := by
  have : ∀ k p, s.size = p + k → nameEnd s p = s.size := by
    intro k
    induction k with
    | zero => intro p hp; rw [nameEnd_end (by omega)]; omega
    | succ k ih =>
      intro p hp
      have hlt : p < s.size := by omega
      rw [nameEnd_step hlt, if_pos (nameB_small _ (h p hlt)).1]
      exact ih (p + 1) (by omega)
  exact this s.size 0 (by omega)
theorem low_right {s : ByteArray} (h : LowS s) (h0 : 0 < s.size) (h1 : s.size ≤ 64) : rightB s = true := by
  have hn : nameM s 0 = .ok (s.extract 0 s.size, s.size) := by
    unfold nameM nameErr
    rw [dif_pos h0, if_pos (nameB_small _ (h 0 h0)).2, low_nameEnd h, if_neg (by omega)]
  have hk : keysM s s.size [] = .ok ([], s.size) := by
    unfold keysM
    rw [show s.size + 1 - s.size = 0 + 1 by omega]
    unfold keysF
    rw [if_neg]
    unfold standsB
    rw [dif_neg (by omega)]
    simp
  have hst : stepM s 0 = .ok ((s.extract 0 s.size, []), s.size) := by
    unfold stepM
    rw [hn]
    simp only [hk]
  refine rightB_ok.2 ⟨[(s.extract 0 s.size, [])], ?_⟩
  unfold parseM
  rw [if_neg (by omega), low_broken h]
  simp only
  rw [if_neg (by omega)]
  unfold stepsM
  rw [show 65 - ([] : List PStep).length = 64 + 1 from rfl]
  unfold stepsF
  rw [if_neg (by simp), hst]
  simp
/-- A letter. -/
def letC (r : Nat) : UInt8 := UInt8.ofNat (97 + r % 26)
theorem letC_nat (r : Nat) : (letC r).toNat = 97 + r % 26 := by
  unfold letC
  rw [UInt8.toNat_ofNat']
  omega
def letS (i : Nat) : ByteArray := ⟨#[letC (i / 17576), letC (i / 676), letC (i / 26), letC i]⟩
def letP (i : Nat) : ByteArray := ⟨#[112, letC (i / 17576), letC (i / 676), letC (i / 26), letC i]⟩
theorem letC_low (r : Nat) : 97 ≤ (letC r).toNat ∧ (letC r).toNat ≤ 122 := by rw [letC_nat]; omega
theorem letS_low (i : Nat) : LowS (letS i) := by
  intro p h
  have hs : p < 4 := h
  match p, hs with
  | 0, _ => exact letC_low _
  | 1, _ => exact letC_low _
  | 2, _ => exact letC_low _
  | 3, _ => exact letC_low _
theorem letP_low (i : Nat) : LowS (letP i) := by
  intro p h
  have hs : p < 5 := h
  match p, hs with
  | 0, _ => exact (by decide : 97 ≤ (112 : UInt8).toNat ∧ (112 : UInt8).toNat ≤ 122)
  | 1, _ => exact letC_low _
  | 2, _ => exact letC_low _
  | 3, _ => exact letC_low _
  | 4, _ => exact letC_low _
theorem bytesLess_cons (a b : UInt8) (x y : List UInt8) : Op.bytesLess (a :: x) (b :: y) = true ↔ a.toNat < b.toNat ∨ (a.toNat = b.toNat ∧ Op.bytesLess x y = true) := by
  simp only [Op.bytesLess, Bool.or_eq_true, Bool.and_eq_true, decide_eq_true_eq, beq_iff_eq]
  rw [UInt8.lt_iff_toNat_lt]
  exact ⟨fun h => h.imp id fun h => ⟨congrArg UInt8.toNat h.1, h.2⟩, fun h => h.imp id fun h => ⟨UInt8.toNat_inj.1 h.1, h.2⟩⟩
theorem let_less {i j : Nat} (h : i < j) (hj : j < 456976) : Op.bytesLess [letC (i / 17576), letC (i / 676), letC (i / 26), letC i] [letC (j / 17576), letC (j / 676), letC (j / 26), letC j] = true := by
  simp only [bytesLess_cons, letC_nat]
  have h0 : Op.bytesLess ([] : List UInt8) [] = false := rfl
  simp only [h0, Bool.false_eq_true, and_false, or_false]
  have e1 : ∀ n : Nat, n / 676 = n / 26 / 26 := fun n => by rw [Nat.div_div_eq_div_mul]
  have e2 : ∀ n : Nat, n / 17576 = n / 26 / 26 / 26 := fun n => by rw [Nat.div_div_eq_div_mul, Nat.div_div_eq_div_mul]
  rw [e1 i, e1 j, e2 i, e2 j]
  omega
theorem letS_rise {i j : Nat} (h : i < j) (hj : j < 456976) : bl (letS i) (letS j) = true := by
  unfold bl
  rw [Lib.toList_data, Lib.toList_data]
  exact let_less h hj
theorem letP_rise {i j : Nat} (h : i < j) (hj : j < 456976) : bl (letP i) (letP j) = true := by
  unfold bl
  rw [Lib.toList_data, Lib.toList_data]
  show Op.bytesLess (112 :: [letC (i / 17576), letC (i / 676), letC (i / 26), letC i]) (112 :: [letC (j / 17576), letC (j / 676), letC (j / 26), letC j]) = true
  rw [bytesLess_cons]
  exact .inr ⟨rfl, let_less h hj⟩
theorem let_empty (i : Nat) : letS i ≠ ByteArray.empty ∧ letP i ≠ ByteArray.empty := ⟨fun e => by have := congrArg ByteArray.size e; exact absurd this (show (4 : Nat) ≠ 0 by decide), fun e => by have := congrArg ByteArray.size e; exact absurd this (show (5 : Nat) ≠ 0 by decide)⟩
theorem bl_empty {s : ByteArray} (h : s ≠ ByteArray.empty) : bl ByteArray.empty s = true := by
  cases hb : bl ByteArray.empty s with
  | true => rfl
  | false =>
    refine absurd (blT.conn _ _ hb ?_).symm h
    unfold bl
    have : ByteArray.empty.toList = [] := by rw [Lib.toList_data]; rfl
    rw [this]
    cases s.toList <;> rfl
/-- Books of letters, from a number on. -/
def booksL (k : Nat) : List PStep := (List.range k).map fun i => (letS i, [])
theorem booksE_names : ∀ (k i : Nat) (prev : Option ByteArray) (M : List ByteArray) (j : Nat), j + k < 456976 → (∀ q, prev = some q → bl q (letS j) = true) → booksE ((List.range' j k).map fun i => (letS i, [])) i prev M = (0, 0)
  | 0, _, _, _, _, _, _ => rfl
  | k + 1, i, prev, M, j, hj, hp => by
    rw [List.range'_succ, List.map_cons]
    have h1 : nameE prev (letS j) = 0 := by
      unfold nameE
      rw [low_broken (letS_low j), if_neg (by simp), if_neg (show ¬ 256 < (letS j).size from by show ¬ 256 < 4; omega)]
      cases prev with
      | none => rfl
      | some q => simp [hp q rfl]
    unfold booksE
    simp only [h1, valsE, if_true]
    exact booksE_names k (i + 1) (some (letS j)) M (j + 1) (by omega) fun q hq => by cases hq; exact letS_rise (Nat.lt_succ_self j) (by omega)
theorem named_books (k : Nat) : namedN (booksL k) = k := by
  unfold namedN booksL
  rw [List.filter_eq_self.2 (fun b hb => by
    obtain ⟨i, -, rfl⟩ := List.mem_map.1 hb
    simpa using (let_empty i).1), List.length_map, List.length_range]
theorem check_books {k : Nat} (hk : k ≤ 600) : checkB (booksL k) = if 512 < k then (3, -1) else (0, 0) := by
  unfold checkB
  rw [named_books]
  have hl : (booksL k).length = k := by unfold booksL; rw [List.length_map, List.length_range]
  rw [hl]
  by_cases h : 512 < k
  · rw [if_pos (.inl h), if_pos h]
  · rw [if_neg (by omega), if_neg h]
    unfold booksL
    rw [List.range_eq_range']
    exact booksE_names k 0 none [] 0 (by omega) fun q hq => by cases hq
theorem check_books1 {k : Nat} (hk : k ≤ 600) : checkB ((ByteArray.empty, []) :: booksL k) = if 512 < k then (3, -1) else (0, 0) := by
  unfold checkB
  have hn : namedN ((ByteArray.empty, []) :: booksL k) = k := by
    have := named_books k
    unfold namedN at this ⊢
    rw [List.filter_cons_of_neg (by simp)]
    exact this
  rw [hn]
  have hl : ((ByteArray.empty, []) :: booksL k : List PStep).length = k + 1 := by unfold booksL; rw [List.length_cons, List.length_map, List.length_range]
  rw [hl]
  by_cases h : 512 < k
  · rw [if_pos (.inl h), if_pos h]
  · rw [if_neg (by omega), if_neg h]
    have h1 : nameE none ByteArray.empty = 0 := by kernel_rfl
    unfold booksE
    simp only [h1, valsE, if_true]
    unfold booksL
    rw [List.range_eq_range']
    exact booksE_names k 1 (some ByteArray.empty) [] 0 (by omega) fun q hq => by cases hq; exact bl_empty (let_empty 0).1
/-- Values at paths of letters. -/
def valsL (k : Nat) : List PKey := (List.range k).map fun i => (letP i, ByteArray.empty)
theorem valE_low {M : List ByteArray} {a : ByteArray} {i : Nat} (ha : bl a (letP i) = true) : valE M a (letP i, ByteArray.empty) = if hasT M (letP i) = false ∧ M.length = 16384 then 3 else 0 := by
  unfold valE
  rw [if_neg, if_neg (by simp [ha]), if_neg (by show ¬ (broken ByteArray.empty).isSome = true; rw [show broken ByteArray.empty = none from by kernel_rfl]; simp)]
  · have : ¬ 4096 < (ByteArray.empty : ByteArray).size := by show ¬ 4096 < 0; omega
    simp [this]
  · simp only [not_or, Bool.not_eq_false]
    exact ⟨(let_empty i).2, low_right (letP_low i) (show 0 < 5 by omega) (show 5 ≤ 64 by omega)⟩
theorem letP_inj {i j : Nat} (hi : i < 456976) (hj : j < 456976) (h : letP i = letP j) : i = j := by
  rcases Nat.lt_trichotomy i j with hl | hl | hl
  · have := letP_rise hl hj
    rw [h, blT.irr] at this
    cases this
  · exact hl
  · have := letP_rise hl hi
    rw [h, blT.irr] at this
    cases this
def lvals (j k : Nat) : List PKey := (List.range' j k).map fun i => (letP i, ByteArray.empty)
theorem lvals_succ (j k : Nat) : lvals j (k + 1) = (letP j, ByteArray.empty) :: lvals (j + 1) k := by unfold lvals; rw [List.range'_succ, List.map_cons]
/-- New paths, while there is room. -/
theorem valsE_new : ∀ (k j : Nat) (a : ByteArray) (M : List ByteArray), j + k ≤ 16384 → bl a (letP j) = true → (∀ i, j ≤ i → i < 16384 → hasT M (letP i) = false) → M.length = j → (valsE (lvals j k) a M).1 = 0 ∧ (∀ q ∈ M, q ∈ (valsE (lvals j k) a M).2) ∧ ∀ i, j ≤ i → i < j + k → letP i ∈ (valsE (lvals j k) a M).2
  | 0, j, a, M, _, _, _, _ => ⟨rfl, fun q hq => hq, fun i h1 h2 => by omega⟩
  | k + 1, j, a, M, hj, ha, hM, hl => by
    have h0 : valE M a (letP j, ByteArray.empty) = 0 := by rw [valE_low ha, if_neg]; omega
    have hn : addM M (letP j) = M ++ [letP j] := by unfold addM; rw [if_neg (by rw [hM j (Nat.le_refl _) (by omega)]; simp)]
    have ih := valsE_new k (j + 1) (letP j) (addM M (letP j)) (by omega) (letP_rise (Nat.lt_succ_self j) (by omega)) (fun i h1 h2 => by
      cases hh : hasT (addM M (letP j)) (letP i) with
      | false => rfl
      | true =>
        rw [hasT_iff, addM_mem] at hh
        rcases hh with hh | hh
        · have := letP_inj (by omega) (by omega) hh
          omega
        · rw [← hasT_iff, hM i (by omega) h2] at hh
          cases hh) (by rw [hn, List.length_append, hl]; rfl)
    rw [lvals_succ]
    unfold valsE
    rw [if_pos h0]
    refine ⟨ih.1, fun q hq => ih.2.1 q ((addM_mem _ _ _).2 (.inr hq)), fun i h1 h2 => ?_⟩
    rcases Nat.lt_or_ge j i with h3 | h3
    · exact ih.2.2 i (by omega) (by omega)
    · obtain rfl : i = j := by omega
      exact ih.2.1 _ ((addM_mem _ _ _).2 (.inl rfl))
/-- .. and one too many. -/
theorem valsE_full : ∀ (k j : Nat) (a : ByteArray) (M : List ByteArray), j ≤ 16384 → 16384 < j + k → j + k < 456976 → bl a (letP j) = true → (∀ i, j ≤ i → i < 456976 → hasT M (letP i) = false) → M.length = j → (valsE (lvals j k) a M).1 = 3
  | 0, j, a, M, h1, h2, _, _, _, _ => by omega
  | k + 1, j, a, M, h1, h2, hj, ha, hM, hl => by
    rw [lvals_succ]
    unfold valsE
    by_cases he : j = 16384
    · have h0 : valE M a (letP j, ByteArray.empty) = 3 := by rw [valE_low ha, if_pos ⟨hM j (Nat.le_refl _) (by omega), by omega⟩]
      rw [if_neg (by rw [h0]; decide), h0]
    · have h0 : valE M a (letP j, ByteArray.empty) = 0 := by rw [valE_low ha, if_neg]; omega
      have hn : addM M (letP j) = M ++ [letP j] := by unfold addM; rw [if_neg (by rw [hM j (Nat.le_refl _) (by omega)]; simp)]
      rw [if_pos h0]
      refine valsE_full k (j + 1) (letP j) (addM M (letP j)) (by omega) (by omega) (by omega) (letP_rise (Nat.lt_succ_self j) (by omega)) (fun i h1 h2 => ?_) (by rw [hn, List.length_append, hl]; rfl)
      cases hh : hasT (addM M (letP j)) (letP i) with
      | false => rfl
      | true =>
        rw [hasT_iff, addM_mem] at hh
        rcases hh with hh | hh
        · have := letP_inj (by omega) (by omega) hh
          omega
        · rw [← hasT_iff, hM i (by omega) h2] at hh
          cases hh
/-- Paths that have been met. -/
theorem valsE_met : ∀ (k j : Nat) (a : ByteArray) (M : List ByteArray), j + k < 456976 → bl a (letP j) = true → (∀ i, j ≤ i → i < j + k → letP i ∈ M) → (valsE (lvals j k) a M).1 = 0
  | 0, _, _, _, _, _, _ => rfl
  | k + 1, j, a, M, hj, ha, hM => by
    have h0 : valE M a (letP j, ByteArray.empty) = 0 := by
      rw [valE_low ha, if_neg]
      rw [hasT_iff.2 (hM j (Nat.le_refl _) (by omega))]
      simp
    rw [lvals_succ]
    unfold valsE
    rw [if_pos h0]
    exact valsE_met k (j + 1) (letP j) (addM M (letP j)) (by omega) (letP_rise (Nat.lt_succ_self j) (by omega)) fun i h1 h2 => (addM_mem _ _ _).2 (.inr (hM i (by omega) (by omega)))
theorem check_two {k : Nat} (h9 : 9 ≤ k) (hk : k ≤ 16384) : checkB [(⟨#[97]⟩, lvals 0 k), (⟨#[98]⟩, lvals 0 9)] = (0, 0) := by
  unfold checkB
  rw [if_neg (by
    have : namedN [(⟨#[97]⟩, lvals 0 k), (⟨#[98]⟩, lvals 0 9)] ≤ 2 := List.length_filter_le _ _
    simp only [List.length_cons, List.length_nil]
    omega)]
  have h1 : nameE none ⟨#[97]⟩ = 0 := by kernel_rfl
  have h2 : nameE (some ⟨#[97]⟩) ⟨#[98]⟩ = 0 := by kernel_rfl
  have hv := valsE_new k 0 ByteArray.empty [] (by omega) (bl_empty (let_empty 0).2) (fun i _ _ => rfl) rfl
  have hw := valsE_met 9 0 ByteArray.empty (valsE (lvals 0 k) ByteArray.empty []).2 (by omega) (bl_empty (let_empty 0).2) (fun i h3 h4 => hv.2.2 i h3 (by omega))
  unfold booksE
  simp only [h1, hv.1, if_true]
  unfold booksE
  simp only [h2, hw, if_true]
  rfl
theorem check_full : checkB [(ByteArray.empty, lvals 0 16385)] = (3, 0) := by
  unfold checkB
  rw [if_neg (by
    have : namedN [(ByteArray.empty, lvals 0 16385)] ≤ 1 := List.length_filter_le _ _
    simp only [List.length_cons, List.length_nil]
    omega)]
  have h1 : nameE none ByteArray.empty = 0 := by kernel_rfl
  have hv := valsE_full 16385 0 ByteArray.empty [] (by omega) (by omega) (by omega) (bl_empty (let_empty 0).2) (fun i _ _ => rfl) rfl
  unfold booksE
  rw [if_pos h1, if_neg (by rw [hv]; decide), hv]
  rfl
end Go.Proofs.Ytfpepdjffehbcaa
