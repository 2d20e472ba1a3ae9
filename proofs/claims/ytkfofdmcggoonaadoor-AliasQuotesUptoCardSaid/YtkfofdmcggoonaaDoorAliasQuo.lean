/-
  An alias's text by the other quotes, plainly. No condition, no program in sight.
-/
import Derived.Test.YtkfofdmcggoonaaDoorAliasPlain
import Derived.Lib.MapLaws
set_option linter.unusedVariables false
set_option linter.unusedSimpArgs false
namespace Go.Proofs.YtkfofdmcggoonaaDoor
open Go.RowKit

def swB (b : UInt8) : UInt8 := if b = 39 then 34 else if b = 34 then 39 else b
def swR (r : Int) : Int := if r = 39 then 34 else if r = 34 then 39 else r
/-- A text by the other quotes. -/
def swS (s : ByteArray) : ByteArray := ⟨s.data.map swB⟩
theorem swS_size (s : ByteArray) : (swS s).size = s.size := by
  show (s.data.map swB).size = s.data.size
  exact Array.size_map
theorem swS_list (s : ByteArray) : (swS s).data.toList = s.data.toList.map swB := by simp [swS]
theorem swB_other {b : UInt8} (h1 : b ≠ 39) (h2 : b ≠ 34) : swB b = b := by simp [swB, h1, h2]
theorem swB_big {b : UInt8} (h : 128 ≤ b.toNat) : swB b = b := swB_other (fun e => by rw [e] at h; exact absurd h (by decide)) (fun e => by rw [e] at h; exact absurd h (by decide))
theorem swB_div (b : UInt8) : (swB b).toNat / 64 = b.toNat / 64 ∧ (b.toNat / 64 = 2 → swB b = b) := by
  refine ⟨?_, fun h => swB_big (by omega)⟩
  unfold swB
  split
  · rename_i h; subst h; rfl
  · split
    · rename_i h; subst h; rfl
    · rfl
theorem swB_iff {b c : UInt8} (h1 : c ≠ 39) (h2 : c ≠ 34) : (swB b == c) = (b == c) := by
  unfold swB
  split
  · rename_i h; subst h
    rw [Bool.eq_iff_iff]
    simp [Ne.symm h1, Ne.symm h2]
  · split
    · rename_i h; subst h
      rw [Bool.eq_iff_iff]
      simp [Ne.symm h1, Ne.symm h2]
    · rfl
theorem swB_39 (b : UInt8) : (swB b == 39) = (b == 34) := by
  unfold swB
  split
  · rename_i h; subst h; rfl
  · split
    · rename_i h; subst h; rfl
    · rename_i h1 h2
      rw [Bool.eq_iff_iff]
      simp [h1, h2]
theorem swB_34 (b : UInt8) : (swB b == 34) = (b == 39) := by
  unfold swB
  split
  · rename_i h; subst h; rfl
  · split
    · rename_i h; subst h; rfl
    · rename_i h1 h2
      rw [Bool.eq_iff_iff]
      simp [h1, h2]
theorem sw_at {s : ByteArray} {i : Nat} (h : i < s.size) : (swS s)[i]'(by rw [swS_size]; exact h) = swB s[i] := by
  exact Array.getElem_map swB (by rw [Array.size_map]; exact h)
/-- What a rune of some bytes is: one byte, or bytes beyond. -/
theorem rune_bytes (l : List UInt8) (hne : l ≠ []) (hv : ¬ ((Lib.decodeL l).1 = 65533 ∧ (Lib.decodeL l).2 = 1)) :
    ((Lib.decodeL l).1 < 128 ∧ (Lib.decodeL l).2 = 1 ∧ (l.getD 0 0).toNat = (Lib.decodeL l).1) ∨ (128 ≤ (Lib.decodeL l).1 ∧ ∀ b ∈ l.take (Lib.decodeL l).2, 128 ≤ b.toNat) := by
  have hl : 0 < l.length := List.length_pos_iff.2 hne
  rw [Lib.decodeL_N] at hv ⊢
  rcases Lib.decodeN_shape l.length (l.getD 0 0).toNat (l.getD 1 0).toNat (l.getD 2 0).toNat (l.getD 3 0).toNat with ⟨c, e⟩ | ⟨c1, c2, c3, cv, e⟩ | ⟨c1, c2, c3, c4, cv, cs, e⟩ | ⟨c1, c2, c3, c4, c5, cv, cw, e⟩ | e
  · rw [e]; exact .inl ⟨c, rfl, rfl⟩
  · rw [e]
    refine .inr ⟨by dsimp only; omega, fun b hb => ?_⟩
    dsimp only at hb
    rw [Lib.takeB l (by omega)] at hb
    simp only [List.mem_cons, List.not_mem_nil, or_false] at hb
    rcases hb with rfl | rfl <;> omega
  · rw [e]
    refine .inr ⟨by dsimp only; omega, fun b hb => ?_⟩
    dsimp only at hb
    rw [Lib.takeC l (by omega)] at hb
    simp only [List.mem_cons, List.not_mem_nil, or_false] at hb
    rcases hb with rfl | rfl | rfl <;> omega
  · rw [e]
    refine .inr ⟨by dsimp only; omega, fun b hb => ?_⟩
    dsimp only at hb
    rw [Lib.takeD l (by omega)] at hb
    simp only [List.mem_cons, List.not_mem_nil, or_false] at hb
    rcases hb with rfl | rfl | rfl | rfl <;> omega
  · rw [e] at hv; exact absurd ⟨rfl, rfl⟩ hv
/-- Bytes that are runes. -/
inductive OkL : List UInt8 → Prop
  | nil : OkL []
  | step {l : List UInt8} (hne : l ≠ []) (hv : ¬ ((Lib.decodeL l).1 = 65533 ∧ (Lib.decodeL l).2 = 1)) (h : OkL (l.drop (Lib.decodeL l).2)) : OkL l
theorem map_self {l : List UInt8} (h : ∀ b ∈ l, swB b = b) : l.map swB = l := by
  induction l with
  | nil => rfl
  | cons b l ih => rw [List.map_cons, h b (by simp), ih fun c hc => h c (by simp [hc])]
theorem mapD_sw {l : List UInt8} (h : OkL l) : Lib.mapD swR l = l.map swB := by
  induction h with
  | nil => rfl
  | @step l hne hv h ih =>
    have hsp : l.map swB = (l.take (Lib.decodeL l).2).map swB ++ (l.drop (Lib.decodeL l).2).map swB := by rw [← List.map_append, List.take_append_drop]
    rw [hsp, ← ih]
    have hb := rune_bytes l hne hv
    have hl : 0 < l.length := List.length_pos_iff.2 hne
    by_cases h39 : (Lib.decodeL l).1 = 39
    · rcases hb with ⟨b1, b2, b3⟩ | ⟨b1, b2⟩
      · have h0 : l.getD 0 0 = 39 := by
          apply UInt8.toNat_inj.1
          rw [b3, h39]; rfl
        rw [Lib.mapD_step _ _ hne, b2, Lib.takeA l hl, h0, h39]
        rfl
      · omega
    · by_cases h34 : (Lib.decodeL l).1 = 34
      · rcases hb with ⟨b1, b2, b3⟩ | ⟨b1, b2⟩
        · have h0 : l.getD 0 0 = 34 := by
            apply UInt8.toNat_inj.1
            rw [b3, h34]; rfl
          rw [Lib.mapD_step _ _ hne, b2, Lib.takeA l hl, h0, h34]
          rfl
        · omega
      · have hf : swR ((Lib.decodeL l).1 : Int) = ((Lib.decodeL l).1 : Int) := by
          unfold swR
          rw [if_neg (by omega), if_neg (by omega)]
        rw [Lib.mapD_same _ _ hne hf hv]
        congr 1
        refine (map_self fun b hb2 => ?_).symm
        rcases hb with ⟨b1, b2, b3⟩ | ⟨b1, b2⟩
        · rw [b2, Lib.takeA l hl] at hb2
          simp only [List.mem_cons, List.not_mem_nil, or_false] at hb2
          subst hb2
          exact swB_other (fun e => h39 (by rw [← b3, e]; rfl)) (fun e => h34 (by rw [← b3, e]; rfl))
        · exact swB_big (b2 b hb2)
/-- From a place on the bytes are runes. -/
def OkS (s : ByteArray) (p : Nat) : Prop := OkL (s.data.toList.drop p)
theorem okS_end {s : ByteArray} {p : Nat} (h : s.size ≤ p) : OkS s p := by
  unfold OkS
  rw [List.drop_of_length_le (by rw [← Lib.size_eq]; exact h)]
  exact .nil
theorem okS_rune {s : ByteArray} {p : Nat} (hp : p < s.size) (hv : Utf8.decode s p ≠ (65533, 1)) (h : OkS s (p + (Utf8.decode s p).2)) : OkS s p := by
  unfold OkS at *
  have hne : s.data.toList.drop p ≠ [] := fun h0 => by
    have := congrArg List.length h0
    rw [List.length_drop, ← Lib.size_eq] at this
    simp at this
    omega
  refine .step hne ?_ ?_
  · rw [Lib.decodeL_drop]
    exact fun h => hv (Prod.ext h.1 h.2)
  · rw [Lib.decodeL_drop, List.drop_drop]
    exact h
theorem decode_lowq {s : ByteArray} {p : Nat} (hp : p < s.size) (h : s[p].toNat < 128) : Utf8.decode s p = (s[p].toNat, 1) := by
  have h0 : s.data.toList.getD p 0 = s[p] := by
    have hp2 : p < s.data.toList.length := by rw [← Lib.size_eq]; exact hp
    rw [List.getD_eq_getElem?_getD, List.getElem?_eq_getElem hp2]
    rfl
  rw [Lib.decode_N, h0]
  unfold Lib.decodeN
  rw [if_pos h]
theorem okS_low {s : ByteArray} {p : Nat} {b : UInt8} (h : standsB s p b = true) (hb : b.toNat < 128) (ho : OkS s (p + 1)) : OkS s p := by
  obtain ⟨hp, rfl⟩ := stands_at h
  have hd := decode_lowq hp hb
  refine okS_rune hp ?_ (by rw [hd]; exact ho)
  rw [hd]
  intro e
  have := congrArg Prod.fst e
  simp only at this
  omega
theorem must_ok {s : ByteArray} : ∀ (l : List UInt8) (p q : Nat), mustM s p l = (q, true) → (∀ b ∈ l, b.toNat < 128) → OkS s q → OkS s p
  | [], p, q, h, _, ho => by
    simp only [mustM, Prod.mk.injEq, and_true] at h
    rw [h]; exact ho
  | b :: r, p, q, h, hb, ho => by
    simp only [mustM] at h
    split at h
    · rename_i hs
      exact okS_low hs (hb b (by simp)) (must_ok r (p + 1) q h (fun c hc => hb c (by simp [hc])) ho)
    · cases h
theorem nameB_noq {b : UInt8} (h : nameB b = true) : b.toNat < 128 ∧ b ≠ 39 ∧ b ≠ 34 := by
  have hh : ∀ n : Fin 256, nameB (UInt8.ofNat n.val) = true → (UInt8.ofNat n.val).toNat < 128 ∧ UInt8.ofNat n.val ≠ 39 ∧ UInt8.ofNat n.val ≠ 34 := by decide +kernel
  have := hh ⟨b.toNat, b.toNat_lt⟩
  simp only [UInt8.ofNat_toNat] at this
  exact this h
theorem nameEnd_ok {s : ByteArray} : ∀ (k p : Nat), OkS s (nameEndF k s p) → OkS s p
  | 0, p, h => h
  | k + 1, p, h => by
    simp only [nameEndF] at h
    split at h
    · rename_i hp
      split at h
      · rename_i hn
        exact okS_low (b := s[p]) (by unfold standsB; rw [dif_pos hp]; simp) (nameB_noq hn).1 (nameEnd_ok k (p + 1) h)
      · exact h
    · exact h
theorem aname_ok {s : ByteArray} {p : Nat} (h : OkS s (aname s p)) : OkS s p := by
  unfold aname at h
  split at h
  · split at h
    · exact nameEnd_ok _ p h
    · exact h
  · exact h
theorem aval_ok {s : ByteArray} {q : UInt8} : ∀ (k p t : Nat), avalF k s q p = (t, true) → OkS s t → OkS s p
  | 0, p, t, h, _ => by simp [avalF] at h
  | k + 1, p, t, h, ho => by
    simp only [avalF] at h
    split at h
    · rename_i hp
      split at h
      · simp only [Prod.mk.injEq, and_true] at h
        rw [h]; exact ho
      · split at h
        · cases h
        · rename_i hb
          have hb2 : ¬ Utf8.decode s p = (65533, 1) := fun e => hb (by unfold avBad; rw [decide_eq_true e]; rfl)
          exact okS_rune hp hb2 (aval_ok k _ t h ho)
    · cases h
theorem akStep_ok {s : ByteArray} {p u : Nat} {ks : List PKey} {x : PKey} (h : akStep s p ks = .ok (some (x, u))) (ho : OkS s u) : OkS s p := by
  unfold akStep at h
  split at h
  · split at h
    · cases h
    · rename_i q e1
      split at h
      · cases h
      · split at h
        · cases h
        · split at h
          · cases h
          · rename_i r e2
            split at h
            · rename_i hq
              split at h
              · cases h
              · rename_i t e3
                split at h
                · cases h
                · rename_i u' e4
                  simp only [Except.ok.injEq, Option.some.injEq, Prod.mk.injEq] at h
                  obtain ⟨-, rfl⟩ := h
                  have o1 := must_ok [93] (t + 1) _ e4 (by decide) ho
                  have o2 : OkS s t := by
                    have hst := (avalM_le s (if standsB s r 39 = true then 39 else 34) (s.size - (r + 1)) (r + 1) (Nat.le_refl _) ?_).2.2
                    · rw [e3] at hst
                      refine okS_low (hst rfl) ?_ o1
                      split <;> decide
                    · rcases Bool.or_eq_true _ _ ▸ hq with hq | hq <;> (have := stands_lt hq; omega)
                  have o3 : OkS s (r + 1) := aval_ok _ _ _ e3 o2
                  have o4 : OkS s r := by
                    rcases Bool.or_eq_true _ _ ▸ hq with hq | hq
                    · exact okS_low hq (by decide) o3
                    · exact okS_low hq (by decide) o3
                  have o5 := must_ok [61] _ _ e2 (by decide) o4
                  exact must_ok [91, 64] _ _ e1 (by decide) (aname_ok o5)
            · cases h
  · cases h
theorem akeys_ok {s : ByteArray} : ∀ (k p q : Nat) (ks r : List PKey), akeysF k s p ks = .ok (r, q) → OkS s q → OkS s p
  | 0, p, q, ks, r, h, _ => by simp [akeysF] at h
  | k + 1, p, q, ks, r, h, ho => by
    rw [akeysF_succ] at h
    split at h
    · cases h
    · simp only [Except.ok.injEq, Prod.mk.injEq] at h
      rw [h.2]; exact ho
    · rename_i x u e
      exact akStep_ok e (akeys_ok k u q _ r h ho)
theorem asteps_ok {s : ByteArray} : ∀ (k p : Nat) (up l : List PStep), astepsF k s p up = .ok l → OkS s p
  | 0, p, up, l, h => by simp [astepsF] at h
  | k + 1, p, up, l, h => by
    simp only [astepsF] at h
    split at h
    · cases h
    · split at h
      · cases h
      · rename_i ks q e
        refine aname_ok (akeys_ok _ _ _ _ _ e ?_)
        split at h
        · rename_i hs
          exact okS_low hs (by decide) (asteps_ok k (q + 1) _ l h)
        · split at h
          · rename_i hq
            exact okS_end (by omega)
          · cases h
theorem aclimb_ok {s : ByteArray} : ∀ (k p q : Nat) (up l : List PStep) (f : Bool), aclimbF k s p up f = .ok (l, q) → OkS s q → OkS s p
  | 0, p, q, up, l, f, h, _ => by simp [aclimbF] at h
  | k + 1, p, q, up, l, f, h, ho => by
    simp only [aclimbF] at h
    split at h
    · split at h
      · cases h
      · split at h
        · cases h
        · rename_i r e
          exact must_ok [46, 46, 47] _ _ e (by decide) (aclimb_ok k r q _ l _ h ho)
    · simp only [Except.ok.injEq, Prod.mk.injEq] at h
      rw [h.2]; exact ho
theorem target_valid {g s t : ByteArray} {a : Int} (h : targetM g s = (t, 0, a)) : OkS s 0 ∧ rightB t = true ∧ a = 0 := by
  unfold targetM at h
  split at h
  · cases h
  · cases h
  · split at h
    · cases h
    · rename_i up p e1
      split at h
      · cases h
      · rename_i l e2
        split at h
        · rename_i tt e3
          simp only [Prod.mk.injEq] at h
          obtain ⟨rfl, -, rfl⟩ := h
          exact ⟨aclimb_ok _ _ _ _ _ _ e1 (asteps_ok _ _ _ _ e2), rightB_ok.2 ⟨_, print_parse e3⟩, rfl⟩
        · cases h
/-! ### by the other quotes -/
theorem stands_sw {s : ByteArray} {p : Nat} {b : UInt8} (h1 : b ≠ 39) (h2 : b ≠ 34) : standsB (swS s) p b = standsB s p b := by
  unfold standsB
  by_cases h : p < s.size
  · rw [dif_pos h, dif_pos (by rw [swS_size]; exact h), sw_at h, swB_iff h1 h2]
  · rw [dif_neg h, dif_neg (by rw [swS_size]; exact h)]
theorem stands_39 (s : ByteArray) (p : Nat) : standsB (swS s) p 39 = standsB s p 34 := by
  unfold standsB
  by_cases h : p < s.size
  · rw [dif_pos h, dif_pos (by rw [swS_size]; exact h), sw_at h, swB_39]
  · rw [dif_neg h, dif_neg (by rw [swS_size]; exact h)]
theorem stands_34 (s : ByteArray) (p : Nat) : standsB (swS s) p 34 = standsB s p 39 := by
  unfold standsB
  by_cases h : p < s.size
  · rw [dif_pos h, dif_pos (by rw [swS_size]; exact h), sw_at h, swB_34]
  · rw [dif_neg h, dif_neg (by rw [swS_size]; exact h)]
theorem must_sw {s : ByteArray} : ∀ (l : List UInt8) (p : Nat), (∀ b ∈ l, b ≠ 39 ∧ b ≠ 34) → mustM (swS s) p l = mustM s p l
  | [], p, _ => rfl
  | b :: r, p, h => by
    simp only [mustM]
    rw [stands_sw (h b (by simp)).1 (h b (by simp)).2, must_sw r (p + 1) fun c hc => h c (by simp [hc])]
theorem nameB_sw (b : UInt8) : nameB (swB b) = nameB b ∧ startB (swB b) = startB b := by
  unfold swB
  split
  · rename_i h; subst h; decide
  · split
    · rename_i h; subst h; decide
    · exact ⟨rfl, rfl⟩
theorem nameEnd_sw {s : ByteArray} : ∀ (k p : Nat), nameEndF k (swS s) p = nameEndF k s p
  | 0, p => rfl
  | k + 1, p => by
    simp only [nameEndF]
    by_cases h : p < s.size
    · rw [dif_pos h, dif_pos (by rw [swS_size]; exact h), sw_at h, (nameB_sw _).1, nameEnd_sw k (p + 1)]
    · rw [dif_neg h, dif_neg (by rw [swS_size]; exact h)]
theorem aname_sw (s : ByteArray) (p : Nat) : aname (swS s) p = aname s p := by
  unfold aname
  by_cases h : p < s.size
  · rw [dif_pos h, dif_pos (by rw [swS_size]; exact h), sw_at h, (nameB_sw _).2]
    unfold nameEnd
    rw [nameEnd_sw, swS_size]
  · rw [dif_neg h, dif_neg (by rw [swS_size]; exact h)]
/-- Between two places no quote stands. -/
def NoQ (s : ByteArray) (a b : Nat) : Prop := ∀ i (h : i < s.size), a ≤ i → i < b → s[i] ≠ 39 ∧ s[i] ≠ 34
theorem ext_sw {s : ByteArray} {a b : Nat} (h : NoQ s a b) : (swS s).extract a b = s.extract a b := by
  apply ByteArray.ext
  apply Array.toList_inj.1
  rw [Lib.extract_data, Lib.extract_data, swS_list, ← List.map_drop, ← List.map_take]
  refine map_self fun c hc => ?_
  obtain ⟨i, hi⟩ := List.mem_iff_getElem?.1 hc
  rw [List.getElem?_take] at hi
  split at hi
  · rename_i hlt
    rw [List.getElem?_drop] at hi
    obtain ⟨h1, h2⟩ := List.getElem?_eq_some_iff.1 hi
    have hs : a + i < s.size := by rw [Lib.size_eq]; exact h1
    have := h (a + i) hs (by omega) (by omega)
    have he : s[a + i] = c := h2
    rw [he] at this
    exact swB_other this.1 this.2
  · cases hi
theorem nameEnd_noq {s : ByteArray} : ∀ (k p : Nat), NoQ s p (nameEndF k s p)
  | 0, p => fun i _ h1 h2 => by simp only [nameEndF] at h2; omega
  | k + 1, p => fun i hi h1 h2 => by
    simp only [nameEndF] at h2
    split at h2
    · rename_i hp
      split at h2
      · rename_i hn
        by_cases e : i = p
        · subst e; exact (nameB_noq hn).2
        · exact nameEnd_noq k (p + 1) i hi (by omega) h2
      · omega
    · omega
theorem aname_noq (s : ByteArray) (p : Nat) : NoQ s p (aname s p) := by
  unfold aname
  split
  · split
    · exact nameEnd_noq _ p
    · exact fun i _ h1 h2 => by omega
  · exact fun i _ h1 h2 => by omega
theorem decodeN_sw {n b0 b1 b2 b3 c1 c2 c3 : Nat} (h1 : c1 / 64 = b1 / 64 ∧ (b1 / 64 = 2 → c1 = b1)) (h2 : c2 / 64 = b2 / 64 ∧ (b2 / 64 = 2 → c2 = b2)) (h3 : c3 / 64 = b3 / 64 ∧ (b3 / 64 = 2 → c3 = b3)) : Lib.decodeN n b0 c1 c2 c3 = Lib.decodeN n b0 b1 b2 b3 := by
  unfold Lib.decodeN
  rw [h1.1, h2.1, h3.1]
  by_cases e1 : b1 / 64 = 2
  · rw [h1.2 e1]
    by_cases e2 : b2 / 64 = 2
    · rw [h2.2 e2]
      by_cases e3 : b3 / 64 = 2
      · rw [h3.2 e3]
      · simp [e3]
    · simp [e2]
  · simp [e1]
theorem getD_sw (l : List UInt8) (i : Nat) : (l.map swB).getD i 0 = swB (l.getD i 0) := by
  simp only [List.getD_eq_getElem?_getD, List.getElem?_map]
  cases l[i]? <;> rfl
theorem decode_sw {s : ByteArray} {p : Nat} (hp : p < s.size) (h : s[p] ≠ 39 ∧ s[p] ≠ 34) : Utf8.decode (swS s) p = Utf8.decode s p := by
  have h0 : s.data.toList.getD p 0 = s[p] := by
    have hp2 : p < s.data.toList.length := by rw [← Lib.size_eq]; exact hp
    rw [List.getD_eq_getElem?_getD, List.getElem?_eq_getElem hp2]
    rfl
  have hd := fun b => (show (swB b).toNat / 64 = b.toNat / 64 ∧ (b.toNat / 64 = 2 → (swB b).toNat = b.toNat) from ⟨(swB_div b).1, fun h => by rw [(swB_div b).2 h]⟩)
  rw [Lib.decode_N, Lib.decode_N, swS_list, getD_sw, getD_sw, getD_sw, getD_sw, List.length_map, h0, swB_other h.1 h.2]
  exact decodeN_sw (hd _) (hd _) (hd _)
/-- A byte stands nowhere. -/
def NoB (s : ByteArray) (b : UInt8) : Prop := ∀ i (h : i < s.size), s[i] ≠ b
theorem aval_sw {s : ByteArray} {q : UInt8} (hq : q = 39 ∨ q = 34) (hn : NoB s (swB q)) : ∀ (k p : Nat), avalF k (swS s) (swB q) p = avalF k s q p
  | 0, p => rfl
  | k + 1, p => by
    simp only [avalF]
    by_cases h : p < s.size
    · rw [dif_pos h, dif_pos (by rw [swS_size]; exact h), sw_at h]
      have hsp := hn p h
      by_cases e : s[p] = q
      · rw [if_pos e, if_pos (by rw [e])]
      · have hnq : s[p] ≠ 39 ∧ s[p] ≠ 34 := by
          rcases hq with rfl | rfl
          · exact ⟨e, hsp⟩
          · exact ⟨hsp, e⟩
        rw [if_neg e, if_neg (by rw [swB_other hnq.1 hnq.2]; exact hsp)]
        have hb : avBad (swS s) p = avBad s p := by unfold avBad; rw [decode_sw h hnq]
        rw [hb, decode_sw h hnq, aval_sw hq hn k]
    · rw [dif_neg h, dif_neg (by rw [swS_size]; exact h)]
theorem rune_noq {s : ByteArray} {p : Nat} (hp : p < s.size) (hv : Utf8.decode s p ≠ (65533, 1)) (hq : s[p] ≠ 39 ∧ s[p] ≠ 34) : NoQ s p (p + (Utf8.decode s p).2) := by
  intro i hi h1 h2
  have hne : s.data.toList.drop p ≠ [] := fun h0 => by
    have := congrArg List.length h0
    rw [List.length_drop, ← Lib.size_eq] at this
    simp at this
    omega
  rcases rune_bytes _ hne (by rw [Lib.decodeL_drop]; exact fun h => hv (Prod.ext h.1 h.2)) with ⟨-, e, -⟩ | ⟨-, hb⟩
  · rw [Lib.decodeL_drop] at e
    obtain rfl : i = p := by omega
    exact hq
  · rw [Lib.decodeL_drop] at hb
    have hm : s[i] ∈ (s.data.toList.drop p).take (Utf8.decode s p).2 := by
      refine List.mem_iff_getElem?.2 ⟨i - p, ?_⟩
      rw [List.getElem?_take, if_pos (by omega), List.getElem?_drop, show p + (i - p) = i by omega]
      exact List.getElem?_eq_getElem (by rw [← Lib.size_eq]; exact hi)
    have := hb _ hm
    exact ⟨fun e => by rw [e] at this; exact absurd this (by decide), fun e => by rw [e] at this; exact absurd this (by decide)⟩
theorem aval_noq {s : ByteArray} {q : UInt8} (hq : q = 39 ∨ q = 34) (hn : NoB s (swB q)) : ∀ (k p t : Nat), avalF k s q p = (t, true) → NoQ s p t
  | 0, p, t, h => by simp [avalF] at h
  | k + 1, p, t, h => by
    simp only [avalF] at h
    split at h
    · rename_i hp
      split at h
      · simp only [Prod.mk.injEq, and_true] at h
        exact fun i _ h1 h2 => by omega
      · rename_i e
        have hsp := hn p hp
        have hnq : s[p] ≠ 39 ∧ s[p] ≠ 34 := by
          rcases hq with rfl | rfl
          · exact ⟨e, hsp⟩
          · exact ⟨hsp, e⟩
        split at h
        · cases h
        · rename_i hb
          have hb2 : ¬ Utf8.decode s p = (65533, 1) := fun e => hb (by unfold avBad; rw [decide_eq_true e]; rfl)
          intro i hi h1 h2
          by_cases hlt : i < p + (Utf8.decode s p).2
          · exact rune_noq hp hb2 hnq i hi h1 hlt
          · exact aval_noq hq hn k _ t h i hi (by omega) h2
    · cases h
/-- The text has one kind of quotes at most. -/
def OneQ (s : ByteArray) : Prop := NoB s 34 ∨ NoB s 39
theorem noB_stands {s : ByteArray} {b : UInt8} (h : NoB s b) (p : Nat) : standsB s p b = false := by
  unfold standsB
  split
  · rename_i hp
    simpa using h p hp
  · rfl
theorem akStep_sw {s : ByteArray} (h : OneQ s) (p : Nat) (ks : List PKey) : akStep (swS s) p ks = akStep s p ks := by
  unfold akStep
  rw [stands_sw (by decide) (by decide), must_sw [91, 64] p (by decide)]
  by_cases h0 : standsB s p 91 = true
  · rw [if_pos h0, if_pos h0]
    rcases e1 : mustM s p [91, 64] with ⟨q, b⟩
    cases b
    · rfl
    · simp only
      rw [aname_sw, ext_sw (aname_noq s q), must_sw [61] _ (by decide)]
      split
      · rfl
      · split
        · rfl
        · rcases e2 : mustM s (aname s q) [61] with ⟨r, b⟩
          cases b
          · rfl
          · simp only
            rw [stands_39, stands_34, Bool.or_comm]
            split
            · rename_i hq
              have key : ∀ c : UInt8, c = 39 ∨ c = 34 → NoB s (swB c) → (match avalM (swS s) (swB c) (r + 1) with
                  | (t, false) => Except.error t
                  | (t, true) => match mustM (swS s) (t + 1) [93] with
                    | (u, false) => .error u
                    | (u, true) => .ok (some (((s.extract q (aname s q), (swS s).extract (r + 1) t) : PKey), u))) = match avalM s c (r + 1) with
                  | (t, false) => .error t
                  | (t, true) => match mustM s (t + 1) [93] with
                    | (u, false) => .error u
                    | (u, true) => .ok (some (((s.extract q (aname s q), s.extract (r + 1) t) : PKey), u)) := by
                intro c hc hn
                unfold avalM
                rw [aval_sw hc hn, swS_size]
                rcases e3 : avalF (s.size - (r + 1)) s c (r + 1) with ⟨t, b⟩
                cases b
                · rfl
                · simp only
                  rw [must_sw [93] _ (by decide), ext_sw (aval_noq hc hn _ _ _ e3)]
              rcases h with h | h
              · have e34 := noB_stands h r
                rw [e34] at hq
                have e39 : standsB s r 39 = true := by simpa using hq
                rw [e34, e39]
                exact key 39 (.inl rfl) h
              · have e39 := noB_stands h r
                rw [e39] at hq
                have e34 : standsB s r 34 = true := by simpa using hq
                rw [e34, e39]
                exact key 34 (.inr rfl) h
            · rfl
  · rw [if_neg h0, if_neg h0]
theorem akeys_sw {s : ByteArray} (h : OneQ s) : ∀ (k p : Nat) (ks : List PKey), akeysF k (swS s) p ks = akeysF k s p ks
  | 0, p, ks => rfl
  | k + 1, p, ks => by
    rw [akeysF_succ, akeysF_succ, akStep_sw h]
    rcases akStep s p ks with e | (_ | ⟨x, u⟩)
    · rfl
    · rfl
    · exact akeys_sw h k u _
theorem asteps_sw {s : ByteArray} (h : OneQ s) : ∀ (k p : Nat) (up : List PStep), astepsF k (swS s) p up = astepsF k s p up
  | 0, p, up => rfl
  | k + 1, p, up => by
    simp only [astepsF]
    rw [aname_sw, swS_size, akeys_sw h, ext_sw (aname_noq s p)]
    split
    · rfl
    · rcases akeysF (s.size + 1) s (aname s p) [] with e | ⟨ks, q⟩
      · rfl
      · simp only
        rw [stands_sw (by decide) (by decide), asteps_sw h k]
theorem aclimb_sw {s : ByteArray} : ∀ (k p : Nat) (up : List PStep) (f : Bool), aclimbF k (swS s) p up f = aclimbF k s p up f
  | 0, p, up, f => rfl
  | k + 1, p, up, f => by
    simp only [aclimbF]
    rw [stands_sw (by decide) (by decide), must_sw [46, 46, 47] p (by decide)]
    split
    · split
      · rfl
      · rcases mustM s p [46, 46, 47] with ⟨q, b⟩
        cases b
        · rfl
        · exact aclimb_sw k q _ false
    · rfl
theorem target_sw {s : ByteArray} (g : ByteArray) (h : OneQ s) : targetM g (swS s) = targetM g s := by
  unfold targetM
  rw [swS_size]
  rcases parseM g with e | (_ | ⟨x, r⟩)
  · rfl
  · rfl
  · simp only
    rw [aclimb_sw]
    rcases aclimbF (s.size + 2) s 0 (x :: r) true with e | ⟨up, p⟩
    · rfl
    · simp only
      rw [asteps_sw h]
end Go.Proofs.YtkfofdmcggoonaaDoor
