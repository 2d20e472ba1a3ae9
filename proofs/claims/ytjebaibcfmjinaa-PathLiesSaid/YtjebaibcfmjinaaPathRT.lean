/-
  Printed and parsed again, parsed and printed again; no program in sight. Plain Lean; no condition.
-/
import Derived.Test.YtjebaibcfmjinaaPathRound
namespace Go.Proofs.Ytjebaibcfmjinaa
open Go.RowKit

def RText (t : List UInt8) : Prop := ∃ rs, Runes rs ∧ t = encL rs
theorem RText.nil : RText [] := ⟨[], fun r hr => (by cases hr), rfl⟩
theorem RText.app {a b : List UInt8} (ha : RText a) (hb : RText b) : RText (a ++ b) := by
  obtain ⟨r, h1, rfl⟩ := ha
  obtain ⟨q, h2, rfl⟩ := hb
  refine ⟨r ++ q, ?_, by rw [encL_append]⟩
  intro x hx
  rcases List.mem_append.1 hx with hx | hx
  · exact h1 x hx
  · exact h2 x hx
theorem RText.byte {b : UInt8} (h : b.toNat < 128) : RText [b] := by
  refine ⟨[b.toNat], ?_, ?_⟩
  · intro x hx
    simp at hx
    exact .inl (by omega)
  · show [b] = enc b.toNat ++ []
    rw [enc_low h]
    simp
theorem RText.ascii : ∀ (l : List UInt8), (∀ b ∈ l, b.toNat < 128) → RText l
  | [], _ => RText.nil
  | b :: l, h => (RText.byte (h b (by simp))).app (RText.ascii l fun x hx => h x (by simp [hx]))
theorem dress_rtext : ∀ (rs : List Nat), Runes rs → RText (dressL (encL rs))
  | [], _ => RText.nil
  | r :: rs, h => by
    rw [dressL_encL_cons]
    refine RText.app ?_ (dress_rtext rs fun x hx => h x (by simp [hx]))
    by_cases hl : r < 128
    · rw [enc_low hl]
      refine RText.ascii _ ?_
      intro b hb
      simp only [dressL, List.flatMap_cons, List.flatMap_nil, List.append_nil] at hb
      unfold dressB at hb
      split at hb
      · simp at hb
        rcases hb with rfl | rfl
        · decide
        · rw [u8n r (by omega)]; exact hl
      · simp at hb
        rw [hb, u8n r (by omega)]
        exact hl
    · rw [high_plain (by omega)]
      exact ⟨[r], by intro x hx; simp at hx; rw [hx]; exact h r (by simp), by simp [encL]⟩
theorem name_rtext {nm : ByteArray} (h : nameOk nm = true) : RText nm.data.toList := by
  obtain ⟨b, u, hd, hb, hall⟩ := nameOk_iff.1 h
  exact RText.ascii _ fun x hx => nameB_low (hall x hx)
theorem keys_rtext : ∀ (ks : List PKey), (∀ k ∈ ks, KeyGood k) → RText (ks.flatMap keyText)
  | [], _ => RText.nil
  | k :: ks, h => by
    obtain ⟨h1, h2, ⟨rs, hv1, hv2, hv3⟩, h4⟩ := h k (by simp)
    simp only [List.flatMap_cons]
    refine RText.app ?_ (keys_rtext ks fun x hx => h x (by simp [hx]))
    unfold keyText
    rw [hv1]
    exact ((((RText.byte (by decide)).app (name_rtext h1)).app (RText.byte (by decide))).app (dress_rtext rs hv2)).app (RText.byte (by decide))
theorem text_rtext {st : PStep} (h : mayM st = (true, true)) : RText (textL st) := by
  obtain ⟨h1, h2, h3, h4⟩ := may_good h
  exact (name_rtext h1).app (keys_rtext st.2 h4)
theorem join_rtext : ∀ (l : List PStep), (∀ st ∈ l, mayM st = (true, true)) → RText (Lib.join (l.map textL) [47])
  | [], _ => RText.nil
  | [st], h => by
    rw [List.map_cons, List.map_nil, Lib.join_one]
    exact text_rtext (h st (by simp))
  | st :: y :: rest, h => by
    have hj : Lib.join ((st :: y :: rest).map textL) [47] = textL st ++ ([47] ++ Lib.join ((y :: rest).map textL) [47]) := by
      rw [List.map_cons, Lib.join_cons, List.map_cons, Lib.join_cons]
      simp [Lib.joinTail]
    rw [hj]
    exact (text_rtext (h st (by simp))).app ((RText.byte (by decide)).app (join_rtext (y :: rest) fun x hx => h x (by simp at hx ⊢; exact .inr hx)))
theorem rtext_right {t : List UInt8} (h : RText t) : broken (str t) = none := by
  obtain ⟨rs, h1, rfl⟩ := h
  exact (runes_right rs 0 h1 (T_zero _)).1
/-- What may be, and is short, is read again. -/
theorem read_back {l : List PStep} (hm : ∀ st ∈ l, mayM st = (true, true)) (h64 : l.length ≤ 64) (h512 : (Lib.join (l.map textL) [47]).length ≤ 512) : parseM (str (Lib.join (l.map textL) [47])) = .ok l := by
  have hsz : (str (Lib.join (l.map textL) [47])).size = (Lib.join (l.map textL) [47]).length := by show (Lib.join (l.map textL) [47]).toArray.size = _; simp
  have hbr := rtext_right (join_rtext l hm)
  unfold parseM
  rw [if_neg (by omega), hbr]
  simp only
  cases l with
  | nil => rfl
  | cons st rest =>
    have hpos : 0 < (Lib.join ((st :: rest).map textL) [47]).length := by
      obtain ⟨b, u, hd, _⟩ := nameOk_iff.1 (may_good (hm st (by simp))).1
      rw [List.map_cons, Lib.join_cons]
      simp [textL, hd]
    rw [if_neg (by omega)]
    unfold stepsM
    exact steps_read (st :: rest) _ 0 [] (by simp) (T_zero _) hm (by simpa using h64) (by simp)
/-- What put gives. -/
theorem putF_mono : ∀ (l : List PStep) (sh : Bool) (sz : Nat) (ts : List (List UInt8)) (sh' : Bool) (sz' : Nat) (ts' : List (List UInt8)), putF l sh sz ts = .ok (sh', sz', ts') → sz ≤ sz'
  | [], sh, sz, ts, sh', sz', ts', h => by simp [putF] at h; omega
  | st :: l, sh, sz, ts, sh', sz', ts', h => by
    simp only [putF] at h
    split at h
    · have := putF_mono l _ _ _ _ _ _ h
      split at this <;> omega
    · cases h
theorem putF_inv : ∀ (l : List PStep) (sh : Bool) (sz : Nat) (ts : List (List UInt8)) (sz' : Nat) (ts' : List (List UInt8)), putF l sh sz ts = .ok (true, sz', ts') → sz' ≤ 513 → sh = true ∧ (∀ st ∈ l, mayM st = (true, true)) ∧ sz' = sz + sumT (l.map textL) ∧ ts' = ts ++ l.map textL
  | [], sh, sz, ts, sz', ts', h, hz => by
    simp [putF] at h
    exact ⟨h.1, fun st hst => (by cases hst), by simp [sumT, h.2.1], by simp [h.2.2]⟩
  | st :: l, sh, sz, ts, sz', ts', h, hz => by
    simp only [putF] at h
    split at h
    · rename_i hok
      have hm := putF_mono l _ _ _ _ _ _ h
      by_cases h5 : sz ≤ 513
      · rw [if_pos h5] at h hm
        rw [if_pos h5] at h
        obtain ⟨i1, i2, i3, i4⟩ := putF_inv l _ _ _ _ _ h hz
        simp at i1
        refine ⟨i1.1, ?_, ?_, ?_⟩
        · intro x hx
          rcases List.mem_cons.1 hx with rfl | hx
          · exact Prod.ext hok i1.2
          · exact i2 x hx
        · rw [i3]; simp [sumT]; omega
        · rw [i4]; simp
      · rw [if_neg h5] at hm
        omega
    · cases h
theorem sumT_join {ts : List (List UInt8)} (h : ts ≠ []) : sumT ts = (Lib.join ts [47]).length + 1 := by
  cases ts with
  | nil => exact absurd rfl h
  | cons x r =>
    rw [Lib.join_cons, List.length_append, joinTail_len]
    simp [sumT]
    omega
theorem putF_go : ∀ (l : List PStep) (sz : Nat) (ts : List (List UInt8)), (∀ st ∈ l, mayM st = (true, true)) → sz + sumT (l.map textL) ≤ 513 → putF l true sz ts = .ok (true, sz + sumT (l.map textL), ts ++ l.map textL)
  | [], sz, ts, _, _ => by simp [putF, sumT]
  | st :: l, sz, ts, hm, hz => by
    have h1 := hm st (by simp)
    have hz2 : sz + ((textL st).length + 1) + sumT (l.map textL) ≤ 513 := by simp [sumT] at hz ⊢; omega
    have := putF_go l (sz + ((textL st).length + 1)) (ts ++ [textL st]) (fun x hx => hm x (by simp [hx])) hz2
    simp only [putF]
    rw [h1]
    simp only [Bool.and_self, if_true]
    rw [if_pos (by omega), if_pos (by omega), this]
    simp [sumT]
    omega
theorem putM_inv {l : List PStep} {t : List UInt8} (h : putM l = .ok t) : (∀ st ∈ l, mayM st = (true, true)) ∧ l.length ≤ 64 ∧ t = Lib.join (l.map textL) [47] ∧ sumT (l.map textL) ≤ 513 := by
  unfold putM at h
  cases hp : putF l (decide (l.length ≤ 64)) 0 [] with
  | error e => rw [hp] at h; cases h
  | ok x =>
    obtain ⟨sh, sz, ts⟩ := x
    rw [hp] at h
    simp only at h
    split at h
    · rename_i hc
      obtain ⟨rfl, hz⟩ := hc
      obtain ⟨i1, i2, i3, i4⟩ := putF_inv l _ _ _ _ _ hp hz
      simp at h i1 i3 i4
      exact ⟨i2, i1, by rw [← h, i4], by omega⟩
    · cases h
theorem putM_go {l : List PStep} (hm : ∀ st ∈ l, mayM st = (true, true)) (h64 : l.length ≤ 64) (hz : sumT (l.map textL) ≤ 513) : putM l = .ok (Lib.join (l.map textL) [47]) := by
  unfold putM
  rw [show decide (l.length ≤ 64) = true by simp [h64], putF_go l 0 [] hm (by omega)]
  simp only
  rw [if_pos ⟨trivial, by omega⟩, List.nil_append]
theorem print_parse {l : List PStep} {t : List UInt8} (h : putM l = .ok t) : parseM (str t) = .ok l := by
  obtain ⟨h1, h2, rfl, h4⟩ := putM_inv h
  refine read_back h1 h2 ?_
  by_cases hl : l = []
  · subst hl; decide
  · have := sumT_join (ts := l.map textL) (by simpa using hl)
    omega
theorem parse_sum {s : ByteArray} {l : List PStep} (h : parseM s = .ok l) : sumT (l.map textL) ≤ 513 := by
  have ht := parse_text h
  have hs := (parseM_small h).2.2.1
  by_cases hl : l = []
  · subst hl; decide
  · have := sumT_join (ts := l.map textL) (by simpa using hl)
    rw [ht, ba_len] at this
    omega
theorem parse_print {s : ByteArray} {l : List PStep} (h : parseM s = .ok l) : putM l = .ok s.data.toList := by
  rw [putM_go (parse_may h) (parseM_small h).2.1 (parse_sum h), parse_text h]
theorem sumT_app (a b : List (List UInt8)) : sumT (a ++ b) = sumT a + sumT b := by simp [sumT]
/-- A part of a path's steps is printed, and read again. -/
theorem part_print {s : ByteArray} {l m n : List PStep} (h : parseM s = .ok l) (hp : l = m ++ n) : ∃ t, putM m = .ok t ∧ parseM (str t) = .ok m := by
  have h1 := parse_may h
  have h2 := parse_sum h
  have h3 := (parseM_small h).2.1
  rw [hp, List.map_append, sumT_app] at h2
  rw [hp, List.length_append] at h3
  have h4 := putM_go (l := m) (fun st hst => h1 st (by rw [hp]; simp [hst])) (by omega) (by omega)
  exact ⟨_, h4, print_parse h4⟩
theorem part_print2 {s : ByteArray} {l m n : List PStep} (h : parseM s = .ok l) (hp : l = m ++ n) : ∃ t, putM n = .ok t ∧ parseM (str t) = .ok n := by
  have h1 := parse_may h
  have h2 := parse_sum h
  have h3 := (parseM_small h).2.1
  rw [hp, List.map_append, sumT_app] at h2
  rw [hp, List.length_append] at h3
  have h4 := putM_go (l := n) (fun st hst => h1 st (by rw [hp]; simp [hst])) (by omega) (by omega)
  exact ⟨_, h4, print_parse h4⟩
end Go.Proofs.Ytjebaibcfmjinaa
