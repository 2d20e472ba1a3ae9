/-
  What the document's value reader does at a byte, against valAt; no program in sight. Plain Lean; no condition.
-/
import Derived.Test.YtjebaibcfmjinaaFormLaw
import Derived.Test.YtjebaibcfmjinaaPathBack
namespace Go.Proofs.Ytjebaibcfmjinaa
open Go.RowKit

theorem decode_byte {s : ByteArray} {q : Nat} (h : q < s.size) (hb : s[q].toNat < 128) : Utf8.decode s q = (s[q].toNat, 1) := by
  rw [decode_eq, byN_at h, if_pos hb]
theorem decode_big {s : ByteArray} {q : Nat} (h : q < s.size) (hb : ¬ s[q].toNat < 128) : 128 ≤ (Utf8.decode s q).1 := by
  rw [decode_eq, byN_at h, if_neg hb]
  split
  · split
    · assumption
    · simp
  · split
    · split
      · rename_i h2
        simp only [Bool.and_eq_true, decide_eq_true_eq] at h2
        simp only
        omega
      · simp
    · split
      · split
        · rename_i h2
          simp only [Bool.and_eq_true, decide_eq_true_eq] at h2
          simp only
          omega
        · simp
      · simp
theorem decode_self (s : ByteArray) (q : Nat) : Utf8.decode s q = ((Utf8.decode s q).1, (Utf8.decode s q).2) := rfl
theorem special_lowR {b : UInt8} (h : 0 ≤ specialI (b.toNat : Int)) : b.toNat < 128 := by
  have : ∀ n : Fin 256, 0 ≤ specialI ((UInt8.ofNat n.val).toNat : Int) → (UInt8.ofNat n.val).toNat < 128 := by decide +kernel
  have := this ⟨b.toNat, b.toNat_lt⟩
  simp only [UInt8.ofNat_toNat] at this
  exact this h
section
variable {s : ByteArray} {fr q : Nat} {out : List UInt8}
theorem rv_shut (h : q < s.size) (hb : s[q].toNat = 93) : valAt s fr q false out = if out.length > 64 then .error (3, (fr : Int)) else .ok (out, q + 1) :=
  va_shut h (decode_byte h (by omega)) hb
theorem rv_esc (h : q < s.size) (hb : s[q].toNat = 92) : valAt s fr q false out = valAt s fr (q + 1) true out := va_back h (decode_byte h (by omega)) hb
theorem rv_back_end (h : q < s.size) (hb : s[q].toNat = 92) (hq : q + 1 = s.size) : valAt s fr q false out = .error (160, ((q + 1 : Nat) : Int)) := by
  rw [rv_esc h hb, valAt_end (by omega), hq]
theorem rv_back_bad (h : q < s.size) (hb : s[q].toNat = 92) (hq : q + 1 < s.size) (hs : ¬ 0 ≤ specialI (s[q + 1].toNat : Int)) : valAt s fr q false out = .error (160, ((q + 1 : Nat) : Int)) := by
  rw [rv_esc h hb]
  refine va_esc_bad hq (decode_self s (q + 1)) ?_
  rintro ⟨h1, h2⟩
  by_cases hl : s[q + 1].toNat < 128
  · rw [decode_byte hq hl] at h2
    exact hs h2
  · have := decode_big hq hl
    omega
theorem rv_back_go (h : q < s.size) (hb : s[q].toNat = 92) (hq : q + 1 < s.size) (hs : 0 ≤ specialI (s[q + 1].toNat : Int)) : valAt s fr q false out = valAt s fr (q + 2) false (out ++ (s.extract (q + 1) (q + 2)).data.toList) := by
  have hl := special_lowR hs
  rw [rv_esc h hb, va_esc hq (decode_byte hq hl) hl hs, extract_seg, show q + 2 = q + 1 + 1 by omega, seg_one hq]
  simp
theorem high_ne (h : q < s.size) {c : Nat} (hb : s[q].toNat ≠ c) (hc : c < 128) : (Utf8.decode s q).1 ≠ c := by
  by_cases hl : s[q].toNat < 128
  · rw [decode_byte h hl]
    exact hb
  · have := decode_big h hl
    omega
theorem form_right (h : q < s.size) (hbr : brokenAt s q = none) : formR s q = ((Utf8.decode s q).1 : Int) := by
  unfold formR
  rw [if_neg (brokenAt_go h hbr).1]
def stopR (r : Int) : Bool := controlR r || (r == 91) || (r == 47) || (r == 61)
theorem stopR_iff (r : Nat) : stopR (r : Int) = true ↔ (controlR (r : Int) = true ∨ r = 91 ∨ r = 47 ∨ r = 61) := by
  unfold stopR
  have e1 : ((r : Int) = 91) ↔ r = 91 := by omega
  have e2 : ((r : Int) = 47) ↔ r = 47 := by omega
  have e3 : ((r : Int) = 61) ↔ r = 61 := by omega
  rw [Bool.or_eq_true, Bool.or_eq_true, Bool.or_eq_true, beq_iff_eq, beq_iff_eq, beq_iff_eq, e1, e2, e3, or_assoc, or_assoc]
theorem rv_bad (h : q < s.size) (h92 : s[q].toNat ≠ 92) (h93 : s[q].toNat ≠ 93) (hbr : brokenAt s q = none) (hr : stopR (formR s q) = true) : valAt s fr q false out = .error (160, (q : Int)) := by
  rw [form_right h hbr, stopR_iff] at hr
  exact va_bad h (decode_self s q) (high_ne h h92 (by omega)) (high_ne h h93 (by omega)) hr
theorem rv_go (h : q < s.size) (h92 : s[q].toNat ≠ 92) (h93 : s[q].toNat ≠ 93) (hbr : brokenAt s q = none) (hr : stopR (formR s q) = false) :
    valAt s fr q false out = valAt s fr (q + (Utf8.decode s q).2) false (out ++ (s.extract q (q + (Utf8.decode s q).2)).data.toList) := by
  have hr' : ¬ (stopR (formR s q) = true) := by rw [hr]; simp
  rw [form_right h hbr, stopR_iff] at hr'
  rw [va_go h (decode_self s q) (high_ne h h92 (by omega)) (high_ne h h93 (by omega)) hr', enc_seg h (brokenAt_go h hbr).1, extract_seg]
end
/-- A value's end is no place within a piece. -/
theorem valF_bound (s : ByteArray) (fr : Nat) : ∀ (k q : Nat) (esc : Bool) (out l : List UInt8) (r : Nat), valF k s fr q esc out = .ok (l, r) → brokenAt s q = none → brokenAt s r = none ∧ q < r := by
  intro k
  induction k with
  | zero => intro q esc out l r h; cases h
  | succ k ih =>
    intro q esc out l r h hbr
    have hd := decode_pos s q
    simp only [valF] at h
    split at h
    · rename_i hq
      have hgo := (brokenAt_go hq hbr).2
      split at h
      · split at h
        · have := ih _ _ _ _ _ h hgo
          exact ⟨this.1, by omega⟩
        · cases h
      · split at h
        · have := ih _ _ _ _ _ h hgo
          exact ⟨this.1, by omega⟩
        · split at h
          · rename_i h93
            split at h
            · cases h
            · simp only [Except.ok.injEq, Prod.mk.injEq] at h
              obtain ⟨-, rfl⟩ := h
              have hd2 : s[q].toNat = 93 ∧ (Utf8.decode s q).2 = 1 := decode_low hq (r := 93) (Prod.ext h93 rfl) (by omega)
              refine ⟨?_, by omega⟩
              rw [hd2.2] at hgo
              exact hgo
          · split at h
            · cases h
            · have := ih _ _ _ _ _ h hgo
              exact ⟨this.1, by omega⟩
    · cases h
theorem valAt_bound {s : ByteArray} {fr q r : Nat} {out l : List UInt8} (h : valAt s fr q false out = .ok (l, r)) (hb : brokenAt s q = none) : brokenAt s r = none ∧ q < r := valF_bound s fr _ q false out l r h hb
theorem nameEnd_bound {s : ByteArray} : ∀ (n p : Nat), s.size ≤ p + n → p ≤ s.size → brokenAt s p = none → brokenAt s (nameEnd s p) = none := by
  intro n
  induction n with
  | zero => intro p h1 h2 hb; rw [nameEnd_end (by omega)]; exact hb
  | succ n ih =>
    intro p h1 h2 hb
    by_cases hlt : p < s.size
    · rw [nameEnd_step hlt]
      split
      · rename_i hn
        exact ih (p + 1) (by omega) (by omega) (brokenAt_ascii hlt hb (nameB_low hn))
      · exact hb
    · rw [nameEnd_end hlt]
      exact hb
theorem nameM_bound {s : ByteArray} {p q : Nat} {nm : ByteArray} (h : nameM s p = .ok (nm, q)) (hp : p ≤ s.size) (hb : brokenAt s p = none) : brokenAt s q = none := by
  rw [(nameM_ok h hp).2.2.2.1]
  exact nameEnd_bound s.size p (by omega) hp hb
theorem stands_bound {s : ByteArray} {p : Nat} {b : UInt8} (h : standsB s p b = true) (hl : b.toNat < 128) (hb : brokenAt s p = none) : brokenAt s (p + 1) = none := by
  obtain ⟨h1, h2⟩ := stands_at h
  exact brokenAt_ascii h1 hb (by rw [h2]; exact hl)
theorem keysF_bound (s : ByteArray) : ∀ (k p : Nat) (ks l : List PKey) (q : Nat), p ≤ s.size → brokenAt s p = none → keysF k s p ks = .ok (l, q) → brokenAt s q = none := by
  intro k
  induction k with
  | zero => intro p ks l q hp hb h; simp [keysF] at h; rw [← h.2]; exact hb
  | succ k ih =>
    intro p ks l q hp hb h
    simp only [keysF] at h
    split at h
    · rename_i hs
      have hl := stands_lt hs
      have hb1 := stands_bound hs (by decide) hb
      cases hn : nameM s (p + 1) with
      | error e => rw [hn] at h; cases h
      | ok x =>
        obtain ⟨key, q1⟩ := x
        have hb2 := nameM_bound hn (by omega) hb1
        rw [hn] at h
        simp only at h
        split at h
        · split at h
          · rename_i hs2
            have hb3 := stands_bound hs2 (by decide) hb2
            cases hv : valAt s (q1 + 1) (q1 + 1) false [] with
            | error e => rw [hv] at h; cases h
            | ok y =>
              obtain ⟨v, r⟩ := y
              have hr := valAt_ok hv
              rw [hv] at h
              exact ih r _ _ _ hr.2 (valAt_bound hv hb3).1 h
          · cases h
        · cases h
    · simp at h
      rw [← h.2]
      exact hb
theorem stepM_bound {s : ByteArray} {p q : Nat} {st : PStep} (h : stepM s p = .ok (st, q)) (hp : p ≤ s.size) (hb : brokenAt s p = none) : brokenAt s q = none := by
  unfold stepM at h
  cases hn : nameM s p with
  | error e => rw [hn] at h; cases h
  | ok x =>
    obtain ⟨nm, q1⟩ := x
    have hq := nameM_ok hn hp
    rw [hn] at h
    simp only at h
    cases hk : keysM s q1 [] with
    | error e => rw [hk] at h; cases h
    | ok y =>
      obtain ⟨ks, r⟩ := y
      rw [hk] at h
      simp at h
      rw [← h.2]
      exact keysF_bound s _ q1 [] ks r hq.2.1 (nameM_bound hn hp hb) hk
end Go.Proofs.Ytjebaibcfmjinaa
