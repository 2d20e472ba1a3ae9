/-
  A right text is a row of runes' forms; no program in sight. Plain Lean; no condition.
-/
import Derived.Test.YtfpepdjffehbcaaPathPrint
set_option linter.unusedVariables false
set_option linter.unusedSimpArgs false
namespace Go.Proofs.Ytfpepdjffehbcaa
open Go.RowKit

def scalar (r : Nat) : Prop := r < 55296 ∨ (57343 < r ∧ r ≤ 1114111)
abbrev enc (r : Nat) : List UInt8 := Lib.encodeRune (r : Int)
theorem u8n (n : Nat) (h : n < 256) : (n.toUInt8).toNat = n := by simp; omega
theorem dec_enc {r : Nat} (h : scalar r) (t : List UInt8) : Lib.decodeL (enc r ++ t) = (r, (enc r).length) := by
  unfold scalar at h
  rw [Lib.decodeL_N]
  unfold enc Lib.encodeRune
  by_cases h1 : r ≤ 127
  · rw [Lib.encodeRuneZ_one (by omega) (by omega)]
    have e : ((r : Int).toNat.toUInt8).toNat = r := by rw [Int.toNat_natCast]; exact u8n r (by omega)
    simp only [List.map_cons, List.map_nil, List.cons_append, List.nil_append, List.getD_cons_zero, e, List.length_cons, List.length_nil]
    unfold Lib.decodeN
    rw [if_pos (by omega)]
  · by_cases h2 : r ≤ 2047
    · rw [Lib.encodeRuneZ_two (by omega) (by omega)]
      have e1 : (((192 : Int) + (r : Int) / 64).toNat.toUInt8).toNat = 192 + r / 64 := by rw [show ((192 : Int) + (r : Int) / 64).toNat = 192 + r / 64 by omega]; exact u8n _ (by omega)
      have e2 : (((128 : Int) + (r : Int) % 64).toNat.toUInt8).toNat = 128 + r % 64 := by rw [show ((128 : Int) + (r : Int) % 64).toNat = 128 + r % 64 by omega]; exact u8n _ (by omega)
      simp only [List.map_cons, List.map_nil, List.cons_append, List.nil_append, List.getD_cons_zero, List.getD_cons_succ, e1, e2, List.length_cons, List.length_nil]
      unfold Lib.decodeN
      rw [if_neg (by omega), if_pos (by omega), if_pos (by omega)]
      exact Prod.ext (by simp only; omega) rfl
    · by_cases h3 : r < 55296 ∨ (57343 < r ∧ r ≤ 65535)
      · rw [Lib.encodeRuneZ_three (by omega)]
        have e1 : (((224 : Int) + (r : Int) / 4096).toNat.toUInt8).toNat = 224 + r / 4096 := by rw [show ((224 : Int) + (r : Int) / 4096).toNat = 224 + r / 4096 by omega]; exact u8n _ (by omega)
        have e2 : (((128 : Int) + (r : Int) / 64 % 64).toNat.toUInt8).toNat = 128 + r / 64 % 64 := by rw [show ((128 : Int) + (r : Int) / 64 % 64).toNat = 128 + r / 64 % 64 by omega]; exact u8n _ (by omega)
        have e3 : (((128 : Int) + (r : Int) % 64).toNat.toUInt8).toNat = 128 + r % 64 := by rw [show ((128 : Int) + (r : Int) % 64).toNat = 128 + r % 64 by omega]; exact u8n _ (by omega)
        simp only [List.map_cons, List.map_nil, List.cons_append, List.nil_append, List.getD_cons_zero, List.getD_cons_succ, e1, e2, e3, List.length_cons, List.length_nil]
        have er : (224 + r / 4096) % 16 * 4096 + (128 + r / 64 % 64) % 64 * 64 + (128 + r % 64) % 64 = r := by omega
        unfold Lib.decodeN
        rw [if_neg (by omega), if_neg (by omega), if_pos (by omega), er, if_pos (by omega)]
      · rw [Lib.encodeRuneZ_four (by omega) (by omega)]
        have e1 : (((240 : Int) + (r : Int) / 262144).toNat.toUInt8).toNat = 240 + r / 262144 := by rw [show ((240 : Int) + (r : Int) / 262144).toNat = 240 + r / 262144 by omega]; exact u8n _ (by omega)
        have e2 : (((128 : Int) + (r : Int) / 4096 % 64).toNat.toUInt8).toNat = 128 + r / 4096 % 64 := by rw [show ((128 : Int) + (r : Int) / 4096 % 64).toNat = 128 + r / 4096 % 64 by omega]; exact u8n _ (by omega)
        have e3 : (((128 : Int) + (r : Int) / 64 % 64).toNat.toUInt8).toNat = 128 + r / 64 % 64 := by rw [show ((128 : Int) + (r : Int) / 64 % 64).toNat = 128 + r / 64 % 64 by omega]; exact u8n _ (by omega)
        have e4 : (((128 : Int) + (r : Int) % 64).toNat.toUInt8).toNat = 128 + r % 64 := by rw [show ((128 : Int) + (r : Int) % 64).toNat = 128 + r % 64 by omega]; exact u8n _ (by omega)
        simp only [List.map_cons, List.map_nil, List.cons_append, List.nil_append, List.getD_cons_zero, List.getD_cons_succ, e1, e2, e3, e4, List.length_cons, List.length_nil]
        have er : (240 + r / 262144) % 8 * 262144 + (128 + r / 4096 % 64) % 64 * 4096 + (128 + r / 64 % 64) % 64 * 64 + (128 + r % 64) % 64 = r := by omega
        unfold Lib.decodeN
        rw [if_neg (by omega), if_neg (by omega), if_neg (by omega), if_pos (by omega), er, if_pos (by omega)]
theorem enc_pos (r : Nat) : 1 ≤ (enc r).length := by
  have := (Lib.encodeRuneZ_length (r : Int)).1
  simpa [enc, Lib.encodeRune] using this
theorem decode_scalar {s : ByteArray} {p : Nat} (hd : Utf8.decode s p ≠ (65533, 1)) : scalar (Utf8.decode s p).1 := by
  unfold scalar
  rw [Lib.decode_N] at hd ⊢
  rcases Lib.decodeN_shape (s.data.toList.length - p) (s.data.toList.getD p 0).toNat (s.data.toList.getD (p + 1) 0).toNat (s.data.toList.getD (p + 2) 0).toNat (s.data.toList.getD (p + 3) 0).toNat with h | h | h | h | h
  · rw [h.2]; simp only; omega
  · rw [h.2.2.2.2]
    have := (s.data.toList.getD p 0).toNat_lt
    simp only; omega
  · rw [h.2.2.2.2.2.2]
    simp only; omega
  · rw [h.2.2.2.2.2.2.2]
    simp only; omega
  · exact absurd h hd
theorem str_self (b : ByteArray) : b = str b.data.toList := by
  obtain ⟨⟨x⟩⟩ := b
  rfl
/-- The tail of a string. -/
def T (s : ByteArray) (p : Nat) (t : List UInt8) : Prop := s.data.toList.drop p = t ∧ p ≤ s.size
section
variable {s : ByteArray} {p : Nat} {t : List UInt8}
theorem T.len (h : T s p t) : p + t.length = s.size := by
  have := congrArg List.length h.1
  rw [List.length_drop, ba_len] at this
  have := h.2
  omega
theorem T.cons {b : UInt8} (h : T s p (b :: t)) : ∃ hl : p < s.size, s[p] = b ∧ T s (p + 1) t := by
  have hlen := h.len
  simp at hlen
  have hl : p < s.size := by omega
  have hl2 : p < s.data.toList.length := by rw [ba_len]; exact hl
  have h1 := h.1
  rw [List.drop_eq_getElem_cons hl2] at h1
  injection h1 with h2 h3
  exact ⟨hl, h2, h3, by omega⟩
theorem T.app {a : List UInt8} (h : T s p (a ++ t)) : T s (p + a.length) t := by
  refine ⟨?_, by have := h.len; simp at this; omega⟩
  rw [← List.drop_drop, h.1, List.drop_left]
theorem T.ext {a : List UInt8} (h : T s p (a ++ t)) : s.extract p (p + a.length) = str a := by
  have e := extract_seg (s := s) p (p + a.length)
  unfold seg at e
  rw [h.1, show p + a.length - p = a.length by omega, List.take_left] at e
  rw [str_self (s.extract p (p + a.length)), e]
theorem T.rune {r : Nat} (h : T s p (enc r ++ t)) (hr : scalar r) : p < s.size ∧ Utf8.decode s p = (r, (enc r).length) := by
  have hlen := h.len
  have := enc_pos r
  simp at hlen
  refine ⟨by omega, ?_⟩
  rw [← Lib.decodeL_drop, h.1]
  exact dec_enc hr t
end
theorem T_zero (l : List UInt8) : T (str l) 0 l := ⟨by simp [str], Nat.zero_le _⟩
def Runes (rs : List Nat) : Prop := ∀ r ∈ rs, scalar r
def encL (rs : List Nat) : List UInt8 := rs.flatMap enc
/-- Runes' forms are right. -/
theorem runes_right {s : ByteArray} : ∀ (rs : List Nat) (p : Nat), Runes rs → T s p (encL rs) → brokenAt s p = none ∧ ctrlAt s p = rs.any fun r => controlR (r : Int)
  | [], p, _, h => by
    have hl := h.len
    simp [encL] at hl
    exact ⟨brokenAt_end (by omega), ctrl_end (by omega)⟩
  | r :: rs, p, hr, h => by
    have h' : T s p (enc r ++ encL rs) := by simpa [encL] using h
    obtain ⟨hlt, hd⟩ := h'.rune (hr r (by simp))
    obtain ⟨i1, i2⟩ := runes_right rs (p + (enc r).length) (fun x hx => hr x (by simp [hx])) h'.app
    have hne : ¬ Utf8.decode s p = (65533, 1) := by
      rw [hd]
      intro e
      injection e with e1 e2
      rw [e1] at e2
      revert e2
      decide
    constructor
    · rw [brokenAt_step hlt, if_neg hne, hd]
      exact i1
    · rw [ctrl_step hlt, hd]
      simp only [List.any_cons]
      cases hc : controlR (r : Int)
      · simp [i2]
      · simp
/-- A right text falls into runes. -/
theorem right_runes {s : ByteArray} : ∀ (n p : Nat), s.size ≤ p + n → p ≤ s.size → brokenAt s p = none → ∃ rs, Runes rs ∧ T s p (encL rs) := by
  intro n
  induction n with
  | zero =>
    intro p h1 h2 _
    refine ⟨[], fun r hr => (by cases hr), ?_, h2⟩
    rw [List.drop_of_length_le (by rw [ba_len]; omega)]
    rfl
  | succ n ih =>
    intro p h1 h2 hb
    by_cases hlt : p < s.size
    · obtain ⟨hne, hb2⟩ := brokenAt_go hlt hb
      have hd1 := decode_pos s p
      have hd2 := decode_in hlt
      obtain ⟨rs, hrs, ht⟩ := ih (p + (Utf8.decode s p).2) (by omega) hd2 hb2
      refine ⟨(Utf8.decode s p).1 :: rs, ?_, ?_, h2⟩
      · intro r hr
        rcases List.mem_cons.1 hr with rfl | hr
        · exact decode_scalar hne
        · exact hrs r hr
      · have e := enc_seg hlt hne
        rw [encode_rune] at e
        have e' : enc (Utf8.decode s p).1 = _ := e
        show _ = enc _ ++ encL rs
        rw [← ht.1, e']
        unfold seg
        rw [show p + (Utf8.decode s p).2 - p = (Utf8.decode s p).2 by omega, ← List.drop_drop, List.take_append_drop]
    · refine ⟨[], fun r hr => (by cases hr), ?_, h2⟩
      rw [List.drop_of_length_le (by rw [ba_len]; omega)]
      rfl
theorem right_text {s : ByteArray} (h : broken s = none) : ∃ rs, Runes rs ∧ s.data.toList = encL rs ∧ ctrlAt s 0 = rs.any fun r => controlR (r : Int) := by
  obtain ⟨rs, h1, h2⟩ := right_runes s.size 0 (by omega) (Nat.zero_le _) h
  exact ⟨rs, h1, by have := h2.1; rw [List.drop_zero] at this; exact this, (runes_right rs 0 h1 h2).2⟩
end Go.Proofs.Ytfpepdjffehbcaa
/-
  What parses may be, and what may be is read as it was written; no program in sight. Plain Lean; no condition.
-/
namespace Go.Proofs.Ytfpepdjffehbcaa
open Go.RowKit

/-- A value's runes. -/
def ValR (v : List UInt8) (rs : List Nat) : Prop := v = encL rs ∧ Runes rs ∧ ∀ r ∈ rs, controlR (r : Int) = false
theorem encL_append (a b : List Nat) : encL (a ++ b) = encL a ++ encL b := by simp [encL]
theorem ValR.snoc {v : List UInt8} {rs : List Nat} (h : ValR v rs) {r : Nat} (hr : scalar r) (hc : controlR (r : Int) = false) : ValR (v ++ enc r) (rs ++ [r]) := by
  refine ⟨by rw [encL_append, h.1]; simp [encL], ?_, ?_⟩
  · intro x hx
    rcases List.mem_append.1 hx with hx | hx
    · exact h.2.1 x hx
    · simp at hx; rw [hx]; exact hr
  · intro x hx
    rcases List.mem_append.1 hx with hx | hx
    · exact h.2.2 x hx
    · simp at hx; rw [hx]; exact hc
theorem enc_low {r : Nat} (h : r < 128) : enc r = [r.toUInt8] := by
  unfold enc Lib.encodeRune
  rw [Lib.encodeRuneZ_one (by omega) (by omega)]
  simp
theorem special_low {r : Nat} (h : 0 ≤ specialI (r : Int)) (hr : r < 128) : controlR (r : Int) = false := by
  have e := special_iff r.toUInt8
  rw [u8n r (by omega)] at e
  have := e.1 h
  have hn : r = 91 ∨ r = 93 ∨ r = 47 ∨ r = 61 ∨ r = 92 := by
    rcases this with h | h | h | h | h
    all_goals
      have := congrArg UInt8.toNat h
      rw [u8n r (by omega)] at this
      simp at this
      omega
  rcases hn with rfl | rfl | rfl | rfl | rfl <;> decide
theorem valF_runes (s : ByteArray) (fr : Nat) : ∀ (k q : Nat) (esc : Bool) (out l : List UInt8) (r : Nat), valF k s fr q esc out = .ok (l, r) → brokenAt s q = none → (∃ rs, ValR out rs) → ∃ rs, ValR l rs := by
  intro k
  induction k with
  | zero => intro q esc out l r h; cases h
  | succ k ih =>
    intro q esc out l r h hb hv
    obtain ⟨rs, hv⟩ := hv
    simp only [valF] at h
    split at h
    · rename_i hq
      have hgo := brokenAt_go hq hb
      have hd : Utf8.decode s q = ((Utf8.decode s q).1, (Utf8.decode s q).2) := rfl
      split at h
      · split at h
        · rename_i hsp
          refine ih _ _ _ _ _ h hgo.2 ⟨rs ++ [(Utf8.decode s q).1], ?_⟩
          have := hv.snoc (r := (Utf8.decode s q).1) (.inl (by omega)) (special_low hsp.2 hsp.1)
          rw [enc_low hsp.1] at this
          exact this
        · cases h
      · split at h
        · exact ih _ _ _ _ _ h hgo.2 ⟨rs, hv⟩
        · split at h
          · split at h
            · cases h
            · simp only [Except.ok.injEq, Prod.mk.injEq] at h
              rw [← h.1]
              exact ⟨rs, hv⟩
          · split at h
            · cases h
            · rename_i hbad
              refine ih _ _ _ _ _ h hgo.2 ⟨rs ++ [(Utf8.decode s q).1], ?_⟩
              rw [encode_rune]
              exact hv.snoc (decode_scalar hgo.1) (by
                cases hc : controlR ((Utf8.decode s q).1 : Int)
                · rfl
                · exact absurd (.inl hc) hbad)
    · cases h
theorem str_data (l : List UInt8) : (str l).data.toList = l := by simp [str]
theorem valR_ok {v : List UInt8} {rs : List Nat} (h : ValR v rs) : broken (str v) = none ∧ ctrlAt (str v) 0 = false := by
  have ht : T (str v) 0 (encL rs) := by rw [← h.1]; exact T_zero v
  obtain ⟨h1, h2⟩ := runes_right rs 0 h.2.1 ht
  refine ⟨h1, ?_⟩
  rw [h2]
  simp only [List.any_eq_false]
  intro r hr
  simp [h.2.2 r hr]
/-- The last key ahead. -/
def lastOr (ah : ByteArray) (ks : List PKey) : ByteArray := match ks.getLast? with
  | none => ah
  | some k => k.1
theorem keysOk_snoc : ∀ (ks : List PKey) (ah : ByteArray) (k : PKey), keysOk ah (ks ++ [k]) = (keysOk ah ks && keyOk (lastOr ah ks) k)
  | [], ah, k => by simp [keysOk, lastOr]
  | x :: ks, ah, k => by
    have := keysOk_snoc ks x.1 k
    simp only [List.cons_append, keysOk, this]
    have e : lastOr x.1 ks = lastOr ah (x :: ks) := by
      unfold lastOr
      cases ks with
      | nil => rfl
      | cons y ys => simp [List.getLast?_cons_cons]; rfl
    rw [e, Bool.and_assoc]
theorem bl_empty {a : List UInt8} (h : a ≠ []) : Op.bytesLess [] a = true := by
  cases a with
  | nil => exact absurd rfl h
  | cons b t => rfl
theorem nameEndF_all (s : ByteArray) : ∀ k p, p ≤ s.size → ∀ b ∈ seg s p (nameEndF k s p), nameB b = true := by
  intro k
  induction k with
  | zero => intro p _ b hb; simp [nameEndF, seg_self] at hb
  | succ k ih =>
    intro p hp b hb
    simp only [nameEndF] at hb
    split at hb
    · rename_i hlt
      split at hb
      · rename_i hn
        have h1 := (nameEnd_ge s k (p + 1)).1
        rw [← seg_append (Nat.le_succ p) h1] at hb
        rcases List.mem_append.1 hb with hb | hb
        · rw [seg_one hlt] at hb
          simp at hb
          rw [hb]
          exact hn
        · exact ih (p + 1) hlt b hb
      · simp [seg_self] at hb
    · simp [seg_self] at hb
def Stop (t : List UInt8) : Prop := t = [] ∨ ∃ b u, t = b :: u ∧ nameB b = false
theorem nameEnd_tail {s : ByteArray} : ∀ (a t : List UInt8) (p : Nat), T s p (a ++ t) → (∀ b ∈ a, nameB b = true) → Stop t → nameEnd s p = p + a.length
  | [], t, p, h, _, hs => by
    rcases hs with rfl | ⟨b, u, rfl, hb⟩
    · have := h.len
      simp at this
      rw [nameEnd_end (by omega)]
      rfl
    · obtain ⟨hl, he, _⟩ := T.cons (by simpa using h)
      rw [nameEnd_step hl, he, hb]
      rfl
  | b :: a, t, p, h, ha, hs => by
    obtain ⟨hl, he, ht⟩ := T.cons (by simpa using h)
    rw [nameEnd_step hl, he, if_pos (ha b (by simp)), nameEnd_tail a t (p + 1) ht (fun x hx => ha x (by simp [hx])) hs]
    simp
    omega
theorem start_name {b : UInt8} (h : startB b = true) : nameB b = true := by simp [nameB, h]
/-- A name, byte by byte. -/
theorem nameOk_iff {nm : ByteArray} : nameOk nm = true ↔ ∃ b u, nm.data.toList = b :: u ∧ startB b = true ∧ ∀ x ∈ nm.data.toList, nameB x = true := by
  constructor
  · intro h
    unfold nameOk at h
    split at h
    · rename_i h0
      simp at h
      have hall := nameEndF_all nm (nm.size - 0) 0 (Nat.zero_le _)
      have e : nameEndF (nm.size - 0) nm 0 = nm.size := h.1
      rw [e, seg_all] at hall
      cases hd : nm.data.toList with
      | nil => have := ba_len nm; rw [hd] at this; simp at this; omega
      | cons b u =>
        refine ⟨b, u, rfl, ?_, by rw [← hd]; exact hall⟩
        have hb : T nm 0 (b :: u) := ⟨by rw [List.drop_zero, hd], Nat.zero_le _⟩
        obtain ⟨hl, he, _⟩ := hb.cons
        rw [← he]
        exact h.2
    · cases h
  · rintro ⟨b, u, hd, hb, hall⟩
    have hT : T nm 0 (nm.data.toList ++ []) := ⟨by simp, Nat.zero_le _⟩
    have he := nameEnd_tail _ [] 0 hT hall (.inl rfl)
    rw [Nat.zero_add, ba_len] at he
    have hT2 : T nm 0 (b :: u) := ⟨by rw [List.drop_zero, hd], Nat.zero_le _⟩
    obtain ⟨hl, hh, _⟩ := hT2.cons
    unfold nameOk
    rw [dif_pos hl]
    simp [he, hh, hb]
theorem nameM_name {s : ByteArray} {p q : Nat} {nm : ByteArray} (h : nameM s p = .ok (nm, q)) (hp : p ≤ s.size) : nameOk nm = true := by
  obtain ⟨h1, h2, rfl, h4, h5⟩ := nameM_ok h hp
  have h6 := (nameM_small h hp).2
  rw [nameOk_iff]
  have hlt : p < s.size := by omega
  have hst : startB s[p] = true := by
    unfold nameErr at h5
    rw [dif_pos hlt] at h5
    split at h5
    · rename_i h; exact h
    · cases h5
  rw [extract_seg, ← seg_append (Nat.le_succ p) (show p + 1 ≤ q by omega), seg_one hlt]
  refine ⟨s[p], seg s (p + 1) q, rfl, hst, ?_⟩
  have hall := nameEndF_all s (s.size - p) p hp
  have e : nameEndF (s.size - p) s p = q := h4.symm
  rw [e, ← seg_append (Nat.le_succ p) (show p + 1 ≤ q by omega), seg_one hlt] at hall
  exact hall
/-- What parses may be. -/
theorem keysF_may (s : ByteArray) : ∀ (k p : Nat) (ks l : List PKey) (q : Nat), p ≤ s.size → brokenAt s p = none → keysF k s p ks = .ok (l, q) → keysOk ByteArray.empty ks = true → keysOk ByteArray.empty l = true := by
  intro k
  induction k with
  | zero => intro p ks l q hp hb h hk; simp [keysF] at h; rw [← h.1]; exact hk
  | succ k ih =>
    intro p ks l q hp hb h hk
    simp only [keysF] at h
    split at h
    · rename_i hbr
      have hlt := stands_lt hbr
      have hv1 := stands_valid hbr (by decide) hb
      cases hn : nameM s (p + 1) with
      | error e => rw [hn] at h; cases h
      | ok x =>
        obtain ⟨key, q1⟩ := x
        have hq := nameM_ok hn (by omega)
        have hname := nameM_name hn (by omega)
        rw [hn] at h
        simp only at h
        split at h
        · rename_i hr
          split at h
          · rename_i he
            have hvn : brokenAt s q1 = none := by rw [hq.2.2.2.1]; exact nameEndF_valid s _ _ (by omega) hv1.1
            have hv2 := stands_valid he (by decide) hvn
            have hlt2 := stands_lt he
            cases hv : valAt s (q1 + 1) (q1 + 1) false [] with
            | error e => rw [hv] at h; cases h
            | ok y =>
              obtain ⟨v, r⟩ := y
              rw [hv] at h
              simp only at h
              have hvb := valF_back s (q1 + 1) _ (q1 + 1) false [] v r hv hv2.1 (Nat.le_refl _) (by omega) (by simp [tailE, dressL, seg_self])
              obtain ⟨rs, hrs⟩ := valF_runes s (q1 + 1) _ (q1 + 1) false [] v r hv hv2.1 ⟨[], rfl, (fun r hr => (by cases hr)), fun r hr => (by cases hr)⟩
              have hvo := valR_ok hrs
              refine ih r _ _ _ hvb.2.2.2 hvb.2.1 h ?_
              rw [keysOk_snoc, hk, Bool.true_and]
              unfold keyOk
              rw [hname, hvo.1, hvo.2]
              have hrise : Op.bytesLess (lastOr ByteArray.empty ks).toList key.toList = true := by
                unfold risesB at hr
                unfold lastOr
                cases hg : ks.getLast? with
                | none =>
                  simp only
                  obtain ⟨b, u, hd, _⟩ := nameOk_iff.1 hname
                  have e0 : ByteArray.empty.toList = [] := by rw [Lib.toList_data]; rfl
                  rw [e0]
                  exact bl_empty (by rw [Lib.toList_data, hd]; simp)
                | some z => rw [hg] at hr; exact hr
              simp [hrise]
          · cases h
        · cases h
    · simp at h
      rw [← h.1]
      exact hk
theorem stepM_may {s : ByteArray} {p q : Nat} {st : PStep} (h : stepM s p = .ok (st, q)) (hp : p ≤ s.size) (hs : s.size ≤ 512) (hb : brokenAt s p = none) : mayM st = (true, true) := by
  have hsm := stepM_small h hp hs
  unfold stepM at h
  cases hn : nameM s p with
  | error e => rw [hn] at h; cases h
  | ok x =>
    obtain ⟨nm, q1⟩ := x
    have hq := nameM_ok hn hp
    have hname := nameM_name hn hp
    rw [hn] at h
    simp only at h
    cases hk : keysM s q1 [] with
    | error e => rw [hk] at h; cases h
    | ok y =>
      obtain ⟨ks, r⟩ := y
      rw [hk] at h
      simp at h
      have hvn : brokenAt s q1 = none := by rw [hq.2.2.2.1]; exact nameEndF_valid s _ _ hp hb
      have hko := keysF_may s _ q1 [] ks r hq.2.1 hvn hk rfl
      rw [← h.1] at hsm ⊢
      unfold mayM
      simp only
      rw [if_pos hko, hname]
      have h1 : ¬ nm.size > 64 := by have := hsm.1; simp only at this; omega
      have h2 : longK ks = false := by
        unfold longK
        simp only [List.any_eq_false]
        intro k hk
        have := hsm.2.2 k hk
        simp
        omega
      simp [h1, h2]
theorem stepsF_may (s : ByteArray) (hs : s.size ≤ 512) : ∀ (k p : Nat) (l m : List PStep), p ≤ s.size → brokenAt s p = none → stepsF k s p l = .ok m → (∀ st ∈ l, mayM st = (true, true)) → ∀ st ∈ m, mayM st = (true, true) := by
  intro k
  induction k with
  | zero => intro p l m hp hb h; cases h
  | succ k ih =>
    intro p l m hp hb h hl
    simp only [stepsF] at h
    split at h
    · cases h
    · cases hn : stepM s p with
      | error e => rw [hn] at h; cases h
      | ok x =>
        obtain ⟨st, q⟩ := x
        have hst := stepM_may hn hp hs hb
        obtain ⟨e1, e2, e3, e4⟩ := stepM_back hn hp hb
        rw [hn] at h
        simp only at h
        have hall : ∀ x ∈ l ++ [st], mayM x = (true, true) := by
          intro x hx
          rcases List.mem_append.1 hx with hx | hx
          · exact hl x hx
          · simp at hx; rw [hx]; exact hst
        split at h
        · simp at h
          rw [← h]
          exact hall
        · split at h
          · rename_i hbr
            exact ih (q + 1) _ _ (stands_lt hbr) (stands_valid hbr (by decide) e2).1 h hall
          · cases h
theorem parse_may {s : ByteArray} {l : List PStep} (h : parseM s = .ok l) : ∀ st ∈ l, mayM st = (true, true) := by
  have hs := (parseM_small h).2.2.1
  unfold parseM at h
  split at h
  · cases h
  · split at h
    · cases h
    · rename_i hbr
      split at h
      · simp at h
        subst h
        exact fun st hst => (by cases hst)
      · exact stepsF_may s hs _ 0 [] l (Nat.zero_le _) hbr h (fun st hst => (by cases hst))

/-! ## What may be is read as it was written. -/
theorem dressL_encL_cons (r : Nat) (rs : List Nat) : dressL (encL (r :: rs)) = dressL (enc r) ++ dressL (encL rs) := by
  show dressL (enc r ++ encL rs) = _
  rw [dressL_append]
theorem high_plain {r : Nat} (h : 128 ≤ r) : dressL (enc r) = enc r := dressL_plain _ fun b hb => by
  have := rune_high h b hb
  rw [special_iff]
  rintro (rfl | rfl | rfl | rfl | rfl) <;> simp at this
theorem valF_read {s : ByteArray} {fr : Nat} : ∀ (rs : List Nat) (k q : Nat) (out t : List UInt8), Runes rs → (∀ r ∈ rs, controlR (r : Int) = false) → T s q (dressL (encL rs) ++ (93 :: t)) → s.size ≤ q + k → (out ++ encL rs).length ≤ 64 →
    valF k s fr q false out = .ok (out ++ encL rs, q + (dressL (encL rs)).length + 1)
  | [], k, q, out, t, _, _, hT, hk, h64 => by
    have hT' : T s q (enc 93 ++ t) := by simpa [encL, dressL, enc_low] using hT
    obtain ⟨hlt, hd⟩ := hT'.rune (by unfold scalar; omega)
    cases k with
    | zero => omega
    | succ k =>
      simp only [valF]
      rw [if_pos hlt, hd, if_neg (by simp), if_neg (by simp), if_pos rfl]
      simp [encL, dressL] at h64 ⊢
      omega
  | r :: rs, k, q, out, t, hr, hc, hT, hk, h64 => by
    have hsc := hr r (by simp)
    have hcr := hc r (by simp)
    have e64 : out ++ encL (r :: rs) = (out ++ enc r) ++ encL rs := by simp [encL]
    rw [dressL_encL_cons, List.append_assoc] at hT
    have hrec := fun k' q' (hT' : T s q' (dressL (encL rs) ++ (93 :: t))) (hk' : s.size ≤ q' + k') =>
      valF_read (s := s) (fr := fr) rs k' q' (out ++ enc r) t (fun x hx => hr x (by simp [hx])) (fun x hx => hc x (by simp [hx])) hT' hk' (by rw [← e64]; exact h64)
    by_cases hsp : r < 128 ∧ 0 ≤ specialI (r : Int)
    · have hel := enc_low hsp.1
      have hde : dressL (enc r) = [92, r.toUInt8] := by
        rw [hel]
        have : 0 ≤ specialI ((r.toUInt8).toNat : Int) := by rw [u8n r (by omega)]; exact hsp.2
        show dressB r.toUInt8 ++ [] = _
        rw [show dressB r.toUInt8 = [92, r.toUInt8] from if_pos this]
        rfl
      rw [hde] at hT
      have hT1 : T s q (enc 92 ++ (r.toUInt8 :: (dressL (encL rs) ++ (93 :: t)))) := by simpa [enc_low] using hT
      obtain ⟨hlt, hd⟩ := hT1.rune (by unfold scalar; omega)
      have he92 : (enc 92).length = 1 := by rw [enc_low (by omega)]; rfl
      have hT2 : T s (q + 1) (enc r ++ (dressL (encL rs) ++ (93 :: t))) := by
        have := hT1.app
        rw [he92] at this
        rw [hel]
        simpa using this
      obtain ⟨hlt2, hd2⟩ := hT2.rune hsc
      have her : (enc r).length = 1 := by rw [hel]; rfl
      cases k with
      | zero => omega
      | succ k =>
        cases k with
        | zero => omega
        | succ k =>
          have hT3 := hT2.app
          rw [her] at hT3
          simp only [valF]
          rw [if_pos hlt, hd, if_neg (by simp), if_pos rfl, he92]
          simp only [↓reduceIte]
          rw [if_pos hlt2, hd2]
          simp only []
          rw [if_pos hsp, her, ← hel, hrec k (q + 1 + 1) hT3 (by omega), e64, dressL_encL_cons, hde]
          simp
          omega
    · have hpl : dressL (enc r) = enc r := by
        by_cases hl : r < 128
        · rw [enc_low hl]
          refine dressL_plain _ ?_
          intro b hb
          simp at hb
          rw [hb, u8n r (by omega)]
          exact fun h => hsp ⟨hl, h⟩
        · exact high_plain (by omega)
      rw [hpl] at hT
      obtain ⟨hlt, hd⟩ := hT.rune hsc
      have hnot : r ≠ 92 ∧ r ≠ 93 ∧ ¬ (controlR (r : Int) = true ∨ r = 91 ∨ r = 47 ∨ r = 61) := by
        have hz : ∀ n : Nat, (n = 91 ∨ n = 93 ∨ n = 47 ∨ n = 61 ∨ n = 92) → n < 128 ∧ 0 ≤ specialI (n : Int) := by
          rintro n (rfl | rfl | rfl | rfl | rfl) <;> decide
        refine ⟨fun e => hsp (hz r (by omega)), fun e => hsp (hz r (by omega)), ?_⟩
        rintro (h | h)
        · rw [hcr] at h; cases h
        · exact hsp (hz r (by omega))
      have hep := enc_pos r
      cases k with
      | zero => omega
      | succ k =>
        simp only [valF]
        rw [if_pos hlt, hd, if_neg (by simp), if_neg hnot.1, if_neg hnot.2.1, if_neg hnot.2.2, encode_rune, hrec k _ hT.app (by omega), e64, dressL_encL_cons, hpl]
        simp
        omega
theorem name_read {s : ByteArray} {p : Nat} {nm : ByteArray} {t : List UInt8} (hT : T s p (nm.data.toList ++ t)) (hn : nameOk nm = true) (h64 : nm.size ≤ 64) (hs : Stop t) : nameM s p = .ok (nm, p + nm.size) := by
  obtain ⟨b, u, hd, hb, hall⟩ := nameOk_iff.1 hn
  have he := nameEnd_tail _ t p hT hall hs
  rw [ba_len] at he
  have hT2 : T s p (b :: (u ++ t)) := by rw [hd] at hT; exact hT
  obtain ⟨hl, hh, _⟩ := hT2.cons
  have hne : nameErr s p = none := by
    unfold nameErr
    rw [dif_pos hl, hh, if_pos hb, he, if_neg (by omega)]
  have hx := hT.ext
  rw [ba_len, ← str_self] at hx
  unfold nameM
  rw [hne, he]
  simp only
  rw [hx]
def KeyGood (k : PKey) : Prop := nameOk k.1 = true ∧ k.1.size ≤ 64 ∧ (∃ rs, ValR k.2.data.toList rs) ∧ k.2.size ≤ 64
theorem stands_tail {s : ByteArray} {p : Nat} {b : UInt8} {t : List UInt8} (h : T s p (b :: t)) : standsB s p b = true := by
  obtain ⟨hl, hh, _⟩ := h.cons
  unfold standsB
  rw [dif_pos hl, hh]
  simp
theorem stands_not {s : ByteArray} {p : Nat} {b c : UInt8} {t : List UInt8} (h : t = [] ∨ ∃ u, t = c :: u) (hT : T s p t) (hbc : c ≠ b) : standsB s p b = false := by
  unfold standsB
  rcases h with rfl | ⟨u, rfl⟩
  · have := hT.len
    simp at this
    rw [dif_neg (by omega)]
  · obtain ⟨hl, hh, _⟩ := hT.cons
    rw [dif_pos hl, hh]
    simp [hbc]
theorem keysOk_app : ∀ (a b : List PKey) (ah : ByteArray), keysOk ah (a ++ b) = (keysOk ah a && keysOk (lastOr ah a) b)
  | [], b, ah => by simp [keysOk, lastOr]
  | x :: a, b, ah => by
    have := keysOk_app a b x.1
    simp only [List.cons_append, keysOk, this]
    have e : lastOr x.1 a = lastOr ah (x :: a) := by
      unfold lastOr
      cases a with
      | nil => rfl
      | cons y ys => simp [List.getLast?_cons_cons]; rfl
    rw [e, Bool.and_assoc]
theorem rises_of {ks : List PKey} {k : PKey} (h : keyOk (lastOr ByteArray.empty ks) k = true) : risesB ks k.1 = true := by
  unfold keyOk at h
  simp at h
  unfold risesB
  unfold lastOr at h
  cases hg : ks.getLast? with
  | none => rfl
  | some z => rw [hg] at h; exact h.1.1.2
theorem keys_read {s : ByteArray} {t : List UInt8} (ht : t = [] ∨ ∃ u, t = 47 :: u) : ∀ (ks : List PKey) (k p : Nat) (ks0 : List PKey), T s p (ks.flatMap keyText ++ t) → s.size + 1 ≤ p + k → (∀ x ∈ ks, KeyGood x) → keysOk ByteArray.empty (ks0 ++ ks) = true →
    keysF k s p ks0 = .ok (ks0 ++ ks, p + (ks.flatMap keyText).length)
  | [], k, p, ks0, hT, hk, _, _ => by
    cases k with
    | zero => have := hT.2; omega
    | succ k =>
      have h91 : standsB s p 91 = false := stands_not (c := 47) ht (by simpa using hT) (by decide)
      simp only [keysF]
      rw [h91, if_neg (by simp)]
      simp
  | x :: ks, k, p, ks0, hT, hk, hg, ho => by
    obtain ⟨hx1, hx2, ⟨rs, hv1, hv2, hv3⟩, hx4⟩ := hg x (by simp)
    have hko : keyOk (lastOr ByteArray.empty ks0) x = true := by
      rw [keysOk_app] at ho
      simp only [keysOk, Bool.and_eq_true] at ho
      exact ho.2.1
    cases k with
    | zero => have := hT.2; omega
    | succ k =>
      have hT1 : T s p (91 :: (x.1.data.toList ++ (61 :: (dressL (encL rs) ++ (93 :: (ks.flatMap keyText ++ t)))))) := by
        have e : (x :: ks).flatMap keyText ++ t = 91 :: (x.1.data.toList ++ (61 :: (dressL (encL rs) ++ (93 :: (ks.flatMap keyText ++ t))))) := by
          simp only [List.flatMap_cons, keyText]
          rw [← hv1]
          simp
        rw [← e]
        exact hT
      have h91 := stands_tail hT1
      obtain ⟨_, _, hT2⟩ := hT1.cons
      have hnm := name_read hT2 hx1 hx2 (.inr ⟨61, _, rfl, by decide⟩)
      have hT3 := hT2.app
      rw [ba_len] at hT3
      have h61 := stands_tail hT3
      obtain ⟨_, _, hT4⟩ := hT3.cons
      have h64 : ([] ++ encL rs).length ≤ 64 := by rw [List.nil_append, ← hv1, ba_len]; exact hx4
      have hval := valF_read (s := s) (fr := p + 1 + x.1.size + 1) rs (s.size - (p + 1 + x.1.size + 1)) (p + 1 + x.1.size + 1) [] _ hv2 hv3 hT4 (by have := hT4.2; omega) h64
      rw [List.nil_append, ← hv1] at hval
      have hT5 : T s (p + 1 + x.1.size + 1 + (dressL x.2.data.toList).length + 1) (ks.flatMap keyText ++ t) := by
        have h := hT4.app
        rw [← hv1] at h
        exact h.cons.2.2
      have hrec := keys_read ht ks k _ (ks0 ++ [x]) hT5 (by omega) (fun y hy => hg y (by simp [hy])) (by rw [List.append_assoc]; exact ho)
      simp only [keysF]
      rw [if_pos h91, hnm]
      simp only
      rw [if_pos (rises_of hko), if_pos h61]
      unfold valAt
      rw [hval]
      simp only
      rw [← str_self, show (x.1, x.2) = x from rfl, hrec]
      simp [keyText]
      omega
/-- What may be. -/
theorem may_good {st : PStep} (h : mayM st = (true, true)) : nameOk st.1 = true ∧ st.1.size ≤ 64 ∧ keysOk ByteArray.empty st.2 = true ∧ ∀ k ∈ st.2, KeyGood k := by
  unfold mayM at h
  split at h
  · rename_i hk
    simp at h
    refine ⟨h.1, by omega, hk, ?_⟩
    have hl := h.2.2
    have aux : ∀ (ks : List PKey) (ah : ByteArray), keysOk ah ks = true → longK ks = false → ∀ k ∈ ks, KeyGood k := by
      intro ks
      induction ks with
      | nil => intro ah _ _ k hk; cases hk
      | cons x ks ih =>
        intro ah ho hl k hkm
        simp only [keysOk, Bool.and_eq_true] at ho
        simp only [longK, List.any_cons, Bool.or_eq_false_iff] at hl
        rcases List.mem_cons.1 hkm with rfl | hkm
        · have h1 := ho.1
          unfold keyOk at h1
          simp at h1
          have h2 := hl.1
          simp at h2
          obtain ⟨rs, hr1, hr2, hr3⟩ := right_text h1.1.2
          refine ⟨h1.1.1.1, by omega, ⟨rs, hr2, hr1, ?_⟩, by omega⟩
          rw [h1.2] at hr3
          intro r hr
          have := List.any_eq_false.1 hr3.symm r hr
          simpa using this
        · exact ih x.1 ho.2 hl.2 k hkm
    exact aux st.2 ByteArray.empty hk hl
  · simp at h
theorem step_read {s : ByteArray} {p : Nat} {st : PStep} {t : List UInt8} (ht : t = [] ∨ ∃ u, t = 47 :: u) (hT : T s p (textL st ++ t)) (hm : mayM st = (true, true)) : stepM s p = .ok (st, p + (textL st).length) := by
  obtain ⟨h1, h2, h3, h4⟩ := may_good hm
  have hT1 : T s p (st.1.data.toList ++ (st.2.flatMap keyText ++ t)) := by simpa [textL] using hT
  have hstop : Stop (st.2.flatMap keyText ++ t) := by
    cases hk : st.2 with
    | nil =>
      rcases ht with rfl | ⟨u, rfl⟩
      · exact .inl rfl
      · exact .inr ⟨47, u, rfl, by decide⟩
    | cons x xs => exact .inr ⟨91, _, by simp [keyText]; rfl, by decide⟩
  have hnm := name_read hT1 h1 h2 hstop
  have hT2 := hT1.app
  rw [ba_len] at hT2
  have hks := keys_read ht st.2 (s.size + 1 - (p + st.1.size)) (p + st.1.size) [] hT2 (by have := hT2.2; omega) h4 h3
  unfold stepM keysM
  rw [hnm]
  simp only
  rw [hks]
  simp only [List.nil_append]
  congr 2
  simp [textL]
  omega
theorem steps_read {s : ByteArray} : ∀ (rest : List PStep) (k p : Nat) (l : List PStep), rest ≠ [] → T s p (Lib.join (rest.map textL) [47]) → (∀ st ∈ rest, mayM st = (true, true)) → l.length + rest.length ≤ 64 → 65 ≤ k + l.length →
    stepsF k s p l = .ok (l ++ rest)
  | [], _, _, _, h, _, _, _, _ => absurd rfl h
  | [st], k, p, l, _, hT, hm, hl, hk => by
    rw [List.map_cons, List.map_nil, Lib.join_one] at hT
    have hst := step_read (t := []) (.inl rfl) (by simpa using hT) (hm st (by simp))
    have hlen := hT.len
    cases k with
    | zero => simp at hl; omega
    | succ k =>
      simp only [stepsF]
      rw [if_neg (by simp at hl; omega), hst]
      simp only
      rw [if_pos hlen]
  | st :: y :: rest, k, p, l, _, hT, hm, hl, hk => by
    have hj : Lib.join ((st :: y :: rest).map textL) [47] = textL st ++ (47 :: Lib.join ((y :: rest).map textL) [47]) := by
      rw [List.map_cons, Lib.join_cons, List.map_cons, Lib.join_cons]
      simp [Lib.joinTail]
    rw [hj] at hT
    have hst := step_read (.inr ⟨_, rfl⟩) hT (hm st (by simp))
    have hT2 := hT.app
    have h47 := stands_tail hT2
    obtain ⟨hl2, _, hT3⟩ := hT2.cons
    cases k with
    | zero => simp at hl; omega
    | succ k =>
      have hrec := steps_read (y :: rest) k _ (l ++ [st]) (by simp) hT3 (fun x hx => hm x (by simp at hx ⊢; exact .inr hx)) (by simp at hl ⊢; omega) (by simp; omega)
      simp only [stepsF]
      rw [if_neg (by simp at hl; omega), hst]
      simp only
      rw [if_neg (by omega), if_pos h47, hrec]
      simp
end Go.Proofs.Ytfpepdjffehbcaa
/-
  Printed and parsed again, parsed and printed again; no program in sight. Plain Lean; no condition.
-/
namespace Go.Proofs.Ytfpepdjffehbcaa
open Go.RowKit

def RText (t : List UInt8) : Prop := ∃ rs, Runes rs ∧ t = encL rs
theorem RText.nil : RText [] := ⟨[], fun r hr => (by cases hr), rfl⟩
theorem RText.app {a b : List UInt8} (ha : RText a) (hb : RText b) : RText (a ++ b) := by
  obtain ⟨r, h1, rfl⟩ := ha
  obtain ⟨q, h2, rfl⟩ := hb
  refine ⟨r ++ q, ?_, by rw [encL_append]⟩
  intro x hx
  rcases List.mem_append.1 hx with hx | hx
  · exact h1 x hx
  · exact h2 x hx
theorem RText.byte {b : UInt8} (h : b.toNat < 128) : RText [b] := by
  refine ⟨[b.toNat], ?_, ?_⟩
  · intro x hx
    simp at hx
    exact .inl (by omega)
  · show [b] = enc b.toNat ++ []
    rw [enc_low h]
    simp
theorem RText.ascii : ∀ (l : List UInt8), (∀ b ∈ l, b.toNat < 128) → RText l
  | [], _ => RText.nil
  | b :: l, h => (RText.byte (h b (by simp))).app (RText.ascii l fun x hx => h x (by simp [hx]))
theorem dress_rtext : ∀ (rs : List Nat), Runes rs → RText (dressL (encL rs))
  | [], _ => RText.nil
  | r :: rs, h => by
    rw [dressL_encL_cons]
    refine RText.app ?_ (dress_rtext rs fun x hx => h x (by simp [hx]))
    by_cases hl : r < 128
    · rw [enc_low hl]
      refine RText.ascii _ ?_
      intro b hb
      simp only [dressL, List.flatMap_cons, List.flatMap_nil, List.append_nil] at hb
      unfold dressB at hb
      split at hb
      · simp at hb
        rcases hb with rfl | rfl
        · decide
        · rw [u8n r (by omega)]; exact hl
      · simp at hb
        rw [hb, u8n r (by omega)]
        exact hl
    · rw [high_plain (by omega)]
      exact ⟨[r], by intro x hx; simp at hx; rw [hx]; exact h r (by simp), by simp [encL]⟩
theorem name_rtext {nm : ByteArray} (h : nameOk nm = true) : RText nm.data.toList := by
  obtain ⟨b, u, hd, hb, hall⟩ := nameOk_iff.1 h
  exact RText.ascii _ fun x hx => nameB_low (hall x hx)
theorem keys_rtext : ∀ (ks : List PKey), (∀ k ∈ ks, KeyGood k) → RText (ks.flatMap keyText)
  | [], _ => RText.nil
  | k :: ks, h => by
    obtain ⟨h1, h2, ⟨rs, hv1, hv2, hv3⟩, h4⟩ := h k (by simp)
    simp only [List.flatMap_cons]
    refine RText.app ?_ (keys_rtext ks fun x hx => h x (by simp [hx]))
    unfold keyText
    rw [hv1]
    exact ((((RText.byte (by decide)).app (name_rtext h1)).app (RText.byte (by decide))).app (dress_rtext rs hv2)).app (RText.byte (by decide))
theorem text_rtext {st : PStep} (h : mayM st = (true, true)) : RText (textL st) := by
  obtain ⟨h1, h2, h3, h4⟩ := may_good h
  exact (name_rtext h1).app (keys_rtext st.2 h4)
theorem join_rtext : ∀ (l : List PStep), (∀ st ∈ l, mayM st = (true, true)) → RText (Lib.join (l.map textL) [47])
  | [], _ => RText.nil
  | [st], h => by
    rw [List.map_cons, List.map_nil, Lib.join_one]
    exact text_rtext (h st (by simp))
  | st :: y :: rest, h => by
    have hj : Lib.join ((st :: y :: rest).map textL) [47] = textL st ++ ([47] ++ Lib.join ((y :: rest).map textL) [47]) := by
      rw [List.map_cons, Lib.join_cons, List.map_cons, Lib.join_cons]
      simp [Lib.joinTail]
    rw [hj]
    exact (text_rtext (h st (by simp))).app ((RText.byte (by decide)).app (join_rtext (y :: rest) fun x hx => h x (by simp at hx ⊢; exact .inr hx)))
theorem rtext_right {t : List UInt8} (h : RText t) : broken (str t) = none := by
  obtain ⟨rs, h1, rfl⟩ := h
  exact (runes_right rs 0 h1 (T_zero _)).1
/-- What may be, and is short, is read again. -/
theorem read_back {l : List PStep} (hm : ∀ st ∈ l, mayM st = (true, true)) (h64 : l.length ≤ 64) (h512 : (Lib.join (l.map textL) [47]).length ≤ 512) : parseM (str (Lib.join (l.map textL) [47])) = .ok l := by
  have hsz : (str (Lib.join (l.map textL) [47])).size = (Lib.join (l.map textL) [47]).length := by show (Lib.join (l.map textL) [47]).toArray.size = _; simp
  have hbr := rtext_right (join_rtext l hm)
  unfold parseM
  rw [if_neg (by omega), hbr]
  simp only
  cases l with
  | nil => rfl
  | cons st rest =>
    have hpos : 0 < (Lib.join ((st :: rest).map textL) [47]).length := by
      obtain ⟨b, u, hd, _⟩ := nameOk_iff.1 (may_good (hm st (by simp))).1
      rw [List.map_cons, Lib.join_cons]
      simp [textL, hd]
    rw [if_neg (by omega)]
    unfold stepsM
    exact steps_read (st :: rest) _ 0 [] (by simp) (T_zero _) hm (by simpa using h64) (by simp)
/-- What put gives. -/
theorem putF_mono : ∀ (l : List PStep) (sh : Bool) (sz : Nat) (ts : List (List UInt8)) (sh' : Bool) (sz' : Nat) (ts' : List (List UInt8)), putF l sh sz ts = .ok (sh', sz', ts') → sz ≤ sz'
  | [], sh, sz, ts, sh', sz', ts', h => by simp [putF] at h; omega
  | st :: l, sh, sz, ts, sh', sz', ts', h => by
    simp only [putF] at h
    split at h
    · have := putF_mono l _ _ _ _ _ _ h
      split at this <;> omega
    · cases h
theorem putF_inv : ∀ (l : List PStep) (sh : Bool) (sz : Nat) (ts : List (List UInt8)) (sz' : Nat) (ts' : List (List UInt8)), putF l sh sz ts = .ok (true, sz', ts') → sz' ≤ 513 → sh = true ∧ (∀ st ∈ l, mayM st = (true, true)) ∧ sz' = sz + sumT (l.map textL) ∧ ts' = ts ++ l.map textL
  | [], sh, sz, ts, sz', ts', h, hz => by
    simp [putF] at h
    exact ⟨h.1, fun st hst => (by cases hst), by simp [sumT, h.2.1], by simp [h.2.2]⟩
  | st :: l, sh, sz, ts, sz', ts', h, hz => by
    simp only [putF] at h
    split at h
    · rename_i hok
      have hm := putF_mono l _ _ _ _ _ _ h
      by_cases h5 : sz ≤ 513
      · rw [if_pos h5] at h hm
        rw [if_pos h5] at h
        obtain ⟨i1, i2, i3, i4⟩ := putF_inv l _ _ _ _ _ h hz
        simp at i1
        refine ⟨i1.1, ?_, ?_, ?_⟩
        · intro x hx
          rcases List.mem_cons.1 hx with rfl | hx
          · exact Prod.ext hok i1.2
          · exact i2 x hx
        · rw [i3]; simp [sumT]; omega
        · rw [i4]; simp
      · rw [if_neg h5] at hm
        omega
    · cases h
theorem sumT_join {ts : List (List UInt8)} (h : ts ≠ []) : sumT ts = (Lib.join ts [47]).length + 1 := by
  cases ts with
  | nil => exact absurd rfl h
  | cons x r =>
    rw [Lib.join_cons, List.length_append, joinTail_len]
    simp [sumT]
    omega
theorem putF_go : ∀ (l : List PStep) (sz : Nat) (ts : List (List UInt8)), (∀ st ∈ l, mayM st = (true, true)) → sz + sumT (l.map textL) ≤ 513 → putF l true sz ts = .ok (true, sz + sumT (l.map textL), ts ++ l.map textL)
  | [], sz, ts, _, _ => by simp [putF, sumT]
  | st :: l, sz, ts, hm, hz => by
    have h1 := hm st (by simp)
    have hz2 : sz + ((textL st).length + 1) + sumT (l.map textL) ≤ 513 := by simp [sumT] at hz ⊢; omega
    have := putF_go l (sz + ((textL st).length + 1)) (ts ++ [textL st]) (fun x hx => hm x (by simp [hx])) hz2
    simp only [putF]
    rw [h1]
    simp only [Bool.and_self, if_true]
    rw [if_pos (by omega), if_pos (by omega), this]
    simp [sumT]
    omega
theorem putM_inv {l : List PStep} {t : List UInt8} (h : putM l = .ok t) : (∀ st ∈ l, mayM st = (true, true)) ∧ l.length ≤ 64 ∧ t = Lib.join (l.map textL) [47] ∧ sumT (l.map textL) ≤ 513 := by
  unfold putM at h
  cases hp : putF l (decide (l.length ≤ 64)) 0 [] with
  | error e => rw [hp] at h; cases h
  | ok x =>
    obtain ⟨sh, sz, ts⟩ := x
    rw [hp] at h
    simp only at h
    split at h
    · rename_i hc
      obtain ⟨rfl, hz⟩ := hc
      obtain ⟨i1, i2, i3, i4⟩ := putF_inv l _ _ _ _ _ hp hz
      simp at h i1 i3 i4
      exact ⟨i2, i1, by rw [← h, i4], by omega⟩
    · cases h
theorem putM_go {l : List PStep} (hm : ∀ st ∈ l, mayM st = (true, true)) (h64 : l.length ≤ 64) (hz : sumT (l.map textL) ≤ 513) : putM l = .ok (Lib.join (l.map textL) [47]) := by
  unfold putM
  rw [show decide (l.length ≤ 64) = true by simp [h64], putF_go l 0 [] hm (by omega)]
  simp only
  rw [if_pos ⟨trivial, by omega⟩, List.nil_append]
theorem print_parse {l : List PStep} {t : List UInt8} (h : putM l = .ok t) : parseM (str t) = .ok l := by
  obtain ⟨h1, h2, rfl, h4⟩ := putM_inv h
  refine read_back h1 h2 ?_
  by_cases hl : l = []
  · subst hl; decide
  · have := sumT_join (ts := l.map textL) (by simpa using hl)
    omega
theorem parse_sum {s : ByteArray} {l : List PStep} (h : parseM s = .ok l) : sumT (l.map textL) ≤ 513 := by
  have ht := parse_text h
  have hs := (parseM_small h).2.2.1
  by_cases hl : l = []
  · subst hl; decide
  · have := sumT_join (ts := l.map textL) (by simpa using hl)
    rw [ht, ba_len] at this
    omega
theorem parse_print {s : ByteArray} {l : List PStep} (h : parseM s = .ok l) : putM l = .ok s.data.toList := by
  rw [putM_go (parse_may h) (parseM_small h).2.1 (parse_sum h), parse_text h]
theorem sumT_app (a b : List (List UInt8)) : sumT (a ++ b) = sumT a + sumT b := by simp [sumT]
/-- A part of a path's steps is printed, and read again. -/
theorem part_print {s : ByteArray} {l m n : List PStep} (h : parseM s = .ok l) (hp : l = m ++ n) : ∃ t, putM m = .ok t ∧ parseM (str t) = .ok m := by
  have h1 := parse_may h
  have h2 := parse_sum h
  have h3 := (parseM_small h).2.1
  rw [hp, List.map_append, sumT_app] at h2
  rw [hp, List.length_append] at h3
  have h4 := putM_go (l := m) (fun st hst => h1 st (by rw [hp]; simp [hst])) (by omega) (by omega)
  exact ⟨_, h4, print_parse h4⟩
theorem part_print2 {s : ByteArray} {l m n : List PStep} (h : parseM s = .ok l) (hp : l = m ++ n) : ∃ t, putM n = .ok t ∧ parseM (str t) = .ok n := by
  have h1 := parse_may h
  have h2 := parse_sum h
  have h3 := (parseM_small h).2.1
  rw [hp, List.map_append, sumT_app] at h2
  rw [hp, List.length_append] at h3
  have h4 := putM_go (l := n) (fun st hst => h1 st (by rw [hp]; simp [hst])) (by omega) (by omega)
  exact ⟨_, h4, print_parse h4⟩
end Go.Proofs.Ytfpepdjffehbcaa
