/-
  A right text is a row of runes' forms; no program in sight. Plain Lean; no condition.
-/
import Derived.Test.YtjebaibcfmjinaaPathBack
namespace Go.Proofs.Ytjebaibcfmjinaa
open Go.RowKit

def scalar (r : Nat) : Prop := r < 55296 ∨ (57343 < r ∧ r ≤ 1114111)
abbrev enc (r : Nat) : List UInt8 := Lib.encodeRune (r : Int)
theorem u8n (n : Nat) (h : n < 256) : (n.toUInt8).toNat = n := by simp; omega
theorem dec_enc {r : Nat} (h : scalar r) (t : List UInt8) : Lib.decodeL (enc r ++ t) = (r, (enc r).length) := by
  unfold scalar at h
  rw [Lib.decodeL_N]
  unfold enc Lib.encodeRune
  by_cases h1 : r ≤ 127
  · rw [Lib.encodeRuneZ_one (by omega) (by omega)]
    have e : ((r : Int).toNat.toUInt8).toNat = r := by rw [Int.toNat_natCast]; exact u8n r (by omega)
    simp only [List.map_cons, List.map_nil, List.cons_append, List.nil_append, List.getD_cons_zero, e, List.length_cons, List.length_nil]
    unfold Lib.decodeN
    rw [if_pos (by omega)]
  · by_cases h2 : r ≤ 2047
    · rw [Lib.encodeRuneZ_two (by omega) (by omega)]
      have e1 : (((192 : Int) + (r : Int) / 64).toNat.toUInt8).toNat = 192 + r / 64 := by rw [show ((192 : Int) + (r : Int) / 64).toNat = 192 + r / 64 by omega]; exact u8n _ (by omega)
      have e2 : (((128 : Int) + (r : Int) % 64).toNat.toUInt8).toNat = 128 + r % 64 := by rw [show ((128 : Int) + (r : Int) % 64).toNat = 128 + r % 64 by omega]; exact u8n _ (by omega)
      simp only [List.map_cons, List.map_nil, List.cons_append, List.nil_append, List.getD_cons_zero, List.getD_cons_succ, e1, e2, List.length_cons, List.length_nil]
      unfold Lib.decodeN
      rw [if_neg (by omega), if_pos (by omega), if_pos (by omega)]
      exact Prod.ext (by simp only; omega) rfl
    · by_cases h3 : r < 55296 ∨ (57343 < r ∧ r ≤ 65535)
      · rw [Lib.encodeRuneZ_three (by omega)]
        have e1 : (((224 : Int) + (r : Int) / 4096).toNat.toUInt8).toNat = 224 + r / 4096 := by rw [show ((224 : Int) + (r : Int) / 4096).toNat = 224 + r / 4096 by omega]; exact u8n _ (by omega)
        have e2 : (((128 : Int) + (r : Int) / 64 % 64).toNat.toUInt8).toNat = 128 + r / 64 % 64 := by rw [show ((128 : Int) + (r : Int) / 64 % 64).toNat = 128 + r / 64 % 64 by omega]; exact u8n _ (by omega)
        have e3 : (((128 : Int) + (r : Int) % 64).toNat.toUInt8).toNat = 128 + r % 64 := by rw [show ((128 : Int) + (r : Int) % 64).toNat = 128 + r % 64 by omega]; exact u8n _ (by omega)
        simp only [List.map_cons, List.map_nil, List.cons_append, List.nil_append, List.getD_cons_zero, List.getD_cons_succ, e1, e2, e3, List.length_cons, List.length_nil]
        have er : (224 + r / 4096) % 16 * 4096 + (128 + r / 64 % 64) % 64 * 64 + (128 + r % 64) % 64 = r := by omega
        unfold Lib.decodeN
        rw [if_neg (by omega), if_neg (by omega), if_pos (by omega), er, if_pos (by omega)]
      · rw [Lib.encodeRuneZ_four (by omega) (by omega)]
        have e1 : (((240 : Int) + (r : Int) / 262144).toNat.toUInt8).toNat = 240 + r / 262144 := by rw [show ((240 : Int) + (r : Int) / 262144).toNat = 240 + r / 262144 by omega]; exact u8n _ (by omega)
        have e2 : (((128 : Int) + (r : Int) / 4096 % 64).toNat.toUInt8).toNat = 128 + r / 4096 % 64 := by rw [show ((128 : Int) + (r : Int) / 4096 % 64).toNat = 128 + r / 4096 % 64 by omega]; exact u8n _ (by omega)
        have e3 : (((128 : Int) + (r : Int) / 64 % 64).toNat.toUInt8).toNat = 128 + r / 64 % 64 := by rw [show ((128 : Int) + (r : Int) / 64 % 64).toNat = 128 + r / 64 % 64 by omega]; exact u8n _ (by omega)
        have e4 : (((128 : Int) + (r : Int) % 64).toNat.toUInt8).toNat = 128 + r % 64 := by rw [show ((128 : Int) + (r : Int) % 64).toNat = 128 + r % 64 by omega]; exact u8n _ (by omega)
        simp only [List.map_cons, List.map_nil, List.cons_append, List.nil_append, List.getD_cons_zero, List.getD_cons_succ, e1, e2, e3, e4, List.length_cons, List.length_nil]
        have er : (240 + r / 262144) % 8 * 262144 + (128 + r / 4096 % 64) % 64 * 4096 + (128 + r / 64 % 64) % 64 * 64 + (128 + r % 64) % 64 = r := by omega
        unfold Lib.decodeN
        rw [if_neg (by omega), if_neg (by omega), if_neg (by omega), if_pos (by omega), er, if_pos (by omega)]
theorem enc_pos (r : Nat) : 1 ≤ (enc r).length := by
  have := (Lib.encodeRuneZ_length (r : Int)).1
  simpa [enc, Lib.encodeRune] using this
theorem decode_scalar {s : ByteArray} {p : Nat} (hd : Utf8.decode s p ≠ (65533, 1)) : scalar (Utf8.decode s p).1 := by
  unfold scalar
  rw [Lib.decode_N] at hd ⊢
  rcases Lib.decodeN_shape (s.data.toList.length - p) (s.data.toList.getD p 0).toNat (s.data.toList.getD (p + 1) 0).toNat (s.data.toList.getD (p + 2) 0).toNat (s.data.toList.getD (p + 3) 0).toNat with h | h | h | h | h
  · rw [h.2]; simp only; omega
  · rw [h.2.2.2.2]
    have := (s.data.toList.getD p 0).toNat_lt
    simp only; omega
  · rw [h.2.2.2.2.2.2]
    simp only; omega
  · rw [h.2.2.2.2.2.2.2]
    simp only; omega
  · exact absurd h hd
theorem str_self (b : ByteArray) : b = str b.data.toList := by
  obtain ⟨⟨x⟩⟩ := b
  rfl
/-- The tail of a string. -/
def T (s : ByteArray) (p : Nat) (t : List UInt8) : Prop := s.data.toList.drop p = t ∧ p ≤ s.size
section
variable {s : ByteArray} {p : Nat} {t : List UInt8}
theorem T.len (h : T s p t) : p + t.length = s.size := by
  have := congrArg List.length h.1
  rw [List.length_drop, ba_len] at this
  have := h.2
  omega
theorem T.cons {b : UInt8} (h : T s p (b :: t)) : ∃ hl : p < s.size, s[p] = b ∧ T s (p + 1) t := by
  have hlen := h.len
  simp at hlen
  have hl : p < s.size := by omega
  have hl2 : p < s.data.toList.length := by rw [ba_len]; exact hl
  have h1 := h.1
  rw [List.drop_eq_getElem_cons hl2] at h1
  injection h1 with h2 h3
  exact ⟨hl, h2, h3, by omega⟩
theorem T.app {a : List UInt8} (h : T s p (a ++ t)) : T s (p + a.length) t := by
  refine ⟨?_, by have := h.len; simp at this; omega⟩
  rw [← List.drop_drop, h.1, List.drop_left]
theorem T.ext {a : List UInt8} (h : T s p (a ++ t)) : s.extract p (p + a.length) = str a := by
  have e := extract_seg (s := s) p (p + a.length)
  unfold seg at e
  rw [h.1, show p + a.length - p = a.length by omega, List.take_left] at e
  rw [str_self (s.extract p (p + a.length)), e]
theorem T.rune {r : Nat} (h : T s p (enc r ++ t)) (hr : scalar r) : p < s.size ∧ Utf8.decode s p = (r, (enc r).length) := by
  have hlen := h.len
  have := enc_pos r
  simp at hlen
  refine ⟨by omega, ?_⟩
  rw [← Lib.decodeL_drop, h.1]
  exact dec_enc hr t
end
theorem T_zero (l : List UInt8) : T (str l) 0 l := ⟨by simp [str], Nat.zero_le _⟩
def Runes (rs : List Nat) : Prop := ∀ r ∈ rs, scalar r
def encL (rs : List Nat) : List UInt8 := rs.flatMap enc
/-- Runes' forms are right. -/
theorem runes_right {s : ByteArray} : ∀ (rs : List Nat) (p : Nat), Runes rs → T s p (encL rs) → brokenAt s p = none ∧ ctrlAt s p = rs.any fun r => controlR (r : Int)
  | [], p, _, h => by
    have hl := h.len
    simp [encL] at hl
    exact ⟨brokenAt_end (by omega), ctrl_end (by omega)⟩
  | r :: rs, p, hr, h => by
    have h' : T s p (enc r ++ encL rs) := by simpa [encL] using h
    obtain ⟨hlt, hd⟩ := h'.rune (hr r (by simp))
    obtain ⟨i1, i2⟩ := runes_right rs (p + (enc r).length) (fun x hx => hr x (by simp [hx])) h'.app
    have hne : ¬ Utf8.decode s p = (65533, 1) := by
      rw [hd]
      intro e
      injection e with e1 e2
      rw [e1] at e2
      revert e2
      decide
    constructor
    · rw [brokenAt_step hlt, if_neg hne, hd]
      exact i1
    · rw [ctrl_step hlt, hd]
      simp only [List.any_cons]
      cases hc : controlR (r : Int)
      · simp [i2]
      · simp
/-- A right text falls into runes. -/
theorem right_runes {s : ByteArray} : ∀ (n p : Nat), s.size ≤ p + n → p ≤ s.size → brokenAt s p = none → ∃ rs, Runes rs ∧ T s p (encL rs) := by
  intro n
  induction n with
  | zero =>
    intro p h1 h2 _
    refine ⟨[], fun r hr => (by cases hr), ?_, h2⟩
    rw [List.drop_of_length_le (by rw [ba_len]; omega)]
    rfl
  | succ n ih =>
    intro p h1 h2 hb
    by_cases hlt : p < s.size
    · obtain ⟨hne, hb2⟩ := brokenAt_go hlt hb
      have hd1 := decode_pos s p
      have hd2 := decode_in hlt
      obtain ⟨rs, hrs, ht⟩ := ih (p + (Utf8.decode s p).2) (by omega) hd2 hb2
      refine ⟨(Utf8.decode s p).1 :: rs, ?_, ?_, h2⟩
      · intro r hr
        rcases List.mem_cons.1 hr with rfl | hr
        · exact decode_scalar hne
        · exact hrs r hr
      · have e := enc_seg hlt hne
        rw [encode_rune] at e
        have e' : enc (Utf8.decode s p).1 = _ := e
        show _ = enc _ ++ encL rs
        rw [← ht.1, e']
        unfold seg
        rw [show p + (Utf8.decode s p).2 - p = (Utf8.decode s p).2 by omega, ← List.drop_drop, List.take_append_drop]
    · refine ⟨[], fun r hr => (by cases hr), ?_, h2⟩
      rw [List.drop_of_length_le (by rw [ba_len]; omega)]
      rfl
theorem right_text {s : ByteArray} (h : broken s = none) : ∃ rs, Runes rs ∧ s.data.toList = encL rs ∧ ctrlAt s 0 = rs.any fun r => controlR (r : Int) := by
  obtain ⟨rs, h1, h2⟩ := right_runes s.size 0 (by omega) (Nat.zero_le _) h
  exact ⟨rs, h1, by have := h2.1; rw [List.drop_zero] at this; exact this, (runes_right rs 0 h1 h2).2⟩
end Go.Proofs.Ytjebaibcfmjinaa
