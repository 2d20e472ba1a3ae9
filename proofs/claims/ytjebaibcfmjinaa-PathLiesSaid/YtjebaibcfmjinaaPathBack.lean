/-
  A text that parses is the text of its steps; no program in sight. Plain Lean; no condition.
-/
import Derived.Test.YtjebaibcfmjinaaPathSmall
import Derived.Test.YtjebaibcfmjinaaPathPut
import Derived.Lib.MapLaws
namespace Go.Proofs.Ytjebaibcfmjinaa
open Go.RowKit

/-- The bytes from a to b. -/
def seg (s : ByteArray) (a b : Nat) : List UInt8 := (s.data.toList.drop a).take (b - a)
section
variable {s : ByteArray}
theorem seg_append {a b c : Nat} (h1 : a ≤ b) (h2 : b ≤ c) : seg s a b ++ seg s b c = seg s a c := by
  unfold seg
  rw [show c - a = (b - a) + (c - b) by omega, List.take_add, List.drop_drop, show a + (b - a) = b by omega]
theorem seg_self (a : Nat) : seg s a a = [] := by simp [seg]
theorem seg_one {p : Nat} (h : p < s.size) : seg s p (p + 1) = [s[p]] := by
  have hl : p < s.data.toList.length := by rw [ba_len]; exact h
  unfold seg
  rw [List.drop_eq_getElem_cons hl, show p + 1 - p = 1 by omega]
  rfl
theorem seg_all : seg s 0 s.size = s.data.toList := by
  unfold seg
  rw [List.drop_zero, Nat.sub_zero, List.take_of_length_le (by rw [ba_len]; omega)]
theorem extract_seg (p q : Nat) : (s.extract p q).data.toList = seg s p q := by
  rw [ByteArray.data_extract, Array.toList_extract]
  simp [seg, List.extract_eq_take_drop]
theorem brokenAt_go {p : Nat} (h : p < s.size) (hb : brokenAt s p = none) : Utf8.decode s p ≠ (65533, 1) ∧ brokenAt s (p + (Utf8.decode s p).2) = none := by
  rw [brokenAt_step h] at hb
  split at hb
  · cases hb
  · rename_i hne
    exact ⟨hne, hb⟩
theorem brokenAt_ascii {p : Nat} (h : p < s.size) (hb : brokenAt s p = none) (ha : s[p].toNat < 128) : brokenAt s (p + 1) = none := by
  have := (brokenAt_go h hb).2
  rw [decode_ascii s p h ha] at this
  exact this
theorem decode_low {p r n : Nat} (h : p < s.size) (hd : Utf8.decode s p = (r, n)) (hr : r < 128) : s[p].toNat = r ∧ n = 1 := by
  by_cases ha : s[p].toNat < 128
  · rw [decode_ascii s p h ha] at hd
    simp at hd
    omega
  · have := (decode_high s p h (by omega)).1
    rw [hd] at this
    simp only at this
    omega
end
theorem ofNat_toNat (n : Nat) : n.toUInt8 = UInt8.ofNat n := rfl
theorem encode_rune (r : Nat) : (Utf8.encode (r : Int)).data.toList = Lib.encodeRune (r : Int) := by
  unfold Lib.encodeRune
  by_cases h1 : r ≤ 127
  · rw [Lib.encodeRuneZ_one (by omega) (by omega)]
    have hv : Utf8.valid (r : Int) = true := by simp [Utf8.valid]; omega
    simp [Utf8.encode, hv, show r < 128 by omega]
  · by_cases h2 : r ≤ 2047
    · rw [Lib.encodeRuneZ_two (by omega) (by omega)]
      have hv : Utf8.valid (r : Int) = true := by simp [Utf8.valid]; omega
      have e1 : ((192 : Int) + (r : Int) / 64).toNat = 192 + r / 64 := by omega
      have e2 : ((128 : Int) + (r : Int) % 64).toNat = 128 + r % 64 := by omega
      simp only [Utf8.encode, hv, if_true, Int.toNat_natCast, List.map_cons, List.map_nil, e1, e2]
      rw [if_neg (by omega), if_pos (by omega)]
    · by_cases h3 : r < 55296 ∨ (57343 < r ∧ r ≤ 65535)
      · rw [Lib.encodeRuneZ_three (by omega)]
        have hv : Utf8.valid (r : Int) = true := by simp [Utf8.valid]; omega
        have e1 : ((224 : Int) + (r : Int) / 4096).toNat = 224 + r / 4096 := by omega
        have e2 : ((128 : Int) + (r : Int) / 64 % 64).toNat = 128 + r / 64 % 64 := by omega
        have e3 : ((128 : Int) + (r : Int) % 64).toNat = 128 + r % 64 := by omega
        simp only [Utf8.encode, hv, if_true, Int.toNat_natCast, List.map_cons, List.map_nil, e1, e2, e3]
        rw [if_neg (by omega), if_neg (by omega), if_pos (by omega)]
      · by_cases h4 : 65536 ≤ r ∧ r ≤ 1114111
        · rw [Lib.encodeRuneZ_four (by omega) (by omega)]
          have hv : Utf8.valid (r : Int) = true := by simp [Utf8.valid]; omega
          have e1 : ((240 : Int) + (r : Int) / 262144).toNat = 240 + r / 262144 := by omega
          have e2 : ((128 : Int) + (r : Int) / 4096 % 64).toNat = 128 + r / 4096 % 64 := by omega
          have e3 : ((128 : Int) + (r : Int) / 64 % 64).toNat = 128 + r / 64 % 64 := by omega
          have e4 : ((128 : Int) + (r : Int) % 64).toNat = 128 + r % 64 := by omega
          simp only [Utf8.encode, hv, if_true, Int.toNat_natCast, List.map_cons, List.map_nil, e1, e2, e3, e4]
          rw [if_neg (by omega), if_neg (by omega), if_neg (by omega)]
        · rw [Lib.encodeRuneZ_bad (by omega)]
          have hv : Utf8.valid (r : Int) = false := by simp [Utf8.valid]; omega
          simp [Utf8.encode, hv, Utf8.runeError]
theorem enc_seg {s : ByteArray} {p : Nat} (h : p < s.size) (hd : Utf8.decode s p ≠ (65533, 1)) : (Utf8.encode ((Utf8.decode s p).1 : Int)).data.toList = seg s p (p + (Utf8.decode s p).2) := by
  rw [encode_rune, ← Lib.decodeL_drop]
  rw [Lib.encode_decode _ (fun e => by have := congrArg List.length e; rw [List.length_drop, ba_len] at this; simp at this; omega) (fun e => hd (by rw [← Lib.decodeL_drop]; exact Prod.ext e.1 e.2))]
  unfold seg
  rw [show p + (Lib.decodeL (s.data.toList.drop p)).2 - p = (Lib.decodeL (s.data.toList.drop p)).2 by omega]
theorem special_iff (b : UInt8) : (0 ≤ specialI (b.toNat : Int)) ↔ (b = 91 ∨ b = 93 ∨ b = 47 ∨ b = 61 ∨ b = 92) := by
  have h : ∀ n : Fin 256, (0 ≤ specialI ((UInt8.ofNat n.val).toNat : Int)) ↔ ((UInt8.ofNat n.val) = 91 ∨ (UInt8.ofNat n.val) = 93 ∨ (UInt8.ofNat n.val) = 47 ∨ (UInt8.ofNat n.val) = 61 ∨ (UInt8.ofNat n.val) = 92) := by decide +kernel
  have := h ⟨b.toNat, b.toNat_lt⟩
  simpa using this
theorem dressL_append (a b : List UInt8) : dressL (a ++ b) = dressL a ++ dressL b := by simp [dressL]
theorem dressB_plain {b : UInt8} (h : ¬ (0 ≤ specialI (b.toNat : Int))) : dressB b = [b] := by unfold dressB; rw [if_neg h]
theorem dressL_plain : ∀ (l : List UInt8), (∀ b ∈ l, ¬ (0 ≤ specialI (b.toNat : Int))) → dressL l = l
  | [], _ => rfl
  | b :: l, h => by
    have h1 := dressB_plain (h b (by simp))
    have h2 := dressL_plain l fun x hx => h x (by simp [hx])
    simp only [dressL, List.flatMap_cons] at h2 ⊢
    rw [h1, h2]
    rfl
theorem rune_high {r : Nat} (h : 128 ≤ r) : ∀ b ∈ Lib.encodeRune (r : Int), 128 ≤ b.toNat := by
  intro b hb
  obtain ⟨x, hx, rfl⟩ := List.mem_map.1 hb
  have hx2 := Lib.encodeRuneZ_byte (r : Int) x hx
  have : 128 ≤ x := by
    unfold Lib.encodeRuneZ at hx
    repeat' split at hx
    all_goals (simp at hx; omega)
  have e : x.toNat.toUInt8.toNat = x.toNat := by simp; omega
  omega
def tailE (esc : Bool) : List UInt8 := if esc = true then [92] else []
theorem valF_back (s : ByteArray) (fr : Nat) : ∀ (k q : Nat) (esc : Bool) (out l : List UInt8) (r : Nat), valF k s fr q esc out = .ok (l, r) → brokenAt s q = none → fr ≤ q → q ≤ s.size → dressL out ++ tailE esc = seg s fr q →
    seg s fr r = dressL l ++ [93] ∧ brokenAt s r = none ∧ q < r ∧ r ≤ s.size := by
  intro k
  induction k with
  | zero => intro q esc out l r h; cases h
  | succ k ih =>
    intro q esc out l r h hb h1 h2 hi
    simp only [valF] at h
    split at h
    · rename_i hq
      have hgo := brokenAt_go hq hb
      have hd1 := decode_pos s q
      have hd2 := decode_in hq
      have hd : Utf8.decode s q = ((Utf8.decode s q).1, (Utf8.decode s q).2) := rfl
      split at h
      · rename_i he
        split at h
        · rename_i hsp
          obtain ⟨hb1, hn1⟩ := decode_low hq hd hsp.1
          have hby : (Utf8.decode s q).1.toUInt8 = s[q] := by rw [← hb1]; simp
          rw [hn1, hby] at h
          have hb2 := hgo.2
          rw [hn1] at hb2
          refine (ih _ _ _ _ _ h hb2 (by omega) (by omega) ?_).imp_right fun h => ⟨h.1, by omega, h.2.2⟩
          have hs2 : 0 ≤ specialI (s[q].toNat : Int) := by rw [hb1]; exact hsp.2
          rw [dressL_append, show dressL [s[q]] = [92, s[q]] by simp [dressL, dressB, hs2], ← seg_append h1 (Nat.le_succ q), ← hi, he, seg_one hq]
          simp [tailE]
        · cases h
      · rename_i he
        have he : esc = false := by simpa using he
        subst he
        split at h
        · rename_i h92
          obtain ⟨hb1, hn1⟩ := decode_low hq hd (by omega)
          rw [hn1] at h
          have hb2 := hgo.2
          rw [hn1] at hb2
          refine (ih _ _ _ _ _ h hb2 (by omega) (by omega) ?_).imp_right fun h => ⟨h.1, by omega, h.2.2⟩
          have hby : s[q] = 92 := UInt8.toNat_inj.1 (by rw [hb1, h92]; rfl)
          rw [← seg_append h1 (Nat.le_succ q), ← hi, seg_one hq, hby]
          simp [tailE]
        · split at h
          · rename_i h92 h93
            split at h
            · cases h
            · simp only [Except.ok.injEq, Prod.mk.injEq] at h
              obtain ⟨rfl, rfl⟩ := h
              obtain ⟨hb1, hn1⟩ := decode_low hq hd (by omega)
              have hby : s[q] = 93 := UInt8.toNat_inj.1 (by rw [hb1, h93]; rfl)
              refine ⟨?_, brokenAt_ascii hq hb (by rw [hb1]; omega), by omega, by omega⟩
              rw [← seg_append h1 (Nat.le_succ q), ← hi, seg_one hq, hby]
              simp [tailE]
          · split at h
            · cases h
            · rename_i h92 h93 hbad
              refine (ih _ _ _ _ _ h hgo.2 (by omega) hd2 ?_).imp_right fun h => ⟨h.1, by omega, h.2.2⟩
              rw [enc_seg hq hgo.1, dressL_append, ← seg_append h1 (show q ≤ q + (Utf8.decode s q).2 by omega), ← hi]
              simp only [tailE, Bool.false_eq_true, if_false, List.append_nil]
              congr 1
              rw [← enc_seg hq hgo.1]
              refine dressL_plain _ ?_
              intro b hbm
              rw [special_iff]
              by_cases hr : (Utf8.decode s q).1 < 128
              · have e : (Utf8.encode ((Utf8.decode s q).1 : Int)).data.toList = [(Utf8.decode s q).1.toUInt8] := by
                  rw [encode_rune]
                  unfold Lib.encodeRune
                  rw [Lib.encodeRuneZ_one (by omega) (by omega)]
                  simp
                rw [e] at hbm
                simp at hbm
                have hbn : b.toNat = (Utf8.decode s q).1 := by rw [hbm]; simp; omega
                have hz : ¬ ((Utf8.decode s q).1 = 91 ∨ (Utf8.decode s q).1 = 47 ∨ (Utf8.decode s q).1 = 61) := fun h => hbad (.inr h)
                rintro (rfl | rfl | rfl | rfl | rfl) <;> simp at hbn <;> omega
              · rw [encode_rune] at hbm
                have := rune_high (by omega) b hbm
                rintro (rfl | rfl | rfl | rfl | rfl) <;> simp at this
    · cases h
theorem nameB_low {b : UInt8} (h : nameB b = true) : b.toNat < 128 := by
  have hh : ∀ n : Fin 256, nameB (UInt8.ofNat n.val) = true → (UInt8.ofNat n.val).toNat < 128 := by decide +kernel
  have := hh ⟨b.toNat, b.toNat_lt⟩
  simp only [UInt8.ofNat_toNat] at this
  exact this h
theorem nameEndF_valid (s : ByteArray) : ∀ k p, p ≤ s.size → brokenAt s p = none → brokenAt s (nameEndF k s p) = none := by
  intro k
  induction k with
  | zero => intro p _ h; exact h
  | succ k ih =>
    intro p hp h
    simp only [nameEndF]
    split
    · rename_i hlt
      split
      · rename_i hn
        exact ih (p + 1) hlt (brokenAt_ascii hlt h (nameB_low hn))
      · exact h
    · exact h
theorem stands_valid {s : ByteArray} {p : Nat} {b : UInt8} (h : standsB s p b = true) (hb : b.toNat < 128) (hv : brokenAt s p = none) : brokenAt s (p + 1) = none ∧ seg s p (p + 1) = [b] := by
  obtain ⟨hl, he⟩ := stands_at h
  exact ⟨brokenAt_ascii hl hv (by rw [he]; exact hb), by rw [seg_one hl, he]⟩
theorem keysF_back (s : ByteArray) : ∀ (k p : Nat) (ks l : List PKey) (q : Nat), p ≤ s.size → brokenAt s p = none → keysF k s p ks = .ok (l, q) → l.flatMap keyText = ks.flatMap keyText ++ seg s p q ∧ brokenAt s q = none ∧ p ≤ q ∧ q ≤ s.size := by
  intro k
  induction k with
  | zero =>
    intro p ks l q hp hb h
    simp [keysF] at h
    rw [← h.1, ← h.2, seg_self]
    exact ⟨by simp, hb, Nat.le_refl _, hp⟩
  | succ k ih =>
    intro p ks l q hp hb h
    simp only [keysF] at h
    split at h
    · rename_i hbr
      have hlt := stands_lt hbr
      have hv1 := stands_valid hbr (by decide) hb
      cases hn : nameM s (p + 1) with
      | error e => rw [hn] at h; cases h
      | ok x =>
        obtain ⟨key, q1⟩ := x
        have hq := nameM_ok hn (by omega)
        rw [hn] at h
        simp only at h
        split at h
        · split at h
          · rename_i hr he
            have hvn : brokenAt s q1 = none := by rw [hq.2.2.2.1]; exact nameEndF_valid s _ _ (by omega) hv1.1
            have hv2 := stands_valid he (by decide) hvn
            have hlt2 := stands_lt he
            cases hv : valAt s (q1 + 1) (q1 + 1) false [] with
            | error e => rw [hv] at h; cases h
            | ok y =>
              obtain ⟨v, r⟩ := y
              rw [hv] at h
              simp only at h
              have hvb := valF_back s (q1 + 1) _ (q1 + 1) false [] v r hv hv2.1 (Nat.le_refl _) (by omega) (by simp [tailE, dressL, seg_self])
              obtain ⟨e1, e2, e3, e4⟩ := ih r _ _ _ hvb.2.2.2 hvb.2.1 h
              refine ⟨?_, e2, by omega, e4⟩
              rw [e1, List.flatMap_append, List.append_assoc]
              congr 1
              rw [← seg_append (show p ≤ p + 1 by omega) (show p + 1 ≤ q by omega), ← seg_append (show p + 1 ≤ q1 by omega) (show q1 ≤ q by omega), ← seg_append (show q1 ≤ q1 + 1 by omega) (show q1 + 1 ≤ q by omega), ← seg_append (show q1 + 1 ≤ r by omega) e3,
                hv1.2, hv2.2, hvb.1, ← extract_seg (p + 1) q1, ← hq.2.2.1]
              simp [keyText, str]
          · cases h
        · cases h
    · simp at h
      rw [← h.1, ← h.2, seg_self]
      exact ⟨by simp, hb, Nat.le_refl _, hp⟩
theorem stepM_back {s : ByteArray} {p q : Nat} {st : PStep} (h : stepM s p = .ok (st, q)) (hp : p ≤ s.size) (hb : brokenAt s p = none) : textL st = seg s p q ∧ brokenAt s q = none ∧ p ≤ q ∧ q ≤ s.size := by
  unfold stepM at h
  cases hn : nameM s p with
  | error e => rw [hn] at h; cases h
  | ok x =>
    obtain ⟨nm, q1⟩ := x
    have hq := nameM_ok hn hp
    rw [hn] at h
    simp only at h
    cases hk : keysM s q1 [] with
    | error e => rw [hk] at h; cases h
    | ok y =>
      obtain ⟨ks, r⟩ := y
      rw [hk] at h
      simp at h
      have hvn : brokenAt s q1 = none := by rw [hq.2.2.2.1]; exact nameEndF_valid s _ _ hp hb
      obtain ⟨e1, e2, e3, e4⟩ := keysF_back s _ q1 [] ks r hq.2.1 hvn hk
      rw [← h.1, ← h.2]
      refine ⟨?_, e2, by omega, e4⟩
      simp only [textL]
      rw [e1, hq.2.2.1, extract_seg, ← seg_append hq.1 e3]
      simp
theorem stepsF_back (s : ByteArray) : ∀ (k p : Nat) (l m : List PStep), p ≤ s.size → brokenAt s p = none → stepsF k s p l = .ok m → ∃ rest, m = l ++ rest ∧ rest ≠ [] ∧ Lib.join (rest.map textL) [47] = seg s p s.size := by
  intro k
  induction k with
  | zero => intro p l m hp hb h; cases h
  | succ k ih =>
    intro p l m hp hb h
    simp only [stepsF] at h
    split at h
    · cases h
    · cases hn : stepM s p with
      | error e => rw [hn] at h; cases h
      | ok x =>
        obtain ⟨st, q⟩ := x
        obtain ⟨e1, e2, e3, e4⟩ := stepM_back hn hp hb
        rw [hn] at h
        simp only at h
        split at h
        · rename_i hq
          simp at h
          exact ⟨[st], h.symm, by simp, by rw [← hq]; simp [Lib.join_one, e1]⟩
        · split at h
          · rename_i hbr
            have hv := stands_valid hbr (by decide) e2
            have hlt := stands_lt hbr
            obtain ⟨rest, r1, r2, r3⟩ := ih (q + 1) _ _ hlt hv.1 h
            refine ⟨st :: rest, by rw [r1]; simp, by simp, ?_⟩
            rw [List.map_cons, Lib.join_cons]
            cases rest with
            | nil => exact absurd rfl r2
            | cons y ys =>
              rw [List.map_cons] at r3 ⊢
              rw [Lib.join_cons] at r3
              have : Lib.joinTail [47] (textL y :: List.map textL ys) = [47] ++ (textL y ++ Lib.joinTail [47] (List.map textL ys)) := by simp [Lib.joinTail]
              rw [this, r3, e1, ← seg_append e3 e4, ← seg_append (show q ≤ q + 1 by omega) (show q + 1 ≤ s.size by omega), hv.2]
          · cases h
theorem parse_text {s : ByteArray} {l : List PStep} (h : parseM s = .ok l) : Lib.join (l.map textL) [47] = s.data.toList := by
  unfold parseM at h
  split at h
  · cases h
  · split at h
    · cases h
    · rename_i hbr
      split at h
      · rename_i h0
        simp at h
        subst h
        have : s.data.toList = [] := List.eq_nil_of_length_eq_zero (by rw [ba_len]; exact h0)
        rw [this]
        rfl
      · obtain ⟨rest, r1, r2, r3⟩ := stepsF_back s _ 0 [] l (Nat.zero_le _) hbr h
        rw [r1, List.nil_append, r3, seg_all]
theorem parse_inj {a b : ByteArray} {l : List PStep} (ha : parseM a = .ok l) (hb : parseM b = .ok l) : a = b := by
  have h := (parse_text ha).symm.trans (parse_text hb)
  obtain ⟨⟨x⟩⟩ := a
  obtain ⟨⟨y⟩⟩ := b
  simp only at h
  rw [h]
end Go.Proofs.Ytjebaibcfmjinaa
