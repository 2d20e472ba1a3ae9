/-
  What path.Parse gives is small; no program in sight. Plain Lean; no condition.
-/
import Derived.Test.YtkfofdmcggoonaaGreatDoorPathText
import Derived.Test.YtkfofdmcggoonaaGreatDoorPathPut
import Derived.Lib.MapLaws
import Derived.Laws.StructEq
set_option linter.unusedVariables false
set_option linter.unusedSimpArgs false
namespace Go.Proofs.YtkfofdmcggoonaaGreatDoor
open Go.RowKit

theorem nameM_small {s : ByteArray} {p q : Nat} {nm : ByteArray} (h : nameM s p = .ok (nm, q)) (hp : p ≤ s.size) : nm.size ≤ 64 ∧ p < q := by
  obtain ⟨h1, h2, rfl, h4, h5⟩ := nameM_ok h hp
  unfold nameErr at h5
  split at h5
  · rename_i hlt
    split at h5
    · rename_i hst
      split at h5
      · cases h5
      · rename_i h64
        have hn : nameB s[p] = true := by simp [nameB, hst]
        have e := nameEnd_step hlt
        rw [if_pos hn] at e
        have l := (nameEnd_le (s := s) (p := p + 1) (by omega)).1
        rw [← e, ← h4] at l
        rw [← h4] at h64
        refine ⟨?_, by omega⟩
        simp
        omega
    · cases h5
  · cases h5
theorem valF_small (s : ByteArray) (fr : Nat) : ∀ (k q : Nat) (esc : Bool) (out l : List UInt8) (r : Nat), valF k s fr q esc out = .ok (l, r) → l.length ≤ 64 := by
  intro k
  induction k with
  | zero => intro q esc out l r h; cases h
  | succ k ih =>
    intro q esc out l r h
    simp only [valF] at h
    split at h
    · split at h
      · split at h
        · exact ih _ _ _ _ _ h
        · cases h
      · split at h
        · exact ih _ _ _ _ _ h
        · split at h
          · split at h
            · cases h
            · rename_i h64
              simp only [Except.ok.injEq, Prod.mk.injEq] at h
              rw [← h.1]
              omega
          · split at h
            · cases h
            · exact ih _ _ _ _ _ h
    · cases h
theorem valAt_small {s : ByteArray} {fr q r : Nat} {esc : Bool} {out l : List UInt8} (h : valAt s fr q esc out = .ok (l, r)) : l.length ≤ 64 := valF_small s fr _ q esc out l r h
def KeysTiny (ks : List PKey) : Prop := ∀ k ∈ ks, k.1.size ≤ 64 ∧ k.2.size ≤ 64
theorem keysF_small (s : ByteArray) : ∀ (k p : Nat) (ks l : List PKey) (q : Nat), p ≤ s.size → keysF k s p ks = .ok (l, q) → KeysTiny ks → ks.length ≤ p → KeysTiny l ∧ l.length ≤ q := by
  intro k
  induction k with
  | zero => intro p ks l q hp h ht hl; simp [keysF] at h; rw [← h.1, ← h.2]; exact ⟨ht, hl⟩
  | succ k ih =>
    intro p ks l q hp h ht hl
    simp only [keysF] at h
    split at h
    · rename_i hb
      have hlt := stands_lt hb
      cases hn : nameM s (p + 1) with
      | error e => rw [hn] at h; cases h
      | ok x =>
        obtain ⟨key, q1⟩ := x
        have hq := nameM_ok hn (by omega)
        have hsm := nameM_small hn (by omega)
        rw [hn] at h
        simp only at h
        split at h
        · split at h
          · cases hv : valAt s (q1 + 1) (q1 + 1) false [] with
            | error e => rw [hv] at h; cases h
            | ok y =>
              obtain ⟨v, r⟩ := y
              have hr := valAt_ok hv
              have hvs := valAt_small hv
              rw [hv] at h
              simp only at h
              refine ih r _ _ _ hr.2 h ?_ (by simp; omega)
              intro k hk
              rcases List.mem_append.1 hk with hk | hk
              · exact ht k hk
              · simp at hk
                subst hk
                exact ⟨hsm.1, by show (str v).size ≤ 64; rw [show (str v).size = v.length from by show v.toArray.size = _; simp]; exact hvs⟩
          · cases h
        · cases h
    · simp at h
      rw [← h.1, ← h.2]
      exact ⟨ht, hl⟩
def StepTiny (st : PStep) : Prop := st.1.size ≤ 64 ∧ st.2.length ≤ 512 ∧ KeysTiny st.2
theorem StepTiny.small {st : PStep} (h : StepTiny st) : StepSmall st := ⟨by have := h.1; omega, by have := h.2.1; omega, fun k hk => by have := h.2.2 k hk; omega⟩
theorem stepM_small {s : ByteArray} {p q : Nat} {st : PStep} (h : stepM s p = .ok (st, q)) (hp : p ≤ s.size) (hs : s.size ≤ 512) : StepTiny st := by
  unfold stepM at h
  cases hn : nameM s p with
  | error e => rw [hn] at h; cases h
  | ok x =>
    obtain ⟨nm, q1⟩ := x
    have hq := nameM_ok hn hp
    have hsm := nameM_small hn hp
    rw [hn] at h
    simp only at h
    cases hk : keysM s q1 [] with
    | error e => rw [hk] at h; cases h
    | ok y =>
      obtain ⟨ks, r⟩ := y
      rw [hk] at h
      simp at h
      have h1 := keysF_small s _ q1 [] ks r hq.2.1 hk (fun k hk => (by cases hk)) (Nat.zero_le _)
      have h2 := keysF_ok s _ q1 [] ks r hq.2.1 hk
      rw [← h.1]
      exact ⟨hsm.1, by show ks.length ≤ 512; omega, h1.1⟩
theorem stepsF_small (s : ByteArray) (hs : s.size ≤ 512) : ∀ (k p : Nat) (l m : List PStep), p ≤ s.size → stepsF k s p l = .ok m → (∀ st ∈ l, StepTiny st) → l.length ≤ 64 → (∀ st ∈ m, StepTiny st) ∧ m.length ≤ 64 ∧ 0 < m.length := by
  intro k
  induction k with
  | zero => intro p l m hp h; cases h
  | succ k ih =>
    intro p l m hp h ht hl
    simp only [stepsF] at h
    split at h
    · cases h
    · rename_i h64
      cases hn : stepM s p with
      | error e => rw [hn] at h; cases h
      | ok x =>
        obtain ⟨st, q⟩ := x
        have hq := stepM_ok hn hp
        have hsm := stepM_small hn hp hs
        rw [hn] at h
        simp only at h
        have hall : ∀ x ∈ l ++ [st], StepTiny x := by
          intro x hx
          rcases List.mem_append.1 hx with hx | hx
          · exact ht x hx
          · simp at hx; rw [hx]; exact hsm
        split at h
        · simp at h
          rw [← h]
          exact ⟨hall, by simp; omega, by simp⟩
        · split at h
          · rename_i hb
            exact ih (q + 1) _ _ (stands_lt hb) h hall (by simp; omega)
          · cases h
theorem parseM_small {s : ByteArray} {l : List PStep} (h : parseM s = .ok l) : (∀ st ∈ l, StepTiny st) ∧ l.length ≤ 64 ∧ s.size ≤ 512 ∧ (l = [] ↔ s.size = 0) := by
  unfold parseM at h
  split at h
  · cases h
  · rename_i h512
    split at h
    · cases h
    · split at h
      · rename_i h0
        simp at h
        subst h
        exact ⟨fun st hst => (by cases hst), by simp, by omega, by simp [h0]⟩
      · rename_i h0
        have := stepsF_small s (by omega) _ 0 [] l (by omega) h (fun st hst => (by cases hst)) (by simp)
        refine ⟨this.1, this.2.1, by omega, ?_⟩
        constructor
        · rintro rfl
          simp at this
        · intro e
          exact absurd e h0
def Bad (x : Int) : Prop := x = 3 ∨ x = 160
theorem nameErr_bad {s : ByteArray} {p : Nat} {x y : Int} (h : nameErr s p = some (x, y)) : Bad x := by
  unfold nameErr at h
  repeat' split at h
  all_goals first | (simp at h; exact .inl h.1.symm) | (simp at h; exact .inr h.1.symm) | cases h
theorem nameM_bad {s : ByteArray} {p : Nat} {x y : Int} (h : nameM s p = .error (x, y)) : Bad x := by
  unfold nameM at h
  cases hn : nameErr s p with
  | none => rw [hn] at h; cases h
  | some e =>
    rw [hn] at h
    simp at h
    subst h
    exact nameErr_bad hn
theorem valF_bad (s : ByteArray) (fr : Nat) : ∀ (k q : Nat) (esc : Bool) (out : List UInt8) (x y : Int), valF k s fr q esc out = .error (x, y) → Bad x := by
  intro k
  induction k with
  | zero => intro q esc out x y h; simp [valF] at h; exact .inr h.1.symm
  | succ k ih =>
    intro q esc out x y h
    simp only [valF] at h
    repeat' split at h
    all_goals first | exact ih _ _ _ _ _ h | (simp at h; exact .inl h.1.symm) | (simp at h; exact .inr h.1.symm) | cases h
theorem keysF_bad (s : ByteArray) : ∀ (k p : Nat) (ks : List PKey) (x y : Int), keysF k s p ks = .error (x, y) → Bad x := by
  intro k
  induction k with
  | zero => intro p ks x y h; cases h
  | succ k ih =>
    intro p ks x y h
    simp only [keysF] at h
    split at h
    · cases hn : nameM s (p + 1) with
      | error e => rw [hn] at h; simp at h; subst h; exact nameM_bad hn
      | ok z =>
        obtain ⟨key, q1⟩ := z
        rw [hn] at h
        simp only at h
        split at h
        · split at h
          · cases hv : valAt s (q1 + 1) (q1 + 1) false [] with
            | error e => rw [hv] at h; simp at h; subst h; exact valF_bad _ _ _ _ _ _ _ _ hv
            | ok z2 =>
              obtain ⟨v, r⟩ := z2
              rw [hv] at h
              simp only at h
              exact ih _ _ _ _ h
          · simp at h; exact .inr h.1.symm
        · simp at h; exact .inr h.1.symm
    · cases h
theorem stepM_bad {s : ByteArray} {p : Nat} {x y : Int} (h : stepM s p = .error (x, y)) : Bad x := by
  unfold stepM at h
  cases hn : nameM s p with
  | error e => rw [hn] at h; simp at h; subst h; exact nameM_bad hn
  | ok z =>
    obtain ⟨nm, q1⟩ := z
    rw [hn] at h
    simp only at h
    cases hk : keysM s q1 [] with
    | error e => rw [hk] at h; simp at h; subst h; exact keysF_bad _ _ _ _ _ _ hk
    | ok z2 => rw [hk] at h; simp at h
theorem stepsF_bad (s : ByteArray) : ∀ (k p : Nat) (l : List PStep) (x y : Int), stepsF k s p l = .error (x, y) → Bad x := by
  intro k
  induction k with
  | zero => intro p l x y h; simp [stepsF] at h; exact .inl h.1.symm
  | succ k ih =>
    intro p l x y h
    simp only [stepsF] at h
    split at h
    · simp at h; exact .inl h.1.symm
    · cases hn : stepM s p with
      | error e => rw [hn] at h; simp at h; subst h; exact stepM_bad hn
      | ok z =>
        obtain ⟨st, q⟩ := z
        rw [hn] at h
        simp only at h
        split at h
        · cases h
        · split at h
          · exact ih _ _ _ _ h
          · simp at h; exact .inr h.1.symm
theorem parseM_err {s : ByteArray} {x y : Int} (h : parseM s = .error (x, y)) : x = 3 ∨ x = 6 ∨ x = 160 := by
  unfold parseM at h
  split at h
  · simp at h; exact .inl h.1.symm
  · split at h
    · simp at h; exact .inr (.inl h.1.symm)
    · split at h
      · cases h
      · rcases stepsF_bad _ _ _ _ _ _ h with h | h
        · exact .inl h
        · exact .inr (.inr h)
end Go.Proofs.YtkfofdmcggoonaaGreatDoor
/-
  A text that parses is the text of its steps; no program in sight. Plain Lean; no condition.
-/
namespace Go.Proofs.YtkfofdmcggoonaaGreatDoor
open Go.RowKit

/-- The bytes from a to b. -/
def seg (s : ByteArray) (a b : Nat) : List UInt8 := (s.data.toList.drop a).take (b - a)
section
variable {s : ByteArray}
theorem seg_append {a b c : Nat} (h1 : a ≤ b) (h2 : b ≤ c) : seg s a b ++ seg s b c = seg s a c := by
  unfold seg
  rw [show c - a = (b - a) + (c - b) by omega, List.take_add, List.drop_drop, show a + (b - a) = b by omega]
theorem seg_self (a : Nat) : seg s a a = [] := by simp [seg]
theorem seg_one {p : Nat} (h : p < s.size) : seg s p (p + 1) = [s[p]] := by
  have hl : p < s.data.toList.length := by rw [ba_len]; exact h
  unfold seg
  rw [List.drop_eq_getElem_cons hl, show p + 1 - p = 1 by omega]
  rfl
theorem seg_all : seg s 0 s.size = s.data.toList := by
  unfold seg
  rw [List.drop_zero, Nat.sub_zero, List.take_of_length_le (by rw [ba_len]; omega)]
theorem extract_seg (p q : Nat) : (s.extract p q).data.toList = seg s p q := by
  rw [ByteArray.data_extract, Array.toList_extract]
  simp [seg, List.extract_eq_take_drop]
theorem brokenAt_go {p : Nat} (h : p < s.size) (hb : brokenAt s p = none) : Utf8.decode s p ≠ (65533, 1) ∧ brokenAt s (p + (Utf8.decode s p).2) = none := by
  rw [brokenAt_step h] at hb
  split at hb
  · cases hb
  · rename_i hne
    exact ⟨hne, hb⟩
theorem brokenAt_ascii {p : Nat} (h : p < s.size) (hb : brokenAt s p = none) (ha : s[p].toNat < 128) : brokenAt s (p + 1) = none := by
  have := (brokenAt_go h hb).2
  rw [decode_ascii s p h ha] at this
  exact this
theorem decode_low {p r n : Nat} (h : p < s.size) (hd : Utf8.decode s p = (r, n)) (hr : r < 128) : s[p].toNat = r ∧ n = 1 := by
  by_cases ha : s[p].toNat < 128
  · rw [decode_ascii s p h ha] at hd
    simp at hd
    omega
  · have := (decode_high s p h (by omega)).1
    rw [hd] at this
    simp only at this
    omega
end
theorem ofNat_toNat (n : Nat) : n.toUInt8 = UInt8.ofNat n := rfl
theorem encode_rune (r : Nat) : (Utf8.encode (r : Int)).data.toList = Lib.encodeRune (r : Int) := by
  unfold Lib.encodeRune
  by_cases h1 : r ≤ 127
  · rw [Lib.encodeRuneZ_one (by omega) (by omega)]
    have hv : Utf8.valid (r : Int) = true := by simp [Utf8.valid]; omega
    simp [Utf8.encode, hv, show r < 128 by omega]
  · by_cases h2 : r ≤ 2047
    · rw [Lib.encodeRuneZ_two (by omega) (by omega)]
      have hv : Utf8.valid (r : Int) = true := by simp [Utf8.valid]; omega
      have e1 : ((192 : Int) + (r : Int) / 64).toNat = 192 + r / 64 := by omega
      have e2 : ((128 : Int) + (r : Int) % 64).toNat = 128 + r % 64 := by omega
      simp only [Utf8.encode, hv, if_true, Int.toNat_natCast, List.map_cons, List.map_nil, e1, e2]
      rw [if_neg (by omega), if_pos (by omega)]
    · by_cases h3 : r < 55296 ∨ (57343 < r ∧ r ≤ 65535)
      · rw [Lib.encodeRuneZ_three (by omega)]
        have hv : Utf8.valid (r : Int) = true := by simp [Utf8.valid]; omega
        have e1 : ((224 : Int) + (r : Int) / 4096).toNat = 224 + r / 4096 := by omega
        have e2 : ((128 : Int) + (r : Int) / 64 % 64).toNat = 128 + r / 64 % 64 := by omega
        have e3 : ((128 : Int) + (r : Int) % 64).toNat = 128 + r % 64 := by omega
        simp only [Utf8.encode, hv, if_true, Int.toNat_natCast, List.map_cons, List.map_nil, e1, e2, e3]
        rw [if_neg (by omega), if_neg (by omega), if_pos (by omega)]
      · by_cases h4 : 65536 ≤ r ∧ r ≤ 1114111
        · rw [Lib.encodeRuneZ_four (by omega) (by omega)]
          have hv : Utf8.valid (r : Int) = true := by simp [Utf8.valid]; omega
          have e1 : ((240 : Int) + (r : Int) / 262144).toNat = 240 + r / 262144 := by omega
          have e2 : ((128 : Int) + (r : Int) / 4096 % 64).toNat = 128 + r / 4096 % 64 := by omega
          have e3 : ((128 : Int) + (r : Int) / 64 % 64).toNat = 128 + r / 64 % 64 := by omega
          have e4 : ((128 : Int) + (r : Int) % 64).toNat = 128 + r % 64 := by omega
          simp only [Utf8.encode, hv, if_true, Int.toNat_natCast, List.map_cons, List.map_nil, e1, e2, e3, e4]
          rw [if_neg (by omega), if_neg (by omega), if_neg (by omega)]
        · rw [Lib.encodeRuneZ_bad (by omega)]
          have hv : Utf8.valid (r : Int) = false := by simp [Utf8.valid]; omega
          simp [Utf8.encode, hv, Utf8.runeError]
theorem enc_seg {s : ByteArray} {p : Nat} (h : p < s.size) (hd : Utf8.decode s p ≠ (65533, 1)) : (Utf8.encode ((Utf8.decode s p).1 : Int)).data.toList = seg s p (p + (Utf8.decode s p).2) := by
  rw [encode_rune, ← Lib.decodeL_drop]
  rw [Lib.encode_decode _ (fun e => by have := congrArg List.length e; rw [List.length_drop, ba_len] at this; simp at this; omega) (fun e => hd (by rw [← Lib.decodeL_drop]; exact Prod.ext e.1 e.2))]
  unfold seg
  rw [show p + (Lib.decodeL (s.data.toList.drop p)).2 - p = (Lib.decodeL (s.data.toList.drop p)).2 by omega]
theorem special_iff (b : UInt8) : (0 ≤ specialI (b.toNat : Int)) ↔ (b = 91 ∨ b = 93 ∨ b = 47 ∨ b = 61 ∨ b = 92) := by
  have h : ∀ n : Fin 256, (0 ≤ specialI ((UInt8.ofNat n.val).toNat : Int)) ↔ ((UInt8.ofNat n.val) = 91 ∨ (UInt8.ofNat n.val) = 93 ∨ (UInt8.ofNat n.val) = 47 ∨ (UInt8.ofNat n.val) = 61 ∨ (UInt8.ofNat n.val) = 92) := by decide +kernel
  have := h ⟨b.toNat, b.toNat_lt⟩
  simpa using this
theorem dressL_append (a b : List UInt8) : dressL (a ++ b) = dressL a ++ dressL b := by simp [dressL]
theorem dressB_plain {b : UInt8} (h : ¬ (0 ≤ specialI (b.toNat : Int))) : dressB b = [b] := by unfold dressB; rw [if_neg h]
theorem dressL_plain : ∀ (l : List UInt8), (∀ b ∈ l, ¬ (0 ≤ specialI (b.toNat : Int))) → dressL l = l
  | [], _ => rfl
  | b :: l, h => by
    have h1 := dressB_plain (h b (by simp))
    have h2 := dressL_plain l fun x hx => h x (by simp [hx])
    simp only [dressL, List.flatMap_cons] at h2 ⊢
    rw [h1, h2]
    rfl
theorem rune_high {r : Nat} (h : 128 ≤ r) : ∀ b ∈ Lib.encodeRune (r : Int), 128 ≤ b.toNat := by
  intro b hb
  obtain ⟨x, hx, rfl⟩ := List.mem_map.1 hb
  have hx2 := Lib.encodeRuneZ_byte (r : Int) x hx
  have : 128 ≤ x := by
    unfold Lib.encodeRuneZ at hx
    repeat' split at hx
    all_goals (simp at hx; omega)
  have e : x.toNat.toUInt8.toNat = x.toNat := by simp; omega
  omega
def tailE (esc : Bool) : List UInt8 := if esc = true then [92] else []
theorem valF_back (s : ByteArray) (fr : Nat) : ∀ (k q : Nat) (esc : Bool) (out l : List UInt8) (r : Nat), valF k s fr q esc out = .ok (l, r) → brokenAt s q = none → fr ≤ q → q ≤ s.size → dressL out ++ tailE esc = seg s fr q →
    seg s fr r = dressL l ++ [93] ∧ brokenAt s r = none ∧ q < r ∧ r ≤ s.size := by
  intro k
  induction k with
  | zero => intro q esc out l r h; cases h
  | succ k ih =>
    intro q esc out l r h hb h1 h2 hi
    simp only [valF] at h
    split at h
    · rename_i hq
      have hgo := brokenAt_go hq hb
      have hd1 := decode_pos s q
      have hd2 := decode_in hq
      have hd : Utf8.decode s q = ((Utf8.decode s q).1, (Utf8.decode s q).2) := rfl
      split at h
      · rename_i he
        split at h
        · rename_i hsp
          obtain ⟨hb1, hn1⟩ := decode_low hq hd hsp.1
          have hby : (Utf8.decode s q).1.toUInt8 = s[q] := by rw [← hb1]; simp
          rw [hn1, hby] at h
          have hb2 := hgo.2
          rw [hn1] at hb2
          refine (ih _ _ _ _ _ h hb2 (by omega) (by omega) ?_).imp_right fun h => ⟨h.1, by omega, h.2.2⟩
          have hs2 : 0 ≤ specialI (s[q].toNat : Int) := by rw [hb1]; exact hsp.2
          rw [dressL_append, show dressL [s[q]] = [92, s[q]] by simp [dressL, dressB, hs2], ← seg_append h1 (Nat.le_succ q), ← hi, he, seg_one hq]
          simp [tailE]
        · cases h
      · rename_i he
        have he : esc = false := by simpa using he
        subst he
        split at h
        · rename_i h92
          obtain ⟨hb1, hn1⟩ := decode_low hq hd (by omega)
          rw [hn1] at h
          have hb2 := hgo.2
          rw [hn1] at hb2
          refine (ih _ _ _ _ _ h hb2 (by omega) (by omega) ?_).imp_right fun h => ⟨h.1, by omega, h.2.2⟩
          have hby : s[q] = 92 := UInt8.toNat_inj.1 (by rw [hb1, h92]; rfl)
          rw [← seg_append h1 (Nat.le_succ q), ← hi, seg_one hq, hby]
          simp [tailE]
        · split at h
          · rename_i h92 h93
            split at h
            · cases h
            · simp only [Except.ok.injEq, Prod.mk.injEq] at h
              obtain ⟨rfl, rfl⟩ := h
              obtain ⟨hb1, hn1⟩ := decode_low hq hd (by omega)
              have hby : s[q] = 93 := UInt8.toNat_inj.1 (by rw [hb1, h93]; rfl)
              refine ⟨?_, brokenAt_ascii hq hb (by rw [hb1]; omega), by omega, by omega⟩
              rw [← seg_append h1 (Nat.le_succ q), ← hi, seg_one hq, hby]
              simp [tailE]
          · split at h
            · cases h
            · rename_i h92 h93 hbad
              refine (ih _ _ _ _ _ h hgo.2 (by omega) hd2 ?_).imp_right fun h => ⟨h.1, by omega, h.2.2⟩
              rw [enc_seg hq hgo.1, dressL_append, ← seg_append h1 (show q ≤ q + (Utf8.decode s q).2 by omega), ← hi]
              simp only [tailE, Bool.false_eq_true, if_false, List.append_nil]
              congr 1
              rw [← enc_seg hq hgo.1]
              refine dressL_plain _ ?_
              intro b hbm
              rw [special_iff]
              by_cases hr : (Utf8.decode s q).1 < 128
              · have e : (Utf8.encode ((Utf8.decode s q).1 : Int)).data.toList = [(Utf8.decode s q).1.toUInt8] := by
                  rw [encode_rune]
                  unfold Lib.encodeRune
                  rw [Lib.encodeRuneZ_one (by omega) (by omega)]
                  simp
                rw [e] at hbm
                simp at hbm
                have hbn : b.toNat = (Utf8.decode s q).1 := by rw [hbm]; simp; omega
                have hz : ¬ ((Utf8.decode s q).1 = 91 ∨ (Utf8.decode s q).1 = 47 ∨ (Utf8.decode s q).1 = 61) := fun h => hbad (.inr h)
                rintro (rfl | rfl | rfl | rfl | rfl) <;> simp at hbn <;> omega
              · rw [encode_rune] at hbm
                have := rune_high (by omega) b hbm
                rintro (rfl | rfl | rfl | rfl | rfl) <;> simp at this
    · cases h
theorem nameB_low {b : UInt8} (h : nameB b = true) : b.toNat < 128 := by
  have hh : ∀ n : Fin 256, nameB (UInt8.ofNat n.val) = true → (UInt8.ofNat n.val).toNat < 128 := by decide +kernel
  have := hh ⟨b.toNat, b.toNat_lt⟩
  simp only [UInt8.ofNat_toNat] at this
  exact this h
theorem nameEndF_valid (s : ByteArray) : ∀ k p, p ≤ s.size → brokenAt s p = none → brokenAt s (nameEndF k s p) = none := by
  intro k
  induction k with
  | zero => intro p _ h; exact h
  | succ k ih =>
    intro p hp h
    simp only [nameEndF]
    split
    · rename_i hlt
      split
      · rename_i hn
        exact ih (p + 1) hlt (brokenAt_ascii hlt h (nameB_low hn))
      · exact h
    · exact h
theorem stands_valid {s : ByteArray} {p : Nat} {b : UInt8} (h : standsB s p b = true) (hb : b.toNat < 128) (hv : brokenAt s p = none) : brokenAt s (p + 1) = none ∧ seg s p (p + 1) = [b] := by
  obtain ⟨hl, he⟩ := stands_at h
  exact ⟨brokenAt_ascii hl hv (by rw [he]; exact hb), by rw [seg_one hl, he]⟩
theorem keysF_back (s : ByteArray) : ∀ (k p : Nat) (ks l : List PKey) (q : Nat), p ≤ s.size → brokenAt s p = none → keysF k s p ks = .ok (l, q) → l.flatMap keyText = ks.flatMap keyText ++ seg s p q ∧ brokenAt s q = none ∧ p ≤ q ∧ q ≤ s.size := by
  intro k
  induction k with
  | zero =>
    intro p ks l q hp hb h
    simp [keysF] at h
    rw [← h.1, ← h.2, seg_self]
    exact ⟨by simp, hb, Nat.le_refl _, hp⟩
  | succ k ih =>
    intro p ks l q hp hb h
    simp only [keysF] at h
    split at h
    · rename_i hbr
      have hlt := stands_lt hbr
      have hv1 := stands_valid hbr (by decide) hb
      cases hn : nameM s (p + 1) with
      | error e => rw [hn] at h; cases h
      | ok x =>
        obtain ⟨key, q1⟩ := x
        have hq := nameM_ok hn (by omega)
        rw [hn] at h
        simp only at h
        split at h
        · split at h
          · rename_i hr he
            have hvn : brokenAt s q1 = none := by rw [hq.2.2.2.1]; exact nameEndF_valid s _ _ (by omega) hv1.1
            have hv2 := stands_valid he (by decide) hvn
            have hlt2 := stands_lt he
            cases hv : valAt s (q1 + 1) (q1 + 1) false [] with
            | error e => rw [hv] at h; cases h
            | ok y =>
              obtain ⟨v, r⟩ := y
              rw [hv] at h
              simp only at h
              have hvb := valF_back s (q1 + 1) _ (q1 + 1) false [] v r hv hv2.1 (Nat.le_refl _) (by omega) (by simp [tailE, dressL, seg_self])
              obtain ⟨e1, e2, e3, e4⟩ := ih r _ _ _ hvb.2.2.2 hvb.2.1 h
              refine ⟨?_, e2, by omega, e4⟩
              rw [e1, List.flatMap_append, List.append_assoc]
              congr 1
              rw [← seg_append (show p ≤ p + 1 by omega) (show p + 1 ≤ q by omega), ← seg_append (show p + 1 ≤ q1 by omega) (show q1 ≤ q by omega), ← seg_append (show q1 ≤ q1 + 1 by omega) (show q1 + 1 ≤ q by omega), ← seg_append (show q1 + 1 ≤ r by omega) e3,
                hv1.2, hv2.2, hvb.1, ← extract_seg (p + 1) q1, ← hq.2.2.1]
              simp [keyText, str]
          · cases h
        · cases h
    · simp at h
      rw [← h.1, ← h.2, seg_self]
      exact ⟨by simp, hb, Nat.le_refl _, hp⟩
theorem stepM_back {s : ByteArray} {p q : Nat} {st : PStep} (h : stepM s p = .ok (st, q)) (hp : p ≤ s.size) (hb : brokenAt s p = none) : textL st = seg s p q ∧ brokenAt s q = none ∧ p ≤ q ∧ q ≤ s.size := by
  unfold stepM at h
  cases hn : nameM s p with
  | error e => rw [hn] at h; cases h
  | ok x =>
    obtain ⟨nm, q1⟩ := x
    have hq := nameM_ok hn hp
    rw [hn] at h
    simp only at h
    cases hk : keysM s q1 [] with
    | error e => rw [hk] at h; cases h
    | ok y =>
      obtain ⟨ks, r⟩ := y
      rw [hk] at h
      simp at h
      have hvn : brokenAt s q1 = none := by rw [hq.2.2.2.1]; exact nameEndF_valid s _ _ hp hb
      obtain ⟨e1, e2, e3, e4⟩ := keysF_back s _ q1 [] ks r hq.2.1 hvn hk
      rw [← h.1, ← h.2]
      refine ⟨?_, e2, by omega, e4⟩
      simp only [textL]
      rw [e1, hq.2.2.1, extract_seg, ← seg_append hq.1 e3]
      simp
theorem stepsF_back (s : ByteArray) : ∀ (k p : Nat) (l m : List PStep), p ≤ s.size → brokenAt s p = none → stepsF k s p l = .ok m → ∃ rest, m = l ++ rest ∧ rest ≠ [] ∧ Lib.join (rest.map textL) [47] = seg s p s.size := by
  intro k
  induction k with
  | zero => intro p l m hp hb h; cases h
  | succ k ih =>
    intro p l m hp hb h
    simp only [stepsF] at h
    split at h
    · cases h
    · cases hn : stepM s p with
      | error e => rw [hn] at h; cases h
      | ok x =>
        obtain ⟨st, q⟩ := x
        obtain ⟨e1, e2, e3, e4⟩ := stepM_back hn hp hb
        rw [hn] at h
        simp only at h
        split at h
        · rename_i hq
          simp at h
          exact ⟨[st], h.symm, by simp, by rw [← hq]; simp [Lib.join_one, e1]⟩
        · split at h
          · rename_i hbr
            have hv := stands_valid hbr (by decide) e2
            have hlt := stands_lt hbr
            obtain ⟨rest, r1, r2, r3⟩ := ih (q + 1) _ _ hlt hv.1 h
            refine ⟨st :: rest, by rw [r1]; simp, by simp, ?_⟩
            rw [List.map_cons, Lib.join_cons]
            cases rest with
            | nil => exact absurd rfl r2
            | cons y ys =>
              rw [List.map_cons] at r3 ⊢
              rw [Lib.join_cons] at r3
              have : Lib.joinTail [47] (textL y :: List.map textL ys) = [47] ++ (textL y ++ Lib.joinTail [47] (List.map textL ys)) := by simp [Lib.joinTail]
              rw [this, r3, e1, ← seg_append e3 e4, ← seg_append (show q ≤ q + 1 by omega) (show q + 1 ≤ s.size by omega), hv.2]
          · cases h
theorem parse_text {s : ByteArray} {l : List PStep} (h : parseM s = .ok l) : Lib.join (l.map textL) [47] = s.data.toList := by
  unfold parseM at h
  split at h
  · cases h
  · split at h
    · cases h
    · rename_i hbr
      split at h
      · rename_i h0
        simp at h
        subst h
        have : s.data.toList = [] := List.eq_nil_of_length_eq_zero (by rw [ba_len]; exact h0)
        rw [this]
        rfl
      · obtain ⟨rest, r1, r2, r3⟩ := stepsF_back s _ 0 [] l (Nat.zero_le _) hbr h
        rw [r1, List.nil_append, r3, seg_all]
theorem parse_inj {a b : ByteArray} {l : List PStep} (ha : parseM a = .ok l) (hb : parseM b = .ok l) : a = b := by
  have h := (parse_text ha).symm.trans (parse_text hb)
  obtain ⟨⟨x⟩⟩ := a
  obtain ⟨⟨y⟩⟩ := b
  simp only at h
  rw [h]
end Go.Proofs.YtkfofdmcggoonaaGreatDoor
/-
  The walks of slices.Equal at keys, of path.Rest's closure, of slices.EqualFunc at steps. Condition: at most 1000000 elements.
-/
namespace Go.Proofs.YtkfofdmcggoonaaGreatDoor
open Go.RowKit

theorem ba_ext {a b : ByteArray} (h : a.toList = b.toList) : a = b := by
  rw [Lib.toList_data, Lib.toList_data] at h
  obtain ⟨⟨x⟩⟩ := a
  obtain ⟨⟨y⟩⟩ := b
  simp only at h
  rw [h]
theorem ba_beq (a b : ByteArray) : (a.toList == b.toList) = decide (a = b) := by
  by_cases h : a = b
  · subst h; simp
  · have : a.toList ≠ b.toList := fun e => h (ba_ext e)
    simp [h, this]
def EqPost (b : Bool) (w : World) (en : Ending) (w' : World) : Prop := en = .returned (.bool b) ∧ Below w.heap.size w w'

set_option maxHeartbeats 4000000 in
theorem equal_any (v1 v2 : Value) (l m : List PKey) (w : World) (h1 : KeysAt w w.heap.size v1 l) (h2 : KeysAt w w.heap.size v2 m) (hl : l.length ≤ 1000000) (hm : m.length ≤ 1000000) :
    Calls Tryz.prog 52 #[v1, v2] w (EqPost (decide (l = m)) w) := by
  obtain ⟨A1, c1, rfl, hc1, hm1, hR1⟩ := h1
  obtain ⟨A2, c2, rfl, hc2, hm2, hR2⟩ := h2
  have HR1 := Lib.hid hR1
  have HR2 := Lib.hid hR2
  clear hR1 hR2
  by_cases hlen : l.length = m.length
  · have HLEN := Lib.hid hlen
    rw [← hlen]
    generalize hn : l.length = n at *
    have HN := Lib.hid hn
    have hn1 : (n : Int) ≤ 1000000 := by omega
    clear hlen hn hc1 hc2 hm
    go_enter Tryz.func52, Tryz.ntmps52
    go_wp2
    go_loopw [5, 13] (fun _ iv wr => ∃ p q : Nat, iv = .int .i64 (p : Int) ∧ p ≤ n ∧ l.take p = m.take p ∧ wr = w.drewN q) (fun _ iv _ => n - (Lib.intOf iv).toNat)
    case atStart => exact ⟨0, 0, rfl, Nat.zero_le _, by simp, rfl⟩
    case round =>
      obtain ⟨p, q, rfl, hp, hT, rfl⟩ := hrel
      by_cases hlt : p < n
      · obtain ⟨x, hx⟩ : ∃ x, l[p]? = some x := ⟨l[p]'(by have := HN.out; omega), by have := HN.out; simp [this, hlt]⟩
        obtain ⟨y, hy⟩ : ∃ y, m[p]? = some y := ⟨m[p]'(by have := HLEN.out; omega), by have := HLEN.out; simp [← this, hlt]⟩
        have hq : (p : Int) < (n : Int) := by omega
        obtain ⟨b1, o1, rfl, hb1, hcl1⟩ := HR1.out.spot (by omega) (by omega)
        obtain ⟨b2, o2, rfl, hb2, hcl2⟩ := HR2.out.spot (by have := HLEN.out; omega) (by omega)
        have ha1 := pairCells_at l p x hx
        have ha2 := pairCells_at m p y hy
        have r0 := hcl1 _ _ ha1.1
        have r1 : w.cell? ⟨b1, o1 + p * 2 + 1, none⟩ = some (.string x.2) := hcl1 _ _ ha1.2
        have r2 := hcl2 _ _ ha2.1
        have r3 : w.cell? ⟨b2, o2 + p * 2 + 1, none⟩ = some (.string y.2) := hcl2 _ _ ha2.2
        have HX := Lib.hid (And.intro hx hy)
        have HT := Lib.hid hT
        clear hcl1 hcl2 ha1 ha2 hx hy hT
        by_cases he : x = y
        · subst he
          go_upto_region 6 with (fail)
          go_quiet (fail)
          go_wp2
          refine ⟨⟨p + 1, q + nq, by simp, hlt, ?_, rfl⟩, by simp [Lib.intOf]; omega⟩
          rw [List.take_add_one, List.take_add_one, HT.out, HX.out.1, HX.out.2]
        · have HNE := Lib.hid (show decide (l = m) = false by
            rw [decide_eq_false_iff_not]
            rintro rfl
            have h := HX.out
            rw [h.1] at h
            exact he (Option.some.inj h.2))
          obtain ⟨xa, xb⟩ := x
          obtain ⟨ya, yb⟩ := y
          simp only at r0 r1 r2 r3
          by_cases ha : xa = ya
          · subst ha
            have hb : ¬ xb.toList = yb.toList := fun e => he (by rw [ba_ext e])
            clear he
            go_upto_region 6 with (fail)
            go_quiet (fail)
            go_wp2
            go_ret
            exact ⟨by rw [HNE.out]; rfl, below_drewN (below_drewN (Below.refl _ _) _) _⟩
          · have hb : ¬ xa.toList = ya.toList := fun e => ha (ba_ext e)
            clear he ha
            go_upto_region 6 with (fail)
            go_quiet (fail)
            go_wp2
            go_ret
            exact ⟨by rw [HNE.out]; rfl, below_drewN (below_drewN (Below.refl _ _) _) _⟩
      · obtain rfl : p = n := by omega
        have hq : ¬ (p : Int) < (p : Int) := by omega
        have HEQ := Lib.hid (show decide (l = m) = true by
          rw [decide_eq_true_iff]
          rw [List.take_of_length_le (by have := HN.out; omega), List.take_of_length_le (by have := HLEN.out; omega)] at hT
          exact hT)
        clear hT
        go_wp2
        go_ret
        exact ⟨by rw [HEQ.out]; rfl, below_drewN (Below.refl _ _) _⟩
  · have HNE := Lib.hid (show decide (l = m) = false by
      rw [decide_eq_false_iff_not]
      rintro rfl
      exact hlen rfl)
    have hne : ((l.length : Int) == (m.length : Int)) = false := by rw [beq_eq_false_iff_ne]; omega
    have hne2 : ¬ (l.length : Int) = (m.length : Int) := by omega
    clear hlen
    go_enter Tryz.func52, Tryz.ntmps52
    go_wp2
    go_ret
    exact ⟨by rw [HNE.out]; rfl, (Below.refl _ _)⟩
/-- A step, read: its struct value. -/
def StepV (w : World) (st : PStep) (v : Value) : Prop := ∃ kv, v = .agg #[.string st.1, kv] ∧ KeysAt w w.heap.size kv st.2
theorem rest1_any (v1 v2 : Value) (x y : PStep) (w : World) (h1 : StepV w x v1) (h2 : StepV w y v2) (hx : x.2.length ≤ 1000000) (hy : y.2.length ≤ 1000000) :
    Calls Tryz.prog 51 #[v1, v2] w (EqPost (decide (x = y)) w) := by
  obtain ⟨k1, rfl, hk1⟩ := h1
  obtain ⟨k2, rfl, hk2⟩ := h2
  obtain ⟨xa, xb⟩ := x
  obtain ⟨ya, yb⟩ := y
  simp only at *
  have HK1 := Lib.hid hk1
  have HK2 := Lib.hid hk2
  obtain ⟨A1, c1, rfl, -, -, -⟩ := hk1
  obtain ⟨A2, c2, rfl, -, -, -⟩ := hk2
  have HB2 := Lib.hid (((Below.refl w.heap.size w).alloc (Nat.le_refl _) (.cells #[.string xa, .slice A1 xb.length c1] 70)).alloc (by simp) (.cells #[.string ya, .slice A2 yb.length c2] 70))
  have HBS := Lib.hid (show w.heap.size ≤ ((w.alloc (.cells #[.string xa, .slice A1 xb.length c1] 70)).alloc (.cells #[.string ya, .slice A2 yb.length c2] 70)).heap.size by simp; omega)
  have HE := Lib.hid (equal_any _ _ xb yb _ (HK1.out.more HB2.out HBS.out) (HK2.out.more HB2.out HBS.out) hx hy)
  by_cases ha : xa = ya
  · subst ha
    have HD := Lib.hid (show decide ((xa, xb) = (xa, yb)) = decide (xb = yb) by simp)
    go_enter Tryz.func51, Tryz.ntmps51
    go_wp2_with (go_at_call 52; go_loud (refine HE.out.mono ?_; rintro en w1 ⟨rfl, hB1⟩))
    go_ret
    exact ⟨by rw [HD.out]; rfl, HB2.out.trans (hB1.mono HBS.out)⟩
  · have hb : (xa.toList == ya.toList) = false := by rw [ba_beq]; simp [ha]
    have hb2 : ¬ xa.toList = ya.toList := fun e => ha (ba_ext e)
    have HD := Lib.hid (show decide ((xa, xb) = (ya, yb)) = false by simp [ha])
    clear ha
    go_enter Tryz.func51, Tryz.ntmps51
    go_wp2
    go_ret
    exact ⟨by rw [HD.out]; rfl, HB2.out⟩
/-- A row of steps, read. -/
def StepsR (w : World) (v : Value) (l : List PStep) (vs : List Value) : Prop :=
  ∃ A c, v = .slice A l.length c ∧ l.length ≤ c ∧ c ≤ maxLen ∧ Reads w w.heap.size 2 A l.length (stepCells l vs) ∧ vs.length = l.length ∧ (∀ (i : Nat) (st : PStep) (kv : Value), l[i]? = some st → vs[i]? = some kv → KeysAt w w.heap.size kv st.2)
theorem StepsR.more {w w' : World} {v : Value} {l : List PStep} {vs : List Value} (h : StepsR w v l vs) (hb : Below w.heap.size w w') : StepsR w' v l vs := by
  obtain ⟨A, c, e, h1, h2, h3, h4, h5⟩ := h
  exact ⟨A, c, e, h1, h2, (h3.below hb).more hb.size, h4, fun i st kv hi hj => (h5 i st kv hi hj).more hb hb.size⟩
theorem StepsIn.reads {w : World} {base : Nat} {v : Value} {l : List PStep} {vs : List Value} (h : StepsIn w base v l vs) : StepsR w v l vs := by
  obtain ⟨h1, h2, h3⟩ := h
  obtain ⟨A, c, rfl, a, b, hr⟩ := own_form h2
  refine ⟨A, c, rfl, a, b, hr, h1, fun i st kv hi hj => ?_⟩
  obtain ⟨A', c', rfl, a', b', hr'⟩ := own_form (h3.1 i st kv hi hj)
  exact ⟨A', c', rfl, a', b', hr'⟩
set_option maxHeartbeats 4000000 in
theorem equalfunc_any (v1 v2 : Value) (l m : List PStep) (vs ws : List Value) (w : World) (h1 : StepsR w v1 l vs) (h2 : StepsR w v2 m ws) (hl : l.length ≤ 1000000) (hm : m.length ≤ 1000000)
    (hkl : ∀ st ∈ l, st.2.length ≤ 1000000) (hkm : ∀ st ∈ m, st.2.length ≤ 1000000) :
    Calls Tryz.prog 50 #[v1, v2, .func (.func 51) #[] #[]] w (EqPost (decide (l = m)) w) := by
  obtain ⟨A1, c1, rfl, -, -, hR1, hv1, hK1⟩ := h1
  obtain ⟨A2, c2, rfl, -, -, hR2, hv2, hK2⟩ := h2
  have HR1 := Lib.hid hR1
  have HR2 := Lib.hid hR2
  have HK1 := Lib.hid hK1
  have HK2 := Lib.hid hK2
  have HV := Lib.hid (And.intro hv1 hv2)
  have HKS := Lib.hid (And.intro hkl hkm)
  clear hR1 hR2 hv1 hv2 hK1 hK2 hkl hkm
  by_cases hlen : l.length = m.length
  · have HLEN := Lib.hid hlen
    rw [← hlen]
    generalize hn : l.length = n at *
    have HN := Lib.hid hn
    have hn1 : (n : Int) ≤ 1000000 := by omega
    clear hlen hn hm
    go_enter Tryz.func50, Tryz.ntmps50
    go_wp2
    go_loopw [7, 8, 9, 17] (fun _ _ _ iv wr => ∃ p : Nat, iv = .int .i64 (p : Int) ∧ p ≤ n ∧ l.take p = m.take p ∧ Below w.heap.size w wr) (fun _ _ _ iv _ => n - (Lib.intOf iv).toNat)
    case atStart => exact ⟨0, rfl, Nat.zero_le _, by simp, Below.refl _ _⟩
    case round =>
      obtain ⟨p, rfl, hp, hT, hB⟩ := hrel
      by_cases hlt : p < n
      · obtain ⟨x, hx⟩ : ∃ x, l[p]? = some x := ⟨l[p]'(by have := HN.out; omega), by have := HN.out; simp [this, hlt]⟩
        obtain ⟨y, hy⟩ : ∃ y, m[p]? = some y := ⟨m[p]'(by have := HLEN.out; omega), by have := HLEN.out; simp [← this, hlt]⟩
        obtain ⟨kx, hkx⟩ : ∃ kx, vs[p]? = some kx := ⟨vs[p]'(by have := HV.out.1; have := HN.out; omega), by have := HV.out.1; have := HN.out; simp [show p < vs.length by omega]⟩
        obtain ⟨ky, hky⟩ : ∃ ky, ws[p]? = some ky := ⟨ws[p]'(by have := HV.out.2; have := HLEN.out; omega), by have := HV.out.2; have := HLEN.out; simp [show p < ws.length by omega]⟩
        have hq : (p : Int) < (n : Int) := by omega
        obtain ⟨b1, o1, rfl, hb1, hcl1⟩ := (HR1.out.below hB).spot (by omega) (by omega)
        obtain ⟨b2, o2, rfl, hb2, hcl2⟩ := (HR2.out.below hB).spot (by have := HLEN.out; omega) (by omega)
        have hb1w : b1 < wr.heap.size := Nat.lt_of_lt_of_le hb1 hB.size
        have hb2w : b2 < wr.heap.size := Nat.lt_of_lt_of_le hb2 hB.size
        have ha1 := stepCells_at l vs p x kx hx hkx
        have ha2 := stepCells_at m ws p y ky hy hky
        have hKx := HK1.out p x kx hx hkx
        have hKy := HK2.out p y ky hy hky
        have r0 := hcl1 _ _ ha1.1
        have r1 : wr.cell? ⟨b1, o1 + p * 2 + 1, none⟩ = some kx := hcl1 _ _ ha1.2
        have r2 := hcl2 _ _ ha2.1
        have r3 : wr.cell? ⟨b2, o2 + p * 2 + 1, none⟩ = some ky := hcl2 _ _ ha2.2
        have HX := Lib.hid (And.intro hx hy)
        have HT := Lib.hid hT
        have HB := Lib.hid hB
        have HA := Lib.hid (((Below.refl wr.heap.size wr).alloc (Nat.le_refl _) (.cells #[.string x.1, kx] 70)).alloc (by simp) (.cells #[.string y.1, ky] 70))
        have HX1 := Lib.hid (show StepV ((wr.alloc (.cells #[.string x.1, kx] 70)).alloc (.cells #[.string y.1, ky] 70)) x (.agg #[.string x.1, kx]) from ⟨kx, rfl, hKx.more (hB.trans (HA.out.mono hB.size)) (Nat.le_trans hB.size HA.out.size)⟩)
        have HX2 := Lib.hid (show StepV ((wr.alloc (.cells #[.string x.1, kx] 70)).alloc (.cells #[.string y.1, ky] 70)) y (.agg #[.string y.1, ky]) from ⟨ky, rfl, hKy.more (hB.trans (HA.out.mono hB.size)) (Nat.le_trans hB.size HA.out.size)⟩)
        obtain ⟨Ax, cx, rfl, -, -, -⟩ := hKx
        obtain ⟨Ay, cy, rfl, -, -, -⟩ := hKy
        have HC := Lib.hid (rest1_any _ _ x y _ HX1.out HX2.out (HKS.out.1 x (List.mem_of_getElem? hx)) (HKS.out.2 y (List.mem_of_getElem? hy)))
        clear hcl1 hcl2 ha1 ha2 hx hy hkx hky hT hB
        by_cases he : x = y
        · have HD := Lib.hid (show decide (x = y) = true by simp [he])
          rw [HD.out] at HC
          have HE := Lib.hid he
          clear he
          go_wp2_with (go_at_call 51; go_loud (refine HC.out.mono ?_; rintro en w1 ⟨rfl, hB1⟩; have HB1 := Lib.hid hB1; clear hB1))
          refine ⟨⟨p + 1, by simp, hlt, ?_, (HB.out.trans (HA.out.mono HB.out.size)).trans (HB1.out.mono (Nat.le_trans HB.out.size HA.out.size))⟩, by simp [Lib.intOf]; omega⟩
          rw [List.take_add_one, List.take_add_one, HT.out, HX.out.1, HX.out.2, HE.out]
        · have HD := Lib.hid (show decide (x = y) = false by simp [he])
          rw [HD.out] at HC
          have HNE := Lib.hid (show decide (l = m) = false by
            rw [decide_eq_false_iff_not]
            rintro rfl
            have h := HX.out
            rw [h.1] at h
            exact he (Option.some.inj h.2))
          clear he
          go_wp2_with (go_at_call 51; go_loud (refine HC.out.mono ?_; rintro en w1 ⟨rfl, hB1⟩; have HB1 := Lib.hid hB1; clear hB1))
          go_ret
          exact ⟨by rw [HNE.out]; rfl, (HB.out.trans (HA.out.mono HB.out.size)).trans (HB1.out.mono (Nat.le_trans HB.out.size HA.out.size))⟩
      · obtain rfl : p = n := by omega
        have hq : ¬ (p : Int) < (p : Int) := by omega
        have HEQ := Lib.hid (show decide (l = m) = true by
          rw [decide_eq_true_iff]
          rw [List.take_of_length_le (by have := HN.out; omega), List.take_of_length_le (by have := HLEN.out; omega)] at hT
          exact hT)
        have HB := Lib.hid hB
        clear hT hB
        go_wp2
        go_ret
        exact ⟨by rw [HEQ.out]; rfl, HB.out⟩
  · have HNE := Lib.hid (show decide (l = m) = false by
      rw [decide_eq_false_iff_not]
      rintro rfl
      exact hlen rfl)
    have hne : ((l.length : Int) == (m.length : Int)) = false := by rw [beq_eq_false_iff_ne]; omega
    have hne2 : ¬ (l.length : Int) = (m.length : Int) := by omega
    clear hlen
    go_enter Tryz.func50, Tryz.ntmps50
    go_wp2
    go_ret
    exact ⟨by rw [HNE.out]; rfl, (Below.refl _ _)⟩
end Go.Proofs.YtkfofdmcggoonaaGreatDoor
/-
  The walks of path.Check, path.Rest and path.In. Condition: the strings are within the reach.
-/
namespace Go.Proofs.YtkfofdmcggoonaaGreatDoor
open Go.RowKit

def ParseSays (s : ByteArray) (w : World) (en : Ending) (w' : World) : Prop := Below w.heap.size w w' ∧
  ((∃ x y, parseM s = .error (x, y) ∧ en = .returned (.tuple #[.slice none 0 0, .agg #[.int .i64 x, .int .i64 y]])) ∨ (∃ l v, parseM s = .ok l ∧ en = .returned (.tuple #[v, .agg #[.int .i64 0, .int .i64 0]]) ∧ StepsOwn w' w.heap.size v l))
theorem parse_says (s : ByteArray) (w : World) (hs : s.size ≤ 140737488355328) : Calls Tryz.prog 32 #[.string s] w (ParseSays s w) := parse_any s w hs
theorem results_row {fn : Func} {P : Program} {p : Tmp} {ty : TypeId} (h : fn.results = #[.cell p ty]) (tmps : Array Value) (w : World) (g : Nat) (t : TypeId) (cs : Array Value) (d : TypeDesc)
    (hp : tmps.getD p undef = .pointer (some ⟨g, 0, none⟩)) (hg : Blk w g t cs)
    (hu : P.underlying ty = some d) (hd : (match d with | .struct _ | .array _ _ => true | _ => false) = true) (hi : (P.info? ty).map (·.size) = some cs.size) : (results fn tmps).run P w = .ok (.agg cs) w :=
  results_cell_row h tmps w g t cs (0, 0) d hp hg hu hd hi
theorem check_result {tmps : Array Value} {w : World} {r0 : Nat} {x y : Int} (hB : Blk w r0 43 #[.int .i64 x, .int .i64 y]) (hp : tmps.getD 2 undef = .pointer (some ⟨r0, 0, none⟩)) :
    (results Tryz.f16 tmps).run Tryz.prog w = .ok (.agg #[.int .i64 x, .int .i64 y]) w :=
  results_row Tryz.results16 tmps w r0 43 #[.int .i64 x, .int .i64 y] _ hp hB Tryz.underlying43 rfl spot_info
def errOf (s : ByteArray) : Int × Int := match parseM s with
  | .error e => e
  | .ok _ => (0, 0)
def CheckPost (s : ByteArray) (w : World) (en : Ending) (w' : World) : Prop := en = .returned (.agg #[.int .i64 (errOf s).1, .int .i64 (errOf s).2]) ∧ Below w.heap.size w w'
set_option maxHeartbeats 1000000 in
theorem pcheck_any (s : ByteArray) (w : World) (hs : s.size ≤ 140737488355328) :
    Calls Tryz.prog 16 #[.string s] w (CheckPost s w) := by
  have HP := Lib.hid (fun W => parse_says s W hs)
  have HB0 := Lib.hid (Blk.new w 43 #[.int .i64 0, .int .i64 0])
  have HBA := Lib.hid (show Below w.heap.size w (w.alloc (.cells #[.int .i64 0, .int .i64 0] 43)) from (Below.refl _ _).alloc (Nat.le_refl _) _)
  go_enter Tryz.func16, Tryz.ntmps16
  go_upto_region 2 with (go_at_call 32; go_loud (refine (HP.out _).mono ?_; rintro en w1 ⟨hB1, ⟨x, y, hE, rfl⟩ | ⟨l, v, hE, rfl, hO⟩⟩; rotate_left; obtain ⟨vs, hI⟩ := hO; obtain ⟨A1, c1, rfl, -, -, -⟩ := own_form hI.2.1; clear hI; rotate_right; all_goals (have HE := Lib.hid hE; have HB1 := Lib.hid hB1; have HK := Lib.hid (HB0.out.below hB1 (Blk.lt HB0.out)); clear hE hB1)))
  · have HX := Lib.hid (show errOf s = (x, y) by unfold errOf; rw [HE.out])
    have hk := HK.out.alloc (.cells #[.int .i64 x, .int .i64 y] 43)
    have hn := Blk.new w1 43 #[.int .i64 x, .int .i64 y]
    have HB2 := Lib.hid (show Below w.heap.size w (w1.alloc (.cells #[.int .i64 x, .int .i64 y] 43)) from (HBA.out.trans (HB1.out.mono (by simp))).alloc (by have := HB1.out.size; simp at this; omega) _)
    generalize w1.alloc (.cells #[.int .i64 x, .int .i64 y] 43) = w2 at *
    obtain ⟨b0, b1, b2, b3, b4, b5⟩ := hk.two (.int .i64 x)
    have k0 : w2.cell? ⟨w1.heap.size, 0, none⟩ = some (.int .i64 x) := hn.cell 0
    have k1 : w2.cell? ⟨w1.heap.size, 1, none⟩ = some (.int .i64 y) := hn.cell 1
    have HK2 := Lib.hid (hk.two_set (.int .i64 x) (.int .i64 y))
    clear hk hn HK
    go_wp2
    refine bodyPost_ret (check_result HK2.out rfl) rfl ⟨by rw [HX.out], (HB2.out.setCell (by simp) _).setCell (by simp) _⟩
  · have HX := Lib.hid (show errOf s = (0, 0) by unfold errOf; rw [HE.out])
    have hk := HK.out.alloc (.cells #[.int .i64 0, .int .i64 0] 43)
    have hn := Blk.new w1 43 #[.int .i64 0, .int .i64 0]
    have HB2 := Lib.hid (show Below w.heap.size w (w1.alloc (.cells #[.int .i64 0, .int .i64 0] 43)) from (HBA.out.trans (HB1.out.mono (by simp))).alloc (by have := HB1.out.size; simp at this; omega) _)
    generalize w1.alloc (.cells #[.int .i64 0, .int .i64 0] 43) = w2 at *
    obtain ⟨b0, b1, b2, b3, b4, b5⟩ := hk.two (.int .i64 0)
    have k0 : w2.cell? ⟨w1.heap.size, 0, none⟩ = some (.int .i64 0) := hn.cell 0
    have k1 : w2.cell? ⟨w1.heap.size, 1, none⟩ = some (.int .i64 0) := hn.cell 1
    have HK2 := Lib.hid (hk.two_set (.int .i64 0) (.int .i64 0))
    clear hk hn HK
    go_wp2
    refine bodyPost_ret (check_result HK2.out rfl) rfl ⟨by rw [HX.out], (HB2.out.setCell (by simp) _).setCell (by simp) _⟩

theorem stepCells_take : ∀ (l : List PStep) (vs : List Value) (k : Nat), stepCells (l.take k) (vs.take k) = (stepCells l vs).take (k * 2)
  | _, _, 0 => by simp [stepCells]
  | [], [], k + 1 => by simp [stepCells]
  | [], _ :: _, k + 1 => by simp [stepCells]
  | _ :: _, [], k + 1 => by simp [stepCells]
  | st :: l, v :: vs, k + 1 => by
    rw [show (k + 1) * 2 = k * 2 + 2 by omega]
    simp [stepCells, stepCells_take l vs k]
theorem stepCells_drop : ∀ (l : List PStep) (vs : List Value) (k : Nat), stepCells (l.drop k) (vs.drop k) = (stepCells l vs).drop (k * 2)
  | _, _, 0 => by simp
  | [], [], k + 1 => by simp [stepCells]
  | [], _ :: _, k + 1 => by simp [stepCells]
  | _ :: _, [], k + 1 => by simp [stepCells]
  | st :: l, v :: vs, k + 1 => by
    rw [show (k + 1) * 2 = k * 2 + 2 by omega]
    simp [stepCells, stepCells_drop l vs k]
theorem StepsR.take {w : World} {A : Option Addr} {n c : Nat} {l : List PStep} {vs : List Value} (h : StepsR w (.slice A n c) l vs) {k : Nat} (hk : k ≤ l.length) : StepsR w (.slice A k c) (l.take k) (vs.take k) := by
  obtain ⟨A', c', e, h1, h2, h3, h4, h5⟩ := h
  cases e
  have hl : (l.take k).length = k := by rw [List.length_take]; omega
  refine ⟨A, c, by rw [hl], by omega, h2, ?_, by rw [List.length_take, List.length_take, h4], ?_⟩
  · rw [hl, stepCells_take]
    exact h3.take hk
  · intro i st kv hi hj
    rw [List.getElem?_take] at hi hj
    split at hi
    · rename_i hlt
      rw [if_pos hlt] at hj
      exact h5 i st kv hi hj
    · cases hi
theorem StepsR.drop {w : World} {A : Option Addr} {n c : Nat} {l : List PStep} {vs : List Value} (h : StepsR w (.slice A n c) l vs) {k : Nat} (hk : k ≤ l.length) :
    StepsR w (.slice (if c = k then A else Option.map (fun x => x.add (k * 2)) A) (n - k) (c - k)) (l.drop k) (vs.drop k) := by
  obtain ⟨A', c', e, h1, h2, h3, h4, h5⟩ := h
  cases e
  refine ⟨_, c - k, by rw [List.length_drop], by rw [List.length_drop]; omega, by omega, ?_, by rw [List.length_drop, List.length_drop, h4], ?_⟩
  · rw [stepCells_drop, List.length_drop]
    exact h3.drop hk h1
  · intro i st kv hi hj
    rw [List.getElem?_drop] at hi hj
    exact h5 _ st kv hi hj
theorem stepCells_mem : ∀ (l : List PStep) (vs : List Value) (u : Value), u ∈ stepCells l vs → (∃ s, u = .string s) ∨ (∃ (i : Nat) (st : PStep), l[i]? = some st ∧ vs[i]? = some u)
  | [], _, _, h => by simp [stepCells] at h
  | _ :: _, [], _, h => by simp [stepCells] at h
  | st :: l, v :: vs, u, h => by
    simp only [stepCells, List.mem_cons] at h
    rcases h with h | h | h
    · exact .inl ⟨_, h⟩
    · exact .inr ⟨0, st, rfl, by rw [h]; rfl⟩
    · rcases stepCells_mem l vs u h with h | ⟨i, st', h1, h2⟩
      · exact .inl h
      · exact .inr ⟨i + 1, st', by simpa using h1, by simpa using h2⟩
theorem stepCells_one {w : World} {v : Value} {l : List PStep} {vs : List Value} (h : StepsR w v l vs) : ∀ u ∈ stepCells l vs, u.oneCell' = true := by
  intro u hu
  obtain ⟨_, _, _, _, _, _, _, h5⟩ := h
  rcases stepCells_mem l vs u hu with ⟨s, rfl⟩ | ⟨i, st, h1, h2⟩
  · rfl
  · obtain ⟨A, c, rfl, _⟩ := h5 i st u h1 h2
    rfl
/-- put of one list of steps. -/
theorem put_one (v : Value) (l : List PStep) (vs : List Value) (w : World) (h : StepsR w v l vs) (hs : ∀ st ∈ l, StepSmall st) (hl : l.length ≤ 600000) :
    Calls Tryz.prog 53 #[.slice (some ⟨w.heap.size, 0, none⟩) 1 1] (w.alloc (.cells #[v] 59)) (PutPost l (w.alloc (.cells #[v] 59))) := by
  have hb : Below w.heap.size w (w.alloc (.cells #[v] 59)) := (Below.refl _ _).alloc (Nat.le_refl _) _
  have h' := h.more hb
  have hone := stepCells_one h'
  obtain ⟨A, c, rfl, h1, h2, h3, h4, h5⟩ := h'
  refine put_any _ 1 1 [(.slice A l.length c, l.length, stepCells l vs)] l vs _ rfl ⟨⟨?_, ?_⟩, by simp [flatL], by simp [sumL], h4, h5, hs, hl, by simp⟩
  · have := reads_new w #[.slice A l.length c] 59 1 1 rfl
    simpa using this
  · intro x hx
    simp at hx
    subst hx
    exact ⟨⟨A, c, rfl, h1, h2, h3⟩, hone⟩
/-- The rest of l behind m. -/
def restM (a b : ByteArray) : Option ByteArray := match parseM a, parseM b with
  | .ok l, .ok m => if l.take m.length = m then some (putS (putM (l.drop m.length))) else none
  | _, _ => none
def restV (r : Option ByteArray) : Value := match r with
  | some t => .tuple #[.string t, .bool true]
  | none => .tuple #[.string ByteArray.empty, .bool false]
def RestPost (a b : ByteArray) (w : World) (en : Ending) (w' : World) : Prop := en = .returned (restV (restM a b)) ∧ Below w.heap.size w w'
set_option maxHeartbeats 4000000 in
theorem rest_any (a b : ByteArray) (w : World) (ha : a.size ≤ 140737488355328) (hb : b.size ≤ 140737488355328) :
    Calls Tryz.prog 28 #[.string a, .string b] w (RestPost a b w) := by
  have HPA := Lib.hid (fun W => parse_says a W ha)
  have HPB := Lib.hid (fun W => parse_says b W hb)
  go_enter Tryz.func28, Tryz.ntmps28
  go_upto_region 2 with (go_at_call 32; go_loud (refine (HPA.out _).mono ?_; rintro en w1 ⟨hB1, ⟨x, y, hE, rfl⟩ | ⟨l, v, hE, rfl, hO⟩⟩; rotate_left; obtain ⟨vs, hI⟩ := hO; obtain ⟨A1, c1, rfl, -, -, -⟩ := own_form hI.2.1; have HI := Lib.hid hI; clear hI; rotate_right; all_goals (have HE := Lib.hid hE; have HB1 := Lib.hid hB1; clear hE hB1)))
  · have HX := Lib.hid (show restM a b = none by unfold restM; rw [HE.out])
    have hx0 : (x == 0) = false := by
      rw [beq_eq_false_iff_ne]
      have := parseM_err HE.out
      omega
    have hx1 : ¬ x = 0 := by simpa using hx0
    go_upto_region 3 with (go_at_call 32; go_loud (refine (HPB.out _).mono ?_; rintro en w2 ⟨hB2, ⟨x2, y2, hE2, rfl⟩ | ⟨m, v2, hE2, rfl, hO2⟩⟩; rotate_left; obtain ⟨ws, hI2⟩ := hO2; obtain ⟨A2, c2, rfl, -, -, -⟩ := own_form hI2.2.1; have HI2 := Lib.hid hI2; clear hI2; rotate_right; all_goals (have HE2 := Lib.hid hE2; have HB2 := Lib.hid hB2; clear hE2 hB2)))
    · have hS := Blk.new w1 43 #[.int .i64 x, .int .i64 y]
      have hk7 := (hS.below HB2.out (Blk.lt hS)).alloc (.cells #[.int .i64 x2, .int .i64 y2] 43)
      have hk9 := Blk.new w2 43 #[.int .i64 x2, .int .i64 y2]
      have hw1 : w.heap.size ≤ w1.heap.size := HB1.out.size
      have hw2 : w1.heap.size < w2.heap.size := by have := HB2.out.size; simp at this; omega
      have HBX := Lib.hid (show Below w.heap.size w (w2.alloc (.cells #[.int .i64 x2, .int .i64 y2] 43)) from (((HB1.out.alloc hw1 _).trans (HB2.out.mono (by simp; omega))).alloc (by omega) _))
      have HBY := Lib.hid (show Below w1.heap.size w1 (w2.alloc (.cells #[.int .i64 x2, .int .i64 y2] 43)) from ((((Below.refl _ w1).alloc (Nat.le_refl _) _).trans (HB2.out.mono (by simp))).alloc (by omega) _))
      have HBZ := Lib.hid (show Below w2.heap.size w2 (w2.alloc (.cells #[.int .i64 x2, .int .i64 y2] 43)) from (Below.refl _ w2).alloc (Nat.le_refl _) _)
      generalize w2.alloc (.cells #[.int .i64 x2, .int .i64 y2] 43) = w3 at *
      have k7 : w3.cell? ⟨w1.heap.size, 0, none⟩ = some (.int .i64 x) := hk7.cell 0
      have k9 : w3.cell? ⟨w2.heap.size, 0, none⟩ = some (.int .i64 x2) := hk9.cell 0
      clear hS hk7 hk9
      go_wp2
      go_ret2
      exact ⟨by rw [HX.out]; rfl, HBX.out⟩
    · have hS := Blk.new w1 43 #[.int .i64 x, .int .i64 y]
      have hk7 := (hS.below HB2.out (Blk.lt hS)).alloc (.cells #[.int .i64 0, .int .i64 0] 43)
      have hk9 := Blk.new w2 43 #[.int .i64 0, .int .i64 0]
      have hw1 : w.heap.size ≤ w1.heap.size := HB1.out.size
      have hw2 : w1.heap.size < w2.heap.size := by have := HB2.out.size; simp at this; omega
      have HBX := Lib.hid (show Below w.heap.size w (w2.alloc (.cells #[.int .i64 0, .int .i64 0] 43)) from (((HB1.out.alloc hw1 _).trans (HB2.out.mono (by simp; omega))).alloc (by omega) _))
      have HBY := Lib.hid (show Below w1.heap.size w1 (w2.alloc (.cells #[.int .i64 0, .int .i64 0] 43)) from ((((Below.refl _ w1).alloc (Nat.le_refl _) _).trans (HB2.out.mono (by simp))).alloc (by omega) _))
      have HBZ := Lib.hid (show Below w2.heap.size w2 (w2.alloc (.cells #[.int .i64 0, .int .i64 0] 43)) from (Below.refl _ w2).alloc (Nat.le_refl _) _)
      generalize w2.alloc (.cells #[.int .i64 0, .int .i64 0] 43) = w3 at *
      have k7 : w3.cell? ⟨w1.heap.size, 0, none⟩ = some (.int .i64 x) := hk7.cell 0
      have k9 : w3.cell? ⟨w2.heap.size, 0, none⟩ = some (.int .i64 0) := hk9.cell 0
      clear hS hk7 hk9
      go_wp2
      go_ret2
      exact ⟨by rw [HX.out]; rfl, HBX.out⟩
  · go_upto_region 3 with (go_at_call 32; go_loud (refine (HPB.out _).mono ?_; rintro en w2 ⟨hB2, ⟨x2, y2, hE2, rfl⟩ | ⟨m, v2, hE2, rfl, hO2⟩⟩; rotate_left; obtain ⟨ws, hI2⟩ := hO2; obtain ⟨A2, c2, rfl, -, -, -⟩ := own_form hI2.2.1; have HI2 := Lib.hid hI2; clear hI2; rotate_right; all_goals (have HE2 := Lib.hid hE2; have HB2 := Lib.hid hB2; clear hE2 hB2)))
    · have HX := Lib.hid (show restM a b = none by unfold restM; rw [HE.out, HE2.out])
      have hx0 : (x2 == 0) = false := by
        rw [beq_eq_false_iff_ne]
        have := parseM_err HE2.out
        omega
      have hx1 : ¬ x2 = 0 := by simpa using hx0
      have hS := Blk.new w1 43 #[.int .i64 0, .int .i64 0]
      have hk7 := (hS.below HB2.out (Blk.lt hS)).alloc (.cells #[.int .i64 x2, .int .i64 y2] 43)
      have hk9 := Blk.new w2 43 #[.int .i64 x2, .int .i64 y2]
      have hw1 : w.heap.size ≤ w1.heap.size := HB1.out.size
      have hw2 : w1.heap.size < w2.heap.size := by have := HB2.out.size; simp at this; omega
      have HBX := Lib.hid (show Below w.heap.size w (w2.alloc (.cells #[.int .i64 x2, .int .i64 y2] 43)) from (((HB1.out.alloc hw1 _).trans (HB2.out.mono (by simp; omega))).alloc (by omega) _))
      have HBY := Lib.hid (show Below w1.heap.size w1 (w2.alloc (.cells #[.int .i64 x2, .int .i64 y2] 43)) from ((((Below.refl _ w1).alloc (Nat.le_refl _) _).trans (HB2.out.mono (by simp))).alloc (by omega) _))
      have HBZ := Lib.hid (show Below w2.heap.size w2 (w2.alloc (.cells #[.int .i64 x2, .int .i64 y2] 43)) from (Below.refl _ w2).alloc (Nat.le_refl _) _)
      generalize w2.alloc (.cells #[.int .i64 x2, .int .i64 y2] 43) = w3 at *
      have k7 : w3.cell? ⟨w1.heap.size, 0, none⟩ = some (.int .i64 0) := hk7.cell 0
      have k9 : w3.cell? ⟨w2.heap.size, 0, none⟩ = some (.int .i64 x2) := hk9.cell 0
      clear hS hk7 hk9
      go_wp2
      go_ret2
      exact ⟨by rw [HX.out]; rfl, HBX.out⟩
    · have HSA := Lib.hid (parseM_small HE.out)
      have HSB := Lib.hid (parseM_small HE2.out)
      have hl64 : (l.length : Int) ≤ 64 := by have := HSA.out.2.1; omega
      have hm64 : (m.length : Int) ≤ 64 := by have := HSB.out.2.1; omega
      have hS := Blk.new w1 43 #[.int .i64 0, .int .i64 0]
      have hk7 := (hS.below HB2.out (Blk.lt hS)).alloc (.cells #[.int .i64 0, .int .i64 0] 43)
      have hk9 := Blk.new w2 43 #[.int .i64 0, .int .i64 0]
      have hw1 : w.heap.size ≤ w1.heap.size := HB1.out.size
      have hw2 : w1.heap.size < w2.heap.size := by have := HB2.out.size; simp at this; omega
      have HBX := Lib.hid (show Below w.heap.size w (w2.alloc (.cells #[.int .i64 0, .int .i64 0] 43)) from (((HB1.out.alloc hw1 _).trans (HB2.out.mono (by simp; omega))).alloc (by omega) _))
      have HBY := Lib.hid (show Below w1.heap.size w1 (w2.alloc (.cells #[.int .i64 0, .int .i64 0] 43)) from ((((Below.refl _ w1).alloc (Nat.le_refl _) _).trans (HB2.out.mono (by simp))).alloc (by omega) _))
      have HBZ := Lib.hid (show Below w2.heap.size w2 (w2.alloc (.cells #[.int .i64 0, .int .i64 0] 43)) from (Below.refl _ w2).alloc (Nat.le_refl _) _)
      generalize w2.alloc (.cells #[.int .i64 0, .int .i64 0] 43) = w3 at *
      have k7 : w3.cell? ⟨w1.heap.size, 0, none⟩ = some (.int .i64 0) := hk7.cell 0
      have k9 : w3.cell? ⟨w2.heap.size, 0, none⟩ = some (.int .i64 0) := hk9.cell 0
      clear hS hk7 hk9
      by_cases hml : m.length ≤ l.length
      · have hq : ¬ (l.length : Int) < (m.length : Int) := by omega
        have hcl : (m.length : Int) ≤ (c1 : Int) := by
          obtain ⟨A', c', heq, h1, -, -⟩ := own_form HI.out.2.1
          cases heq
          omega
        have hRA : StepsR w3 (.slice A1 l.length c1) l vs := HI.out.reads.more HBY.out
        have hRB : StepsR w3 (.slice A2 m.length c2) m ws := HI2.out.reads.more HBZ.out
        have HRA := Lib.hid hRA
        have HRB := Lib.hid hRB
        have HEQ := Lib.hid (equalfunc_any _ _ (l.take m.length) m _ _ w3 (hRA.take hml) hRB (by rw [List.length_take]; omega) (by omega) (fun st hst => by have := HSA.out.1 st (List.mem_of_mem_take hst); have := this.2.1; omega) (fun st hst => by have := HSB.out.1 st hst; have := this.2.1; omega))
        clear hRA hRB
        by_cases he : l.take m.length = m
        · rw [show decide (l.take m.length = m) = true by simp [he]] at HEQ
          have HE3 := Lib.hid he
          have HML := Lib.hid hml
          have HSD := Lib.hid (show ∀ st ∈ l.drop m.length, StepSmall st from fun st hst => (HSA.out.1 st (List.mem_of_mem_drop hst)).small)
          clear he
          go_upto_region 8 with (first
            | (go_at_call 50; go_loud (refine HEQ.out.mono ?_; rintro en w4 ⟨rfl, hB4⟩; have HB4 := Lib.hid hB4; clear hB4))
            | (go_at_call 53; go_loud (refine (put_one _ (l.drop m.length) (vs.drop m.length) w4 ((HRA.out.more HB4.out).drop HML.out) HSD.out (by have := HSA.out.2.1; rw [List.length_drop]; omega)).mono ?_; rintro en w5 ⟨rfl, hB5⟩; have HB5 := Lib.hid hB5; clear hB5)))
          have HX := Lib.hid (show restM a b = some (putS (putM (l.drop m.length))) by unfold restM; rw [HE.out, HE2.out]; simp only; rw [if_pos HE3.out])
          go_wp2
          all_goals go_ret2
          all_goals exact ⟨by rw [HX.out]; rfl, HBX.out.trans (((HB4.out.mono HBX.out.size).alloc (Nat.le_trans HBX.out.size HB4.out.size) _).trans (HB5.out.mono (by have := HBX.out.size; have := HB4.out.size; simp; omega)))⟩
        · rw [show decide (l.take m.length = m) = false by simp [he]] at HEQ
          have HX := Lib.hid (show restM a b = none by unfold restM; rw [HE.out, HE2.out]; simp only; rw [if_neg he])
          clear he
          go_wp2_with (go_at_call 50; go_loud (refine HEQ.out.mono ?_; rintro en w4 ⟨rfl, hB4⟩; have HB4 := Lib.hid hB4; clear hB4))
          go_ret2
          exact ⟨by rw [HX.out]; rfl, HBX.out.trans (HB4.out.mono HBX.out.size)⟩
      · have hq : (l.length : Int) < (m.length : Int) := by omega
        have HX := Lib.hid (show restM a b = none by
          unfold restM
          rw [HE.out, HE2.out]
          simp only
          rw [if_neg]
          intro e
          have := congrArg List.length e
          rw [List.length_take] at this
          omega)
        clear hml
        go_wp2
        go_ret2
        exact ⟨by rw [HX.out]; rfl, HBX.out⟩
def InPost (a b : ByteArray) (w : World) (en : Ending) (w' : World) : Prop := en = .returned (.bool (restM a b).isSome) ∧ Below w.heap.size w w'
theorem in_any (a b : ByteArray) (w : World) (ha : a.size ≤ 140737488355328) (hb : b.size ≤ 140737488355328) :
    Calls Tryz.prog 41 #[.string a, .string b] w (InPost a b w) := by
  have HR := Lib.hid (rest_any a b w ha hb)
  cases hr : restM a b with
  | none =>
    have HM := Lib.hid (show ∀ en W, RestPost a b w en W → en = .returned (.tuple #[.string ByteArray.empty, .bool false]) ∧ Below w.heap.size w W from fun en W h => by
      unfold RestPost at h
      rw [hr] at h
      exact h)
    have HX := Lib.hid (show (restM a b).isSome = false by rw [hr]; rfl)
    clear hr
    go_enter Tryz.func41, Tryz.ntmps41
    go_wp2_with (go_at_call 28; go_loud (refine HR.out.mono ?_; intro en w1 h1; obtain ⟨rfl, hB1⟩ := HM.out _ _ h1; clear h1))
    go_ret
    exact ⟨by rw [HX.out]; rfl, hB1⟩
  | some t =>
    have HM := Lib.hid (show ∀ en W, RestPost a b w en W → en = .returned (.tuple #[.string t, .bool true]) ∧ Below w.heap.size w W from fun en W h => by
      unfold RestPost at h
      rw [hr] at h
      exact h)
    have HX := Lib.hid (show (restM a b).isSome = true by rw [hr]; rfl)
    clear hr
    go_enter Tryz.func41, Tryz.ntmps41
    go_wp2_with (go_at_call 28; go_loud (refine HR.out.mono ?_; intro en w1 h1; obtain ⟨rfl, hB1⟩ := HM.out _ _ h1; clear h1))
    go_ret
    exact ⟨by rw [HX.out]; rfl, hB1⟩
end Go.Proofs.YtkfofdmcggoonaaGreatDoor
/-
  The walk of path.Print; lying in one another, plainly. Condition: the steps are small.
-/
namespace Go.Proofs.YtkfofdmcggoonaaGreatDoor
open Go.RowKit

theorem print_any (v : Value) (l : List PStep) (vs : List Value) (w : World) (h : StepsR w v l vs) (hs : ∀ st ∈ l, StepSmall st) (hl : l.length ≤ 600000) :
    Calls Tryz.prog 39 #[v] w (PutPost l w) := by
  have HP := Lib.hid (put_one v l vs w h hs hl)
  obtain ⟨A, c, rfl, -, -, -, -, -⟩ := h
  go_enter Tryz.func39, Tryz.ntmps39
  go_wp2_with (go_at_call 53; go_loud (refine HP.out.mono ?_; rintro en w1 ⟨rfl, hB1⟩))
  go_ret2
  exact ⟨rfl, ((Below.refl _ _).alloc (Nat.le_refl _) _).trans (hB1.mono (by simp))⟩

/-- Lies a in b? -/
def inB (a b : ByteArray) : Bool := (restM a b).isSome
theorem inB_ok {a b : ByteArray} : inB a b = true ↔ ∃ l m, parseM a = .ok l ∧ parseM b = .ok m ∧ l.take m.length = m := by
  unfold inB restM
  cases ha : parseM a with
  | error e => simp
  | ok l =>
    cases hb : parseM b with
    | error e => simp
    | ok m => simp
theorem parse_empty : parseM ByteArray.empty = .ok [] := by kernel_rfl
def rightB (a : ByteArray) : Bool := (errOf a).1 == 0
theorem rightB_ok {a : ByteArray} : rightB a = true ↔ ∃ l, parseM a = .ok l := by
  unfold rightB errOf
  cases ha : parseM a with
  | ok l => simp
  | error e =>
    obtain ⟨x, y⟩ := e
    have := parseM_err ha
    simp
    omega
theorem bool_iff {a b : Bool} (h : a = true ↔ b = true) : a = b := by cases a <;> cases b <;> simp_all
theorem in_self (a : ByteArray) : inB a a = rightB a := bool_iff (by
  rw [inB_ok, rightB_ok]
  constructor
  · rintro ⟨l, m, h, -, -⟩; exact ⟨l, h⟩
  · rintro ⟨l, h⟩; exact ⟨l, l, h, h, by simp⟩)
theorem in_none (a : ByteArray) : inB a ByteArray.empty = rightB a := bool_iff (by
  rw [inB_ok, rightB_ok]
  constructor
  · rintro ⟨l, m, h, -, -⟩; exact ⟨l, h⟩
  · rintro ⟨l, h⟩; exact ⟨l, [], h, parse_empty, by simp⟩)
theorem in_trans {a b c : ByteArray} (h1 : inB a b = true) (h2 : inB b c = true) : inB a c = true := by
  rw [inB_ok] at *
  obtain ⟨l, m, ha, hb, h1⟩ := h1
  obtain ⟨m', n, hb', hc, h2⟩ := h2
  rw [hb] at hb'
  cases hb'
  refine ⟨l, n, ha, hc, ?_⟩
  have hle : n.length ≤ m.length := by
    have := congrArg List.length h2
    rw [List.length_take] at this
    omega
  have e : (l.take m.length).take n.length = l.take n.length := by rw [List.take_take, Nat.min_eq_left hle]
  rw [← e, h1]
  exact h2
theorem in_anti {a b : ByteArray} (h1 : inB a b = true) (h2 : inB b a = true) : a = b := by
  rw [inB_ok] at *
  obtain ⟨l, m, ha, hb, h1⟩ := h1
  obtain ⟨m', l', hb', ha', h2⟩ := h2
  rw [hb] at hb'
  cases hb'
  rw [ha] at ha'
  cases ha'
  have e1 : m.length ≤ l.length := by have := congrArg List.length h1; rw [List.length_take] at this; omega
  have e2 : l.length ≤ m.length := by have := congrArg List.length h2; rw [List.length_take] at this; omega
  have : l = m := by rw [List.take_of_length_le (by omega)] at h1; exact h1
  subst this
  exact parse_inj ha hb
theorem in_line {a b c : ByteArray} (h1 : inB a b = true) (h2 : inB a c = true) : inB b c = true ∨ inB c b = true := by
  rw [inB_ok] at h1 h2
  obtain ⟨l, m, ha, hb, h1⟩ := h1
  obtain ⟨l', n, ha', hc, h2⟩ := h2
  rw [ha] at ha'
  cases ha'
  rcases Nat.le_total n.length m.length with h | h
  · refine .inl (inB_ok.2 ⟨m, n, hb, hc, ?_⟩)
    rw [← h1, List.take_take, Nat.min_eq_left h]
    exact h2
  · refine .inr (inB_ok.2 ⟨n, m, hc, hb, ?_⟩)
    rw [← h2, List.take_take, Nat.min_eq_left h]
    exact h1
end Go.Proofs.YtkfofdmcggoonaaGreatDoor
