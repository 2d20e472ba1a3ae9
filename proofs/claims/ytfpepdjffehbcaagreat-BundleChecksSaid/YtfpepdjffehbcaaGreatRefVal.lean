/-
  What the document's value reader does at a byte, against valAt; no program in sight. Plain Lean; no condition.
-/
import Derived.Test.YtfpepdjffehbcaaGreatRefName
import Derived.Test.YtfpepdjffehbcaaGreatPathPrint
import Derived.Test.YtfpepdjffehbcaaGreatPathRT
import Derived.Deep.RegionWith
import Derived.Deep.CutBlock
set_option linter.unusedVariables false
set_option linter.unusedSimpArgs false
namespace Go.Proofs.YtfpepdjffehbcaaGreat
open Go.RowKit

theorem decode_byte {s : ByteArray} {q : Nat} (h : q < s.size) (hb : s[q].toNat < 128) : Utf8.decode s q = (s[q].toNat, 1) := by
  rw [decode_eq, byN_at h, if_pos hb]
theorem decode_big {s : ByteArray} {q : Nat} (h : q < s.size) (hb : ¬ s[q].toNat < 128) : 128 ≤ (Utf8.decode s q).1 := by
  rw [decode_eq, byN_at h, if_neg hb]
  split
  · split
    · assumption
    · simp
  · split
    · split
      · rename_i h2
        simp only [Bool.and_eq_true, decide_eq_true_eq] at h2
        simp only
        omega
      · simp
    · split
      · split
        · rename_i h2
          simp only [Bool.and_eq_true, decide_eq_true_eq] at h2
          simp only
          omega
        · simp
      · simp
theorem decode_self (s : ByteArray) (q : Nat) : Utf8.decode s q = ((Utf8.decode s q).1, (Utf8.decode s q).2) := rfl
theorem special_lowR {b : UInt8} (h : 0 ≤ specialI (b.toNat : Int)) : b.toNat < 128 := by
  have : ∀ n : Fin 256, 0 ≤ specialI ((UInt8.ofNat n.val).toNat : Int) → (UInt8.ofNat n.val).toNat < 128 := by decide +kernel
  have := this ⟨b.toNat, b.toNat_lt⟩
  simp only [UInt8.ofNat_toNat] at this
  exact this h
section
variable {s : ByteArray} {fr q : Nat} {out : List UInt8}
theorem rv_shut (h : q < s.size) (hb : s[q].toNat = 93) : valAt s fr q false out = if out.length > 64 then .error (3, (fr : Int)) else .ok (out, q + 1) :=
  va_shut h (decode_byte h (by omega)) hb
theorem rv_esc (h : q < s.size) (hb : s[q].toNat = 92) : valAt s fr q false out = valAt s fr (q + 1) true out := va_back h (decode_byte h (by omega)) hb
theorem rv_back_end (h : q < s.size) (hb : s[q].toNat = 92) (hq : q + 1 = s.size) : valAt s fr q false out = .error (160, ((q + 1 : Nat) : Int)) := by
  rw [rv_esc h hb, valAt_end (by omega), hq]
theorem rv_back_bad (h : q < s.size) (hb : s[q].toNat = 92) (hq : q + 1 < s.size) (hs : ¬ 0 ≤ specialI (s[q + 1].toNat : Int)) : valAt s fr q false out = .error (160, ((q + 1 : Nat) : Int)) := by
  rw [rv_esc h hb]
  refine va_esc_bad hq (decode_self s (q + 1)) ?_
  rintro ⟨h1, h2⟩
  by_cases hl : s[q + 1].toNat < 128
  · rw [decode_byte hq hl] at h2
    exact hs h2
  · have := decode_big hq hl
    omega
theorem rv_back_go (h : q < s.size) (hb : s[q].toNat = 92) (hq : q + 1 < s.size) (hs : 0 ≤ specialI (s[q + 1].toNat : Int)) : valAt s fr q false out = valAt s fr (q + 2) false (out ++ (s.extract (q + 1) (q + 2)).data.toList) := by
  have hl := special_lowR hs
  rw [rv_esc h hb, va_esc hq (decode_byte hq hl) hl hs, extract_seg, show q + 2 = q + 1 + 1 by omega, seg_one hq]
  simp
theorem high_ne (h : q < s.size) {c : Nat} (hb : s[q].toNat ≠ c) (hc : c < 128) : (Utf8.decode s q).1 ≠ c := by
  by_cases hl : s[q].toNat < 128
  · rw [decode_byte h hl]
    exact hb
  · have := decode_big h hl
    omega
theorem form_right (h : q < s.size) (hbr : brokenAt s q = none) : formR s q = ((Utf8.decode s q).1 : Int) := by
  unfold formR
  rw [if_neg (brokenAt_go h hbr).1]
def stopR (r : Int) : Bool := controlR r || (r == 91) || (r == 47) || (r == 61)
theorem stopR_iff (r : Nat) : stopR (r : Int) = true ↔ (controlR (r : Int) = true ∨ r = 91 ∨ r = 47 ∨ r = 61) := by
  unfold stopR
  have e1 : ((r : Int) = 91) ↔ r = 91 := by omega
  have e2 : ((r : Int) = 47) ↔ r = 47 := by omega
  have e3 : ((r : Int) = 61) ↔ r = 61 := by omega
  rw [Bool.or_eq_true, Bool.or_eq_true, Bool.or_eq_true, beq_iff_eq, beq_iff_eq, beq_iff_eq, e1, e2, e3, or_assoc, or_assoc]
theorem rv_bad (h : q < s.size) (h92 : s[q].toNat ≠ 92) (h93 : s[q].toNat ≠ 93) (hbr : brokenAt s q = none) (hr : stopR (formR s q) = true) : valAt s fr q false out = .error (160, (q : Int)) := by
  rw [form_right h hbr, stopR_iff] at hr
  exact va_bad h (decode_self s q) (high_ne h h92 (by omega)) (high_ne h h93 (by omega)) hr
theorem rv_go (h : q < s.size) (h92 : s[q].toNat ≠ 92) (h93 : s[q].toNat ≠ 93) (hbr : brokenAt s q = none) (hr : stopR (formR s q) = false) :
    valAt s fr q false out = valAt s fr (q + (Utf8.decode s q).2) false (out ++ (s.extract q (q + (Utf8.decode s q).2)).data.toList) := by
  have hr' : ¬ (stopR (formR s q) = true) := by rw [hr]; simp
  rw [form_right h hbr, stopR_iff] at hr'
  rw [va_go h (decode_self s q) (high_ne h h92 (by omega)) (high_ne h h93 (by omega)) hr', enc_seg h (brokenAt_go h hbr).1, extract_seg]
end
/-- A value's end is no place within a piece. -/
theorem valF_bound (s : ByteArray) (fr : Nat) : ∀ (k q : Nat) (esc : Bool) (out l : List UInt8) (r : Nat), valF k s fr q esc out = .ok (l, r) → brokenAt s q = none → brokenAt s r = none ∧ q < r := by
  intro k
  induction k with
  | zero => intro q esc out l r h; cases h
  | succ k ih =>
    intro q esc out l r h hbr
    have hd := decode_pos s q
    simp only [valF] at h
    split at h
    · rename_i hq
      have hgo := (brokenAt_go hq hbr).2
      split at h
      · split at h
        · have := ih _ _ _ _ _ h hgo
          exact ⟨this.1, by omega⟩
        · cases h
      · split at h
        · have := ih _ _ _ _ _ h hgo
          exact ⟨this.1, by omega⟩
        · split at h
          · rename_i h93
            split at h
            · cases h
            · simp only [Except.ok.injEq, Prod.mk.injEq] at h
              obtain ⟨-, rfl⟩ := h
              have hd2 : s[q].toNat = 93 ∧ (Utf8.decode s q).2 = 1 := decode_low hq (r := 93) (Prod.ext h93 rfl) (by omega)
              refine ⟨?_, by omega⟩
              rw [hd2.2] at hgo
              exact hgo
          · split at h
            · cases h
            · have := ih _ _ _ _ _ h hgo
              exact ⟨this.1, by omega⟩
    · cases h
theorem valAt_bound {s : ByteArray} {fr q r : Nat} {out l : List UInt8} (h : valAt s fr q false out = .ok (l, r)) (hb : brokenAt s q = none) : brokenAt s r = none ∧ q < r := valF_bound s fr _ q false out l r h hb
theorem nameEnd_bound {s : ByteArray} : ∀ (n p : Nat), s.size ≤ p + n → p ≤ s.size → brokenAt s p = none → brokenAt s (nameEnd s p) = none := by
  intro n
  induction n with
  | zero => intro p h1 h2 hb; rw [nameEnd_end (by omega)]; exact hb
  | succ n ih =>
    intro p h1 h2 hb
    by_cases hlt : p < s.size
    · rw [nameEnd_step hlt]
      split
      · rename_i hn
        exact ih (p + 1) (by omega) (by omega) (brokenAt_ascii hlt hb (nameB_low hn))
      · exact hb
    · rw [nameEnd_end hlt]
      exact hb
theorem nameM_bound {s : ByteArray} {p q : Nat} {nm : ByteArray} (h : nameM s p = .ok (nm, q)) (hp : p ≤ s.size) (hb : brokenAt s p = none) : brokenAt s q = none := by
  rw [(nameM_ok h hp).2.2.2.1]
  exact nameEnd_bound s.size p (by omega) hp hb
theorem stands_bound {s : ByteArray} {p : Nat} {b : UInt8} (h : standsB s p b = true) (hl : b.toNat < 128) (hb : brokenAt s p = none) : brokenAt s (p + 1) = none := by
  obtain ⟨h1, h2⟩ := stands_at h
  exact brokenAt_ascii h1 hb (by rw [h2]; exact hl)
theorem keysF_bound (s : ByteArray) : ∀ (k p : Nat) (ks l : List PKey) (q : Nat), p ≤ s.size → brokenAt s p = none → keysF k s p ks = .ok (l, q) → brokenAt s q = none := by
  intro k
  induction k with
  | zero => intro p ks l q hp hb h; simp [keysF] at h; rw [← h.2]; exact hb
  | succ k ih =>
    intro p ks l q hp hb h
    simp only [keysF] at h
    split at h
    · rename_i hs
      have hl := stands_lt hs
      have hb1 := stands_bound hs (by decide) hb
      cases hn : nameM s (p + 1) with
      | error e => rw [hn] at h; cases h
      | ok x =>
        obtain ⟨key, q1⟩ := x
        have hb2 := nameM_bound hn (by omega) hb1
        rw [hn] at h
        simp only at h
        split at h
        · split at h
          · rename_i hs2
            have hb3 := stands_bound hs2 (by decide) hb2
            cases hv : valAt s (q1 + 1) (q1 + 1) false [] with
            | error e => rw [hv] at h; cases h
            | ok y =>
              obtain ⟨v, r⟩ := y
              have hr := valAt_ok hv
              rw [hv] at h
              exact ih r _ _ _ hr.2 (valAt_bound hv hb3).1 h
          · cases h
        · cases h
    · simp at h
      rw [← h.2]
      exact hb
theorem stepM_bound {s : ByteArray} {p q : Nat} {st : PStep} (h : stepM s p = .ok (st, q)) (hp : p ≤ s.size) (hb : brokenAt s p = none) : brokenAt s q = none := by
  unfold stepM at h
  cases hn : nameM s p with
  | error e => rw [hn] at h; cases h
  | ok x =>
    obtain ⟨nm, q1⟩ := x
    have hq := nameM_ok hn hp
    rw [hn] at h
    simp only at h
    cases hk : keysM s q1 [] with
    | error e => rw [hk] at h; cases h
    | ok y =>
      obtain ⟨ks, r⟩ := y
      rw [hk] at h
      simp at h
      rw [← h.2]
      exact keysF_bound s _ q1 [] ks r hq.2.1 (nameM_bound hn hp hb) hk
end Go.Proofs.YtfpepdjffehbcaaGreat
/-
  The walk of the document's scan: value. Condition: the string is not long (Parse refuses it else).
-/
namespace Go.Proofs.YtfpepdjffehbcaaGreat
open Go.RowKit

theorem satOf' {w : World} {g : Nat} {s : ByteArray} {at_ : Nat} {e a : Int} (h : SC w g s at_ e a) : atOf g w = at_ := satOf h
/-- How much is before the scan at block g; none, behind a fault. -/
def scMu (g n : Nat) (w : World) : Nat := match w.cell? ⟨g, 2, none⟩ with | some (.int _ m) => (if m = 0 then n + 1 - atOf g w else 0) | _ => 0
theorem scMu_ok {w : World} {g n : Nat} {s : ByteArray} {at_ : Nat} {a : Int} (h : SC w g s at_ 0 a) : scMu g n w = n + 1 - at_ := by
  unfold scMu
  rw [h.c2, satOf h]
  exact if_pos rfl
theorem scMu_bad {w : World} {g n : Nat} {s : ByteArray} {at_ : Nat} {e a : Int} (h : SC w g s at_ e a) (he : e ≠ 0) : scMu g n w = 0 := by
  unfold scMu
  rw [h.c2]
  exact if_neg he
theorem rval_next2 {s X : ByteArray} {fr q m2 n : Nat} {V : Except (Int × Int) (List UInt8 × Nat)} (h : V = valAt s fr (q + n) false (X.data.toList ++ (s.extract q (q + n)).data.toList)) (hm2 : m2 = q + n) (hX : X.size ≤ q) (hn : q + n ≤ s.size) :
    m2 ≤ s.size ∧ (X ++ s.extract q m2).size ≤ m2 ∧ V = valAt s fr m2 false (X ++ s.extract q m2).data.toList := by
  subst hm2
  refine ⟨hn, ?_, by rw [h]; rw [ByteArray.data_append, Array.toList_append]⟩
  rw [ByteArray.size_append]
  simp
  omega
theorem four_or {a b c d : Bool} (h : (a || b || c || d) = true) : a = true ∨ (a = false ∧ b = true) ∨ (a = false ∧ b = false ∧ c = true) ∨ (a = false ∧ b = false ∧ c = false ∧ d = true) := by
  cases a <;> cases b <;> cases c <;> cases d <;> simp_all
theorem form_eq (s : ByteArray) (p : Nat) (w : World) (hp : p < s.size) (hs : s.size ≤ 140737488355328) :
    Calls Tryz.prog 88 #[.string s, .int .i64 (p : Int)] w fun en w' => en = .returned (.tuple #[.int .i32 (formR s p), .int .i64 ((Utf8.decode s p).2 : Int)]) ∧ w = w' :=
  (form_any s p w hp hs).mono fun en w' ⟨r, n, h1, h2, h3⟩ => ⟨by rw [h1, h2.1, h2.2], h3.symm⟩
theorem cat_list (a b : ByteArray) : (a ++ b).data.toList = a.data.toList ++ b.data.toList := by rw [ByteArray.data_append, Array.toList_append]
theorem rval_next {s X : ByteArray} {fr q m m2 : Nat} {V : Except (Int × Int) (List UInt8 × Nat)} (h : V = valAt s fr (m + 1) false (X.data.toList ++ (s.extract m (m + 1)).data.toList)) (hm2 : m2 = m + 1) (hX : X.size ≤ q) (hm : m = q + 1 ∧ m < s.size) :
    m2 ≤ s.size ∧ (X ++ s.extract m m2).size ≤ m2 ∧ V = valAt s fr m2 false (X ++ s.extract m m2).data.toList := by
  subst hm2
  refine ⟨by omega, ?_, by rw [h, cat_list]⟩
  rw [ByteArray.size_append]
  simp
  omega
/-- Where value's loop is. -/
def RValIn (g fr : Nat) (s : ByteArray) (a : Int) (w : World) (v : Value) (wr : World) : Prop := ∃ (X : ByteArray) (q : Nat), v = .string X ∧ Only g w wr ∧
  ((SC wr g s q 0 a ∧ q ≤ s.size ∧ X.size ≤ q ∧ brokenAt s q = none ∧ valAt s fr fr false [] = valAt s fr q false X.data.toList) ∨ (∃ x y, x ≠ 0 ∧ SC wr g s q x y ∧ valAt s fr fr false [] = .error (x, y)))
def RValPost (g fr : Nat) (s : ByteArray) (a : Int) (w : World) (en : Ending) (w' : World) : Prop :=
  (∃ x y p X, x ≠ 0 ∧ valAt s fr fr false [] = .error (x, y) ∧ en = .returned (.string X) ∧ SC w' g s p x y ∧ Only g w w') ∨
  (∃ l q, valAt s fr fr false [] = .ok (l, q + 1) ∧ en = .returned (.string (str l)) ∧ SC w' g s q 0 a ∧ Only g w w')

set_option maxHeartbeats 8000000 in
set_option maxRecDepth 100000 in
theorem rvalue_any (g fr : Nat) (s : ByteArray) (a : Int) (w : World) (h : SC w g s fr 0 a) (hfr : fr ≤ s.size) (hs : s.size ≤ 100000) (hbr : brokenAt s fr = none) :
    Calls Tryz.prog 125 #[.pointer (some ⟨g, 0, none⟩)] w (RValPost g fr s a w) := by
  have c0 := h.c0
  have c1 := h.c1
  have HB := Lib.hid hbr
  go_enter Tryz.func125, Tryz.ntmps125
  go_wp2
  go_loopw [4, 5, 6] (fun v _ _ wr => RValIn g fr s a w v wr) (fun _ _ _ wr => scMu g s.size wr)
  case atStart => exact ⟨_, fr, rfl, Only.refl g w, .inl ⟨h, hfr, Nat.zero_le _, HB.out, rfl⟩⟩
  case round =>
    obtain ⟨X, q, rfl, hO, hJ⟩ := hrel
    clear c0 c1 h hbr HB
    rcases hJ with ⟨hR, hq, hX, hb, hV⟩ | ⟨x, y, hx, hR, hV⟩
    · have HV := Lib.hid hV
      have HO := Lib.hid hO
      have HR := Lib.hid hR
      have HB := Lib.hid hb
      have HN := Lib.hid (And.intro hX (And.intro hq hs))
      have c0 := hR.c0
      have c1 := hR.c1
      have c2 := hR.c2
      have f1 := Blk.frozen hR 1
      clear hV hO hb hR hfr
      by_cases hlt : q < s.size
      · have hne : ((q : Int) == (s.size : Int)) = false := by rw [beq_eq_false_iff_ne]; omega
        have hqi : (q : Int) < (s.size : Int) := by omega
        by_cases h93 : s[q].toNat = 93
        · have h93' : ((s[q].toNat : Int) == 93) = true := by rw [h93]; rfl
          have HS := Lib.hid (HV.out.trans (rv_shut hlt h93))
          clear h93
          by_cases h64 : X.data.toList.length > 64
          · have HX := Lib.hid (show valAt s fr fr false [] = .error (3, (fr : Int)) by rw [HS.out, if_pos h64])
            rw [ba_len] at h64
            have h64' : (64 : Int) < (X.size : Int) := by omega
            have HF := Lib.hid (fun k => wrong_set g q s a 3 fr _ (HR.out.drewN k))
            clear h64
            go_wp2
            go_quiet (fail)
            go_wp2
            go_quiet (fail)
            go_wp2_with (go_at_call 89; go_loud (refine (HF.out _).mono ?_; rintro en w1 ⟨rfl, hR1, hO1⟩))
            go_ret
            exact .inl ⟨3, fr, q, X, by omega, HX.out, rfl, hR1, (HO.out.drewN _).trans hO1⟩
          · have HX := Lib.hid (show valAt s fr fr false [] = .ok (X.data.toList, q + 1) by rw [HS.out, if_neg h64])
            rw [ba_len] at h64
            have h64' : ¬ (64 : Int) < (X.size : Int) := by omega
            clear h64
            go_wp2
            go_quiet (fail)
            go_wp2
            go_quiet (fail)
            go_wp2
            go_ret
            exact .inr ⟨_, q, HX.out, by rw [← str_self]; rfl, HR.out.drewN _, HO.out.drewN _⟩
        · have h93' : ((s[q].toNat : Int) == 93) = false := by rw [beq_eq_false_iff_ne]; omega
          by_cases h92 : s[q].toNat = 92
          · have h92' : ((s[q].toNat : Int) == 92) = true := by rw [h92]; rfl
            obtain ⟨m, hm⟩ : ∃ m, q + 1 = m := ⟨_, rfl⟩
            have hR1 : ∀ k, SC ((wr.drewN k).setCell ⟨g, 1, none⟩ (.int .i64 ((q : Int) + 1))) g s m 0 a := fun k => by subst hm; exact (HR.out.drewN k).goto_ (q + 1)
            have hO1 : ∀ k, Only g w ((wr.drewN k).setCell ⟨g, 1, none⟩ (.int .i64 ((q : Int) + 1))) := fun k => (HO.out.drewN k).setCell (.inl rfl) _
            have k0 := fun k => (hR1 k).c0
            have k1 := fun k => (hR1 k).c1
            have kf := fun k => Blk.frozen (hR1 k) 1
            have HR1 := Lib.hid hR1
            have HO1 := Lib.hid hO1
            clear hR1 hO1
            by_cases hend : m = s.size
            · have HX := Lib.hid (show valAt s fr fr false [] = .error (160, (m : Int)) by rw [← hm]; exact HV.out.trans (rv_back_end hlt h92 (hm.trans hend)))
              have hend' : ((m : Int) == (s.size : Int)) = true := by rw [beq_iff_eq]; omega
              have HF := Lib.hid (fun k j => wrong_set g m s a 160 m _ ((HR1.out k).drewN j))
              clear h93 h92 hend hm
              go_wp2
              go_quiet (fail)
              go_wp2
              go_quiet (fail)
              go_wp2
              go_quiet (fail)
              go_wp2
              go_quiet (fail)
              go_wp2_with (go_at_call 89; go_loud (refine (HF.out _ _).mono ?_; rintro en w1 ⟨rfl, hR1, hO1⟩))
              go_ret
              exact .inl ⟨160, m, m, _, by omega, HX.out, rfl, hR1, ((HO1.out _).drewN _).trans hO1⟩
            · have hlt2 : m < s.size := by omega
              have hend' : ((m : Int) == (s.size : Int)) = false := by rw [beq_eq_false_iff_ne]; omega
              have hlt2' : (m : Int) < (s.size : Int) := by omega
              have HSP := Lib.hid (fun W => special_any (s[m].toNat : Int) W)
              by_cases hsp : 0 ≤ specialI (s[m].toNat : Int)
              · have HX := Lib.hid (show valAt s fr fr false [] = valAt s fr (m + 1) false (X.data.toList ++ (s.extract m (m + 1)).data.toList) by subst hm; exact HV.out.trans (rv_back_go hlt h92 hlt2 hsp))
                have HB2 := Lib.hid (show ∀ k, k = m + 1 → brokenAt s k = none from fun k hk => by rw [hk]; exact brokenAt_ascii hlt2 (by subst hm; exact brokenAt_ascii hlt HB.out (by omega)) (special_lowR hsp))
                generalize specialI (s[m].toNat : Int) = sp at *
                have HMQ := Lib.hid (show m = q + 1 ∧ m < s.size by omega)
                clear h93 h92 hend hm
                go_wp2
                go_quiet (fail)
                go_wp2
                go_quiet (fail)
                go_wp2
                go_quiet (fail)
                go_wp2
                go_quiet ((go_at_call 150; exact quiet_left (HSP.out _)))
                have HBD := Lib.hid (show (m : Int) < 100000 ∧ (m : Int) + 1 ≤ (s.size : Int) ∧ X.size < 100000 by omega)
                go_wp2
                have hR2 := fun k j => (HR1.out k).drewN j
                have hO2 := fun k j => (HO1.out k).drewN j
                generalize hWW : ((World.setCell (World.drewN wr _) _ _).drewN _) = W2 at *
                have HR2 := Lib.hid (show SC W2 g s m 0 a by rw [← hWW]; exact hR2 _ _)
                have HO2 := Lib.hid (show Only g w W2 by rw [← hWW]; exact hO2 _ _)
                clear hWW hR2 hO2 k0 k1 kf c0 c1 c2 f1 hX hq
                have c0 := HR2.out.c0
                have c1 := HR2.out.c1
                have f1 := Blk.frozen HR2.out 1
                obtain ⟨m2, hm2⟩ : ∃ m2, m2 = m + 1 := ⟨_, rfl⟩
                have HM2 := Lib.hid hm2
                have hm2i : (m : Int) + 1 = (m2 : Int) := by omega
                have hb1 : (m : Int) < 100000 := HBD.out.1
                have hb2 : (m : Int) ≤ (m2 : Int) := by omega
                have hb3 : (m2 : Int) ≤ (s.size : Int) := by have := HBD.out; omega
                have hb4 : ¬ 9223372036854775807 < X.size + (s.extract m m2).size := by have := HBD.out; simp; omega
                clear hm2
                go_quiet (fail)
                have HY := Lib.hid (rval_next HX.out HM2.out HN.out.1 HMQ.out)
                generalize X ++ s.extract m m2 = Y at *
                clear hb2 hb3 hb4
                go_wp2
                go_roundw
                case rel => exact ⟨Y, m2, rfl, (HO2.out.drewN _).setCell (.inl rfl) _, .inl ⟨(HR2.out.drewN _).goto_ m2, HY.out.1, HY.out.2.1, HB2.out m2 HM2.out, HY.out.2.2⟩⟩
                case measure =>
                  rw [scMu_ok HR.out, scMu_ok ((HR2.out.drewN _).goto_ m2)]
                  have := HM2.out
                  have := HMQ.out
                  omega
              · have HX := Lib.hid (show valAt s fr fr false [] = .error (160, (m : Int)) by subst hm; exact HV.out.trans (rv_back_bad hlt h92 hlt2 hsp))
                have HF := Lib.hid (fun k j => wrong_set g m s a 160 m _ ((HR1.out k).drewN j))
                generalize specialI (s[m].toNat : Int) = sp at *
                clear h93 h92 hend hm
                go_wp2
                go_quiet (fail)
                go_wp2
                go_quiet (fail)
                go_wp2
                go_quiet (fail)
                go_wp2
                go_quiet ((go_at_call 150; exact quiet_left (HSP.out _)))
                go_wp2_with (go_at_call 89; go_loud (refine (HF.out _ _).mono ?_; rintro en w1 ⟨rfl, hR1, hO1⟩))
                go_ret
                exact .inl ⟨160, m, m, _, by omega, HX.out, rfl, hR1, ((HO1.out _).drewN _).trans hO1⟩
          · have h92' : ((s[q].toNat : Int) == 92) = false := by rw [beq_eq_false_iff_ne]; omega
            have hfm := fun W => form_eq s q W hlt (by omega)
            have HST := Lib.hid (And.intro (fun h => HV.out.trans (rv_bad hlt h92 h93 HB.out h)) (fun h => HV.out.trans (rv_go hlt h92 h93 HB.out h)))
            have hP : 1 ≤ (Utf8.decode s q).2 ∧ q + (Utf8.decode s q).2 ≤ s.size ∧ brokenAt s (q + (Utf8.decode s q).2) = none := ⟨decode_pos s q, decode_in hlt, (brokenAt_go hlt HB.out).2⟩
            have HC := Lib.hid (fun W => rcontrol_any (formR s q) W)
            have HSD := Lib.hid (show stopR (formR s q) = (controlR (formR s q) || (formR s q == 91) || (formR s q == 47) || (formR s q == 61)) from rfl)
            have HF := Lib.hid (fun W1 (hR : SC W1 g s q 0 a) k => wrong_set g q s a 160 q _ (hR.drewN k))
            generalize formR s q = r at *
            generalize (Utf8.decode s q).2 = n at *
            have HFM := Lib.hid hfm
            have HP := Lib.hid hP
            clear hfm hP
            generalize controlR r = cb at *
            generalize hb91 : (r == 91) = b91 at *
            generalize hb47 : (r == 47) = b47 at *
            generalize hb61 : (r == 61) = b61 at *
            have HIB := Lib.hid (And.intro HN.out.1 HN.out.2.2)
            clear h92 h93
            cases hst : stopR r
            · have HX := Lib.hid (HST.out.2 hst)
              rw [hst] at HSD
              have hsd : (cb || b91 || b47 || b61) = false := HSD.out.symm
              simp only [Bool.or_eq_false_iff] at hsd
              obtain ⟨⟨⟨rfl, rfl⟩, rfl⟩, rfl⟩ := hsd
              clear hst HSD HST
              go_wp2
              go_quiet (fail)
              go_wp2
              go_quiet (fail)
              go_wp2
              go_quiet (fail)
              go_wp2
              have hR1 := fun a b c => ((HR.out.drewN a).drewN b).drewN c
              have hO1 := fun a b c => ((HO.out.drewN a).drewN b).drewN c
              generalize hW1 : ((World.drewN wr _).drewN _).drewN _ = W1 at *
              have HR1 := Lib.hid (show SC W1 g s q 0 a by rw [← hW1]; exact hR1 _ _ _)
              have HO1 := Lib.hid (show Only g w W1 by rw [← hW1]; exact hO1 _ _ _)
              clear hW1 hR1 hO1 c0 c1 c2 f1
              have c0 := HR1.out.c0
              have c1 := HR1.out.c1
              go_quiet ((go_at_call 88; exact quiet_left (HFM.out _)))
              go_wp2_with (first | (go_at_call 151; refine (HC.out _).mono ?_; rintro en w3 ⟨rfl, rfl⟩) | (go_at_call 89; go_loud (refine (HF.out _ HR1.out _).mono ?_; rintro en w1 ⟨rfl, hR1, hO1⟩)))
              have hR2 := fun j => HR1.out.drewN j
              have hO2 := fun j => HO1.out.drewN j
              generalize hWW : World.drewN W1 _ = W2 at *
              have HR2 := Lib.hid (show SC W2 g s q 0 a by rw [← hWW]; exact hR2 _)
              have HO2 := Lib.hid (show Only g w W2 by rw [← hWW]; exact hO2 _)
              clear hWW hR2 hO2 c0 c1 hX hq
              have c0 := HR2.out.c0
              have c1 := HR2.out.c1
              have f1 := Blk.frozen HR2.out 1
              obtain ⟨m2, hm2⟩ : ∃ m2, m2 = q + n := ⟨_, rfl⟩
              have HM2 := Lib.hid hm2
              have hm2i : (q : Int) + (n : Int) = (m2 : Int) := by omega
              have hb1 : (q : Int) + (n : Int) < 1000000 := by have := HP.out; have := HIB.out; omega
              have hb2 : (q : Int) ≤ (m2 : Int) := by omega
              have hb3 : (m2 : Int) ≤ (s.size : Int) := by have := HP.out; omega
              have hb4 : ¬ 9223372036854775807 < X.size + (s.extract q m2).size := by have := HIB.out; simp; omega
              clear hm2
              go_quiet (fail)
              have HY := Lib.hid (rval_next2 HX.out HM2.out HN.out.1 HP.out.2.1)
              generalize X ++ s.extract q m2 = Y at *
              clear hb2 hb3 hb4
              go_wp2
              go_roundw
              case rel => exact ⟨Y, m2, rfl, (HO2.out.drewN _).setCell (.inl rfl) _, .inl ⟨(HR2.out.drewN _).goto_ m2, HY.out.1, HY.out.2.1, by rw [HM2.out]; exact HP.out.2.2, HY.out.2.2⟩⟩
              case measure =>
                rw [scMu_ok HR.out, scMu_ok ((HR2.out.drewN _).goto_ m2)]
                have := HM2.out
                have := HP.out
                omega
            · have HX := Lib.hid (HST.out.1 hst)
              rw [hst] at HSD
              have hsd : cb = true ∨ (cb = false ∧ b91 = true) ∨ (cb = false ∧ b91 = false ∧ b47 = true) ∨ (cb = false ∧ b91 = false ∧ b47 = false ∧ b61 = true) := by
                exact four_or HSD.out.symm
              clear hst HSD HST
              rcases hsd with rfl | ⟨rfl, rfl⟩ | ⟨rfl, rfl, rfl⟩ | ⟨rfl, rfl, rfl, rfl⟩
              all_goals
                go_wp2
                go_quiet (fail)
                go_wp2
                go_quiet (fail)
                go_wp2
                go_quiet (fail)
                go_wp2
                have hR1 := fun a b c => ((HR.out.drewN a).drewN b).drewN c
                have hO1 := fun a b c => ((HO.out.drewN a).drewN b).drewN c
                generalize hW1 : ((World.drewN wr _).drewN _).drewN _ = W1 at *
                have HR1 := Lib.hid (show SC W1 g s q 0 a by rw [← hW1]; exact hR1 _ _ _)
                have HO1 := Lib.hid (show Only g w W1 by rw [← hW1]; exact hO1 _ _ _)
                clear hW1 hR1 hO1 c0 c1 c2 f1
                have c0 := HR1.out.c0
                have c1 := HR1.out.c1
                go_quiet ((go_at_call 88; exact quiet_left (HFM.out _)))
                go_wp2_with (first | (go_at_call 151; refine (HC.out _).mono ?_; rintro en w3 ⟨rfl, rfl⟩) | (go_at_call 89; go_loud (refine (HF.out _ HR1.out _).mono ?_; rintro en w1 ⟨rfl, hR1, hO1⟩)))
                go_ret
                exact .inl ⟨160, q, q, _, by omega, HX.out, rfl, hR1, (HO1.out.drewN _).trans hO1⟩
      · obtain rfl : q = s.size := by omega
        have HX := Lib.hid (HV.out.trans (valAt_end (by omega)))
        have HF := Lib.hid (fun k => wrong_set g s.size s a 160 s.size _ (HR.out.drewN k))
        go_wp2
        go_quiet (fail)
        go_wp2_with (go_at_call 89; go_loud (refine (HF.out _).mono ?_; rintro en w1 ⟨rfl, hR1, hO1⟩))
        go_roundw
        case rel => exact ⟨X, s.size, rfl, (HO.out.drewN _).trans hO1, .inr ⟨160, s.size, by omega, hR1, HX.out⟩⟩
        case measure =>
          rw [scMu_bad hR1 (by omega), scMu_ok HR.out]
          omega
    · have c2 := hR.c2
      have hx' : (x == 0) = false := by rw [beq_eq_false_iff_ne]; exact hx
      have HX := Lib.hid (And.intro hx hV)
      clear hx hV
      go_wp2
      go_ret
      exact .inl ⟨x, y, q, _, HX.out.1, HX.out.2, rfl, hR, hO⟩
end Go.Proofs.YtfpepdjffehbcaaGreat
