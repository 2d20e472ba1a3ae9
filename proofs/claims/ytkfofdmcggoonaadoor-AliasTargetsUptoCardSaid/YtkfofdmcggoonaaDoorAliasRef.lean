/-
  The walks of what the document reads of an alias's text: must, name and value. Condition: the string is within the reach.
-/
import Derived.Test.YtkfofdmcggoonaaDoorAliasVal
import Derived.Test.YtkfofdmcggoonaaDoorRefName
namespace Go.Proofs.YtkfofdmcggoonaaDoor
open Go.RowKit

theorem rnstart_any (b : UInt8) (w : World) : Calls Tryd.prog 71 #[.int .u8 (b.toNat : Int)] w fun e w' => e = .returned (.bool (startB b)) ∧ w = w' := by
  have HC := Lib.hid (rstart_any b w)
  go_enter Tryd.func71, Tryd.ntmps71
  go_wp2_with (go_at_call 105; refine HC.out.mono ?_; rintro e w' ⟨rfl, rfl⟩)
  go_ret
  exact ⟨rfl, rfl⟩
theorem rnbyte_any (b : UInt8) (w : World) : Calls Tryd.prog 72 #[.int .u8 (b.toNat : Int)] w fun e w' => e = .returned (.bool (nameB b)) ∧ w = w' := by
  have HC := Lib.hid (rbyte_any b w)
  go_enter Tryd.func72, Tryd.ntmps72
  go_wp2_with (go_at_call 106; refine HC.out.mono ?_; rintro e w' ⟨rfl, rfl⟩)
  go_ret
  exact ⟨rfl, rfl⟩
theorem rat_any (s : ByteArray) (p : Nat) (w : World) (hp : p < s.size) (hs : s.size ≤ 140737488355328) :
    Calls Tryd.prog 107 #[.string s, .int .i64 (p : Int)] w (FormPost s p w) := by
  have HC := Lib.hid (form_any s p w hp hs)
  go_enter Tryd.func107, Tryd.ntmps107
  go_wp2_with (go_at_call 102; refine HC.out.mono ?_; rintro e w' ⟨r, n, rfl, hF, rfl⟩; have HF := Lib.hid hF; clear hF)
  go_ret2
  exact ⟨r, n, rfl, HF.out, rfl⟩
def RMustPost (p : Nat) (s : ByteArray) (l : List UInt8) (w : World) (en : Ending) (w' : World) : Prop := en = .returned (.tuple #[.int .i64 ((mustM s p l).1 : Int), .bool (mustM s p l).2]) ∧ ∃ k, w' = w.drewN k
theorem rmust_mk {p : Nat} {s : ByteArray} {l : List UInt8} {w w' : World} {en : Ending} {q : Nat} {b : Bool} (h : mustM s p l = (q, b)) (he : en = .returned (.tuple #[.int .i64 (q : Int), .bool b])) (hw : ∃ k, w' = w.drewN k) : RMustPost p s l w en w' := by
  unfold RMustPost
  rw [h]
  exact ⟨he, hw⟩
set_option maxHeartbeats 2000000 in
theorem r13must_any (p : Nat) (s b : ByteArray) (w : World) (hp : p ≤ s.size) (hs : s.size ≤ 140737488355328) (hb : b.size ≤ 100) :
    Calls Tryd.prog 34 #[.string s, .int .i64 (p : Int), .string b] w (RMustPost p s b.data.toList w) := by
  have hbl : b.data.toList.length = b.size := by simp
  have HBL := Lib.hid hbl
  clear hbl
  go_enter Tryd.func34, Tryd.ntmps34
  go_wp2
  go_loopw [1, 8] (fun av iv wr => ∃ i q : Nat, iv = .int .i64 (i : Int) ∧ av = .int .i64 (q : Int) ∧ i ≤ b.size ∧ q ≤ s.size ∧ (q = p + i ∧ ∀ j c, j < i → b.data.toList[j]? = some c → standsB s (p + j) c = true) ∧ ∃ k, wr = w.drewN k) (fun _ iv _ => b.size - (Lib.intOf iv).toNat)
  case atStart => exact ⟨0, p, rfl, rfl, Nat.zero_le _, hp, ⟨rfl, fun j c hj => absurd hj (by omega)⟩, 0, rfl⟩
  case round =>
    obtain ⟨i, q, rfl, rfl, hi, hq, hT, k, rfl⟩ := hrel
    have HT := Lib.hid hT
    clear hT
    by_cases hlt : i < b.size
    · have hq1 : (i : Int) < (b.size : Int) := by omega
      have HDR := Lib.hid (show mustM s p b.data.toList = mustM s q (b[i] :: b.data.toList.drop (i + 1)) from by
        rw [mustM_at s b.data.toList p i HT.out.2 (by rw [HBL.out]; exact hi), ← HT.out.1, List.drop_eq_getElem_cons (by rw [HBL.out]; exact hlt)]
        rfl)
      by_cases hqs : q < s.size
      · have hq2 : (q : Int) < (s.size : Int) := by omega
        have hne : decide ((s.size : Int) ≤ (q : Int)) = false := by simp; omega
        have hne2 : ¬ s.size ≤ q := by omega
        have hne3 : decide (s.size ≤ q) = false := by simp; omega
        cases hv : (s[q] == b[i])
        · have HNO := Lib.hid (show mustM s p b.data.toList = (q, false) by rw [HDR.out]; simp only [mustM]; rw [if_neg]; unfold standsB; rw [dif_pos hqs, hv]; simp)
          rw [beq_dec] at hv
          go_wp2
          go_quiet (fail)
          go_wp2
          go_ret2
          exact rmust_mk HNO.out rfl ⟨k + nq, by rw [World.drewN_drewN]⟩
        · have HYES := Lib.hid (show standsB s q b[i] = true by unfold standsB; rw [dif_pos hqs, hv])
          rw [beq_dec] at hv
          go_wp2
          go_quiet (fail)
          go_wp2
          go_roundw
          case rel =>
            refine ⟨i + 1, q + 1, by go_num, by go_num, hlt, hqs, ⟨by rw [HT.out.1]; omega, fun j c hj hc => ?_⟩, _, rfl⟩
            rcases Nat.lt_or_ge j i with h | h
            · exact HT.out.2 j c h hc
            · obtain rfl : j = i := by omega
              rw [← HT.out.1]
              have : c = b[j] := by
                rw [List.getElem?_eq_getElem (by rw [HBL.out]; exact hlt)] at hc
                exact (Option.some.inj hc).symm
              rw [this]
              exact HYES.out
          case measure => simp [Lib.intOf]; omega
      · have heq : decide ((s.size : Int) ≤ (q : Int)) = true := by simp; omega
        have hne2 : s.size ≤ q := by omega
        have hne3 : decide (s.size ≤ q) = true := by simp; omega
        have HNO := Lib.hid (show mustM s p b.data.toList = (q, false) by rw [HDR.out]; simp only [mustM]; rw [if_neg]; unfold standsB; rw [dif_neg hqs]; simp)
        go_wp2
        go_quiet (fail)
        go_wp2
        go_ret2
        exact rmust_mk HNO.out rfl ⟨k + nq, by rw [World.drewN_drewN]⟩
    · obtain rfl : i = b.size := by omega
      have hq1 : ¬ (b.size : Int) < (b.size : Int) := by omega
      have HALL := Lib.hid (show mustM s p b.data.toList = (q, true) by
        rw [mustM_at s b.data.toList p b.size HT.out.2 (by rw [HBL.out]; exact Nat.le_refl _), ← HT.out.1, List.drop_eq_nil_of_le (by rw [HBL.out]; exact Nat.le_refl _)]
        rfl)
      go_wp2
      go_ret2
      exact rmust_mk HALL.out rfl ⟨_, rfl⟩
set_option maxHeartbeats 2000000 in
theorem r13name_any (p : Nat) (s : ByteArray) (w : World) (hp : p ≤ s.size) (hs : s.size ≤ 140737488355328) :
    Calls Tryd.prog 35 #[.string s, .int .i64 (p : Int)] w fun e w' => e = .returned (.int .i64 (aname s p : Int)) ∧ w' = w := by
  by_cases hlt : p < s.size
  · have hq : ¬ (s.size : Int) ≤ (p : Int) := by omega
    have hq7 : ¬ s.size ≤ p := by omega
    have hq2 : (p : Int) < (s.size : Int) := by omega
    have HS := Lib.hid (rnstart_any s[p] w)
    cases hst : startB s[p]
    · rw [hst] at HS
      have HN := Lib.hid (show aname s p = p by unfold aname; rw [dif_pos hlt, hst]; rfl)
      clear hst
      go_enter Tryd.func35, Tryd.ntmps35
      go_wp2_with (go_at_call 71; refine HS.out.mono ?_; rintro e w' ⟨rfl, rfl⟩)
      go_ret
      exact ⟨by rw [HN.out]; rfl, rfl⟩
    · rw [hst] at HS
      have HN := Lib.hid (show aname s p = nameEnd s p by unfold aname; rw [dif_pos hlt, hst]; rfl)
      clear hst
      go_enter Tryd.func35, Tryd.ntmps35
      go_wp2_with (go_at_call 71; refine HS.out.mono ?_; rintro e w' ⟨rfl, rfl⟩)
      go_loopw [1] (fun av wr => wr = w ∧ ∃ q : Nat, av = .int .i64 (q : Int) ∧ q ≤ s.size ∧ aname s p = nameEnd s q) (fun av _ => s.size - (Lib.intOf av).toNat)
      case atStart => exact ⟨rfl, p, rfl, hp, HN.out⟩
      case round =>
        obtain ⟨rfl, q, rfl, hqs, hE⟩ := hrel
        have HE := Lib.hid hE
        clear hE
        by_cases hlq : q < s.size
        · have hq3 : (q : Int) < (s.size : Int) := by omega
          have HB := Lib.hid (rnbyte_any s[q] wr)
          cases hb : nameB s[q]
          · rw [hb] at HB
            have HX := Lib.hid (show aname s p = q by rw [HE.out, nameEnd_step hlq, hb]; rfl)
            clear hb
            go_wp2_with (go_at_call 72; refine HB.out.mono ?_; rintro e w' ⟨rfl, rfl⟩)
            go_ret
            exact ⟨by rw [HX.out]; rfl, rfl⟩
          · rw [hb] at HB
            have HX := Lib.hid (show aname s p = nameEnd s (q + 1) by rw [HE.out, nameEnd_step hlq, hb]; rfl)
            clear hb
            go_wp2_with (go_at_call 72; refine HB.out.mono ?_; rintro e w' ⟨rfl, rfl⟩)
            go_roundw
            case rel => exact ⟨trivial, q + 1, by go_num, hlq, HX.out⟩
            case measure => simp [Lib.intOf]; omega
        · have hq3 : ¬ (q : Int) < (s.size : Int) := by omega
          have HX := Lib.hid (show aname s p = q by rw [HE.out, nameEnd_end hlq])
          go_wp2
          go_ret
          exact ⟨by rw [HX.out]; rfl, rfl⟩
  · have hq : (s.size : Int) ≤ (p : Int) := by omega
    have HN := Lib.hid (show aname s p = p by unfold aname; rw [dif_neg hlt])
    go_enter Tryd.func35, Tryd.ntmps35
    go_wp2
    go_ret
    exact ⟨by rw [HN.out]; rfl, rfl⟩
def R13ValPost (p : Nat) (s : ByteArray) (c : UInt8) (w : World) (en : Ending) (w' : World) : Prop := en = .returned (.tuple #[.int .i64 ((avalM s c p).1 : Int), .bool (avalM s c p).2]) ∧ w' = w
theorem rval_mk {p : Nat} {s : ByteArray} {c : UInt8} {w w' : World} {en : Ending} {q : Nat} {b : Bool} (h : avalM s c p = (q, b)) (he : en = .returned (.tuple #[.int .i64 (q : Int), .bool b])) (hw : w' = w) : R13ValPost p s c w en w' := by
  unfold R13ValPost
  rw [h]
  exact ⟨he, hw⟩
set_option maxHeartbeats 2000000 in
theorem r13value_any (p : Nat) (s : ByteArray) (c : UInt8) (w : World) (hp : p ≤ s.size) (hs : s.size ≤ 140737488355328) :
    Calls Tryd.prog 73 #[.string s, .int .i64 (p : Int), .int .u8 (c.toNat : Int)] w (R13ValPost p s c w) := by
  go_enter Tryd.func73, Tryd.ntmps73
  go_wp2
  go_loopw [1] (fun av wr => wr = w ∧ ∃ q : Nat, av = .int .i64 (q : Int) ∧ q ≤ s.size ∧ avalM s c p = avalM s c q) (fun av _ => s.size - (Lib.intOf av).toNat)
  case atStart => exact ⟨rfl, p, rfl, hp, rfl⟩
  case round =>
    obtain ⟨rfl, q, rfl, hqs, hE⟩ := hrel
    have HE := Lib.hid hE
    clear hE
    by_cases hq : q < s.size
    · have hq3 : (q : Int) < (s.size : Int) := by omega
      by_cases hqc : s[q] = c
      · have hqb : ((s[q].toNat : Int) == (c.toNat : Int)) = true := by rw [hqc]; simp
        have HX := Lib.hid (show avalM s c p = (q, true) by rw [HE.out, avalM_step hq, if_pos hqc])
        clear hqc
        go_wp2
        go_ret2
        exact rval_mk HX.out rfl rfl
      · have hqb : ((s[q].toNat : Int) == (c.toNat : Int)) = false := by have h1 := beq_dec s[q] c; rw [show (s[q] == c) = false by simpa using hqc] at h1; exact h1.symm
        have HF := Lib.hid (rat_any s q wr hq hs)
        have HD := Lib.hid (And.intro (decode_pos s q) (decode_in hq))
        have HBAD := Lib.hid (show avBad s q = true → avalM s c p = (q, false) from fun hb => by rw [HE.out, avalM_step hq, if_neg hqc, if_pos hb])
        have HGO := Lib.hid (show avBad s q = false → avalM s c p = avalM s c (q + (Utf8.decode s q).2) from fun hb => by rw [HE.out, avalM_step hq, if_neg hqc, if_neg (by rw [hb]; simp)])
        have HAV := Lib.hid (show avBad s q = (decide (Utf8.decode s q = (65533, 1)) || controlR ((Utf8.decode s q).1 : Int)) from rfl)
        clear hqc
        by_cases hd : Utf8.decode s q = (65533, 1)
        · have HB9 := Lib.hid (HBAD.out (by rw [HAV.out, hd]; rfl))
          have HR := Lib.hid (show formR s q = -1 by unfold formR; rw [if_pos hd])
          clear hd
          go_wp2_with (go_at_call 107; refine HF.out.mono ?_; rintro en w1 ⟨r, n, rfl, ⟨hr, hn⟩, rfl⟩; rw [HR.out] at hr; subst hr)
          go_ret2
          exact rval_mk HB9.out rfl rfl
        · have HR := Lib.hid (show formR s q = ((Utf8.decode s q).1 : Int) by unfold formR; rw [if_neg hd])
          have hd9 : decide (Utf8.decode s q = (65533, 1)) = false := by simpa using hd
          rw [hd9] at HAV
          clear hd hd9
          generalize (Utf8.decode s q).1 = d1 at *
          generalize hd2 : (Utf8.decode s q).2 = d2 at *
          have HD2 := Lib.hid hd2
          clear hd2
          have HI := Lib.hid (show (q : Int) + (d2 : Int) ≤ s.size by have := HD.out; omega)
          by_cases hl : d1 < 32
          · have hl1 : (d1 : Int) < 32 := by omega
            have hl2 : decide ((d1 : Int) < 32) = true := by simp; omega
            have HB9 := Lib.hid (HBAD.out (by rw [HAV.out]; simp only [controlR, hl2, Bool.true_or, Bool.or_true]))
            clear hl2
            go_wp2_with (go_at_call 107; refine HF.out.mono ?_; rintro en w1 ⟨r, n, rfl, ⟨hr, hn⟩, rfl⟩; rw [HR.out] at hr; rw [HD2.out] at hn; subst hr hn; have hI := HI.out)
            go_ret2
            exact rval_mk HB9.out rfl rfl
          · have hl1 : ¬ (d1 : Int) < 32 := by omega
            by_cases he : d1 = 127
            · subst he
              have HB9 := Lib.hid (HBAD.out (by rw [HAV.out]; simp [controlR]))
              go_wp2_with (go_at_call 107; refine HF.out.mono ?_; rintro en w1 ⟨r, n, rfl, ⟨hr, hn⟩, rfl⟩; rw [HR.out] at hr; rw [HD2.out] at hn; subst hr hn; have hI := HI.out)
              go_ret2
              exact rval_mk HB9.out rfl rfl
            · have he1 : ((d1 : Int) == 127) = false := by rw [beq_eq_false_iff_ne]; omega
              have HG9 := Lib.hid (HGO.out (by rw [HAV.out]; simp [controlR]; omega))
              go_wp2_with (go_at_call 107; refine HF.out.mono ?_; rintro en w1 ⟨r, n, rfl, ⟨hr, hn⟩, rfl⟩; rw [HR.out] at hr; rw [HD2.out] at hn; subst hr hn; have hI := HI.out)
              go_roundw
              case rel => exact ⟨trivial, q + d2, by simp, by have := HD.out; omega, HG9.out⟩
              case measure => have := HD.out; simp [Lib.intOf]; omega
    · have hq3 : ¬ (q : Int) < (s.size : Int) := by omega
      have HX := Lib.hid (show avalM s c p = (q, false) by rw [HE.out, avalM_end hq])
      go_wp2
      go_ret2
      exact rval_mk HX.out rfl rfl
end Go.Proofs.YtkfofdmcggoonaaDoor
