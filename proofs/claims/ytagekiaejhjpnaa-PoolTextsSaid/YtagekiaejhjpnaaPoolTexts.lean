/-
  The law PoolTexts answers true for every two lists of texts and every text. No condition.
-/
import Derived.Test.YtagekiaejhjpnaaRows
import Derived.Test.YtagekiaejhjpnaaPoolWakes
import Derived.Test.YtagekiaejhjpnaaPoolPut
import Derived.Test.YtagekiaejhjpnaaTexts
import Derived.WalkKit
import Derived.Outline
import Derived.ProofKit
import Derived.OpenShut
import Derived.ShutString
import Derived.ChangeOld
import Derived.Below
import Derived.Deep.CondSized
namespace Go.Proofs.Ytagekiaejhjpnaa.poolTexts
open Go.ChangeShapes Go.WideShapes Go.ChangeAt Go.RowKit
open Go.ChangeMaps (open_string shut_string)
set_option linter.unusedVariables false

theorem own : ownKnob Try.prog.godebug = none := by kernel_rfl
theorem laidOut : laidOutB Try.prog = true := by kernel_rfl

theorem at_find {P : List ByteArray} {s : ByteArray} {k1 k2 e2 : Int} (hr : RiseL bl P) (h1 : AtIs P s k1) (h2 : FindT P s k2 e2) : (0 ≤ k1 ∧ k2 = k1 ∧ e2 = 0) ∨ (k1 = -1 ∧ k2 = 0 ∧ e2 = 4) := by
  rcases h1 with ⟨i, rfl, hi, -⟩ | ⟨rfl, hn⟩
  · rcases h2 with ⟨h, -⟩ | ⟨-, h, -⟩ | ⟨-, he, j, rfl, hj⟩
    · exact absurd hr h
    · exact absurd (List.mem_of_getElem? hi) h
    · exact .inl ⟨by omega, by rw [rise_inj blT hr hi hj], he⟩
  · rcases h2 with ⟨h, -⟩ | ⟨-, h, h3, h4⟩ | ⟨-, he, j, rfl, hj⟩
    · exact absurd hr h
    · exact .inr ⟨rfl, h3, h4⟩
    · exact absurd (List.mem_of_getElem? hj) hn
theorem not_find {P : List ByteArray} {s : ByteArray} {k2 e2 : Int} (hr : ¬ RiseL bl P) (h2 : FindT P s k2 e2) : k2 = 0 ∧ e2 = 2 := by
  rcases h2 with ⟨-, h⟩ | ⟨h, -⟩ | ⟨h, -⟩
  · exact h
  · exact absurd h hr
  · exact absurd h hr
set_option maxRecDepth 100000 in
set_option maxHeartbeats 16000000 in
theorem texts_walk (va vb : Value) (a b : List ByteArray) (s : ByteArray) (w : World) (ha : Txts w w.heap.size va a) (hb : Txts w w.heap.size vb b) (hla : a.length * 16 ≤ 140737488351232) (hlb : b.length * 16 ≤ 140737488351232) (hsa : ∀ x ∈ a, x.size ≤ 140737488351232) (hsb : ∀ x ∈ b, x.size ≤ 140737488351232) :
    Calls Try.prog 3 #[va, vb, .string s] w fun en w' => en = .returned (.bool true) ∧ Below w.heap.size w w' := by
  have HW := Lib.hid (fun W => pwakes_any W)
  have HTA := Lib.hid ha
  have HTB := Lib.hid hb
  obtain ⟨A, ca, rfl, hca, hma, hra⟩ := ha
  obtain ⟨B, cb, rfl, hcb, hmb, hrb⟩ := hb
  have HRA := Lib.hid hra
  have HRB := Lib.hid hrb
  have HSZ := Lib.hid (And.intro hsa hsb)
  clear hra hrb hsa hsb
  have hna : (a.length : Int) ≤ 8796093022207 := by omega
  have hnb : (b.length : Int) ≤ 8796093022207 := by omega
  by_cases hgt : a.length + b.length > 300
  · have hg1 : (300 : Int) < (a.length : Int) + (b.length : Int) := by omega
    go_enter Try.func3, Try.ntmps3
    go_wp2_with (go_at_call 9; refine (HW.out _).mono ?_; rintro en w1 ⟨rfl, hB1⟩; have HB := Lib.hid hB1; clear hB1)
    go_ret
    exact ⟨rfl, HB.out⟩
  · have hg1 : ¬ (300 : Int) < (a.length : Int) + (b.length : Int) := by omega
    have hln : a.length + b.length ≤ 300 := by omega
    clear hgt
    go_enter Try.func3, Try.ntmps3
    go_upto_region 6 with (go_at_call 9; refine (HW.out _).mono ?_; rintro en w1 ⟨rfl, hB1⟩; have HB := Lib.hid hB1; clear hB1)
    obtain ⟨i0, hi0, hz0, hz1, hz2⟩ := info_parts str_info
    have HZ1 := Lib.hid HB.out.size
    have HE1 := Lib.hid (own_empty w1 9 1)
    have HRA1 := Lib.hid (((HRA.out.below HB.out).more HB.out.size).alloc (Nat.le_refl _) (.cells #[] 9))
    have HRB1 := Lib.hid (((HRB.out.below HB.out).more HB.out.size).alloc (Nat.le_refl _) (.cells #[] 9))
    go_wp2_with (first
      | (at_builtin; (refine wpList_append_any _ rfl (.tmp 24) (.tmp 25) _ rfl w1.heap.size 9 i0 _ 1 16 Try.underlying22 hi0 hz0 hz1 hz2 rfl (by omega) _ 0 [] rfl HE1.out w1.heap.size A a.length ca (a.map Value.string) rfl HRA1.out str_one (by simp only [maxLen]; omega) (by omega) (by simp) ?_); intro v3 w3 hown3 hg3 hat3; have HO3 := Lib.hid (show w3.ownsRow w1.heap.size 9 1 v3 a.length (a.map Value.string) from by simpa using hown3); have HRB3 := Lib.hid (HRB1.out.grown hg3 (by simp) (fun g hg => (HE1.out.lt g hg).1)); have HB3 := Lib.hid (show Below w1.heap.size w1 w3 from ((Below.refl _ w1).alloc (Nat.le_refl _) (.cells #[] 9)).grown hg3 (by simp) (fun g hg => (HE1.out.lt g hg).1)); clear hown3 hg3 hat3)
      | (at_builtin; go_loud (refine wpList_append_any _ rfl (.tmp 26) (.tmp 27) _ rfl w1.heap.size 9 i0 _ 1 16 Try.underlying22 hi0 hz0 hz1 hz2 rfl (by omega) _ a.length (a.map Value.string) rfl HO3.out w1.heap.size B b.length cb (b.map Value.string) rfl HRB3.out str_one (by simp only [maxLen]; omega) (by omega) HB3.out.size ?_); intro v4 w4 hown3 hg3 hat3; obtain ⟨A4, c4, rfl, -, -, hr4⟩ := own_form hown3; have HR4 := Lib.hid (show Reads w4 w4.heap.size 1 A4 (a.length + b.length) ((a ++ b).map Value.string) from by simpa using hr4); have HB4 := Lib.hid (show Below w1.heap.size w1 w4 from HB3.out.grown hg3 HB3.out.size (fun g hg => (HO3.out.lt g hg).1)); clear hown3 hg3 hat3 hr4))
    clear HE1 HRA1 HRB1 HO3 HRB3 HB3 hi0 hz0 hz1 hz2
    have HBW := Lib.hid (show Below w.heap.size w w4 from HB.out.trans (HB4.out.mono HB.out.size))
    have HL := Lib.hid (show (a ++ b).length = a.length + b.length from List.length_append)
    clear HB4 HB
    go_loopw [7, 30] (fun wv iv wr => ∃ p : Nat, iv = .int .i64 (p : Int) ∧ p ≤ a.length + b.length ∧ Txts wr wr.heap.size wv (poolL bl ((a ++ b).take p)) ∧ Below w4.heap.size w4 wr) (fun _ iv _ => (a.length + b.length) - (Lib.intOf iv).toNat)
    case atStart => exact ⟨0, rfl, Nat.zero_le _, ⟨none, 0, rfl, Nat.le_refl _, by simp [maxLen], Reads.none_⟩, Below.refl _ _⟩
    case round =>
      obtain ⟨p, rfl, hp, hT, hB⟩ := hrel
      have HT := Lib.hid hT
      have HB5 := Lib.hid hB
      clear hT hB
      by_cases hlt : p < a.length + b.length
      · obtain ⟨x, hx⟩ := at_lt (l := a ++ b) (p := p) (by rw [HL.out]; exact hlt)
        have hq : (p : Int) < (a.length : Int) + (b.length : Int) := by omega
        obtain ⟨b1, o1, rfl, hb1, hcl1⟩ := (HR4.out.below HB5.out).spot (by omega) (by omega)
        have r0 := hcl1 _ _ (str_at hx)
        have HX := Lib.hid hx
        have HPU := Lib.hid (put_any _ _ x wr HT.out (Nat.le_trans (poolL_len _) (by rw [List.length_take]; omega)))
        clear hcl1 hx
        go_wp2_with (go_at_call 10; go_loud (refine HPU.out.mono ?_; rintro en w6 ⟨⟨v6, rfl, ht6⟩, hb6⟩; have HT6 := Lib.hid ht6; have HB6 := Lib.hid (HB5.out.trans (hb6.mono HB5.out.size)); clear ht6 hb6))
        go_roundw
        case rel =>
          refine ⟨p + 1, by go_num, hlt, ?_, HB6.out⟩
          have := HT6.out
          rw [← poolL_snoc] at this
          rw [List.take_add_one, HX.out]
          exact this
        case measure => simp [Lib.intOf]; omega
      · obtain rfl : p = a.length + b.length := by omega
        have hq : ¬ (((a.length + b.length : Nat) : Int)) < (a.length : Int) + (b.length : Int) := by omega
        rw [List.take_of_length_le (by rw [HL.out]; exact Nat.le_refl _)] at HT
        have HBR := Lib.hid (HBW.out.trans (HB5.out.mono HBW.out.size))
        clear HB5 HBW hq hlt hp HR4
        obtain ⟨i0, hi0, hz0, hz1, hz2⟩ := info_parts str_info
        have HE1 := Lib.hid (own_empty wr 9 1)
        have HRA1 := Lib.hid (((HRA.out.below HBR.out).more HBR.out.size).alloc (Nat.le_refl _) (.cells #[] 9))
        have HTB1 := Lib.hid ((HTB.out.on HBR.out))
        go_upto_region 12 with (first
          | (at_builtin; (refine wpList_append_any _ rfl (.tmp 38) (.tmp 39) _ rfl wr.heap.size 9 i0 _ 1 16 Try.underlying22 hi0 hz0 hz1 hz2 rfl (by omega) _ 0 [] rfl HE1.out wr.heap.size A a.length ca (a.map Value.string) rfl HRA1.out str_one (by simp only [maxLen]; omega) (by omega) (by simp) ?_); intro v5 w5 hown3 hg3 hat3; obtain ⟨A5, c5, e5, -, -, -⟩ := own_form hown3; simp only [Nat.zero_add] at e5; subst e5; have HO5 := Lib.hid (show w5.ownsRow wr.heap.size 9 1 (.slice A5 a.length c5) a.length (a.map Value.string) from by simpa using hown3); have HB5 := Lib.hid (show Below wr.heap.size wr w5 from ((Below.refl _ wr).alloc (Nat.le_refl _) (.cells #[] 9)).grown hg3 (by simp) (fun g hg => (HE1.out.lt g hg).1)); have HE2 := Lib.hid (own_empty w5 9 1); have HRB5 := Lib.hid (((HRB.out.below HBR.out).below (HB5.out.mono HBR.out.size)).alloc (Nat.le_trans HBR.out.size HB5.out.size) (.cells #[] 9)); clear hown3 hg3 hat3)
          | (at_builtin; (refine wpList_append_any _ rfl (.tmp 41) (.tmp 42) _ rfl w5.heap.size 9 i0 _ 1 16 Try.underlying22 hi0 hz0 hz1 hz2 rfl (by omega) _ 0 [] rfl HE2.out w.heap.size B b.length cb (b.map Value.string) rfl HRB5.out str_one (by simp only [maxLen]; omega) (by omega) (by simp) ?_); intro v6 w6 hown3 hg3 hat3; obtain ⟨A6, c6, e6, -, -, -⟩ := own_form hown3; simp only [Nat.zero_add] at e6; subst e6; have HO6 := Lib.hid (show w6.ownsRow w5.heap.size 9 1 (.slice A6 b.length c6) b.length (b.map Value.string) from by simpa using hown3); have HB6 := Lib.hid (show Below w5.heap.size w5 w6 from ((Below.refl _ w5).alloc (Nat.le_refl _) (.cells #[] 9)).grown hg3 (by simp) (fun g hg => (HE2.out.lt g hg).1)); clear hown3 hg3 hat3; have HLS := Lib.hid (lists_new w6 [(.slice A5 a.length c5, a), (.slice A6 b.length c6, b)] (fun x hx => by
              rcases List.mem_cons.1 hx with rfl | hx
              · exact (txts_of_own HO5.out).on HB6.out
              · rcases List.mem_cons.1 hx with rfl | hx
                · exact txts_of_own HO6.out
                · cases hx)))
          | (go_at_call 11; go_loud (refine (pool_any _ 2 _ _ HLS.out (by simp [allT]; omega) (by simp) (fun x hx => by
              simp only [allT, List.flatMap_cons, List.flatMap_nil, List.append_nil, List.mem_append] at hx
              rcases hx with h | h
              · exact Nat.le_trans (HSZ.out.1 x h) (by decide)
              · exact Nat.le_trans (HSZ.out.2 x h) (by decide))).mono ?_; rintro en w7 ⟨⟨v7, rfl, ho7⟩, hb7⟩; have HT7 := Lib.hid (show Txts w7 w7.heap.size v7 (poolL bl (a ++ b)) from by have := txts_of_own ho7; have e : poolL bl (poolL bl (allT [(.slice A5 a.length c5, a), (.slice A6 b.length c6, b)])) = poolL bl (allT [(.slice A5 a.length c5, a), (.slice A6 b.length c6, b)]) := poolL_self blT (poolL_rise blT _); simpa [allT] using this); have HB7 := Lib.hid (show Below wr.heap.size wr w7 from ((HB5.out.trans (HB6.out.mono HB5.out.size)).alloc (Nat.le_trans HB5.out.size HB6.out.size) _).trans (hb7.mono (by have := HB5.out.size; have := HB6.out.size; simp; omega))); clear ho7 hb7)))
        have HPR := Lib.hid (show RiseL bl (poolL bl (a ++ b)) from poolL_rise blT _)
        have HPN := Lib.hid (show (poolL bl (a ++ b)).length ≤ 300 from Nat.le_trans (poolL_len _) (by rw [HL.out]; exact hln))
        have HTW := Lib.hid (HT.out.on HB7.out)
        have HTA7 := Lib.hid (HTA.out.on (HBR.out.trans (HB7.out.mono HBR.out.size)))
        have HBZ := Lib.hid (show Below w.heap.size w w7 from HBR.out.trans (HB7.out.mono HBR.out.size))
        clear HE1 HRA1 HTB1 HO5 HB5 HE2 HRB5 HO6 HB6 HLS HT HB7 HBR HL HRA HRB HTA HTB hi0 hz0 hz1 hz2
        generalize poolL bl (a ++ b) = P at *
        have HAT := Lib.hid (refat_any _ P s w7 HTW.out)
        have HF1 := Lib.hid (fun W (h : Below w7.heap.size w7 W) => pfind_any v7 P s W (HT7.out.on h) (by have := HPN.out; omega))
        have HF2 := Lib.hid (fun W (h : Below w7.heap.size w7 W) => pfind_any _ a s W (HTA7.out.on h) (by omega))
        go_upto_region 15 with (first
          | (go_at_call 12; go_loud (refine HAT.out.mono ?_; rintro en w8 ⟨v8, q8, rfl, ⟨k1, rfl, h1⟩, rfl⟩; have H1 := Lib.hid h1; clear h1))
          | (go_at_call_of 13 (#[v7, Value.string s]); go_loud (refine (HF1.out _ (below_drewN (Below.refl _ _) _)).mono ?_; rintro en w9 ⟨⟨k2, e2, rfl, h2⟩, hb9⟩; have H2 := Lib.hid h2; have HB9 := Lib.hid (show Below w7.heap.size w7 w9 from (below_drewN (Below.refl w7.heap.size w7) _).trans hb9); clear h2 hb9))
          | (go_at_call 13; go_loud (refine (HF2.out _ HB9.out).mono ?_; rintro en w10 ⟨⟨k3, e3, rfl, h3⟩, hb10⟩; have H3 := Lib.hid h3; have HB10 := Lib.hid (HB9.out.trans (hb10.mono HB9.out.size)); clear h3 hb10)))
        clear HAT HF1 HF2
        have HSM := Lib.hid (same_any _ _ P P w10 (HT7.out.on HB10.out) (HTW.out.on HB10.out))
        have HIP := Lib.hid (fun q => ispool_any _ a (w10.drewN q) (HTA7.out.on (below_drewN HB10.out q)))
        have HRI := Lib.hid (fun q => rising_any _ a (w10.drewN q) (HTA7.out.on (below_drewN HB10.out q)))
        have HAA := Lib.hid (fun q => refat_any _ a s (w10.drewN q) (HTA7.out.on (below_drewN HB10.out q)))
        have hdp : decide (P = P) = true := by simp
        by_cases hra : RiseL bl a
        · have hda : decide (RiseL bl a) = true := by simpa using hra
          have HRA9 := Lib.hid hra
          clear hra
          rcases at_find HPR.out H1.out H2.out with ⟨hk, rfl, rfl⟩ | ⟨rfl, rfl, rfl⟩
          · have hk2 : ¬ k2 < 0 := by omega
            have hk3 : decide (0 ≤ k2) = true := by simpa using hk
            have hk4 : decide (k2 < 0) = false := by simpa using hk
            go_upto_region 18 with (first
              | (go_at_call 14; go_loud (refine HSM.out.mono ?_; rintro en W ⟨v, q, rfl, hv, rfl⟩; rw [hdp] at hv; subst hv))
              | (go_at_call 15; go_loud (refine (HIP.out _).mono ?_; rintro en W ⟨v, q, rfl, hv, rfl⟩; rw [hda] at hv; subst hv))
              | (go_at_call 16; go_loud (refine (HRI.out _).mono ?_; rintro en W ⟨v, q, rfl, hv, rfl⟩; rw [hda] at hv; subst hv))
              | (go_at_call 12; go_loud (refine (HAA.out _).mono ?_; rintro en W ⟨v, q, rfl, ⟨k4, rfl, h4⟩, rfl⟩; have H4 := Lib.hid h4; clear h4)))
            rcases at_find HRA9.out H4.out H3.out with ⟨hj, rfl, rfl⟩ | ⟨rfl, rfl, rfl⟩
            · have hj2 : ¬ k3 < 0 := by omega
              have hj3 : decide (k3 < 0) = false := by simpa using hj
              go_wp2_with (first
                | (go_at_call 14; go_loud (refine HSM.out.mono ?_; rintro en W ⟨v, q, rfl, hv, rfl⟩; rw [hdp] at hv; subst hv))
                | (go_at_call 15; go_loud (refine (HIP.out _).mono ?_; rintro en W ⟨v, q, rfl, hv, rfl⟩; rw [hda] at hv; subst hv))
                | (go_at_call 16; go_loud (refine (HRI.out _).mono ?_; rintro en W ⟨v, q, rfl, hv, rfl⟩; rw [hda] at hv; subst hv))
                | (go_at_call 12; go_loud (refine (HAA.out _).mono ?_; rintro en W ⟨v, q, rfl, ⟨k4, rfl, h4⟩, rfl⟩; have H4 := Lib.hid h4; clear h4)))
              go_ret
              exact ⟨rfl, by
                have hz := HBZ.out.trans (HB10.out.mono HBZ.out.size)
                first
                | exact below_drewN hz _
                | exact below_drewN (below_drewN hz _) _
                | exact below_drewN (below_drewN (below_drewN hz _) _) _
                | exact below_drewN (below_drewN (below_drewN (below_drewN hz _) _) _) _⟩
            · go_wp2_with (first
                | (go_at_call 14; go_loud (refine HSM.out.mono ?_; rintro en W ⟨v, q, rfl, hv, rfl⟩; rw [hdp] at hv; subst hv))
                | (go_at_call 15; go_loud (refine (HIP.out _).mono ?_; rintro en W ⟨v, q, rfl, hv, rfl⟩; rw [hda] at hv; subst hv))
                | (go_at_call 16; go_loud (refine (HRI.out _).mono ?_; rintro en W ⟨v, q, rfl, hv, rfl⟩; rw [hda] at hv; subst hv))
                | (go_at_call 12; go_loud (refine (HAA.out _).mono ?_; rintro en W ⟨v, q, rfl, ⟨k4, rfl, h4⟩, rfl⟩; have H4 := Lib.hid h4; clear h4)))
              go_ret
              exact ⟨rfl, by
                have hz := HBZ.out.trans (HB10.out.mono HBZ.out.size)
                first
                | exact below_drewN hz _
                | exact below_drewN (below_drewN hz _) _
                | exact below_drewN (below_drewN (below_drewN hz _) _) _
                | exact below_drewN (below_drewN (below_drewN (below_drewN hz _) _) _) _⟩
          · go_upto_region 18 with (first
              | (go_at_call 14; go_loud (refine HSM.out.mono ?_; rintro en W ⟨v, q, rfl, hv, rfl⟩; rw [hdp] at hv; subst hv))
              | (go_at_call 15; go_loud (refine (HIP.out _).mono ?_; rintro en W ⟨v, q, rfl, hv, rfl⟩; rw [hda] at hv; subst hv))
              | (go_at_call 16; go_loud (refine (HRI.out _).mono ?_; rintro en W ⟨v, q, rfl, hv, rfl⟩; rw [hda] at hv; subst hv))
              | (go_at_call 12; go_loud (refine (HAA.out _).mono ?_; rintro en W ⟨v, q, rfl, ⟨k4, rfl, h4⟩, rfl⟩; have H4 := Lib.hid h4; clear h4)))
            rcases at_find HRA9.out H4.out H3.out with ⟨hj, rfl, rfl⟩ | ⟨rfl, rfl, rfl⟩
            · have hj2 : ¬ k3 < 0 := by omega
              have hj3 : decide (k3 < 0) = false := by simpa using hj
              go_wp2_with (first
                | (go_at_call 14; go_loud (refine HSM.out.mono ?_; rintro en W ⟨v, q, rfl, hv, rfl⟩; rw [hdp] at hv; subst hv))
                | (go_at_call 15; go_loud (refine (HIP.out _).mono ?_; rintro en W ⟨v, q, rfl, hv, rfl⟩; rw [hda] at hv; subst hv))
                | (go_at_call 16; go_loud (refine (HRI.out _).mono ?_; rintro en W ⟨v, q, rfl, hv, rfl⟩; rw [hda] at hv; subst hv))
                | (go_at_call 12; go_loud (refine (HAA.out _).mono ?_; rintro en W ⟨v, q, rfl, ⟨k4, rfl, h4⟩, rfl⟩; have H4 := Lib.hid h4; clear h4)))
              go_ret
              exact ⟨rfl, by
                have hz := HBZ.out.trans (HB10.out.mono HBZ.out.size)
                first
                | exact below_drewN hz _
                | exact below_drewN (below_drewN hz _) _
                | exact below_drewN (below_drewN (below_drewN hz _) _) _
                | exact below_drewN (below_drewN (below_drewN (below_drewN hz _) _) _) _⟩
            · go_wp2_with (first
                | (go_at_call 14; go_loud (refine HSM.out.mono ?_; rintro en W ⟨v, q, rfl, hv, rfl⟩; rw [hdp] at hv; subst hv))
                | (go_at_call 15; go_loud (refine (HIP.out _).mono ?_; rintro en W ⟨v, q, rfl, hv, rfl⟩; rw [hda] at hv; subst hv))
                | (go_at_call 16; go_loud (refine (HRI.out _).mono ?_; rintro en W ⟨v, q, rfl, hv, rfl⟩; rw [hda] at hv; subst hv))
                | (go_at_call 12; go_loud (refine (HAA.out _).mono ?_; rintro en W ⟨v, q, rfl, ⟨k4, rfl, h4⟩, rfl⟩; have H4 := Lib.hid h4; clear h4)))
              go_ret
              exact ⟨rfl, by
                have hz := HBZ.out.trans (HB10.out.mono HBZ.out.size)
                first
                | exact below_drewN hz _
                | exact below_drewN (below_drewN hz _) _
                | exact below_drewN (below_drewN (below_drewN hz _) _) _
                | exact below_drewN (below_drewN (below_drewN (below_drewN hz _) _) _) _⟩
        · have hda : decide (RiseL bl a) = false := by simpa using hra
          obtain ⟨rfl, rfl⟩ := not_find hra H3.out
          clear hra
          rcases at_find HPR.out H1.out H2.out with ⟨hk, rfl, rfl⟩ | ⟨rfl, rfl, rfl⟩
          · have hk2 : ¬ k2 < 0 := by omega
            have hk3 : decide (0 ≤ k2) = true := by simpa using hk
            have hk4 : decide (k2 < 0) = false := by simpa using hk
            go_wp2_with (first
              | (go_at_call 14; go_loud (refine HSM.out.mono ?_; rintro en W ⟨v, q, rfl, hv, rfl⟩; rw [hdp] at hv; subst hv))
              | (go_at_call 15; go_loud (refine (HIP.out _).mono ?_; rintro en W ⟨v, q, rfl, hv, rfl⟩; rw [hda] at hv; subst hv))
              | (go_at_call 16; go_loud (refine (HRI.out _).mono ?_; rintro en W ⟨v, q, rfl, hv, rfl⟩; rw [hda] at hv; subst hv))
              | (go_at_call 12; go_loud (refine (HAA.out _).mono ?_; rintro en W ⟨v, q, rfl, ⟨k4, rfl, h4⟩, rfl⟩; have H4 := Lib.hid h4; clear h4)))
            go_ret
            exact ⟨rfl, by
              have hz := HBZ.out.trans (HB10.out.mono HBZ.out.size)
              first
              | exact below_drewN hz _
              | exact below_drewN (below_drewN hz _) _
              | exact below_drewN (below_drewN (below_drewN hz _) _) _
              | exact below_drewN (below_drewN (below_drewN (below_drewN hz _) _) _) _⟩
          · go_wp2_with (first
              | (go_at_call 14; go_loud (refine HSM.out.mono ?_; rintro en W ⟨v, q, rfl, hv, rfl⟩; rw [hdp] at hv; subst hv))
              | (go_at_call 15; go_loud (refine (HIP.out _).mono ?_; rintro en W ⟨v, q, rfl, hv, rfl⟩; rw [hda] at hv; subst hv))
              | (go_at_call 16; go_loud (refine (HRI.out _).mono ?_; rintro en W ⟨v, q, rfl, hv, rfl⟩; rw [hda] at hv; subst hv))
              | (go_at_call 12; go_loud (refine (HAA.out _).mono ?_; rintro en W ⟨v, q, rfl, ⟨k4, rfl, h4⟩, rfl⟩; have H4 := Lib.hid h4; clear h4)))
            go_ret
            exact ⟨rfl, by
              have hz := HBZ.out.trans (HB10.out.mono HBZ.out.size)
              first
              | exact below_drewN hz _
              | exact below_drewN (below_drewN hz _) _
              | exact below_drewN (below_drewN (below_drewN hz _) _) _
              | exact below_drewN (below_drewN (below_drewN (below_drewN hz _) _) _) _⟩
set_option maxRecDepth 100000 in
theorem walk {H : Type} {enc : TypeId × Value → H} (v0 : Value) (d0 : DataW H) (p0 : List MemPlace) (base0 : Nat) (v1 : Value) (d1 : DataW H) (p1 : List MemPlace) (base1 : Nat) (a2 : ByteArray) (w : World) (hv0 : Value.okWide Try.prog w .any base0 22 v0) (w0 : DataW.Trod enc Try.prog w 0 (fun _ => true) true 22 v0 d0 p0) (hwt0 : ∀ n ∈ d0.weights Try.prog 22, n ≤ 140737488351232) (hv1 : Value.okWide Try.prog w .any base1 22 v1) (w1 : DataW.Trod enc Try.prog w 0 (fun _ => true) true 22 v1 d1 p1) (hwt1 : ∀ n ∈ d1.weights Try.prog 22, n ≤ 140737488351232) (w2 : a2.size ≤ 140737488351232) :
    Calls Try.prog 3 #[v0, v1, .string a2] w fun e w' => e = .returned (.bool true) ∧ Below w.heap.size w w' := by
  obtain ⟨l0, ht0, hs0, hn0, -⟩ := texts_of_trod Try.underlying22 Try.underlying9 (by kernel_rfl) (by kernel_rfl) hwt0 hv0 w0
  obtain ⟨l1, ht1, hs1, hn1, -⟩ := texts_of_trod Try.underlying22 Try.underlying9 (by kernel_rfl) (by kernel_rfl) hwt1 hv1 w1
  exact texts_walk v0 v1 l0 l1 a2 w ht0 ht1 hn0 hn1 hs0 hs1

set_option maxRecDepth 100000 in
theorem contract (H : Type) (enc : TypeId × Value → H) (W : World) (base : Nat) (args : Array Value) (ds gs : List (DataW H)) (before : List MemPlace)
    (hval0 : ∀ (j : Nat) t v, Try.f3.params[j]? = some t → args[j]? = some v → Value.okWide Try.prog W .any base t v)
    (hW : DataW.Whole enc Try.prog Try.f3.params.toList Rows.poolTextsSpec.vars false W args.toList ds gs before)
    (hsz0 : (DataW.weightsEach Try.prog (Try.f3.params.toList ++ Rows.poolTextsSpec.plain.varTypes Try.prog) (ds ++ gs)).all (· ≤ reachBytes) = true) :
    Calls Try.prog 3 args W fun e W' => ∃ v, e = .returned v ∧ Rows.poolTextsSpec.post enc Try.prog Try.f3 false true false false W args v W' := by
  have hval : ∀ (j : Nat) t v, Try.f3.params[j]? = some t → args[j]? = some v → Value.okWide Try.prog W .any base t v := hval0
  have hsz : (DataW.weightsEach Try.prog (Try.f3.params.toList ++ Rows.poolTextsSpec.plain.varTypes Try.prog) (ds ++ gs)).all (· ≤ reachBytes) = true := hsz0
  have hW' := hW
  obtain ⟨p, q, hA0, hV, rfl, hfz, hnd⟩ := hW
  have hA : DataW.TrodAll enc Try.prog W 0 (fun _ => true) true Try.f3.params.toList args.toList ds p := hA0
  rw [Try.params3] at hA hval hsz
  obtain ⟨v0, vs0, d0, ds0, p0, q0, hargs, rfl, rfl, h0, r0⟩ := trodAll_cons hA
  obtain ⟨v1, vs1, d1, ds1, p1, q1, rfl, rfl, rfl, h1, r1⟩ := trodAll_cons r0
  obtain ⟨v2, vs2, d2, ds2, p2, q2, rfl, rfl, rfl, h2, r2⟩ := trodAll_cons r1
  obtain ⟨rfl, rfl, rfl⟩ := trodAll_nil r2
  obtain rfl : args = #[v0, v1, v2] := by cases args; simp_all
  obtain ⟨rfl, rfl⟩ := trodVars_none hV
  have k0 := h0
  have lt0 : ∀ x ∈ p0, x.block < W.heap.size := by obtain ⟨m, hm⟩ := k0; exact DataW.trod_lt m _ _ _ hm
  have hwt0 : ∀ n ∈ d0.weights Try.prog 22, n ≤ 140737488351232 := fun n hn => by
    have := of_decide_eq_true (List.all_eq_true.1 hsz _ (DataW.weights_mem_each (j := 0) (t := 22) rfl rfl n hn))
    simpa [reachBytes] using this
  have k1 := h1
  have lt1 : ∀ x ∈ p1, x.block < W.heap.size := by obtain ⟨m, hm⟩ := k1; exact DataW.trod_lt m _ _ _ hm
  have hwt1 : ∀ n ∈ d1.weights Try.prog 22, n ≤ 140737488351232 := fun n hn => by
    have := of_decide_eq_true (List.all_eq_true.1 hsz _ (DataW.weights_mem_each (j := 1) (t := 22) rfl rfl n hn))
    simpa [reachBytes] using this
  obtain ⟨a2, rfl, rfl, rfl, wm2⟩ := open_string Try.underlying9 (hval 2 9 v2 rfl rfl) h2
  have w2 : a2.size ≤ 140737488351232 := by
    have := sized_string hsz (j := 2) (t := 9) rfl rfl
    simpa [reachBytes] using this
  clear hA0 hval0
  refine (walk v0 d0 p0 base v1 d1 p1 base a2 W (hval 0 22 v0 rfl rfl) h0 hwt0 (hval 1 22 v1 rfl rfl) h1 hwt1 w2).mono fun e W' ⟨he, bel⟩ => ?_
  subst he
  exact ⟨_, rfl, _, _, _, [], _, [], hW', trodAll_mk1 (shut_bool Try.underlying4 _), (trodAll_cons_mk (Below.trod laidOut (by kernel_rfl) (of_decide_eq_true (by kernel_rfl)) k0 bel lt0) (trodAll_cons_mk (Below.trod laidOut (by kernel_rfl) (of_decide_eq_true (by kernel_rfl)) k1 bel lt1) (trodAll_cons_mk (shut_string Try.underlying9 wm2) trodAll_mk0))), rfl, bel.frame _, fun h => by cases h⟩

set_option maxRecDepth 100000 in
theorem lifted (os : Os) (started : os.Started) (H : Type) (enc : TypeId × Value → H) :
    ReturnsInHanded {} Try.checked os 3 .any (Rows.poolTextsSpec.pre6 enc Try.prog Try.f3 Rows.poolTextsRow.domain false) (Rows.poolTextsSpec.post enc Try.prog Try.f3 false true false false) := by
  refine returnsInHanded_of_change_sized (C := Try.checked) own started (by kernel_rfl) Try.func3
    (ChangeSpec.witness6 (enc := enc) (C := Try.checked) false ⟨#[], #[.slice none 0 0, .slice none 0 0, .string ByteArray.empty], []⟩ 8 (by kernel_rfl) (by kernel_rfl) (by kernel_rfl) (by kernel_rfl)) ?_
  intro W base args ds gs before hval hW _ hsz _
  exact contract H enc W base args ds gs before hval hW hsz

theorem over : Rows.poolTextsRow.holds Try.pinned (OpenSpec.ofChange Rows.poolTextsSpec) :=
  OpenClaim.holds_of_wide 3 Try.f3 rfl rfl rfl rfl rfl rfl rfl ⟨rfl, rfl, rfl, rfl, rfl⟩ rfl rfl rfl rfl rfl (by kernel_rfl) Try.func3 (by kernel_rfl)
    (of_decide_eq_true (by kernel_rfl)) (by unfold Func.isWrapper; first | (rw [if_pos (by decide +kernel)]; kernel_rfl) | (rw [if_neg (by decide +kernel)]; exact ⟨rfl, rfl⟩))
    (fun os started H enc _ => lifted os started H enc)

/-- The statement. -/
theorem proved : Rows.PoolTextsSaid := over
#print axioms proved
end Go.Proofs.Ytagekiaejhjpnaa.poolTexts
