/-
  The walk of the document's Get. Condition: the path is within the reach.
-/
import Derived.Test.YtjebaibcfmjinaaGetLaw
import Derived.Test.YtjebaibcfmjinaaRefParse
namespace Go.Proofs.Ytjebaibcfmjinaa
open Go.RowKit

set_option maxRecDepth 100000 in
set_option maxHeartbeats 4000000 in
theorem rget_any (p nm key : ByteArray) (w : World) (hs : p.size ≤ 140737488355328) :
    Calls Try.prog 18 #[.string p, .string nm, .string key] w (GetPost (parseL p) nm key w) := by
  have hP := fun W => (rparse_any p W hs).mono fun _ _ h => h.l
  have HP := Lib.hid hP
  have HSM := Lib.hid (parseL_small p)
  clear hP hs
  generalize parseL p = l at *
  go_enter Try.func18, Try.ntmps18
  go_wp2_with (go_at_call 15; go_loud (refine (HP.out _).mono ?_; rintro e w1 ⟨hB1, A, c, x, y, vs, rfl, hR1⟩; have HB1 := Lib.hid hB1; have HR1 := Lib.hid hR1; clear hB1 hR1))
  have HB2 := Lib.hid (show Below w.heap.size w (w1.alloc (.cells #[.int .i64 x, .int .i64 y] 26)) from HB1.out.alloc HB1.out.size _)
  have HR2 := Lib.hid (HR1.out.more ((Below.refl _ _).alloc (Nat.le_refl _) (.cells #[.int .i64 x, .int .i64 y] 26)))
  clear HB1 HR1
  generalize (w1.alloc (.cells #[.int .i64 x, .int .i64 y] 26)) = w2 at *
  have HN := Lib.hid (show l.length ≤ 64 from HSM.out.2)
  have hn1 : (l.length : Int) ≤ 64 := by have := HSM.out.2; omega
  have hn0 : (0 : Int) ≤ (l.length : Int) := by omega
  go_loopw [10] (fun iv wr => ∃ q : Nat, iv = .int .i64 ((q : Int) - 1) ∧ q ≤ l.length ∧ (∀ (j : Nat) (st' : PStep), q ≤ j → l[j]? = some st' → st'.1 ≠ nm) ∧ Below w2.heap.size w2 wr) (fun iv _ => ((Lib.intOf iv) + 1).toNat)
  case atStart => exact ⟨l.length, congrArg (Value.int .i64) (by unfold wrap64; omega), Nat.le_refl _, fun j st' hj h => by have := (List.getElem?_eq_some_iff.1 h).1; omega, Below.refl _ _⟩
  case round =>
    obtain ⟨q, rfl, hq, hT, hB⟩ := hrel
    have HT := Lib.hid hT
    have HB := Lib.hid hB
    clear hT hB
    cases q with
    | zero =>
      go_wp2
      go_ret2
      refine ⟨none, .inl ⟨rfl, fun st hst => ?_⟩, rfl, HB2.out.trans (HB.out.mono HB2.out.size)⟩
      obtain ⟨j, hj⟩ := List.mem_iff_getElem?.1 hst
      exact HT.out j st (Nat.zero_le _) hj
    | succ q =>
      have hlt : q < l.length := by omega
      have hq1 : ((q + 1 : Nat) : Int) - 1 = (q : Int) := by omega
      have hq2 : (q : Int) < (l.length : Int) := by omega
      rw [hq1]
      clear hq1
      obtain ⟨st, hst⟩ : ∃ st, l[q]? = some st := ⟨l[q], by simp [hlt]⟩
      obtain ⟨kv, hkv⟩ : ∃ kv, vs[q]? = some kv := ⟨vs[q]'(by obtain ⟨_, _, _, _, _, _, h, _⟩ := HR2.out; omega), by obtain ⟨_, _, _, _, _, _, h, _⟩ := HR2.out; simp [h, hlt]⟩
      have hK : KeysAt wr wr.heap.size kv st.2 := by
        obtain ⟨_, _, _, _, _, _, _, h⟩ := HR2.out
        exact (h q st kv hst hkv).more HB.out HB.out.size
      have hRd : Reads w2 w2.heap.size 2 A l.length (stepCells l vs) := by obtain ⟨A', c', e, _, _, h, _⟩ := HR2.out; cases e; exact h
      have hcs := stepCells_at l vs q st kv hst hkv
      obtain ⟨b1, o1, rfl, hb1, hcl1⟩ := (hRd.below HB.out).spot (by omega) (by omega)
      have r0 := hcl1 _ _ hcs.1
      have hkl : st.2.length ≤ 512 := (HSM.out.1 st (List.mem_of_getElem? hst)).2.1
      have HST := Lib.hid hst
      obtain ⟨sn, ks⟩ := st
      simp only at hK r0 hkl
      by_cases hn : sn = nm
      · subst hn
        have hbb : (sn.toList == sn.toList) = true := by simp
        obtain ⟨ka, kc, rfl, -, -, hKR⟩ := hK
        have r1 : wr.cell? ⟨b1, o1 + q * 2 + 1, none⟩ = some (.slice ka ks.length kc) := hcl1 _ _ hcs.2
        have HKR := Lib.hid hKR
        have hk1 : (ks.length : Int) ≤ 512 := by omega
        clear hcl1 hcs hst hkv hRd hKR
        generalize hkn : ks.length = kn at *
        have HKN := Lib.hid hkn
        clear hkn
        have HF := Lib.hid (show ∀ r, KeyIs ks key r → GetIs l sn key r from fun r hr => .inr ⟨q, (sn, ks), HST.out, rfl, fun j st' hj h => HT.out j st' hj h, hr⟩)
        have HBW := Lib.hid (show Below w.heap.size w wr from HB2.out.trans (HB.out.mono HB2.out.size))
        clear HT HB
        obtain ⟨wo, rfl⟩ : ∃ wo : World, wo = wr := ⟨_, rfl⟩
        go_wp2
        go_loopw [38] (fun pv W => ∃ p : Nat, pv = .int .i64 (p : Int) ∧ p ≤ kn ∧ (∀ k' ∈ ks.take p, k'.1 ≠ key) ∧ Below wo.heap.size wo W) (fun pv _ => kn - (Lib.intOf pv).toNat)
        case atStart => exact ⟨0, rfl, Nat.zero_le _, by simp, Below.refl _ _⟩
        case round =>
          obtain ⟨p, rfl, hp, hT2, hB3⟩ := hrel
          have HT2 := Lib.hid hT2
          have HB3 := Lib.hid hB3
          clear hT2 hB3
          by_cases hpk : p < kn
          · obtain ⟨k, hk⟩ : ∃ k, ks[p]? = some k := ⟨ks[p]'(by have := HKN.out; omega), by have := HKN.out; simp [this, hpk]⟩
            have hp1 : (p : Int) < (kn : Int) := by omega
            obtain ⟨b2, o2, rfl, hb2, hcl2⟩ := (HKR.out.below HB3.out).spot (by omega) (by omega)
            have hat := pairCells_at ks p k hk
            have r3 := hcl2 _ _ hat.1
            have r4 : wr.cell? ⟨b2, o2 + p * 2 + 1, none⟩ = some (.string k.2) := hcl2 _ _ hat.2
            have HK := Lib.hid hk
            clear hcl2 hat hk
            by_cases he : k.1 = key
            · have hb9 : (k.1.toList == key.toList) = true := by simp [he]
              have HE := Lib.hid he
              clear he
              go_wp2
              go_ret2
              exact ⟨some k.2, HF.out _ (.inr ⟨p, k, HK.out, HE.out, HT2.out, rfl⟩), rfl, (HBW.out.trans (HB3.out.mono HBW.out.size)).alloc (Nat.le_trans HBW.out.size HB3.out.size) _⟩
            · have hb9 : (k.1.toList == key.toList) = false := by rw [ba_beq]; simp [he]
              have hb10 : ¬ k.1.toList = key.toList := fun e => he (ba_ext e)
              have HE := Lib.hid he
              clear he
              go_wp2
              go_roundw
              case rel =>
                refine ⟨p + 1, by go_num, hpk, ?_, HB3.out.alloc HB3.out.size _⟩
                intro k' hk'
                rw [List.take_add_one, HK.out] at hk'
                rcases List.mem_append.1 hk' with h | h
                · exact HT2.out k' h
                · simp at h
                  subst h
                  exact HE.out
              case measure => simp [Lib.intOf]; omega
          · have hpe : p = kn := by omega
            have hp1 : ¬ (p : Int) < (kn : Int) := by omega
            have HX := Lib.hid (show KeyIs ks key none from .inl ⟨rfl, by have := HT2.out; rwa [List.take_of_length_le (by rw [HKN.out]; omega)] at this⟩)
            clear hpe
            go_wp2
            go_ret2
            exact ⟨none, HF.out _ HX.out, rfl, HBW.out.trans (HB3.out.mono HBW.out.size)⟩
      · have hb9 : (sn.toList == nm.toList) = false := by rw [ba_beq]; simp [hn]
        have hb10 : ¬ sn.toList = nm.toList := fun e => hn (ba_ext e)
        have HN2 := Lib.hid hn
        clear hn hcl1 hcs hst hkv hRd hK
        go_wp2
        go_roundw
        case rel =>
          refine ⟨q, rfl, by omega, ?_, HB.out⟩
          intro j st' hj h
          rcases Nat.eq_or_lt_of_le hj with rfl | hj
          · rw [HST.out] at h
            cases h
            exact HN2.out
          · exact HT.out j st' hj h
        case measure => simp [Lib.intOf]
end Go.Proofs.Ytjebaibcfmjinaa
