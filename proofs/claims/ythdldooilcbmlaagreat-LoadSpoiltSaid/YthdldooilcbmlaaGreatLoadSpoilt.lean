/-
  The law LoadSpoilt answers true for every bundle, place and byte. No condition.
-/
import Derived.Test.YthdldooilcbmlaaGreatRows
import Derived.Test.YthdldooilcbmlaaGreatK18
import Derived.Test.YthdldooilcbmlaaGreatK12
import Derived.WalkKit
import Derived.Outline
import Derived.ProofKit
import Derived.OpenShut
import Derived.ShutString
import Derived.ChangeOld
import Derived.Below
import Derived.Deep.CondSized
namespace Go.Proofs.YthdldooilcbmlaaGreat.loadSpoilt
open Go.ChangeShapes Go.WideShapes Go.ChangeAt Go.RowKit
open Go.ChangeMaps (open_string shut_string)
set_option linter.unusedVariables false

theorem own : ownKnob Tryz.prog.godebug = none := by kernel_rfl
theorem laidOut : laidOutB Tryz.prog = true := by kernel_rfl

theorem put_sum {b : List UInt8} : (b ++ le 4 (crc b)).length = b.length + 4 ∧ (b ++ le 4 (crc b)).take ((b ++ le 4 (crc b)).length - 4) = b ∧ (b ++ le 4 (crc b)).drop ((b ++ le 4 (crc b)).length - 4) = le 4 (crc b) := by
  have hl : (b ++ le 4 (crc b)).length = b.length + 4 := by rw [List.length_append, le_len]
  refine ⟨hl, ?_, ?_⟩
  · rw [hl, Nat.add_sub_cancel]
    exact List.take_left' rfl
  · rw [hl, Nat.add_sub_cancel]
    exact List.drop_left' rfl
/-- Bytes with a right checksum are refused as none alone. -/
theorem spoilt_err {b : List UInt8} (hl : b.length + 4 ≤ 16777216) {k : Int} (he : LoadErr (b ++ le 4 (crc b)) k) : k = 331 := by
  obtain ⟨h1, h2, h3⟩ := put_sum (b := b)
  rcases he with ⟨h, -⟩ | ⟨-, h, -⟩ | ⟨-, -, h, -⟩ | ⟨-, -, -, -, h⟩
  · omega
  · omega
  · rw [h2, h3] at h
    exact absurd rfl h
  · exact h
theorem body_of {r : List PStep} : (bytesB r).length = (bodyB r).length + 4 ∧ (bytesB r).take (bodyB r).length = bodyB r := by
  unfold bytesB
  exact ⟨by rw [List.length_append, le_len], List.take_left' rfl⟩
theorem set_self {l : List UInt8} {i : Nat} {b : UInt8} (h : l[i]? = some b) : l.set i b = l := by
  apply List.ext_getElem?
  intro j
  rw [List.getElem?_set]
  split
  · rename_i e
    subst e
    split
    · exact h.symm
    · rename_i hn
      exact absurd (List.getElem?_eq_some_iff.1 h).1 hn
  · rfl
theorem xor_val (x : Nat) (b : UInt8) (hx : x < 256) : Value.int .u8 (bits .xor .u8 (b.toNat : Int) (x : Int)) = bv (b ^^^ UInt8.ofNat x) := by
  have e : (UInt8.ofNat x).toNat = x := by simp; omega
  unfold bv
  rw [u8_xor_nat _ _ b.toNat_lt hx, UInt8.toNat_xor, e]
set_option maxHeartbeats 16000000 in
set_option maxRecDepth 100000 in
theorem spoilt_walk (v : Value) (a0 : Int) (x : Nat) (l : List PStep) (vs : List Value) (w : World) (h : StepsR w v l vs) (hin : BunIn l) (ha : -9223372036854775808 ≤ a0 ∧ a0 ≤ 9223372036854775807) (hx : x < 256) :
    Calls Tryz.prog 5 #[.agg #[v], .int .i64 a0, .int .u8 (x : Int)] w fun en w' => en = .returned (.bool true) ∧ Below w.heap.size w w' := by
  have HS := Lib.hid h
  have HIN := Lib.hid hin
  obtain ⟨A, c, rfl, -, -, -, -, -⟩ := h
  obtain ⟨n, hn⟩ : ∃ n, l.length = n := ⟨_, rfl⟩
  rw [hn] at HS ⊢
  clear hn hin
  obtain ⟨W0, hW0⟩ : ∃ W0, w.alloc (.cells #[.slice A n c] 24) = W0 := ⟨_, rfl⟩
  have hb0 : Below w.heap.size w W0 := by rw [← hW0]; exact (Below.refl _ w).alloc (Nat.le_refl _) _
  have b0 : Blk W0 w.heap.size 24 #[.slice A n c] := by rw [← hW0]; exact Blk.new w _ _
  have HWK := Lib.hid (lwakes_any W0)
  have HB0 := Lib.hid hb0
  have HG0 := Lib.hid b0
  clear hb0 b0
  go_enter Tryz.func5, Tryz.ntmps5
  go_wp2_with fail
  refine HWK.out.mono ?_
  rintro en w1 ⟨rfl, hb1⟩
  have HB1 := Lib.hid (HB0.out.trans (hb1.mono HB0.out.size))
  have x0 : w1.cell? ⟨w.heap.size, 0, none⟩ = some (.slice A n c) := (HG0.out.below hb1 HG0.out.lt).cell 0
  have HSO := Lib.hid (some_any (.slice A n c) l vs w1 (HS.out.more HB1.out) HIN.out)
  clear hb1 hW0 HWK HB0 HG0
  go_wp2_with fail
  refine HSO.out.mono ?_
  rintro en w2 ⟨hb2, ⟨A1, n1, c1, A2, n2, c2, rfl⟩ | ⟨Ar, cr, r, us, Bo, d, rfl, hck, hfit, hown, hby⟩⟩
  · have HB2 := Lib.hid (HB1.out.trans (hb2.mono HB1.out.size))
    clear hb2 x0 HSO
    go_wp2
    go_ret
    exact ⟨rfl, HB2.out.alloc HB2.out.size _⟩
  · have HB2 := Lib.hid (HB1.out.trans (hb2.mono HB1.out.size))
    have HBY := Lib.hid hby
    have HCK := Lib.hid (And.intro hck hfit)
    have HLL := Lib.hid (bytes_body (r := r) rfl).1
    obtain ⟨nr, hnr⟩ : ∃ nr, r.length = nr := ⟨_, rfl⟩
    obtain ⟨no, hno⟩ : ∃ no, (bytesB r).length = no := ⟨_, rfl⟩
    rw [hno] at HBY HLL HCK
    rw [hnr, hno]
    have HNO := Lib.hid hno
    have hno4 : 4 ≤ no := HLL.out
    obtain ⟨n4, rfl⟩ : ∃ n4, no = n4 + 4 := ⟨no - 4, by omega⟩
    have hno9 : n4 + 4 ≤ 16777216 := HCK.out.2
    have hbo := body_of (r := r)
    have hb6 : 6 ≤ n4 := by
      have h1 := congrArg List.length (body_run r)
      rw [List.length_append] at h1
      have h2 : headB.length = 6 := rfl
      have := hbo.1
      omega
    obtain ⟨lb, hlb⟩ : ∃ lb, bodyB r = lb := ⟨_, rfl⟩
    have hln : lb.length = n4 := by rw [← hlb]; have := hbo.1; omega
    have hlt : (bytesB r).take n4 = lb := by
      have h1 := hbo.2
      rw [hlb, hln] at h1
      exact h1
    have HLB := Lib.hid (show bytesB r = lb ++ le 4 (crc lb) from by unfold bytesB; rw [hlb])
    have HLN := Lib.hid hln
    clear hb2 x0 HSO hby hck hfit hown hnr hno hbo hlb
    have hba := ((Below.refl w2.heap.size w2).alloc (Nat.le_refl _) (.cells #[.slice Ar nr cr] 24)).alloc (by simp) (.cells #[] 5)
    have HB3 := Lib.hid (HB2.out.trans (hba.mono HB2.out.size))
    have hby3 := own_more HBY.out hba
    have hZ1 : w.heap.size ≤ w2.heap.size := HB2.out.size
    obtain ⟨g, cap, hv, hgb, hgl⟩ := World.ownsRow.form hby3 (by rw [HNO.out]; omega)
    have hA : Bo = some ⟨g, 0, none⟩ := by injection hv
    subst hA
    clear hv
    obtain ⟨A7, c7, hv7, hlc7, hcm7, hr7⟩ := OB.form (show OB _ _ _ _ _ from hby3)
    have hA7 : A7 = some ⟨g, 0, none⟩ := by injection hv7 with h1 h2 h3; exact h1.symm
    have hc7 : c7 = d := by injection hv7 with h1 h2 h3; exact h3.symm
    subst hA7 hc7
    clear hv7
    have hRT : RB ((w2.alloc (.cells #[.slice Ar nr cr] 24)).alloc (.cells #[] 5)) ((w2.alloc (.cells #[.slice Ar nr cr] 24)).alloc (.cells #[] 5)).heap.size (some ⟨g, 0, none⟩) lb := by
      have h1 := Reads.take (k := n4) hr7 (by rw [HNO.out]; omega)
      unfold RB
      rw [hln, ← hlt]
      simpa [bvs, List.map_take] using h1
    have HRT := Lib.hid hRT
    unfold RB at HRT
    rw [hln] at HRT
    have hc1 : (n4 : Int) ≤ (c7 : Int) := by rw [HNO.out] at hlc7; omega
    have hc2 : n4 + 4 ≤ c7 := by rw [HNO.out] at hlc7; exact hlc7
    have hc3 : (c7 : Int) ≤ 9223372036854775807 := by unfold maxLen at hcm7; omega
    have hn0 : (0 : Int) ≤ (n4 : Int) := by omega
    have hn9 : (n4 : Int) ≤ 16777216 := by omega
    have HZ1 := Lib.hid (And.intro HB1.out.size hZ1)
    have hzA : w2.heap.size + 1 ≤ ((w2.alloc (.cells #[.slice Ar nr cr] 24)).alloc (.cells #[] 5)).heap.size := by simp
    clear hba HB2 HBY HB1 hr7 hRT hby3 hlc7 hcm7 hgl hgb hlt
    obtain ⟨i0, hi0, hi1, hi2, hi3⟩ := info_parts byte_info
    have hmade := World.ownsRow_made (e := 5) (base := w.heap.size) (w2.alloc (.cells #[.slice Ar nr cr] 24)) #[] 0 (by have := HZ1.out.2; simp; omega) (by decide) rfl (size := 1)
    simp only [World.size_alloc] at hmade
    have HMD := Lib.hid hmade
    clear hmade
    go_upto_region 8 with (at_builtin; go_must (refine wpList_append_any _ rfl (.tmp 29) (.tmp 32) _ rfl w.heap.size 5 i0 _ 1 1 Tryz.underlying27 hi0 hi1 hi2 hi3 rfl (by omega) (.slice (some ⟨w2.heap.size + 1, 0, none⟩) 0 0) 0 [] rfl HMD.out _ (some ⟨g, 0, none⟩) n4 c7 (bvs lb) rfl HRT.out (bvs_one lb) (by simp only [maxLen]; omega) (by omega) (by have := HZ1.out.2; simp; omega) ?_; intro v5 w5 hown5 hg5 hat5))
    simp only [Nat.zero_add, List.nil_append] at hown5
    have hob5 : OB w5 w.heap.size 5 v5 lb := by unfold OB; rw [HLN.out]; exact hown5
    have hb5 : Below w.heap.size w w5 := HB3.out.grown hg5 (by have := HZ1.out.2; simp; omega) (fun k hk => by simp [Value.ownBlock] at hk; have := HZ1.out.2; omega)
    obtain ⟨g5, c5, hv5, hg51, hg52⟩ := World.ownsRow.form hob5 (by rw [HLN.out]; omega)
    rw [HLN.out] at hv5
    subst hv5
    have h3 : 0 < (n4 : Int) := by omega
    have h30 : ¬ (n4 : Int) = 0 := by omega
    obtain ⟨at_, hat⟩ : ∃ at_ : Nat, max a0 0 % (n4 : Int) = (at_ : Int) := ⟨_, (Int.toNat_of_nonneg (Int.emod_nonneg _ (by omega))).symm⟩
    have hat4 : at_ < n4 := by
      have := Int.emod_lt_of_pos (max a0 0) h3
      omega
    have hat5 : (at_ : Int) < (n4 : Int) := by omega
    have hat0 : (0 : Int) ≤ (at_ : Int) := by omega
    obtain ⟨hcell, hfr⟩ := ob_at (i := at_) hob5 (by rw [HLN.out]; exact hat4)
    obtain ⟨b0, hb0⟩ : ∃ b0, lb.getD at_ 0 = b0 := ⟨_, rfl⟩
    rw [hb0] at hcell
    have hb9 := b0.toNat_lt
    have HB5 := Lib.hid hb5
    have HO5 := Lib.hid hob5
    have HBB := Lib.hid hb0
    have HG5 := Lib.hid (And.intro hg51 hg52)
    clear hown5 hg5 hat5 hob5 hb5 hb0 HMD HRT HB3 hg52 hzA
    have hat5 : (at_ : Int) < (n4 : Int) := by omega
    go_upto_region 9 with (fail)
    rw [xor_val x b0 hx]
    obtain ⟨b1, hb1⟩ : ∃ b1, b0 ^^^ UInt8.ofNat x = b1 := ⟨_, rfl⟩
    rw [hb1]
    have HB1 := Lib.hid hb1
    have HSB := Lib.hid (ob_set (i := at_) HO5.out b1)
    have HB6 := Lib.hid (HB5.out.setCell (p := ⟨g5, at_, none⟩) hg51 (bv b1))
    generalize w5.setCell ⟨g5, at_, none⟩ (bv b1) = w6 at *
    obtain ⟨sb, hsb⟩ : ∃ sb, lb.set at_ b1 = sb := ⟨_, rfl⟩
    have hsl : sb.length = n4 := by rw [← hsb, List.length_set]; exact HLN.out
    rw [hsb] at HSB
    have HSL := Lib.hid hsl
    have HSE := Lib.hid hsb
    obtain ⟨A8, c8, hv8, hlc8, hcm8, hr8⟩ := OB.form HSB.out.1
    have hA8 : A8 = some ⟨g5, 0, none⟩ := by injection hv8 with h1 h2 h3; exact h1.symm
    have hc8 : c8 = c5 := by injection hv8 with h1 h2 h3; exact h3.symm
    subst hA8 hc8
    clear hv8 hsb hcell hfr hb1 hat
    have HCR := Lib.hid (crc_any sb (some ⟨g5, 0, none⟩) c8 _ w6 hr8 (by rw [hsl]; simp only [maxLen]; omega))
    have HPU := Lib.hid (put32_any sb (crc sb) (some ⟨g5, 0, none⟩) c8 _ w6 hr8 (Nat.le_refl _) (by rw [hsl]; omega) (crc_lt sb))
    rw [hsl] at HCR HPU
    obtain ⟨zc, hzc⟩ : ∃ zc, crc sb = zc := ⟨_, rfl⟩
    have HZC := Lib.hid hzc
    rw [hzc] at HCR HPU
    clear hr8 hlc8 hcm8 hzc hsl
    go_wp2_with fail
    refine HCR.out.mono ?_
    rintro en w7 ⟨rfl, rfl⟩
    go_wp2_with fail
    refine HPU.out.mono ?_
    rintro en w7 ⟨v7, rfl, ho7, hb7⟩
    obtain ⟨A9, c9, rfl, hlc9, hcm9, hr9⟩ := ho7.form
    have HB7 := Lib.hid (HB6.out.trans (hb7.mono HB6.out.size))
    obtain ⟨pb, hpb⟩ : ∃ pb, sb ++ le 4 zc = pb := ⟨_, rfl⟩
    rw [hpb] at hlc9 hr9 ⊢
    have hpl : pb.length = n4 + 4 := by rw [← hpb, List.length_append, le_len, HSL.out]
    rw [hpl] at hlc9 ⊢
    have HLD := Lib.hid (load_any A9 (n4 + 4) c9 pb w7 hr9 hpl hlc9 hcm9)
    have HR9 := Lib.hid hr9
    have HPB := Lib.hid (show pb = sb ++ le 4 (crc sb) from by rw [HZC.out, hpb])
    have HPL := Lib.hid hpl
    clear ho7 hb7 hlc9 hcm9 hr9 hpl hpb HCR HPU HB6 HSB HB5 HO5
    go_wp2_with fail
    refine HLD.out.mono ?_
    rintro en w8 ⟨hb8, ⟨k, rfl, he⟩ | ⟨g8, r8, rfl, he, hl8, -⟩⟩
    · have hk : k = 331 := by
        rw [HPB.out] at he
        exact spoilt_err (by rw [HSL.out]; exact hno9) he
      subst hk
      have hx0 : x ≠ 0 := fun e => by
        subst e
        have h1 : b1 = b0 := by rw [← HB1.out]; simp
        have h2 : sb = lb := by
          rw [← HSE.out, h1]
          exact set_self (by
            have h5 : lb[at_]? = some (lb[at_]'(by rw [HLN.out]; exact hat4)) := List.getElem?_eq_getElem _
            have h6 := HBB.out
            rw [List.getD_eq_getElem?_getD, h5] at h6
            rw [h5]
            exact congrArg some h6)
        have h7 : bytesB r = pb := by rw [HPB.out, h2, ← HLB.out]
        exact load_ok HCK.out.1 h7 (by rw [HPL.out]; exact hno9) he
      have hx1 : ((x : Int) == 0) = false := by rw [beq_eq_false_iff_ne]; omega
      have hx2 : decide ((x : Int) = 0) = false := by simp; omega
      have hx4 : ((x : Int) != 0) = true := by simp only [bne, hx1]; rfl
      have hx3 : decide (x = 0) = false := by simp; omega
      have HB8 := Lib.hid (HB7.out.trans (hb8.mono HB7.out.size))
      clear he hb8
      go_wp2
      go_ret
      exact ⟨rfl, HB8.out⟩
    · have HB8 := Lib.hid (HB7.out.trans (hb8.mono HB7.out.size))
      have HL8 := Lib.hid hl8
      have HE8 := Lib.hid he
      have HR8 := Lib.hid (show RB w8 w8.heap.size A9 pb from Reads.more (Reads.below HR9.out hb8) hb8.size)
      have HBU := Lib.hid (lbundle_any hl8)
      clear he hl8 hb8 HLD
      go_wp2_with fail
      refine HBU.out.mono ?_
      rintro en w9 ⟨A10, c10, us, rfl, ho10, hb10⟩
      have HB9 := Lib.hid (HB8.out.trans (hb10.mono HB8.out.size))
      have HEN := Lib.hid (bencode_any _ r8 us w9 ho10.steps (right_in HL8.out.2.1))
      obtain ⟨n10, hn10⟩ : ∃ n10, r8.length = n10 := ⟨_, rfl⟩
      rw [hn10] at HEN ⊢
      have HR10 := Lib.hid (show RB w9 w9.heap.size A9 pb from Reads.more (Reads.below HR8.out hb10) hb10.size)
      clear ho10 hb10 hn10 HBU
      go_wp2_with fail
      refine HEN.out.mono ?_
      rintro en w10 ⟨h10, hb10⟩
      obtain ⟨Ao, co, no, rfl, hno, hro⟩ : ∃ Ao co no, en = .returned (.tuple #[.slice Ao no co, .int .i64 0]) ∧ (bytesB r8).length = no ∧ RB w10 w10.heap.size Ao (bytesB r8) := by
        rcases h10 with ⟨h, -⟩ | ⟨-, h, -⟩ | ⟨-, -, v, rfl, ho⟩
        · exact absurd HL8.out.2.1 h
        · exact absurd HL8.out.2.2 (by omega)
        · obtain ⟨A, c, rfl, h1, h2, h3⟩ := ho.form
          exact ⟨A, c, _, rfl, rfl, h3⟩
      have HB10 := Lib.hid (HB9.out.trans (hb10.mono HB9.out.size))
      have hcv1 := conv_rb (P := Tryz.prog) 27 9 5 co Tryz.underlying27 Tryz.underlying5 Tryz.underlying9 hro
      have hcv2 := conv_rb (P := Tryz.prog) 27 9 5 c9 Tryz.underlying27 Tryz.underlying5 Tryz.underlying9 (RB.below (HR10.out) hb10)
      rw [HPL.out] at hcv2
      rw [hno, HE8.out] at hcv1
      obtain ⟨tx, htx⟩ : ∃ tx, str pb = tx := ⟨_, rfl⟩
      rw [htx] at hcv1 hcv2
      have hte : (tx.toList == tx.toList) = true := by simp
      clear h10 hb10 hro HEN hno htx
      go_wp2
      go_ret
      exact ⟨rfl, HB10.out⟩
set_option maxRecDepth 100000 in
theorem walk {H : Type} {enc : TypeId × Value → H} (v0 : Value) (d0 : DataW H) (p0 : List MemPlace) (base0 : Nat) (a1 : Int) (a2 : Int) (w : World) (hv0 : Value.okWide Tryz.prog w .any base0 24 v0) (w0 : DataW.Trod enc Tryz.prog w 0 (fun _ => true) true 24 v0 d0 p0) (hwt0 : ∀ n ∈ d0.weights Tryz.prog 24, n ≤ 140737488351232) (w1 : (Lit.int .i64 a1).wf = true) (w2 : (Lit.int .u8 a2).wf = true) :
    Calls Tryz.prog 5 #[v0, .int .i64 a1, .int .u8 a2] w fun e w' => e = .returned (.bool true) ∧ Below w.heap.size w w' := by
  obtain ⟨u0, l0, vs0, rfl, hs0, hi0⟩ := open_bundle hv0 w0 hwt0
  have hy := bounds_u8 w2
  have ha := bounds_i64 w1
  obtain ⟨x, rfl⟩ := Int.eq_ofNat_of_zero_le hy.1
  exact spoilt_walk u0 a1 x l0 vs0 w hs0 hi0 ha (by omega)

set_option maxRecDepth 100000 in
theorem contract (H : Type) (enc : TypeId × Value → H) (W : World) (base : Nat) (args : Array Value) (ds gs : List (DataW H)) (before : List MemPlace)
    (hval0 : ∀ (j : Nat) t v, Tryz.f5.params[j]? = some t → args[j]? = some v → Value.okWide Tryz.prog W .any base t v)
    (hW : DataW.Whole enc Tryz.prog Tryz.f5.params.toList Rows.loadSpoiltSpec.vars false W args.toList ds gs before)
    (hsz0 : (DataW.weightsEach Tryz.prog (Tryz.f5.params.toList ++ Rows.loadSpoiltSpec.plain.varTypes Tryz.prog) (ds ++ gs)).all (· ≤ reachBytes) = true) :
    Calls Tryz.prog 5 args W fun e W' => ∃ v, e = .returned v ∧ Rows.loadSpoiltSpec.post enc Tryz.prog Tryz.f5 false true false false W args v W' := by
  have hval : ∀ (j : Nat) t v, Tryz.f5.params[j]? = some t → args[j]? = some v → Value.okWide Tryz.prog W .any base t v := hval0
  have hsz : (DataW.weightsEach Tryz.prog (Tryz.f5.params.toList ++ Rows.loadSpoiltSpec.plain.varTypes Tryz.prog) (ds ++ gs)).all (· ≤ reachBytes) = true := hsz0
  have hW' := hW
  obtain ⟨p, q, hA0, hV, rfl, hfz, hnd⟩ := hW
  have hA : DataW.TrodAll enc Tryz.prog W 0 (fun _ => true) true Tryz.f5.params.toList args.toList ds p := hA0
  rw [Tryz.params5] at hA hval hsz
  obtain ⟨v0, vs0, d0, ds0, p0, q0, hargs, rfl, rfl, h0, r0⟩ := trodAll_cons hA
  obtain ⟨v1, vs1, d1, ds1, p1, q1, rfl, rfl, rfl, h1, r1⟩ := trodAll_cons r0
  obtain ⟨v2, vs2, d2, ds2, p2, q2, rfl, rfl, rfl, h2, r2⟩ := trodAll_cons r1
  obtain ⟨rfl, rfl, rfl⟩ := trodAll_nil r2
  obtain rfl : args = #[v0, v1, v2] := by cases args; simp_all
  obtain ⟨rfl, rfl⟩ := trodVars_none hV
  have k0 := h0
  have lt0 : ∀ x ∈ p0, x.block < W.heap.size := by obtain ⟨m, hm⟩ := k0; exact DataW.trod_lt m _ _ _ hm
  have hwt0 : ∀ n ∈ d0.weights Tryz.prog 24, n ≤ 140737488351232 := fun n hn => by
    have := of_decide_eq_true (List.all_eq_true.1 hsz _ (DataW.weights_mem_each (j := 0) (t := 24) rfl rfl n hn))
    simpa [reachBytes] using this
  obtain ⟨a1, rfl, rfl, rfl, w1⟩ := open_int Tryz.underlying3 (hval 1 3 v1 rfl rfl) h1
  obtain ⟨a2, rfl, rfl, rfl, w2⟩ := open_int Tryz.underlying5 (hval 2 5 v2 rfl rfl) h2
  clear hA0 hval0
  refine (walk v0 d0 p0 base a1 a2 W (hval 0 24 v0 rfl rfl) h0 hwt0 w1 w2).mono fun e W' ⟨he, bel⟩ => ?_
  subst he
  exact ⟨_, rfl, _, _, _, [], _, [], hW', trodAll_mk1 (shut_bool Tryz.underlying4 _), (trodAll_cons_mk (Below.trod laidOut (by kernel_rfl) (of_decide_eq_true (by kernel_rfl)) k0 bel lt0) (trodAll_cons_mk (shut_int Tryz.underlying3 w1) (trodAll_cons_mk (shut_int Tryz.underlying5 w2) trodAll_mk0))), rfl, bel.frame _, fun h => by cases h⟩

set_option maxRecDepth 100000 in
theorem lifted (os : Os) (started : os.Started) (H : Type) (enc : TypeId × Value → H) :
    ReturnsInHanded {} Tryz.checked os 5 .any (Rows.loadSpoiltSpec.pre6 enc Tryz.prog Tryz.f5 Rows.loadSpoiltRow.domain false) (Rows.loadSpoiltSpec.post enc Tryz.prog Tryz.f5 false true false false) := by
  refine returnsInHanded_of_change_sized (C := Tryz.checked) own started (by kernel_rfl) Tryz.func5
    (ChangeSpec.witness6 (enc := enc) (C := Tryz.checked) false ⟨#[], #[.agg #[.slice none 0 0], .int .i64 0, .int .u8 0], []⟩ 8 (by kernel_rfl) (by kernel_rfl) (by kernel_rfl) (by kernel_rfl)) ?_
  intro W base args ds gs before hval hW _ hsz _
  exact contract H enc W base args ds gs before hval hW hsz

theorem over : Rows.loadSpoiltRow.holds Tryz.pinned (OpenSpec.ofChange Rows.loadSpoiltSpec) :=
  OpenClaim.holds_of_wide 5 Tryz.f5 rfl rfl rfl rfl rfl rfl rfl ⟨rfl, rfl, rfl, rfl, rfl⟩ rfl rfl rfl rfl rfl (by kernel_rfl) Tryz.func5 (by kernel_rfl)
    (of_decide_eq_true (by kernel_rfl)) (by unfold Func.isWrapper; first | (rw [if_pos (by decide +kernel)]; kernel_rfl) | (rw [if_neg (by decide +kernel)]; exact ⟨rfl, rfl⟩))
    (fun os started H enc _ => lifted os started H enc)

/-- The statement. -/
theorem proved : Rows.LoadSpoiltSaid := over
#print axioms proved
end Go.Proofs.YthdldooilcbmlaaGreat.loadSpoilt
