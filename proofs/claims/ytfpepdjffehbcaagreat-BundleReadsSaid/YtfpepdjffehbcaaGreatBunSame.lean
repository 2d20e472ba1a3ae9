/-
  The walk of the law's same: are two bundles one? Condition: they are within the reach.
-/
import Derived.Test.YtfpepdjffehbcaaGreatBunOpen
import Derived.Laws.StructEq
set_option linter.unusedVariables false
set_option linter.unusedSimpArgs false
namespace Go.Proofs.YtfpepdjffehbcaaGreat
open Go.RowKit

theorem lists_eq {α : Type} {l m : List α} (hn : l.length = m.length) (h : ∀ (j : Nat) (x y : α), l[j]? = some x → m[j]? = some y → x = y) : l = m := by
  apply List.ext_getElem?
  intro j
  cases hl : l[j]? with
  | none =>
    rw [List.getElem?_eq_none_iff] at hl
    exact (List.getElem?_eq_none_iff.2 (by omega)).symm
  | some x =>
    obtain ⟨y, hy⟩ : ∃ y, m[j]? = some y := ⟨_, List.getElem?_eq_getElem (by have := (List.getElem?_eq_some_iff.1 hl).1; omega)⟩
    rw [hy, h j x y hl hy]
theorem upto_next {α : Type} {l m : List α} {i : Nat} {x : α} (h : ∀ (j : Nat) (x y : α), j < i → l[j]? = some x → m[j]? = some y → x = y) (hx : l[i]? = some x) (hy : m[i]? = some x) : ∀ (j : Nat) (x y : α), j < i + 1 → l[j]? = some x → m[j]? = some y → x = y := by
  intro j a b hj ha hb
  rcases Nat.lt_or_ge j i with h1 | h1
  · exact h j a b h1 ha hb
  · obtain rfl : j = i := by omega
    rw [hx] at ha
    rw [hy] at hb
    cases ha
    cases hb
    rfl
theorem steps_spot {W : World} {v : Value} {l : List PStep} {vs : List Value} (h : StepsR W v l vs) {i : Nat} {b : PStep} (hb : l[i]? = some b) : ∃ b1 o1 c Ak ck, v = .slice (some ⟨b1, o1, none⟩) l.length c ∧ b1 < W.heap.size ∧ W.cell? ⟨b1, o1 + i * 2, none⟩ = some (.string b.1) ∧ W.cell? ⟨b1, o1 + i * 2 + 1, none⟩ = some (.slice Ak b.2.length ck) ∧ vs[i]? = some (.slice Ak b.2.length ck) ∧ KeysAt W W.heap.size (.slice Ak b.2.length ck) b.2 := by
  obtain ⟨A, c, rfl, -, -, hR, hvl, hk⟩ := h
  have hi := (List.getElem?_eq_some_iff.1 hb).1
  obtain ⟨kv, hkv⟩ : ∃ kv, vs[i]? = some kv := ⟨_, List.getElem?_eq_getElem (by omega)⟩
  obtain ⟨b1, o1, rfl, hb1, hcl⟩ := hR.spot (by omega) (by omega)
  have hat := stepCells_at l vs i b kv hb hkv
  have hkk := hk i b kv hb hkv
  have hkk2 := hkk
  obtain ⟨Ak, ck, rfl, -, -, -⟩ := hkk
  exact ⟨b1, o1, c, Ak, ck, rfl, hb1, hcl _ _ hat.1, hcl _ _ hat.2, hkv, hkk2⟩
-- BEGIN same
set_option maxHeartbeats 8000000 in
set_option maxRecDepth 100000 in
theorem bsame_any (v1 v2 : Value) (l m : List PStep) (vs us : List Value) (w : World) (h1 : StepsR w v1 l vs) (h2 : StepsR w v2 m us) :
    Calls Tryz.prog 13 #[.agg #[v1], .agg #[v2]] w fun e w' => e = .returned (.bool (decide (l = m))) ∧ Below w.heap.size w w' := by
  have HS1 := Lib.hid h1
  have HS2 := Lib.hid h2
  obtain ⟨A1, c1, rfl, hc1, hm1, -, -, -⟩ := h1
  obtain ⟨A2, c2, rfl, hc2, hm2, -, -, -⟩ := h2
  unfold maxLen at hm1 hm2
  obtain ⟨n, hN⟩ : ∃ n, l.length = n := ⟨_, rfl⟩
  obtain ⟨n2, hN2⟩ : ∃ n2, m.length = n2 := ⟨_, rfl⟩
  rw [hN] at HS1 hc1 ⊢
  rw [hN2] at HS2 hc2 ⊢
  have HN := Lib.hid hN
  have HN2 := Lib.hid hN2
  clear hN hN2
  have hn63 : (n : Int) ≤ 9223372036854775807 := by omega
  have hn64 : (n2 : Int) ≤ 9223372036854775807 := by omega
  have HW2 := Lib.hid (show Below w.heap.size w ((w.alloc (.cells #[.slice A1 n c1] 24)).alloc (.cells #[.slice A2 n2 c2] 24)) ∧ Blk ((w.alloc (.cells #[.slice A1 n c1] 24)).alloc (.cells #[.slice A2 n2 c2] 24)) w.heap.size 24 #[.slice A1 n c1] ∧ Blk ((w.alloc (.cells #[.slice A1 n c1] 24)).alloc (.cells #[.slice A2 n2 c2] 24)) (w.heap.size + 1) 24 #[.slice A2 n2 c2] from
    ⟨((Below.refl _ w).alloc (Nat.le_refl _) _).alloc (by simp) _, (Blk.new w _ _).alloc _, by
      have := Blk.new (w.alloc (.cells #[.slice A1 n c1] 24)) 24 #[.slice A2 n2 c2]
      simpa only [World.size_alloc] using this⟩)
  obtain ⟨w2, hw2⟩ : ∃ w2, (w.alloc (.cells #[.slice A1 n c1] 24)).alloc (.cells #[.slice A2 n2 c2] 24) = w2 := ⟨_, rfl⟩
  have HWE := Lib.hid hw2
  rw [hw2] at HW2
  clear hw2
  have HT := Lib.hid (show ∀ W, Below w2.heap.size w2 W → StepsR W (.slice A1 n c1) l vs ∧ StepsR W (.slice A2 n2 c2) m us from fun W hW => ⟨(HS1.out.more HW2.out.1).more hW, (HS2.out.more HW2.out.1).more hW⟩)
  go_enter Tryz.func13, Tryz.ntmps13
  go_upto_region 1 with (fail)
  rw [HWE.out]
  obtain ⟨h0, hh0⟩ : ∃ h0, w.heap.size = h0 := ⟨_, rfl⟩
  have HH0 := Lib.hid hh0
  have k0 : w2.cell? ⟨h0, 0, none⟩ = some (.slice A1 n c1) := by rw [← hh0]; exact HW2.out.2.1.cell 0
  have k1 : w2.cell? ⟨h0 + 1, 0, none⟩ = some (.slice A2 n2 c2) := by rw [← hh0]; exact HW2.out.2.2.cell 0
  have HB3 := Lib.hid (show Blk w2 (h0 + 1) 24 #[.slice A2 n2 c2] from by rw [← hh0]; exact HW2.out.2.2)
  rw [hh0]
  clear hh0
  have HBL := Lib.hid (fun (W : World) (hW : Below w2.heap.size w2 W) => HW2.out.1.trans (hW.mono HW2.out.1.size))
  by_cases hne : n = n2
  · subst hne
    go_wp2
    clear k0 k1
    go_loopw [19] (fun iv W => ∃ i : Nat, iv = .int .i64 (i : Int) ∧ i ≤ n ∧ (∀ (j : Nat) (x y : PStep), j < i → l[j]? = some x → m[j]? = some y → x = y) ∧ Below w2.heap.size w2 W) (fun iv _ => n - (Lib.intOf iv).toNat)
    case atStart => exact ⟨0, rfl, Nat.zero_le _, fun j x y hj => absurd hj (Nat.not_lt_zero j), Below.refl _ _⟩
    case round =>
      obtain ⟨i, rfl, hi, heq, hB⟩ := hrel
      have HEQ := Lib.hid heq
      have HB := Lib.hid hB
      clear heq hB
      by_cases hlt : i < n
      · have hq : (i : Int) < (n : Int) := by omega
        have hi0 : (0 : Int) ≤ (i : Int) := by omega
        obtain ⟨⟨nm, vl⟩, hb⟩ : ∃ b, l[i]? = some b := ⟨_, List.getElem?_eq_getElem (by rw [HN.out]; exact hlt)⟩
        obtain ⟨⟨nm2, vl2⟩, hb2⟩ : ∃ b, m[i]? = some b := ⟨_, List.getElem?_eq_getElem (by rw [HN2.out]; exact hlt)⟩
        obtain ⟨b1, o1, c3, Ak, ck, e1, hlt1, z0, z1, hv1, hk1⟩ := steps_spot (HT.out wr HB.out).1 hb
        obtain ⟨b2, o2, c4, Ak2, ck2, e2, hlt2, y0, y1, hv2, hk2⟩ := steps_spot (HT.out wr HB.out).2 hb2
        rw [HN.out] at e1
        rw [HN2.out] at e2
        cases e1
        cases e2
        have HBB := Lib.hid (And.intro hb hb2)
        have HK1 := Lib.hid (show ∀ W, Below wr.heap.size wr W → KeysAt W W.heap.size (.slice Ak vl.length ck) vl from fun W hW => hk1.more hW hW.size)
        have HK2 := Lib.hid (show ∀ W, Below wr.heap.size wr W → KeysAt W W.heap.size (.slice Ak2 vl2.length ck2) vl2 ∧ W.cell? ⟨b2, o2 + i * 2, none⟩ = some (.string nm2) ∧ W.cell? ⟨b2, o2 + i * 2 + 1, none⟩ = some (.slice Ak2 vl2.length ck2) from fun W hW => ⟨hk2.more hW hW.size, (hW.cell (p := ⟨b2, o2 + i * 2, none⟩) hlt2).trans y0, (hW.cell (p := ⟨b2, o2 + i * 2 + 1, none⟩) hlt2).trans y1⟩)
        obtain ⟨_, _, _, hck1, hcm1, _⟩ := hk1
        obtain ⟨_, _, _, hck2, hcm2, _⟩ := hk2
        unfold maxLen at hcm1 hcm2
        simp only at z0 z1 hck1 hck2 HK1 HK2
        obtain ⟨mk, hmk⟩ : ∃ mk, vl.length = mk := ⟨_, rfl⟩
        obtain ⟨mk2, hmk2⟩ : ∃ mk2, vl2.length = mk2 := ⟨_, rfl⟩
        have HMK := Lib.hid hmk
        have HMK2 := Lib.hid hmk2
        rw [hmk] at z1 hck1 HK1
        rw [hmk2] at hck2 HK2
        have hmk3 : (mk : Int) ≤ 9223372036854775807 := by omega
        have hmk4 : (mk2 : Int) ≤ 9223372036854775807 := by omega
        clear hb hb2 hv1 hv2 y0 y1 hmk hmk2 hck1 hck2 hcm1 hcm2
        have HBA := Lib.hid ((Below.refl wr.heap.size wr).alloc (Nat.le_refl _) (.cells #[.string nm, .slice Ak mk ck] 56))
        have HG := Lib.hid (Blk.new wr 56 #[.string nm, .slice Ak mk ck])
        have HB6 := Lib.hid (HB.out.trans (HBA.out.mono HB.out.size))
        go_upto_region 6 with (fail)
        generalize wr.alloc (.cells #[.string nm, .slice Ak mk ck] 56) = w6 at *
        obtain ⟨gk, hgk⟩ : ∃ gk, wr.heap.size = gk := ⟨_, rfl⟩
        rw [hgk] at HG ⊢
        clear hgk z0 z1
        have x0 : w6.cell? ⟨gk, 0, none⟩ = some (.string nm) := HG.out.cell 0
        have x1 : w6.cell? ⟨gk, 1, none⟩ = some (.slice Ak mk ck) := HG.out.cell 1
        have x2 : w6.cell? ⟨h0 + 1, 0, none⟩ = some (.slice (some ⟨b2, o2, none⟩) n c2) := (HB3.out.below HB6.out HB3.out.lt).cell 0
        obtain ⟨-, x3, x4⟩ := HK2.out w6 HBA.out
        have hbq := ba_beqB nm nm2
        by_cases he : nm = nm2
        · have HE := Lib.hid he
          rw [decide_eq_true he] at hbq
          clear he
          by_cases hme : mk = mk2
          · subst hme
            go_quiet (fail)
            have HB7 := Lib.hid (below_drewN HB6.out nq)
            have HBA7 := Lib.hid (below_drewN HBA.out nq)
            have HG7 := Lib.hid (HG.out.drewN nq)
            generalize w6.drewN nq = w7 at *
            clear x0 x1 x2 x3 x4 hbq
            have x1 : w7.cell? ⟨gk, 1, none⟩ = some (.slice Ak mk ck) := HG7.out.cell 1
            go_wp2
            clear x1
            go_loopw [49] (fun jv W => ∃ j : Nat, jv = .int .i64 (j : Int) ∧ j ≤ mk ∧ (∀ (q : Nat) (x y : PKey), q < j → vl[q]? = some x → vl2[q]? = some y → x = y) ∧ Below w7.heap.size w7 W) (fun jv _ => mk - (Lib.intOf jv).toNat)
            case atStart => exact ⟨0, rfl, Nat.zero_le _, fun q x y hq => absurd hq (Nat.not_lt_zero q), Below.refl _ _⟩
            case round =>
              obtain ⟨j, rfl, hj, hjq, hB⟩ := hrel
              have HJQ := Lib.hid hjq
              have HBJ := Lib.hid hB
              clear hjq hB
              have HBJ2 := Lib.hid (HBA7.out.trans (HBJ.out.mono HBA7.out.size))
              by_cases hjm : j < mk
              · have hq2 : (j : Int) < (mk : Int) := by omega
                have hj0 : (0 : Int) ≤ (j : Int) := by omega
                obtain ⟨⟨xp, xt⟩, hx⟩ : ∃ x, vl[j]? = some x := ⟨_, List.getElem?_eq_getElem (by rw [HMK.out]; exact hjm)⟩
                obtain ⟨⟨yp, yt⟩, hy⟩ : ∃ y, vl2[j]? = some y := ⟨_, List.getElem?_eq_getElem (by rw [HMK2.out]; exact hjm)⟩
                have HXY := Lib.hid (And.intro hx hy)
                obtain ⟨q1, p1, rfl, hq1, z0, z1⟩ := keys_spot (HK1.out wr HBJ2.out) hx
                obtain ⟨hkk, u3, u4⟩ := HK2.out wr HBJ2.out
                obtain ⟨q2, p2, rfl, hq3, u0, u1⟩ := keys_spot hkk hy
                simp only at z0 z1 u0 u1
                have hbl3 : b2 < wr.heap.size := by have := HBJ2.out.size; omega
                clear hx hy hkk
                have HBX := Lib.hid ((Below.refl wr.heap.size wr).alloc (Nat.le_refl _) (.cells #[.string xp, .string xt] 59))
                have HG8 := Lib.hid (Blk.new wr 59 #[.string xp, .string xt])
                have HB8 := Lib.hid (HBJ.out.trans (HBX.out.mono HBJ.out.size))
                have u2 : (wr.alloc (.cells #[.string xp, .string xt] 59)).cell? ⟨h0 + 1, 0, none⟩ = some (.slice (some ⟨b2, o2, none⟩) n c2) := ((HB3.out.below HB7.out HB3.out.lt).below HB8.out (HB3.out.below HB7.out HB3.out.lt).lt).cell 0
                have u3' := (HBX.out.cell (p := ⟨b2, o2 + i * 2 + 1, none⟩) hbl3).trans u4
                have u0' := (HBX.out.cell (p := ⟨q2, p2 + j * 2, none⟩) hq3).trans u0
                have u1' := (HBX.out.cell (p := ⟨q2, p2 + j * 2 + 1, none⟩) hq3).trans u1
                go_upto_region 11 with (fail)
                clear u0 u1 u3 u4 z0 z1
                generalize wr.alloc (.cells #[.string xp, .string xt] 59) = w8 at *
                obtain ⟨gv, hgv⟩ : ∃ gv, wr.heap.size = gv := ⟨_, rfl⟩
                rw [hgv] at HG8 ⊢
                clear hgv
                have z0 : w8.cell? ⟨gv, 0, none⟩ = some (.string xp) := HG8.out.cell 0
                have z1 : w8.cell? ⟨gv, 1, none⟩ = some (.string xt) := HG8.out.cell 1
                have hb1q := ba_beqB xp yp
                have hb2q := ba_beqB xt yt
                by_cases hee : xp = yp ∧ xt = yt
                · obtain ⟨hee1, hee2⟩ := hee
                  rw [decide_eq_true hee1] at hb1q
                  rw [decide_eq_true hee2] at hb2q
                  have HNX := Lib.hid (upto_next HJQ.out HXY.out.1 (by rw [HXY.out.2, hee1, hee2]))
                  clear hee1 hee2
                  go_quiet (fail)
                  go_wp2
                  go_roundw
                  case rel => exact ⟨j + 1, by go_num, hjm, HNX.out, below_drewN HB8.out nq⟩
                  case measure => simp [Lib.intOf]; omega
                · have HNO := Lib.hid (show decide (l = m) = false from decide_eq_false fun e => by
                    have h1 := HBB.out
                    rw [e, h1.2] at h1
                    have h2 := h1.1
                    cases h2
                    have h3 := HXY.out
                    rw [h3.2] at h3
                    have h4 := h3.1
                    cases h4
                    exact hee ⟨rfl, rfl⟩)
                  have hee2 : (xp = yp ∧ ¬ xt = yt) ∨ ¬ xp = yp := by
                    by_cases h : xp = yp
                    · exact .inl ⟨h, fun h2 => hee ⟨h, h2⟩⟩
                    · exact .inr h
                  clear hee
                  rcases hee2 with ⟨hee1, hee2⟩ | hee1
                  case' inl => rw [decide_eq_true hee1] at hb1q; rw [decide_eq_false hee2] at hb2q; clear hee2
                  case' inr => rw [decide_eq_false hee1] at hb1q; clear hb2q
                  all_goals
                    clear hee1
                    go_quiet (fail)
                    go_wp2
                    go_ret
                    exact ⟨by rw [HNO.out]; rfl, HBL.out _ (HB7.out.trans ((below_drewN HB8.out nq).mono HB7.out.size))⟩
              · obtain rfl : mk = j := by omega
                have hq2 : ¬ (mk : Int) < (mk : Int) := by omega
                have HNX := Lib.hid (show ∀ (q : Nat) (x y : PStep), q < i + 1 → l[q]? = some x → m[q]? = some y → x = y from upto_next HEQ.out HBB.out.1 (by
                  rw [HBB.out.2, HE.out]
                  have : vl = vl2 := lists_eq (by rw [HMK.out, HMK2.out]) fun q x y hx hy => HJQ.out q x y (by have := (List.getElem?_eq_some_iff.1 hx).1; have := HMK.out; omega) hx hy
                  rw [this]))
                go_wp2
                go_roundw
                case rel => exact ⟨i + 1, by go_num, hlt, HNX.out, HB7.out.trans (HBJ.out.mono HB7.out.size)⟩
                case measure => simp [Lib.intOf]; omega
          · have hme2 : ¬ (mk : Int) = (mk2 : Int) := by omega
            have HNO := Lib.hid (show decide (l = m) = false from decide_eq_false fun e => by
              have h1 := HBB.out
              rw [e, h1.2] at h1
              have h2 := h1.1
              cases h2
              exact hme (HMK.out.symm.trans HMK2.out))
            clear hme
            go_quiet (fail)
            go_wp2
            go_ret
            exact ⟨by rw [HNO.out]; rfl, HBL.out _ (below_drewN HB6.out nq)⟩
        · rw [decide_eq_false he] at hbq
          have HNO := Lib.hid (show decide (l = m) = false from decide_eq_false fun e => by
            have h1 := HBB.out
            rw [e, h1.2] at h1
            have h2 := h1.1
            cases h2
            exact he rfl)
          clear he
          go_quiet (fail)
          go_wp2
          go_ret
          exact ⟨by rw [HNO.out]; rfl, HBL.out _ (below_drewN HB6.out nq)⟩
      · obtain rfl : n = i := by omega
        have hq : ¬ (n : Int) < (n : Int) := by omega
        have HYES := Lib.hid (show decide (l = m) = true from decide_eq_true (lists_eq (by rw [HN.out, HN2.out]) fun j x y hx hy => HEQ.out j x y (by have := (List.getElem?_eq_some_iff.1 hx).1; have := HN.out; omega) hx hy))
        go_wp2
        go_ret
        exact ⟨by rw [HYES.out]; rfl, HBL.out _ HB.out⟩
  · have hne2 : ¬ (n : Int) = (n2 : Int) := by omega
    have HNO := Lib.hid (show decide (l = m) = false from decide_eq_false fun e => hne (by rw [← HN.out, e, HN2.out]))
    clear hne
    go_wp2
    go_ret
    exact ⟨by rw [HNO.out]; rfl, HBL.out _ (Below.refl _ _)⟩
-- END same
end Go.Proofs.YtfpepdjffehbcaaGreat
