/-
  The walk of a layout's bytes. Condition: at most 100 Books of at most 5000 values.
-/
import Derived.Test.YtfpepdjffehbcaaGreatBunPut
import Derived.Test.YtfpepdjffehbcaaGreatBunLay
import Derived.Test.YtfpepdjffehbcaaGreatCrc
import Derived.Lib.SlBytesConst
set_option linter.unusedVariables false
set_option linter.unusedSimpArgs false
namespace Go.Proofs.YtfpepdjffehbcaaGreat
open Go.RowKit

/-- The number of a text, where it is one of the first n. -/
def numI (L : List ByteArray) (n : Nat) : ByteArray → Option Value := fun s => if idx L s < n then some (.int .i64 (idx L s : Int)) else none
theorem numI_zero (L : List ByteArray) : numI L 0 = fun _ => none := by funext s; simp [numI]
theorem numI_next {L : List ByteArray} (hr : RiseL bl L) {i : Nat} {s : ByteArray} (h : L[i]? = some s) : putMF (numI L i) s (.int .i64 (i : Int)) = numI L (i + 1) ∧ (numI L i s).isSome = false := by
  have hi := idx_at hr h
  refine ⟨?_, by simp [numI, hi]⟩
  funext t
  unfold putMF numI
  by_cases e : t = s
  · rw [if_pos e, e, hi, if_pos (by omega)]
  · rw [if_neg e]
    by_cases ht : idx L t < i
    · rw [if_pos ht, if_pos (by omega)]
    · rw [if_neg ht, if_neg]
      intro h2
      have h3 : idx L t = i := by omega
      have hm : t ∈ L := by
        unfold idx at h3
        have hlt : L.findIdx (fun x => decide (x = t)) < L.length := by rw [h3]; exact (List.getElem?_eq_some_iff.1 h).1
        obtain ⟨x, hx, hp⟩ := List.findIdx_lt_length.1 hlt
        have : x = t := by simpa using hp
        exact this ▸ hx
      have h4 := idx_get hm
      rw [h3, h] at h4
      exact e (Option.some.inj h4).symm
theorem numI_all {L : List ByteArray} {s : ByteArray} (h : s ∈ L) : (numI L L.length s).getD (.int .i64 0) = .int .i64 (idx L s : Int) := by
  unfold numI
  rw [if_pos (idx_lt h)]
  rfl
theorem zero_int (w : World) : (zeroValue 3).run Tryz.prog w = .ok (.int .i64 0) w := by kernel_rfl
/-- The bytes in the variable at gb, above a world. -/
def BW (wM : World) (gb : Nat) (L : List UInt8) (W : World) : Prop := Below wM.heap.size wM W ∧ BV wM.heap.size W gb L
theorem BW.only {wM W W' : World} {gb : Nat} {L L2 : List UInt8} (h : BW wM gb L W) (hv : BV wM.heap.size W' gb L2) (ho : Only gb W W') : BW wM gb L2 W' := ⟨Below.only h.1 ho h.2.le h.1.size, hv⟩
theorem BW.on {wM W W' : World} {gb : Nat} {L : List UInt8} (h : BW wM gb L W) (hb : Below W.heap.size W W') : BW wM gb L W' := ⟨h.1.trans (hb.mono h.1.size), h.2.on hb⟩
theorem BW.alloc {wM W : World} {gb : Nat} {L : List UInt8} (h : BW wM gb L W) (o : Obj) : BW wM gb L (W.alloc o) := h.on ((Below.refl _ W).alloc (Nat.le_refl _) o)
/-- A text's bytes behind the others. -/
theorem BW.append {wM W W' : World} {gb : Nat} {L : List UInt8} {v v' : Value} {s : ByteArray} {n : Nat} (h : BW wM gb L W) (hn : L.length = n) (hb : Blk W gb 27 #[v]) (ho : W.ownsRow wM.heap.size 5 1 v n (bvs L)) (hown : W'.ownsRow wM.heap.size 5 1 v' (n + s.size) (bvs L ++ Lib.strCells s)) (hg : W.grownBy W' v.ownBlock) :
    BW wM gb (L ++ s.data.toList) (W'.setCell ⟨gb, 0, none⟩ v') ∧ W'.cell? ⟨gb, 0, none⟩ = some v ∧ W'.frozen? ⟨gb, 0, none⟩ = false := by
  have h2 := blk_stays hb ho (by decide) hg
  obtain ⟨A, c, rfl, -, -, -⟩ := own_form hown
  have e : (L ++ s.data.toList).length = n + s.size := by
    rw [List.length_append, hn]
    rfl
  have hbl : Below wM.heap.size wM W' := h.1.grown hg h.1.size (fun k hk => (ho.lt k hk).1)
  refine ⟨⟨hbl.setCell h.2.le _, ⟨A, c, ?_, ?_, h.2.le⟩⟩, h2.cell 0, h2.frozen 0⟩
  · rw [e]
    exact h2.set_ 0 _
  · unfold OB
    rw [e, bvs_append]
    exact own_stays3 hown h2 (by decide) (grown_set W' gb 0 _)
theorem lay_rows {l : List PStep} {qs : List (Value × List RowI)} {W : World} {xv : Value} (hq : qs.map Prod.snd = tabsB l) (h : TabsP W W.heap.size xv qs) {p : Nat} {x : Value × List RowI} (hx : qs[p]? = some x) : (tabsB l)[p]? = some x.2 ∧ x.2 ∈ tabsB l ∧ RowsR W W.heap.size x.1 x.2 := by
  have h1 : (tabsB l)[p]? = some x.2 := by rw [← hq, List.getElem?_map, hx]; rfl
  obtain ⟨A, c, -, -, -, -, h4⟩ := h
  exact ⟨h1, List.mem_of_getElem? h1, h4 x (List.mem_of_getElem? hx)⟩
theorem num_look {W : World} {b nT : Nat} {T : List ByteArray} {s : ByteArray} (hM : MapS W b nT nT (numI T nT)) (hn : T.length = nT) (hx : s ∈ T) (hs : s.size ≤ maxLen) : (Instr.lookup 127 (.map (some b)) (.string s) false).run Tryz.prog W = .ok (.int .i64 (idx T s : Int)) W := by
  have h := hM.look law_str Tryz.underlying127 (zero_int W) hs (key_str hs)
  subst hn
  rw [numI_all hx] at h
  exact h
/-- A Book of the layout. -/
theorem bks_at {l : List PStep} {bs : List BkE} (h : BksFin l bs) {p : Nat} {en : ByteArray} {eg et : Value} {es : List ByteArray} {ek : List Nat} (he : bs[p]? = some ⟨en, eg, es, et, ek⟩) :
    ∃ b, l[p]? = some b ∧ en = b.1 ∧ en ∈ textsP l ∧ es = groupsB b.2 ∧ (∀ x ∈ es, x ∈ textsP l) ∧ ek.length = es.length ∧ ∀ (j : Nat) (x : ByteArray) (t : Nat), es[j]? = some x → ek[j]? = some t → t = tix (tabsB l) (rowsB (textsP l) (pathsP l) b.2 x) ∧ t < (tabsB l).length := by
  obtain ⟨b, hb⟩ : ∃ b, l[p]? = some b := ⟨_, List.getElem?_eq_getElem (by rw [← h.1]; exact (List.getElem?_eq_some_iff.1 he).1)⟩
  obtain ⟨h1, h2, h3⟩ := h.2 p _ b he hb
  simp only at h1 h2 h3
  have hbm := List.mem_of_getElem? hb
  refine ⟨b, hb, h1, ?_, h2, fun x hx => ?_, by rw [h3, List.length_map, h2], fun j x t hx ht => ?_⟩
  · rw [h1]
    exact (poolL_mem _ _).2 (words_name hbm)
  · rw [h2] at hx
    unfold groupsB at hx
    obtain ⟨v, hv, rfl⟩ := List.mem_map.1 ((poolL_mem _ _).1 hx)
    exact (poolL_mem _ _).2 (words_val hbm hv).1
  · rw [h2] at hx
    rw [h3, List.getElem?_map, hx] at ht
    simp only [Option.map_some, Option.some.injEq] at ht
    refine ⟨ht.symm, ?_⟩
    rw [← ht]
    refine tix_lt ((poolL_mem (lt := tl) _ _).2 ?_)
    unfold allTabs
    exact List.mem_flatMap.2 ⟨b, hbm, List.mem_map.2 ⟨x, List.mem_of_getElem? hx, rfl⟩⟩
-- BEGIN bytes
set_option maxHeartbeats 16000000 in
set_option maxRecDepth 100000 in
theorem bbytes_any (l : List PStep) (g : Nat) (w : World) (hc : (checkB l).1 = 0) (hf : BunFew l) (h : LayAt l g w) :
    Calls Tryz.prog 38 #[.pointer (some ⟨g, 0, none⟩)] w (MadeB w 5 (bytesB l)) := by
  have HF := Lib.hid (few_all hc hf)
  have HW := Lib.hid (show ∀ W, Below w.heap.size w W → LayAt l g W from fun W hW => by
    obtain ⟨At, ct, Ap, cp, xv, bv, qs, bs, h1, h2, h3, h4, h5, h6, h7⟩ := h
    exact LayAt.on ⟨At, ct, Ap, cp, xv, bv, qs, bs, h1, h2, h3, h4, h5, h6, h7⟩ hW)
  obtain ⟨At, ct, Ap, cp, xv, bv, qs, bs, h1, h2, h3, h4, h5, h6, h7⟩ := h
  have HG := Lib.hid (show ∀ W, Below w.heap.size w W → Blk W g 88 #[.slice At (textsP l).length ct, .slice Ap (pathsP l).length cp, xv, bv] from fun W hW => h1.below hW h1.lt)
  have HT := Lib.hid (show ∀ W, Below w.heap.size w W → Txts W W.heap.size (.slice At (textsP l).length ct) (textsP l) from fun W hW => (h2.below hW).more hW.size)
  have HP := Lib.hid (show ∀ W, Below w.heap.size w W → Txts W W.heap.size (.slice Ap (pathsP l).length cp) (pathsP l) from fun W hW => (h3.below hW).more hW.size)
  have HX := Lib.hid (show ∀ W, Below w.heap.size w W → TabsP W W.heap.size xv qs from fun W hW => (h5.below hW).more hW.size)
  have HK := Lib.hid (show ∀ W, Below w.heap.size w W → BksR W W.heap.size bv bs from fun W hW => h6.on hW)
  have HQ := Lib.hid h4
  have HB := Lib.hid h7
  obtain ⟨Ax, cx, rfl, -, -, -, -⟩ := h5
  obtain ⟨Ab, cb, rfl, -, -, -, -⟩ := h6
  have hg0 : g < w.heap.size := h1.lt
  clear h1 h2 h3 h4 h7 hc hf HW
  obtain ⟨nT, hnT⟩ : ∃ nT, (textsP l).length = nT := ⟨_, rfl⟩
  obtain ⟨nP, hnP⟩ : ∃ nP, (pathsP l).length = nP := ⟨_, rfl⟩
  obtain ⟨nX, hnX⟩ : ∃ nX, qs.length = nX := ⟨_, rfl⟩
  obtain ⟨nK, hnK⟩ : ∃ nK, bs.length = nK := ⟨_, rfl⟩
  have HNT := Lib.hid hnT
  have HNP := Lib.hid hnP
  have HNX := Lib.hid hnX
  have HNK := Lib.hid hnK
  have HNX2 := Lib.hid (show (tabsB l).length = nX from by rw [← HQ.out, List.length_map]; exact hnX)
  have HNK2 := Lib.hid (show l.length = nK from by rw [← HB.out.1]; exact hnK)
  rw [hnT] at HG HT
  rw [hnP] at HG HP
  rw [hnX] at HG HX
  rw [hnK] at HG HK
  have hnT1 : nT ≤ 1500100 := by have := HF.out.nT; omega
  have hnP1 : nP ≤ 500000 := by have := HF.out.nP; omega
  have hnX1 : nX ≤ 500000 := by have h1 := HF.out.nX; have h2 := HNX2.out; omega
  have hnK1 : nK ≤ 100 := by have h1 := HF.out.few.1; have h2 := HNK2.out; omega
  have jT : (nT : Int) ≤ 1500100 := by omega
  have jP : (nP : Int) ≤ 500000 := by omega
  have jX : (nX : Int) ≤ 500000 := by omega
  have jK : (nK : Int) ≤ 100 := by omega
  clear hnT hnP hnX hnK
  have HR := Lib.hid (show RiseL bl (textsP l) from poolL_rise blT _)
  have HSZ := Lib.hid (show ∀ x ∈ textsP l, x.size ≤ maxLen from fun x hx => Nat.le_trans (HF.out.sT x hx) (by simp [maxLen]))
  obtain ⟨i0, hi0, hz0, hz1, hz2⟩ := info_parts byte_info
  have hmm := @run_makeMap Tryz.prog
  have HM0 := Lib.hid (show MapS (w.alloc (.map #[] 0)) w.heap.size 0 0 (numI (textsP l) 0) from by rw [numI_zero]; exact MapG.made w Tryz.prog 9 strL strOk)
  have HB0 := Lib.hid ((Below.refl w.heap.size w).alloc (Nat.le_refl _) (.map #[] 0))
  have k0 : (w.alloc (.map #[] 0)).cell? ⟨g, 0, none⟩ = some (.slice At nT ct) := (HG.out _ HB0.out).cell 0
  go_enter Tryz.func38, Tryz.ntmps38
  go_wp2
  clear k0
  go_loopw [26] (fun iv W => ∃ p : Nat, iv = .int .i64 (p : Int) ∧ p ≤ nT ∧ Below w.heap.size w W ∧ MapS W w.heap.size p p (numI (textsP l) p)) (fun iv _ => nT - (Lib.intOf iv).toNat)
  case atStart => exact ⟨0, rfl, Nat.zero_le _, HB0.out, HM0.out⟩
  case round =>
    clear HB0 HM0
    obtain ⟨p, rfl, hp, hB, hM⟩ := hrel
    have HBW := Lib.hid hB
    have HM := Lib.hid hM
    clear hB hM
    by_cases hpn : p < nT
    · -- <<b1
      have hq3 : (p : Int) < (nT : Int) := by omega
      obtain ⟨x, hx⟩ := at_lt (l := textsP l) (p := p) (by rw [HNT.out]; exact hpn)
      obtain ⟨Ax', cx', ex, -, -, hRx⟩ := HT.out wr HBW.out
      rw [HNT.out] at ex hRx
      cases ex
      obtain ⟨b1, o1, rfl, hb1, hcl1⟩ := hRx.spot (by omega) (by omega)
      have r0 : wr.cell? ⟨b1, o1 + p, none⟩ = some (.string x) := hcl1 _ _ (str_at hx)
      have hsx : x.size ≤ maxLen := HSZ.out x (List.mem_of_getElem? hx)
      have HNI := Lib.hid (numI_next HR.out hx)
      obtain ⟨w2, hrun, hM2, hg2⟩ := HM.out.store law_str Tryz.underlying127 (by simp only [maxLen]; omega) strL_inj hsx (key_str hsx) (.int .i64 (p : Int))
      rw [HNI.out.1, HNI.out.2] at hM2
      have HM2 := Lib.hid hM2
      have HB2 := Lib.hid (HBW.out.grown hg2 HBW.out.size (fun k hk => by cases hk; exact Nat.le_refl _))
      clear hcl1 hsx hM2 hg2 hx
      go_wp2
      go_roundw
      case rel => exact ⟨p + 1, by go_num, hpn, HB2.out, by simpa using HM2.out⟩
      case measure => simp [Lib.intOf]; omega
      -- >>b1
    · obtain rfl : nT = p := by omega
      have hq3 : ¬ (nT : Int) < (nT : Int) := by omega
      obtain ⟨wM, hwM⟩ : ∃ wM, wr = wM := ⟨_, rfl⟩
      rw [hwM] at HBW HM ⊢
      clear hwM
      have HWM := Lib.hid (show ∀ W, Below wM.heap.size wM W → Below w.heap.size w W from fun W hW => HBW.out.trans (hW.mono HBW.out.size))
      have HBW2 := Lib.hid HBW.out
      have HMM := Lib.hid (show ∀ W, Below wM.heap.size wM W → MapS W w.heap.size nT nT (numI (textsP l) nT) from fun W hW => HM.out.on hW)
      have kc := fun (w : World) (C : Array Value) (n c : Nat) => Lib.run_convert_bytes_const (P := Tryz.prog) w 27 5 C n c Tryz.underlying27 Tryz.underlying5
      have HP16 := Lib.hid (show Calls Tryz.prog 66 #[.slice (some ⟨wM.heap.size, 0, none⟩) 4 4, .int .u16 1] (wM.alloc (.cells #[.int .u8 86, .int .u8 82, .int .u8 78, .int .u8 67] 5 (4, 5))) (fun e w' => ∃ A2 c2, e = .returned (.slice A2 6 c2) ∧ OB w' wM.heap.size 5 (.slice A2 6 c2) pre0 ∧ Below wM.heap.size wM w') from by
        have hr : RB (wM.alloc (.cells #[.int .u8 86, .int .u8 82, .int .u8 78, .int .u8 67] 5 (4, 5))) (wM.heap.size + 1) (some ⟨wM.heap.size, 0, none⟩) [86, 82, 78, 67] := reads_new_mark wM #[.int .u8 86, .int .u8 82, .int .u8 78, .int .u8 67] 5 (4, 5) 1 4 rfl
        refine (put16_any [86, 82, 78, 67] 1 (some ⟨wM.heap.size, 0, none⟩) 4 (wM.heap.size + 1) _ hr (by simp) (by simp) (by omega)).mono ?_
        rintro e w' ⟨v2, rfl, ho2, hb2⟩
        obtain ⟨A2, c2, rfl, -, -, -⟩ := OB.form ho2
        have hb3 := ((Below.refl _ wM).alloc (Nat.le_refl _) (.cells #[.int .u8 86, .int .u8 82, .int .u8 78, .int .u8 67] 5 (4, 5))).trans (hb2.mono (by simp))
        exact ⟨A2, c2, rfl, ho2.base (by simp), hb3⟩)
      go_upto_region 8 with (go_at_call 66; go_must (refine HP16.out.mono ?_; rintro e w3 ⟨A3, c3, rfl, ho3, hb3⟩; have HO3 := Lib.hid ho3; have HB3 := Lib.hid hb3; clear ho3 hb3))
      clear kc
      have HV := Lib.hid (show BW wM w3.heap.size pre0 (w3.alloc (.cells #[.slice A3 6 c3] 27)) from ⟨HB3.out.alloc HB3.out.size _, A3, c3, Blk.new w3 _ _, own_more HO3.out ((Below.refl _ w3).alloc (Nat.le_refl _) _), HB3.out.size⟩)
      obtain ⟨gb, hgb⟩ : ∃ gb, w3.heap.size = gb := ⟨_, rfl⟩
      rw [hgb] at HV ⊢
      have hgg : gb ≠ g := by have := HBW.out.size; have := HB3.out.size; omega
      clear hgb
      generalize w3.alloc (.cells #[.slice A3 6 c3] 27) = w4 at *
      clear HO3 HB3 HP16 HM HBW
      have HL0 := Lib.hid (HF.out.lenT 0)
      -- put(len(x.texts))
      have k0 : w4.cell? ⟨g, 0, none⟩ = some (.slice At nT ct) := (HG.out _ (HWM.out _ HV.out.1)).cell 0
      have HPA := Lib.hid (put1 nT pre0 wM.heap.size gb w4 HV.out.2 (by omega) (by rw [pre0_len]; omega))
      go_upto_region 10 with (go_at_call 67; go_must (refine HPA.out.mono ?_; rintro e w5 ⟨rfl, hv5, ho5⟩; have HV5 := Lib.hid (show BW wM gb (preT l) w5 from HV.out.only (by unfold preT; rw [HNT.out]; exact hv5) ho5); clear hv5 ho5))
      clear k0 HPA HV
      have k0 : w5.cell? ⟨g, 0, none⟩ = some (.slice At nT ct) := (HG.out _ (HWM.out _ HV5.out.1)).cell 0
      go_wp2
      clear k0
      -- <<loop2
      go_loopw [52] (fun iv W => ∃ p : Nat, iv = .int .i64 (p : Int) ∧ p ≤ nT ∧ BW wM gb (preT l ++ ((textsP l).take p).flatMap textBy) W) (fun iv _ => nT - (Lib.intOf iv).toNat)
      case atStart => exact ⟨0, rfl, Nat.zero_le _, by simpa using HV5.out⟩
      case round =>
        clear HV5
        obtain ⟨p, rfl, hp, hV⟩ := hrel
        have HV := Lib.hid hV
        clear hV
        by_cases hpn : p < nT
        · -- <<b2
          have hq3 : (p : Int) < (nT : Int) := by omega
          obtain ⟨x, hx⟩ := at_lt (l := textsP l) (p := p) (by rw [HNT.out]; exact hpn)
          have HXX := Lib.hid hx
          obtain ⟨Ax', cx', ex, -, -, hRx⟩ := HT.out wr (HWM.out _ HV.out.1)
          rw [HNT.out] at ex hRx
          cases ex
          obtain ⟨b1, o1, rfl, hb1, hcl1⟩ := hRx.spot (by omega) (by omega)
          have r0 : wr.cell? ⟨b1, o1 + p, none⟩ = some (.string x) := hcl1 _ _ (str_at hx)
          have hsx := HF.out.sT x (List.mem_of_getElem? hx)
          obtain ⟨L, hL⟩ : ∃ L, preT l ++ ((textsP l).take p).flatMap textBy = L := ⟨_, rfl⟩
          have hl1 : L.length ≤ 6200000000 := by rw [← hL]; exact HF.out.lenT p
          have HLQ := Lib.hid hL
          rw [hL] at HV
          clear hcl1 hx hL
          have HPA := Lib.hid (put1 x.size L wM.heap.size gb wr HV.out.2 (by omega) (by omega))
          go_upto_region 14 with (go_at_call 67; go_must (refine HPA.out.mono ?_; rintro e w5 ⟨rfl, hv5, ho5⟩; have HV5 := Lib.hid (HV.out.only hv5 ho5); clear hv5 ho5))
          clear HPA r0
          obtain ⟨hbl, A, c, hbk, hown, hle⟩ := HV5.out
          obtain ⟨m, hm⟩ : ∃ m, (L ++ le 4 x.size).length = m := ⟨_, rfl⟩
          have hm1 : m ≤ 6300000000 := by rw [← hm, List.length_append, le_len]; omega
          have HMQ := Lib.hid hm
          unfold OB at hown
          rw [hm] at hbk hown
          have HBK := Lib.hid hbk
          have HOW := Lib.hid hown
          have HBZ := Lib.hid hbl.size
          have s0 : w5.cell? ⟨gb, 0, none⟩ = some (.slice A m c) := HBK.out.cell 0
          clear hbl hbk hown hm hle
          go_upto_region 15 with (at_builtin; go_must (refine Lib.wpList_append_own_string _ rfl (.tmp 61) (.tmp 62) _ _ rfl wM.heap.size 5 i0 Tryz.underlying27 Tryz.underlying9 hi0 hz0 hz1 hz2 _ m (bvs (L ++ le 4 x.size)) rfl HOW.out x rfl (by simp only [maxLen]; omega) (by omega) HBZ.out ?_; intro v6 w6 hown6 hg6 _; obtain ⟨A6, c6, rfl, -, -, -⟩ := own_form hown6; have HV6 := Lib.hid (HV5.out.append HMQ.out HBK.out HOW.out hown6 hg6); have s1 := HV6.out.2.1; have s2 := HV6.out.2.2; clear hown6 hg6))
          clear s0 s1 s2
          generalize w6.setCell ⟨gb, 0, none⟩ (.slice A6 (m + x.size) c6) = w7 at *
          go_wp2
          go_roundw
          case rel => exact ⟨p + 1, by go_num, hpn, by rw [flat_next HXX.out, ← List.append_assoc, HLQ.out]; have := HV6.out.1; unfold textBy; rw [← List.append_assoc]; exact this⟩
          case measure => simp [Lib.intOf]; omega
          -- >>b2
        · obtain rfl : nT = p := by omega
          have hq3 : ¬ (nT : Int) < (nT : Int) := by omega
          have HVE := Lib.hid (show BW wM gb (preT l ++ (textsP l).flatMap textBy) wr from by have := HV.out; rw [List.take_of_length_le (l := textsP l) (by rw [HNT.out]; exact Nat.le_refl _)] at this; exact this)
          obtain ⟨w7, hw7⟩ : ∃ w7, wr = w7 := ⟨_, rfl⟩
          rw [hw7] at HVE ⊢
          clear hw7 HV
          have k0 : w7.cell? ⟨g, 1, none⟩ = some (.slice Ap nP cp) := (HG.out _ (HWM.out _ HVE.out.1)).cell 1
          have HPA := Lib.hid (put1 nP _ wM.heap.size gb w7 HVE.out.2 (by omega) (by have h := HF.out.lenT (textsP l).length; rw [List.take_length] at h; omega))
          go_upto_region 17 with (go_at_call 67; go_must (refine HPA.out.mono ?_; rintro e w5 ⟨rfl, hv5, ho5⟩; have HV5 := Lib.hid (show BW wM gb (preP l) w5 from HVE.out.only (by unfold preP; rw [HNP.out]; exact hv5) ho5); clear hv5 ho5))
          clear k0 HPA HVE
          have k0 : w5.cell? ⟨g, 1, none⟩ = some (.slice Ap nP cp) := (HG.out _ (HWM.out _ HV5.out.1)).cell 1
          go_wp2
          clear k0
          go_loopw [78] (fun iv W => ∃ p : Nat, iv = .int .i64 (p : Int) ∧ p ≤ nP ∧ BW wM gb (preP l ++ ((pathsP l).take p).flatMap fun s => le 4 (idx (textsP l) s)) W) (fun iv _ => nP - (Lib.intOf iv).toNat)
          case atStart => exact ⟨0, rfl, Nat.zero_le _, by simpa using HV5.out⟩
          case round =>
            clear HV5
            obtain ⟨p, rfl, hp, hV⟩ := hrel
            have HV := Lib.hid hV
            clear hV
            by_cases hpn : p < nP
            · -- <<b3
              have hq3 : (p : Int) < (nP : Int) := by omega
              obtain ⟨x, hx⟩ := at_lt (l := pathsP l) (p := p) (by rw [HNP.out]; exact hpn)
              have HXX := Lib.hid hx
              obtain ⟨Ax', cx', ex, -, -, hRx⟩ := HP.out wr (HWM.out _ HV.out.1)
              rw [HNP.out] at ex hRx
              cases ex
              obtain ⟨b1, o1, rfl, hb1, hcl1⟩ := hRx.spot (by omega) (by omega)
              have r0 : wr.cell? ⟨b1, o1 + p, none⟩ = some (.string x) := hcl1 _ _ (str_at hx)
              have hxT := paths_words (List.mem_of_getElem? hx)
              have hlk := num_look (HMM.out wr HV.out.1) HNT.out hxT (HSZ.out x hxT)
              have hkl := idx_lt hxT
              rw [HNT.out] at hkl
              obtain ⟨kx, hkx⟩ : ∃ kx, idx (textsP l) x = kx := ⟨_, rfl⟩
              have HKX := Lib.hid hkx
              rw [hkx] at hlk hkl
              obtain ⟨L, hL⟩ : ∃ L, (preP l ++ ((pathsP l).take p).flatMap fun s => le 4 (idx (textsP l) s)) = L := ⟨_, rfl⟩
              have hl1 : L.length ≤ 6210000000 := by rw [← hL]; exact HF.out.lenP p
              have HLQ := Lib.hid hL
              rw [hL] at HV
              clear hcl1 hx hL hxT hkx
              have HPA := Lib.hid (put1 kx L wM.heap.size gb wr HV.out.2 (by omega) (by omega))
              go_upto_region 21 with (go_at_call 67; go_must (refine HPA.out.mono ?_; rintro e w5 ⟨rfl, hv5, ho5⟩; have HV5 := Lib.hid (HV.out.only hv5 ho5); clear hv5 ho5))
              clear HPA r0 hlk
              go_wp2
              go_roundw
              case rel => exact ⟨p + 1, by go_num, hpn, by rw [flat_next HXX.out, ← List.append_assoc, HLQ.out, HKX.out]; exact HV5.out⟩
              case measure => simp [Lib.intOf]; omega
              -- >>b3
            · obtain rfl : nP = p := by omega
              have hq3 : ¬ (nP : Int) < (nP : Int) := by omega
              have HVE := Lib.hid (show BW wM gb (preP l ++ (pathsP l).flatMap fun s => le 4 (idx (textsP l) s)) wr from by have := HV.out; rw [List.take_of_length_le (l := pathsP l) (by rw [HNP.out]; exact Nat.le_refl _)] at this; exact this)
              obtain ⟨w7, hw7⟩ : ∃ w7, wr = w7 := ⟨_, rfl⟩
              rw [hw7] at HVE ⊢
              clear hw7 HV
              have k0 : w7.cell? ⟨g, 2, none⟩ = some (.slice Ax nX cx) := (HG.out _ (HWM.out _ HVE.out.1)).cell 2
              have HPA := Lib.hid (put1 nX _ wM.heap.size gb w7 HVE.out.2 (by omega) (by have h := HF.out.lenP (pathsP l).length; rw [List.take_length] at h; omega))
              go_upto_region 23 with (go_at_call 67; go_must (refine HPA.out.mono ?_; rintro e w5 ⟨rfl, hv5, ho5⟩; have HV5 := Lib.hid (show BW wM gb (preX l) w5 from HVE.out.only (by unfold preX; rw [HNX2.out]; exact hv5) ho5); clear hv5 ho5))
              clear k0 HPA HVE
              have k0 : w5.cell? ⟨g, 2, none⟩ = some (.slice Ax nX cx) := (HG.out _ (HWM.out _ HV5.out.1)).cell 2
              go_wp2
              clear k0
              go_loopw [102] (fun iv W => ∃ p : Nat, iv = .int .i64 (p : Int) ∧ p ≤ nX ∧ BW wM gb (preX l ++ ((tabsB l).take p).flatMap tabBy) W) (fun iv _ => nX - (Lib.intOf iv).toNat)
              case atStart => exact ⟨0, rfl, Nat.zero_le _, by simpa using HV5.out⟩
              case round =>
                clear HV5
                obtain ⟨p, rfl, hp, hV⟩ := hrel
                have HV := Lib.hid hV
                clear hV
                by_cases hpn : p < nX
                · -- <<b4
                  have hq3 : (p : Int) < (nX : Int) := by omega
                  obtain ⟨⟨xv, xt⟩, hx⟩ := at_lt (l := qs) (p := p) (by rw [HNX.out]; exact hpn)
                  obtain ⟨Ax', cx', ex, -, -, hRx, -⟩ := HX.out wr (HWM.out _ HV.out.1)
                  rw [HNX.out] at ex hRx
                  cases ex
                  obtain ⟨b1, o1, rfl, hb1, hcl1⟩ := hRx.spot (by omega) (by omega)
                  have HRW := Lib.hid (fun (W : World) (hW : Below w.heap.size w W) => (lay_rows HQ.out (by have := HX.out W hW; rw [← HNX.out] at this; exact this) hx).2.2)
                  have HTX := Lib.hid (lay_rows HQ.out (by have := HX.out wr (HWM.out _ HV.out.1); rw [← HNX.out] at this; exact this) hx).1
                  obtain ⟨Ar, cr, er, -, -, -⟩ := HRW.out wr (HWM.out _ HV.out.1)
                  simp only at er HTX
                  subst er
                  have r0 : wr.cell? ⟨b1, o1 + p, none⟩ = some (.slice Ar xt.length cr) := hcl1 _ _ (by rw [List.getElem?_map, hx]; rfl)
                  have HRX := Lib.hid (HF.out.rX xt (List.mem_of_getElem? HTX.out))
                  have hnr1 := HF.out.sX xt (List.mem_of_getElem? HTX.out)
                  obtain ⟨nr, hnr⟩ : ∃ nr, xt.length = nr := ⟨_, rfl⟩
                  have HNR := Lib.hid hnr
                  simp only at HRW
                  rw [hnr] at r0 hnr1 HRW
                  have hnr2 : (nr : Int) ≤ 5000 := by omega
                  obtain ⟨L, hL⟩ : ∃ L, (preX l ++ ((tabsB l).take p).flatMap tabBy) = L := ⟨_, rfl⟩
                  have hl1 : L.length ≤ 28000000000 := by rw [← hL]; exact HF.out.lenX p
                  have HLQ := Lib.hid hL
                  rw [hL] at HV
                  clear hcl1 hx hL hnr
                  have HPA := Lib.hid (put1 nr L wM.heap.size gb wr HV.out.2 (by omega) (by omega))
                  go_upto_region 27 with (go_at_call 67; go_must (refine HPA.out.mono ?_; rintro e w5 ⟨rfl, hv5, ho5⟩; have HV5 := Lib.hid (HV.out.only hv5 ho5); clear hv5 ho5))
                  clear HPA r0 HV
                  go_wp2
                  go_loopw [113] (fun jv W => ∃ j : Nat, jv = .int .i64 (j : Int) ∧ j ≤ nr ∧ BW wM gb (L ++ le 4 nr ++ (xt.take j).flatMap rowBy) W) (fun jv _ => nr - (Lib.intOf jv).toNat)
                  case atStart => exact ⟨0, rfl, Nat.zero_le _, by simpa using HV5.out⟩
                  case round =>
                    clear HV5
                    obtain ⟨j, rfl, hj, hV⟩ := hrel
                    have HV := Lib.hid hV
                    clear hV
                    by_cases hjn : j < nr
                    · -- <<b5
                      have hq4 : (j : Int) < (nr : Int) := by omega
                      obtain ⟨⟨y1, y2⟩, hy⟩ := at_lt (l := xt) (p := j) (by rw [HNR.out]; exact hjn)
                      have HYY := Lib.hid hy
                      have hyr := HRX.out _ (List.mem_of_getElem? hy)
                      simp only at hyr
                      obtain ⟨m1, rfl⟩ : ∃ m1 : Nat, y1 = (m1 : Int) := ⟨y1.toNat, by omega⟩
                      obtain ⟨m2, rfl⟩ : ∃ m2 : Nat, y2 = (m2 : Int) := ⟨y2.toNat, by omega⟩
                      have hm1 : (m1 : Int) < 4294967296 := hyr.1.2
                      have hm2 : (m2 : Int) < 4294967296 := hyr.2.2
                      obtain ⟨Ar', cr', er, -, -, hRr⟩ := HRW.out wr (HWM.out _ HV.out.1)
                      rw [HNR.out] at er hRr
                      cases er
                      obtain ⟨b2, o2, rfl, hb2, hcl2⟩ := hRr.spot (by omega) (by omega)
                      have hat := rowCells_at hy
                      have z0 : wr.cell? ⟨b2, o2 + j * 2, none⟩ = some (.int .u32 (m1 : Int)) := hcl2 _ _ hat.1
                      have z1 : wr.cell? ⟨b2, o2 + j * 2 + 1, none⟩ = some (.int .u32 (m2 : Int)) := hcl2 _ _ hat.2
                      obtain ⟨L2, hL2⟩ : ∃ L2, (L ++ le 4 nr ++ (xt.take j).flatMap rowBy) = L2 := ⟨_, rfl⟩
                      have hl2 : L2.length ≤ 28100000000 := by
                        have h3 := flat_le (f := rowBy) (c := 8) (l := xt.take j) (fun r _ => by simp [rowBy, le_len])
                        rw [List.length_take] at h3
                        rw [← hL2, List.length_append, List.length_append, le_len]
                        omega
                      have HLQ2 := Lib.hid hL2
                      rw [hL2] at HV
                      clear hcl2 hat hy hL2 hyr
                      have HV8 := Lib.hid (HV.out.alloc (.cells #[.int .u32 (m1 : Int), .int .u32 (m2 : Int)] 73))
                      have HZ8 := Lib.hid (Blk.new wr 73 #[.int .u32 (m1 : Int), .int .u32 (m2 : Int)])
                      go_upto_region 30 with (fail)
                      generalize wr.alloc (.cells #[.int .u32 (m1 : Int), .int .u32 (m2 : Int)] 73) = w8 at *
                      clear z0 z1
                      have u0 : w8.cell? ⟨wr.heap.size, 0, none⟩ = some (.int .u32 (m1 : Int)) := HZ8.out.cell 0
                      have u1 : w8.cell? ⟨wr.heap.size, 1, none⟩ = some (.int .u32 (m2 : Int)) := HZ8.out.cell 1
                      have HPA := Lib.hid (put2 m1 m2 L2 wM.heap.size gb w8 HV8.out.2 (by omega) (by omega) (by omega))
                      go_upto_region 31 with (go_at_call 67; go_must (refine HPA.out.mono ?_; rintro e w5 ⟨rfl, hv5, ho5⟩; have HV5 := Lib.hid (HV8.out.only hv5 ho5); clear hv5 ho5))
                      clear u0 u1 HPA
                      go_wp2
                      go_roundw
                      case rel => exact ⟨j + 1, by go_num, hjn, by rw [flat_next HYY.out, ← List.append_assoc, HLQ2.out]; exact HV5.out⟩
                      case measure => simp [Lib.intOf]; omega
                      -- >>b5
                    · obtain rfl : nr = j := by omega
                      have hq4 : ¬ (nr : Int) < (nr : Int) := by omega
                      have HVE := Lib.hid (show BW wM gb (preX l ++ ((tabsB l).take (p + 1)).flatMap tabBy) wr from by
                        have h := HV.out
                        rw [List.take_of_length_le (l := xt) (by rw [HNR.out]; exact Nat.le_refl _)] at h
                        rw [flat_next HTX.out, ← List.append_assoc, HLQ.out]
                        unfold tabBy
                        rw [HNR.out, ← List.append_assoc]
                        exact h)
                      go_wp2
                      go_roundw
                      case rel => exact ⟨p + 1, by go_num, hpn, HVE.out⟩
                      case measure => simp [Lib.intOf]; omega
                  -- >>b4
                · obtain rfl : nX = p := by omega
                  have hq3 : ¬ (nX : Int) < (nX : Int) := by omega
                  have HVE := Lib.hid (show BW wM gb (preX l ++ (tabsB l).flatMap tabBy) wr from by have := HV.out; rw [List.take_of_length_le (l := tabsB l) (by rw [HNX2.out]; exact Nat.le_refl _)] at this; exact this)
                  obtain ⟨w7, hw7⟩ : ∃ w7, wr = w7 := ⟨_, rfl⟩
                  rw [hw7] at HVE ⊢
                  clear hw7 HV
                  have k0 : w7.cell? ⟨g, 3, none⟩ = some (.slice Ab nK cb) := (HG.out _ (HWM.out _ HVE.out.1)).cell 3
                  have HPA := Lib.hid (put1 nK _ wM.heap.size gb w7 HVE.out.2 (by omega) (by have h := HF.out.lenX (tabsB l).length; rw [List.take_length] at h; omega))
                  go_upto_region 34 with (go_at_call 67; go_must (refine HPA.out.mono ?_; rintro e w5 ⟨rfl, hv5, ho5⟩; have HV5 := Lib.hid (show BW wM gb (preK l) w5 from HVE.out.only (by unfold preK; rw [HNK2.out]; exact hv5) ho5); clear hv5 ho5))
                  clear k0 HPA HVE
                  have k0 : w5.cell? ⟨g, 3, none⟩ = some (.slice Ab nK cb) := (HG.out _ (HWM.out _ HV5.out.1)).cell 3
                  go_wp2
                  clear k0
                  go_loopw [141] (fun iv W => ∃ p : Nat, iv = .int .i64 (p : Int) ∧ p ≤ nK ∧ BW wM gb (preK l ++ (l.take p).flatMap (bookBy (textsP l) (pathsP l) (tabsB l))) W) (fun iv _ => nK - (Lib.intOf iv).toNat)
                  case atStart => exact ⟨0, rfl, Nat.zero_le _, by simpa using HV5.out⟩
                  case round =>
                    clear HV5
                    obtain ⟨p, rfl, hp, hV⟩ := hrel
                    have HV := Lib.hid hV
                    clear hV
                    by_cases hpn : p < nK
                    · -- <<b6
                      have hq3 : (p : Int) < (nK : Int) := by omega
                      obtain ⟨⟨en, eg, es, et, ek⟩, he⟩ := at_lt (l := bs) (p := p) (by rw [HNK.out]; exact hpn)
                      obtain ⟨b, hb, hen, hnT, hes, hesT, hlk, htix⟩ := bks_at HB.out he
                      have HEB := Lib.hid (And.intro hb (And.intro hen hes))
                      have HES := Lib.hid hesT
                      have HTI := Lib.hid htix
                      obtain ⟨Ax', cx', ex, -, -, hRx, -⟩ := HK.out wr (HWM.out _ HV.out.1)
                      rw [HNK.out] at ex hRx
                      cases ex
                      obtain ⟨b1, o1, rfl, hb1, hcl1⟩ := hRx.spot (by omega) (by omega)
                      have HEW := Lib.hid (show ∀ W, Below w.heap.size w W → Txts W W.heap.size eg es ∧ IntsR W W.heap.size et ek from fun W hW => by
                        obtain ⟨_, _, _, _, _, _, h⟩ := HK.out W hW
                        exact h _ (List.mem_of_getElem? he))
                      obtain ⟨⟨Ag, cg, rfl, -, -, -⟩, ⟨Ae, ce, rfl, -, -, -⟩⟩ := HEW.out wr (HWM.out _ HV.out.1)
                      have hat := bkCells_at _ _ _ he
                      have z0 : wr.cell? ⟨b1, o1 + p * 3, none⟩ = some (.string en) := hcl1 _ _ hat.1
                      have z1 : wr.cell? ⟨b1, o1 + p * 3 + 1, none⟩ = some (.slice Ag es.length cg) := hcl1 _ _ hat.2.1
                      have z2 : wr.cell? ⟨b1, o1 + p * 3 + 2, none⟩ = some (.slice Ae ek.length ce) := hcl1 _ _ hat.2.2
                      obtain ⟨ng, hng⟩ : ∃ ng, es.length = ng := ⟨_, rfl⟩
                      have HNG := Lib.hid hng
                      have HNE := Lib.hid (show ek.length = ng from by rw [hlk]; exact hng)
                      have hng1 : ng ≤ 5000 := by rw [← hng, hes]; exact HF.out.sK b (List.mem_of_getElem? hb)
                      have hng2 : (ng : Int) ≤ 5000 := by omega
                      rw [HNE.out] at z2 HEW
                      rw [hng] at z1 HEW
                      obtain ⟨kn, hkn⟩ : ∃ kn, idx (textsP l) en = kn := ⟨_, rfl⟩
                      have HKN := Lib.hid hkn
                      have hkl := idx_lt hnT
                      rw [HNT.out, hkn] at hkl
                      have HNL := Lib.hid (show ∀ W, Below wM.heap.size wM W → (Instr.lookup 127 (.map (some w.heap.size)) (.string en) false).run Tryz.prog W = .ok (.int .i64 (kn : Int)) W from fun W hW => by
                        have h := num_look (HMM.out W hW) HNT.out hnT (HSZ.out en hnT)
                        rw [hkn] at h
                        exact h)
                      obtain ⟨L, hL⟩ : ∃ L, (preK l ++ (l.take p).flatMap (bookBy (textsP l) (pathsP l) (tabsB l))) = L := ⟨_, rfl⟩
                      have hl1 : L.length ≤ 29000000000 := by rw [← hL]; exact HF.out.lenK p
                      have HLQ := Lib.hid hL
                      rw [hL] at HV
                      clear hcl1 hat he hb hen hes hesT hnT hlk htix hng hkn hL
                      have HV8 := Lib.hid (HV.out.alloc (.cells #[.string en, .slice Ag ng cg, .slice Ae ng ce] 121))
                      have HZ8 := Lib.hid (Blk.new wr 121 #[.string en, .slice Ag ng cg, .slice Ae ng ce])
                      go_upto_region 37 with (fail)
                      generalize wr.alloc (.cells #[.string en, .slice Ag ng cg, .slice Ae ng ce] 121) = w8 at *
                      obtain ⟨gz, hgz⟩ : ∃ gz, wr.heap.size = gz := ⟨_, rfl⟩
                      have hgzb : gz ≠ gb := by have := HV.out.2.lt; omega
                      rw [hgz] at HZ8 ⊢
                      clear hgz z0 z1 z2 HV
                      have u0 : w8.cell? ⟨gz, 0, none⟩ = some (.string en) := HZ8.out.cell 0
                      have u1 : w8.cell? ⟨gz, 1, none⟩ = some (.slice Ag ng cg) := HZ8.out.cell 1
                      have hlk := HNL.out w8 HV8.out.1
                      have HPA := Lib.hid (put2 kn ng L wM.heap.size gb w8 HV8.out.2 (by omega) (by omega) (by omega))
                      go_upto_region 38 with (go_at_call 67; go_must (refine HPA.out.mono ?_; rintro e w5 ⟨rfl, hv5, ho5⟩; have HV5 := Lib.hid (HV8.out.only hv5 ho5); have HZ5 := Lib.hid (HZ8.out.grown ho5 (by simpa using hgzb)); clear hv5 ho5))
                      clear u0 u1 hlk HPA HV8 HZ8 HNL
                      have u1 : w5.cell? ⟨gz, 1, none⟩ = some (.slice Ag ng cg) := HZ5.out.cell 1
                      go_wp2
                      clear u1
                      go_loopw [158] (fun jv W => ∃ j : Nat, jv = .int .i64 (j : Int) ∧ j ≤ ng ∧ BW wM gb (L ++ (le 4 kn ++ le 4 ng) ++ (es.take j).flatMap (grpBy (textsP l) (pathsP l) (tabsB l) b)) W ∧ Blk W gz 121 #[.string en, .slice Ag ng cg, .slice Ae ng ce]) (fun jv _ => ng - (Lib.intOf jv).toNat)
                      case atStart => exact ⟨0, rfl, Nat.zero_le _, by simpa using HV5.out, HZ5.out⟩
                      case round =>
                        clear HV5 HZ5
                        obtain ⟨j, rfl, hj, hV, hZ⟩ := hrel
                        have HV := Lib.hid hV
                        have HZ := Lib.hid hZ
                        clear hV hZ
                        by_cases hjn : j < ng
                        · -- <<b7
                          have hq4 : (j : Int) < (ng : Int) := by omega
                          obtain ⟨x, hx⟩ := at_lt (l := es) (p := j) (by rw [HNG.out]; exact hjn)
                          obtain ⟨t, ht⟩ := at_lt (l := ek) (p := j) (by rw [HNE.out]; exact hjn)
                          have HXX := Lib.hid hx
                          have HTT := Lib.hid ht
                          obtain ⟨⟨Ag', cg', eg', -, -, hRg⟩, ⟨Ae', ce', ee', -, -, hRe⟩⟩ := HEW.out wr (HWM.out _ HV.out.1)
                          rw [HNG.out] at eg' hRg
                          rw [HNE.out] at ee' hRe
                          cases eg'
                          cases ee'
                          obtain ⟨b2, o2, rfl, hb2, hcl2⟩ := hRg.spot (by omega) (by omega)
                          obtain ⟨b3, o3, rfl, hb3, hcl3⟩ := hRe.spot (by omega) (by omega)
                          have r0 : wr.cell? ⟨b2, o2 + j, none⟩ = some (.string x) := hcl2 _ _ (str_at hx)
                          have r1 : wr.cell? ⟨b3, o3 + j, none⟩ = some (.int .i64 (t : Int)) := hcl3 _ _ (natsV_at ht)
                          obtain ⟨ht1, ht2⟩ := HTI.out j x t hx ht
                          have HT1 := Lib.hid ht1
                          rw [HNX2.out] at ht2
                          have hxT := HES.out x (List.mem_of_getElem? hx)
                          obtain ⟨kx, hkx⟩ : ∃ kx, idx (textsP l) x = kx := ⟨_, rfl⟩
                          have HKX := Lib.hid hkx
                          have hkl2 := idx_lt hxT
                          rw [HNT.out, hkx] at hkl2
                          have HNL := Lib.hid (show ∀ W, Below wM.heap.size wM W → (Instr.lookup 127 (.map (some w.heap.size)) (.string x) false).run Tryz.prog W = .ok (.int .i64 (kx : Int)) W from fun W hW => by
                            have h := num_look (HMM.out W hW) HNT.out hxT (HSZ.out x hxT)
                            rw [hkx] at h
                            exact h)
                          obtain ⟨L2, hL2⟩ : ∃ L2, (L ++ (le 4 kn ++ le 4 ng) ++ (es.take j).flatMap (grpBy (textsP l) (pathsP l) (tabsB l) b)) = L2 := ⟨_, rfl⟩
                          have hl2 : L2.length ≤ 29100000000 := by
                            have h3 := flat_le (f := grpBy (textsP l) (pathsP l) (tabsB l) b) (c := 8) (l := es.take j) (fun r _ => by simp [grpBy, le_len])
                            rw [List.length_take] at h3
                            rw [← hL2, List.length_append, List.length_append, List.length_append, le_len, le_len]
                            omega
                          have HLQ2 := Lib.hid hL2
                          rw [hL2] at HV
                          have hcE : ∀ W, Below wr.heap.size wr W → W.cell? ⟨b3, o3 + j, none⟩ = some (.int .i64 (t : Int)) := fun W hW => (hW.cell (p := ⟨b3, o3 + j, none⟩) hb3).trans r1
                          clear hcl2 hcl3 hx ht ht1 hL2 hxT hkx
                          have HBD := Lib.hid (((Below.refl wr.heap.size wr).alloc (Nat.le_refl _) (.cells #[.int .i64 (kx : Int), .int .i64 (t : Int)] 3)).drew)
                          have HVD := Lib.hid (HV.out.on HBD.out)
                          have HZD := Lib.hid (HZ.out.below HBD.out HZ.out.lt)
                          have HZB := Lib.hid (show Blk ((wr.alloc (.cells #[.int .i64 (kx : Int), .int .i64 (t : Int)] 3)).drew) wr.heap.size 3 (natsV [kx, t]).toArray from (Blk.new wr 3 #[.int .i64 (kx : Int), .int .i64 (t : Int)]).drew)
                          have HPA := Lib.hid (bput_any [kx, t] L2 wM.heap.size gb wr.heap.size 2 _ rfl HVD.out.2 HZB.out (by simp; omega) (by omega) (by omega))
                          have a0 : ((wr.alloc (.cells #[.int .i64 (kx : Int), .int .i64 (t : Int)] 3)).drew).cell? ⟨gz, 2, none⟩ = some (.slice (some ⟨b3, o3, none⟩) ng ce) := HZD.out.cell 2
                          have a1 := hcE _ HBD.out
                          have a2 := HNL.out _ HVD.out.1
                          have c0 : wr.cell? ⟨gz, 2, none⟩ = some (.slice (some ⟨b3, o3, none⟩) ng ce) := HZ.out.cell 2
                          have c2 := HNL.out _ HV.out.1
                          have c3 := HNL.out _ HV.out.1.drew
                          have HCE := Lib.hid hcE
                          clear hcE
                          go_upto_region 41 with (fail)
                          go_region_held3 (fun W => W.cell? ⟨gz, 2, none⟩ = some (.slice (some ⟨b3, o3, none⟩) ng ce) ∧ W.cell? ⟨b3, o3 + j, none⟩ = some (.int .i64 (t : Int)) ∧ (Instr.lookup 127 (.map (some w.heap.size)) (.string x) false).run Tryz.prog W = .ok (.int .i64 (kx : Int)) W) (first | go_keep | (refine ⟨?_, ?_, ?_⟩ <;> first | assumption | simp [*])) (first
                            | (go_at_call 67; go_must (refine HPA.out.mono ?_; rintro e w5 ⟨rfl, hv5, ho5⟩; have HV5 := Lib.hid (HVD.out.only hv5 ho5); have HZ5 := Lib.hid (HZD.out.grown ho5 (by simpa using hgzb)); have e0 := HZ5.out.cell 2; have e1 : w5.cell? ⟨b3, o3 + j, none⟩ = some (.int .i64 (t : Int)) := (by obtain ⟨-, ⟨Ae', ce', ee', -, -, hRe⟩⟩ := HEW.out w5 (HWM.out _ HV5.out.1); rw [HNE.out] at ee' hRe; cases ee'; obtain ⟨b4, o4, e4, -, hcl4⟩ := hRe.spot (by omega) (by omega); cases e4; exact hcl4 _ _ (natsV_at HTT.out)); have e2 := HNL.out _ HV5.out.1; clear hv5 ho5))
                            | fail "no arm")
                          clear a0 a1 a2 c0 c2 c3 r0 r1 HPA
                          go_wp2
                          go_roundw
                          case rel => exact ⟨j + 1, by go_num, hjn, by
                            have h := HV5.out
                            rw [flat_next HXX.out, ← List.append_assoc, HLQ2.out]
                            unfold grpBy
                            rw [HKX.out, ← HT1.out]
                            simpa using h, HZ5.out⟩
                          case measure => simp [Lib.intOf]; omega
                          -- >>b7
                        · obtain rfl : ng = j := by omega
                          have hq4 : ¬ (ng : Int) < (ng : Int) := by omega
                          have HVE := Lib.hid (show BW wM gb (preK l ++ (l.take (p + 1)).flatMap (bookBy (textsP l) (pathsP l) (tabsB l))) wr from by
                            have h := HV.out
                            rw [List.take_of_length_le (l := es) (by rw [HNG.out]; exact Nat.le_refl _)] at h
                            rw [flat_next HEB.out.1, ← List.append_assoc, HLQ.out]
                            unfold bookBy
                            rw [← HEB.out.2.2, ← HEB.out.2.1, HNG.out, HKN.out, ← List.append_assoc]
                            exact h)
                          go_wp2
                          go_roundw
                          case rel => exact ⟨p + 1, by go_num, hpn, HVE.out⟩
                          case measure => simp [Lib.intOf]; omega
                      -- >>b6
                    · obtain rfl : nK = p := by omega
                      have hq3 : ¬ (nK : Int) < (nK : Int) := by omega
                      have HVE := Lib.hid (show BW wM gb (bodyB l) wr from by have := HV.out; rw [List.take_of_length_le (l := l) (by rw [HNK2.out]; exact Nat.le_refl _), ← body_pre] at this; exact this)
                      have hl1 := HF.out.len
                      obtain ⟨L, hL⟩ : ∃ L, bodyB l = L := ⟨_, rfl⟩
                      have HLQ := Lib.hid hL
                      rw [hL] at HVE hl1
                      obtain ⟨hbl, A, c, hbk, hown, hle⟩ := HVE.out
                      have HBL := Lib.hid (HBW2.out.trans (hbl.mono HBW2.out.size))
                      obtain ⟨A1, c1, e1, -, -, hR⟩ := OB.form hown
                      have HRD := Lib.hid hR
                      obtain ⟨m, hm⟩ : ∃ m, L.length = m := ⟨_, rfl⟩
                      have HMQ := Lib.hid hm
                      rw [hm] at e1 hbk hl1
                      cases e1
                      have HBK := Lib.hid hbk
                      clear hbl hbk hown hle hR hm hL HV
                      have s0 : wr.cell? ⟨gb, 0, none⟩ = some (.slice A m c) := HBK.out.cell 0
                      have HCRC := Lib.hid (fun (W : World) (hW : Below wr.heap.size wr W) => (show Calls Tryz.prog 36 #[.slice A m c] W (fun e w' => e = .returned (.int .u32 (crc L : Int)) ∧ W = w') from by
                        rw [← HMQ.out]
                        exact crc_any L A c wr.heap.size W (HRD.out.below hW) (by rw [HMQ.out]; simp only [maxLen]; omega)))
                      have HP32 := Lib.hid (fun (W : World) (hW : Below wr.heap.size wr W) => (show Calls Tryz.prog 68 #[.slice A m c, .int .u32 (crc L : Int)] W (fun e w' => ∃ A2 m2 c2, e = .returned (.slice A2 m2 c2) ∧ OB w' wr.heap.size 5 (.slice A2 m2 c2) (L ++ le 4 (crc L)) ∧ Below wr.heap.size wr w') from by
                        rw [← HMQ.out]
                        refine (put32_any L (crc L) A c wr.heap.size W (HRD.out.below hW) hW.size (by rw [HMQ.out]; omega) (crc_lt L)).mono ?_
                        rintro e w' ⟨v2, rfl, ho2, hb2⟩
                        obtain ⟨A2, c2, rfl, -, -, -⟩ := OB.form ho2
                        exact ⟨A2, _, c2, rfl, ho2.base hW.size, hW.trans (hb2.mono hW.size)⟩))
                      obtain ⟨cr, hcr⟩ : ∃ cr, crc L = cr := ⟨_, rfl⟩
                      rw [hcr] at HCRC HP32
                      have HCR := Lib.hid hcr
                      clear hcr
                      have HBD := Lib.hid ((Below.refl wr.heap.size wr).drew)
                      go_upto_region 44 with (fail)
                      go_region_held3 (fun W => W.cell? ⟨gb, 0, none⟩ = some (.slice A m c)) (go_keep) (first
                        | (go_at_call 36; go_must (refine (HCRC.out _ HBD.out).mono ?_; rintro e w5 ⟨rfl, rfl⟩))
                        | (go_at_call 68; go_must (refine (HP32.out _ HBD.out).mono ?_; rintro e w5 ⟨A2, m2, c2, rfl, ho5, hb5⟩; have HO5 := Lib.hid ho5; have HB5 := Lib.hid hb5; have e0 : w5.cell? ⟨gb, 0, none⟩ = some (.slice A m c) := (HBK.out.below hb5 HBK.out.lt).cell 0; clear ho5 hb5))
                        | fail "no arm")
                      go_wp2
                      go_ret
                      exact ⟨_, rfl, by unfold bytesB; rw [HLQ.out, HCR.out]; exact HO5.out.base HBL.out.size, HBL.out.trans (HB5.out.mono HBL.out.size)⟩
      -- >>loop2
-- END bytes
end Go.Proofs.YtfpepdjffehbcaaGreat
