/-
  The law BundleGets answers true for every bundle, locale and path.
-/
import Derived.Test.YtfpepdjffehbcaaRows
import Derived.Test.YtfpepdjffehbcaaBunOpen
import Derived.WalkKit
import Derived.Outline
import Derived.ProofKit
import Derived.OpenShut
import Derived.ShutString
import Derived.ChangeOld
import Derived.Below
import Derived.Deep.CondSized
namespace Go.Proofs.Ytfpepdjffehbcaa.bundleGets
open Go.ChangeShapes Go.WideShapes Go.ChangeAt Go.RowKit
open Go.ChangeMaps (open_string shut_string)
set_option linter.unusedVariables false

theorem own : ownKnob Try.prog.godebug = none := by kernel_rfl
theorem laidOut : laidOutB Try.prog = true := by kernel_rfl

/-- The first value of a path among the first m. -/
def firstV (vs : List PKey) (q : ByteArray) (m : Nat) : ByteArray × Bool := match (vs.take m).find? fun v => decide (v.1 = q) with
  | none => (⟨#[]⟩, false)
  | some v => (v.2, true)
theorem firstV_zero (vs : List PKey) (q : ByteArray) : firstV vs q 0 = (⟨#[]⟩, false) := rfl
theorem firstV_next {vs : List PKey} {q : ByteArray} {m : Nat} {x : PKey} (hx : vs[m]? = some x) : firstV vs q (m + 1) = if x.1 = q ∧ (firstV vs q m).2 = false then (x.2, true) else firstV vs q m := by
  unfold firstV
  rw [List.take_add_one, hx, List.find?_append]
  cases h : (vs.take m).find? fun v => decide (v.1 = q) with
  | some v => simp [h]
  | none =>
    by_cases e : x.1 = q
    · simp [e]
    · simp [e]
theorem getB_some {l : List PStep} {n q : ByteArray} {k : Nat} {b : PStep} (hb : l[k]? = some b) (hn : b.1 = n) (h : ∀ (j : Nat) (c : PStep), j < k → l[j]? = some c → c.1 ≠ n) : getB l n q = firstV b.2 q b.2.length := by
  have hf : l.find? (fun b => decide (b.1 = n)) = some b := find_at hb (by simpa using hn) fun j c hj hc => by simpa using h j c hj hc
  unfold getB firstV
  rw [hf, List.take_length]
  simp only
  cases b.2.find? fun v => decide (v.1 = q) with
  | none => rfl
  | some v => rfl
theorem getB_none {l : List PStep} {n q : ByteArray} (h : ∀ (j : Nat) (c : PStep), l[j]? = some c → c.1 ≠ n) : getB l n q = (⟨#[]⟩, false) := by
  have hf : l.find? (fun b => decide (b.1 = n)) = none := find_no fun c hc => by
    obtain ⟨j, hj⟩ := List.mem_iff_getElem?.1 hc
    simpa using h j c hj
  unfold getB
  rw [hf]
  rfl
theorem strs_cell {W : World} {g : Nat} {t : TypeId} {l : List ByteArray} {cs : Array Value} (h : Blk W g t cs) (e : cs = (l.map Value.string).toArray) {i : Nat} {x : ByteArray} (hx : l[i]? = some x) : W.cell? ⟨g, i, none⟩ = some (.string x) := by
  rw [h.cell i, e]
  simp [hx]
set_option maxHeartbeats 16000000 in
set_option maxRecDepth 100000 in
theorem gets_walk (v : Value) (l : List PStep) (vs : List Value) (loc p : ByteArray) (w : World) (h : StepsR w v l vs) (hin : BunIn l) :
    Calls Try.prog 3 #[.agg #[v], .string loc, .string p] w fun en w' => en = .returned (.bool true) ∧ Below w.heap.size w w' := by
  have HS := Lib.hid h
  obtain ⟨A, c, rfl, -, -, -, -, -⟩ := h
  obtain ⟨n0, hn0⟩ : ∃ n0, l.length = n0 := ⟨_, rfl⟩
  rw [hn0] at HS ⊢
  clear hn0
  have HBA := Lib.hid ((Below.refl _ w).alloc (Nat.le_refl _) (.cells #[.slice A n0 c] 24))
  have HWK := Lib.hid (fun W => bwakes_any W)
  have HCU := Lib.hid (fun (W : World) (hW : Below w.heap.size w W) => bcut_any (.slice A n0 c) l vs W (HS.out.more hW) hin)
  have HSM := Lib.hid (cut_small l)
  clear hin
  have HGA := Lib.hid (Blk.new w 24 #[.slice A n0 c])
  go_enter Try.func3, Try.ntmps3
  go_upto_region 3 with (go_at_call 7; go_must (refine (HWK.out _).mono ?_; rintro en w1 ⟨rfl, hb1⟩; have HB1 := Lib.hid (HBA.out.trans (hb1.mono HBA.out.size)); have HG1 := Lib.hid (HGA.out.below hb1 HGA.out.lt); clear hb1))
  have k0 : w1.cell? ⟨w.heap.size, 0, none⟩ = some (.slice A n0 c) := HG1.out.cell 0
  have HC1 := Lib.hid (HCU.out w1 HB1.out)
  go_wp2_with fail
  refine HC1.out.mono ?_
  rintro en w2 ⟨u, us, rfl, hO, hb2⟩
  obtain ⟨Au, cu, rfl, -, -, -⟩ := own_form hO.1
  have HG2 := Lib.hid (HG1.out.below hb2 HG1.out.lt)
  have HO2 := Lib.hid hO
  have HB2 := Lib.hid (HB1.out.trans (hb2.mono HB1.out.size))
  have HZ2 := Lib.hid (show w.heap.size < w1.heap.size from HG1.out.lt)
  have k1 : w2.cell? ⟨w.heap.size, 0, none⟩ = some (.slice A n0 c) := HG2.out.cell 0
  have k2 : w2.frozen? ⟨w.heap.size, 0, none⟩ = false := HG2.out.frozen 0
  obtain ⟨nl, hnl⟩ : ∃ nl, (cutL l).length = nl := ⟨_, rfl⟩
  have HNL := Lib.hid hnl
  have hnl1 : nl ≤ 11 := by rw [← hnl]; exact HSM.out.1
  have hnl2 : (nl : Int) ≤ 11 := by omega
  clear hO hb2 k0 HWK HCU HC1
  rw [hnl]
  go_upto_region 4 with (fail)
  clear k1 k2
  obtain ⟨u, hu⟩ : ∃ u, u = Value.slice Au nl cu := ⟨_, rfl⟩
  have HU := Lib.hid hu
  have HW3 := Lib.hid (show BunOwn (w2.setCell ⟨w.heap.size, 0, none⟩ (.slice Au nl cu)) w1.heap.size (.slice Au nl cu) (cutL l) us ∧ Below w.heap.size w (w2.setCell ⟨w.heap.size, 0, none⟩ (.slice Au nl cu)) ∧ Blk (w2.setCell ⟨w.heap.size, 0, none⟩ (.slice Au nl cu)) w.heap.size 24 #[.slice Au nl cu] from by
    have hs := grown_set w2 w.heap.size 0 (.slice Au nl cu)
    have ho := HO2.out
    rw [hnl] at ho
    exact ⟨⟨own_stays3 ho.1 HG2.out (by decide) hs, ho.2.1, fun i b ku hi hj => own_stays3 (ho.2.2 i b ku hi hj) HG2.out (by decide) hs⟩, HB2.out.setCell (Nat.le_refl _) _, HG2.out.set_ 0 _⟩)
  clear hnl hu
  generalize w2.setCell ⟨w.heap.size, 0, none⟩ (.slice Au nl cu) = w3 at *
  obtain ⟨h0, hh0⟩ : ∃ h0, w.heap.size = h0 := ⟨_, rfl⟩
  have HH0 := Lib.hid hh0
  rw [hh0] at HW3 ⊢
  obtain ⟨l5, hl5⟩ : ∃ l5 : List ByteArray, l5 = [loc, ⟨#[101, 110]⟩, ⟨#[100, 101]⟩, ⟨#[]⟩, ⟨#[114, 111, 111, 116]⟩] := ⟨_, rfl⟩
  have HL5 := Lib.hid hl5
  have HGL := Lib.hid (Blk.new w3 9 #[.string loc, .string ⟨#[101, 110]⟩, .string ⟨#[100, 101]⟩, .string ⟨#[]⟩, .string ⟨#[114, 111, 111, 116]⟩])
  have HB4 := Lib.hid (show Below h0 w (w3.alloc (.cells #[.string loc, .string ⟨#[101, 110]⟩, .string ⟨#[100, 101]⟩, .string ⟨#[]⟩, .string ⟨#[114, 111, 111, 116]⟩] 9)) ∧ Blk (w3.alloc (.cells #[.string loc, .string ⟨#[101, 110]⟩, .string ⟨#[100, 101]⟩, .string ⟨#[]⟩, .string ⟨#[114, 111, 111, 116]⟩] 9)) h0 24 #[.slice Au nl cu] ∧ BunOwn (w3.alloc (.cells #[.string loc, .string ⟨#[101, 110]⟩, .string ⟨#[100, 101]⟩, .string ⟨#[]⟩, .string ⟨#[114, 111, 111, 116]⟩] 9)) w1.heap.size (.slice Au nl cu) (cutL l) us from
    ⟨HW3.out.2.1.alloc (by have := HW3.out.2.1.size; have := HH0.out; omega) _, HW3.out.2.2.alloc _, HW3.out.1.on ((Below.refl _ w3).alloc (Nat.le_refl _) _)⟩)
  clear hl5
  have k0 : w3.cell? ⟨h0, 0, none⟩ = some (.slice Au nl cu) := HW3.out.2.2.cell 0
  go_wp2
  clear k0
  obtain ⟨gA, hgA⟩ : ∃ gA, w3.heap.size = gA := ⟨_, rfl⟩
  rw [hgA] at HGL ⊢
  generalize w3.alloc (.cells #[.string loc, .string ⟨#[101, 110]⟩, .string ⟨#[100, 101]⟩, .string ⟨#[]⟩, .string ⟨#[114, 111, 111, 116]⟩] 9) = w4 at *
  clear hgA hh0 HW3 HO2 HB1 HB2 HG1 HG2 HBA HGA HZ2
  go_loopw [26] (fun iv W => ∃ i : Nat, iv = .int .i64 (i : Int) ∧ i ≤ 5 ∧ Below w4.heap.size w4 W) (fun iv _ => 5 - (Lib.intOf iv).toNat)
  case atStart => exact ⟨0, rfl, Nat.zero_le _, Below.refl _ _⟩
  case round =>
    obtain ⟨i, rfl, hi, hB⟩ := hrel
    have HBI := Lib.hid hB
    clear hB
    by_cases hi5 : i < 5
    · have hq : (i : Int) < 5 := by omega
      obtain ⟨n, hn⟩ : ∃ n, l5[i]? = some n := ⟨_, List.getElem?_eq_getElem (by rw [HL5.out]; exact hi5)⟩
      have r0 : wr.cell? ⟨gA, i, none⟩ = some (.string n) := strs_cell (HGL.out.below HBI.out HGL.out.lt) (by rw [HL5.out]; rfl) hn
      clear hn
      obtain ⟨l4, hl4⟩ : ∃ l4 : List ByteArray, l4 = [p, ⟨#[97, 47, 120]⟩, ⟨#[98]⟩, ⟨#[99, 47, 100]⟩] := ⟨_, rfl⟩
      have HL4 := Lib.hid hl4
      have HGP := Lib.hid (Blk.new wr 9 #[.string p, .string ⟨#[97, 47, 120]⟩, .string ⟨#[98]⟩, .string ⟨#[99, 47, 100]⟩])
      have HB5 := Lib.hid (HBI.out.alloc HBI.out.size (.cells #[.string p, .string ⟨#[97, 47, 120]⟩, .string ⟨#[98]⟩, .string ⟨#[99, 47, 100]⟩] 9))
      clear hl4
      go_wp2
      clear r0
      generalize wr.alloc (.cells #[.string p, .string ⟨#[97, 47, 120]⟩, .string ⟨#[98]⟩, .string ⟨#[99, 47, 100]⟩] 9) = w5 at *
      obtain ⟨gB, hgB⟩ : ∃ gB, wr.heap.size = gB := ⟨_, rfl⟩
      rw [hgB] at HGP ⊢
      clear hgB
      have HBU := Lib.hid (show h0 < w5.heap.size ∧ Blk w5 h0 24 #[.slice Au nl cu] from by
        have := HB4.out.2.1.below HB5.out HB4.out.2.1.lt
        exact ⟨this.lt, this⟩)
      rw [← HU.out] at HBU
      have HST := Lib.hid (show ∀ W, Below w5.heap.size w5 W → StepsR W u (cutL l) us from fun W hW => by
        rw [HU.out]
        exact ((HB4.out.2.2.on HB5.out).on hW).steps)
      go_loopw [33] (fun jv W => ∃ j : Nat, jv = .int .i64 (j : Int) ∧ j ≤ 4 ∧ Below w5.heap.size w5 W) (fun jv _ => 4 - (Lib.intOf jv).toNat)
      case atStart => exact ⟨0, rfl, Nat.zero_le _, Below.refl _ _⟩
      case round =>
        obtain ⟨j, rfl, hj, hB⟩ := hrel
        have HBJ := Lib.hid hB
        clear hB
        by_cases hj4 : j < 4
        · have hq2 : (j : Int) < 4 := by omega
          obtain ⟨q, hqq⟩ : ∃ q, l4[j]? = some q := ⟨_, List.getElem?_eq_getElem (by rw [HL4.out]; exact hj4)⟩
          have r0 : wr.cell? ⟨gB, j, none⟩ = some (.string q) := strs_cell (HGP.out.below HBJ.out HGP.out.lt) (by rw [HL4.out]; rfl) hqq
          clear hqq
          have k0 : wr.cell? ⟨h0, 0, none⟩ = some (.slice Au nl cu) := by rw [← HU.out]; exact (HBU.out.2.below HBJ.out HBU.out.1).cell 0
          go_wp2
          clear r0 k0
          -- <<loop3
          go_loopw [11, 12, 40] (fun xv yv kv W => ∃ k : Nat, kv = .int .i64 (k : Int) ∧ k ≤ nl ∧ xv = .string ⟨#[]⟩ ∧ yv = .bool false ∧ (∀ (m : Nat) (b : PStep), m < k → (cutL l)[m]? = some b → b.1 ≠ n) ∧ Below w5.heap.size w5 W) (fun _ _ kv _ => nl - (Lib.intOf kv).toNat)
          case atStart => exact ⟨0, rfl, Nat.zero_le _, rfl, rfl, fun m b hm => absurd hm (Nat.not_lt_zero m), HBJ.out⟩
          case round =>
            clear HBJ
            obtain ⟨k, rfl, hk, rfl, rfl, hne, hB⟩ := hrel
            have HNE := Lib.hid hne
            have HBK := Lib.hid hB
            clear hB hne
            by_cases hkn : k < nl
            · have hq3 : (k : Int) < (nl : Int) := by omega
              obtain ⟨⟨nm, vl⟩, hb⟩ : ∃ b, (cutL l)[k]? = some b := ⟨_, List.getElem?_eq_getElem (by rw [HNL.out]; exact hkn)⟩
              have HBB := Lib.hid hb
              have hst := HST.out wr HBK.out
              rw [HU.out] at hst
              obtain ⟨Au', cu', eu, -, -, hRu, hvl, hks⟩ := hst
              rw [HNL.out] at eu hRu
              cases eu
              obtain ⟨kv, hkv⟩ : ∃ kv, us[k]? = some kv := ⟨_, List.getElem?_eq_getElem (by rw [hvl, HNL.out]; exact hkn)⟩
              obtain ⟨b1, o1, rfl, hb1, hcl1⟩ := hRu.spot (by omega) (by omega)
              have hat := stepCells_at _ _ k _ kv hb hkv
              have hkk := hks k _ kv hb hkv
              have HKW := Lib.hid (show ∀ W, Below w5.heap.size w5 W → KeysAt W W.heap.size kv vl from fun W hW => by
                obtain ⟨_, _, _, _, _, _, _, h⟩ := HST.out W hW
                exact h k _ kv hb hkv)
              obtain ⟨Ak, ck, rfl, -, -, -⟩ := hkk
              have z0 : wr.cell? ⟨b1, o1 + k * 2, none⟩ = some (.string nm) := hcl1 _ _ hat.1
              have z1 : wr.cell? ⟨b1, o1 + k * 2 + 1, none⟩ = some (.slice Ak vl.length ck) := hcl1 _ _ hat.2
              obtain ⟨mk, hmk⟩ : ∃ mk, vl.length = mk := ⟨_, rfl⟩
              have HMK := Lib.hid hmk
              have hmk1 : mk ≤ 30 := by rw [← hmk]; exact HSM.out.2 _ (List.mem_of_getElem? hb)
              have hmk2 : (mk : Int) ≤ 30 := by omega
              rw [hmk] at z1 HKW
              clear hb hvl hks hkv hcl1 hat hmk hRu
              have HB6 := Lib.hid (HBK.out.alloc HBK.out.size (.cells #[.string nm, .slice Ak mk ck] 30))
              have HG6 := Lib.hid (Blk.new wr 30 #[.string nm, .slice Ak mk ck])
              go_upto_region 14 with (fail)
              generalize wr.alloc (.cells #[.string nm, .slice Ak mk ck] 30) = w6 at *
              obtain ⟨gk, hgk⟩ : ∃ gk, wr.heap.size = gk := ⟨_, rfl⟩
              rw [hgk] at HG6 ⊢
              clear hgk z0 z1
              have y0 : w6.cell? ⟨gk, 0, none⟩ = some (.string nm) := HG6.out.cell 0
              have y1 : w6.cell? ⟨gk, 1, none⟩ = some (.slice Ak mk ck) := HG6.out.cell 1
              have hbq := ba_beqB nm n
              by_cases he : nm = n
              · rw [decide_eq_true he] at hbq
                have HE := Lib.hid he
                clear he HBK
                go_wp2
                clear y0 y1 hbq
                go_loopw [11, 12, 51] (fun xv yv mv W => ∃ m : Nat, mv = .int .i64 (m : Int) ∧ m ≤ mk ∧ xv = .string (firstV vl q m).1 ∧ yv = .bool (firstV vl q m).2 ∧ Below w5.heap.size w5 W) (fun _ _ mv _ => mk - (Lib.intOf mv).toNat)
                case atStart => exact ⟨0, rfl, Nat.zero_le _, rfl, rfl, HB6.out⟩
                case round =>
                  clear HB6 HG6
                  obtain ⟨m, rfl, hm, rfl, rfl, hB⟩ := hrel
                  have HBK := Lib.hid hB
                  clear hB
                  obtain ⟨fx, hfx⟩ : ∃ fx, (firstV vl q m).1 = fx := ⟨_, rfl⟩
                  obtain ⟨fy, hfy⟩ : ∃ fy, (firstV vl q m).2 = fy := ⟨_, rfl⟩
                  have HFV := Lib.hid (show firstV vl q m = (fx, fy) from by rw [← hfx, ← hfy])
                  rw [hfx, hfy]
                  clear hfx hfy
                  by_cases hmm : m < mk
                  · have hq4 : (m : Int) < (mk : Int) := by omega
                    obtain ⟨⟨xp, xt⟩, hx⟩ : ∃ x, vl[m]? = some x := ⟨_, List.getElem?_eq_getElem (by rw [HMK.out]; exact hmm)⟩
                    have HFN := Lib.hid (firstV_next (q := q) hx)
                    obtain ⟨b2, o2, rfl, hb2, x0, x1⟩ := keys_spot (HKW.out wr HBK.out) hx
                    simp only at x0 x1
                    rw [HFV.out] at HFN
                    simp only at HFN
                    clear hx
                    have HB7 := Lib.hid (HBK.out.alloc HBK.out.size (.cells #[.string xp, .string xt] 32))
                    have HG7 := Lib.hid (Blk.new wr 32 #[.string xp, .string xt])
                    go_upto_region 18 with (fail)
                    generalize wr.alloc (.cells #[.string xp, .string xt] 32) = w7 at *
                    obtain ⟨gv, hgv⟩ : ∃ gv, wr.heap.size = gv := ⟨_, rfl⟩
                    rw [hgv] at HG7 ⊢
                    clear hgv x0 x1
                    have x0 : w7.cell? ⟨gv, 0, none⟩ = some (.string xp) := HG7.out.cell 0
                    have x1 : w7.cell? ⟨gv, 1, none⟩ = some (.string xt) := HG7.out.cell 1
                    have hbq := ba_beqB xp q
                    by_cases he : xp = q
                    · rw [decide_eq_true he] at hbq
                      cases fy
                      · have HFZ := Lib.hid (show firstV vl q (m + 1) = (xt, true) from by rw [HFN.out, if_pos ⟨he, rfl⟩])
                        clear he
                        go_wp2
                        go_roundw
                        case rel => exact ⟨m + 1, by go_num, hmm, by rw [HFZ.out], by rw [HFZ.out], HB7.out⟩
                        case measure => simp [Lib.intOf]; omega
                      · have HFZ := Lib.hid (show firstV vl q (m + 1) = (fx, true) from by rw [HFN.out, if_neg (fun h => by cases h.2)])
                        clear he
                        go_wp2
                        go_roundw
                        case rel => exact ⟨m + 1, by go_num, hmm, by rw [HFZ.out], by rw [HFZ.out], HB7.out⟩
                        case measure => simp [Lib.intOf]; omega
                    · rw [decide_eq_false he] at hbq
                      have HFZ := Lib.hid (show firstV vl q (m + 1) = (fx, fy) from by rw [HFN.out, if_neg (fun h => he h.1)])
                      clear he
                      go_wp2
                      go_roundw
                      case rel => exact ⟨m + 1, by go_num, hmm, by rw [HFZ.out], by rw [HFZ.out], HB7.out⟩
                      case measure => simp [Lib.intOf]; omega
                  · obtain rfl : mk = m := by omega
                    have hq4 : ¬ (mk : Int) < (mk : Int) := by omega
                    have HGB := Lib.hid (show getB (cutL l) n q = (fx, fy) from by
                      rw [getB_some HBB.out HE.out HNE.out]
                      simp only
                      rw [HMK.out, HFV.out])
                    clear HFV
                    obtain ⟨w8, hw8⟩ : ∃ w8, wr = w8 := ⟨_, rfl⟩
                    rw [hw8] at HBK ⊢
                    clear hw8
                    have HBX := Lib.hid (show Blk w8 h0 24 #[u] from HBU.out.2.below HBK.out HBU.out.1)
                    have HGT := Lib.hid (bget_any u (cutL l) us n q w8 (HST.out w8 HBK.out) (by have := HSM.out.1; omega) (fun b hb => by have := HSM.out.2 b hb; omega))
                    rw [HGB.out] at HGT
                    simp only at HGT
                    have k0 : w8.cell? ⟨h0, 0, none⟩ = some u := HBX.out.cell 0
                    go_upto_region 23 with (go_at_call 9; go_must (refine HGT.out.mono ?_; rintro en w5 ⟨rfl, hb5⟩; have HB5 := Lib.hid (HBK.out.trans (hb5.mono HBK.out.size)); clear hb5))
                    clear k0
                    go_wp2
                    go_roundw
                    case rel => exact ⟨j + 1, by go_num, hj4, HB5.out⟩
                    case measure => simp [Lib.intOf]; omega
              · rw [decide_eq_false he] at hbq
                have HNX := Lib.hid (show ∀ (m : Nat) (b : PStep), m < k + 1 → (cutL l)[m]? = some b → b.1 ≠ n from fun m b hm hb => by
                  rcases Nat.lt_or_ge m k with h | h
                  · exact HNE.out m b h hb
                  · obtain rfl : m = k := by omega
                    rw [HBB.out] at hb
                    cases hb
                    exact he)
                clear he
                go_wp2
                go_roundw
                case rel => exact ⟨k + 1, by go_num, hkn, rfl, rfl, HNX.out, HB6.out⟩
                case measure => simp [Lib.intOf]; omega
            · obtain rfl : nl = k := by omega
              have hq3 : ¬ (nl : Int) < (nl : Int) := by omega
              have HGB := Lib.hid (show getB (cutL l) n q = (⟨#[]⟩, false) from getB_none fun m b hb => HNE.out m b (by have := (List.getElem?_eq_some_iff.1 hb).1; have := HNL.out; omega) hb)
              obtain ⟨w8, hw8⟩ : ∃ w8, wr = w8 := ⟨_, rfl⟩
              rw [hw8] at HBK ⊢
              clear hw8
              have HBX := Lib.hid (show Blk w8 h0 24 #[u] from HBU.out.2.below HBK.out HBU.out.1)
              have HGT := Lib.hid (bget_any u (cutL l) us n q w8 (HST.out w8 HBK.out) (by have := HSM.out.1; omega) (fun b hb => by have := HSM.out.2 b hb; omega))
              rw [HGB.out] at HGT
              simp only at HGT
              have k0 : w8.cell? ⟨h0, 0, none⟩ = some u := HBX.out.cell 0
              go_upto_region 23 with (go_at_call 9; go_must (refine HGT.out.mono ?_; rintro en w5 ⟨rfl, hb5⟩; have HB5 := Lib.hid (HBK.out.trans (hb5.mono HBK.out.size)); clear hb5))
              clear k0
              go_wp2
              go_roundw
              case rel => exact ⟨j + 1, by go_num, hj4, HB5.out⟩
              case measure => simp [Lib.intOf]; omega
          -- >>loop3
        · obtain rfl : j = 4 := by omega
          have hq2 : ¬ ((4 : Nat) : Int) < 4 := by omega
          go_wp2
          go_roundw
          case rel => exact ⟨i + 1, by go_num, hi5, HB5.out.trans (HBJ.out.mono HB5.out.size)⟩
          case measure => simp [Lib.intOf]; omega
    · obtain rfl : i = 5 := by omega
      have hq : ¬ ((5 : Nat) : Int) < 5 := by omega
      go_wp2
      go_ret
      exact ⟨rfl, by rw [HH0.out]; exact HB4.out.1.trans (HBI.out.mono (by have := HB4.out.1.size; have := HH0.out; omega))⟩
set_option maxRecDepth 100000 in
theorem walk {H : Type} {enc : TypeId × Value → H} (v0 : Value) (d0 : DataW H) (p0 : List MemPlace) (base0 : Nat) (a1 : ByteArray) (a2 : ByteArray) (w : World) (hv0 : Value.okWide Try.prog w .any base0 24 v0) (w0 : DataW.Trod enc Try.prog w 0 (fun _ => true) true 24 v0 d0 p0) (hwt0 : ∀ n ∈ d0.weights Try.prog 24, n ≤ 140737488351232) (w1 : a1.size ≤ 140737488351232) (w2 : a2.size ≤ 140737488351232) :
    Calls Try.prog 3 #[v0, .string a1, .string a2] w fun e w' => e = .returned (.bool true) ∧ Below w.heap.size w w' := by
  obtain ⟨u0, l0, vs0, rfl, hs0, hi0⟩ := open_bundle hv0 w0 hwt0
  exact gets_walk u0 l0 vs0 a1 a2 w hs0 hi0

set_option maxRecDepth 100000 in
theorem contract (H : Type) (enc : TypeId × Value → H) (W : World) (base : Nat) (args : Array Value) (ds gs : List (DataW H)) (before : List MemPlace)
    (hval0 : ∀ (j : Nat) t v, Try.f3.params[j]? = some t → args[j]? = some v → Value.okWide Try.prog W .any base t v)
    (hW : DataW.Whole enc Try.prog Try.f3.params.toList Rows.bundleGetsSpec.vars false W args.toList ds gs before)
    (hsz0 : (DataW.weightsEach Try.prog (Try.f3.params.toList ++ Rows.bundleGetsSpec.plain.varTypes Try.prog) (ds ++ gs)).all (· ≤ reachBytes) = true) :
    Calls Try.prog 3 args W fun e W' => ∃ v, e = .returned v ∧ Rows.bundleGetsSpec.post enc Try.prog Try.f3 false true false false W args v W' := by
  have hval : ∀ (j : Nat) t v, Try.f3.params[j]? = some t → args[j]? = some v → Value.okWide Try.prog W .any base t v := hval0
  have hsz : (DataW.weightsEach Try.prog (Try.f3.params.toList ++ Rows.bundleGetsSpec.plain.varTypes Try.prog) (ds ++ gs)).all (· ≤ reachBytes) = true := hsz0
  have hW' := hW
  obtain ⟨p, q, hA0, hV, rfl, hfz, hnd⟩ := hW
  have hA : DataW.TrodAll enc Try.prog W 0 (fun _ => true) true Try.f3.params.toList args.toList ds p := hA0
  rw [Try.params3] at hA hval hsz
  obtain ⟨v0, vs0, d0, ds0, p0, q0, hargs, rfl, rfl, h0, r0⟩ := trodAll_cons hA
  obtain ⟨v1, vs1, d1, ds1, p1, q1, rfl, rfl, rfl, h1, r1⟩ := trodAll_cons r0
  obtain ⟨v2, vs2, d2, ds2, p2, q2, rfl, rfl, rfl, h2, r2⟩ := trodAll_cons r1
  obtain ⟨rfl, rfl, rfl⟩ := trodAll_nil r2
  obtain rfl : args = #[v0, v1, v2] := by cases args; simp_all
  obtain ⟨rfl, rfl⟩ := trodVars_none hV
  have k0 := h0
  have lt0 : ∀ x ∈ p0, x.block < W.heap.size := by obtain ⟨m, hm⟩ := k0; exact DataW.trod_lt m _ _ _ hm
  have hwt0 : ∀ n ∈ d0.weights Try.prog 24, n ≤ 140737488351232 := fun n hn => by
    have := of_decide_eq_true (List.all_eq_true.1 hsz _ (DataW.weights_mem_each (j := 0) (t := 24) rfl rfl n hn))
    simpa [reachBytes] using this
  obtain ⟨a1, rfl, rfl, rfl, wm1⟩ := open_string Try.underlying9 (hval 1 9 v1 rfl rfl) h1
  have w1 : a1.size ≤ 140737488351232 := by
    have := sized_string hsz (j := 1) (t := 9) rfl rfl
    simpa [reachBytes] using this
  obtain ⟨a2, rfl, rfl, rfl, wm2⟩ := open_string Try.underlying9 (hval 2 9 v2 rfl rfl) h2
  have w2 : a2.size ≤ 140737488351232 := by
    have := sized_string hsz (j := 2) (t := 9) rfl rfl
    simpa [reachBytes] using this
  clear hA0 hval0
  refine (walk v0 d0 p0 base a1 a2 W (hval 0 24 v0 rfl rfl) h0 hwt0 w1 w2).mono fun e W' ⟨he, bel⟩ => ?_
  subst he
  exact ⟨_, rfl, _, _, _, [], _, [], hW', trodAll_mk1 (shut_bool Try.underlying4 _), (trodAll_cons_mk (Below.trod laidOut (by kernel_rfl) (of_decide_eq_true (by kernel_rfl)) k0 bel lt0) (trodAll_cons_mk (shut_string Try.underlying9 wm1) (trodAll_cons_mk (shut_string Try.underlying9 wm2) trodAll_mk0))), rfl, bel.frame _, fun h => by cases h⟩

set_option maxRecDepth 100000 in
theorem lifted (os : Os) (started : os.Started) (H : Type) (enc : TypeId × Value → H) :
    ReturnsInHanded {} Try.checked os 3 .any (Rows.bundleGetsSpec.pre6 enc Try.prog Try.f3 Rows.bundleGetsRow.domain false) (Rows.bundleGetsSpec.post enc Try.prog Try.f3 false true false false) := by
  refine returnsInHanded_of_change_sized (C := Try.checked) own started (by kernel_rfl) Try.func3
    (ChangeSpec.witness6 (enc := enc) (C := Try.checked) false ⟨#[], #[.agg #[.slice none 0 0], .string ByteArray.empty, .string ByteArray.empty], []⟩ 8 (by kernel_rfl) (by kernel_rfl) (by kernel_rfl) (by kernel_rfl)) ?_
  intro W base args ds gs before hval hW _ hsz _
  exact contract H enc W base args ds gs before hval hW hsz

theorem over : Rows.bundleGetsRow.holds Try.pinned (OpenSpec.ofChange Rows.bundleGetsSpec) :=
  OpenClaim.holds_of_wide 3 Try.f3 rfl rfl rfl rfl rfl rfl rfl ⟨rfl, rfl, rfl, rfl, rfl⟩ rfl rfl rfl rfl rfl (by kernel_rfl) Try.func3 (by kernel_rfl)
    (of_decide_eq_true (by kernel_rfl)) (by unfold Func.isWrapper; first | (rw [if_pos (by decide +kernel)]; kernel_rfl) | (rw [if_neg (by decide +kernel)]; exact ⟨rfl, rfl⟩))
    (fun os started H enc _ => lifted os started H enc)

/-- The statement. -/
theorem proved : Rows.BundleGetsSaid := over
#print axioms proved
end Go.Proofs.Ytfpepdjffehbcaa.bundleGets
