/-
  The walk of path.text. Condition: the step is small (its name, keys and values).
-/
import Derived.Test.YtkfofdmcggoonaaGreatDoorPathMay
import Derived.Test.YtkfofdmcggoonaaGreatDoorShelf
import Derived.WalkMore
set_option linter.unusedVariables false
set_option linter.unusedSimpArgs false
namespace Go.Proofs.YtkfofdmcggoonaaGreatDoor
open Go.RowKit

def dressB (b : UInt8) : List UInt8 := if 0 ≤ specialI (b.toNat : Int) then [92, b] else [b]
def dressL (l : List UInt8) : List UInt8 := l.flatMap dressB
def keyText (k : PKey) : List UInt8 := [91] ++ k.1.data.toList ++ [61] ++ dressL k.2.data.toList ++ [93]
def textL (st : PStep) : List UInt8 := st.1.data.toList ++ st.2.flatMap keyText
def StepSmall (st : PStep) : Prop := st.1.size ≤ 2000000 ∧ st.2.length ≤ 400000 ∧ ∀ k ∈ st.2, k.1.size ≤ 2000000 ∧ k.2.size ≤ 2000000
theorem dressL_len (l : List UInt8) : (dressL l).length ≤ 2 * l.length := by
  induction l with
  | nil => simp [dressL]
  | cons b l ih =>
    simp only [dressL, List.flatMap_cons, List.length_append, List.length_cons] at ih ⊢
    have : (dressB b).length ≤ 2 := by unfold dressB; split <;> simp
    omega
theorem keyText_len (k : PKey) (h : k.1.size ≤ 2000000 ∧ k.2.size ≤ 2000000) : (keyText k).length ≤ 6000003 := by
  have := dressL_len k.2.data.toList
  simp only [keyText, List.length_append, List.length_cons, List.length_nil, ba_len] at this ⊢
  omega
theorem keysText_len (ks : List PKey) (h : ∀ k ∈ ks, k.1.size ≤ 2000000 ∧ k.2.size ≤ 2000000) : (ks.flatMap keyText).length ≤ ks.length * 6000003 := by
  induction ks with
  | nil => simp
  | cons k ks ih =>
    have h1 := keyText_len k (h k (by simp))
    have h2 := ih fun x hx => h x (by simp [hx])
    simp only [List.flatMap_cons, List.length_append, List.length_cons]
    omega
theorem textL_len {st : PStep} (h : StepSmall st) : (textL st).length ≤ 2500000000000 := by
  have h1 := keysText_len st.2 h.2.2
  have h2 := h.1
  have h3 := h.2.1
  simp only [textL, List.length_append, ba_len]
  omega
theorem textPre_len {st : PStep} (h : StepSmall st) (p : Nat) : (st.1.data.toList ++ (st.2.take p).flatMap keyText).length ≤ 2500000000000 := by
  have h1 := keysText_len (st.2.take p) fun k hk => h.2.2 k (List.mem_of_mem_take hk)
  have h2 := h.1
  have h3 := h.2.1
  have h4 := List.length_take_le' p st.2
  simp only [List.length_append, ba_len]
  omega
abbrev SB (B : Nat) (l : List UInt8) (w : World) : Prop := Lib.IsBuilderF 134 5 B B (Lib.byteCells l) w
theorem byteCells_bvs (l : List UInt8) : Lib.byteCells l = bvs l := rfl
theorem sb_str {B : Nat} {l : List UInt8} {s : ByteArray} {w : World} (h : Lib.BuilderAtF 134 5 B B (.pointer (some ⟨B, 0, none⟩)) (Lib.byteCells l ++ Lib.strCells s) w) : SB B (l ++ s.data.toList) w := by
  refine .inr ?_
  rw [show Lib.byteCells (l ++ s.data.toList) = Lib.byteCells l ++ Lib.strCells s by simp [Lib.byteCells, Lib.strCells]]
  exact h
theorem sb_byt {B : Nat} {l : List UInt8} {b : UInt8} {w : World} (h : Lib.BuilderAtF 134 5 B B (.pointer (some ⟨B, 0, none⟩)) (Lib.byteCells l ++ [.int .u8 (b.toNat : Int)]) w) : SB B (l ++ [b]) w := by
  refine .inr ?_
  rw [show Lib.byteCells (l ++ [b]) = Lib.byteCells l ++ [.int .u8 (b.toNat : Int)] by simp [Lib.byteCells]]
  exact h
theorem Blk.others {w w' : World} {k : Nat} {t : TypeId} {cs : Array Value} {b : Nat} (h : Blk w k t cs) (hk : Lib.OthersKept 5 (some b) w w') (hb : k ≠ b) (ht : t ≠ 5) : Blk w' k t cs :=
  hk k _ h (by simpa using hb) (fun c fz e => ht (by cases e; rfl))
def TextPost (st : PStep) (w : World) (en : Ending) (w' : World) : Prop := en = .returned (.string (str (textL st))) ∧ Below w.heap.size w w'

theorem sb_lt {B : Nat} {l : List UInt8} {w : World} (h : SB B l w) : B < w.heap.size := by
  rcases h with h | h <;> exact Lib.BuilderAtF.lt h
def TextAt (nm : ByteArray) (ks : List PKey) (B : Nat) (wA : World) (p : Nat) (wr : World) : Prop :=
  SB B (nm.data.toList ++ (ks.take p).flatMap keyText) wr ∧ Below B wA wr ∧ p ≤ ks.length
def KeyAt (acc : List UInt8) (k : PKey) (B kb : Nat) (wA : World) (q : Nat) (wr : World) : Prop :=
  SB B (acc ++ dressL (k.2.data.toList.take q)) wr ∧ Below B wA wr ∧ Blk wr kb 33 #[.string k.1, .string k.2] ∧ q ≤ k.2.size
theorem textAt_next {nm : ByteArray} {ks : List PKey} {B : Nat} {wA : World} {p : Nat} {wr : World} {k : PKey} (hk : ks[p]? = some k)
    (h : SB B ((nm.data.toList ++ (ks.take p).flatMap keyText ++ ([91] ++ k.1.data.toList ++ [61])) ++ dressL k.2.data.toList ++ [93]) wr) (hb : Below B wA wr) : TextAt nm ks B wA (p + 1) wr := by
  have hlt := (List.getElem?_eq_some_iff.1 hk).1
  refine ⟨?_, hb, by omega⟩
  rw [List.take_add_one, hk]
  simpa [keyText, List.flatMap_append] using h
theorem dressL_take (l : List UInt8) (q : Nat) (b : UInt8) (h : l[q]? = some b) : dressL (l.take (q + 1)) = dressL (l.take q) ++ dressB b := by
  rw [List.take_add_one, h]
  simp [dressL, List.flatMap_append]
set_option maxHeartbeats 4000000 in
set_option maxRecDepth 100000 in
theorem text_any (st : PStep) (v : Value) (w : World) (hk : KeysAt w w.heap.size v st.2) (hs : StepSmall st) :
    Calls Tryz.prog 80 #[.agg #[.string st.1, v]] w (TextPost st w) := by
  obtain ⟨A, c, rfl, hkc, hcm, hRd⟩ := hk
  obtain ⟨nm, ks⟩ := st
  simp only at hkc hRd ⊢
  have HS := Lib.hid hs
  have HP := Lib.hid (textPre_len hs)
  clear hs
  generalize hlen : ks.length = n at *
  have hn1 : (n : Int) ≤ 400000 := by have := HS.out.2.1; simp only at this; omega
  have HRd := Lib.hid (hRd.below ((Below.refl w.heap.size w).alloc (Nat.le_refl _) (.cells #[.string nm, .slice A n c] 70)))
  have HBA := Lib.hid (show Below w.heap.size w (w.alloc (.cells #[.string nm, .slice A n c] 70)) from (Below.refl _ _).alloc (Nat.le_refl _) _)
  have HB0 := Lib.hid (Blk.new w 70 #[.string nm, .slice A n c])
  have HI0 := Lib.hid (show SB (w.heap.size + 1) [] ((w.alloc (.cells #[.string nm, .slice A n c] 70)).alloc (.cells #[.pointer none, .slice none 0 0] 134)) from by
    have := Lib.IsBuilderF.of (Lib.fresh_isBuilder 134 5 (w.alloc (.cells #[.string nm, .slice A n c] 70)))
    rw [World.size_alloc] at this
    exact this)
  have HL0 := Lib.hid (show (Lib.byteCells []).length + nm.size ≤ 140737488355328 by have := HS.out.1; simp only [Lib.byteCells, List.map_nil, List.length_nil] at this ⊢; omega)
  have HW0 := Lib.hid (show w.heap.size + 1 ≤ ((w.alloc (.cells #[.string nm, .slice A n c] 70)).alloc (.cells #[.pointer none, .slice none 0 0] 134)).heap.size by simp)
  go_enter Tryz.func80, Tryz.ntmps80
  go_upto_region 3 with (go_at_call 103; go_loud (refine (sb_string (w.heap.size + 1) (w.heap.size + 1) (Lib.byteCells []) nm _ HI0.out HL0.out HW0.out).mono ?_; rintro en w1 ⟨rfl, hb1, hB1, hO1⟩; have HI1 := Lib.hid (sb_str (l := []) hb1); have HB1 := Lib.hid hB1; clear hb1 hB1 hO1))
  have hsb : Blk w1 w.heap.size 70 #[.string nm, .slice A n c] := (HB0.out.alloc _).below HB1.out (by omega)
  have c1 : w1.cell? ⟨w.heap.size, 1, none⟩ = some (.slice A n c) := hsb.cell 1
  have HBW := Lib.hid (show Below (w.heap.size + 1) (w.alloc (.cells #[.string nm, .slice A n c] 70)) w1 from ((Below.refl _ _).alloc (by simp) _).trans HB1.out)
  clear HI0 HB0 HB1 hsb HL0 HW0
  generalize w.alloc (.cells #[.string nm, .slice A n c] 70) = wA at *
  go_wp2
  have HI := Lib.hid (show TextAt nm ks (w.heap.size + 1) wA 0 w1 from ⟨by simpa using HI1.out, HBW.out, Nat.zero_le _⟩)
  have HSA := Lib.hid (show w.heap.size + 1 ≤ w1.heap.size from Nat.le_of_lt (sb_lt HI1.out))
  clear HI1 HBW c1
  generalize hB : w.heap.size + 1 = B at *
  have HBe := Lib.hid hB
  clear hB
  go_loopw [5, 6, 13, 25] (fun _ _ iv _ wr => ∃ p : Nat, iv = .int .i64 (p : Int) ∧ TextAt nm ks B wA p wr) (fun _ _ iv _ _ => n - (Lib.intOf iv).toNat)
  case atStart => exact ⟨0, rfl, HI.out⟩
  case round =>
    obtain ⟨p, rfl, hI, hB, hp⟩ := hrel
    by_cases hlt : p < n
    · obtain ⟨k, hk⟩ : ∃ k, ks[p]? = some k := ⟨ks[p]'(by omega), by simp [hlen, hlt]⟩
      have hq1 : (p : Int) < (n : Int) := by omega
      have hsk := HS.out.2.2 k (List.mem_of_getElem? hk)
      obtain ⟨b, o, rfl, hbo, hcells⟩ := (HRd.out.below (hB.mono (by have := HBe.out; omega))).spot (by omega) (by omega)
      have hat := pairCells_at ks p k hk
      have r0 := hcells _ _ hat.1
      have r1 : wr.cell? ⟨b, o + p * 2 + 1, none⟩ = some (.string k.2) := hcells _ _ hat.2
      have HK := Lib.hid (Blk.new wr 33 #[.string k.1, .string k.2])
      have HSK := Lib.hid hsk
      have HKK := Lib.hid hk
      have hBs : B < wr.heap.size := sb_lt hI
      have HI2 := Lib.hid (Lib.IsBuilderF.alloc hI (.cells #[.string k.1, .string k.2] 33))
      have HB2 := Lib.hid (hB.alloc (Nat.le_of_lt hBs) (.cells #[.string k.1, .string k.2] 33))
      have HLB := Lib.hid hBs
      have HL0 := Lib.hid (show (Lib.byteCells (nm.data.toList ++ (ks.take p).flatMap keyText)).length + ((⟨#[91]⟩ : ByteArray) ++ k.1 ++ (⟨#[61]⟩ : ByteArray)).size ≤ 140737488355328 by
        have := HP.out p
        have := hsk.1
        rw [Lib.byteCells_length]
        simp only [ByteArray.size_append] at *
        have e1 : (⟨#[91]⟩ : ByteArray).size = 1 := rfl
        have e2 : (⟨#[61]⟩ : ByteArray).size = 1 := rfl
        omega)
      have HW0 := Lib.hid (show B ≤ (wr.alloc (.cells #[.string k.1, .string k.2] 33)).heap.size by simp; omega)
      have hc1 : ¬ 9223372036854775807 < 1 + k.1.size := by have := hsk.1; omega
      have hc2 : ¬ 9223372036854775807 < 1 + k.1.size + 1 := by have := hsk.1; omega
      clear hcells hat hI hB hsk hk hRd hBs
      go_upto_region 7 with (go_at_call 103; go_loud (refine (sb_string B B _ _ _ HI2.out HL0.out HW0.out).mono ?_; rintro en w2 ⟨rfl, hb2, hB2, hO2⟩; have HI3 := Lib.hid (sb_str hb2); have HB3 := Lib.hid (HB2.out.trans hB2); have HK3 := Lib.hid (HK.out.others hO2 (by have := HLB.out; omega) (by decide)); clear hb2 hB2 hO2 HI2 HB2 HL0 HW0))
      clear hc1 hc2 HK r0 r1
      have k31 : w2.cell? ⟨wr.heap.size, 1, none⟩ = some (.string k.2) := HK3.out.cell 1
      have HKA := Lib.hid (show KeyAt (nm.data.toList ++ (ks.take p).flatMap keyText ++ ((⟨#[91]⟩ : ByteArray) ++ k.1 ++ (⟨#[61]⟩ : ByteArray)).data.toList) k B wr.heap.size wA 0 w2 from ⟨by simpa [dressL] using HI3.out, HB3.out, HK3.out, Nat.zero_le _⟩)
      have HKB := Lib.hid (show B < wr.heap.size from HLB.out)
      clear HI3 HB3 HK3
      generalize wr.heap.size = kb at *
      have HAC := Lib.hid (show (nm.data.toList ++ (ks.take p).flatMap keyText ++ ((⟨#[91]⟩ : ByteArray) ++ k.1 ++ (⟨#[61]⟩ : ByteArray)).data.toList) = (nm.data.toList ++ (ks.take p).flatMap keyText ++ ([91] ++ k.1.data.toList ++ [61])) by simp)
      have HLA := Lib.hid (show (nm.data.toList ++ (ks.take p).flatMap keyText ++ ((⟨#[91]⟩ : ByteArray) ++ k.1 ++ (⟨#[61]⟩ : ByteArray)).data.toList).length ≤ 2600000000000 by
        rw [HAC.out]
        have := HP.out p
        have := HSK.out.1
        simp only [List.length_append, List.length_cons, List.length_nil, ba_len] at *
        omega)
      generalize (nm.data.toList ++ (ks.take p).flatMap keyText ++ ((⟨#[91]⟩ : ByteArray) ++ k.1 ++ (⟨#[61]⟩ : ByteArray)).data.toList) = acc at *
      go_wp2
      clear k31
      go_loopw [6, 25] (fun _ jv wr2 => ∃ q : Nat, jv = .int .i64 (q : Int) ∧ KeyAt acc k B kb wA q wr2) (fun _ jv _ => k.2.size - (Lib.intOf jv).toNat)
      case atStart => exact ⟨0, rfl, HKA.out⟩
      case round =>
        obtain ⟨q, rfl, hI, hB, hK, hq⟩ := hrel
        by_cases hlq : q < k.2.size
        · have hq2 : (q : Int) < (k.2.size : Int) := by omega
          have hqz : (k.2.size : Int) ≤ 2000000 := by have := HSK.out.2; omega
          have hb8 : k.2.data.toList[q]? = some k.2[q] := by
            have : q < k.2.data.toList.length := by rw [ba_len]; exact hlq
            rw [List.getElem?_eq_getElem this]
            rfl
          have HD := Lib.hid (dressL_take _ q _ hb8)
          have k1 : wr.cell? ⟨kb, 1, none⟩ = some (.string k.2) := hK.cell 1
          have HSP := Lib.hid (fun W => special_any (k.2[q].toNat : Int) W)
          have HDB := Lib.hid (show dressB k.2[q] = if 0 ≤ specialI (k.2[q].toNat : Int) then [92, k.2[q]] else [k.2[q]] from rfl)
          have HI := Lib.hid hI
          have HB := Lib.hid hB
          have HK := Lib.hid hK
          have HLQ := Lib.hid (show (acc ++ dressL (k.2.data.toList.take q)).length ≤ 2700000000000 by
            have h1 := dressL_len (k.2.data.toList.take q)
            have h2 := List.length_take_le' q k.2.data.toList
            have h3 := HLA.out
            have h4 := HSK.out.2
            rw [ba_len] at h2
            simp only [List.length_append]
            omega)
          have HLs := Lib.hid (show (Lib.byteCells (acc ++ dressL (k.2.data.toList.take q))).length + 1 ≤ 140737488355328 by rw [Lib.byteCells_length]; have := HLQ.out; omega)
          have HWs := Lib.hid (show B ≤ wr.heap.size from Nat.le_of_lt (sb_lt hI))
          clear hI hB hK hb8
          generalize specialI (k.2[q].toNat : Int) = sp at *
          by_cases hsp : 0 ≤ sp
          · have HX := Lib.hid (show dressB k.2[q] = [92, k.2[q]] by rw [HDB.out, if_pos hsp])
            have HLs2 := Lib.hid (show (Lib.byteCells (acc ++ dressL (k.2.data.toList.take q) ++ [92])).length + 1 ≤ 140737488355328 by rw [Lib.byteCells_length]; have := HLQ.out; simp only [List.length_append, List.length_cons, List.length_nil] at *; omega)
            go_wp2_with (first
              | (go_at_call 98; refine (HSP.out _).mono ?_; rintro en w3 ⟨rfl, rfl⟩)
              | (go_at_call_of 104 (Value.int IntKind.u8 92); go_loud (refine (sb_byte B B _ _ _ HI.out HLs.out HWs.out).mono ?_; rintro en w4 ⟨rfl, hb4, hB4, hO4⟩; have HI4 := Lib.hid (sb_byt (b := 92) hb4); have HB4 := Lib.hid (HB.out.trans hB4); have hK4 := HK.out.others hO4 (by have := HKB.out; omega) (by decide); have k41 : w4.cell? ⟨kb, 1, none⟩ = some (.string k.2) := hK4.cell 1; have HK4 := Lib.hid hK4; have HW4 := Lib.hid (Nat.le_of_lt (sb_lt HI4.out)); clear hb4 hB4 hO4 hK4))
              | (go_at_call 104; go_loud (refine (sb_byte B B _ _ _ HI4.out HLs2.out HW4.out).mono ?_; rintro en w5 ⟨rfl, hb5, hB5, hO5⟩; have HI5 := Lib.hid (sb_byt (b := k.2[q]) hb5); have HB5 := Lib.hid (HB4.out.trans hB5); have HK5 := Lib.hid (HK4.out.others hO5 (by have := HKB.out; omega) (by decide)); clear hb5 hB5 hO5)))
            go_roundw
            case rel => exact ⟨q + 1, by simp, by rw [HD.out, HX.out]; simpa using HI5.out, HB5.out, HK5.out, hlq⟩
            case measure => simp [Lib.intOf]; omega
          · have HX := Lib.hid (show dressB k.2[q] = [k.2[q]] by rw [HDB.out, if_neg hsp])
            go_wp2_with (first
              | (go_at_call 98; refine (HSP.out _).mono ?_; rintro en w3 ⟨rfl, rfl⟩)
              | (go_at_call 104; go_loud (refine (sb_byte B B _ _ _ HI.out HLs.out HWs.out).mono ?_; rintro en w5 ⟨rfl, hb5, hB5, hO5⟩; have HI5 := Lib.hid (sb_byt (b := k.2[q]) hb5); have HB5 := Lib.hid (HB.out.trans hB5); have HK5 := Lib.hid (HK.out.others hO5 (by have := HKB.out; omega) (by decide)); clear hb5 hB5 hO5)))
            go_roundw
            case rel => exact ⟨q + 1, by simp, by rw [HD.out, HX.out]; simpa using HI5.out, HB5.out, HK5.out, hlq⟩
            case measure => simp [Lib.intOf]; omega
        · have hq2 : ¬ (q : Int) < (k.2.size : Int) := by omega
          have HT := Lib.hid (show k.2.data.toList.take q = k.2.data.toList from List.take_of_length_le (by rw [ba_len]; omega))
          rw [HT.out] at hI
          have HI := Lib.hid hI
          have HB := Lib.hid hB
          have HLs := Lib.hid (show (Lib.byteCells (acc ++ dressL k.2.data.toList)).length + 1 ≤ 140737488355328 by
            have h1 := dressL_len k.2.data.toList
            have h3 := HLA.out
            have h4 := HSK.out.2
            rw [ba_len] at h1
            rw [Lib.byteCells_length]
            simp only [List.length_append]
            omega)
          have HWs := Lib.hid (show B ≤ wr.heap.size from Nat.le_of_lt (sb_lt hI))
          clear hI hB hK
          go_wp2_with (go_at_call 104; go_loud (refine (sb_byte B B _ _ _ HI.out HLs.out HWs.out).mono ?_; rintro en w5 ⟨rfl, hb5, hB5, hO5⟩; have HI5 := Lib.hid (sb_byt (b := 93) hb5); have HB5 := Lib.hid (HB.out.trans hB5); clear hb5 hB5 hO5))
          go_roundw
          case rel => exact ⟨p + 1, by simp, textAt_next HKK.out (by rw [← HAC.out]; exact HI5.out) HB5.out⟩
          case measure => simp [Lib.intOf]; omega
    · have hq1 : ¬ (p : Int) < (n : Int) := by omega
      have HT := Lib.hid (show ks.take p = ks from List.take_of_length_le (by omega))
      rw [HT.out] at hI
      have HI := Lib.hid hI
      have HB := Lib.hid hB
      have HWs := Lib.hid (show B ≤ wr.heap.size from Nat.le_of_lt (sb_lt hI))
      clear hI hB
      go_wp2_with (go_at_call 105; go_loud (refine (sb_text B B _ _ HI.out HWs.out).mono ?_; rintro en w5 ⟨rfl, hb5, hB5, hO5⟩; have HB5 := Lib.hid (HB.out.trans hB5); clear hb5 hB5 hO5))
      go_ret
      exact ⟨rfl, HBA.out.trans (HB5.out.mono (by have := HBe.out; omega))⟩
end Go.Proofs.YtkfofdmcggoonaaGreatDoor
