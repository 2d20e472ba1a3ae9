/-
  The walk of path.may. Condition: the strings and the keys are within the reach.
-/
import Derived.Test.YtkfofdmcggoonaaGreatDoorPathVal
import Derived.Test.YtkfofdmcggoonaaGreatDoorPathRd
import Derived.Test.YtkfofdmcggoonaaGreatDoorPathParse
set_option linter.unusedVariables false
set_option linter.unusedSimpArgs false
namespace Go.Proofs.YtkfofdmcggoonaaGreatDoor
open Go.RowKit

def keyOk (ahead : ByteArray) (k : PKey) : Bool := nameOk k.1 && (Op.bytesLess ahead.toList k.1.toList) && (broken k.2).isNone && !ctrlAt k.2 0
def keysOk : ByteArray → List PKey → Bool
  | _, [] => true
  | ahead, k :: ks => keyOk ahead k && keysOk k.1 ks
def longK (ks : List PKey) : Bool := ks.any fun k => decide (k.1.size > 64) || decide (k.2.size > 64)
def mayM (st : PStep) : Bool × Bool := if keysOk ByteArray.empty st.2 = true then (nameOk st.1, !(decide (st.1.size > 64) || longK st.2)) else (false, false)
def MayPost (st : PStep) (w : World) (en : Ending) (w' : World) : Prop := en = .returned (.tuple #[.bool (mayM st).1, .bool (mayM st).2]) ∧ Below w.heap.size w w'
/-- A row of keys, read. -/
def KeysAt (w : World) (B : Nat) (v : Value) (ks : List PKey) : Prop := ∃ A c, v = .slice A ks.length c ∧ ks.length ≤ c ∧ c ≤ maxLen ∧ Reads w B 2 A ks.length (pairCells ks)
def KeysSmall (ks : List PKey) : Prop := ks.length ≤ 1000000 ∧ ∀ k ∈ ks, k.1.size ≤ 140737488355328 ∧ k.2.size ≤ 140737488355328

theorem bl_total : ∀ x y : List UInt8, (Op.bytesLess x y || x == y) = !Op.bytesLess y x
  | [], [] => by simp [Op.bytesLess]
  | _ :: _, [] => by simp [Op.bytesLess]
  | [], _ :: _ => by simp [Op.bytesLess]
  | a :: x, b :: y => by
    have ih := bl_total x y
    simp only [Op.bytesLess]
    by_cases hab : a = b
    · subst hab
      have h1 : ¬ a < a := by simp
      simp [h1] at ih ⊢
      exact ih
    · have hba : ¬ b = a := fun e => hab e.symm
      have h : (a < b) ∨ (b < a) := by
        rcases Nat.lt_trichotomy a.toNat b.toNat with h | h | h
        · exact .inl h
        · exact absurd (UInt8.toNat_inj.1 h) hab
        · exact .inr h
      rcases h with h | h
      · have h2 : ¬ b < a := fun e => by have h1 : a.toNat < b.toNat := h; have h3 : b.toNat < a.toNat := e; omega
        simp [h, h2, hba]
      · have h2 : ¬ a < b := fun e => by have h1 : b.toNat < a.toNat := h; have h3 : a.toNat < b.toNat := e; omega
        simp [h, h2, hab]
theorem keysOk_cons (ah : ByteArray) (ks : List PKey) (p : Nat) (k : PKey) (h : ks[p]? = some k) : keysOk ah (ks.drop p) = (keyOk ah k && keysOk k.1 (ks.drop (p + 1))) := by
  obtain ⟨hlt, rfl⟩ := List.getElem?_eq_some_iff.1 h
  rw [List.drop_eq_getElem_cons hlt]
  rfl
theorem longK_take (ks : List PKey) (p : Nat) (k : PKey) (h : ks[p]? = some k) : longK (ks.take (p + 1)) = (longK (ks.take p) || (decide (k.1.size > 64) || decide (k.2.size > 64))) := by
  rw [List.take_add_one, h]
  simp [longK]
theorem spot_field0 (x y : Int) (w : World) : (Instr.field 43 (.agg #[.int .i64 x, .int .i64 y]) 0).run Tryz.prog w = .ok (.int .i64 x) w := by kernel_rfl
/-- Where may's loop is. -/
def MayAt (st : PStep) (wA : World) (lv av iv : Value) (wr : World) : Prop := ∃ (p : Nat) (lg : Bool) (ah : ByteArray), lv = .bool lg ∧ av = .string ah ∧ iv = .int .i64 (p : Int) ∧ p ≤ st.2.length ∧
  Below wA.heap.size wA wr ∧ keysOk ByteArray.empty st.2 = keysOk ah (st.2.drop p) ∧ lg = (decide (st.1.size > 64) || longK (st.2.take p))

set_option maxHeartbeats 4000000 in
set_option maxRecDepth 100000 in
theorem may_any (st : PStep) (v : Value) (w : World) (hk : KeysAt w w.heap.size v st.2) (hs : KeysSmall st.2) (hn : st.1.size ≤ 140737488355328) :
    Calls Tryz.prog 79 #[.agg #[.string st.1, v]] w (MayPost st w) := by
  obtain ⟨A, c, rfl, hkc, hcm, hRd⟩ := hk
  obtain ⟨nm, ks⟩ := st
  simp only at hkc hRd hs hn ⊢
  generalize hlen : ks.length = n at *
  go_enter Tryz.func79, Tryz.ntmps79
  go_wp2
  have hq0 : (decide ((64 : Int) < (nm.size : Int))) = decide (nm.size > 64) := by rw [decide_eq_decide]; omega
  generalize (decide ((64 : Int) < (nm.size : Int))) = lg0 at *
  have HQ0 := Lib.hid hq0
  clear hq0
  have hb0 := Blk.new w 70 #[.string nm, .slice A n c]
  have HRd := Lib.hid (hRd.more (Nat.le_refl _) |> fun h => h.below ((Below.refl w.heap.size w).alloc (Nat.le_refl _) (.cells #[.string nm, .slice A n c] 70)))
  have HBA := Lib.hid (show Below w.heap.size w (w.alloc (.cells #[.string nm, .slice A n c] 70)) from (Below.refl _ _).alloc (Nat.le_refl _) _)
  generalize w.alloc (.cells #[.string nm, .slice A n c] 70) = wA at *
  go_loopw [2, 3, 4, 5, 7, 15] (fun _ _ lv av _ iv wr => MayAt (nm, ks) wA lv av iv wr) (fun _ _ _ _ _ iv _ => n - (Lib.intOf iv).toNat)
  case atStart => exact ⟨0, _, _, rfl, rfl, rfl, Nat.zero_le _, Below.refl _ _, rfl, by rw [HQ0.out]; simp [longK]⟩
  case round =>
    obtain ⟨p, lg, ah, rfl, rfl, rfl, hp, hB, hE, hL⟩ := hrel
    by_cases hlt : p < n
    · obtain ⟨k, hk⟩ : ∃ k, ks[p]? = some k := ⟨ks[p]'(by omega), by simp [hlen, hlt]⟩
      have hq1 : (p : Int) < (n : Int) := by omega
      have hsk := hs.2 k (List.mem_of_getElem? hk)
      have hn1 : (n : Int) ≤ 1000000 := by have := hs.1; omega
      obtain ⟨b, o, rfl, hbo, hcells⟩ := (HRd.out.below (hB.mono HBA.out.size)).spot (by omega) (by omega)
      have hat := pairCells_at ks p k hk
      have r0 := hcells _ _ hat.1
      have r1 : wr.cell? ⟨b, o + p * 2 + 1, none⟩ = some (.string k.2) := hcells _ _ hat.2
      have HK := Lib.hid (Blk.new wr 33 #[.string k.1, .string k.2])
      have HNM := Lib.hid (fun W => name_ok k.1 W hsk.1)
      have HCK := Lib.hid (fun W => check_any k.2 W hsk.2)
      have HCF := Lib.hid (fun W => contains_any k.2 W hsk.2)
      have HE := Lib.hid (hE.trans (keysOk_cons ah ks p k hk))
      have HL := Lib.hid hL
      have HLT := Lib.hid (longK_take ks p k hk)
      have HB := Lib.hid hB
      have HS := Lib.hid (And.intro hs hsk)
      clear hcells hat hE hL hB hs hsk hk hRd
      have HA1 := Lib.hid (show Below w.heap.size w (wr.alloc (.cells #[.string k.1, .string k.2] 33)) from (HBA.out.trans (HB.out.mono HBA.out.size)).alloc (by have := HB.out.size; have := HBA.out.size; omega) _)
      have HA2 := Lib.hid (show w.heap.size ≤ (wr.alloc (.cells #[.string k.1, .string k.2] 33)).heap.size by have := HB.out.size; have := HBA.out.size; simp; omega)
      have hbl := bl_total k.1.toList ah.toList
      cases hnk : nameOk k.1
      · have HM := Lib.hid (show mayM (nm, ks) = (false, false) by unfold mayM; rw [HE.out]; simp [keyOk, hnk])
        rw [hnk] at HNM
        clear hnk hbl
        go_wp2_with (first
        | (go_at_call 100; go_loud (refine (HNM.out _).mono ?_; rintro en w1 ⟨rfl, rfl⟩))
        | (go_at_call 57; go_loud (refine (HCK.out _).mono ?_; rintro en w1 ⟨rfl, hB1⟩; have hK1 := HK.out.below hB1 (Blk.lt HK.out); have k10 : w1.cell? ⟨wr.heap.size, 0, none⟩ = some (.string k.1) := hK1.cell 0; have k11 : w1.cell? ⟨wr.heap.size, 1, none⟩ = some (.string k.2) := hK1.cell 1; have HB1 := Lib.hid hB1; have HK1 := Lib.hid hK1; clear hB1 hK1))
        | (go_at_call 101; go_loud (refine (HCF.out _).mono ?_; rintro en w2 ⟨rfl, hB2⟩; have hK2 := HK1.out.below hB2 (Blk.lt HK1.out); have k20 : w2.cell? ⟨wr.heap.size, 0, none⟩ = some (.string k.1) := hK2.cell 0; have k21 : w2.cell? ⟨wr.heap.size, 1, none⟩ = some (.string k.2) := hK2.cell 1; have HB2 := Lib.hid (HB1.out.trans (hB2.mono HB1.out.size)); clear hB2 hK2)))
        go_ret2
        exact ⟨by rw [HM.out]; rfl, HA1.out⟩
      · cases hl : Op.bytesLess ah.toList k.1.toList
        · have HM := Lib.hid (show mayM (nm, ks) = (false, false) by unfold mayM; rw [HE.out]; simp [keyOk, hl])
          rw [hnk] at HNM
          rw [hl] at hbl
          have hbl2 : (Op.bytesLess k.1.toList ah.toList || k.1.toList == ah.toList) = true := hbl
          clear hnk hl hbl
          cases hx : Op.bytesLess k.1.toList ah.toList
          · rw [hx] at hbl2
            have hy : (k.1.toList == ah.toList) = true := by simpa using hbl2
            clear hbl2
            go_wp2_with (first
        | (go_at_call 100; go_loud (refine (HNM.out _).mono ?_; rintro en w1 ⟨rfl, rfl⟩))
        | (go_at_call 57; go_loud (refine (HCK.out _).mono ?_; rintro en w1 ⟨rfl, hB1⟩; have hK1 := HK.out.below hB1 (Blk.lt HK.out); have k10 : w1.cell? ⟨wr.heap.size, 0, none⟩ = some (.string k.1) := hK1.cell 0; have k11 : w1.cell? ⟨wr.heap.size, 1, none⟩ = some (.string k.2) := hK1.cell 1; have HB1 := Lib.hid hB1; have HK1 := Lib.hid hK1; clear hB1 hK1))
        | (go_at_call 101; go_loud (refine (HCF.out _).mono ?_; rintro en w2 ⟨rfl, hB2⟩; have hK2 := HK1.out.below hB2 (Blk.lt HK1.out); have k20 : w2.cell? ⟨wr.heap.size, 0, none⟩ = some (.string k.1) := hK2.cell 0; have k21 : w2.cell? ⟨wr.heap.size, 1, none⟩ = some (.string k.2) := hK2.cell 1; have HB2 := Lib.hid (HB1.out.trans (hB2.mono HB1.out.size)); clear hB2 hK2)))
            go_ret2
            exact ⟨by rw [HM.out]; rfl, HA1.out⟩
          · clear hbl2
            go_wp2_with (first
        | (go_at_call 100; go_loud (refine (HNM.out _).mono ?_; rintro en w1 ⟨rfl, rfl⟩))
        | (go_at_call 57; go_loud (refine (HCK.out _).mono ?_; rintro en w1 ⟨rfl, hB1⟩; have hK1 := HK.out.below hB1 (Blk.lt HK.out); have k10 : w1.cell? ⟨wr.heap.size, 0, none⟩ = some (.string k.1) := hK1.cell 0; have k11 : w1.cell? ⟨wr.heap.size, 1, none⟩ = some (.string k.2) := hK1.cell 1; have HB1 := Lib.hid hB1; have HK1 := Lib.hid hK1; clear hB1 hK1))
        | (go_at_call 101; go_loud (refine (HCF.out _).mono ?_; rintro en w2 ⟨rfl, hB2⟩; have hK2 := HK1.out.below hB2 (Blk.lt HK1.out); have k20 : w2.cell? ⟨wr.heap.size, 0, none⟩ = some (.string k.1) := hK2.cell 0; have k21 : w2.cell? ⟨wr.heap.size, 1, none⟩ = some (.string k.2) := hK2.cell 1; have HB2 := Lib.hid (HB1.out.trans (hB2.mono HB1.out.size)); clear hB2 hK2)))
            go_ret2
            exact ⟨by rw [HM.out]; rfl, HA1.out⟩
        · rw [hnk] at HNM
          rw [hl] at hbl
          have hx : Op.bytesLess k.1.toList ah.toList = false := by
            cases h : Op.bytesLess k.1.toList ah.toList
            · rfl
            · rw [h] at hbl; simp at hbl
          have hy : (k.1.toList == ah.toList) = false := by
            cases h : (k.1.toList == ah.toList)
            · rfl
            · rw [h] at hbl; simp at hbl
          clear hbl
          cases hbr : broken k.2 with
          | some b1 =>
            have HM := Lib.hid (show mayM (nm, ks) = (false, false) by unfold mayM; rw [HE.out]; simp [keyOk, hbr])
            rw [show checkV k.2 = .agg #[.int .i64 6, .int .i64 b1] by unfold checkV; rw [hbr]; rfl] at HCK
            have hfd := fun W => spot_field0 6 (b1 : Int) W
            clear hbr hnk hl
            go_wp2_with (first
        | (go_at_call 100; go_loud (refine (HNM.out _).mono ?_; rintro en w1 ⟨rfl, rfl⟩))
        | (go_at_call 57; go_loud (refine (HCK.out _).mono ?_; rintro en w1 ⟨rfl, hB1⟩; have hK1 := HK.out.below hB1 (Blk.lt HK.out); have k10 : w1.cell? ⟨wr.heap.size, 0, none⟩ = some (.string k.1) := hK1.cell 0; have k11 : w1.cell? ⟨wr.heap.size, 1, none⟩ = some (.string k.2) := hK1.cell 1; have HB1 := Lib.hid hB1; have HK1 := Lib.hid hK1; clear hB1 hK1))
        | (go_at_call 101; go_loud (refine (HCF.out _).mono ?_; rintro en w2 ⟨rfl, hB2⟩; have hK2 := HK1.out.below hB2 (Blk.lt HK1.out); have k20 : w2.cell? ⟨wr.heap.size, 0, none⟩ = some (.string k.1) := hK2.cell 0; have k21 : w2.cell? ⟨wr.heap.size, 1, none⟩ = some (.string k.2) := hK2.cell 1; have HB2 := Lib.hid (HB1.out.trans (hB2.mono HB1.out.size)); clear hB2 hK2)))
            go_ret2
            exact ⟨by rw [HM.out]; rfl, HA1.out.trans (HB1.out.mono HA2.out)⟩
          | none =>
            rw [show checkV k.2 = .agg #[.int .i64 0, .int .i64 0] by unfold checkV; rw [hbr]; rfl] at HCK
            have hfd := fun W => spot_field0 0 0 W
            cases hct : ctrlAt k.2 0
            · have HM := Lib.hid (show keysOk ByteArray.empty ks = keysOk k.1 (ks.drop (p + 1)) by rw [HE.out]; simp [keyOk, hnk, hl, hbr, hct])
              rw [hct] at HCF
              clear hbr hnk hl hct
              have hd1 : (decide ((64 : Int) < (k.1.size : Int))) = decide (k.1.size > 64) := by rw [decide_eq_decide]; omega
              have hd2 : (decide ((64 : Int) < (k.2.size : Int))) = decide (k.2.size > 64) := by rw [decide_eq_decide]; omega
              have HD12 := Lib.hid (And.intro hd1 hd2)
              have HBW := HB.out.size
              have FIN := Lib.hid (fun (W : World) (h : Below (wr.alloc (.cells #[.string k.1, .string k.2] 33)).heap.size (wr.alloc (.cells #[.string k.1, .string k.2] 33)) W) (x : Bool) (hx : x = (lg || (decide (k.1.size > 64) || decide (k.2.size > 64)))) => show MayAt (nm, ks) wA (.bool x) (.string k.1) (.int .i64 ((p : Int) + 1)) W from
                ⟨p + 1, x, k.1, rfl, rfl, by simp, by simp only; omega, (HB.out.alloc HBW _).trans (h.mono (by simp; omega)), HM.out, by rw [hx, HLT.out, HL.out, Bool.or_assoc]⟩)
              clear HBW
              cases lg
              · by_cases h1 : k.1.size > 64
                · have h1' : (64 : Int) < (k.1.size : Int) := by omega
                  have HD := Lib.hid h1
                  clear h1 hd1 hd2
                  go_wp2_with (first
                          | (go_at_call 100; go_loud (refine (HNM.out _).mono ?_; rintro en w1 ⟨rfl, rfl⟩))
                          | (go_at_call 57; go_loud (refine (HCK.out _).mono ?_; rintro en w1 ⟨rfl, hB1⟩; have hK1 := HK.out.below hB1 (Blk.lt HK.out); have k10 : w1.cell? ⟨wr.heap.size, 0, none⟩ = some (.string k.1) := hK1.cell 0; have k11 : w1.cell? ⟨wr.heap.size, 1, none⟩ = some (.string k.2) := hK1.cell 1; have HB1 := Lib.hid hB1; have HK1 := Lib.hid hK1; clear hB1 hK1))
                          | (go_at_call 101; go_loud (refine (HCF.out _).mono ?_; rintro en w2 ⟨rfl, hB2⟩; have hK2 := HK1.out.below hB2 (Blk.lt HK1.out); have k20 : w2.cell? ⟨wr.heap.size, 0, none⟩ = some (.string k.1) := hK2.cell 0; have k21 : w2.cell? ⟨wr.heap.size, 1, none⟩ = some (.string k.2) := hK2.cell 1; have HB2 := Lib.hid (HB1.out.trans (hB2.mono HB1.out.size)); clear hB2 hK2)))
                  go_roundw
                  case rel => exact FIN.out _ HB2.out true (by simp [HD.out])
                  case measure => simp [Lib.intOf]; omega
                · by_cases h2 : k.2.size > 64
                  · have h1' : ¬ (64 : Int) < (k.1.size : Int) := by omega
                    have h2' : (64 : Int) < (k.2.size : Int) := by omega
                    have HD := Lib.hid h2
                    clear h1 h2 hd1 hd2
                    go_wp2_with (first
                            | (go_at_call 100; go_loud (refine (HNM.out _).mono ?_; rintro en w1 ⟨rfl, rfl⟩))
                            | (go_at_call 57; go_loud (refine (HCK.out _).mono ?_; rintro en w1 ⟨rfl, hB1⟩; have hK1 := HK.out.below hB1 (Blk.lt HK.out); have k10 : w1.cell? ⟨wr.heap.size, 0, none⟩ = some (.string k.1) := hK1.cell 0; have k11 : w1.cell? ⟨wr.heap.size, 1, none⟩ = some (.string k.2) := hK1.cell 1; have HB1 := Lib.hid hB1; have HK1 := Lib.hid hK1; clear hB1 hK1))
                            | (go_at_call 101; go_loud (refine (HCF.out _).mono ?_; rintro en w2 ⟨rfl, hB2⟩; have hK2 := HK1.out.below hB2 (Blk.lt HK1.out); have k20 : w2.cell? ⟨wr.heap.size, 0, none⟩ = some (.string k.1) := hK2.cell 0; have k21 : w2.cell? ⟨wr.heap.size, 1, none⟩ = some (.string k.2) := hK2.cell 1; have HB2 := Lib.hid (HB1.out.trans (hB2.mono HB1.out.size)); clear hB2 hK2)))
                    go_roundw
                    case rel => exact FIN.out _ HB2.out true (by simp [HD.out])
                    case measure => simp [Lib.intOf]; omega
                  · have h1' : ¬ (64 : Int) < (k.1.size : Int) := by omega
                    have h2' : ¬ (64 : Int) < (k.2.size : Int) := by omega
                    have HD := Lib.hid (And.intro h1 h2)
                    clear h1 h2 hd1 hd2
                    go_wp2_with (first
                            | (go_at_call 100; go_loud (refine (HNM.out _).mono ?_; rintro en w1 ⟨rfl, rfl⟩))
                            | (go_at_call 57; go_loud (refine (HCK.out _).mono ?_; rintro en w1 ⟨rfl, hB1⟩; have hK1 := HK.out.below hB1 (Blk.lt HK.out); have k10 : w1.cell? ⟨wr.heap.size, 0, none⟩ = some (.string k.1) := hK1.cell 0; have k11 : w1.cell? ⟨wr.heap.size, 1, none⟩ = some (.string k.2) := hK1.cell 1; have HB1 := Lib.hid hB1; have HK1 := Lib.hid hK1; clear hB1 hK1))
                            | (go_at_call 101; go_loud (refine (HCF.out _).mono ?_; rintro en w2 ⟨rfl, hB2⟩; have hK2 := HK1.out.below hB2 (Blk.lt HK1.out); have k20 : w2.cell? ⟨wr.heap.size, 0, none⟩ = some (.string k.1) := hK2.cell 0; have k21 : w2.cell? ⟨wr.heap.size, 1, none⟩ = some (.string k.2) := hK2.cell 1; have HB2 := Lib.hid (HB1.out.trans (hB2.mono HB1.out.size)); clear hB2 hK2)))
                    go_roundw
                    case rel => exact FIN.out _ HB2.out (decide ((64 : Int) < (k.1.size : Int)) || decide ((64 : Int) < (k.2.size : Int))) (by rw [HD12.out.1, HD12.out.2]; rfl)
                    case measure => simp [Lib.intOf]; omega
              · clear hd1 hd2
                go_wp2_with (first
                        | (go_at_call 100; go_loud (refine (HNM.out _).mono ?_; rintro en w1 ⟨rfl, rfl⟩))
                        | (go_at_call 57; go_loud (refine (HCK.out _).mono ?_; rintro en w1 ⟨rfl, hB1⟩; have hK1 := HK.out.below hB1 (Blk.lt HK.out); have k10 : w1.cell? ⟨wr.heap.size, 0, none⟩ = some (.string k.1) := hK1.cell 0; have k11 : w1.cell? ⟨wr.heap.size, 1, none⟩ = some (.string k.2) := hK1.cell 1; have HB1 := Lib.hid hB1; have HK1 := Lib.hid hK1; clear hB1 hK1))
                        | (go_at_call 101; go_loud (refine (HCF.out _).mono ?_; rintro en w2 ⟨rfl, hB2⟩; have hK2 := HK1.out.below hB2 (Blk.lt HK1.out); have k20 : w2.cell? ⟨wr.heap.size, 0, none⟩ = some (.string k.1) := hK2.cell 0; have k21 : w2.cell? ⟨wr.heap.size, 1, none⟩ = some (.string k.2) := hK2.cell 1; have HB2 := Lib.hid (HB1.out.trans (hB2.mono HB1.out.size)); clear hB2 hK2)))
                go_roundw
                case rel => exact FIN.out _ HB2.out true (by simp)
                case measure => simp [Lib.intOf]; omega
            · have HM := Lib.hid (show mayM (nm, ks) = (false, false) by unfold mayM; rw [HE.out]; simp [keyOk, hct])
              rw [hct] at HCF
              clear hbr hnk hl hct
              go_wp2_with (first
        | (go_at_call 100; go_loud (refine (HNM.out _).mono ?_; rintro en w1 ⟨rfl, rfl⟩))
        | (go_at_call 57; go_loud (refine (HCK.out _).mono ?_; rintro en w1 ⟨rfl, hB1⟩; have hK1 := HK.out.below hB1 (Blk.lt HK.out); have k10 : w1.cell? ⟨wr.heap.size, 0, none⟩ = some (.string k.1) := hK1.cell 0; have k11 : w1.cell? ⟨wr.heap.size, 1, none⟩ = some (.string k.2) := hK1.cell 1; have HB1 := Lib.hid hB1; have HK1 := Lib.hid hK1; clear hB1 hK1))
        | (go_at_call 101; go_loud (refine (HCF.out _).mono ?_; rintro en w2 ⟨rfl, hB2⟩; have hK2 := HK1.out.below hB2 (Blk.lt HK1.out); have k20 : w2.cell? ⟨wr.heap.size, 0, none⟩ = some (.string k.1) := hK2.cell 0; have k21 : w2.cell? ⟨wr.heap.size, 1, none⟩ = some (.string k.2) := hK2.cell 1; have HB2 := Lib.hid (HB1.out.trans (hB2.mono HB1.out.size)); clear hB2 hK2)))
              go_ret2
              exact ⟨by rw [HM.out]; rfl, HA1.out.trans (HB2.out.mono HA2.out)⟩
    · have hp' : p ≤ ks.length := hp
      obtain rfl : p = n := by omega
      clear hp'
      have hq1 : ¬ (p : Int) < (p : Int) := by omega
      have HNM := Lib.hid (fun W => name_ok nm W hn)
      have HM := Lib.hid (show mayM (nm, ks) = (nameOk nm, !lg) by
        unfold mayM
        rw [hE]
        simp only
        rw [List.drop_of_length_le (by omega)]
        rw [if_pos (by rfl), hL]
        simp only
        rw [List.take_of_length_le (by omega)])
      have hbw : Blk wr w.heap.size 70 #[.string nm, .slice A p c] := hb0.below hB (Blk.lt hb0)
      have c0 : wr.cell? ⟨w.heap.size, 0, none⟩ = some (.string nm) := hbw.cell 0
      have HB := Lib.hid hB
      clear hB hE hL hbw hRd
      generalize nameOk nm = b at *
      go_wp2_with (go_at_call 100; refine (HNM.out _).mono ?_; rintro en w1 ⟨rfl, rfl⟩)
      go_ret2
      exact ⟨by rw [HM.out]; rfl, HBA.out.trans (HB.out.mono HBA.out.size)⟩
end Go.Proofs.YtkfofdmcggoonaaGreatDoor
