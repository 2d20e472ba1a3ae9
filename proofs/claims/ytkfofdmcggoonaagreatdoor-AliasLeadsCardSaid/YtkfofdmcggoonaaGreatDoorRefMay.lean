/-
  The walks of the document's Name, Right and May. Condition: the step is small.
-/
import Derived.Test.YtkfofdmcggoonaaGreatDoorPathPut
import Derived.Test.YtkfofdmcggoonaaGreatDoorRefName
import Derived.BigQuiet
namespace Go.Proofs.YtkfofdmcggoonaaGreatDoor
set_option linter.unusedVariables false
set_option linter.unusedSimpArgs false
open Go.RowKit

theorem nameOkPos {s : ByteArray} (h : nameOk s = true) : 0 < s.size := by
  unfold nameOk at h
  split at h
  · assumption
  · cases h
theorem blE {s : ByteArray} (h : 0 < s.size) : Op.bytesLess ByteArray.empty.toList s.toList = true := by
  rw [Lib.toList_data, Lib.toList_data]
  cases hd : s.data.toList with
  | nil => exact absurd (by rw [← ba_len, hd]; rfl) (Nat.ne_of_gt h)
  | cons _ _ => rfl
theorem startB_no {b : UInt8} (h : nameB b = false) : startB b = false := by
  unfold nameB at h
  simp only [Bool.or_eq_false_iff] at h
  exact h.1.1.1
set_option maxHeartbeats 2000000 in
theorem rname2_any (s : ByteArray) (w : World) (hs : s.size ≤ 140737488355328) :
    Calls Tryz.prog 82 #[.string s] w fun en w' => en = .returned (.bool (nameOk s)) ∧ w = w' := by
  go_enter Tryz.func82, Tryz.ntmps82
  go_wp2
  go_loop [3] (fun iv => ∃ p : Nat, iv = .int .i64 (p : Int) ∧ p ≤ s.size ∧ nameEnd s 0 = nameEnd s p ∧ (0 < p → ∃ h : 0 < s.size, startB s[0] = true)) (fun iv => s.size - (Lib.intOf iv).toNat)
  case atStart => exact ⟨0, rfl, Nat.zero_le _, rfl, fun h => absurd h (by omega)⟩
  case round =>
    obtain ⟨p, rfl, hp, hE, hS⟩ := hrel
    by_cases hlt : p < s.size
    · have hq : (p : Int) < (s.size : Int) := by omega
      have HN := Lib.hid (fun W => rbyte_any s[p] W)
      have HST := Lib.hid (fun W => rstart_any s[p] W)
      have HE := Lib.hid (nameEnd_step hlt)
      cases hb : nameB s[p]
      · have hst := startB_no hb
        rw [hb] at HN HE
        rw [hst] at HST
        have HX := Lib.hid (show nameOk s = false by
          unfold nameOk
          rw [dif_pos (by omega), hE, HE.out]
          simp
          intro h
          omega)
        clear HE hE hb hS hst
        by_cases hp0 : p = 0
        · have hp1 : ((p : Int) == 0) = true := by simp [hp0]
          have HP0 := Lib.hid hp0
          clear hp0
          go_wp2_with (go_at_call 96; refine (HST.out _).mono ?_; rintro en w1 ⟨rfl, rfl⟩)
          go_ret
          exact ⟨by rw [HX.out]; rfl, rfl⟩
        · have hp1 : ((p : Int) == 0) = false := by rw [beq_eq_false_iff_ne]; omega
          have HP0 := Lib.hid hp0
          clear hp0
          go_wp2_with (go_at_call 97; refine (HN.out _).mono ?_; rintro en w1 ⟨rfl, rfl⟩)
          go_ret
          exact ⟨by rw [HX.out]; rfl, rfl⟩
      · rw [hb] at HN HE
        by_cases hp0 : p = 0
        · have hp1 : ((p : Int) == 0) = true := by simp [hp0]
          cases hst : startB s[p]
          · rw [hst] at HST
            have HX := Lib.hid (show nameOk s = false by
              unfold nameOk
              subst hp0
              rw [dif_pos hlt, hst]
              simp)
            clear HE hE hb hS hst hp0
            go_wp2_with (go_at_call 96; refine (HST.out _).mono ?_; rintro en w1 ⟨rfl, rfl⟩)
            go_ret
            exact ⟨by rw [HX.out]; rfl, rfl⟩
          · rw [hst] at HST
            have HX := Lib.hid (show nameEnd s 0 = nameEnd s (p + 1) ∧ (0 < p + 1 → ∃ h : 0 < s.size, startB s[0] = true) from ⟨by rw [hE, HE.out]; rfl, fun _ => by subst hp0; exact ⟨hlt, hst⟩⟩)
            clear HE hE hb hS hst hp0
            go_wp2_with (first | (go_at_call 96; refine (HST.out _).mono ?_; rintro en w1 ⟨rfl, rfl⟩) | (go_at_call 97; refine (HN.out _).mono ?_; rintro en w1 ⟨rfl, rfl⟩))
            go_round
            case rel => exact ⟨p + 1, by go_num, hlt, HX.out⟩
            case measure => simp [Lib.intOf]; omega
        · have hp1 : ((p : Int) == 0) = false := by rw [beq_eq_false_iff_ne]; omega
          have HX := Lib.hid (show nameEnd s 0 = nameEnd s (p + 1) ∧ (0 < p + 1 → ∃ h : 0 < s.size, startB s[0] = true) from ⟨by rw [hE, HE.out]; rfl, fun _ => hS (by omega)⟩)
          clear HE hE hb hS hp0
          go_wp2_with (go_at_call 97; refine (HN.out _).mono ?_; rintro en w1 ⟨rfl, rfl⟩)
          go_round
          case rel => exact ⟨p + 1, by go_num, hlt, HX.out⟩
          case measure => simp [Lib.intOf]; omega
    · have hq : ¬ (p : Int) < (s.size : Int) := by omega
      have HX := Lib.hid (show nameOk s = !s.toList.isEmpty by
        unfold nameOk
        have hE2 := nameEnd_end hlt
        rw [Lib.toList_data]
        cases hd : s.data.toList with
        | nil =>
          have h0 : s.size = 0 := by rw [← ba_len, hd]; rfl
          rw [dif_neg (by omega)]
          rfl
        | cons _ _ =>
          have h0 : 0 < s.size := by rw [← ba_len, hd]; simp
          obtain ⟨_, h1⟩ := hS (by omega)
          rw [dif_pos h0, h1, hE, hE2]
          simp
          omega)
      clear hE hS
      go_wp2
      go_ret
      exact ⟨by rw [HX.out]; rfl, rfl⟩
theorem right_any (s : ByteArray) (w : World) (hs : s.size ≤ 140737488355328) :
    Calls Tryz.prog 83 #[.string s] w fun en w' => en = .returned (.bool (broken s).isNone) ∧ w = w' := by
  have HC := Lib.hid (fun W => broken_any s W hs)
  cases hb : broken s with
  | none =>
    rw [show brokenI s = -1 by unfold brokenI; rw [hb]] at HC
    clear hb
    go_enter Tryz.func83, Tryz.ntmps83
    go_wp2_with (go_at_call 45; refine (HC.out _).mono ?_; rintro en w1 ⟨rfl, rfl⟩)
    go_ret
    exact ⟨rfl, rfl⟩
  | some k =>
    rw [show brokenI s = (k : Int) by unfold brokenI; rw [hb]] at HC
    have hk : ¬ (k : Int) < 0 := by omega
    clear hb
    go_enter Tryz.func83, Tryz.ntmps83
    go_wp2_with (go_at_call 45; refine (HC.out _).mono ?_; rintro en w1 ⟨rfl, rfl⟩)
    go_ret
    exact ⟨rfl, rfl⟩
def RMayPost (st : PStep) (w : World) (en : Ending) (w' : World) : Prop := Below w.heap.size w w' ∧
  (((mayM st).1 = false ∧ ∃ b, en = .returned (.tuple #[.bool false, .bool b])) ∨ ((mayM st).1 = true ∧ en = .returned (.tuple #[.bool true, .bool (!(mayM st).2)])))
/-- Where May's loop is. -/
def RMayAt (nm : ByteArray) (ks : List PKey) (wA : World) (p : Nat) (lg : Bool) (ah : ByteArray) (wr : World) : Prop :=
  p ≤ ks.length ∧ Below wA.heap.size wA wr ∧ keysOk ByteArray.empty ks = keysOk ah (ks.drop p) ∧ lg = (decide (nm.size > 64) || longK (ks.take p)) ∧
  ((p = 0 ∧ ah = ByteArray.empty) ∨ ∃ (m : Nat) (kl : PKey), p = m + 1 ∧ ks[m]? = some kl ∧ ah = kl.1)
theorem rmay_bad {nm : ByteArray} {ks : List PKey} (h : keysOk ByteArray.empty ks = false) : (mayM (nm, ks)).1 = false := by unfold mayM; rw [h]; rfl
set_option maxHeartbeats 16000000 in
set_option maxRecDepth 100000 in
theorem rmay_any (st : PStep) (v : Value) (w : World) (hk : KeysAt w w.heap.size v st.2) (hs : StepSmall st) :
    Calls Tryz.prog 55 #[.agg #[.string st.1, v]] w (RMayPost st w) := by
  obtain ⟨A, c, rfl, hkc, hcm, hRd⟩ := hk
  obtain ⟨nm, ks⟩ := st
  simp only at hkc hRd ⊢
  have HS := Lib.hid hs
  have HNM := Lib.hid (fun W => rname2_any nm W (by have := hs.1; simp only at this; omega))
  clear hs
  generalize hlen : ks.length = n at *
  have HLEN := Lib.hid hlen
  have hn1 : (n : Int) ≤ 400000 := by have := HS.out.2.1; simp only at this; omega
  have HBA := Lib.hid (show Below w.heap.size w (w.alloc (.cells #[.string nm, .slice A n c] 70)) from (Below.refl _ _).alloc (Nat.le_refl _) _)
  have HRd := Lib.hid (hRd.below HBA.out)
  have hb0 := Blk.new w 70 #[.string nm, .slice A n c]
  have HB0 := Lib.hid hb0
  clear hlen hRd hb0
  cases hnm : nameOk nm
  · rw [hnm] at HNM
    have HM := Lib.hid (show (mayM (nm, ks)).1 = false by unfold mayM; split <;> simp [hnm])
    clear hnm
    go_enter Tryz.func55, Tryz.ntmps55
    go_wp2_with (go_at_call 82; refine (HNM.out _).mono ?_; rintro en w1 ⟨rfl, rfl⟩)
    go_ret2
    exact ⟨HBA.out, .inl ⟨HM.out, _, rfl⟩⟩
  · rw [hnm] at HNM
    have HNO := Lib.hid hnm
    clear hnm
    have hq0 : (decide ((64 : Int) < (nm.size : Int))) = decide (nm.size > 64) := by rw [decide_eq_decide]; omega
    have HQ0 := Lib.hid hq0
    clear hq0
    go_enter Tryz.func55, Tryz.ntmps55
    go_wp2_with (go_at_call 82; refine (HNM.out _).mono ?_; rintro en w1 ⟨rfl, rfl⟩)
    generalize (decide ((64 : Int) < (nm.size : Int))) = lg0 at *
    generalize w.alloc (.cells #[.string nm, .slice A n c] 70) = wA at *
    go_loopw [4, 5, 6, 8, 21] (fun lv _ _ _ iv wr => ∃ (p : Nat) (lg : Bool) (ah : ByteArray), lv = .bool lg ∧ iv = .int .i64 (p : Int) ∧ RMayAt nm ks wA p lg ah wr) (fun _ _ _ _ iv _ => n - (Lib.intOf iv).toNat)
    case atStart => exact ⟨0, _, _, rfl, rfl, Nat.zero_le _, Below.refl _ _, rfl, by rw [HQ0.out]; simp [longK], .inl ⟨rfl, rfl⟩⟩
    case round =>
      obtain ⟨p, lg, ah, rfl, rfl, hp, hB, hE, hL, hah⟩ := hrel
      have HB := Lib.hid hB
      have HL := Lib.hid hL
      have HE0 := Lib.hid hE
      have hB0w := HB0.out.below hB (Blk.lt HB0.out)
      have x0 : wr.cell? ⟨w.heap.size, 0, none⟩ = some (.string nm) := hB0w.cell 0
      have x1 : wr.cell? ⟨w.heap.size, 1, none⟩ = some (.slice A n c) := hB0w.cell 1
      clear hB hL hE hB0w
      by_cases hlt : p < n
      · obtain ⟨k, hk⟩ : ∃ k, ks[p]? = some k := ⟨ks[p]'(by rw [HLEN.out]; exact hlt), by simp [HLEN.out, hlt]⟩
        have hq1 : (p : Int) < (n : Int) := by omega
        have hsk := HS.out.2.2 k (List.mem_of_getElem? hk)
        obtain ⟨b, o, rfl, hbo, hcells⟩ := (HRd.out.below (HB.out.mono HBA.out.size)).spot (by omega) (by omega)
        have HCE := Lib.hid hcells
        have hat := pairCells_at ks p k hk
        have r0 := hcells _ _ hat.1
        have r1 : wr.cell? ⟨b, o + p * 2 + 1, none⟩ = some (.string k.2) := hcells _ _ hat.2
        have HE := Lib.hid (HE0.out.trans (keysOk_cons ah ks p k hk))
        have HK := Lib.hid hk
        have HNK := Lib.hid (fun W => rname2_any k.1 W (by omega))
        have HRK := Lib.hid (fun W => right_any k.2 W (by omega))
        have HPB := Lib.hid (fun j => (Blk.new wr 33 #[.string k.1, .string k.2]).drewN j)
        have HBB := Lib.hid (fun j => below_drewN (HB.out.alloc HB.out.size (.cells #[.string k.1, .string k.2] 33)) j)
        have HSK := Lib.hid hsk
        clear hcells hat hk hsk
        have HBX := Lib.hid (show ∀ W, Below wA.heap.size wA W → Below w.heap.size w W from fun W h => HBA.out.trans (h.mono HBA.out.size))
        cases hnk : nameOk k.1
        · have HM := Lib.hid (rmay_bad (nm := nm) (show keysOk ByteArray.empty ks = false by rw [HE.out]; simp [keyOk, hnk]))
          rw [hnk] at HNK
          clear hnk hah
          go_wp2
          go_quiet ((go_at_call 82; exact quiet_left (HNK.out _)))
          go_wp2
          go_ret2
          exact ⟨HBX.out _ (HBB.out _), .inl ⟨HM.out, _, rfl⟩⟩
        · have HNO2 := Lib.hid hnk
          rw [hnk] at HNK
          clear hnk
          cases hbr : (broken k.2).isNone
          · have HM := Lib.hid (rmay_bad (nm := nm) (show keysOk ByteArray.empty ks = false by rw [HE.out]; simp [keyOk, hbr]))
            rw [hbr] at HRK
            clear hbr hah
            go_wp2
            go_quiet ((first | (go_at_call 82; exact quiet_left (HNK.out _)) | (go_at_call 83; exact quiet_left (HRK.out _))))
            go_wp2
            go_ret2
            exact ⟨HBX.out _ (HBB.out _), .inl ⟨HM.out, _, rfl⟩⟩
          · have HBR := Lib.hid hbr
            rw [hbr] at HRK
            clear hbr
            have HF0 := Lib.hid (show ∀ (lgx : Bool), lgx = (lg || (decide (k.1.size > 64) || decide (k.2.size > 64))) → ctrlAt k.2 0 = false → Op.bytesLess ah.toList k.1.toList = true → ∀ W, Below wA.heap.size wA W → RMayAt nm ks wA (p + 1) lgx k.1 W from fun lgx hx hc hbl W hW =>
              ⟨by rw [HLEN.out]; omega, hW, by rw [HE.out]; simp [keyOk, HNO2.out, hbl, HBR.out, hc], by rw [hx, HL.out, longK_take ks p k HK.out, Bool.or_assoc], .inr ⟨p, k, rfl, HK.out, rfl⟩⟩)
            have HFB := Lib.hid (show ctrlAt k.2 0 = true → (mayM (nm, ks)).1 = false from fun hc => rmay_bad (by rw [HE.out]; simp [keyOk, hc]))
            have key : (∃ m : Nat, decide (0 < p) = true ∧ IntKind.i64.wrap ((p : Int) - 1) = (m : Int) ∧ (m : Int) < (n : Int) ∧ (mayM (nm, ks)).1 = false ∧ ∃ kl : PKey, wr.cell? ⟨b, o + m * 2, none⟩ = some (.string kl.1) ∧ (Op.bytesLess k.1.toList kl.1.toList || k.1.toList == kl.1.toList) = true) ∨
                (decide (0 < p) = false ∧ Op.bytesLess ah.toList k.1.toList = true) ∨
                (∃ m : Nat, decide (0 < p) = true ∧ IntKind.i64.wrap ((p : Int) - 1) = (m : Int) ∧ (m : Int) < (n : Int) ∧ ∃ kl : PKey, wr.cell? ⟨b, o + m * 2, none⟩ = some (.string kl.1) ∧ (Op.bytesLess k.1.toList kl.1.toList = false ∧ (k.1.toList == kl.1.toList) = false) ∧ Op.bytesLess ah.toList k.1.toList = true) := by
              rcases hah with ⟨h0, h1⟩ | ⟨m, kl, h0, h1, h2⟩
              · exact .inr (.inl ⟨by simp [h0], by rw [h1]; exact blE (nameOkPos HNO2.out)⟩)
              · have e1 : decide (0 < p) = true := by simp; omega
                have e2 : IntKind.i64.wrap ((p : Int) - 1) = (m : Int) := by rw [IntKind.wrap_i64]; omega
                have e3 : (m : Int) < (n : Int) := by omega
                have e4 : wr.cell? ⟨b, o + m * 2, none⟩ = some (.string kl.1) := HCE.out _ _ (pairCells_at ks m kl h1).1
                have hbl := bl_total k.1.toList kl.1.toList
                cases hl : Op.bytesLess kl.1.toList k.1.toList
                · rw [hl] at hbl
                  exact .inl ⟨m, e1, e2, e3, rmay_bad (by rw [HE.out]; simp [keyOk, h2, hl]), kl, e4, hbl⟩
                · rw [hl] at hbl
                  refine .inr (.inr ⟨m, e1, e2, e3, kl, e4, ⟨?_, ?_⟩, by rw [h2]; exact hl⟩)
                  · cases h : Op.bytesLess k.1.toList kl.1.toList
                    · rfl
                    · rw [h] at hbl; simp at hbl
                  · cases h : (k.1.toList == kl.1.toList)
                    · rfl
                    · rw [h] at hbl; simp at hbl
            clear hah
            rcases key with ⟨m, e1, e2, e3, hM, kl, e4, e5⟩ | ⟨e1, hbl⟩ | ⟨m, e1, e2, e3, kl, e4, ⟨e5, e6⟩, hbl⟩
            · have HM := Lib.hid hM
              have x2 : (wr.alloc (.cells #[.string k.1, .string k.2] 33)).cell? ⟨w.heap.size, 1, none⟩ = some (.slice (some ⟨b, o, none⟩) n c) := (World.cell?_alloc_lt wr _ _ (World.block_lt_of_cell? _ _ x1)).trans x1
              have e7 : (wr.alloc (.cells #[.string k.1, .string k.2] 33)).cell? ⟨b, o + m * 2, none⟩ = some (.string kl.1) := (World.cell?_alloc_lt wr _ _ (World.block_lt_of_cell? _ _ e4)).trans e4
              clear hM
              go_wp2
              go_quiet ((first | (go_at_call 82; exact quiet_left (HNK.out _)) | (go_at_call 83; exact quiet_left (HRK.out _))))
              go_wp2
              go_ret2
              exact ⟨HBX.out _ (HBB.out _), .inl ⟨HM.out, _, rfl⟩⟩
            rotate_left
            have e7 : (wr.alloc (.cells #[.string k.1, .string k.2] 33)).cell? ⟨b, o + m * 2, none⟩ = some (.string kl.1) := (World.cell?_alloc_lt wr _ _ (World.block_lt_of_cell? _ _ e4)).trans e4
            all_goals
              have HBL := Lib.hid hbl
              have x2 : (wr.alloc (.cells #[.string k.1, .string k.2] 33)).cell? ⟨w.heap.size, 1, none⟩ = some (.slice (some ⟨b, o, none⟩) n c) := (World.cell?_alloc_lt wr _ _ (World.block_lt_of_cell? _ _ x1)).trans x1
              clear hbl
              go_upto_block 13 with (fail)
              go_quiet ((first | (go_at_call 82; exact quiet_left (HNK.out _)) | (go_at_call 83; exact quiet_left (HRK.out _))))
              obtain ⟨W1, hWW⟩ : ∃ W1, (wr.alloc (Obj.cells #[Value.string k.1, Value.string k.2] 33)).drewN nq = W1 := ⟨_, rfl⟩
              have HP1 := Lib.hid (show Blk W1 wr.heap.size 33 #[.string k.1, .string k.2] from by rw [← hWW]; exact HPB.out _)
              have HB1 := Lib.hid (show Below wA.heap.size wA W1 from by rw [← hWW]; exact HBB.out _)
              rw [hWW]
              clear hWW e1 r0 r1 x0 x1 x2 HCE HPB HBB
              have HKS := Lib.hid (show k.1.size ≤ 2000000 ∧ k.2.size ≤ 2000000 from HSK.out)
              generalize wr.heap.size = kb at *
              have y0 : W1.cell? ⟨kb, 0, none⟩ = some (.string k.1) := HP1.out.cell 0
              have y1 : W1.cell? ⟨kb, 1, none⟩ = some (.string k.2) := HP1.out.cell 1
              go_wp2
              go_loopw [8] (fun _ wr2 => ∃ q : Nat, W1.iter k.2 q = wr2 ∧ q ≤ k.2.size ∧ ctrlAt k.2 0 = ctrlAt k.2 q) (fun _ wr2 => k.2.size - wr2.iterPos W1.heap.size)
              case atStart => exact ⟨0, rfl, Nat.zero_le _, rfl⟩
              case round =>
                obtain ⟨q, rfl, hq0, hE⟩ := hrel
                have HIT := Lib.hid (fun q' => show Below wA.heap.size wA (W1.iter k.2 q') from HB1.out.trans (((Below.refl _ _).alloc (Nat.le_refl _) _).mono HB1.out.size))
                by_cases hq : q < k.2.size
                · have hnx := fun ty => run_next_any (P := Tryz.prog) W1 k.2 q ty hq
                  have hn1 := decode_pos k.2 q
                  have hn2 := decode_in hq
                  have HN := Lib.hid (ctrl_step hq)
                  have hr := decode_le k.2 q
                  generalize Utf8.decode k.2 q = d at *
                  obtain ⟨r, m9⟩ := d
                  simp only at hnx hn1 hn2 hr HN
                  have HME := Lib.hid (show k.2.size - ((W1.iter k.2 (q + m9)).iterPos W1.heap.size) < k.2.size - ((W1.iter k.2 q).iterPos W1.heap.size) by
                    rw [World.iterPos_iter, World.iterPos_iter]
                    omega)
                  have HC := Lib.hid (fun W => rcontrol_any (r : Int) W)
                  cases hc : controlR (r : Int)
                  · rw [hc] at HC HN
                    have HX := Lib.hid (show ctrlAt k.2 0 = ctrlAt k.2 (q + m9) by rw [hE, HN.out]; rfl)
                    clear hE hc HN
                    go_wp2_with (go_at_call 84; refine (HC.out _).mono ?_; rintro en w3 ⟨rfl, rfl⟩)
                    go_roundw
                    case rel => exact ⟨q + m9, rfl, hn2, HX.out⟩
                    case measure => exact HME.out
                  · rw [hc] at HC HN
                    have HX := Lib.hid (show ctrlAt k.2 0 = true by rw [hE, HN.out]; rfl)
                    clear hE hc HN
                    go_wp2_with (go_at_call 84; refine (HC.out _).mono ?_; rintro en w3 ⟨rfl, rfl⟩)
                    go_ret2
                    exact ⟨HBX.out _ (HIT.out _), .inl ⟨HFB.out HX.out, _, rfl⟩⟩
                · obtain rfl : q = k.2.size := by omega
                  have hnx := fun ty => run_next_end (P := Tryz.prog) W1 k.2 k.2.size ty (by omega)
                  have HX := Lib.hid (show ctrlAt k.2 0 = false by rw [hE]; exact ctrl_end (by omega))
                  have z0 : (W1.iter k.2 k.2.size).cell? ⟨kb, 0, none⟩ = some (.string k.1) := (HP1.out.alloc _).cell 0
                  have z1 : (W1.iter k.2 k.2.size).cell? ⟨kb, 1, none⟩ = some (.string k.2) := (HP1.out.alloc _).cell 1
                  clear hE
                  cases lg
                  · by_cases h1 : k.1.size > 64
                    · have h1' : (64 : Int) < (k.1.size : Int) := by omega
                      have HR := Lib.hid (HF0.out true (by simp [h1]) HX.out HBL.out _ (HIT.out k.2.size))
                      clear h1
                      go_wp2
                      go_roundw
                      case rel => exact ⟨p + 1, _, _, rfl, by go_num, HR.out⟩
                      case measure => simp [Lib.intOf]; omega
                    · have h1' : ¬ (64 : Int) < (k.1.size : Int) := by omega
                      by_cases h2 : k.2.size > 64
                      · have h2' : (64 : Int) < (k.2.size : Int) := by omega
                        have HR := Lib.hid (HF0.out true (by simp [h2]) HX.out HBL.out _ (HIT.out k.2.size))
                        clear h1 h2
                        go_wp2
                        go_roundw
                        case rel => exact ⟨p + 1, _, _, rfl, by go_num, HR.out⟩
                        case measure => simp [Lib.intOf]; omega
                      · have h2' : ¬ (64 : Int) < (k.2.size : Int) := by omega
                        have HR := Lib.hid (HF0.out false (by simp [h1, h2]) HX.out HBL.out _ (HIT.out k.2.size))
                        have hd1 : decide ((64 : Int) < (k.1.size : Int)) = false := by simp; omega
                        have hd2 : decide ((64 : Int) < (k.2.size : Int)) = false := by simp; omega
                        clear h1 h2
                        go_wp2
                        go_roundw
                        case rel => exact ⟨p + 1, _, _, rfl, by go_num, HR.out⟩
                        case measure => simp [Lib.intOf]; omega
                  · have HR := Lib.hid (HF0.out true (by simp) HX.out HBL.out _ (HIT.out k.2.size))
                    go_wp2
                    go_roundw
                    case rel => exact ⟨p + 1, _, _, rfl, by go_num, HR.out⟩
                    case measure => simp [Lib.intOf]; omega
      · have hq1 : ¬ (p : Int) < (n : Int) := by omega
        have HM := Lib.hid (show mayM (nm, ks) = (true, !lg) by
          unfold mayM
          rw [HE0.out]
          rw [List.drop_of_length_le (by rw [HLEN.out]; omega)]
          rw [if_pos (by rfl), HL.out, HNO.out]
          simp only
          rw [List.take_of_length_le (by rw [HLEN.out]; omega)])
        clear hah
        go_wp2
        go_ret2
        refine ⟨HBA.out.trans (HB.out.mono HBA.out.size), .inr ⟨by rw [HM.out], ?_⟩⟩
        rw [HM.out]
        simp
end Go.Proofs.YtkfofdmcggoonaaGreatDoor
