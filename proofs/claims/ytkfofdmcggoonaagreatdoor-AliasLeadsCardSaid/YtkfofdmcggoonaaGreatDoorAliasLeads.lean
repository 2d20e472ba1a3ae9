/-
  The law AliasLeads answers true for every list of pairs and every text. Condition: unicode/utf8's tables lie as their initialisers lay them.
-/
import Derived.Test.YtkfofdmcggoonaaGreatDoorRows
import Derived.Test.YtkfofdmcggoonaaGreatDoorCards
import Derived.Test.YtkfofdmcggoonaaGreatDoorTie
import Derived.Deep.DeepHandedRow
import Derived.Deep.DeepWitnessRowRef
import Derived.Lib.LaidIn
import Derived.Lib.LaidU8
import Derived.PinnedBridge
import Derived.Test.YtkfofdmcggoonaaGreatDoorAliasTarget
import Derived.Test.YtkfofdmcggoonaaGreatDoorAliasWay
import Derived.Test.YtkfofdmcggoonaaGreatDoorKeysIn
import Derived.Test.YtkfofdmcggoonaaGreatDoorRefFault
import Derived.Test.YtkfofdmcggoonaaGreatDoorRefLead
import Derived.WalkKit
import Derived.Outline
import Derived.ProofKit
import Derived.OpenShut
import Derived.ShutString
import Derived.ChangeOld
import Derived.Below
import Derived.Deep.CondSized
namespace Go.Proofs.YtkfofdmcggoonaaGreatDoor.aliasLeads
open Go.ChangeShapes Go.WideShapes Go.ChangeAt Go.RowKit
open Go.ChangeMaps (open_string shut_string)
set_option linter.unusedVariables false

theorem own : ownKnob Tryz.prog.godebug = none := by kernel_rfl
theorem laidOut : laidOutB Tryz.prog = true := by kernel_rfl

theorem fine_sort {L : List PKey} (hA : AllFine L) (hN : NoRing L) : (∀ x ∈ sortK L, rightB x.1 = true ∧ rightB x.2 = true) ∧ (∀ x ∈ sortK L, ∀ y ∈ sortK L, x.1 = y.1 → x = y) ∧ NoRingE (sortK L) := by
  refine ⟨fun x hx => ?_, fun x hx y hy e => ?_, noRingE_set (fun x => (sortK_mem L x).symm) (noRingE hA hN)⟩
  · have := badA_no (allFine_mem hA ((sortK_mem L x).1 hx))
    exact ⟨this.1, this.2.1⟩
  · obtain ⟨i, hi⟩ := List.mem_iff_getElem?.1 ((sortK_mem L x).1 hx)
    obtain ⟨j, hj⟩ := List.mem_iff_getElem?.1 ((sortK_mem L y).1 hy)
    obtain rfl := allFine_inj hA hi hj e
    rw [hi] at hj
    exact Option.some.inj hj
theorem own_keys_any {w : World} {base : Nat} {v : Value} {ks : List PKey} (h : w.ownsRow base 33 2 v ks.length (pairCells ks)) : KeysAt w w.heap.size v ks := by
  obtain ⟨A', c', rfl, a, b, hr⟩ := own_form h
  exact ⟨A', c', rfl, a, b, hr⟩
theorem strVs_at {l : List ByteArray} {i : Nat} {x : ByteArray} (h : l[i]? = some x) : (strVs l)[i]? = some (.string x) := by simp [strVs, h]
theorem way_first {l : List PKey} {ps : List ByteArray} {xs : List PKey} (h : WayIs l ps xs) : ∀ q ∈ ps, rightB q = true := by
  induction h with
  | one p h =>
    intro q hq
    rw [List.mem_singleton.1 hq]
    exact h
  | more h hl ih =>
    intro q hq
    rcases List.mem_append.1 hq with hq | hq
    · exact ih q hq
    · rw [List.mem_singleton.1 hq]
      obtain ⟨-, t, ht, rfl⟩ := hl
      exact (leadA_in ht).2
/-- What Leads is told of a way. -/
theorem way_form {L : List PKey} {p : ByteArray} {w w' : World} {en : Ending} (h : AWayPost L p w en w') : (rightB p = false ∧ en = .returned (.slice none 0 0)) ∨ (rightB p = true ∧ ∃ (A : Option Addr) (c N : Nat) (ls : List ByteArray) (xs : List PKey), en = .returned (.slice A N c) ∧ N ≤ c ∧ c ≤ maxLen ∧ 1 ≤ N ∧ Hid (ls.length = N ∧ Reads w' w'.heap.size 1 A N (strVs ls) ∧ WayIs L ls xs ∧ ls[0]? = some p ∧ (∀ q, ls[xs.length]? = some q → NoLead L q) ∧ N = xs.length + 1)) := by
  obtain ⟨-, h | ⟨ps, q, xs, v, rfl, hown, hway, h0, hno⟩⟩ := h
  · exact .inl h
  · obtain ⟨A, c, rfl, h1, h2, hr⟩ := own_form hown
    have hl := hway.len
    refine .inr ⟨way_first hway p (List.mem_of_getElem? h0), A, c, ps.length + 1, ps ++ [q], xs, rfl, h1, h2, by omega, Lib.hid ⟨by simp, hr, hway, h0, fun y hy => ?_, by simpa using hl⟩⟩
    simp only [List.length_append, List.length_cons, List.length_nil, Nat.add_right_cancel_iff] at hl
    rw [← hl] at hy
    simp at hy
    exact hy ▸ hno
/-- What Lead answers by the alias of the longest group. -/
def leadV (o : Option PKey) (p : ByteArray) : ByteArray × Bool := match o with
  | none => (ByteArray.empty, false)
  | some x => (putS (leadA x p), putE (leadA x p) == 0)
theorem lead_val {L K : List PKey} {p : ByteArray} {o : Option PKey} {w w' : World} {en : Ending} (hs : ∀ x, x ∈ L ↔ x ∈ K) (hD : ∀ x ∈ K, ∀ y ∈ K, x.1 = y.1 → x = y) (ho : BestIs K p o) (h : ALeadPost L p w en w') : en = .returned (.tuple #[.string (leadV o p).1, .bool (leadV o p).2]) ∧ Below w.heap.size w w' := by
  obtain ⟨hb, ⟨x, hx, rfl⟩ | ⟨hx, rfl⟩⟩ := h
  · obtain rfl := best_one hD ho (best_set hx hs)
    exact ⟨rfl, hb⟩
  · obtain rfl := best_one hD ho (best_set hx hs)
    exact ⟨rfl, hb⟩
theorem lead_mid {L K : List PKey} {q : ByteArray} {w w' : World} {en : Ending} (hs : ∀ x, x ∈ L ↔ x ∈ K) (hD : ∀ x ∈ K, ∀ y ∈ K, x.1 = y.1 → x = y) (h : ALeadPost L q w en w') : Below w.heap.size w w' ∧ (∀ x r, LeadIs K q x r → en = .returned (.tuple #[.string r, .bool true])) ∧ (NoLead K q → ∃ s, en = .returned (.tuple #[.string s, .bool false])) := by
  refine ⟨h.1, fun x r hl => ?_, fun hn => ?_⟩
  · obtain ⟨ho, t, ht, rfl⟩ := hl
    rw [(lead_val hs hD ho h).1]
    simp only [leadV, ht]
    rfl
  · obtain ⟨-, ⟨x, hx, rfl⟩ | ⟨hx, rfl⟩⟩ := h
    · cases hz : (putE (leadA x q) == 0)
      · exact ⟨_, rfl⟩
      · exact absurd (lead_yes (best_set hx hs) hz) (hn _ _)
    · exact ⟨_, rfl⟩
theorem find_best {L : List PKey} {p : ByteArray} {b : Option (Nat × PKey)} (h : RFindAt L p L.length b) : BestIs L p (b.map Prod.snd) := by
  cases b with
  | none =>
    have h2 : BestIs (L.take L.length) p none := h
    rw [List.take_length] at h2
    exact h2
  | some k =>
    have h2 := h.2.2
    rw [List.take_length] at h2
    exact h2
set_option maxHeartbeats 1000000 in
theorem is_any (p : ByteArray) (w : World) (hp : p.size ≤ 140737488355328) :
    Calls Tryz.prog 12 #[.string p] w fun en w' => en = .returned (.bool (rightB p)) ∧ Below w.heap.size w w' := by
  have HP := Lib.hid (rparse_err p w hp)
  have HR := Lib.hid (show ((errOf p).1 == 0) = rightB p from rfl)
  generalize (errOf p).1 = e1 at *
  generalize (errOf p).2 = e2 at *
  go_enter Tryz.func12, Tryz.ntmps12
  go_wp2_with (go_at_call 25; go_loud (refine HP.out.mono ?_; rintro en w2 ⟨⟨va, rfl⟩, hb2⟩; have HB2 := Lib.hid hb2; clear hb2))
  go_ret
  exact ⟨by rw [← HR.out]; rfl, HB2.out.alloc HB2.out.size _⟩
set_option maxRecDepth 100000 in
set_option maxHeartbeats 16000000 in
theorem leads_walk (v : Value) (L : List PKey) (p : ByteArray) (w : World) (h : KeysAt w w.heap.size v L) (hsz : ∀ x ∈ L, x.1.size ≤ 140737488351232 ∧ x.2.size ≤ 140737488351232) (hlen : L.length * 32 ≤ 140737488351232) (hp : p.size ≤ 140737488351232) (hT : Tabs w) (h3 : 3 ≤ w.heap.size) :
    Calls Tryz.prog 4 #[v, .string p] w fun en w' => en = .returned (.bool true) ∧ Below w.heap.size w w' := by
  have HW := Lib.hid (awakes_any w hT h3)
  have HSZ := Lib.hid (fun x hx => ⟨Nat.le_trans (hsz x hx).1 (by decide), Nat.le_trans (hsz x hx).2 (by decide)⟩ : ∀ x ∈ L, x.1.size ≤ 140737488355328 ∧ x.2.size ≤ 140737488355328)
  have HK0 := Lib.hid h
  have hfl := fun (x y : Int) (W : World) => (show (Instr.field 27 (.agg #[.int .i64 x, .int .i64 y]) 0).run Tryz.prog W = .ok (.int .i64 x) W from by kernel_rfl)
  obtain ⟨A, c, rfl, hc, hm, hR⟩ := h
  have HR := Lib.hid hR
  unfold maxLen at hm
  clear hR hsz
  have HRC := Lib.hid (pairs_one L)
  obtain ⟨i0, hi0, hz0, hz1, hz2⟩ := info_parts pair_info
  by_cases hgt : L.length > 20
  · have hg1 : (20 : Int) < (L.length : Int) := by omega
    go_enter Tryz.func4, Tryz.ntmps4
    go_wp2_with (go_at_call 5; refine HW.out.mono ?_; rintro en w1 ⟨rfl, hB1⟩; have HB1 := Lib.hid hB1; clear hB1)
    go_ret
    exact ⟨rfl, HB1.out⟩
  · have hg1 : ¬ (20 : Int) < (L.length : Int) := by omega
    go_enter Tryz.func4, Tryz.ntmps4
    go_upto_region 3 with (go_at_call 5; refine HW.out.mono ?_; rintro en w1 ⟨rfl, hB1⟩; have HB1 := Lib.hid hB1; clear hB1)
    clear HW
    have HKX := Lib.hid (HK0.out.more HB1.out HB1.out.size)
    go_wp2_with fail
    refine (fault_any _ L w1 HKX.out HSZ.out (by omega)).mono ?_
    rintro en w2 ⟨⟨e, a, hFA, rfl⟩, hb2⟩
    have HB2 := Lib.hid (HB1.out.trans (hb2.mono HB1.out.size))
    have HFA := Lib.hid hFA
    clear hFA hb2 HKX
    unfold faultV
    by_cases he : e = 0
    · subst he
      have HAF := Lib.hid (fault_ok HFA.out).1
      have HNR := Lib.hid (fault_ok HFA.out).2.1
      go_upto_region 5 with (fail)
      have HRA := Lib.hid (((HR.out.below HB2.out).more HB2.out.size).alloc (Nat.le_refl _) (.cells #[] 33))
      have HE1 := Lib.hid (show (w2.alloc (.cells #[] 33)).ownsRow w2.heap.size 33 2 (.slice (some ⟨w2.heap.size, 0, none⟩) 0 0) 0 [] from World.ownsRow_made _ _ 0 (Nat.le_refl _) (by simp [maxLen]) rfl)
      have HBA := Lib.hid ((Below.refl _ w2).alloc (Nat.le_refl _) (.cells #[] 33))
      go_upto_region 6 with (first | (go_at_call 6; go_loud (refine (new_any v3 L w3 HK3.out HSZ.out (by omega)).mono ?_; rintro en w4 ⟨hb4, hres⟩; have HB4 := Lib.hid (HB3.out.trans (hb4.mono HB3.out.size)); have HRES := Lib.hid hres; clear hb4 hres; rcases HRES.out with ⟨e4, a4, hF4, hne4, rfl⟩ | ⟨-, av, rfl, hAL⟩)) | (at_builtin; go_loud (refine wpList_append_any _ rfl (.tmp 31) (.tmp 32) _ rfl w2.heap.size 33 i0 _ 2 32 Tryz.underlying22 hi0 hz0 hz1 hz2 rfl (by omega) _ 0 [] rfl HE1.out w2.heap.size A L.length c (pairCells L) rfl HRA.out HRC.out (by simp only [maxLen]; omega) (by omega) (by simp) ?_); intro v3 w3 hown3 hg3 hat3; have HO3 := Lib.hid (show w3.ownsRow w2.heap.size 33 2 v3 L.length (pairCells L) from by simpa using hown3); have HK3 := Lib.hid (own_keys_any HO3.out); have HB3 := Lib.hid (HB2.out.trans ((HBA.out.grown hg3 (by simp) (fun g hg => (HE1.out.lt g hg).1)).mono HB2.out.size)); clear hown3 hg3 hat3))
      · exact absurd (fault_one HFA.out hF4).1 (fun e => hne4 e.symm)
      · have HAL := Lib.hid hAL
        clear hAL HRES HE1 HBA HRA
        have HB5 := Lib.hid (HB4.out.alloc HB4.out.size (.cells #[.int .i64 0, .int .i64 0] 27))
        have HAL5 := Lib.hid (HAL.out.on ((Below.refl _ w4).alloc (Nat.le_refl _) (.cells #[.int .i64 0, .int .i64 0] 27)))
        have k0 : (w4.alloc (.cells #[.int .i64 0, .int .i64 0] 27)).cell? ⟨w4.heap.size, 0, none⟩ = some (.int .i64 0) := (Blk.new w4 27 #[.int .i64 0, .int .i64 0]).cell 0
        generalize w4.alloc (.cells #[.int .i64 0, .int .i64 0] 27) = w5 at *
        have HFN := Lib.hid (fine_sort HAF.out HNR.out)
        have HSE := Lib.hid (fun x => (sortK_mem L x).symm)
        have HKL := Lib.hid (sortK_len L)
        have HG := Lib.hid (fun W (h : ALS W av (sortK L)) => agroup_any av (sortK L) p W h (fun x hx => (HFN.out.1 x hx).1) (by omega) (by have := HKL.out; omega))
        have HLE := Lib.hid (fun W (h : ALS W av (sortK L)) => alead_any av (sortK L) p W h HFN.out.1 (by omega) (by have := HKL.out; omega))
        have HWA := Lib.hid (fun W (h : ALS W av (sortK L)) => away_any av (sortK L) p W h HFN.out.1 HFN.out.2.1 HFN.out.2.2 (by omega) (by have := HKL.out; omega))
        have HIS := Lib.hid (fun W => is_any p W (by omega))
        have HKF := Lib.hid (fun x (hx : x ∈ L) => fine_mem HAF.out hx)
        go_upto_region 9 with (go_at_call 9; go_loud (refine (HG.out _ HAL5.out).mono ?_; rintro en w6 ⟨hb6, o, ho, rfl⟩; have HB6 := Lib.hid (HB5.out.trans (hb6.mono HB5.out.size)); have HAL6 := Lib.hid (HAL5.out.on hb6); have HO := Lib.hid ho; clear hb6 ho))
        clear k0
        go_upto_region 10 with (go_at_call 10; go_loud (refine (HLE.out _ HAL6.out).mono ?_; intro en w7 hl; obtain ⟨rfl, hb7⟩ := lead_val (fun _ => Iff.rfl) HFN.out.2.1 HO.out hl; have HB7 := Lib.hid (HB6.out.trans (hb7.mono HB6.out.size)); have HAL7 := Lib.hid (HAL6.out.on hb7); clear hb7 hl))
        go_upto_region 11 with (go_at_call 11; go_loud (refine (HWA.out _ HAL7.out).mono ?_; intro en w8 hpost; have HB8 := Lib.hid (HB7.out.trans (hpost.1.mono HB7.out.size)); have HWF := Lib.hid (way_form hpost); clear hpost; rcases HWF.out with ⟨hr8, rfl⟩ | ⟨hr8, A8, c8, N, ls, xs, rfl, hc8, hm8, hN1, HALL⟩))
        · obtain rfl : o = none := by
            cases o with
            | none => rfl
            | some x =>
              obtain ⟨l', m', h1, -, -⟩ := inB_ok.1 HO.out.2.1
              have : rightB p = true := rightB_ok.2 ⟨l', h1⟩
              rw [this] at hr8
              cases hr8
          rw [hr8] at HIS
          simp only [leadV, bestK, Option.getD_none, Option.isSome_none]
          clear HWF hr8
          go_wp2_with (go_at_call 12; go_loud (refine (HIS.out _).mono ?_; rintro en w9 ⟨rfl, hb9⟩; have HB9 := Lib.hid (HB8.out.trans (hb9.mono HB8.out.size)); clear hb9))
          go_ret
          exact ⟨rfl, HB9.out⟩
        · rw [hr8] at HIS
          have HWY := Lib.hid HALL.out.2.2.1
          have HN8 := Lib.hid HALL.out.2.2.2.2.1
          have HR8 := Lib.hid HALL.out.2.1
          have H08 := Lib.hid HALL.out.2.2.2.1
          have HWR := Lib.hid (way_first HALL.out.2.2.1)
          have HN := Lib.hid HALL.out.1
          have HNX := Lib.hid HALL.out.2.2.2.2.2
          unfold maxLen at hm8
          clear HWF hr8 HALL
          go_upto_region 13 with (go_at_call 12; go_loud (refine (HIS.out _).mono ?_; rintro en w9 ⟨rfl, hb9⟩; have HB9 := Lib.hid (HB8.out.trans (hb9.mono HB8.out.size)); have HN9 := Lib.hid hb9; clear hb9))
          have HFI := Lib.hid (rfind_any _ L p w9 (HK0.out.more HB9.out HB9.out.size) HKF.out (by omega) (by omega))
          go_upto_region 14 with (go_at_call 13; go_loud (refine HFI.out.mono ?_; rintro en w10 ⟨⟨b, hb, rfl⟩, hb10⟩; have HB10 := Lib.hid (HB9.out.trans (hb10.mono HB9.out.size)); have HN10 := Lib.hid (HN9.out.trans (hb10.mono HN9.out.size)); have HBB := Lib.hid hb; clear hb10 hb))
          have HRL := Lib.hid (fun q (hq : q.size ≤ 140737488355328) W (hW : Below w.heap.size w W) => rlead_any _ L q W (HK0.out.more hW hW.size) HKF.out hq (by omega))
          go_upto_region 15 with (go_at_call 14; go_loud (refine (HRL.out p (by omega) _ HB10.out).mono ?_; intro en w11 hl; obtain ⟨rfl, hb11⟩ := lead_val HSE.out HFN.out.2.1 HO.out hl; have HB11 := Lib.hid (HB10.out.trans (hb11.mono HB10.out.size)); have HN11 := Lib.hid (HN10.out.trans (hb11.mono HN10.out.size)); clear hb11 hl))
          obtain rfl : o = b.map Prod.snd := best_one HFN.out.2.1 HO.out (best_set (find_best HBB.out) HSE.out)
          generalize hLV : leadV (b.map Prod.snd) p = sq at *
          obtain ⟨s, q⟩ := sq
          simp only
          obtain ⟨b8, o8, rfl, hb8, hcl8⟩ := HR8.out.spot (by omega) (by omega)
          have HC8 := Lib.hid (fun (X : World) (hX : Below w8.heap.size w8 X) (j : Nat) (x : ByteArray) (hx : ls[j]? = some x) => show X.cell? ⟨b8, o8 + j, none⟩ = some (.string x) from (hX.cell (p := ⟨b8, o8 + j, none⟩) hb8).trans (hcl8 _ _ (strVs_at hx)))
          have y0 : w11.cell? ⟨b8, o8, none⟩ = some (.string p) := HC8.out w11 HN11.out 0 p H08.out
          have hn0 : ((N : Int) == 0) = false := by rw [beq_eq_false_iff_ne]; omega
          have hn1 : ¬ (N : Int) = 0 := by omega
          have hss : (s.toList == s.toList) = true := by simp
          have hpp : (p.toList == p.toList) = true := by simp
          clear hLV hcl8
          have hqq : (q != q) = false := by simp
          rcases b with _ | ⟨k, xk, xv⟩
          · simp only [findI, Option.map_none, bestK, Option.getD_none, Option.isSome_none]
            go_wp2
            go_loopw [127] (fun iv wr => ∃ i : Nat, iv = .int .i64 (i : Int) ∧ i ≤ N ∧ Below w11.heap.size w11 wr) (fun iv _ => N - (Lib.intOf iv).toNat)
            case atStart => exact ⟨0, rfl, Nat.zero_le _, Below.refl _ _⟩
            case round =>
              obtain ⟨i, rfl, hi, hB12⟩ := hrel
              have HB12 := Lib.hid hB12
              clear hB12 y0
              by_cases hlt : i < N
              · have hi2 : (i : Int) < (N : Int) := by omega
                obtain ⟨x, hx⟩ : ∃ x, ls[i]? = some x := ⟨_, List.getElem?_eq_getElem (by rw [HN.out]; exact hlt)⟩
                have r0 : wr.cell? ⟨b8, o8 + i, none⟩ = some (.string x) := HC8.out wr (HN11.out.trans (HB12.out.mono HN11.out.size)) i x hx
                have HXR := Lib.hid (right_size (HWR.out x (List.mem_of_getElem? hx)))
                have HX := Lib.hid hx
                clear hx
                go_upto_region 20 with (fail)
                clear r0
                by_cases hnx : i + 1 < N
                · obtain ⟨p', q', h1, h2, h3⟩ := HWY.out.at_ i _ (List.getElem?_eq_getElem (by have := HNX.out; omega))
                  rw [HX.out] at h1
                  cases h1
                  have HQ := Lib.hid h2
                  have HLI := Lib.hid h3
                  clear h2 h3
                  have hee : (q'.toList == q'.toList) = true := by simp
                  have hi3 : (i : Int) + 1 < (N : Int) := by omega
                  have hi4 : ((i : Int) + 1).toNat = i + 1 := by omega
                  have hi5 : (0 : Int) ≤ (i : Int) + 1 := by omega
                  go_upto_region 21 with (go_at_call 14; go_loud (refine (HRL.out x (Nat.le_trans HXR.out (by decide)) _ (HB11.out.trans (HB12.out.mono HB11.out.size))).mono ?_; intro en w13 hl; obtain ⟨hb13, hl1, -⟩ := lead_mid HSE.out HFN.out.2.1 hl; obtain rfl := hl1 _ _ HLI.out; have HB13 := Lib.hid (HB12.out.trans (hb13.mono HB12.out.size)); have r1 : w13.cell? ⟨b8, o8 + (i + 1), none⟩ = some (.string q') := HC8.out _ (HN11.out.trans (HB13.out.mono HN11.out.size)) _ _ HQ.out; clear hb13 hl hl1))
                  go_wp2
                  go_roundw
                  case rel => exact ⟨i + 1, by go_num, hlt, HB13.out⟩
                  case measure => simp [Lib.intOf]; omega
                · have HNO := Lib.hid (HN8.out x (by rw [show xs.length = i by have := HNX.out; omega]; exact HX.out))
                  have hi3 : ¬ (i : Int) + 1 < (N : Int) := by omega
                  go_upto_region 21 with (go_at_call 14; go_loud (refine (HRL.out x (Nat.le_trans HXR.out (by decide)) _ (HB11.out.trans (HB12.out.mono HB11.out.size))).mono ?_; intro en w13 hl; obtain ⟨hb13, -, hl1⟩ := lead_mid HSE.out HFN.out.2.1 hl; obtain ⟨s2, rfl⟩ := hl1 HNO.out; have HB13 := Lib.hid (HB12.out.trans (hb13.mono HB12.out.size)); clear hb13 hl hl1))
                  go_wp2
                  go_roundw
                  case rel => exact ⟨i + 1, by go_num, hlt, HB13.out⟩
                  case measure => simp [Lib.intOf]; omega
              · obtain rfl : i = N := by omega
                have hi2 : ¬ (i : Int) < (i : Int) := by omega
                go_wp2
                go_ret
                exact ⟨rfl, HB11.out.trans (HB12.out.mono HB11.out.size)⟩
          · simp only [findI, Option.map_some, bestK, Option.getD_some, Option.isSome_some]
            have hkl : k < L.length := HBB.out.1
            have hk1 : (k : Int) < (L.length : Int) := by omega
            have hk2 : (0 : Int) ≤ (k : Int) := by omega
            have hk3 : decide ((0 : Int) ≤ (k : Int)) = true := by simp
            have hkk : (xk.toList == xk.toList) = true := by simp
            obtain ⟨bL, oL, rfl, hbL, hclL⟩ := HR.out.spot (by omega) (by omega)
            have y1 : w11.cell? ⟨bL, oL + k * 2, none⟩ = some (.string xk) := (HB11.out.cell (p := ⟨bL, oL + k * 2, none⟩) hbL).trans (hclL _ _ (pairCells_at L k _ HBB.out.2.1).1)
            clear hclL
            go_wp2
            go_loopw [127] (fun iv wr => ∃ i : Nat, iv = .int .i64 (i : Int) ∧ i ≤ N ∧ Below w11.heap.size w11 wr) (fun iv _ => N - (Lib.intOf iv).toNat)
            case atStart => exact ⟨0, rfl, Nat.zero_le _, Below.refl _ _⟩
            case round =>
              obtain ⟨i, rfl, hi, hB12⟩ := hrel
              have HB12 := Lib.hid hB12
              clear hB12 y0
              by_cases hlt : i < N
              · have hi2 : (i : Int) < (N : Int) := by omega
                obtain ⟨x, hx⟩ : ∃ x, ls[i]? = some x := ⟨_, List.getElem?_eq_getElem (by rw [HN.out]; exact hlt)⟩
                have r0 : wr.cell? ⟨b8, o8 + i, none⟩ = some (.string x) := HC8.out wr (HN11.out.trans (HB12.out.mono HN11.out.size)) i x hx
                have HXR := Lib.hid (right_size (HWR.out x (List.mem_of_getElem? hx)))
                have HX := Lib.hid hx
                clear hx
                go_upto_region 20 with (fail)
                clear r0
                by_cases hnx : i + 1 < N
                · obtain ⟨p', q', h1, h2, h3⟩ := HWY.out.at_ i _ (List.getElem?_eq_getElem (by have := HNX.out; omega))
                  rw [HX.out] at h1
                  cases h1
                  have HQ := Lib.hid h2
                  have HLI := Lib.hid h3
                  clear h2 h3
                  have hee : (q'.toList == q'.toList) = true := by simp
                  have hi3 : (i : Int) + 1 < (N : Int) := by omega
                  have hi4 : ((i : Int) + 1).toNat = i + 1 := by omega
                  have hi5 : (0 : Int) ≤ (i : Int) + 1 := by omega
                  go_upto_region 21 with (go_at_call 14; go_loud (refine (HRL.out x (Nat.le_trans HXR.out (by decide)) _ (HB11.out.trans (HB12.out.mono HB11.out.size))).mono ?_; intro en w13 hl; obtain ⟨hb13, hl1, -⟩ := lead_mid HSE.out HFN.out.2.1 hl; obtain rfl := hl1 _ _ HLI.out; have HB13 := Lib.hid (HB12.out.trans (hb13.mono HB12.out.size)); have r1 : w13.cell? ⟨b8, o8 + (i + 1), none⟩ = some (.string q') := HC8.out _ (HN11.out.trans (HB13.out.mono HN11.out.size)) _ _ HQ.out; clear hb13 hl hl1))
                  go_wp2
                  go_roundw
                  case rel => exact ⟨i + 1, by go_num, hlt, HB13.out⟩
                  case measure => simp [Lib.intOf]; omega
                · have HNO := Lib.hid (HN8.out x (by rw [show xs.length = i by have := HNX.out; omega]; exact HX.out))
                  have hi3 : ¬ (i : Int) + 1 < (N : Int) := by omega
                  go_upto_region 21 with (go_at_call 14; go_loud (refine (HRL.out x (Nat.le_trans HXR.out (by decide)) _ (HB11.out.trans (HB12.out.mono HB11.out.size))).mono ?_; intro en w13 hl; obtain ⟨hb13, -, hl1⟩ := lead_mid HSE.out HFN.out.2.1 hl; obtain ⟨s2, rfl⟩ := hl1 HNO.out; have HB13 := Lib.hid (HB12.out.trans (hb13.mono HB12.out.size)); clear hb13 hl hl1))
                  go_wp2
                  go_roundw
                  case rel => exact ⟨i + 1, by go_num, hlt, HB13.out⟩
                  case measure => simp [Lib.intOf]; omega
              · obtain rfl : i = N := by omega
                have hi2 : ¬ (i : Int) < (i : Int) := by omega
                go_wp2
                go_ret
                exact ⟨rfl, HB11.out.trans (HB12.out.mono HB11.out.size)⟩
    · have he2 : (e == 0) = false := by simpa using he
      have hg2 : decide ((20 : Int) < (L.length : Int)) = false := by simpa using hg1
      go_upto_region 4 with (fail)
      go_wp2
      go_ret
      exact ⟨rfl, HB2.out⟩
set_option maxRecDepth 100000 in
theorem walk {H : Type} {enc : TypeId × Value → H} (v0 : Value) (d0 : DataW H) (p0 : List MemPlace) (base0 : Nat) (a1 : ByteArray) (w : World) (hv0 : Value.okWide Tryz.prog w .any base0 22 v0) (w0 : DataW.Trod enc Tryz.prog w 0 (fun _ => true) true 22 v0 d0 p0) (hwt0 : ∀ n ∈ d0.weights Tryz.prog 22, n ≤ 140737488351232) (w1 : a1.size ≤ 140737488351232) (hT : Tabs w) (h3 : 3 ≤ w.heap.size) :
    Calls Tryz.prog 4 #[v0, .string a1] w fun e w' => e = .returned (.bool true) ∧ Below w.heap.size w w' := by
  obtain ⟨l0, ht0, hs0, hn0⟩ := keys_of_trod (e := 33) Tryz.underlying22 Tryz.underlying33 (by kernel_rfl) (by kernel_rfl) (by kernel_rfl) Tryz.underlying9 Tryz.underlying9 hwt0 hv0 w0
  exact leads_walk v0 l0 a1 w ht0 hs0 hn0 w1 hT h3

/-- What the row's list gives. -/
theorem laidTabs {W : World} (hL : laidMetH Tryz.prog Rows.aliasLeadsRow.laid W) : Tabs W := by
  have h1 := Lib.laidMet.reads hL (.head _)
  have h2 := Lib.laidMet.reads hL (.tail _ (.head _))
  exact utf8Tabs_of_reads decS ⟨by kernel_rfl, by kernel_rfl, by kernel_rfl, by kernel_rfl, by kernel_rfl, by kernel_rfl, by kernel_rfl⟩ (by rw [← Pinned.utf8First_eq]; exact h2) (by rw [show Lib.acceptData = Rows.laid_unicode_utf8_acceptRanges from by kernel_rfl]; exact h1)

set_option maxRecDepth 100000 in
theorem contract (H : Type) (enc : TypeId × Value → H) (W : World) (base : Nat) (args : Array Value) (ds gs : List (DataW H)) (before : List MemPlace)
    (hval0 : ∀ (j : Nat) t v, Tryz.f4.params[j]? = some t → args[j]? = some v → Value.okWide Tryz.prog W .any base t v)
    (hW : DataW.Whole enc Tryz.prog Tryz.f4.params.toList Rows.aliasLeadsSpec.vars false W args.toList ds gs before)
    (hsz0 : (DataW.weightsEach Tryz.prog (Tryz.f4.params.toList ++ Rows.aliasLeadsSpec.plain.varTypes Tryz.prog) (ds ++ gs)).all (· ≤ reachBytes) = true) (hL : laidMetH Tryz.prog Rows.aliasLeadsRow.laid W) :
    Calls Tryz.prog 4 args W fun e W' => ∃ v, e = .returned v ∧ Rows.aliasLeadsSpec.post enc Tryz.prog Tryz.f4 false true false false W args v W' := by
  have hval : ∀ (j : Nat) t v, Tryz.f4.params[j]? = some t → args[j]? = some v → Value.okWide Tryz.prog W .any base t v := hval0
  have hsz : (DataW.weightsEach Tryz.prog (Tryz.f4.params.toList ++ Rows.aliasLeadsSpec.plain.varTypes Tryz.prog) (ds ++ gs)).all (· ≤ reachBytes) = true := hsz0
  have hW' := hW
  obtain ⟨p, q, hA0, hV, rfl, hfz, hnd⟩ := hW
  have hA : DataW.TrodAll enc Tryz.prog W 0 (fun _ => true) true Tryz.f4.params.toList args.toList ds p := hA0
  rw [Tryz.params4] at hA hval hsz
  obtain ⟨v0, vs0, d0, ds0, p0, q0, hargs, rfl, rfl, h0, r0⟩ := trodAll_cons hA
  obtain ⟨v1, vs1, d1, ds1, p1, q1, rfl, rfl, rfl, h1, r1⟩ := trodAll_cons r0
  obtain ⟨rfl, rfl, rfl⟩ := trodAll_nil r1
  obtain rfl : args = #[v0, v1] := by cases args; simp_all
  obtain ⟨rfl, rfl⟩ := trodVars_none hV
  have k0 := h0
  have lt0 : ∀ x ∈ p0, x.block < W.heap.size := by obtain ⟨m, hm⟩ := k0; exact DataW.trod_lt m _ _ _ hm
  have hwt0 : ∀ n ∈ d0.weights Tryz.prog 22, n ≤ 140737488351232 := fun n hn => by
    have := of_decide_eq_true (List.all_eq_true.1 hsz _ (DataW.weights_mem_each (j := 0) (t := 22) rfl rfl n hn))
    simpa [reachBytes] using this
  obtain ⟨a1, rfl, rfl, rfl, wm1⟩ := open_string Tryz.underlying9 (hval 1 9 v1 rfl rfl) h1
  have w1 : a1.size ≤ 140737488351232 := by
    have := sized_string hsz (j := 1) (t := 9) rfl rfl
    simpa [reachBytes] using this
  clear hA0 hval0
  refine (walk v0 d0 p0 base a1 W (hval 0 22 v0 rfl rfl) h0 hwt0 w1 (laidTabs hL) (tabs3 (laidTabs hL))).mono fun e W' ⟨he, bel⟩ => ?_
  subst he
  exact ⟨_, rfl, _, _, _, [], _, [], hW', trodAll_mk1 (shut_bool Tryz.underlying4 _), (trodAll_cons_mk (Below.trod laidOut (by kernel_rfl) (of_decide_eq_true (by kernel_rfl)) k0 bel lt0) (trodAll_cons_mk (shut_string Tryz.underlying9 wm1) trodAll_mk0)), rfl, bel.frame _, fun h => by cases h⟩

/-- The witness: the settled world, the two tables holding what their initialisers lay. -/
noncomputable def laidWorld (os : Os) : World :=
  let w0 := World.holding Tryz.prog os ⟨#[], #[], []⟩
  let put (h : Array Obj) (g : Nat) (cs : Array Value) : Array Obj := h.modify g fun
    | .cells _ t frozen => .cells cs t frozen
    | o => o
  let h1 := put w0.heap 1 (Lib.firstTab.map fun z => Value.int .u8 z).toArray
  let h2 := put h1 2 ((List.range 16).flatMap fun i => [Value.int .u8 (Lib.accLo i), Value.int .u8 (Lib.accHi i)]).toArray
  { w0 with heap := h2 }
theorem laid_met (os : Os) : laidMet Tryz.prog Rows.aliasLeadsRow.laid ((laidWorld os).forCall (fun _ _ => 0) ⟨#[], #[.slice none 0 0, .string ByteArray.empty], []⟩).memory := by
  have h : laidMet Tryz.prog [("unicode/utf8.acceptRanges", Lib.acceptData), ("unicode/utf8.first", Lib.firstData)] ((laidWorld os).forCall (fun _ _ => 0) ⟨#[], #[.slice none 0 0, .string ByteArray.empty], []⟩).memory :=
    (LaidIn.of_run (l := [("unicode/utf8.acceptRanges", Lib.acceptData), ("unicode/utf8.first", Lib.firstData)]) [2, 1] 8 (by kernel_rfl) (by kernel_rfl) (by kernel_rfl) (by kernel_rfl)).met
  have e : Rows.aliasLeadsRow.laid = [("unicode/utf8.acceptRanges", Lib.acceptData), ("unicode/utf8.first", Lib.firstData)] := by
    rw [← Pinned.utf8First_eq, show Lib.acceptData = Rows.laid_unicode_utf8_acceptRanges from by kernel_rfl]
    rfl
  rw [e]
  exact h
theorem witness_row (os : Os) {H : Type} (enc : TypeId × Value → H) :
    (OpenSpec.ofChange Rows.aliasLeadsSpec).preRow enc Tryz.prog Tryz.f4 Rows.aliasLeadsRow.domain false Rows.aliasLeadsRow.laid ((laidWorld os).forCall (fun _ _ => 0) ⟨#[], #[.slice none 0 0, .string ByteArray.empty], []⟩).memory #[.slice none 0 0, .string ByteArray.empty] := by
  have hw : (DataW.whole enc Tryz.prog ((laidWorld os).forCall (fun _ _ => 0) ⟨#[], #[.slice none 0 0, .string ByteArray.empty], []⟩).memory Tryz.f4.params.toList (OpenSpec.ofChange Rows.aliasLeadsSpec).vars false (#[.slice none 0 0, .string ByteArray.empty] : Array Value).toList 8).map (fun x => (x.1, x.2.1)) =
      some ([.nil, .lit (.string [])], []) := by kernel_rfl
  obtain ⟨⟨x1, x2, x3⟩, hx, hx1⟩ := Option.map_eq_some_iff.1 hw
  simp only [Prod.mk.injEq] at hx1
  obtain ⟨rfl, rfl⟩ := hx1
  exact OpenSpec.preRow_of_cond 8 hx (by kernel_rfl) (fun k hk => by cases hk) (by kernel_rfl) (laid_met os)
set_option maxRecDepth 100000 in
theorem lifted (os : Os) (started : os.Started) (H : Type) (enc : TypeId × Value → H) (F : Stop.Interp) :
    ReturnsInHanded {} Tryz.checked os 4 .any ((OpenSpec.ofChange Rows.aliasLeadsSpec).preRow enc Tryz.prog Tryz.f4 Rows.aliasLeadsRow.domain false Rows.aliasLeadsRow.laid) (((OpenSpec.ofChange Rows.aliasLeadsSpec).at F).post enc Tryz.prog Tryz.f4 false true false false) := by
  refine returnsInHanded_of_row (C := Tryz.checked) (s := OpenSpec.ofChange Rows.aliasLeadsSpec) own started (by kernel_rfl) Tryz.func4
    (witness_row_atRef (enc := enc) (C := Tryz.checked) false (laidWorld os) #[.slice none 0 0, .string ByteArray.empty] rfl (by kernel_rfl) (by kernel_rfl) (by kernel_rfl) (witness_row os enc)) ?_
  intro W base args ds gs before hval hW _ hk hsz hL _ _
  exact contract H enc W base args ds gs before hval hW hsz hL
theorem said : Rows.aliasLeadsRow.holds Tryz.pinned (OpenSpec.ofChange Rows.aliasLeadsSpec) :=
  OpenClaim.holds_of_cond 4 Tryz.f4 rfl rfl rfl rfl rfl rfl rfl ⟨rfl, rfl, rfl, rfl, rfl⟩ rfl rfl rfl rfl rfl (by kernel_rfl) Tryz.func4 (by kernel_rfl)
    (of_decide_eq_true (by kernel_rfl)) (by unfold Func.isWrapper; first | (rw [if_pos (by decide +kernel)]; kernel_rfl) | (rw [if_neg (by decide +kernel)]; exact ⟨rfl, rfl⟩))
    (fun os started H enc _ F => by rw [OpenClaim.pre_eq_preRow]; exact lifted os started H enc F)
/-- No parameter wants a stand-in; the program's own looks are off. -/
theorem plain (f : FuncId) (fn : Func) (hf : Tryz.pinned.checked.prog.funcNamed "vernacular/vernacularlaw13.AliasLeads" = some f) (hfn : Tryz.pinned.checked.prog.funcs[f]? = some fn) :
    false = Tryz.pinned.checked.prog.looks [] ∧ ∀ (j : Nat) t, fn.params[j]? = some t → Tryz.pinned.checked.prog.wantsStandIn t = false := by
  obtain rfl : f = 4 := Option.some.inj ((show Tryz.prog.funcNamed "vernacular/vernacularlaw13.AliasLeads" = some 4 by kernel_rfl).symm.trans hf) |>.symm
  obtain rfl : fn = Tryz.f4 := (Option.some.inj (Tryz.func4.symm.trans hfn)).symm
  refine ⟨by kernel_rfl, fun j t ht => ?_⟩
  rw [Tryz.params4] at ht
  have hm := Array.mem_of_getElem? ht
  have hall : (#[22, 9] : Array TypeId).all (fun t => Tryz.prog.wantsStandIn t == false) = true := by kernel_rfl
  have := Array.all_eq_true_iff_forall_mem.1 hall t hm
  exact eq_of_beq this
theorem over : Rows.AliasLeadsCardSaid :=
  Claim7.holds_tied_plain_at .later [] _ _ _ _ said (fun _ h => by cases h) (by kernel_rfl) (fun _ h => by cases h) aliasLeads_row_tie rfl ⟨rfl, rfl⟩ (by kernel_rfl) rfl plain (by kernel_rfl)

/-- The statement. -/
theorem proved : Rows.AliasLeadsCardSaid := over
#print axioms proved
end Go.Proofs.YtkfofdmcggoonaaGreatDoor.aliasLeads
