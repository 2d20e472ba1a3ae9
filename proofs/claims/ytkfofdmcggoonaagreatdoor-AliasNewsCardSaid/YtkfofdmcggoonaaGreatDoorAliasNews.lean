/-
  The law AliasNews answers true for every list of pairs. Condition: unicode/utf8's tables lie as their initialisers lay them.
-/
import Derived.Test.YtkfofdmcggoonaaGreatDoorRows
import Derived.Test.YtkfofdmcggoonaaGreatDoorCards
import Derived.Test.YtkfofdmcggoonaaGreatDoorTie
import Derived.Deep.DeepHandedRow
import Derived.Deep.DeepWitnessRowRef
import Derived.Lib.LaidIn
import Derived.Lib.LaidU8
import Derived.PinnedBridge
import Derived.Test.YtkfofdmcggoonaaGreatDoorAliasTarget
import Derived.Test.YtkfofdmcggoonaaGreatDoorAliasWay
import Derived.Test.YtkfofdmcggoonaaGreatDoorKeysIn
import Derived.Test.YtkfofdmcggoonaaGreatDoorRefFault
import Derived.WalkKit
import Derived.Outline
import Derived.ProofKit
import Derived.OpenShut
import Derived.ShutString
import Derived.ChangeOld
import Derived.Below
import Derived.Deep.CondSized
namespace Go.Proofs.YtkfofdmcggoonaaGreatDoor.aliasNews
open Go.ChangeShapes Go.WideShapes Go.ChangeAt Go.RowKit
open Go.ChangeMaps (open_string shut_string)
set_option linter.unusedVariables false

theorem own : ownKnob Tryz.prog.godebug = none := by kernel_rfl
theorem laidOut : laidOutB Tryz.prog = true := by kernel_rfl

theorem fine_sort {L : List PKey} (hA : AllFine L) (hN : NoRing L) : (∀ x ∈ sortK L, rightB x.1 = true ∧ rightB x.2 = true) ∧ (∀ x ∈ sortK L, ∀ y ∈ sortK L, x.1 = y.1 → x = y) ∧ NoRingE (sortK L) := by
  refine ⟨fun x hx => ?_, fun x hx y hy e => ?_, noRingE_set (fun x => (sortK_mem L x).symm) (noRingE hA hN)⟩
  · have := badA_no (allFine_mem hA ((sortK_mem L x).1 hx))
    exact ⟨this.1, this.2.1⟩
  · obtain ⟨i, hi⟩ := List.mem_iff_getElem?.1 ((sortK_mem L x).1 hx)
    obtain ⟨j, hj⟩ := List.mem_iff_getElem?.1 ((sortK_mem L y).1 hy)
    obtain rfl := allFine_inj hA hi hj e
    rw [hi] at hj
    exact Option.some.inj hj
theorem sort_full {L : List PKey} (hA : AllFine L) : (sortK L).length = L.length := by
  refine Nat.le_antisymm (sortK_len L) (nodup_len L (sortK L) ?_ (fun x hx => (sortK_mem L x).2 hx))
  rw [List.nodup_iff_pairwise_ne, List.pairwise_iff_getElem]
  intro i j hi hj hij e
  have := allFine_inj hA (List.getElem?_eq_getElem hi) (List.getElem?_eq_getElem hj) (congrArg Prod.fst e)
  omega
theorem distK_of {L : List PKey} (hA : AllFine L) : DistK L := by
  unfold DistK
  rw [List.pairwise_iff_getElem]
  intro i j hi hj hij e
  have := allFine_inj hA (List.getElem?_eq_getElem hi) (List.getElem?_eq_getElem hj) e
  omega
theorem own_keys_any {w : World} {base : Nat} {v : Value} {ks : List PKey} (h : w.ownsRow base 33 2 v ks.length (pairCells ks)) : KeysAt w w.heap.size v ks := by
  obtain ⟨A', c', rfl, a, b, hr⟩ := own_form h
  exact ⟨A', c', rfl, a, b, hr⟩
set_option maxRecDepth 100000 in
set_option maxHeartbeats 16000000 in
theorem news_walk (v : Value) (L : List PKey) (w : World) (h : KeysAt w w.heap.size v L) (hsz : ∀ x ∈ L, x.1.size ≤ 140737488351232 ∧ x.2.size ≤ 140737488351232) (hlen : L.length * 32 ≤ 140737488351232) (hT : Tabs w) (h3 : 3 ≤ w.heap.size) :
    Calls Tryz.prog 3 #[v] w fun en w' => en = .returned (.bool true) ∧ Below w.heap.size w w' := by
  have HW := Lib.hid (awakes_any w hT h3)
  have HSZ := Lib.hid (fun x hx => ⟨Nat.le_trans (hsz x hx).1 (by decide), Nat.le_trans (hsz x hx).2 (by decide)⟩ : ∀ x ∈ L, x.1.size ≤ 140737488355328 ∧ x.2.size ≤ 140737488355328)
  have HK0 := Lib.hid h
  obtain ⟨A, c, rfl, hc, hm, hR⟩ := h
  have HR := Lib.hid hR
  unfold maxLen at hm
  clear hR hsz
  have HRC := Lib.hid (pairs_one L)
  obtain ⟨i0, hi0, hz0, hz1, hz2⟩ := info_parts pair_info
  by_cases hgt : L.length > 20
  · have hg1 : (20 : Int) < (L.length : Int) := by omega
    go_enter Tryz.func3, Tryz.ntmps3
    go_wp2_with (go_at_call 5; refine HW.out.mono ?_; rintro en w1 ⟨rfl, hB1⟩; have HB1 := Lib.hid hB1; clear hB1)
    go_ret
    exact ⟨rfl, HB1.out⟩
  · have hg1 : ¬ (20 : Int) < (L.length : Int) := by omega
    go_enter Tryz.func3, Tryz.ntmps3
    go_upto_region 5 with (go_at_call 5; refine HW.out.mono ?_; rintro en w1 ⟨rfl, hB1⟩; have HB1 := Lib.hid hB1; clear hB1)
    clear HW
    have HRA := Lib.hid (((HR.out.below HB1.out).more HB1.out.size).alloc (Nat.le_refl _) (.cells #[] 33))
    have HE1 := Lib.hid (show (w1.alloc (.cells #[] 33)).ownsRow w1.heap.size 33 2 (.slice (some ⟨w1.heap.size, 0, none⟩) 0 0) 0 [] from World.ownsRow_made _ _ 0 (Nat.le_refl _) (by simp [maxLen]) rfl)
    have HBA := Lib.hid ((Below.refl _ w1).alloc (Nat.le_refl _) (.cells #[] 33))
    go_upto_region 6 with (first | (go_at_call 6; go_loud (refine (new_any v3 L w3 HK3.out HSZ.out (by omega)).mono ?_; rintro en w4 ⟨hb4, hres⟩; have HB4 := Lib.hid (HB3.out.trans (hb4.mono HB3.out.size)); have HRES := Lib.hid hres; clear hb4 hres; rcases HRES.out with ⟨e, a, hFA, hne, rfl⟩ | ⟨hF, av, rfl, hAL⟩)) | (at_builtin; go_loud (refine wpList_append_any _ rfl (.tmp 18) (.tmp 19) _ rfl w1.heap.size 33 i0 _ 2 32 Tryz.underlying22 hi0 hz0 hz1 hz2 rfl (by omega) _ 0 [] rfl HE1.out w1.heap.size A L.length c (pairCells L) rfl HRA.out HRC.out (by simp only [maxLen]; omega) (by omega) (by simp) ?_); intro v3 w3 hown3 hg3 hat3; have HO3 := Lib.hid (show w3.ownsRow w1.heap.size 33 2 v3 L.length (pairCells L) from by simpa using hown3); have HK3 := Lib.hid (own_keys_any HO3.out); have HB3 := Lib.hid (HB1.out.trans ((HBA.out.grown hg3 (by simp) (fun g hg => (HE1.out.lt g hg).1)).mono HB1.out.size)); clear hown3 hg3 hat3))
    · have hne1 : (e == 0) = false := by simpa using hne
      have HFA := Lib.hid hFA
      have HB5 := Lib.hid (HB4.out.alloc HB4.out.size (.cells #[.int .i64 e, .int .i64 a] 27))
      have HN5 := Lib.hid (Blk.new w4 27 #[.int .i64 e, .int .i64 a])
      generalize w4.alloc (.cells #[.int .i64 e, .int .i64 a] 27) = w5 at *
      go_upto_region 7 with (go_at_call 7; go_loud (refine (fault_any _ L w5 (HK0.out.more HB5.out HB5.out.size) HSZ.out (by omega)).mono ?_; rintro en w6 ⟨⟨e', a', hFA2, rfl⟩, hb6⟩; obtain ⟨rfl, rfl⟩ := fault_one HFA.out hFA2; have HB6 := Lib.hid ((HB5.out.trans (hb6.mono HB5.out.size)).alloc (Nat.le_trans HB5.out.size hb6.size) (.cells #[.int .i64 e, .int .i64 a] 27)); have HN6 := Lib.hid ((HN5.out.below hb6 HN5.out.lt).alloc (.cells #[.int .i64 e, .int .i64 a] 27)); have HN7 := Lib.hid (Blk.new w6 27 #[.int .i64 e, .int .i64 a]); clear hFA2 hb6))
      generalize w6.alloc (.cells #[.int .i64 e, .int .i64 a] 27) = w7 at *
      have k0 : w7.cell? ⟨w4.heap.size, 0, none⟩ = some (.int .i64 e) := HN6.out.cell 0
      have k1 : w7.cell? ⟨w4.heap.size, 1, none⟩ = some (.int .i64 a) := HN6.out.cell 1
      have k2 : w7.cell? ⟨w6.heap.size, 0, none⟩ = some (.int .i64 e) := HN7.out.cell 0
      have k3 : w7.cell? ⟨w6.heap.size, 1, none⟩ = some (.int .i64 a) := HN7.out.cell 1
      have hxx : (e == e) = true := by simp
      have hyy : (a == a) = true := by simp
      go_wp2
      go_ret
      exact ⟨rfl, HB6.out⟩
    · have HFA := Lib.hid hF
      have HAL := Lib.hid hAL
      clear hF hAL HRES
      have HB5 := Lib.hid (HB4.out.alloc HB4.out.size (.cells #[.int .i64 0, .int .i64 0] 27))
      have HN5 := Lib.hid (Blk.new w4 27 #[.int .i64 0, .int .i64 0])
      have HAL5 := Lib.hid (HAL.out.on ((Below.refl _ w4).alloc (Nat.le_refl _) (.cells #[.int .i64 0, .int .i64 0] 27)))
      generalize w4.alloc (.cells #[.int .i64 0, .int .i64 0] 27) = w5 at *
      go_upto_region 7 with (go_at_call 7; go_loud (refine (fault_any _ L w5 (HK0.out.more HB5.out HB5.out.size) HSZ.out (by omega)).mono ?_; rintro en w6 ⟨⟨e', a', hFA2, rfl⟩, hb6⟩; obtain ⟨rfl, rfl⟩ := fault_one HFA.out hFA2; have HN6a := Lib.hid hb6; clear hFA2 hb6))
      have HB7 := Lib.hid ((HB5.out.trans (HN6a.out.mono HB5.out.size)).alloc (Nat.le_trans HB5.out.size HN6a.out.size) (.cells #[.int .i64 0, .int .i64 0] 27))
      have HN6 := Lib.hid ((HN5.out.below HN6a.out HN5.out.lt).alloc (.cells #[.int .i64 0, .int .i64 0] 27))
      have HN7 := Lib.hid (Blk.new w6 27 #[.int .i64 0, .int .i64 0])
      have HAL7 := Lib.hid ((HAL5.out.on HN6a.out).on ((Below.refl _ w6).alloc (Nat.le_refl _) (.cells #[.int .i64 0, .int .i64 0] 27)))
      generalize w6.alloc (.cells #[.int .i64 0, .int .i64 0] 27) = w7 at *
      have k2 : w7.cell? ⟨w6.heap.size, 0, none⟩ = some (.int .i64 0) := HN7.out.cell 0
      go_upto_region 10 with (go_at_call 8; go_loud (refine (aall_any _ _ w7 HAL7.out (by have := sortK_len L; omega)).mono ?_; rintro en w8 ⟨⟨va, rfl, hva⟩, hb8⟩; have HVA := Lib.hid hva; have HN8 := Lib.hid hb8; clear hva hb8))
      have HB8 := Lib.hid (HB7.out.trans (HN8.out.mono HB7.out.size))
      have k0 : w8.cell? ⟨w4.heap.size, 0, none⟩ = some (.int .i64 0) := (HN6.out.below HN8.out HN6.out.lt).cell 0
      have k1 : w8.cell? ⟨w4.heap.size, 1, none⟩ = some (.int .i64 0) := (HN6.out.below HN8.out HN6.out.lt).cell 1
      have k3 : w8.cell? ⟨w6.heap.size, 0, none⟩ = some (.int .i64 0) := (HN7.out.below HN8.out HN7.out.lt).cell 0
      have k4 : w8.cell? ⟨w6.heap.size, 1, none⟩ = some (.int .i64 0) := (HN7.out.below HN8.out HN7.out.lt).cell 1
      have HAF := Lib.hid (fault_ok HFA.out).1
      obtain ⟨A8, c8, rfl, hc8, hm8, hR8⟩ := HVA.out
      rw [sort_full HAF.out] at hc8 hR8 ⊢
      have HR8 := Lib.hid hR8
      unfold maxLen at hm8
      obtain ⟨N, hN⟩ : ∃ N, L.length = N := ⟨_, rfl⟩
      rw [hN] at hc hg1 hc8 HR8 ⊢
      have HN := Lib.hid hN
      clear hR8 hN k2 HVA
      go_wp2
      clear k0 k1 k3 k4
      have HRS := Lib.hid (sortK_rises (distK_of HAF.out))
      go_loopw [50] (fun iv wr => ∃ p : Nat, iv = .int .i64 (p : Int) ∧ p ≤ N ∧ Below w8.heap.size w8 wr) (fun iv _ => N - (Lib.intOf iv).toNat)
      case atStart => exact ⟨0, rfl, Nat.zero_le _, Below.refl _ _⟩
      case round =>
        obtain ⟨p, rfl, hp, hB9⟩ := hrel
        have HB9 := Lib.hid hB9
        clear hB9
        by_cases hpn : p < N
        · obtain ⟨⟨xk, xv⟩, hx⟩ : ∃ x, (sortK L)[p]? = some x := ⟨_, List.getElem?_eq_getElem (by rw [sort_full HAF.out, HN.out]; exact hpn)⟩
          have hq : (p : Int) < (N : Int) := by omega
          obtain ⟨b8, o8, rfl, hb8, hcl8⟩ := HR8.out.spot (by omega) (by omega)
          have hat := pairCells_at (sortK L) p _ hx
          have z0 : wr.cell? ⟨b8, o8 + p * 2, none⟩ = some (.string xk) := (HB9.out.cell (p := ⟨b8, o8 + p * 2, none⟩) hb8).trans (hcl8 _ _ hat.1)
          have z1 : wr.cell? ⟨b8, o8 + p * 2 + 1, none⟩ = some (.string xv) := (HB9.out.cell (p := ⟨b8, o8 + p * 2 + 1, none⟩) hb8).trans (hcl8 _ _ hat.2)
          have HX := Lib.hid hx
          clear hat hx
          go_upto_region 15 with (fail)
          clear z0 z1
          have HP := Lib.hid (Blk.new wr 33 #[.string xk, .string xv])
          have HB10 := Lib.hid (HB9.out.alloc HB9.out.size (.cells #[.string xk, .string xv] 33))
          have hgp : w8.heap.size ≤ wr.heap.size := HB9.out.size
          generalize wr.heap.size = gp at *
          generalize wr.alloc (.cells #[.string xk, .string xv] 33) = w9 at *
          have HRA9 := Lib.hid (HR.out.below (HB8.out.trans (HB10.out.mono HB8.out.size)))
          go_wp2
          go_loopw [9, 57] (fun tv jv W => ∃ (q : Nat) (t : Bool), jv = .int .i64 (q : Int) ∧ q ≤ N ∧ tv = .bool t ∧ (t = true ↔ ∃ k, k < q ∧ L[k]? = some (xk, xv)) ∧ Below w9.heap.size w9 W) (fun _ jv _ => N - (Lib.intOf jv).toNat)
          case atStart => exact ⟨0, false, rfl, Nat.zero_le _, rfl, by simp, Below.refl _ _⟩
          case round =>
            obtain ⟨q, t, rfl, hqN, rfl, ht, hB11⟩ := hrel
            have HTT := Lib.hid ht
            have HB11 := Lib.hid hB11
            clear ht hB11
            by_cases hql : q < N
            · obtain ⟨⟨yk, yv⟩, hy⟩ : ∃ x, L[q]? = some x := ⟨_, List.getElem?_eq_getElem (by rw [HN.out]; exact hql)⟩
              have hq2 : (q : Int) < (N : Int) := by omega
              have hLN := HN.out
              obtain ⟨ba, oa, rfl, hba, hcla⟩ := HRA9.out.spot (by omega) (by omega)
              have hat := pairCells_at L q _ hy
              have hbw : w.heap.size ≤ w9.heap.size := Nat.le_trans HB8.out.size HB10.out.size
              have z0 : wr.cell? ⟨ba, oa + q * 2, none⟩ = some (.string yk) := (HB11.out.cell (p := ⟨ba, oa + q * 2, none⟩) (Nat.lt_of_lt_of_le hba hbw)).trans (hcla _ _ hat.1)
              have z1 : wr.cell? ⟨ba, oa + q * 2 + 1, none⟩ = some (.string yv) := (HB11.out.cell (p := ⟨ba, oa + q * 2 + 1, none⟩) (Nat.lt_of_lt_of_le hba hbw)).trans (hcla _ _ hat.2)
              have HY := Lib.hid hy
              clear hat hy hLN
              go_upto_region 19 with (fail)
              clear z0 z1
              have HB12 := Lib.hid (HB11.out.alloc HB11.out.size (.cells #[.string yk, .string yv] 33))
              have HQ := Lib.hid (Blk.new wr 33 #[.string yk, .string yv])
              generalize wr.heap.size = gq at *
              generalize wr.alloc (.cells #[.string yk, .string yv] 33) = w10 at *
              have HP2 := Lib.hid (HP.out.below HB12.out HP.out.lt)
              have m0 : w10.cell? ⟨gp, 0, none⟩ = some (.string xk) := HP2.out.cell 0
              have m1 : w10.cell? ⟨gp, 1, none⟩ = some (.string xv) := HP2.out.cell 1
              have m2 : w10.cell? ⟨gq, 0, none⟩ = some (.string yk) := HQ.out.cell 0
              have m3 : w10.cell? ⟨gq, 1, none⟩ = some (.string yv) := HQ.out.cell 1
              cases t
              · by_cases he : ((xk, xv) : PKey) = (yk, yv)
                · cases he
                  have e1 : (xk.toList == xk.toList) = true := by simp
                  have e2 : (xv.toList == xv.toList) = true := by simp
                  have HT2 := Lib.hid (show (true = true ↔ ∃ k, k < q + 1 ∧ L[k]? = some (xk, xv)) from ⟨fun _ => ⟨q, by omega, HY.out⟩, fun _ => rfl⟩)
                  go_wp2
                  go_roundw
                  case rel => exact ⟨q + 1, true, by go_num, hql, rfl, HT2.out, HB12.out⟩
                  case measure => simp [Lib.intOf]; omega
                · have HT2 := Lib.hid (show (false = true ↔ ∃ k, k < q + 1 ∧ L[k]? = some (xk, xv)) from ⟨(fun h => by cases h), fun ⟨k, hk, hx⟩ => by
                    rcases Nat.lt_or_ge k q with h | h
                    · exact HTT.out.2 ⟨k, h, hx⟩
                    · obtain rfl : k = q := by omega
                      rw [HY.out] at hx
                      exact absurd (Option.some.inj hx).symm he⟩)
                  have hcs : (xk.toList == yk.toList) = false ∨ ((xk.toList == yk.toList) = true ∧ (xv.toList == yv.toList) = false) := by
                    rw [ba_beq, ba_beq]
                    by_cases h1 : xk = yk
                    · exact .inr ⟨by simpa using h1, by simpa using fun h2 => he (by rw [h1, h2])⟩
                    · exact .inl (by simpa using h1)
                  clear he
                  rcases hcs with e1 | ⟨e1, e2⟩
                  all_goals
                    go_wp2
                    go_roundw
                    case rel => exact ⟨q + 1, false, by go_num, hql, rfl, HT2.out, HB12.out⟩
                    case measure => simp [Lib.intOf]; omega
              · have HT2 := Lib.hid (show (true = true ↔ ∃ k, k < q + 1 ∧ L[k]? = some (xk, xv)) from ⟨fun _ => by obtain ⟨k, hk, hx⟩ := HTT.out.1 rfl; exact ⟨k, by omega, hx⟩, fun _ => rfl⟩)
                go_wp2
                go_roundw
                case rel => exact ⟨q + 1, true, by go_num, hql, rfl, HT2.out, HB12.out⟩
                case measure => simp [Lib.intOf]; omega
            · obtain rfl : q = N := by omega
              have hq2 : ¬ (q : Int) < (q : Int) := by omega
              obtain ⟨k, hk⟩ := List.mem_iff_getElem?.1 ((sortK_mem L (xk, xv)).1 (List.mem_of_getElem? HX.out))
              obtain rfl : t = true := HTT.out.2 ⟨k, by rw [← HN.out]; exact (List.getElem?_eq_some_iff.1 hk).1, hk⟩
              clear hk
              have HP2 := Lib.hid (HP.out.below HB11.out HP.out.lt)
              have m0 : wr.cell? ⟨gp, 0, none⟩ = some (.string xk) := HP2.out.cell 0
              by_cases hp0 : p = 0
              · subst hp0
                go_upto_region 21 with (fail)
                go_quiet (fail)
                go_wp2
                go_roundw
                case rel => exact ⟨0 + 1, by go_num, hpn, HB10.out.trans ((below_drewN HB11.out _).mono HB10.out.size)⟩
                case measure => simp [Lib.intOf]; omega
              · obtain ⟨m, rfl⟩ : ∃ m, p = m + 1 := ⟨p - 1, by omega⟩
                obtain ⟨⟨yk, yv⟩, hy⟩ : ∃ x, (sortK L)[m]? = some x := ⟨_, List.getElem?_eq_getElem (by rw [sort_full HAF.out, HN.out]; omega)⟩
                have haty := pairCells_at (sortK L) m _ hy
                have z2 : wr.cell? ⟨b8, o8 + m * 2, none⟩ = some (.string yk) := ((HB10.out.trans (HB11.out.mono HB10.out.size)).cell (p := ⟨b8, o8 + m * 2, none⟩) hb8).trans (hcl8 _ _ haty.1)
                have hless : Op.bytesLess yk.toList xk.toList = true := by
                  obtain ⟨h1, e1⟩ := List.getElem?_eq_some_iff.1 hy
                  obtain ⟨h2, e2⟩ := List.getElem?_eq_some_iff.1 HX.out
                  have := List.pairwise_iff_getElem.1 HRS.out m (m + 1) h1 h2 (by omega)
                  rw [e1, e2] at this
                  exact this
                have hp3 : (m : Int) < (q : Int) := by omega
                clear haty hy
                go_upto_region 21 with (fail)
                go_quiet (fail)
                go_wp2
                go_roundw
                case rel => exact ⟨m + 1 + 1, by go_num, hpn, HB10.out.trans ((below_drewN HB11.out _).mono HB10.out.size)⟩
                case measure => simp [Lib.intOf]; omega
        · obtain rfl : p = N := by omega
          have hq : ¬ (p : Int) < (p : Int) := by omega
          go_wp2
          go_ret
          exact ⟨rfl, HB8.out.trans (HB9.out.mono HB8.out.size)⟩
set_option maxRecDepth 100000 in
theorem walk {H : Type} {enc : TypeId × Value → H} (v0 : Value) (d0 : DataW H) (p0 : List MemPlace) (base0 : Nat) (w : World) (hv0 : Value.okWide Tryz.prog w .any base0 22 v0) (w0 : DataW.Trod enc Tryz.prog w 0 (fun _ => true) true 22 v0 d0 p0) (hwt0 : ∀ n ∈ d0.weights Tryz.prog 22, n ≤ 140737488351232) (hT : Tabs w) (h3 : 3 ≤ w.heap.size) :
    Calls Tryz.prog 3 #[v0] w fun e w' => e = .returned (.bool true) ∧ Below w.heap.size w w' := by
  obtain ⟨l0, ht0, hs0, hn0⟩ := keys_of_trod (e := 33) Tryz.underlying22 Tryz.underlying33 (by kernel_rfl) (by kernel_rfl) (by kernel_rfl) Tryz.underlying9 Tryz.underlying9 hwt0 hv0 w0
  exact news_walk v0 l0 w ht0 hs0 hn0 hT h3

/-- What the row's list gives. -/
theorem laidTabs {W : World} (hL : laidMetH Tryz.prog Rows.aliasNewsRow.laid W) : Tabs W := by
  have h1 := Lib.laidMet.reads hL (.head _)
  have h2 := Lib.laidMet.reads hL (.tail _ (.head _))
  exact utf8Tabs_of_reads decS ⟨by kernel_rfl, by kernel_rfl, by kernel_rfl, by kernel_rfl, by kernel_rfl, by kernel_rfl, by kernel_rfl⟩ (by rw [← Pinned.utf8First_eq]; exact h2) (by rw [show Lib.acceptData = Rows.laid_unicode_utf8_acceptRanges from by kernel_rfl]; exact h1)

set_option maxRecDepth 100000 in
theorem contract (H : Type) (enc : TypeId × Value → H) (W : World) (base : Nat) (args : Array Value) (ds gs : List (DataW H)) (before : List MemPlace)
    (hval0 : ∀ (j : Nat) t v, Tryz.f3.params[j]? = some t → args[j]? = some v → Value.okWide Tryz.prog W .any base t v)
    (hW : DataW.Whole enc Tryz.prog Tryz.f3.params.toList Rows.aliasNewsSpec.vars false W args.toList ds gs before)
    (hsz0 : (DataW.weightsEach Tryz.prog (Tryz.f3.params.toList ++ Rows.aliasNewsSpec.plain.varTypes Tryz.prog) (ds ++ gs)).all (· ≤ reachBytes) = true) (hL : laidMetH Tryz.prog Rows.aliasNewsRow.laid W) :
    Calls Tryz.prog 3 args W fun e W' => ∃ v, e = .returned v ∧ Rows.aliasNewsSpec.post enc Tryz.prog Tryz.f3 false true false false W args v W' := by
  have hval : ∀ (j : Nat) t v, Tryz.f3.params[j]? = some t → args[j]? = some v → Value.okWide Tryz.prog W .any base t v := hval0
  have hsz : (DataW.weightsEach Tryz.prog (Tryz.f3.params.toList ++ Rows.aliasNewsSpec.plain.varTypes Tryz.prog) (ds ++ gs)).all (· ≤ reachBytes) = true := hsz0
  have hW' := hW
  obtain ⟨p, q, hA0, hV, rfl, hfz, hnd⟩ := hW
  have hA : DataW.TrodAll enc Tryz.prog W 0 (fun _ => true) true Tryz.f3.params.toList args.toList ds p := hA0
  rw [Tryz.params3] at hA hval hsz
  obtain ⟨v0, vs0, d0, ds0, p0, q0, hargs, rfl, rfl, h0, r0⟩ := trodAll_cons hA
  obtain ⟨rfl, rfl, rfl⟩ := trodAll_nil r0
  obtain rfl : args = #[v0] := by cases args; simp_all
  obtain ⟨rfl, rfl⟩ := trodVars_none hV
  have k0 := h0
  have lt0 : ∀ x ∈ p0, x.block < W.heap.size := by obtain ⟨m, hm⟩ := k0; exact DataW.trod_lt m _ _ _ hm
  have hwt0 : ∀ n ∈ d0.weights Tryz.prog 22, n ≤ 140737488351232 := fun n hn => by
    have := of_decide_eq_true (List.all_eq_true.1 hsz _ (DataW.weights_mem_each (j := 0) (t := 22) rfl rfl n hn))
    simpa [reachBytes] using this
  clear hA0 hval0
  refine (walk v0 d0 p0 base W (hval 0 22 v0 rfl rfl) h0 hwt0 (laidTabs hL) (tabs3 (laidTabs hL))).mono fun e W' ⟨he, bel⟩ => ?_
  subst he
  exact ⟨_, rfl, _, _, _, [], _, [], hW', trodAll_mk1 (shut_bool Tryz.underlying4 _), (trodAll_cons_mk (Below.trod laidOut (by kernel_rfl) (of_decide_eq_true (by kernel_rfl)) k0 bel lt0) trodAll_mk0), rfl, bel.frame _, fun h => by cases h⟩

/-- The witness: the settled world, the two tables holding what their initialisers lay. -/
noncomputable def laidWorld (os : Os) : World :=
  let w0 := World.holding Tryz.prog os ⟨#[], #[], []⟩
  let put (h : Array Obj) (g : Nat) (cs : Array Value) : Array Obj := h.modify g fun
    | .cells _ t frozen => .cells cs t frozen
    | o => o
  let h1 := put w0.heap 1 (Lib.firstTab.map fun z => Value.int .u8 z).toArray
  let h2 := put h1 2 ((List.range 16).flatMap fun i => [Value.int .u8 (Lib.accLo i), Value.int .u8 (Lib.accHi i)]).toArray
  { w0 with heap := h2 }
theorem laid_met (os : Os) : laidMet Tryz.prog Rows.aliasNewsRow.laid ((laidWorld os).forCall (fun _ _ => 0) ⟨#[], #[.slice none 0 0], []⟩).memory := by
  have h : laidMet Tryz.prog [("unicode/utf8.acceptRanges", Lib.acceptData), ("unicode/utf8.first", Lib.firstData)] ((laidWorld os).forCall (fun _ _ => 0) ⟨#[], #[.slice none 0 0], []⟩).memory :=
    (LaidIn.of_run (l := [("unicode/utf8.acceptRanges", Lib.acceptData), ("unicode/utf8.first", Lib.firstData)]) [2, 1] 8 (by kernel_rfl) (by kernel_rfl) (by kernel_rfl) (by kernel_rfl)).met
  have e : Rows.aliasNewsRow.laid = [("unicode/utf8.acceptRanges", Lib.acceptData), ("unicode/utf8.first", Lib.firstData)] := by
    rw [← Pinned.utf8First_eq, show Lib.acceptData = Rows.laid_unicode_utf8_acceptRanges from by kernel_rfl]
    rfl
  rw [e]
  exact h
theorem witness_row (os : Os) {H : Type} (enc : TypeId × Value → H) :
    (OpenSpec.ofChange Rows.aliasNewsSpec).preRow enc Tryz.prog Tryz.f3 Rows.aliasNewsRow.domain false Rows.aliasNewsRow.laid ((laidWorld os).forCall (fun _ _ => 0) ⟨#[], #[.slice none 0 0], []⟩).memory #[.slice none 0 0] := by
  have hw : (DataW.whole enc Tryz.prog ((laidWorld os).forCall (fun _ _ => 0) ⟨#[], #[.slice none 0 0], []⟩).memory Tryz.f3.params.toList (OpenSpec.ofChange Rows.aliasNewsSpec).vars false (#[.slice none 0 0] : Array Value).toList 8).map (fun x => (x.1, x.2.1)) =
      some ([.nil], []) := by kernel_rfl
  obtain ⟨⟨x1, x2, x3⟩, hx, hx1⟩ := Option.map_eq_some_iff.1 hw
  simp only [Prod.mk.injEq] at hx1
  obtain ⟨rfl, rfl⟩ := hx1
  exact OpenSpec.preRow_of_cond 8 hx (by kernel_rfl) (fun k hk => by cases hk) (by kernel_rfl) (laid_met os)
set_option maxRecDepth 100000 in
theorem lifted (os : Os) (started : os.Started) (H : Type) (enc : TypeId × Value → H) (F : Stop.Interp) :
    ReturnsInHanded {} Tryz.checked os 3 .any ((OpenSpec.ofChange Rows.aliasNewsSpec).preRow enc Tryz.prog Tryz.f3 Rows.aliasNewsRow.domain false Rows.aliasNewsRow.laid) (((OpenSpec.ofChange Rows.aliasNewsSpec).at F).post enc Tryz.prog Tryz.f3 false true false false) := by
  refine returnsInHanded_of_row (C := Tryz.checked) (s := OpenSpec.ofChange Rows.aliasNewsSpec) own started (by kernel_rfl) Tryz.func3
    (witness_row_atRef (enc := enc) (C := Tryz.checked) false (laidWorld os) #[.slice none 0 0] rfl (by kernel_rfl) (by kernel_rfl) (by kernel_rfl) (witness_row os enc)) ?_
  intro W base args ds gs before hval hW _ hk hsz hL _ _
  exact contract H enc W base args ds gs before hval hW hsz hL
theorem said : Rows.aliasNewsRow.holds Tryz.pinned (OpenSpec.ofChange Rows.aliasNewsSpec) :=
  OpenClaim.holds_of_cond 3 Tryz.f3 rfl rfl rfl rfl rfl rfl rfl ⟨rfl, rfl, rfl, rfl, rfl⟩ rfl rfl rfl rfl rfl (by kernel_rfl) Tryz.func3 (by kernel_rfl)
    (of_decide_eq_true (by kernel_rfl)) (by unfold Func.isWrapper; first | (rw [if_pos (by decide +kernel)]; kernel_rfl) | (rw [if_neg (by decide +kernel)]; exact ⟨rfl, rfl⟩))
    (fun os started H enc _ F => by rw [OpenClaim.pre_eq_preRow]; exact lifted os started H enc F)
/-- No parameter wants a stand-in; the program's own looks are off. -/
theorem plain (f : FuncId) (fn : Func) (hf : Tryz.pinned.checked.prog.funcNamed "vernacular/vernacularlaw13.AliasNews" = some f) (hfn : Tryz.pinned.checked.prog.funcs[f]? = some fn) :
    false = Tryz.pinned.checked.prog.looks [] ∧ ∀ (j : Nat) t, fn.params[j]? = some t → Tryz.pinned.checked.prog.wantsStandIn t = false := by
  obtain rfl : f = 3 := Option.some.inj ((show Tryz.prog.funcNamed "vernacular/vernacularlaw13.AliasNews" = some 3 by kernel_rfl).symm.trans hf) |>.symm
  obtain rfl : fn = Tryz.f3 := (Option.some.inj (Tryz.func3.symm.trans hfn)).symm
  refine ⟨by kernel_rfl, fun j t ht => ?_⟩
  rw [Tryz.params3] at ht
  have hm := Array.mem_of_getElem? ht
  have hall : (#[22] : Array TypeId).all (fun t => Tryz.prog.wantsStandIn t == false) = true := by kernel_rfl
  have := Array.all_eq_true_iff_forall_mem.1 hall t hm
  exact eq_of_beq this
theorem over : Rows.AliasNewsCardSaid :=
  Claim7.holds_tied_plain_at .later [] _ _ _ _ said (fun _ h => by cases h) (by kernel_rfl) (fun _ h => by cases h) aliasNews_row_tie rfl ⟨rfl, rfl⟩ (by kernel_rfl) rfl plain (by kernel_rfl)

/-- The statement. -/
theorem proved : Rows.AliasNewsCardSaid := over
#print axioms proved
end Go.Proofs.YtkfofdmcggoonaaGreatDoor.aliasNews
