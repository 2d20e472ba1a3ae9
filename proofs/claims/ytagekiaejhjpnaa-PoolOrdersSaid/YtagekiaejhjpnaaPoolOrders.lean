/-
  The law PoolOrders answers true for every two tables. No condition.
-/
import Derived.Test.YtagekiaejhjpnaaRows
import Derived.Test.YtagekiaejhjpnaaPoolWakes
import Derived.Test.YtagekiaejhjpnaaPoolDiff
import Derived.Test.YtagekiaejhjpnaaPoolCmpT
import Derived.Test.YtagekiaejhjpnaaPoolRows
import Derived.WalkKit
import Derived.Outline
import Derived.ProofKit
import Derived.OpenShut
import Derived.ShutString
import Derived.ChangeOld
import Derived.Below
import Derived.Deep.CondSized
namespace Go.Proofs.Ytagekiaejhjpnaa.poolOrders
open Go.ChangeShapes Go.WideShapes Go.ChangeAt Go.RowKit
open Go.ChangeMaps (open_string shut_string)
set_option linter.unusedVariables false

theorem own : ownKnob Try.prog.godebug = none := by kernel_rfl
theorem laidOut : laidOutB Try.prog = true := by kernel_rfl

theorem seek_cases {a : List RowI} {x : RowI} {k : Int} (hr : RiseL kl a) (h : SeekIs a x.1 k) : (k = -1 ∧ x ∉ a) ∨ (∃ (i : Nat) (y : RowI), k = (i : Int) ∧ a[i]? = some y ∧ y.1 = x.1 ∧ (y.2 = x.2 ↔ x ∈ a)) := by
  rcases h with ⟨i, y, rfl, hy, he, -⟩ | ⟨rfl, h⟩
  · refine .inr ⟨i, y, rfl, hy, he, fun h2 => ?_, fun hm => ?_⟩
    · rw [← show y = x from Prod.ext he h2]
      exact List.mem_of_getElem? hy
    · rw [kl_inj hr (List.mem_of_getElem? hy) hm he]
  · exact .inl ⟨rfl, fun hm => h x hm rfl⟩
set_option maxHeartbeats 16000000 in
theorem orders_walk (va vb : Value) (a b : List RowI) (w : World) (ha : RowsR w w.heap.size va a) (hb : RowsR w w.heap.size vb b) (hla : a.length * 8 ≤ 140737488351232) (hlb : b.length * 8 ≤ 140737488351232) :
    Calls Try.prog 5 #[va, vb] w fun en w' => en = .returned (.bool true) ∧ Below w.heap.size w w' := by
  have HW := Lib.hid (fun W => pwakes_any W)
  have HTA := Lib.hid ha
  have HTB := Lib.hid hb
  have HLL := Lib.hid (And.intro hla hlb)
  obtain ⟨A, ca, rfl, hca, hma, hra⟩ := ha
  obtain ⟨B, cb, rfl, hcb, hmb, hrb⟩ := hb
  have HRA := Lib.hid hra
  have HRB := Lib.hid hrb
  unfold maxLen at hma hmb
  have hna : (a.length : Int) ≤ 17592186043904 := by omega
  have hnb : (b.length : Int) ≤ 17592186043904 := by omega
  clear hra hrb hca hcb hla hlb
  have hz := cmpT_self
  go_enter Try.func5, Try.ntmps5
  clear hz
  go_upto_region 3 with (go_at_call 9; refine (HW.out _).mono ?_; rintro en w1 ⟨rfl, hB1⟩; have HB1 := Lib.hid hB1; clear hB1)
  have HDF := Lib.hid (diff_any _ _ a b w1 (HTA.out.on HB1.out) (HTB.out.on HB1.out) HLL.out.1 HLL.out.2)
  go_upto_region 5 with (go_at_call 17; go_loud (refine HDF.out.mono ?_; rintro en w5 ⟨⟨dv, rfl, hd⟩, hb5⟩; obtain ⟨D, cd, rfl, -, -, -⟩ := own_form hd; have HOD := Lib.hid hd; have HB5 := Lib.hid (show Below w.heap.size w w5 from HB1.out.trans (hb5.mono HB1.out.size)); clear hd hb5))
  clear HDF HB1
  have HTD := Lib.hid (rows_of_own HOD.out)
  have HIB := Lib.hid (fun q => refis_any _ b (w5.drewN q) (HTB.out.on (below_drewN HB5.out q)))
  have HCM := Lib.hid (fun W (h : Below w5.heap.size w5 W) => pcompare_any _ _ a b W (HTA.out.on (HB5.out.trans (h.mono HB5.out.size))) (HTB.out.on (HB5.out.trans (h.mono HB5.out.size))))
  have HRC := Lib.hid (fun W (h : Below w5.heap.size w5 W) => refcompare_any _ _ a b W (HTA.out.on (HB5.out.trans (h.mono HB5.out.size))) (HTB.out.on (HB5.out.trans (h.mono HB5.out.size))))
  have HBW := Lib.hid (fun W (h : Below w5.heap.size w5 W) => HB5.out.trans (h.mono HB5.out.size))
  clear HOD
  have HIA := Lib.hid (refis_any _ a w5 (HTA.out.on HB5.out))
  by_cases hra : RiseL kl a
  · have hda : decide (RiseL kl a) = true := by simpa using hra
    rw [hda] at HIA
    by_cases hrb : RiseL kl b
    · have hdb : decide (RiseL kl b) = true := by simpa using hrb
      rw [hdb] at HIB
      have HDL := Lib.hid (show diffL a b = diffF a b by unfold diffL; rw [if_pos ⟨hra, hrb⟩])
      have HRI := Lib.hid hra
      have HRA5 := Lib.hid (HRA.out.below HB5.out)
      have HRB5 := Lib.hid ((HRB.out.below HB5.out).more HB5.out.size)
      have HTA5 := Lib.hid (HTA.out.on HB5.out)
      obtain ⟨i0, hi0, hz0, hz1, hz2⟩ := info_parts row_info
      clear hra hrb hda hdb
      generalize hL : diffL a b = L at *
      have HLE := Lib.hid hL
      clear hL
      go_wp2_with (first
        | (go_at_call_of 18 (#[Value.slice A a.length ca]); go_loud (refine HIA.out.mono ?_; rintro e W ⟨v, q, rfl, rfl, rfl⟩))
        | (go_at_call 18; go_loud (refine (HIB.out _).mono ?_; rintro e W ⟨v, q, rfl, rfl, rfl⟩)))
      go_loopw [6, 23] (fun ov iv wr => ∃ p : Nat, iv = .int .i64 (p : Int) ∧ p ≤ b.length ∧ wr.ownsRow w5.heap.size 38 2 ov (diffF a (b.take p)).length (rowCells (diffF a (b.take p))) ∧ Below w5.heap.size w5 wr) (fun _ iv _ => b.length - (Lib.intOf iv).toNat)
      case atStart => exact ⟨0, rfl, Nat.zero_le _, World.ownsRow_nil _ _ _ _, below_drewN (Below.refl _ _) _⟩
      case round =>
        obtain ⟨p, rfl, hp, hO, hB⟩ := hrel
        have HO := Lib.hid hO
        have HB := Lib.hid hB
        clear hO hB
        by_cases hlt : p < b.length
        · obtain ⟨x, hx⟩ := at_lt hlt
          have hq : (p : Int) < (b.length : Int) := by omega
          obtain ⟨b1, o1, rfl, hb1, hcl1⟩ := (HRB5.out.below HB.out).spot (by omega) (by omega)
          have r0 := hcl1 _ _ (rowCells_at hx).1
          have r1 : wr.cell? ⟨b1, o1 + p * 2 + 1, none⟩ = some (.int .u32 x.2) := hcl1 _ _ (rowCells_at hx).2
          have HX := Lib.hid hx
          have hdl : (diffF a (b.take p)).length ≤ p := Nat.le_trans (diff_len _ _) (List.length_take_le _ _)
          have HSK := Lib.hid (refseek_any _ a x.1 (wr.alloc (.cells #[.int .u32 x.1, .int .u32 x.2] 38)) (HTA5.out.on (HB.out.alloc HB.out.size _)))
          have HN2 := Lib.hid (new_two wr 38 (.int .u32 x.1) (.int .u32 x.2))
          clear hcl1 hx
          go_upto_region 10 with (go_at_call 19; go_loud (refine HSK.out.mono ?_; rintro en w2 ⟨v, q, rfl, ⟨k, rfl, hS⟩, hw2⟩; have HS := Lib.hid (seek_cases HRI.out hS); have hb2 : Below (wr.alloc (.cells #[.int .u32 x.1, .int .u32 x.2] 38)).heap.size (wr.alloc (.cells #[.int .u32 x.1, .int .u32 x.2] 38)) w2 := hw2 ▸ below_drewN (Below.refl _ _) _; have k0 : w2.cell? ⟨wr.heap.size, 0, none⟩ = some (.int .u32 x.1) := (hb2.cell (p := ⟨wr.heap.size, 0, none⟩) (by simp)).trans HN2.out.1; have k1 : w2.cell? ⟨wr.heap.size, 1, none⟩ = some (.int .u32 x.2) := (hb2.cell (p := ⟨wr.heap.size, 1, none⟩) (by simp)).trans HN2.out.2; have HO2 := Lib.hid (own_more (HO.out.alloc (.cells #[.int .u32 x.1, .int .u32 x.2] 38)) hb2); have HB2 := Lib.hid (show Below w5.heap.size w5 w2 from (HB.out.alloc HB.out.size _).trans (hb2.mono (by have := HB.out.size; simp; omega))); clear hS hb2 hw2))
          have HRA2 := Lib.hid ((HRA5.out.more HB5.out.size).below HB2.out)
          rcases HS.out with ⟨rfl, hm⟩ | ⟨i, y, rfl, hy, hye, hiff⟩
          · have HM := Lib.hid hm
            clear hm
            go_quiet (fail)
            have HA := Lib.hid (fun n => And.intro ((show (w2.drewN n).ownsRow w5.heap.size 38 2 _ (diffF a (b.take p)).length (rowCells (diffF a (b.take p))) from HO2.out).alloc (.cells #[.int .u32 x.1, .int .u32 x.2] 38)) (And.intro (reads_new (w2.drewN n) #[.int .u32 x.1, .int .u32 x.2] 38 2 1 rfl) (show w5.heap.size ≤ ((w2.drewN n).alloc (.cells #[.int .u32 x.1, .int .u32 x.2] 38)).heap.size by have := HB2.out.size; simp; omega)))
            go_wp2_with (at_builtin; go_loud (refine wpList_append_any _ rfl (.tmp 41) (.tmp 43) _ rfl w5.heap.size 38 i0 _ 2 8 Try.underlying33 hi0 hz0 hz1 hz2 rfl (by omega) _ (diffF a (b.take p)).length (rowCells (diffF a (b.take p))) rfl (HA.out _).1 (w2.heap.size + 1) (some ⟨w2.heap.size, 0, none⟩) 1 1 [.int .u32 x.1, .int .u32 x.2] rfl (HA.out _).2.1 (by simp [Value.oneCell']) (by simp only [maxLen]; omega) (by omega) (HA.out 0).2.2 ?_); intro v3 w3 hown3 hg3 hat3; have HOW := Lib.hid hown3; have HG := Lib.hid hg3; clear hown3 hg3 hat3)
            go_roundw
            case rel =>
              refine ⟨p + 1, by go_num, hlt, ?_, ((below_drewN HB2.out _).alloc HB2.out.size _).grown HG.out (HA.out 0).2.2 (fun k hk => (HO2.out.lt k hk).1)⟩
              rw [diff_snoc HX.out, if_neg HM.out, List.length_append, rowCells_append]
              exact HOW.out
            case measure => simp [Lib.intOf]; omega
          · have hil : i < a.length := (List.getElem?_eq_some_iff.1 hy).1
            have hi2 : (i : Int) < (a.length : Int) := by omega
            have hi3 : ¬ (i : Int) < 0 := by omega
            have hi4 : (0 : Int) ≤ (i : Int) := by omega
            have hi5 : (i : Int).toNat = i := by omega
            obtain ⟨b2, o2, e2, hb2, hcl2⟩ := HRA2.out.spot (by omega) (by omega)
            cases e2
            have r2 : w2.cell? ⟨b2, o2 + i * 2, none⟩ = some (.int .u32 x.1) := by rw [← hye]; exact hcl2 _ _ (rowCells_at hy).1
            have r3 : w2.cell? ⟨b2, o2 + i * 2 + 1, none⟩ = some (.int .u32 y.2) := hcl2 _ _ (rowCells_at hy).2
            clear hcl2 hy hye
            by_cases hye : y.2 = x.2
            · have HM := Lib.hid (hiff.1 hye)
              rw [hye] at r3
              have hb : (x.2 == x.2) = true := by simp
              have hb9 : (x.1 == x.1) = true := by simp
              clear hiff hye
              go_quiet (fail)
              go_wp2
              go_roundw
              case rel =>
                refine ⟨p + 1, by go_num, hlt, ?_, below_drewN HB2.out _⟩
                rw [diff_snoc HX.out, if_pos HM.out]
                exact HO2.out
              case measure => simp [Lib.intOf]; omega
            · have HM := Lib.hid (fun h => hye (hiff.2 h))
              have hb : (y.2 == x.2) = false := by simpa using hye
              have hb9 : (x.1 == x.1) = true := by simp
              clear hiff hye
              go_quiet (fail)
              have HA := Lib.hid (fun n => And.intro ((show (w2.drewN n).ownsRow w5.heap.size 38 2 _ (diffF a (b.take p)).length (rowCells (diffF a (b.take p))) from HO2.out).alloc (.cells #[.int .u32 x.1, .int .u32 x.2] 38)) (And.intro (reads_new (w2.drewN n) #[.int .u32 x.1, .int .u32 x.2] 38 2 1 rfl) (show w5.heap.size ≤ ((w2.drewN n).alloc (.cells #[.int .u32 x.1, .int .u32 x.2] 38)).heap.size by have := HB2.out.size; simp; omega)))
              go_wp2_with (at_builtin; go_loud (refine wpList_append_any _ rfl (.tmp 41) (.tmp 43) _ rfl w5.heap.size 38 i0 _ 2 8 Try.underlying33 hi0 hz0 hz1 hz2 rfl (by omega) _ (diffF a (b.take p)).length (rowCells (diffF a (b.take p))) rfl (HA.out _).1 (w2.heap.size + 1) (some ⟨w2.heap.size, 0, none⟩) 1 1 [.int .u32 x.1, .int .u32 x.2] rfl (HA.out _).2.1 (by simp [Value.oneCell']) (by simp only [maxLen]; omega) (by omega) (HA.out 0).2.2 ?_); intro v3 w3 hown3 hg3 hat3; have HOW := Lib.hid hown3; have HG := Lib.hid hg3; clear hown3 hg3 hat3)
              go_roundw
              case rel =>
                refine ⟨p + 1, by go_num, hlt, ?_, ((below_drewN HB2.out _).alloc HB2.out.size _).grown HG.out (HA.out 0).2.2 (fun k hk => (HO2.out.lt k hk).1)⟩
                rw [diff_snoc HX.out, if_neg HM.out, List.length_append, rowCells_append]
                exact HOW.out
              case measure => simp [Lib.intOf]; omega
        · obtain rfl : p = b.length := by omega
          have hq : ¬ (b.length : Int) < (b.length : Int) := by omega
          rw [List.take_length] at HO
          have HTW := Lib.hid (rows_of_own HO.out)
          have HZZ := Lib.hid (show cmpT L (diffF a b) = 0 by rw [HDL.out]; exact cmpT_self _)
          go_wp2_with (first
            | (go_at_call 20; go_loud (refine (HCM.out _ (HB.out)).mono ?_; rintro en W ⟨rfl, hg⟩; have HB6 := Lib.hid (show Below w5.heap.size w5 W from (show Below w5.heap.size w5 _ from HB.out).trans (hg.below.mono (Below.size (w := w5) (HB.out)))); have HW6 := Lib.hid (HTW.out.on hg.below); clear hg))
            | (go_at_call_of 21 (#[Value.slice A a.length ca, Value.slice B b.length cb]); go_loud (refine (HRC.out _ HB6.out).mono ?_; rintro en W ⟨v, q, rfl, rfl, rfl⟩))
            | (go_at_call 21; go_loud (refine (refcompare_any _ _ _ _ _ (HTD.out.on (below_drewN HB6.out _)) (HW6.out.on (below_drewN (Below.refl _ _) _))).mono ?_; rintro en W ⟨v, q, rfl, hv, rfl⟩; rw [HZZ.out] at hv; subst hv)))
          go_ret
          exact ⟨rfl, HBW.out _ (below_drewN HB6.out _)⟩
    · have hdb : decide (RiseL kl b) = false := by simpa using hrb
      rw [hdb] at HIB
      have HZZ := Lib.hid (show cmpT (diffL a b) [] = 0 by unfold diffL; rw [if_neg (fun h => hrb h.2)]; rfl)
      generalize hL : diffL a b = L at *
      clear hra hrb hda hdb hL
      go_upto_region 13 with (first
        | (go_at_call_of 18 (#[Value.slice A a.length ca]); go_loud (refine HIA.out.mono ?_; rintro e W ⟨v, q, rfl, rfl, rfl⟩))
        | (go_at_call 18; go_loud (refine (HIB.out _).mono ?_; rintro e W ⟨v, q, rfl, rfl, rfl⟩)))
      have HD0 := Lib.hid (fun q => below_drewN (Below.refl w5.heap.size w5) q)
      go_wp2_with (first
        | (go_at_call 20; go_loud (refine (HCM.out _ (HD0.out _)).mono ?_; rintro en W ⟨rfl, hg⟩; have HB6 := Lib.hid (show Below w5.heap.size w5 W from (show Below w5.heap.size w5 _ from HD0.out _).trans (hg.below.mono (Below.size (w := w5) (HD0.out _)))); have HW6 := Lib.hid (rows_nil W W.heap.size); clear hg))
        | (go_at_call_of 21 (#[Value.slice A a.length ca, Value.slice B b.length cb]); go_loud (refine (HRC.out _ HB6.out).mono ?_; rintro en W ⟨v, q, rfl, rfl, rfl⟩))
        | (go_at_call 21; go_loud (refine (refcompare_any _ _ _ _ _ (HTD.out.on (below_drewN HB6.out _)) (HW6.out.on (below_drewN (Below.refl _ _) _))).mono ?_; rintro en W ⟨v, q, rfl, hv, rfl⟩; rw [HZZ.out] at hv; subst hv)))
      go_ret
      exact ⟨rfl, HBW.out _ (below_drewN HB6.out _)⟩
  · have hda : decide (RiseL kl a) = false := by simpa using hra
    rw [hda] at HIA
    have HZZ := Lib.hid (show cmpT (diffL a b) [] = 0 by unfold diffL; rw [if_neg (fun h => hra h.1)]; rfl)
    generalize hL : diffL a b = L at *
    clear hra hda hL
    go_upto_region 13 with (go_at_call 18; go_loud (refine HIA.out.mono ?_; rintro e W ⟨v, q, rfl, rfl, rfl⟩))
    have HD0 := Lib.hid (fun q => below_drewN (Below.refl w5.heap.size w5) q)
    go_wp2_with (first
      | (go_at_call 20; go_loud (refine (HCM.out _ (HD0.out _)).mono ?_; rintro en W ⟨rfl, hg⟩; have HB6 := Lib.hid (show Below w5.heap.size w5 W from (show Below w5.heap.size w5 _ from HD0.out _).trans (hg.below.mono (Below.size (w := w5) (HD0.out _)))); have HW6 := Lib.hid (rows_nil W W.heap.size); clear hg))
      | (go_at_call_of 21 (#[Value.slice A a.length ca, Value.slice B b.length cb]); go_loud (refine (HRC.out _ HB6.out).mono ?_; rintro en W ⟨v, q, rfl, rfl, rfl⟩))
      | (go_at_call 21; go_loud (refine (refcompare_any _ _ _ _ _ (HTD.out.on (below_drewN HB6.out _)) (HW6.out.on (below_drewN (Below.refl _ _) _))).mono ?_; rintro en W ⟨v, q, rfl, hv, rfl⟩; rw [HZZ.out] at hv; subst hv)))
    go_ret
    exact ⟨rfl, HBW.out _ (below_drewN HB6.out _)⟩
set_option maxRecDepth 100000 in
theorem walk {H : Type} {enc : TypeId × Value → H} (v0 : Value) (d0 : DataW H) (p0 : List MemPlace) (base0 : Nat) (v1 : Value) (d1 : DataW H) (p1 : List MemPlace) (base1 : Nat) (w : World) (hv0 : Value.okWide Try.prog w .any base0 33 v0) (w0 : DataW.Trod enc Try.prog w 0 (fun _ => true) true 33 v0 d0 p0) (hwt0 : ∀ n ∈ d0.weights Try.prog 33, n ≤ 140737488351232) (hv1 : Value.okWide Try.prog w .any base1 33 v1) (w1 : DataW.Trod enc Try.prog w 0 (fun _ => true) true 33 v1 d1 p1) (hwt1 : ∀ n ∈ d1.weights Try.prog 33, n ≤ 140737488351232) :
    Calls Try.prog 5 #[v0, v1] w fun e w' => e = .returned (.bool true) ∧ Below w.heap.size w w' := by
  obtain ⟨l0, ht0, -, hn0⟩ := rows_of_trod (e := 38) Try.underlying33 Try.underlying38 (by kernel_rfl) (by kernel_rfl) (by kernel_rfl) Try.underlying36 Try.underlying36 hwt0 hv0 w0
  obtain ⟨l1, ht1, -, hn1⟩ := rows_of_trod (e := 38) Try.underlying33 Try.underlying38 (by kernel_rfl) (by kernel_rfl) (by kernel_rfl) Try.underlying36 Try.underlying36 hwt1 hv1 w1
  exact orders_walk v0 v1 l0 l1 w ht0 ht1 hn0 hn1

set_option maxRecDepth 100000 in
theorem contract (H : Type) (enc : TypeId × Value → H) (W : World) (base : Nat) (args : Array Value) (ds gs : List (DataW H)) (before : List MemPlace)
    (hval0 : ∀ (j : Nat) t v, Try.f5.params[j]? = some t → args[j]? = some v → Value.okWide Try.prog W .any base t v)
    (hW : DataW.Whole enc Try.prog Try.f5.params.toList Rows.poolOrdersSpec.vars false W args.toList ds gs before)
    (hsz0 : (DataW.weightsEach Try.prog (Try.f5.params.toList ++ Rows.poolOrdersSpec.plain.varTypes Try.prog) (ds ++ gs)).all (· ≤ reachBytes) = true) :
    Calls Try.prog 5 args W fun e W' => ∃ v, e = .returned v ∧ Rows.poolOrdersSpec.post enc Try.prog Try.f5 false true false false W args v W' := by
  have hval : ∀ (j : Nat) t v, Try.f5.params[j]? = some t → args[j]? = some v → Value.okWide Try.prog W .any base t v := hval0
  have hsz : (DataW.weightsEach Try.prog (Try.f5.params.toList ++ Rows.poolOrdersSpec.plain.varTypes Try.prog) (ds ++ gs)).all (· ≤ reachBytes) = true := hsz0
  have hW' := hW
  obtain ⟨p, q, hA0, hV, rfl, hfz, hnd⟩ := hW
  have hA : DataW.TrodAll enc Try.prog W 0 (fun _ => true) true Try.f5.params.toList args.toList ds p := hA0
  rw [Try.params5] at hA hval hsz
  obtain ⟨v0, vs0, d0, ds0, p0, q0, hargs, rfl, rfl, h0, r0⟩ := trodAll_cons hA
  obtain ⟨v1, vs1, d1, ds1, p1, q1, rfl, rfl, rfl, h1, r1⟩ := trodAll_cons r0
  obtain ⟨rfl, rfl, rfl⟩ := trodAll_nil r1
  obtain rfl : args = #[v0, v1] := by cases args; simp_all
  obtain ⟨rfl, rfl⟩ := trodVars_none hV
  have k0 := h0
  have lt0 : ∀ x ∈ p0, x.block < W.heap.size := by obtain ⟨m, hm⟩ := k0; exact DataW.trod_lt m _ _ _ hm
  have hwt0 : ∀ n ∈ d0.weights Try.prog 33, n ≤ 140737488351232 := fun n hn => by
    have := of_decide_eq_true (List.all_eq_true.1 hsz _ (DataW.weights_mem_each (j := 0) (t := 33) rfl rfl n hn))
    simpa [reachBytes] using this
  have k1 := h1
  have lt1 : ∀ x ∈ p1, x.block < W.heap.size := by obtain ⟨m, hm⟩ := k1; exact DataW.trod_lt m _ _ _ hm
  have hwt1 : ∀ n ∈ d1.weights Try.prog 33, n ≤ 140737488351232 := fun n hn => by
    have := of_decide_eq_true (List.all_eq_true.1 hsz _ (DataW.weights_mem_each (j := 1) (t := 33) rfl rfl n hn))
    simpa [reachBytes] using this
  clear hA0 hval0
  refine (walk v0 d0 p0 base v1 d1 p1 base W (hval 0 33 v0 rfl rfl) h0 hwt0 (hval 1 33 v1 rfl rfl) h1 hwt1).mono fun e W' ⟨he, bel⟩ => ?_
  subst he
  exact ⟨_, rfl, _, _, _, [], _, [], hW', trodAll_mk1 (shut_bool Try.underlying4 _), (trodAll_cons_mk (Below.trod laidOut (by kernel_rfl) (of_decide_eq_true (by kernel_rfl)) k0 bel lt0) (trodAll_cons_mk (Below.trod laidOut (by kernel_rfl) (of_decide_eq_true (by kernel_rfl)) k1 bel lt1) trodAll_mk0)), rfl, bel.frame _, fun h => by cases h⟩

set_option maxRecDepth 100000 in
theorem lifted (os : Os) (started : os.Started) (H : Type) (enc : TypeId × Value → H) :
    ReturnsInHanded {} Try.checked os 5 .any (Rows.poolOrdersSpec.pre6 enc Try.prog Try.f5 Rows.poolOrdersRow.domain false) (Rows.poolOrdersSpec.post enc Try.prog Try.f5 false true false false) := by
  refine returnsInHanded_of_change_sized (C := Try.checked) own started (by kernel_rfl) Try.func5
    (ChangeSpec.witness6 (enc := enc) (C := Try.checked) false ⟨#[], #[.slice none 0 0, .slice none 0 0], []⟩ 8 (by kernel_rfl) (by kernel_rfl) (by kernel_rfl) (by kernel_rfl)) ?_
  intro W base args ds gs before hval hW _ hsz _
  exact contract H enc W base args ds gs before hval hW hsz

theorem over : Rows.poolOrdersRow.holds Try.pinned (OpenSpec.ofChange Rows.poolOrdersSpec) :=
  OpenClaim.holds_of_wide 5 Try.f5 rfl rfl rfl rfl rfl rfl rfl ⟨rfl, rfl, rfl, rfl, rfl⟩ rfl rfl rfl rfl rfl (by kernel_rfl) Try.func5 (by kernel_rfl)
    (of_decide_eq_true (by kernel_rfl)) (by unfold Func.isWrapper; first | (rw [if_pos (by decide +kernel)]; kernel_rfl) | (rw [if_neg (by decide +kernel)]; exact ⟨rfl, rfl⟩))
    (fun os started H enc _ => lifted os started H enc)

/-- The statement. -/
theorem proved : Rows.PoolOrdersSaid := over
#print axioms proved
end Go.Proofs.Ytagekiaejhjpnaa.poolOrders
