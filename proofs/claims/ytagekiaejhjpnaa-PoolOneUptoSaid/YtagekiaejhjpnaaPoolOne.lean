/-
  The law PoolOne answers true for every two lists of texts. Condition: what is read is of bulk at most 1048576.
-/
import Derived.Test.YtagekiaejhjpnaaRows
import Derived.Test.YtagekiaejhjpnaaPoolWakes
import Derived.Test.YtagekiaejhjpnaaTexts
import Derived.WalkKit
import Derived.Outline
import Derived.ProofKit
import Derived.OpenShut
import Derived.ShutString
import Derived.ChangeOld
import Derived.Below
import Derived.Deep.CondSized
namespace Go.Proofs.Ytagekiaejhjpnaa.poolOne
open Go.ChangeShapes Go.WideShapes Go.ChangeAt Go.RowKit
open Go.ChangeMaps (open_string shut_string)
set_option linter.unusedVariables false

theorem own : ownKnob Try.prog.godebug = none := by kernel_rfl
theorem laidOut : laidOutB Try.prog = true := by kernel_rfl

theorem bulk_strs {H : Type} : ∀ l : List ByteArray, l.length ≤ Rows.uptoBulkAll (Go.ChangeShapes.strs (H := H) l)
  | [] => Nat.zero_le _
  | x :: l => by
    have := bulk_strs (H := H) l
    simp only [Go.ChangeShapes.strs, List.map_cons, Rows.uptoBulkAll, Rows.uptoBulk, List.length_cons] at this ⊢
    omega
theorem bulk_len {H : Type} {d : DataW H} {l : List ByteArray} (h : d = .nil ∧ l = [] ∨ ∃ ss : List ByteArray, d = .slice (Go.ChangeShapes.strs l) (Go.ChangeShapes.strs ss)) : l.length ≤ Rows.uptoBulk d := by
  rcases h with ⟨rfl, rfl⟩ | ⟨ss, rfl⟩
  · simp
  · have := bulk_strs (H := H) l
    simp only [Rows.uptoBulk]
    omega
theorem drop_rev {l : List ByteArray} {q : Nat} {x : ByteArray} (h : l[q]? = some x) : (l.drop q).reverse = (l.drop (q + 1)).reverse ++ [x] := by
  obtain ⟨hlt, rfl⟩ := List.getElem?_eq_some_iff.1 h
  rw [List.drop_eq_getElem_cons hlt, List.reverse_cons]
theorem find_in {P : List ByteArray} {s : ByteArray} {k e : Int} (hr : RiseL bl P) (hs : s ∈ P) (h : FindT P s k e) : e = 0 ∧ ∃ i : Nat, k = (i : Int) ∧ P[i]? = some s := by
  rcases h with ⟨h, -⟩ | ⟨-, h, -⟩ | ⟨-, he, i, rfl, hi⟩
  · exact absurd hr h
  · exact absurd hs h
  · exact ⟨he, i, rfl, hi⟩
set_option maxRecDepth 100000 in
set_option maxHeartbeats 16000000 in
theorem one_walk (va vb : Value) (a b : List ByteArray) (w : World) (ha : Txts w w.heap.size va a) (hb : Txts w w.heap.size vb b) (hla : a.length + b.length ≤ 1048576) (hsa : ∀ x ∈ a, x.size ≤ 140737488351232) (hsb : ∀ x ∈ b, x.size ≤ 140737488351232) :
    Calls Try.prog 4 #[va, vb] w fun en w' => en = .returned (.bool true) ∧ Below w.heap.size w w' := by
  have HW := Lib.hid (fun W => pwakes_any W)
  have HTA := Lib.hid ha
  have HTB := Lib.hid hb
  obtain ⟨A, ca, rfl, hca, hma, hra⟩ := ha
  obtain ⟨B, cb, rfl, hcb, hmb, hrb⟩ := hb
  have HRA := Lib.hid hra
  have HRB := Lib.hid hrb
  have HSZ := Lib.hid (show ∀ x ∈ a ++ b, x.size ≤ maxLen from fun x hx => by
    rcases List.mem_append.1 hx with h | h
    · exact Nat.le_trans (hsa x h) (by decide)
    · exact Nat.le_trans (hsb x h) (by decide))
  clear hra hrb hsa hsb
  have hna : (a.length : Int) ≤ 1048576 := by omega
  have hnb : (b.length : Int) ≤ 1048576 := by omega
  unfold maxLen at hma hmb
  go_enter Try.func4, Try.ntmps4
  go_upto_region 3 with (go_at_call 9; refine (HW.out _).mono ?_; rintro en w1 ⟨rfl, hB1⟩; have HB1 := Lib.hid hB1; clear hB1)
  have HLS := Lib.hid (lists_new w1 [(.slice A a.length ca, a), (.slice B b.length cb, b)] (fun x hx => by
    rcases List.mem_cons.1 hx with rfl | hx
    · exact HTA.out.on HB1.out
    · rcases List.mem_cons.1 hx with rfl | hx
      · exact HTB.out.on HB1.out
      · cases hx))
  have HALL := Lib.hid (show ∀ x y : Value, allT [(x, a), (y, b)] = a ++ b from fun x y => by simp [allT])
  have HPR := Lib.hid (show RiseL bl (poolL bl (a ++ b)) from poolL_rise blT _)
  have HPM := Lib.hid (show ∀ x, x ∈ poolL bl (a ++ b) ↔ x ∈ a ++ b from fun x => poolL_mem _ x)
  have HPN := Lib.hid (show (poolL bl (a ++ b)).length ≤ 1048576 from Nat.le_trans (poolL_len _) (by rw [List.length_append]; exact hla))
  have hpp : ((poolL bl (a ++ b)).length : Int) ≤ 1048576 := by have := HPN.out; omega
  go_upto_region 5 with (go_at_call 11; go_loud (refine (pool_any _ 2 _ _ HLS.out (by simp [allT]; omega) (by simp) (fun x hx => HSZ.out x (by simpa [allT] using hx))).mono ?_; rintro en w2 ⟨⟨v2, rfl, ho2⟩, hb2⟩; rw [HALL.out] at ho2; obtain ⟨A2, c2, e2, hc2, hm2, hr2⟩ := own_form ho2; subst e2; have HT2 := Lib.hid (txts_of_own ho2); have HR2 := Lib.hid hr2; have HB2 := Lib.hid (show Below w.heap.size w w2 from HB1.out.trans ((((Below.refl _ w1).alloc (Nat.le_refl _) _).trans (hb2.mono (by simp))).mono HB1.out.size)); unfold maxLen at hm2; clear ho2 hb2 hr2))
  clear HLS HB1 HALL
  generalize hP : poolL bl (a ++ b) = P at *
  have HP := Lib.hid hP
  clear hP
  generalize hpn : P.length = pn at *
  have HPL := Lib.hid hpn
  clear hpn
  obtain ⟨i0, hi0, hz0, hz1, hz2⟩ := info_parts str_info
  go_wp2
  go_loopw [6, 7] (fun bv iv wr => ∃ q : Nat, iv = .int .i64 ((q : Int) - 1) ∧ q ≤ a.length ∧ wr.ownsRow w2.heap.size 9 1 bv (a.length - q) ((a.drop q).reverse.map Value.string) ∧ Below w2.heap.size w2 wr) (fun _ iv _ => ((Lib.intOf iv) + 1).toNat)
  case atStart => exact ⟨a.length, rfl, Nat.le_refl _, by simpa using World.ownsRow_nil _ _ _ _, Below.refl _ _⟩
  case round =>
    obtain ⟨q, rfl, hqa, hO, hB⟩ := hrel
    have HO := Lib.hid hO
    have HB3 := Lib.hid hB
    clear hO hB
    cases q with
    | succ q =>
      obtain ⟨x, hx⟩ := at_lt (l := a) (p := q) (by omega)
      obtain ⟨b1, o1, rfl, hb1, hcl1⟩ := ((HRA.out.below HB2.out).below (HB3.out.mono HB2.out.size)).spot (by omega) (by omega)
      have r0 := hcl1 _ _ (str_at hx)
      have HX := Lib.hid (drop_rev hx)
      have hq1 : ((q + 1 : Nat) : Int) - 1 = (q : Int) := by omega
      have hq2 : (0 : Int) ≤ (q : Int) := by omega
      have hq3 : (q : Int) < (a.length : Int) := by omega
      have HA := Lib.hid (And.intro (HO.out.alloc (.cells #[.string x] 9)) (And.intro (reads_new wr #[.string x] 9 1 1 rfl) (show w2.heap.size ≤ (wr.alloc (.cells #[.string x] 9)).heap.size by have := HB3.out.size; simp; omega)))
      clear hcl1 hx
      rw [hq1]
      clear hq1
      go_wp2_with (at_builtin; go_loud (refine wpList_append_any _ rfl (.tmp 25) (.tmp 30) _ rfl w2.heap.size 9 i0 _ 1 16 Try.underlying22 hi0 hz0 hz1 hz2 rfl (by omega) _ (a.length - (q + 1)) ((a.drop (q + 1)).reverse.map Value.string) rfl HA.out.1 (wr.heap.size + 1) (some ⟨wr.heap.size, 0, none⟩) 1 1 [.string x] rfl HA.out.2.1 (by simp [Value.oneCell']) (by simp only [maxLen]; omega) (by omega) HA.out.2.2 ?_); intro v3 w3 hown3 hg3 hat3; have HOW := Lib.hid hown3; have HG := Lib.hid hg3; clear hown3 hg3 hat3)
      go_roundw
      case rel =>
        refine ⟨q, rfl, by omega, ?_, (HB3.out.alloc HB3.out.size _).grown HG.out HA.out.2.2 (fun k hk => (HO.out.lt k hk).1)⟩
        rw [HX.out, List.map_append, show a.length - q = a.length - (q + 1) + 1 by omega]
        exact HOW.out
      case measure => simp [Lib.intOf]
    | zero =>
      simp only [Nat.sub_zero, List.drop_zero] at HO
      rw [show (((0 : Nat) : Int) - 1) = -1 from rfl]
      obtain ⟨A3, c3, e3, -, -, -⟩ := own_form HO.out
      subst e3
      have HT3 := Lib.hid (show Txts wr wr.heap.size (.slice A3 a.length c3) a.reverse from by
        have h := own_form HO.out
        obtain ⟨A', c', e', h1, h2, h3⟩ := h
        cases e'
        exact ⟨_, _, by rw [List.length_reverse], by rw [List.length_reverse]; exact h1, h2, by rw [List.length_reverse]; exact h3⟩)
      have HBR := Lib.hid (HB2.out.trans (HB3.out.mono HB2.out.size))
      have HT2R := Lib.hid (HT2.out.on HB3.out)
      have HR2R := Lib.hid ((HR2.out.below HB3.out).more HB3.out.size)
      clear HO HB3 HB2 HT2 HR2
      have HE1 := Lib.hid (own_empty wr 9 1)
      have HRA1 := Lib.hid (((HRA.out.below HBR.out).more HBR.out.size).alloc (Nat.le_refl _) (.cells #[] 9))
      have HRB1 := Lib.hid (((HRB.out.below HBR.out).more HBR.out.size).alloc (Nat.le_refl _) (.cells #[] 9))
      go_wp2_with (first
        | (at_builtin; (refine wpList_append_any _ rfl (.tmp 32) (.tmp 33) _ rfl wr.heap.size 9 i0 _ 1 16 Try.underlying22 hi0 hz0 hz1 hz2 rfl (by omega) _ 0 [] rfl HE1.out wr.heap.size A a.length ca (a.map Value.string) rfl HRA1.out str_one (by simp only [maxLen]; omega) (by omega) (by simp) ?_); intro v5 w5 hown3 hg3 hat3; have HO5 := Lib.hid (show w5.ownsRow wr.heap.size 9 1 v5 a.length (a.map Value.string) from by simpa using hown3); have HRB5 := Lib.hid (HRB1.out.grown hg3 (by simp) (fun g hg => (HE1.out.lt g hg).1)); have HB5 := Lib.hid (show Below wr.heap.size wr w5 from ((Below.refl _ wr).alloc (Nat.le_refl _) (.cells #[] 9)).grown hg3 (by simp) (fun g hg => (HE1.out.lt g hg).1)); clear hown3 hg3 hat3)
        | (at_builtin; (refine wpList_append_any _ rfl (.tmp 34) (.tmp 35) _ rfl wr.heap.size 9 i0 _ 1 16 Try.underlying22 hi0 hz0 hz1 hz2 rfl (by omega) _ a.length (a.map Value.string) rfl HO5.out wr.heap.size B b.length cb (b.map Value.string) rfl HRB5.out str_one (by simp only [maxLen]; omega) (by omega) HB5.out.size ?_); intro v6 w6 hown3 hg3 hat3; obtain ⟨A6, c6, e6, -, -, hr6⟩ := own_form hown3; subst e6; have HR6 := Lib.hid (show Reads w6 w6.heap.size 1 A6 (a.length + b.length) ((a ++ b).map Value.string) from by simpa using hr6); have HB6 := Lib.hid (show Below wr.heap.size wr w6 from HB5.out.grown hg3 HB5.out.size (fun g hg => (HO5.out.lt g hg).1)); clear hown3 hg3 hat3 hr6))
      clear HE1 HRA1 HRB1 HO5 HRB5 HB5 hi0 hz0 hz1 hz2
      have HL := Lib.hid (show (a ++ b).length = a.length + b.length from List.length_append)
      have HT26 := Lib.hid (HT2R.out.on HB6.out)
      have HR26 := Lib.hid ((HR2R.out.below HB6.out).more HB6.out.size)
      have HT36 := Lib.hid (HT3.out.on HB6.out)
      have HBW := Lib.hid (HBR.out.trans (HB6.out.mono HBR.out.size))
      clear HT2R HR2R HT3 HBR HB6
      go_loopw [38] (fun iv W => ∃ p : Nat, iv = .int .i64 (p : Int) ∧ p ≤ a.length + b.length ∧ Below w6.heap.size w6 W) (fun iv _ => (a.length + b.length) - (Lib.intOf iv).toNat)
      case atStart => exact ⟨0, rfl, Nat.zero_le _, Below.refl _ _⟩
      case round =>
        obtain ⟨p, rfl, hp, hB⟩ := hrel
        have HB7 := Lib.hid hB
        clear hB
        by_cases hlt : p < a.length + b.length
        · obtain ⟨x, hx⟩ := at_lt (l := a ++ b) (p := p) (by rw [HL.out]; exact hlt)
          have hq : (p : Int) < (a.length : Int) + (b.length : Int) := by omega
          obtain ⟨b1, o1, rfl, hb1, hcl1⟩ := (HR6.out.below HB7.out).spot (by omega) (by omega)
          have r0 := hcl1 _ _ (str_at hx)
          have HX := Lib.hid (show x ∈ P from (HPM.out x).2 (List.mem_of_getElem? hx))
          have HFI := Lib.hid (pfind_any _ P x _ (HT26.out.on HB7.out) (by rw [HPL.out]; omega))
          clear hcl1 hx
          go_upto_region 13 with (go_at_call 13; go_loud (refine HFI.out.mono ?_; rintro en w8 ⟨⟨k, e, rfl, hf⟩, hb8⟩; obtain ⟨rfl, i, rfl, hi⟩ := find_in HPR.out HX.out hf; have HI := Lib.hid hi; have HB8 := Lib.hid (HB7.out.trans (hb8.mono HB7.out.size)); clear hf hb8 hi))
          have hil : (i : Int) < (pn : Int) := by have := (List.getElem?_eq_some_iff.1 HI.out).1; have := HPL.out; omega
          obtain ⟨b2, o2, rfl, hb2, hcl2⟩ := (HR26.out.below HB8.out).spot (by omega) (by omega)
          have r2 := hcl2 _ _ (str_at HI.out)
          have hxx : (x.toList == x.toList) = true := by simp
          clear hcl2 r0
          go_wp2
          go_roundw
          case rel => exact ⟨p + 1, by go_num, hlt, HB8.out⟩
          case measure => simp [Lib.intOf]; omega
        · obtain rfl : p = a.length + b.length := by omega
          have hq : ¬ (((a.length + b.length : Nat) : Int)) < (a.length : Int) + (b.length : Int) := by omega
          have HBR := Lib.hid (HBW.out.trans (HB7.out.mono HBW.out.size))
          have HT2R := Lib.hid (HT26.out.on HB7.out)
          have HT3R := Lib.hid (HT36.out.on HB7.out)
          have HTAR := Lib.hid (HTA.out.on HBR.out)
          have HTBR := Lib.hid (HTB.out.on HBR.out)
          clear HB7 HBW HT26 HT36 HR26 HR6 HTA HTB HRA HRB
          have HLS1 := Lib.hid (lists_new wr [(.slice B b.length cb, b), (.slice A3 a.length c3, a.reverse), (.slice A a.length ca, a)] (fun x hx => by
            rcases List.mem_cons.1 hx with rfl | hx
            · exact HTBR.out
            · rcases List.mem_cons.1 hx with rfl | hx
              · exact HT3R.out
              · rcases List.mem_cons.1 hx with rfl | hx
                · exact HTAR.out
                · cases hx))
          have HP1 := Lib.hid (pool_any _ 3 _ _ HLS1.out (by simp [allT]; omega) (by simp) (fun x hx => HSZ.out x (by simp [allT] at hx ⊢; rcases hx with h | h <;> simp [h])))
          have HA1 := Lib.hid (show poolL bl (allT [(.slice B b.length cb, b), (.slice A3 a.length c3, a.reverse), (.slice A a.length ca, a)]) = P from by
            rw [← HP.out]
            refine poolL_congr blT fun x => ?_
            simp only [allT, List.flatMap_cons, List.flatMap_nil, List.append_nil, List.mem_append, List.mem_reverse]
            constructor
            · rintro (h | h | h) <;> simp [h]
            · rintro (h | h) <;> simp [h])
          have hdp : decide (P = P) = true := by simp
          have hdr : decide (RiseL bl P) = true := by simpa using HPR.out
          have HPS := Lib.hid (show ∀ v, poolL bl (allT [(v, P)]) = P from fun v => by
            have e : allT [(v, P)] = P := by simp [allT]
            rw [e, poolL_self blT HPR.out])
          have HSP := Lib.hid (show ∀ x ∈ P, x.size ≤ maxLen from fun x hx => HSZ.out x ((HPM.out x).1 hx))
          go_wp2_with (first
            | (go_at_call_of 11 (#[Value.slice (some ⟨wr.heap.size, 0, none⟩) 3 3]); go_loud (refine HP1.out.mono ?_; rintro en w9 ⟨⟨v9, rfl, ho9⟩, hb9⟩; rw [HA1.out] at ho9; have HT9 := Lib.hid (txts_of_own ho9); have HB9 := Lib.hid (show Below wr.heap.size wr w9 from ((Below.refl _ wr).alloc (Nat.le_refl _) _).trans (hb9.mono (by simp))); have HSM1 := Lib.hid (same_any _ _ P P w9 HT9.out (HT2R.out.on HB9.out)); have HP2 := Lib.hid (fun q => pool_any (some ⟨w9.heap.size, 0, none⟩) 1 [(.slice A2 pn c2, P)] ((w9.alloc (.cells #[.slice A2 pn c2] 22)).drewN q) (lists_new w9 [(.slice A2 pn c2, P)] (fun x hx => by
                rcases List.mem_cons.1 hx with rfl | hx
                · exact HT2R.out.on HB9.out
                · cases hx)) (by simp [allT, HPL.out]; omega) (by simp) (fun x hx => HSP.out x (by simpa [allT] using hx))); clear ho9 hb9))
            | (go_at_call_of 14 (#[v9, Value.slice A2 pn c2]); go_loud (refine HSM1.out.mono ?_; rintro en W ⟨v, q, rfl, hv, rfl⟩; rw [hdp] at hv; subst hv))
            | (go_at_call 11; go_loud (refine (HP2.out _).mono ?_; rintro en w10 ⟨⟨v10, rfl, ho10⟩, hb10⟩; rw [HPS.out] at ho10; have HT10 := Lib.hid (txts_of_own ho10); have HB10 := Lib.hid (show Below wr.heap.size wr w10 from (HB9.out.alloc HB9.out.size _).trans ((below_drewN (Below.refl _ _) _).trans (hb10.mono (by have := HB9.out.size; show wr.heap.size ≤ (w9.alloc _).heap.size; simp; omega)))); have HSM2 := Lib.hid (same_any _ _ P P w10 HT10.out (HT2R.out.on HB10.out)); have HIP := Lib.hid (fun q => ispool_any _ P (w10.drewN q) (HT2R.out.on (below_drewN HB10.out q))); clear ho10 hb10))
            | (go_at_call 14; go_loud (refine HSM2.out.mono ?_; rintro en W ⟨v, q, rfl, hv, rfl⟩; rw [hdp] at hv; subst hv))
            | (go_at_call 15; go_loud (refine (HIP.out _).mono ?_; rintro en W ⟨v, q, rfl, hv, rfl⟩; rw [hdr] at hv; subst hv)))
          go_ret
          exact ⟨rfl, below_drewN (HBR.out.trans (HB10.out.mono HBR.out.size)) _⟩
set_option maxRecDepth 100000 in
theorem walk {H : Type} {enc : TypeId × Value → H} (v0 : Value) (d0 : DataW H) (p0 : List MemPlace) (base0 : Nat) (v1 : Value) (d1 : DataW H) (p1 : List MemPlace) (base1 : Nat) (w : World) (hv0 : Value.okWide Try.prog w .any base0 22 v0) (w0 : DataW.Trod enc Try.prog w 0 (fun _ => true) true 22 v0 d0 p0) (hwt0 : ∀ n ∈ d0.weights Try.prog 22, n ≤ 140737488351232) (hv1 : Value.okWide Try.prog w .any base1 22 v1) (w1 : DataW.Trod enc Try.prog w 0 (fun _ => true) true 22 v1 d1 p1) (hwt1 : ∀ n ∈ d1.weights Try.prog 22, n ≤ 140737488351232) (hbulk : Rows.uptoBulk d0 + Rows.uptoBulk d1 ≤ 1048576) :
    Calls Try.prog 4 #[v0, v1] w fun e w' => e = .returned (.bool true) ∧ Below w.heap.size w w' := by
  obtain ⟨l0, ht0, hs0, hn0, hd0⟩ := texts_of_trod Try.underlying22 Try.underlying9 (by kernel_rfl) (by kernel_rfl) hwt0 hv0 w0
  obtain ⟨l1, ht1, hs1, hn1, hd1⟩ := texts_of_trod Try.underlying22 Try.underlying9 (by kernel_rfl) (by kernel_rfl) hwt1 hv1 w1
  have e0 := bulk_len hd0
  have e1 := bulk_len hd1
  exact one_walk v0 v1 l0 l1 w ht0 ht1 (by omega) hs0 hs1

set_option maxRecDepth 100000 in
theorem contract (H : Type) (enc : TypeId × Value → H) (W : World) (base : Nat) (args : Array Value) (ds gs : List (DataW H)) (before : List MemPlace)
    (hval0 : ∀ (j : Nat) t v, Try.f4.params[j]? = some t → args[j]? = some v → Value.okWide Try.prog W .any base t v)
    (hW : DataW.Whole enc Try.prog Try.f4.params.toList Rows.poolOneSpec.vars false W args.toList ds gs before)
    (hsz0 : (DataW.weightsEach Try.prog (Try.f4.params.toList ++ Rows.poolOneSpec.plain.varTypes Try.prog) (ds ++ gs)).all (· ≤ reachBytes) = true) (hk : Rows.uptoSmall H (ds ++ gs) = true) :
    Calls Try.prog 4 args W fun e W' => ∃ v, e = .returned v ∧ Rows.poolOneSpec.post enc Try.prog Try.f4 false true false false W args v W' := by
  have hval : ∀ (j : Nat) t v, Try.f4.params[j]? = some t → args[j]? = some v → Value.okWide Try.prog W .any base t v := hval0
  have hsz : (DataW.weightsEach Try.prog (Try.f4.params.toList ++ Rows.poolOneSpec.plain.varTypes Try.prog) (ds ++ gs)).all (· ≤ reachBytes) = true := hsz0
  have hW' := hW
  obtain ⟨p, q, hA0, hV, rfl, hfz, hnd⟩ := hW
  have hA : DataW.TrodAll enc Try.prog W 0 (fun _ => true) true Try.f4.params.toList args.toList ds p := hA0
  rw [Try.params4] at hA hval hsz
  obtain ⟨v0, vs0, d0, ds0, p0, q0, hargs, rfl, rfl, h0, r0⟩ := trodAll_cons hA
  obtain ⟨v1, vs1, d1, ds1, p1, q1, rfl, rfl, rfl, h1, r1⟩ := trodAll_cons r0
  obtain ⟨rfl, rfl, rfl⟩ := trodAll_nil r1
  obtain rfl : args = #[v0, v1] := by cases args; simp_all
  obtain ⟨rfl, rfl⟩ := trodVars_none hV
  have k0 := h0
  have lt0 : ∀ x ∈ p0, x.block < W.heap.size := by obtain ⟨m, hm⟩ := k0; exact DataW.trod_lt m _ _ _ hm
  have hwt0 : ∀ n ∈ d0.weights Try.prog 22, n ≤ 140737488351232 := fun n hn => by
    have := of_decide_eq_true (List.all_eq_true.1 hsz _ (DataW.weights_mem_each (j := 0) (t := 22) rfl rfl n hn))
    simpa [reachBytes] using this
  have k1 := h1
  have lt1 : ∀ x ∈ p1, x.block < W.heap.size := by obtain ⟨m, hm⟩ := k1; exact DataW.trod_lt m _ _ _ hm
  have hwt1 : ∀ n ∈ d1.weights Try.prog 22, n ≤ 140737488351232 := fun n hn => by
    have := of_decide_eq_true (List.all_eq_true.1 hsz _ (DataW.weights_mem_each (j := 1) (t := 22) rfl rfl n hn))
    simpa [reachBytes] using this
  have hbulk : Rows.uptoBulk d0 + Rows.uptoBulk d1 ≤ 1048576 := by
    have hb := of_decide_eq_true hk
    simp only [List.append_nil, Rows.uptoBulkAll] at hb
    try simp only [Rows.uptoBulk, Array.length_toList, ByteArray.size_data] at hb
    omega
  clear hA0 hval0
  refine (walk v0 d0 p0 base v1 d1 p1 base W (hval 0 22 v0 rfl rfl) h0 hwt0 (hval 1 22 v1 rfl rfl) h1 hwt1 hbulk).mono fun e W' ⟨he, bel⟩ => ?_
  subst he
  exact ⟨_, rfl, _, _, _, [], _, [], hW', trodAll_mk1 (shut_bool Try.underlying4 _), (trodAll_cons_mk (Below.trod laidOut (by kernel_rfl) (of_decide_eq_true (by kernel_rfl)) k0 bel lt0) (trodAll_cons_mk (Below.trod laidOut (by kernel_rfl) (of_decide_eq_true (by kernel_rfl)) k1 bel lt1) trodAll_mk0)), rfl, bel.frame _, fun h => by cases h⟩

set_option maxRecDepth 100000 in
theorem lifted (os : Os) (started : os.Started) (H : Type) (enc : TypeId × Value → H) (F : Stop.Interp) :
    ReturnsInHanded {} Try.checked os 4 .any ((Rows.OpenSpec.upto Rows.poolOneSpec).pre6 enc Try.prog Try.f4 Rows.poolOneUptoRow.domain false) (((Rows.OpenSpec.upto Rows.poolOneSpec).at F).post enc Try.prog Try.f4 false true false false) := by
  refine returnsInHanded_of_cond_sized (C := Try.checked) (s := Rows.OpenSpec.upto Rows.poolOneSpec) (k := Rows.uptoSmall) rfl own started (by kernel_rfl) Try.func4
    (OpenSpec.witness (enc := enc) (C := Try.checked) (s := Rows.OpenSpec.upto Rows.poolOneSpec) (k := Rows.uptoSmall) rfl false ⟨#[], #[.slice none 0 0, .slice none 0 0], []⟩ 8 (by kernel_rfl) (by kernel_rfl) (by kernel_rfl)
      (x := ([.nil, .nil], [], [])) (by kernel_rfl) rfl (by kernel_rfl)) ?_
  intro W base args ds gs before hval hW _ hk hsz _
  exact contract H enc W base args ds gs before hval hW hsz hk

theorem over : Rows.poolOneUptoRow.holds Try.pinned (Rows.OpenSpec.upto Rows.poolOneSpec) :=
  OpenClaim.holds_of_cond 4 Try.f4 rfl rfl rfl rfl rfl rfl rfl ⟨rfl, rfl, rfl, rfl, rfl⟩ rfl rfl rfl rfl rfl (by kernel_rfl) Try.func4 (by kernel_rfl)
    (of_decide_eq_true (by kernel_rfl)) (by unfold Func.isWrapper; first | (rw [if_pos (by decide +kernel)]; kernel_rfl) | (rw [if_neg (by decide +kernel)]; exact ⟨rfl, rfl⟩))
    (fun os started H enc _ F => lifted os started H enc F)

/-- The statement. -/
theorem proved : Rows.PoolOneUptoSaid := over
#print axioms proved
end Go.Proofs.Ytagekiaejhjpnaa.poolOne
