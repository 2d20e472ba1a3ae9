/-
  The walk of the document's Print: what path.put answers. Condition: the steps are small, at most 1000 of them.
-/
import Derived.Test.YtkfofdmcggoonaaGreatDoorRefMay
import Derived.Test.YtkfofdmcggoonaaGreatDoorRefText
import Derived.Test.YtkfofdmcggoonaaGreatDoorPathRT
import Derived.Test.YtkfofdmcggoonaaGreatDoorPathPrint
namespace Go.Proofs.YtkfofdmcggoonaaGreatDoor
set_option linter.unusedVariables false
set_option linter.unusedSimpArgs false
open Go.RowKit

theorem putF_bad : ∀ (l : List PStep) (sh : Bool) (sz : Nat) (ts : List (List UInt8)), (∃ st ∈ l, (mayM st).1 = false) → putF l sh sz ts = .error 160
  | [], _, _, _, ⟨_, h, _⟩ => by cases h
  | st :: l, sh, sz, ts, ⟨x, hx, hb⟩ => by
    simp only [putF]
    cases hm : (mayM st).1
    · simp
    · rw [if_pos rfl]
      refine putF_bad l _ _ _ ?_
      rcases List.mem_cons.1 hx with rfl | hx
      · rw [hm] at hb; cases hb
      · exact ⟨x, hx, hb⟩
theorem putF_fine : ∀ (l : List PStep) (sh : Bool) (sz : Nat) (ts : List (List UInt8)), (∀ st ∈ l, (mayM st).1 = true) → ∃ y, putF l sh sz ts = .ok y
  | [], sh, sz, ts, _ => ⟨_, rfl⟩
  | st :: l, sh, sz, ts, h => by
    simp only [putF]
    rw [if_pos (h st (by simp))]
    exact putF_fine l _ _ _ fun x hx => h x (by simp [hx])
theorem joinLen (ts : List (List UInt8)) : (Lib.join ts [47]).length = sumT ts - 1 := by
  cases ts with
  | nil => rfl
  | cons x r =>
    rw [Lib.join_cons, List.length_append, joinTail_len]
    simp only [sumT, List.map_cons, List.sum_cons]
    omega
theorem join_snoc (xs : List (List UInt8)) (y : List UInt8) : Lib.join (xs ++ [y]) [47] = if xs = [] then y else Lib.join xs [47] ++ [47] ++ y := by
  cases xs with
  | nil => simp [Lib.join_one]
  | cons x r =>
    rw [if_neg (by simp), List.cons_append, Lib.join_cons, Lib.join_cons]
    simp [Lib.joinTail]
/-- What Print says of steps that may be. -/
def longM (l : List PStep) : Bool := decide (64 < l.length) || l.any (fun st => !(mayM st).2)
theorem print_bad {l : List PStep} {st : PStep} (h : st ∈ l) (hb : (mayM st).1 = false) : putM l = .error 160 := by
  unfold putM
  rw [putF_bad l _ _ _ ⟨st, h, hb⟩]
theorem print_long {l : List PStep} (h : ∀ st ∈ l, (mayM st).1 = true) (hl : longM l = true ∨ 512 < (Lib.join (l.map textL) [47]).length) : putM l = .error 3 := by
  obtain ⟨⟨sh, sz, ts⟩, hy⟩ := putF_fine l (decide (l.length ≤ 64)) 0 [] h
  cases hp : putM l with
  | ok t =>
    obtain ⟨h1, h2, h3, h4⟩ := putM_inv hp
    rcases hl with hl | hl
    · unfold longM at hl
      simp only [Bool.or_eq_true, decide_eq_true_eq, List.any_eq_true] at hl
      rcases hl with hl | ⟨st, hs, hb⟩
      · omega
      · rw [h1 st hs] at hb; cases hb
    · rw [joinLen] at hl; omega
  | error e =>
    unfold putM at hp
    rw [hy] at hp
    simp only at hp
    split at hp
    · cases hp
    · cases hp; rfl
theorem print_ok {l : List PStep} (h : ∀ st ∈ l, (mayM st).1 = true) (hl : longM l = false) (hz : (Lib.join (l.map textL) [47]).length ≤ 512) : putM l = .ok (Lib.join (l.map textL) [47]) := by
  unfold longM at hl
  simp only [Bool.or_eq_false_iff, decide_eq_false_iff_not, List.any_eq_false] at hl
  refine putM_go (fun st hs => ?_) (by omega) (by rw [joinLen] at hz; omega)
  have h1 := h st hs
  have h2 := hl.2 st hs
  cases hm : mayM st with
  | mk a b =>
    rw [hm] at h1 h2
    simp only at h1
    subst h1
    cases b
    · exact absurd rfl h2
    · rfl
/-- Where Print's loop is. -/
def RPrintAt (l : List PStep) (w : World) (p : Nat) (lg : Bool) (X : ByteArray) (wr : World) : Prop :=
  p ≤ l.length ∧ lg = (decide (64 < l.length) || (l.take p).any (fun st => !(mayM st).2)) ∧ X = str (Lib.join ((l.take p).map textL) [47]) ∧ (∀ st ∈ l.take p, (mayM st).1 = true) ∧ Below w.heap.size w wr
theorem printAt_len {l : List PStep} (hs : ∀ st ∈ l, StepSmall st) (p : Nat) (hp : p ≤ 600000) : (Lib.join ((l.take p).map textL) [47]).length ≤ 1600000000000000000 := by
  have aux : ∀ m : List PStep, (∀ st ∈ m, StepSmall st) → sumT (m.map textL) ≤ m.length * 2500000000001 := by
    intro m
    induction m with
    | nil => intro _; simp [sumT]
    | cons x m ih =>
      intro h
      have h1 := textL_len (h x (by simp))
      have h2 := ih fun y hy => h y (by simp [hy])
      simp only [sumT, List.map_cons, List.sum_cons, List.length_cons] at h2 ⊢
      omega
  have h1 := aux (l.take p) fun st h => hs st (List.mem_of_mem_take h)
  have h2 := List.length_take_le p l
  rw [joinLen]
  omega
theorem printAt_next {l : List PStep} {w wr W : World} {p : Nat} {lg : Bool} {X : ByteArray} {st : PStep} (h : RPrintAt l w p lg X wr) (hst : l[p]? = some st) (hm : (mayM st).1 = true) (hW : Below w.heap.size w W) :
    RPrintAt l w (p + 1) (lg || !(mayM st).2) ((if p = 0 then X else X ++ (⟨#[47]⟩ : ByteArray)) ++ str (textL st)) W := by
  obtain ⟨h1, h2, h3, h4, h5⟩ := h
  obtain ⟨hlt, rfl⟩ := List.getElem?_eq_some_iff.1 hst
  have ht : l.take (p + 1) = l.take p ++ [l[p]] := by rw [List.take_add_one, hst]; rfl
  refine ⟨hlt, by rw [h2, ht, List.any_append]; simp only [List.any_cons, List.any_nil, Bool.or_false, Bool.or_assoc], ?_, ?_, hW⟩
  · rw [ht, List.map_append, List.map_cons, List.map_nil, join_snoc, h3]
    apply ba_data
    by_cases hp : p = 0
    · subst hp
      simp [str_list, Lib.join_nil]
    · rw [if_neg hp, if_neg (by intro e; have := congrArg List.length e; simp only [List.length_map, List.length_take, List.length_nil] at this; omega)]
      simp [str_list]
  · intro x hx
    rw [ht] at hx
    rcases List.mem_append.1 hx with hx | hx
    · exact h4 x hx
    · simp at hx
      subst hx
      exact hm
set_option maxHeartbeats 8000000 in
set_option maxRecDepth 100000 in
theorem rprint_any (v : Value) (l : List PStep) (vs : List Value) (w : World) (hR : StepsR w v l vs) (hS : ∀ st ∈ l, StepSmall st) (hn : l.length ≤ 600000) :
    Calls Tryz.prog 31 #[v] w (PutPost l w) := by
  obtain ⟨A, c, rfl, -, -, hRd, hvl, hK⟩ := hR
  have HRd := Lib.hid hRd
  have HV := Lib.hid hvl
  have HK := Lib.hid hK
  have HS := Lib.hid hS
  clear hRd hvl hK hS
  have hn1 : (l.length : Int) ≤ 600000 := by omega
  have HQ0 := Lib.hid (show (decide ((64 : Int) < (l.length : Int))) = decide (64 < l.length) by rw [decide_eq_decide]; omega)
  go_enter Tryz.func31, Tryz.ntmps31
  go_wp2
  generalize (decide ((64 : Int) < (l.length : Int))) = lg0 at *
  go_loopw [4, 5, 6, 7, 8, 9, 15] (fun lv ov _ _ _ _ iv wr => ∃ (p : Nat) (lg : Bool) (X : ByteArray), lv = .bool lg ∧ ov = .string X ∧ iv = .int .i64 (p : Int) ∧ RPrintAt l w p lg X wr) (fun _ _ _ _ _ _ iv _ => l.length - (Lib.intOf iv).toNat)
  case atStart => exact ⟨0, _, _, rfl, rfl, rfl, Nat.zero_le _, by rw [HQ0.out]; simp, rfl, by simp, Below.refl _ _⟩
  case round =>
    obtain ⟨p, lg, X, rfl, rfl, rfl, hA⟩ := hrel
    have hp := hA.1
    have HA := Lib.hid hA
    clear hA
    by_cases hlt : p < l.length
    · obtain ⟨st, hst⟩ : ∃ st, l[p]? = some st := ⟨l[p], by simp [hlt]⟩
      obtain ⟨kv, hkv⟩ : ∃ kv, vs[p]? = some kv := ⟨vs[p]'(by have := HV.out; omega), by have := HV.out; simp [this, hlt]⟩
      have hq : (p : Int) < (l.length : Int) := by omega
      have hB := HA.out.2.2.2.2
      have hk := (HK.out p st kv hst hkv).more hB hB.size
      obtain ⟨b, o, rfl, hbo, hcells⟩ := (HRd.out.below hB).spot (by omega) (by omega)
      have hat := stepCells_at l vs p st kv hst hkv
      have r0 := hcells _ _ hat.1
      have HKA := Lib.hid (hk.more ((Below.refl _ wr).alloc (Nat.le_refl _) (.cells #[.string st.1, kv] 70)) (show wr.heap.size ≤ (wr.alloc (.cells #[.string st.1, kv] 70)).heap.size by simp))
      obtain ⟨Ak, ck, rfl, -, -, -⟩ := hk
      have r1 : wr.cell? ⟨b, o + p * 2 + 1, none⟩ = some (.slice Ak st.2.length ck) := hcells _ _ hat.2
      have HBK := Lib.hid (Blk.new wr 70 #[.string st.1, .slice Ak st.2.length ck])
      have HSS := Lib.hid (HS.out st (List.mem_of_getElem? hst))
      have HMAY := Lib.hid (rmay_any st _ _ HKA.out HSS.out)
      have HB := Lib.hid (hB.alloc hB.size (.cells #[.string st.1, .slice Ak st.2.length ck] 70))
      have HWS := Lib.hid hB.size
      have HST := Lib.hid hst
      have HXL := Lib.hid (show X.size ≤ 1600000000000000000 by rw [HA.out.2.2.1, str_size]; exact printAt_len HS.out p (by omega))
      clear hcells hat hB hst hkv
      cases hok : (mayM st).1
      · have HM := Lib.hid (print_bad (List.mem_of_getElem? HST.out) hok)
        have HMP := Lib.hid (show ∀ en W, RMayPost st (wr.alloc (.cells #[.string st.1, .slice Ak st.2.length ck] 70)) en W → ∃ b, en = .returned (.tuple #[.bool false, .bool b]) ∧ Below (wr.alloc (.cells #[.string st.1, .slice Ak st.2.length ck] 70)).heap.size (wr.alloc (.cells #[.string st.1, .slice Ak st.2.length ck] 70)) W from fun en W ⟨h1, h2⟩ => by
          rcases h2 with ⟨-, b, h⟩ | ⟨h, -⟩
          · exact ⟨b, h, h1⟩
          · rw [hok] at h; cases h)
        clear hok
        go_wp2_with (go_at_call 55; go_loud (refine HMAY.out.mono ?_; intro en w2 h2; obtain ⟨b9, rfl, hB2⟩ := HMP.out _ _ h2; have HB2 := Lib.hid hB2; clear h2 hB2))
        go_ret2
        exact ⟨by rw [HM.out]; rfl, HB.out.trans (HB2.out.mono (by have := HWS.out; simp; omega))⟩
      · have HMP := Lib.hid (show ∀ en W, RMayPost st (wr.alloc (.cells #[.string st.1, .slice Ak st.2.length ck] 70)) en W → en = .returned (.tuple #[.bool true, .bool (!(mayM st).2)]) ∧ Below (wr.alloc (.cells #[.string st.1, .slice Ak st.2.length ck] 70)).heap.size (wr.alloc (.cells #[.string st.1, .slice Ak st.2.length ck] 70)) W from fun en W ⟨h1, h2⟩ => by
          rcases h2 with ⟨h, -⟩ | ⟨-, h⟩
          · rw [hok] at h; cases h
          · exact ⟨h, h1⟩)
        have HNX := Lib.hid (fun W hW => printAt_next (W := W) HA.out HST.out hok hW)
        clear hok
        generalize (!(mayM st).2) = over at *
        cases lg
        all_goals
          go_upto_region 10 with (go_at_call 55; go_loud (refine HMAY.out.mono ?_; intro en w2 h2; obtain ⟨rfl, hB2⟩ := HMP.out _ _ h2; have HB2 := Lib.hid hB2; have HK2 := Lib.hid (HBK.out.below hB2 (Blk.lt HBK.out)); clear h2 hB2))
          have k90 : w2.cell? ⟨wr.heap.size, 0, none⟩ = some (.string st.1) := HK2.out.cell 0
          have k91 : w2.cell? ⟨wr.heap.size, 1, none⟩ = some (.slice Ak st.2.length ck) := HK2.out.cell 1
          have HTE := Lib.hid (show Calls Tryz.prog 56 #[.agg #[.string st.1, .slice Ak st.2.length ck]] w2 (fun en w' => en = .returned (.string (str (textL st))) ∧ Below w2.heap.size w2 w') from rtext_any st (.slice Ak st.2.length ck) w2 (HKA.out.more HB2.out HB2.out.size) HSS.out)
          have htl : (str (textL st)).size ≤ 2500000000000 := by rw [str_size]; exact textL_len HSS.out
          have HBW := Lib.hid (show Below w.heap.size w w2 from HB.out.trans (HB2.out.mono (by have := HWS.out; simp; omega)))
          generalize str (textL st) = T at *
          have hxl := HXL.out
          have hc0 : ¬ 9223372036854775807 < X.size + 1 := by omega
          have hc1 : ¬ 9223372036854775807 < X.size + T.size := by omega
          have hc2 : ¬ 9223372036854775807 < X.size + 1 + T.size := by omega
          by_cases hp0 : p = 0
          · have hd : decide (0 < p) = false := by simp [hp0]
            have hd2 : ¬ 0 < p := by omega
            have HP0 := Lib.hid hp0
            clear hp0
            go_wp2_with (go_at_call 56; go_loud (refine HTE.out.mono ?_; rintro en w3 ⟨rfl, hB3⟩; have HB3 := Lib.hid hB3; clear hB3))
            go_roundw
            case rel =>
              have h9 := HNX.out w3 (HBW.out.trans (HB3.out.mono HBW.out.size))
              rw [if_pos HP0.out] at h9
              exact ⟨p + 1, _, _, rfl, rfl, by go_num, by simpa using h9⟩
            case measure => simp [Lib.intOf]; omega
          · have hd : decide (0 < p) = true := by simp; omega
            have hd2 : 0 < p := by omega
            have HP0 := Lib.hid hp0
            clear hp0
            go_wp2_with (go_at_call 56; go_loud (refine HTE.out.mono ?_; rintro en w3 ⟨rfl, hB3⟩; have HB3 := Lib.hid hB3; clear hB3))
            go_roundw
            case rel =>
              have h9 := HNX.out w3 (HBW.out.trans (HB3.out.mono HBW.out.size))
              rw [if_neg HP0.out] at h9
              exact ⟨p + 1, _, _, rfl, rfl, by go_num, by simpa using h9⟩
            case measure => simp [Lib.intOf]; omega
    · obtain rfl : p = l.length := by omega
      have hq : ¬ (l.length : Int) < (l.length : Int) := by omega
      obtain ⟨-, h2, h3, h4, h5⟩ := HA.out
      rw [List.take_of_length_le (Nat.le_refl _)] at h2 h3 h4
      have HB := Lib.hid h5
      have hxs : X.size = (Lib.join (l.map textL) [47]).length := by rw [h3, str_size]
      cases lg
      · by_cases h512 : 512 < X.size
        · have HM := Lib.hid (print_long h4 (.inr (by omega)))
          have hq2 : (512 : Int) < (X.size : Int) := by omega
          clear h2 h3 h4 h5 h512 hxs
          go_wp2
          go_ret2
          exact ⟨by rw [HM.out]; rfl, HB.out⟩
        · have HM := Lib.hid (print_ok h4 h2.symm (by omega))
          have HX := Lib.hid h3
          have hq2 : ¬ (512 : Int) < (X.size : Int) := by omega
          clear h2 h3 h4 h5 h512 hxs
          go_wp2
          go_ret2
          exact ⟨by rw [HM.out, HX.out]; rfl, HB.out⟩
      · have HM := Lib.hid (print_long h4 (.inl h2.symm))
        clear h2 h3 h4 h5 hxs
        go_wp2
        go_ret2
        exact ⟨by rw [HM.out]; rfl, HB.out⟩
end Go.Proofs.YtkfofdmcggoonaaGreatDoor
