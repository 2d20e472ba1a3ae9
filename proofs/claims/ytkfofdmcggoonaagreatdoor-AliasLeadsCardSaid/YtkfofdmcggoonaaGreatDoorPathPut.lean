/-
  The walk of path.put. Condition: the steps are small, at most 1000 of them.
-/
import Derived.Test.YtkfofdmcggoonaaGreatDoorPathText
import Derived.Test.YtkfofdmcggoonaaGreatDoorPathParse
set_option linter.unusedVariables false
set_option linter.unusedSimpArgs false
namespace Go.Proofs.YtkfofdmcggoonaaGreatDoor
open Go.RowKit

def putF : List PStep → Bool → Nat → List (List UInt8) → Except Int (Bool × Nat × List (List UInt8))
  | [], sh, sz, ts => .ok (sh, sz, ts)
  | st :: l, sh, sz, ts =>
    if (mayM st).1 = true then putF l (sh && (mayM st).2) (if sz ≤ 513 then sz + ((textL st).length + 1) else sz) (if sz ≤ 513 then ts ++ [textL st] else ts)
    else .error 160
def putM (l : List PStep) : Except Int (List UInt8) := match putF l (decide (l.length ≤ 64)) 0 [] with
  | .error e => .error e
  | .ok (sh, sz, ts) => if sh = true ∧ sz ≤ 513 then .ok (Lib.join ts [47]) else .error 3
def putS (r : Except Int (List UInt8)) : ByteArray := match r with
  | .ok t => str t
  | .error _ => ByteArray.empty
def putE (r : Except Int (List UInt8)) : Int := match r with
  | .ok _ => 0
  | .error e => e
def PutPost (l : List PStep) (w : World) (en : Ending) (w' : World) : Prop := en = .returned (.tuple #[.string (putS (putM l)), .int .i64 (putE (putM l))]) ∧ Below w.heap.size w w'
def PutIn (w : World) (A : Option Addr) (ls : List LRow) (l : List PStep) (vs : List Value) : Prop :=
  ListsAt w A ls ∧ flatL ls = stepCells l vs ∧ sumL ls = l.length ∧ vs.length = l.length ∧
  (∀ (i : Nat) (st : PStep) (kv : Value), l[i]? = some st → vs[i]? = some kv → KeysAt w w.heap.size kv st.2) ∧ (∀ st ∈ l, StepSmall st) ∧ l.length ≤ 600000 ∧ ls.length ≤ 1000
def sumT (ts : List (List UInt8)) : Nat := (ts.map fun t => t.length + 1).sum
theorem joinTail_len (r : List (List UInt8)) : (Lib.joinTail [47] r).length = sumT r := by
  induction r with
  | nil => rfl
  | cons x r ih =>
    simp only [Lib.joinTail, sumT, List.map_cons, List.flatten_cons, List.length_append, List.sum_cons, List.length_cons, List.length_nil] at ih ⊢
    omega
theorem join_len (ts : List (List UInt8)) : (Lib.join ts [47]).length ≤ sumT ts := by
  cases ts with
  | nil => simp [Lib.join_nil]
  | cons x r =>
    rw [Lib.join_cons, List.length_append, joinTail_len]
    simp only [sumT, List.map_cons, List.sum_cons]
    omega
theorem str_back (ts : List (List UInt8)) : (ts.map str).map (fun s => s.data.toList) = ts := by
  rw [List.map_map]
  exact List.map_id'' (fun t => by simp [str]) ts
/-- Where put's loop is. -/
def PutAt (l : List PStep) (base : Nat) (wA : World) (v4 : Value) (cs : List Value) (p : Nat) (sh : Bool) (sz : Nat) (ts : List (List UInt8)) (v : Value) (wr : World) : Prop :=
  p ≤ l.length ∧ (sz ≤ 2600000000000 ∧ sz = sumT ts) ∧ ts.length ≤ p ∧ putF l (decide (l.length ≤ 64)) 0 [] = putF (l.drop p) sh sz ts ∧
  wr.ownsRow base 70 2 v4 l.length cs ∧ wr.ownsRow base 9 1 v ts.length (ts.map fun t => .string (str t)) ∧ Below base wA wr
theorem string_info : (Tryz.prog.info? 9).map (fun i => (i.zero, i.size, i.bytes)) = some (some (.string ByteArray.empty), 1, 16) := by kernel_rfl

theorem own_reads {w : World} {base : Nat} {e : TypeId} {size n c : Nat} {A : Option Addr} {xs : List Value} (h : w.ownsRow base e size (.slice A n c) n xs) : Reads w w.heap.size size A n xs := by
  obtain ⟨A', c', heq, -, -, hrd⟩ := own_form h
  cases heq
  exact hrd
theorem KeysAt.more {w w' : World} {B B' : Nat} {v : Value} {ks : List PKey} (h : KeysAt w B v ks) (hb : Below B w w') (hB : B ≤ B') : KeysAt w' B' v ks := by
  obtain ⟨A, c, e, h1, h2, h3⟩ := h
  exact ⟨A, c, e, h1, h2, (h3.below hb).more hB⟩
theorem StepSmall.keys {st : PStep} (h : StepSmall st) : KeysSmall st.2 ∧ st.1.size ≤ 140737488355328 :=
  ⟨⟨by have := h.2.1; omega, fun k hk => by have := h.2.2 k hk; omega⟩, by have := h.1; omega⟩
theorem putF_step {l : List PStep} {p : Nat} {st : PStep} {sh : Bool} {sz : Nat} {ts : List (List UInt8)} (h : l[p]? = some st) : putF (l.drop p) sh sz ts =
    if (mayM st).1 = true then putF (l.drop (p + 1)) (sh && (mayM st).2) (if sz ≤ 513 then sz + ((textL st).length + 1) else sz) (if sz ≤ 513 then ts ++ [textL st] else ts) else .error 160 := by
  obtain ⟨hlt, rfl⟩ := List.getElem?_eq_some_iff.1 h
  rw [List.drop_eq_getElem_cons hlt]
  rfl
set_option maxHeartbeats 4000000 in
theorem put_any (A : Option Addr) (m c : Nat) (ls : List LRow) (l : List PStep) (vs : List Value) (w : World) (hm : ls.length = m) (hP : PutIn w A ls l vs) :
    Calls Tryz.prog 53 #[.slice A m c] w (PutPost l w) := by
  obtain ⟨hL, hflat, hsum, hvl, hK, hS, hn, hln⟩ := hP
  have HC := Lib.hid (concat_any A m c ls w hm hL (by omega) (by omega))
  have HK := Lib.hid hK
  have HS := Lib.hid hS
  have HV := Lib.hid hvl
  have HFS := Lib.hid (And.intro hflat hsum)
  have HLN := Lib.hid hn
  clear hL hflat hsum hvl hK hS hln hm
  go_enter Tryz.func53, Tryz.ntmps53
  go_upto_region 2 with (go_at_call 78; go_loud (refine HC.out.mono ?_; rintro en w1 ⟨v4, rfl, hO1, hB1⟩; rw [HFS.out.1, HFS.out.2] at hO1; have HO1 := Lib.hid hO1; have HB1 := Lib.hid hB1; obtain ⟨A4, c4, rfl, -, -, -⟩ := own_form hO1; clear hO1 hB1))
  have hn1 : (l.length : Int) ≤ 600000 := by omega
  have HQ0 := Lib.hid (show (decide ((l.length : Int) ≤ 64)) = decide (l.length ≤ 64) by rw [decide_eq_decide]; omega)
  go_wp2
  generalize (decide ((l.length : Int) ≤ 64)) = sh0 at *
  go_loopw [5, 6, 7, 9, 10, 11, 12, 20] (fun sv zv tv _ _ _ _ iv W => ∃ (p : Nat) (sh : Bool) (sz : Nat) (ts : List (List UInt8)), sv = .bool sh ∧ zv = .int .i64 (sz : Int) ∧ iv = .int .i64 (p : Int) ∧ PutAt l w.heap.size w1 (.slice A4 l.length c4) (stepCells l vs) p sh sz ts tv W) (fun _ _ _ _ _ _ _ iv _ => l.length - (Lib.intOf iv).toNat)
  case atStart => exact ⟨0, sh0, 0, [], rfl, rfl, rfl, Nat.zero_le _, ⟨Nat.zero_le _, rfl⟩, Nat.zero_le _, by rw [HQ0.out]; rfl, HO1.out, World.ownsRow_nil _ _ _ _, Below.refl _ _⟩
  case round =>
    obtain ⟨p, sh, sz, ts, rfl, rfl, rfl, hp, ⟨hsz, hsum⟩, htl, hF, hrow, htx, hB⟩ := hrel
    have HSUM := Lib.hid hsum
    clear hsum
    obtain ⟨A7, c7, rfl, -, -, -⟩ := own_form htx
    have HF := Lib.hid hF
    have HROW := Lib.hid hrow
    have HTX := Lib.hid htx
    have HB := Lib.hid hB
    have HSZ := Lib.hid (And.intro hsz htl)
    clear hF hrow htx hB
    have hszi : (sz : Int) ≤ 2600000000000 := by omega
    clear hsz htl
    by_cases hlt : p < l.length
    · obtain ⟨st, hst⟩ : ∃ st, l[p]? = some st := ⟨l[p], by simp [hlt]⟩
      obtain ⟨kv, hkv⟩ : ∃ kv, vs[p]? = some kv := ⟨vs[p]'(by have := HV.out; omega), by have := HV.out; simp [this, hlt]⟩
      have hq : (p : Int) < (l.length : Int) := by omega
      have hk := HK.out p st kv hst hkv
      have hs := HS.out st (List.mem_of_getElem? hst)
      obtain ⟨b, o, rfl, hbo, hcells⟩ := Reads.spot (own_reads HROW.out) (by omega) (by omega)
      have hat := stepCells_at l vs p st kv hst hkv
      have r0 := hcells _ _ hat.1
      have hw1 : w.heap.size ≤ wr.heap.size := Nat.le_trans HB1.out.size HB.out.size
      have HKA := Lib.hid (hk.more ((HB1.out.trans HB.out).alloc hw1 (.cells #[.string st.1, kv] 70)) (show w.heap.size ≤ (wr.alloc (.cells #[.string st.1, kv] 70)).heap.size by simp; omega))
      obtain ⟨Ak, ck, rfl, -, -, -⟩ := hk
      have r1 : wr.cell? ⟨b, o + p * 2 + 1, none⟩ = some (.slice Ak st.2.length ck) := hcells _ _ hat.2
      have HBK := Lib.hid (Blk.new wr 70 #[.string st.1, .slice Ak st.2.length ck])
      have HMAY := Lib.hid (may_any st _ _ HKA.out hs.keys.1 hs.keys.2)
      have HW1 := Lib.hid hw1
      have HSS := Lib.hid hs
      have HST := Lib.hid (putF_step (sh := sh) (sz := sz) (ts := ts) hst)
      clear hcells hat hw1 hs hst hkv
      have HBW := Lib.hid (show Below w.heap.size w (wr.alloc (.cells #[.string st.1, .slice Ak st.2.length ck] 70)) from (HB1.out.trans HB.out).alloc HW1.out _)
      have HWA := Lib.hid (show w.heap.size ≤ (wr.alloc (.cells #[.string st.1, .slice Ak st.2.length ck] 70)).heap.size by have := HW1.out; simp; omega)
      cases hok : (mayM st).1
      · have HM := Lib.hid (show putM l = .error 160 by unfold putM; rw [HF.out, HST.out, hok]; rfl)
        have HMP := Lib.hid (show ∀ en W, MayPost st (wr.alloc (.cells #[.string st.1, .slice Ak st.2.length ck] 70)) en W → en = .returned (.tuple #[.bool false, .bool (mayM st).2]) ∧ Below (wr.alloc (.cells #[.string st.1, .slice Ak st.2.length ck] 70)).heap.size (wr.alloc (.cells #[.string st.1, .slice Ak st.2.length ck] 70)) W from fun en W h => by
          unfold MayPost at h
          rw [hok] at h
          exact h)
        clear hok
        go_wp2_with (go_at_call 79; go_loud (refine HMAY.out.mono ?_; intro en w2 h2; obtain ⟨rfl, hB2⟩ := HMP.out _ _ h2; have HB2 := Lib.hid hB2; clear h2 hB2))
        go_ret2
        exact ⟨by rw [HM.out]; rfl, HBW.out.trans (HB2.out.mono HWA.out)⟩
      · have HMP := Lib.hid (show ∀ en W, MayPost st (wr.alloc (.cells #[.string st.1, .slice Ak st.2.length ck] 70)) en W → en = .returned (.tuple #[.bool true, .bool (mayM st).2]) ∧ Below (wr.alloc (.cells #[.string st.1, .slice Ak st.2.length ck] 70)).heap.size (wr.alloc (.cells #[.string st.1, .slice Ak st.2.length ck] 70)) W from fun en W h => by
          unfold MayPost at h
          rw [hok] at h
          exact h)
        have HF2 := Lib.hid (HF.out.trans (HST.out.trans (if_pos hok)))
        clear hok HF HST
        generalize (mayM st).2 = fits at *
        have HTX1 := Lib.hid (HTX.out.alloc (.cells #[.string st.1, .slice Ak st.2.length ck] 70))
        have HROW1 := Lib.hid (HROW.out.alloc (.cells #[.string st.1, .slice Ak st.2.length ck] 70))
        clear HTX HROW
        cases sh
        all_goals
          go_upto_region 12 with (go_at_call 79; go_loud (refine HMAY.out.mono ?_; intro en w2 h2; obtain ⟨rfl, hB2⟩ := HMP.out _ _ h2; have HB2 := Lib.hid hB2; have HK2 := Lib.hid (HBK.out.below hB2 (Blk.lt HBK.out)); have HTX2 := Lib.hid (own_more HTX1.out hB2); have HROW2 := Lib.hid (own_more HROW1.out hB2); clear h2 hB2 HTX1 HROW1))
          have k90 : w2.cell? ⟨wr.heap.size, 0, none⟩ = some (.string st.1) := HK2.out.cell 0
          have k91 : w2.cell? ⟨wr.heap.size, 1, none⟩ = some (.slice Ak st.2.length ck) := HK2.out.cell 1
          have HTE := Lib.hid (text_any st (.slice Ak st.2.length ck) w2 (HKA.out.more HB2.out HB2.out.size) HSS.out)
          have HTL := Lib.hid (textL_len HSS.out)
          clear HMAY HMP HKA HBK
          have HFF := Lib.hid HF2.out
          clear HF2
          go_upto_region 13 with (go_at_call 80; go_loud (refine HTE.out.mono ?_; rintro en w3 ⟨rfl, hB3⟩; have HB3 := Lib.hid hB3; have HTX3 := Lib.hid (own_more HTX2.out hB3); have HROW3 := Lib.hid (own_more HROW2.out hB3); clear hB3 HTX2 HROW2))
          generalize textL st = T at *
          have htb : (str T).size = T.length := by show T.toArray.size = T.length; simp
          have HW2 := Lib.hid (show w.heap.size ≤ w2.heap.size from Nat.le_trans HWA.out HB2.out.size)
          have HBX := Lib.hid (show Below w.heap.size w1 w3 from ((HB.out.alloc HW1.out _).trans (HB2.out.mono HWA.out)).trans (HB3.out.mono HW2.out))
          have HTB := Lib.hid htb
          have htbi : ((str T).size : Int) ≤ 2500000000000 := by have := HTL.out; omega
          clear htb
          by_cases h513 : sz ≤ 513
          · have hq2 : (sz : Int) ≤ 513 := by omega
            have HF5 := Lib.hid HFF.out
            have H5 := Lib.hid h513
            obtain ⟨i0, hi0, hz0, hz1, hz2⟩ := info_parts string_info
            have HRD := Lib.hid (reads_new w3 #[.string (str T)] 9 1 1 rfl)
            have HT4 := Lib.hid (HTX3.out.alloc (.cells #[.string (str T)] 9))
            have HR4 := Lib.hid (HROW3.out.alloc (.cells #[.string (str T)] 9))
            have HB4 := Lib.hid (show w.heap.size ≤ (w3.alloc (.cells #[.string (str T)] 9)).heap.size by have := HB3.out.size; have := HB2.out.size; have := HWA.out; simp only [World.size_alloc] at *; omega)
            clear h513 HTX3 HROW3 HFF
            go_wp2_with (at_builtin; go_loud (refine wpList_append_any _ rfl (.tmp 39) (.tmp 41) _ rfl w.heap.size 9 i0 _ 1 16 Tryz.underlying37 hi0 hz0 hz1 hz2 rfl (by omega) _ ts.length (ts.map fun t => .string (str t)) rfl HT4.out (w3.heap.size + 1) (some ⟨w3.heap.size, 0, none⟩) 1 1 [.string (str T)] rfl (HRD.out) (by simp [Value.oneCell']) (by have := HSZ.out; simp only [maxLen]; omega) (by have := HSZ.out; omega) HB4.out ?_); intro v3 w5 hown3 hg3 hat3; have HO5 := Lib.hid hown3; have HG5 := Lib.hid hg3; clear hown3 hg3 hat3)
            refine ⟨⟨p + 1, _, sz + (T.length + 1), ts ++ [T], rfl, by rw [HTB.out]; simp, by simp, hlt, ⟨by have := H5.out; have := HTL.out; omega, by rw [HSUM.out]; simp [sumT]⟩, by have := HSZ.out.2; simp; omega, ?_, ?_, ?_, ?_⟩, by simp [Lib.intOf]; omega⟩
            · rw [HF5.out, if_pos H5.out, if_pos H5.out]
              rfl
            · refine HR4.out.kept HG5.out ?_
              cases hv : (Value.slice (some ⟨b, o, none⟩) l.length c4).ownBlock with
              | none => exact .inl rfl
              | some k => exact .inr fun e => own_other HR4.out HT4.out (by decide) k hv e.symm
            · rw [List.length_append, List.map_append]
              exact HO5.out
            · exact (HBX.out.alloc (Nat.le_trans HW2.out HB3.out.size) _).grown HG5.out HB4.out (fun k hk => (HT4.out.lt k hk).1)
          · have hq2 : ¬ (sz : Int) ≤ 513 := by omega
            have HF5 := Lib.hid HFF.out
            have H5 := Lib.hid h513
            clear h513 HFF
            go_wp2
            refine ⟨⟨p + 1, _, sz, ts, rfl, rfl, by simp, hlt, ⟨HSZ.out.1, HSUM.out⟩, by have := HSZ.out.2; omega, ?_, HROW3.out, HTX3.out, HBX.out⟩, by simp [Lib.intOf]; omega⟩
            rw [HF5.out, if_neg H5.out, if_neg H5.out]
            rfl
    · obtain rfl : p = l.length := by omega
      have hq : ¬ (l.length : Int) < (l.length : Int) := by omega
      have hF2 : putF l (decide (l.length ≤ 64)) 0 [] = .ok (sh, sz, ts) := by
        rw [HF.out, List.drop_length]
        rfl
      have HF2 := Lib.hid hF2
      have HBW := Lib.hid (HB1.out.trans HB.out)
      clear hF2 HF
      cases sh
      · have HM := Lib.hid (show putM l = .error 3 by unfold putM; rw [HF2.out]; simp)
        go_wp2
        go_ret2
        exact ⟨by rw [HM.out]; rfl, HBW.out⟩
      · by_cases h513 : sz ≤ 513
        · have HM := Lib.hid (show putM l = .ok (Lib.join ts [47]) by unfold putM; rw [HF2.out]; simp [h513])
          have hq2 : ¬ (512 : Int) < (sz : Int) - 1 := by omega
          have HJL := Lib.hid (show (Lib.join ts [47]).length ≤ 513 by have := join_len ts; have := HSUM.out; omega)
          clear h513
          cases hts : ts with
          | nil =>
            subst hts
            have HJ := Lib.hid (sj_none A7 c7 ⟨#[47]⟩ wr)
            go_wp2_with (go_at_call 81; go_loud (refine HJ.out.mono ?_; rintro en w5 ⟨rfl, rfl⟩))
            go_ret2
            exact ⟨by rw [HM.out]; rfl, HBW.out⟩
          | cons t0 tr =>
            rw [← hts]
            obtain ⟨bk, o, rfl, hbk, hcells⟩ := Reads.spot (own_reads HTX.out) (by rw [hts]; simp) (by omega)
            have hJ := sj_any bk o c7 (ts.map str) ⟨#[47]⟩ wr (fun j x hx => hcells j _ (by
              rw [List.getElem?_map] at hx ⊢
              cases hj : ts[j]? with
              | none => rw [hj] at hx; simp at hx
              | some y => rw [hj] at hx; simp at hx ⊢; exact hx)) hbk (by rw [List.length_map]; have := HSZ.out.2; omega) (by
                obtain ⟨A', c', heq, h1, -, -⟩ := own_form HTX.out
                cases heq
                rw [List.length_map]
                exact h1) (by rw [str_back]; exact Nat.le_trans HJL.out (by omega))
            rw [List.length_map, str_back] at hJ
            have HJ := Lib.hid hJ
            clear hJ hcells hts
            go_wp2_with (go_at_call 81; go_loud (refine HJ.out.mono ?_; rintro en w5 ⟨rfl, hB5⟩))
            go_ret2
            exact ⟨by rw [HM.out]; rfl, HBW.out.trans (hB5.mono HBW.out.size)⟩
        · have HM := Lib.hid (show putM l = .error 3 by unfold putM; rw [HF2.out]; simp [h513])
          have hq2 : (512 : Int) < (sz : Int) - 1 := by omega
          clear h513
          go_wp2
          go_ret2
          exact ⟨by rw [HM.out]; rfl, HBW.out⟩
end Go.Proofs.YtkfofdmcggoonaaGreatDoor
