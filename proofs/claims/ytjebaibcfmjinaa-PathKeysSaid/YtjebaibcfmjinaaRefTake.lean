/-
  The walks of the document's Take and Without. Condition: the path is within the reach.
-/
import Derived.Test.YtjebaibcfmjinaaRefPut
import Derived.Test.YtjebaibcfmjinaaRefParse
import Derived.Test.YtjebaibcfmjinaaRefPrint
namespace Go.Proofs.Ytjebaibcfmjinaa
open Go.RowKit

theorem take_result {tmps : Array Value} {w : World} {r0 : Nat} {nm : ByteArray} {v : Value} {b : Bool} (hB : Blk w r0 40 #[.string nm, v]) (hp : tmps.getD 4 undef = .pointer (some ⟨r0, 0, none⟩)) (hu : tmps.getD 5 undef = .bool b) :
    (results Try.f47 tmps).run Try.prog w = .ok (.tuple #[.agg #[.string nm, v], .bool b]) w :=
  results_row_tmp Try.results47 tmps w r0 40 #[.string nm, v] _ hp hB Try.underlying40 rfl step_info hu
def RTakePost (st : PStep) (key : ByteArray) (w : World) (en : Ending) (w' : World) : Prop := ∃ v, en = .returned (.tuple #[.agg #[.string st.1, v], .bool (decide ((dropK st.2 key).length < st.2.length))]) ∧
  w'.ownsRow w.heap.size 51 2 v (dropK st.2 key).length (pairCells (dropK st.2 key)) ∧ Below w.heap.size w w'
/-- Where Take's loop is. -/
def RTakeAt (w : World) (base r2 r6 r7 : Nat) (nm : ByteArray) (av : Value) (ks : List PKey) (key : ByteArray) (p : Nat) (W : World) : Prop :=
  ∃ v, MakeX w base r6 r7 nm (dropK (ks.take p) key) v W ∧ p ≤ ks.length ∧ Blk W r2 40 #[.string nm, av]
set_option maxHeartbeats 16000000 in
set_option maxRecDepth 100000 in
theorem rtake_any (st : PStep) (key : ByteArray) (v : Value) (w : World) (hk : KeysAt w w.heap.size v st.2) (hs : st.2.length ≤ 1000000) :
    Calls Try.prog 47 #[.agg #[.string st.1, v], .string key] w (RTakePost st key w) := by
  obtain ⟨A, c, rfl, hkc, hcm, hRd⟩ := hk
  obtain ⟨nm, ks⟩ := st
  simp only at hkc hRd hs ⊢
  generalize hlen : ks.length = n at *
  have HLEN := Lib.hid hlen
  have hn1 : (n : Int) ≤ 1000000 := by omega
  have HRd := Lib.hid hRd
  have hm0 : MakeX w w.heap.size (w.heap.size + 1) (w.heap.size + 1 + 1) nm [] (.slice none 0 0) (((w.alloc (.cells #[.string nm, .slice A n c] 40)).alloc (.cells #[.string ⟨#[]⟩, .slice none 0 0] 40)).alloc (.cells #[.string nm, .slice none 0 0] 40)) := by
    refine ⟨?_, ?_, World.ownsRow_nil _ _ _ _, (((Below.refl _ w).alloc (Nat.le_refl _) _).alloc (by simp) _).alloc (by simp; omega) _, by simp; omega, by omega⟩
    · have := (Blk.new (w.alloc (.cells #[.string nm, .slice A n c] 40)) 40 #[.string ⟨#[]⟩, .slice none 0 0]).alloc (.cells #[.string nm, .slice none 0 0] 40)
      simpa using this
    · have := Blk.new ((w.alloc (.cells #[.string nm, .slice A n c] 40)).alloc (.cells #[.string ⟨#[]⟩, .slice none 0 0] 40)) 40 #[.string nm, .slice none 0 0]
      simpa using this
  have HM0 := Lib.hid hm0
  have HB0 := Lib.hid (((Blk.new w 40 #[.string nm, .slice A n c]).alloc (.cells #[.string ⟨#[]⟩, .slice none 0 0] 40)).alloc (.cells #[.string nm, .slice none 0 0] 40))
  clear hlen hRd hm0
  obtain ⟨i0, hi0, hz0, hz1, hz2⟩ := info_parts pair_info
  go_enter Try.func47, Try.ntmps47
  go_wp2
  generalize (((w.alloc (.cells #[.string nm, .slice A n c] 40)).alloc (.cells #[.string ⟨#[]⟩, .slice none 0 0] 40)).alloc (.cells #[.string nm, .slice none 0 0] 40)) = wA at *
  have H67 := Lib.hid (show w.heap.size + 1 ≠ w.heap.size + 1 + 1 ∧ w.heap.size ≤ w.heap.size + 1 by omega)
  have H27 := Lib.hid (show w.heap.size ≠ w.heap.size + 1 + 1 ∧ w.heap.size ≠ w.heap.size + 1 by omega)
  generalize hr7 : w.heap.size + 1 + 1 = r7 at *
  generalize hr6 : w.heap.size + 1 = r6 at *
  clear hr7 hr6
  go_loopw [8, 15] (fun _ iv wr => ∃ (p : Nat), iv = .int .i64 (p : Int) ∧ RTakeAt w w.heap.size w.heap.size r6 r7 nm (.slice A n c) ks key p wr) (fun _ iv _ => n - (Lib.intOf iv).toNat)
  case atStart => exact ⟨0, rfl, _, HM0.out, Nat.zero_le _, HB0.out⟩
  case round =>
    obtain ⟨p, rfl, v, hM, hp, hB2⟩ := hrel
    generalize hout : dropK (ks.take p) key = out at *
    obtain ⟨A7, c7, rfl, -, -, -⟩ := own_form hM.2.2.1
    have HOUT := Lib.hid hout
    have HM := Lib.hid hM
    have HB2 := Lib.hid hB2
    have HOL := Lib.hid (show out.length ≤ p by rw [← hout]; exact Nat.le_trans (List.length_filter_le _ _) (List.length_take_le _ _))
    clear hM hB2 hout
    by_cases hlt : p < n
    · obtain ⟨x, hx⟩ : ∃ x, ks[p]? = some x := ⟨ks[p]'(by rw [HLEN.out]; exact hlt), by simp [HLEN.out, hlt]⟩
      have hq1 : (p : Int) < (n : Int) := by omega
      obtain ⟨b, o, rfl, hbo, hcells⟩ := (HRd.out.below HM.out.2.2.2.1).spot (by omega) (by omega)
      have hat := pairCells_at ks p x hx
      have r0 := hcells _ _ hat.1
      have r1 : wr.cell? ⟨b, o + p * 2 + 1, none⟩ = some (.string x.2) := hcells _ _ hat.2
      have HN := Lib.hid (dropK_take (key := key) hx)
      have HPX := Lib.hid (Blk.new wr 51 #[.string x.1, .string x.2])
      have HM1 := Lib.hid (HM.out.alloc (.cells #[.string x.1, .string x.2] 51))
      have HB3 := Lib.hid (HB2.out.alloc (.cells #[.string x.1, .string x.2] 51))
      have HOL2 := Lib.hid (show out.length ≤ 2000000 by have := HOL.out; omega)
      have hpl : p + 1 ≤ ks.length := by rw [HLEN.out]; exact hlt
      have HPL := Lib.hid hpl
      go_upto_region 5 with (fail)
      clear hcells hat hx hpl r0 r1
      generalize (wr.alloc (.cells #[.string x.1, .string x.2] 51)) = W1 at *
      generalize wr.heap.size = kb at *
      obtain ⟨b0, b1, b2⟩ := HM1.out.box
      have k0 : W1.cell? ⟨kb, 0, none⟩ = some (.string x.1) := HPX.out.cell 0
      have k1 : W1.cell? ⟨kb, 1, none⟩ = some (.string x.2) := HPX.out.cell 1
      by_cases he : x.1 = key
      · have he1 : (x.1.toList == key.toList) = true := by simp [he]
        have HE := Lib.hid (show dropK (ks.take (p + 1)) key = out by rw [HN.out, if_pos he, HOUT.out, List.append_nil])
        clear he
        go_wp2
        go_roundw
        case rel => exact ⟨p + 1, by go_num, _, by rw [HE.out]; exact HM1.out, HPL.out, HB3.out⟩
        case measure => simp [Lib.intOf]; omega
      · have he1 : (x.1.toList == key.toList) = false := by rw [ba_beq]; simp [he]
        have he3 : ¬ x.1.toList = key.toList := fun e => he (ba_ext e)
        have HE := Lib.hid (show dropK (ks.take (p + 1)) key = out ++ [x] by rw [HN.out, if_neg he, HOUT.out])
        clear he
        have HAL := Lib.hid (HM1.out.alloc (.cells #[.string x.1, .string x.2] 51))
        have HAO := Lib.hid HAL.out.2.2.1
        have HAR := Lib.hid (reads_new W1 #[.string x.1, .string x.2] 51 2 1 rfl)
        have HAB := Lib.hid HAL.out.2.2.2.2.1
        go_wp2_with (at_builtin; go_loud (refine wpList_append_any _ rfl (.tmp 24) (.tmp 26) _ rfl w.heap.size 51 i0 _ 2 32 Try.underlying38 hi0 hz0 hz1 hz2 rfl (by omega) _ (out).length (pairCells (out)) rfl HAO.out (W1.heap.size + 1) (some ⟨W1.heap.size, 0, none⟩) 1 1 [.string x.1, .string x.2] rfl HAR.out (by simp [Value.oneCell']) (by have := HOL2.out; (try simp only [List.length_append, List.length_cons, List.length_nil]); simp only [maxLen]; omega) (by have := HOL2.out; (try simp only [List.length_append, List.length_cons, List.length_nil]); omega) HAB.out ?_); intro v3 w3 hown3 hg3 hat3; obtain ⟨A3, c3, rfl, -, -, -⟩ := own_form hown3; have hg3' : (W1.alloc (.cells #[.string x.1, .string x.2] 51)).grownBy w3 (Value.slice A7 out.length c7).ownBlock := hg3; obtain ⟨q3, f3, q3'⟩ := HAL.out.grown hg3' hown3; have HM3 := Lib.hid (HAL.out.more (x := x) H67.out.1 hg3' hown3);  have HB4 := Lib.hid ((HB3.out.alloc (.cells #[.string x.1, .string x.2] 51)).grown hg3' (fun e => own_blk HM1.out.2.2.1 HB3.out (by decide) e.symm rfl)); clear hown3 hg3 hg3' hat3)
        go_roundw
        case rel => exact ⟨p + 1, by go_num, _, by rw [HE.out]; exact HM3.out, HPL.out, HB4.out.far H27.out.1 _⟩
        case measure => simp [Lib.intOf]; omega
    · have hq1 : ¬ (p : Int) < (n : Int) := by omega
      have hpe : dropK ks key = out := by rw [← HOUT.out, List.take_of_length_le (by rw [HLEN.out]; omega)]
      have HPE := Lib.hid hpe
      obtain ⟨b0, b1, b2⟩ := HM.out.box
      obtain ⟨d0, d1, d2, d3, d4, d5⟩ := HM.out.ret
      have a1 : wr.cell? ⟨w.heap.size, 1, none⟩ = some (.slice A n c) := HB2.out.cell 1
      have hol : out.length ≤ n := by have := HOL.out; have := HLEN.out; omega
      have HLT := Lib.hid (show decide ((out.length : Int) < (n : Int)) = decide (out.length < n) by rw [decide_eq_decide]; omega)
      clear hpe
      go_upto_region 8 with (fail)
      have n1 : ¬ r6 = r7 := H67.out.1
      have n2 : ¬ r7 = r6 := fun e => H67.out.1 e.symm
      have n3 : ¬ w.heap.size = r6 := H27.out.2
      have n4 : ¬ r6 = w.heap.size := fun e => H27.out.2 e.symm
      go_region
      all_goals
        go_wp2
        obtain ⟨z1, z2, z3⟩ := HM.out.done H67.out.2
        refine bodyPost_ret (take_result (Blk.drew z1) rfl rfl) rfl ⟨.slice A7 out.length c7, ?_, ?_, below_drewN z3 1⟩
        · rw [HPE.out, HLEN.out]
        · rw [HPE.out]
          exact z2
end Go.Proofs.Ytjebaibcfmjinaa
