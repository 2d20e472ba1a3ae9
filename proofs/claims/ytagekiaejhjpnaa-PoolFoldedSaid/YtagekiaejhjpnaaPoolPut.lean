/-
  The walk of the document's Put: a rising list with one text more. Condition: at most 1000000 texts.
-/
import Derived.Test.YtagekiaejhjpnaaPoolStr
import Derived.Test.YtagekiaejhjpnaaAppend
import Derived.Laws.AppendOwn
namespace Go.Proofs.Ytagekiaejhjpnaa
open Go.RowKit

theorem str_info : (Try.prog.info? 9).map (fun i => (i.zero, i.size, i.bytes)) = some (some (.string ByteArray.empty), 1, 16) := by kernel_rfl
theorem strs_take {l : List ByteArray} {p : Nat} {x : ByteArray} (h : l[p]? = some x) : (l.take (p + 1)).map Value.string = (l.take p).map Value.string ++ [.string x] := by
  rw [List.take_add_one, h]
  simp
def PutTPost (l : List ByteArray) (s : ByteArray) (w : World) (e : Ending) (w' : World) : Prop := (∃ v, e = .returned v ∧ Txts w' w'.heap.size v (insL bl l s)) ∧ Below w.heap.size w w'
/-- What the second half of the loop adds. -/
theorem put_mid {l : List ByteArray} {s : ByteArray} {p : Nat} (hp : p ≤ l.length) : (l.take p ++ s :: l.drop p).length = l.length + 1 ∧ ((l.take p ++ s :: l.drop p).take (p + 1)).map Value.string = (l.take p).map Value.string ++ [.string s] ∧
    ∀ j x, p ≤ j → l[j]? = some x → (l.take p ++ s :: l.drop p)[j + 1]? = some x := by
  have h1 : (l.take p).length = p := by rw [List.length_take]; omega
  refine ⟨by simp; omega, ?_, fun j x hj hx => ?_⟩
  · rw [List.take_append, h1, show p + 1 - p = 1 by omega, List.take_take]
    simp
  · rw [List.getElem?_append_right (by omega), h1, show j + 1 - p = (j - p) + 1 by omega, List.getElem?_cons_succ, List.getElem?_drop, show p + (j - p) = j by omega]
    exact hx
set_option maxHeartbeats 8000000 in
theorem put_any (v : Value) (l : List ByteArray) (s : ByteArray) (w : World) (h : Txts w w.heap.size v l) (hlen : l.length ≤ 1000000) :
    Calls Try.prog 10 #[v, .string s] w (PutTPost l s w) := by
  obtain ⟨A, c, rfl, hc, hm, hR⟩ := id h
  have HT0 := Lib.hid h
  have HR := Lib.hid hR
  unfold maxLen at hm
  clear hR h
  generalize hn : l.length = n at *
  have HN := Lib.hid hn
  have hn1 : (n : Int) ≤ 1000000 := by omega
  clear hn
  obtain ⟨i0, hi0, hz0, hz1, hz2⟩ := info_parts str_info
  go_enter Try.func10, Try.ntmps10
  go_wp2
  go_loopw [5, 6] (fun ov iv wr => ∃ p : Nat, iv = .int .i64 (p : Int) ∧ p ≤ n ∧ (∀ j x, j < p → l[j]? = some x → bl x s = true) ∧ wr.ownsRow w.heap.size 9 1 ov p ((l.take p).map Value.string) ∧ Below w.heap.size w wr) (fun _ iv _ => n - (Lib.intOf iv).toNat)
  case atStart => exact ⟨0, rfl, Nat.zero_le _, fun j x h => absurd h (by omega), World.ownsRow_nil _ _ _ _, Below.refl _ _⟩
  case round =>
    obtain ⟨p, rfl, hp, hT, hO, hB⟩ := hrel
    have HT := Lib.hid hT
    have HO := Lib.hid hO
    have HB := Lib.hid hB
    clear hT hO hB
    by_cases hlt : p < n
    · obtain ⟨x, hx⟩ := at_lt (l := l) (p := p) (by have := HN.out; omega)
      have hq : (p : Int) < (n : Int) := by omega
      obtain ⟨b1, o1, rfl, hb1, hcl1⟩ := (HR.out.below HB.out).spot (by omega) (by omega)
      have r0 := hcl1 _ _ (str_at hx)
      have HX := Lib.hid hx
      clear hcl1 hx
      cases hb : Op.bytesLess x.toList s.toList
      · by_cases he : x.toList = s.toList
        · have he2 : (x.toList == s.toList) = true := by simpa using he
          have HIN := Lib.hid (show insL bl l s = l by
            rw [insL_split l s p HT.out (by rw [HN.out]; omega) (fun y hy => by rw [HX.out] at hy; cases hy; exact hb), if_pos (by rw [HX.out, ba_eqT he])])
          clear he
          go_wp2
          go_ret
          refine ⟨⟨_, rfl, ?_⟩, HB.out⟩
          rw [HIN.out]
          exact HT0.out.on HB.out
        · have he2 : (x.toList == s.toList) = false := by simpa using he
          have HIN := Lib.hid (show insL bl l s = l.take p ++ s :: l.drop p by
            rw [insL_split l s p HT.out (by rw [HN.out]; omega) (fun y hy => by rw [HX.out] at hy; cases hy; exact hb), if_neg (by rw [HX.out]; intro e; exact he (by rw [Option.some.inj e]))])
          clear he
          have HA := Lib.hid (And.intro (HO.out.alloc (.cells #[.string s] 9)) (And.intro (reads_new wr #[.string s] 9 1 1 rfl) (show w.heap.size ≤ (wr.alloc (.cells #[.string s] 9)).heap.size by have := HB.out.size; simp; omega)))
          have HMID := Lib.hid (put_mid (s := s) (show p ≤ l.length by rw [HN.out]; exact hp))
          go_wp2_with (at_builtin; go_loud (refine wpList_append_any _ rfl (.tmp 41) (.tmp 43) _ rfl w.heap.size 9 i0 _ 1 16 Try.underlying22 hi0 hz0 hz1 hz2 rfl (by omega) _ p ((l.take p).map Value.string) rfl HA.out.1 (wr.heap.size + 1) (some ⟨wr.heap.size, 0, none⟩) 1 1 [.string s] rfl HA.out.2.1 (by simp [Value.oneCell']) (by simp only [maxLen]; omega) (by omega) HA.out.2.2 ?_); intro v3 w3 hown3 hg3 hat3; have HOW := Lib.hid (HMID.out.2.1.symm.subst (motive := fun z => w3.ownsRow w.heap.size 9 1 v3 (p + 1) z) hown3); have HB3 := Lib.hid (show Below w.heap.size w w3 from (HB.out.alloc HB.out.size _).grown hg3 HA.out.2.2 (fun k hk => (HO.out.lt k hk).1)); clear hown3 hg3 hat3)
          clear HA HO HB
          generalize l.take p ++ s :: l.drop p = m at *
          go_loopw [5, 6] (fun ov iv wr => ∃ j : Nat, iv = .int .i64 (j : Int) ∧ p ≤ j ∧ j ≤ n ∧ wr.ownsRow w.heap.size 9 1 ov (j + 1) ((m.take (j + 1)).map Value.string) ∧ Below w.heap.size w wr) (fun _ iv _ => n - (Lib.intOf iv).toNat)
          case atStart => exact ⟨p, rfl, Nat.le_refl _, hp, HOW.out, HB3.out⟩
          case round =>
            obtain ⟨j, rfl, hpj, hj, hO, hB⟩ := hrel
            have HO := Lib.hid hO
            have HB := Lib.hid hB
            clear hO hB
            by_cases hlt2 : j < n
            · obtain ⟨y, hy⟩ := at_lt (l := l) (p := j) (by have := HN.out; omega)
              have hq2 : (j : Int) < (n : Int) := by omega
              have HMY := Lib.hid (HMID.out.2.2 j y hpj hy)
              have HY := Lib.hid hy
              obtain ⟨b2, o2, e2, hb2, hcl2⟩ := (HR.out.below HB.out).spot (by omega) (by omega)
              cases e2
              have r2 := hcl2 _ _ (str_at hy)
              clear hcl2 hy
              have HA := Lib.hid (And.intro (HO.out.alloc (.cells #[.string y] 9)) (And.intro (reads_new wr #[.string y] 9 1 1 rfl) (show w.heap.size ≤ (wr.alloc (.cells #[.string y] 9)).heap.size by have := HB.out.size; simp; omega)))
              go_wp2_with (at_builtin; go_loud (refine wpList_append_any _ rfl (.tmp 49) (.tmp 54) _ rfl w.heap.size 9 i0 _ 1 16 Try.underlying22 hi0 hz0 hz1 hz2 rfl (by omega) _ (j + 1) ((m.take (j + 1)).map Value.string) rfl HA.out.1 (wr.heap.size + 1) (some ⟨wr.heap.size, 0, none⟩) 1 1 [.string y] rfl HA.out.2.1 (by simp [Value.oneCell']) (by simp only [maxLen]; omega) (by omega) HA.out.2.2 ?_); intro v4 w4 hown3 hg3 hat3; have HOX := Lib.hid hown3; have HG := Lib.hid hg3; clear hown3 hg3 hat3)
              go_roundw
              case rel =>
                refine ⟨j + 1, by go_num, by omega, hlt2, by rw [strs_take HMY.out]; exact HOX.out, ?_⟩
                exact (HB.out.alloc HB.out.size _).grown HG.out HA.out.2.2 (fun k hk => (HO.out.lt k hk).1)
              case measure => simp [Lib.intOf]; omega
            · obtain rfl : j = n := by omega
              have hq2 : ¬ (j : Int) < (j : Int) := by omega
              have HZ := Lib.hid (show m.take (j + 1) = m from List.take_of_length_le (by rw [HMID.out.1, HN.out]; exact Nat.le_refl _))
              have HML := Lib.hid (show m.length = j + 1 by rw [HMID.out.1, HN.out])
              rw [HZ.out] at HO
              go_wp2
              go_ret
              refine ⟨⟨_, rfl, ?_⟩, HB.out⟩
              rw [HIN.out]
              exact txts_of_own (by rw [HML.out]; exact HO.out)
      · have HA := Lib.hid (And.intro (HO.out.alloc (.cells #[.string x] 9)) (And.intro (reads_new wr #[.string x] 9 1 1 rfl) (show w.heap.size ≤ (wr.alloc (.cells #[.string x] 9)).heap.size by have := HB.out.size; simp; omega)))
        have HBL := Lib.hid hb
        go_wp2_with (at_builtin; go_loud (refine wpList_append_any _ rfl (.tmp 19) (.tmp 24) _ rfl w.heap.size 9 i0 _ 1 16 Try.underlying22 hi0 hz0 hz1 hz2 rfl (by omega) _ p ((l.take p).map Value.string) rfl HA.out.1 (wr.heap.size + 1) (some ⟨wr.heap.size, 0, none⟩) 1 1 [.string x] rfl HA.out.2.1 (by simp [Value.oneCell']) (by simp only [maxLen]; omega) (by omega) HA.out.2.2 ?_); intro v3 w3 hown3 hg3 hat3; have HOW := Lib.hid hown3; have HG := Lib.hid hg3; clear hown3 hg3 hat3)
        go_roundw
        case rel =>
          refine ⟨p + 1, by go_num, hlt, fun j y hj hy => ?_, by rw [strs_take HX.out]; exact HOW.out, ?_⟩
          · rcases Nat.lt_or_ge j p with h | h
            · exact HT.out j y h hy
            · obtain rfl : j = p := by omega
              rw [HX.out] at hy
              cases hy
              exact HBL.out
          · exact (HB.out.alloc HB.out.size _).grown HG.out HA.out.2.2 (fun k hk => (HO.out.lt k hk).1)
        case measure => simp [Lib.intOf]; omega
    · obtain rfl : p = n := by omega
      have hq : ¬ (p : Int) < (p : Int) := by omega
      have HIN := Lib.hid (show insL bl l s = l.take p ++ s :: l.drop p by
        rw [insL_split l s p HT.out (by rw [HN.out]; omega) (fun y hy => by rw [List.getElem?_eq_none (by rw [HN.out]; omega)] at hy; cases hy), if_neg (by rw [List.getElem?_eq_none (by rw [HN.out]; omega)]; simp)])
      have HA := Lib.hid (And.intro (HO.out.alloc (.cells #[.string s] 9)) (And.intro (reads_new wr #[.string s] 9 1 1 rfl) (show w.heap.size ≤ (wr.alloc (.cells #[.string s] 9)).heap.size by have := HB.out.size; simp; omega)))
      have HMID := Lib.hid (put_mid (s := s) (show p ≤ l.length by rw [HN.out]; exact hp))
      go_wp2_with (at_builtin; go_loud (refine wpList_append_any _ rfl (.tmp 41) (.tmp 43) _ rfl w.heap.size 9 i0 _ 1 16 Try.underlying22 hi0 hz0 hz1 hz2 rfl (by omega) _ p ((l.take p).map Value.string) rfl HA.out.1 (wr.heap.size + 1) (some ⟨wr.heap.size, 0, none⟩) 1 1 [.string s] rfl HA.out.2.1 (by simp [Value.oneCell']) (by simp only [maxLen]; omega) (by omega) HA.out.2.2 ?_); intro v3 w3 hown3 hg3 hat3; have HOW := Lib.hid (HMID.out.2.1.symm.subst (motive := fun z => w3.ownsRow w.heap.size 9 1 v3 (p + 1) z) hown3); have HB3 := Lib.hid (show Below w.heap.size w w3 from (HB.out.alloc HB.out.size _).grown hg3 HA.out.2.2 (fun k hk => (HO.out.lt k hk).1)); clear hown3 hg3 hat3)
      clear HA HO HB
      generalize l.take p ++ s :: l.drop p = m at *
      go_loopw [5, 6] (fun ov iv wr => ∃ j : Nat, iv = .int .i64 (j : Int) ∧ p ≤ j ∧ j ≤ p ∧ wr.ownsRow w.heap.size 9 1 ov (j + 1) ((m.take (j + 1)).map Value.string) ∧ Below w.heap.size w wr) (fun _ iv _ => p - (Lib.intOf iv).toNat)
      case atStart => exact ⟨p, rfl, Nat.le_refl _, hp, HOW.out, HB3.out⟩
      case round =>
        obtain ⟨j, rfl, hpj, hj, hO, hB⟩ := hrel
        have HO := Lib.hid hO
        have HB := Lib.hid hB
        clear hO hB
        by_cases hlt2 : j < p
        · exact absurd hlt2 (by omega)
        · obtain rfl : j = p := by omega
          have hq2 : ¬ (j : Int) < (j : Int) := by omega
          have HZ := Lib.hid (show m.take (j + 1) = m from List.take_of_length_le (by rw [HMID.out.1, HN.out]; exact Nat.le_refl _))
          have HML := Lib.hid (show m.length = j + 1 by rw [HMID.out.1, HN.out])
          rw [HZ.out] at HO
          go_wp2
          go_ret
          refine ⟨⟨_, rfl, ?_⟩, HB.out⟩
          rw [HIN.out]
          exact txts_of_own (by rw [HML.out]; exact HO.out)
end Go.Proofs.Ytagekiaejhjpnaa
