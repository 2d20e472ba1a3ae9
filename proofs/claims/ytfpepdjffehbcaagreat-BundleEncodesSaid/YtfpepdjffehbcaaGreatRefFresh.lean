/-
  The document's Put and groups once more: what they answer lies above the world at the start. Condition: small.
-/
import Derived.Test.YtfpepdjffehbcaaGreatRef22B
set_option linter.unusedVariables false
set_option linter.unusedSimpArgs false
namespace Go.Proofs.YtfpepdjffehbcaaGreat
open Go.RowKit

/-- A slice's block is not below a number. -/
def Fr (base : Nat) (v : Value) : Prop := ∀ b, v.ownBlock = some b → base ≤ b
theorem Fr.le {a b : Nat} {v : Value} (h : Fr b v) (hab : a ≤ b) : Fr a v := fun k hk => Nat.le_trans hab (h k hk)
theorem fr_none (base : Nat) : Fr base (.slice none 0 0) := fun b h => by cases h
theorem fr_own {w : World} {base : Nat} {e : TypeId} {size : Nat} {v : Value} {n : Nat} {xs : List Value} (h : w.ownsRow base e size v n xs) : Fr base v := fun b hb => (h.lt b hb).1
def PutFPost (v : Value) (l : List ByteArray) (s : ByteArray) (w : World) (e : Ending) (w' : World) : Prop := (∃ u, e = .returned u ∧ Txts w' w'.heap.size u (insL bl l s) ∧ (u = v ∨ Fr w.heap.size u)) ∧ Below w.heap.size w w'
set_option maxHeartbeats 8000000 in
theorem putf_any (v : Value) (l : List ByteArray) (s : ByteArray) (w : World) (h : Txts w w.heap.size v l) (hlen : l.length ≤ 1000000) :
    Calls Tryz.prog 47 #[v, .string s] w (PutFPost v l s w) := by
  obtain ⟨A, c, rfl, hc, hm, hR⟩ := id h
  have HT0 := Lib.hid h
  have HR := Lib.hid hR
  unfold maxLen at hm
  clear hR h
  generalize hn : l.length = n at *
  have HN := Lib.hid hn
  have hn1 : (n : Int) ≤ 1000000 := by omega
  clear hn
  obtain ⟨i0, hi0, hz0, hz1, hz2⟩ := info_parts str_info
  go_enter Tryz.func47, Tryz.ntmps47
  go_wp2
  go_loopw [5, 6] (fun ov iv wr => ∃ p : Nat, iv = .int .i64 (p : Int) ∧ p ≤ n ∧ (∀ j x, j < p → l[j]? = some x → bl x s = true) ∧ wr.ownsRow w.heap.size 9 1 ov p ((l.take p).map Value.string) ∧ Below w.heap.size w wr) (fun _ iv _ => n - (Lib.intOf iv).toNat)
  case atStart => exact ⟨0, rfl, Nat.zero_le _, fun j x h => absurd h (by omega), World.ownsRow_nil _ _ _ _, Below.refl _ _⟩
  case round =>
    obtain ⟨p, rfl, hp, hT, hO, hB⟩ := hrel
    have HT := Lib.hid hT
    have HO := Lib.hid hO
    have HB := Lib.hid hB
    clear hT hO hB
    by_cases hlt : p < n
    · obtain ⟨x, hx⟩ := at_lt (l := l) (p := p) (by have := HN.out; omega)
      have hq : (p : Int) < (n : Int) := by omega
      obtain ⟨b1, o1, rfl, hb1, hcl1⟩ := (HR.out.below HB.out).spot (by omega) (by omega)
      have r0 := hcl1 _ _ (str_at hx)
      have HX := Lib.hid hx
      clear hcl1 hx
      cases hb : Op.bytesLess x.toList s.toList
      · by_cases he : x.toList = s.toList
        · have he2 : (x.toList == s.toList) = true := by simpa using he
          have HIN := Lib.hid (show insL bl l s = l by
            rw [insL_split l s p HT.out (by rw [HN.out]; omega) (fun y hy => by rw [HX.out] at hy; cases hy; exact hb), if_pos (by rw [HX.out, ba_eqT he])])
          clear he
          go_wp2
          go_ret
          refine ⟨⟨_, rfl, ?_, .inl rfl⟩, HB.out⟩
          rw [HIN.out]
          exact HT0.out.on HB.out
        · have he2 : (x.toList == s.toList) = false := by simpa using he
          have HIN := Lib.hid (show insL bl l s = l.take p ++ s :: l.drop p by
            rw [insL_split l s p HT.out (by rw [HN.out]; omega) (fun y hy => by rw [HX.out] at hy; cases hy; exact hb), if_neg (by rw [HX.out]; intro e; exact he (by rw [Option.some.inj e]))])
          clear he
          have HA := Lib.hid (And.intro (HO.out.alloc (.cells #[.string s] 9)) (And.intro (reads_new wr #[.string s] 9 1 1 rfl) (show w.heap.size ≤ (wr.alloc (.cells #[.string s] 9)).heap.size by have := HB.out.size; simp; omega)))
          have HMID := Lib.hid (put_mid (s := s) (show p ≤ l.length by rw [HN.out]; exact hp))
          go_wp2_with (at_builtin; go_loud (refine wpList_append_any _ rfl (.tmp 41) (.tmp 43) _ rfl w.heap.size 9 i0 _ 1 16 Tryz.underlying40 hi0 hz0 hz1 hz2 rfl (by omega) _ p ((l.take p).map Value.string) rfl HA.out.1 (wr.heap.size + 1) (some ⟨wr.heap.size, 0, none⟩) 1 1 [.string s] rfl HA.out.2.1 (by simp [Value.oneCell']) (by simp only [maxLen]; omega) (by omega) HA.out.2.2 ?_); intro v3 w3 hown3 hg3 hat3; have HOW := Lib.hid (HMID.out.2.1.symm.subst (motive := fun z => w3.ownsRow w.heap.size 9 1 v3 (p + 1) z) hown3); have HB3 := Lib.hid (show Below w.heap.size w w3 from (HB.out.alloc HB.out.size _).grown hg3 HA.out.2.2 (fun k hk => (HO.out.lt k hk).1)); clear hown3 hg3 hat3)
          clear HA HO HB
          generalize l.take p ++ s :: l.drop p = m at *
          go_loopw [5, 6] (fun ov iv wr => ∃ j : Nat, iv = .int .i64 (j : Int) ∧ p ≤ j ∧ j ≤ n ∧ wr.ownsRow w.heap.size 9 1 ov (j + 1) ((m.take (j + 1)).map Value.string) ∧ Below w.heap.size w wr) (fun _ iv _ => n - (Lib.intOf iv).toNat)
          case atStart => exact ⟨p, rfl, Nat.le_refl _, hp, HOW.out, HB3.out⟩
          case round =>
            obtain ⟨j, rfl, hpj, hj, hO, hB⟩ := hrel
            have HO := Lib.hid hO
            have HB := Lib.hid hB
            clear hO hB
            by_cases hlt2 : j < n
            · obtain ⟨y, hy⟩ := at_lt (l := l) (p := j) (by have := HN.out; omega)
              have hq2 : (j : Int) < (n : Int) := by omega
              have HMY := Lib.hid (HMID.out.2.2 j y hpj hy)
              have HY := Lib.hid hy
              obtain ⟨b2, o2, e2, hb2, hcl2⟩ := (HR.out.below HB.out).spot (by omega) (by omega)
              cases e2
              have r2 := hcl2 _ _ (str_at hy)
              clear hcl2 hy
              have HA := Lib.hid (And.intro (HO.out.alloc (.cells #[.string y] 9)) (And.intro (reads_new wr #[.string y] 9 1 1 rfl) (show w.heap.size ≤ (wr.alloc (.cells #[.string y] 9)).heap.size by have := HB.out.size; simp; omega)))
              go_wp2_with (at_builtin; go_loud (refine wpList_append_any _ rfl (.tmp 49) (.tmp 54) _ rfl w.heap.size 9 i0 _ 1 16 Tryz.underlying40 hi0 hz0 hz1 hz2 rfl (by omega) _ (j + 1) ((m.take (j + 1)).map Value.string) rfl HA.out.1 (wr.heap.size + 1) (some ⟨wr.heap.size, 0, none⟩) 1 1 [.string y] rfl HA.out.2.1 (by simp [Value.oneCell']) (by simp only [maxLen]; omega) (by omega) HA.out.2.2 ?_); intro v4 w4 hown3 hg3 hat3; have HOX := Lib.hid hown3; have HG := Lib.hid hg3; clear hown3 hg3 hat3)
              go_roundw
              case rel =>
                refine ⟨j + 1, by go_num, by omega, hlt2, by rw [strs_take HMY.out]; exact HOX.out, ?_⟩
                exact (HB.out.alloc HB.out.size _).grown HG.out HA.out.2.2 (fun k hk => (HO.out.lt k hk).1)
              case measure => simp [Lib.intOf]; omega
            · obtain rfl : j = n := by omega
              have hq2 : ¬ (j : Int) < (j : Int) := by omega
              have HZ := Lib.hid (show m.take (j + 1) = m from List.take_of_length_le (by rw [HMID.out.1, HN.out]; exact Nat.le_refl _))
              have HML := Lib.hid (show m.length = j + 1 by rw [HMID.out.1, HN.out])
              rw [HZ.out] at HO
              go_wp2
              go_ret
              refine ⟨⟨_, rfl, ?_, .inr (fr_own HO.out)⟩, HB.out⟩
              rw [HIN.out]
              exact txts_of_own (by rw [HML.out]; exact HO.out)
      · have HA := Lib.hid (And.intro (HO.out.alloc (.cells #[.string x] 9)) (And.intro (reads_new wr #[.string x] 9 1 1 rfl) (show w.heap.size ≤ (wr.alloc (.cells #[.string x] 9)).heap.size by have := HB.out.size; simp; omega)))
        have HBL := Lib.hid hb
        go_wp2_with (at_builtin; go_loud (refine wpList_append_any _ rfl (.tmp 19) (.tmp 24) _ rfl w.heap.size 9 i0 _ 1 16 Tryz.underlying40 hi0 hz0 hz1 hz2 rfl (by omega) _ p ((l.take p).map Value.string) rfl HA.out.1 (wr.heap.size + 1) (some ⟨wr.heap.size, 0, none⟩) 1 1 [.string x] rfl HA.out.2.1 (by simp [Value.oneCell']) (by simp only [maxLen]; omega) (by omega) HA.out.2.2 ?_); intro v3 w3 hown3 hg3 hat3; have HOW := Lib.hid hown3; have HG := Lib.hid hg3; clear hown3 hg3 hat3)
        go_roundw
        case rel =>
          refine ⟨p + 1, by go_num, hlt, fun j y hj hy => ?_, by rw [strs_take HX.out]; exact HOW.out, ?_⟩
          · rcases Nat.lt_or_ge j p with h | h
            · exact HT.out j y h hy
            · obtain rfl : j = p := by omega
              rw [HX.out] at hy
              cases hy
              exact HBL.out
          · exact (HB.out.alloc HB.out.size _).grown HG.out HA.out.2.2 (fun k hk => (HO.out.lt k hk).1)
        case measure => simp [Lib.intOf]; omega
    · obtain rfl : p = n := by omega
      have hq : ¬ (p : Int) < (p : Int) := by omega
      have HIN := Lib.hid (show insL bl l s = l.take p ++ s :: l.drop p by
        rw [insL_split l s p HT.out (by rw [HN.out]; omega) (fun y hy => by rw [List.getElem?_eq_none (by rw [HN.out]; omega)] at hy; cases hy), if_neg (by rw [List.getElem?_eq_none (by rw [HN.out]; omega)]; simp)])
      have HA := Lib.hid (And.intro (HO.out.alloc (.cells #[.string s] 9)) (And.intro (reads_new wr #[.string s] 9 1 1 rfl) (show w.heap.size ≤ (wr.alloc (.cells #[.string s] 9)).heap.size by have := HB.out.size; simp; omega)))
      have HMID := Lib.hid (put_mid (s := s) (show p ≤ l.length by rw [HN.out]; exact hp))
      go_wp2_with (at_builtin; go_loud (refine wpList_append_any _ rfl (.tmp 41) (.tmp 43) _ rfl w.heap.size 9 i0 _ 1 16 Tryz.underlying40 hi0 hz0 hz1 hz2 rfl (by omega) _ p ((l.take p).map Value.string) rfl HA.out.1 (wr.heap.size + 1) (some ⟨wr.heap.size, 0, none⟩) 1 1 [.string s] rfl HA.out.2.1 (by simp [Value.oneCell']) (by simp only [maxLen]; omega) (by omega) HA.out.2.2 ?_); intro v3 w3 hown3 hg3 hat3; have HOW := Lib.hid (HMID.out.2.1.symm.subst (motive := fun z => w3.ownsRow w.heap.size 9 1 v3 (p + 1) z) hown3); have HB3 := Lib.hid (show Below w.heap.size w w3 from (HB.out.alloc HB.out.size _).grown hg3 HA.out.2.2 (fun k hk => (HO.out.lt k hk).1)); clear hown3 hg3 hat3)
      clear HA HO HB
      generalize l.take p ++ s :: l.drop p = m at *
      go_loopw [5, 6] (fun ov iv wr => ∃ j : Nat, iv = .int .i64 (j : Int) ∧ p ≤ j ∧ j ≤ p ∧ wr.ownsRow w.heap.size 9 1 ov (j + 1) ((m.take (j + 1)).map Value.string) ∧ Below w.heap.size w wr) (fun _ iv _ => p - (Lib.intOf iv).toNat)
      case atStart => exact ⟨p, rfl, Nat.le_refl _, hp, HOW.out, HB3.out⟩
      case round =>
        obtain ⟨j, rfl, hpj, hj, hO, hB⟩ := hrel
        have HO := Lib.hid hO
        have HB := Lib.hid hB
        clear hO hB
        by_cases hlt2 : j < p
        · exact absurd hlt2 (by omega)
        · obtain rfl : j = p := by omega
          have hq2 : ¬ (j : Int) < (j : Int) := by omega
          have HZ := Lib.hid (show m.take (j + 1) = m from List.take_of_length_le (by rw [HMID.out.1, HN.out]; exact Nat.le_refl _))
          have HML := Lib.hid (show m.length = j + 1 by rw [HMID.out.1, HN.out])
          rw [HZ.out] at HO
          go_wp2
          go_ret
          refine ⟨⟨_, rfl, ?_, .inr (fr_own HO.out)⟩, HB.out⟩
          rw [HIN.out]
          exact txts_of_own (by rw [HML.out]; exact HO.out)
theorem rputf_say {v : Value} {l : List ByteArray} {s : ByteArray} {w : World} {base : Nat} (h : Txts w w.heap.size v l) (hlen : l.length ≤ 1000000) (hf : Fr base v) (hb : base ≤ w.heap.size) :
    Calls Tryz.prog 47 #[v, .string s] w fun e w' => ∃ A m c, e = .returned (.slice A m c) ∧ Txts w' w'.heap.size (.slice A m c) (insL bl l s) ∧ Fr base (.slice A m c) ∧ Below w.heap.size w w' := by
  refine (putf_any v l s w h hlen).mono ?_
  rintro e w' ⟨⟨u, rfl, hu, hv⟩, hb2⟩
  have hfu : Fr base u := by
    rcases hv with rfl | hv
    · exact hf
    · exact hv.le hb
  obtain ⟨A, c, rfl⟩ := txts_form hu
  exact ⟨A, _, c, rfl, hu, hfu, hb2⟩
-- BEGIN groupsf
set_option maxHeartbeats 4000000 in
set_option maxRecDepth 100000 in
theorem rgroupsf_any (nm : ByteArray) (kv : Value) (vs : List PKey) (w : World) (h : KeysAt w w.heap.size kv vs) (hin : ValsIn vs) :
    Calls Tryz.prog 43 #[.agg #[.string nm, kv]] w fun e w' => ∃ A m c, e = .returned (.slice A m c) ∧ Txts w' w'.heap.size (.slice A m c) (groupsB vs) ∧ Fr w.heap.size (.slice A m c) ∧ Below w.heap.size w w' := by
  have HK := Lib.hid h
  have HIN := Lib.hid hin
  obtain ⟨A, c, rfl, -, -, -⟩ := h
  obtain ⟨n, hN⟩ : ∃ n, vs.length = n := ⟨_, rfl⟩
  have HN := Lib.hid hN
  have hn1 : n ≤ 30 := by rw [← hN]; exact hin.2
  rw [hN] at HK ⊢
  clear hN hin
  have hn2 : (n : Int) ≤ 30 := by omega
  have HB0 := Lib.hid ((Below.refl _ w).alloc (Nat.le_refl _) (.cells #[.string nm, .slice A n c] 56))
  have HG0 := Lib.hid (Blk.new w 56 #[.string nm, .slice A n c])
  have HKW := Lib.hid (show ∀ W, Below w.heap.size w W → KeysAt W W.heap.size (.slice A n c) vs from fun W hW => HK.out.more hW hW.size)
  obtain ⟨w1, hw1⟩ : ∃ w1, w.alloc (.cells #[.string nm, .slice A n c] 56) = w1 := ⟨_, rfl⟩
  have HW1 := Lib.hid hw1
  rw [hw1] at HB0 HG0
  clear hw1
  go_enter Tryz.func43, Tryz.ntmps43
  go_upto_region 1 with (fail)
  rw [HW1.out]
  have k1 : w1.cell? ⟨w.heap.size, 1, none⟩ = some (.slice A n c) := HG0.out.cell 1
  go_wp2
  clear k1
  go_loopw [3, 9] (fun lv iv W => ∃ (i m : Nat) (A' : Option Addr) (c' : Nat), iv = .int .i64 (i : Int) ∧ i ≤ n ∧ lv = .slice A' m c' ∧ Txts W W.heap.size (.slice A' m c') (poolL bl ((vs.take i).map fun v => grp v.1)) ∧ Fr w.heap.size (.slice A' m c') ∧ Below w.heap.size w W) (fun _ iv _ => n - (Lib.intOf iv).toNat)
  case atStart => exact ⟨0, 0, none, 0, rfl, Nat.zero_le _, rfl, ⟨none, 0, rfl, Nat.zero_le _, Nat.zero_le _, Reads.none_⟩, fr_none _, HB0.out⟩
  case round =>
    obtain ⟨i, m, A', c', rfl, hi, rfl, hT, hF, hB⟩ := hrel
    have HFR := Lib.hid hF
    clear hF
    have HT := Lib.hid hT
    have HB := Lib.hid hB
    clear hT hB
    by_cases hlt : i < n
    · have hq : (i : Int) < (n : Int) := by omega
      obtain ⟨⟨xp, xt⟩, hx⟩ : ∃ x, vs[i]? = some x := ⟨_, List.getElem?_eq_getElem (by rw [HN.out]; exact hlt)⟩
      obtain ⟨b1, o1, rfl, hb1, z0, z1⟩ := keys_spot (HKW.out wr HB.out) hx
      have HX := Lib.hid hx
      have HPO := Lib.hid (HIN.out.1 _ (List.mem_of_getElem? hx)).1
      simp only at z0 z1 HPO
      clear hx
      have HB7 := Lib.hid (HB.out.alloc HB.out.size (.cells #[.string xp, .string xt] 59))
      have HT7 := Lib.hid (HT.out.on ((Below.refl _ wr).alloc (Nat.le_refl _) (.cells #[.string xp, .string xt] 59)))
      have HG7 := Lib.hid (Blk.new wr 59 #[.string xp, .string xt])
      go_upto_region 5 with (fail)
      generalize wr.alloc (.cells #[.string xp, .string xt] 59) = w7 at *
      clear z0 z1
      have x0 : w7.cell? ⟨wr.heap.size, 0, none⟩ = some (.string xp) := HG7.out.cell 0
      have hpl : (poolL bl ((vs.take i).map fun v => grp v.1)).length ≤ 1000000 := by
        have := poolL_len (lt := bl) ((vs.take i).map fun v => grp v.1)
        rw [List.length_map, List.length_take] at this
        omega
      have HPL := Lib.hid hpl
      clear hpl
      go_wp2_with (first
        | (go_at_call 48; go_must (refine (rgroup_any xp _ HPO.out).mono ?_; rintro en w8 ⟨rfl, hb8⟩; have HB8 := Lib.hid (HB7.out.trans (hb8.mono HB7.out.size)); have HPU := Lib.hid (rputf_say (s := grp xp) (HT7.out.on hb8) HPL.out HFR.out HB8.out.size); clear hb8))
        | (go_at_call 47; go_must (refine HPU.out.mono ?_; rintro en w9 ⟨A9, m9, c9, rfl, hT9, hf9, hb9⟩; have HB9 := Lib.hid (HB8.out.trans (hb9.mono HB8.out.size)); have HT9 := Lib.hid hT9; have HF9 := Lib.hid hf9; clear hT9 hf9 hb9)))
      go_roundw
      case rel => exact ⟨i + 1, m9, A9, c9, by go_num, hlt, rfl, by have h := HT9.out; rw [pool_next] at h; rw [List.take_add_one, HX.out, List.map_append]; exact h, HF9.out, HB9.out⟩
      case measure => simp [Lib.intOf]; omega
    · obtain rfl : i = n := by omega
      have hq : ¬ (i : Int) < (i : Int) := by omega
      go_wp2
      go_ret
      exact ⟨_, _, _, rfl, by have h := HT.out; rw [List.take_of_length_le (by rw [HN.out]; exact Nat.le_refl _)] at h; exact h, HFR.out, HB.out⟩
-- END groupsf
def PutRFPost (v : Value) (t : List RowI) (r : RowI) (w : World) (e : Ending) (w' : World) : Prop := (∃ u out ok, e = .returned (.tuple #[u, .bool ok]) ∧ PutR t r out ok ∧ RowsR w' w'.heap.size u out ∧ (u = v ∨ Fr w.heap.size u)) ∧ Below w.heap.size w w'
set_option maxHeartbeats 8000000 in
theorem putrowf_any (v : Value) (l : List RowI) (s : RowI) (w : World) (h : RowsR w w.heap.size v l) (hrise : RiseL kl l) (hlen : l.length ≤ 1000000) :
    Calls Tryz.prog 72 #[v, .agg #[.int .u32 s.1, .int .u32 s.2]] w (PutRFPost v l s w) := by
  obtain ⟨A, c, rfl, hc, hm, hR⟩ := id h
  obtain ⟨W0, hW0⟩ : ∃ W0, w.alloc (.cells #[.int .u32 s.1, .int .u32 s.2] 73) = W0 := ⟨_, rfl⟩
  have HB0 := Lib.hid (show Below w.heap.size w W0 by rw [← hW0]; exact (Below.refl _ w).alloc (Nat.le_refl _) _)
  have HZ0 := Lib.hid (show W0.heap.size = w.heap.size + 1 by rw [← hW0]; simp)
  have HK0 := Lib.hid (show W0.cell? ⟨w.heap.size, 0, none⟩ = some (.int .u32 s.1) ∧ W0.cell? ⟨w.heap.size, 1, none⟩ = some (.int .u32 s.2) by rw [← hW0]; exact new_two w _ _ _)
  have HK := Lib.hid (show ∀ X, Below W0.heap.size W0 X → X.cell? ⟨w.heap.size, 0, none⟩ = some (.int .u32 s.1) ∧ X.cell? ⟨w.heap.size, 1, none⟩ = some (.int .u32 s.2) from fun X hb => by
    have hz := HZ0.out
    exact ⟨(hb.cell (p := ⟨w.heap.size, 0, none⟩) (by show w.heap.size < W0.heap.size; omega)).trans HK0.out.1, (hb.cell (p := ⟨w.heap.size, 1, none⟩) (by show w.heap.size < W0.heap.size; omega)).trans HK0.out.2⟩)
  have HT0 := Lib.hid h
  have HRI := Lib.hid hrise
  have HR := Lib.hid (show Reads W0 W0.heap.size 2 A l.length (rowCells l) from (hR.below HB0.out).more HB0.out.size)
  unfold maxLen at hm
  clear hR h hrise
  generalize hn : l.length = n at *
  have HN := Lib.hid hn
  have hn1 : (n : Int) ≤ 1000000 := by omega
  clear hn
  obtain ⟨i0, hi0, hz0, hz1, hz2⟩ := info_parts row_info
  go_enter Tryz.func72, Tryz.ntmps72
  go_wp2
  (try rw [hW0])
  clear hW0
  go_loopw [6, 7] (fun ov iv wr => ∃ p : Nat, iv = .int .i64 (p : Int) ∧ p ≤ n ∧ (∀ (j : Nat) (x : RowI), j < p → l[j]? = some x → x.1 < s.1) ∧ wr.ownsRow W0.heap.size 73 2 ov p (rowCells (l.take p)) ∧ Below W0.heap.size W0 wr) (fun _ iv _ => n - (Lib.intOf iv).toNat)
  case atStart => exact ⟨0, rfl, Nat.zero_le _, fun j x h => absurd h (by omega), World.ownsRow_nil _ _ _ _, Below.refl _ _⟩
  case round =>
    obtain ⟨p, rfl, hp, hT, hO, hB⟩ := hrel
    have HT := Lib.hid hT
    have HO := Lib.hid hO
    have HB := Lib.hid hB
    obtain ⟨k0, k1⟩ := HK.out _ hB
    clear hT hO hB
    by_cases hlt : p < n
    · obtain ⟨x, hx⟩ := at_lt (l := l) (p := p) (by have := HN.out; omega)
      have hq : (p : Int) < (n : Int) := by omega
      obtain ⟨b1, o1, rfl, hb1, hcl1⟩ := (HR.out.below HB.out).spot (by omega) (by omega)
      have r0 := hcl1 _ _ (rowCells_at hx).1
      have r1 : wr.cell? ⟨b1, o1 + p * 2 + 1, none⟩ = some (.int .u32 x.2) := hcl1 _ _ (rowCells_at hx).2
      have HX := Lib.hid hx
      clear hcl1 hx
      by_cases hb : x.1 < s.1
      · have HBL := Lib.hid hb
        have hb2 : decide (x.1 < s.1) = true := by simpa using hb
        clear hb
        go_wp2
        go_quiet (fail)
        have HO := Lib.hid (show (wr.drewN nq).ownsRow W0.heap.size 73 2 _ p (rowCells (l.take p)) from HO.out)
        have HB := Lib.hid (below_drewN HB.out nq)
        have r0 : (wr.drewN nq).cell? ⟨b1, o1 + p * 2, none⟩ = some (.int .u32 x.1) := r0
        have r1 : (wr.drewN nq).cell? ⟨b1, o1 + p * 2 + 1, none⟩ = some (.int .u32 x.2) := r1
        generalize wr.drewN nq = wq at *
        have HA := Lib.hid (And.intro (HO.out.alloc (.cells #[.int .u32 x.1, .int .u32 x.2] 73)) (And.intro (reads_new wq #[.int .u32 x.1, .int .u32 x.2] 73 2 1 rfl) (show W0.heap.size ≤ (wq.alloc (.cells #[.int .u32 x.1, .int .u32 x.2] 73)).heap.size by have := HB.out.size; simp; omega)))
        go_wp2_with (at_builtin; go_loud (refine wpList_append_any _ rfl (.tmp 22) (.tmp 27) _ rfl W0.heap.size 73 i0 _ 2 8 Tryz.underlying50 hi0 hz0 hz1 hz2 rfl (by omega) _ p (rowCells (l.take p)) rfl HA.out.1 (wq.heap.size + 1) (some ⟨wq.heap.size, 0, none⟩) 1 1 [.int .u32 x.1, .int .u32 x.2] rfl HA.out.2.1 (by simp [Value.oneCell']) (by simp only [maxLen]; omega) (by omega) HA.out.2.2 ?_); intro v3 w3 hown3 hg3 hat3; have HOW := Lib.hid hown3; have HG := Lib.hid hg3; clear hown3 hg3 hat3)
        go_roundw
        case rel =>
          refine ⟨p + 1, by go_num, hlt, fun j y hj hy => ?_, by rw [rows_take HX.out]; exact HOW.out, ?_⟩
          · rcases Nat.lt_or_ge j p with h | h
            · exact HT.out j y h hy
            · obtain rfl : j = p := by omega
              rw [HX.out] at hy
              cases hy
              exact HBL.out
          · exact (HB.out.alloc HB.out.size _).grown HG.out HA.out.2.2 (fun k hk => (HO.out.lt k hk).1)
        case measure => simp [Lib.intOf]; omega
      · have hb2 : decide (x.1 < s.1) = false := by simpa using hb
        have HPR := Lib.hid (putR_at HRI.out HT.out (show p ≤ l.length by rw [HN.out]; exact hp))
        by_cases he : x.1 = s.1
        · have he2 : (x.1 == s.1) = true := by simpa using he
          have HPX := Lib.hid (HPR.out.1 x HX.out he)
          by_cases hv : x.2 = s.2
          · have hv2 : (x.2 == s.2) = true := by simpa using hv
            have HEQ := Lib.hid (show decide (x = s) = true by simpa using Prod.ext he hv)
            rw [HEQ.out] at HPX
            clear hb he hv HPR
            go_wp2
            go_quiet (fail)
            go_wp2
            go_upto_region 6 with (fail)
            go_quiet (fail)
            go_upto_region 7 with (fail)
            go_quiet (fail)
            go_wp2
            go_ret2
            refine ⟨⟨_, _, _, rfl, HPX.out, ?_, .inl rfl⟩, ?_⟩
            · exact HT0.out.on (HB0.out.trans ((below_drewN (below_drewN (below_drewN HB.out _) _) _).mono HB0.out.size))
            · exact HB0.out.trans ((below_drewN (below_drewN (below_drewN HB.out _) _) _).mono HB0.out.size)
          · have hv2 : (x.2 == s.2) = false := by simpa using hv
            have HEQ := Lib.hid (show decide (x = s) = false by rw [decide_eq_false_iff_not]; exact fun e => hv (by rw [e]))
            rw [HEQ.out] at HPX
            clear hb he hv HPR
            go_wp2
            go_quiet (fail)
            go_wp2
            go_upto_region 6 with (fail)
            go_quiet (fail)
            go_upto_region 7 with (fail)
            go_quiet (fail)
            go_wp2
            go_ret2
            refine ⟨⟨_, _, _, rfl, HPX.out, ?_, .inl rfl⟩, ?_⟩
            · exact HT0.out.on (HB0.out.trans ((below_drewN (below_drewN (below_drewN HB.out _) _) _).mono HB0.out.size))
            · exact HB0.out.trans ((below_drewN (below_drewN (below_drewN HB.out _) _) _).mono HB0.out.size)
        · have he2 : (x.1 == s.1) = false := by simpa using he
          have HPO := Lib.hid (HPR.out.2 (fun y hy => by rw [HX.out] at hy; cases hy; omega))
          clear hb he HPR
          go_wp2
          go_quiet (fail)
          have k0 : (wr.drewN nq).cell? ⟨w.heap.size, 0, none⟩ = some (.int .u32 s.1) := k0
          have k1 : (wr.drewN nq).cell? ⟨w.heap.size, 1, none⟩ = some (.int .u32 s.2) := k1
          have r0 : (wr.drewN nq).cell? ⟨b1, o1 + p * 2, none⟩ = some (.int .u32 x.1) := r0
          have HO := Lib.hid (show (wr.drewN nq).ownsRow W0.heap.size 73 2 _ p (rowCells (l.take p)) from HO.out)
          have HB := Lib.hid (below_drewN HB.out nq)
          generalize wr.drewN nq = wa at *
          go_upto_region 6 with (fail)
          go_quiet (fail)
          have k0 : (wa.drewN nq).cell? ⟨w.heap.size, 0, none⟩ = some (.int .u32 s.1) := k0
          have k1 : (wa.drewN nq).cell? ⟨w.heap.size, 1, none⟩ = some (.int .u32 s.2) := k1
          have r0 : (wa.drewN nq).cell? ⟨b1, o1 + p * 2, none⟩ = some (.int .u32 x.1) := r0
          have HO := Lib.hid (show (wa.drewN nq).ownsRow W0.heap.size 73 2 _ p (rowCells (l.take p)) from HO.out)
          have HB := Lib.hid (below_drewN HB.out nq)
          generalize wa.drewN nq = wq at *
          have HA := Lib.hid (And.intro (HO.out.alloc (.cells #[.int .u32 s.1, .int .u32 s.2] 73)) (And.intro (reads_new wq #[.int .u32 s.1, .int .u32 s.2] 73 2 1 rfl) (show W0.heap.size ≤ (wq.alloc (.cells #[.int .u32 s.1, .int .u32 s.2] 73)).heap.size by have := HB.out.size; simp; omega)))
          have HMID := Lib.hid (put_midG (s := s) (show p ≤ l.length by rw [HN.out]; exact hp))
          have HTK := Lib.hid (show rowCells ((l.take p ++ s :: l.drop p).take (p + 1)) = rowCells (l.take p) ++ [.int .u32 s.1, .int .u32 s.2] by rw [HMID.out.2.1, rowCells_append]; rfl)
          go_wp2_with (at_builtin; go_loud (refine wpList_append_any _ rfl (.tmp 52) (.tmp 54) _ rfl W0.heap.size 73 i0 _ 2 8 Tryz.underlying50 hi0 hz0 hz1 hz2 rfl (by omega) _ p (rowCells (l.take p)) rfl HA.out.1 (wq.heap.size + 1) (some ⟨wq.heap.size, 0, none⟩) 1 1 [.int .u32 s.1, .int .u32 s.2] rfl HA.out.2.1 (by simp [Value.oneCell']) (by simp only [maxLen]; omega) (by omega) HA.out.2.2 ?_); intro v3 w3 hown3 hg3 hat3; have HOW := Lib.hid (HTK.out.symm.subst (motive := fun z => w3.ownsRow W0.heap.size 73 2 v3 (p + 1) z) hown3); have HB3 := Lib.hid (show Below W0.heap.size W0 w3 from (HB.out.alloc HB.out.size _).grown hg3 HA.out.2.2 (fun k hk => (HO.out.lt k hk).1)); clear hown3 hg3 hat3)
          clear HA HO HB HTK
          generalize l.take p ++ s :: l.drop p = m at *
          go_loopw [6, 7] (fun ov iv wr => ∃ j : Nat, iv = .int .i64 (j : Int) ∧ p ≤ j ∧ j ≤ n ∧ wr.ownsRow W0.heap.size 73 2 ov (j + 1) (rowCells (m.take (j + 1))) ∧ Below W0.heap.size W0 wr) (fun _ iv _ => n - (Lib.intOf iv).toNat)
          case atStart => exact ⟨p, rfl, Nat.le_refl _, by omega, HOW.out, HB3.out⟩
          case round =>
            obtain ⟨j, rfl, hpj, hj, hO, hB⟩ := hrel
            have HO := Lib.hid hO
            have HB := Lib.hid hB
            clear hO hB
            by_cases hlt2 : j < n
            · obtain ⟨y, hy⟩ := at_lt (l := l) (p := j) (by have := HN.out; omega)
              have hq2 : (j : Int) < (n : Int) := by omega
              have HMY := Lib.hid (HMID.out.2.2 j y hpj hy)
              obtain ⟨b2, o2, e2, hb2, hcl2⟩ := (HR.out.below HB.out).spot (by omega) (by omega)
              cases e2
              have r2 := hcl2 _ _ (rowCells_at hy).1
              have r3 : wr.cell? ⟨b1, o1 + j * 2 + 1, none⟩ = some (.int .u32 y.2) := hcl2 _ _ (rowCells_at hy).2
              clear hcl2 hy
              have HA := Lib.hid (And.intro (HO.out.alloc (.cells #[.int .u32 y.1, .int .u32 y.2] 73)) (And.intro (reads_new wr #[.int .u32 y.1, .int .u32 y.2] 73 2 1 rfl) (show W0.heap.size ≤ (wr.alloc (.cells #[.int .u32 y.1, .int .u32 y.2] 73)).heap.size by have := HB.out.size; simp; omega)))
              go_wp2_with (at_builtin; go_loud (refine wpList_append_any _ rfl (.tmp 60) (.tmp 65) _ rfl W0.heap.size 73 i0 _ 2 8 Tryz.underlying50 hi0 hz0 hz1 hz2 rfl (by omega) _ (j + 1) (rowCells (m.take (j + 1))) rfl HA.out.1 (wr.heap.size + 1) (some ⟨wr.heap.size, 0, none⟩) 1 1 [.int .u32 y.1, .int .u32 y.2] rfl HA.out.2.1 (by simp [Value.oneCell']) (by simp only [maxLen]; omega) (by omega) HA.out.2.2 ?_); intro v4 w4 hown3 hg3 hat3; have HOX := Lib.hid hown3; have HG := Lib.hid hg3; clear hown3 hg3 hat3)
              go_roundw
              case rel =>
                refine ⟨j + 1, by go_num, by omega, hlt2, by rw [rows_take HMY.out]; exact HOX.out, ?_⟩
                exact (HB.out.alloc HB.out.size _).grown HG.out HA.out.2.2 (fun k hk => (HO.out.lt k hk).1)
              case measure => simp [Lib.intOf]; omega
            · obtain rfl : j = n := by omega
              have hq2 : ¬ (j : Int) < (j : Int) := by omega
              have HZ := Lib.hid (show m.take (j + 1) = m from List.take_of_length_le (by rw [HMID.out.1, HN.out]; exact Nat.le_refl _))
              have HML := Lib.hid (show m.length = j + 1 by rw [HMID.out.1, HN.out])
              rw [HZ.out] at HO
              go_wp2
              go_ret2
              exact ⟨⟨_, _, _, rfl, HPO.out, rows_of_own (by rw [HML.out]; exact HO.out), .inr ((fr_own HO.out).le HB0.out.size)⟩, HB0.out.trans (HB.out.mono HB0.out.size)⟩
    · obtain rfl : p = n := by omega
      have hq : ¬ (p : Int) < (p : Int) := by omega
      have HPO := Lib.hid ((putR_at (r := s) HRI.out HT.out (show p ≤ l.length by rw [HN.out]; exact hp)).2 (fun y hy => by rw [List.getElem?_eq_none (by rw [HN.out]; omega)] at hy; cases hy))
      go_wp2
      go_quiet (fail)
      have k0 : (wr.drewN nq).cell? ⟨w.heap.size, 0, none⟩ = some (.int .u32 s.1) := k0
      have k1 : (wr.drewN nq).cell? ⟨w.heap.size, 1, none⟩ = some (.int .u32 s.2) := k1
      have HOa := Lib.hid (show (wr.drewN nq).ownsRow W0.heap.size 73 2 _ p (rowCells (l.take p)) from HO.out)
      have HBa := Lib.hid (below_drewN HB.out nq)
      clear HO HB
      generalize wr.drewN nq = wa at *
      go_upto_region 6 with (fail)
      go_quiet (fail)
      have k0 : (wa.drewN nq).cell? ⟨w.heap.size, 0, none⟩ = some (.int .u32 s.1) := k0
      have k1 : (wa.drewN nq).cell? ⟨w.heap.size, 1, none⟩ = some (.int .u32 s.2) := k1
      have HO := Lib.hid (show (wa.drewN nq).ownsRow W0.heap.size 73 2 _ p (rowCells (l.take p)) from HOa.out)
      have HB := Lib.hid (below_drewN HBa.out nq)
      clear HOa HBa
      generalize wa.drewN nq = wq at *
      have HA := Lib.hid (And.intro (HO.out.alloc (.cells #[.int .u32 s.1, .int .u32 s.2] 73)) (And.intro (reads_new wq #[.int .u32 s.1, .int .u32 s.2] 73 2 1 rfl) (show W0.heap.size ≤ (wq.alloc (.cells #[.int .u32 s.1, .int .u32 s.2] 73)).heap.size by have := HB.out.size; simp; omega)))
      have HMID := Lib.hid (put_midG (s := s) (show p ≤ l.length by rw [HN.out]; exact hp))
      have HTK := Lib.hid (show rowCells ((l.take p ++ s :: l.drop p).take (p + 1)) = rowCells (l.take p) ++ [.int .u32 s.1, .int .u32 s.2] by rw [HMID.out.2.1, rowCells_append]; rfl)
      go_wp2_with (at_builtin; go_loud (refine wpList_append_any _ rfl (.tmp 52) (.tmp 54) _ rfl W0.heap.size 73 i0 _ 2 8 Tryz.underlying50 hi0 hz0 hz1 hz2 rfl (by omega) _ p (rowCells (l.take p)) rfl HA.out.1 (wq.heap.size + 1) (some ⟨wq.heap.size, 0, none⟩) 1 1 [.int .u32 s.1, .int .u32 s.2] rfl HA.out.2.1 (by simp [Value.oneCell']) (by simp only [maxLen]; omega) (by omega) HA.out.2.2 ?_); intro v3 w3 hown3 hg3 hat3; have HOW := Lib.hid (HTK.out.symm.subst (motive := fun z => w3.ownsRow W0.heap.size 73 2 v3 (p + 1) z) hown3); have HB3 := Lib.hid (show Below W0.heap.size W0 w3 from (HB.out.alloc HB.out.size _).grown hg3 HA.out.2.2 (fun k hk => (HO.out.lt k hk).1)); clear hown3 hg3 hat3)
      clear HA HO HB HTK
      generalize l.take p ++ s :: l.drop p = m at *
      go_loopw [6, 7] (fun ov iv wr => ∃ j : Nat, iv = .int .i64 (j : Int) ∧ p ≤ j ∧ j ≤ p ∧ wr.ownsRow W0.heap.size 73 2 ov (j + 1) (rowCells (m.take (j + 1))) ∧ Below W0.heap.size W0 wr) (fun _ iv _ => p - (Lib.intOf iv).toNat)
      case atStart => exact ⟨p, rfl, Nat.le_refl _, by omega, HOW.out, HB3.out⟩
      case round =>
        obtain ⟨j, rfl, hpj, hj, hO, hB⟩ := hrel
        have HO := Lib.hid hO
        have HB := Lib.hid hB
        clear hO hB
        by_cases hlt2 : j < p
        · exact absurd hlt2 (by omega)
        · obtain rfl : j = p := by omega
          have hq2 : ¬ (j : Int) < (j : Int) := by omega
          have HZ := Lib.hid (show m.take (j + 1) = m from List.take_of_length_le (by rw [HMID.out.1, HN.out]; exact Nat.le_refl _))
          have HML := Lib.hid (show m.length = j + 1 by rw [HMID.out.1, HN.out])
          rw [HZ.out] at HO
          go_wp2
          go_ret2
          exact ⟨⟨_, _, _, rfl, HPO.out, rows_of_own (by rw [HML.out]; exact HO.out), .inr ((fr_own HO.out).le HB0.out.size)⟩, HB0.out.trans (HB.out.mono HB0.out.size)⟩

-- BEGIN rowsf
set_option maxHeartbeats 8000000 in
set_option maxRecDepth 100000 in
theorem rrowsf_any (nm g : ByteArray) (kv tv pv : Value) (vs : List PKey) (T P : List ByteArray) (w : World) (h : KeysAt w w.heap.size kv vs) (hin : ValsIn vs) (ht : Txts w w.heap.size tv T) (hp : Txts w w.heap.size pv P) (hT : T.length ≤ 1000000) (hP : P.length ≤ 1000000) (hr : RiseL bl P) (hv : RiseL (fun x y => bl x.1 y.1) vs) (hm : ∀ v ∈ vs, v.1 ∈ P ∧ v.2 ∈ T) :
    Calls Tryz.prog 44 #[.agg #[.string nm, kv], .string g, tv, pv] w fun e w' => ∃ A m c, e = .returned (.slice A m c) ∧ RowsR w' w'.heap.size (.slice A m c) (rowsB T P vs g) ∧ Fr w.heap.size (.slice A m c) ∧ Below w.heap.size w w' := by
  have HK := Lib.hid h
  have HIN := Lib.hid hin
  have HMV := Lib.hid hm
  have HRI := Lib.hid (And.intro hr hv)
  obtain ⟨A, c, rfl, -, -, -⟩ := h
  obtain ⟨At, ct, rfl⟩ := txts_form ht
  obtain ⟨Ap, cp, rfl⟩ := txts_form hp
  have HTT := Lib.hid (show ∀ W, Below w.heap.size w W → Txts W W.heap.size (.slice At T.length ct) T ∧ Txts W W.heap.size (.slice Ap P.length cp) P from fun W hW => ⟨ht.on hW, hp.on hW⟩)
  have HL := Lib.hid (And.intro hT hP)
  obtain ⟨n, hN⟩ : ∃ n, vs.length = n := ⟨_, rfl⟩
  obtain ⟨nT, hnT⟩ : ∃ nT, T.length = nT := ⟨_, rfl⟩
  obtain ⟨nP, hnP⟩ : ∃ nP, P.length = nP := ⟨_, rfl⟩
  have HN := Lib.hid hN
  have hn1 : n ≤ 30 := by rw [← hN]; exact hin.2
  rw [hN] at HK ⊢
  rw [hnT, hnP] at HTT ⊢
  have HNT := Lib.hid (And.intro hnT hnP)
  clear hN hin hm hr hv ht hp hT hP hnT hnP
  have hn2 : (n : Int) ≤ 30 := by omega
  have HB0 := Lib.hid ((Below.refl _ w).alloc (Nat.le_refl _) (.cells #[.string nm, .slice A n c] 56))
  have HG0 := Lib.hid (Blk.new w 56 #[.string nm, .slice A n c])
  have HKW := Lib.hid (show ∀ W, Below w.heap.size w W → KeysAt W W.heap.size (.slice A n c) vs from fun W hW => HK.out.more hW hW.size)
  obtain ⟨w1, hw1⟩ : ∃ w1, w.alloc (.cells #[.string nm, .slice A n c] 56) = w1 := ⟨_, rfl⟩
  have HW1 := Lib.hid hw1
  rw [hw1] at HB0 HG0
  clear hw1
  go_enter Tryz.func44, Tryz.ntmps44
  go_upto_region 1 with (fail)
  rw [HW1.out]
  have k1 : w1.cell? ⟨w.heap.size, 1, none⟩ = some (.slice A n c) := HG0.out.cell 1
  go_wp2
  clear k1
  go_loopw [9, 15] (fun lv iv W => ∃ (i m : Nat) (A' : Option Addr) (c' : Nat), iv = .int .i64 (i : Int) ∧ i ≤ n ∧ lv = .slice A' m c' ∧ RowsR W W.heap.size (.slice A' m c') (rowsB T P (vs.take i) g) ∧ Fr w.heap.size (.slice A' m c') ∧ Below w.heap.size w W) (fun _ iv _ => n - (Lib.intOf iv).toNat)
  case atStart => exact ⟨0, 0, none, 0, rfl, Nat.zero_le _, rfl, ⟨none, 0, rfl, Nat.zero_le _, Nat.zero_le _, Reads.none_⟩, fr_none _, HB0.out⟩
  case round =>
    obtain ⟨i, m, A', c', rfl, hi, rfl, hT, hF, hB⟩ := hrel
    have HFR := Lib.hid hF
    clear hF
    have HT := Lib.hid hT
    have HB := Lib.hid hB
    clear hT hB
    by_cases hlt : i < n
    · have hq : (i : Int) < (n : Int) := by omega
      obtain ⟨⟨xp, xt⟩, hx⟩ : ∃ x, vs[i]? = some x := ⟨_, List.getElem?_eq_getElem (by rw [HN.out]; exact hlt)⟩
      obtain ⟨b1, o1, rfl, hb1, z0, z1⟩ := keys_spot (HKW.out wr HB.out) hx
      have HX := Lib.hid hx
      have HPO := Lib.hid (HIN.out.1 _ (List.mem_of_getElem? hx)).1
      have HMX := Lib.hid (HMV.out _ (List.mem_of_getElem? hx))
      simp only at z0 z1 HPO HMX
      clear hx
      have HB7 := Lib.hid (HB.out.alloc HB.out.size (.cells #[.string xp, .string xt] 59))
      have HT7 := Lib.hid ((show RowsR wr wr.heap.size (.slice A' m c') (rowsB T P (vs.take i) g) from HT.out).on ((Below.refl _ wr).alloc (Nat.le_refl _) (.cells #[.string xp, .string xt] 59)))
      have HG7 := Lib.hid (Blk.new wr 59 #[.string xp, .string xt])
      go_upto_region 5 with (fail)
      generalize wr.alloc (.cells #[.string xp, .string xt] 59) = w7 at *
      clear z0 z1
      obtain ⟨gv, hgv⟩ : ∃ gv, wr.heap.size = gv := ⟨_, rfl⟩
      rw [hgv] at HG7 ⊢
      clear hgv
      have x0 : w7.cell? ⟨gv, 0, none⟩ = some (.string xp) := HG7.out.cell 0
      have hbq := ba_beqB (grp xp) g
      by_cases he : grp xp = g
      · rw [decide_eq_true he] at hbq
        have HE := Lib.hid he
        clear he
        go_upto_region 6 with (go_at_call 48; go_must (refine (rgroup_any xp _ HPO.out).mono ?_; rintro en w8 ⟨rfl, hb8⟩; have HB8 := Lib.hid (HB7.out.trans (hb8.mono HB7.out.size)); have HT8 := Lib.hid (HT7.out.on hb8); have HG8 := Lib.hid (HG7.out.below hb8 HG7.out.lt); clear hb8))
        clear x0 hbq
        have z0 : w8.cell? ⟨gv, 0, none⟩ = some (.string xp) := HG8.out.cell 0
        have z1 : w8.cell? ⟨gv, 1, none⟩ = some (.string xt) := HG8.out.cell 1
        have HB9 := Lib.hid HB8.out
        obtain ⟨kp, hkp⟩ : ∃ kp, idx P xp = kp := ⟨_, rfl⟩
        obtain ⟨kt, hkt⟩ : ∃ kt, idx T xt = kt := ⟨_, rfl⟩
        have HAP := Lib.hid (show ∀ W, Below w.heap.size w W → Calls Tryz.prog 42 #[.slice Ap nP cp, .string xp] W (fun e w' => e = .returned (.int .u32 (kp : Int)) ∧ W = w') from fun W hW => by
          have h := rat_any _ P xp W (by have := (HTT.out W hW).2; rw [← HNT.out.2] at this; exact this) HMX.out.1 (by have := HL.out.2; omega)
          rw [hkp, HNT.out.2] at h
          exact h)
        have HAT := Lib.hid (show ∀ W, Below w.heap.size w W → Calls Tryz.prog 42 #[.slice At nT ct, .string xt] W (fun e w' => e = .returned (.int .u32 (kt : Int)) ∧ W = w') from fun W hW => by
          have h := rat_any _ T xt W (by have := (HTT.out W hW).1; rw [← HNT.out.1] at this; exact this) HMX.out.2 (by have := HL.out.1; omega)
          rw [hkt, HNT.out.1] at h
          exact h)
        have HPR := Lib.hid (show ∀ W, Below w8.heap.size w8 W → Calls Tryz.prog 72 #[.slice A' m c', .agg #[.int .u32 (kp : Int), .int .u32 (kt : Int)]] W (fun e w' => ∃ A9 m9 c9 ok9, e = .returned (.tuple #[.slice A9 m9 c9, .bool ok9]) ∧ RowsR w' w'.heap.size (.slice A9 m9 c9) (rowsB T P (vs.take (i + 1)) g) ∧ Fr w.heap.size (.slice A9 m9 c9) ∧ Below W.heap.size W w') from fun W hW => by
          refine (putrowf_any (.slice A' m c') (rowsB T P (vs.take i) g) ((kp : Int), (kt : Int)) W (HT8.out.on hW) (rowsB_rise HRI.out.1 (List.Pairwise.sublist (List.take_sublist i vs) HRI.out.2) (fun v hv => (HMV.out v (List.mem_of_mem_take hv)).1) g) (by have h1 := rowsB_len T P (vs.take i) g; rw [List.length_take] at h1; omega)).mono ?_
          rintro e w' ⟨⟨v9, out, ok9, rfl, hput, hr9, hf9⟩, hb9⟩
          have hfu : Fr w.heap.size v9 := by
            rcases hf9 with rfl | hf9
            · exact HFR.out
            · exact hf9.le (Nat.le_trans HB8.out.size hW.size)
          rw [← hkp, ← hkt] at hput
          have ho := rows_last HRI.out.1 HRI.out.2 (fun v hv => (HMV.out v hv).1) HX.out HE.out hput
          rw [ho] at hr9
          have hr9' := hr9
          obtain ⟨A9, c9, rfl, -⟩ := hr9'
          exact ⟨A9, _, c9, ok9, rfl, hr9, hfu, hb9⟩)
        clear hkp hkt
        refine wp_region_M (fun W => W.cell? ⟨gv, 0, none⟩ = some (.string xp) ∧ W.cell? ⟨gv, 1, none⟩ = some (.string xt)) 15 (by kernel_rfl) (by go_keep) (fun hHeld => ?_)
        refine wpAnyM_take (i := 0) (d := (some 25)) (v := ?_) rfl rfl (by kernel_rfl) (by kernel_rfl) (by kernel_rfl) (by kernel_rfl) (by kernel_rfl) (fun _ _ _ h => h) (Or.inl ⟨by rfl, ?_⟩) (by assumption) ?_
        rotate_left
        · intro w hSw
          (try dsimp only at hSw)
          go_simp
          (try with_reducible rfl)
        (try simp only [Act.put, List.setIfInBounds_toArray, List.set_cons_zero, List.set_cons_succ])
        refine wpAnyM_take (i := 1) (d := (some 26)) (v := ?_) rfl rfl (by kernel_rfl) (by kernel_rfl) (by kernel_rfl) (by kernel_rfl) (by kernel_rfl) (fun _ _ _ h => h) (Or.inl ⟨by rfl, ?_⟩) (by assumption) ?_
        rotate_left
        · intro w hSw
          (try dsimp only at hSw)
          go_simp
          (try with_reducible rfl)
        (try simp only [Act.put, List.setIfInBounds_toArray, List.set_cons_zero, List.set_cons_succ])
        refine wpAnyM_take (i := 2) (d := (some 27)) (v := ?_) rfl rfl (by kernel_rfl) (by kernel_rfl) (by kernel_rfl) (by kernel_rfl) (by kernel_rfl) (fun _ _ _ h => h) (Or.inl ⟨by rfl, ?_⟩) (by assumption) ?_
        rotate_left
        · intro w hSw
          (try dsimp only at hSw)
          go_simp
          (try with_reducible rfl)
        (try simp only [Act.put, List.setIfInBounds_toArray, List.set_cons_zero, List.set_cons_succ])
        refine wpAnyM_take (i := 3) (d := (some 28)) (v := ?_) rfl rfl (by kernel_rfl) (by kernel_rfl) (by kernel_rfl) (by kernel_rfl) (by kernel_rfl) (fun _ _ _ h => h) (Or.inl ⟨by rfl, ?_⟩) (by assumption) ?_
        rotate_left
        · intro w hSw
          (try dsimp only at hSw)
          go_simp
          (try with_reducible rfl)
        (try simp only [Act.put, List.setIfInBounds_toArray, List.set_cons_zero, List.set_cons_succ])
        refine wpAnyM_take (i := 5) (d := (some 30)) (v := ?_) rfl rfl (by kernel_rfl) (by kernel_rfl) (by kernel_rfl) (by kernel_rfl) (by kernel_rfl) (fun _ _ _ h => h) (Or.inl ⟨by rfl, ?_⟩) (by assumption) ?_
        rotate_left
        · intro w hSw
          (try dsimp only at hSw)
          go_simp
          (try with_reducible rfl)
        (try simp only [Act.put, List.setIfInBounds_toArray, List.set_cons_zero, List.set_cons_succ])
        refine wpAnyM_take (i := 6) (d := (some 31)) (v := ?_) rfl rfl (by kernel_rfl) (by kernel_rfl) (by kernel_rfl) (by kernel_rfl) (by kernel_rfl) (fun _ _ _ h => h) (Or.inl ⟨by rfl, ?_⟩) (by assumption) ?_
        rotate_left
        · intro w hSw
          (try dsimp only at hSw)
          go_simp
          (try with_reducible rfl)
        (try simp only [Act.put, List.setIfInBounds_toArray, List.set_cons_zero, List.set_cons_succ])
        refine wpAnyM_take (i := 7) (d := (some 32)) (v := ?_) rfl rfl (by kernel_rfl) (by kernel_rfl) (by kernel_rfl) (by kernel_rfl) (by kernel_rfl) (fun _ _ _ h => h) (Or.inl ⟨by rfl, ?_⟩) (by assumption) ?_
        rotate_left
        · intro w hSw
          (try dsimp only at hSw)
          go_simp
          (try with_reducible rfl)
        (try simp only [Act.put, List.setIfInBounds_toArray, List.set_cons_zero, List.set_cons_succ])
        refine wpAnyM_one (i := 4) (by kernel_rfl) ?_
        refine owe_early (i := 4) (d := (some 29)) rfl rfl (fun K hK => ?_)
        go_simp
        refine (HAP.out _ HB9.out.drew).mono ?_
        rintro en w9 ⟨rfl, rfl⟩
        refine hK.out _ _ (by go_keep) (fun hHeld => ?_)
        clear hK K
        (try simp only [Act.put, List.setIfInBounds_toArray, List.set_cons_zero, List.set_cons_succ])
        refine wpAnyM_one (i := 8) (by kernel_rfl) ?_
        refine owe_early (i := 8) (d := (some 33)) rfl rfl (fun K hK => ?_)
        go_simp
        refine (HAT.out _ HB9.out.drew).mono ?_
        rintro en w9 ⟨rfl, rfl⟩
        refine hK.out _ _ (by go_keep) (fun hHeld => ?_)
        clear hK K
        (try simp only [Act.put, List.setIfInBounds_toArray, List.set_cons_zero, List.set_cons_succ])
        refine wpAnyM_take (i := 9) (d := (some 34)) (v := ?_) rfl rfl (by kernel_rfl) (by kernel_rfl) (by kernel_rfl) (by kernel_rfl) (by kernel_rfl) (fun _ _ _ h => h) (Or.inl ⟨by rfl, ?_⟩) (by assumption) ?_
        rotate_left
        · intro w hSw
          (try dsimp only at hSw)
          go_simp
          (try with_reducible rfl)
        (try simp only [Act.put, List.setIfInBounds_toArray, List.set_cons_zero, List.set_cons_succ])
        refine wpAnyM_one (i := 10) (by kernel_rfl) ?_
        refine owe_early (i := 10) (d := (some 35)) rfl rfl (fun K hK => ?_)
        go_simp
        refine (HPR.out _ ((Below.refl _ w8).drew)).mono ?_
        rintro en w9 ⟨A9, m9, c9, ok9, rfl, hr9, hf10, hb9⟩
        have HF10 := Lib.hid hf10
        clear hf10
        have hbx : Below w8.heap.size w8 w9 := ((Below.refl _ w8).drew).trans hb9
        have HB10 := Lib.hid (HB8.out.trans (hbx.mono HB8.out.size))
        have HR10 := Lib.hid hr9
        have z0 := (HG8.out.below hbx HG8.out.lt).cell 0
        have z1 := (HG8.out.below hbx HG8.out.lt).cell 1
        clear hr9 hb9 hbx
        refine hK.out _ _ (by go_keep) (fun hHeld => ?_)
        clear hK K
        (try simp only [Act.put, List.setIfInBounds_toArray, List.set_cons_zero, List.set_cons_succ])
        refine wpAnyM_take (i := 11) (d := (some 24)) (v := ?_) rfl rfl (by kernel_rfl) (by kernel_rfl) (by kernel_rfl) (by kernel_rfl) (by kernel_rfl) (fun _ _ _ h => h) (Or.inl ⟨by rfl, ?_⟩) (by assumption) ?_
        rotate_left
        · intro w hSw
          (try dsimp only at hSw)
          go_simp
          (try with_reducible rfl)
        (try simp only [Act.put, List.setIfInBounds_toArray, List.set_cons_zero, List.set_cons_succ])
        refine wpAnyM_take (i := 12) (d := (some 36)) (v := ?_) rfl rfl (by kernel_rfl) (by kernel_rfl) (by kernel_rfl) (by kernel_rfl) (by kernel_rfl) (fun _ _ _ h => h) (Or.inl ⟨by rfl, ?_⟩) (by assumption) ?_
        rotate_left
        · intro w hSw
          (try dsimp only at hSw)
          go_simp
          (try with_reducible rfl)
        (try simp only [Act.put, List.setIfInBounds_toArray, List.set_cons_zero, List.set_cons_succ])
        refine wpAnyM_take (i := 13) (d := (some 37)) (v := ?_) rfl rfl (by kernel_rfl) (by kernel_rfl) (by kernel_rfl) (by kernel_rfl) (by kernel_rfl) (fun _ _ _ h => h) (Or.inl ⟨by rfl, ?_⟩) (by assumption) ?_
        rotate_left
        · intro w hSw
          (try dsimp only at hSw)
          go_simp
          (try with_reducible rfl)
        (try simp only [Act.put, List.setIfInBounds_toArray, List.set_cons_zero, List.set_cons_succ])
        refine wpAnyM_take (i := 14) (d := (some 9)) (v := ?_) rfl rfl (by kernel_rfl) (by kernel_rfl) (by kernel_rfl) (by kernel_rfl) (by kernel_rfl) (fun _ _ _ h => h) (Or.inl ⟨by rfl, ?_⟩) (by assumption) ?_
        rotate_left
        · intro w hSw
          (try dsimp only at hSw)
          go_simp
          (try with_reducible rfl)
        (try simp only [Act.put, List.setIfInBounds_toArray, List.set_cons_zero, List.set_cons_succ])
        refine wpAnyM_done (by kernel_rfl) ?_ _
        (try simp only [Act.put, List.setIfInBounds_toArray, List.set_cons_zero, List.set_cons_succ])
        skip
        clear z0 z1
        go_wp2
        go_roundw
        case rel => exact ⟨i + 1, m9, A9, c9, by go_num, hlt, rfl, HR10.out, HF10.out, HB10.out⟩
        case measure => simp [Lib.intOf]; omega
      · rw [decide_eq_false he] at hbq
        have HRN := Lib.hid (show rowsB T P (vs.take (i + 1)) g = rowsB T P (vs.take i) g from by rw [rowsB_next T P HX.out, if_neg (fun e => he e.symm)])
        clear he
        go_wp2_with (go_at_call 48; go_must (refine (rgroup_any xp _ HPO.out).mono ?_; rintro en w8 ⟨rfl, hb8⟩; have HB8 := Lib.hid (HB7.out.trans (hb8.mono HB7.out.size)); have HT8 := Lib.hid (HT7.out.on hb8); clear hb8))
        go_roundw
        case rel => exact ⟨i + 1, m, A', c', by go_num, hlt, rfl, by rw [HRN.out]; exact HT8.out, HFR.out, HB8.out⟩
        case measure => simp [Lib.intOf]; omega
    · obtain rfl : i = n := by omega
      have hq : ¬ (i : Int) < (i : Int) := by omega
      go_wp2
      go_ret
      exact ⟨_, _, _, rfl, by have h := HT.out; rw [List.take_of_length_le (by rw [HN.out]; exact Nat.le_refl _)] at h; exact h, HFR.out, HB.out⟩
-- END rowsf
end Go.Proofs.YtfpepdjffehbcaaGreat
