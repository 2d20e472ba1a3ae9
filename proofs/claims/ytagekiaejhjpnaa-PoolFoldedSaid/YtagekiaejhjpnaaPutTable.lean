/-
  The walk of the document's PutTable: rising tables with one more. Condition: at most 1000000 tables.
-/
import Derived.Test.YtagekiaejhjpnaaPoolCmpT
import Derived.Test.YtagekiaejhjpnaaPoolPut
namespace Go.Proofs.Ytagekiaejhjpnaa
open Go.RowKit

/-- Tables, read. -/
def TabsP (w : World) (B : Nat) (v : Value) (ps : List (Value × List RowI)) : Prop := ∃ A c, v = .slice A ps.length c ∧ ps.length ≤ c ∧ c ≤ maxLen ∧ Reads w B 1 A ps.length (ps.map Prod.fst) ∧ ∀ x ∈ ps, RowsR w B x.1 x.2
theorem TabsP.below {w w' : World} {B : Nat} {v : Value} {ps : List (Value × List RowI)} (h : TabsP w B v ps) (hb : Below B w w') : TabsP w' B v ps := by
  obtain ⟨A, c, e, h1, h2, h3, h4⟩ := h
  exact ⟨A, c, e, h1, h2, h3.below hb, fun x hx => (h4 x hx).below hb⟩
theorem TabsP.more {w : World} {B B' : Nat} {v : Value} {ps : List (Value × List RowI)} (h : TabsP w B v ps) (hB : B ≤ B') : TabsP w B' v ps := by
  obtain ⟨A, c, e, h1, h2, h3, h4⟩ := h
  exact ⟨A, c, e, h1, h2, Reads.more h3 hB, fun x hx => (h4 x hx).more hB⟩
theorem TabsP.on {w w' : World} {v : Value} {ps : List (Value × List RowI)} (h : TabsP w w.heap.size v ps) (hb : Below w.heap.size w w') : TabsP w' w'.heap.size v ps := (h.below hb).more hb.size
theorem tabs_of_own {w : World} {base : Nat} {e : TypeId} {v : Value} {ps : List (Value × List RowI)} (h : w.ownsRow base e 1 v ps.length (ps.map Prod.fst)) (hr : ∀ x ∈ ps, RowsR w w.heap.size x.1 x.2) : TabsP w w.heap.size v ps := by
  obtain ⟨A, c, e, h1, h2, h3⟩ := own_form h
  exact ⟨A, c, e, h1, h2, h3, hr⟩
theorem tabs_nil (w : World) (B : Nat) : TabsP w B (.slice none 0 0) [] := ⟨none, 0, rfl, Nat.le_refl _, by simp [maxLen], Reads.none_, fun x hx => by cases hx⟩
theorem tab_cell {ps : List (Value × List RowI)} {i : Nat} {x : Value × List RowI} (h : ps[i]? = some x) : (ps.map Prod.fst)[i]? = some x.1 := by simp [h]
theorem rows_one {w : World} {B : Nat} {v : Value} {l : List RowI} (h : RowsR w B v l) : v.oneCell' = true := by
  obtain ⟨A, c, rfl, -⟩ := h
  rfl
theorem tab_take {ps : List (Value × List RowI)} {p : Nat} {x : Value × List RowI} (h : ps[p]? = some x) : (ps.take (p + 1)).map Prod.fst = (ps.take p).map Prod.fst ++ [x.1] := by
  rw [List.take_add_one, h]
  simp
theorem tabInfo : (Try.prog.info? 33).map (fun i => (i.zero, i.size, i.bytes)) = some (some (.slice none 0 0), 1, 24) := by kernel_rfl
def PutTabPost (l : List (List RowI)) (t : List RowI) (w : World) (e : Ending) (w' : World) : Prop := (∃ v ps, e = .returned v ∧ ps.map Prod.snd = insL tl l t ∧ TabsP w' w'.heap.size v ps) ∧ Below w.heap.size w w'
/-- One put between. -/
theorem tab_mid {ps : List (Value × List RowI)} {s : Value × List RowI} {p : Nat} (hp : p ≤ ps.length) : (ps.take p ++ s :: ps.drop p).length = ps.length + 1 ∧ ((ps.take p ++ s :: ps.drop p).take (p + 1)).map Prod.fst = (ps.take p).map Prod.fst ++ [s.1] ∧
    (∀ j x, p ≤ j → ps[j]? = some x → (ps.take p ++ s :: ps.drop p)[j + 1]? = some x) ∧ ∀ x ∈ ps.take p ++ s :: ps.drop p, x = s ∨ x ∈ ps := by
  have h1 : (ps.take p).length = p := by rw [List.length_take]; omega
  refine ⟨by simp; omega, ?_, fun j x hj hx => ?_, fun x hx => ?_⟩
  · rw [List.take_append, h1, show p + 1 - p = 1 by omega, List.take_take]
    simp
  · rw [List.getElem?_append_right (by omega), h1, show j + 1 - p = (j - p) + 1 by omega, List.getElem?_cons_succ, List.getElem?_drop, show p + (j - p) = j by omega]
    exact hx
  · rcases List.mem_append.1 hx with hx | hx
    · exact .inr (List.mem_of_mem_take hx)
    · rcases List.mem_cons.1 hx with hx | hx
      · exact .inl hx
      · exact .inr (List.mem_of_mem_drop hx)
/-- Where PutTable stops looking. -/
theorem tab_ins {ps : List (Value × List RowI)} {tv : Value} {t : List RowI} {p : Nat} (h0 : ∀ (j : Nat) (x : Value × List RowI), j < p → ps[j]? = some x → tl x.2 t = true) (hp : p ≤ ps.length) (h1 : ∀ x, ps[p]? = some x → tl x.2 t = false) :
    ((∃ x, ps[p]? = some x ∧ x.2 = t) → insL tl (ps.map Prod.snd) t = ps.map Prod.snd) ∧ ((∀ x, ps[p]? = some x → x.2 ≠ t) → insL tl (ps.map Prod.snd) t = (ps.take p ++ (tv, t) :: ps.drop p).map Prod.snd) := by
  have hs := insL_split (lt := tl) (ps.map Prod.snd) t p (fun j x hj hx => by
    rw [List.getElem?_map] at hx
    cases hy : ps[j]? with
    | none => rw [hy] at hx; cases hx
    | some y => rw [hy] at hx; cases hx; exact h0 j y hj hy) (by simpa using hp) (fun x hx => by
    rw [List.getElem?_map] at hx
    cases hy : ps[p]? with
    | none => rw [hy] at hx; cases hx
    | some y => rw [hy] at hx; cases hx; exact h1 y hy)
  refine ⟨fun ⟨x, hx, e⟩ => ?_, fun h => ?_⟩
  · rw [hs, if_pos (by rw [List.getElem?_map, hx, Option.map_some, e])]
  · rw [hs, if_neg (fun e => by
      rw [List.getElem?_map] at e
      cases hy : ps[p]? with
      | none => rw [hy] at e; cases e
      | some y => rw [hy] at e; exact h y hy (Option.some.inj e))]
    simp
set_option maxRecDepth 100000 in
set_option maxHeartbeats 16000000 in
theorem puttable_any (v tv : Value) (ps : List (Value × List RowI)) (t : List RowI) (w : World) (h : TabsP w w.heap.size v ps) (ht : RowsR w w.heap.size tv t) (hlen : ps.length ≤ 1000000) :
    Calls Try.prog 22 #[v, tv] w (PutTabPost (ps.map Prod.snd) t w) := by
  obtain ⟨A, c, rfl, hc, hm, hR, hRs⟩ := id h
  obtain ⟨At, ct, rfl, -⟩ := id ht
  have HT0 := Lib.hid h
  have HR := Lib.hid hR
  have HRS := Lib.hid hRs
  have HTV := Lib.hid ht
  unfold maxLen at hm
  clear hR hRs h ht
  generalize hn : ps.length = n at *
  have HN := Lib.hid hn
  have hn1 : (n : Int) ≤ 1000000 := by omega
  clear hn
  obtain ⟨i0, hi0, hz0, hz1, hz2⟩ := info_parts tabInfo
  go_enter Try.func22, Try.ntmps22
  go_wp2
  go_loopw [5, 6] (fun ov iv wr => ∃ p : Nat, iv = .int .i64 (p : Int) ∧ p ≤ n ∧ (∀ (j : Nat) (x : Value × List RowI), j < p → ps[j]? = some x → tl x.2 t = true) ∧ wr.ownsRow w.heap.size 33 1 ov p ((ps.take p).map Prod.fst) ∧ Below w.heap.size w wr) (fun _ iv _ => n - (Lib.intOf iv).toNat)
  case atStart => exact ⟨0, rfl, Nat.zero_le _, fun j x h => absurd h (by omega), World.ownsRow_nil _ _ _ _, Below.refl _ _⟩
  case round =>
    obtain ⟨p, rfl, hp, hT, hO, hB⟩ := hrel
    have HT := Lib.hid hT
    have HO := Lib.hid hO
    have HB := Lib.hid hB
    clear hT hO hB
    by_cases hlt : p < n
    · obtain ⟨⟨xv, xl⟩, hx⟩ := at_lt (l := ps) (p := p) (by have := HN.out; omega)
      have hq : (p : Int) < (n : Int) := by omega
      obtain ⟨b1, o1, rfl, hb1, hcl1⟩ := (HR.out.below HB.out).spot (by omega) (by omega)
      have hXR := HRS.out _ (List.mem_of_getElem? hx)
      obtain ⟨A3, c3, e3, -⟩ := id hXR
      simp only at e3
      subst e3
      have HXR := Lib.hid hXR
      clear hXR
      have r0 : wr.cell? ⟨b1, o1 + p, none⟩ = some (.slice A3 xl.length c3) := hcl1 _ _ (tab_cell hx)
      have HX := Lib.hid hx
      have HCM := Lib.hid (fun W (h : Below w.heap.size w W) => refcompare_any (Value.slice A3 xl.length c3) (Value.slice At t.length ct) xl t W (HXR.out.on h) (HTV.out.on h))
      clear hcl1 hx
      rcases cmpT_cases xl t with ⟨h1, h2⟩ | ⟨h1, h2, h3⟩ | ⟨h1, h2, h3⟩
      · have HBL := Lib.hid h1
        rw [h2] at HCM
        clear h1 h2
        go_upto_region 4 with (go_at_call 21; go_loud (refine (HCM.out _ HB.out).mono ?_; rintro en W ⟨vv, q, rfl, rfl, rfl⟩; have HO2 := Lib.hid (show (wr.drewN q).ownsRow w.heap.size 33 1 _ p ((ps.take p).map Prod.fst) from HO.out); have HB2 := Lib.hid (below_drewN HB.out q)))
        have HA := Lib.hid (fun q : Nat => And.intro ((show (wr.drewN q).ownsRow w.heap.size 33 1 _ p ((ps.take p).map Prod.fst) from HO.out).alloc (.cells #[Value.slice A3 xl.length c3] 33)) (And.intro (reads_new (wr.drewN q) #[Value.slice A3 xl.length c3] 33 1 1 rfl) (show w.heap.size ≤ ((wr.drewN q).alloc (.cells #[Value.slice A3 xl.length c3] 33)).heap.size by have := HB.out.size; simp; omega)))
        go_wp2_with (at_builtin; go_loud (refine wpList_append_any _ rfl (.tmp 20) (.tmp 25) _ rfl w.heap.size 33 i0 _ 1 24 Try.underlying42 hi0 hz0 hz1 hz2 rfl (by omega) _ p ((ps.take p).map Prod.fst) rfl (HA.out _).1 (wr.heap.size + 1) (some ⟨wr.heap.size, 0, none⟩) 1 1 [Value.slice A3 xl.length c3] rfl (HA.out _).2.1 (by simp [Value.oneCell']) (by simp only [maxLen]; omega) (by omega) (HA.out 0).2.2 ?_); intro v3 w3 hown3 hg3 hat3; have HOW := Lib.hid hown3; have HG := Lib.hid hg3; clear hown3 hg3 hat3)
        go_roundw
        case rel =>
          refine ⟨p + 1, by go_num, hlt, fun j y hj hy => ?_, by rw [tab_take HX.out]; exact HOW.out, ?_⟩
          · rcases Nat.lt_or_ge j p with h | h
            · exact HT.out j y h hy
            · obtain rfl : j = p := by omega
              rw [HX.out] at hy
              cases hy
              exact HBL.out
          · exact (HB2.out.alloc HB2.out.size _).grown HG.out (HA.out 0).2.2 (fun k hk => (HO.out.lt k hk).1)
        case measure => simp [Lib.intOf]; omega
      · rw [h3] at HCM
        have HIN := Lib.hid ((tab_ins (tv := (Value.slice At t.length ct)) (t := t) HT.out (by rw [HN.out]; exact hp) (fun y hy => by rw [HX.out] at hy; cases hy; exact h2)).1 ⟨_, HX.out, h1⟩)
        clear h1 h2 h3
        go_wp2_with (go_at_call 21; go_loud (first
          | (refine (HCM.out _ HB.out).mono ?_; rintro en W ⟨vv, q, rfl, rfl, rfl⟩)
          | (refine (HCM.out _ (below_drewN HB.out _)).mono ?_; rintro en W ⟨vv, q, rfl, rfl, rfl⟩)))
        go_ret
        exact ⟨⟨_, ps, rfl, HIN.out.symm, HT0.out.on (below_drewN HB.out _)⟩, below_drewN HB.out _⟩
      · rw [h3] at HCM
        have HIN := Lib.hid ((tab_ins (tv := (Value.slice At t.length ct)) (t := t) HT.out (by rw [HN.out]; exact hp) (fun y hy => by rw [HX.out] at hy; cases hy; exact h1)).2 (fun y hy => by rw [HX.out] at hy; cases hy; exact h2))
        have HMID := Lib.hid (tab_mid (s := ((Value.slice At t.length ct), t)) (show p ≤ ps.length by rw [HN.out]; exact hp))
        have HA := Lib.hid (fun q : Nat => And.intro ((show (wr.drewN q).ownsRow w.heap.size 33 1 _ p ((ps.take p).map Prod.fst) from HO.out).alloc (.cells #[(Value.slice At t.length ct)] 33)) (And.intro (reads_new (wr.drewN q) #[(Value.slice At t.length ct)] 33 1 1 rfl) (show w.heap.size ≤ ((wr.drewN q).alloc (.cells #[(Value.slice At t.length ct)] 33)).heap.size by have := HB.out.size; simp; omega)))
        clear h1 h2 h3
        go_upto_region 8 with (go_at_call 21; go_loud (first
          | (refine (HCM.out _ HB.out).mono ?_; rintro en W ⟨vv, q, rfl, rfl, rfl⟩)
          | (refine (HCM.out _ (below_drewN HB.out _)).mono ?_; rintro en W ⟨vv, q, rfl, rfl, rfl⟩)))
        go_wp2_with (at_builtin; go_loud (refine wpList_append_any _ rfl (.tmp 43) (.tmp 45) _ rfl w.heap.size 33 i0 _ 1 24 Try.underlying42 hi0 hz0 hz1 hz2 rfl (by omega) _ p ((ps.take p).map Prod.fst) rfl (HA.out _).1 (wr.heap.size + 1) (some ⟨wr.heap.size, 0, none⟩) 1 1 [(Value.slice At t.length ct)] rfl (HA.out _).2.1 (by simp [Value.oneCell']) (by simp only [maxLen]; omega) (by omega) (HA.out 0).2.2 ?_); intro v3 w3 hown3 hg3 hat3; have HOW := Lib.hid (HMID.out.2.1.symm.subst (motive := fun z => w3.ownsRow w.heap.size 33 1 v3 (p + 1) z) hown3); have HB3 := Lib.hid (show Below w.heap.size w w3 from ((below_drewN HB.out _).alloc (below_drewN HB.out _).size _).grown hg3 (HA.out 0).2.2 (fun k hk => (HO.out.lt k hk).1)); clear hown3 hg3 hat3)
        clear HA HO HB
        generalize ps.take p ++ ((Value.slice At t.length ct), t) :: ps.drop p = m at *
        go_loopw [5, 6] (fun ov iv wr => ∃ j : Nat, iv = .int .i64 (j : Int) ∧ p ≤ j ∧ j ≤ n ∧ wr.ownsRow w.heap.size 33 1 ov (j + 1) ((m.take (j + 1)).map Prod.fst) ∧ Below w.heap.size w wr) (fun _ iv _ => n - (Lib.intOf iv).toNat)
        case atStart => exact ⟨p, rfl, Nat.le_refl _, hp, HOW.out, HB3.out⟩
        case round =>
          obtain ⟨j, rfl, hpj, hj, hO, hB⟩ := hrel
          have HO := Lib.hid hO
          have HB := Lib.hid hB
          clear hO hB
          by_cases hlt2 : j < n
          · obtain ⟨⟨yv, yl⟩, hy⟩ := at_lt (l := ps) (p := j) (by have := HN.out; omega)
            have hq2 : (j : Int) < (n : Int) := by omega
            have hMY := HMID.out.2.2.1 j _ hpj hy
            obtain ⟨A4, c4, e4, -⟩ := HRS.out _ (List.mem_of_getElem? hy)
            simp only at e4
            subst e4
            have HMY := Lib.hid hMY
            clear hMY
            obtain ⟨b2, o2, e2, hb2, hcl2⟩ := (HR.out.below HB.out).spot (by omega) (by omega)
            cases e2
            have r2 : wr.cell? ⟨b1, o1 + j, none⟩ = some (.slice A4 yl.length c4) := hcl2 _ _ (tab_cell hy)
            clear hcl2 hy
            have HA := Lib.hid (And.intro (HO.out.alloc (.cells #[Value.slice A4 yl.length c4] 33)) (And.intro (reads_new wr #[Value.slice A4 yl.length c4] 33 1 1 rfl) (show w.heap.size ≤ (wr.alloc (.cells #[Value.slice A4 yl.length c4] 33)).heap.size by have := HB.out.size; simp; omega)))
            go_wp2_with (at_builtin; go_loud (refine wpList_append_any _ rfl (.tmp 51) (.tmp 56) _ rfl w.heap.size 33 i0 _ 1 24 Try.underlying42 hi0 hz0 hz1 hz2 rfl (by omega) _ (j + 1) ((m.take (j + 1)).map Prod.fst) rfl HA.out.1 (wr.heap.size + 1) (some ⟨wr.heap.size, 0, none⟩) 1 1 [Value.slice A4 yl.length c4] rfl HA.out.2.1 (by simp [Value.oneCell']) (by simp only [maxLen]; omega) (by omega) HA.out.2.2 ?_); intro v4 w4 hown3 hg3 hat3; have HOX := Lib.hid hown3; have HG := Lib.hid hg3; clear hown3 hg3 hat3)
            go_roundw
            case rel =>
              refine ⟨j + 1, by go_num, by omega, hlt2, by rw [tab_take HMY.out]; exact HOX.out, ?_⟩
              exact (HB.out.alloc HB.out.size _).grown HG.out HA.out.2.2 (fun k hk => (HO.out.lt k hk).1)
            case measure => simp [Lib.intOf]; omega
          · obtain rfl : j = n := by omega
            have hq2 : ¬ (j : Int) < (j : Int) := by omega
            have HZ := Lib.hid (show m.take (j + 1) = m from List.take_of_length_le (by rw [HMID.out.1, HN.out]; exact Nat.le_refl _))
            have HML := Lib.hid (show m.length = j + 1 by rw [HMID.out.1, HN.out])
            have HO := Lib.hid (HZ.out.subst (motive := fun z => wr.ownsRow w.heap.size 33 1 _ (j + 1) (z.map Prod.fst)) HO.out)
            have HMS := Lib.hid (fun x (hx : x ∈ m) => show RowsR wr wr.heap.size x.1 x.2 from by
              rcases HMID.out.2.2.2 x hx with e | e
              · rw [e]; exact HTV.out.on HB.out
              · exact (HRS.out x e).on HB.out)
            go_wp2
            go_ret
            exact ⟨⟨_, m, rfl, HIN.out.symm, tabs_of_own (by rw [HML.out]; exact HO.out) HMS.out⟩, HB.out⟩
    · obtain rfl : p = n := by omega
      have hq : ¬ (p : Int) < (p : Int) := by omega
      have HIN := Lib.hid ((tab_ins (tv := (Value.slice At t.length ct)) (t := t) HT.out (by rw [HN.out]; exact hp) (fun y hy => by rw [List.getElem?_eq_none (by rw [HN.out]; omega)] at hy; cases hy)).2 (fun y hy => by rw [List.getElem?_eq_none (by rw [HN.out]; omega)] at hy; cases hy))
      have HMID := Lib.hid (tab_mid (s := ((Value.slice At t.length ct), t)) (show p ≤ ps.length by rw [HN.out]; exact hp))
      have HA := Lib.hid (fun q : Nat => And.intro ((show (wr.drewN q).ownsRow w.heap.size 33 1 _ p ((ps.take p).map Prod.fst) from HO.out).alloc (.cells #[(Value.slice At t.length ct)] 33)) (And.intro (reads_new (wr.drewN q) #[(Value.slice At t.length ct)] 33 1 1 rfl) (show w.heap.size ≤ ((wr.drewN q).alloc (.cells #[(Value.slice At t.length ct)] 33)).heap.size by have := HB.out.size; simp; omega)))
      go_wp2_with (at_builtin; go_loud (refine wpList_append_any _ rfl (.tmp 43) (.tmp 45) _ rfl w.heap.size 33 i0 _ 1 24 Try.underlying42 hi0 hz0 hz1 hz2 rfl (by omega) _ p ((ps.take p).map Prod.fst) rfl (HA.out 0).1 (wr.heap.size + 1) (some ⟨wr.heap.size, 0, none⟩) 1 1 [(Value.slice At t.length ct)] rfl (HA.out 0).2.1 (by simp [Value.oneCell']) (by simp only [maxLen]; omega) (by omega) (HA.out 0).2.2 ?_); intro v3 w3 hown3 hg3 hat3; have HOW := Lib.hid (HMID.out.2.1.symm.subst (motive := fun z => w3.ownsRow w.heap.size 33 1 v3 (p + 1) z) hown3); have HB3 := Lib.hid (show Below w.heap.size w w3 from ((below_drewN HB.out 0).alloc (below_drewN HB.out 0).size _).grown hg3 (HA.out 0).2.2 (fun k hk => (HO.out.lt k hk).1)); clear hown3 hg3 hat3)
      clear HA HO HB
      generalize ps.take p ++ ((Value.slice At t.length ct), t) :: ps.drop p = m at *
      go_loopw [5, 6] (fun ov iv wr => ∃ j : Nat, iv = .int .i64 (j : Int) ∧ p ≤ j ∧ j ≤ p ∧ wr.ownsRow w.heap.size 33 1 ov (j + 1) ((m.take (j + 1)).map Prod.fst) ∧ Below w.heap.size w wr) (fun _ iv _ => p - (Lib.intOf iv).toNat)
      case atStart => exact ⟨p, rfl, Nat.le_refl _, hp, HOW.out, HB3.out⟩
      case round =>
        obtain ⟨j, rfl, hpj, hj, hO, hB⟩ := hrel
        have HO := Lib.hid hO
        have HB := Lib.hid hB
        clear hO hB
        by_cases hlt2 : j < p
        · exact absurd hlt2 (by omega)
        · obtain rfl : j = p := by omega
          have hq2 : ¬ (j : Int) < (j : Int) := by omega
          have HZ := Lib.hid (show m.take (j + 1) = m from List.take_of_length_le (by rw [HMID.out.1, HN.out]; exact Nat.le_refl _))
          have HML := Lib.hid (show m.length = j + 1 by rw [HMID.out.1, HN.out])
          have HO := Lib.hid (HZ.out.subst (motive := fun z => wr.ownsRow w.heap.size 33 1 _ (j + 1) (z.map Prod.fst)) HO.out)
          have HMS := Lib.hid (fun x (hx : x ∈ m) => show RowsR wr wr.heap.size x.1 x.2 from by
            rcases HMID.out.2.2.2 x hx with e | e
            · rw [e]; exact HTV.out.on HB.out
            · exact (HRS.out x e).on HB.out)
          go_wp2
          go_ret
          exact ⟨⟨_, m, rfl, HIN.out.symm, tabs_of_own (by rw [HML.out]; exact HO.out) HMS.out⟩, HB.out⟩
end Go.Proofs.Ytagekiaejhjpnaa
