/-
  The walk of the document's Encode of a bundle. Condition: the bundle may be, and is small.
-/
import Derived.Test.YtfpepdjffehbcaaGreatRef22C
import Derived.Test.YtfpepdjffehbcaaGreatRefFour
import Derived.Test.YtfpepdjffehbcaaGreatBunBytes
import Derived.Test.YtfpepdjffehbcaaGreatCrc
set_option linter.unusedVariables false
set_option linter.unusedSimpArgs false
namespace Go.Proofs.YtfpepdjffehbcaaGreat
open Go.RowKit

/-- The bytes so far: a row of their own above a world. -/
def RE (wM W : World) (v : Value) (L : List UInt8) : Prop := Below wM.heap.size wM W ∧ OB W wM.heap.size 5 v L
theorem RE.on {wM W W' : World} {v : Value} {L : List UInt8} (h : RE wM W v L) (hb : Below W.heap.size W W') : RE wM W' v L := ⟨h.1.trans (hb.mono h.1.size), own_more h.2 hb⟩
theorem RE.drewN {wM W : World} {v : Value} {L : List UInt8} (h : RE wM W v L) (k : Nat) : RE wM (W.drewN k) v L := h.on (below_drewN (Below.refl _ _) k)
theorem RE.alloc {wM W : World} {v : Value} {L : List UInt8} (h : RE wM W v L) (o : Obj) : RE wM (W.alloc o) v L := h.on ((Below.refl _ W).alloc (Nat.le_refl _) o)
theorem RE.len {wM W : World} {A : Option Addr} {n c : Nat} {L : List UInt8} (h : RE wM W (.slice A n c) L) : L.length = n := by
  obtain ⟨A', c', e, -, -, -⟩ := OB.form h.2
  cases e
  rfl
theorem four_say {wM W : World} {v : Value} {L : List UInt8} {x : Nat} (h : RE wM W v L) (hx : x < 4294967296) (hl : L.length ≤ 100000000000) :
    Calls Tryz.prog 41 #[v, .int .u32 (x : Int)] W fun e w' => ∃ A n c, e = .returned (.slice A n c) ∧ RE wM w' (.slice A n c) (L ++ le 4 x) := by
  refine (rfour_any v L x wM.heap.size W h.2 h.1.size hx hl).mono ?_
  rintro e w' ⟨⟨A, n, c, rfl, ho⟩, hb⟩
  exact ⟨A, n, c, rfl, h.1.trans hb, ho⟩
/-- A row is written on, in its own block or a new one. -/
def TurnedR (v u : Value) (W W' : World) : Prop := W.grownBy W' v.ownBlock ∧ ∀ b, u.ownBlock = some b → v.ownBlock = some b ∨ W.heap.size ≤ b
theorem Held.turn {a z : Nat} {v u : Value} {wG W W' : World} (h : Held a z v wG W) (ht : TurnedR v u W W') : Held a z u wG W' := h.four ht.1 ht.2
theorem four2_say {wM W : World} {v : Value} {L : List UInt8} {x : Nat} (h : RE wM W v L) (hx : x < 4294967296) (hl : L.length ≤ 100000000000) :
    Calls Tryz.prog 41 #[v, .int .u32 (x : Int)] W fun e w' => ∃ A n c, e = .returned (.slice A n c) ∧ RE wM w' (.slice A n c) (L ++ le 4 x) ∧ TurnedR v (.slice A n c) W w' := by
  refine (rfour2_any v L x wM.heap.size W h.2 h.1.size hx hl).mono ?_
  rintro e w' ⟨⟨A, n, c, rfl, ho, hu⟩, hb, hg⟩
  exact ⟨A, n, c, rfl, ⟨h.1.trans hb, ho⟩, hg, hu⟩
theorem RE.held {wM W : World} {v : Value} {L : List UInt8} (h : RE wM W v L) (o : Obj) : Held W.heap.size (W.heap.size + 1) v (W.alloc o) (W.alloc o) :=
  ⟨by rw [World.size_alloc]; exact Nat.le_refl _, fun k _ _ => rfl, fun b hb => .inl (by have h2 := h.2; unfold OB at h2; exact (h2.lt b hb).2)⟩
theorem RE.heldB {wM W W' : World} {v : Value} {L : List UInt8} (h : RE wM W v L) (hb : Below W.heap.size W W') : Held W.heap.size W'.heap.size v W' W' :=
  ⟨Nat.le_refl _, fun k _ _ => rfl, fun b hb' => .inl (by have h2 := h.2; unfold OB at h2; exact (h2.lt b hb').2)⟩
theorem RE.text {wM W W' : World} {A : Option Addr} {n c : Nat} {L : List UInt8} {v' : Value} {s : ByteArray} (h : RE wM W (.slice A n c) L) (hown : W'.ownsRow wM.heap.size 5 1 v' (n + s.size) (bvs L ++ Lib.strCells s)) (hg : W.grownBy W' (Value.slice A n c).ownBlock) : RE wM W' v' (L ++ s.data.toList) := by
  have hn := h.len
  have e : (L ++ s.data.toList).length = n + s.size := by
    rw [List.length_append, hn]
    rfl
  refine ⟨h.1.grown hg h.1.size (fun k hk => (World.ownsRow.lt h.2 k hk).1), ?_⟩
  unfold OB
  rw [e, bvs_append]
  exact hown
theorem RE.own {wM W : World} {A : Option Addr} {n c : Nat} {L : List UInt8} (h : RE wM W (.slice A n c) L) : W.ownsRow wM.heap.size 5 1 (.slice A n c) n (bvs L) := by
  have h2 := h.2
  unfold OB at h2
  rw [h.len] at h2
  exact h2
theorem rows_mem {l : List PStep} {b : PStep} {g : ByteArray} (hb : b ∈ l) (hg : g ∈ groupsB b.2) : rowsB (textsP l) (pathsP l) b.2 g ∈ tabsB l := by
  refine (poolL_mem (lt := tl) _ _).2 ?_
  unfold allTabs
  exact List.mem_flatMap.2 ⟨b, hb, List.mem_map.2 ⟨g, hg, rfl⟩⟩
theorem group_mem {l : List PStep} {b : PStep} {g : ByteArray} (hb : b ∈ l) (hg : g ∈ groupsB b.2) : g ∈ textsP l := by
  unfold groupsB at hg
  obtain ⟨v, hv, rfl⟩ := List.mem_map.1 ((poolL_mem _ _).1 hg)
  exact (poolL_mem _ _).2 (words_val hb hv).1
theorem tabsP_tabE {w : World} {B : Nat} {v : Value} {ps : List (Value × List RowI)} (h : TabsP w B v ps) {i : Nat} {t : List RowI} (ht : (ps.map Prod.snd)[i]? = some t) : ∃ A c, (ps.map Prod.fst)[i]? = some (.slice A t.length c) ∧ RowsR w B (.slice A t.length c) t := by
  obtain ⟨A, c, e, h1, h2, h3, h4⟩ := h
  rw [List.getElem?_map] at ht
  cases hx : ps[i]? with
  | none => rw [hx] at ht; cases ht
  | some x =>
    obtain ⟨xv, xl⟩ := x
    rw [hx] at ht
    cases ht
    have hr := h4 _ (List.mem_of_getElem? hx)
    obtain ⟨A5, c5, e5, -⟩ := id hr
    simp only at e5
    subst e5
    exact ⟨A5, c5, by rw [List.getElem?_map, hx]; rfl, hr⟩
/-- A table of a list of tables, in memory. -/
theorem tabs_spot {W : World} {A : Option Addr} {n c : Nat} {ts : List (List RowI)} (h : TabsS W (.slice A n c) ts) {i : Nat} {t : List RowI} (ht : ts[i]? = some t) (hi : i < n) (hn : n ≤ 100000000) : ∃ b o A5 c5, A = some ⟨b, o, none⟩ ∧ b < W.heap.size ∧ W.cell? ⟨b, o + i, none⟩ = some (.slice A5 t.length c5) ∧ RowsR W W.heap.size (.slice A5 t.length c5) t := by
  obtain ⟨ps, rfl, h2⟩ := h
  obtain ⟨A5, c5, h3, h4⟩ := tabsP_tabE h2 ht
  obtain ⟨A', c', e, -, -, hR, -⟩ := h2
  cases e
  obtain ⟨b, o, rfl, hb, hcl⟩ := hR.spot (by omega) (by omega)
  exact ⟨b, o, A5, c5, rfl, hb, hcl _ _ h3, h4⟩
theorem tabs_far {W : World} {A : Option Addr} {n c : Nat} {ts : List (List RowI)} (h : TabsS W (.slice A n c) ts) {i : Nat} {t : List RowI} (ht : ts[i]? = some t) (hi : i < n) (hn : n ≤ 100000000) : ∃ b o A5 c5, A = some ⟨b, o, none⟩ ∧ ∀ W', Below W.heap.size W W' → W'.cell? ⟨b, o + i, none⟩ = some (.slice A5 t.length c5) ∧ RowsR W' W'.heap.size (.slice A5 t.length c5) t := by
  obtain ⟨ps, rfl, h2⟩ := h
  obtain ⟨A5, c5, h3, h4⟩ := tabsP_tabE h2 ht
  obtain ⟨A', c', e, -, -, hR, -⟩ := h2
  cases e
  obtain ⟨b, o, rfl, hb, hcl⟩ := hR.spot (by omega) (by omega)
  exact ⟨b, o, A5, c5, rfl, fun W' hW => ⟨(hW.cell (p := ⟨b, o + i, none⟩) hb).trans (hcl _ _ h3), (h4.below hW).more hW.size⟩⟩
theorem tabs_len {W : World} {A : Option Addr} {n c : Nat} {ts : List (List RowI)} (h : TabsS W (.slice A n c) ts) : ts.length = n := by
  obtain ⟨ps, rfl, h2⟩ := h
  obtain ⟨A', c', e, -⟩ := h2
  cases e
  rw [List.length_map]
-- BEGIN encode
set_option maxHeartbeats 16000000 in
set_option maxRecDepth 100000 in
theorem rencode_any (v : Value) (l : List PStep) (vs : List Value) (w : World) (h : StepsR w v l vs) (hin : BooksIn l) (hc : (checkB l).1 = 0) :
    Calls Tryz.prog 14 #[.agg #[v]] w fun e w' => ∃ A m c, e = .returned (.slice A m c) ∧ (bytesB l).length = m ∧ OB w' w.heap.size 5 (.slice A m c) (bytesB l) ∧ Below w.heap.size w w' := by
  have HF := Lib.hid (few_all hc ⟨by have := hin.2; omega, fun b hb => by have := (hin.1 b hb).2; omega⟩)
  have HS := Lib.hid h
  have HIN := Lib.hid hin
  obtain ⟨A, c, rfl, -, -, -, -, -⟩ := h
  obtain ⟨n, hN⟩ : ∃ n, l.length = n := ⟨_, rfl⟩
  have HN := Lib.hid hN
  have hn1 : n ≤ 11 := by rw [← hN]; exact hin.2
  rw [hN] at HS ⊢
  clear hN hin
  have hn2 : (n : Int) ≤ 11 := by omega
  have HB0 := Lib.hid ((Below.refl _ w).alloc (Nat.le_refl _) (.cells #[.slice A n c] 24))
  have HG0 := Lib.hid (Blk.new w 24 #[.slice A n c])
  have HSW := Lib.hid (show ∀ W, Below w.heap.size w W → StepsR W (.slice A n c) l vs from fun W hW => HS.out.more hW)
  obtain ⟨w1, hw1⟩ : ∃ w1, w.alloc (.cells #[.slice A n c] 24) = w1 := ⟨_, rfl⟩
  have HW1 := Lib.hid hw1
  rw [hw1] at HB0 HG0
  clear hw1
  have HCK := Lib.hid hc
  clear hc
  have HTN := Lib.hid (show (textsP l).length ≤ 1000000 ∧ (pathsP l).length ≤ 1000000 from by
    have h := few_take HIN.out l.length
    rw [List.take_length] at h
    exact ⟨pool_small h.1 (by omega), pool_small h.2 (by omega)⟩)
  have HTX := Lib.hid (fun (W : World) (hW : Below w1.heap.size w1 W) => rtexts_any (.slice A n c) l vs W (HSW.out W (HB0.out.trans (hW.mono HB0.out.size))) HIN.out)
  have HPX := Lib.hid (fun (W : World) (hW : Below w1.heap.size w1 W) => rpaths_any (.slice A n c) l vs W (HSW.out W (HB0.out.trans (hW.mono HB0.out.size))) HIN.out)
  have HXX0 := Lib.hid (fun (W : World) (hW : Below w1.heap.size w1 W) => rtables_any (.slice A n c) l vs W (HSW.out W (HB0.out.trans (hW.mono HB0.out.size))) HIN.out HCK.out)
  go_enter Tryz.func14, Tryz.ntmps14
  go_upto_region 1 with (fail)
  rw [HW1.out]
  obtain ⟨h0, hh0⟩ : ∃ h0, w.heap.size = h0 := ⟨_, rfl⟩
  have HH0 := Lib.hid hh0
  have HG1 := Lib.hid (show Blk w1 h0 24 #[.slice A n c] from by rw [← hh0]; exact HG0.out)
  rw [hh0]
  clear hh0
  have k0 : w1.cell? ⟨h0, 0, none⟩ = some (.slice A n c) := HG1.out.cell 0
  refine wp_region_M (fun W => W.cell? ⟨h0, 0, none⟩ = some (.slice A n c)) 6 (by kernel_rfl) (by go_keep) (fun hHeld => ?_)
  refine wpAnyM_take (i := 0) (d := (some 23)) (v := ?_) rfl rfl (by kernel_rfl) (by kernel_rfl) (by kernel_rfl) (by kernel_rfl) (by kernel_rfl) (fun _ _ _ h => h) (Or.inl ⟨by rfl, ?_⟩) (by assumption) ?_
  rotate_left
  · intro w hSw
    (try dsimp only at hSw)
    go_simp
    (try with_reducible rfl)
  (try simp only [Act.put, List.setIfInBounds_toArray, List.set_cons_zero, List.set_cons_succ])
  refine wpAnyM_take (i := 2) (d := (some 25)) (v := ?_) rfl rfl (by kernel_rfl) (by kernel_rfl) (by kernel_rfl) (by kernel_rfl) (by kernel_rfl) (fun _ _ _ h => h) (Or.inl ⟨by rfl, ?_⟩) (by assumption) ?_
  rotate_left
  · intro w hSw
    (try dsimp only at hSw)
    go_simp
    (try with_reducible rfl)
  (try simp only [Act.put, List.setIfInBounds_toArray, List.set_cons_zero, List.set_cons_succ])
  refine wpAnyM_take (i := 4) (d := (some 27)) (v := ?_) rfl rfl (by kernel_rfl) (by kernel_rfl) (by kernel_rfl) (by kernel_rfl) (by kernel_rfl) (fun _ _ _ h => h) (Or.inl ⟨by rfl, ?_⟩) (by assumption) ?_
  rotate_left
  · intro w hSw
    (try dsimp only at hSw)
    go_simp
    (try with_reducible rfl)
  (try simp only [Act.put, List.setIfInBounds_toArray, List.set_cons_zero, List.set_cons_succ])
  refine wpAnyM_one (i := 1) (by kernel_rfl) ?_
  refine owe_early (i := 1) (d := (some 24)) rfl rfl (fun K hK => ?_)
  go_simp
  refine (HTX.out _ ((Below.refl _ w1).drew)).mono ?_
  rintro en w2 ⟨At, nT, ct, rfl, ht, hb2⟩
  have hbx : Below w1.heap.size w1 w2 := ((Below.refl _ w1).drew).trans hb2
  have HB2 := Lib.hid hbx
  have HT2 := Lib.hid ht
  have k0 := (HG1.out.below hbx HG1.out.lt).cell 0
  clear ht hb2 hbx
  refine hK.out _ _ (by go_keep) (fun hHeld => ?_)
  clear hK K
  (try simp only [Act.put, List.setIfInBounds_toArray, List.set_cons_zero, List.set_cons_succ])
  refine wpAnyM_one (i := 3) (by kernel_rfl) ?_
  refine owe_early (i := 3) (d := (some 26)) rfl rfl (fun K hK => ?_)
  go_simp
  refine (HPX.out _ HB2.out).mono ?_
  rintro en w3 ⟨Ap, nP, cp, rfl, hp, hb3⟩
  have HB3 := Lib.hid (HB2.out.trans (hb3.mono HB2.out.size))
  have HT3 := Lib.hid (HT2.out.on hb3)
  have HP3 := Lib.hid hp
  have k0 := (HG1.out.below HB3.out HG1.out.lt).cell 0
  clear hp hb3
  refine hK.out _ _ (by go_keep) (fun hHeld => ?_)
  clear hK K
  (try simp only [Act.put, List.setIfInBounds_toArray, List.set_cons_zero, List.set_cons_succ])
  refine wpAnyM_one (i := 5) (by kernel_rfl) ?_
  refine owe_early (i := 5) (d := (some 28)) rfl rfl (fun K hK => ?_)
  go_simp
  refine (HXX0.out _ HB3.out).mono ?_
  rintro en wM ⟨Ax, nX, cx, rfl, hx, hb4⟩
  have HB4 := Lib.hid (HB3.out.trans (hb4.mono HB3.out.size))
  have HT4 := Lib.hid (HT3.out.on hb4)
  have HP4 := Lib.hid (HP3.out.on hb4)
  have HX4 := Lib.hid hx
  have HGM := Lib.hid (HG1.out.below HB4.out HG1.out.lt)
  have k0 := HGM.out.cell 0
  clear hx hb4
  refine hK.out _ _ (by go_keep) (fun hHeld => ?_)
  clear hK K
  (try simp only [Act.put, List.setIfInBounds_toArray, List.set_cons_zero, List.set_cons_succ])
  refine wpAnyM_one (i := 6) (by kernel_rfl) ?_
  refine owe_late (i := 6) (d := (some 3)) rfl rfl (by decide) (fun K hK => ?_)
  go_simp
  refine hK.out _ _ ?_
  clear hK K
  (try simp only [Act.put, List.setIfInBounds_toArray, List.set_cons_zero, List.set_cons_succ])
  refine wpAnyM_one (i := 7) (by kernel_rfl) ?_
  refine owe_late (i := 7) (d := (some 4)) rfl rfl (by decide) (fun K hK => ?_)
  go_simp
  refine hK.out _ _ ?_
  clear hK K
  (try simp only [Act.put, List.setIfInBounds_toArray, List.set_cons_zero, List.set_cons_succ])
  refine wpAnyM_one (i := 8) (by kernel_rfl) ?_
  refine owe_late (i := 8) (d := (some 5)) rfl rfl (by decide) (fun K hK => ?_)
  go_simp
  refine hK.out _ _ ?_
  clear hK K
  (try simp only [Act.put, List.setIfInBounds_toArray, List.set_cons_zero, List.set_cons_succ])
  refine wpAnyM_done (by kernel_rfl) ?_ _
  (try simp only [Act.put, List.setIfInBounds_toArray, List.set_cons_zero, List.set_cons_succ])
  skip
  clear k0
  have HB04 := Lib.hid (HB0.out.trans (HB4.out.mono HB0.out.size))
  have HTL := Lib.hid (show (textsP l).length = nT ∧ (pathsP l).length = nP ∧ (tabsB l).length = nX from by
    obtain ⟨_, _, e1, -⟩ := HT4.out
    obtain ⟨_, _, e2, -⟩ := HP4.out
    cases e1
    cases e2
    exact ⟨rfl, rfl, tabs_len HX4.out⟩)
  have hnT1 : nT ≤ 1000000 := by have h1 := HTN.out.1; have h2 := HTL.out.1; omega
  have hnP1 : nP ≤ 500000 := by have h1 := HF.out.nP; have h2 := HTL.out.2.1; omega
  have hnX1 : nX ≤ 500000 := by have h1 := HF.out.nX; have h2 := HTL.out.2.2; omega
  have jT : (nT : Int) ≤ 1000000 := by omega
  have jP : (nP : Int) ≤ 500000 := by omega
  have jX : (nX : Int) ≤ 500000 := by omega
  have wT : IntKind.u32.wrap (nT : Int) = (nT : Int) := by rw [IntKind.wrap_u32]; omega
  have wP : IntKind.u32.wrap (nP : Int) = (nP : Int) := by rw [IntKind.wrap_u32]; omega
  have wX : IntKind.u32.wrap (nX : Int) = (nX : Int) := by rw [IntKind.wrap_u32]; omega
  have wN : IntKind.u32.wrap (n : Int) = (n : Int) := by rw [IntKind.wrap_u32]; omega
  clear HT2 HT3 HP3 HB2 HB3 HTX HPX HXX0 HG1
  obtain ⟨i0, hi0, hz0, hz1, hz2⟩ := info_parts byte_info
  have HR0 := Lib.hid (show RB (wM.alloc (.cells #[.int .u8 86, .int .u8 82, .int .u8 78, .int .u8 67, .int .u8 1, .int .u8 0] 5)) (wM.heap.size + 1) (some ⟨wM.heap.size, 0, none⟩) [86, 82, 78, 67, 1, 0] from reads_new wM #[.int .u8 86, .int .u8 82, .int .u8 78, .int .u8 67, .int .u8 1, .int .u8 0] 5 1 6 rfl)
  have HBA := Lib.hid ((Below.refl _ wM).alloc (Nat.le_refl _) (.cells #[.int .u8 86, .int .u8 82, .int .u8 78, .int .u8 67, .int .u8 1, .int .u8 0] 5))
  go_upto_region 4 with (at_builtin; go_must (refine wpList_append_any _ rfl (.tmp 29) (.tmp 30) _ rfl wM.heap.size 5 i0 _ 1 1 Tryz.underlying27 hi0 hz0 hz1 hz2 rfl (by omega) _ 0 [] rfl (World.ownsRow_nil _ _ _ _) (wM.heap.size + 1) (some ⟨wM.heap.size, 0, none⟩) 6 6 (bvs [86, 82, 78, 67, 1, 0]) rfl HR0.out (bvs_one _) (by simp only [maxLen]; omega) (by omega) HBA.out.size ?_; intro v3 w5 hown3 hg3 hat3; have HO3 := Lib.hid hown3; have HB5 := Lib.hid (HBA.out.grown hg3 HBA.out.size (fun k hk => by cases hk)); clear hown3 hg3 hat3))
  obtain ⟨A3, c3, rfl, -, -, -⟩ := own_form HO3.out
  have HV3 := Lib.hid (show RE wM w5 (.slice A3 (0 + 6) c3) pre0 from ⟨HB5.out, HO3.out⟩)
  clear HO3 HB5 HBA HR0
  have HPA := Lib.hid (four_say HV3.out (x := nT) (by omega) (by rw [pre0_len]; omega))
  go_wp2_with fail
  refine HPA.out.mono ?_
  rintro en w6 ⟨A4, n4, c4, rfl, hr⟩
  have HV4 := Lib.hid (show RE wM w6 (.slice A4 n4 c4) (preT l) from by unfold preT; rw [HTL.out.1]; exact hr)
  clear hr HPA
  go_wp2
  go_loopw [6, 39] (fun lv iv W => ∃ (p m : Nat) (A' : Option Addr) (c' : Nat), iv = .int .i64 (p : Int) ∧ p ≤ nT ∧ lv = .slice A' m c' ∧ RE wM W (.slice A' m c') (preT l ++ ((textsP l).take p).flatMap textBy)) (fun _ iv _ => nT - (Lib.intOf iv).toNat)
  case atStart => exact ⟨0, n4, A4, c4, rfl, Nat.zero_le _, rfl, by simpa using HV4.out⟩
  case round =>
    clear HV4 HV3
    obtain ⟨p, m, A', c', rfl, hp, rfl, hV⟩ := hrel
    have HV := Lib.hid hV
    clear hV
    by_cases hpn : p < nT
    · -- <<e1
      have hq3 : (p : Int) < (nT : Int) := by omega
      obtain ⟨x, hx⟩ := at_lt (l := textsP l) (p := p) (by rw [HTL.out.1]; exact hpn)
      have HXX := Lib.hid hx
      obtain ⟨Ax', cx', ex, -, -, hRx⟩ := HT4.out.on HV.out.1
      rw [HTL.out.1] at ex hRx
      cases ex
      obtain ⟨b1, o1, rfl, hb1, hcl1⟩ := hRx.spot (by omega) (by omega)
      have r0 : wr.cell? ⟨b1, o1 + p, none⟩ = some (.string x) := hcl1 _ _ (str_at hx)
      have hsx := HF.out.sT x (List.mem_of_getElem? hx)
      have wx : IntKind.u32.wrap (x.size : Int) = (x.size : Int) := by rw [IntKind.wrap_u32]; omega
      obtain ⟨L, hL⟩ : ∃ L, preT l ++ ((textsP l).take p).flatMap textBy = L := ⟨_, rfl⟩
      have hl1 : L.length ≤ 6200000000 := by rw [← hL]; exact HF.out.lenT p
      have HLQ := Lib.hid hL
      rw [hL] at HV
      clear hcl1 hx hL hRx
      have HPA := Lib.hid (four_say HV.out (x := x.size) (by omega) (by omega))
      go_wp2_with fail
      refine HPA.out.mono ?_
      rintro en w7 ⟨A5, n5, c5, rfl, hr⟩
      have HV5 := Lib.hid (show RE wM w7 (.slice A5 n5 c5) (L ++ le 4 x.size) from hr)
      clear hr HPA
      have hm5 : n5 ≤ 6300000000 := by rw [← HV5.out.len, List.length_append, le_len]; omega
      have HOW := Lib.hid HV5.out.own
      have HBZ := Lib.hid HV5.out.1.size
      go_upto_region 10 with (at_builtin; go_must (refine Lib.wpList_append_own_string _ rfl (.tmp 48) (.tmp 49) _ _ rfl wM.heap.size 5 i0 Tryz.underlying27 Tryz.underlying9 hi0 hz0 hz1 hz2 _ n5 (bvs (L ++ le 4 x.size)) rfl HOW.out x rfl (by simp only [maxLen]; omega) (by omega) HBZ.out ?_; intro v6 w8 hown6 hg6 _; have HV6 := Lib.hid (HV5.out.text hown6 hg6); obtain ⟨A6, c6, rfl, -, -, -⟩ := own_form hown6; clear hown6 hg6))
      clear r0
      go_wp2
      go_roundw
      case rel => exact ⟨p + 1, _, A6, c6, by go_num, hpn, rfl, by rw [flat_next HXX.out, ← List.append_assoc, HLQ.out]; have := HV6.out; unfold textBy; rw [← List.append_assoc]; exact this⟩
      case measure => simp [Lib.intOf]; omega
      -- >>e1
    · obtain rfl : nT = p := by omega
      have hq3 : ¬ (nT : Int) < (nT : Int) := by omega
      have HVE := Lib.hid (show RE wM wr (.slice A' m c') (preT l ++ (textsP l).flatMap textBy) from by have := HV.out; rw [List.take_of_length_le (l := textsP l) (by rw [HTL.out.1]; exact Nat.le_refl _)] at this; exact this)
      obtain ⟨w7, hw7⟩ : ∃ w7, wr = w7 := ⟨_, rfl⟩
      rw [hw7] at HVE ⊢
      clear hw7 HV
      have HPA := Lib.hid (four_say HVE.out (x := nP) (by omega) (by have h := HF.out.lenT (textsP l).length; rw [List.take_length] at h; omega))
      go_wp2_with fail
      refine HPA.out.mono ?_
      rintro en w8 ⟨A5, n5, c5, rfl, hr⟩
      have HV5 := Lib.hid (show RE wM w8 (.slice A5 n5 c5) (preP l) from by unfold preP; rw [HTL.out.2.1]; exact hr)
      clear hr HPA
      go_wp2
      go_loopw [6, 59] (fun lv iv W => ∃ (p m : Nat) (A' : Option Addr) (c' : Nat), iv = .int .i64 (p : Int) ∧ p ≤ nP ∧ lv = .slice A' m c' ∧ RE wM W (.slice A' m c') (preP l ++ ((pathsP l).take p).flatMap fun s => le 4 (idx (textsP l) s))) (fun _ iv _ => nP - (Lib.intOf iv).toNat)
      case atStart => exact ⟨0, n5, A5, c5, rfl, Nat.zero_le _, rfl, by simpa using HV5.out⟩
      case round =>
        clear HV5 HVE
        obtain ⟨p, m, A', c', rfl, hp, rfl, hV⟩ := hrel
        have HV := Lib.hid hV
        clear hV
        by_cases hpn : p < nP
        · -- <<e2
          have hq3 : (p : Int) < (nP : Int) := by omega
          obtain ⟨x, hx⟩ := at_lt (l := pathsP l) (p := p) (by rw [HTL.out.2.1]; exact hpn)
          have HXX := Lib.hid hx
          obtain ⟨Ax', cx', ex, -, -, hRx⟩ := HP4.out.on HV.out.1
          rw [HTL.out.2.1] at ex hRx
          cases ex
          obtain ⟨b1, o1, rfl, hb1, hcl1⟩ := hRx.spot (by omega) (by omega)
          have r0 : wr.cell? ⟨b1, o1 + p, none⟩ = some (.string x) := hcl1 _ _ (str_at hx)
          have hxT := paths_words (List.mem_of_getElem? hx)
          have hkl := idx_lt hxT
          rw [HTL.out.1] at hkl
          have HAT := Lib.hid (rat_any (.slice At nT ct) (textsP l) x wr (HT4.out.on HV.out.1) hxT (by rw [HTL.out.1]; omega))
          obtain ⟨kx, hkx⟩ : ∃ kx, idx (textsP l) x = kx := ⟨_, rfl⟩
          have HKX := Lib.hid hkx
          rw [hkx] at hkl HAT
          obtain ⟨L, hL⟩ : ∃ L, (preP l ++ ((pathsP l).take p).flatMap fun s => le 4 (idx (textsP l) s)) = L := ⟨_, rfl⟩
          have hl1 : L.length ≤ 6210000000 := by rw [← hL]; exact HF.out.lenP p
          have HLQ := Lib.hid hL
          rw [hL] at HV
          clear hcl1 hx hL hRx hxT hkx
          go_wp2_with fail
          refine HAT.out.mono ?_
          rintro en w9 ⟨rfl, rfl⟩
          have HPA := Lib.hid (four_say HV.out (x := kx) (by omega) (by omega))
          go_wp2_with fail
          refine HPA.out.mono ?_
          rintro en w10 ⟨A6, n6, c6, rfl, hr⟩
          have HV6 := Lib.hid (show RE wM w10 (.slice A6 n6 c6) (L ++ le 4 kx) from hr)
          clear hr HPA
          clear r0
          go_wp2
          go_roundw
          case rel => exact ⟨p + 1, n6, A6, c6, by go_num, hpn, rfl, by rw [flat_next HXX.out, ← List.append_assoc, HLQ.out, HKX.out]; exact HV6.out⟩
          case measure => simp [Lib.intOf]; omega
          -- >>e2
        · obtain rfl : nP = p := by omega
          have hq3 : ¬ (nP : Int) < (nP : Int) := by omega
          have HVE := Lib.hid (show RE wM wr (.slice A' m c') (preP l ++ (pathsP l).flatMap fun s => le 4 (idx (textsP l) s)) from by have := HV.out; rw [List.take_of_length_le (l := pathsP l) (by rw [HTL.out.2.1]; exact Nat.le_refl _)] at this; exact this)
          obtain ⟨w9, hw9⟩ : ∃ w9, wr = w9 := ⟨_, rfl⟩
          rw [hw9] at HVE ⊢
          clear hw9 HV
          have HPA := Lib.hid (four_say HVE.out (x := nX) (by omega) (by have h := HF.out.lenP (pathsP l).length; rw [List.take_length] at h; omega))
          go_wp2_with fail
          refine HPA.out.mono ?_
          rintro en w10 ⟨A6, n6, c6, rfl, hr⟩
          have HV6 := Lib.hid (show RE wM w10 (.slice A6 n6 c6) (preX l) from by unfold preX; rw [HTL.out.2.2]; exact hr)
          clear hr HPA
          go_wp2
          go_loopw [6, 76] (fun lv iv W => ∃ (p m : Nat) (A' : Option Addr) (c' : Nat), iv = .int .i64 (p : Int) ∧ p ≤ nX ∧ lv = .slice A' m c' ∧ RE wM W (.slice A' m c') (preX l ++ ((tabsB l).take p).flatMap tabBy)) (fun _ iv _ => nX - (Lib.intOf iv).toNat)
          case atStart => exact ⟨0, n6, A6, c6, rfl, Nat.zero_le _, rfl, by simpa using HV6.out⟩
          case round =>
            clear HV6 HVE
            obtain ⟨p, m, A', c', rfl, hp, rfl, hV⟩ := hrel
            have HV := Lib.hid hV
            clear hV
            by_cases hpn : p < nX
            · -- <<e3
              have hq3 : (p : Int) < (nX : Int) := by omega
              obtain ⟨t, ht⟩ := at_lt (l := tabsB l) (p := p) (by rw [HTL.out.2.2]; exact hpn)
              obtain ⟨b1, o1, A7, c7, rfl, hr7⟩ := tabs_far HX4.out ht hpn (by omega)
              have HTP := Lib.hid ht
              have HTM := Lib.hid (List.mem_of_getElem? ht)
              have HR7 := Lib.hid hr7
              have r0 := (hr7 wr HV.out.1).1
              obtain ⟨nr, hnr⟩ : ∃ nr, t.length = nr := ⟨_, rfl⟩
              have HNR := Lib.hid hnr
              have hnr1 : nr ≤ 5000 := by rw [← hnr]; exact HF.out.sX t HTM.out
              have hnr2 : (nr : Int) ≤ 5000 := by omega
              have wr5 : IntKind.u32.wrap (nr : Int) = (nr : Int) := by rw [IntKind.wrap_u32]; omega
              rw [hnr] at r0 HR7
              obtain ⟨L, hL⟩ : ∃ L, (preX l ++ ((tabsB l).take p).flatMap tabBy) = L := ⟨_, rfl⟩
              have hl1 : L.length ≤ 28000000000 := by rw [← hL]; exact HF.out.lenX p
              have HLQ := Lib.hid hL
              rw [hL] at HV
              obtain ⟨wq, hwq⟩ : ∃ wq, wr = wq := ⟨_, rfl⟩
              rw [hwq] at HV r0 ⊢
              clear hL ht hr7 hnr hwq
              have HPA := Lib.hid (four_say HV.out (x := nr) (by omega) (by omega))
              go_wp2_with fail
              refine HPA.out.mono ?_
              rintro en w11 ⟨A8, n8, c8, rfl, hr⟩
              have HV8 := Lib.hid (show RE wM w11 (.slice A8 n8 c8) (L ++ le 4 nr) from hr)
              clear hr HPA
              clear r0
              go_wp2
              go_loopw [6, 87] (fun lv jv W => ∃ (q m : Nat) (A' : Option Addr) (c' : Nat), jv = .int .i64 (q : Int) ∧ q ≤ nr ∧ lv = .slice A' m c' ∧ RE wM W (.slice A' m c') ((L ++ le 4 nr) ++ (t.take q).flatMap rowBy)) (fun _ jv _ => nr - (Lib.intOf jv).toNat)
              case atStart => exact ⟨0, n8, A8, c8, rfl, Nat.zero_le _, rfl, by simpa using HV8.out⟩
              case round =>
                clear HV8 HV
                obtain ⟨q, m2, A2, c2, rfl, hq, rfl, hV⟩ := hrel
                have HV := Lib.hid hV
                clear hV
                by_cases hqn : q < nr
                · -- <<e4
                  have hq4 : (q : Int) < (nr : Int) := by omega
                  obtain ⟨⟨x1, x2⟩, hx⟩ := at_lt (l := t) (p := q) (by rw [HNR.out]; exact hqn)
                  have HXX := Lib.hid hx
                  have hxr := HF.out.rX t HTM.out _ (List.mem_of_getElem? hx)
                  simp only at hxr
                  obtain ⟨a1, ha1⟩ : ∃ a1 : Nat, x1 = (a1 : Int) := ⟨x1.toNat, by omega⟩
                  obtain ⟨a2, ha2⟩ : ∃ a2 : Nat, x2 = (a2 : Int) := ⟨x2.toNat, by omega⟩
                  subst ha1 ha2
                  have ha1 : a1 < 4294967296 := by omega
                  have ha2 : a2 < 4294967296 := by omega
                  obtain ⟨A', c', e', -, -, hR⟩ := (HR7.out wr HV.out.1).2
                  rw [HNR.out] at e' hR
                  cases e'
                  obtain ⟨b2, o2, rfl, hb2, hcl2⟩ := hR.spot (by omega) (by omega)
                  have r1 : wr.cell? ⟨b2, o2 + q * 2, none⟩ = some (.int .u32 (a1 : Int)) := hcl2 _ _ (rowCells_at hx).1
                  have r2 : wr.cell? ⟨b2, o2 + q * 2 + 1, none⟩ = some (.int .u32 (a2 : Int)) := hcl2 _ _ (rowCells_at hx).2
                  have HG := Lib.hid (Blk.new wr 73 #[.int .u32 (a1 : Int), .int .u32 (a2 : Int)])
                  have HVA := Lib.hid (HV.out.alloc (.cells #[.int .u32 (a1 : Int), .int .u32 (a2 : Int)] 73))
                  have HHD := Lib.hid (HV.out.held (.cells #[.int .u32 (a1 : Int), .int .u32 (a2 : Int)] 73))
                  clear hx hxr hR hcl2
                  go_upto_region 25 with (fail)
                  clear HV
                  generalize wr.alloc (.cells #[.int .u32 (a1 : Int), .int .u32 (a2 : Int)] 73) = wz at *
                  obtain ⟨gr, hgr⟩ : ∃ gr, wr.heap.size = gr := ⟨_, rfl⟩
                  rw [hgr] at HG HHD ⊢
                  clear hgr r1 r2
                  have y0 : wz.cell? ⟨gr, 0, none⟩ = some (.int .u32 (a1 : Int)) := HG.out.cell 0
                  have y1 : wz.cell? ⟨gr, 1, none⟩ = some (.int .u32 (a2 : Int)) := HG.out.cell 1
                  obtain ⟨L2, hL2⟩ : ∃ L2, (L ++ le 4 nr) ++ (t.take q).flatMap rowBy = L2 := ⟨_, rfl⟩
                  have hl2 : L2.length ≤ 28100000000 := by
                    have h := flat_le (f := rowBy) (c := 8) (l := t.take q) (fun r _ => by unfold rowBy; rw [List.length_append, le_len, le_len]; exact Nat.le_refl _)
                    rw [List.length_take, HNR.out] at h
                    rw [← hL2, List.length_append, List.length_append, le_len]
                    omega
                  have HLQ2 := Lib.hid hL2
                  rw [hL2] at HVA
                  clear hL2
                  have HPA := Lib.hid (four2_say HVA.out (x := a1) (by omega) (by omega))
                  go_wp2_with fail
                  refine HPA.out.mono ?_
                  rintro en w12 ⟨A12, n12, c12, rfl, hr, htu⟩
                  have HV12 := Lib.hid hr
                  have HU12 := Lib.hid htu
                  clear hr htu HPA
                  have z1 : w12.cell? ⟨gr, 1, none⟩ = some (.int .u32 (a2 : Int)) := (held_blk HG.out (Nat.le_refl _) (by omega) (HHD.out.turn HU12.out)).cell 1
                  clear y0 y1
                  have hl3 : (L2 ++ le 4 a1).length ≤ 28100000004 := by rw [List.length_append, le_len]; omega
                  have HPA := Lib.hid (four2_say HV12.out (x := a2) (by omega) (by omega))
                  go_wp2_with fail
                  refine HPA.out.mono ?_
                  rintro en w13 ⟨A13, n13, c13, rfl, hr, htu⟩
                  have HV13 := Lib.hid hr
                  have HU13 := Lib.hid htu
                  clear hr htu HPA
                  clear z1
                  go_wp2
                  go_roundw
                  case rel => exact ⟨q + 1, n13, A13, c13, by go_num, hqn, rfl, by rw [flat_next HXX.out, ← List.append_assoc, HLQ2.out]; have h := HV13.out; rw [List.append_assoc] at h; exact h⟩
                  case measure => simp [Lib.intOf]; omega
                  -- >>e4
                · obtain rfl : nr = q := by omega
                  have hq4 : ¬ (nr : Int) < (nr : Int) := by omega
                  have HVE := Lib.hid (show RE wM wr (.slice A2 m2 c2) (preX l ++ ((tabsB l).take (p + 1)).flatMap tabBy) from by
                    have h := HV.out
                    rw [List.take_of_length_le (l := t) (by rw [HNR.out]; exact Nat.le_refl _)] at h
                    rw [flat_next HTP.out, ← List.append_assoc, HLQ.out]
                    unfold tabBy
                    rw [HNR.out, ← List.append_assoc]
                    exact h)
                  clear HV
                  go_wp2
                  go_roundw
                  case rel => exact ⟨p + 1, m2, A2, c2, by go_num, hpn, rfl, HVE.out⟩
                  case measure => simp [Lib.intOf]; omega
              -- >>e3
            · obtain rfl : nX = p := by omega
              have hq3 : ¬ (nX : Int) < (nX : Int) := by omega
              have HVE := Lib.hid (show RE wM wr (.slice A' m c') (preX l ++ (tabsB l).flatMap tabBy) from by have := HV.out; rw [List.take_of_length_le (l := tabsB l) (by rw [HTL.out.2.2]; exact Nat.le_refl _)] at this; exact this)
              have k0 : wr.cell? ⟨h0, 0, none⟩ = some (.slice A n c) := (HGM.out.below HV.out.1 HGM.out.lt).cell 0
              obtain ⟨w14, hw14⟩ : ∃ w14, wr = w14 := ⟨_, rfl⟩
              rw [hw14] at HVE k0 ⊢
              clear hw14 HV
              have HPA := Lib.hid (four_say HVE.out (x := n) (by omega) (by have h := HF.out.lenX (tabsB l).length; rw [List.take_length] at h; omega))
              go_wp2_with fail
              refine HPA.out.mono ?_
              rintro en w15 ⟨A15, n15, c15, rfl, hr⟩
              have HV15 := Lib.hid (show RE wM w15 (.slice A15 n15 c15) (preK l) from by unfold preK; rw [HN.out]; exact hr)
              clear hr HPA
              clear k0
              have k0 : w15.cell? ⟨h0, 0, none⟩ = some (.slice A n c) := (HGM.out.below HV15.out.1 HGM.out.lt).cell 0
              go_wp2
              clear k0
              go_loopw [6, 110] (fun lv iv W => ∃ (p m : Nat) (A' : Option Addr) (c' : Nat), iv = .int .i64 (p : Int) ∧ p ≤ n ∧ lv = .slice A' m c' ∧ RE wM W (.slice A' m c') (preK l ++ (l.take p).flatMap (bookBy (textsP l) (pathsP l) (tabsB l)))) (fun _ iv _ => n - (Lib.intOf iv).toNat)
              case atStart => exact ⟨0, n15, A15, c15, rfl, Nat.zero_le _, rfl, by simpa using HV15.out⟩
              case round =>
                clear HV15 HVE
                obtain ⟨p, m, A', c', rfl, hp, rfl, hV⟩ := hrel
                have HV := Lib.hid hV
                clear hV
                by_cases hpn : p < n
                · -- <<e5
                  have hq3 : (p : Int) < (n : Int) := by omega
                  obtain ⟨⟨nm, vl⟩, hb⟩ : ∃ b, l[p]? = some b := ⟨_, List.getElem?_eq_getElem (by rw [HN.out]; exact hpn)⟩
                  obtain ⟨b1, o1, c3, Ak, ck, e1, hlt1, z0, z1, hv1, hk1⟩ := steps_spot (HSW.out wM HB04.out) hb
                  rw [HN.out] at e1
                  cases e1
                  have HBB := Lib.hid hb
                  have HBM := Lib.hid (List.mem_of_getElem? hb)
                  have HIB := Lib.hid (HIN.out.1 _ HBM.out)
                  simp only at z0 z1 HIB
                  obtain ⟨mk, hmk⟩ : ∃ mk, vl.length = mk := ⟨_, rfl⟩
                  have HMK := Lib.hid hmk
                  have hmk1 : mk ≤ 30 := by rw [← hmk]; exact HIB.out.2
                  have HK1 := Lib.hid (show ∀ W, Below wM.heap.size wM W → KeysAt W W.heap.size (.slice Ak mk ck) vl from fun W hW => by have h := hk1.more hW hW.size; rw [hmk] at h; exact h)
                  have r0 : wr.cell? ⟨b1, o1 + p * 2, none⟩ = some (.string nm) := (HV.out.1.cell (p := ⟨b1, o1 + p * 2, none⟩) hlt1).trans z0
                  have r1 : wr.cell? ⟨b1, o1 + p * 2 + 1, none⟩ = some (.slice Ak mk ck) := by rw [← hmk]; exact (HV.out.1.cell (p := ⟨b1, o1 + p * 2 + 1, none⟩) hlt1).trans z1
                  have HG := Lib.hid (Blk.new wr 56 #[.string nm, .slice Ak mk ck])
                  have HVA := Lib.hid (HV.out.alloc (.cells #[.string nm, .slice Ak mk ck] 56))
                  have HHD := Lib.hid (HV.out.held (.cells #[.string nm, .slice Ak mk ck] 56))
                  clear hb hv1 hk1 hmk z0 z1
                  go_upto_region 33 with (fail)
                  clear HV
                  generalize wr.alloc (.cells #[.string nm, .slice Ak mk ck] 56) = wz at *
                  obtain ⟨gk, hgk⟩ : ∃ gk, wr.heap.size = gk := ⟨_, rfl⟩
                  rw [hgk] at HG HHD ⊢
                  clear hgk r0 r1
                  have y0 : wz.cell? ⟨gk, 0, none⟩ = some (.string nm) := HG.out.cell 0
                  have hxT : nm ∈ textsP l := (poolL_mem _ _).2 (words_name HBM.out)
                  have hkl := idx_lt hxT
                  rw [HTL.out.1] at hkl
                  have HAT := Lib.hid (rat_any (.slice At nT ct) (textsP l) nm wz (HT4.out.on HVA.out.1) hxT (by rw [HTL.out.1]; omega))
                  obtain ⟨kx, hkx⟩ : ∃ kx, idx (textsP l) nm = kx := ⟨_, rfl⟩
                  have HKX := Lib.hid hkx
                  rw [hkx] at hkl HAT
                  obtain ⟨L, hL⟩ : ∃ L, (preK l ++ (l.take p).flatMap (bookBy (textsP l) (pathsP l) (tabsB l))) = L := ⟨_, rfl⟩
                  have hl1 : L.length ≤ 29000000000 := by rw [← hL]; exact HF.out.lenK p
                  have HLQ := Lib.hid hL
                  rw [hL] at HVA
                  clear hL hxT hkx
                  go_wp2_with fail
                  refine HAT.out.mono ?_
                  rintro en wz2 ⟨rfl, rfl⟩
                  have HPA := Lib.hid (four2_say HVA.out (x := kx) (by omega) (by omega))
                  go_wp2_with fail
                  refine HPA.out.mono ?_
                  rintro en w16 ⟨A16, n16, c16, rfl, hr, htu⟩
                  have HV16 := Lib.hid hr
                  have HU16 := Lib.hid htu
                  clear hr htu HPA
                  clear y0
                  have HH16 := Lib.hid (HHD.out.turn HU16.out)
                  have HG16 := Lib.hid (held_blk HG.out (Nat.le_refl _) (by omega) HH16.out)
                  have y0 : w16.cell? ⟨gk, 0, none⟩ = some (.string nm) := HG16.out.cell 0
                  have y1 : w16.cell? ⟨gk, 1, none⟩ = some (.slice Ak mk ck) := HG16.out.cell 1
                  have HGR := Lib.hid (rgroupsf_any nm (.slice Ak mk ck) vl w16 (HK1.out w16 HV16.out.1) HIB.out)
                  clear HVA HHD HAT
                  go_wp2_with fail
                  refine HGR.out.mono ?_
                  rintro en w17 ⟨Ag, mg, cg, rfl, hg17, hf17, hb17⟩
                  have HV17 := Lib.hid (HV16.out.on hb17)
                  have HK17 := Lib.hid (HH16.out.on hb17)
                  have HL17 := Lib.hid (HV16.out.heldB hb17)
                  have HF17 := Lib.hid hf17
                  have HS17 := Lib.hid hg17
                  have hz17 : w16.heap.size ≤ w17.heap.size := hb17.size
                  have hgl : (groupsB vl).length = mg := by
                    obtain ⟨_, _, e1, -⟩ := hg17
                    cases e1
                    rfl
                  have HGL := Lib.hid hgl
                  have hmg1 : mg ≤ 30 := by rw [← hgl]; have := groupsB_len vl; have := HMK.out; omega
                  have hmg2 : (mg : Int) ≤ 30 := by omega
                  have wG : IntKind.u32.wrap (mg : Int) = (mg : Int) := by rw [IntKind.wrap_u32]; omega
                  clear hg17 hf17 hb17 hgl y0 y1 HGR
                  have hl2 : (L ++ le 4 kx).length ≤ 29000000004 := by rw [List.length_append, le_len]; omega
                  have HPA := Lib.hid (four2_say HV17.out (x := mg) (by omega) (by omega))
                  go_wp2_with fail
                  refine HPA.out.mono ?_
                  rintro en w18 ⟨A18, n18, c18, rfl, hr, htu⟩
                  have HV18 := Lib.hid hr
                  have HU18 := Lib.hid htu
                  clear hr htu HPA
                  have HK18 := Lib.hid (HK17.out.turn HU18.out)
                  have HL18 := Lib.hid (HL17.out.turn HU18.out)
                  clear HK17 HL17 HH16 HV16 HV17
                  obtain ⟨L2, hL2⟩ : ∃ L2, (L ++ le 4 kx) ++ le 4 mg = L2 := ⟨_, rfl⟩
                  have HLQ2 := Lib.hid hL2
                  have hl3 : L2.length ≤ 29000000008 := by rw [← hL2, List.length_append, List.length_append, le_len, le_len]; omega
                  rw [hL2] at HV18
                  clear hL2 hl2
                  go_wp2
                  go_loopw [6, 129] (fun lv jv W => ∃ (q m : Nat) (A' : Option Addr) (c' : Nat), jv = .int .i64 (q : Int) ∧ q ≤ mg ∧ lv = .slice A' m c' ∧ RE wM W (.slice A' m c') (L2 ++ ((groupsB vl).take q).flatMap (grpBy (textsP l) (pathsP l) (tabsB l) (nm, vl))) ∧ Held gk (gk + 1) (.slice A' m c') wz W ∧ Held w16.heap.size w17.heap.size (.slice A' m c') w17 W) (fun _ jv _ => mg - (Lib.intOf jv).toNat)
                  case atStart => exact ⟨0, n18, A18, c18, rfl, Nat.zero_le _, rfl, by simpa using HV18.out, HK18.out, HL18.out⟩
                  case round =>
                    clear HV18 HK18 HL18
                    obtain ⟨q, m2, A2, c2, rfl, hq, rfl, hV, hK, hL⟩ := hrel
                    have HV := Lib.hid hV
                    have HK := Lib.hid hK
                    have HL := Lib.hid hL
                    clear hV hK hL
                    by_cases hqn : q < mg
                    · -- <<e6
                      have hq4 : (q : Int) < (mg : Int) := by omega
                      obtain ⟨gr, hgr⟩ : ∃ gr, (groupsB vl)[q]? = some gr := ⟨_, List.getElem?_eq_getElem (by rw [HGL.out]; exact hqn)⟩
                      have HGG := Lib.hid hgr
                      have HGM2 := Lib.hid (List.mem_of_getElem? hgr)
                      obtain ⟨Ag', cg', eg, -, -, hRg⟩ := held_txts HS17.out HF17.out HL.out
                      rw [HGL.out] at eg hRg
                      cases eg
                      obtain ⟨q1, p1, rfl, hq1, hcl1⟩ := hRg.spot (by omega) (by omega)
                      have r0 : wr.cell? ⟨q1, p1 + q, none⟩ = some (.string gr) := hcl1 _ _ (str_at hgr)
                      have hxT := group_mem (b := (nm, vl)) HBM.out HGM2.out
                      have hkl2 := idx_lt hxT
                      rw [HTL.out.1] at hkl2
                      have HAT := Lib.hid (rat_any (.slice At nT ct) (textsP l) gr wr (HT4.out.on HV.out.1) hxT (by rw [HTL.out.1]; omega))
                      obtain ⟨ky, hky⟩ : ∃ ky, idx (textsP l) gr = ky := ⟨_, rfl⟩
                      have HKY := Lib.hid hky
                      rw [hky] at hkl2 HAT
                      obtain ⟨L3, hL3⟩ : ∃ L3, L2 ++ ((groupsB vl).take q).flatMap (grpBy (textsP l) (pathsP l) (tabsB l) (nm, vl)) = L3 := ⟨_, rfl⟩
                      have hl4 : L3.length ≤ 29000001000 := by
                        have h := flat_le (f := grpBy (textsP l) (pathsP l) (tabsB l) (nm, vl)) (c := 8) (l := (groupsB vl).take q) (fun r _ => by unfold grpBy; rw [List.length_append, le_len, le_len]; exact Nat.le_refl _)
                        rw [List.length_take, HGL.out] at h
                        rw [← hL3, List.length_append]
                        omega
                      have HLQ3 := Lib.hid hL3
                      rw [hL3] at HV
                      clear hL3 hky hgr hRg hcl1 hxT
                      go_wp2_with fail
                      refine HAT.out.mono ?_
                      rintro en wz3 ⟨rfl, rfl⟩
                      have HPA := Lib.hid (four2_say HV.out (x := ky) (by omega) (by omega))
                      go_wp2_with fail
                      refine HPA.out.mono ?_
                      rintro en w19 ⟨A19, n19, c19, rfl, hr, htu⟩
                      have HV19 := Lib.hid hr
                      have HU19 := Lib.hid htu
                      clear hr htu HPA
                      clear r0
                      have HK19 := Lib.hid (HK.out.turn HU19.out)
                      have HL19 := Lib.hid (HL.out.turn HU19.out)
                      have HG19 := Lib.hid (held_blk HG.out (Nat.le_refl _) (by omega) HK19.out)
                      have y0 : w19.cell? ⟨gk, 0, none⟩ = some (.string nm) := HG19.out.cell 0
                      have y1 : w19.cell? ⟨gk, 1, none⟩ = some (.slice Ak mk ck) := HG19.out.cell 1
                      have hvr := ((checkB_ok HCK.out).2.2 _ HBM.out).2.1
                      have HRW := Lib.hid (rrowsf_any nm gr (.slice Ak mk ck) (.slice At nT ct) (.slice Ap nP cp) vl (textsP l) (pathsP l) w19 (HK1.out w19 HV19.out.1) HIB.out (HT4.out.on HV19.out.1) (HP4.out.on HV19.out.1) HTN.out.1 HTN.out.2 (poolL_rise blT _) hvr (val_in HBM.out))
                      clear hvr HV HK HL HAT
                      go_wp2_with fail
                      refine HRW.out.mono ?_
                      rintro en w20 ⟨A20, m20, c20, rfl, hr20, hf20, hb20⟩
                      have HV20 := Lib.hid (HV19.out.on hb20)
                      have HK20 := Lib.hid (HK19.out.on hb20)
                      have HL20 := Lib.hid (HL19.out.on hb20)
                      have HR20 := Lib.hid (HV19.out.heldB hb20)
                      have HF20 := Lib.hid hf20
                      have HS20 := Lib.hid hr20
                      have hz20 : w19.heap.size ≤ w20.heap.size := hb20.size
                      obtain ⟨tt, htt⟩ : ∃ tt, rowsB (textsP l) (pathsP l) vl gr = tt := ⟨_, rfl⟩
                      have HTT := Lib.hid htt
                      have HTM := Lib.hid (show tt ∈ tabsB l from by rw [← htt]; exact rows_mem (b := (nm, vl)) HBM.out HGM2.out)
                      have hkt := tix_lt HTM.out
                      rw [HTL.out.2.2] at hkt
                      rw [htt] at HS20
                      obtain ⟨kt, hkt2⟩ : ∃ kt, tix (tabsB l) tt = kt := ⟨_, rfl⟩
                      have HKT := Lib.hid hkt2
                      rw [hkt2] at hkt
                      clear hr20 hf20 hb20 htt hkt2 y0 y1 HRW HV19 HK19 HL19
                      go_wp2
                      go_loopw [6, 145] (fun lv jv W => ∃ (i m : Nat) (A' : Option Addr) (c' : Nat), jv = .int .i64 (i : Int) ∧ i ≤ nX ∧ lv = .slice A' m c' ∧ RE wM W (.slice A' m c') ((L3 ++ le 4 ky) ++ if kt < i then le 4 kt else []) ∧ Held gk (gk + 1) (.slice A' m c') wz W ∧ Held w16.heap.size w17.heap.size (.slice A' m c') w17 W ∧ Held w19.heap.size w20.heap.size (.slice A' m c') w20 W) (fun _ jv _ => nX - (Lib.intOf jv).toNat)
                      case atStart => exact ⟨0, n19, A19, c19, rfl, Nat.zero_le _, rfl, by simpa using HV20.out, HK20.out, HL20.out, HR20.out⟩
                      case round =>
                        clear HV20 HK20 HL20 HR20
                        obtain ⟨i, m3, A3', c3', rfl, hi, rfl, hV, hK, hL, hR⟩ := hrel
                        have HV := Lib.hid hV
                        have HK := Lib.hid hK
                        have HL := Lib.hid hL
                        have HR := Lib.hid hR
                        clear hV hK hL hR
                        by_cases hin : i < nX
                        · -- <<e7
                          have hq5 : (i : Int) < (nX : Int) := by omega
                          obtain ⟨t, ht⟩ := at_lt (l := tabsB l) (p := i) (by rw [HTL.out.2.2]; exact hin)
                          have HTP := Lib.hid ht
                          obtain ⟨b1, o1, A7, c7, rfl, hr7⟩ := tabs_far HX4.out ht hin (by omega)
                          obtain ⟨r0, hr8⟩ := hr7 wr HV.out.1
                          have HCM := Lib.hid (refcompare_any _ _ t tt wr hr8 (held_rows HS20.out HF20.out HR.out))
                          clear ht hr7 hr8
                          have wi : IntKind.u32.wrap (i : Int) = (i : Int) := by rw [IntKind.wrap_u32]; omega
                          by_cases hz : t = tt
                          · have hc0 : cmpT t tt = 0 := cmpT_zero.2 hz
                            rw [hc0] at HCM
                            have hki : kt = i := by rw [← HKT.out, ← hz]; exact tix_at (poolL_rise tlT _) HTP.out
                            subst hki
                            have HVB := Lib.hid (show RE wM wr (.slice A3' m3 c3') (L3 ++ le 4 ky) from by have h := HV.out; rw [if_neg (Nat.lt_irrefl _), List.append_nil] at h; exact h)
                            clear hz hc0 HV
                            go_wp2_with fail
                            refine HCM.out.mono ?_
                            rintro en w21 ⟨v21, q21, rfl, rfl, rfl⟩
                            have hbq := below_drewN (Below.refl wr.heap.size wr) q21
                            have HV21 := Lib.hid (HVB.out.on hbq)
                            have HK21 := Lib.hid (HK.out.on hbq)
                            have HL21 := Lib.hid (HL.out.on hbq)
                            have HR21 := Lib.hid (HR.out.on hbq)
                            generalize wr.drewN q21 = w21 at *
                            clear hbq r0 HCM HVB HK HL HR
                            have hl5 : (L3 ++ le 4 ky).length ≤ 29000001004 := by rw [List.length_append, le_len]; omega
                            have HPA := Lib.hid (four2_say HV21.out (x := kt) (by omega) (by omega))
                            go_wp2_with fail
                            refine HPA.out.mono ?_
                            rintro en w22 ⟨A22, n22, c22, rfl, hr, htu⟩
                            have HV22 := Lib.hid hr
                            have HU22 := Lib.hid htu
                            clear hr htu HPA
                            go_wp2
                            go_roundw
                            case rel => exact ⟨kt + 1, n22, A22, c22, by go_num, hin, rfl, by rw [if_pos (Nat.lt_succ_self _)]; exact HV22.out, HK21.out.turn HU22.out, HL21.out.turn HU22.out, HR21.out.turn HU22.out⟩
                            case measure => simp [Lib.intOf]; omega
                          · have hc0 : (cmpT t tt == 0) = false := by
                              have : ¬ cmpT t tt = 0 := fun h => hz (cmpT_zero.1 h)
                              simpa using this
                            have HVB := Lib.hid (show RE wM wr (.slice A3' m3 c3') ((L3 ++ le 4 ky) ++ if kt < i + 1 then le 4 kt else []) from by
                              have h := HV.out
                              have hne : kt ≠ i := fun e => hz (by
                                have h2 := tix_get HTM.out
                                rw [HKT.out, e, HTP.out] at h2
                                exact Option.some.inj h2)
                              have e2 : (kt < i) = (kt < i + 1) := propext ⟨fun h => by omega, fun h => by omega⟩
                              simp only [e2] at h
                              exact h)
                            obtain ⟨cq, hcq⟩ : ∃ cq, cmpT t tt = cq := ⟨_, rfl⟩
                            rw [hcq] at HCM hc0
                            clear hz HV hcq
                            go_wp2_with fail
                            refine HCM.out.mono ?_
                            rintro en w21 ⟨v21, q21, rfl, rfl, rfl⟩
                            have hbq := below_drewN (Below.refl wr.heap.size wr) q21
                            have HV21 := Lib.hid (HVB.out.on hbq)
                            have HK21 := Lib.hid (HK.out.on hbq)
                            have HL21 := Lib.hid (HL.out.on hbq)
                            have HR21 := Lib.hid (HR.out.on hbq)
                            generalize wr.drewN q21 = w21 at *
                            clear hbq r0 HCM HVB HK HL HR
                            go_wp2
                            go_roundw
                            case rel => exact ⟨i + 1, m3, A3', c3', by go_num, hin, rfl, HV21.out, HK21.out, HL21.out, HR21.out⟩
                            case measure => simp [Lib.intOf]; omega
                          -- >>e7
                        · obtain rfl : nX = i := by omega
                          have hq5 : ¬ (nX : Int) < (nX : Int) := by omega
                          have HVE := Lib.hid (show RE wM wr (.slice A3' m3 c3') (L2 ++ ((groupsB vl).take (q + 1)).flatMap (grpBy (textsP l) (pathsP l) (tabsB l) (nm, vl))) from by
                            have h := HV.out
                            rw [if_pos hkt] at h
                            rw [flat_next HGG.out, ← List.append_assoc, HLQ3.out]
                            unfold grpBy
                            rw [HKY.out, HTT.out, HKT.out, ← List.append_assoc]
                            exact h)
                          clear HV
                          go_wp2
                          go_roundw
                          case rel => exact ⟨q + 1, m3, A3', c3', by go_num, hqn, rfl, HVE.out, HK.out, HL.out⟩
                          case measure => simp [Lib.intOf]; omega
                      -- >>e6
                    · obtain rfl : mg = q := by omega
                      have hq4 : ¬ (mg : Int) < (mg : Int) := by omega
                      have HVE := Lib.hid (show RE wM wr (.slice A2 m2 c2) (preK l ++ (l.take (p + 1)).flatMap (bookBy (textsP l) (pathsP l) (tabsB l))) from by
                        have h := HV.out
                        rw [List.take_of_length_le (l := groupsB vl) (by rw [HGL.out]; exact Nat.le_refl _)] at h
                        rw [flat_next HBB.out, ← List.append_assoc, HLQ.out]
                        unfold bookBy
                        simp only
                        rw [HKX.out, HGL.out, ← List.append_assoc, ← List.append_assoc, HLQ2.out]
                        exact h)
                      clear HV HK HL
                      go_wp2
                      go_roundw
                      case rel => exact ⟨p + 1, m2, A2, c2, by go_num, hpn, rfl, HVE.out⟩
                      case measure => simp [Lib.intOf]; omega
                  -- >>e5
                · obtain rfl : n = p := by omega
                  have hq3 : ¬ (n : Int) < (n : Int) := by omega
                  have HVE := Lib.hid (show RE wM wr (.slice A' m c') (bodyB l) from by have := HV.out; rw [List.take_of_length_le (l := l) (by rw [HN.out]; exact Nat.le_refl _), ← body_pre] at this; exact this)
                  have hbl := HF.out.len
                  have HMN := Lib.hid (HVE.out.len)
                  obtain ⟨w23, hw23⟩ : ∃ w23, wr = w23 := ⟨_, rfl⟩
                  rw [hw23] at HVE ⊢
                  have HCR := Lib.hid (show Calls Tryz.prog 45 #[.slice A' m c'] w23 (fun e w' => e = .returned (.int .u32 (crc (bodyB l) : Int)) ∧ w23 = w') from by
                    obtain ⟨A9, c9, e9, -, -, hR9⟩ := OB.form HVE.out.2
                    rw [HMN.out] at e9
                    cases e9
                    have h := refcrc_any (bodyB l) _ c' w23.heap.size w23 hR9 (by unfold maxLen; omega)
                    rw [HMN.out] at h
                    exact h)
                  have hcl := crc_lt (bodyB l)
                  obtain ⟨kc, hkc⟩ : ∃ kc, crc (bodyB l) = kc := ⟨_, rfl⟩
                  have HKC := Lib.hid hkc
                  rw [hkc] at HCR hcl
                  clear hw23 HV hkc
                  go_wp2_with fail
                  refine HCR.out.mono ?_
                  rintro en w24 ⟨rfl, rfl⟩
                  have HPA := Lib.hid (four2_say HVE.out (x := kc) (by omega) (by omega))
                  go_wp2_with fail
                  refine HPA.out.mono ?_
                  rintro en w25 ⟨A25, n25, c25, rfl, hr, htu⟩
                  have HV25 := Lib.hid hr
                  have HU25 := Lib.hid htu
                  clear hr htu HPA
                  go_wp2
                  go_ret
                  have e : bodyB l ++ le 4 kc = bytesB l := by unfold bytesB; rw [HKC.out]
                  have h1 := HV25.out
                  rw [e] at h1
                  exact ⟨A25, n25, c25, rfl, h1.len, own_base h1.2 HB04.out.size, HB04.out.trans (h1.1.mono HB04.out.size)⟩
-- END encode
end Go.Proofs.YtfpepdjffehbcaaGreat
