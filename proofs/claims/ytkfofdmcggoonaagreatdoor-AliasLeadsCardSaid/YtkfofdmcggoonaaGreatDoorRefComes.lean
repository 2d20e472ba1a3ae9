/-
  The walks of ref13's Follows and comes. Condition: the pairs are right; at most 1000 of them.
-/
import Derived.Test.YtkfofdmcggoonaaGreatDoorRefIn
import Derived.Test.YtkfofdmcggoonaaGreatDoorAliasReach
import Derived.Deep.RegionHeld3
import Derived.BigQuiet
set_option linter.unusedVariables false
set_option linter.unusedSimpArgs false
namespace Go.Proofs.YtkfofdmcggoonaaGreatDoor
open Go.RowKit

theorem rin13_right (a b : ByteArray) (w : World) (ha : a.size ≤ 140737488355328) (hr : rightB b = true) (hne : b ≠ ByteArray.empty) :
    Calls Tryz.prog 30 #[.string a, .string b] w fun en w' => en = .returned (.bool (inB a b)) ∧ Below w.heap.size w w' := by
  obtain ⟨m, hm⟩ := rightB_ok.1 hr
  have hs := parseM_small hm
  refine rin13_any a b m w ha (by have := hs.2.2.1; omega) hm (Nat.pos_of_ne_zero fun h0 => hne ?_)
  have h1 := hs.2.2.2.1 (List.eq_nil_of_length_eq_zero h0)
  exact ByteArray.size_eq_zero_iff.1 h1
def FineP (x : PKey) : Prop := rightB x.1 = true ∧ rightB x.2 = true ∧ x.1 ≠ ByteArray.empty ∧ x.2 ≠ ByteArray.empty
set_option maxHeartbeats 4000000 in
theorem follows13_any (x y : PKey) (w : World) (hx : FineP x) (hy : FineP y) :
    Calls Tryz.prog 49 #[.agg #[.string x.1, .string x.2], .agg #[.string y.1, .string y.2]] w fun en w' => en = .returned (.bool (folB x y)) ∧ Below w.heap.size w w' := by
  obtain ⟨x1, x2⟩ := x
  obtain ⟨y1, y2⟩ := y
  have hs1 := right_size hx.1
  have hs2 := right_size hy.2.1
  simp only at hs1 hs2
  have HI1 := Lib.hid (fun W => rin13_right y2 x1 W (by omega) hx.1 hx.2.2.1)
  have HI2 := Lib.hid (fun W => rin13_right x1 y2 W (by omega) hy.2.1 hy.2.2.2)
  have HFB := Lib.hid (show folB (x1, x2) (y1, y2) = (inB y2 x1 || inB x1 y2) from rfl)
  simp only
  have hB1 := (Blk.new w 33 #[.string x1, .string x2]).alloc (.cells #[.string y1, .string y2] 33)
  have hB2 := Blk.new (w.alloc (.cells #[.string x1, .string x2] 33)) 33 #[.string y1, .string y2]
  have hsz : (w.alloc (.cells #[.string x1, .string x2] 33)).heap.size = w.heap.size + 1 := by simp
  rw [hsz] at hB2
  clear hsz
  have HBX := Lib.hid (show Below w.heap.size w ((w.alloc (.cells #[.string x1, .string x2] 33)).alloc (.cells #[.string y1, .string y2] 33)) from ((Below.refl _ w).alloc (Nat.le_refl _) _).alloc (by simp) _)
  go_enter Tryz.func49, Tryz.ntmps49
  go_upto_region 1 with (fail)
  generalize (w.alloc (.cells #[.string x1, .string x2] 33)).alloc (.cells #[.string y1, .string y2] 33) = w1 at *
  have z0 : w1.cell? ⟨w.heap.size, 0, none⟩ = some (.string x1) := hB1.cell 0
  have z1 : w1.cell? ⟨w.heap.size + 1, 1, none⟩ = some (.string y2) := hB2.cell 1
  have HBB := Lib.hid (And.intro hB1 hB2)
  clear hB1 hB2
  generalize inB y2 x1 = i1 at *
  generalize inB x1 y2 = i2 at *
  cases i1
  · go_wp2_with (first
      | (go_at_call_of 30 (#[Value.string y2, Value.string x1]); go_loud (refine (HI1.out _).mono ?_; rintro e w2 ⟨rfl, hb2⟩; have HB2 := Lib.hid (HBX.out.trans (hb2.mono HBX.out.size)); have y0 : w2.cell? ⟨w.heap.size, 0, none⟩ = some (.string x1) := (HBB.out.1.below hb2 HBB.out.1.lt).cell 0; have y1' : w2.cell? ⟨w.heap.size + 1, 1, none⟩ = some (.string y2) := (HBB.out.2.below hb2 HBB.out.2.lt).cell 1; clear hb2))
      | (go_at_call_of 30 (#[Value.string x1, Value.string y2]); go_loud (refine (HI2.out _).mono ?_; rintro e w3 ⟨rfl, hb3⟩; have HB3 := Lib.hid (HB2.out.trans (hb3.mono HB2.out.size)); clear hb3)))
    go_ret
    exact ⟨by rw [HFB.out]; rfl, HB3.out⟩
  · go_wp2_with (first
      | (go_at_call_of 30 (#[Value.string y2, Value.string x1]); go_loud (refine (HI1.out _).mono ?_; rintro e w2 ⟨rfl, hb2⟩; have HB2 := Lib.hid (HBX.out.trans (hb2.mono HBX.out.size)); clear hb2)))
    go_ret
    exact ⟨by rw [HFB.out]; rfl, HB2.out⟩
/-- What comes has made: the places that are met. -/
def CRows (w : World) (B n : Nat) (met : List Bool) (wr : World) : Prop := wr.ownsRow B 4 1 (.slice (some ⟨B, 0, none⟩) n n) n (boolVs met) ∧ Below B w wr ∧ B ≤ wr.heap.size
theorem crows_below {w wr w' : World} {B n : Nat} {met : List Bool} (h : CRows w B n met wr) (hb : Below wr.heap.size wr w') : CRows w B n met w' :=
  ⟨own_more h.1 hb, h.2.1.trans (hb.mono h.2.2), Nat.le_trans h.2.2 hb.size⟩
theorem crows_set {w wr : World} {B n : Nat} {met : List Bool} (h : CRows w B n met wr) (k : Nat) : CRows w B n (met.set k true) (wr.setCell ⟨B, k, none⟩ (.bool true)) := by
  obtain ⟨h1, h3, h5⟩ := h
  have hs := World.ownsRow.stored h1 k (.bool true)
  refine ⟨?_, h3.setCell (p := ⟨B, k, none⟩) (Nat.le_refl _) _, by simpa [World.setCell] using h5⟩
  have := hs.1
  unfold boolVs at this ⊢
  rw [List.map_set]
  exact this
/-- The part of OnB that has been looked at. -/
def OnTo (f : Nat → Nat → Bool) (i : Nat) (met : List Bool) (k p : Nat) (b : Bool) : Prop := b = true ↔ (f i k = true ∨ ∃ j, j < p ∧ met? met j ∧ f j k = true)
theorem onTo_skip {f : Nat → Nat → Bool} {i : Nat} {met : List Bool} {k p : Nat} (h : OnTo f i met k p false) (hm : met? met p → f p k = false) : OnTo f i met k (p + 1) false := by
  unfold OnTo at *
  simp only [Bool.false_eq_true, false_iff, not_or, not_exists, not_and] at h ⊢
  refine ⟨h.1, fun j hj hmj => ?_⟩
  by_cases e : j = p
  · subst e
    rw [hm hmj]
    simp
  · exact h.2 j (by omega) hmj
theorem onTo_yes {f : Nat → Nat → Bool} {i : Nat} {met : List Bool} {k p : Nat} (h : OnTo f i met k p true) : OnTo f i met k (p + 1) true := by
  unfold OnTo at *
  simp only [true_iff] at h ⊢
  rcases h with h | ⟨j, hj, h⟩
  · exact .inl h
  · exact .inr ⟨j, by omega, h⟩
theorem onTo_hit {f : Nat → Nat → Bool} {i : Nat} {met : List Bool} {k p : Nat} (hm : met? met p) (hf : f p k = true) : OnTo f i met k (p + 1) true := by
  unfold OnTo
  simp only [true_iff]
  exact .inr ⟨p, by omega, hm, hf⟩
theorem onTo_on {n : Nat} {f : Nat → Nat → Bool} {i : Nat} {met : List Bool} {k : Nat} {b : Bool} (h : OnTo f i met k n b) : b = true ↔ OnB n f i met k := h
/-- Where a round over the places is. -/
def ComesMid (n : Nat) (f : Nat → Nat → Bool) (i : Nat) (met met' : List Bool) (k : Nat) (ch : Bool) : Prop := RoundInv n f i met' ∧ met'.count false ≤ met.count false ∧ (ch = true → met'.count false < met.count false) ∧ (ch = false → met' = met ∧ ∀ j, j < k → OnB n f i met j → met? met j)
theorem mid_start {n : Nat} {f : Nat → Nat → Bool} {i : Nat} {met : List Bool} (h : RoundInv n f i met) : ComesMid n f i met met 0 false := ⟨h, Nat.le_refl _, by simp, fun _ => ⟨rfl, fun j hj => absurd hj (Nat.not_lt_zero _)⟩⟩
theorem mid_skip {n : Nat} {f : Nat → Nat → Bool} {i : Nat} {met met' : List Bool} {k : Nat} {ch : Bool} (h : ComesMid n f i met met' k ch) (hs : OnB n f i met' k → met? met' k) : ComesMid n f i met met' (k + 1) ch := by
  refine ⟨h.1, h.2.1, h.2.2.1, fun e => ?_⟩
  obtain ⟨rfl, h4⟩ := h.2.2.2 e
  refine ⟨rfl, fun j hj ho => ?_⟩
  by_cases ej : j = k
  · subst ej; exact hs ho
  · exact h4 j (by omega) ho
theorem mid_put {n : Nat} {f : Nat → Nat → Bool} {i : Nat} {met met' : List Bool} {k : Nat} {ch : Bool} (h : ComesMid n f i met met' k ch) (hk : k < n) (ho : OnB n f i met' k) (hm : met'[k]? = some false) : ComesMid n f i met (met'.set k true) (k + 1) true := by
  have hc := count_set hm
  exact ⟨round_put h.1 hk ho, by have := h.2.1; omega, fun _ => by have := h.2.1; omega, fun e => by cases e⟩
def chOf : Value → Nat
  | .bool true => 1
  | _ => 0
-- BEGIN comes
set_option maxHeartbeats 16000000 in
set_option maxRecDepth 100000 in
theorem comes_any (v : Value) (l : List PKey) (i : Nat) (w : World) (h : KeysAt w w.heap.size v l) (hF : ∀ x ∈ l, FineP x) (hi : i < l.length) (hn : l.length ≤ 1000) :
    Calls Tryz.prog 26 #[v, .int .i64 (i : Int)] w (ReachPost l.length (folF l) i w) := by
  obtain ⟨A, c, rfl, hc1, hc2, hR⟩ := h
  unfold maxLen at hc2
  have HRD := Lib.hid hR
  have HF := Lib.hid hF
  obtain ⟨n, hN⟩ : ∃ n, l.length = n := ⟨_, rfl⟩
  rw [hN] at hc1 hi hn HRD ⊢
  have HN := Lib.hid hN
  obtain ⟨B, hB⟩ : ∃ B, B = w.heap.size := ⟨_, rfl⟩
  have HB := Lib.hid hB
  obtain ⟨i0, hi0, hz0, hz1, hz2⟩ := info_parts bool_info
  have hn1 : (n : Int) ≤ 1000 := by omega
  have hi1 : (i : Int) < (n : Int) := by omega
  obtain ⟨⟨fx, fy⟩, hfx⟩ : ∃ x, l[i]? = some x := ⟨_, List.getElem?_eq_getElem (by rw [hN]; exact hi)⟩
  have HFX := Lib.hid hfx
  have HFF := Lib.hid (hF _ (List.mem_of_getElem? hfx))
  have hatf := pairCells_at l i _ hfx
  obtain ⟨b, o, rfl, hb, hcl⟩ := hR.spot (by omega) (by omega)
  have HCC := Lib.hid (fun (X : World) (hX : Below B w X) (j : Nat) (x : PKey) (hx : l[j]? = some x) => show X.cell? ⟨b, o + j * 2, none⟩ = some (.string x.1) ∧ X.cell? ⟨b, o + j * 2 + 1, none⟩ = some (.string x.2) from by
    have hat := pairCells_at l j x hx
    exact ⟨(hX.cell (p := ⟨b, o + j * 2, none⟩) (by rw [hB]; exact hb)).trans (hcl _ _ hat.1), (hX.cell (p := ⟨b, o + j * 2 + 1, none⟩) (by rw [hB]; exact hb)).trans (hcl _ _ hat.2)⟩)
  clear hR hF hB hN hfx hcl hatf hb
  go_enter Tryz.func26, Tryz.ntmps26
  go_upto_region 2 with (at_make; refine wpList_make_full _ rfl _ _ 50 rfl w.heap.size 4 i0 (.bool false) 1 Tryz.underlying50 hi0 hz0 hz1 .i64 .i64 _ _ n rfl rfl rfl rfl (by rw [hz2]; omega) (by simp only [maxLen]; omega) (Nat.le_refl _) ?_; intro w1 hown1 hg1)
  rw [show (Value.bool false).cells = #[.bool false] from rfl, Nat.mul_one, toList_madeCells_one] at hown1
  have HA0 := Lib.hid (show CRows w B n (List.replicate n false) w1 from by
    have h1 : Below w.heap.size w w1 := (Below.refl _ w).grown hg1 (Nat.le_refl _) (fun k hk => by cases hk)
    rw [HB.out]
    exact ⟨by simpa [boolVs] using hown1, h1, h1.size⟩)
  rw [← HB.out]
  clear hown1 hg1
  go_wp2
  go_loopw [6] (fun cv wr => ∃ met ch, cv = .bool ch ∧ RoundInv n (folF l) i met ∧ CRows w B n met wr ∧ (ch = false → ∀ k, k < n → OnB n (folF l) i met k → met? met k)) (fun cv wr => 2 * falsesAt B wr + chOf cv)
  case atStart => exact ⟨_, true, rfl, round_start _ hi, HA0.out, fun h => by cases h⟩
  case round =>
    clear HA0
    obtain ⟨met, ch, rfl, hI, hC, hcl⟩ := hrel
    have HI := Lib.hid hI
    have HC := Lib.hid hC
    have HCL := Lib.hid hcl
    clear hI hC hcl
    cases ch
    · obtain ⟨mb, hmb⟩ : ∃ mb, met[i]? = some mb := ⟨met[i]'(by rw [HI.out.1]; exact hi), List.getElem?_eq_getElem _⟩
      have k3 : wr.cell? ⟨B, i, none⟩ = some (.bool mb) := own_cell HC.out.1 i _ (boolVs_at hmb)
      have HE := Lib.hid (round_end HI.out (HCL.out rfl))
      have HMB := Lib.hid hmb
      clear hmb
      go_wp2
      go_ret
      refine ⟨⟨mb, rfl, ?_⟩, HB.out ▸ HC.out.2.1⟩
      rw [← HE.out]
      unfold met?
      rw [HMB.out]
      simp
    · go_wp2
      go_loopw [6, 7] (fun cv kv wr => ∃ (k : Nat) (met' : List Bool) (ch : Bool), kv = .int .i64 (k : Int) ∧ k ≤ n ∧ cv = .bool ch ∧ ComesMid n (folF l) i met met' k ch ∧ CRows w B n met' wr) (fun _ kv _ => n - (Lib.intOf kv).toNat)
      case atStart => exact ⟨0, met, false, rfl, Nat.zero_le _, rfl, mid_start HI.out, HC.out⟩
      case round =>
        obtain ⟨k, met', ch, rfl, hk, rfl, hM, hC⟩ := hrel
        have HM := Lib.hid hM
        have HC2 := Lib.hid hC
        have HMB := Lib.hid hM.1.1
        clear hM hC
        by_cases hkn : k < n
        · have hq1 : (k : Int) < (n : Int) := by omega
          obtain ⟨⟨xk, yk⟩, hxk⟩ : ∃ x, l[k]? = some x := ⟨_, List.getElem?_eq_getElem (by rw [HN.out]; exact hkn)⟩
          have HXK := Lib.hid hxk
          have HFK := Lib.hid (HF.out _ (List.mem_of_getElem? hxk))
          have hff : folF l i k = folB (xk, yk) (fx, fy) := folF_at HFX.out hxk
          have HT := Lib.hid (fun (X : World) => follows13_any (xk, yk) (fx, fy) X HFK.out HFF.out)
          rw [← hff] at HT
          obtain ⟨f0, hf0⟩ : ∃ f0, folF l i k = f0 := ⟨_, rfl⟩
          rw [hf0] at HT
          have HF0 := Lib.hid hf0
          have HB0 := HC2
          have HB : Hid (Below B w wr.drew) := Lib.hid (below_drewN HC2.out.2.1 1)
          have HCX : Hid (CRows w B n met' wr.drew) := Lib.hid (crows_below HC2.out (below_drewN (Below.refl _ _) 1))
          obtain ⟨z0, z1⟩ := HCC.out wr HC2.out.2.1 k _ hxk
          obtain ⟨z2, z3⟩ := HCC.out wr HC2.out.2.1 i _ HFX.out
          simp only at z0 z1 z2 z3
          clear hxk hff hf0
          go_upto_region 8 with (fail)
          go_region_held3 (fun w' => (w'.cell? ⟨b, o + k * 2, none⟩ = some (.string xk) ∧ w'.cell? ⟨b, o + k * 2 + 1, none⟩ = some (.string yk)) ∧ w'.cell? ⟨b, o + i * 2, none⟩ = some (.string fx) ∧ w'.cell? ⟨b, o + i * 2 + 1, none⟩ = some (.string fy)) (go_keep) (first
            | (go_at_call 49; go_loud (refine (HT.out _).mono ?_; rintro e wt ⟨rfl, hBt⟩; have HCX := Lib.hid (crows_below HCX.out hBt); have HB := Lib.hid HCX.out.2.1; obtain ⟨z0, z1⟩ := HCC.out wt HB.out k _ HXK.out; obtain ⟨z2, z3⟩ := HCC.out wt HB.out i _ HFX.out; simp only at z0 z1 z2 z3; clear hBt))
            | fail "no arm")
          all_goals
            clear HB0 HT z0 z1 z2 z3
            have HON0 := Lib.hid (show OnTo (folF l) i met' k 0 f0 from by
              unfold OnTo
              rw [HF0.out]
              constructor
              · exact .inl
              · rintro (h | ⟨j, hj, -⟩)
                · exact h
                · exact absurd hj (Nat.not_lt_zero _))
            have HCX0 := HCX
            clear HCX HB
            go_wp2
            go_loopw [8, 9] (fun ov pv wr => ∃ (p : Nat) (on : Bool), pv = .int .i64 (p : Int) ∧ p ≤ n ∧ ov = .bool on ∧ OnTo (folF l) i met' k p on ∧ CRows w B n met' wr) (fun _ pv _ => n - (Lib.intOf pv).toNat)
            case atStart => exact ⟨0, f0, rfl, Nat.zero_le _, rfl, HON0.out, HCX0.out⟩
            case round =>
              obtain ⟨p, on, rfl, hp, rfl, hO, hC⟩ := hrel
              have HON := Lib.hid hO
              have HC3 := Lib.hid hC
              clear hO hC
              by_cases hpn : p < n
              · have hq2 : (p : Int) < (n : Int) := by omega
                obtain ⟨mb, hmb⟩ : ∃ mb, met'[p]? = some mb := ⟨met'[p]'(by rw [HMB.out]; exact hpn), List.getElem?_eq_getElem _⟩
                have k3 : wr.cell? ⟨B, p, none⟩ = some (.bool mb) := own_cell HC3.out.1 p _ (boolVs_at hmb)
                have HMP := Lib.hid hmb
                cases on
                · cases mb
                  · have HN2 := Lib.hid (onTo_skip HON.out (fun h => by unfold met? at h; rw [hmb] at h; cases h))
                    clear hmb
                    go_upto_region 12 with (fail)
                    go_quiet (fail)
                    go_wp2
                    go_roundw
                    case rel => exact ⟨p + 1, false, by go_num, hpn, rfl, HN2.out, crows_below HC3.out (below_drewN (Below.refl _ _) _)⟩
                    case measure => simp [Lib.intOf]; omega
                  · obtain ⟨⟨xp, yp⟩, hxp⟩ : ∃ x, l[p]? = some x := ⟨_, List.getElem?_eq_getElem (by rw [HN.out]; exact hpn)⟩
                    have HXP := Lib.hid hxp
                    have HFP := Lib.hid (HF.out _ (List.mem_of_getElem? hxp))
                    have hff : folF l p k = folB (xk, yk) (xp, yp) := folF_at hxp HXK.out
                    have HT2 := Lib.hid (fun (X : World) => follows13_any (xk, yk) (xp, yp) X HFK.out HFP.out)
                    rw [← hff] at HT2
                    obtain ⟨f1, hf1⟩ : ∃ f1, folF l p k = f1 := ⟨_, rfl⟩
                    rw [hf1] at HT2
                    have HN2 := Lib.hid (show OnTo (folF l) i met' k (p + 1) f1 from by
                      cases f1
                      · exact onTo_skip HON.out (fun _ => hf1)
                      · exact onTo_hit hmb hf1)
                    have HB : Hid (Below B w wr.drew) := Lib.hid (below_drewN HC3.out.2.1 1)
                    have HCX : Hid (CRows w B n met' wr.drew) := Lib.hid (crows_below HC3.out (below_drewN (Below.refl _ _) 1))
                    obtain ⟨z0, z1⟩ := HCC.out wr HC3.out.2.1 k _ HXK.out
                    obtain ⟨z2, z3⟩ := HCC.out wr HC3.out.2.1 p _ hxp
                    simp only at z0 z1 z2 z3
                    clear hxp hff hf1 hmb
                    go_upto_region 12 with (fail)
                    go_region_held3 (fun w' => ((w'.cell? ⟨b, o + k * 2, none⟩ = some (.string xk) ∧ w'.cell? ⟨b, o + k * 2 + 1, none⟩ = some (.string yk)) ∧ w'.cell? ⟨b, o + p * 2, none⟩ = some (.string xp) ∧ w'.cell? ⟨b, o + p * 2 + 1, none⟩ = some (.string yp)) ∧ w'.cell? ⟨B, p, none⟩ = some (.bool true)) (go_keep) (first
                      | (go_at_call 49; go_loud (refine (HT2.out _).mono ?_; rintro e wt ⟨rfl, hBt⟩; have HCX := Lib.hid (crows_below HCX.out hBt); have HB := Lib.hid HCX.out.2.1; obtain ⟨z0, z1⟩ := HCC.out wt HB.out k _ HXK.out; obtain ⟨z2, z3⟩ := HCC.out wt HB.out p _ HXP.out; simp only at z0 z1 z2 z3; have k3 : wt.cell? ⟨B, p, none⟩ = some (.bool true) := own_cell HCX.out.1 p _ (boolVs_at HMP.out); clear hBt))
                      | fail "no arm")
                    all_goals
                      go_wp2
                      go_roundw
                      case rel => exact ⟨p + 1, f1, by go_num, hpn, rfl, HN2.out, HCX.out⟩
                      case measure => simp [Lib.intOf]; omega
                · have HN2 := Lib.hid (onTo_yes HON.out)
                  clear hmb
                  go_upto_region 12 with (fail)
                  go_quiet (fail)
                  go_wp2
                  go_roundw
                  case rel => exact ⟨p + 1, true, by go_num, hpn, rfl, HN2.out, crows_below HC3.out (below_drewN (Below.refl _ _) _)⟩
                  case measure => simp [Lib.intOf]; omega
              · obtain rfl : p = n := by omega
                have hq2 : ¬ (p : Int) < (p : Int) := by omega
                obtain ⟨mb, hmb⟩ : ∃ mb, met'[k]? = some mb := ⟨met'[k]'(by rw [HMB.out]; exact hkn), List.getElem?_eq_getElem _⟩
                have k3 : wr.cell? ⟨B, k, none⟩ = some (.bool mb) := own_cell HC3.out.1 k _ (boolVs_at hmb)
                have HMP := Lib.hid hmb
                have f3 := own_free HC3.out.1 k
                cases on
                · have HN2 := Lib.hid (mid_skip HM.out (fun ho => by have := (onTo_on HON.out).2 ho; cases this))
                  clear hmb
                  go_wp2
                  go_roundw
                  case rel => exact ⟨k + 1, met', ch, by go_num, hkn, rfl, HN2.out, HC3.out⟩
                  case measure => simp [Lib.intOf]; omega
                · cases mb
                  · have HN2 := Lib.hid (mid_put HM.out hkn ((onTo_on HON.out).1 rfl) hmb)
                    have HC4 := Lib.hid (crows_set HC3.out k)
                    clear hmb
                    go_wp2
                    go_roundw
                    case rel => exact ⟨k + 1, _, true, by go_num, hkn, rfl, HN2.out, HC4.out⟩
                    case measure => simp [Lib.intOf]; omega
                  · have HN2 := Lib.hid (mid_skip HM.out (fun _ => hmb))
                    clear hmb
                    go_wp2
                    go_roundw
                    case rel => exact ⟨k + 1, met', ch, by go_num, hkn, rfl, HN2.out, HC3.out⟩
                    case measure => simp [Lib.intOf]; omega
        · obtain rfl : k = n := by omega
          have hq1 : ¬ (k : Int) < (k : Int) := by omega
          go_wp2
          go_roundw
          case rel => exact ⟨met', ch, rfl, HM.out.1, HC2.out, fun e => by obtain ⟨rfl, h4⟩ := HM.out.2.2.2 e; exact h4⟩
          case measure =>
            rw [falses_own HC.out.1, falses_own HC2.out.1]
            cases ch
            · have := HM.out.2.1
              simp only [chOf]
              omega
            · have := HM.out.2.2.1 rfl
              simp only [chOf]
              omega
-- END comes
end Go.Proofs.YtkfofdmcggoonaaGreatDoor
