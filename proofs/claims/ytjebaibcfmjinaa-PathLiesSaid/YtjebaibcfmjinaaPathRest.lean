/-
  The walks of slices.Equal at keys, of path.Rest's closure, of slices.EqualFunc at steps. Condition: at most 1000000 elements.
-/
import Derived.Test.YtjebaibcfmjinaaPathPut
import Derived.Laws.StructEq
namespace Go.Proofs.Ytjebaibcfmjinaa
open Go.RowKit

theorem ba_ext {a b : ByteArray} (h : a.toList = b.toList) : a = b := by
  rw [Lib.toList_data, Lib.toList_data] at h
  obtain ⟨⟨x⟩⟩ := a
  obtain ⟨⟨y⟩⟩ := b
  simp only at h
  rw [h]
theorem ba_beq (a b : ByteArray) : (a.toList == b.toList) = decide (a = b) := by
  by_cases h : a = b
  · subst h; simp
  · have : a.toList ≠ b.toList := fun e => h (ba_ext e)
    simp [h, this]
def EqPost (b : Bool) (w : World) (en : Ending) (w' : World) : Prop := en = .returned (.bool b) ∧ Below w.heap.size w w'

set_option maxHeartbeats 4000000 in
theorem equal_any (v1 v2 : Value) (l m : List PKey) (w : World) (h1 : KeysAt w w.heap.size v1 l) (h2 : KeysAt w w.heap.size v2 m) (hl : l.length ≤ 1000000) (hm : m.length ≤ 1000000) :
    Calls Try.prog 32 #[v1, v2] w (EqPost (decide (l = m)) w) := by
  obtain ⟨A1, c1, rfl, hc1, hm1, hR1⟩ := h1
  obtain ⟨A2, c2, rfl, hc2, hm2, hR2⟩ := h2
  have HR1 := Lib.hid hR1
  have HR2 := Lib.hid hR2
  clear hR1 hR2
  by_cases hlen : l.length = m.length
  · have HLEN := Lib.hid hlen
    rw [← hlen]
    generalize hn : l.length = n at *
    have HN := Lib.hid hn
    have hn1 : (n : Int) ≤ 1000000 := by omega
    clear hlen hn hc1 hc2 hm
    go_enter Try.func32, Try.ntmps32
    go_wp2
    go_loopw [5, 13] (fun _ iv wr => ∃ p q : Nat, iv = .int .i64 (p : Int) ∧ p ≤ n ∧ l.take p = m.take p ∧ wr = w.drewN q) (fun _ iv _ => n - (Lib.intOf iv).toNat)
    case atStart => exact ⟨0, 0, rfl, Nat.zero_le _, by simp, rfl⟩
    case round =>
      obtain ⟨p, q, rfl, hp, hT, rfl⟩ := hrel
      by_cases hlt : p < n
      · obtain ⟨x, hx⟩ : ∃ x, l[p]? = some x := ⟨l[p]'(by have := HN.out; omega), by have := HN.out; simp [this, hlt]⟩
        obtain ⟨y, hy⟩ : ∃ y, m[p]? = some y := ⟨m[p]'(by have := HLEN.out; omega), by have := HLEN.out; simp [← this, hlt]⟩
        have hq : (p : Int) < (n : Int) := by omega
        obtain ⟨b1, o1, rfl, hb1, hcl1⟩ := HR1.out.spot (by omega) (by omega)
        obtain ⟨b2, o2, rfl, hb2, hcl2⟩ := HR2.out.spot (by have := HLEN.out; omega) (by omega)
        have ha1 := pairCells_at l p x hx
        have ha2 := pairCells_at m p y hy
        have r0 := hcl1 _ _ ha1.1
        have r1 : w.cell? ⟨b1, o1 + p * 2 + 1, none⟩ = some (.string x.2) := hcl1 _ _ ha1.2
        have r2 := hcl2 _ _ ha2.1
        have r3 : w.cell? ⟨b2, o2 + p * 2 + 1, none⟩ = some (.string y.2) := hcl2 _ _ ha2.2
        have HX := Lib.hid (And.intro hx hy)
        have HT := Lib.hid hT
        clear hcl1 hcl2 ha1 ha2 hx hy hT
        by_cases he : x = y
        · subst he
          go_upto_region 6 with (fail)
          go_quiet (fail)
          go_wp2
          refine ⟨⟨p + 1, q + nq, by simp, hlt, ?_, rfl⟩, by simp [Lib.intOf]; omega⟩
          rw [List.take_add_one, List.take_add_one, HT.out, HX.out.1, HX.out.2]
        · have HNE := Lib.hid (show decide (l = m) = false by
            rw [decide_eq_false_iff_not]
            rintro rfl
            have h := HX.out
            rw [h.1] at h
            exact he (Option.some.inj h.2))
          obtain ⟨xa, xb⟩ := x
          obtain ⟨ya, yb⟩ := y
          simp only at r0 r1 r2 r3
          by_cases ha : xa = ya
          · subst ha
            have hb : ¬ xb.toList = yb.toList := fun e => he (by rw [ba_ext e])
            clear he
            go_upto_region 6 with (fail)
            go_quiet (fail)
            go_wp2
            go_ret
            exact ⟨by rw [HNE.out]; rfl, below_drewN (below_drewN (Below.refl _ _) _) _⟩
          · have hb : ¬ xa.toList = ya.toList := fun e => ha (ba_ext e)
            clear he ha
            go_upto_region 6 with (fail)
            go_quiet (fail)
            go_wp2
            go_ret
            exact ⟨by rw [HNE.out]; rfl, below_drewN (below_drewN (Below.refl _ _) _) _⟩
      · obtain rfl : p = n := by omega
        have hq : ¬ (p : Int) < (p : Int) := by omega
        have HEQ := Lib.hid (show decide (l = m) = true by
          rw [decide_eq_true_iff]
          rw [List.take_of_length_le (by have := HN.out; omega), List.take_of_length_le (by have := HLEN.out; omega)] at hT
          exact hT)
        clear hT
        go_wp2
        go_ret
        exact ⟨by rw [HEQ.out]; rfl, below_drewN (Below.refl _ _) _⟩
  · have HNE := Lib.hid (show decide (l = m) = false by
      rw [decide_eq_false_iff_not]
      rintro rfl
      exact hlen rfl)
    have hne : ((l.length : Int) == (m.length : Int)) = false := by rw [beq_eq_false_iff_ne]; omega
    have hne2 : ¬ (l.length : Int) = (m.length : Int) := by omega
    clear hlen
    go_enter Try.func32, Try.ntmps32
    go_wp2
    go_ret
    exact ⟨by rw [HNE.out]; rfl, (Below.refl _ _)⟩
/-- A step, read: its struct value. -/
def StepV (w : World) (st : PStep) (v : Value) : Prop := ∃ kv, v = .agg #[.string st.1, kv] ∧ KeysAt w w.heap.size kv st.2
theorem rest1_any (v1 v2 : Value) (x y : PStep) (w : World) (h1 : StepV w x v1) (h2 : StepV w y v2) (hx : x.2.length ≤ 1000000) (hy : y.2.length ≤ 1000000) :
    Calls Try.prog 31 #[v1, v2] w (EqPost (decide (x = y)) w) := by
  obtain ⟨k1, rfl, hk1⟩ := h1
  obtain ⟨k2, rfl, hk2⟩ := h2
  obtain ⟨xa, xb⟩ := x
  obtain ⟨ya, yb⟩ := y
  simp only at *
  have HK1 := Lib.hid hk1
  have HK2 := Lib.hid hk2
  obtain ⟨A1, c1, rfl, -, -, -⟩ := hk1
  obtain ⟨A2, c2, rfl, -, -, -⟩ := hk2
  have HB2 := Lib.hid (((Below.refl w.heap.size w).alloc (Nat.le_refl _) (.cells #[.string xa, .slice A1 xb.length c1] 40)).alloc (by simp) (.cells #[.string ya, .slice A2 yb.length c2] 40))
  have HBS := Lib.hid (show w.heap.size ≤ ((w.alloc (.cells #[.string xa, .slice A1 xb.length c1] 40)).alloc (.cells #[.string ya, .slice A2 yb.length c2] 40)).heap.size by simp; omega)
  have HE := Lib.hid (equal_any _ _ xb yb _ (HK1.out.more HB2.out HBS.out) (HK2.out.more HB2.out HBS.out) hx hy)
  by_cases ha : xa = ya
  · subst ha
    have HD := Lib.hid (show decide ((xa, xb) = (xa, yb)) = decide (xb = yb) by simp)
    go_enter Try.func31, Try.ntmps31
    go_wp2_with (go_at_call 32; go_loud (refine HE.out.mono ?_; rintro en w1 ⟨rfl, hB1⟩))
    go_ret
    exact ⟨by rw [HD.out]; rfl, HB2.out.trans (hB1.mono HBS.out)⟩
  · have hb : (xa.toList == ya.toList) = false := by rw [ba_beq]; simp [ha]
    have hb2 : ¬ xa.toList = ya.toList := fun e => ha (ba_ext e)
    have HD := Lib.hid (show decide ((xa, xb) = (ya, yb)) = false by simp [ha])
    clear ha
    go_enter Try.func31, Try.ntmps31
    go_wp2
    go_ret
    exact ⟨by rw [HD.out]; rfl, HB2.out⟩
/-- A row of steps, read. -/
def StepsR (w : World) (v : Value) (l : List PStep) (vs : List Value) : Prop :=
  ∃ A c, v = .slice A l.length c ∧ l.length ≤ c ∧ c ≤ maxLen ∧ Reads w w.heap.size 2 A l.length (stepCells l vs) ∧ vs.length = l.length ∧ (∀ (i : Nat) (st : PStep) (kv : Value), l[i]? = some st → vs[i]? = some kv → KeysAt w w.heap.size kv st.2)
theorem StepsR.more {w w' : World} {v : Value} {l : List PStep} {vs : List Value} (h : StepsR w v l vs) (hb : Below w.heap.size w w') : StepsR w' v l vs := by
  obtain ⟨A, c, e, h1, h2, h3, h4, h5⟩ := h
  exact ⟨A, c, e, h1, h2, (h3.below hb).more hb.size, h4, fun i st kv hi hj => (h5 i st kv hi hj).more hb hb.size⟩
theorem StepsIn.reads {w : World} {base : Nat} {v : Value} {l : List PStep} {vs : List Value} (h : StepsIn w base v l vs) : StepsR w v l vs := by
  obtain ⟨h1, h2, h3⟩ := h
  obtain ⟨A, c, rfl, a, b, hr⟩ := own_form h2
  refine ⟨A, c, rfl, a, b, hr, h1, fun i st kv hi hj => ?_⟩
  obtain ⟨A', c', rfl, a', b', hr'⟩ := own_form (h3.1 i st kv hi hj)
  exact ⟨A', c', rfl, a', b', hr'⟩
set_option maxHeartbeats 4000000 in
theorem equalfunc_any (v1 v2 : Value) (l m : List PStep) (vs ws : List Value) (w : World) (h1 : StepsR w v1 l vs) (h2 : StepsR w v2 m ws) (hl : l.length ≤ 1000000) (hm : m.length ≤ 1000000)
    (hkl : ∀ st ∈ l, st.2.length ≤ 1000000) (hkm : ∀ st ∈ m, st.2.length ≤ 1000000) :
    Calls Try.prog 30 #[v1, v2, .func (.func 31) #[] #[]] w (EqPost (decide (l = m)) w) := by
  obtain ⟨A1, c1, rfl, -, -, hR1, hv1, hK1⟩ := h1
  obtain ⟨A2, c2, rfl, -, -, hR2, hv2, hK2⟩ := h2
  have HR1 := Lib.hid hR1
  have HR2 := Lib.hid hR2
  have HK1 := Lib.hid hK1
  have HK2 := Lib.hid hK2
  have HV := Lib.hid (And.intro hv1 hv2)
  have HKS := Lib.hid (And.intro hkl hkm)
  clear hR1 hR2 hv1 hv2 hK1 hK2 hkl hkm
  by_cases hlen : l.length = m.length
  · have HLEN := Lib.hid hlen
    rw [← hlen]
    generalize hn : l.length = n at *
    have HN := Lib.hid hn
    have hn1 : (n : Int) ≤ 1000000 := by omega
    clear hlen hn hm
    go_enter Try.func30, Try.ntmps30
    go_wp2
    go_loopw [7, 8, 9, 17] (fun _ _ _ iv wr => ∃ p : Nat, iv = .int .i64 (p : Int) ∧ p ≤ n ∧ l.take p = m.take p ∧ Below w.heap.size w wr) (fun _ _ _ iv _ => n - (Lib.intOf iv).toNat)
    case atStart => exact ⟨0, rfl, Nat.zero_le _, by simp, Below.refl _ _⟩
    case round =>
      obtain ⟨p, rfl, hp, hT, hB⟩ := hrel
      by_cases hlt : p < n
      · obtain ⟨x, hx⟩ : ∃ x, l[p]? = some x := ⟨l[p]'(by have := HN.out; omega), by have := HN.out; simp [this, hlt]⟩
        obtain ⟨y, hy⟩ : ∃ y, m[p]? = some y := ⟨m[p]'(by have := HLEN.out; omega), by have := HLEN.out; simp [← this, hlt]⟩
        obtain ⟨kx, hkx⟩ : ∃ kx, vs[p]? = some kx := ⟨vs[p]'(by have := HV.out.1; have := HN.out; omega), by have := HV.out.1; have := HN.out; simp [show p < vs.length by omega]⟩
        obtain ⟨ky, hky⟩ : ∃ ky, ws[p]? = some ky := ⟨ws[p]'(by have := HV.out.2; have := HLEN.out; omega), by have := HV.out.2; have := HLEN.out; simp [show p < ws.length by omega]⟩
        have hq : (p : Int) < (n : Int) := by omega
        obtain ⟨b1, o1, rfl, hb1, hcl1⟩ := (HR1.out.below hB).spot (by omega) (by omega)
        obtain ⟨b2, o2, rfl, hb2, hcl2⟩ := (HR2.out.below hB).spot (by have := HLEN.out; omega) (by omega)
        have hb1w : b1 < wr.heap.size := Nat.lt_of_lt_of_le hb1 hB.size
        have hb2w : b2 < wr.heap.size := Nat.lt_of_lt_of_le hb2 hB.size
        have ha1 := stepCells_at l vs p x kx hx hkx
        have ha2 := stepCells_at m ws p y ky hy hky
        have hKx := HK1.out p x kx hx hkx
        have hKy := HK2.out p y ky hy hky
        have r0 := hcl1 _ _ ha1.1
        have r1 : wr.cell? ⟨b1, o1 + p * 2 + 1, none⟩ = some kx := hcl1 _ _ ha1.2
        have r2 := hcl2 _ _ ha2.1
        have r3 : wr.cell? ⟨b2, o2 + p * 2 + 1, none⟩ = some ky := hcl2 _ _ ha2.2
        have HX := Lib.hid (And.intro hx hy)
        have HT := Lib.hid hT
        have HB := Lib.hid hB
        have HA := Lib.hid (((Below.refl wr.heap.size wr).alloc (Nat.le_refl _) (.cells #[.string x.1, kx] 40)).alloc (by simp) (.cells #[.string y.1, ky] 40))
        have HX1 := Lib.hid (show StepV ((wr.alloc (.cells #[.string x.1, kx] 40)).alloc (.cells #[.string y.1, ky] 40)) x (.agg #[.string x.1, kx]) from ⟨kx, rfl, hKx.more (hB.trans (HA.out.mono hB.size)) (Nat.le_trans hB.size HA.out.size)⟩)
        have HX2 := Lib.hid (show StepV ((wr.alloc (.cells #[.string x.1, kx] 40)).alloc (.cells #[.string y.1, ky] 40)) y (.agg #[.string y.1, ky]) from ⟨ky, rfl, hKy.more (hB.trans (HA.out.mono hB.size)) (Nat.le_trans hB.size HA.out.size)⟩)
        obtain ⟨Ax, cx, rfl, -, -, -⟩ := hKx
        obtain ⟨Ay, cy, rfl, -, -, -⟩ := hKy
        have HC := Lib.hid (rest1_any _ _ x y _ HX1.out HX2.out (HKS.out.1 x (List.mem_of_getElem? hx)) (HKS.out.2 y (List.mem_of_getElem? hy)))
        clear hcl1 hcl2 ha1 ha2 hx hy hkx hky hT hB
        by_cases he : x = y
        · have HD := Lib.hid (show decide (x = y) = true by simp [he])
          rw [HD.out] at HC
          have HE := Lib.hid he
          clear he
          go_wp2_with (go_at_call 31; go_loud (refine HC.out.mono ?_; rintro en w1 ⟨rfl, hB1⟩; have HB1 := Lib.hid hB1; clear hB1))
          refine ⟨⟨p + 1, by simp, hlt, ?_, (HB.out.trans (HA.out.mono HB.out.size)).trans (HB1.out.mono (Nat.le_trans HB.out.size HA.out.size))⟩, by simp [Lib.intOf]; omega⟩
          rw [List.take_add_one, List.take_add_one, HT.out, HX.out.1, HX.out.2, HE.out]
        · have HD := Lib.hid (show decide (x = y) = false by simp [he])
          rw [HD.out] at HC
          have HNE := Lib.hid (show decide (l = m) = false by
            rw [decide_eq_false_iff_not]
            rintro rfl
            have h := HX.out
            rw [h.1] at h
            exact he (Option.some.inj h.2))
          clear he
          go_wp2_with (go_at_call 31; go_loud (refine HC.out.mono ?_; rintro en w1 ⟨rfl, hB1⟩; have HB1 := Lib.hid hB1; clear hB1))
          go_ret
          exact ⟨by rw [HNE.out]; rfl, (HB.out.trans (HA.out.mono HB.out.size)).trans (HB1.out.mono (Nat.le_trans HB.out.size HA.out.size))⟩
      · obtain rfl : p = n := by omega
        have hq : ¬ (p : Int) < (p : Int) := by omega
        have HEQ := Lib.hid (show decide (l = m) = true by
          rw [decide_eq_true_iff]
          rw [List.take_of_length_le (by have := HN.out; omega), List.take_of_length_le (by have := HLEN.out; omega)] at hT
          exact hT)
        have HB := Lib.hid hB
        clear hT hB
        go_wp2
        go_ret
        exact ⟨by rw [HEQ.out]; rfl, HB.out⟩
  · have HNE := Lib.hid (show decide (l = m) = false by
      rw [decide_eq_false_iff_not]
      rintro rfl
      exact hlen rfl)
    have hne : ((l.length : Int) == (m.length : Int)) = false := by rw [beq_eq_false_iff_ne]; omega
    have hne2 : ¬ (l.length : Int) = (m.length : Int) := by omega
    clear hlen
    go_enter Try.func30, Try.ntmps30
    go_wp2
    go_ret
    exact ⟨by rw [HNE.out]; rfl, (Below.refl _ _)⟩
end Go.Proofs.Ytjebaibcfmjinaa
