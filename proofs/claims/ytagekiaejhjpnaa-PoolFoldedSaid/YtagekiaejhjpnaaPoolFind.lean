/-
  The walk of pool.Find: the place of a text in a pool. Condition: the list is within the reach.
-/
import Derived.Test.YtagekiaejhjpnaaPoolStr
import Derived.Test.YtagekiaejhjpnaaSearchLay
namespace Go.Proofs.Ytagekiaejhjpnaa
open Go.RowKit Go.Shelf Go.Sort

/-- What Find tells. -/
def FindT (l : List ByteArray) (s : ByteArray) (k e : Int) : Prop :=
  (¬ RiseL bl l ∧ k = 0 ∧ e = 2) ∨ (RiseL bl l ∧ s ∉ l ∧ k = 0 ∧ e = 4) ∨ (RiseL bl l ∧ e = 0 ∧ ∃ i : Nat, k = (i : Int) ∧ l[i]? = some s)
def FindPost (l : List ByteArray) (s : ByteArray) (w : World) (e : Ending) (w' : World) : Prop := (∃ k x, e = .returned (.tuple #[.int .i64 k, .int .i64 x]) ∧ FindT l s k x) ∧ Below w.heap.size w w'
theorem pfind1_any (ba bs b o c n i : Nat) (x s : ByteArray) (W : World) (hn : n ≤ maxLen) (ha : W.cell? ⟨ba, 0, none⟩ = some (.slice (some ⟨b, o, none⟩) n c)) (hs : W.cell? ⟨bs, 0, none⟩ = some (.string s)) (hc : W.cell? ⟨b, o + i, none⟩ = some (.string x)) (hi : i < n) :
    Calls Try.prog 31 (#[.int .i64 i] ++ #[.pointer (some ⟨ba, 0, none⟩), .pointer (some ⟨bs, 0, none⟩)]) W fun e w' => e = .returned (.bool (!Op.bytesLess x.toList s.toList)) ∧ ∃ q, w' = W.drewN q := by
  unfold maxLen at hn
  have hiz : (i : Int) < (n : Int) := by omega
  cases hb : Op.bytesLess x.toList s.toList
  all_goals
    go_enter Try.func31, Try.ntmps31
    go_wp2
    go_quiet (fail)
    go_wp2
    go_ret
    exact ⟨rfl, _, rfl⟩
set_option maxHeartbeats 4000000 in
theorem pfind_any (v : Value) (l : List ByteArray) (s : ByteArray) (w : World) (h : Txts w w.heap.size v l) (hlen : l.length ≤ 281474976710656) :
    Calls Try.prog 13 #[v, .string s] w (FindPost l s w) := by
  obtain ⟨A, c, rfl, hc, hm, hR⟩ := id h
  obtain ⟨W0, hW0⟩ : ∃ W0, (w.alloc (.cells #[.slice A l.length c] 22)).alloc (.cells #[.string s] 9) = W0 := ⟨_, rfl⟩
  have hB0 : Below w.heap.size w W0 := by rw [← hW0]; exact ((Below.refl _ w).alloc (Nat.le_refl _) _).alloc (by simp) _
  have hz0 : W0.heap.size = w.heap.size + 1 + 1 := by rw [← hW0]; simp
  have ca : W0.cell? ⟨w.heap.size, 0, none⟩ = some (.slice A l.length c) := by rw [← hW0]; exact cell_alloc_sl _ (cell_new_sl w _ _)
  have cs : W0.cell? ⟨w.heap.size + 1, 0, none⟩ = some (.string s) := by
    rw [← hW0]
    have := cell_new_sl (w.alloc (.cells #[.slice A l.length c] 22)) (.string s) 9
    rwa [World.size_alloc] at this
  have HT0 := Lib.hid (h.on hB0)
  have HIS := Lib.hid (ispool_any _ l W0 HT0.out)
  have HB0 := Lib.hid hB0
  have HZ0 := Lib.hid hz0
  have HRW := Lib.hid hR
  have hn1 : (l.length : Int) ≤ 281474976710656 := by omega
  clear hB0 hz0 h hR
  by_cases hr : RiseL bl l
  · have HD := Lib.hid (show decide (RiseL bl l) = true by simpa using hr)
    rw [HD.out] at HIS
    have hmono : ∀ a b, a ≤ b → b < l.length → (fun i => !Op.bytesLess (l.getD i ByteArray.empty).toList s.toList) a = true → (fun i => !Op.bytesLess (l.getD i ByteArray.empty).toList s.toList) b = true := fun a b hab hb h => by
      rcases Nat.lt_or_ge a b with hlt | hge
      · simp only [Bool.not_eq_true'] at h ⊢
        have h1 : bl (l.getD a ByteArray.empty) (l.getD b ByteArray.empty) = true := rise_at hr (i := a) (j := b) (by simp [show a < l.length by omega]) (by simp [hb]) hlt
        cases e : Op.bytesLess (l.getD b ByteArray.empty).toList s.toList
        · rfl
        · have := bl_trans _ _ _ h1 e
          rw [h] at this
          cases this
      · obtain rfl : a = b := by omega
        exact h
    have HS := Lib.hid (show ∀ q, Calls Try.prog 30 #[.int .i64 (l.length : Nat), .func (.func 31) #[] #[.pointer (some ⟨w.heap.size, 0, none⟩), .pointer (some ⟨w.heap.size + 1, 0, none⟩)]] (W0.drewN q) fun e w' => e = .returned (.int .i64 ((List.range l.length).countP (fun i => !(fun i => !Op.bytesLess (l.getD i ByteArray.empty).toList s.toList) i) : Nat)) ∧ ∃ q' os, w' = grow ((W0.drewN q).drewN q') os from fun q =>
      Go.Proofs.Any.sort_Search searchL 31 #[.pointer (some ⟨w.heap.size, 0, none⟩), .pointer (some ⟨w.heap.size + 1, 0, none⟩)] l.length _ (W0.drewN q) (enters_of Try.func31 (by kernel_rfl) rfl) (by omega)
        (fun m os i hi => by
          obtain ⟨b1, o1, rfl, hb1, hcl1⟩ := HRW.out.spot (by omega) (by omega)
          have r0 : W0.cell? ⟨b1, o1 + i, none⟩ = some (.string (l.getD i ByteArray.empty)) := (HB0.out.cell (p := ⟨b1, o1 + i, none⟩) hb1).trans (hcl1 _ _ (str_at (by simp [hi])))
          have hz := HZ0.out
          exact (pfind1_any w.heap.size (w.heap.size + 1) b1 o1 c l.length i (l.getD i ByteArray.empty) s _ (Nat.le_trans hc hm) (cell_grown (w := W0.drewN q) (by show w.heap.size < W0.heap.size; omega) ca m os) (cell_grown (w := W0.drewN q) (by show w.heap.size + 1 < W0.heap.size; omega) cs m os) (cell_grown (w := W0.drewN q) (by show b1 < W0.heap.size; omega) r0 m os) hi).mono
            fun _ _ ⟨he, q, hq⟩ => ⟨he, q, #[], by rw [hq, grow_empty]⟩) hmono)
    have HCP := Lib.hid (count_prefix (fun i => !Op.bytesLess (l.getD i ByteArray.empty).toList s.toList) l.length hmono)
    generalize (List.range l.length).countP (fun i => !(fun i => !Op.bytesLess (l.getD i ByteArray.empty).toList s.toList) i) = k at *
    clear hmono
    have HRI := Lib.hid hr
    have hkn : k ≤ l.length := HCP.out.1
    have hk2 : (k : Int) ≤ (l.length : Int) := by omega
    clear hr
    have HCC := Lib.hid (show ∀ q q' os w2, w2 = grow ((W0.drewN q).drewN q') os → Below W0.heap.size W0 w2 ∧ w2.cell? ⟨w.heap.size, 0, none⟩ = some (.slice A l.length c) ∧ w2.cell? ⟨w.heap.size + 1, 0, none⟩ = some (.string s) from fun q q' os w2 e => by
      have hb : Below W0.heap.size W0 w2 := by
        rw [e, World.drewN_drewN]
        exact below_grown_sl _ W0 _ os (Nat.le_refl _)
      have hz := HZ0.out
      exact ⟨hb, (hb.cell (p := ⟨w.heap.size, 0, none⟩) (by show w.heap.size < W0.heap.size; omega)).trans ca, (hb.cell (p := ⟨w.heap.size + 1, 0, none⟩) (by show w.heap.size + 1 < W0.heap.size; omega)).trans cs⟩)
    have HCA := Lib.hid (And.intro ca cs)
    clear ca cs
    by_cases hk : k = l.length
    · have hns : s ∉ l := fun hs => by
        obtain ⟨j, hj, e⟩ := List.mem_iff_getElem.1 hs
        have := HCP.out.2.1 j (by omega)
        simp only [Bool.not_eq_false'] at this
        rw [show l.getD j ByteArray.empty = s by simp [hj, e], bl_irr] at this
        cases this
      have HF := Lib.hid (show FindT l s 0 4 from .inr (.inl ⟨HRI.out, hns, rfl, rfl⟩))
      clear hns
      have hq : ((k : Int) == (l.length : Int)) = true := by simp [hk]
      have hq2 : (k : Int) = (l.length : Int) := by omega
      clear hk
      have HQ := Lib.hid hq2
      clear hq2
      have c1 : W0.cell? ⟨w.heap.size, 0, none⟩ = some (.slice A l.length c) := HCA.out.1
      go_enter Try.func13, Try.ntmps13
      go_upto_region 4 with (first
        | (go_at_call 15; go_loud ((try rw [hW0]); refine HIS.out.mono ?_; rintro e w1 ⟨v1, q, rfl, rfl, rfl⟩))
        | (go_at_call 30; go_loud (refine (HS.out _).mono ?_; rintro e w2 ⟨rfl, q', os, hw2⟩; obtain ⟨hb2, k1, k2⟩ := HCC.out _ _ _ _ hw2; have HB2 := Lib.hid hb2; clear hb2 hw2)))
      go_quiet (fail)
      go_wp2
      go_ret2
      exact ⟨⟨_, _, rfl, HF.out⟩, HB0.out.trans ((HB2.out.mono HB0.out.size).trans (below_drewN (Below.refl _ _) _))⟩
    · have hk3 : k < l.length := by omega
      have hk4 : (k : Int) < (l.length : Int) := by omega
      have hq : ((k : Int) == (l.length : Int)) = false := by rw [beq_eq_false_iff_ne]; omega
      have hq2 : ¬ (k : Int) = (l.length : Int) := by omega
      obtain ⟨x, hx⟩ := at_lt hk3
      obtain ⟨b1, o1, rfl, hb1, hcl1⟩ := HRW.out.spot (by omega) (by omega)
      have HX := Lib.hid (And.intro (show W0.cell? ⟨b1, o1 + k, none⟩ = some (.string x) from (HB0.out.cell (p := ⟨b1, o1 + k, none⟩) hb1).trans (hcl1 _ _ (str_at hx))) (Nat.lt_of_lt_of_le hb1 HB0.out.size))
      have hge : Op.bytesLess x.toList s.toList = false := by
        have := HCP.out.2.2 k (Nat.le_refl _) hk3
        simp only [Bool.not_eq_true'] at this
        rwa [show l.getD k ByteArray.empty = x by simp [List.getD_eq_getElem?_getD, hx]] at this
      have c1 : W0.cell? ⟨w.heap.size, 0, none⟩ = some (.slice (some ⟨b1, o1, none⟩) l.length c) := HCA.out.1
      by_cases he : x.toList = s.toList
      · have hE := ba_eqT he
        have HF := Lib.hid (show FindT l s k 0 from .inr (.inr ⟨HRI.out, rfl, k, rfl, by rw [hx, hE]⟩))
        have he2 : (x.toList == s.toList) = true := by simpa using he
        clear hx hcl1 hge hE hk
        go_enter Try.func13, Try.ntmps13
        go_upto_region 4 with (first
          | (go_at_call 15; go_loud ((try rw [hW0]); refine HIS.out.mono ?_; rintro e w1 ⟨v1, q, rfl, rfl, rfl⟩))
          | (go_at_call 30; go_loud (refine (HS.out _).mono ?_; rintro e w2 ⟨rfl, q', os, hw2⟩; obtain ⟨hb2, k1, k2⟩ := HCC.out _ _ _ _ hw2; have k3 : w2.cell? ⟨b1, o1 + k, none⟩ = some (.string x) := (hb2.cell (p := ⟨b1, o1 + k, none⟩) HX.out.2).trans HX.out.1; have HB2 := Lib.hid hb2; clear hb2 hw2)))
        go_quiet (fail)
        go_wp2
        go_ret2
        exact ⟨⟨_, _, rfl, HF.out⟩, HB0.out.trans ((HB2.out.mono HB0.out.size).trans (below_drewN (Below.refl _ _) _))⟩
      · have hns : s ∉ l := fun hs => by
          obtain ⟨j, hj, e⟩ := List.mem_iff_getElem.1 hs
          have hj' : l[j]? = some s := by simp [hj, e]
          rcases Nat.lt_or_ge j k with h | h
          · have := HCP.out.2.1 j h
            simp only [Bool.not_eq_false'] at this
            rw [show l.getD j ByteArray.empty = s by simp [hj, e], bl_irr] at this
            cases this
          · rcases Nat.lt_or_ge k j with h2 | h2
            · have := rise_at HRI.out hx hj' h2
              unfold bl at this
              rw [hge] at this
              cases this
            · obtain rfl : j = k := by omega
              rw [hx] at hj'
              exact he (by rw [Option.some.inj hj'])
        have HF := Lib.hid (show FindT l s 0 4 from .inr (.inl ⟨HRI.out, hns, rfl, rfl⟩))
        clear hns
        have he2 : (x.toList == s.toList) = false := by simpa using he
        clear hx hcl1 hge hk
        go_enter Try.func13, Try.ntmps13
        go_upto_region 4 with (first
          | (go_at_call 15; go_loud ((try rw [hW0]); refine HIS.out.mono ?_; rintro e w1 ⟨v1, q, rfl, rfl, rfl⟩))
          | (go_at_call 30; go_loud (refine (HS.out _).mono ?_; rintro e w2 ⟨rfl, q', os, hw2⟩; obtain ⟨hb2, k1, k2⟩ := HCC.out _ _ _ _ hw2; have k3 : w2.cell? ⟨b1, o1 + k, none⟩ = some (.string x) := (hb2.cell (p := ⟨b1, o1 + k, none⟩) HX.out.2).trans HX.out.1; have HB2 := Lib.hid hb2; clear hb2 hw2)))
        go_quiet (fail)
        go_wp2
        go_ret2
        exact ⟨⟨_, _, rfl, HF.out⟩, HB0.out.trans ((HB2.out.mono HB0.out.size).trans (below_drewN (Below.refl _ _) _))⟩
  · have HD := Lib.hid (show decide (RiseL bl l) = false by simpa using hr)
    rw [HD.out] at HIS
    have HRI := Lib.hid hr
    clear hr
    have c1 : W0.cell? ⟨w.heap.size, 0, none⟩ = some (.slice A l.length c) := ca
    clear ca cs
    go_enter Try.func13, Try.ntmps13
    go_wp2_with (go_at_call 15; go_loud ((try rw [hW0]); refine HIS.out.mono ?_; rintro e w1 ⟨v1, q, rfl, rfl, rfl⟩))
    go_ret2
    exact ⟨⟨_, _, rfl, .inl ⟨HRI.out, rfl, rfl⟩⟩, HB0.out.trans (below_drewN (Below.refl _ _) _)⟩
end Go.Proofs.Ytagekiaejhjpnaa
