/-
  The law BundleTwice answers true for every bundle.
-/
import Derived.Test.YtfpepdjffehbcaaRows
import Derived.Test.YtfpepdjffehbcaaBunTwoP
import Derived.Test.YtfpepdjffehbcaaBunAsk2
import Derived.Test.YtfpepdjffehbcaaRegM
import Derived.WalkKit
import Derived.Outline
import Derived.ProofKit
import Derived.OpenShut
import Derived.ShutString
import Derived.ChangeOld
import Derived.Below
import Derived.Deep.CondSized
namespace Go.Proofs.Ytfpepdjffehbcaa.bundleTwice
open Go.ChangeShapes Go.WideShapes Go.ChangeAt Go.RowKit
open Go.ChangeMaps (open_string shut_string)
set_option linter.unusedVariables false

theorem own : ownKnob Try.prog.godebug = none := by kernel_rfl
theorem laidOut : laidOutB Try.prog = true := by kernel_rfl

theorem steps_snoc {W : World} {base n c : Nat} {A : Option Addr} {v : Value} {L : List PStep} {us : List Value} {b : PStep} {kv : Value} (hown : W.ownsRow base 30 2 (.slice A (n + 1) c) (n + 1) (stepCells L us ++ [.string b.1, kv])) (hS : StepsR W v L us) (hL : L.length = n) (hk : KeysAt W W.heap.size kv b.2) : StepsR W (.slice A (n + 1) c) (L ++ [b]) (us ++ [kv]) := by
  obtain ⟨A', c', e, h1, h2, h3⟩ := own_form hown
  obtain ⟨-, -, rfl⟩ := Value.slice.inj e
  obtain ⟨-, -, -, -, -, -, h5, h6⟩ := hS
  have hl : (L ++ [b]).length = n + 1 := by rw [List.length_append, hL]; rfl
  refine ⟨A, c, by rw [hl], by rw [hl]; exact h1, h2, ?_, by rw [List.length_append, List.length_append, h5]; rfl, fun i st ku hi hj => ?_⟩
  · rw [hl, stepCells_append L us b kv h5]
    cases e
    exact h3
  · rcases Nat.lt_or_ge i L.length with h | h
    · rw [List.getElem?_append_left h] at hi
      rw [List.getElem?_append_left (by omega)] at hj
      exact h6 i st ku hi hj
    · rw [List.getElem?_append_right h] at hi
      rw [List.getElem?_append_right (by omega)] at hj
      rcases Nat.eq_zero_or_pos (i - L.length) with h7 | h7
      · rw [h7] at hi
        rw [show i - us.length = 0 by omega] at hj
        cases hi
        cases hj
        exact hk
      · rw [List.getElem?_eq_none (by simp; omega)] at hi
        cases hi
theorem own_empty3 {w : World} {g base : Nat} {e : TypeId} (h : Blk w g e #[]) (hb : base ≤ g) (size : Nat) : w.ownsRow base e size (.slice (some ⟨g, 0, none⟩) 0 0) 0 [] :=
  ⟨by simp, .inr ⟨g, 0, #[], rfl, hb, h, Nat.le_refl _, Nat.zero_le _, by simp, by simp⟩⟩
theorem own_one (w : World) (t : TypeId) (x y : Value) : (w.alloc (.cells #[x, y] t)).ownsRow w.heap.size t 2 (.slice (some ⟨w.heap.size, 0, none⟩) 1 1) 1 [x, y] :=
  ⟨rfl, .inr ⟨w.heap.size, 1, #[x, y], rfl, Nat.le_refl _, (Blk.new w t #[x, y]), Nat.le_refl _, by simp [maxLen], rfl, rfl⟩⟩
theorem hasT_take (M : List ByteArray) (s : ByteArray) : hasT (M.take 0) s = false ∧ (∀ (i : Nat) (x : ByteArray), M[i]? = some x → hasT (M.take (i + 1)) s = (hasT (M.take i) s || decide (x = s))) ∧ ∀ i, M.length ≤ i → hasT (M.take i) s = hasT M s := by
  refine ⟨rfl, fun i x hx => ?_, fun i hi => by rw [List.take_of_length_le hi]⟩
  rw [List.take_add_one, hx]
  unfold hasT
  rw [List.any_append]
  simp
theorem wpAnyM_three {P : Program} {ops : Array Oper} {Q : Exit → Act → World → Prop} {S : World → Prop} {m : Nat} {i j k : Nat} {fuel : Nat} {listed : Array Bool} {a : Act} {w : World} (hr : Region.ready .any ops listed = [i, j, k]) (h : OweE P ops Q S m fuel listed a w i) (h2 : OweE P ops Q S m fuel listed a w j) (h3 : OweE P ops Q S m fuel listed a w k) : wpAnyM P ops Q S m (fuel + 1) listed a w :=
  wpAnyM_all hr (by simp) fun q hq => by
    rcases List.mem_cons.1 hq with rfl | hq
    · exact h
    · rcases List.mem_cons.1 hq with rfl | hq
      · exact h2
      · rw [List.mem_singleton.1 hq]; exact h3
set_option maxHeartbeats 32000000 in
set_option maxRecDepth 100000 in
theorem twice_walk (v : Value) (l : List PStep) (vs0 : List Value) (w : World) (h : StepsR w v l vs0) (hin : BunIn l) :
    Calls Try.prog 6 #[.agg #[v]] w fun en w' => en = .returned (.bool true) ∧ Below w.heap.size w w' := by
  have HS := Lib.hid h
  obtain ⟨A, c, rfl, -, -, -, -, -⟩ := h
  obtain ⟨n0, hn0⟩ : ∃ n0, l.length = n0 := ⟨_, rfl⟩
  rw [hn0] at HS ⊢
  clear hn0
  have HBA := Lib.hid ((Below.refl _ w).alloc (Nat.le_refl _) (.cells #[.slice A n0 c] 24))
  have HWK := Lib.hid (fun W => bwakes_any W)
  have HCU := Lib.hid (fun (W : World) (hW : Below w.heap.size w W) => bcut_any (.slice A n0 c) l vs0 W (HS.out.more hW) hin)
  have HSM := Lib.hid (cut_small l)
  have HIN := Lib.hid (cutL_in hin)
  clear hin
  have HGA := Lib.hid (Blk.new w 24 #[.slice A n0 c])
  obtain ⟨i1, hi1, hy0, hy1, hy2⟩ := info_parts valueI
  obtain ⟨i2, hi2, hx0, hx1, hx2⟩ := info_parts bookI
  go_enter Try.func6, Try.ntmps6
  go_upto_region 3 with (go_at_call 7; go_must (refine (HWK.out _).mono ?_; rintro en w1 ⟨rfl, hb1⟩; have HB1 := Lib.hid (HBA.out.trans (hb1.mono HBA.out.size)); have HG1 := Lib.hid (HGA.out.below hb1 HGA.out.lt); clear hb1))
  have k0 : w1.cell? ⟨w.heap.size, 0, none⟩ = some (.slice A n0 c) := HG1.out.cell 0
  have HC1 := Lib.hid (HCU.out w1 HB1.out)
  go_wp2_with fail
  refine HC1.out.mono ?_
  rintro en w2 ⟨u, us, rfl, hO, hb2⟩
  obtain ⟨Au, cu, rfl, -, -, -⟩ := own_form hO.1
  have HG2 := Lib.hid (HG1.out.below hb2 HG1.out.lt)
  have HO2 := Lib.hid hO
  have HB2 := Lib.hid (HB1.out.trans (hb2.mono HB1.out.size))
  have HZ2 := Lib.hid (show w.heap.size < w1.heap.size from HG1.out.lt)
  have k1 : w2.cell? ⟨w.heap.size, 0, none⟩ = some (.slice A n0 c) := HG2.out.cell 0
  have k2 : w2.frozen? ⟨w.heap.size, 0, none⟩ = false := HG2.out.frozen 0
  obtain ⟨L, hL⟩ : ∃ L, cutL l = L := ⟨_, rfl⟩
  rw [hL] at HSM HIN HO2 ⊢
  clear hO hb2 k0 HWK HCU HC1 hL
  obtain ⟨nl, hnl⟩ : ∃ nl, L.length = nl := ⟨_, rfl⟩
  have HNL := Lib.hid hnl
  have hnl1 : nl ≤ 11 := by rw [← hnl]; exact HSM.out.1
  rw [hnl]
  go_upto_region 4 with (fail)
  clear k1 k2
  have HW3 := Lib.hid (show BunOwn (w2.setCell ⟨w.heap.size, 0, none⟩ (.slice Au nl cu)) w1.heap.size (.slice Au nl cu) L us ∧ Below w.heap.size w (w2.setCell ⟨w.heap.size, 0, none⟩ (.slice Au nl cu)) ∧ Blk (w2.setCell ⟨w.heap.size, 0, none⟩ (.slice Au nl cu)) w.heap.size 24 #[.slice Au nl cu] from by
    have hs := grown_set w2 w.heap.size 0 (.slice Au nl cu)
    have ho := HO2.out
    rw [hnl] at ho
    exact ⟨⟨own_stays3 ho.1 HG2.out (by decide) hs, ho.2.1, fun i b ku hi hj => own_stays3 (ho.2.2 i b ku hi hj) HG2.out (by decide) hs⟩, HB2.out.setCell (Nat.le_refl _) _, HG2.out.set_ 0 _⟩)
  clear hnl HO2 HG2 HB2 HG1 HB1 HGA HBA HS
  generalize w2.setCell ⟨w.heap.size, 0, none⟩ (.slice Au nl cu) = w3 at *
  obtain ⟨h0, hh0⟩ : ∃ h0, w.heap.size = h0 := ⟨_, rfl⟩
  have HH0 := Lib.hid hh0
  rw [hh0] at HW3 HZ2 ⊢
  clear hh0
  cases nl with
  | zero =>
    have k0 : w3.cell? ⟨h0, 0, none⟩ = some (.slice Au 0 cu) := HW3.out.2.2.cell 0
    clear hnl1
    go_wp2_with fail
    go_ret
    exact ⟨rfl, by rw [HH0.out]; exact HW3.out.2.1⟩
  | succ m =>
    obtain ⟨g, c9, hgv, -, -⟩ := own_head HW3.out.1.1 (by rw [HNL.out]; omega) HW3.out.1.1.1
    rw [HNL.out] at hgv
    cases hgv
    have HST := Lib.hid (HW3.out.1.steps)
    have HBW := Lib.hid (show Below h0 w w3 ∧ Blk w3 h0 24 #[.slice (some ⟨g, 0, none⟩) (m + 1) cu] from HW3.out.2)
    clear HW3
    have k0 : w3.cell? ⟨h0, 0, none⟩ = some (.slice (some ⟨g, 0, none⟩) (m + 1) cu) := HBW.out.2.cell 0
    have hm1 : m ≤ 10 := by omega
    have hm2 : (m : Int) ≤ 10 := by omega
    have hm3 : ¬ ((m : Int) + 1 = 0) := by omega
    clear hnl1
    obtain ⟨e1, he1⟩ : ∃ e1, (checkB L).1 = e1 := ⟨_, rfl⟩
    by_cases z1 : e1 = 0
    · subst z1
      have HSZ := Lib.hid (size_yes HST.out HIN.out he1)
      have HE1 := Lib.hid he1
      clear he1
      go_upto_region 8 with (go_at_call 13; go_must (refine HSZ.out.mono ?_; rintro en w5 ⟨rfl, hb5⟩; have HB5 := Lib.hid hb5; clear hb5))
      clear k0
      obtain ⟨k, nm, vs, kv, us1, hk1, hk2, rfl, rfl⟩ : ∃ (k : List PStep) (nm : ByteArray) (vs : List PKey) (kv : Value) (us1 : List Value), k.length = m ∧ us1.length = m ∧ L = k ++ [(nm, vs)] ∧ us = us1 ++ [kv] := by
        have h1 := HNL.out
        obtain ⟨-, -, -, -, -, -, h2, -⟩ := HST.out
        rw [h1] at h2
        obtain ⟨k, b, rfl⟩ : ∃ k b, L = k ++ [b] := ⟨L.dropLast, L.getLast (by intro e; rw [e] at h1; simp at h1), (List.dropLast_concat_getLast _).symm⟩
        obtain ⟨us1, kv, rfl⟩ : ∃ k b, us = k ++ [b] := ⟨us.dropLast, us.getLast (by intro e; rw [e] at h2; simp at h2), (List.dropLast_concat_getLast _).symm⟩
        rw [List.length_append] at h1 h2
        exact ⟨k, b.1, b.2, kv, us1, Nat.succ.inj h1, Nat.succ.inj h2, rfl, rfl⟩
      have HST5 := Lib.hid (HST.out.more HB5.out)
      have HC5 := Lib.hid (show w5.cell? ⟨g, m * 2, none⟩ = some (.string nm) ∧ w5.cell? ⟨g, m * 2 + 1, none⟩ = some kv ∧ KeysAt w5 w5.heap.size kv vs from by
        obtain ⟨A', c', e, -, -, h3, -, h5⟩ := HST5.out
        obtain ⟨e1, -, -⟩ := Value.slice.inj e
        subst e1
        obtain ⟨ad, e2, -, h4⟩ := h3.2 (by rw [HNL.out]; omega)
        cases e2
        have h6 : (k ++ [(nm, vs)])[m]? = some (nm, vs) := by rw [List.getElem?_append_right (by omega), hk1]; simp
        have h7 : (us1 ++ [kv])[m]? = some kv := by rw [List.getElem?_append_right (by omega), hk2]; simp
        obtain ⟨h8, h9⟩ := stepCells_at _ _ m _ _ h6 h7
        have ha : ∀ j, (⟨g, 0, none⟩ : Addr).add j = ⟨g, j, none⟩ := fun j => by by_cases hj : j = 0 <;> simp [Addr.add, hj]
        have h10 := h4 _ _ h8
        have h11 := h4 _ _ h9
        rw [ha] at h10 h11
        exact ⟨h10, h11, h5 m _ _ h6 h7⟩)
      have HBW5 := Lib.hid (show Below h0 w w5 ∧ Blk w5 h0 24 #[.slice (some ⟨g, 0, none⟩) (m + 1) cu] from ⟨HBW.out.1.trans (HB5.out.mono (by have := HBW.out.2.lt; omega)), HBW.out.2.below HB5.out HBW.out.2.lt⟩)
      clear hk1 hk2 HST HBW
      have k0 : w5.cell? ⟨h0, 0, none⟩ = some (.slice (some ⟨g, 0, none⟩) (m + 1) cu) := HBW5.out.2.cell 0
      have k1 := HC5.out.1
      have k2 := HC5.out.2.1
      have HKV := Lib.hid HC5.out.2.2
      obtain ⟨Ak, ck, hkv, hck1, hck2, hck3⟩ := HC5.out.2.2
      obtain ⟨nv, hnv⟩ : ∃ nv, vs.length = nv := ⟨_, rfl⟩
      rw [hnv] at hkv hck1 hck3
      have HNV := Lib.hid hnv
      subst hkv
      clear hnv hck1 hck2 hck3 HC5
      go_upto_region 11 with (fail)
      obtain ⟨L, hL⟩ : ∃ L, k ++ [(nm, vs)] = L := ⟨_, rfl⟩
      obtain ⟨us, hus⟩ : ∃ us, us1 ++ [.slice Ak nv ck] = us := ⟨_, rfl⟩
      obtain ⟨n, hn⟩ : ∃ n, m + 1 = n := ⟨_, rfl⟩
      have HLE := Lib.hid hL
      clear HSZ
      rw [hL] at HSM HIN HE1 HNL HST5 ⊢
      rw [hus] at HST5
      rw [hn] at HNL HST5 HBW5 k0 ⊢
      obtain ⟨nb, hnb⟩ : ∃ nb, (bytesB L).length = nb := ⟨_, rfl⟩
      rw [hnb]
      have HNB := Lib.hid hnb
      have HMN := Lib.hid (And.intro hm1 hn)
      have HNS := Lib.hid (show nm.size ≤ 256 from (checkB_ok HE1.out).2.2 (nm, vs) (by rw [← hL]; simp) |>.1)
      clear hL hus hn hnb hm1 hm2 hm3 k0 k1 k2
      have hba := (Below.refl w5.heap.size w5).alloc (Nat.le_refl _) (.cells #[.string nm, .slice Ak nv ck] 30)
      have HW10 := Lib.hid (show Below h0 w (w5.alloc (.cells #[.string nm, .slice Ak nv ck] 30)) ∧ Blk (w5.alloc (.cells #[.string nm, .slice Ak nv ck] 30)) h0 24 #[.slice (some ⟨g, 0, none⟩) n cu] ∧ Blk (w5.alloc (.cells #[.string nm, .slice Ak nv ck] 30)) w5.heap.size 30 #[.string nm, .slice Ak nv ck] ∧ StepsR (w5.alloc (.cells #[.string nm, .slice Ak nv ck] 30)) (.slice (some ⟨g, 0, none⟩) n cu) L us ∧ KeysAt (w5.alloc (.cells #[.string nm, .slice Ak nv ck] 30)) (w5.alloc (.cells #[.string nm, .slice Ak nv ck] 30)).heap.size (.slice Ak nv ck) vs from ⟨HBW5.out.1.trans (hba.mono (by have := HBW5.out.2.lt; omega)), HBW5.out.2.alloc _, Blk.new w5 _ _, HST5.out.more hba, HKV.out.more hba hba.size⟩)
      clear hba HBW5 HST5 HKV HB5
      generalize w5.alloc (.cells #[.string nm, .slice Ak nv ck] 30) = w10 at *
      obtain ⟨gl, hgl⟩ : ∃ gl, w5.heap.size = gl := ⟨_, rfl⟩
      rw [hgl] at HW10 ⊢
      clear hgl
      have HKP := Lib.hid (show ∀ W, Below w10.heap.size w10 W → W.cell? ⟨h0, 0, none⟩ = some (.slice (some ⟨g, 0, none⟩) n cu) ∧ W.cell? ⟨gl, 0, none⟩ = some (.string nm) ∧ W.cell? ⟨gl, 1, none⟩ = some (.slice Ak nv ck) from fun W hW => ⟨(HW10.out.2.1.below hW HW10.out.2.1.lt).cell 0, (HW10.out.2.2.1.below hW HW10.out.2.2.1.lt).cell 0, (HW10.out.2.2.1.below hW HW10.out.2.2.1.lt).cell 1⟩)
      obtain ⟨k0, k1, k2⟩ := HKP.out w10 (Below.refl _ _)
      have hns2 : ¬ 9223372036854775807 < nm.size + 1 := by have := HNS.out; omega
      go_cut [7] from 43 to 55 (fun s W => ∃ (g7 : Nat) (A7 : Option Addr) (c7 : Nat), s = .pointer (some ⟨g7, 0, none⟩) ∧ w10.heap.size ≤ g7 ∧ Below w10.heap.size w10 W ∧ Blk W g7 24 #[.slice A7 (n + 1) c7] ∧ W.ownsRow w10.heap.size 30 2 (.slice A7 (n + 1) c7) (n + 1) (stepCells L us ++ [.string (wave nm), .slice Ak nv ck]))
      case first =>
        refine wp_region_M (fun W => W.cell? ⟨h0, 0, none⟩ = some (.slice (some ⟨g, 0, none⟩) n cu) ∧ W.cell? ⟨gl, 0, none⟩ = some (.string nm) ∧ W.cell? ⟨gl, 1, none⟩ = some (.slice Ak nv ck)) 14 (by kernel_rfl) (by go_keep) (fun hHeld => ?_)
        have HB0 := Lib.hid (show Below w10.heap.size w10 w10.drew ∧ w10.heap.size ≤ w10.drew.heap.size from ⟨(Below.refl _ _).drew, ((Below.refl w10.heap.size w10).drew).size⟩)
        clear k0 k1 k2
        generalize w10.drew = W0 at *
        refine wpAnyM_take (i := 1) (d := (some 44)) (v := ?_) rfl rfl (by kernel_rfl) (by kernel_rfl) (by kernel_rfl) (by kernel_rfl) (by kernel_rfl) (fun _ _ _ h => h) (Or.inl ⟨by rfl, ?_⟩) (by assumption) ?_
        rotate_left
        · intro w hSw
          (try dsimp only at hSw)
          go_simp
          (try with_reducible rfl)
        (try simp only [Act.put, List.setIfInBounds_toArray, List.set_cons_zero, List.set_cons_succ])
        refine wpAnyM_take (i := 2) (d := (some 45)) (v := ?_) rfl rfl (by kernel_rfl) (by kernel_rfl) (by kernel_rfl) (by kernel_rfl) (by kernel_rfl) (fun _ _ _ h => h) (Or.inl ⟨by rfl, ?_⟩) (by assumption) ?_
        rotate_left
        · intro w hSw
          (try dsimp only at hSw)
          go_simp
          (try with_reducible rfl)
        (try simp only [Act.put, List.setIfInBounds_toArray, List.set_cons_zero, List.set_cons_succ])
        refine wpAnyM_take (i := 4) (d := (some 47)) (v := ?_) rfl rfl (by kernel_rfl) (by kernel_rfl) (by kernel_rfl) (by kernel_rfl) (by kernel_rfl) (fun _ _ _ h => h) (Or.inl ⟨by rfl, ?_⟩) (by assumption) ?_
        rotate_left
        · intro w hSw
          (try dsimp only at hSw)
          go_simp
          (try with_reducible rfl)
        (try simp only [Act.put, List.setIfInBounds_toArray, List.set_cons_zero, List.set_cons_succ])
        refine wpAnyM_take (i := 5) (d := (some 48)) (v := ?_) rfl rfl (by kernel_rfl) (by kernel_rfl) (by kernel_rfl) (by kernel_rfl) (by kernel_rfl) (fun _ _ _ h => h) (Or.inl ⟨by rfl, ?_⟩) (by assumption) ?_
        rotate_left
        · intro w hSw
          (try dsimp only at hSw)
          go_simp
          (try with_reducible rfl)
        (try simp only [Act.put, List.setIfInBounds_toArray, List.set_cons_zero, List.set_cons_succ])
        refine wpAnyM_take (i := 6) (d := (some 49)) (v := ?_) rfl rfl (by kernel_rfl) (by kernel_rfl) (by kernel_rfl) (by kernel_rfl) (by kernel_rfl) (fun _ _ _ h => h) (Or.inl ⟨by rfl, ?_⟩) (by assumption) ?_
        rotate_left
        · intro w hSw
          (try dsimp only at hSw)
          go_simp
          (try with_reducible rfl)
        (try simp only [Act.put, List.setIfInBounds_toArray, List.set_cons_zero, List.set_cons_succ])
        refine wpAnyM_take (i := 7) (d := (some 50)) (v := ?_) rfl rfl (by kernel_rfl) (by kernel_rfl) (by kernel_rfl) (by kernel_rfl) (by kernel_rfl) (fun _ _ _ h => h) (Or.inl ⟨by rfl, ?_⟩) (by assumption) ?_
        rotate_left
        · intro w hSw
          (try dsimp only at hSw)
          go_simp
          (try with_reducible rfl)
        (try simp only [Act.put, List.setIfInBounds_toArray, List.set_cons_zero, List.set_cons_succ])
        refine wpAnyM_take (i := 8) (d := (some 51)) (v := ?_) rfl rfl (by kernel_rfl) (by kernel_rfl) (by kernel_rfl) (by kernel_rfl) (by kernel_rfl) (fun _ _ _ h => h) (Or.inl ⟨by rfl, ?_⟩) (by assumption) ?_
        rotate_left
        · intro w hSw
          (try dsimp only at hSw)
          go_simp
          (try with_reducible rfl)
        (try simp only [Act.put, List.setIfInBounds_toArray, List.set_cons_zero, List.set_cons_succ])
        refine wpAnyM_take (i := 9) (d := (some 52)) (v := ?_) rfl rfl (by kernel_rfl) (by kernel_rfl) (by kernel_rfl) (by kernel_rfl) (by kernel_rfl) (fun _ _ _ h => h) (Or.inl ⟨by rfl, ?_⟩) (by assumption) ?_
        rotate_left
        · intro w hSw
          (try dsimp only at hSw)
          go_simp
          (try with_reducible rfl)
        (try simp only [Act.put, List.setIfInBounds_toArray, List.set_cons_zero, List.set_cons_succ])
        refine wpAnyM_three (i := 0) (j := 10) (k := 13) (by kernel_rfl) ?_ ?_ ?_
        · refine owe_early (i := 0) (d := (some 43)) rfl rfl (fun K hK => ?_)
          go_simp
          refine hK.out _ _ (by go_keep) (fun hHeld => ?_)
          clear hK K
          (try simp only [Act.put, List.setIfInBounds_toArray, List.set_cons_zero, List.set_cons_succ])
          have hx := (Below.refl W0.heap.size W0).alloc (Nat.le_refl _) (.cells #[] 30)
          have HB1 := Lib.hid (show Below w10.heap.size w10 (W0.alloc (.cells #[] 30)) ∧ w10.heap.size ≤ (W0.alloc (.cells #[] 30)).heap.size from ⟨HB0.out.1.trans (hx.mono HB0.out.2), Nat.le_trans HB0.out.2 hx.size⟩)
          have HV1 := Lib.hid (own_empty3 (Blk.new W0 30 #[]) HB0.out.2 2)
          generalize (W0.alloc (.cells #[] 30)) = W1 at *
          clear hx
          refine wpAnyM_three (i := 3) (j := 10) (k := 13) (by kernel_rfl) ?_ ?_ ?_
          · refine owe_early (i := 3) (d := (some 46)) rfl rfl (fun K hK => ?_)
            obtain ⟨AX, cX, eX, h1X, h2X, h3X, -, -⟩ := HW10.out.2.2.2.1.more HB1.out.1
            rw [HNL.out] at eX h1X h3X
            cases eX
            refine step_append_any (by rfl) (.tmp 43) (.tmp 45) 22 (by rfl) w10.heap.size 30 i2 _ 2 40 Try.underlying22 hi2 hx0 hx1 hx2 rfl (by omega) (.slice (some ⟨W0.heap.size, 0, none⟩) 0 0) 0 [] (by rfl) HV1.out W1.heap.size (some ⟨g, 0, none⟩) n cu (stepCells L us) (by rfl) h3X (stepCells_one HW10.out.2.2.2.1) (by have := HMN.out; simp only [maxLen]; omega) (by have := HMN.out; omega) HB1.out.2 ?_
            intro v9 W2 hown9 hg9 hat9
            rw [Nat.zero_add] at hown9
            obtain ⟨A2, c2, rfl, -, -, -⟩ := own_form hown9
            have HB2 := Lib.hid (show Below w10.heap.size w10 W2 ∧ w10.heap.size ≤ W2.heap.size from ⟨HB1.out.1.grown hg9 HB1.out.2 (fun k hk => (HV1.out.lt k hk).1), Nat.le_trans HB1.out.2 hg9.size⟩)
            have HT2 := Lib.hid hown9
            clear hown9 hg9 hat9 h1X h2X h3X hHeld
            obtain ⟨q0, q1, q2⟩ := HKP.out W2 HB2.out.1
            refine hK.out _ _ (by go_keep) (fun hHeld => ?_)
            clear hK K
            (try simp only [Act.put, List.setIfInBounds_toArray, List.set_cons_zero, List.set_cons_succ])
            clear q0 q1 q2
            refine wpAnyM_two (i := 10) (j := 13) (by kernel_rfl) ?_ ?_
            · refine owe_early (i := 10) (d := (some 53)) rfl rfl (fun K hK => ?_)
              go_simp
              refine hK.out _ _ (by go_keep) (fun hHeld => ?_)
              clear hK K
              (try simp only [Act.put, List.setIfInBounds_toArray, List.set_cons_zero, List.set_cons_succ])
              have hx := (Below.refl W2.heap.size W2).alloc (Nat.le_refl _) (.cells #[.string (nm ++ ⟨#[126]⟩), .slice Ak nv ck] 30)
              have HB3 := Lib.hid (show Below w10.heap.size w10 (W2.alloc (.cells #[.string (nm ++ ⟨#[126]⟩), .slice Ak nv ck] 30)) ∧ w10.heap.size ≤ (W2.alloc (.cells #[.string (nm ++ ⟨#[126]⟩), .slice Ak nv ck] 30)).heap.size from ⟨HB2.out.1.trans (hx.mono HB2.out.2), Nat.le_trans HB2.out.2 hx.size⟩)
              have HT3 := Lib.hid (own_more HT2.out hx)
              have HR3 := Lib.hid (own_base (own_one W2 30 (.string (nm ++ ⟨#[126]⟩)) (.slice Ak nv ck)) HB2.out.2)
              generalize (W2.alloc (.cells #[.string (nm ++ ⟨#[126]⟩), .slice Ak nv ck] 30)) = W3 at *
              clear hx
              refine wpAnyM_two (i := 11) (j := 13) (by kernel_rfl) ?_ ?_
              · refine owe_early (i := 11) (d := (some 54)) rfl rfl (fun K hK => ?_)
                obtain ⟨AX, cX, eX, h1X, h2X, h3X⟩ := own_form HR3.out
                cases eX
                refine step_append_any (by rfl) (.tmp 46) (.tmp 53) 22 (by rfl) w10.heap.size 30 i2 _ 2 40 Try.underlying22 hi2 hx0 hx1 hx2 rfl (by omega) (.slice A2 n c2) n (stepCells L us) (by rfl) HT3.out W3.heap.size (some ⟨W2.heap.size, 0, none⟩) 1 1 [.string (nm ++ ⟨#[126]⟩), .slice Ak nv ck] (by rfl) h3X (by simp [Value.oneCell']) (by have := HMN.out; simp only [maxLen]; omega) (by have := HMN.out; omega) HB3.out.2 ?_
                intro v9 W4 hown9 hg9 hat9
                obtain ⟨A4, c4, rfl, -, -, -⟩ := own_form hown9
                have HB4 := Lib.hid (show Below w10.heap.size w10 W4 ∧ w10.heap.size ≤ W4.heap.size from ⟨HB3.out.1.grown hg9 HB3.out.2 (fun k hk => (HT3.out.lt k hk).1), Nat.le_trans HB3.out.2 hg9.size⟩)
                have HD4 := Lib.hid hown9
                clear hown9 hg9 hat9 h1X h2X h3X hHeld
                obtain ⟨q0, q1, q2⟩ := HKP.out W4 HB4.out.1
                refine hK.out _ _ (by go_keep) (fun hHeld => ?_)
                clear hK K
                (try simp only [Act.put, List.setIfInBounds_toArray, List.set_cons_zero, List.set_cons_succ])
                clear q0 q1 q2
                refine wpAnyM_take (i := 12) (d := (some 55)) (v := ?_) rfl rfl (by kernel_rfl) (by kernel_rfl) (by kernel_rfl) (by kernel_rfl) (by kernel_rfl) (fun _ _ _ h => h) (Or.inl ⟨by rfl, ?_⟩) (by assumption) ?_
                rotate_left
                · intro w hSw
                  (try dsimp only at hSw)
                  go_simp
                  (try with_reducible rfl)
                (try simp only [Act.put, List.setIfInBounds_toArray, List.set_cons_zero, List.set_cons_succ])
                refine wpAnyM_one (i := 13) (by kernel_rfl) ?_
                refine owe_early (i := 13) (d := (some 7)) rfl rfl (fun K hK => ?_)
                go_simp
                refine hK.out _ _ (by go_keep) (fun hHeld => ?_)
                clear hK K
                (try simp only [Act.put, List.setIfInBounds_toArray, List.set_cons_zero, List.set_cons_succ])
                have hx := (Below.refl W4.heap.size W4).alloc (Nat.le_refl _) (.cells #[.slice none 0 0] 24)
                have HB5 := Lib.hid (show Below w10.heap.size w10 (W4.alloc (.cells #[.slice none 0 0] 24)) ∧ w10.heap.size ≤ (W4.alloc (.cells #[.slice none 0 0] 24)).heap.size from ⟨HB4.out.1.trans (hx.mono HB4.out.2), Nat.le_trans HB4.out.2 hx.size⟩)
                have HD5 := Lib.hid (own_more HD4.out hx)
                have HC5 := Lib.hid (Blk.new W4 24 #[.slice none 0 0])
                have HG := Lib.hid HB4.out.2
                generalize (W4.alloc (.cells #[.slice none 0 0] 24)) = W5 at *
                clear hx
                refine wpAnyM_one (i := 14) (by kernel_rfl) ?_
                refine owe_late (i := 14) (d := none) rfl rfl (by decide) (fun K hK => ?_)
                have j0 := HC5.out.cell 0
                have j1 := HC5.out.frozen 0
                go_simp
                refine hK.out undef _ ?_
                clear hK K j0 j1
                (try simp only [Act.put, List.setIfInBounds_toArray, List.set_cons_zero, List.set_cons_succ])
                refine wpAnyM_done (by kernel_rfl) ?_ _
                (try simp only [Act.put, List.setIfInBounds_toArray, List.set_cons_zero, List.set_cons_succ])
                go_wp2_with fail
                go_meet
                exact ⟨_, _, _, rfl, HG.out, HB5.out.1.setCell HG.out _, HC5.out.set_ 0 _, own_stays3 HD5.out HC5.out (by decide) (grown_set W5 _ 0 _)⟩
              · refine owe_early (i := 13) (d := (some 7)) rfl rfl (fun K hK => ?_)
                go_simp
                refine hK.out _ _ (by go_keep) (fun hHeld => ?_)
                clear hK K
                (try simp only [Act.put, List.setIfInBounds_toArray, List.set_cons_zero, List.set_cons_succ])
                have hx := (Below.refl W3.heap.size W3).alloc (Nat.le_refl _) (.cells #[.slice none 0 0] 24)
                have HB4 := Lib.hid (show Below w10.heap.size w10 (W3.alloc (.cells #[.slice none 0 0] 24)) ∧ w10.heap.size ≤ (W3.alloc (.cells #[.slice none 0 0] 24)).heap.size from ⟨HB3.out.1.trans (hx.mono HB3.out.2), Nat.le_trans HB3.out.2 hx.size⟩)
                have HT4 := Lib.hid (own_more HT3.out hx)
                have HR4 := Lib.hid (own_more HR3.out hx)
                have HC4 := Lib.hid (Blk.new W3 24 #[.slice none 0 0])
                have HG := Lib.hid HB3.out.2
                generalize (W3.alloc (.cells #[.slice none 0 0] 24)) = W4 at *
                clear hx
                refine wpAnyM_one (i := 11) (by kernel_rfl) ?_
                refine owe_early (i := 11) (d := (some 54)) rfl rfl (fun K hK => ?_)
                obtain ⟨AX, cX, eX, h1X, h2X, h3X⟩ := own_form HR4.out
                cases eX
                refine step_append_any (by rfl) (.tmp 46) (.tmp 53) 22 (by rfl) w10.heap.size 30 i2 _ 2 40 Try.underlying22 hi2 hx0 hx1 hx2 rfl (by omega) (.slice A2 n c2) n (stepCells L us) (by rfl) HT4.out W4.heap.size (some ⟨W2.heap.size, 0, none⟩) 1 1 [.string (nm ++ ⟨#[126]⟩), .slice Ak nv ck] (by rfl) h3X (by simp [Value.oneCell']) (by have := HMN.out; simp only [maxLen]; omega) (by have := HMN.out; omega) HB4.out.2 ?_
                intro v9 W5 hown9 hg9 hat9
                obtain ⟨A5, c5, rfl, -, -, -⟩ := own_form hown9
                have HB5 := Lib.hid (show Below w10.heap.size w10 W5 ∧ w10.heap.size ≤ W5.heap.size from ⟨HB4.out.1.grown hg9 HB4.out.2 (fun k hk => (HT4.out.lt k hk).1), Nat.le_trans HB4.out.2 hg9.size⟩)
                have HC5 := Lib.hid (blk_stays HC4.out HT4.out (by decide) hg9)
                have HD5 := Lib.hid hown9
                clear hown9 hg9 hat9 h1X h2X h3X hHeld
                obtain ⟨q0, q1, q2⟩ := HKP.out W5 HB5.out.1
                refine hK.out _ _ (by go_keep) (fun hHeld => ?_)
                clear hK K
                (try simp only [Act.put, List.setIfInBounds_toArray, List.set_cons_zero, List.set_cons_succ])
                clear q0 q1 q2
                refine wpAnyM_take (i := 12) (d := (some 55)) (v := ?_) rfl rfl (by kernel_rfl) (by kernel_rfl) (by kernel_rfl) (by kernel_rfl) (by kernel_rfl) (fun _ _ _ h => h) (Or.inl ⟨by rfl, ?_⟩) (by assumption) ?_
                rotate_left
                · intro w hSw
                  (try dsimp only at hSw)
                  go_simp
                  (try with_reducible rfl)
                (try simp only [Act.put, List.setIfInBounds_toArray, List.set_cons_zero, List.set_cons_succ])
                refine wpAnyM_one (i := 14) (by kernel_rfl) ?_
                refine owe_late (i := 14) (d := none) rfl rfl (by decide) (fun K hK => ?_)
                have j0 := HC5.out.cell 0
                have j1 := HC5.out.frozen 0
                go_simp
                refine hK.out undef _ ?_
                clear hK K j0 j1
                (try simp only [Act.put, List.setIfInBounds_toArray, List.set_cons_zero, List.set_cons_succ])
                refine wpAnyM_done (by kernel_rfl) ?_ _
                (try simp only [Act.put, List.setIfInBounds_toArray, List.set_cons_zero, List.set_cons_succ])
                go_wp2_with fail
                go_meet
                exact ⟨_, _, _, rfl, HG.out, HB5.out.1.setCell HG.out _, HC5.out.set_ 0 _, own_stays3 HD5.out HC5.out (by decide) (grown_set W5 _ 0 _)⟩
            · refine owe_early (i := 13) (d := (some 7)) rfl rfl (fun K hK => ?_)
              go_simp
              refine hK.out _ _ (by go_keep) (fun hHeld => ?_)
              clear hK K
              (try simp only [Act.put, List.setIfInBounds_toArray, List.set_cons_zero, List.set_cons_succ])
              have hx := (Below.refl W2.heap.size W2).alloc (Nat.le_refl _) (.cells #[.slice none 0 0] 24)
              have HB3 := Lib.hid (show Below w10.heap.size w10 (W2.alloc (.cells #[.slice none 0 0] 24)) ∧ w10.heap.size ≤ (W2.alloc (.cells #[.slice none 0 0] 24)).heap.size from ⟨HB2.out.1.trans (hx.mono HB2.out.2), Nat.le_trans HB2.out.2 hx.size⟩)
              have HT3 := Lib.hid (own_more HT2.out hx)
              have HC3 := Lib.hid (Blk.new W2 24 #[.slice none 0 0])
              have HG := Lib.hid HB2.out.2
              generalize (W2.alloc (.cells #[.slice none 0 0] 24)) = W3 at *
              clear hx
              refine wpAnyM_one (i := 10) (by kernel_rfl) ?_
              refine owe_early (i := 10) (d := (some 53)) rfl rfl (fun K hK => ?_)
              go_simp
              refine hK.out _ _ (by go_keep) (fun hHeld => ?_)
              clear hK K
              (try simp only [Act.put, List.setIfInBounds_toArray, List.set_cons_zero, List.set_cons_succ])
              have hx := (Below.refl W3.heap.size W3).alloc (Nat.le_refl _) (.cells #[.string (nm ++ ⟨#[126]⟩), .slice Ak nv ck] 30)
              have HB4 := Lib.hid (show Below w10.heap.size w10 (W3.alloc (.cells #[.string (nm ++ ⟨#[126]⟩), .slice Ak nv ck] 30)) ∧ w10.heap.size ≤ (W3.alloc (.cells #[.string (nm ++ ⟨#[126]⟩), .slice Ak nv ck] 30)).heap.size from ⟨HB3.out.1.trans (hx.mono HB3.out.2), Nat.le_trans HB3.out.2 hx.size⟩)
              have HT4 := Lib.hid (own_more HT3.out hx)
              have HC4 := Lib.hid (HC3.out.alloc (.cells #[.string (nm ++ ⟨#[126]⟩), .slice Ak nv ck] 30))
              have HR4 := Lib.hid (own_base (own_one W3 30 (.string (nm ++ ⟨#[126]⟩)) (.slice Ak nv ck)) HB3.out.2)
              generalize (W3.alloc (.cells #[.string (nm ++ ⟨#[126]⟩), .slice Ak nv ck] 30)) = W4 at *
              clear hx
              refine wpAnyM_one (i := 11) (by kernel_rfl) ?_
              refine owe_early (i := 11) (d := (some 54)) rfl rfl (fun K hK => ?_)
              obtain ⟨AX, cX, eX, h1X, h2X, h3X⟩ := own_form HR4.out
              cases eX
              refine step_append_any (by rfl) (.tmp 46) (.tmp 53) 22 (by rfl) w10.heap.size 30 i2 _ 2 40 Try.underlying22 hi2 hx0 hx1 hx2 rfl (by omega) (.slice A2 n c2) n (stepCells L us) (by rfl) HT4.out W4.heap.size (some ⟨W3.heap.size, 0, none⟩) 1 1 [.string (nm ++ ⟨#[126]⟩), .slice Ak nv ck] (by rfl) h3X (by simp [Value.oneCell']) (by have := HMN.out; simp only [maxLen]; omega) (by have := HMN.out; omega) HB4.out.2 ?_
              intro v9 W5 hown9 hg9 hat9
              obtain ⟨A5, c5, rfl, -, -, -⟩ := own_form hown9
              have HB5 := Lib.hid (show Below w10.heap.size w10 W5 ∧ w10.heap.size ≤ W5.heap.size from ⟨HB4.out.1.grown hg9 HB4.out.2 (fun k hk => (HT4.out.lt k hk).1), Nat.le_trans HB4.out.2 hg9.size⟩)
              have HC5 := Lib.hid (blk_stays HC4.out HT4.out (by decide) hg9)
              have HD5 := Lib.hid hown9
              clear hown9 hg9 hat9 h1X h2X h3X hHeld
              obtain ⟨q0, q1, q2⟩ := HKP.out W5 HB5.out.1
              refine hK.out _ _ (by go_keep) (fun hHeld => ?_)
              clear hK K
              (try simp only [Act.put, List.setIfInBounds_toArray, List.set_cons_zero, List.set_cons_succ])
              clear q0 q1 q2
              refine wpAnyM_take (i := 12) (d := (some 55)) (v := ?_) rfl rfl (by kernel_rfl) (by kernel_rfl) (by kernel_rfl) (by kernel_rfl) (by kernel_rfl) (fun _ _ _ h => h) (Or.inl ⟨by rfl, ?_⟩) (by assumption) ?_
              rotate_left
              · intro w hSw
                (try dsimp only at hSw)
                go_simp
                (try with_reducible rfl)
              (try simp only [Act.put, List.setIfInBounds_toArray, List.set_cons_zero, List.set_cons_succ])
              refine wpAnyM_one (i := 14) (by kernel_rfl) ?_
              refine owe_late (i := 14) (d := none) rfl rfl (by decide) (fun K hK => ?_)
              have j0 := HC5.out.cell 0
              have j1 := HC5.out.frozen 0
              go_simp
              refine hK.out undef _ ?_
              clear hK K j0 j1
              (try simp only [Act.put, List.setIfInBounds_toArray, List.set_cons_zero, List.set_cons_succ])
              refine wpAnyM_done (by kernel_rfl) ?_ _
              (try simp only [Act.put, List.setIfInBounds_toArray, List.set_cons_zero, List.set_cons_succ])
              go_wp2_with fail
              go_meet
              exact ⟨_, _, _, rfl, HG.out, HB5.out.1.setCell HG.out _, HC5.out.set_ 0 _, own_stays3 HD5.out HC5.out (by decide) (grown_set W5 _ 0 _)⟩
          · refine owe_early (i := 10) (d := (some 53)) rfl rfl (fun K hK => ?_)
            go_simp
            refine hK.out _ _ (by go_keep) (fun hHeld => ?_)
            clear hK K
            (try simp only [Act.put, List.setIfInBounds_toArray, List.set_cons_zero, List.set_cons_succ])
            have hx := (Below.refl W1.heap.size W1).alloc (Nat.le_refl _) (.cells #[.string (nm ++ ⟨#[126]⟩), .slice Ak nv ck] 30)
            have HB2 := Lib.hid (show Below w10.heap.size w10 (W1.alloc (.cells #[.string (nm ++ ⟨#[126]⟩), .slice Ak nv ck] 30)) ∧ w10.heap.size ≤ (W1.alloc (.cells #[.string (nm ++ ⟨#[126]⟩), .slice Ak nv ck] 30)).heap.size from ⟨HB1.out.1.trans (hx.mono HB1.out.2), Nat.le_trans HB1.out.2 hx.size⟩)
            have HV2 := Lib.hid (own_more HV1.out hx)
            have HR2 := Lib.hid (own_base (own_one W1 30 (.string (nm ++ ⟨#[126]⟩)) (.slice Ak nv ck)) HB1.out.2)
            have HN2 := Lib.hid (show W0.heap.size ≠ W1.heap.size from fun e => by have := (HV1.out.lt W0.heap.size rfl).2; omega)
            generalize (W1.alloc (.cells #[.string (nm ++ ⟨#[126]⟩), .slice Ak nv ck] 30)) = W2 at *
            clear hx
            refine wpAnyM_two (i := 3) (j := 13) (by kernel_rfl) ?_ ?_
            · refine owe_early (i := 3) (d := (some 46)) rfl rfl (fun K hK => ?_)
              obtain ⟨AX, cX, eX, h1X, h2X, h3X, -, -⟩ := HW10.out.2.2.2.1.more HB2.out.1
              rw [HNL.out] at eX h1X h3X
              cases eX
              refine step_append_any (by rfl) (.tmp 43) (.tmp 45) 22 (by rfl) w10.heap.size 30 i2 _ 2 40 Try.underlying22 hi2 hx0 hx1 hx2 rfl (by omega) (.slice (some ⟨W0.heap.size, 0, none⟩) 0 0) 0 [] (by rfl) HV2.out W2.heap.size (some ⟨g, 0, none⟩) n cu (stepCells L us) (by rfl) h3X (stepCells_one HW10.out.2.2.2.1) (by have := HMN.out; simp only [maxLen]; omega) (by have := HMN.out; omega) HB2.out.2 ?_
              intro v9 W3 hown9 hg9 hat9
              rw [Nat.zero_add] at hown9
              obtain ⟨A3, c3, rfl, -, -, -⟩ := own_form hown9
              have HB3 := Lib.hid (show Below w10.heap.size w10 W3 ∧ w10.heap.size ≤ W3.heap.size from ⟨HB2.out.1.grown hg9 HB2.out.2 (fun k hk => (HV2.out.lt k hk).1), Nat.le_trans HB2.out.2 hg9.size⟩)
              have HT3 := Lib.hid hown9
              have HR3 := Lib.hid (own_stays2 HR2.out hg9 (fun k hk e => by cases hk; exact HN2.out (Option.some.inj e)))
              clear hown9 hg9 hat9 h1X h2X h3X hHeld
              obtain ⟨q0, q1, q2⟩ := HKP.out W3 HB3.out.1
              refine hK.out _ _ (by go_keep) (fun hHeld => ?_)
              clear hK K
              (try simp only [Act.put, List.setIfInBounds_toArray, List.set_cons_zero, List.set_cons_succ])
              clear q0 q1 q2
              refine wpAnyM_two (i := 11) (j := 13) (by kernel_rfl) ?_ ?_
              · refine owe_early (i := 11) (d := (some 54)) rfl rfl (fun K hK => ?_)
                obtain ⟨AX, cX, eX, h1X, h2X, h3X⟩ := own_form HR3.out
                cases eX
                refine step_append_any (by rfl) (.tmp 46) (.tmp 53) 22 (by rfl) w10.heap.size 30 i2 _ 2 40 Try.underlying22 hi2 hx0 hx1 hx2 rfl (by omega) (.slice A3 n c3) n (stepCells L us) (by rfl) HT3.out W3.heap.size (some ⟨W1.heap.size, 0, none⟩) 1 1 [.string (nm ++ ⟨#[126]⟩), .slice Ak nv ck] (by rfl) h3X (by simp [Value.oneCell']) (by have := HMN.out; simp only [maxLen]; omega) (by have := HMN.out; omega) HB3.out.2 ?_
                intro v9 W4 hown9 hg9 hat9
                obtain ⟨A4, c4, rfl, -, -, -⟩ := own_form hown9
                have HB4 := Lib.hid (show Below w10.heap.size w10 W4 ∧ w10.heap.size ≤ W4.heap.size from ⟨HB3.out.1.grown hg9 HB3.out.2 (fun k hk => (HT3.out.lt k hk).1), Nat.le_trans HB3.out.2 hg9.size⟩)
                have HD4 := Lib.hid hown9
                clear hown9 hg9 hat9 h1X h2X h3X hHeld
                obtain ⟨q0, q1, q2⟩ := HKP.out W4 HB4.out.1
                refine hK.out _ _ (by go_keep) (fun hHeld => ?_)
                clear hK K
                (try simp only [Act.put, List.setIfInBounds_toArray, List.set_cons_zero, List.set_cons_succ])
                clear q0 q1 q2
                refine wpAnyM_take (i := 12) (d := (some 55)) (v := ?_) rfl rfl (by kernel_rfl) (by kernel_rfl) (by kernel_rfl) (by kernel_rfl) (by kernel_rfl) (fun _ _ _ h => h) (Or.inl ⟨by rfl, ?_⟩) (by assumption) ?_
                rotate_left
                · intro w hSw
                  (try dsimp only at hSw)
                  go_simp
                  (try with_reducible rfl)
                (try simp only [Act.put, List.setIfInBounds_toArray, List.set_cons_zero, List.set_cons_succ])
                refine wpAnyM_one (i := 13) (by kernel_rfl) ?_
                refine owe_early (i := 13) (d := (some 7)) rfl rfl (fun K hK => ?_)
                go_simp
                refine hK.out _ _ (by go_keep) (fun hHeld => ?_)
                clear hK K
                (try simp only [Act.put, List.setIfInBounds_toArray, List.set_cons_zero, List.set_cons_succ])
                have hx := (Below.refl W4.heap.size W4).alloc (Nat.le_refl _) (.cells #[.slice none 0 0] 24)
                have HB5 := Lib.hid (show Below w10.heap.size w10 (W4.alloc (.cells #[.slice none 0 0] 24)) ∧ w10.heap.size ≤ (W4.alloc (.cells #[.slice none 0 0] 24)).heap.size from ⟨HB4.out.1.trans (hx.mono HB4.out.2), Nat.le_trans HB4.out.2 hx.size⟩)
                have HD5 := Lib.hid (own_more HD4.out hx)
                have HC5 := Lib.hid (Blk.new W4 24 #[.slice none 0 0])
                have HG := Lib.hid HB4.out.2
                generalize (W4.alloc (.cells #[.slice none 0 0] 24)) = W5 at *
                clear hx
                refine wpAnyM_one (i := 14) (by kernel_rfl) ?_
                refine owe_late (i := 14) (d := none) rfl rfl (by decide) (fun K hK => ?_)
                have j0 := HC5.out.cell 0
                have j1 := HC5.out.frozen 0
                go_simp
                refine hK.out undef _ ?_
                clear hK K j0 j1
                (try simp only [Act.put, List.setIfInBounds_toArray, List.set_cons_zero, List.set_cons_succ])
                refine wpAnyM_done (by kernel_rfl) ?_ _
                (try simp only [Act.put, List.setIfInBounds_toArray, List.set_cons_zero, List.set_cons_succ])
                go_wp2_with fail
                go_meet
                exact ⟨_, _, _, rfl, HG.out, HB5.out.1.setCell HG.out _, HC5.out.set_ 0 _, own_stays3 HD5.out HC5.out (by decide) (grown_set W5 _ 0 _)⟩
              · refine owe_early (i := 13) (d := (some 7)) rfl rfl (fun K hK => ?_)
                go_simp
                refine hK.out _ _ (by go_keep) (fun hHeld => ?_)
                clear hK K
                (try simp only [Act.put, List.setIfInBounds_toArray, List.set_cons_zero, List.set_cons_succ])
                have hx := (Below.refl W3.heap.size W3).alloc (Nat.le_refl _) (.cells #[.slice none 0 0] 24)
                have HB4 := Lib.hid (show Below w10.heap.size w10 (W3.alloc (.cells #[.slice none 0 0] 24)) ∧ w10.heap.size ≤ (W3.alloc (.cells #[.slice none 0 0] 24)).heap.size from ⟨HB3.out.1.trans (hx.mono HB3.out.2), Nat.le_trans HB3.out.2 hx.size⟩)
                have HT4 := Lib.hid (own_more HT3.out hx)
                have HR4 := Lib.hid (own_more HR3.out hx)
                have HC4 := Lib.hid (Blk.new W3 24 #[.slice none 0 0])
                have HG := Lib.hid HB3.out.2
                generalize (W3.alloc (.cells #[.slice none 0 0] 24)) = W4 at *
                clear hx
                refine wpAnyM_one (i := 11) (by kernel_rfl) ?_
                refine owe_early (i := 11) (d := (some 54)) rfl rfl (fun K hK => ?_)
                obtain ⟨AX, cX, eX, h1X, h2X, h3X⟩ := own_form HR4.out
                cases eX
                refine step_append_any (by rfl) (.tmp 46) (.tmp 53) 22 (by rfl) w10.heap.size 30 i2 _ 2 40 Try.underlying22 hi2 hx0 hx1 hx2 rfl (by omega) (.slice A3 n c3) n (stepCells L us) (by rfl) HT4.out W4.heap.size (some ⟨W1.heap.size, 0, none⟩) 1 1 [.string (nm ++ ⟨#[126]⟩), .slice Ak nv ck] (by rfl) h3X (by simp [Value.oneCell']) (by have := HMN.out; simp only [maxLen]; omega) (by have := HMN.out; omega) HB4.out.2 ?_
                intro v9 W5 hown9 hg9 hat9
                obtain ⟨A5, c5, rfl, -, -, -⟩ := own_form hown9
                have HB5 := Lib.hid (show Below w10.heap.size w10 W5 ∧ w10.heap.size ≤ W5.heap.size from ⟨HB4.out.1.grown hg9 HB4.out.2 (fun k hk => (HT4.out.lt k hk).1), Nat.le_trans HB4.out.2 hg9.size⟩)
                have HC5 := Lib.hid (blk_stays HC4.out HT4.out (by decide) hg9)
                have HD5 := Lib.hid hown9
                clear hown9 hg9 hat9 h1X h2X h3X hHeld
                obtain ⟨q0, q1, q2⟩ := HKP.out W5 HB5.out.1
                refine hK.out _ _ (by go_keep) (fun hHeld => ?_)
                clear hK K
                (try simp only [Act.put, List.setIfInBounds_toArray, List.set_cons_zero, List.set_cons_succ])
                clear q0 q1 q2
                refine wpAnyM_take (i := 12) (d := (some 55)) (v := ?_) rfl rfl (by kernel_rfl) (by kernel_rfl) (by kernel_rfl) (by kernel_rfl) (by kernel_rfl) (fun _ _ _ h => h) (Or.inl ⟨by rfl, ?_⟩) (by assumption) ?_
                rotate_left
                · intro w hSw
                  (try dsimp only at hSw)
                  go_simp
                  (try with_reducible rfl)
                (try simp only [Act.put, List.setIfInBounds_toArray, List.set_cons_zero, List.set_cons_succ])
                refine wpAnyM_one (i := 14) (by kernel_rfl) ?_
                refine owe_late (i := 14) (d := none) rfl rfl (by decide) (fun K hK => ?_)
                have j0 := HC5.out.cell 0
                have j1 := HC5.out.frozen 0
                go_simp
                refine hK.out undef _ ?_
                clear hK K j0 j1
                (try simp only [Act.put, List.setIfInBounds_toArray, List.set_cons_zero, List.set_cons_succ])
                refine wpAnyM_done (by kernel_rfl) ?_ _
                (try simp only [Act.put, List.setIfInBounds_toArray, List.set_cons_zero, List.set_cons_succ])
                go_wp2_with fail
                go_meet
                exact ⟨_, _, _, rfl, HG.out, HB5.out.1.setCell HG.out _, HC5.out.set_ 0 _, own_stays3 HD5.out HC5.out (by decide) (grown_set W5 _ 0 _)⟩
            · refine owe_early (i := 13) (d := (some 7)) rfl rfl (fun K hK => ?_)
              go_simp
              refine hK.out _ _ (by go_keep) (fun hHeld => ?_)
              clear hK K
              (try simp only [Act.put, List.setIfInBounds_toArray, List.set_cons_zero, List.set_cons_succ])
              have hx := (Below.refl W2.heap.size W2).alloc (Nat.le_refl _) (.cells #[.slice none 0 0] 24)
              have HB3 := Lib.hid (show Below w10.heap.size w10 (W2.alloc (.cells #[.slice none 0 0] 24)) ∧ w10.heap.size ≤ (W2.alloc (.cells #[.slice none 0 0] 24)).heap.size from ⟨HB2.out.1.trans (hx.mono HB2.out.2), Nat.le_trans HB2.out.2 hx.size⟩)
              have HV3 := Lib.hid (own_more HV2.out hx)
              have HR3 := Lib.hid (own_more HR2.out hx)
              have HN3 := HN2
              have HC3 := Lib.hid (Blk.new W2 24 #[.slice none 0 0])
              have HG := Lib.hid HB2.out.2
              generalize (W2.alloc (.cells #[.slice none 0 0] 24)) = W3 at *
              clear hx
              refine wpAnyM_one (i := 3) (by kernel_rfl) ?_
              refine owe_early (i := 3) (d := (some 46)) rfl rfl (fun K hK => ?_)
              obtain ⟨AX, cX, eX, h1X, h2X, h3X, -, -⟩ := HW10.out.2.2.2.1.more HB3.out.1
              rw [HNL.out] at eX h1X h3X
              cases eX
              refine step_append_any (by rfl) (.tmp 43) (.tmp 45) 22 (by rfl) w10.heap.size 30 i2 _ 2 40 Try.underlying22 hi2 hx0 hx1 hx2 rfl (by omega) (.slice (some ⟨W0.heap.size, 0, none⟩) 0 0) 0 [] (by rfl) HV3.out W3.heap.size (some ⟨g, 0, none⟩) n cu (stepCells L us) (by rfl) h3X (stepCells_one HW10.out.2.2.2.1) (by have := HMN.out; simp only [maxLen]; omega) (by have := HMN.out; omega) HB3.out.2 ?_
              intro v9 W4 hown9 hg9 hat9
              rw [Nat.zero_add] at hown9
              obtain ⟨A4, c4, rfl, -, -, -⟩ := own_form hown9
              have HB4 := Lib.hid (show Below w10.heap.size w10 W4 ∧ w10.heap.size ≤ W4.heap.size from ⟨HB3.out.1.grown hg9 HB3.out.2 (fun k hk => (HV3.out.lt k hk).1), Nat.le_trans HB3.out.2 hg9.size⟩)
              have HC4 := Lib.hid (blk_stays HC3.out HV3.out (by decide) hg9)
              have HT4 := Lib.hid hown9
              have HR4 := Lib.hid (own_stays2 HR3.out hg9 (fun k hk e => by cases hk; exact HN3.out (Option.some.inj e)))
              clear hown9 hg9 hat9 h1X h2X h3X hHeld
              obtain ⟨q0, q1, q2⟩ := HKP.out W4 HB4.out.1
              refine hK.out _ _ (by go_keep) (fun hHeld => ?_)
              clear hK K
              (try simp only [Act.put, List.setIfInBounds_toArray, List.set_cons_zero, List.set_cons_succ])
              clear q0 q1 q2
              refine wpAnyM_one (i := 11) (by kernel_rfl) ?_
              refine owe_early (i := 11) (d := (some 54)) rfl rfl (fun K hK => ?_)
              obtain ⟨AX, cX, eX, h1X, h2X, h3X⟩ := own_form HR4.out
              cases eX
              refine step_append_any (by rfl) (.tmp 46) (.tmp 53) 22 (by rfl) w10.heap.size 30 i2 _ 2 40 Try.underlying22 hi2 hx0 hx1 hx2 rfl (by omega) (.slice A4 n c4) n (stepCells L us) (by rfl) HT4.out W4.heap.size (some ⟨W1.heap.size, 0, none⟩) 1 1 [.string (nm ++ ⟨#[126]⟩), .slice Ak nv ck] (by rfl) h3X (by simp [Value.oneCell']) (by have := HMN.out; simp only [maxLen]; omega) (by have := HMN.out; omega) HB4.out.2 ?_
              intro v9 W5 hown9 hg9 hat9
              obtain ⟨A5, c5, rfl, -, -, -⟩ := own_form hown9
              have HB5 := Lib.hid (show Below w10.heap.size w10 W5 ∧ w10.heap.size ≤ W5.heap.size from ⟨HB4.out.1.grown hg9 HB4.out.2 (fun k hk => (HT4.out.lt k hk).1), Nat.le_trans HB4.out.2 hg9.size⟩)
              have HC5 := Lib.hid (blk_stays HC4.out HT4.out (by decide) hg9)
              have HD5 := Lib.hid hown9
              clear hown9 hg9 hat9 h1X h2X h3X hHeld
              obtain ⟨q0, q1, q2⟩ := HKP.out W5 HB5.out.1
              refine hK.out _ _ (by go_keep) (fun hHeld => ?_)
              clear hK K
              (try simp only [Act.put, List.setIfInBounds_toArray, List.set_cons_zero, List.set_cons_succ])
              clear q0 q1 q2
              refine wpAnyM_take (i := 12) (d := (some 55)) (v := ?_) rfl rfl (by kernel_rfl) (by kernel_rfl) (by kernel_rfl) (by kernel_rfl) (by kernel_rfl) (fun _ _ _ h => h) (Or.inl ⟨by rfl, ?_⟩) (by assumption) ?_
              rotate_left
              · intro w hSw
                (try dsimp only at hSw)
                go_simp
                (try with_reducible rfl)
              (try simp only [Act.put, List.setIfInBounds_toArray, List.set_cons_zero, List.set_cons_succ])
              refine wpAnyM_one (i := 14) (by kernel_rfl) ?_
              refine owe_late (i := 14) (d := none) rfl rfl (by decide) (fun K hK => ?_)
              have j0 := HC5.out.cell 0
              have j1 := HC5.out.frozen 0
              go_simp
              refine hK.out undef _ ?_
              clear hK K j0 j1
              (try simp only [Act.put, List.setIfInBounds_toArray, List.set_cons_zero, List.set_cons_succ])
              refine wpAnyM_done (by kernel_rfl) ?_ _
              (try simp only [Act.put, List.setIfInBounds_toArray, List.set_cons_zero, List.set_cons_succ])
              go_wp2_with fail
              go_meet
              exact ⟨_, _, _, rfl, HG.out, HB5.out.1.setCell HG.out _, HC5.out.set_ 0 _, own_stays3 HD5.out HC5.out (by decide) (grown_set W5 _ 0 _)⟩
          · refine owe_early (i := 13) (d := (some 7)) rfl rfl (fun K hK => ?_)
            go_simp
            refine hK.out _ _ (by go_keep) (fun hHeld => ?_)
            clear hK K
            (try simp only [Act.put, List.setIfInBounds_toArray, List.set_cons_zero, List.set_cons_succ])
            have hx := (Below.refl W1.heap.size W1).alloc (Nat.le_refl _) (.cells #[.slice none 0 0] 24)
            have HB2 := Lib.hid (show Below w10.heap.size w10 (W1.alloc (.cells #[.slice none 0 0] 24)) ∧ w10.heap.size ≤ (W1.alloc (.cells #[.slice none 0 0] 24)).heap.size from ⟨HB1.out.1.trans (hx.mono HB1.out.2), Nat.le_trans HB1.out.2 hx.size⟩)
            have HV2 := Lib.hid (own_more HV1.out hx)
            have HC2 := Lib.hid (Blk.new W1 24 #[.slice none 0 0])
            have HG := Lib.hid HB1.out.2
            generalize (W1.alloc (.cells #[.slice none 0 0] 24)) = W2 at *
            clear hx
            refine wpAnyM_two (i := 3) (j := 10) (by kernel_rfl) ?_ ?_
            · refine owe_early (i := 3) (d := (some 46)) rfl rfl (fun K hK => ?_)
              obtain ⟨AX, cX, eX, h1X, h2X, h3X, -, -⟩ := HW10.out.2.2.2.1.more HB2.out.1
              rw [HNL.out] at eX h1X h3X
              cases eX
              refine step_append_any (by rfl) (.tmp 43) (.tmp 45) 22 (by rfl) w10.heap.size 30 i2 _ 2 40 Try.underlying22 hi2 hx0 hx1 hx2 rfl (by omega) (.slice (some ⟨W0.heap.size, 0, none⟩) 0 0) 0 [] (by rfl) HV2.out W2.heap.size (some ⟨g, 0, none⟩) n cu (stepCells L us) (by rfl) h3X (stepCells_one HW10.out.2.2.2.1) (by have := HMN.out; simp only [maxLen]; omega) (by have := HMN.out; omega) HB2.out.2 ?_
              intro v9 W3 hown9 hg9 hat9
              rw [Nat.zero_add] at hown9
              obtain ⟨A3, c3, rfl, -, -, -⟩ := own_form hown9
              have HB3 := Lib.hid (show Below w10.heap.size w10 W3 ∧ w10.heap.size ≤ W3.heap.size from ⟨HB2.out.1.grown hg9 HB2.out.2 (fun k hk => (HV2.out.lt k hk).1), Nat.le_trans HB2.out.2 hg9.size⟩)
              have HC3 := Lib.hid (blk_stays HC2.out HV2.out (by decide) hg9)
              have HT3 := Lib.hid hown9
              clear hown9 hg9 hat9 h1X h2X h3X hHeld
              obtain ⟨q0, q1, q2⟩ := HKP.out W3 HB3.out.1
              refine hK.out _ _ (by go_keep) (fun hHeld => ?_)
              clear hK K
              (try simp only [Act.put, List.setIfInBounds_toArray, List.set_cons_zero, List.set_cons_succ])
              clear q0 q1 q2
              refine wpAnyM_one (i := 10) (by kernel_rfl) ?_
              refine owe_early (i := 10) (d := (some 53)) rfl rfl (fun K hK => ?_)
              go_simp
              refine hK.out _ _ (by go_keep) (fun hHeld => ?_)
              clear hK K
              (try simp only [Act.put, List.setIfInBounds_toArray, List.set_cons_zero, List.set_cons_succ])
              have hx := (Below.refl W3.heap.size W3).alloc (Nat.le_refl _) (.cells #[.string (nm ++ ⟨#[126]⟩), .slice Ak nv ck] 30)
              have HB4 := Lib.hid (show Below w10.heap.size w10 (W3.alloc (.cells #[.string (nm ++ ⟨#[126]⟩), .slice Ak nv ck] 30)) ∧ w10.heap.size ≤ (W3.alloc (.cells #[.string (nm ++ ⟨#[126]⟩), .slice Ak nv ck] 30)).heap.size from ⟨HB3.out.1.trans (hx.mono HB3.out.2), Nat.le_trans HB3.out.2 hx.size⟩)
              have HT4 := Lib.hid (own_more HT3.out hx)
              have HC4 := Lib.hid (HC3.out.alloc (.cells #[.string (nm ++ ⟨#[126]⟩), .slice Ak nv ck] 30))
              have HR4 := Lib.hid (own_base (own_one W3 30 (.string (nm ++ ⟨#[126]⟩)) (.slice Ak nv ck)) HB3.out.2)
              generalize (W3.alloc (.cells #[.string (nm ++ ⟨#[126]⟩), .slice Ak nv ck] 30)) = W4 at *
              clear hx
              refine wpAnyM_one (i := 11) (by kernel_rfl) ?_
              refine owe_early (i := 11) (d := (some 54)) rfl rfl (fun K hK => ?_)
              obtain ⟨AX, cX, eX, h1X, h2X, h3X⟩ := own_form HR4.out
              cases eX
              refine step_append_any (by rfl) (.tmp 46) (.tmp 53) 22 (by rfl) w10.heap.size 30 i2 _ 2 40 Try.underlying22 hi2 hx0 hx1 hx2 rfl (by omega) (.slice A3 n c3) n (stepCells L us) (by rfl) HT4.out W4.heap.size (some ⟨W3.heap.size, 0, none⟩) 1 1 [.string (nm ++ ⟨#[126]⟩), .slice Ak nv ck] (by rfl) h3X (by simp [Value.oneCell']) (by have := HMN.out; simp only [maxLen]; omega) (by have := HMN.out; omega) HB4.out.2 ?_
              intro v9 W5 hown9 hg9 hat9
              obtain ⟨A5, c5, rfl, -, -, -⟩ := own_form hown9
              have HB5 := Lib.hid (show Below w10.heap.size w10 W5 ∧ w10.heap.size ≤ W5.heap.size from ⟨HB4.out.1.grown hg9 HB4.out.2 (fun k hk => (HT4.out.lt k hk).1), Nat.le_trans HB4.out.2 hg9.size⟩)
              have HC5 := Lib.hid (blk_stays HC4.out HT4.out (by decide) hg9)
              have HD5 := Lib.hid hown9
              clear hown9 hg9 hat9 h1X h2X h3X hHeld
              obtain ⟨q0, q1, q2⟩ := HKP.out W5 HB5.out.1
              refine hK.out _ _ (by go_keep) (fun hHeld => ?_)
              clear hK K
              (try simp only [Act.put, List.setIfInBounds_toArray, List.set_cons_zero, List.set_cons_succ])
              clear q0 q1 q2
              refine wpAnyM_take (i := 12) (d := (some 55)) (v := ?_) rfl rfl (by kernel_rfl) (by kernel_rfl) (by kernel_rfl) (by kernel_rfl) (by kernel_rfl) (fun _ _ _ h => h) (Or.inl ⟨by rfl, ?_⟩) (by assumption) ?_
              rotate_left
              · intro w hSw
                (try dsimp only at hSw)
                go_simp
                (try with_reducible rfl)
              (try simp only [Act.put, List.setIfInBounds_toArray, List.set_cons_zero, List.set_cons_succ])
              refine wpAnyM_one (i := 14) (by kernel_rfl) ?_
              refine owe_late (i := 14) (d := none) rfl rfl (by decide) (fun K hK => ?_)
              have j0 := HC5.out.cell 0
              have j1 := HC5.out.frozen 0
              go_simp
              refine hK.out undef _ ?_
              clear hK K j0 j1
              (try simp only [Act.put, List.setIfInBounds_toArray, List.set_cons_zero, List.set_cons_succ])
              refine wpAnyM_done (by kernel_rfl) ?_ _
              (try simp only [Act.put, List.setIfInBounds_toArray, List.set_cons_zero, List.set_cons_succ])
              go_wp2_with fail
              go_meet
              exact ⟨_, _, _, rfl, HG.out, HB5.out.1.setCell HG.out _, HC5.out.set_ 0 _, own_stays3 HD5.out HC5.out (by decide) (grown_set W5 _ 0 _)⟩
            · refine owe_early (i := 10) (d := (some 53)) rfl rfl (fun K hK => ?_)
              go_simp
              refine hK.out _ _ (by go_keep) (fun hHeld => ?_)
              clear hK K
              (try simp only [Act.put, List.setIfInBounds_toArray, List.set_cons_zero, List.set_cons_succ])
              have hx := (Below.refl W2.heap.size W2).alloc (Nat.le_refl _) (.cells #[.string (nm ++ ⟨#[126]⟩), .slice Ak nv ck] 30)
              have HB3 := Lib.hid (show Below w10.heap.size w10 (W2.alloc (.cells #[.string (nm ++ ⟨#[126]⟩), .slice Ak nv ck] 30)) ∧ w10.heap.size ≤ (W2.alloc (.cells #[.string (nm ++ ⟨#[126]⟩), .slice Ak nv ck] 30)).heap.size from ⟨HB2.out.1.trans (hx.mono HB2.out.2), Nat.le_trans HB2.out.2 hx.size⟩)
              have HV3 := Lib.hid (own_more HV2.out hx)
              have HC3 := Lib.hid (HC2.out.alloc (.cells #[.string (nm ++ ⟨#[126]⟩), .slice Ak nv ck] 30))
              have HR3 := Lib.hid (own_base (own_one W2 30 (.string (nm ++ ⟨#[126]⟩)) (.slice Ak nv ck)) HB2.out.2)
              have HN3 := Lib.hid (show W0.heap.size ≠ W2.heap.size from fun e => by have := (HV2.out.lt W0.heap.size rfl).2; omega)
              generalize (W2.alloc (.cells #[.string (nm ++ ⟨#[126]⟩), .slice Ak nv ck] 30)) = W3 at *
              clear hx
              refine wpAnyM_one (i := 3) (by kernel_rfl) ?_
              refine owe_early (i := 3) (d := (some 46)) rfl rfl (fun K hK => ?_)
              obtain ⟨AX, cX, eX, h1X, h2X, h3X, -, -⟩ := HW10.out.2.2.2.1.more HB3.out.1
              rw [HNL.out] at eX h1X h3X
              cases eX
              refine step_append_any (by rfl) (.tmp 43) (.tmp 45) 22 (by rfl) w10.heap.size 30 i2 _ 2 40 Try.underlying22 hi2 hx0 hx1 hx2 rfl (by omega) (.slice (some ⟨W0.heap.size, 0, none⟩) 0 0) 0 [] (by rfl) HV3.out W3.heap.size (some ⟨g, 0, none⟩) n cu (stepCells L us) (by rfl) h3X (stepCells_one HW10.out.2.2.2.1) (by have := HMN.out; simp only [maxLen]; omega) (by have := HMN.out; omega) HB3.out.2 ?_
              intro v9 W4 hown9 hg9 hat9
              rw [Nat.zero_add] at hown9
              obtain ⟨A4, c4, rfl, -, -, -⟩ := own_form hown9
              have HB4 := Lib.hid (show Below w10.heap.size w10 W4 ∧ w10.heap.size ≤ W4.heap.size from ⟨HB3.out.1.grown hg9 HB3.out.2 (fun k hk => (HV3.out.lt k hk).1), Nat.le_trans HB3.out.2 hg9.size⟩)
              have HC4 := Lib.hid (blk_stays HC3.out HV3.out (by decide) hg9)
              have HT4 := Lib.hid hown9
              have HR4 := Lib.hid (own_stays2 HR3.out hg9 (fun k hk e => by cases hk; exact HN3.out (Option.some.inj e)))
              clear hown9 hg9 hat9 h1X h2X h3X hHeld
              obtain ⟨q0, q1, q2⟩ := HKP.out W4 HB4.out.1
              refine hK.out _ _ (by go_keep) (fun hHeld => ?_)
              clear hK K
              (try simp only [Act.put, List.setIfInBounds_toArray, List.set_cons_zero, List.set_cons_succ])
              clear q0 q1 q2
              refine wpAnyM_one (i := 11) (by kernel_rfl) ?_
              refine owe_early (i := 11) (d := (some 54)) rfl rfl (fun K hK => ?_)
              obtain ⟨AX, cX, eX, h1X, h2X, h3X⟩ := own_form HR4.out
              cases eX
              refine step_append_any (by rfl) (.tmp 46) (.tmp 53) 22 (by rfl) w10.heap.size 30 i2 _ 2 40 Try.underlying22 hi2 hx0 hx1 hx2 rfl (by omega) (.slice A4 n c4) n (stepCells L us) (by rfl) HT4.out W4.heap.size (some ⟨W2.heap.size, 0, none⟩) 1 1 [.string (nm ++ ⟨#[126]⟩), .slice Ak nv ck] (by rfl) h3X (by simp [Value.oneCell']) (by have := HMN.out; simp only [maxLen]; omega) (by have := HMN.out; omega) HB4.out.2 ?_
              intro v9 W5 hown9 hg9 hat9
              obtain ⟨A5, c5, rfl, -, -, -⟩ := own_form hown9
              have HB5 := Lib.hid (show Below w10.heap.size w10 W5 ∧ w10.heap.size ≤ W5.heap.size from ⟨HB4.out.1.grown hg9 HB4.out.2 (fun k hk => (HT4.out.lt k hk).1), Nat.le_trans HB4.out.2 hg9.size⟩)
              have HC5 := Lib.hid (blk_stays HC4.out HT4.out (by decide) hg9)
              have HD5 := Lib.hid hown9
              clear hown9 hg9 hat9 h1X h2X h3X hHeld
              obtain ⟨q0, q1, q2⟩ := HKP.out W5 HB5.out.1
              refine hK.out _ _ (by go_keep) (fun hHeld => ?_)
              clear hK K
              (try simp only [Act.put, List.setIfInBounds_toArray, List.set_cons_zero, List.set_cons_succ])
              clear q0 q1 q2
              refine wpAnyM_take (i := 12) (d := (some 55)) (v := ?_) rfl rfl (by kernel_rfl) (by kernel_rfl) (by kernel_rfl) (by kernel_rfl) (by kernel_rfl) (fun _ _ _ h => h) (Or.inl ⟨by rfl, ?_⟩) (by assumption) ?_
              rotate_left
              · intro w hSw
                (try dsimp only at hSw)
                go_simp
                (try with_reducible rfl)
              (try simp only [Act.put, List.setIfInBounds_toArray, List.set_cons_zero, List.set_cons_succ])
              refine wpAnyM_one (i := 14) (by kernel_rfl) ?_
              refine owe_late (i := 14) (d := none) rfl rfl (by decide) (fun K hK => ?_)
              have j0 := HC5.out.cell 0
              have j1 := HC5.out.frozen 0
              go_simp
              refine hK.out undef _ ?_
              clear hK K j0 j1
              (try simp only [Act.put, List.setIfInBounds_toArray, List.set_cons_zero, List.set_cons_succ])
              refine wpAnyM_done (by kernel_rfl) ?_ _
              (try simp only [Act.put, List.setIfInBounds_toArray, List.set_cons_zero, List.set_cons_succ])
              go_wp2_with fail
              go_meet
              exact ⟨_, _, _, rfl, HG.out, HB5.out.1.setCell HG.out _, HC5.out.set_ 0 _, own_stays3 HD5.out HC5.out (by decide) (grown_set W5 _ 0 _)⟩
        · refine owe_early (i := 10) (d := (some 53)) rfl rfl (fun K hK => ?_)
          go_simp
          refine hK.out _ _ (by go_keep) (fun hHeld => ?_)
          clear hK K
          (try simp only [Act.put, List.setIfInBounds_toArray, List.set_cons_zero, List.set_cons_succ])
          have hx := (Below.refl W0.heap.size W0).alloc (Nat.le_refl _) (.cells #[.string (nm ++ ⟨#[126]⟩), .slice Ak nv ck] 30)
          have HB1 := Lib.hid (show Below w10.heap.size w10 (W0.alloc (.cells #[.string (nm ++ ⟨#[126]⟩), .slice Ak nv ck] 30)) ∧ w10.heap.size ≤ (W0.alloc (.cells #[.string (nm ++ ⟨#[126]⟩), .slice Ak nv ck] 30)).heap.size from ⟨HB0.out.1.trans (hx.mono HB0.out.2), Nat.le_trans HB0.out.2 hx.size⟩)
          have HR1 := Lib.hid (own_base (own_one W0 30 (.string (nm ++ ⟨#[126]⟩)) (.slice Ak nv ck)) HB0.out.2)
          generalize (W0.alloc (.cells #[.string (nm ++ ⟨#[126]⟩), .slice Ak nv ck] 30)) = W1 at *
          clear hx
          refine wpAnyM_two (i := 0) (j := 13) (by kernel_rfl) ?_ ?_
          · refine owe_early (i := 0) (d := (some 43)) rfl rfl (fun K hK => ?_)
            go_simp
            refine hK.out _ _ (by go_keep) (fun hHeld => ?_)
            clear hK K
            (try simp only [Act.put, List.setIfInBounds_toArray, List.set_cons_zero, List.set_cons_succ])
            have hx := (Below.refl W1.heap.size W1).alloc (Nat.le_refl _) (.cells #[] 30)
            have HB2 := Lib.hid (show Below w10.heap.size w10 (W1.alloc (.cells #[] 30)) ∧ w10.heap.size ≤ (W1.alloc (.cells #[] 30)).heap.size from ⟨HB1.out.1.trans (hx.mono HB1.out.2), Nat.le_trans HB1.out.2 hx.size⟩)
            have HR2 := Lib.hid (own_more HR1.out hx)
            have HV2 := Lib.hid (own_empty3 (Blk.new W1 30 #[]) HB1.out.2 2)
            have HN2 := Lib.hid (show W1.heap.size ≠ W0.heap.size from fun e => by have := (HR1.out.lt W0.heap.size rfl).2; omega)
            generalize (W1.alloc (.cells #[] 30)) = W2 at *
            clear hx
            refine wpAnyM_two (i := 3) (j := 13) (by kernel_rfl) ?_ ?_
            · refine owe_early (i := 3) (d := (some 46)) rfl rfl (fun K hK => ?_)
              obtain ⟨AX, cX, eX, h1X, h2X, h3X, -, -⟩ := HW10.out.2.2.2.1.more HB2.out.1
              rw [HNL.out] at eX h1X h3X
              cases eX
              refine step_append_any (by rfl) (.tmp 43) (.tmp 45) 22 (by rfl) w10.heap.size 30 i2 _ 2 40 Try.underlying22 hi2 hx0 hx1 hx2 rfl (by omega) (.slice (some ⟨W1.heap.size, 0, none⟩) 0 0) 0 [] (by rfl) HV2.out W2.heap.size (some ⟨g, 0, none⟩) n cu (stepCells L us) (by rfl) h3X (stepCells_one HW10.out.2.2.2.1) (by have := HMN.out; simp only [maxLen]; omega) (by have := HMN.out; omega) HB2.out.2 ?_
              intro v9 W3 hown9 hg9 hat9
              rw [Nat.zero_add] at hown9
              obtain ⟨A3, c3, rfl, -, -, -⟩ := own_form hown9
              have HB3 := Lib.hid (show Below w10.heap.size w10 W3 ∧ w10.heap.size ≤ W3.heap.size from ⟨HB2.out.1.grown hg9 HB2.out.2 (fun k hk => (HV2.out.lt k hk).1), Nat.le_trans HB2.out.2 hg9.size⟩)
              have HT3 := Lib.hid hown9
              have HR3 := Lib.hid (own_stays2 HR2.out hg9 (fun k hk e => by cases hk; exact HN2.out (Option.some.inj e)))
              clear hown9 hg9 hat9 h1X h2X h3X hHeld
              obtain ⟨q0, q1, q2⟩ := HKP.out W3 HB3.out.1
              refine hK.out _ _ (by go_keep) (fun hHeld => ?_)
              clear hK K
              (try simp only [Act.put, List.setIfInBounds_toArray, List.set_cons_zero, List.set_cons_succ])
              clear q0 q1 q2
              refine wpAnyM_two (i := 11) (j := 13) (by kernel_rfl) ?_ ?_
              · refine owe_early (i := 11) (d := (some 54)) rfl rfl (fun K hK => ?_)
                obtain ⟨AX, cX, eX, h1X, h2X, h3X⟩ := own_form HR3.out
                cases eX
                refine step_append_any (by rfl) (.tmp 46) (.tmp 53) 22 (by rfl) w10.heap.size 30 i2 _ 2 40 Try.underlying22 hi2 hx0 hx1 hx2 rfl (by omega) (.slice A3 n c3) n (stepCells L us) (by rfl) HT3.out W3.heap.size (some ⟨W0.heap.size, 0, none⟩) 1 1 [.string (nm ++ ⟨#[126]⟩), .slice Ak nv ck] (by rfl) h3X (by simp [Value.oneCell']) (by have := HMN.out; simp only [maxLen]; omega) (by have := HMN.out; omega) HB3.out.2 ?_
                intro v9 W4 hown9 hg9 hat9
                obtain ⟨A4, c4, rfl, -, -, -⟩ := own_form hown9
                have HB4 := Lib.hid (show Below w10.heap.size w10 W4 ∧ w10.heap.size ≤ W4.heap.size from ⟨HB3.out.1.grown hg9 HB3.out.2 (fun k hk => (HT3.out.lt k hk).1), Nat.le_trans HB3.out.2 hg9.size⟩)
                have HD4 := Lib.hid hown9
                clear hown9 hg9 hat9 h1X h2X h3X hHeld
                obtain ⟨q0, q1, q2⟩ := HKP.out W4 HB4.out.1
                refine hK.out _ _ (by go_keep) (fun hHeld => ?_)
                clear hK K
                (try simp only [Act.put, List.setIfInBounds_toArray, List.set_cons_zero, List.set_cons_succ])
                clear q0 q1 q2
                refine wpAnyM_take (i := 12) (d := (some 55)) (v := ?_) rfl rfl (by kernel_rfl) (by kernel_rfl) (by kernel_rfl) (by kernel_rfl) (by kernel_rfl) (fun _ _ _ h => h) (Or.inl ⟨by rfl, ?_⟩) (by assumption) ?_
                rotate_left
                · intro w hSw
                  (try dsimp only at hSw)
                  go_simp
                  (try with_reducible rfl)
                (try simp only [Act.put, List.setIfInBounds_toArray, List.set_cons_zero, List.set_cons_succ])
                refine wpAnyM_one (i := 13) (by kernel_rfl) ?_
                refine owe_early (i := 13) (d := (some 7)) rfl rfl (fun K hK => ?_)
                go_simp
                refine hK.out _ _ (by go_keep) (fun hHeld => ?_)
                clear hK K
                (try simp only [Act.put, List.setIfInBounds_toArray, List.set_cons_zero, List.set_cons_succ])
                have hx := (Below.refl W4.heap.size W4).alloc (Nat.le_refl _) (.cells #[.slice none 0 0] 24)
                have HB5 := Lib.hid (show Below w10.heap.size w10 (W4.alloc (.cells #[.slice none 0 0] 24)) ∧ w10.heap.size ≤ (W4.alloc (.cells #[.slice none 0 0] 24)).heap.size from ⟨HB4.out.1.trans (hx.mono HB4.out.2), Nat.le_trans HB4.out.2 hx.size⟩)
                have HD5 := Lib.hid (own_more HD4.out hx)
                have HC5 := Lib.hid (Blk.new W4 24 #[.slice none 0 0])
                have HG := Lib.hid HB4.out.2
                generalize (W4.alloc (.cells #[.slice none 0 0] 24)) = W5 at *
                clear hx
                refine wpAnyM_one (i := 14) (by kernel_rfl) ?_
                refine owe_late (i := 14) (d := none) rfl rfl (by decide) (fun K hK => ?_)
                have j0 := HC5.out.cell 0
                have j1 := HC5.out.frozen 0
                go_simp
                refine hK.out undef _ ?_
                clear hK K j0 j1
                (try simp only [Act.put, List.setIfInBounds_toArray, List.set_cons_zero, List.set_cons_succ])
                refine wpAnyM_done (by kernel_rfl) ?_ _
                (try simp only [Act.put, List.setIfInBounds_toArray, List.set_cons_zero, List.set_cons_succ])
                go_wp2_with fail
                go_meet
                exact ⟨_, _, _, rfl, HG.out, HB5.out.1.setCell HG.out _, HC5.out.set_ 0 _, own_stays3 HD5.out HC5.out (by decide) (grown_set W5 _ 0 _)⟩
              · refine owe_early (i := 13) (d := (some 7)) rfl rfl (fun K hK => ?_)
                go_simp
                refine hK.out _ _ (by go_keep) (fun hHeld => ?_)
                clear hK K
                (try simp only [Act.put, List.setIfInBounds_toArray, List.set_cons_zero, List.set_cons_succ])
                have hx := (Below.refl W3.heap.size W3).alloc (Nat.le_refl _) (.cells #[.slice none 0 0] 24)
                have HB4 := Lib.hid (show Below w10.heap.size w10 (W3.alloc (.cells #[.slice none 0 0] 24)) ∧ w10.heap.size ≤ (W3.alloc (.cells #[.slice none 0 0] 24)).heap.size from ⟨HB3.out.1.trans (hx.mono HB3.out.2), Nat.le_trans HB3.out.2 hx.size⟩)
                have HT4 := Lib.hid (own_more HT3.out hx)
                have HR4 := Lib.hid (own_more HR3.out hx)
                have HC4 := Lib.hid (Blk.new W3 24 #[.slice none 0 0])
                have HG := Lib.hid HB3.out.2
                generalize (W3.alloc (.cells #[.slice none 0 0] 24)) = W4 at *
                clear hx
                refine wpAnyM_one (i := 11) (by kernel_rfl) ?_
                refine owe_early (i := 11) (d := (some 54)) rfl rfl (fun K hK => ?_)
                obtain ⟨AX, cX, eX, h1X, h2X, h3X⟩ := own_form HR4.out
                cases eX
                refine step_append_any (by rfl) (.tmp 46) (.tmp 53) 22 (by rfl) w10.heap.size 30 i2 _ 2 40 Try.underlying22 hi2 hx0 hx1 hx2 rfl (by omega) (.slice A3 n c3) n (stepCells L us) (by rfl) HT4.out W4.heap.size (some ⟨W0.heap.size, 0, none⟩) 1 1 [.string (nm ++ ⟨#[126]⟩), .slice Ak nv ck] (by rfl) h3X (by simp [Value.oneCell']) (by have := HMN.out; simp only [maxLen]; omega) (by have := HMN.out; omega) HB4.out.2 ?_
                intro v9 W5 hown9 hg9 hat9
                obtain ⟨A5, c5, rfl, -, -, -⟩ := own_form hown9
                have HB5 := Lib.hid (show Below w10.heap.size w10 W5 ∧ w10.heap.size ≤ W5.heap.size from ⟨HB4.out.1.grown hg9 HB4.out.2 (fun k hk => (HT4.out.lt k hk).1), Nat.le_trans HB4.out.2 hg9.size⟩)
                have HC5 := Lib.hid (blk_stays HC4.out HT4.out (by decide) hg9)
                have HD5 := Lib.hid hown9
                clear hown9 hg9 hat9 h1X h2X h3X hHeld
                obtain ⟨q0, q1, q2⟩ := HKP.out W5 HB5.out.1
                refine hK.out _ _ (by go_keep) (fun hHeld => ?_)
                clear hK K
                (try simp only [Act.put, List.setIfInBounds_toArray, List.set_cons_zero, List.set_cons_succ])
                clear q0 q1 q2
                refine wpAnyM_take (i := 12) (d := (some 55)) (v := ?_) rfl rfl (by kernel_rfl) (by kernel_rfl) (by kernel_rfl) (by kernel_rfl) (by kernel_rfl) (fun _ _ _ h => h) (Or.inl ⟨by rfl, ?_⟩) (by assumption) ?_
                rotate_left
                · intro w hSw
                  (try dsimp only at hSw)
                  go_simp
                  (try with_reducible rfl)
                (try simp only [Act.put, List.setIfInBounds_toArray, List.set_cons_zero, List.set_cons_succ])
                refine wpAnyM_one (i := 14) (by kernel_rfl) ?_
                refine owe_late (i := 14) (d := none) rfl rfl (by decide) (fun K hK => ?_)
                have j0 := HC5.out.cell 0
                have j1 := HC5.out.frozen 0
                go_simp
                refine hK.out undef _ ?_
                clear hK K j0 j1
                (try simp only [Act.put, List.setIfInBounds_toArray, List.set_cons_zero, List.set_cons_succ])
                refine wpAnyM_done (by kernel_rfl) ?_ _
                (try simp only [Act.put, List.setIfInBounds_toArray, List.set_cons_zero, List.set_cons_succ])
                go_wp2_with fail
                go_meet
                exact ⟨_, _, _, rfl, HG.out, HB5.out.1.setCell HG.out _, HC5.out.set_ 0 _, own_stays3 HD5.out HC5.out (by decide) (grown_set W5 _ 0 _)⟩
            · refine owe_early (i := 13) (d := (some 7)) rfl rfl (fun K hK => ?_)
              go_simp
              refine hK.out _ _ (by go_keep) (fun hHeld => ?_)
              clear hK K
              (try simp only [Act.put, List.setIfInBounds_toArray, List.set_cons_zero, List.set_cons_succ])
              have hx := (Below.refl W2.heap.size W2).alloc (Nat.le_refl _) (.cells #[.slice none 0 0] 24)
              have HB3 := Lib.hid (show Below w10.heap.size w10 (W2.alloc (.cells #[.slice none 0 0] 24)) ∧ w10.heap.size ≤ (W2.alloc (.cells #[.slice none 0 0] 24)).heap.size from ⟨HB2.out.1.trans (hx.mono HB2.out.2), Nat.le_trans HB2.out.2 hx.size⟩)
              have HV3 := Lib.hid (own_more HV2.out hx)
              have HR3 := Lib.hid (own_more HR2.out hx)
              have HN3 := HN2
              have HC3 := Lib.hid (Blk.new W2 24 #[.slice none 0 0])
              have HG := Lib.hid HB2.out.2
              generalize (W2.alloc (.cells #[.slice none 0 0] 24)) = W3 at *
              clear hx
              refine wpAnyM_one (i := 3) (by kernel_rfl) ?_
              refine owe_early (i := 3) (d := (some 46)) rfl rfl (fun K hK => ?_)
              obtain ⟨AX, cX, eX, h1X, h2X, h3X, -, -⟩ := HW10.out.2.2.2.1.more HB3.out.1
              rw [HNL.out] at eX h1X h3X
              cases eX
              refine step_append_any (by rfl) (.tmp 43) (.tmp 45) 22 (by rfl) w10.heap.size 30 i2 _ 2 40 Try.underlying22 hi2 hx0 hx1 hx2 rfl (by omega) (.slice (some ⟨W1.heap.size, 0, none⟩) 0 0) 0 [] (by rfl) HV3.out W3.heap.size (some ⟨g, 0, none⟩) n cu (stepCells L us) (by rfl) h3X (stepCells_one HW10.out.2.2.2.1) (by have := HMN.out; simp only [maxLen]; omega) (by have := HMN.out; omega) HB3.out.2 ?_
              intro v9 W4 hown9 hg9 hat9
              rw [Nat.zero_add] at hown9
              obtain ⟨A4, c4, rfl, -, -, -⟩ := own_form hown9
              have HB4 := Lib.hid (show Below w10.heap.size w10 W4 ∧ w10.heap.size ≤ W4.heap.size from ⟨HB3.out.1.grown hg9 HB3.out.2 (fun k hk => (HV3.out.lt k hk).1), Nat.le_trans HB3.out.2 hg9.size⟩)
              have HC4 := Lib.hid (blk_stays HC3.out HV3.out (by decide) hg9)
              have HT4 := Lib.hid hown9
              have HR4 := Lib.hid (own_stays2 HR3.out hg9 (fun k hk e => by cases hk; exact HN3.out (Option.some.inj e)))
              clear hown9 hg9 hat9 h1X h2X h3X hHeld
              obtain ⟨q0, q1, q2⟩ := HKP.out W4 HB4.out.1
              refine hK.out _ _ (by go_keep) (fun hHeld => ?_)
              clear hK K
              (try simp only [Act.put, List.setIfInBounds_toArray, List.set_cons_zero, List.set_cons_succ])
              clear q0 q1 q2
              refine wpAnyM_one (i := 11) (by kernel_rfl) ?_
              refine owe_early (i := 11) (d := (some 54)) rfl rfl (fun K hK => ?_)
              obtain ⟨AX, cX, eX, h1X, h2X, h3X⟩ := own_form HR4.out
              cases eX
              refine step_append_any (by rfl) (.tmp 46) (.tmp 53) 22 (by rfl) w10.heap.size 30 i2 _ 2 40 Try.underlying22 hi2 hx0 hx1 hx2 rfl (by omega) (.slice A4 n c4) n (stepCells L us) (by rfl) HT4.out W4.heap.size (some ⟨W0.heap.size, 0, none⟩) 1 1 [.string (nm ++ ⟨#[126]⟩), .slice Ak nv ck] (by rfl) h3X (by simp [Value.oneCell']) (by have := HMN.out; simp only [maxLen]; omega) (by have := HMN.out; omega) HB4.out.2 ?_
              intro v9 W5 hown9 hg9 hat9
              obtain ⟨A5, c5, rfl, -, -, -⟩ := own_form hown9
              have HB5 := Lib.hid (show Below w10.heap.size w10 W5 ∧ w10.heap.size ≤ W5.heap.size from ⟨HB4.out.1.grown hg9 HB4.out.2 (fun k hk => (HT4.out.lt k hk).1), Nat.le_trans HB4.out.2 hg9.size⟩)
              have HC5 := Lib.hid (blk_stays HC4.out HT4.out (by decide) hg9)
              have HD5 := Lib.hid hown9
              clear hown9 hg9 hat9 h1X h2X h3X hHeld
              obtain ⟨q0, q1, q2⟩ := HKP.out W5 HB5.out.1
              refine hK.out _ _ (by go_keep) (fun hHeld => ?_)
              clear hK K
              (try simp only [Act.put, List.setIfInBounds_toArray, List.set_cons_zero, List.set_cons_succ])
              clear q0 q1 q2
              refine wpAnyM_take (i := 12) (d := (some 55)) (v := ?_) rfl rfl (by kernel_rfl) (by kernel_rfl) (by kernel_rfl) (by kernel_rfl) (by kernel_rfl) (fun _ _ _ h => h) (Or.inl ⟨by rfl, ?_⟩) (by assumption) ?_
              rotate_left
              · intro w hSw
                (try dsimp only at hSw)
                go_simp
                (try with_reducible rfl)
              (try simp only [Act.put, List.setIfInBounds_toArray, List.set_cons_zero, List.set_cons_succ])
              refine wpAnyM_one (i := 14) (by kernel_rfl) ?_
              refine owe_late (i := 14) (d := none) rfl rfl (by decide) (fun K hK => ?_)
              have j0 := HC5.out.cell 0
              have j1 := HC5.out.frozen 0
              go_simp
              refine hK.out undef _ ?_
              clear hK K j0 j1
              (try simp only [Act.put, List.setIfInBounds_toArray, List.set_cons_zero, List.set_cons_succ])
              refine wpAnyM_done (by kernel_rfl) ?_ _
              (try simp only [Act.put, List.setIfInBounds_toArray, List.set_cons_zero, List.set_cons_succ])
              go_wp2_with fail
              go_meet
              exact ⟨_, _, _, rfl, HG.out, HB5.out.1.setCell HG.out _, HC5.out.set_ 0 _, own_stays3 HD5.out HC5.out (by decide) (grown_set W5 _ 0 _)⟩
          · refine owe_early (i := 13) (d := (some 7)) rfl rfl (fun K hK => ?_)
            go_simp
            refine hK.out _ _ (by go_keep) (fun hHeld => ?_)
            clear hK K
            (try simp only [Act.put, List.setIfInBounds_toArray, List.set_cons_zero, List.set_cons_succ])
            have hx := (Below.refl W1.heap.size W1).alloc (Nat.le_refl _) (.cells #[.slice none 0 0] 24)
            have HB2 := Lib.hid (show Below w10.heap.size w10 (W1.alloc (.cells #[.slice none 0 0] 24)) ∧ w10.heap.size ≤ (W1.alloc (.cells #[.slice none 0 0] 24)).heap.size from ⟨HB1.out.1.trans (hx.mono HB1.out.2), Nat.le_trans HB1.out.2 hx.size⟩)
            have HR2 := Lib.hid (own_more HR1.out hx)
            have HC2 := Lib.hid (Blk.new W1 24 #[.slice none 0 0])
            have HG := Lib.hid HB1.out.2
            generalize (W1.alloc (.cells #[.slice none 0 0] 24)) = W2 at *
            clear hx
            refine wpAnyM_one (i := 0) (by kernel_rfl) ?_
            refine owe_early (i := 0) (d := (some 43)) rfl rfl (fun K hK => ?_)
            go_simp
            refine hK.out _ _ (by go_keep) (fun hHeld => ?_)
            clear hK K
            (try simp only [Act.put, List.setIfInBounds_toArray, List.set_cons_zero, List.set_cons_succ])
            have hx := (Below.refl W2.heap.size W2).alloc (Nat.le_refl _) (.cells #[] 30)
            have HB3 := Lib.hid (show Below w10.heap.size w10 (W2.alloc (.cells #[] 30)) ∧ w10.heap.size ≤ (W2.alloc (.cells #[] 30)).heap.size from ⟨HB2.out.1.trans (hx.mono HB2.out.2), Nat.le_trans HB2.out.2 hx.size⟩)
            have HR3 := Lib.hid (own_more HR2.out hx)
            have HC3 := Lib.hid (HC2.out.alloc (.cells #[] 30))
            have HV3 := Lib.hid (own_empty3 (Blk.new W2 30 #[]) HB2.out.2 2)
            have HN3 := Lib.hid (show W2.heap.size ≠ W0.heap.size from fun e => by have := (HR2.out.lt W0.heap.size rfl).2; omega)
            generalize (W2.alloc (.cells #[] 30)) = W3 at *
            clear hx
            refine wpAnyM_one (i := 3) (by kernel_rfl) ?_
            refine owe_early (i := 3) (d := (some 46)) rfl rfl (fun K hK => ?_)
            obtain ⟨AX, cX, eX, h1X, h2X, h3X, -, -⟩ := HW10.out.2.2.2.1.more HB3.out.1
            rw [HNL.out] at eX h1X h3X
            cases eX
            refine step_append_any (by rfl) (.tmp 43) (.tmp 45) 22 (by rfl) w10.heap.size 30 i2 _ 2 40 Try.underlying22 hi2 hx0 hx1 hx2 rfl (by omega) (.slice (some ⟨W2.heap.size, 0, none⟩) 0 0) 0 [] (by rfl) HV3.out W3.heap.size (some ⟨g, 0, none⟩) n cu (stepCells L us) (by rfl) h3X (stepCells_one HW10.out.2.2.2.1) (by have := HMN.out; simp only [maxLen]; omega) (by have := HMN.out; omega) HB3.out.2 ?_
            intro v9 W4 hown9 hg9 hat9
            rw [Nat.zero_add] at hown9
            obtain ⟨A4, c4, rfl, -, -, -⟩ := own_form hown9
            have HB4 := Lib.hid (show Below w10.heap.size w10 W4 ∧ w10.heap.size ≤ W4.heap.size from ⟨HB3.out.1.grown hg9 HB3.out.2 (fun k hk => (HV3.out.lt k hk).1), Nat.le_trans HB3.out.2 hg9.size⟩)
            have HC4 := Lib.hid (blk_stays HC3.out HV3.out (by decide) hg9)
            have HT4 := Lib.hid hown9
            have HR4 := Lib.hid (own_stays2 HR3.out hg9 (fun k hk e => by cases hk; exact HN3.out (Option.some.inj e)))
            clear hown9 hg9 hat9 h1X h2X h3X hHeld
            obtain ⟨q0, q1, q2⟩ := HKP.out W4 HB4.out.1
            refine hK.out _ _ (by go_keep) (fun hHeld => ?_)
            clear hK K
            (try simp only [Act.put, List.setIfInBounds_toArray, List.set_cons_zero, List.set_cons_succ])
            clear q0 q1 q2
            refine wpAnyM_one (i := 11) (by kernel_rfl) ?_
            refine owe_early (i := 11) (d := (some 54)) rfl rfl (fun K hK => ?_)
            obtain ⟨AX, cX, eX, h1X, h2X, h3X⟩ := own_form HR4.out
            cases eX
            refine step_append_any (by rfl) (.tmp 46) (.tmp 53) 22 (by rfl) w10.heap.size 30 i2 _ 2 40 Try.underlying22 hi2 hx0 hx1 hx2 rfl (by omega) (.slice A4 n c4) n (stepCells L us) (by rfl) HT4.out W4.heap.size (some ⟨W0.heap.size, 0, none⟩) 1 1 [.string (nm ++ ⟨#[126]⟩), .slice Ak nv ck] (by rfl) h3X (by simp [Value.oneCell']) (by have := HMN.out; simp only [maxLen]; omega) (by have := HMN.out; omega) HB4.out.2 ?_
            intro v9 W5 hown9 hg9 hat9
            obtain ⟨A5, c5, rfl, -, -, -⟩ := own_form hown9
            have HB5 := Lib.hid (show Below w10.heap.size w10 W5 ∧ w10.heap.size ≤ W5.heap.size from ⟨HB4.out.1.grown hg9 HB4.out.2 (fun k hk => (HT4.out.lt k hk).1), Nat.le_trans HB4.out.2 hg9.size⟩)
            have HC5 := Lib.hid (blk_stays HC4.out HT4.out (by decide) hg9)
            have HD5 := Lib.hid hown9
            clear hown9 hg9 hat9 h1X h2X h3X hHeld
            obtain ⟨q0, q1, q2⟩ := HKP.out W5 HB5.out.1
            refine hK.out _ _ (by go_keep) (fun hHeld => ?_)
            clear hK K
            (try simp only [Act.put, List.setIfInBounds_toArray, List.set_cons_zero, List.set_cons_succ])
            clear q0 q1 q2
            refine wpAnyM_take (i := 12) (d := (some 55)) (v := ?_) rfl rfl (by kernel_rfl) (by kernel_rfl) (by kernel_rfl) (by kernel_rfl) (by kernel_rfl) (fun _ _ _ h => h) (Or.inl ⟨by rfl, ?_⟩) (by assumption) ?_
            rotate_left
            · intro w hSw
              (try dsimp only at hSw)
              go_simp
              (try with_reducible rfl)
            (try simp only [Act.put, List.setIfInBounds_toArray, List.set_cons_zero, List.set_cons_succ])
            refine wpAnyM_one (i := 14) (by kernel_rfl) ?_
            refine owe_late (i := 14) (d := none) rfl rfl (by decide) (fun K hK => ?_)
            have j0 := HC5.out.cell 0
            have j1 := HC5.out.frozen 0
            go_simp
            refine hK.out undef _ ?_
            clear hK K j0 j1
            (try simp only [Act.put, List.setIfInBounds_toArray, List.set_cons_zero, List.set_cons_succ])
            refine wpAnyM_done (by kernel_rfl) ?_ _
            (try simp only [Act.put, List.setIfInBounds_toArray, List.set_cons_zero, List.set_cons_succ])
            go_wp2_with fail
            go_meet
            exact ⟨_, _, _, rfl, HG.out, HB5.out.1.setCell HG.out _, HC5.out.set_ 0 _, own_stays3 HD5.out HC5.out (by decide) (grown_set W5 _ 0 _)⟩
        · refine owe_early (i := 13) (d := (some 7)) rfl rfl (fun K hK => ?_)
          go_simp
          refine hK.out _ _ (by go_keep) (fun hHeld => ?_)
          clear hK K
          (try simp only [Act.put, List.setIfInBounds_toArray, List.set_cons_zero, List.set_cons_succ])
          have hx := (Below.refl W0.heap.size W0).alloc (Nat.le_refl _) (.cells #[.slice none 0 0] 24)
          have HB1 := Lib.hid (show Below w10.heap.size w10 (W0.alloc (.cells #[.slice none 0 0] 24)) ∧ w10.heap.size ≤ (W0.alloc (.cells #[.slice none 0 0] 24)).heap.size from ⟨HB0.out.1.trans (hx.mono HB0.out.2), Nat.le_trans HB0.out.2 hx.size⟩)
          have HC1 := Lib.hid (Blk.new W0 24 #[.slice none 0 0])
          have HG := Lib.hid HB0.out.2
          generalize (W0.alloc (.cells #[.slice none 0 0] 24)) = W1 at *
          clear hx
          refine wpAnyM_two (i := 0) (j := 10) (by kernel_rfl) ?_ ?_
          · refine owe_early (i := 0) (d := (some 43)) rfl rfl (fun K hK => ?_)
            go_simp
            refine hK.out _ _ (by go_keep) (fun hHeld => ?_)
            clear hK K
            (try simp only [Act.put, List.setIfInBounds_toArray, List.set_cons_zero, List.set_cons_succ])
            have hx := (Below.refl W1.heap.size W1).alloc (Nat.le_refl _) (.cells #[] 30)
            have HB2 := Lib.hid (show Below w10.heap.size w10 (W1.alloc (.cells #[] 30)) ∧ w10.heap.size ≤ (W1.alloc (.cells #[] 30)).heap.size from ⟨HB1.out.1.trans (hx.mono HB1.out.2), Nat.le_trans HB1.out.2 hx.size⟩)
            have HC2 := Lib.hid (HC1.out.alloc (.cells #[] 30))
            have HV2 := Lib.hid (own_empty3 (Blk.new W1 30 #[]) HB1.out.2 2)
            generalize (W1.alloc (.cells #[] 30)) = W2 at *
            clear hx
            refine wpAnyM_two (i := 3) (j := 10) (by kernel_rfl) ?_ ?_
            · refine owe_early (i := 3) (d := (some 46)) rfl rfl (fun K hK => ?_)
              obtain ⟨AX, cX, eX, h1X, h2X, h3X, -, -⟩ := HW10.out.2.2.2.1.more HB2.out.1
              rw [HNL.out] at eX h1X h3X
              cases eX
              refine step_append_any (by rfl) (.tmp 43) (.tmp 45) 22 (by rfl) w10.heap.size 30 i2 _ 2 40 Try.underlying22 hi2 hx0 hx1 hx2 rfl (by omega) (.slice (some ⟨W1.heap.size, 0, none⟩) 0 0) 0 [] (by rfl) HV2.out W2.heap.size (some ⟨g, 0, none⟩) n cu (stepCells L us) (by rfl) h3X (stepCells_one HW10.out.2.2.2.1) (by have := HMN.out; simp only [maxLen]; omega) (by have := HMN.out; omega) HB2.out.2 ?_
              intro v9 W3 hown9 hg9 hat9
              rw [Nat.zero_add] at hown9
              obtain ⟨A3, c3, rfl, -, -, -⟩ := own_form hown9
              have HB3 := Lib.hid (show Below w10.heap.size w10 W3 ∧ w10.heap.size ≤ W3.heap.size from ⟨HB2.out.1.grown hg9 HB2.out.2 (fun k hk => (HV2.out.lt k hk).1), Nat.le_trans HB2.out.2 hg9.size⟩)
              have HC3 := Lib.hid (blk_stays HC2.out HV2.out (by decide) hg9)
              have HT3 := Lib.hid hown9
              clear hown9 hg9 hat9 h1X h2X h3X hHeld
              obtain ⟨q0, q1, q2⟩ := HKP.out W3 HB3.out.1
              refine hK.out _ _ (by go_keep) (fun hHeld => ?_)
              clear hK K
              (try simp only [Act.put, List.setIfInBounds_toArray, List.set_cons_zero, List.set_cons_succ])
              clear q0 q1 q2
              refine wpAnyM_one (i := 10) (by kernel_rfl) ?_
              refine owe_early (i := 10) (d := (some 53)) rfl rfl (fun K hK => ?_)
              go_simp
              refine hK.out _ _ (by go_keep) (fun hHeld => ?_)
              clear hK K
              (try simp only [Act.put, List.setIfInBounds_toArray, List.set_cons_zero, List.set_cons_succ])
              have hx := (Below.refl W3.heap.size W3).alloc (Nat.le_refl _) (.cells #[.string (nm ++ ⟨#[126]⟩), .slice Ak nv ck] 30)
              have HB4 := Lib.hid (show Below w10.heap.size w10 (W3.alloc (.cells #[.string (nm ++ ⟨#[126]⟩), .slice Ak nv ck] 30)) ∧ w10.heap.size ≤ (W3.alloc (.cells #[.string (nm ++ ⟨#[126]⟩), .slice Ak nv ck] 30)).heap.size from ⟨HB3.out.1.trans (hx.mono HB3.out.2), Nat.le_trans HB3.out.2 hx.size⟩)
              have HT4 := Lib.hid (own_more HT3.out hx)
              have HC4 := Lib.hid (HC3.out.alloc (.cells #[.string (nm ++ ⟨#[126]⟩), .slice Ak nv ck] 30))
              have HR4 := Lib.hid (own_base (own_one W3 30 (.string (nm ++ ⟨#[126]⟩)) (.slice Ak nv ck)) HB3.out.2)
              generalize (W3.alloc (.cells #[.string (nm ++ ⟨#[126]⟩), .slice Ak nv ck] 30)) = W4 at *
              clear hx
              refine wpAnyM_one (i := 11) (by kernel_rfl) ?_
              refine owe_early (i := 11) (d := (some 54)) rfl rfl (fun K hK => ?_)
              obtain ⟨AX, cX, eX, h1X, h2X, h3X⟩ := own_form HR4.out
              cases eX
              refine step_append_any (by rfl) (.tmp 46) (.tmp 53) 22 (by rfl) w10.heap.size 30 i2 _ 2 40 Try.underlying22 hi2 hx0 hx1 hx2 rfl (by omega) (.slice A3 n c3) n (stepCells L us) (by rfl) HT4.out W4.heap.size (some ⟨W3.heap.size, 0, none⟩) 1 1 [.string (nm ++ ⟨#[126]⟩), .slice Ak nv ck] (by rfl) h3X (by simp [Value.oneCell']) (by have := HMN.out; simp only [maxLen]; omega) (by have := HMN.out; omega) HB4.out.2 ?_
              intro v9 W5 hown9 hg9 hat9
              obtain ⟨A5, c5, rfl, -, -, -⟩ := own_form hown9
              have HB5 := Lib.hid (show Below w10.heap.size w10 W5 ∧ w10.heap.size ≤ W5.heap.size from ⟨HB4.out.1.grown hg9 HB4.out.2 (fun k hk => (HT4.out.lt k hk).1), Nat.le_trans HB4.out.2 hg9.size⟩)
              have HC5 := Lib.hid (blk_stays HC4.out HT4.out (by decide) hg9)
              have HD5 := Lib.hid hown9
              clear hown9 hg9 hat9 h1X h2X h3X hHeld
              obtain ⟨q0, q1, q2⟩ := HKP.out W5 HB5.out.1
              refine hK.out _ _ (by go_keep) (fun hHeld => ?_)
              clear hK K
              (try simp only [Act.put, List.setIfInBounds_toArray, List.set_cons_zero, List.set_cons_succ])
              clear q0 q1 q2
              refine wpAnyM_take (i := 12) (d := (some 55)) (v := ?_) rfl rfl (by kernel_rfl) (by kernel_rfl) (by kernel_rfl) (by kernel_rfl) (by kernel_rfl) (fun _ _ _ h => h) (Or.inl ⟨by rfl, ?_⟩) (by assumption) ?_
              rotate_left
              · intro w hSw
                (try dsimp only at hSw)
                go_simp
                (try with_reducible rfl)
              (try simp only [Act.put, List.setIfInBounds_toArray, List.set_cons_zero, List.set_cons_succ])
              refine wpAnyM_one (i := 14) (by kernel_rfl) ?_
              refine owe_late (i := 14) (d := none) rfl rfl (by decide) (fun K hK => ?_)
              have j0 := HC5.out.cell 0
              have j1 := HC5.out.frozen 0
              go_simp
              refine hK.out undef _ ?_
              clear hK K j0 j1
              (try simp only [Act.put, List.setIfInBounds_toArray, List.set_cons_zero, List.set_cons_succ])
              refine wpAnyM_done (by kernel_rfl) ?_ _
              (try simp only [Act.put, List.setIfInBounds_toArray, List.set_cons_zero, List.set_cons_succ])
              go_wp2_with fail
              go_meet
              exact ⟨_, _, _, rfl, HG.out, HB5.out.1.setCell HG.out _, HC5.out.set_ 0 _, own_stays3 HD5.out HC5.out (by decide) (grown_set W5 _ 0 _)⟩
            · refine owe_early (i := 10) (d := (some 53)) rfl rfl (fun K hK => ?_)
              go_simp
              refine hK.out _ _ (by go_keep) (fun hHeld => ?_)
              clear hK K
              (try simp only [Act.put, List.setIfInBounds_toArray, List.set_cons_zero, List.set_cons_succ])
              have hx := (Below.refl W2.heap.size W2).alloc (Nat.le_refl _) (.cells #[.string (nm ++ ⟨#[126]⟩), .slice Ak nv ck] 30)
              have HB3 := Lib.hid (show Below w10.heap.size w10 (W2.alloc (.cells #[.string (nm ++ ⟨#[126]⟩), .slice Ak nv ck] 30)) ∧ w10.heap.size ≤ (W2.alloc (.cells #[.string (nm ++ ⟨#[126]⟩), .slice Ak nv ck] 30)).heap.size from ⟨HB2.out.1.trans (hx.mono HB2.out.2), Nat.le_trans HB2.out.2 hx.size⟩)
              have HV3 := Lib.hid (own_more HV2.out hx)
              have HC3 := Lib.hid (HC2.out.alloc (.cells #[.string (nm ++ ⟨#[126]⟩), .slice Ak nv ck] 30))
              have HR3 := Lib.hid (own_base (own_one W2 30 (.string (nm ++ ⟨#[126]⟩)) (.slice Ak nv ck)) HB2.out.2)
              have HN3 := Lib.hid (show W1.heap.size ≠ W2.heap.size from fun e => by have := (HV2.out.lt W1.heap.size rfl).2; omega)
              generalize (W2.alloc (.cells #[.string (nm ++ ⟨#[126]⟩), .slice Ak nv ck] 30)) = W3 at *
              clear hx
              refine wpAnyM_one (i := 3) (by kernel_rfl) ?_
              refine owe_early (i := 3) (d := (some 46)) rfl rfl (fun K hK => ?_)
              obtain ⟨AX, cX, eX, h1X, h2X, h3X, -, -⟩ := HW10.out.2.2.2.1.more HB3.out.1
              rw [HNL.out] at eX h1X h3X
              cases eX
              refine step_append_any (by rfl) (.tmp 43) (.tmp 45) 22 (by rfl) w10.heap.size 30 i2 _ 2 40 Try.underlying22 hi2 hx0 hx1 hx2 rfl (by omega) (.slice (some ⟨W1.heap.size, 0, none⟩) 0 0) 0 [] (by rfl) HV3.out W3.heap.size (some ⟨g, 0, none⟩) n cu (stepCells L us) (by rfl) h3X (stepCells_one HW10.out.2.2.2.1) (by have := HMN.out; simp only [maxLen]; omega) (by have := HMN.out; omega) HB3.out.2 ?_
              intro v9 W4 hown9 hg9 hat9
              rw [Nat.zero_add] at hown9
              obtain ⟨A4, c4, rfl, -, -, -⟩ := own_form hown9
              have HB4 := Lib.hid (show Below w10.heap.size w10 W4 ∧ w10.heap.size ≤ W4.heap.size from ⟨HB3.out.1.grown hg9 HB3.out.2 (fun k hk => (HV3.out.lt k hk).1), Nat.le_trans HB3.out.2 hg9.size⟩)
              have HC4 := Lib.hid (blk_stays HC3.out HV3.out (by decide) hg9)
              have HT4 := Lib.hid hown9
              have HR4 := Lib.hid (own_stays2 HR3.out hg9 (fun k hk e => by cases hk; exact HN3.out (Option.some.inj e)))
              clear hown9 hg9 hat9 h1X h2X h3X hHeld
              obtain ⟨q0, q1, q2⟩ := HKP.out W4 HB4.out.1
              refine hK.out _ _ (by go_keep) (fun hHeld => ?_)
              clear hK K
              (try simp only [Act.put, List.setIfInBounds_toArray, List.set_cons_zero, List.set_cons_succ])
              clear q0 q1 q2
              refine wpAnyM_one (i := 11) (by kernel_rfl) ?_
              refine owe_early (i := 11) (d := (some 54)) rfl rfl (fun K hK => ?_)
              obtain ⟨AX, cX, eX, h1X, h2X, h3X⟩ := own_form HR4.out
              cases eX
              refine step_append_any (by rfl) (.tmp 46) (.tmp 53) 22 (by rfl) w10.heap.size 30 i2 _ 2 40 Try.underlying22 hi2 hx0 hx1 hx2 rfl (by omega) (.slice A4 n c4) n (stepCells L us) (by rfl) HT4.out W4.heap.size (some ⟨W2.heap.size, 0, none⟩) 1 1 [.string (nm ++ ⟨#[126]⟩), .slice Ak nv ck] (by rfl) h3X (by simp [Value.oneCell']) (by have := HMN.out; simp only [maxLen]; omega) (by have := HMN.out; omega) HB4.out.2 ?_
              intro v9 W5 hown9 hg9 hat9
              obtain ⟨A5, c5, rfl, -, -, -⟩ := own_form hown9
              have HB5 := Lib.hid (show Below w10.heap.size w10 W5 ∧ w10.heap.size ≤ W5.heap.size from ⟨HB4.out.1.grown hg9 HB4.out.2 (fun k hk => (HT4.out.lt k hk).1), Nat.le_trans HB4.out.2 hg9.size⟩)
              have HC5 := Lib.hid (blk_stays HC4.out HT4.out (by decide) hg9)
              have HD5 := Lib.hid hown9
              clear hown9 hg9 hat9 h1X h2X h3X hHeld
              obtain ⟨q0, q1, q2⟩ := HKP.out W5 HB5.out.1
              refine hK.out _ _ (by go_keep) (fun hHeld => ?_)
              clear hK K
              (try simp only [Act.put, List.setIfInBounds_toArray, List.set_cons_zero, List.set_cons_succ])
              clear q0 q1 q2
              refine wpAnyM_take (i := 12) (d := (some 55)) (v := ?_) rfl rfl (by kernel_rfl) (by kernel_rfl) (by kernel_rfl) (by kernel_rfl) (by kernel_rfl) (fun _ _ _ h => h) (Or.inl ⟨by rfl, ?_⟩) (by assumption) ?_
              rotate_left
              · intro w hSw
                (try dsimp only at hSw)
                go_simp
                (try with_reducible rfl)
              (try simp only [Act.put, List.setIfInBounds_toArray, List.set_cons_zero, List.set_cons_succ])
              refine wpAnyM_one (i := 14) (by kernel_rfl) ?_
              refine owe_late (i := 14) (d := none) rfl rfl (by decide) (fun K hK => ?_)
              have j0 := HC5.out.cell 0
              have j1 := HC5.out.frozen 0
              go_simp
              refine hK.out undef _ ?_
              clear hK K j0 j1
              (try simp only [Act.put, List.setIfInBounds_toArray, List.set_cons_zero, List.set_cons_succ])
              refine wpAnyM_done (by kernel_rfl) ?_ _
              (try simp only [Act.put, List.setIfInBounds_toArray, List.set_cons_zero, List.set_cons_succ])
              go_wp2_with fail
              go_meet
              exact ⟨_, _, _, rfl, HG.out, HB5.out.1.setCell HG.out _, HC5.out.set_ 0 _, own_stays3 HD5.out HC5.out (by decide) (grown_set W5 _ 0 _)⟩
          · refine owe_early (i := 10) (d := (some 53)) rfl rfl (fun K hK => ?_)
            go_simp
            refine hK.out _ _ (by go_keep) (fun hHeld => ?_)
            clear hK K
            (try simp only [Act.put, List.setIfInBounds_toArray, List.set_cons_zero, List.set_cons_succ])
            have hx := (Below.refl W1.heap.size W1).alloc (Nat.le_refl _) (.cells #[.string (nm ++ ⟨#[126]⟩), .slice Ak nv ck] 30)
            have HB2 := Lib.hid (show Below w10.heap.size w10 (W1.alloc (.cells #[.string (nm ++ ⟨#[126]⟩), .slice Ak nv ck] 30)) ∧ w10.heap.size ≤ (W1.alloc (.cells #[.string (nm ++ ⟨#[126]⟩), .slice Ak nv ck] 30)).heap.size from ⟨HB1.out.1.trans (hx.mono HB1.out.2), Nat.le_trans HB1.out.2 hx.size⟩)
            have HC2 := Lib.hid (HC1.out.alloc (.cells #[.string (nm ++ ⟨#[126]⟩), .slice Ak nv ck] 30))
            have HR2 := Lib.hid (own_base (own_one W1 30 (.string (nm ++ ⟨#[126]⟩)) (.slice Ak nv ck)) HB1.out.2)
            generalize (W1.alloc (.cells #[.string (nm ++ ⟨#[126]⟩), .slice Ak nv ck] 30)) = W2 at *
            clear hx
            refine wpAnyM_one (i := 0) (by kernel_rfl) ?_
            refine owe_early (i := 0) (d := (some 43)) rfl rfl (fun K hK => ?_)
            go_simp
            refine hK.out _ _ (by go_keep) (fun hHeld => ?_)
            clear hK K
            (try simp only [Act.put, List.setIfInBounds_toArray, List.set_cons_zero, List.set_cons_succ])
            have hx := (Below.refl W2.heap.size W2).alloc (Nat.le_refl _) (.cells #[] 30)
            have HB3 := Lib.hid (show Below w10.heap.size w10 (W2.alloc (.cells #[] 30)) ∧ w10.heap.size ≤ (W2.alloc (.cells #[] 30)).heap.size from ⟨HB2.out.1.trans (hx.mono HB2.out.2), Nat.le_trans HB2.out.2 hx.size⟩)
            have HR3 := Lib.hid (own_more HR2.out hx)
            have HC3 := Lib.hid (HC2.out.alloc (.cells #[] 30))
            have HV3 := Lib.hid (own_empty3 (Blk.new W2 30 #[]) HB2.out.2 2)
            have HN3 := Lib.hid (show W2.heap.size ≠ W1.heap.size from fun e => by have := (HR2.out.lt W1.heap.size rfl).2; omega)
            generalize (W2.alloc (.cells #[] 30)) = W3 at *
            clear hx
            refine wpAnyM_one (i := 3) (by kernel_rfl) ?_
            refine owe_early (i := 3) (d := (some 46)) rfl rfl (fun K hK => ?_)
            obtain ⟨AX, cX, eX, h1X, h2X, h3X, -, -⟩ := HW10.out.2.2.2.1.more HB3.out.1
            rw [HNL.out] at eX h1X h3X
            cases eX
            refine step_append_any (by rfl) (.tmp 43) (.tmp 45) 22 (by rfl) w10.heap.size 30 i2 _ 2 40 Try.underlying22 hi2 hx0 hx1 hx2 rfl (by omega) (.slice (some ⟨W2.heap.size, 0, none⟩) 0 0) 0 [] (by rfl) HV3.out W3.heap.size (some ⟨g, 0, none⟩) n cu (stepCells L us) (by rfl) h3X (stepCells_one HW10.out.2.2.2.1) (by have := HMN.out; simp only [maxLen]; omega) (by have := HMN.out; omega) HB3.out.2 ?_
            intro v9 W4 hown9 hg9 hat9
            rw [Nat.zero_add] at hown9
            obtain ⟨A4, c4, rfl, -, -, -⟩ := own_form hown9
            have HB4 := Lib.hid (show Below w10.heap.size w10 W4 ∧ w10.heap.size ≤ W4.heap.size from ⟨HB3.out.1.grown hg9 HB3.out.2 (fun k hk => (HV3.out.lt k hk).1), Nat.le_trans HB3.out.2 hg9.size⟩)
            have HC4 := Lib.hid (blk_stays HC3.out HV3.out (by decide) hg9)
            have HT4 := Lib.hid hown9
            have HR4 := Lib.hid (own_stays2 HR3.out hg9 (fun k hk e => by cases hk; exact HN3.out (Option.some.inj e)))
            clear hown9 hg9 hat9 h1X h2X h3X hHeld
            obtain ⟨q0, q1, q2⟩ := HKP.out W4 HB4.out.1
            refine hK.out _ _ (by go_keep) (fun hHeld => ?_)
            clear hK K
            (try simp only [Act.put, List.setIfInBounds_toArray, List.set_cons_zero, List.set_cons_succ])
            clear q0 q1 q2
            refine wpAnyM_one (i := 11) (by kernel_rfl) ?_
            refine owe_early (i := 11) (d := (some 54)) rfl rfl (fun K hK => ?_)
            obtain ⟨AX, cX, eX, h1X, h2X, h3X⟩ := own_form HR4.out
            cases eX
            refine step_append_any (by rfl) (.tmp 46) (.tmp 53) 22 (by rfl) w10.heap.size 30 i2 _ 2 40 Try.underlying22 hi2 hx0 hx1 hx2 rfl (by omega) (.slice A4 n c4) n (stepCells L us) (by rfl) HT4.out W4.heap.size (some ⟨W1.heap.size, 0, none⟩) 1 1 [.string (nm ++ ⟨#[126]⟩), .slice Ak nv ck] (by rfl) h3X (by simp [Value.oneCell']) (by have := HMN.out; simp only [maxLen]; omega) (by have := HMN.out; omega) HB4.out.2 ?_
            intro v9 W5 hown9 hg9 hat9
            obtain ⟨A5, c5, rfl, -, -, -⟩ := own_form hown9
            have HB5 := Lib.hid (show Below w10.heap.size w10 W5 ∧ w10.heap.size ≤ W5.heap.size from ⟨HB4.out.1.grown hg9 HB4.out.2 (fun k hk => (HT4.out.lt k hk).1), Nat.le_trans HB4.out.2 hg9.size⟩)
            have HC5 := Lib.hid (blk_stays HC4.out HT4.out (by decide) hg9)
            have HD5 := Lib.hid hown9
            clear hown9 hg9 hat9 h1X h2X h3X hHeld
            obtain ⟨q0, q1, q2⟩ := HKP.out W5 HB5.out.1
            refine hK.out _ _ (by go_keep) (fun hHeld => ?_)
            clear hK K
            (try simp only [Act.put, List.setIfInBounds_toArray, List.set_cons_zero, List.set_cons_succ])
            clear q0 q1 q2
            refine wpAnyM_take (i := 12) (d := (some 55)) (v := ?_) rfl rfl (by kernel_rfl) (by kernel_rfl) (by kernel_rfl) (by kernel_rfl) (by kernel_rfl) (fun _ _ _ h => h) (Or.inl ⟨by rfl, ?_⟩) (by assumption) ?_
            rotate_left
            · intro w hSw
              (try dsimp only at hSw)
              go_simp
              (try with_reducible rfl)
            (try simp only [Act.put, List.setIfInBounds_toArray, List.set_cons_zero, List.set_cons_succ])
            refine wpAnyM_one (i := 14) (by kernel_rfl) ?_
            refine owe_late (i := 14) (d := none) rfl rfl (by decide) (fun K hK => ?_)
            have j0 := HC5.out.cell 0
            have j1 := HC5.out.frozen 0
            go_simp
            refine hK.out undef _ ?_
            clear hK K j0 j1
            (try simp only [Act.put, List.setIfInBounds_toArray, List.set_cons_zero, List.set_cons_succ])
            refine wpAnyM_done (by kernel_rfl) ?_ _
            (try simp only [Act.put, List.setIfInBounds_toArray, List.set_cons_zero, List.set_cons_succ])
            go_wp2_with fail
            go_meet
            exact ⟨_, _, _, rfl, HG.out, HB5.out.1.setCell HG.out _, HC5.out.set_ 0 _, own_stays3 HD5.out HC5.out (by decide) (grown_set W5 _ 0 _)⟩
      case rest =>
        clear k0 k1 k2 hns2
        obtain ⟨g7, A7, c7, rfl, hg7, hB11, hBl, hOw⟩ := hcut
        obtain ⟨L2, hL2⟩ : ∃ L2, L ++ [(wave nm, vs)] = L2 := ⟨_, rfl⟩
        have HB11 := Lib.hid (show Below w10.heap.size w10 wc ∧ Blk wc g7 24 #[.slice A7 (n + 1) c7] from ⟨hB11, hBl⟩)
        have HT11 := Lib.hid (show StepsR wc (.slice A7 (n + 1) c7) L2 (us ++ [.slice Ak nv ck]) from hL2 ▸ steps_snoc (b := (wave nm, vs)) hOw (HW10.out.2.2.2.1.more hB11) HNL.out (HW10.out.2.2.2.2.more hB11 hB11.size))
        have HIN2 := Lib.hid (show InB L2 from by
          have h1 := HIN.out
          have h2 := HSM.out.1
          have h3 := HNS.out
          have h4 : (nm, vs) ∈ L := by rw [← HLE.out]; simp
          have h5 := h1.2 _ h4
          rw [← hL2]
          refine ⟨by rw [List.length_append]; simp; omega, fun b hb => ?_⟩
          rcases List.mem_append.1 hb with hb | hb
          · exact h1.2 b hb
          · rw [List.mem_singleton.1 hb]
            exact ⟨by show (wave nm).size ≤ _; rw [wave_size]; omega, h5.2⟩)
        have HCK := Lib.hid (show (checkB L2).1 = 0 ∨ (checkB L2).1 = 3 from by
          have h0 := HE1.out
          rw [← HLE.out] at h0
          have h := twice_check h0
          rw [← hL2, ← HLE.out, List.append_assoc]
          exact h)
        have HLEN := Lib.hid (show (bytesB L2).length = nb + (if hasT (textsP L) (wave nm) = true then 0 else 4 + (nm.size + 1)) + 8 + 8 * (grpM vs).length from by
          have h4 : (nm, vs) ∈ L := by rw [← HLE.out]; simp
          rw [← HNB.out, bytes_len, bytes_len, ← hL2, twice_len h4, wave_size, grpM_len]
          omega)
        clear hL2 hg7 hB11 hBl hOw
        have k0 : wc.cell? ⟨g7, 0, none⟩ = some (.slice A7 (n + 1) c7) := HB11.out.2.cell 0
        obtain ⟨e2, he2⟩ : ∃ e2, (checkB L2).1 = e2 := ⟨_, rfl⟩
        rw [he2] at HCK
        by_cases z2 : e2 = 0
        · subst z2
          have HSZ := Lib.hid (size_yes HT11.out HIN2.out he2)
          clear he2
          go_upto_region 15 with (go_at_call 13; go_must (refine HSZ.out.mono ?_; rintro en w12 ⟨rfl, hb12⟩; have HB12 := Lib.hid (HB11.out.1.trans (hb12.mono HB11.out.1.size)); clear hb12))
          clear k0 HSZ HT11 HIN2 HCK HB11
          obtain ⟨nd, hnd⟩ : ∃ nd, (bytesB L2).length = nd := ⟨_, rfl⟩
          rw [hnd] at HLEN ⊢
          clear hnd
          have hmm := @run_makeMap Try.prog
          have HM0 := Lib.hid (show MapS (w12.alloc (.map #[] 0)) w12.heap.size 0 (grpM (vs.take 0)).length (metF (grpM (vs.take 0))) from by
            have h := MapG.made w12 Try.prog 9 strL strOk
            have e : metF [] = fun _ => none := by funext s; simp [metF, metB]
            rw [show grpM (vs.take 0) = [] from rfl, e]
            exact h)
          have HB13 := Lib.hid (And.intro (HB12.out.alloc HB12.out.size (.map #[] 0)) HB12.out.size)
          go_upto_region 16 with (fail)
          generalize w12.alloc (.map #[] 0) = w13 at *
          obtain ⟨mb, hmb⟩ : ∃ mb, w12.heap.size = mb := ⟨_, rfl⟩
          rw [hmb] at HM0 HB13 ⊢
          clear hmb hmm HB12
          obtain ⟨k0, k1, k2⟩ := HKP.out w13 HB13.out.1
          go_wp2
          clear k0 k1 k2
          go_loopw [69] (fun jv W => ∃ j : Nat, jv = .int .i64 (j : Int) ∧ j ≤ nv ∧ MapS W mb j (grpM (vs.take j)).length (metF (grpM (vs.take j))) ∧ Below w10.heap.size w10 W) (fun jv _ => nv - (Lib.intOf jv).toNat)
          case atStart => exact ⟨0, rfl, Nat.zero_le _, HM0.out, HB13.out.1⟩
          case round =>
            have HMB := Lib.hid HB13.out.2
            clear HM0 HB13
            obtain ⟨j, rfl, hj, hM, hB⟩ := hrel
            have HM := Lib.hid hM
            have HB := Lib.hid hB
            clear hM hB
            by_cases hjn : j < nv
            · have hq : (j : Int) < (nv : Int) := by omega
              obtain ⟨⟨xp, xt⟩, hx⟩ : ∃ x, vs[j]? = some x := ⟨_, List.getElem?_eq_getElem (by rw [HNV.out]; exact hjn)⟩
              obtain ⟨Av, cv, ev, hcv, -, hRv⟩ := HW10.out.2.2.2.2.more HB.out HB.out.size
              rw [HNV.out] at ev hcv hRv
              cases ev
              obtain ⟨bv, ov, rfl, hbv, hclv⟩ := hRv.spot (by omega) (by omega)
              have hat := pairCells_at vs j _ hx
              have y0 : wr.cell? ⟨bv, ov + j * 2, none⟩ = some (.string xp) := hclv _ _ hat.1
              have y1 : wr.cell? ⟨bv, ov + j * 2 + 1, none⟩ = some (.string xt) := hclv _ _ hat.2
              have HPX := Lib.hid (show rightB xp = true ∧ xp ≠ ByteArray.empty ∧ xp.size ≤ 140737488355328 ∧ vs.take (j + 1) = vs.take j ++ [(xp, xt)] from by
                have h4 : (nm, vs) ∈ L := by rw [← HLE.out]; simp
                have h5 := ((checkB_ok HE1.out).2.2 _ h4).2.2 _ (List.mem_of_getElem? hx)
                exact ⟨h5.2.1, h5.1, ((HIN.out.2 _ h4).2.1 _ (List.mem_of_getElem? hx)).1, List.take_add_one.trans (by rw [hx]; rfl)⟩)
              clear hclv hat hx hcv hRv hbv
              have HM8 := Lib.hid (HM.out.alloc (.cells #[.string xp, .string xt] 32))
              have HB8 := Lib.hid (HB.out.alloc HB.out.size (.cells #[.string xp, .string xt] 32))
              have HG8 := Lib.hid (Blk.new wr 32 #[.string xp, .string xt])
              go_upto_region 19 with (fail)
              clear y0 y1
              generalize wr.alloc (.cells #[.string xp, .string xt] 32) = w18 at *
              have y0 : w18.cell? ⟨wr.heap.size, 0, none⟩ = some (.string xp) := HG8.out.cell 0
              go_upto_block 2 with (fail)
              clear y0
              go_cut [12, 13] from 77 to 92 (fun s _ W => s = .string (grp xp) ∧ Below w18.heap.size w18 W)
              case first =>
                obtain ⟨q, hqe⟩ : ∃ q, nameEnd xp 0 = q := ⟨_, rfl⟩
                have HQ := Lib.hid (show grp xp = xp.extract 0 q ∧ q ≤ xp.size ∧ (∀ i, i < q → ∃ h : i < xp.size, nameB xp[i] = true) ∧ (∀ hl : q < xp.size, xp[q] = 47 ∨ xp[q] = 91) from by
                  obtain ⟨e1, e2, e3⟩ := grp_end HPX.out.1 HPX.out.2.1
                  subst hqe
                  exact ⟨e1, e2, fun i hi => nameEnd_in _ xp 0 i (Nat.zero_le _) hi, e3⟩)
                have HBI := Lib.hid (fun q => show Below w18.heap.size w18 (w18.iter xp q) from (Below.refl _ _).alloc (Nat.le_refl _) _)
                clear hqe hq
                go_wp2_with fail
                go_loopw [12, 13] (fun s _ W => s = .string xp ∧ ∃ p : Nat, w18.iter xp p = W ∧ p ≤ q) (fun _ _ wr => xp.size - wr.iterPos w18.heap.size)
                case atStart => exact ⟨rfl, 0, rfl, Nat.zero_le _⟩
                case round =>
                  obtain ⟨rfl, p, rfl, hp⟩ := hrel
                  by_cases hps : p < xp.size
                  · have hnx := fun ty => run_next_any (P := Try.prog) w18 xp p ty hps
                    have HM := Lib.hid (show xp.size - ((w18.iter xp (p + 1)).iterPos w18.heap.size) < xp.size - ((w18.iter xp p).iterPos w18.heap.size) by
                      rw [World.iterPos_iter, World.iterPos_iter]
                      omega)
                    by_cases hpq : p < q
                    · obtain ⟨_, hb⟩ := HQ.out.2.2.1 p hpq
                      obtain ⟨b1, b2, b3⟩ := nameB_plain _ hb
                      rw [decode_ascii xp p hps b1] at hnx
                      have hpi : (p : Int) < (xp.size : Int) := by omega
                      have hbn : ¬ xp[p].toNat = 47 := fun e => b2 (UInt8.toNat_inj.1 e)
                      have hbm : ¬ xp[p].toNat = 91 := fun e => b3 (UInt8.toNat_inj.1 e)
                      obtain ⟨bt, hbt⟩ : ∃ bt, xp[p].toNat = bt := ⟨_, rfl⟩
                      have HBT := Lib.hid hbt
                      rw [hbt] at hbn hbm
                      have c1 : ((xp[p].toNat : Int) == 47) = false := by
                        have : ¬ (bt : Int) = 47 := by omega
                        rw [hbt]
                        simpa using this
                      have c2 : ((xp[p].toNat : Int) == 91) = false := by
                        have : ¬ (bt : Int) = 91 := by omega
                        rw [hbt]
                        simpa using this
                      have c3 : ¬ ((xp[p].toNat : Int) = 47) := by rw [hbt]; omega
                      have c4 : ¬ ((xp[p].toNat : Int) = 91) := by rw [hbt]; omega
                      clear hb hbt hbn hbm b1 b2 b3
                      go_wp2
                      go_roundw
                      case rel => exact ⟨rfl, p + 1, rfl, hpq⟩
                      case measure => exact HM.out
                    · obtain rfl : p = q := by omega
                      have hpi : (p : Int) < (xp.size : Int) := by omega
                      have hpz : (p : Int) ≤ (xp.size : Int) := by omega
                      rcases HQ.out.2.2.2 hps with h47 | h91
                      · have hb1 : xp[p].toNat = 47 := by rw [h47]; rfl
                        rw [decode_ascii xp p hps (by rw [hb1]; omega)] at hnx
                        have c1 : ((xp[p].toNat : Int) == 47) = true := by rw [hb1]; rfl
                        have c3 : ((xp[p].toNat : Int) = 47) := by rw [hb1]; rfl
                        clear h47 hb1 hpq
                        go_wp2
                        go_meet
                        exact ⟨by rw [HQ.out.1], HBI.out _⟩
                      · have hb1 : xp[p].toNat = 91 := by rw [h91]; rfl
                        rw [decode_ascii xp p hps (by rw [hb1]; omega)] at hnx
                        have c1 : ((xp[p].toNat : Int) == 47) = false := by rw [hb1]; rfl
                        have c2 : ((xp[p].toNat : Int) == 91) = true := by rw [hb1]; rfl
                        have c3 : ¬ ((xp[p].toNat : Int) = 47) := by rw [hb1]; decide
                        clear h91 hb1 hpq
                        go_wp2
                        go_meet
                        exact ⟨by rw [HQ.out.1], HBI.out _⟩
                  · obtain rfl : p = xp.size := by have := HQ.out.2.1; omega
                    have hqz : q = xp.size := by have := HQ.out.2.1; omega
                    have hnx := fun ty => run_next_end (P := Try.prog) w18 xp xp.size ty (by omega)
                    have HXE := Lib.hid (show xp = grp xp from by rw [HQ.out.1, hqz]; simp)
                    clear hqz hp hps
                    go_wp2
                    go_meet
                    exact ⟨congrArg Value.string HXE.out, HBI.out _⟩
              case rest =>
                obtain ⟨rfl, hb9⟩ := hcut
                have HB9 := Lib.hid (HB8.out.trans (hb9.mono HB8.out.size))
                have HM9 := Lib.hid (HM8.out.on hb9)
                have hpm : (grp xp).size ≤ maxLen := by
                  have h1 := grp_sz xp
                  have h2 := HPX.out.2.2.1
                  simp only [maxLen]
                  omega
                have hj2 : j ≤ 5000 := by
                  have h4 : (nm, vs) ∈ L := by rw [← HLE.out]; simp
                  have := (HIN.out.2 _ h4).2.2
                  have h5 := HNV.out
                  simp only at this
                  omega
                obtain ⟨w20, hrun, hM20, hg20⟩ := HM9.out.store law_str Try.underlying49 (by simp only [maxLen]; omega) strL_inj hpm (key_str hpm) (.bool true)
                have HM20 := Lib.hid (show MapS w20 mb (j + 1) (grpM (vs.take (j + 1))).length (metF (grpM (vs.take (j + 1)))) from by
                  rw [HPX.out.2.2.2, grpM_snoc, ← metF_add, addM_len, ← metF_some]
                  exact hM20)
                have HB20 := Lib.hid (HB9.out.grown hg20 HB9.out.size (fun k hk => by cases hk; exact HMB.out))
                clear hb9 hM20 hg20 hpm
                go_wp2
                go_roundw
                case rel => exact ⟨j + 1, by go_num, hjn, HM20.out, HB20.out⟩
                case measure => simp [Lib.intOf]; omega
            · have hq : ¬ (j : Int) < (nv : Int) := by omega
              have HMF := Lib.hid (show MapS wr mb j (grpM vs).length (metF (grpM vs)) from by
                have h := HM.out
                rw [show vs.take j = vs from List.take_of_length_le (by rw [HNV.out]; omega)] at h
                exact h)
              have HNG := Lib.hid (show (grpM vs).length ≤ 5000 from by
                rw [grpM_len]
                have h1 := few_groups vs
                have h4 : (nm, vs) ∈ L := by rw [← HLE.out]; simp
                have := (HIN.out.2 _ h4).2.2
                simp only at this
                omega)
              obtain ⟨ng, hng⟩ : ∃ ng, (grpM vs).length = ng := ⟨_, rfl⟩
              rw [hng] at HMF HNG HLEN
              clear hng HM hjn hj
              obtain ⟨k0, k1, k2⟩ := HKP.out wr HB.out
              have HTX := Lib.hid (show Calls Try.prog 16 #[.agg #[.slice (some ⟨g, 0, none⟩) n cu]] wr (fun e w' => ∃ A c, e = .returned (.tuple #[.slice A (textsP L).length c, .int .i64 0]) ∧ Txts w' w'.heap.size (.slice A (textsP L).length c) (textsP L) ∧ Below wr.heap.size wr w') from by
                refine (btexts_any _ L us wr (HW10.out.2.2.2.1.more HB.out) HIN.out).mono ?_
                rintro e w' ⟨⟨hc, -⟩ | ⟨-, tv, rfl, htx⟩, hb⟩
                · exact absurd HE1.out hc
                · obtain ⟨A, c, rfl, h1⟩ := htx
                  exact ⟨A, c, rfl, ⟨A, c, rfl, h1⟩, hb⟩)
              have hns3 : (nm.size : Int) ≤ 256 := by have := HNS.out; omega
              go_upto_region 29 with (go_at_call 16; go_must (refine HTX.out.mono ?_; rintro en w28 ⟨At, ct, rfl, htx, hb28⟩; have HTT := Lib.hid htx; have HB28 := Lib.hid (And.intro (HB.out.trans (hb28.mono HB.out.size)) (HMF.out.on hb28)); clear htx hb28))
              clear k0 k1 k2 HTX
              obtain ⟨M, hM⟩ : ∃ M, textsP L = M := ⟨_, rfl⟩
              rw [hM] at HTT HLEN ⊢
              obtain ⟨nt, hnt⟩ : ∃ nt, M.length = nt := ⟨_, rfl⟩
              have HNT := Lib.hid hnt
              rw [hnt] at HTT ⊢
              have hntb : nt ≤ 1000000000 := by
                rw [← hnt, ← hM]
                have h1 := HIN.out
                have h2 := few_words L (fun b hb => (h1.2 b hb).2.2)
                have h3 := poolL_len (lt := bl) (wordsB L)
                have h4 := HSM.out.1
                unfold textsP
                omega
              have hns2 : ¬ 9223372036854775807 < nm.size + 1 := by have := HNS.out; omega
              have HTW := Lib.hid (hasT_take M (wave nm))
              clear hM hnt
              have HNM := Lib.hid (show ∀ W, Below w28.heap.size w28 W → W.cell? ⟨gl, 0, none⟩ = some (.string nm) from fun W hW => (HKP.out W (HB28.out.1.trans (hW.mono HB28.out.1.size))).2.1)
              have k1 := HNM.out w28 (Below.refl _ _)
              go_wp2
              clear k1
              go_loopw [14, 18, 108] (fun xv _ iv W => W = w28 ∧ ∃ i : Nat, iv = .int .i64 (i : Int) ∧ i ≤ nt ∧ xv = .int .i64 (if hasT (M.take i) (wave nm) = true then 0 else ((nm.size : Int) + 5))) (fun _ _ iv _ => nt - (Lib.intOf iv).toNat)
              case atStart => exact ⟨rfl, 0, rfl, Nat.zero_le _, by rw [HTW.out.1, if_neg (by decide)]; first | rfl | (congr 1; omega)⟩
              case round =>
                obtain ⟨rfl, i, rfl, hi, rfl⟩ := hrel
                obtain ⟨xv, hxv⟩ : ∃ xv : Int, (if hasT (M.take i) (wave nm) = true then 0 else ((nm.size : Int) + 5)) = xv := ⟨_, rfl⟩
                rw [hxv]
                have HXV := Lib.hid hxv
                clear hxv
                have k1 := HNM.out wr (Below.refl _ _)
                by_cases hin : i < nt
                · have hq2 : (i : Int) < (nt : Int) := by omega
                  obtain ⟨x, hx⟩ : ∃ x, M[i]? = some x := ⟨_, List.getElem?_eq_getElem (by rw [HNT.out]; exact hin)⟩
                  obtain ⟨A', c', e', h1, h2, h3⟩ := HTT.out
                  rw [HNT.out] at e' h1 h3
                  cases e'
                  obtain ⟨bt, ot, rfl, hbt, hcl⟩ := h3.spot (by omega) (by omega)
                  have y0 : wr.cell? ⟨bt, ot + i, none⟩ = some (.string x) := hcl i _ (by simp [hx])
                  have HST := Lib.hid (HTW.out.2.1 i x hx)
                  clear hx h1 h2 h3 hbt hcl
                  by_cases hxw : x = wave nm
                  · have c1 : (x.toList == (nm ++ ⟨#[126]⟩ : ByteArray).toList) = true := by
                      have := ba_beqB x (wave nm)
                      rw [decide_eq_true hxw] at this
                      exact this
                    have HT1 := Lib.hid (show hasT (M.take (i + 1)) (wave nm) = true from by rw [HST.out, decide_eq_true hxw, Bool.or_true])
                    clear hxw
                    go_wp2
                    go_roundw
                    case rel => exact ⟨trivial, i + 1, by go_num, hin, by rw [if_pos HT1.out]⟩
                    case measure => simp [Lib.intOf]; omega
                  · have c1 : (x.toList == (nm ++ ⟨#[126]⟩ : ByteArray).toList) = false := by
                      have := ba_beqB x (wave nm)
                      rw [decide_eq_false hxw] at this
                      exact this
                    have HT1 := Lib.hid (show hasT (M.take (i + 1)) (wave nm) = hasT (M.take i) (wave nm) from by rw [HST.out, decide_eq_false hxw, Bool.or_false])
                    clear hxw
                    go_wp2
                    go_roundw
                    case rel => exact ⟨trivial, i + 1, by go_num, hin, by rw [HT1.out, HXV.out]⟩
                    case measure => simp [Lib.intOf]; omega
                · have hq2 : ¬ (i : Int) < (nt : Int) := by omega
                  have hxb : 0 ≤ xv ∧ xv ≤ 300 := by
                    rw [← HXV.out]
                    split <;> omega
                  obtain ⟨hxb1, hxb2⟩ := hxb
                  have hnbb : (nb : Int) ≤ 16777216 := by
                    have := enc_fits HE1.out HSM.out
                    rw [HNB.out] at this
                    omega
                  have hngb : (ng : Int) ≤ 5000 := by have := HNG.out; omega
                  have hfin : ((nd : Int) == (nb : Int) + xv + 8 + 8 * (ng : Int)) = true := by
                    have h1 := HLEN.out
                    have h2 := HXV.out
                    rw [HTW.out.2.2 i (by rw [HNT.out]; omega)] at h2
                    rw [beq_iff_eq]
                    split at h1
                    · rename_i h
                      rw [if_pos h] at h2
                      omega
                    · rename_i h
                      rw [if_neg h] at h2
                      omega
                  have hln := fun ty => HB28.out.2.len Try.underlying49 ty
                  clear hin hi
                  go_wp2
                  go_ret
                  exact ⟨rfl, by rw [HH0.out]; exact HW10.out.1.trans (HB28.out.1.mono (by have := HW10.out.2.1.lt; omega))⟩
        · obtain rfl : e2 = 3 := HCK.out.resolve_left z2
          have HSZ := Lib.hid (size_no HT11.out HIN2.out he2 z2)
          clear he2 z2
          go_wp2_with (go_at_call 13; go_must (refine HSZ.out.mono ?_; rintro en w12 ⟨rfl, hb12⟩; have HB12 := Lib.hid (HB11.out.1.trans (hb12.mono HB11.out.1.size)); clear hb12))
          go_ret
          exact ⟨rfl, by rw [HH0.out]; exact HW10.out.1.trans (HB12.out.mono (by have := HW10.out.2.1.lt; omega))⟩
    · have HSZ := Lib.hid (size_no HST.out HIN.out he1 z1)
      have hz2 : (e1 == 0) = false := by simpa using z1
      clear he1
      go_wp2_with (go_at_call 13; go_must (refine HSZ.out.mono ?_; rintro en w5 ⟨rfl, hb5⟩; have HB5 := Lib.hid hb5; clear hb5))
      go_ret
      exact ⟨rfl, by rw [HH0.out]; exact HBW.out.1.trans (HB5.out.mono (by have := HBW.out.2.lt; omega))⟩
set_option maxRecDepth 100000 in
theorem walk {H : Type} {enc : TypeId × Value → H} (v0 : Value) (d0 : DataW H) (p0 : List MemPlace) (base0 : Nat) (w : World) (hv0 : Value.okWide Try.prog w .any base0 24 v0) (w0 : DataW.Trod enc Try.prog w 0 (fun _ => true) true 24 v0 d0 p0) (hwt0 : ∀ n ∈ d0.weights Try.prog 24, n ≤ 140737488351232) :
    Calls Try.prog 6 #[v0] w fun e w' => e = .returned (.bool true) ∧ Below w.heap.size w w' := by
  obtain ⟨u0, l0, vs0, rfl, hs0, hi0⟩ := open_bundle hv0 w0 hwt0
  exact twice_walk u0 l0 vs0 w hs0 hi0

set_option maxRecDepth 100000 in
theorem contract (H : Type) (enc : TypeId × Value → H) (W : World) (base : Nat) (args : Array Value) (ds gs : List (DataW H)) (before : List MemPlace)
    (hval0 : ∀ (j : Nat) t v, Try.f6.params[j]? = some t → args[j]? = some v → Value.okWide Try.prog W .any base t v)
    (hW : DataW.Whole enc Try.prog Try.f6.params.toList Rows.bundleTwiceSpec.vars false W args.toList ds gs before)
    (hsz0 : (DataW.weightsEach Try.prog (Try.f6.params.toList ++ Rows.bundleTwiceSpec.plain.varTypes Try.prog) (ds ++ gs)).all (· ≤ reachBytes) = true) :
    Calls Try.prog 6 args W fun e W' => ∃ v, e = .returned v ∧ Rows.bundleTwiceSpec.post enc Try.prog Try.f6 false true false false W args v W' := by
  have hval : ∀ (j : Nat) t v, Try.f6.params[j]? = some t → args[j]? = some v → Value.okWide Try.prog W .any base t v := hval0
  have hsz : (DataW.weightsEach Try.prog (Try.f6.params.toList ++ Rows.bundleTwiceSpec.plain.varTypes Try.prog) (ds ++ gs)).all (· ≤ reachBytes) = true := hsz0
  have hW' := hW
  obtain ⟨p, q, hA0, hV, rfl, hfz, hnd⟩ := hW
  have hA : DataW.TrodAll enc Try.prog W 0 (fun _ => true) true Try.f6.params.toList args.toList ds p := hA0
  rw [Try.params6] at hA hval hsz
  obtain ⟨v0, vs0, d0, ds0, p0, q0, hargs, rfl, rfl, h0, r0⟩ := trodAll_cons hA
  obtain ⟨rfl, rfl, rfl⟩ := trodAll_nil r0
  obtain rfl : args = #[v0] := by cases args; simp_all
  obtain ⟨rfl, rfl⟩ := trodVars_none hV
  have k0 := h0
  have lt0 : ∀ x ∈ p0, x.block < W.heap.size := by obtain ⟨m, hm⟩ := k0; exact DataW.trod_lt m _ _ _ hm
  have hwt0 : ∀ n ∈ d0.weights Try.prog 24, n ≤ 140737488351232 := fun n hn => by
    have := of_decide_eq_true (List.all_eq_true.1 hsz _ (DataW.weights_mem_each (j := 0) (t := 24) rfl rfl n hn))
    simpa [reachBytes] using this
  clear hA0 hval0
  refine (walk v0 d0 p0 base W (hval 0 24 v0 rfl rfl) h0 hwt0).mono fun e W' ⟨he, bel⟩ => ?_
  subst he
  exact ⟨_, rfl, _, _, _, [], _, [], hW', trodAll_mk1 (shut_bool Try.underlying4 _), (trodAll_cons_mk (Below.trod laidOut (by kernel_rfl) (of_decide_eq_true (by kernel_rfl)) k0 bel lt0) trodAll_mk0), rfl, bel.frame _, fun h => by cases h⟩

set_option maxRecDepth 100000 in
theorem lifted (os : Os) (started : os.Started) (H : Type) (enc : TypeId × Value → H) :
    ReturnsInHanded {} Try.checked os 6 .any (Rows.bundleTwiceSpec.pre6 enc Try.prog Try.f6 Rows.bundleTwiceRow.domain false) (Rows.bundleTwiceSpec.post enc Try.prog Try.f6 false true false false) := by
  refine returnsInHanded_of_change_sized (C := Try.checked) own started (by kernel_rfl) Try.func6
    (ChangeSpec.witness6 (enc := enc) (C := Try.checked) false ⟨#[], #[.agg #[.slice none 0 0]], []⟩ 8 (by kernel_rfl) (by kernel_rfl) (by kernel_rfl) (by kernel_rfl)) ?_
  intro W base args ds gs before hval hW _ hsz _
  exact contract H enc W base args ds gs before hval hW hsz

theorem over : Rows.bundleTwiceRow.holds Try.pinned (OpenSpec.ofChange Rows.bundleTwiceSpec) :=
  OpenClaim.holds_of_wide 6 Try.f6 rfl rfl rfl rfl rfl rfl rfl ⟨rfl, rfl, rfl, rfl, rfl⟩ rfl rfl rfl rfl rfl (by kernel_rfl) Try.func6 (by kernel_rfl)
    (of_decide_eq_true (by kernel_rfl)) (by unfold Func.isWrapper; first | (rw [if_pos (by decide +kernel)]; kernel_rfl) | (rw [if_neg (by decide +kernel)]; exact ⟨rfl, rfl⟩))
    (fun os started H enc _ => lifted os started H enc)

/-- The statement. -/
theorem proved : Rows.BundleTwiceSaid := over
#print axioms proved
end Go.Proofs.Ytfpepdjffehbcaa.bundleTwice
