/-
  The walks of the document's groups, rows, Texts, Paths, Tables of a bundle. Condition: the bundle may be, and is small.
-/
import Derived.Test.YtfpepdjffehbcaaGreatRef22
import Derived.Test.YtfpepdjffehbcaaGreatRegM
set_option linter.unusedVariables false
set_option linter.unusedSimpArgs false
namespace Go.Proofs.YtfpepdjffehbcaaGreat
open Go.RowKit

/-- Values that may be: their paths, and how many. -/
def ValsIn (vs : List PKey) : Prop := (∀ v ∈ vs, PathOk v.1 ∧ v.2.size ≤ 140737488355328) ∧ vs.length ≤ 30
theorem txts_form {w : World} {B : Nat} {v : Value} {l : List ByteArray} (h : Txts w B v l) : ∃ A c, v = .slice A l.length c := by
  obtain ⟨A, c, e, -⟩ := h
  exact ⟨A, c, e⟩
/-- Put, its answer written out. -/
theorem rput_say {v : Value} {l : List ByteArray} {s : ByteArray} {w : World} (h : Txts w w.heap.size v l) (hlen : l.length ≤ 1000000) :
    Calls Tryz.prog 47 #[v, .string s] w fun e w' => ∃ A m c, e = .returned (.slice A m c) ∧ Txts w' w'.heap.size (.slice A m c) (insL bl l s) ∧ Below w.heap.size w w' := by
  refine (put_any v l s w h hlen).mono ?_
  rintro e w' ⟨⟨u, rfl, hu⟩, hb⟩
  obtain ⟨A, c, rfl⟩ := txts_form hu
  exact ⟨A, _, c, rfl, hu, hb⟩
theorem pool_next {l : List ByteArray} {x : ByteArray} : insL bl (poolL bl l) x = poolL bl (l ++ [x]) := (poolL_snoc l x).symm
-- BEGIN groups
set_option maxHeartbeats 4000000 in
set_option maxRecDepth 100000 in
theorem rgroups_any (nm : ByteArray) (kv : Value) (vs : List PKey) (w : World) (h : KeysAt w w.heap.size kv vs) (hin : ValsIn vs) :
    Calls Tryz.prog 43 #[.agg #[.string nm, kv]] w fun e w' => ∃ A m c, e = .returned (.slice A m c) ∧ Txts w' w'.heap.size (.slice A m c) (groupsB vs) ∧ Below w.heap.size w w' := by
  have HK := Lib.hid h
  have HIN := Lib.hid hin
  obtain ⟨A, c, rfl, -, -, -⟩ := h
  obtain ⟨n, hN⟩ : ∃ n, vs.length = n := ⟨_, rfl⟩
  have HN := Lib.hid hN
  have hn1 : n ≤ 30 := by rw [← hN]; exact hin.2
  rw [hN] at HK ⊢
  clear hN hin
  have hn2 : (n : Int) ≤ 30 := by omega
  have HB0 := Lib.hid ((Below.refl _ w).alloc (Nat.le_refl _) (.cells #[.string nm, .slice A n c] 56))
  have HG0 := Lib.hid (Blk.new w 56 #[.string nm, .slice A n c])
  have HKW := Lib.hid (show ∀ W, Below w.heap.size w W → KeysAt W W.heap.size (.slice A n c) vs from fun W hW => HK.out.more hW hW.size)
  obtain ⟨w1, hw1⟩ : ∃ w1, w.alloc (.cells #[.string nm, .slice A n c] 56) = w1 := ⟨_, rfl⟩
  have HW1 := Lib.hid hw1
  rw [hw1] at HB0 HG0
  clear hw1
  go_enter Tryz.func43, Tryz.ntmps43
  go_upto_region 1 with (fail)
  rw [HW1.out]
  have k1 : w1.cell? ⟨w.heap.size, 1, none⟩ = some (.slice A n c) := HG0.out.cell 1
  go_wp2
  clear k1
  go_loopw [3, 9] (fun lv iv W => ∃ (i m : Nat) (A' : Option Addr) (c' : Nat), iv = .int .i64 (i : Int) ∧ i ≤ n ∧ lv = .slice A' m c' ∧ Txts W W.heap.size (.slice A' m c') (poolL bl ((vs.take i).map fun v => grp v.1)) ∧ Below w.heap.size w W) (fun _ iv _ => n - (Lib.intOf iv).toNat)
  case atStart => exact ⟨0, 0, none, 0, rfl, Nat.zero_le _, rfl, ⟨none, 0, rfl, Nat.zero_le _, Nat.zero_le _, Reads.none_⟩, HB0.out⟩
  case round =>
    obtain ⟨i, m, A', c', rfl, hi, rfl, hT, hB⟩ := hrel
    have HT := Lib.hid hT
    have HB := Lib.hid hB
    clear hT hB
    by_cases hlt : i < n
    · have hq : (i : Int) < (n : Int) := by omega
      obtain ⟨⟨xp, xt⟩, hx⟩ : ∃ x, vs[i]? = some x := ⟨_, List.getElem?_eq_getElem (by rw [HN.out]; exact hlt)⟩
      obtain ⟨b1, o1, rfl, hb1, z0, z1⟩ := keys_spot (HKW.out wr HB.out) hx
      have HX := Lib.hid hx
      have HPO := Lib.hid (HIN.out.1 _ (List.mem_of_getElem? hx)).1
      simp only at z0 z1 HPO
      clear hx
      have HB7 := Lib.hid (HB.out.alloc HB.out.size (.cells #[.string xp, .string xt] 59))
      have HT7 := Lib.hid (HT.out.on ((Below.refl _ wr).alloc (Nat.le_refl _) (.cells #[.string xp, .string xt] 59)))
      have HG7 := Lib.hid (Blk.new wr 59 #[.string xp, .string xt])
      go_upto_region 5 with (fail)
      generalize wr.alloc (.cells #[.string xp, .string xt] 59) = w7 at *
      clear z0 z1
      have x0 : w7.cell? ⟨wr.heap.size, 0, none⟩ = some (.string xp) := HG7.out.cell 0
      have hpl : (poolL bl ((vs.take i).map fun v => grp v.1)).length ≤ 1000000 := by
        have := poolL_len (lt := bl) ((vs.take i).map fun v => grp v.1)
        rw [List.length_map, List.length_take] at this
        omega
      have HPL := Lib.hid hpl
      clear hpl
      go_wp2_with (first
        | (go_at_call 48; go_must (refine (rgroup_any xp _ HPO.out).mono ?_; rintro en w8 ⟨rfl, hb8⟩; have HB8 := Lib.hid (HB7.out.trans (hb8.mono HB7.out.size)); have HPU := Lib.hid (rput_say (s := grp xp) (HT7.out.on hb8) HPL.out); clear hb8))
        | (go_at_call 47; go_must (refine HPU.out.mono ?_; rintro en w9 ⟨A9, m9, c9, rfl, hT9, hb9⟩; have HB9 := Lib.hid (HB8.out.trans (hb9.mono HB8.out.size)); have HT9 := Lib.hid hT9; clear hT9 hb9)))
      go_roundw
      case rel => exact ⟨i + 1, m9, A9, c9, by go_num, hlt, rfl, by have h := HT9.out; rw [pool_next] at h; rw [List.take_add_one, HX.out, List.map_append]; exact h, HB9.out⟩
      case measure => simp [Lib.intOf]; omega
    · obtain rfl : i = n := by omega
      have hq : ¬ (i : Int) < (i : Int) := by omega
      go_wp2
      go_ret
      exact ⟨_, _, _, rfl, by have h := HT.out; rw [List.take_of_length_le (by rw [HN.out]; exact Nat.le_refl _)] at h; exact h, HB.out⟩
-- END groups
theorem rows_last {T P : List ByteArray} {vs : List PKey} (hP : RiseL bl P) (hv : RiseL (fun x y => bl x.1 y.1) vs) (hm : ∀ v ∈ vs, v.1 ∈ P) {i : Nat} {x : PKey} (hx : vs[i]? = some x) {g : ByteArray} (hg : grp x.1 = g) {out : List RowI} {ok : Bool}
    (h : PutR (rowsB T P (vs.take i) g) ((idx P x.1 : Int), (idx T x.2 : Int)) out ok) : out = rowsB T P (vs.take (i + 1)) g := by
  have hr1 := rowsB_rise (T := T) hP (List.Pairwise.sublist (List.take_sublist (i + 1) vs) hv) (fun v hv => hm v (List.mem_of_mem_take hv)) g
  have hn := rowsB_next T P hx g
  rw [if_pos hg.symm] at hn
  rw [hn] at hr1 ⊢
  have hr2 := kl_rl hr1
  rcases h with ⟨y, hy, he, -⟩ | ⟨-, rfl, -⟩
  · have := (List.pairwise_append.1 hr1).2.2 y hy _ (List.mem_singleton.2 rfl)
    unfold kl at this
    have h3 := of_decide_eq_true this
    simp only at h3 he
    omega
  · have h1 := poolL_self rlT hr2
    rw [poolL_snoc, poolL_self rlT (List.pairwise_append.1 hr2).1] at h1
    exact h1
-- BEGIN rows
set_option maxHeartbeats 8000000 in
set_option maxRecDepth 100000 in
theorem rrows_any (nm g : ByteArray) (kv tv pv : Value) (vs : List PKey) (T P : List ByteArray) (w : World) (h : KeysAt w w.heap.size kv vs) (hin : ValsIn vs) (ht : Txts w w.heap.size tv T) (hp : Txts w w.heap.size pv P) (hT : T.length ≤ 1000000) (hP : P.length ≤ 1000000) (hr : RiseL bl P) (hv : RiseL (fun x y => bl x.1 y.1) vs) (hm : ∀ v ∈ vs, v.1 ∈ P ∧ v.2 ∈ T) :
    Calls Tryz.prog 44 #[.agg #[.string nm, kv], .string g, tv, pv] w fun e w' => ∃ A m c, e = .returned (.slice A m c) ∧ RowsR w' w'.heap.size (.slice A m c) (rowsB T P vs g) ∧ Below w.heap.size w w' := by
  have HK := Lib.hid h
  have HIN := Lib.hid hin
  have HMV := Lib.hid hm
  have HRI := Lib.hid (And.intro hr hv)
  obtain ⟨A, c, rfl, -, -, -⟩ := h
  obtain ⟨At, ct, rfl⟩ := txts_form ht
  obtain ⟨Ap, cp, rfl⟩ := txts_form hp
  have HTT := Lib.hid (show ∀ W, Below w.heap.size w W → Txts W W.heap.size (.slice At T.length ct) T ∧ Txts W W.heap.size (.slice Ap P.length cp) P from fun W hW => ⟨ht.on hW, hp.on hW⟩)
  have HL := Lib.hid (And.intro hT hP)
  obtain ⟨n, hN⟩ : ∃ n, vs.length = n := ⟨_, rfl⟩
  obtain ⟨nT, hnT⟩ : ∃ nT, T.length = nT := ⟨_, rfl⟩
  obtain ⟨nP, hnP⟩ : ∃ nP, P.length = nP := ⟨_, rfl⟩
  have HN := Lib.hid hN
  have hn1 : n ≤ 30 := by rw [← hN]; exact hin.2
  rw [hN] at HK ⊢
  rw [hnT, hnP] at HTT ⊢
  have HNT := Lib.hid (And.intro hnT hnP)
  clear hN hin hm hr hv ht hp hT hP hnT hnP
  have hn2 : (n : Int) ≤ 30 := by omega
  have HB0 := Lib.hid ((Below.refl _ w).alloc (Nat.le_refl _) (.cells #[.string nm, .slice A n c] 56))
  have HG0 := Lib.hid (Blk.new w 56 #[.string nm, .slice A n c])
  have HKW := Lib.hid (show ∀ W, Below w.heap.size w W → KeysAt W W.heap.size (.slice A n c) vs from fun W hW => HK.out.more hW hW.size)
  obtain ⟨w1, hw1⟩ : ∃ w1, w.alloc (.cells #[.string nm, .slice A n c] 56) = w1 := ⟨_, rfl⟩
  have HW1 := Lib.hid hw1
  rw [hw1] at HB0 HG0
  clear hw1
  go_enter Tryz.func44, Tryz.ntmps44
  go_upto_region 1 with (fail)
  rw [HW1.out]
  have k1 : w1.cell? ⟨w.heap.size, 1, none⟩ = some (.slice A n c) := HG0.out.cell 1
  go_wp2
  clear k1
  go_loopw [9, 15] (fun lv iv W => ∃ (i m : Nat) (A' : Option Addr) (c' : Nat), iv = .int .i64 (i : Int) ∧ i ≤ n ∧ lv = .slice A' m c' ∧ RowsR W W.heap.size (.slice A' m c') (rowsB T P (vs.take i) g) ∧ Below w.heap.size w W) (fun _ iv _ => n - (Lib.intOf iv).toNat)
  case atStart => exact ⟨0, 0, none, 0, rfl, Nat.zero_le _, rfl, ⟨none, 0, rfl, Nat.zero_le _, Nat.zero_le _, Reads.none_⟩, HB0.out⟩
  case round =>
    obtain ⟨i, m, A', c', rfl, hi, rfl, hT, hB⟩ := hrel
    have HT := Lib.hid hT
    have HB := Lib.hid hB
    clear hT hB
    by_cases hlt : i < n
    · have hq : (i : Int) < (n : Int) := by omega
      obtain ⟨⟨xp, xt⟩, hx⟩ : ∃ x, vs[i]? = some x := ⟨_, List.getElem?_eq_getElem (by rw [HN.out]; exact hlt)⟩
      obtain ⟨b1, o1, rfl, hb1, z0, z1⟩ := keys_spot (HKW.out wr HB.out) hx
      have HX := Lib.hid hx
      have HPO := Lib.hid (HIN.out.1 _ (List.mem_of_getElem? hx)).1
      have HMX := Lib.hid (HMV.out _ (List.mem_of_getElem? hx))
      simp only at z0 z1 HPO HMX
      clear hx
      have HB7 := Lib.hid (HB.out.alloc HB.out.size (.cells #[.string xp, .string xt] 59))
      have HT7 := Lib.hid ((show RowsR wr wr.heap.size (.slice A' m c') (rowsB T P (vs.take i) g) from HT.out).on ((Below.refl _ wr).alloc (Nat.le_refl _) (.cells #[.string xp, .string xt] 59)))
      have HG7 := Lib.hid (Blk.new wr 59 #[.string xp, .string xt])
      go_upto_region 5 with (fail)
      generalize wr.alloc (.cells #[.string xp, .string xt] 59) = w7 at *
      clear z0 z1
      obtain ⟨gv, hgv⟩ : ∃ gv, wr.heap.size = gv := ⟨_, rfl⟩
      rw [hgv] at HG7 ⊢
      clear hgv
      have x0 : w7.cell? ⟨gv, 0, none⟩ = some (.string xp) := HG7.out.cell 0
      have hbq := ba_beqB (grp xp) g
      by_cases he : grp xp = g
      · rw [decide_eq_true he] at hbq
        have HE := Lib.hid he
        clear he
        go_upto_region 6 with (go_at_call 48; go_must (refine (rgroup_any xp _ HPO.out).mono ?_; rintro en w8 ⟨rfl, hb8⟩; have HB8 := Lib.hid (HB7.out.trans (hb8.mono HB7.out.size)); have HT8 := Lib.hid (HT7.out.on hb8); have HG8 := Lib.hid (HG7.out.below hb8 HG7.out.lt); clear hb8))
        clear x0 hbq
        have z0 : w8.cell? ⟨gv, 0, none⟩ = some (.string xp) := HG8.out.cell 0
        have z1 : w8.cell? ⟨gv, 1, none⟩ = some (.string xt) := HG8.out.cell 1
        have HB9 := Lib.hid HB8.out
        obtain ⟨kp, hkp⟩ : ∃ kp, idx P xp = kp := ⟨_, rfl⟩
        obtain ⟨kt, hkt⟩ : ∃ kt, idx T xt = kt := ⟨_, rfl⟩
        have HAP := Lib.hid (show ∀ W, Below w.heap.size w W → Calls Tryz.prog 42 #[.slice Ap nP cp, .string xp] W (fun e w' => e = .returned (.int .u32 (kp : Int)) ∧ W = w') from fun W hW => by
          have h := rat_any _ P xp W (by have := (HTT.out W hW).2; rw [← HNT.out.2] at this; exact this) HMX.out.1 (by have := HL.out.2; omega)
          rw [hkp, HNT.out.2] at h
          exact h)
        have HAT := Lib.hid (show ∀ W, Below w.heap.size w W → Calls Tryz.prog 42 #[.slice At nT ct, .string xt] W (fun e w' => e = .returned (.int .u32 (kt : Int)) ∧ W = w') from fun W hW => by
          have h := rat_any _ T xt W (by have := (HTT.out W hW).1; rw [← HNT.out.1] at this; exact this) HMX.out.2 (by have := HL.out.1; omega)
          rw [hkt, HNT.out.1] at h
          exact h)
        have HPR := Lib.hid (show ∀ W, Below w8.heap.size w8 W → Calls Tryz.prog 72 #[.slice A' m c', .agg #[.int .u32 (kp : Int), .int .u32 (kt : Int)]] W (fun e w' => ∃ A9 m9 c9 ok9, e = .returned (.tuple #[.slice A9 m9 c9, .bool ok9]) ∧ RowsR w' w'.heap.size (.slice A9 m9 c9) (rowsB T P (vs.take (i + 1)) g) ∧ Below W.heap.size W w') from fun W hW => by
          refine (putrow_any (.slice A' m c') (rowsB T P (vs.take i) g) ((kp : Int), (kt : Int)) W (HT8.out.on hW) (rowsB_rise HRI.out.1 (List.Pairwise.sublist (List.take_sublist i vs) HRI.out.2) (fun v hv => (HMV.out v (List.mem_of_mem_take hv)).1) g) (by have h1 := rowsB_len T P (vs.take i) g; rw [List.length_take] at h1; omega)).mono ?_
          rintro e w' ⟨⟨v9, out, ok9, rfl, hput, hr9⟩, hb9⟩
          rw [← hkp, ← hkt] at hput
          have ho := rows_last HRI.out.1 HRI.out.2 (fun v hv => (HMV.out v hv).1) HX.out HE.out hput
          rw [ho] at hr9
          have hr9' := hr9
          obtain ⟨A9, c9, rfl, -⟩ := hr9'
          exact ⟨A9, _, c9, ok9, rfl, hr9, hb9⟩)
        clear hkp hkt
        refine wp_region_M (fun W => W.cell? ⟨gv, 0, none⟩ = some (.string xp) ∧ W.cell? ⟨gv, 1, none⟩ = some (.string xt)) 15 (by kernel_rfl) (by go_keep) (fun hHeld => ?_)
        refine wpAnyM_take (i := 0) (d := (some 25)) (v := ?_) rfl rfl (by kernel_rfl) (by kernel_rfl) (by kernel_rfl) (by kernel_rfl) (by kernel_rfl) (fun _ _ _ h => h) (Or.inl ⟨by rfl, ?_⟩) (by assumption) ?_
        rotate_left
        · intro w hSw
          (try dsimp only at hSw)
          go_simp
          (try with_reducible rfl)
        (try simp only [Act.put, List.setIfInBounds_toArray, List.set_cons_zero, List.set_cons_succ])
        refine wpAnyM_take (i := 1) (d := (some 26)) (v := ?_) rfl rfl (by kernel_rfl) (by kernel_rfl) (by kernel_rfl) (by kernel_rfl) (by kernel_rfl) (fun _ _ _ h => h) (Or.inl ⟨by rfl, ?_⟩) (by assumption) ?_
        rotate_left
        · intro w hSw
          (try dsimp only at hSw)
          go_simp
          (try with_reducible rfl)
        (try simp only [Act.put, List.setIfInBounds_toArray, List.set_cons_zero, List.set_cons_succ])
        refine wpAnyM_take (i := 2) (d := (some 27)) (v := ?_) rfl rfl (by kernel_rfl) (by kernel_rfl) (by kernel_rfl) (by kernel_rfl) (by kernel_rfl) (fun _ _ _ h => h) (Or.inl ⟨by rfl, ?_⟩) (by assumption) ?_
        rotate_left
        · intro w hSw
          (try dsimp only at hSw)
          go_simp
          (try with_reducible rfl)
        (try simp only [Act.put, List.setIfInBounds_toArray, List.set_cons_zero, List.set_cons_succ])
        refine wpAnyM_take (i := 3) (d := (some 28)) (v := ?_) rfl rfl (by kernel_rfl) (by kernel_rfl) (by kernel_rfl) (by kernel_rfl) (by kernel_rfl) (fun _ _ _ h => h) (Or.inl ⟨by rfl, ?_⟩) (by assumption) ?_
        rotate_left
        · intro w hSw
          (try dsimp only at hSw)
          go_simp
          (try with_reducible rfl)
        (try simp only [Act.put, List.setIfInBounds_toArray, List.set_cons_zero, List.set_cons_succ])
        refine wpAnyM_take (i := 5) (d := (some 30)) (v := ?_) rfl rfl (by kernel_rfl) (by kernel_rfl) (by kernel_rfl) (by kernel_rfl) (by kernel_rfl) (fun _ _ _ h => h) (Or.inl ⟨by rfl, ?_⟩) (by assumption) ?_
        rotate_left
        · intro w hSw
          (try dsimp only at hSw)
          go_simp
          (try with_reducible rfl)
        (try simp only [Act.put, List.setIfInBounds_toArray, List.set_cons_zero, List.set_cons_succ])
        refine wpAnyM_take (i := 6) (d := (some 31)) (v := ?_) rfl rfl (by kernel_rfl) (by kernel_rfl) (by kernel_rfl) (by kernel_rfl) (by kernel_rfl) (fun _ _ _ h => h) (Or.inl ⟨by rfl, ?_⟩) (by assumption) ?_
        rotate_left
        · intro w hSw
          (try dsimp only at hSw)
          go_simp
          (try with_reducible rfl)
        (try simp only [Act.put, List.setIfInBounds_toArray, List.set_cons_zero, List.set_cons_succ])
        refine wpAnyM_take (i := 7) (d := (some 32)) (v := ?_) rfl rfl (by kernel_rfl) (by kernel_rfl) (by kernel_rfl) (by kernel_rfl) (by kernel_rfl) (fun _ _ _ h => h) (Or.inl ⟨by rfl, ?_⟩) (by assumption) ?_
        rotate_left
        · intro w hSw
          (try dsimp only at hSw)
          go_simp
          (try with_reducible rfl)
        (try simp only [Act.put, List.setIfInBounds_toArray, List.set_cons_zero, List.set_cons_succ])
        refine wpAnyM_one (i := 4) (by kernel_rfl) ?_
        refine owe_early (i := 4) (d := (some 29)) rfl rfl (fun K hK => ?_)
        go_simp
        refine (HAP.out _ HB9.out.drew).mono ?_
        rintro en w9 ⟨rfl, rfl⟩
        refine hK.out _ _ (by go_keep) (fun hHeld => ?_)
        clear hK K
        (try simp only [Act.put, List.setIfInBounds_toArray, List.set_cons_zero, List.set_cons_succ])
        refine wpAnyM_one (i := 8) (by kernel_rfl) ?_
        refine owe_early (i := 8) (d := (some 33)) rfl rfl (fun K hK => ?_)
        go_simp
        refine (HAT.out _ HB9.out.drew).mono ?_
        rintro en w9 ⟨rfl, rfl⟩
        refine hK.out _ _ (by go_keep) (fun hHeld => ?_)
        clear hK K
        (try simp only [Act.put, List.setIfInBounds_toArray, List.set_cons_zero, List.set_cons_succ])
        refine wpAnyM_take (i := 9) (d := (some 34)) (v := ?_) rfl rfl (by kernel_rfl) (by kernel_rfl) (by kernel_rfl) (by kernel_rfl) (by kernel_rfl) (fun _ _ _ h => h) (Or.inl ⟨by rfl, ?_⟩) (by assumption) ?_
        rotate_left
        · intro w hSw
          (try dsimp only at hSw)
          go_simp
          (try with_reducible rfl)
        (try simp only [Act.put, List.setIfInBounds_toArray, List.set_cons_zero, List.set_cons_succ])
        refine wpAnyM_one (i := 10) (by kernel_rfl) ?_
        refine owe_early (i := 10) (d := (some 35)) rfl rfl (fun K hK => ?_)
        go_simp
        refine (HPR.out _ ((Below.refl _ w8).drew)).mono ?_
        rintro en w9 ⟨A9, m9, c9, ok9, rfl, hr9, hb9⟩
        have hbx : Below w8.heap.size w8 w9 := ((Below.refl _ w8).drew).trans hb9
        have HB10 := Lib.hid (HB8.out.trans (hbx.mono HB8.out.size))
        have HR10 := Lib.hid hr9
        have z0 := (HG8.out.below hbx HG8.out.lt).cell 0
        have z1 := (HG8.out.below hbx HG8.out.lt).cell 1
        clear hr9 hb9 hbx
        refine hK.out _ _ (by go_keep) (fun hHeld => ?_)
        clear hK K
        (try simp only [Act.put, List.setIfInBounds_toArray, List.set_cons_zero, List.set_cons_succ])
        refine wpAnyM_take (i := 11) (d := (some 24)) (v := ?_) rfl rfl (by kernel_rfl) (by kernel_rfl) (by kernel_rfl) (by kernel_rfl) (by kernel_rfl) (fun _ _ _ h => h) (Or.inl ⟨by rfl, ?_⟩) (by assumption) ?_
        rotate_left
        · intro w hSw
          (try dsimp only at hSw)
          go_simp
          (try with_reducible rfl)
        (try simp only [Act.put, List.setIfInBounds_toArray, List.set_cons_zero, List.set_cons_succ])
        refine wpAnyM_take (i := 12) (d := (some 36)) (v := ?_) rfl rfl (by kernel_rfl) (by kernel_rfl) (by kernel_rfl) (by kernel_rfl) (by kernel_rfl) (fun _ _ _ h => h) (Or.inl ⟨by rfl, ?_⟩) (by assumption) ?_
        rotate_left
        · intro w hSw
          (try dsimp only at hSw)
          go_simp
          (try with_reducible rfl)
        (try simp only [Act.put, List.setIfInBounds_toArray, List.set_cons_zero, List.set_cons_succ])
        refine wpAnyM_take (i := 13) (d := (some 37)) (v := ?_) rfl rfl (by kernel_rfl) (by kernel_rfl) (by kernel_rfl) (by kernel_rfl) (by kernel_rfl) (fun _ _ _ h => h) (Or.inl ⟨by rfl, ?_⟩) (by assumption) ?_
        rotate_left
        · intro w hSw
          (try dsimp only at hSw)
          go_simp
          (try with_reducible rfl)
        (try simp only [Act.put, List.setIfInBounds_toArray, List.set_cons_zero, List.set_cons_succ])
        refine wpAnyM_take (i := 14) (d := (some 9)) (v := ?_) rfl rfl (by kernel_rfl) (by kernel_rfl) (by kernel_rfl) (by kernel_rfl) (by kernel_rfl) (fun _ _ _ h => h) (Or.inl ⟨by rfl, ?_⟩) (by assumption) ?_
        rotate_left
        · intro w hSw
          (try dsimp only at hSw)
          go_simp
          (try with_reducible rfl)
        (try simp only [Act.put, List.setIfInBounds_toArray, List.set_cons_zero, List.set_cons_succ])
        refine wpAnyM_done (by kernel_rfl) ?_ _
        (try simp only [Act.put, List.setIfInBounds_toArray, List.set_cons_zero, List.set_cons_succ])
        skip
        clear z0 z1
        go_wp2
        go_roundw
        case rel => exact ⟨i + 1, m9, A9, c9, by go_num, hlt, rfl, HR10.out, HB10.out⟩
        case measure => simp [Lib.intOf]; omega
      · rw [decide_eq_false he] at hbq
        have HRN := Lib.hid (show rowsB T P (vs.take (i + 1)) g = rowsB T P (vs.take i) g from by rw [rowsB_next T P HX.out, if_neg (fun e => he e.symm)])
        clear he
        go_wp2_with (go_at_call 48; go_must (refine (rgroup_any xp _ HPO.out).mono ?_; rintro en w8 ⟨rfl, hb8⟩; have HB8 := Lib.hid (HB7.out.trans (hb8.mono HB7.out.size)); have HT8 := Lib.hid (HT7.out.on hb8); clear hb8))
        go_roundw
        case rel => exact ⟨i + 1, m, A', c', by go_num, hlt, rfl, by rw [HRN.out]; exact HT8.out, HB8.out⟩
        case measure => simp [Lib.intOf]; omega
    · obtain rfl : i = n := by omega
      have hq : ¬ (i : Int) < (i : Int) := by omega
      go_wp2
      go_ret
      exact ⟨_, _, _, rfl, by have h := HT.out; rw [List.take_of_length_le (by rw [HN.out]; exact Nat.le_refl _)] at h; exact h, HB.out⟩
-- END rows
end Go.Proofs.YtfpepdjffehbcaaGreat
