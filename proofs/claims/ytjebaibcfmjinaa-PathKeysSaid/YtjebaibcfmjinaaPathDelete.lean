/-
  The walk of slices.Delete at one key. Condition: at most 1000000 keys, a row of the call's own.
-/
import Derived.Test.YtjebaibcfmjinaaPathWith
import Derived.Deep.RegionLaw
import Derived.Lib.SliceRun
namespace Go.Proofs.Ytjebaibcfmjinaa
open Go.RowKit

/-- Cells written over from a place on. -/
def wrs : List Value → Nat → List Value → List Value
  | xs, _, [] => xs
  | xs, o, v :: r => wrs (xs.set o v) (o + 1) r
theorem wrs_at : ∀ (vs xs : List Value) (o t : Nat), o + vs.length ≤ xs.length → (wrs xs o vs)[t]? = if o ≤ t ∧ t < o + vs.length then vs[t - o]? else xs[t]?
  | [], xs, o, t, _ => by
    rw [if_neg (by simp only [List.length_nil]; omega)]
    rfl
  | v :: r, xs, o, t, h => by
    simp only [List.length_cons] at h
    rw [wrs, wrs_at r (xs.set o v) (o + 1) t (by simp; omega)]
    simp only [List.length_cons]
    by_cases h1 : o + 1 ≤ t ∧ t < o + 1 + r.length
    · rw [if_pos h1, if_pos (by omega), show t - o = (t - (o + 1)) + 1 by omega, List.getElem?_cons_succ]
    · rw [if_neg h1]
      by_cases h2 : t = o
      · subst h2
        rw [if_pos (by omega), Nat.sub_self, List.getElem?_set_self (by omega)]
        rfl
      · rw [if_neg (by omega), List.getElem?_set_ne (fun e => h2 e.symm)]
theorem wrs_len : ∀ (vs xs : List Value) (o : Nat), (wrs xs o vs).length = xs.length
  | [], _, _ => rfl
  | v :: r, xs, o => by rw [wrs, wrs_len r]; simp
theorem own_setCells {base g n c size : Nat} {e : TypeId} : ∀ (vs : List Value) (w : World) (xs : List Value) (o : Nat), w.ownsRow base e size (.slice (some ⟨g, 0, none⟩) n c) n xs → (w.setCells g o vs).ownsRow base e size (.slice (some ⟨g, 0, none⟩) n c) n (wrs xs o vs)
  | [], _, _, _, h => h
  | v :: r, w, xs, o, h => own_setCells r (w.setCell ⟨g, o, none⟩ v) (xs.set o v) (o + 1) (own_set h o v)
theorem setCells_grown (g : Nat) : ∀ (vs : List Value) (w : World) (o : Nat), w.grownBy (w.setCells g o vs) (some g)
  | [], w, _ => Only.refl g w
  | v :: r, w, o => Only.trans (((Only.refl g w).setCell (p := ⟨g, o, none⟩) (.inl rfl) v)) (setCells_grown g r (w.setCell ⟨g, o, none⟩ v) (o + 1))
theorem own_shorter {w : World} {base g n c : Nat} {e : TypeId} {xs : List Value} (h : w.ownsRow base e 2 (.slice (some ⟨g, 0, none⟩) n c) n xs) {k : Nat} (hk : k ≤ n) : w.ownsRow base e 2 (.slice (some ⟨g, 0, none⟩) k c) k (xs.take (k * 2)) := by
  obtain ⟨h1, h2⟩ := h
  refine ⟨by rw [List.length_take, h1]; omega, ?_⟩
  rcases h2 with ⟨h2, -⟩ | ⟨g', cap, cur, hv, hb, hh, hn, hm, hcs, hx⟩
  · cases h2
  · cases hv
    refine .inr ⟨g, c, cur, rfl, hb, hh, by omega, hm, hcs, ?_⟩
    rw [← hx, List.take_take, Nat.min_eq_left (by omega)]
/-- What the moved cells and the cleared ones leave. -/
theorem erase_cells {ks : List PKey} {i : Nat} (hi : i < ks.length) (z : List Value) (hz : z.length = 2) :
    (wrs (wrs (pairCells ks) (i * 2) (pairCells (ks.drop (i + 1)))) ((ks.length - 1) * 2) z).take ((ks.length - 1) * 2) = pairCells (ks.eraseIdx i) := by
  have hl : ∀ l : List PKey, (pairCells l).length = l.length * 2 := fun l => cells2_len kA kB l
  have e1 : ks.eraseIdx i = ks.take i ++ ks.drop (i + 1) := List.eraseIdx_eq_take_drop_succ ..
  have e2 : pairCells (ks.take i ++ ks.drop (i + 1)) = pairCells (ks.take i) ++ pairCells (ks.drop (i + 1)) := by simp [pairCells]
  have e3 : pairCells (ks.take i) = (pairCells ks).take (i * 2) := by
    have h := congrArg (List.take (i * 2)) (show pairCells ks = pairCells (ks.take i) ++ pairCells (ks.drop i) by rw [show pairCells (ks.take i) ++ pairCells (ks.drop i) = pairCells (ks.take i ++ ks.drop i) by simp only [pairCells, List.flatMap_append], List.take_append_drop])
    rw [h, List.take_left' (by rw [hl, List.length_take]; omega)]
  have hd : (pairCells (ks.drop (i + 1))).length = (ks.length - (i + 1)) * 2 := by rw [hl, List.length_drop]
  apply List.ext_getElem?
  intro t
  rw [List.getElem?_take, e1, e2]
  split
  · rename_i ht
    rw [wrs_at _ _ _ _ (by rw [wrs_len, hl, hz]; omega), if_neg (by omega), wrs_at _ _ _ _ (by rw [hd, hl]; omega), hd]
    by_cases h : i * 2 ≤ t
    · rw [if_pos (by omega), List.getElem?_append_right (by rw [hl, List.length_take]; omega), hl, List.length_take, Nat.min_eq_left (by omega)]
    · rw [if_neg (by omega), List.getElem?_append_left (by rw [hl, List.length_take]; omega), e3, List.getElem?_take, if_pos (by omega)]
  · rw [List.getElem?_eq_none]
    rw [List.length_append, hl, hd, List.length_take]
    omega
theorem run_clear_pair (w : World) (ty : TypeId) (g o c : Nat) (hc : ∀ j, j < 2 → (w.cell? ⟨g, o + j, none⟩).isSome = true) (hf : ∀ j, j < 2 → w.frozen? ⟨g, o + j, none⟩ = false) :
    (Builtin.clear_ #[38] ty #[.slice (some ⟨g, o, none⟩) 1 c]).run Try.prog w = .ok (.tuple #[]) (w.setCells g o [.string ByteArray.empty, .string ByteArray.empty]) := by
  have hz : ∀ w, (zeroValue 51).run Try.prog w = .ok (.agg #[.string ByteArray.empty, .string ByteArray.empty]) w := fun w => by kernel_rfl
  have hzc : (Builtin.zeroCells (Value.agg #[.string ByteArray.empty, .string ByteArray.empty]).cells 1).toList = [.string ByteArray.empty, .string ByteArray.empty] := by kernel_rfl
  have hst := run_storeCells_cells (P := Try.prog) g o [.string ByteArray.empty, .string ByteArray.empty] 0 w (by simpa using hc) (by simpa using hf) (by simp [Value.oneCell'])
  simp only [Nat.add_zero] at hst
  simp [Builtin.clear_, run_underlying Try.underlying38, hz, hzc, hst]
set_option maxHeartbeats 4000000 in
set_option maxRecDepth 1000000 in
theorem delete_any (g c i : Nat) (ks : List PKey) (base : Nat) (w : World) (ho : w.ownsRow base 51 2 (.slice (some ⟨g, 0, none⟩) ks.length c) ks.length (pairCells ks)) (hi : i < ks.length) (hs : ks.length ≤ 1000000) :
    Calls Try.prog 46 #[.slice (some ⟨g, 0, none⟩) ks.length c, .int .i64 (i : Int), .int .i64 ((i : Int) + 1)] w fun en w' => en = .returned (.slice (some ⟨g, 0, none⟩) (ks.length - 1) c) ∧
      w'.ownsRow base 51 2 (.slice (some ⟨g, 0, none⟩) (ks.length - 1) c) (ks.length - 1) (pairCells (ks.eraseIdx i)) ∧ w.grownBy w' (some g) := by
  obtain ⟨A0, c0, e0, hnc, hcm, -⟩ := own_form ho
  cases e0
  have HO := Lib.hid ho
  generalize hn : ks.length = n at *
  have HN := Lib.hid hn
  clear hn ho
  have hni : (i : Int) + 1 ≤ (n : Int) := by omega
  have hnl : (n : Int) ≤ (c : Int) := by omega
  have hn6 : (n : Int) ≤ 1000000 := by omega
  have hne : ((i : Int) == (i : Int) + 1) = false := by rw [beq_eq_false_iff_ne]; omega
  obtain ⟨i0, hi0, hz0, hz1, hz2⟩ := info_parts pair_info
  go_enter Try.func46, Try.ntmps46
  obtain ⟨A, hA, hsrc⟩ : ∃ A : Addr, (if c = i + 1 then some (⟨g, 0, none⟩ : Addr) else some ⟨g, (i + 1) * 2, none⟩) = some A ∧ Hid (∀ t u, (pairCells (ks.drop (i + 1)))[t]? = some u → w.drew.cell? (A.add t) = some u) := by
    have hd : pairCells (ks.drop (i + 1)) = (pairCells ks).drop ((i + 1) * 2) := by
      have h := congrArg (List.drop ((i + 1) * 2)) (show pairCells ks = pairCells (ks.take (i + 1)) ++ pairCells (ks.drop (i + 1)) by rw [show pairCells (ks.take (i + 1)) ++ pairCells (ks.drop (i + 1)) = pairCells (ks.take (i + 1) ++ ks.drop (i + 1)) by simp only [pairCells, List.flatMap_append], List.take_append_drop])
      rw [h, List.drop_left' (by rw [show (pairCells (ks.take (i + 1))).length = _ from cells2_len kA kB _, List.length_take]; have := HN.out; omega)]
    by_cases h : c = i + 1
    · refine ⟨⟨g, 0, none⟩, by simp [h], fun t u hu => ?_⟩
      have h0 : (pairCells (ks.drop (i + 1))).length = 0 := by rw [show (pairCells (ks.drop (i + 1))).length = _ from cells2_len kA kB _, List.length_drop, HN.out]; omega
      rw [List.length_eq_zero_iff.1 h0] at hu
      simp at hu
    · refine ⟨⟨g, (i + 1) * 2, none⟩, by simp [h], fun t u hu => ?_⟩
      rw [hd, List.getElem?_drop] at hu
      have := own_cell HO.out _ _ hu
      by_cases ht : t = 0
      · subst ht
        simpa [Addr.add] using this
      · simpa [Addr.add, ht] using this
  have s1 := Lib.hid (show (pairCells (ks.drop (i + 1))).length = (n - (i + 1)) * 2 by rw [show (pairCells (ks.drop (i + 1))).length = _ from cells2_len kA kB _, List.length_drop, HN.out])
  have s2 : Hid (∀ u ∈ pairCells (ks.drop (i + 1)), u.oneCell' = true) := by
    intro u hu
    obtain ⟨x, _, hx⟩ := List.mem_flatMap.1 hu
    simp at hx
    rcases hx with rfl | rfl <;> rfl
  have s3 : Hid (∀ t, t < (pairCells (ks.drop (i + 1))).length → (w.drew.cell? ⟨g, 0 + i * 2 + t, none⟩).isSome = true ∧ w.drew.frozen? ⟨g, 0 + i * 2 + t, none⟩ = false) := by
    intro t ht
    have ht2 := s1.out
    have hlt : i * 2 + t < (pairCells ks).length := by rw [show (pairCells ks).length = _ from cells2_len kA kB _, HN.out]; omega
    rw [Nat.zero_add]
    refine ⟨?_, own_free HO.out _⟩
    show (w.cell? _).isSome = true
    rw [own_cell HO.out _ _ (List.getElem?_eq_getElem hlt)]
    rfl
  obtain ⟨news, hnews⟩ : ∃ news, news = pairCells (ks.drop (i + 1)) := ⟨_, rfl⟩
  rw [← hnews] at hsrc s1 s2 s3
  obtain ⟨W1, hW1⟩ : ∃ W1, W1 = w.drew.setCells g (0 + i * 2) news := ⟨_, rfl⟩
  have hO1 : W1.ownsRow base 51 2 (.slice (some ⟨g, 0, none⟩) n c) n (wrs (pairCells ks) (i * 2) (pairCells (ks.drop (i + 1)))) := by
    rw [hW1, hnews, Nat.zero_add]
    exact own_setCells _ w.drew _ _ HO.out
  have HG1 := Lib.hid (show w.grownBy W1 (some g) from by rw [hW1]; exact Only.trans ((Only.refl g w).drew) (setCells_grown g news w.drew (0 + i * 2)))
  have hw1 : ∀ j, j < 2 → (W1.cell? ⟨g, (n - 1) * 2 + j, none⟩).isSome = true := fun j hj => by
    have hlt : (n - 1) * 2 + j < (wrs (pairCells ks) (i * 2) (pairCells (ks.drop (i + 1)))).length := by rw [wrs_len, show (pairCells ks).length = _ from cells2_len kA kB _, HN.out]; omega
    rw [own_cell hO1 _ _ (List.getElem?_eq_getElem hlt)]
    rfl
  have hcl : ∀ ty cc, (Builtin.clear_ #[38] ty #[.slice (some ⟨g, (n - 1) * 2, none⟩) 1 cc]).run Try.prog W1 = .ok (.tuple #[]) (W1.setCells g ((n - 1) * 2) [.string ByteArray.empty, .string ByteArray.empty]) := fun ty cc => run_clear_pair W1 ty g _ cc hw1 (fun j hj => own_free hO1 _)
  have HO1 := Lib.hid hO1
  have HW := Lib.hid hW1
  have HNW := Lib.hid hnews
  have hic : (i : Int) ≤ (c : Int) := by omega
  have hi1 : (0 : Int) ≤ (i : Int) + 1 := by omega
  clear hW1 hO1 hnews hw1
  go_wp2_with fail
  go_region_law (refine step_append_room rfl (.tmp 22) (.tmp 25) 38 rfl 51 i0 2 Try.underlying38 hi0 hz1 g 0 i c (by simp [Act.eval, Act.put]) A (n - (i + 1)) (c - (i + 1)) news (by simp [Act.eval, Act.put]) s1.out hsrc.out s2.out (by omega) s3.out ?_; rw [← HW.out])
  have hsum : i + (n - (i + 1)) = n - 1 := by omega
  rw [hsum]
  have hm1 : ((n - 1 : Nat) : Int) ≤ (n : Int) := by omega
  have hm2 : n - (n - 1) = 1 := by omega
  go_wp2_with fail
  go_ret
  refine ⟨rfl, ?_, grown_trans HG1.out (setCells_grown g _ W1 _) (fun k e => .inl e)⟩
  have h := own_shorter (own_setCells [.string ByteArray.empty, .string ByteArray.empty] W1 _ ((n - 1) * 2) HO1.out) (k := n - 1) (by omega)
  have he := erase_cells (ks := ks) (i := i) (by rw [HN.out]; exact hi) [.string ByteArray.empty, .string ByteArray.empty] rfl
  rw [HN.out] at he
  rw [he] at h
  exact h
end Go.Proofs.Ytjebaibcfmjinaa
/-
  What Without leaves, said plainly. No condition.
-/
namespace Go.Proofs.Ytjebaibcfmjinaa
open Go.RowKit Go.Shelf

def HasK (ks : List PKey) (key : ByteArray) : Prop := ∃ k ∈ ks, k.1 = key
/-- What is left of the steps without the key. -/
def WoIs (l : List PStep) (key : ByteArray) (r : Option (List PStep)) : Prop :=
  (r = none ∧ ∀ st ∈ l, ¬ HasK st.2 key) ∨ ∃ (i : Nat) (st : PStep), l[i]? = some st ∧ HasK st.2 key ∧ (∀ (j : Nat) (st' : PStep), i < j → l[j]? = some st' → ¬ HasK st'.2 key) ∧ r = some (l.set i (st.1, dropK st.2 key))
theorem woIs_unique {l : List PStep} {key : ByteArray} {r r' : Option (List PStep)} (h : WoIs l key r) (h' : WoIs l key r') : r = r' := by
  rcases h with ⟨rfl, hn⟩ | ⟨i, st, hi, hs, hl, rfl⟩
  · rcases h' with ⟨rfl, -⟩ | ⟨i', st', hi', hs', -, -⟩
    · rfl
    · exact absurd hs' (hn st' (List.mem_of_getElem? hi'))
  · rcases h' with ⟨rfl, hn⟩ | ⟨i', st', hi', hs', hl', rfl⟩
    · exact absurd hs (hn st (List.mem_of_getElem? hi))
    · rcases Nat.lt_trichotomy i i' with h | rfl | h
      · exact absurd hs' (hl i' st' h hi')
      · rw [hi] at hi'
        cases hi'
        rfl
      · exact absurd hs (hl' i st h hi)
theorem erase_drop : ∀ (ks : List PKey) (j : Nat) (k : PKey) (key : ByteArray), RisesK ks → ks[j]? = some k → k.1 = key → ks.eraseIdx j = dropK ks key
  | [], _, _, _, _, h, _ => by simp at h
  | x :: ks, 0, k, key, hr, h, e => by
    simp at h
    subst h
    have h1 := (List.pairwise_cons.1 hr).1
    simp only [List.eraseIdx_cons_zero, dropK, List.filter_cons, e]
    rw [if_neg (by simp)]
    symm
    rw [List.filter_eq_self]
    intro y hy
    simp only [decide_eq_true_eq]
    intro e2
    have := h1 y hy
    rw [e, e2, bl_irr] at this
    cases this
  | x :: ks, j + 1, k, key, hr, h, e => by
    simp only [List.getElem?_cons_succ] at h
    have h1 := (List.pairwise_cons.1 hr).1 k (List.mem_of_getElem? h)
    have h2 : x.1 ≠ key := fun e2 => by rw [e2, e, bl_irr] at h1; cases h1
    simp only [List.eraseIdx_cons_succ, dropK, List.filter_cons]
    rw [if_pos (by simpa using h2), erase_drop ks j k key (List.pairwise_cons.1 hr).2 h e]
    rfl
theorem stepCells_set : ∀ (l : List PStep) (vs : List Value) (i : Nat) (st : PStep) (ks : List PKey) (v : Value), l[i]? = some st → vs.length = l.length → stepCells (l.set i (st.1, ks)) (vs.set i v) = (stepCells l vs).set (i * 2 + 1) v
  | [], _, _, _, _, _, h, _ => by simp at h
  | x :: l, [], _, _, _, _, _, h => by simp at h
  | x :: l, y :: vs, 0, st, ks, v, h, _ => by
    simp at h
    subst h
    simp [stepCells]
  | x :: l, y :: vs, i + 1, st, ks, v, h, hl => by
    simp only [List.getElem?_cons_succ] at h
    have ih := stepCells_set l vs i st ks v h (by simpa using hl)
    rw [show (i + 1) * 2 + 1 = i * 2 + 1 + 1 + 1 by omega]
    simpa [stepCells] using ih
theorem steps_set {w W : World} {base bs c i : Nat} {l : List PStep} {vs : List Value} {kv v' : Value} {st : PStep} {ks' : List PKey} (hI : StepsIn w base (.slice (some ⟨bs, 0, none⟩) l.length c) l vs) (hst : l[i]? = some st) (hkv : vs[i]? = some kv)
    (hg : w.grownBy W kv.ownBlock) (ho : W.ownsRow base 51 2 v' ks'.length (pairCells ks')) :
    StepsR (W.setCell ⟨bs, i * 2 + 1, none⟩ v') (.slice (some ⟨bs, 0, none⟩) l.length c) (l.set i (st.1, ks')) (vs.set i v') := by
  have hrow := row_stays hI hst hkv hg
  have hset := own_set hrow (i * 2 + 1) v'
  rw [← stepCells_set l vs i st ks' v' hst hI.1] at hset
  obtain ⟨A9, c9, e9, g1, g2, g3⟩ := own_form hset
  cases e9
  have hll : (l.set i (st.1, ks')).length = l.length := by simp
  have hO : W.grownBy (W.setCell ⟨bs, i * 2 + 1, none⟩ v') (some bs) := (Only.refl bs W).setCell (.inl rfl) v'
  have hkeep : ∀ (u : Value) (ks : List PKey), W.ownsRow base 51 2 u ks.length (pairCells ks) → KeysAt (W.setCell ⟨bs, i * 2 + 1, none⟩ v') (W.setCell ⟨bs, i * 2 + 1, none⟩ v').heap.size u ks := fun u ks h => by
    have h9 := h.kept hO (by
      cases hu : u.ownBlock with
      | none => exact .inl rfl
      | some a => exact .inr fun e => own_other h hrow (by decide) a hu (by cases e; rfl))
    obtain ⟨A', c', rfl, a, b, hr⟩ := own_form h9
    exact ⟨A', c', rfl, a, b, hr⟩
  refine ⟨_, c, by rw [hll], by rw [hll]; exact g1, g2, by rw [hll]; exact g3, by simp [hI.1], fun j st' kj hj hkj => ?_⟩
  by_cases hji : j = i
  · subst hji
    have hlt := (List.getElem?_eq_some_iff.1 hst).1
    rw [List.getElem?_set_self hlt] at hj
    rw [List.getElem?_set_self (by rw [hI.1]; exact hlt)] at hkj
    cases hj
    cases hkj
    exact hkeep _ _ ho
  · rw [List.getElem?_set_ne (fun e => hji e.symm)] at hj hkj
    exact hkeep _ _ (keys_stay hI hkv hg hji hj hkj)
def WithoutPost (p key : ByteArray) (w : World) (en : Ending) (w' : World) : Prop := Below w.heap.size w w' ∧
  (((∃ e, parseM p = .error e) ∧ en = .returned (.tuple #[.string ⟨#[]⟩, .bool false])) ∨
   ∃ l, parseM p = .ok l ∧ ((WoIs l key none ∧ en = .returned (.tuple #[.string p, .bool false])) ∨ ∃ l', WoIs l key (some l') ∧ en = .returned (.tuple #[.string (putS (putM l')), .bool true])))
/-- None of these steps has the key. -/
def NoK (l : List PStep) (key : ByteArray) (pre : List (Fin l.length)) : Prop := ∀ (i : Fin l.length), i ∈ pre → ¬ HasK (l.get i).2 key
def HitK (l : List PStep) (key : ByteArray) (pre : List (Fin l.length)) (l' : List PStep) : Prop := ∃ ini last, pre = ini ++ [last] ∧ NoK l key ini ∧ HasK (l.get last).2 key ∧ l' = l.set last.val ((l.get last).1, dropK (l.get last).2 key)
theorem hitK_is {l : List PStep} {key : ByteArray} {pre : List (Fin l.length)} {l' : List PStep} (hD : Desc l.length pre) (h : HitK l key pre l') : WoIs l key (some l') := by
  obtain ⟨ini, last, rfl, h1, h2, rfl⟩ := h
  have hl := hD ini.length last (by simp)
  refine .inr ⟨last.val, l.get last, by simp, h2, ?_, rfl⟩
  intro j st' hj hst
  obtain ⟨hlt, rfl⟩ := List.getElem?_eq_some_iff.1 hst
  have hini : Desc l.length ini := fun a x hx => hD a x (by rw [List.getElem?_append_left (List.getElem?_eq_some_iff.1 hx).1]; exact hx)
  exact h1 ⟨j, hlt⟩ (desc_mem hini (.inl (by simp only; omega)))
theorem noK_is {l : List PStep} {key : ByteArray} {pre : List (Fin l.length)} (hD : Desc l.length pre) (hl : pre.length = l.length) (h : NoK l key pre) : WoIs l key none := by
  refine .inl ⟨rfl, ?_⟩
  intro st hst
  obtain ⟨j, hj, rfl⟩ := List.getElem_of_mem hst
  exact h ⟨j, hj⟩ (desc_mem hD (.inl (by simp only; omega)))
end Go.Proofs.Ytjebaibcfmjinaa
