/-
  slices.Sort at a row of texts of the call's own. Condition: the row is within the reach.
-/
import Derived.Test.YtagekiaejhjpnaaPoolStr
import Derived.Test.YtagekiaejhjpnaaSortSLay
namespace Go.Proofs.Ytagekiaejhjpnaa
open Go.RowKit Go.Shelf Go.Sort

theorem le_bl (x y : List UInt8) : decide (x ≤ y) = !Op.bytesLess y x := by
  rw [bytesLess_eq]
  by_cases h : y < x
  · rw [decide_eq_true h, decide_eq_false (fun hle => hle h)]
    rfl
  · rw [decide_eq_false h, decide_eq_true (show x ≤ y from h)]
    rfl
def baL (s : ByteArray) : List UInt8 := s.data.toList
def baB (l : List UInt8) : ByteArray := ⟨l.toArray⟩
theorem baB_baL (s : ByteArray) : baB (baL s) = s := by
  obtain ⟨⟨x⟩⟩ := s
  rfl
theorem baL_baB (l : List UInt8) : baL (baB l) = l := rfl
theorem enc_ba (s : ByteArray) : encStr (baL s) = .string s := congrArg Value.string (baB_baL s)
theorem map_enc (l : List ByteArray) : (l.map baL).map encStr = l.map Value.string := by
  rw [List.map_map]
  exact List.map_congr_left fun s _ => enc_ba s
/-- What the sort makes of a list. -/
def sortT (l : List ByteArray) : List ByteArray := ((l.map baL).mergeSort fun x y => decide (x ≤ y)).map baB
theorem sortT_perm (l : List ByteArray) : (sortT l).Perm l := by
  have h := (List.mergeSort_perm (l.map baL) (fun x y => decide (x ≤ y))).map baB
  have e : (l.map baL).map baB = l := by
    rw [List.map_map]
    conv => rhs; rw [← List.map_id l]
    exact List.map_congr_left fun s _ => baB_baL s
  rwa [e] at h
theorem sortT_sorted (l : List ByteArray) : (sortT l).Pairwise fun x y => bl y x = false := by
  have h := List.pairwise_mergeSort (le := fun x y : List UInt8 => decide (x ≤ y)) (fun a b c h1 h2 => by
      rw [le_bl] at *
      cases h3 : Op.bytesLess c a
      · rfl
      · cases h4 : Op.bytesLess b a
        · cases h5 : Op.bytesLess a b
          · have := bl_conn _ _ h4 h5
            subst this
            rw [h3] at h2
            cases h2
          · have := bl_trans _ _ _ h3 h5
            rw [this] at h2
            cases h2
        · rw [h4] at h1
          cases h1) (fun a b => by
      rw [le_bl, le_bl]
      cases h3 : Op.bytesLess b a
      · rfl
      · cases h4 : Op.bytesLess a b
        · rfl
        · have := bl_trans _ _ _ h3 h4
          rw [bl_irr] at this
          cases this) (l.map baL)
  unfold sortT
  rw [List.pairwise_map]
  refine h.imp fun {x y} hxy => ?_
  rw [le_bl] at hxy
  unfold bl
  rw [Lib.toList_data, Lib.toList_data]
  simpa [baB] using hxy
theorem sortT_len (l : List ByteArray) : (sortT l).length = l.length := (sortT_perm l).length_eq
/-- A list without doubles, sorted, is its pool. -/
theorem sortT_pool {l : List ByteArray} (hd : l.Nodup) : sortT l = poolL bl l := by
  have hp : l.Perm (poolL bl l) := by
    refine (List.perm_ext_iff_of_nodup hd ?_).2 fun x => (poolL_mem l x).symm
    exact (poolL_rise blT l).imp fun {x y} h => blT.ne h
  exact perm_rising bl (poolL bl l) (sortT l) ((sortT_perm l).trans hp) (poolL_rise blT l) (sortT_sorted l)
theorem own_holdsS {w : World} {base g c : Nat} {e : TypeId} {l : List ByteArray} (h : w.ownsRow base e 1 (.slice (some ⟨g, 0, none⟩) l.length c) l.length (l.map Value.string)) : Holds encStr w g 0 (l.map baL).toArray ∧ g < w.heap.size := by
  have h0 := h
  obtain ⟨h1, h2⟩ := h
  rcases h2 with ⟨h2, -⟩ | ⟨g', cap, cur, hv, hb, hh, hn, hm, hcs, hx⟩
  · cases h2
  · cases hv
    refine ⟨fun j hj => ?_, (Array.getElem?_eq_some_iff.1 hh).1⟩
    have hj2 : j < (l.map baL).length := by simpa using hj
    have hj3 : j < l.length := by simpa using hj2
    have e1 : encStr (l.map baL).toArray[j]! = .string l[j] := by
      rw [_root_.getElem!_pos _ j (by simpa using hj3)]
      simp only [List.getElem_toArray, List.getElem_map]
      exact enc_ba _
    have e2 : (l.map Value.string)[j]? = some (.string l[j]) := by simp [hj3]
    rw [← hx, List.getElem?_take] at e2
    split at e2
    · rw [Array.getElem?_toList] at e2
      constructor
      · rw [e1]
        simp only [World.cell?, hh, Nat.zero_add]
        simpa using e2
      · simp [World.frozen?, hh]
    · cases e2
theorem putRow_block {w : World} (blk : Nat) (d : Array (List UInt8)) (q : Nat) (os : Array Obj) (i : Nat) (hi : i < w.heap.size) (hne : i ≠ blk) : (grow (putRow encStr (Sort.ahead w q) blk 0 d) os).heap[i]? = w.heap[i]? := by
  simp only [grow, putRow, mapBlock, Sort.ahead]
  rw [Array.getElem?_append_left (by simpa using hi), Array.getElem?_modify, if_neg (fun e => hne e.symm)]
theorem putRow_grown {w : World} (blk : Nat) (d : Array (List UInt8)) (q : Nat) (os : Array Obj) : w.grownBy (grow (putRow encStr (Sort.ahead w q) blk 0 d) os) (some blk) :=
  ⟨rfl, rfl, rfl, by simp [grow, putRow, mapBlock, Sort.ahead], fun i hi hne => putRow_block blk d q os i hi (fun e => hne (by rw [e]))⟩
theorem own_sortedS {w : World} {base g c n : Nat} {e : TypeId} {xs : List Value} {l : List ByteArray} (h : w.ownsRow base e 1 (.slice (some ⟨g, 0, none⟩) n c) n xs) (hl : l.length = n) (q : Nat) (os : Array Obj) :
    (grow (putRow encStr (Sort.ahead w q) g 0 (l.map baL).toArray) os).ownsRow base e 1 (.slice (some ⟨g, 0, none⟩) n c) n (l.map Value.string) := by
  obtain ⟨h1, h2⟩ := h
  refine ⟨by simp [hl], ?_⟩
  rcases h2 with ⟨h2, -⟩ | ⟨g', cap, cur, hv, hb, hh, hn, hm, hcs, hx⟩
  · cases h2
  · cases hv
    have hg : g < w.heap.size := (Array.getElem?_eq_some_iff.1 hh).1
    refine .inr ⟨g, c, putCells encStr 0 (l.map baL).toArray cur, rfl, hb, ?_, hn, hm, by simp [putCells, hcs], ?_⟩
    · simp only [grow, putRow, mapBlock, Sort.ahead]
      rw [Array.getElem?_append_left (by simpa using hg), Array.getElem?_modify, if_pos rfl, hh]
      rfl
    · apply List.ext_getElem?
      intro t
      rw [List.getElem?_take]
      split
      · rename_i ht
        have ht2 : t < l.length := by omega
        have hc : t < cur.size := by rw [hcs]; omega
        rw [Array.getElem?_toList]
        simp only [putCells, Array.getElem?_mapIdx, Nat.zero_add, Nat.sub_zero, Nat.zero_le, true_and]
        rw [Array.getElem?_eq_getElem hc]
        simp only [Option.map_some, List.size_toArray, List.length_map]
        rw [if_pos ht2, _root_.getElem!_pos _ t (by simpa using ht2)]
        simp only [List.getElem_toArray, List.getElem_map]
        rw [enc_ba]
        simp [ht2]
      · rename_i ht
        rw [List.getElem?_eq_none (by simp [hl]; omega)]
def SortPost (base : Nat) (e : TypeId) (v : Value) (l : List ByteArray) (w : World) (en : Ending) (w' : World) : Prop := en = .returned (.tuple #[]) ∧ w'.ownsRow base e 1 v l.length ((sortT l).map Value.string) ∧ w.grownBy w' v.ownBlock
theorem sortS_any (v : Value) (l : List ByteArray) (w : World) (base : Nat) (e : TypeId) (ho : w.ownsRow base e 1 v l.length (l.map Value.string)) (hl : l.length < 4611686018427387904) :
    Calls Try.prog 29 #[v] w (SortPost base e v l w) := by
  rcases Nat.eq_zero_or_pos l.length with h0 | h0
  · have hl0 : l = [] := List.eq_nil_of_length_eq_zero h0
    subst hl0
    obtain ⟨A, c, rfl, -, -, -⟩ := own_form ho
    exact (Go.Proofs.Any.slices_Sort_string_none sortS A c w).mono fun en w' ⟨h1, h2⟩ => by
      rw [h2]
      exact ⟨h1, by simpa [sortT] using ho, World.grownBy.refl w _⟩
  · obtain ⟨h1, h2⟩ := id ho
    rcases h2 with ⟨-, h2⟩ | ⟨g, c, cur, rfl, -⟩
    · simp at h2
      rw [h2] at h0
      simp at h0
    · obtain ⟨hH, hg⟩ := own_holdsS ho
      have hcon := Go.Proofs.Any.slices_Sort_string sortS g 0 c (l.map baL) w hH hg (by simpa using hl)
      rw [List.length_map] at hcon
      refine hcon.mono ?_
      rintro en w' ⟨h3, q, os, rfl⟩
      have e : ((l.map baL).mergeSort fun x y => decide (x ≤ y)) = (sortT l).map baL := by
        unfold sortT
        rw [List.map_map]
        conv => lhs; rw [← List.map_id ((l.map baL).mergeSort fun x y => decide (x ≤ y))]
        exact List.map_congr_left fun s _ => rfl
      rw [e]
      exact ⟨h3, own_sortedS ho (sortT_len l) q os, putRow_grown g _ q os⟩
end Go.Proofs.Ytagekiaejhjpnaa
