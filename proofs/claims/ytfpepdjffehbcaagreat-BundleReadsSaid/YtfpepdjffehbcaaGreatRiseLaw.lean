/-
  A row of two-cell elements and the shelf's sort: plain lemmas, no program in sight. No condition.
-/
import Derived.Shelf.SlSortCmp.WholeK
import Derived.Lib.Bytealg
import Derived.Laws.Rows
import Derived.Test.YtfpepdjffehbcaaGreatBlocks
set_option linter.unusedVariables false
set_option linter.unusedSimpArgs false
namespace Go.Proofs.YtfpepdjffehbcaaGreat
open Go.RowKit Go.Shelf Go.Lib Go.Sort

/-- The cells of elements that have two each. -/
def cells2 {α : Type} (a b : α → Value) (l : List α) : List Value := l.flatMap fun x => [a x, b x]
theorem cells2_len {α : Type} (a b : α → Value) (l : List α) : (cells2 a b l).length = l.length * 2 := by
  induction l with
  | nil => rfl
  | cons x l ih => simp only [cells2, List.flatMap_cons, List.length_append, List.length_cons, List.length_nil] at ih ⊢; omega
theorem cells2_at {α : Type} (a b : α → Value) (l : List α) (i : Nat) (x : α) (h : l[i]? = some x) : (cells2 a b l)[i * 2]? = some (a x) ∧ (cells2 a b l)[i * 2 + 1]? = some (b x) := by
  induction l generalizing i with
  | nil => simp at h
  | cons y l ih =>
    cases i with
    | zero => simp at h; subst h; simp [cells2]
    | succ i =>
      simp only [List.getElem?_cons_succ] at h
      have := ih i h
      rw [show (i + 1) * 2 = i * 2 + 1 + 1 by omega]
      simpa [cells2] using this
theorem flat_cells2 {α : Type} [Inhabited α] (a b : α → Value) (d : Array α) : (flatK (fun x => [a x, b x]) 2 d).toList = cells2 a b d.toList := by
  apply List.ext_getElem?
  intro t
  rcases Nat.lt_or_ge t (d.size * 2) with h | h
  · have hs : t < (flatK (fun x => [a x, b x]) 2 d).size := by simpa using h
    have h1 := get_flatK (fun x => [a x, b x]) 2 d t h
    rw [_root_.getElem!_pos _ t hs] at h1
    rw [Array.getElem?_toList, Array.getElem?_eq_getElem hs, h1]
    have hi : t / 2 < d.size := by omega
    have hx : d.toList[t / 2]? = some d[t / 2]! := by rw [Array.getElem?_toList, Array.getElem?_eq_getElem hi, _root_.getElem!_pos d (t / 2) hi]
    obtain ⟨c0, c1⟩ := cells2_at a b d.toList (t / 2) _ hx
    rcases Nat.mod_two_eq_zero_or_one t with e | e
    · rw [show t / 2 * 2 = t by omega] at c0
      rw [c0, e]
      rfl
    · rw [show t / 2 * 2 + 1 = t by omega] at c1
      rw [c1, e]
      rfl
  · rw [List.getElem?_eq_none (by rw [Array.length_toList]; simpa using h), List.getElem?_eq_none (by rw [cells2_len]; simpa using h)]
/-- A row of the call's own, as the sort asks for it. -/
theorem own_holds {α : Type} [Inhabited α] {a b : α → Value} {w : World} {base g c : Nat} {e : TypeId} {d : Array α} (h : w.ownsRow base e 2 (.slice (some ⟨g, 0, none⟩) d.size c) d.size (cells2 a b d.toList)) (h0 : 0 < d.size) :
    HoldsK (fun x => [a x, b x]) 2 w g 0 d ∧ g < w.heap.size ∧ base ≤ g := by
  obtain ⟨h1, h2⟩ := h
  rcases h2 with ⟨h2, -⟩ | ⟨g', cap, cur, hv, hb, hh, hn, -, hcs, hx⟩
  · cases h2
  · cases hv
    have hlt : g < w.heap.size := (Array.getElem?_eq_some_iff.1 hh).1
    refine ⟨fun j hj => ?_, hlt, hb⟩
    have hj2 : j < d.size * 2 := by simpa using hj
    have e1 : (cells2 a b d.toList)[j]? = some (flatK (fun x => [a x, b x]) 2 d)[j]! := by
      rw [← flat_cells2, Array.getElem?_toList, Array.getElem?_eq_getElem hj, _root_.getElem!_pos (flatK (fun x => [a x, b x]) 2 d) j hj]
    have e2 : cur[j]? = some (flatK (fun x => [a x, b x]) 2 d)[j]! := by
      rw [← Array.getElem?_toList, ← e1, ← hx, List.getElem?_take, if_pos hj2]
    constructor
    · simp only [World.cell?, hh, Nat.zero_add]
      simpa using e2
    · simp [World.frozen?, hh]
theorem sortWorldK_block {α : Type} (enc : α → List Value) (k : Nat) [Inhabited α] (w : World) (blk m : Nat) (d : Array α) (os : Array Obj) (i : Nat) (hi : i < w.heap.size) (hne : i ≠ blk) : (sortWorldK enc k w blk 0 m d os).heap[i]? = w.heap[i]? := by
  simp only [sortWorldK, grow, putRowK, putRow, mapBlock, Sort.ahead]
  rw [Array.getElem?_append_left (by simpa using hi), Array.getElem?_modify, if_neg (fun e => hne e.symm)]
theorem sortWorldK_at {α : Type} (enc : α → List Value) (k : Nat) [Inhabited α] (w : World) (blk m : Nat) (d : Array α) (os : Array Obj) (c : Array Value) (t : TypeId) (fr : Nat × Nat) (h : w.heap[blk]? = some (.cells c t fr)) :
    (sortWorldK enc k w blk 0 m d os).heap[blk]? = some (.cells (putCells id 0 (flatK enc k d) c) t fr) := by
  have hi : blk < w.heap.size := (Array.getElem?_eq_some_iff.1 h).1
  simp only [sortWorldK, grow, putRowK, putRow, mapBlock, Sort.ahead]
  rw [Array.getElem?_append_left (by simpa using hi), Array.getElem?_modify, if_pos rfl, h]
  rfl
theorem sortWorldK_grown {α : Type} (enc : α → List Value) (k : Nat) [Inhabited α] (w : World) (blk m : Nat) (d : Array α) (os : Array Obj) : w.grownBy (sortWorldK enc k w blk 0 m d os) (some blk) :=
  ⟨rfl, rfl, rfl, by simp [sortWorldK, grow, putRowK, putRow, mapBlock, Sort.ahead], fun i hi hne => sortWorldK_block enc k w blk m d os i hi (fun e => hne (by rw [e]))⟩
/-- The row behind the sort. -/
theorem own_sorted {α : Type} [Inhabited α] {a b : α → Value} {w : World} {base g c n : Nat} {e : TypeId} {xs : List Value} {d' : Array α} (h : w.ownsRow base e 2 (.slice (some ⟨g, 0, none⟩) n c) n xs) (hd : d'.size = n) (m : Nat) (os : Array Obj) :
    (sortWorldK (fun x => [a x, b x]) 2 w g 0 m d' os).ownsRow base e 2 (.slice (some ⟨g, 0, none⟩) n c) n (cells2 a b d'.toList) := by
  obtain ⟨h1, h2⟩ := h
  refine ⟨by rw [cells2_len, Array.length_toList, hd], ?_⟩
  rcases h2 with ⟨h2, -⟩ | ⟨g', cap, cur, hv, hb, hh, hn, hm, hcs, hx⟩
  · cases h2
  · cases hv
    refine .inr ⟨g, c, _, rfl, hb, sortWorldK_at _ _ _ _ _ _ _ _ _ _ hh, hn, hm, by simp [putCells, hcs], ?_⟩
    apply List.ext_getElem?
    intro t
    rw [List.getElem?_take]
    split
    · rename_i ht
      have hs : t < (flatK (fun x => [a x, b x]) 2 d').size := by rw [size_flatK, hd]; exact ht
      have hc : t < cur.size := by rw [hcs]; exact Nat.lt_of_lt_of_le ht (Nat.mul_le_mul_right 2 hn)
      rw [← flat_cells2, Array.getElem?_toList, Array.getElem?_toList, Array.getElem?_eq_getElem hs]
      simp only [putCells, Array.getElem?_mapIdx, Nat.zero_add, Nat.sub_zero, Nat.zero_le, true_and]
      rw [Array.getElem?_eq_getElem hc]
      simp only [Option.map_some]
      rw [if_pos hs, _root_.getElem!_pos (flatK (fun x => [a x, b x]) 2 d') t hs]
      rfl
    · rename_i ht
      rw [List.getElem?_eq_none (by rw [cells2_len, Array.length_toList, hd]; omega)]
theorem own_cell {w : World} {base g n c size : Nat} {e : TypeId} {xs : List Value} (h : w.ownsRow base e size (.slice (some ⟨g, 0, none⟩) n c) n xs) (o : Nat) (u : Value) (hu : xs[o]? = some u) : w.cell? ⟨g, o, none⟩ = some u := by
  obtain ⟨h1, h2⟩ := h
  rcases h2 with ⟨h2, -⟩ | ⟨g', cap, cur, hv, hb, hh, hn, hm, hcs, hx⟩
  · cases h2
  · cases hv
    rw [cell_of_row w g o cur e (0, 0) hh, ← Array.getElem?_toList]
    rw [← hx, List.getElem?_take] at hu
    split at hu
    · exact hu
    · cases hu
theorem own_free {w : World} {base g n c size : Nat} {e : TypeId} {xs : List Value} (h : w.ownsRow base e size (.slice (some ⟨g, 0, none⟩) n c) n xs) (o : Nat) : w.frozen? ⟨g, o, none⟩ = false := by
  obtain ⟨h1, h2⟩ := h
  rcases h2 with ⟨h2, -⟩ | ⟨g', cap, cur, hv, hb, hh, hn, hm, hcs, hx⟩
  · cases h2
  · cases hv
    simp [World.frozen?, hh]
theorem own_set {w : World} {base g n c size : Nat} {e : TypeId} {xs : List Value} (h : w.ownsRow base e size (.slice (some ⟨g, 0, none⟩) n c) n xs) (o : Nat) (u : Value) : (w.setCell ⟨g, o, none⟩ u).ownsRow base e size (.slice (some ⟨g, 0, none⟩) n c) n (xs.set o u) := by
  obtain ⟨h1, h2⟩ := h
  refine ⟨by simpa using h1, ?_⟩
  rcases h2 with ⟨h2, -⟩ | ⟨g', cap, cur, hv, hb, hh, hn, hm, hcs, hx⟩
  · cases h2
  · cases hv
    refine .inr ⟨g, c, cur.setIfInBounds o u, rfl, hb, ?_, hn, hm, by simpa using hcs, ?_⟩
    · simp [World.setCell, Array.getElem?_modify, hh]
    · rw [Array.toList_setIfInBounds, ← hx, List.take_set]
theorem cells2_set {α : Type} (a b : α → Value) : ∀ (l : List α) (i : Nat) (x : α), ((cells2 a b l).set (i * 2) (a x)).set (i * 2 + 1) (b x) = cells2 a b (l.set i x)
  | [], _, _ => by simp [cells2]
  | y :: l, 0, x => by simp [cells2]
  | y :: l, i + 1, x => by
    have ih := cells2_set a b l i x
    rw [show (i + 1) * 2 = i * 2 + 1 + 1 by omega]
    simp only [cells2, List.flatMap_cons, List.set_cons_succ] at ih ⊢
    simpa using ih
/-- A list sorted and a permutation of a rising one is that one. -/
theorem perm_rising {α : Type} (lt : α → α → Bool) : ∀ (t l : List α), l.Perm t → t.Pairwise (fun x y => lt x y = true) → l.Pairwise (fun x y => lt y x = false) → l = t
  | [], l, hp, _, _ => by simpa using hp
  | x :: t, [], hp, _, _ => by have := hp.length_eq; simp at this
  | x :: t, y :: l, hp, ht, hl => by
    have hyx : y = x := by
      have hy : y ∈ x :: t := hp.mem_iff.1 (by simp)
      rcases List.mem_cons.1 hy with h | h
      · exact h
      · have h1 := (List.pairwise_cons.1 ht).1 y h
        have hx : x ∈ y :: l := hp.mem_iff.2 (by simp)
        rcases List.mem_cons.1 hx with h2 | h2
        · exact h2.symm
        · have h3 := (List.pairwise_cons.1 hl).1 x h2
          rw [h1] at h3
          cases h3
    subst hyx
    rw [perm_rising lt t l (List.Perm.cons_inv hp) (List.pairwise_cons.1 ht).2 (List.pairwise_cons.1 hl).2]
theorem sortedIn_pairwise {α : Type} [Inhabited α] (lt : α → α → Bool) (d : Array α) (h : SortedIn lt 0 d.size d) : d.toList.Pairwise (fun x y => lt y x = false) := by
  rw [List.pairwise_iff_getElem]
  intro i j hi hj hij
  have hi' : i < d.size := by simpa using hi
  have hj' : j < d.size := by simpa using hj
  have := h i j (Nat.zero_le _) hij hj'
  rw [_root_.getElem!_pos d i hi', _root_.getElem!_pos d j hj'] at this
  simpa using this
theorem permIn_perm {α : Type} [Inhabited α] (d d' : Array α) (h : PermIn 0 d.size d d') : d'.toList.Perm d.toList ∧ d'.size = d.size := by
  obtain ⟨h1, -, h3⟩ := h
  refine ⟨?_, h1⟩
  have e1 : d'.extract 0 d.size = d' := by rw [← h1]; simp
  have e2 : d.extract 0 d.size = d := by simp
  rwa [e1, e2] at h3
/-- What the sort leaves where the wanted list is known. -/
theorem sorts_to {α : Type} [Inhabited α] (lt : α → α → Bool) (d d' : Array α) (t : List α) (hp : PermIn 0 d.size d d') (hs : SortedIn lt 0 d.size d') (ht : d.toList.Perm t) (hr : t.Pairwise (fun x y => lt x y = true)) : d'.toList = t ∧ d'.size = d.size := by
  obtain ⟨h1, h2⟩ := permIn_perm d d' hp
  exact ⟨perm_rising lt t _ (h1.trans ht) hr (sortedIn_pairwise lt d' (by rw [h2]; exact hs)), h2⟩
theorem cb_less : ∀ a b : List UInt8, decide (Lib.compareBytes a b < 0) = Op.bytesLess a b
  | [], [] => by simp [Lib.compareBytes, Op.bytesLess]
  | [], _ :: _ => by simp [Lib.compareBytes, Op.bytesLess]
  | _ :: _, [] => by simp [Lib.compareBytes, Op.bytesLess]
  | a :: u, b :: v => by
    have ih := cb_less u v
    simp only [Lib.compareBytes, Op.bytesLess]
    by_cases h1 : a < b
    · simp [h1]
    · by_cases h2 : b < a
      · have h3 : ¬ a = b := fun e => by subst e; exact h1 h2
        simp [h1, h2, h3]
      · have h3 : a = b := by
          have e1 : ¬ a.toNat < b.toNat := h1
          have e2 : ¬ b.toNat < a.toNat := h2
          exact UInt8.toNat_inj.1 (by omega)
        subst h3
        simpa [h1] using ih
theorem bl_irr : ∀ a : List UInt8, Op.bytesLess a a = false
  | [] => rfl
  | a :: u => by
    simp only [Op.bytesLess]
    have : ¬ a < a := fun h => Nat.lt_irrefl a.toNat h
    simp [this, bl_irr u]
theorem bl_trans : ∀ a b c : List UInt8, Op.bytesLess a b = true → Op.bytesLess b c = true → Op.bytesLess a c = true
  | [], [], _, h, _ => by simp [Op.bytesLess] at h
  | [], _ :: _, [], _, h => by simp [Op.bytesLess] at h
  | [], _ :: _, _ :: _, _, _ => by simp [Op.bytesLess]
  | _ :: _, [], _, h, _ => by simp [Op.bytesLess] at h
  | _ :: _, _ :: _, [], _, h => by simp [Op.bytesLess] at h
  | a :: u, b :: v, c :: z, h1, h2 => by
    have ih := bl_trans u v z
    simp only [Op.bytesLess, Bool.or_eq_true, Bool.and_eq_true, decide_eq_true_eq, beq_iff_eq] at h1 h2 ⊢
    by_cases hab : a = b
    · subst hab
      have hn : ¬ a < a := fun h => Nat.lt_irrefl a.toNat h
      simp only [hn, if_false, ite_false] at h1
      by_cases hac : a = c
      · subst hac
        simp only [hn, if_false] at h2 ⊢
        simp at h1 h2 ⊢
        exact ih h1 h2
      · simp [hac] at h1 h2 ⊢
        exact h2
    · by_cases hbc : b = c
      · subst hbc
        simp [hab] at h1 ⊢
        exact h1
      · simp [hab] at h1
        simp [hbc] at h2
        have e1 : a.toNat < b.toNat := h1
        have e2 : b.toNat < c.toNat := h2
        have e3 : a < c := show a.toNat < c.toNat by omega
        have e4 : ¬ a = c := fun e => by subst e; omega
        simp [e4, e3]
theorem bl_conn : ∀ x y : List UInt8, Op.bytesLess x y = false → Op.bytesLess y x = false → x = y
  | [], [], _, _ => rfl
  | _ :: _, [], _, h => by simp [Op.bytesLess] at h
  | [], _ :: _, h, _ => by simp [Op.bytesLess] at h
  | a :: x, b :: y, h1, h2 => by
    simp only [Op.bytesLess] at h1 h2
    by_cases hab : a = b
    · subst hab
      simp at h1 h2
      rw [bl_conn x y h1 h2]
    · have hba : ¬ b = a := fun e => hab e.symm
      simp [hab] at h1
      simp [hba] at h2
      have e1 : b.toNat ≤ a.toNat := h1
      have e2 : a.toNat ≤ b.toNat := h2
      exact absurd (UInt8.toNat_inj.1 (by omega)) hab
theorem bl_swo {α : Type} (f : α → List UInt8) : SWO (fun x y => Op.bytesLess (f x) (f y)) where
  irrefl x := bl_irr _
  trans x y z h1 h2 := bl_trans _ _ _ h1 h2
  ntrans x y z h1 h2 := by
    cases h : Op.bytesLess (f x) (f z)
    · rfl
    · cases h3 : Op.bytesLess (f y) (f x)
      · have e := bl_conn _ _ h1 h3
        rw [e] at h
        rw [h] at h2
        exact h2
      · have := bl_trans _ _ _ h3 h
        rw [this] at h2
        exact h2
end Go.Proofs.YtfpepdjffehbcaaGreat
/-
  Rising lists, plainly: putting in, taking each once, what is alike; how many places a search leaves. No condition, no program in sight.
-/
namespace Go.Proofs.YtfpepdjffehbcaaGreat
open Go.RowKit

structure TotalLt {α : Type} (lt : α → α → Bool) : Prop where
  irr : ∀ a, lt a a = false
  tr : ∀ a b c, lt a b = true → lt b c = true → lt a c = true
  conn : ∀ a b, lt a b = false → lt b a = false → a = b
section
variable {α : Type} {lt : α → α → Bool}
theorem TotalLt.asym (T : TotalLt lt) {a b : α} (h : lt a b = true) : lt b a = false := by
  cases e : lt b a
  · rfl
  · have := T.tr _ _ _ h e
    rw [T.irr] at this
    cases this
theorem TotalLt.ne (T : TotalLt lt) {a b : α} (h : lt a b = true) : a ≠ b := fun e => by rw [e, T.irr] at h; cases h
theorem TotalLt.flip (T : TotalLt lt) {a b : α} (h : lt a b = false) (hne : a ≠ b) : lt b a = true := by
  cases e : lt b a
  · exact absurd (T.conn _ _ h e) hne
  · rfl
def RiseL (lt : α → α → Bool) (l : List α) : Prop := l.Pairwise fun x y => lt x y = true
instance (l : List α) : Decidable (RiseL lt l) := inferInstanceAs (Decidable (l.Pairwise fun x y => lt x y = true))
theorem rise_of_adj (tr : ∀ a b c, lt a b = true → lt b c = true → lt a c = true) : ∀ (l : List α), (∀ (j : Nat) (x y : α), l[j]? = some x → l[j + 1]? = some y → lt x y = true) → RiseL lt l
  | [], _ => List.Pairwise.nil
  | [x], _ => by simp [RiseL]
  | x :: y :: l, h => by
    have h1 := rise_of_adj tr (y :: l) fun j a b ha hb => h (j + 1) a b (by simpa using ha) (by simpa using hb)
    have hxy := h 0 x y (by simp) (by simp)
    refine List.pairwise_cons.2 ⟨fun z hz => ?_, h1⟩
    rcases List.mem_cons.1 hz with rfl | hz
    · exact hxy
    · exact tr _ _ _ hxy ((List.pairwise_cons.1 h1).1 z hz)
theorem rise_at {l : List α} (h : RiseL lt l) {i j : Nat} {x y : α} (hx : l[i]? = some x) (hy : l[j]? = some y) (hij : i < j) : lt x y = true := by
  obtain ⟨hi, rfl⟩ := List.getElem?_eq_some_iff.1 hx
  obtain ⟨hj, rfl⟩ := List.getElem?_eq_some_iff.1 hy
  exact List.pairwise_iff_getElem.1 h i j hi hj hij
theorem rise_take {l : List α} (h : RiseL lt l) (k : Nat) : RiseL lt (l.take k) := List.Pairwise.sublist (List.take_sublist _ _) h
theorem rise_unique (T : TotalLt lt) : ∀ {a b : List α}, RiseL lt a → RiseL lt b → (∀ x, x ∈ a ↔ x ∈ b) → a = b
  | [], [], _, _, _ => rfl
  | [], y :: b, _, _, h => by have := (h y).2 (by simp); simp at this
  | x :: a, [], _, _, h => by have := (h x).1 (by simp); simp at this
  | x :: a, y :: b, ha, hb, h => by
    obtain ⟨a1, a2⟩ := List.pairwise_cons.1 ha
    obtain ⟨b1, b2⟩ := List.pairwise_cons.1 hb
    have hxy : x = y := by
      rcases List.mem_cons.1 ((h x).1 (by simp)) with e | hx
      · exact e
      · rcases List.mem_cons.1 ((h y).2 (by simp)) with e | hy
        · exact e.symm
        · have := T.asym (a1 y hy)
          rw [b1 x hx] at this
          cases this
    subst hxy
    refine congrArg (x :: ·) (rise_unique T a2 b2 fun z => ⟨fun hz => ?_, fun hz => ?_⟩)
    · rcases List.mem_cons.1 ((h z).1 (by simp [hz])) with e | h'
      · exact absurd e.symm (T.ne (a1 z hz))
      · exact h'
    · rcases List.mem_cons.1 ((h z).2 (by simp [hz])) with e | h'
      · exact absurd e.symm (T.ne (b1 z hz))
      · exact h'
theorem rise_inj (T : TotalLt lt) {l : List α} (h : RiseL lt l) {i j : Nat} {x : α} (hx : l[i]? = some x) (hy : l[j]? = some x) : i = j := by
  rcases Nat.lt_trichotomy i j with e | e | e
  · have := rise_at h hx hy e; rw [T.irr] at this; cases this
  · exact e
  · have := rise_at h hy hx e; rw [T.irr] at this; cases this
end
section
variable {α : Type} [DecidableEq α] {lt : α → α → Bool}
/-- A list with one more. -/
def insL (lt : α → α → Bool) : List α → α → List α
  | [], s => [s]
  | x :: xs, s => if lt x s = true then x :: insL lt xs s else if x = s then x :: xs else s :: x :: xs
theorem insL_mem (l : List α) (s x : α) : x ∈ insL lt l s ↔ x = s ∨ x ∈ l := by
  induction l with
  | nil => simp [insL]
  | cons y l ih =>
    unfold insL
    split
    · simp only [List.mem_cons, ih]
      constructor
      · rintro (h | h | h)
        · exact .inr (.inl h)
        · exact .inl h
        · exact .inr (.inr h)
      · rintro (h | h | h)
        · exact .inr (.inl h)
        · exact .inl h
        · exact .inr (.inr h)
    · split
      · rename_i h
        subst h
        simp only [List.mem_cons]
        constructor
        · exact fun h => .inr h
        · rintro (h | h)
          · exact .inl h
          · exact h
      · simp only [List.mem_cons]
theorem insL_rise (T : TotalLt lt) {l : List α} (s : α) (h : RiseL lt l) : RiseL lt (insL lt l s) := by
  induction l with
  | nil => simp [insL, RiseL]
  | cons y l ih =>
    obtain ⟨h1, h2⟩ := List.pairwise_cons.1 h
    unfold insL
    split
    · rename_i hy
      refine List.pairwise_cons.2 ⟨fun x hx => ?_, ih h2⟩
      rcases (insL_mem l s x).1 hx with rfl | hx
      · exact hy
      · exact h1 x hx
    · rename_i hy
      split
      · exact h
      · rename_i hne
        have hsy : lt s y = true := T.flip (by simpa using hy) hne
        refine List.pairwise_cons.2 ⟨fun x hx => ?_, h⟩
        rcases List.mem_cons.1 hx with rfl | hx
        · exact hsy
        · exact T.tr _ _ _ hsy (h1 x hx)
/-- Each once, rising. -/
def poolL (lt : α → α → Bool) (l : List α) : List α := l.foldl (insL lt) []
theorem foldl_ins_mem (l : List α) : ∀ (a : List α) (x : α), x ∈ l.foldl (insL lt) a ↔ x ∈ a ∨ x ∈ l := by
  induction l with
  | nil => simp
  | cons y l ih =>
    intro a x
    simp only [List.foldl_cons, ih, insL_mem, List.mem_cons]
    constructor
    · rintro ((h | h) | h)
      · exact .inr (.inl h)
      · exact .inl h
      · exact .inr (.inr h)
    · rintro (h | h | h)
      · exact .inl (.inr h)
      · exact .inl (.inl h)
      · exact .inr h
theorem foldl_ins_rise (T : TotalLt lt) (l : List α) : ∀ (a : List α), RiseL lt a → RiseL lt (l.foldl (insL lt) a) := by
  induction l with
  | nil => exact fun _ h => h
  | cons y l ih => exact fun a h => ih _ (insL_rise T y h)
theorem poolL_mem (l : List α) (x : α) : x ∈ poolL lt l ↔ x ∈ l := by simp [poolL, foldl_ins_mem]
theorem poolL_rise (T : TotalLt lt) (l : List α) : RiseL lt (poolL lt l) := foldl_ins_rise T l [] List.Pairwise.nil
theorem poolL_eq (T : TotalLt lt) {l a : List α} (ha : RiseL lt a) (h : ∀ x, x ∈ a ↔ x ∈ l) : a = poolL lt l :=
  rise_unique T ha (poolL_rise T l) fun x => (h x).trans (poolL_mem l x).symm
theorem poolL_snoc (l : List α) (x : α) : poolL lt (l ++ [x]) = insL lt (poolL lt l) x := by simp [poolL, List.foldl_append]
theorem insL_len (l : List α) (s : α) : (insL lt l s).length ≤ l.length + 1 := by
  induction l with
  | nil => simp [insL]
  | cons y l ih =>
    unfold insL
    split
    · simp only [List.length_cons]; omega
    · split
      · simp
      · simp
theorem foldl_ins_len (l : List α) : ∀ a : List α, (l.foldl (insL lt) a).length ≤ a.length + l.length := by
  induction l with
  | nil => simp
  | cons y l ih =>
    intro a
    have h1 := ih (insL lt a y)
    have h2 := insL_len (lt := lt) a y
    simp only [List.foldl_cons, List.length_cons]
    omega
theorem poolL_len (l : List α) : (poolL lt l).length ≤ l.length := by
  have := foldl_ins_len (lt := lt) l []
  simpa [poolL] using this
theorem poolL_self (T : TotalLt lt) {l : List α} (h : RiseL lt l) : poolL lt l = l := (poolL_eq T h fun _ => Iff.rfl).symm
theorem poolL_congr (T : TotalLt lt) {l m : List α} (h : ∀ x, x ∈ l ↔ x ∈ m) : poolL lt l = poolL lt m :=
  poolL_eq T (poolL_rise T l) fun x => (poolL_mem l x).trans (h x)
/-- The place where one is put: all ahead are less, none less behind. -/
theorem insL_split : ∀ (l : List α) (s : α) (i : Nat), (∀ j x, j < i → l[j]? = some x → lt x s = true) → i ≤ l.length → (∀ x, l[i]? = some x → lt x s = false) →
    insL lt l s = (if l[i]? = some s then l else l.take i ++ s :: l.drop i)
  | [], s, i, _, hi, _ => by
    have : i = 0 := by simpa using hi
    subst this
    simp [insL]
  | y :: l, s, 0, _, _, h => by
    have := h y (by simp)
    unfold insL
    rw [if_neg (by simp [this])]
    by_cases e : y = s
    · simp [e]
    · simp [e]
  | y :: l, s, i + 1, h0, hi, h => by
    have h1 := h0 0 y (by omega) (by simp)
    unfold insL
    rw [if_pos h1, insL_split l s i (fun j x hj hx => h0 (j + 1) x (by omega) (by simpa using hx)) (by simpa using hi) (fun x hx => h x (by simpa using hx))]
    simp only [List.getElem?_cons_succ]
    split
    · rfl
    · simp
end
/-- How many places a search leaves: the first at which it is so. -/
theorem count_prefix (p : Nat → Bool) : ∀ (n : Nat), (∀ a b, a ≤ b → b < n → p a = true → p b = true) →
    (List.range n).countP (fun i => !p i) ≤ n ∧ (∀ i, i < (List.range n).countP (fun i => !p i) → p i = false) ∧ ∀ i, (List.range n).countP (fun i => !p i) ≤ i → i < n → p i = true
  | 0, _ => by simp
  | n + 1, hm => by
    obtain ⟨h1, h2, h3⟩ := count_prefix p n fun a b h hb => hm a b h (by omega)
    rw [List.range_succ, List.countP_append]
    cases hp : p n
    · have hall : ∀ i, i < n → p i = false := fun i hi => by
        cases e : p i
        · rfl
        · have := hm i n (by omega) (by omega) e
          rw [hp] at this
          cases this
      have hc : (List.range n).countP (fun i => !p i) = n := by
        rcases Nat.lt_or_ge ((List.range n).countP fun i => !p i) n with h | h
        · have := h3 _ (Nat.le_refl _) h
          rw [hall _ h] at this
          cases this
        · omega
      simp only [List.countP_singleton, hp, hc]
      refine ⟨by simp, fun i hi => ?_, fun i h h' => ?_⟩
      · rcases Nat.lt_or_ge i n with h | h
        · exact hall i h
        · have : i = n := by simp at hi; omega
          rw [this, hp]
      · simp at h; omega
    · simp only [List.countP_singleton, hp]
      simp only [Bool.not_true, Bool.false_eq_true, if_false, Nat.add_zero]
      refine ⟨by omega, h2, fun i h h' => ?_⟩
      rcases Nat.lt_or_ge i n with h4 | h4
      · exact h3 i h h4
      · have : i = n := by omega
        rw [this, hp]
/-- Texts' order. -/
def bl (a b : ByteArray) : Bool := Op.bytesLess a.toList b.toList
theorem blT : TotalLt bl where
  irr a := bl_irr _
  tr a b c := bl_trans _ _ _
  conn a b h1 h2 := by
    have := bl_conn _ _ h1 h2
    rw [Lib.toList_data, Lib.toList_data] at this
    obtain ⟨⟨x⟩⟩ := a
    obtain ⟨⟨y⟩⟩ := b
    simp at this
    rw [this]
/-- Rows' order: by the key, then the value. -/
def rl (a b : Int × Int) : Bool := decide (a.1 < b.1) || (decide (a.1 = b.1) && decide (a.2 < b.2))
theorem rl_iff {a b : Int × Int} : rl a b = true ↔ a.1 < b.1 ∨ (a.1 = b.1 ∧ a.2 < b.2) := by simp [rl]
theorem rlT : TotalLt rl where
  irr a := by cases h : rl a a <;> simp_all [rl_iff]
  tr a b c h1 h2 := by rw [rl_iff] at *; omega
  conn a b h1 h2 := by
    have e1 : ¬ (a.1 < b.1 ∨ (a.1 = b.1 ∧ a.2 < b.2)) := fun h => by rw [← rl_iff] at h; rw [h] at h1; cases h1
    have e2 : ¬ (b.1 < a.1 ∨ (b.1 = a.1 ∧ b.2 < a.2)) := fun h => by rw [← rl_iff] at h; rw [h] at h2; cases h2
    exact Prod.ext (by omega) (by omega)
/-- Lists' order, by their elements' order. -/
def lexL {α : Type} [DecidableEq α] (lt : α → α → Bool) : List α → List α → Bool
  | _, [] => false
  | [], _ :: _ => true
  | x :: a, y :: b => if x = y then lexL lt a b else lt x y
theorem lexT {α : Type} [DecidableEq α] {lt : α → α → Bool} (T : TotalLt lt) : TotalLt (lexL lt) where
  irr a := by
    induction a with
    | nil => rfl
    | cons x a ih => simpa [lexL] using ih
  tr a b c := by
    induction a generalizing b c with
    | nil =>
      intro h1 h2
      cases b with
      | nil => simp [lexL] at h1
      | cons y b => cases c with
        | nil => simp [lexL] at h2
        | cons z c => rfl
    | cons x a ih =>
      intro h1 h2
      cases b with
      | nil => simp [lexL] at h1
      | cons y b => cases c with
        | nil => simp [lexL] at h2
        | cons z c =>
          simp only [lexL] at h1 h2 ⊢
          by_cases e1 : x = y
          · subst e1
            by_cases e2 : x = z
            · subst e2
              simp only [if_true] at h1 h2 ⊢
              exact ih _ _ h1 h2
            · simp only [if_neg e2, if_true] at h1 h2 ⊢
              exact h2
          · simp only [if_neg e1] at h1
            by_cases e2 : y = z
            · subst e2
              simp only [if_neg e1]
              exact h1
            · simp only [if_neg e2] at h2
              have h3 := T.tr _ _ _ h1 h2
              rw [if_neg (T.ne h3)]
              exact h3
  conn a b := by
    induction a generalizing b with
    | nil =>
      intro h1 h2
      cases b with
      | nil => rfl
      | cons y b => simp [lexL] at h1
    | cons x a ih =>
      intro h1 h2
      cases b with
      | nil => simp [lexL] at h2
      | cons y b =>
        simp only [lexL] at h1 h2
        by_cases e : x = y
        · subst e
          simp only [if_true] at h1 h2
          rw [ih b h1 h2]
        · rw [if_neg e] at h1
          rw [if_neg (fun h => e h.symm)] at h2
          exact absurd (T.conn _ _ h1 h2) e
end Go.Proofs.YtfpepdjffehbcaaGreat
