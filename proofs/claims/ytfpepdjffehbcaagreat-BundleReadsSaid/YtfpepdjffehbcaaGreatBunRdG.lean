/-
  Books that are read one behind another, each with its values: rows of the call's own. Plain lemmas; no condition.
-/
import Derived.Test.YtfpepdjffehbcaaGreatBunRdT
import Derived.Test.YtfpepdjffehbcaaGreatBunReadP
import Derived.Test.YtfpepdjffehbcaaGreatBunRdS
import Derived.Test.YtfpepdjffehbcaaGreatBunOpen
set_option linter.unusedVariables false
set_option linter.unusedSimpArgs false
namespace Go.Proofs.YtfpepdjffehbcaaGreat
open Go.RowKit

/-- Books of the call's own, at B or above, below C. -/
def GotO (W : World) (B C : Nat) (u : Value) (T : List PStep) (us : List Value) : Prop := BunOwn W B u T us ∧ (∀ k, u.ownBlock = some k → k < C) ∧ ∀ kv ∈ us, ∀ k, kv.ownBlock = some k → k < C
theorem GotO.nil (W : World) (B C : Nat) : GotO W B C (.slice none 0 0) [] [] := ⟨BunOwn.nil W B, fun k h => by simp [Value.ownBlock] at h, fun x hx => by cases hx⟩
theorem bunown_at {W : World} {B : Nat} {u : Value} {T : List PStep} {us : List Value} (h : BunOwn W B u T us) {kv : Value} (hk : kv ∈ us) : ∃ b ∈ T, W.ownsRow B 59 2 kv b.2.length (pairCells b.2) := by
  obtain ⟨i, hi, rfl⟩ := List.getElem_of_mem hk
  have hl : i < T.length := by rw [← h.2.1]; exact hi
  exact ⟨_, List.getElem_mem hl, h.2.2 i _ _ (List.getElem?_eq_getElem hl) (List.getElem?_eq_getElem hi)⟩
theorem GotO.on {W W' : World} {B C : Nat} {u : Value} {T : List PStep} {us : List Value} (h : GotO W B C u T us) (hb : Below W.heap.size W W') : GotO W' B C u T us := ⟨h.1.on hb, h.2⟩
/-- Kept where a block below B or from C on turns. -/
theorem GotO.kept {W W' : World} {B C : Nat} {u : Value} {T : List PStep} {us : List Value} {row : Option Nat} (h : GotO W B C u T us) (hg : W.grownBy W' row) (hr : ∀ k, row = some k → k < B ∨ C ≤ k) : GotO W' B C u T us := by
  refine ⟨⟨own_stays2 h.1.1 hg fun k hk e => ?_, h.1.2.1, fun i b kv h1 h2 => own_stays2 (h.1.2.2 i b kv h1 h2) hg fun k hk e => ?_⟩, h.2⟩
  · have h1 := hr k e
    have h2 := (h.1.1.lt k hk).1
    have h3 := h.2.1 k hk
    omega
  · have h3 := hr k e
    have h4 := ((h.1.2.2 i b kv h1 h2).lt k hk).1
    have h5 := h.2.2 kv (List.mem_of_getElem? h2) k hk
    omega
theorem GotO.up {W : World} {B C : Nat} {u : Value} {T : List PStep} {us : List Value} (h : GotO W B C u T us) : GotO W B W.heap.size u T us := by
  refine ⟨h.1, fun k hk => (h.1.1.lt k hk).2, fun kv hkv k hk => ?_⟩
  obtain ⟨b, -, h1⟩ := bunown_at h.1 hkv
  exact (h1.lt k hk).2
theorem GotO.push {W W' : World} {B C : Nat} {u u' kv : Value} {T : List PStep} {us : List Value} {b : PStep} {n m : Nat} (h : GotO W B C u T us) (hn : T.length = n) (hr : W.ownsRow C 59 2 kv m (pairCells b.2)) (hm : b.2.length = m) (hC : B ≤ C) (hown : W'.ownsRow B 56 2 u' (n + 1) (stepCells T us ++ [.string b.1, kv])) (hg : W.grownBy W' u.ownBlock) : GotO W' B W'.heap.size u' (T ++ [b]) (us ++ [kv]) := by
  subst hm
  exact GotO.up (C := W'.heap.size) ⟨h.1.push b hn (own_base hr hC) hown hg, fun k hk => (hown.lt k hk).2, fun x hx k hk => by
    rcases List.mem_append.1 hx with hx | hx
    · obtain ⟨c, -, h1⟩ := bunown_at h.1 hx
      exact Nat.lt_of_lt_of_le (h1.lt k hk).2 hg.size
    · rw [List.mem_singleton.1 hx] at hk
      exact Nat.lt_of_lt_of_le (hr.lt k hk).2 hg.size⟩
/-- The values of a Book's first groups. -/
def gotV (b : PStep) (j : Nat) : List PKey := ((groupsB b.2).take j).flatMap fun g => b.2.filter fun v => decide (grp v.1 = g)
theorem gotV_zero (b : PStep) : gotV b 0 = [] := rfl
theorem gotV_next {b : PStep} {j : Nat} {g : ByteArray} (h : (groupsB b.2)[j]? = some g) : gotV b (j + 1) = gotV b j ++ b.2.filter fun v => decide (grp v.1 = g) := by
  unfold gotV
  rw [List.take_add_one, h, List.flatMap_append]
  simp
theorem gotV_end (b : PStep) : gotV b (groupsB b.2).length = regroup b.2 := by
  unfold gotV regroup
  rw [List.take_length]
theorem gotV_len (b : PStep) (j : Nat) : (gotV b j).length ≤ b.2.length * b.2.length := by
  have h1 : (gotV b j).length ≤ b.2.length * ((groupsB b.2).take j).length := flat_len_le fun g _ => List.length_filter_le _ _
  refine Nat.le_trans h1 (Nat.mul_le_mul_left _ ?_)
  rw [List.length_take]
  have := few_groups b.2
  omega
theorem book_run (T P : List ByteArray) (Y : List (List RowI)) (b : PStep) (R : List UInt8) : bookBy T P Y b ++ R = le 4 (idx T b.1) ++ (le 4 (groupsB b.2).length ++ Run (grpBy T P Y b) (groupsB b.2) R 0) := by
  unfold bookBy Run grpBy
  simp only [List.drop_zero, List.append_assoc]
theorem pairCells_snoc (l : List PKey) (v : PKey) : pairCells (l ++ [v]) = pairCells l ++ [.string v.1, .string v.2] := by
  unfold pairCells
  rw [List.flatMap_append]
  simp
/-- A row told: the path and the text. -/
def rowV (T P : List ByteArray) (r : RowI) : PKey := (P.getD r.1.toNat ByteArray.empty, T.getD r.2.toNat ByteArray.empty)
/-- What a Book of the bundle names is in the lists. -/
def BkFit (T P : List ByteArray) (Y : List (List RowI)) (b : PStep) : Prop := b.1 ∈ T ∧ b.2.length ≤ 30 ∧ (∀ g ∈ groupsB b.2, g ∈ T ∧ rowsB T P b.2 g ∈ Y) ∧ ∀ v ∈ b.2, v.1 ∈ P ∧ v.2 ∈ T
theorem bk_fit {L : List PStep} (h : CutSm L) {b : PStep} (hb : b ∈ L) : BkFit (textsP L) (pathsP L) (tabsB L) b := by
  refine ⟨(poolL_mem _ _).2 (words_name hb), h.2 b hb, fun g hg => ⟨?_, (poolL_mem _ _).2 (List.mem_flatMap.2 ⟨b, hb, List.mem_map.2 ⟨g, hg, rfl⟩⟩)⟩, fun v hv => ⟨(poolL_mem _ _).2 (paths_val hb hv), (poolL_mem _ _).2 (words_val hb hv).2.2⟩⟩
  obtain ⟨v, hv, rfl⟩ := List.mem_map.1 ((poolL_mem (lt := bl) _ _).1 hg)
  exact (poolL_mem _ _).2 (words_val hb hv).1
/-- A row of a Book: two numbers, and what they tell. -/
theorem row_fit {T P : List ByteArray} {Y : List (List RowI)} {b : PStep} (h : BkFit T P Y b) {g : ByteArray} {r : RowI} (hr : r ∈ rowsB T P b.2 g) : ∃ i j : Nat, r = ((i : Int), (j : Int)) ∧ i < P.length ∧ j < T.length ∧ rowV T P r = (atT P i, atT T j) := by
  unfold rowsB at hr
  obtain ⟨v, hv, rfl⟩ := List.mem_map.1 hr
  have hm := h.2.2.2 v (List.mem_filter.1 hv).1
  exact ⟨_, _, rfl, idx_lt hm.1, idx_lt hm.2, rfl⟩
/-- What is kept while the Books are read: the reader, the texts, the paths, the tables, the Books so far. -/
def RdAll (w5 : World) (g c : Nat) (A : Option Addr) (X : List UInt8) (lv pv tv : Value) (T P : List ByteArray) (ps : List (Value × List RowI)) (bp bq D gb : Nat) (W : World) (C : Nat) (rest : List UInt8) (uv : Value) (Tg : List PStep) (us : List Value) : Prop :=
  (w5.heap.size ≤ g ∧ g < bp ∧ bp ≤ bq ∧ bq ≤ D ∧ D ≤ gb ∧ gb < C) ∧ (Below w5.heap.size w5 W ∧ w5.heap.size ≤ W.heap.size ∧ C ≤ W.heap.size) ∧ Ahead W g c A X rest ∧ TxtO W (g + 1) bq lv T ∧ TxtO W bp bq pv P ∧ TabO W bq D tv ps ∧ Blk W gb 24 #[uv] ∧ GotO W (gb + 1) C uv Tg us
section
variable {w5 W W' : World} {g c bp bq D gb C : Nat} {A : Option Addr} {X rest : List UInt8} {lv pv tv uv : Value} {T P : List ByteArray} {ps : List (Value × List RowI)} {Tg : List PStep} {us : List Value}
theorem RdAll.on (h : RdAll w5 g c A X lv pv tv T P ps bp bq D gb W C rest uv Tg us) (hb : Below W.heap.size W W') : RdAll w5 g c A X lv pv tv T P ps bp bq D gb W' C rest uv Tg us := by
  obtain ⟨h0, ⟨h1, h2, h3⟩, h4, h5, h6, h7, h8, h9⟩ := h
  exact ⟨h0, ⟨h1.trans (hb.mono h2), Nat.le_trans h2 hb.size, Nat.le_trans h3 hb.size⟩, h4.on hb, h5.on hb, h6.on hb, h7.on hb, h8.below hb h8.lt, h9.on hb⟩
/-- The reader has read. -/
theorem RdAll.read (h : RdAll w5 g c A X lv pv tv T P ps bp bq D gb W C rest uv Tg us) {rest' : List UInt8} (hO : Only g W W') (hA : Ahead W' g c A X rest') : RdAll w5 g c A X lv pv tv T P ps bp bq D gb W' C rest' uv Tg us := by
  obtain ⟨h0, ⟨h1, h2, h3⟩, h4, h5, h6, h7, h8, h9⟩ := h
  exact ⟨h0, ⟨h1.trans (hO.below (B := w5.heap.size) h0.1 h2), Nat.le_trans h2 hO.size, Nat.le_trans h3 hO.size⟩, hA, h5.kept hO (fun k e => by cases e; exact .inl (Nat.lt_succ_self _)), h6.kept hO (fun k e => by cases e; exact .inl h0.2.1), h7.kept hO (fun k e => by cases e; exact .inl (by omega)), h8.grown hO (fun e => by cases e; omega), h9.kept hO (fun k e => by cases e; exact .inl (by omega))⟩
/-- A block from C on has turned. -/
theorem RdAll.turn (h : RdAll w5 g c A X lv pv tv T P ps bp bq D gb W C rest uv Tg us) {row : Option Nat} (hg : W.grownBy W' row) (hr : ∀ k, row = some k → C ≤ k) : RdAll w5 g c A X lv pv tv T P ps bp bq D gb W' C rest uv Tg us := by
  obtain ⟨h0, ⟨h1, h2, h3⟩, h4, h5, h6, h7, h8, h9⟩ := h
  exact ⟨h0, ⟨h1.grown hg h2 (fun k e => by have := hr k e; omega), Nat.le_trans h2 hg.size, Nat.le_trans h3 hg.size⟩, h4.grown hg (fun k e => by have := hr k e; omega), h5.kept hg (fun k e => .inr (by have := hr k e; omega)), h6.kept hg (fun k e => .inr (by have := hr k e; omega)), h7.kept hg (fun k e => .inr (by have := hr k e; omega)), h8.grown hg (fun e => by have := hr gb e.symm; omega), h9.kept hg (fun k e => .inr (hr k e))⟩
theorem RdAll.up (h : RdAll w5 g c A X lv pv tv T P ps bp bq D gb W C rest uv Tg us) : RdAll w5 g c A X lv pv tv T P ps bp bq D gb W W.heap.size rest uv Tg us := by
  obtain ⟨h0, ⟨h1, h2, h3⟩, h4, h5, h6, h7, h8, h9⟩ := h
  exact ⟨⟨h0.1, h0.2.1, h0.2.2.1, h0.2.2.2.1, h0.2.2.2.2.1, by omega⟩, ⟨h1, h2, Nat.le_refl _⟩, h4, h5, h6, h7, h8, h9.up⟩
/-- A Book more, and the variable turned. -/
theorem RdAll.push {u' kv : Value} {b : PStep} {n m : Nat} (h : RdAll w5 g c A X lv pv tv T P ps bp bq D gb W C rest uv Tg us) (hn : Tg.length = n) (hr : W.ownsRow C 59 2 kv m (pairCells b.2)) (hm : b.2.length = m) (hown : W'.ownsRow (gb + 1) 56 2 u' (n + 1) (stepCells Tg us ++ [.string b.1, kv])) (hg : W.grownBy W' uv.ownBlock) :
    RdAll w5 g c A X lv pv tv T P ps bp bq D gb (W'.setCell ⟨gb, 0, none⟩ u') W'.heap.size rest u' (Tg ++ [b]) (us ++ [kv]) := by
  obtain ⟨h0, ⟨h1, h2, h3⟩, h4, h5, h6, h7, h8, h9⟩ := h
  have hu := fun k e => (h9.1.1.lt k e).1
  have hp := h9.push hn hr hm (by omega) hown hg
  have hs := grown_set W' gb 0 u'
  have hz : (W'.setCell ⟨gb, 0, none⟩ u').heap.size = W'.heap.size := by simp [World.setCell]
  have hl := hg.size
  refine ⟨⟨h0.1, h0.2.1, h0.2.2.1, h0.2.2.2.1, h0.2.2.2.2.1, by omega⟩, ⟨(h1.grown hg h2 (fun k e => by have := hu k e; omega)).setCell (by simp; omega) _, by omega, by omega⟩, (h4.grown hg (fun k e => by have := hu k e; omega)).grown hs (fun k e => by cases e; omega), (h5.kept hg (fun k e => .inr (by have := hu k e; omega))).kept hs (fun k e => by cases e; exact .inr (by omega)), (h6.kept hg (fun k e => .inr (by have := hu k e; omega))).kept hs (fun k e => by cases e; exact .inr (by omega)), (h7.kept hg (fun k e => .inr (by have := hu k e; omega))).kept hs (fun k e => by cases e; exact .inr (by omega)), (h8.grown hg (fun e => by have := hu gb e.symm; omega)).set_ 0 u', ?_⟩
  exact hp.kept hs (fun k e => by cases e; exact .inl (by omega))
end
/-- The Book under way. -/
def RdBook (W : World) (gk : Nat) (nm : ByteArray) (vv : Value) (vs : List PKey) : Prop := Blk W gk 56 #[.string nm, vv] ∧ W.ownsRow (gk + 1) 59 2 vv vs.length (pairCells vs)
theorem RdBook.on {W W' : World} {gk : Nat} {nm : ByteArray} {vv : Value} {vs : List PKey} (h : RdBook W gk nm vv vs) (hb : Below W.heap.size W W') : RdBook W' gk nm vv vs := ⟨h.1.below hb h.1.lt, own_more h.2 hb⟩
theorem RdBook.read {W W' : World} {gk g : Nat} {nm : ByteArray} {vv : Value} {vs : List PKey} (h : RdBook W gk nm vv vs) (hO : Only g W W') (hg : g < gk) : RdBook W' gk nm vv vs :=
  ⟨h.1.grown hO (fun e => by cases e; omega), own_stays2 h.2 hO fun k hk e => by cases e; have := (h.2.lt _ hk).1; omega⟩
/-- A value more. -/
theorem RdBook.put {W W' : World} {gk n : Nat} {nm p t : ByteArray} {vv v' : Value} {vs : List PKey} (h : RdBook W gk nm vv vs) (hn : vs.length = n) (hown : W'.ownsRow (gk + 1) 59 2 v' (n + 1) (pairCells vs ++ [.string p, .string t])) (hg : W.grownBy W' vv.ownBlock) : RdBook (W'.setCell ⟨gk, 1, none⟩ v') gk nm v' (vs ++ [(p, t)]) := by
  subst hn
  refine ⟨(h.1.grown hg (fun e => by have := (h.2.lt gk e.symm).1; omega)).set_ 1 v', ?_⟩
  rw [List.length_append, pairCells_snoc]
  exact own_stays2 hown (grown_set W' gk 1 v') fun k hk e => by cases e; have := (hown.lt _ hk).1; omega
end Go.Proofs.YtfpepdjffehbcaaGreat
