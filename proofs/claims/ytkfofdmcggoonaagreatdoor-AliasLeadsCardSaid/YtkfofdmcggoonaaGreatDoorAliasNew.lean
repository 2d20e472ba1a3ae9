/-
  The walk of alias.New. Condition: the pairs are within the reach; at most 2^42 of them.
-/
import Derived.Test.YtkfofdmcggoonaaGreatDoorAliasReach
import Derived.Deep.DeepCutAuto
set_option linter.unusedVariables false
set_option linter.unusedSimpArgs false
namespace Go.Proofs.YtkfofdmcggoonaaGreatDoor
open Go.RowKit Go.Shelf Go.Lib Go.Sort

theorem new1_pred (K V : ByteArray) (B : Nat) (w : World) (hB : B < w.heap.size) (hcell : w.cell? ⟨B, 0, none⟩ = some (.string K)) :
    PredBelow Tryz.prog 18 #[.pointer (some ⟨B, 0, none⟩)] (fun x : PKey => .agg ([kA x, kB x] : List Value).toArray) (fun x => decide (x.1 = K)) w := fun W x hb => by
  have hc : W.cell? ⟨B, 0, none⟩ = some (.string K) := (hb.cell (p := ⟨B, 0, none⟩) hB).trans hcell
  have hBW : B < W.heap.size := Nat.lt_of_lt_of_le hB hb.size
  have hne : B ≠ W.heap.size := by omega
  show Calls Tryz.prog 18 #[.agg #[.string x.1, .string x.2], .pointer (some ⟨B, 0, none⟩)] W _
  have he : (x.1.toList == K.toList) = decide (x.1 = K) := ba_beq _ _
  go_enter Tryz.func18, Tryz.ntmps18
  go_wp2
  go_ret
  exact ⟨by simp_all, hb.alloc hb.size _⟩
theorem new2_cmps : Cmps 23 := fun x y W => by
  have hcon := fun W' => compare_any x.1 y.1 W'
  generalize Lib.compareBytes x.1.data.toList y.1.data.toList = r at hcon ⊢
  go_enter Tryz.func23, Tryz.ntmps23
  go_wp2_with (go_at_call 24; refine (hcon _).mono ?_; rintro e w' ⟨rfl, rfl⟩)
  go_ret
  exact ⟨rfl, 0, _, by rw [alloc_eq_grow, alloc_eq_grow, grow_grow]; rfl⟩
theorem pairs_one (l : List PKey) : ∀ u ∈ pairCells l, u.oneCell' = true := by
  intro u hu
  simp only [pairCells, List.mem_flatMap] at hu
  obtain ⟨k, -, hk⟩ := hu
  rcases List.mem_cons.1 hk with rfl | hk
  · rfl
  · rw [List.mem_singleton.1 hk]; rfl
theorem own_nil_none {w : World} {A : Option Addr} {B : Nat} {l : List PKey} (hr : Reads w B 2 A l.length (pairCells l)) (h : A = none) : l = [] := by
  rcases Nat.eq_zero_or_pos l.length with h0 | h0
  · exact List.eq_nil_of_length_eq_zero h0
  · obtain ⟨b, o, e, -⟩ := hr.spot h0 (by omega)
    rw [h] at e
    cases e
/-- A copy of pairs. -/
theorem aclone_any (l : List PKey) (v : Value) (w : World) (hk : KeysAt w w.heap.size v l) (hlen : l.length ≤ 4398046511104) :
    Calls Tryz.prog 21 #[v] w fun e w' => (∃ v', e = .returned v' ∧ w'.ownsRow w.heap.size 33 2 v' l.length (pairCells l)) ∧ Below w.heap.size w w' := by
  obtain ⟨A, c, rfl, hc1, hc2, hr⟩ := hk
  obtain ⟨i0, hi0, hz0, hz1, hz2⟩ := info_parts pair_info
  rcases A with _ | ad
  · obtain rfl := own_nil_none hr rfl
    have heq := fun W => Lib.run_eql_slice_nil (P := Tryz.prog) W 22 33 none 0 c 0 0 Tryz.underlying22
    simp only [List.length_nil]
    go_enter Tryz.func21, Tryz.ntmps21
    go_wp2
    go_ret
    exact ⟨⟨_, rfl, World.ownsRow_nil _ _ _ _⟩, Below.refl _ _⟩
  · have heq := fun W => Lib.run_eql_slice_nil (P := Tryz.prog) W 22 33 (some ad) l.length c 0 0 Tryz.underlying22
    go_enter Tryz.func21, Tryz.ntmps21
    go_wp2_with (at_builtin; refine wpList_append_any _ rfl (.tmp 5) (.tmp 6) _ rfl w.heap.size 33 i0 _ 2 32 Tryz.underlying22 hi0 hz0 hz1 hz2 rfl (by omega) (.slice (some ⟨w.heap.size, 0, none⟩) 0 0) 0 [] rfl (World.ownsRow_made _ _ 0 (Nat.le_refl _) (by simp [maxLen]) rfl) w.heap.size (some ad) l.length c (pairCells l) rfl (Reads.alloc hr (Nat.le_refl _) _) (pairs_one l) (by simp only [maxLen]; omega) (by omega) (by simp) ?_; intro v1 w1 hown1 hg1 hat1)
    go_ret
    refine ⟨⟨v1, rfl, by simpa using hown1⟩, ((Below.refl _ _).alloc (Nat.le_refl _) _).grown hg1 (by simp) (fun k hk => ?_)⟩
    simp [Value.ownBlock] at hk
    omega
/-- The fault's cell at r, the rest above it. -/
def FB (w : World) (r : Nat) (W : World) : Prop := Blk W r 27 #[.int .i64 0, .int .i64 0] ∧ Below r w W ∧ r + 1 ≤ W.heap.size
theorem FB.below {w W W' : World} {r B : Nat} (h : FB w r W) (hb : Below B W W') (hB : r + 1 ≤ B) : FB w r W' := ⟨h.1.below hb (by omega), h.2.1.trans (hb.mono (by omega)), by have := h.2.2; have := hb.size; omega⟩
theorem FB.on {w W W' : World} {r : Nat} (h : FB w r W) (hb : Below W.heap.size W W') : FB w r W' := h.below hb h.2.2
theorem FB.grown {w W W' : World} {r : Nat} {row : Option Nat} (h : FB w r W) (hg : W.grownBy W' row) (hr : ∀ k, row = some k → r + 1 ≤ k) : FB w r W' :=
  ⟨h.1.grown hg (fun e => by have := hr _ e.symm; omega), h.2.1.grown hg (by have := h.2.2; omega) (fun k hk => by have := hr k hk; omega), by have := h.2.2; have := hg.size; omega⟩
theorem FB.done {w W : World} {r : Nat} (h : FB w r W) (x y : Int) : Blk ((W.setCell ⟨r, 0, none⟩ (.int .i64 x)).setCell ⟨r, 1, none⟩ (.int .i64 y)) r 27 #[.int .i64 x, .int .i64 y] ∧ Below r w ((W.setCell ⟨r, 0, none⟩ (.int .i64 x)).setCell ⟨r, 1, none⟩ (.int .i64 y)) :=
  ⟨h.1.two_set _ _, (h.2.1.setCell (p := ⟨r, 0, none⟩) (Nat.le_refl _) _).setCell (p := ⟨r, 1, none⟩) (Nat.le_refl _) _⟩
theorem FB.alloc {w W : World} {r : Nat} (h : FB w r W) (o : Obj) : FB w r (W.alloc o) := h.below ((Below.refl _ W).alloc (Nat.le_refl _) o) h.2.2
theorem FB.drewN {w W : World} {r : Nat} (h : FB w r W) (k : Nat) : FB w r (W.drewN k) := h.below (below_drewN (Below.refl _ W) k) h.2.2
abbrev faultV (x y : Int) : Value := .agg #[.int .i64 x, .int .i64 y]
theorem fault_size : (Tryz.prog.info? 27).map (·.size) = some 2 := by kernel_rfl
theorem new_result {tmps : Array Value} {w : World} {r0 : Nat} {x y : Int} {v : Value} (hB : Blk w r0 27 #[.int .i64 x, .int .i64 y]) (hp : tmps.getD 3 undef = .pointer (some ⟨r0, 0, none⟩)) (hu : tmps.getD 2 undef = v) :
    (results Tryz.f6 tmps).run Tryz.prog w = .ok (.tuple #[v, faultV x y]) w :=
  results_tmp_row Tryz.results6 tmps w r0 27 #[.int .i64 x, .int .i64 y] _ hp hB Tryz.underlying27 rfl fault_size hu
theorem brow_info : (Tryz.prog.info? 50).map (fun i => (i.zero, i.size, i.bytes)) = some (some (.slice none 0 0), 1, 24) := by kernel_rfl
def NewPost (L : List PKey) (w : World) (en : Ending) (w' : World) : Prop := Below w.heap.size w w' ∧
  ((∃ e a, FaultIs L e a ∧ e ≠ 0 ∧ en = .returned (.tuple #[.pointer none, faultV e a])) ∨ (FaultIs L 0 0 ∧ ∃ v, en = .returned (.tuple #[v, faultV 0 0]) ∧ ALS w' v (sortK L)))
theorem ba_nonempty {s : ByteArray} (h : ¬ s = ByteArray.empty) : (s.toList == []) = false ∧ s.toList.isEmpty = false ∧ ¬ s.toList = [] := by
  have h0 : ¬ s.toList = [] := by
    intro e
    rw [Lib.toList_data] at e
    exact h (Go.WideShapes.bytes_inj (by rw [e]; rfl))
  refine ⟨?_, ?_, h0⟩ <;> cases hh : s.toList with
    | nil => exact absurd hh h0
    | cons _ _ => rfl
theorem bsize {W w1 : World} (hb : Below W.heap.size W w1) : (∀ b, b < W.heap.size → b < w1.heap.size) ∧ (∀ b, b < W.heap.size → ¬ b = w1.heap.size) ∧ (∀ b, b < W.heap.size → ¬ w1.heap.size = b) :=
  ⟨fun b h => Nat.lt_of_lt_of_le h hb.size, fun b h e => by have := hb.size; omega, fun b h e => by have := hb.size; omega⟩
theorem apart2 {a n : Nat} (h : a < n) : ¬ a = n ∧ ¬ a = n + 1 ∧ ¬ n = a ∧ ¬ n + 1 = a := ⟨by omega, by omega, by omega, by omega⟩
theorem lt_keep (a : Nat) {b c : Nat} {p : Prop} (h : ∀ x, x < b → x < c) (h1 : a < b) (k : a < c → p) : p := k (h a h1)
theorem lt_two (a : Nat) : a < a + 1 + 1 ∧ a < a + 2 ∧ a + 1 < a + 1 + 1 ∧ a + 1 < a + 2 := ⟨by omega, by omega, by omega, by omega⟩
theorem below_cont {n : Nat} {X b : World} {p : Prop} (a : World) (h2 : Below n X b) (h1 : Below a.heap.size a X) (hn : a.heap.size ≤ n) (k : Hid (Below a.heap.size a b) → p) : p := k (Lib.hid (h1.trans (h2.mono hn)))
theorem blk_k {w : World} {b : Nat} {t : TypeId} {x y : Value} {p : Prop} (h : Blk w b t #[x, y]) (k : Blk w b t #[x, y] → w.cell? ⟨b, 0, none⟩ = some x → w.cell? ⟨b, 1, none⟩ = some y → p) : p := k h (h.cell 0) (h.cell 1)
theorem blk_new1 (w : World) (o : Obj) (t : TypeId) (cs : Array Value) : Blk ((w.alloc o).alloc (.cells cs t)) (w.heap.size + 1) t cs := by
  have := Blk.new (w.alloc o) t cs
  rwa [World.size_alloc] at this
theorem lt_a1 (w : World) (o : Obj) : w.heap.size < (w.alloc o).heap.size := by simp
theorem lt_a2 (w : World) (o o' : Obj) : w.heap.size < ((w.alloc o).alloc o').heap.size := by rw [World.size_alloc, World.size_alloc]; omega
theorem lt_a3 (w : World) (o o' : Obj) : w.heap.size + 1 < ((w.alloc o).alloc o').heap.size := by rw [World.size_alloc, World.size_alloc]; omega
theorem pairs_take : ∀ (l : List PKey) (i : Nat), (pairCells l).take (i * 2) = pairCells (l.take i)
  | [], i => by simp [pairCells]
  | x :: l, 0 => by simp [pairCells]
  | x :: l, i + 1 => by
    have := pairs_take l i
    have e : pairCells (x :: l) = .string x.1 :: .string x.2 :: pairCells l := by simp [pairCells]
    have e2 : pairCells ((x :: l).take (i + 1)) = .string x.1 :: .string x.2 :: pairCells (l.take i) := by simp [pairCells]
    rw [e, e2, show (i + 1) * 2 = i * 2 + 1 + 1 by omega, List.take_succ_cons, List.take_succ_cons, this]
theorem check_held {bp : Nat} {u v : Value} (s : ByteArray) (W : World) (h : s.size ≤ 140737488355328) (hl : bp < W.heap.size) (h0 : W.cell? ⟨bp, 0, none⟩ = some u) (h1 : W.cell? ⟨bp, 1, none⟩ = some v) :
    Calls Tryz.prog 16 #[.string s] W fun e wt => e = .returned (.agg #[.int .i64 (errOf s).1, .int .i64 (errOf s).2]) ∧ Below W.heap.size W wt ∧ bp < wt.heap.size ∧ wt.cell? ⟨bp, 0, none⟩ = some u ∧ wt.cell? ⟨bp, 1, none⟩ = some v :=
  (pcheck_any s W h).mono fun e wt ⟨he, hB⟩ => ⟨he, hB, Nat.lt_of_lt_of_le hl hB.size, (hB.cell (p := ⟨bp, 0, none⟩) hl).trans h0, (hB.cell (p := ⟨bp, 1, none⟩) hl).trans h1⟩
def rowVs (f : Nat → Bool) (n : Nat) : List Value := (List.range n).map fun k => Value.bool (f k)
/-- The rows of bools that are made so far. -/
def NRows (B : Nat) (v : Value) (i n : Nat) (f : Nat → Nat → Bool) (W : World) : Prop := ∃ vs : List Value, W.ownsRow B 50 1 v i vs ∧
  ∀ k kv, vs[k]? = some kv → ∃ g, kv = .slice (some ⟨g, 0, none⟩) n n ∧ W.ownsRow B 4 1 (.slice (some ⟨g, 0, none⟩) n n) n (rowVs (f k) n)
theorem nrows_on {B : Nat} {v : Value} {i n : Nat} {f : Nat → Nat → Bool} {W W' : World} (h : NRows B v i n f W) (hb : Below W.heap.size W W') : NRows B v i n f W' := by
  obtain ⟨vs, h1, h2⟩ := h
  refine ⟨vs, own_more h1 hb, fun k kv hk => ?_⟩
  obtain ⟨g, e, ho⟩ := h2 k kv hk
  exact ⟨g, e, own_more ho hb⟩
/-- The same, all below a block. -/
def NRowsM (B M : Nat) (v : Value) (i n : Nat) (f : Nat → Nat → Bool) (W : World) : Prop := ∃ vs : List Value, W.ownsRow B 50 1 v i vs ∧ (∀ b, v.ownBlock = some b → b < M) ∧
  ∀ k kv, vs[k]? = some kv → ∃ g, kv = .slice (some ⟨g, 0, none⟩) n n ∧ g < M ∧ W.ownsRow B 4 1 (.slice (some ⟨g, 0, none⟩) n n) n (rowVs (f k) n)
theorem nrows_m {B : Nat} {v : Value} {i n : Nat} {f : Nat → Nat → Bool} {W : World} (h : NRows B v i n f W) : NRowsM B W.heap.size v i n f W := by
  obtain ⟨vs, h1, h2⟩ := h
  refine ⟨vs, h1, fun b hb => (h1.lt b hb).2, fun k kv hk => ?_⟩
  obtain ⟨g, e, ho⟩ := h2 k kv hk
  exact ⟨g, e, (ho.lt g rfl).2, ho⟩
theorem nrowsM_on {B M : Nat} {v : Value} {i n : Nat} {f : Nat → Nat → Bool} {W W' : World} (h : NRowsM B M v i n f W) (hb : Below W.heap.size W W') : NRowsM B M v i n f W' := by
  obtain ⟨vs, h1, h3, h2⟩ := h
  refine ⟨vs, own_more h1 hb, h3, fun k kv hk => ?_⟩
  obtain ⟨g, e, hg, ho⟩ := h2 k kv hk
  exact ⟨g, e, hg, own_more ho hb⟩
theorem nrowsM_grown {B M : Nat} {v : Value} {i n : Nat} {f : Nat → Nat → Bool} {W W' : World} (h : NRowsM B M v i n f W) (hg : W.grownBy W' none) : NRowsM B M v i n f W' := by
  obtain ⟨vs, h1, h3, h2⟩ := h
  refine ⟨vs, h1.kept hg ?_, h3, fun k kv hk => ?_⟩
  · cases v.ownBlock with
    | none => exact .inl rfl
    | some b => exact .inr (by simp)
  obtain ⟨g, e, hg', ho⟩ := h2 k kv hk
  exact ⟨g, e, hg', ho.kept hg (.inr (by simp [Value.ownBlock]))⟩
/-- A store above them. -/
theorem nrowsM_far {B M g k : Nat} {v u : Value} {i n : Nat} {f : Nat → Nat → Bool} {W : World} (h : NRowsM B M v i n f W) (hg : M ≤ g) : NRowsM B M v i n f (W.setCell ⟨g, k, none⟩ u) := by
  obtain ⟨vs, h1, h3, h2⟩ := h
  have hO : W.grownBy (W.setCell ⟨g, k, none⟩ u) (some g) := (Only.refl g W).setCell (p := ⟨g, k, none⟩) (.inl rfl) u
  refine ⟨vs, h1.kept hO ?_, h3, fun k' kv hk => ?_⟩
  · cases hv : v.ownBlock with
    | none => exact .inl rfl
    | some b => exact .inr (by have := h3 b hv; simp; omega)
  obtain ⟨g', e, hg', ho⟩ := h2 k' kv hk
  exact ⟨g', e, hg', ho.kept hO (.inr (by simp [Value.ownBlock]; omega))⟩
/-- One row more. -/
theorem nrows_push {B M g : Nat} {v v' : Value} {i n : Nat} {f : Nat → Nat → Bool} {W W' : World} (h : NRowsM B M v i n f W) (hr : W.ownsRow B 4 1 (.slice (some ⟨g, 0, none⟩) n n) n (rowVs (f i) n)) (hg : W.grownBy W' v.ownBlock)
    (ho : ∀ vs : List Value, W.ownsRow B 50 1 v i vs → W'.ownsRow B 50 1 v' (i + 1) (vs ++ [.slice (some ⟨g, 0, none⟩) n n])) : NRows B v' (i + 1) n f W' := by
  obtain ⟨vs, h1, h3, h2⟩ := h
  have hl : vs.length = i := by have := h1.1; omega
  refine ⟨_, ho vs h1, fun k kv hk => ?_⟩
  rcases Nat.lt_or_ge k vs.length with hlt | hge
  · rw [List.getElem?_append_left hlt] at hk
    obtain ⟨g', e, -, ho'⟩ := h2 k kv hk
    exact ⟨g', e, ho'.kept hg (.inr fun e2 => own_other ho' h1 (by decide) g' rfl e2.symm)⟩
  · rw [List.getElem?_append_right hge] at hk
    have hz : k - vs.length = 0 := by
      have := (List.getElem?_eq_some_iff.1 hk).1
      simp at this
      omega
    obtain rfl : k = i := by omega
    rw [hz] at hk
    simp only [List.getElem?_cons_zero, Option.some.injEq] at hk
    subst hk
    exact ⟨g, rfl, hr.kept hg (.inr fun e2 => own_other hr h1 (by decide) g rfl e2.symm)⟩
theorem own_same {w : World} {base size n : Nat} {e : TypeId} {v : Value} {xs ys : List Value} (h : w.ownsRow base e size v n xs) (h' : w.ownsRow base e size v n ys) : xs = ys := by
  rcases h.2 with ⟨rfl, h2⟩ | ⟨g, cap, cur, rfl, _, hh, _, _, _, hx⟩
  · have e1 := h.1
    have e2 := h'.1
    subst h2
    simp at e1 e2
    rw [e1, e2]
  · rcases h'.2 with ⟨e, _⟩ | ⟨g', cap', cur', e, _, hh', _, _, _, hx'⟩
    · cases e
    · cases e
      rw [hh] at hh'
      cases hh'
      rw [← hx, ← hx']
theorem fine_dist {L : List PKey} (h : AllFine L) : DistK L := by
  unfold DistK
  rw [List.pairwise_iff_getElem]
  intro i j hi hj hij e
  have := allFine_inj h (List.getElem?_eq_getElem hi) (List.getElem?_eq_getElem hj) e
  omega
def rowPart (f : Nat → Bool) (q n : Nat) : List Value := (List.range n).map fun j => Value.bool (if j < q then f j else false)
theorem rowPart_at (f : Nat → Bool) (q n j : Nat) : (rowPart f q n)[j]? = if j < n then some (.bool (if j < q then f j else false)) else none := by
  unfold rowPart
  by_cases h : j < n
  · rw [if_pos h, List.getElem?_map, List.getElem?_range h]
    rfl
  · rw [if_neg h, List.getElem?_eq_none (by simp; omega)]
theorem rowPart_zero (f : Nat → Bool) (n : Nat) : rowPart f 0 n = List.replicate n (.bool false) := by
  apply List.ext_getElem?
  intro j
  rw [rowPart_at, List.getElem?_replicate]
  simp
theorem rowPart_all (f : Nat → Bool) (n : Nat) : rowPart f n n = rowVs f n := by
  apply List.ext_getElem?
  intro j
  rw [rowPart_at]
  unfold rowVs
  by_cases h : j < n
  · rw [if_pos h, if_pos h, List.getElem?_map, List.getElem?_range h]
    rfl
  · rw [if_neg h, List.getElem?_eq_none (by simp; omega)]
theorem rowPart_set (f : Nat → Bool) {q n : Nat} (hq : q < n) : (rowPart f q n).set q (.bool (f q)) = rowPart f (q + 1) n := by
  apply List.ext_getElem?
  intro j
  rw [List.getElem?_set, rowPart_at, rowPart_at, show (rowPart f q n).length = n by simp [rowPart]]
  by_cases h : q = j
  · subst h
    rw [if_pos rfl, if_pos hq, if_pos hq, if_pos (by omega)]
  · rw [if_neg h]
    by_cases h2 : j < n
    · rw [if_pos h2, if_pos h2]
      by_cases h3 : j < q
      · rw [if_pos h3, if_pos (by omega)]
      · rw [if_neg h3, if_neg (by omega)]
    · rw [if_neg h2, if_neg h2]
theorem nrows_b {B : Nat} {v : Value} {n : Nat} {f : Nat → Nat → Bool} {W : World} (h : NRows B v n n f W) : BRows W W.heap.size v n f := by
  obtain ⟨vs, h1, h2⟩ := h
  obtain ⟨A, c, rfl, hc, hm, hr⟩ := own_form h1
  refine ⟨A, c, vs, rfl, hc, hm, by have := h1.1; omega, hr, fun k kv hk => ?_⟩
  obtain ⟨g, rfl, ho⟩ := h2 k kv hk
  obtain ⟨A', c', e, a, b, hr'⟩ := own_form ho
  exact ⟨A', c', e, a, b, hr'⟩
theorem rowVs_one (f : Nat → Bool) (n : Nat) : ∀ u ∈ rowVs f n, u.oneCell' = true := by
  intro u hu
  obtain ⟨k, -, rfl⟩ := List.mem_map.1 hu
  rfl
theorem again_any {L : List PKey} {i : Nat} {xk xv : ByteArray} (hi : i ≤ L.length) : ((L.take i).any fun x => decide (x.1 = xk)) = true ↔ AgainAt L i (xk, xv) := by
  rw [List.any_eq_true]
  constructor
  · rintro ⟨y, hy, he⟩
    obtain ⟨k, hk⟩ := List.mem_iff_getElem?.1 hy
    have hlt := (List.getElem?_eq_some_iff.1 hk).1
    rw [List.length_take] at hlt
    exact ⟨k, y, by omega, by rw [List.getElem?_take] at hk; rw [if_pos (by omega)] at hk; exact hk, by simpa using he⟩
  · rintro ⟨k, y, hk, hy, he⟩
    exact ⟨y, List.mem_of_getElem? (by rw [List.getElem?_take, if_pos hk]; exact hy), by simpa using he⟩
set_option maxHeartbeats 16000000 in
set_option maxRecDepth 100000 in
theorem new_any (v : Value) (L : List PKey) (w : World) (hk : KeysAt w w.heap.size v L) (hsz : ∀ x ∈ L, x.1.size ≤ 140737488355328 ∧ x.2.size ≤ 140737488355328) (hn : L.length ≤ 4398046511104) :
    Calls Tryz.prog 6 #[v] w (NewPost L w) := by
  obtain ⟨A, c, rfl, hc1, hc2, hR⟩ := hk
  obtain ⟨r, hr⟩ : ∃ r, r = w.heap.size := ⟨_, rfl⟩
  have HR := Lib.hid hr
  have HRD := Lib.hid hR
  have HSZ := Lib.hid hsz
  generalize hN : L.length = N at *
  have HN := Lib.hid hN
  have hn1 : (N : Int) ≤ 4398046511104 := by omega
  have hcN : (N : Int) ≤ (c : Int) := by omega
  have hcc : (c : Int) ≤ 9223372036854775807 := by simp only [maxLen] at hc2; omega
  clear hr hR hsz hN
  have HF0 := Lib.hid (show FB w r (w.alloc (.cells #[.int .i64 0, .int .i64 0] 27)) from by rw [HR.out]; exact ⟨Blk.new _ _ _, (Below.refl _ _).alloc (Nat.le_refl _) _, by simp⟩)
  go_enter Tryz.func6, Tryz.ntmps6
  go_wp2
  rw [← HR.out]
  generalize w.alloc (.cells #[.int .i64 0, .int .i64 0] 27) = w1 at *
  go_loopw [18] (fun iv wr => ∃ i : Nat, iv = .int .i64 (i : Int) ∧ i ≤ N ∧ (∀ j, j < i → FineAt L j) ∧ FB w r wr) (fun iv _ => N - (Lib.intOf iv).toNat)
  case atStart => exact ⟨0, rfl, Nat.zero_le _, fun j hj => absurd hj (by omega), HF0.out⟩
  case round =>
    clear HF0
    obtain ⟨i, rfl, hi, hFi, hFB⟩ := hrel
    have HFI := Lib.hid hFi
    have HFB := Lib.hid hFB
    clear hFi hFB
    by_cases hlt : i < N
    · obtain ⟨x, hx⟩ : ∃ x, L[i]? = some x := ⟨L[i]'(by rw [HN.out]; exact hlt), List.getElem?_eq_getElem _⟩
      have hq : (i : Int) < (N : Int) := by omega
      have HB0 := Lib.hid (show Below w.heap.size w wr from HR.out ▸ HFB.out.2.1)
      obtain ⟨b, off, rfl, hbo, hcl⟩ := (HRD.out.below HB0.out).spot (by omega) (by omega)
      have hat := pairCells_at L i x hx
      obtain ⟨xk, xv⟩ := x
      have r0 := hcl _ _ hat.1
      have r1 : wr.cell? ⟨b, off + i * 2 + 1, none⟩ = some (.string xv) := hcl _ _ hat.2
      have HX := Lib.hid hx
      have hsx := HSZ.out _ (List.mem_of_getElem? hx)
      have hs1 := hsx.1
      have hs2 := hsx.2
      have hx1 := Blk.new wr 33 #[.string xk, .string xv]
      have HX1 := Lib.hid (And.intro hx1 (HFB.out.alloc (.cells #[.string xk, .string xv] 33)))
      clear hx hat hcl hx1 hbo hsx
      go_upto_region 4 with (fail)
      clear r0 r1
      generalize wr.heap.size = bp at *
      generalize wr.alloc (.cells #[.string xk, .string xv] 33) = w2 at *
      have k0 : w2.cell? ⟨bp, 0, none⟩ = some (.string xk) := HX1.out.1.cell 0
      have k1 : w2.cell? ⟨bp, 1, none⟩ = some (.string xv) := HX1.out.1.cell 1
      have hbp := HX1.out.1.lt
      have hrp := HX1.out.2.2.2
      go_cut [6, 7] (fun v6 v7 wx => ∃ b6 b7 : Nat, v6 = .pointer (some ⟨b6, 0, none⟩) ∧ v7 = .pointer (some ⟨b7, 0, none⟩) ∧ wx.cell? ⟨b6, 0, none⟩ = some (.int .i64 (errOf xk).1) ∧ wx.cell? ⟨b7, 0, none⟩ = some (.int .i64 (errOf xv).1) ∧ Below w2.heap.size w2 wx)
      case first =>
        -- BEGIN reg
        obtain ⟨n01, n02, n03, n04⟩ := apart2 hbp
        obtain ⟨y01, y02, y03, y04⟩ := lt_two w2.heap.size
        have HCK := Lib.hid (fun s W (h : s.size ≤ 140737488355328) (hl : bp < W.heap.size) (h0 : W.cell? ⟨bp, 0, none⟩ = some (.string xk)) (h1 : W.cell? ⟨bp, 1, none⟩ = some (.string xv)) => check_held s W h hl h0 h1)
        go_region_held3 (fun w' => w'.cell? ⟨bp, 0, none⟩ = some (.string xk) ∧ w'.cell? ⟨bp, 1, none⟩ = some (.string xv)) (go_keep) (first
          | (go_at_call_of 16 (#[Value.string xk]); go_loud (refine Calls.mono (HCK.out xk _ hs1 ?_ ?_ ?_) ?_; (solve | exact hbp | exact hbpk | (simp; omega)); (solve | exact k0 | go_simp | (go_simp; exact k0)); (solve | exact k1 | go_simp | (go_simp; exact k1)); rintro e wk ⟨rfl, hBk, hbpk, k0, k1⟩; obtain ⟨nk1, nk2, nk3, nk4⟩ := apart2 hbpk; obtain ⟨ck, fk⟩ := bcell hBk; obtain ⟨sk1, sk2, sk3⟩ := bsize hBk; obtain ⟨y11, y12, y13, y14⟩ := lt_two wk.heap.size; (try (refine lt_keep w2.heap.size sk1 ?_ ?_; (solve | simp); intro z1)); (try (refine lt_keep (w2.heap.size + 1) sk1 ?_ ?_; (solve | simp); intro z2)); (try (refine blk_k (w := wk) (b := w2.heap.size) (t := 43) (x := (.int .i64 0)) (y := (.int .i64 0)) ?_ ?_; (solve | exact Blk.below (Blk.new _ _ _) hBk (lt_a1 _ _) | exact Blk.below (Blk.drew (Blk.new _ _ _)) hBk (lt_a1 _ _) | exact Blk.below (Blk.alloc (Blk.new _ _ _) _) hBk (lt_a2 _ _ _) | exact Blk.below (Blk.drew (Blk.alloc (Blk.new _ _ _) _)) hBk (lt_a2 _ _ _)); intro P0 p00 p01)); (try (refine blk_k (w := wk) (b := (w2.heap.size + 1)) (t := 43) (x := (.int .i64 0)) (y := (.int .i64 0)) ?_ ?_; (solve | exact Blk.below (blk_new1 _ _ _ _) hBk (lt_a3 _ _ _) | exact Blk.below (Blk.drew (blk_new1 _ _ _ _)) hBk (lt_a3 _ _ _)); intro P1 p10 p11)); refine below_cont w2 hBk ?_ ?_ ?_; (solve | (repeat (first | exact Below.refl _ _ | exact Nat.le_refl _ | refine Below.alloc ?_ ?_ _ | (simp; done) | (simp; omega) | refine Below.drew ?_))); (solve | exact Nat.le_refl _ | simp | (simp; omega)); intro HK0; clear hBk))
          | (go_at_call_of 16 (#[Value.string xv]); go_loud (refine Calls.mono (HCK.out xv _ hs2 ?_ ?_ ?_) ?_; (solve | exact hbp | exact hbpk | (simp; omega)); (solve | exact k0 | go_simp | (go_simp; exact k0)); (solve | exact k1 | go_simp | (go_simp; exact k1)); rintro e wv ⟨rfl, hBv, hbpv, k0, k1⟩; obtain ⟨nv1, nv2, nv3, nv4⟩ := apart2 hbpv; obtain ⟨cv, fv⟩ := bcell hBv; obtain ⟨sv1, sv2, sv3⟩ := bsize hBv; (try (refine lt_keep w2.heap.size sv1 ?_ ?_; (solve | exact z1 | (simp; omega)); intro z3)); (try (refine lt_keep (w2.heap.size + 1) sv1 ?_ ?_; (solve | exact z2 | (simp; omega)); intro z4)); (try (refine lt_keep wk.heap.size sv1 ?_ ?_; (solve | simp); intro z5)); (try (refine lt_keep (wk.heap.size + 1) sv1 ?_ ?_; (solve | simp); intro z6)); (try (refine blk_k (w := wv) (b := w2.heap.size) (t := 43) (x := (.int .i64 0)) (y := (.int .i64 0)) ?_ ?_; (solve | exact P0.below hBv P0.lt | exact (P0.alloc _).below hBv (P0.alloc _).lt | exact ((P0.alloc _).alloc _).below hBv ((P0.alloc _).alloc _).lt); intro Q0 q00 q01)); (try (refine blk_k (w := wv) (b := (w2.heap.size + 1)) (t := 43) (x := (.int .i64 0)) (y := (.int .i64 0)) ?_ ?_; (solve | exact P1.below hBv P1.lt | exact (P1.alloc _).below hBv (P1.alloc _).lt); intro Q1 q10 q11)); (try (refine blk_k (w := wv) (b := wk.heap.size) (t := 43) (x := (.int .i64 0)) (y := (.int .i64 0)) ?_ ?_; (solve | exact Blk.below (Blk.new _ _ _) hBv (lt_a1 _ _) | exact Blk.below (Blk.drew (Blk.new _ _ _)) hBv (lt_a1 _ _) | exact Blk.below (Blk.alloc (Blk.new _ _ _) _) hBv (lt_a2 _ _ _) | exact Blk.below (Blk.drew (Blk.alloc (Blk.new _ _ _) _)) hBv (lt_a2 _ _ _)); intro R0 r00 r01)); (try (refine blk_k (w := wv) (b := (wk.heap.size + 1)) (t := 43) (x := (.int .i64 0)) (y := (.int .i64 0)) ?_ ?_; (solve | exact Blk.below (blk_new1 _ _ _ _) hBv (lt_a3 _ _ _) | exact Blk.below (Blk.drew (blk_new1 _ _ _ _)) hBv (lt_a3 _ _ _)); intro R1 r10 r11)); refine below_cont w2 hBv ?_ ?_ ?_; (solve | (repeat (first | exact HK0.out | exact HK0.out.size | refine Below.alloc ?_ ?_ _ | (have := HK0.out.size; simp; omega) | refine Below.drew ?_))); (solve | exact HK0.out.size | (have := HK0.out.size; simp; omega)); intro HV0; clear hBv))
          | fail "no arm")
        all_goals
          have hz0 := HV0.out.size
          have hz1 := HK0.out.size
          go_wp2_with fail
          go_meet
          refine ⟨_, _, rfl, rfl, ?_, ?_, ?_⟩
          · go_simp
          · go_simp
          · repeat (first | exact HV0.out | refine Below.setCell ?_ ?_ _ | refine Below.alloc ?_ ?_ _)
            all_goals (first | exact hz0 | exact hz1 | (simp [World.setCell]; done) | (simp [World.setCell]; omega))
        -- END reg
      case rest =>
        obtain ⟨b6, b7, rfl, rfl, k2, k3, hbw⟩ := hcut
        have HW := Lib.hid (show Blk wc bp 33 #[.string xk, .string xv] ∧ FB w r wc from ⟨HX1.out.1.below hbw HX1.out.1.lt, HX1.out.2.on hbw⟩)
        -- BEGIN one
        clear k0 k1 HX1 hbw
        have k0 : wc.cell? ⟨bp, 0, none⟩ = some (.string xk) := HW.out.1.cell 0
        have k1 : wc.cell? ⟨bp, 1, none⟩ = some (.string xv) := HW.out.1.cell 1
        have HBA := Lib.hid (show badA (xk, xv) = (!((errOf xk).1 == 0) || !((errOf xv).1 == 0) || decide (xk = ByteArray.empty) || decide (xv = ByteArray.empty)) from rfl)
        generalize (errOf xk).1 = e1 at *
        generalize (errOf xv).1 = e2 at *
        cases hbad : badA (xk, xv)
        · have hpar := HBA.out
          rw [hbad] at hpar
          simp only [Bool.false_eq, Bool.or_eq_false_iff, Bool.not_eq_false', decide_eq_false_iff_not, beq_iff_eq] at hpar
          obtain ⟨⟨⟨rfl, rfl⟩, hn3⟩, hn4⟩ := hpar
          have hk3 := ba_nonempty hn3
          have hk4 := ba_nonempty hn4
          have hk31 := hk3.1
          have hk32 := hk3.2.1
          have hk33 := hk3.2.2
          have hk41 := hk4.1
          have hk42 := hk4.2.1
          have hk43 := hk4.2.2
          have HBF := Lib.hid hbad
          clear hbad hn3 hn4 hk3 hk4
          have hkeys : KeysAt wc wc.heap.size (.slice (some ⟨b, off, none⟩) i c) (L.take i) := by
            have hlen : (L.take i).length = i := by rw [List.length_take, HN.out]; omega
            have hr := ((HRD.out.below (show Below w.heap.size w wc from HR.out ▸ HW.out.2.2.1)).more (show w.heap.size ≤ wc.heap.size from (HR.out ▸ HW.out.2.2.1 : Below w.heap.size w wc).size)).take (k := i) (by omega)
            rw [pairs_take] at hr
            exact ⟨_, c, by rw [hlen], by omega, hc2, by rw [hlen]; exact hr⟩
          have HCF := Lib.hid (cont_of 18 _ (enters_of Tryz.func18 (by kernel_rfl) rfl) (L.take i) xk _ wc (new1_pred xk xv bp wc HW.out.1.lt k0) hkeys (by rw [List.length_take]; omega))
          clear hkeys
          go_wp2_with fail
          refine HCF.out.mono ?_
          rintro en w5 ⟨rfl, hb5⟩
          have HF5 := Lib.hid (HW.out.2.on hb5)
          clear hb5 k0 k1 k2 k3 HCF
          cases hany : (L.take i).any fun x => decide (x.1 = xk)
          · have HFI2 := Lib.hid (show ∀ j, j < i + 1 → FineAt L j from fun j hj => by
              rcases Nat.lt_or_ge j i with h | h
              · exact HFI.out j h
              · obtain rfl : j = i := by omega
                exact ⟨_, HX.out, HBF.out, fun h => by rw [(again_any (xv := xv) (by rw [HN.out]; omega)).2 h] at hany; cases hany⟩)
            clear hany
            go_wp2
            go_roundw
            case rel => exact ⟨i + 1, by go_num, hlt, HFI2.out, HF5.out⟩
            case measure => simp [Lib.intOf]; omega
          · have HX9 := Lib.hid (show FaultIs L 211 i from .inl ⟨i, rfl, ⟨_, HX.out, .inr ⟨HBF.out, (again_any (by rw [HN.out]; omega)).1 hany, rfl⟩⟩, HFI.out⟩)
            clear hany
            obtain ⟨b0, b1, b2, b3, b4, b5⟩ := HF5.out.1.two (.int .i64 211)
            go_wp2
            (try simp only [Exit.inBlock, Exit.then])
            refine bodyPost_ret (new_result (HF5.out.done 211 i).1 rfl rfl) rfl ?_
            exact ⟨HR.out ▸ (HF5.out.done 211 i).2, .inl ⟨211, i, HX9.out, by decide, rfl⟩⟩
        · have HX9 := Lib.hid (show FaultIs L 2 i from .inl ⟨i, rfl, ⟨_, HX.out, .inl ⟨hbad, rfl⟩⟩, HFI.out⟩)
          obtain ⟨b0, b1, b2, b3, b4, b5⟩ := HW.out.2.1.two (.int .i64 2)
          have hpar := HBA.out
          rw [hbad] at hpar
          have hcs : (e1 == 0) = false ∨ ((e1 == 0) = true ∧ ((e2 == 0) = false ∨ ((e2 == 0) = true ∧ (xk = ByteArray.empty ∨ (¬ xk = ByteArray.empty ∧ xv = ByteArray.empty))))) := by
            cases h1 : (e1 == 0)
            · exact .inl rfl
            · refine .inr ⟨rfl, ?_⟩
              cases h2 : (e2 == 0)
              · exact .inl rfl
              · refine .inr ⟨rfl, ?_⟩
                rw [h1, h2] at hpar
                simp at hpar
                by_cases h3 : xk = ByteArray.empty
                · exact .inl h3
                · exact .inr ⟨h3, hpar.resolve_left h3⟩
          clear hpar hbad HBA
          have fin : ∀ en W', en = Ending.returned (.tuple #[.pointer none, faultV 2 i]) → W' = ((wc.setCell ⟨r, 0, none⟩ (.int .i64 2)).setCell ⟨r, 1, none⟩ (.int .i64 (i : Int))) → NewPost L w en W' := fun en W' he hw => by
            rw [he, hw]
            exact ⟨HR.out ▸ (HW.out.2.done 2 i).2, .inl ⟨2, i, HX9.out, by decide, rfl⟩⟩
          have HFIN := Lib.hid fin
          clear fin
          rcases hcs with h1 | ⟨h1, h2 | ⟨h2, rfl | ⟨h3, rfl⟩⟩⟩
          · have h1' : ¬ e1 = 0 := by simpa using h1
            go_wp2
            (try simp only [Exit.inBlock, Exit.then])
            exact bodyPost_ret (new_result (HW.out.2.done 2 i).1 rfl rfl) rfl (HFIN.out _ _ rfl rfl)
          · obtain rfl : e1 = 0 := by simpa using h1
            have h2' : ¬ e2 = 0 := by simpa using h2
            clear h1
            go_wp2
            (try simp only [Exit.inBlock, Exit.then])
            exact bodyPost_ret (new_result (HW.out.2.done 2 i).1 rfl rfl) rfl (HFIN.out _ _ rfl rfl)
          · obtain rfl : e1 = 0 := by simpa using h1
            obtain rfl : e2 = 0 := by simpa using h2
            clear h1 h2
            go_wp2
            (try simp only [Exit.inBlock, Exit.then])
            exact bodyPost_ret (new_result (HW.out.2.done 2 i).1 rfl rfl) rfl (HFIN.out _ _ rfl rfl)
          · obtain rfl : e1 = 0 := by simpa using h1
            obtain rfl : e2 = 0 := by simpa using h2
            obtain ⟨h31, h32, h33⟩ := ba_nonempty h3
            clear h1 h2 h3
            go_wp2
            (try simp only [Exit.inBlock, Exit.then])
            exact bodyPost_ret (new_result (HW.out.2.done 2 i).1 rfl rfl) rfl (HFIN.out _ _ rfl rfl)
        -- END one
    · obtain rfl : i = N := by omega
      have hq : ¬ (i : Int) < (i : Int) := by omega
      have HAF := Lib.hid (show AllFine L from fun j hj => HFI.out j (by rw [← HN.out]; exact hj))
      clear HFI hlt hi
      obtain ⟨i0, hi0, hz0, hz1, hz2⟩ := info_parts brow_info
      obtain ⟨i1, hj0, hy0, hy1, hy2⟩ := info_parts bool_info
      have HNR0 := Lib.hid (show NRows (r + 1) (.slice none 0 0) 0 i (folF L) wr from ⟨[], World.ownsRow_nil _ _ _ _, fun k kv hk => by simp at hk⟩)
      go_wp2
      clear hq
      go_loopw [8, 59] (fun rv iv wr => ∃ k : Nat, iv = .int .i64 (k : Int) ∧ k ≤ i ∧ NRows (r + 1) rv k i (folF L) wr ∧ FB w r wr) (fun _ iv _ => i - (Lib.intOf iv).toNat)
      case atStart => exact ⟨0, rfl, Nat.zero_le _, HNR0.out, HFB.out⟩
      case round =>
        clear HNR0 HFB
        obtain ⟨k, rfl, hk, hNR, hFB⟩ := hrel
        have HNR := Lib.hid hNR
        have HFB := Lib.hid hFB
        obtain ⟨vs, hvs, -⟩ := hNR
        obtain ⟨Ar, cr, rfl, -, -, -⟩ := own_form hvs
        clear hvs hFB
        by_cases hlt : k < i
        · -- BEGIN two
          obtain ⟨x, hx⟩ : ∃ x, L[k]? = some x := ⟨L[k]'(by rw [HN.out]; exact hlt), List.getElem?_eq_getElem _⟩
          have hq : (k : Int) < (i : Int) := by omega
          have HB0 := Lib.hid (show Below w.heap.size w wr from HR.out ▸ HFB.out.2.1)
          obtain ⟨b, off, rfl, hbo, hcl⟩ := (HRD.out.below HB0.out).spot (by omega) (by omega)
          have hat := pairCells_at L k x hx
          obtain ⟨xk, xv⟩ := x
          have r0 := hcl _ _ hat.1
          have r1 : wr.cell? ⟨b, off + k * 2 + 1, none⟩ = some (.string xv) := hcl _ _ hat.2
          have HX := Lib.hid hx
          have HSX := Lib.hid (HSZ.out _ (List.mem_of_getElem? hx))
          have hbe : Below wr.heap.size wr (wr.alloc (.cells #[.string xk, .string xv] 33)) := (Below.refl _ wr).alloc (Nat.le_refl _) _
          have HX1 := Lib.hid (And.intro (Blk.new wr 33 #[.string xk, .string xv]) (And.intro (HFB.out.on hbe) (nrows_on HNR.out hbe)))
          clear hx hat hcl hbo hbe
          go_upto_region 14 with (fail)
          clear r0 r1
          generalize hbp : wr.heap.size = bp at *
          have HBP := Lib.hid hbp
          clear hbp
          generalize wr.alloc (.cells #[.string xk, .string xv] 33) = w2 at *
          have HW2 := Lib.hid HX1.out.2.1.2.2
          go_upto_region 15 with (at_make; refine wpList_make_full _ rfl _ _ 50 rfl (r + 1) 4 i1 (.bool false) 1 Tryz.underlying50 hj0 hy0 hy1 .i64 .i64 _ _ i rfl rfl rfl rfl (by rw [hy2]; omega) (by simp only [maxLen]; omega) HW2.out ?_; intro w3 hown3 hg3)
          rw [show (Value.bool false).cells = #[.bool false] from rfl, Nat.mul_one, toList_madeCells_one] at hown3
          have HM0 := Lib.hid (nrowsM_grown (nrows_m HX1.out.2.2) hg3)
          have HG0 := Lib.hid (show (w3.ownsRow (r + 1) 4 1 (.slice (some ⟨w2.heap.size, 0, none⟩) i i) i (rowPart (folF L k) 0 i)) ∧ FB w r w3 ∧ Blk w3 bp 33 #[.string xk, .string xv] from
            ⟨by rw [rowPart_zero]; exact hown3, HX1.out.2.1.grown hg3 (fun k hk => by cases hk), HX1.out.1.grown hg3 (by simp)⟩)
          have hbg : bp < w2.heap.size := HX1.out.1.lt
          clear hown3 hg3 HX1 HNR HFB HW2
          generalize w2.heap.size = gr at *
          go_wp2
          go_loopw [68] (fun qv wr => ∃ q : Nat, qv = .int .i64 (q : Int) ∧ q ≤ i ∧ NRowsM (r + 1) gr (.slice Ar k cr) k i (folF L) wr ∧ (wr.ownsRow (r + 1) 4 1 (.slice (some ⟨gr, 0, none⟩) i i) i (rowPart (folF L k) q i)) ∧ FB w r wr ∧ Blk wr bp 33 #[.string xk, .string xv]) (fun qv _ => i - (Lib.intOf qv).toNat)
          case atStart => exact ⟨0, rfl, Nat.zero_le _, HM0.out, HG0.out⟩
          case round =>
            clear HM0 HG0
            obtain ⟨q, rfl, hqi, hM, hG⟩ := hrel
            have HM := Lib.hid hM
            have HG := Lib.hid hG
            clear hM hG
            by_cases hlq : q < i
            · obtain ⟨y, hy⟩ : ∃ y, L[q]? = some y := ⟨L[q]'(by rw [HN.out]; exact hlq), List.getElem?_eq_getElem _⟩
              have hq1 : (q : Int) < (i : Int) := by omega
              have HB1 := Lib.hid (show Below w.heap.size w wr from HR.out ▸ HG.out.2.1.2.1)
              obtain ⟨b', off', hA', hbo', hcl'⟩ := (HRD.out.below HB1.out).spot (by omega) (by omega)
              cases hA'
              have hat := pairCells_at L q y hy
              obtain ⟨yk, yv⟩ := y
              have r0 := hcl' _ _ hat.1
              have r1 : wr.cell? ⟨b, off + q * 2 + 1, none⟩ = some (.string yv) := hcl' _ _ hat.2
              have hsy := HSZ.out _ (List.mem_of_getElem? hy)
              have HFO := Lib.hid (show folB (yk, yv) (xk, xv) = folF L k q from (folF_at HX.out hy).symm)
              have HFW := Lib.hid (fun W => follows_any (yk, yv) (xk, xv) W hsy.1 HSX.out.2)
              have hbe : Below wr.heap.size wr (wr.alloc (.cells #[.string yk, .string yv] 33)) := (Below.refl _ wr).alloc (Nat.le_refl _) _
              have HX2 := Lib.hid (show NRowsM (r + 1) gr (.slice Ar k cr) k i (folF L) (wr.alloc (.cells #[.string yk, .string yv] 33)) ∧ ((wr.alloc (.cells #[.string yk, .string yv] 33)).ownsRow (r + 1) 4 1 (.slice (some ⟨gr, 0, none⟩) i i) i (rowPart (folF L k) q i)) ∧ FB w r (wr.alloc (.cells #[.string yk, .string yv] 33)) ∧ Blk (wr.alloc (.cells #[.string yk, .string yv] 33)) bp 33 #[.string xk, .string xv] from
                ⟨nrowsM_on HM.out hbe, own_more HG.out.1 hbe, HG.out.2.1.on hbe, HG.out.2.2.alloc _⟩)
              have k0 : wr.cell? ⟨bp, 0, none⟩ = some (.string xk) := HG.out.2.2.cell 0
              have k1 : wr.cell? ⟨bp, 1, none⟩ = some (.string xv) := HG.out.2.2.cell 1
              have hbl := HG.out.2.2.lt
              clear hy hat hcl' hbo' hsy hbe
              go_wp2_with fail
              clear r0 r1 k0 k1 hbl
              generalize wr.alloc (.cells #[.string yk, .string yv] 33) = w5 at *
              refine (HFW.out w5).mono ?_
              rintro en w6 ⟨rfl, hb6⟩
              rw [HFO.out]
              have HM6 := Lib.hid (nrowsM_on HX2.out.1 hb6)
              have HG6 := Lib.hid (show (w6.ownsRow (r + 1) 4 1 (.slice (some ⟨gr, 0, none⟩) i i) i (rowPart (folF L k) q i)) ∧ FB w r w6 ∧ Blk w6 bp 33 #[.string xk, .string xv] from ⟨own_more HX2.out.2.1 hb6, HX2.out.2.2.1.on hb6, HX2.out.2.2.2.below hb6 HX2.out.2.2.2.lt⟩)
              clear hb6 HX2 HFW HFO
              have k4 : w6.cell? ⟨gr, q, none⟩ = some (.bool false) := own_cell HG6.out.1 q _ (by rw [rowPart_at, if_pos hlq, if_neg (by omega)])
              have f4 := own_free HG6.out.1 q
              have hst := World.ownsRow.stored HG6.out.1 q (.bool (folF L k q))
              rw [rowPart_set _ hlq] at hst
              have HG7 := Lib.hid (show ((w6.setCell ⟨gr, q, none⟩ (.bool (folF L k q))).ownsRow (r + 1) 4 1 (.slice (some ⟨gr, 0, none⟩) i i) i (rowPart (folF L k) (q + 1) i)) ∧ FB w r (w6.setCell ⟨gr, q, none⟩ (.bool (folF L k q))) ∧ Blk (w6.setCell ⟨gr, q, none⟩ (.bool (folF L k q))) bp 33 #[.string xk, .string xv] from
                ⟨hst.1, HG6.out.2.1.grown hst.2 (fun k hk => by cases hk; exact (HG6.out.1.lt gr rfl).1), HG6.out.2.2.grown hst.2 (by simp; omega)⟩)
              have HM7 := Lib.hid (nrowsM_far (k := q) (u := .bool (folF L k q)) HM6.out (Nat.le_refl gr))
              clear hst
              generalize folF L k q = F at *
              go_wp2
              go_roundw
              case rel => exact ⟨q + 1, by go_num, hlq, HM7.out, HG7.out⟩
              case measure => simp [Lib.intOf]; omega
            · obtain rfl : q = i := by omega
              have hq1 : ¬ (q : Int) < (q : Int) := by omega
              have hro := HG.out.1
              rw [rowPart_all] at hro
              have hbe : Below wr.heap.size wr (wr.alloc (.cells #[.slice (some ⟨gr, 0, none⟩) q q] 50)) := (Below.refl _ wr).alloc (Nat.le_refl _) _
              have HRO := Lib.hid (own_more hro hbe)
              have HM8 := Lib.hid (nrowsM_on HM.out hbe)
              have HF8 := Lib.hid (HG.out.2.1.on hbe)
              have HAR := Lib.hid (reads_new wr #[.slice (some ⟨gr, 0, none⟩) q q] 50 1 1 rfl)
              obtain ⟨vs, hvs, hvb, hvr⟩ := HM8.out
              have HVS := Lib.hid hvs
              have HFR := Lib.hid HF8.out.2.2
              clear hro hbe hvs hvb hvr
              go_wp2_with (at_builtin; go_loud (refine wpList_append_any _ rfl (.tmp 80) (.tmp 82) _ rfl (r + 1) 50 i0 _ 1 24 Tryz.underlying49 hi0 hz0 hz1 hz2 rfl (by omega) _ k vs rfl HVS.out (wr.heap.size + 1) (some ⟨wr.heap.size, 0, none⟩) 1 1 [.slice (some ⟨gr, 0, none⟩) q q] rfl HAR.out (by simp [Value.oneCell']) (by simp only [maxLen]; omega) (by omega) HFR.out ?_); intro v9 w9 hown9 hg9 hat9; obtain ⟨A9, c9, rfl, -, -, -⟩ := own_form hown9; have HN9 := Lib.hid (nrows_push HM8.out HRO.out hg9 (fun vs' h => by rw [show vs' = vs from own_same h HVS.out]; exact hown9)); have HF9 := Lib.hid (HF8.out.grown hg9 (fun k hk => (HVS.out.lt k hk).1)); clear hown9 hg9 hat9)
              go_roundw
              case rel => exact ⟨k + 1, by go_num, hlt, HN9.out, HF9.out⟩
              case measure => simp [Lib.intOf]; omega
          -- END two
        · obtain rfl : k = i := by omega
          have hq : ¬ (k : Int) < (k : Int) := by omega
          clear hlt hk
          have HBR := Lib.hid (nrows_b HNR.out)
          have HNO := Lib.hid (show NRows (r + 1) (.slice Ar k cr) k k (folF L) wr from HNR.out)
          have HF9 := HFB
          go_wp2
          clear hq
          generalize wr = w2 at *
          go_loopw [87] (fun iv wr => ∃ j : Nat, iv = .int .i64 (j : Int) ∧ j ≤ k ∧ (∀ j', j' < j → ¬ RF L.length (folF L) j' j') ∧ Below w2.heap.size w2 wr) (fun iv _ => k - (Lib.intOf iv).toNat)
          case atStart => exact ⟨0, rfl, Nat.zero_le _, fun j hj => absurd hj (by omega), Below.refl _ _⟩
          case round =>
            obtain ⟨j, rfl, hjk, hno, hB⟩ := hrel
            have HNO2 := Lib.hid hno
            have HBB := Lib.hid hB
            clear hno hB
            by_cases hlj : j < k
            · have hq1 : (j : Int) < (k : Int) := by omega
              have HRE := Lib.hid (reaches_any (.slice Ar k cr) k j (folF L) wr ((HBR.out.below HBB.out).more HBB.out.size) hlj (by omega))
              go_wp2_with fail
              refine HRE.out.mono ?_
              rintro en w6 ⟨⟨bb, rfl, hbb⟩, hb6⟩
              have HBB6 := Lib.hid (HBB.out.trans (hb6.mono HBB.out.size))
              have HF6 := Lib.hid (HF9.out.on HBB6.out)
              have HBI := Lib.hid hbb
              clear hb6 hbb HRE
              cases bb
              · have HNO3 := Lib.hid (show ∀ j', j' < j + 1 → ¬ RF L.length (folF L) j' j' from fun j' hj' => by
                  rcases Nat.lt_or_ge j' j with h | h
                  · exact HNO2.out j' h
                  · obtain rfl : j' = j := by omega
                    intro hr
                    rw [HN.out] at hr
                    have := HBI.out.2 hr
                    cases this)
                go_wp2
                go_roundw
                case rel => exact ⟨j + 1, by go_num, hlj, HNO3.out, HBB6.out⟩
                case measure => simp [Lib.intOf]; omega
              · have HX9 := Lib.hid (show FaultIs L 210 j from .inr (.inl ⟨HAF.out, j, rfl, rfl, by rw [HN.out]; exact HBI.out.1 rfl, HNO2.out⟩))
                obtain ⟨b0, b1, b2, b3, b4, b5⟩ := HF6.out.1.two (.int .i64 210)
                go_wp2
                (try simp only [Exit.inBlock, Exit.then])
                refine bodyPost_ret (new_result (HF6.out.done 210 j).1 rfl rfl) rfl ?_
                exact ⟨HR.out ▸ (HF6.out.done 210 j).2, .inl ⟨210, j, HX9.out, by decide, rfl⟩⟩
            · obtain rfl : j = k := by omega
              have hq1 : ¬ (j : Int) < (j : Int) := by omega
              have HX9 := Lib.hid (show FaultIs L 0 0 from .inr (.inr ⟨HAF.out, fun i hr => by
                have := hr.lt
                rw [HN.out] at this
                exact HNO2.out i this hr, rfl, rfl⟩))
              have HDK := Lib.hid (fine_dist HAF.out)
              have HF6 := Lib.hid (HF9.out.on HBB.out)
              have hkw : KeysAt wr wr.heap.size (.slice A j c) L := by
                have hbw : Below w.heap.size w wr := HR.out ▸ HF6.out.2.1
                exact ⟨A, c, by rw [HN.out], by rw [HN.out]; exact hc1, hc2, by rw [HN.out]; exact (HRD.out.below hbw).more hbw.size⟩
              have HCL := Lib.hid (aclone_any L _ wr hkw (by rw [HN.out]; exact hn))
              clear hkw HNO2 HBB
              go_wp2_with fail
              refine HCL.out.mono ?_
              rintro en w7 ⟨⟨v7, rfl, ho7⟩, hb7⟩
              obtain ⟨A7, c7, rfl, -, -, -⟩ := own_form ho7
              have HO7 := Lib.hid ho7
              have HF7 := Lib.hid (HF6.out.on hb7)
              clear ho7 hb7 HCL
              have hbe : Below w7.heap.size w7 (w7.alloc (.cells #[.slice A7 L.length c7] 55)) := (Below.refl _ w7).alloc (Nat.le_refl _) _
              have HG8 := Lib.hid (Blk.new w7 55 #[.slice A7 L.length c7])
              have HO8 := Lib.hid (own_more HO7.out hbe)
              have HF8 := Lib.hid (HF7.out.on hbe)
              clear hbe
              go_wp2_with fail
              generalize w7.alloc (.cells #[.slice A7 L.length c7] 55) = w8 at *
              generalize w7.heap.size = g8 at *
              refine (asort_of 23 (enters_of Tryz.func23 (by kernel_rfl) rfl) new2_cmps L _ _ w8 HO8.out HDK.out (by rw [HN.out]; omega)).mono ?_
              rintro en w9 ⟨rfl, ho9, hl9, hg9⟩
              have hrw : r + 1 ≤ wr.heap.size := HF6.out.2.2
              have HF9' := Lib.hid (HF8.out.grown hg9 (fun k hk => by have := (HO8.out.lt k hk).1; omega))
              have hG9 := HG8.out.grown hg9 (fun e => own_blk HO8.out HG8.out (by decide) e.symm rfl)
              have hgr : g8 ≠ r := blk_other hG9 HF9'.out.1 (by decide)
              have hO : Only r w9 ((w9.setCell ⟨r, 0, none⟩ (.int .i64 0)).setCell ⟨r, 1, none⟩ (.int .i64 0)) := ((Only.refl r w9).setCell (p := ⟨r, 0, none⟩) (.inl rfl) _).setCell (p := ⟨r, 1, none⟩) (.inl rfl) _
              rw [← hl9] at ho9 hG9
              have ho10 := own_keptBlk ho9 HF9'.out.1 (by decide) hO
              have HAX := Lib.hid (show ALS ((w9.setCell ⟨r, 0, none⟩ (.int .i64 0)).setCell ⟨r, 1, none⟩ (.int .i64 0)) (.pointer (some ⟨g8, 0, none⟩)) (sortK L) from
                ⟨g8, _, rfl, hG9.grown hO (fun e => hgr (by cases e; rfl)), keys_own ho10⟩)
              clear ho9 hl9 hg9 hG9 hO ho10
              obtain ⟨b0, b1, b2, b3, b4, b5⟩ := HF9'.out.1.two (.int .i64 0)
              go_wp2
              (try simp only [Exit.inBlock, Exit.then])
              refine bodyPost_ret (new_result (HF9'.out.done 0 0).1 rfl rfl) rfl ?_
              exact ⟨HR.out ▸ (HF9'.out.done 0 0).2, .inr ⟨HX9.out, _, rfl, HAX.out⟩⟩
end Go.Proofs.YtkfofdmcggoonaaGreatDoor
