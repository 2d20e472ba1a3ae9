/-
  The walks of slices.Clone and slices.SortFunc at rows, and of the order that pool.Table sorts by. Condition: the rows are within the reach.
-/
import Derived.Test.YtagekiaejhjpnaaPutRow
import Derived.Test.YtagekiaejhjpnaaSortRLay
import Derived.Test.YtagekiaejhjpnaaPoolCmpT
import Derived.Test.YtagekiaejhjpnaaPoolWakes
namespace Go.Proofs.Ytagekiaejhjpnaa
open Go.RowKit Go.Shelf Go.Lib Go.Sort

abbrev rA (r : RowI) : Value := .int .u32 r.1
abbrev rB (r : RowI) : Value := .int .u32 r.2
theorem rows_cells (l : List RowI) : rowCells l = cells2 rA rB l := rfl
theorem own_some {w : World} {base k : Nat} {e : TypeId} {size n : Nat} {v : Value} {xs : List Value} (h : w.ownsRow base e size v n xs) (hk : v.ownBlock = some k) : ∃ c, v = .slice (some ⟨k, 0, none⟩) n c ∧ n ≤ c ∧ c ≤ maxLen := by
  rcases h.2 with ⟨rfl, -⟩ | ⟨g, c, cur, rfl, -, -, h1, h2, -⟩
  · simp [Value.ownBlock] at hk
  · simp only [Value.ownBlock, Option.some.injEq] at hk
    subst hk
    exact ⟨c, rfl, h1, h2⟩
theorem swo_of {α : Type} {lt : α → α → Bool} (T : TotalLt lt) : SWO lt where
  irrefl := T.irr
  trans := T.tr
  ntrans x y z h1 h2 := by
    cases h : lt x z
    · rfl
    · cases h3 : lt y x
      · have e := T.conn _ _ h1 h3
        rw [e] at h
        rw [h] at h2
        exact h2
      · have := T.tr _ _ _ h3 h
        rw [this] at h2
        cases h2
def ClonePost (l : List RowI) (w : World) (e : Ending) (w' : World) : Prop := (∃ v, e = .returned v ∧ w'.ownsRow w.heap.size 38 2 v l.length (rowCells l)) ∧ Below w.heap.size w w'
set_option maxRecDepth 100000 in
set_option maxHeartbeats 4000000 in
theorem clone_some (a : Addr) (c : Nat) (l : List RowI) (w : World) (h : RowsR w w.heap.size (.slice (some a) l.length c) l) (hlen : l.length * 8 ≤ 140737488351232) :
    Calls Try.prog 37 #[.slice (some a) l.length c] w fun e w' => (∃ g c', e = .returned (.slice (some ⟨g, 0, none⟩) l.length c') ∧ w'.ownsRow w.heap.size 38 2 (.slice (some ⟨g, 0, none⟩) l.length c') l.length (rowCells l) ∧ l.length ≤ c' ∧ c' ≤ maxLen) ∧ Below w.heap.size w w' := by
  obtain ⟨A', c', e, hc, hm, hR⟩ := h
  cases e
  have HR := Lib.hid (hR.alloc (Nat.le_refl _) (.cells #[] 38))
  have HE1 := Lib.hid (own_empty w 38 2)
  have HB1 := Lib.hid ((Below.refl _ w).alloc (Nat.le_refl _) (.cells #[] 38))
  have HRC := Lib.hid (rowCells_one (l := l))
  obtain ⟨i0, hi0, hz0, hz1, hz2⟩ := info_parts row_info
  clear hR hc hm
  have heq := fun W => Lib.run_eql_slice_nil (P := Try.prog) W 33 38 (some a) l.length c 0 0 Try.underlying33
  go_enter Try.func37, Try.ntmps37
  go_wp2_with (at_builtin; go_loud (refine wpList_append_any _ rfl (.tmp 5) (.tmp 6) _ rfl w.heap.size 38 i0 _ 2 8 Try.underlying33 hi0 hz0 hz1 hz2 rfl (by omega) _ 0 [] rfl HE1.out w.heap.size (some a) l.length c (rowCells l) rfl HR.out HRC.out (by simp only [maxLen]; omega) (by omega) (by simp) ?_); intro v3 w3 hown3 hg3 hat3; have HO3 := Lib.hid (show w3.ownsRow w.heap.size 38 2 v3 l.length (rowCells l) from by simpa using hown3); have HB3 := Lib.hid (HB1.out.grown hg3 (by simp) (fun g hg => (HE1.out.lt g hg).1)); have HAT := Lib.hid (show ∃ k, v3.ownBlock = some k from hat3.elim (fun e => ⟨_, e⟩) (fun e => ⟨_, e⟩)); clear hown3 hg3 hat3)
  go_ret
  obtain ⟨k, hk⟩ := HAT.out
  obtain ⟨c3, rfl, h1, h2⟩ := own_some HO3.out hk
  exact ⟨⟨k, c3, rfl, HO3.out, h1, h2⟩, HB3.out⟩
set_option maxHeartbeats 4000000 in
theorem clone_any (v : Value) (l : List RowI) (w : World) (h : RowsR w w.heap.size v l) (hlen : l.length * 8 ≤ 140737488351232) :
    Calls Try.prog 37 #[v] w (ClonePost l w) := by
  obtain ⟨A, c, rfl, hc, hm, hR⟩ := id h
  cases A with
  | some a => exact (clone_some a c l w h hlen).mono fun e w' ⟨⟨g, c', he, ho, _, _⟩, hb⟩ => ⟨⟨_, he, ho⟩, hb⟩
  | none =>
    have hl : l = [] := by
      rcases Nat.eq_zero_or_pos l.length with h0 | h0
      · exact List.length_eq_zero_iff.1 h0
      · obtain ⟨a, ha, -⟩ := hR.2 h0
        cases ha
    subst hl
    clear hR h hc hm
    have heq := fun W => Lib.run_eql_slice_nil (P := Try.prog) W 33 38 none 0 c 0 0 Try.underlying33
    go_enter Try.func37, Try.ntmps37
    go_wp2
    go_ret
    exact ⟨⟨_, rfl, World.ownsRow_nil _ _ _ _⟩, Below.refl _ _⟩
theorem row_new (w : World) (x : RowI) : RowsR (w.alloc (.cells #[.int .u32 x.1, .int .u32 x.2] 38)) (w.heap.size + 1) (.slice (some ⟨w.heap.size, 0, none⟩) 1 1) [x] :=
  ⟨_, 1, rfl, by simp, by simp [maxLen], reads_new w #[.int .u32 x.1, .int .u32 x.2] 38 2 1 rfl⟩
set_option maxHeartbeats 4000000 in
theorem tcmp_any (x y : RowI) (w : World) : Calls Try.prog 41 #[.agg #[.int .u32 x.1, .int .u32 x.2], .agg #[.int .u32 y.1, .int .u32 y.2]] w fun e w' => e = .returned (.int .i64 (cmpR x y)) ∧ Grew w w' := by
  obtain ⟨W0, hW0⟩ : ∃ W0, (w.alloc (.cells #[.int .u32 x.1, .int .u32 x.2] 38)).alloc (.cells #[.int .u32 y.1, .int .u32 y.2] 38) = W0 := ⟨_, rfl⟩
  have hG : Grew w W0 := by rw [← hW0]; exact ((Grew.refl w).alloc _).alloc _
  have hz : W0.heap.size = w.heap.size + 2 := by rw [← hW0]; simp
  have k0 : W0.cell? ⟨w.heap.size, 0, none⟩ = some (.int .u32 x.1) := by rw [← hW0]; exact ((Blk.new w _ _).alloc _).cell 0
  have k1 : W0.cell? ⟨w.heap.size, 1, none⟩ = some (.int .u32 x.2) := by rw [← hW0]; exact ((Blk.new w _ _).alloc _).cell 1
  have k2 : W0.cell? ⟨w.heap.size + 1, 0, none⟩ = some (.int .u32 y.1) := by
    rw [← hW0]
    simp
  have k3 : W0.cell? ⟨w.heap.size + 1, 1, none⟩ = some (.int .u32 y.2) := by
    rw [← hW0]
    simp
  have b0 : w.heap.size < W0.heap.size := by omega
  have b1 : w.heap.size + 1 < W0.heap.size := by omega
  have b2 : w.heap.size < W0.heap.size + 1 := by omega
  have b3 : w.heap.size + 1 < W0.heap.size + 1 := by omega
  have HG := Lib.hid hG
  have HC := Lib.hid (show Calls Try.prog 20 #[.slice (some ⟨W0.heap.size, 0, none⟩) 1 1, .slice (some ⟨W0.heap.size + 1, 0, none⟩) 1 1] ((W0.alloc (.cells #[.int .u32 x.1, .int .u32 x.2] 38)).alloc (.cells #[.int .u32 y.1, .int .u32 y.2] 38)) (fun e w' => e = .returned (.int .i64 (cmpR x y)) ∧ Grew ((W0.alloc (.cells #[.int .u32 x.1, .int .u32 x.2] 38)).alloc (.cells #[.int .u32 y.1, .int .u32 y.2] 38)) w') from by
    have h1 : RowsR ((W0.alloc (.cells #[.int .u32 x.1, .int .u32 x.2] 38)).alloc (.cells #[.int .u32 y.1, .int .u32 y.2] 38)) (W0.heap.size + 1 + 1) (.slice (some ⟨W0.heap.size, 0, none⟩) 1 1) [x] :=
      ((row_new W0 x).below ((Below.refl _ _).alloc (by simp) _)).more (by omega)
    have h2 := row_new (W0.alloc (.cells #[.int .u32 x.1, .int .u32 x.2] 38)) y
    rw [World.size_alloc] at h2
    have h3 : ((W0.alloc (.cells #[.int .u32 x.1, .int .u32 x.2] 38)).alloc (.cells #[.int .u32 y.1, .int .u32 y.2] 38)).heap.size = W0.heap.size + 1 + 1 := by simp
    have h4 := pcompare_any _ _ [x] [y] _ (by rw [h3]; exact h1) (by rw [h3]; exact h2)
    have h5 : cmpT [x] [y] = cmpR x y := by
      rw [cmpT_cons]
      by_cases e : x = y
      · rw [if_pos e, e, cmpR_self, cmpT_self]
      · rw [if_neg e]
    refine h4.mono fun e w' ⟨he, hg⟩ => ⟨by rw [he, h5], hg⟩)
  clear hz hG
  go_enter Try.func41, Try.ntmps41
  go_upto_region 1 with (fail)
  (try rw [hW0])
  clear hW0
  go_wp2_with (go_at_call 20; go_loud (refine HC.out.mono ?_; rintro e wt ⟨rfl, hgt⟩; have HGT := Lib.hid (((HG.out.alloc _).alloc _).trans hgt); clear hgt))
  go_ret
  exact ⟨rfl, HGT.out⟩
theorem sortrows_any (g c : Nat) (d : Array RowI) (w : World) (hH : HoldsK (fun k => [rA k, rB k]) 2 w g 0 d) (hg : g < w.heap.size) (hd : d.size ≤ 1000000) :
    Calls Try.prog 40 #[.slice (some ⟨g, 0, none⟩) d.size c, .func (.func 41) #[] #[]] w fun e w' => e = .returned (.tuple #[]) ∧
      ∃ d' n os, PermIn 0 d.size d d' ∧ SortedIn rl 0 d.size d' ∧ w' = sortWorldK (fun k : RowI => [rA k, rB k]) 2 w g 0 n d' os := by
  have hlt : (ltOf fun x y : RowI => cmpR x y) = rl := by
    funext x y
    exact cmpR_neg
  have eg : ∀ args w, (callFunc 41 args).run Try.prog w = .ok (.enter 41 args) w := enters_of Try.func41 (by kernel_rfl) rfl
  have hcon := AnyQ.slices_SortFunc sortR 2 Try.isAgg38 Try.sizeOf38 (fun k : RowI => [rA k, rB k]) (fun _ => rfl) (fun x v hv => by simp at hv; rcases hv with rfl | rfl <;> rfl) (fun x y : RowI => cmpR x y)
    (by rw [hlt]; exact swo_of rlT) 41 #[] g 0 c d w eg (fun _ _ _ _ x y => tcmp_any x y _) hH hg (by omega)
  rw [hlt] at hcon
  exact hcon
/-- pool.Table's sort. -/
theorem tsort_any (g c : Nat) (l : List RowI) (w : World) (base : Nat) (h : w.ownsRow base 38 2 (.slice (some ⟨g, 0, none⟩) l.length c) l.length (rowCells l)) (hlen : l.length ≤ 1000000) :
    Calls Try.prog 40 #[.slice (some ⟨g, 0, none⟩) l.length c, .func (.func 41) #[] #[]] w fun e w' => e = .returned (.tuple #[]) ∧
      (∃ l' : List RowI, l'.length = l.length ∧ (∀ x, x ∈ l' ↔ x ∈ l) ∧ SortedR l' ∧ w'.ownsRow base 38 2 (.slice (some ⟨g, 0, none⟩) l.length c) l.length (rowCells l')) ∧ Only g w w' := by
  have hsz : l.toArray.size = l.length := by simp
  have hH : HoldsK (fun k => [rA k, rB k]) 2 w g 0 l.toArray := by
    rcases Nat.eq_zero_or_pos l.length with h0 | h0
    · intro j hj
      simp [h0] at hj
    · exact (own_holds (d := l.toArray) (a := rA) (b := rB) (base := base) (c := c) (by rw [hsz]; exact h) (by rw [hsz]; exact h0)).1
  have hc := sortrows_any g c l.toArray w hH (h.lt g rfl).2 (by rw [hsz]; exact hlen)
  rw [hsz] at hc
  refine hc.mono fun e w' ⟨he, d', n, os, hp, hs, hw⟩ => ?_
  subst hw
  obtain ⟨h1, h2⟩ := permIn_perm l.toArray d' (by rw [hsz]; exact hp)
  refine ⟨he, ⟨d'.toList, by rw [Array.length_toList, h2, hsz], fun x => h1.mem_iff, sortedIn_pairwise rl d' (by rw [h2, hsz]; exact hs), ?_⟩, sortWorldK_grown _ _ _ _ _ _ _⟩
  exact own_sorted h (by rw [h2, hsz]) n os
end Go.Proofs.Ytagekiaejhjpnaa
