/-
  The sort of a list of values by their paths, as bundle's Sort calls it. Condition: at most 10000000 values.
-/
import Derived.Test.YtfpepdjffehbcaaGreatBunSortS
import Derived.Test.YtfpepdjffehbcaaGreatBunGet
set_option linter.unusedVariables false
set_option linter.unusedSimpArgs false
namespace Go.Proofs.YtfpepdjffehbcaaGreat
open Go.RowKit Go.Shelf Go.Lib Go.Sort

abbrev vA (k : PKey) : Value := .string k.1
abbrev vB (k : PKey) : Value := .string k.2
theorem compareV_any (a b : ByteArray) (w : World) : Calls Tryz.prog 54 #[.string a, .string b] w fun e w' => e = .returned (.int .i64 (Lib.compareBytes a.data.toList b.data.toList)) ∧ w' = w := Go.Proofs.Any.strings_Compare cmpV a b w
theorem scmp_any (x y : PKey) (w : World) : Calls Tryz.prog 53 #[.agg #[.string x.1, .string x.2], .agg #[.string y.1, .string y.2]] w fun e w' => e = .returned (.int .i64 (Lib.compareBytes x.1.data.toList y.1.data.toList)) ∧ Grew w w' := by
  obtain ⟨W0, hW0⟩ : ∃ W0, (w.alloc (.cells #[.string x.1, .string x.2] 59)).alloc (.cells #[.string y.1, .string y.2] 59) = W0 := ⟨_, rfl⟩
  have HG := Lib.hid (show Grew w W0 from by rw [← hW0]; exact ((Grew.refl w).alloc _).alloc _)
  have k0 : W0.cell? ⟨w.heap.size, 0, none⟩ = some (.string x.1) := by rw [← hW0]; exact ((Blk.new w _ _).alloc _).cell 0
  have k2 : W0.cell? ⟨w.heap.size + 1, 0, none⟩ = some (.string y.1) := by
    rw [← hW0]
    simp
  have HC := Lib.hid (compareV_any x.1 y.1 W0)
  go_enter Tryz.func53, Tryz.ntmps53
  go_upto_region 1 with (fail)
  (try rw [hW0])
  clear hW0
  go_wp2_with (go_at_call 54; go_must (refine HC.out.mono ?_; rintro e wt ⟨rfl, rfl⟩))
  go_ret
  exact ⟨rfl, HG.out⟩
theorem sortvals_any (g c : Nat) (d : Array PKey) (w : World) (hH : HoldsK (fun k => [vA k, vB k]) 2 w g 0 d) (hg : g < w.heap.size) (hd : d.size ≤ 10000000) :
    Calls Tryz.prog 52 #[.slice (some ⟨g, 0, none⟩) d.size c, .func (.func 53) #[] #[]] w fun e w' => e = .returned (.tuple #[]) ∧
      ∃ d' n os, PermIn 0 d.size d d' ∧ SortedIn (fun x y : PKey => bl x.1 y.1) 0 d.size d' ∧ w' = sortWorldK (fun k : PKey => [vA k, vB k]) 2 w g 0 n d' os := by
  have hlt : (ltOf fun x y : PKey => Lib.compareBytes x.1.data.toList y.1.data.toList) = fun x y : PKey => bl x.1 y.1 := by
    funext x y
    unfold bl
    rw [Lib.toList_data, Lib.toList_data, ← cb_less]
    rfl
  have hswo : SWO (fun x y : PKey => bl x.1 y.1) := bl_swo fun x : PKey => x.1.toList
  have eg : ∀ args w, (callFunc 53 args).run Tryz.prog w = .ok (.enter 53 args) w := enters_of Tryz.func53 (by kernel_rfl) rfl
  have hcon := AnyQ.slices_SortFunc sortV 2 Tryz.isAgg59 Tryz.sizeOf59 (fun k : PKey => [vA k, vB k]) (fun _ => rfl) (fun x v hv => by simp at hv; rcases hv with rfl | rfl <;> rfl) (fun x y : PKey => Lib.compareBytes x.1.data.toList y.1.data.toList)
    (by rw [hlt]; exact hswo) 53 #[] g 0 c d w eg (fun _ _ _ _ x y => scmp_any x y _) hH hg (by omega)
  rw [hlt] at hcon
  exact hcon
set_option maxHeartbeats 2000000 in
theorem len64_zero (w : World) : Calls Tryz.prog 103 #[.int .u64 0] w fun e w' => e = .returned (.int .i64 0) ∧ w' = w := by
  go_enter Tryz.func103, Tryz.ntmps103
  go_wp2
  go_ret
  exact ⟨by kernel_rfl, rfl⟩
theorem len_zero (w : World) : Calls Tryz.prog 75 #[.int .u64 0] w fun e w' => e = .returned (.int .i64 0) ∧ w' = w := by
  have HL := Lib.hid (len64_zero w)
  go_enter Tryz.func75, Tryz.ntmps75
  go_wp2_with (go_at_call 103; go_must (refine HL.out.mono ?_; rintro e w' ⟨rfl, rfl⟩))
  go_ret
  exact ⟨rfl, rfl⟩
theorem insert_none (c : Nat) (f : Value) (w : World) : Calls Tryz.prog 104 #[.slice none 0 c, .int .i64 0, .int .i64 0, f] w fun e w' => e = .returned (.tuple #[]) ∧ w' = w := by
  go_enter Tryz.func104, Tryz.ntmps104
  go_wp2
  go_loopw [8] (fun iv W => iv = .int .i64 1 ∧ W = w) (fun _ _ => 0)
  case atStart => exact ⟨rfl, rfl⟩
  case round =>
    obtain ⟨rfl, rfl⟩ := hrel
    go_wp2
    exact bodyPost_end (results_none Tryz.results104 _ _ _) rfl ⟨rfl, rfl⟩
theorem pdq_none (c : Nat) (f : Value) (k : Int) (w : World) : Calls Tryz.prog 76 #[.slice none 0 c, .int .i64 0, .int .i64 0, .int .i64 k, f] w fun e w' => e = .returned (.tuple #[]) ∧ w' = w := by
  have HI := Lib.hid (insert_none c f w)
  go_enter Tryz.func76, Tryz.ntmps76
  go_wp2
  go_loopw [1, 2] (fun av bv W => av = .int .i64 0 ∧ bv = .int .i64 0 ∧ W = w) (fun _ _ _ => 0)
  case atStart => exact ⟨rfl, rfl, rfl⟩
  case round =>
    obtain ⟨rfl, rfl, rfl⟩ := hrel
    go_wp2_with (go_at_call 104; go_must (refine HI.out.mono ?_; rintro e w' ⟨rfl, rfl⟩))
    (try simp only [Exit.inBlock, Exit.then])
    exact bodyPost_ret (results_none Tryz.results76 _ _ _) rfl ⟨rfl, rfl⟩
theorem sortfunc_none (c : Nat) (f : Value) (w : World) : Calls Tryz.prog 52 #[.slice none 0 c, f] w fun e w' => e = .returned (.tuple #[]) ∧ w' = w := by
  have HL := Lib.hid (len_zero w)
  have HP := Lib.hid (pdq_none c f 0 w)
  go_enter Tryz.func52, Tryz.ntmps52
  go_wp2_with (first
    | (go_at_call 75; go_must (refine HL.out.mono ?_; rintro e w' ⟨rfl, rfl⟩))
    | (go_at_call 76; go_must (refine HP.out.mono ?_; rintro e w' ⟨rfl, rfl⟩)))
  exact bodyPost_end (results_none Tryz.results52 _ _ _) rfl ⟨rfl, rfl⟩
/-- The list of a name, sorted. -/
theorem vsort_any (v : Value) (l : List PKey) (w : World) (base : Nat) (h : w.ownsRow base 59 2 v l.length (pairCells l)) (hlen : l.length ≤ 10000000) :
    Calls Tryz.prog 52 #[v, .func (.func 53) #[] #[]] w fun e w' => e = .returned (.tuple #[]) ∧
      (∃ l' : List PKey, l'.Perm l ∧ (l'.Pairwise fun x y => bl y.1 x.1 = false) ∧ w'.ownsRow base 59 2 v l.length (pairCells l')) ∧ w.grownBy w' v.ownBlock := by
  obtain ⟨h1, h2⟩ := id h
  rcases h2 with ⟨rfl, h2⟩ | ⟨g, c, cur, rfl, -⟩
  · refine (sortfunc_none 0 _ w).mono ?_
    rintro e w' ⟨rfl, rfl⟩
    have hl : l = [] := List.eq_nil_of_length_eq_zero h2
    subst hl
    exact ⟨rfl, ⟨[], List.Perm.refl _, List.Pairwise.nil, h⟩, World.grownBy.refl _ _⟩
  · have hsz : l.toArray.size = l.length := by simp
    have hH : HoldsK (fun k => [vA k, vB k]) 2 w g 0 l.toArray := by
      rcases Nat.eq_zero_or_pos l.length with h0 | h0
      · intro j hj
        simp [h0] at hj
      · exact (own_holds (d := l.toArray) (a := vA) (b := vB) (base := base) (c := c) (by rw [hsz]; exact h) (by rw [hsz]; exact h0)).1
    have hc := sortvals_any g c l.toArray w hH (h.lt g rfl).2 (by rw [hsz]; exact hlen)
    rw [hsz] at hc
    refine hc.mono fun e w' ⟨he, d', n, os, hp, hs, hw⟩ => ?_
    subst hw
    obtain ⟨h1, h2⟩ := permIn_perm l.toArray d' (by rw [hsz]; exact hp)
    refine ⟨he, ⟨d'.toList, by simpa using h1, sortedIn_pairwise (fun x y : PKey => bl x.1 y.1) d' (by rw [h2, hsz]; exact hs), ?_⟩, sortWorldK_grown _ _ _ _ _ _ _⟩
    exact own_sorted h (by rw [h2, hsz]) n os
end Go.Proofs.YtfpepdjffehbcaaGreat
