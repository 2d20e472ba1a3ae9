/-
  The walk of the pool laws' wakes. No condition.
-/
import Derived.Test.YtagekiaejhjpnaaPoolPool
import Derived.Test.YtagekiaejhjpnaaPoolFind
namespace Go.Proofs.Ytagekiaejhjpnaa
open Go.RowKit

theorem own_empty (w : World) (e : TypeId) (size : Nat) : (w.alloc (.cells #[] e)).ownsRow w.heap.size e size (.slice (some ⟨w.heap.size, 0, none⟩) 0 0) 0 [] :=
  ⟨by simp, .inr ⟨w.heap.size, 0, #[], rfl, Nat.le_refl _, heap_alloc_new w _, Nat.le_refl _, by simp [maxLen], by simp, by simp⟩⟩
theorem txts_new (w : World) (l : List ByteArray) (c : Nat) (hc : l.length ≤ c) (hm : c ≤ maxLen) : Txts (w.alloc (.cells (l.map Value.string).toArray 9)) (w.heap.size + 1) (.slice (some ⟨w.heap.size, 0, none⟩) l.length c) l :=
  ⟨_, c, rfl, hc, hm, by have := reads_new w (l.map Value.string).toArray 9 1 l.length (by simp); simpa using this⟩
theorem lists_new (w : World) (ls : List (Value × List ByteArray)) (h : ∀ x ∈ ls, Txts w w.heap.size x.1 x.2) : ListsT (w.alloc (.cells (ls.map (·.1)).toArray 22)) (some ⟨w.heap.size, 0, none⟩) ls := by
  refine ⟨?_, fun x hx => (h x hx).on ((Below.refl _ w).alloc (Nat.le_refl _) _)⟩
  have := reads_new w (ls.map (·.1)).toArray 22 1 ls.length (by simp)
  rw [World.size_alloc]
  simpa using this
def wkA : ByteArray := ⟨#[97]⟩
def wkB : ByteArray := ⟨#[98]⟩
theorem wk_rise : RiseL bl [⟨#[]⟩, wkA, wkB] := by
  have h1 : bl ⟨#[]⟩ wkA = true := by unfold bl; rw [Lib.toList_data, Lib.toList_data]; rfl
  have h2 : bl ⟨#[]⟩ wkB = true := by unfold bl; rw [Lib.toList_data, Lib.toList_data]; rfl
  have h3 : bl wkA wkB = true := by unfold bl; rw [Lib.toList_data, Lib.toList_data]; rfl
  simp [RiseL, h1, h2, h3]
theorem wk_pool : poolL bl ([wkB, wkA] ++ [wkA, ⟨#[]⟩]) = [⟨#[]⟩, wkA, wkB] := (poolL_eq blT wk_rise fun x => by
  simp only [List.cons_append, List.nil_append, List.mem_cons, List.mem_nil_iff, or_false]
  constructor
  · rintro (h | h | h) <;> simp [h]
  · rintro (h | h | h | h) <;> simp [h]).symm
theorem wk_find {k e : Int} (h : FindT [⟨#[]⟩, wkA, wkB] wkA k e) : k = 1 ∧ e = 0 := by
  rcases h with ⟨h, -⟩ | ⟨-, h, -⟩ | ⟨-, he, i, hk, hi⟩
  · exact absurd wk_rise h
  · exact absurd (by simp) h
  · have := rise_inj blT wk_rise hi (show [⟨#[]⟩, wkA, wkB][1]? = some wkA from rfl)
    exact ⟨by omega, he⟩
set_option maxHeartbeats 2000000 in
theorem pwakes_any (w : World) : Calls Try.prog 9 #[] w fun en w' => en = .returned (.bool true) ∧ Below w.heap.size w w' := by
  have HP := Lib.hid (show Calls Try.prog 11 #[.slice (some ⟨w.heap.size + 1 + 1, 0, none⟩) 2 2] (((w.alloc (.cells #[.string wkB, .string wkA] 9)).alloc (.cells #[.string wkA, .string ⟨#[]⟩] 9)).alloc (.cells #[.slice (some ⟨w.heap.size, 0, none⟩) 2 2, .slice (some ⟨w.heap.size + 1, 0, none⟩) 2 2] 22)) (PoolPost [⟨#[]⟩, wkA, wkB] (((w.alloc (.cells #[.string wkB, .string wkA] 9)).alloc (.cells #[.string wkA, .string ⟨#[]⟩] 9)).alloc (.cells #[.slice (some ⟨w.heap.size, 0, none⟩) 2 2, .slice (some ⟨w.heap.size + 1, 0, none⟩) 2 2] 22))) from by
    have h1 := (txts_new w [wkB, wkA] 2 (by simp) (by simp [maxLen])).below ((Below.refl _ (w.alloc (.cells #[.string wkB, .string wkA] 9))).alloc (by simp) (.cells #[.string wkA, .string ⟨#[]⟩] 9))
    have h2 := txts_new (w.alloc (.cells #[.string wkB, .string wkA] 9)) [wkA, ⟨#[]⟩] 2 (by simp) (by simp [maxLen])
    have h := lists_new ((w.alloc (.cells #[.string wkB, .string wkA] 9)).alloc (.cells #[.string wkA, .string ⟨#[]⟩] 9)) [(.slice (some ⟨w.heap.size, 0, none⟩) 2 2, [wkB, wkA]), (.slice (some ⟨w.heap.size + 1, 0, none⟩) 2 2, [wkA, ⟨#[]⟩])] (fun x hx => by
      rcases List.mem_cons.1 hx with rfl | hx
      · exact h1.more (by simp)
      · rcases List.mem_cons.1 hx with rfl | hx
        · have := h2.more (B' := ((w.alloc (.cells #[.string wkB, .string wkA] 9)).alloc (.cells #[.string wkA, .string ⟨#[]⟩] 9)).heap.size) (by simp)
          simpa using this
        · cases hx)
    rw [World.size_alloc, World.size_alloc] at h
    have hp := pool_any _ 2 _ _ h (by simp [allT]) (by simp) (fun x hx => by
      simp only [allT, List.flatMap_cons, List.flatMap_nil, List.append_nil, List.cons_append, List.nil_append, List.mem_cons, List.mem_nil_iff, or_false] at hx
      rcases hx with rfl | rfl | rfl | rfl <;> decide)
    have e : poolL bl (allT [(Value.slice (some ⟨w.heap.size, 0, none⟩) 2 2, [wkB, wkA]), (.slice (some ⟨w.heap.size + 1, 0, none⟩) 2 2, [wkA, ⟨#[]⟩])]) = [⟨#[]⟩, wkA, wkB] := wk_pool
    unfold PoolPost at hp ⊢
    rw [e] at hp
    rw [poolL_self blT wk_rise]
    exact hp)
  have HBW := Lib.hid (show Below w.heap.size w (((w.alloc (.cells #[.string wkB, .string wkA] 9)).alloc (.cells #[.string wkA, .string ⟨#[]⟩] 9)).alloc (.cells #[.slice (some ⟨w.heap.size, 0, none⟩) 2 2, .slice (some ⟨w.heap.size + 1, 0, none⟩) 2 2] 22)) from (((Below.refl _ w).alloc (Nat.le_refl _) _).alloc (by simp) _).alloc (by simp; omega) _)
  have HF := Lib.hid (fun v W (h : Txts W W.heap.size v [⟨#[]⟩, wkA, wkB]) => pfind_any v _ wkA W h (by simp))
  go_enter Try.func9, Try.ntmps9
  go_wp2_with (first
    | (go_at_call 11; go_loud (refine HP.out.mono ?_; rintro en w1 ⟨⟨v1, rfl, ho1⟩, hb1⟩; rw [poolL_self blT wk_rise] at ho1; have HT1 := Lib.hid (txts_of_own ho1); obtain ⟨A1, c1, rfl, -, -, -⟩ := own_form ho1; have HB1 := Lib.hid hb1; clear ho1 hb1))
    | (go_at_call 13; go_loud (refine (HF.out _ _ HT1.out).mono ?_; rintro en w2 ⟨⟨k, x, rfl, hf⟩, hb2⟩; obtain ⟨rfl, rfl⟩ := wk_find hf; have HB2 := Lib.hid hb2; clear hf hb2)))
  go_ret
  exact ⟨rfl, HBW.out.trans ((HB1.out.trans (HB2.out.mono HB1.out.size)).mono HBW.out.size)⟩
end Go.Proofs.Ytagekiaejhjpnaa
