/-
  The walk of what puts one more key among keys that rise, in the document's answer for aliases. Condition: at most 1000000 keys.
-/
import Derived.Test.YtkfofdmcggoonaaDoorAliasRef
import Derived.Test.YtkfofdmcggoonaaDoorPairs
namespace Go.Proofs.YtkfofdmcggoonaaDoor
open Go.RowKit

/-- Keys that rise, with one more. -/
def insK : List PKey → PKey → List PKey
  | [], k => [k]
  | x :: xs, k => if Op.bytesLess x.1.toList k.1.toList = true then x :: insK xs k else k :: x :: xs
theorem insK_length : ∀ (ks : List PKey) (k : PKey), (insK ks k).length = ks.length + 1
  | [], _ => rfl
  | x :: xs, k => by
    simp only [insK]
    split
    · simp [insK_length xs k]
    · rfl
theorem insK_mem : ∀ (ks : List PKey) (k x : PKey), x ∈ insK ks k ↔ x = k ∨ x ∈ ks
  | [], k, x => by simp [insK]
  | y :: ys, k, x => by
    simp only [insK]
    split
    · simp only [List.mem_cons, insK_mem ys k x]
      constructor
      · rintro (h | h | h)
        · exact .inr (.inl h)
        · exact .inl h
        · exact .inr (.inr h)
      · rintro (h | h | h)
        · exact .inr (.inl h)
        · exact .inl h
        · exact .inr (.inr h)
    · simp
def InsAt (w : World) (b : Nat) (k : PKey) (out : List PKey) (v : Value) (W : World) : Prop :=
  Blk W b 60 #[.string k.1, .string k.2] ∧ W.ownsRow (b + 1) 60 2 v out.length (pairCells out) ∧ Below b w W ∧ b + 1 ≤ W.heap.size
section
variable {w W : World} {b : Nat} {k x : PKey} {out : List PKey} {v : Value}
theorem InsAt.alloc (h : InsAt w b k out v W) (o : Obj) : InsAt w b k out v (W.alloc o) :=
  ⟨h.1.alloc o, h.2.1.alloc o, h.2.2.1.alloc (by have := h.2.2.2; omega) o, by have := h.2.2.2; simp; omega⟩
theorem InsAt.drewN (h : InsAt w b k out v W) (n : Nat) : InsAt w b k out v (W.drewN n) :=
  ⟨h.1.drewN n, h.2.1, below_drewN h.2.2.1 n, h.2.2.2⟩
theorem InsAt.more {W3 : World} {v' : Value} (h : InsAt w b k out v W) (hg : W.grownBy W3 v.ownBlock) (ho : W3.ownsRow (b + 1) 60 2 v' (out.length + 1) (pairCells out ++ [.string x.1, .string x.2])) :
    InsAt w b k (out ++ [x]) v' W3 := by
  refine ⟨h.1.grown hg (fun e => by have := (h.2.1.lt _ e.symm).1; omega), ?_, h.2.2.1.grown hg (by have := h.2.2.2; omega) (fun k hk => by have := (h.2.1.lt k hk).1; omega), by have := h.2.2.2; have := hg.size; omega⟩
  rw [pairs_snoc] at ho
  rw [List.length_append]
  exact ho
theorem InsAt.box (h : InsAt w b k out v W) : W.cell? ⟨b, 0, none⟩ = some (.string k.1) ∧ W.cell? ⟨b, 1, none⟩ = some (.string k.2) := ⟨h.1.cell 0, h.1.cell 1⟩
end
def RInsPost (ks : List PKey) (k : PKey) (w : World) (en : Ending) (w' : World) : Prop := ∃ v, en = .returned v ∧
  w'.ownsRow w.heap.size 60 2 v (insK ks k).length (pairCells (insK ks k)) ∧ Below w.heap.size w w'
set_option maxHeartbeats 16000000 in
set_option maxRecDepth 100000 in
theorem rins_any (ks : List PKey) (k : PKey) (v : Value) (w : World) (hk : KeysAt w w.heap.size v ks) (hs : ks.length ≤ 1000000) :
    Calls Tryd.prog 74 #[v, .agg #[.string k.1, .string k.2]] w (RInsPost ks k w) := by
  obtain ⟨A, c, rfl, hkc, hcm, hRd⟩ := hk
  generalize hlen : ks.length = n at *
  have HLEN := Lib.hid hlen
  have hn1 : (n : Int) ≤ 1000000 := by omega
  have HRd := Lib.hid hRd
  have HM0 := Lib.hid (show InsAt w w.heap.size k [] (.slice none 0 0) (w.alloc (.cells #[.string k.1, .string k.2] 60)) from ⟨Blk.new _ _ _, World.ownsRow_nil _ _ _ _, (Below.refl _ w).alloc (Nat.le_refl _) _, by simp⟩)
  clear hlen hRd
  obtain ⟨i0, hi0, hz0, hz1, hz2⟩ := info_parts pair_info
  go_enter Tryd.func74, Tryd.ntmps74
  go_wp2
  generalize (w.alloc (.cells #[.string k.1, .string k.2] 60)) = wA at *
  obtain ⟨b, hb⟩ : ∃ b, b = w.heap.size := ⟨_, rfl⟩
  rw [← hb] at HM0 HRd ⊢
  have HBB := Lib.hid hb
  clear hb
  go_loopw [5, 6] (fun ov iv wr => ∃ (p : Nat) (out : List PKey), iv = .int .i64 (p : Int) ∧ p ≤ n ∧ out.length = p ∧ insK ks k = out ++ insK (ks.drop p) k ∧ InsAt w b k out ov wr) (fun _ iv _ => n - (Lib.intOf iv).toNat)
  case atStart => exact ⟨0, [], rfl, Nat.zero_le _, rfl, rfl, HM0.out⟩
  case round =>
    obtain ⟨p, out, rfl, hp, hol, hE, hM⟩ := hrel
    obtain ⟨A7, c7, rfl, -, -, -⟩ := own_form hM.2.1
    have HE := Lib.hid hE
    have HM := Lib.hid hM
    have HOL := Lib.hid (show out.length ≤ 1000001 by omega)
    have HOP := Lib.hid hol
    clear hE hM hol
    by_cases hlt : p < n
    · obtain ⟨x, hx⟩ : ∃ x, ks[p]? = some x := ⟨ks[p]'(by rw [HLEN.out]; exact hlt), by simp [HLEN.out, hlt]⟩
      have hq1 : (p : Int) < (n : Int) := by omega
      obtain ⟨g2, o2, hA, hbo, hcells⟩ := (HRd.out.below HM.out.2.2.1).spot (by omega) (by omega)
      cases hA
      have hat := pairCells_at ks p x hx
      have r0 := hcells _ _ hat.1
      have r1 : wr.cell? ⟨_, _ + p * 2 + 1, none⟩ = some (.string x.2) := hcells _ _ hat.2
      have hdr : ks.drop p = x :: ks.drop (p + 1) := by obtain ⟨h1, rfl⟩ := List.getElem?_eq_some_iff.1 hx; exact List.drop_eq_getElem_cons h1
      have HDR := Lib.hid hdr
      obtain ⟨k0, k1⟩ := HM.out.box
      clear hat hcells hdr hx
      cases hl : Op.bytesLess x.1.toList k.1.toList
      · have HN := Lib.hid (show insK ks k = (out ++ [k]) ++ ks.drop p by rw [HE.out, HDR.out]; simp only [insK, hl]; simp)
        go_wp2
        go_quiet (fail)
        have HM2 := Lib.hid (HM.out.drewN nq)
        clear r0 r1 k0 k1 HM
        generalize wr.drewN nq = w2 at *
        have HM := HM2
        clear HM2
        obtain ⟨k0, k1⟩ := HM.out.box
        have HAL := Lib.hid (HM.out.alloc (.cells #[.string k.1, .string k.2] 60))
        have HAO := Lib.hid HAL.out.2.1
        have HAR := Lib.hid (reads_new w2 #[.string k.1, .string k.2] 60 2 1 rfl)
        have HAB := Lib.hid HAL.out.2.2.2
        go_upto_region 7 with (at_builtin; go_loud (refine wpList_append_any _ rfl (.tmp 30) (.tmp 32) _ rfl (b + 1) 60 i0 _ 2 32 Tryd.underlying34 hi0 hz0 hz1 hz2 rfl (by omega) _ out.length (pairCells out) rfl HAO.out (w2.heap.size + 1) (some ⟨w2.heap.size, 0, none⟩) 1 1 [.string k.1, .string k.2] rfl HAR.out (by simp [Value.oneCell']) (by have := HOL.out; simp only [maxLen]; omega) (by have := HOL.out; omega) HAB.out ?_); intro v3 w3 hown3 hg3 hat3; obtain ⟨A3, c3, rfl, -, -, -⟩ := own_form hown3; have hg3' : (w2.alloc (.cells #[.string k.1, .string k.2] 60)).grownBy w3 (Value.slice A7 out.length c7).ownBlock := hg3; have HM3 := Lib.hid (HAL.out.more (x := k) hg3' hown3); clear hown3 hg3 hg3' hat3)
        go_loopw [5, 6] (fun ov iv wr => ∃ (p : Nat) (out : List PKey), iv = .int .i64 (p : Int) ∧ p ≤ n ∧ out.length = p + 1 ∧ insK ks k = out ++ ks.drop p ∧ InsAt w b k out ov wr) (fun _ iv _ => n - (Lib.intOf iv).toNat)
        case atStart => exact ⟨p, out ++ [k], rfl, by omega, by simp [HOP.out], HN.out, HM3.out⟩
        case round =>
          clear HM3 HOL HOP
          obtain ⟨p, out, rfl, hp, hol, hE, hM⟩ := hrel
          obtain ⟨A7, c7, rfl, -, -, -⟩ := own_form hM.2.1
          have HE := Lib.hid hE
          have HM := Lib.hid hM
          have HOL := Lib.hid (show out.length ≤ 1000001 by omega)
          have HOP := Lib.hid hol
          clear hE hM hol
          by_cases hlt : p < n
          · obtain ⟨x, hx⟩ : ∃ x, ks[p]? = some x := ⟨ks[p]'(by rw [HLEN.out]; exact hlt), by simp [HLEN.out, hlt]⟩
            have hq1 : (p : Int) < (n : Int) := by omega
            obtain ⟨g2, o2, hA, hbo, hcells⟩ := (HRd.out.below HM.out.2.2.1).spot (by omega) (by omega)
            cases hA
            have hat := pairCells_at ks p x hx
            have r0 := hcells _ _ hat.1
            have r1 : wr.cell? ⟨_, _ + p * 2 + 1, none⟩ = some (.string x.2) := hcells _ _ hat.2
            have hdr : ks.drop p = x :: ks.drop (p + 1) := by obtain ⟨h1, rfl⟩ := List.getElem?_eq_some_iff.1 hx; exact List.drop_eq_getElem_cons h1
            have HDR := Lib.hid hdr
            have HN := Lib.hid (show insK ks k = (out ++ [x]) ++ ks.drop (p + 1) by rw [HE.out, HDR.out]; simp)
            clear hat hcells hdr hx
            have HAL := Lib.hid (HM.out.alloc (.cells #[.string x.1, .string x.2] 60))
            have HAO := Lib.hid HAL.out.2.1
            have HAR := Lib.hid (reads_new wr #[.string x.1, .string x.2] 60 2 1 rfl)
            have HAB := Lib.hid HAL.out.2.2.2
            go_wp2_with (at_builtin; go_loud (refine wpList_append_any _ rfl (.tmp 38) (.tmp 43) _ rfl (b + 1) 60 i0 _ 2 32 Tryd.underlying34 hi0 hz0 hz1 hz2 rfl (by omega) _ out.length (pairCells out) rfl HAO.out (wr.heap.size + 1) (some ⟨wr.heap.size, 0, none⟩) 1 1 [.string x.1, .string x.2] rfl HAR.out (by simp [Value.oneCell']) (by have := HOL.out; simp only [maxLen]; omega) (by have := HOL.out; omega) HAB.out ?_); intro v3 w3 hown3 hg3 hat3; obtain ⟨A3, c3, rfl, -, -, -⟩ := own_form hown3; have hg3' : (wr.alloc (.cells #[.string x.1, .string x.2] 60)).grownBy w3 (Value.slice A7 out.length c7).ownBlock := hg3; have HM3 := Lib.hid (HAL.out.more (x := x) hg3' hown3); clear hown3 hg3 hg3' hat3)
            go_roundw
            case rel => exact ⟨p + 1, out ++ [x], by go_num, hlt, by simp [HOP.out], HN.out, HM3.out⟩
            case measure => simp [Lib.intOf]; omega
          · have hq1 : ¬ (p : Int) < (n : Int) := by omega
            have HX := Lib.hid (show insK ks k = out by rw [HE.out, List.drop_of_length_le (by rw [HLEN.out]; omega), List.append_nil])
            go_wp2
            go_ret
            exact ⟨_, rfl, by rw [HX.out, ← HBB.out]; exact own_base HM.out.2.1 (by omega), by rw [← HBB.out]; exact HM.out.2.2.1⟩
      · have HN := Lib.hid (show insK ks k = (out ++ [x]) ++ insK (ks.drop (p + 1)) k by rw [HE.out, HDR.out]; simp only [insK, hl]; simp)
        go_wp2
        go_quiet (fail)
        have HM2 := Lib.hid (HM.out.drewN nq)
        have r2 : (wr.drewN nq).cell? ⟨_, _ + p * 2, none⟩ = some (.string x.1) := r0
        have r3 : (wr.drewN nq).cell? ⟨_, _ + p * 2 + 1, none⟩ = some (.string x.2) := r1
        clear r0 r1 k0 k1 HM
        generalize wr.drewN nq = w2 at *
        have HM := HM2
        clear HM2
        have HAL := Lib.hid (HM.out.alloc (.cells #[.string x.1, .string x.2] 60))
        have HAO := Lib.hid HAL.out.2.1
        have HAR := Lib.hid (reads_new w2 #[.string x.1, .string x.2] 60 2 1 rfl)
        have HAB := Lib.hid HAL.out.2.2.2
        go_wp2_with (at_builtin; go_loud (refine wpList_append_any _ rfl (.tmp 21) (.tmp 26) _ rfl (b + 1) 60 i0 _ 2 32 Tryd.underlying34 hi0 hz0 hz1 hz2 rfl (by omega) _ out.length (pairCells out) rfl HAO.out (w2.heap.size + 1) (some ⟨w2.heap.size, 0, none⟩) 1 1 [.string x.1, .string x.2] rfl HAR.out (by simp [Value.oneCell']) (by have := HOL.out; simp only [maxLen]; omega) (by have := HOL.out; omega) HAB.out ?_); intro v3 w3 hown3 hg3 hat3; obtain ⟨A3, c3, rfl, -, -, -⟩ := own_form hown3; have hg3' : (w2.alloc (.cells #[.string x.1, .string x.2] 60)).grownBy w3 (Value.slice A7 out.length c7).ownBlock := hg3; have HM3 := Lib.hid (HAL.out.more (x := x) hg3' hown3); clear hown3 hg3 hg3' hat3)
        go_roundw
        case rel => exact ⟨p + 1, out ++ [x], by go_num, hlt, by simp [HOP.out], HN.out, HM3.out⟩
        case measure => simp [Lib.intOf]; omega
    · have hq1 : ¬ (p : Int) < (n : Int) := by omega
      have HN := Lib.hid (show insK ks k = (out ++ [k]) ++ ks.drop p by rw [HE.out, List.drop_of_length_le (by rw [HLEN.out]; omega)]; simp [insK])
      go_wp2
      go_quiet (fail)
      have HM2 := Lib.hid (HM.out.drewN nq)
      clear HM
      generalize wr.drewN nq = w2 at *
      have HM := HM2
      clear HM2
      obtain ⟨k0, k1⟩ := HM.out.box
      have HAL := Lib.hid (HM.out.alloc (.cells #[.string k.1, .string k.2] 60))
      have HAO := Lib.hid HAL.out.2.1
      have HAR := Lib.hid (reads_new w2 #[.string k.1, .string k.2] 60 2 1 rfl)
      have HAB := Lib.hid HAL.out.2.2.2
      go_upto_region 7 with (at_builtin; go_loud (refine wpList_append_any _ rfl (.tmp 30) (.tmp 32) _ rfl (b + 1) 60 i0 _ 2 32 Tryd.underlying34 hi0 hz0 hz1 hz2 rfl (by omega) _ out.length (pairCells out) rfl HAO.out (w2.heap.size + 1) (some ⟨w2.heap.size, 0, none⟩) 1 1 [.string k.1, .string k.2] rfl HAR.out (by simp [Value.oneCell']) (by have := HOL.out; simp only [maxLen]; omega) (by have := HOL.out; omega) HAB.out ?_); intro v3 w3 hown3 hg3 hat3; obtain ⟨A3, c3, rfl, -, -, -⟩ := own_form hown3; have hg3' : (w2.alloc (.cells #[.string k.1, .string k.2] 60)).grownBy w3 (Value.slice A7 out.length c7).ownBlock := hg3; have HM3 := Lib.hid (HAL.out.more (x := k) hg3' hown3); clear hown3 hg3 hg3' hat3)
      go_loopw [5, 6] (fun ov iv wr => ∃ (p : Nat) (out : List PKey), iv = .int .i64 (p : Int) ∧ p ≤ n ∧ out.length = p + 1 ∧ insK ks k = out ++ ks.drop p ∧ InsAt w b k out ov wr) (fun _ iv _ => n - (Lib.intOf iv).toNat)
      case atStart => exact ⟨p, out ++ [k], rfl, by omega, by simp [HOP.out], HN.out, HM3.out⟩
      case round =>
        clear HM3 HOL HOP
        obtain ⟨p, out, rfl, hp, hol, hE, hM⟩ := hrel
        obtain ⟨A7, c7, rfl, -, -, -⟩ := own_form hM.2.1
        have HE := Lib.hid hE
        have HM := Lib.hid hM
        have HOL := Lib.hid (show out.length ≤ 1000001 by omega)
        have HOP := Lib.hid hol
        clear hE hM hol
        by_cases hlt : p < n
        · obtain ⟨x, hx⟩ : ∃ x, ks[p]? = some x := ⟨ks[p]'(by rw [HLEN.out]; exact hlt), by simp [HLEN.out, hlt]⟩
          have hq1 : (p : Int) < (n : Int) := by omega
          obtain ⟨g2, o2, hA, hbo, hcells⟩ := (HRd.out.below HM.out.2.2.1).spot (by omega) (by omega)
          cases hA
          have hat := pairCells_at ks p x hx
          have r0 := hcells _ _ hat.1
          have r1 : wr.cell? ⟨_, _ + p * 2 + 1, none⟩ = some (.string x.2) := hcells _ _ hat.2
          have hdr : ks.drop p = x :: ks.drop (p + 1) := by obtain ⟨h1, rfl⟩ := List.getElem?_eq_some_iff.1 hx; exact List.drop_eq_getElem_cons h1
          have HDR := Lib.hid hdr
          have HN := Lib.hid (show insK ks k = (out ++ [x]) ++ ks.drop (p + 1) by rw [HE.out, HDR.out]; simp)
          clear hat hcells hdr hx
          have HAL := Lib.hid (HM.out.alloc (.cells #[.string x.1, .string x.2] 60))
          have HAO := Lib.hid HAL.out.2.1
          have HAR := Lib.hid (reads_new wr #[.string x.1, .string x.2] 60 2 1 rfl)
          have HAB := Lib.hid HAL.out.2.2.2
          go_wp2_with (at_builtin; go_loud (refine wpList_append_any _ rfl (.tmp 38) (.tmp 43) _ rfl (b + 1) 60 i0 _ 2 32 Tryd.underlying34 hi0 hz0 hz1 hz2 rfl (by omega) _ out.length (pairCells out) rfl HAO.out (wr.heap.size + 1) (some ⟨wr.heap.size, 0, none⟩) 1 1 [.string x.1, .string x.2] rfl HAR.out (by simp [Value.oneCell']) (by have := HOL.out; simp only [maxLen]; omega) (by have := HOL.out; omega) HAB.out ?_); intro v3 w3 hown3 hg3 hat3; obtain ⟨A3, c3, rfl, -, -, -⟩ := own_form hown3; have hg3' : (wr.alloc (.cells #[.string x.1, .string x.2] 60)).grownBy w3 (Value.slice A7 out.length c7).ownBlock := hg3; have HM3 := Lib.hid (HAL.out.more (x := x) hg3' hown3); clear hown3 hg3 hg3' hat3)
          go_roundw
          case rel => exact ⟨p + 1, out ++ [x], by go_num, hlt, by simp [HOP.out], HN.out, HM3.out⟩
          case measure => simp [Lib.intOf]; omega
        · have hq1 : ¬ (p : Int) < (n : Int) := by omega
          have HX := Lib.hid (show insK ks k = out by rw [HE.out, List.drop_of_length_le (by rw [HLEN.out]; omega), List.append_nil])
          go_wp2
          go_ret
          exact ⟨_, rfl, by rw [HX.out, ← HBB.out]; exact own_base HM.out.2.1 (by omega), by rw [← HBB.out]; exact HM.out.2.2.1⟩
end Go.Proofs.YtkfofdmcggoonaaDoor
/-
  The keys of an alias's step, plainly: step by step, and in their order. No condition, no program in sight.
-/
namespace Go.Proofs.YtkfofdmcggoonaaDoor
open Go.RowKit

def DistK (ks : List PKey) : Prop := ks.Pairwise fun x y => x.1 ≠ y.1
theorem distK_snoc {ks : List PKey} {k : PKey} : DistK (ks ++ [k]) ↔ DistK ks ∧ ∀ x ∈ ks, x.1 ≠ k.1 := by
  unfold DistK
  rw [List.pairwise_append]
  constructor
  · rintro ⟨h1, -, h2⟩
    exact ⟨h1, fun x hx => h2 x hx k (by simp)⟩
  · rintro ⟨h1, h2⟩
    exact ⟨h1, List.pairwise_singleton _ _, fun x hx y hy => by simp at hy; rw [hy]; exact h2 x hx⟩
theorem insK_rises : ∀ (ks : List PKey) (k : PKey), RisesK ks → (∀ x ∈ ks, x.1 ≠ k.1) → RisesK (insK ks k)
  | [], k, _, _ => List.pairwise_singleton _ _
  | x :: xs, k, h, hd => by
    obtain ⟨h1, h2⟩ := List.pairwise_cons.1 h
    simp only [insK]
    split
    · rename_i hl
      refine List.pairwise_cons.2 ⟨fun y hy => ?_, insK_rises xs k h2 fun y hy => hd y (by simp [hy])⟩
      rcases (insK_mem _ _ _).1 hy with rfl | hy
      · exact hl
      · exact h1 y hy
    · rename_i hl
      have hx : Op.bytesLess k.1.toList x.1.toList = true := blT.flip (a := x.1) (b := k.1) (by simpa [bl] using hl) (hd x (by simp))
      refine List.pairwise_cons.2 ⟨fun y hy => ?_, h⟩
      rcases List.mem_cons.1 hy with rfl | hy
      · exact hx
      · exact bl_trans _ _ _ hx (h1 y hy)
theorem pkl_of_bl {x y : PKey} (h : Op.bytesLess x.1.toList y.1.toList = true) : pkl x y = true := by
  unfold pkl bl
  rw [h]
  rfl
theorem rises_pkl {ks : List PKey} (h : RisesK ks) : RiseL pkl ks := List.Pairwise.imp (fun h => pkl_of_bl h) h
theorem distK_inj : ∀ {ks : List PKey}, DistK ks → ∀ x ∈ ks, ∀ y ∈ ks, x.1 = y.1 → x = y
  | [], _, x, hx, _, _, _ => by cases hx
  | k :: ks, h, x, hx, y, hy, e => by
    obtain ⟨h1, h2⟩ := List.pairwise_cons.1 h
    rcases List.mem_cons.1 hx with ex | hx2
    · rcases List.mem_cons.1 hy with ey | hy2
      · rw [ex, ey]
      · exact absurd e (by rw [ex]; exact h1 y hy2)
    · rcases List.mem_cons.1 hy with ey | hy2
      · exact absurd e.symm (by rw [ey]; exact h1 x hx2)
      · exact distK_inj h2 x hx2 y hy2 e
theorem sortK_mem (ks : List PKey) (x : PKey) : x ∈ sortK ks ↔ x ∈ ks := poolL_mem ks x
theorem sortK_rises {ks : List PKey} (h : DistK ks) : RisesK (sortK ks) := by
  have hr : RiseL pkl (sortK ks) := poolL_rise pklT ks
  refine List.Pairwise.imp_of_mem (fun {x y} hx hy hxy => ?_) hr
  rw [sortK_mem] at hx hy
  by_cases e : x.1 = y.1
  · rw [distK_inj h x hx y hy e, pklT.irr] at hxy
    cases hxy
  · simp only [pkl, decide_eq_false e, Bool.false_and, Bool.or_false] at hxy
    exact hxy
theorem sortK_snoc {ks : List PKey} {k : PKey} (h : DistK (ks ++ [k])) : insK (sortK ks) k = sortK (ks ++ [k]) := by
  obtain ⟨h1, h2⟩ := distK_snoc.1 h
  refine poolL_eq pklT (rises_pkl (insK_rises _ _ (sortK_rises h1) fun x hx => h2 x ((sortK_mem _ _).1 hx))) fun x => ?_
  rw [insK_mem, sortK_mem, List.mem_append, List.mem_singleton]
  exact Or.comm
theorem sortK_len (ks : List PKey) : (sortK ks).length ≤ ks.length := poolL_len ks
theorem sortK_any (ks : List PKey) (k : ByteArray) : ((sortK ks).any fun x => decide (x.1 = k)) = ks.any fun x => decide (x.1 = k) := by
  rw [Bool.eq_iff_iff, List.any_eq_true, List.any_eq_true]
  exact ⟨fun ⟨x, hx, h⟩ => ⟨x, (sortK_mem _ _).1 hx, h⟩, fun ⟨x, hx, h⟩ => ⟨x, (sortK_mem _ _).2 hx, h⟩⟩
/-- One key from a place on: none stands there, something is wrong, or the key and the place behind it. -/
def akStep (s : ByteArray) (p : Nat) (ks : List PKey) : Except Nat (Option (PKey × Nat)) :=
  if standsB s p 91 = true then
    match mustM s p [91, 64] with
    | (q, false) => .error q
    | (q, true) =>
      if (ks.any fun x => decide (x.1 = s.extract q (aname s q))) = true then .error q
      else if aname s q = q then .error q
      else match mustM s (aname s q) [61] with
        | (r, false) => .error r
        | (r, true) =>
          if (standsB s r 39 || standsB s r 34) = true then
            match avalM s (if standsB s r 39 = true then 39 else 34) (r + 1) with
            | (t, false) => .error t
            | (t, true) => match mustM s (t + 1) [93] with
              | (u, false) => .error u
              | (u, true) => .ok (some ((s.extract q (aname s q), s.extract (r + 1) t), u))
          else .error r
  else .ok none
theorem akeysF_succ (k : Nat) (s : ByteArray) (p : Nat) (ks : List PKey) : akeysF (k + 1) s p ks = match akStep s p ks with
    | .error e => .error e
    | .ok none => .ok (ks, p)
    | .ok (some (x, u)) => akeysF k s u (ks ++ [x]) := by
  simp only [akeysF, akStep]
  by_cases h0 : standsB s p 91 = true
  · simp only [if_pos h0]
    rcases e1 : mustM s p [91, 64] with ⟨q, b⟩
    cases b
    · rfl
    · by_cases hd : (ks.any fun x => decide (x.1 = s.extract q (aname s q))) = true
      · simp only [if_pos hd]
      · by_cases hn : aname s q = q
        · simp only [if_neg hd, if_pos hn]
        · simp only [if_neg hd, if_neg hn]
          rcases e2 : mustM s (aname s q) [61] with ⟨r, b⟩
          cases b
          · rfl
          · by_cases hq : (standsB s r 39 || standsB s r 34) = true
            · simp only [if_pos hq]
              rcases e3 : avalM s (if standsB s r 39 = true then 39 else 34) (r + 1) with ⟨u, b⟩
              cases b
              · rfl
              · dsimp only
                rcases e4 : mustM s (u + 1) [93] with ⟨v, b⟩
                cases b
                · rfl
                · rfl
            · simp only [if_neg hq]
  · simp only [if_neg h0]
theorem akStep_some {s : ByteArray} {p u : Nat} {ks : List PKey} {x : PKey} (hp : p ≤ s.size) (h : akStep s p ks = .ok (some (x, u))) :
    p + 6 ≤ u ∧ u ≤ s.size ∧ (∀ y ∈ ks, y.1 ≠ x.1) ∧ x.1.size ≤ s.size ∧ x.2.size ≤ s.size ∧ x.1 ≠ ByteArray.empty := by
  unfold akStep at h
  split at h
  · have m1 := mustM_le s [91, 64] p hp
    split at h
    · cases h
    · rename_i q e1
      rw [e1] at m1
      have hq : q = p + 2 := m1.2.2 rfl
      have n1 := aname_le (p := q) m1.2.1
      split at h
      · cases h
      · rename_i hd
        split at h
        · cases h
        · rename_i hne
          have m2 := mustM_le s [61] (aname s q) n1.2
          split at h
          · cases h
          · rename_i r e2
            rw [e2] at m2
            have m2a := m2.2.1
            have m2b := m2.1
            have m2c := m2.2.2 rfl
            simp only [List.length_cons, List.length_nil] at m2a m2b m2c
            split at h
            · rename_i hst
              split at h
              · cases h
              · rename_i t e3
                have hr1 : r + 1 ≤ s.size := by
                  rcases Bool.or_eq_true _ _ ▸ hst with h1 | h1
                  · exact (stands_at h1).1
                  · exact (stands_at h1).1
                have v1 := avalM_le s (if standsB s r 39 = true then 39 else 34) (s.size - (r + 1)) (r + 1) (Nat.le_refl _) hr1
                rw [e3] at v1
                have v1a := v1.1
                have v1b := v1.2.1
                simp only at v1a v1b
                have ht := (stands_at (v1.2.2 rfl)).1
                simp only at ht
                have m3 := mustM_le s [93] (t + 1) ht
                split at h
                · cases h
                · rename_i u' e4
                  rw [e4] at m3
                  have m3a := m3.1
                  have m3b := m3.2.1
                  have m3c := m3.2.2 rfl
                  simp only [List.length_cons, List.length_nil] at m3a m3b m3c
                  simp only [Except.ok.injEq, Option.some.injEq, Prod.mk.injEq] at h
                  obtain ⟨rfl, rfl⟩ := h
                  refine ⟨by omega, m3b, fun y hy e => hd (List.any_eq_true.2 ⟨y, hy, decide_eq_true e⟩), by simp; omega, by simp; omega, fun e => ?_⟩
                  have := congrArg ByteArray.size e
                  simp at this
                  omega
            · cases h
  · cases h
theorem akeysF_fuel (s : ByteArray) : ∀ (k p j : Nat) (ks : List PKey), p ≤ s.size → s.size < p + k → k ≤ j → akeysF j s p ks = akeysF k s p ks := by
  intro k
  induction k with
  | zero => intro p j ks h1 h2; omega
  | succ k ih =>
    intro p j ks h1 h2 h3
    cases j with
    | zero => omega
    | succ j =>
      rw [akeysF_succ, akeysF_succ]
      cases hst : akStep s p ks with
      | error e => rfl
      | ok o =>
        cases o with
        | none => rfl
        | some xu =>
          obtain ⟨x, u⟩ := xu
          obtain ⟨a, b, -⟩ := akStep_some h1 hst
          exact ih u j _ b (by omega) (by omega)
def akeysM (s : ByteArray) (p : Nat) (ks : List PKey) : Except Nat (List PKey × Nat) := akeysF (s.size + 1) s p ks
theorem akeysM_eq {s : ByteArray} {p : Nat} {ks : List PKey} (hp : p ≤ s.size) : akeysM s p ks = match akStep s p ks with
    | .error e => .error e
    | .ok none => .ok (ks, p)
    | .ok (some (x, u)) => akeysM s u (ks ++ [x]) := by
  unfold akeysM
  rw [akeysF_succ]
  cases hst : akStep s p ks with
  | error e => rfl
  | ok o =>
    cases o with
    | none => rfl
    | some xu =>
      obtain ⟨x, u⟩ := xu
      obtain ⟨a, b, -⟩ := akStep_some hp hst
      exact (akeysF_fuel s s.size u (s.size + 1) _ b (by omega) (by omega)).symm
theorem akeysM_none {s : ByteArray} {p : Nat} {ks : List PKey} (hp : p ≤ s.size) (h : akStep s p ks = .ok none) : akeysM s p ks = .ok (ks, p) := by rw [akeysM_eq hp, h]
theorem akeysM_bad {s : ByteArray} {p e : Nat} {ks : List PKey} (hp : p ≤ s.size) (h : akStep s p ks = .error e) : akeysM s p ks = .error e := by rw [akeysM_eq hp, h]
theorem akeysM_some {s : ByteArray} {p u : Nat} {ks : List PKey} {x : PKey} (hp : p ≤ s.size) (h : akStep s p ks = .ok (some (x, u))) : akeysM s p ks = akeysM s u (ks ++ [x]) := by rw [akeysM_eq hp, h]
end Go.Proofs.YtkfofdmcggoonaaDoor
/-
  The walk of what reads a step's keys, in the document's answer for aliases. Condition: the text is at most 2000000 bytes.
-/
namespace Go.Proofs.YtkfofdmcggoonaaDoor
open Go.RowKit

theorem rmust_of {s b : ByteArray} {p q : Nat} {r : Bool} (l : List UInt8) (hl : b.data.toList = l) (hm : mustM s p l = (q, r)) (hp : p ≤ s.size) (hs : s.size ≤ 140737488355328) (hb : b.size ≤ 100) (W : World) :
    Calls Tryd.prog 34 #[.string s, .int .i64 (p : Int), .string b] W fun en w' => en = .returned (.tuple #[.int .i64 (q : Int), .bool r]) ∧ ∃ k, w' = W.drewN k := by
  have h := r13must_any p s b W hp hs hb
  unfold RMustPost at h
  rw [hl, hm] at h
  exact h
theorem rvalue_of {s : ByteArray} {p t : Nat} {c : UInt8} {r : Bool} (hm : avalM s c p = (t, r)) (hp : p ≤ s.size) (hs : s.size ≤ 140737488355328) (W : World) :
    Calls Tryd.prog 73 #[.string s, .int .i64 (p : Int), .int .u8 (c.toNat : Int)] W fun en w' => en = .returned (.tuple #[.int .i64 (t : Int), .bool r]) ∧ w' = W := by
  have h := r13value_any p s c W hp hs
  unfold R13ValPost at h
  rw [hm] at h
  exact h
def RKeysPost (s : ByteArray) (p : Nat) (w : World) (en : Ending) (w' : World) : Prop :=
  Below w.heap.size w w' ∧ ((∃ e, akeysM s p [] = .error e ∧ en = .returned (.tuple #[.slice none 0 0, .int .i64 (e : Int), .bool false])) ∨
    (∃ ks q v, akeysM s p [] = .ok (ks, q) ∧ en = .returned (.tuple #[v, .int .i64 (q : Int), .bool true]) ∧ w'.ownsRow w.heap.size 60 2 v (sortK ks).length (pairCells (sortK ks))))
def KRow (w : World) (ks : List PKey) (v : Value) (W : World) : Prop := W.ownsRow w.heap.size 60 2 v ks.length (pairCells ks) ∧ Below w.heap.size w W
theorem KRow.drewN {w W : World} {ks : List PKey} {v : Value} (h : KRow w ks v W) (k : Nat) : KRow w ks v (W.drewN k) := ⟨h.1, below_drewN h.2 k⟩
theorem KRow.next {w W W' : World} {ks ks' : List PKey} {v v' : Value} (h : KRow w ks v W) (h1 : W'.ownsRow W.heap.size 60 2 v' ks'.length (pairCells ks')) (h2 : Below W.heap.size W W') : KRow w ks' v' W' :=
  ⟨own_base h1 h.2.size, h.2.trans (h2.mono h.2.size)⟩
theorem rkeys_bad {s : ByteArray} {p q e : Nat} {ks : List PKey} {v : Value} {w w' : World} {en : Ending} (hE : akeysM s p [] = akeysM s q ks) (hq : q ≤ s.size) (hs : akStep s q ks = .error e) (hR : KRow w (sortK ks) v w') (he : en = .returned (.tuple #[.slice none 0 0, .int .i64 (e : Int), .bool false])) : RKeysPost s p w en w' :=
  ⟨hR.2, .inl ⟨e, by rw [hE, akeysM_bad hq hs], he⟩⟩
theorem krow_at {w W : World} {ks : List PKey} {A : Option Addr} {n c i : Nat} {x : PKey} (h : KRow w ks (.slice A n c) W) (hn : ks.length = n) (hi : i < n) (hx : ks[i]? = some x) :
    ∃ b o, A = some ⟨b, o, none⟩ ∧ W.cell? ⟨b, o + i * 2, none⟩ = some (.string x.1) ∧ W.cell? ⟨b, o + i * 2 + 1, none⟩ = some (.string x.2) := by
  have hr := own_reads (hn ▸ h.1)
  obtain ⟨b, o, rfl, hbo, hcells⟩ := hr.spot (by omega) (by omega)
  have hat := pairCells_at ks i x hx
  exact ⟨b, o, rfl, hcells _ _ hat.1, hcells _ _ hat.2⟩
theorem krow_keys {w W : World} {ks : List PKey} {A : Option Addr} {n c : Nat} (h : KRow w ks (.slice A n c) W) (hn : ks.length = n) : KeysAt W W.heap.size (.slice A n c) ks := by
  subst hn
  obtain ⟨A', c', e, h1, h2, hr⟩ := own_form h.1
  cases e
  exact ⟨A, c, rfl, h1, h2, own_reads h.1⟩
/-- Where keys' loop is. -/
def RKeysAt (s : ByteArray) (p0 : Nat) (w : World) (p : Nat) (ks : List PKey) (v : Value) (wr : World) : Prop :=
  p ≤ s.size ∧ ks.length * 2 ≤ p ∧ DistK ks ∧ akeysM s p0 [] = akeysM s p ks ∧ KRow w (sortK ks) v wr
set_option maxHeartbeats 16000000 in
set_option maxRecDepth 100000 in
theorem rkeys_any (p0 : Nat) (s : ByteArray) (w : World) (hp0 : p0 ≤ s.size) (hs : s.size ≤ 2000000) :
    Calls Tryd.prog 36 #[.string s, .int .i64 (p0 : Int)] w (RKeysPost s p0 w) := by
  have hs2 : s.size ≤ 140737488355328 := by omega
  have HS2 := Lib.hid hs2
  clear hs2
  go_enter Tryd.func36, Tryd.ntmps36
  go_wp2
  go_loopw [1, 7] (fun av ov wr => ∃ (p : Nat) (ks : List PKey), av = .int .i64 (p : Int) ∧ RKeysAt s p0 w p ks ov wr) (fun av _ _ => s.size - (Lib.intOf av).toNat)
  case atStart => exact ⟨p0, [], rfl, hp0, Nat.zero_le _, List.Pairwise.nil, rfl, World.ownsRow_nil _ _ _ _, Below.refl _ _⟩
  case round =>
    obtain ⟨p, ks, rfl, hp, hkl, hD, hE, hR⟩ := hrel
    obtain ⟨A7, c7, rfl, -, -, -⟩ := own_form hR.1
    generalize hN : (sortK ks).length = n at *
    have HN := Lib.hid hN
    have HE := Lib.hid hE
    have HD := Lib.hid hD
    have HR := Lib.hid hR
    have HKL := Lib.hid (show n * 2 ≤ p by have := sortK_len ks; omega)
    have HKL2 := Lib.hid hkl
    have hn1 : (n : Int) ≤ 1000000 := by have := HKL.out; omega
    clear hN hE hD hR hkl
    by_cases hsb : standsB s p 91 = true
    · obtain ⟨hlt, hc⟩ := stands_at hsb
      have hq : (p : Int) < (s.size : Int) := by omega
      have hcb : ((s[p].toNat : Int) == 91) = true := by rw [hc]; rfl
      have HSB := Lib.hid hsb
      clear hsb hc
      rcases e1 : mustM s p [91, 64] with ⟨q, b1⟩
      have m1 := mustM_le s [91, 64] p hp
      rw [e1] at m1
      have HMU := Lib.hid (rmust_of (b := ⟨#[91, 64]⟩) [91, 64] rfl e1 hp HS2.out (by decide))
      have HE1 := Lib.hid e1
      obtain ⟨m1a, m1b, m1c⟩ := m1
      simp only at m1a m1b m1c
      have HM1 := Lib.hid m1c
      clear e1 m1c
      cases b1
      · have HX := Lib.hid (show akStep s p ks = .error q by unfold akStep; rw [if_pos HSB.out, HE1.out])
        go_wp2_with fail
        refine (HMU.out _).mono ?_
        rintro en w1 ⟨rfl, k1, rfl⟩
        go_wp2
        go_ret3
        exact rkeys_bad HE.out hp HX.out (HR.out.drewN k1) rfl
      · have n1 := aname_le m1b
        have HQ := Lib.hid (HM1.out rfl)
        clear HM1
        have HNA := Lib.hid (fun W => r13name_any q s W m1b HS2.out)
        generalize hna : aname s q = e at *
        have HNE := Lib.hid hna
        obtain ⟨n1a, n1b⟩ := n1
        have i1 : (q : Int) ≤ (e : Int) := by omega
        have i2 : (e : Int) ≤ (s.size : Int) := by omega
        clear hna
        go_wp2_with fail
        refine (HMU.out _).mono ?_
        rintro en w1 ⟨rfl, k1, rfl⟩
        have HR1 := Lib.hid (HR.out.drewN k1)
        generalize wr.drewN k1 = w1 at *
        go_wp2_with fail
        refine (HNA.out _).mono ?_
        rintro en w2 ⟨rfl, rfl⟩
        go_wp2
        generalize hK : s.extract q e = K at *
        have HKK := Lib.hid hK
        clear hK
        go_loopw [12] (fun iv wr => wr = w2 ∧ ∃ i : Nat, iv = .int .i64 (i : Int) ∧ i ≤ n ∧ ∀ j x, j < i → (sortK ks)[j]? = some x → x.1 ≠ K) (fun iv _ => n - (Lib.intOf iv).toNat)
        case atStart => exact ⟨rfl, 0, rfl, Nat.zero_le _, fun j x hj => absurd hj (by omega)⟩
        case round =>
          obtain ⟨rfl, i, rfl, hi, hF⟩ := hrel
          have HF := Lib.hid hF
          clear hF
          by_cases hin : i < n
          · obtain ⟨x, hx⟩ : ∃ x, (sortK ks)[i]? = some x := ⟨(sortK ks)[i]'(by rw [HN.out]; exact hin), by simp [HN.out, hin]⟩
            have hq1 : (i : Int) < (n : Int) := by omega
            obtain ⟨g, o, rfl, r0, r1⟩ := krow_at HR1.out HN.out hin hx
            have HX := Lib.hid hx
            clear hx
            by_cases hk : x.1 = K
            · have hk1 : (x.1.toList == K.toList) = true := by rw [hk]; simp
              have HB := Lib.hid (show akStep s p ks = .error q by
                unfold akStep
                rw [if_pos HSB.out, HE1.out]
                dsimp only
                rw [HNE.out, HKK.out, ← sortK_any, if_pos (List.any_eq_true.2 ⟨x, List.mem_of_getElem? HX.out, decide_eq_true hk⟩)])
              clear hk
              go_wp2
              go_ret3
              exact rkeys_bad HE.out hp HB.out HR1.out rfl
            · have hk1 : (x.1.toList == K.toList) = false := by rw [ba_beq]; simp [hk]
              have HK := Lib.hid hk
              clear hk
              go_wp2
              go_roundw
              case rel =>
                refine ⟨trivial, i + 1, by go_num, hin, fun j y hj hy => ?_⟩
                rcases Nat.lt_or_ge j i with h | h
                · exact HF.out j y h hy
                · obtain rfl : j = i := by omega
                  rw [HX.out] at hy
                  cases hy
                  exact HK.out
              case measure => simp [Lib.intOf]; omega
          · obtain rfl : i = n := by omega
            have hq1 : ¬ (i : Int) < (i : Int) := by omega
            have HND := Lib.hid (show ¬ (ks.any fun x => decide (x.1 = K)) = true from fun h => by
              rw [← sortK_any] at h
              obtain ⟨x, hx, h2⟩ := List.any_eq_true.1 h
              obtain ⟨j, hj, rfl⟩ := List.getElem_of_mem hx
              exact HF.out j _ (by rw [HN.out] at hj; exact hj) (List.getElem?_eq_getElem hj) (of_decide_eq_true h2))
            by_cases hne : e = q
            · have hne1 : ((e : Int) == (q : Int)) = true := by rw [hne]; simp
              have HB := Lib.hid (show akStep s p ks = .error e by
                unfold akStep
                rw [if_pos HSB.out, HE1.out]
                dsimp only
                rw [HNE.out, HKK.out, if_neg HND.out, if_pos hne, hne])
              clear hne
              go_wp2
              go_ret3
              exact rkeys_bad HE.out hp HB.out HR1.out rfl
            · have hne1 : ((e : Int) == (q : Int)) = false := by rw [beq_eq_false_iff_ne]; omega
              have HNQ := Lib.hid hne
              clear hne
              rcases e2 : mustM s e [61] with ⟨r, b2⟩
              have m2 := mustM_le s [61] e n1b
              rw [e2] at m2
              have HMU2 := Lib.hid (rmust_of (b := ⟨#[61]⟩) [61] rfl e2 n1b HS2.out (by decide))
              have HE2 := Lib.hid e2
              obtain ⟨m2a, m2b, -⟩ := m2
              simp only at m2a m2b
              clear e2
              cases b2
              · have HB := Lib.hid (show akStep s p ks = .error r by
                  unfold akStep
                  rw [if_pos HSB.out, HE1.out]
                  dsimp only
                  rw [HNE.out, HKK.out, if_neg HND.out, if_neg HNQ.out, HE2.out])
                go_wp2_with fail
                refine (HMU2.out _).mono ?_
                rintro en w3 ⟨rfl, k3, rfl⟩
                go_wp2
                go_ret3
                exact rkeys_bad HE.out hp HB.out (HR1.out.drewN k3) rfl
              · go_wp2_with fail
                refine (HMU2.out _).mono ?_
                rintro en w3 ⟨rfl, k3, rfl⟩
                have HR3 := Lib.hid (HR1.out.drewN k3)
                have HST1 := Lib.hid (show akStep s p ks = (if (standsB s r 39 || standsB s r 34) = true then
                    match avalM s (if standsB s r 39 = true then 39 else 34) (r + 1) with
                    | (t, false) => .error t
                    | (t, true) => match mustM s (t + 1) [93] with
                      | (u, false) => .error u
                      | (u, true) => .ok (some ((K, s.extract (r + 1) t), u))
                    else .error r) by
                  unfold akStep
                  rw [if_pos HSB.out, HE1.out]
                  dsimp only
                  rw [HNE.out, HKK.out, if_neg HND.out, if_neg HNQ.out, HE2.out]
                  try rfl)
                clear HND HE2 HMU2 HF
                generalize World.drewN _ k3 = w3 at *
                have m2c : (r : Int) ≤ (s.size : Int) := by omega
                by_cases hst : (standsB s r 39 || standsB s r 34) = true
                · have hrl : r < s.size := by
                    rcases Bool.or_eq_true _ _ ▸ hst with h1 | h1
                    · exact (stands_at h1).1
                    · exact (stands_at h1).1
                  have hrc : s[r] = (if standsB s r 39 = true then (39 : UInt8) else 34) := by
                    by_cases h1 : standsB s r 39 = true
                    · rw [if_pos h1]
                      exact (stands_at h1).2
                    · rw [if_neg h1]
                      rcases Bool.or_eq_true _ _ ▸ hst with h2 | h2
                      · exact absurd h2 h1
                      · exact (stands_at h2).2
                  have HST := Lib.hid hst
                  have HRC := Lib.hid hrc
                  have HST2 := Lib.hid (HST1.out.trans (if_pos hst))
                  have hrl2 : (r : Int) < (s.size : Int) := by omega
                  have hrl3 : ¬ s.size ≤ r := by omega
                  have hcq : (((s[r].toNat : Int) == 39) = true ∧ ((s[r].toNat : Int) != 39) = false) ∨ (((s[r].toNat : Int) != 39) = true ∧ ((s[r].toNat : Int) == 39) = false ∧ ((s[r].toNat : Int) == 34) = true ∧ ((s[r].toNat : Int) != 34) = false) := by
                    rw [hrc]
                    by_cases h1 : standsB s r 39 = true
                    · rw [if_pos h1]; exact .inl ⟨rfl, rfl⟩
                    · rw [if_neg h1]; exact .inr ⟨rfl, rfl, rfl, rfl⟩
                  clear hst hrc
                  rcases e3 : avalM s s[r] (r + 1) with ⟨t, b3⟩
                  have m3 := avalM_le s s[r] (s.size - (r + 1)) (r + 1) (Nat.le_refl _) hrl
                  have HVA := Lib.hid (rvalue_of e3 hrl HS2.out)
                  rw [e3] at m3
                  rw [HRC.out] at e3
                  have HE3 := Lib.hid e3
                  obtain ⟨m3a, m3b, m3c⟩ := m3
                  simp only at m3a m3b m3c
                  have HM3 := Lib.hid m3c
                  clear e3 m3c
                  have m3e : (t : Int) ≤ (s.size : Int) := by omega
                  have m3d : (r : Int) + 1 ≤ (t : Int) := by omega
                  have m3f : (0 : Int) ≤ (r : Int) + 1 := by omega
                  have m3g : ((r : Int) + 1).toNat = r + 1 := by omega
                  have HM3A := Lib.hid m3a
                  clear m3a
                  cases b3
                  · have HB := Lib.hid (show akStep s p ks = .error t by rw [HST2.out, HE3.out])
                    rcases hcq with ⟨h39, h40⟩ | ⟨h39, h40, h41, h42⟩
                    all_goals
                      go_wp2_with fail
                      refine (HVA.out _).mono ?_
                      rintro en w4 ⟨rfl, rfl⟩
                      go_wp2
                      go_ret3
                      exact rkeys_bad HE.out hp HB.out HR3.out rfl
                  · have htl := (stands_at (HM3.out rfl)).1
                    rcases e4 : mustM s (t + 1) [93] with ⟨u, b4⟩
                    have HMU4 := Lib.hid (rmust_of (b := ⟨#[93]⟩) [93] rfl e4 htl HS2.out (by decide))
                    have HE4 := Lib.hid e4
                    clear e4
                    cases b4
                    · have HB := Lib.hid (show akStep s p ks = .error u by rw [HST2.out, HE3.out]; dsimp only; rw [HE4.out])
                      rcases hcq with ⟨h39, h40⟩ | ⟨h39, h40, h41, h42⟩
                      all_goals
                        go_wp2_with fail
                        refine (HVA.out _).mono ?_
                        rintro en w4 ⟨rfl, rfl⟩
                        go_wp2_with fail
                        refine (HMU4.out _).mono ?_
                        rintro en w5 ⟨rfl, k5, rfl⟩
                        go_wp2
                        go_ret3
                        exact rkeys_bad HE.out hp HB.out (HR3.out.drewN k5) rfl
                    · have HS := Lib.hid (show akStep s p ks = .ok (some ((K, s.extract (r + 1) t), u)) by rw [HST2.out, HE3.out]; dsimp only; rw [HE4.out])
                      have HSI := Lib.hid (akStep_some hp HS.out)
                      rcases hcq with ⟨h39, h40⟩ | ⟨h39, h40, h41, h42⟩
                      all_goals
                        go_wp2_with fail
                        refine (HVA.out _).mono ?_
                        rintro en w4 ⟨rfl, rfl⟩
                        go_wp2_with fail
                        refine (HMU4.out _).mono ?_
                        rintro en w5 ⟨rfl, k5, rfl⟩
                        have HR5 := Lib.hid (HR3.out.drewN k5)
                        generalize World.drewN _ k5 = w5 at *
                        go_wp2_with fail
                        refine (rins_any (sortK ks) (K, s.extract (r + 1) t) _ w5 (krow_keys HR5.out HN.out) (by rw [HN.out]; omega)).mono ?_
                        rintro en w6 ⟨v6, rfl, ho6, hb6⟩
                        rw [sortK_snoc (distK_snoc.2 ⟨HD.out, HSI.out.2.2.1⟩)] at ho6
                        have HR6 := Lib.hid (HR5.out.next ho6 hb6)
                        clear ho6 hb6
                        go_wp2
                        go_roundw
                        case rel => exact ⟨u, ks ++ [(K, s.extract (r + 1) t)], rfl, HSI.out.2.1, by have := HSI.out.1; have := HKL2.out; simp; omega, distK_snoc.2 ⟨HD.out, HSI.out.2.2.1⟩, HE.out.trans (akeysM_some hp HS.out), HR6.out⟩
                        case measure => have := HSI.out.1; have := HSI.out.2.1; simp [Lib.intOf]; omega
                · have HB := Lib.hid (show akStep s p ks = .error r from HST1.out.trans (if_neg hst))
                  by_cases hrl : r < s.size
                  · have hrl2 : (r : Int) < (s.size : Int) := by omega
                    have hrl3 : ¬ s.size ≤ r := by omega
                    have hx : ¬ s[r] = 39 ∧ ¬ s[r] = 34 := by
                      refine ⟨fun e => hst ?_, fun e => hst ?_⟩
                      · have : standsB s r 39 = true := by unfold standsB; rw [dif_pos hrl, e]; rfl
                        rw [this]
                        rfl
                      · have : standsB s r 34 = true := by unfold standsB; rw [dif_pos hrl, e]; rfl
                        rw [this, Bool.or_true]
                    have h39 : ((s[r].toNat : Int) == 39) = false := by have h1 := beq_dec s[r] 39; rw [show (s[r] == 39) = false by simpa using hx.1] at h1; exact h1.symm
                    have h34 : ((s[r].toNat : Int) == 34) = false := by have h1 := beq_dec s[r] 34; rw [show (s[r] == 34) = false by simpa using hx.2] at h1; exact h1.symm
                    have h39b : ((s[r].toNat : Int) != 39) = true := by rw [bne, h39]; rfl
                    have h34b : ((s[r].toNat : Int) != 34) = true := by rw [bne, h34]; rfl
                    clear hx hst
                    go_wp2
                    go_ret3
                    exact rkeys_bad HE.out hp HB.out HR3.out rfl
                  · have hrl3 : s.size ≤ r := by omega
                    have hrl2 : (s.size : Int) ≤ (r : Int) := by omega
                    clear hst
                    go_wp2
                    go_ret3
                    exact rkeys_bad HE.out hp HB.out HR3.out rfl
    · have HX := Lib.hid (show akStep s p ks = .ok none from by unfold akStep; rw [if_neg hsb])
      by_cases hlt : p < s.size
      · have hq : (p : Int) < (s.size : Int) := by omega
        have hcb : ((s[p].toNat : Int) == 91) = false := by
          have h1 := beq_dec s[p] 91
          rw [show (s[p] == 91) = false by
            cases h : (s[p] == 91)
            · rfl
            · exact absurd (by unfold standsB; rw [dif_pos hlt, h]) hsb] at h1
          exact h1.symm
        clear hsb
        go_wp2
        go_ret3
        exact ⟨HR.out.2, .inr ⟨ks, p, _, by rw [HE.out, akeysM_none hp HX.out], rfl, HR.out.1⟩⟩
      · have hq : ¬ (p : Int) < (s.size : Int) := by omega
        clear hsb
        go_wp2
        go_ret3
        exact ⟨HR.out.2, .inr ⟨ks, p, _, by rw [HE.out, akeysM_none hp HX.out], rfl, HR.out.1⟩⟩
end Go.Proofs.YtkfofdmcggoonaaDoor
/-
  Where an alias's text leads, plainly: step by step. No condition, no program in sight.
-/
namespace Go.Proofs.YtkfofdmcggoonaaDoor
open Go.RowKit

def KeySmall (n : Nat) (x : PKey) : Prop := x.1.size ≤ n ∧ x.2.size ≤ n
theorem akeysM_inv (s : ByteArray) : ∀ (k p : Nat) (ks ks' : List PKey) (q : Nat), s.size - p ≤ k → p ≤ s.size → akeysM s p ks = .ok (ks', q) →
    p ≤ q ∧ q ≤ s.size ∧ (DistK ks → DistK ks') ∧ ks'.length * 4 + p ≤ ks.length * 4 + q ∧ ((∀ x ∈ ks, KeySmall s.size x) → ∀ x ∈ ks', KeySmall s.size x) ∧ standsB s q 91 = false
  | k, p, ks, ks', q, hk, hp, h => by
    rw [akeysM_eq hp] at h
    cases hst : akStep s p ks with
    | error e => rw [hst] at h; cases h
    | ok o =>
      cases o with
      | none =>
        rw [hst] at h
        cases h
        refine ⟨Nat.le_refl _, hp, id, Nat.le_refl _, id, ?_⟩
        cases hb : standsB s p 91
        · rfl
        · unfold akStep at hst
          rw [if_pos hb] at hst
          exfalso
          repeat' split at hst
          all_goals cases hst
      | some xu =>
        obtain ⟨x, u⟩ := xu
        rw [hst] at h
        obtain ⟨a, b, c, d, e, -⟩ := akStep_some hp hst
        cases k with
        | zero => omega
        | succ k =>
          obtain ⟨i1, i2, i3, i4, i5, i6⟩ := akeysM_inv s k u _ ks' q (by omega) b h
          refine ⟨by omega, i2, fun hd => i3 (distK_snoc.2 ⟨hd, c⟩), by simp at i4; omega, fun hs => i5 fun y hy => ?_, i6⟩
          rcases List.mem_append.1 hy with hy | hy
          · exact hs y hy
          · simp at hy
            rw [hy]
            exact ⟨d, e⟩
theorem aclimbF_fuel (s : ByteArray) : ∀ (k p j : Nat) (up : List PStep) (first : Bool), p ≤ s.size → s.size < p + k → k ≤ j → aclimbF j s p up first = aclimbF k s p up first := by
  intro k
  induction k with
  | zero => intro p j up first h1 h2; omega
  | succ k ih =>
    intro p j up first h1 h2 h3
    cases j with
    | zero => omega
    | succ j =>
      simp only [aclimbF]
      split
      · split
        · rfl
        · rcases e1 : mustM s p [46, 46, 47] with ⟨q, b⟩
          cases b
          · rfl
          · have m1 := mustM_le s [46, 46, 47] p h1
            rw [e1] at m1
            have hq : q = p + 3 := m1.2.2 rfl
            exact ih q j _ _ m1.2.1 (by omega) (by omega)
      · rfl
def aclimbM (s : ByteArray) (p : Nat) (up : List PStep) (first : Bool) : Except Nat (List PStep × Nat) := aclimbF (s.size + 2) s p up first
theorem aclimbM_eq {s : ByteArray} {p : Nat} {up : List PStep} {first : Bool} (hp : p ≤ s.size) : aclimbM s p up first =
    if (first || standsB s p 46) = true then
      if up = [] then .error p
      else match mustM s p [46, 46, 47] with
        | (q, false) => .error q
        | (q, true) => aclimbM s q up.dropLast false
    else .ok (up, p) := by
  unfold aclimbM
  rw [show s.size + 2 = (s.size + 1) + 1 by omega]
  conv => lhs; unfold aclimbF
  split
  · split
    · rfl
    · rcases e1 : mustM s p [46, 46, 47] with ⟨q, b⟩
      cases b
      · rfl
      · have m1 := mustM_le s [46, 46, 47] p hp
        rw [e1] at m1
        have hq : q = p + 3 := m1.2.2 rfl
        exact (aclimbF_fuel s (s.size + 1) q (s.size + 1 + 1) _ _ m1.2.1 (by omega) (by omega)).symm
  · rfl
theorem astepsF_fuel (s : ByteArray) : ∀ (k p j : Nat) (up : List PStep), p ≤ s.size → s.size < p + k → k ≤ j → astepsF j s p up = astepsF k s p up := by
  intro k
  induction k with
  | zero => intro p j up h1 h2; omega
  | succ k ih =>
    intro p j up h1 h2 h3
    cases j with
    | zero => omega
    | succ j =>
      simp only [astepsF]
      have n1 := aname_le h1
      by_cases hn : aname s p = p
      · simp only [if_pos hn]
      · simp only [if_neg hn]
        cases e1 : akeysF (s.size + 1) s (aname s p) [] with
        | error e => rfl
        | ok r =>
          obtain ⟨ks, q⟩ := r
          obtain ⟨i1, i2, -⟩ := akeysM_inv s (s.size - aname s p) (aname s p) [] ks q (Nat.le_refl _) n1.2 e1
          simp only
          by_cases h4 : standsB s q 47 = true
          · simp only [if_pos h4]
            have h5 := (stands_at h4).1
            exact ih (q + 1) j _ h5 (by omega) (by omega)
          · simp only [if_neg h4]
def astepsM (s : ByteArray) (p : Nat) (up : List PStep) : Except Nat (List PStep) := astepsF (s.size + 1) s p up
theorem astepsM_eq {s : ByteArray} {p : Nat} {up : List PStep} (hp : p ≤ s.size) : astepsM s p up =
    if aname s p = p then .error p
    else match akeysM s (aname s p) [] with
      | .error e => .error e
      | .ok (ks, q) =>
        if standsB s q 47 = true then astepsM s (q + 1) (up ++ [(s.extract p (aname s p), sortK ks)])
        else if q = s.size then .ok (up ++ [(s.extract p (aname s p), sortK ks)]) else .error q := by
  unfold astepsM
  conv => lhs; unfold astepsF
  have n1 := aname_le hp
  by_cases hn : aname s p = p
  · simp only [if_pos hn]
  · simp only [if_neg hn]
    change (match akeysM s (aname s p) [] with | .error e => _ | .ok (ks, q) => _) = _
    cases e1 : akeysM s (aname s p) [] with
    | error e => rfl
    | ok r =>
      obtain ⟨ks, q⟩ := r
      obtain ⟨i1, i2, -⟩ := akeysM_inv s (s.size - aname s p) (aname s p) [] ks q (Nat.le_refl _) n1.2 e1
      simp only
      by_cases h4 : standsB s q 47 = true
      · simp only [if_pos h4]
        have h5 := (stands_at h4).1
        exact (astepsF_fuel s s.size (q + 1) (s.size + 1) _ h5 (by omega) (by omega)).symm
      · simp only [if_neg h4]
/-- What comes of the steps. -/
def lastM (r : Except Nat (List PStep)) : ByteArray × Int × Int := match r with
  | .error e => (ByteArray.empty, 230, (e : Int))
  | .ok l => match putM l with
    | .ok t => (str t, 0, 0)
    | .error _ => (ByteArray.empty, 3, 0)
/-- What comes of the way up. -/
def tailM (s : ByteArray) (r : Except Nat (List PStep × Nat)) : ByteArray × Int × Int := match r with
  | .error e => (ByteArray.empty, 230, (e : Int))
  | .ok (up, p) => lastM (astepsM s p up)
theorem targetM_err {g s : ByteArray} {e : Int × Int} (h : parseM g = .error e) : targetM g s = (ByteArray.empty, 2, 0) := by unfold targetM; rw [h]
theorem targetM_nil {g s : ByteArray} (h : parseM g = .ok []) : targetM g s = (ByteArray.empty, 2, 0) := by unfold targetM; rw [h]
theorem targetM_ok {g s : ByteArray} {l : List PStep} (h : parseM g = .ok l) (hl : l ≠ []) : targetM g s = tailM s (aclimbM s 0 l true) := by
  unfold targetM
  rw [h]
  cases l with
  | nil => exact absurd rfl hl
  | cons x r =>
    simp only [tailM, lastM, aclimbM, astepsM]
    cases aclimbF (s.size + 2) s 0 (x :: r) true with
    | error e => rfl
    | ok y => rfl
end Go.Proofs.YtkfofdmcggoonaaDoor
