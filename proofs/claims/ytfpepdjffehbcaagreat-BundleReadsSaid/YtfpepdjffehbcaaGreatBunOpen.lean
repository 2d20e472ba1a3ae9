/-
  The layer wakes: a small bundle has bytes, and a value. And how many bytes a bundle that is cut has. No condition.
-/
import Derived.Test.YtfpepdjffehbcaaGreatBunCut
import Derived.Test.YtfpepdjffehbcaaGreatBunBytesP
set_option linter.unusedVariables false
set_option linter.unusedSimpArgs false
namespace Go.Proofs.YtfpepdjffehbcaaGreat
open Go.RowKit

/-- A bundle that can be played in time is that small. -/
def CutSm (l : List PStep) : Prop := l.length ≤ 11 ∧ ∀ b ∈ l, b.2.length ≤ 30
theorem cut_small (l : List PStep) : CutSm (cutL l) := by
  refine ⟨by unfold cutL; rw [List.length_map, List.length_take]; omega, fun b hb => ?_⟩
  unfold cutL at hb
  obtain ⟨c, hc, rfl⟩ := List.mem_map.1 hb
  unfold cutB
  rw [List.length_take]
  omega
theorem sum_le {α : Type} {f : α → Nat} {c : Nat} : ∀ {l : List α}, (∀ x ∈ l, f x ≤ c) → (l.map f).sum ≤ c * l.length
  | [], _ => Nat.le_refl _
  | x :: r, h => by
    have ih := sum_le (f := f) (c := c) (l := r) fun y hy => h y (by simp [hy])
    have hx := h x (by simp)
    rw [List.map_cons, List.sum_cons, List.length_cons, Nat.mul_add]
    omega
theorem few_words30 : ∀ (l : List PStep), (∀ b ∈ l, b.2.length ≤ 30) → (wordsB l).length ≤ 91 * l.length ∧ (pathsB l).length ≤ 30 * l.length
  | [], _ => ⟨Nat.le_refl _, Nat.le_refl _⟩
  | b :: r, h => by
    have ih := few_words30 r fun c hc => h c (by simp [hc])
    have hb := h b (by simp)
    have hw : ∀ vs : List PKey, (vs.flatMap fun v => [grp v.1, v.1, v.2]).length = 3 * vs.length := by
      intro vs
      induction vs with
      | nil => rfl
      | cons x r ih => rw [List.flatMap_cons, List.length_append, ih]; simp; omega
    unfold wordsB pathsB at ih ⊢
    simp only [List.flatMap_cons, List.length_append, List.length_cons, List.length_map, hw]
    omega
theorem few_tabs30 (T P : List ByteArray) : ∀ (l : List PStep), (∀ b ∈ l, b.2.length ≤ 30) → (allTabs T P l).length ≤ 30 * l.length ∧ ∀ t ∈ allTabs T P l, t.length ≤ 30
  | [], _ => ⟨Nat.le_refl _, by simp [allTabs]⟩
  | b :: r, h => by
    have ih := few_tabs30 T P r fun c hc => h c (by simp [hc])
    have hb := h b (by simp)
    have hg := few_groups b.2
    unfold allTabs at ih ⊢
    refine ⟨by simp only [List.flatMap_cons, List.length_append, List.length_map, List.length_cons]; omega, fun t ht => ?_⟩
    rw [List.flatMap_cons, List.mem_append] at ht
    rcases ht with ht | ht
    · obtain ⟨g, -, rfl⟩ := List.mem_map.1 ht
      unfold rowsB
      rw [List.length_map]
      exact Nat.le_trans (List.length_filter_le _ _) hb
    · exact ih.2 t ht
theorem bytes_len (l : List PStep) : (bytesB l).length = lenB l + 4 := by
  unfold bytesB
  rw [List.length_append, body_len, le_len]
theorem enc_fits {l : List PStep} (h : (checkB l).1 = 0) (hs : CutSm l) : (bytesB l).length ≤ 16777216 := by
  rw [bytes_len]
  unfold lenB
  have h1 := few_words30 l hs.2
  have h2 := few_tabs30 (textsP l) (pathsP l) l hs.2
  have h3 := hs.1
  have a1 := sum_le (f := fun s : ByteArray => 4 + s.size) (c := 4100) (l := textsP l) (fun s hs => by have := texts_small h s hs; omega)
  have a2 := sum_le (f := fun t : List RowI => 4 + 8 * t.length) (c := 244) (l := tabsB l) (fun t ht => by have := h2.2 t ((poolL_mem _ _).1 ht); omega)
  have a3 := sum_le (f := fun b : PStep => 8 + 8 * (groupsB b.2).length) (c := 248) (l := l) (fun b hb => by have := few_groups b.2; have := hs.2 b hb; omega)
  have b1 := poolL_len (lt := bl) (wordsB l)
  have b2 := poolL_len (lt := bl) (pathsB l)
  have b3 := poolL_len (lt := tl) (allTabs (textsP l) (pathsP l) l)
  have c1 : (textsP l).length ≤ 91 * l.length := Nat.le_trans b1 h1.1
  have c2 : (pathsP l).length ≤ 30 * l.length := Nat.le_trans b2 h1.2
  have c3 : (tabsB l).length ≤ 30 * l.length := Nat.le_trans b3 h2.1
  omega
theorem bytes_head (l : List PStep) : (bytesB l)[0]? = some 86 ∧ 21 ≤ (bytesB l).length := by
  refine ⟨by unfold bytesB bodyB; rfl, ?_⟩
  rw [bytes_len]
  unfold lenB
  omega
def lW : List PStep := [(⟨#[101, 110]⟩, [(⟨#[97, 47, 120]⟩, ⟨#[49]⟩)])]
theorem lW_check : (checkB lW).1 = 0 := by kernel_rfl
theorem lW_get : getB lW ⟨#[101, 110]⟩ ⟨#[97, 47, 120]⟩ = (⟨#[49]⟩, true) := by kernel_rfl
theorem lW_in : InB lW := ⟨by decide, fun b hb => by
  simp only [lW, List.mem_singleton] at hb
  subst hb
  exact ⟨by decide, fun x hx => by simp only [List.mem_singleton] at hx; subst hx; exact ⟨by decide, by decide⟩, by decide⟩⟩
theorem lW_steps (w : World) : StepsR ((w.alloc (.cells #[.string ⟨#[97, 47, 120]⟩, .string ⟨#[49]⟩] 59)).alloc (.cells #[.string ⟨#[101, 110]⟩, .slice (some ⟨w.heap.size, 0, none⟩) 1 1] 56)) (.slice (some ⟨w.heap.size + 1, 0, none⟩) 1 1) lW [.slice (some ⟨w.heap.size, 0, none⟩) 1 1] := by
  refine ⟨_, 1, rfl, Nat.le_refl _, by decide, ?_, rfl, fun i b kv h1 h2 => ?_⟩
  · have := reads_new (w.alloc (.cells #[.string ⟨#[97, 47, 120]⟩, .string ⟨#[49]⟩] 59)) #[.string ⟨#[101, 110]⟩, .slice (some ⟨w.heap.size, 0, none⟩) 1 1] 56 2 1 rfl
    have h2 : Reads ((w.alloc (.cells #[.string ⟨#[97, 47, 120]⟩, .string ⟨#[49]⟩] 59)).alloc (.cells #[.string ⟨#[101, 110]⟩, .slice (some ⟨w.heap.size, 0, none⟩) 1 1] 56)) ((w.alloc (.cells #[.string ⟨#[97, 47, 120]⟩, .string ⟨#[49]⟩] 59)).alloc (.cells #[.string ⟨#[101, 110]⟩, .slice (some ⟨w.heap.size, 0, none⟩) 1 1] 56)).heap.size 2 (some ⟨w.heap.size + 1, 0, none⟩) 1 [.string ⟨#[101, 110]⟩, .slice (some ⟨w.heap.size, 0, none⟩) 1 1] := by simpa only [World.size_alloc] using this
    exact h2
  · cases i with
    | succ i => simp [lW] at h1
    | zero =>
      simp only [lW, List.getElem?_cons_zero, Option.some.injEq] at h1 h2
      subst h1 h2
      have := (reads_new w #[.string ⟨#[97, 47, 120]⟩, .string ⟨#[49]⟩] 59 2 1 rfl).alloc (by simp) (.cells #[.string ⟨#[101, 110]⟩, .slice (some ⟨w.heap.size, 0, none⟩) 1 1] 56)
      exact ⟨_, 1, rfl, Nat.le_refl _, by decide, this.more (by simp)⟩
set_option maxHeartbeats 4000000 in
set_option maxRecDepth 100000 in
theorem bwakes_any (w : World) : Calls Tryz.prog 8 #[] w fun e w' => e = .returned (.bool true) ∧ Below w.heap.size w w' := by
  have HEN := Lib.hid (show Calls Tryz.prog 10 #[.agg #[.slice (some ⟨w.heap.size + 1, 0, none⟩) 1 1]] ((w.alloc (.cells #[.string ⟨#[97, 47, 120]⟩, .string ⟨#[49]⟩] 59)).alloc (.cells #[.string ⟨#[101, 110]⟩, .slice (some ⟨w.heap.size, 0, none⟩) 1 1] 56)) (fun e w' => ∃ b c m, e = .returned (.tuple #[.slice (some ⟨b, 0, none⟩) m c, .int .i64 0]) ∧ (20 < m ∧ m ≤ 16777216) ∧ b < w'.heap.size ∧ w'.cell? ⟨b, 0, none⟩ = some (.int .u8 86) ∧ Below w.heap.size w w') from by
    refine (bencode_any _ lW _ _ (lW_steps w) lW_in).mono ?_
    rintro e w' ⟨⟨h, -⟩ | ⟨-, h, -⟩ | ⟨-, h, v, rfl, ho⟩, hb⟩
    · exact absurd lW_check h
    · exact absurd (enc_fits lW_check ⟨by decide, fun b hb => by simp only [lW, List.mem_singleton] at hb; subst hb; decide⟩) (by omega)
    · have h0 := bytes_head lW
      obtain ⟨k, c, rfl, -, hk⟩ := own_head ho (by omega) (by rw [bvs_len, Nat.mul_one])
      refine ⟨k, c, _, rfl, ⟨by omega, h⟩, hk, ?_, (((Below.refl _ w).alloc (Nat.le_refl _) _).alloc (by simp) _).trans (hb.mono (by simp; omega))⟩
      rw [ho.cellAt 0 (by omega)]
      unfold bvs
      rw [List.getElem?_map, h0.1]
      rfl)
  have HGT := Lib.hid (fun (w3 : World) => (show Calls Tryz.prog 28 #[.agg #[.slice (some ⟨w3.heap.size + 1, 0, none⟩) 1 1], .string ⟨#[101, 110]⟩, .string ⟨#[97, 47, 120]⟩] ((w3.alloc (.cells #[.string ⟨#[97, 47, 120]⟩, .string ⟨#[49]⟩] 59)).alloc (.cells #[.string ⟨#[101, 110]⟩, .slice (some ⟨w3.heap.size, 0, none⟩) 1 1] 56)) (fun e w' => e = .returned (.tuple #[.string ⟨#[49]⟩, .bool true]) ∧ Below w3.heap.size w3 w') from by
    refine (bget_any _ lW _ ⟨#[101, 110]⟩ ⟨#[97, 47, 120]⟩ _ (lW_steps w3) (by decide) (fun b hb => by simp only [lW, List.mem_singleton] at hb; subst hb; decide)).mono ?_
    rintro e w' ⟨rfl, hb⟩
    rw [lW_get]
    exact ⟨rfl, (((Below.refl _ w3).alloc (Nat.le_refl _) _).alloc (by simp) _).trans (hb.mono (by simp; omega))⟩))
  go_enter Tryz.func8, Tryz.ntmps8
  go_upto_region 2 with (go_at_call 10; go_must (refine HEN.out.mono ?_; rintro en w2 ⟨b, c, m, rfl, hm, hbl, hcl, hb2⟩; have HB2 := Lib.hid hb2; have HCL := Lib.hid hcl; have HM := Lib.hid hm; clear hb2 hcl hm))
  have HGW := Lib.hid (HGT.out w2)
  go_upto_region 3 with (go_at_call 28; go_must (refine HGW.out.mono ?_; rintro en w3 ⟨rfl, hb3⟩; have HB3 := Lib.hid (HB2.out.trans (hb3.mono HB2.out.size)); have k0 : w3.cell? ⟨b, 0, none⟩ = some (.int .u8 86) := (hb3.cell (p := ⟨b, 0, none⟩) hbl).trans HCL.out; clear hb3))
  have hm1 := HM.out.1
  have hm2 := HM.out.2
  have hm3 : (20 : Int) < (m : Int) := by omega
  have hm4 : (0 : Int) < (m : Int) := by omega
  clear HEN HGT HGW HM
  go_wp2
  go_ret
  exact ⟨rfl, HB3.out⟩
end Go.Proofs.YtfpepdjffehbcaaGreat
/-
  A bundle that came in as an argument, opened. Condition: none.
-/
set_option linter.unusedVariables false
namespace Go.Proofs.YtfpepdjffehbcaaGreat
open Go.RowKit

set_option maxRecDepth 100000 in
theorem open_bundle {H : Type} {enc : TypeId × Value → H} {v0 : Value} {d0 : DataW H} {p0 : List MemPlace} {base0 : Nat} {w : World} (hv0 : Value.okWide Tryz.prog w .any base0 24 v0) (w0 : DataW.Trod enc Tryz.prog w 0 (fun _ => true) true 24 v0 d0 p0) (hwt0 : ∀ n ∈ d0.weights Tryz.prog 24, n ≤ 140737488351232) :
    ∃ (u : Value) (l : List PStep) (vs : List Value), v0 = .agg #[u] ∧ StepsR w u l vs ∧ BunIn l :=
  bundle_of_trod (tb := 24) (t := 22) (e := 56) (t2 := 54) (e2 := 59) Tryz.underlying24 rfl rfl (by kernel_rfl) (by kernel_rfl) Tryz.underlying22 Tryz.underlying56 (by kernel_rfl) (by kernel_rfl) (by kernel_rfl) Tryz.underlying9 rfl Tryz.underlying54 Tryz.underlying59 (by kernel_rfl) (by kernel_rfl) (by kernel_rfl) Tryz.underlying9 Tryz.underlying9 hwt0 hv0 w0
end Go.Proofs.YtfpepdjffehbcaaGreat
