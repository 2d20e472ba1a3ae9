/-
  The law BundleLimits answers true for every two numbers.
-/
import Derived.Test.YtfpepdjffehbcaaRows
import Derived.Test.YtfpepdjffehbcaaBunLet
import Derived.Test.YtfpepdjffehbcaaBunAsk2
import Derived.Test.YtfpepdjffehbcaaRegM
import Derived.WalkKit
import Derived.Outline
import Derived.ProofKit
import Derived.OpenShut
import Derived.ShutString
import Derived.ChangeOld
import Derived.Below
import Derived.Deep.CondSized
namespace Go.Proofs.Ytfpepdjffehbcaa.bundleLimits
open Go.ChangeShapes Go.WideShapes Go.ChangeAt Go.RowKit
open Go.ChangeMaps (open_string shut_string)
set_option linter.unusedVariables false

theorem own : ownKnob Try.prog.godebug = none := by kernel_rfl
theorem laidOut : laidOutB Try.prog = true := by kernel_rfl

theorem books_next (i : Nat) : ((ByteArray.empty, []) :: booksL (i + 1) : List PStep) = ((ByteArray.empty, []) :: booksL i) ++ [(letS i, [])] := by
  unfold booksL
  rw [List.range_succ, List.map_append]
  rfl
theorem booksL_len (i : Nat) : (booksL i).length = i := by unfold booksL; rw [List.length_map, List.length_range]
theorem steps_tail {W : World} {base g n c : Nat} {b : PStep} {l : List PStep} {us : List Value} (h : BunOwn W base (.slice (some ⟨g, 0, none⟩) (n + 1) c) (b :: l) us) (hn : l.length = n) : ∃ kv us', us = kv :: us' ∧ StepsR W (.slice (some ⟨g, 2, none⟩) n (c - 1)) l us' := by
  obtain ⟨h1, h2, h3⟩ := h
  cases us with
  | nil => simp at h2
  | cons kv us' =>
    obtain ⟨A', c', e, h4, h5, -⟩ := own_form h1
    cases e
    rw [List.length_cons] at h4
    have hsc : stepCells (b :: l) (kv :: us') = .string b.1 :: kv :: stepCells l us' := rfl
    have hlen : (stepCells l us').length = l.length * 2 := by
      have := h1.1
      rw [hsc, List.length_cons, List.length_cons, List.length_cons] at this
      omega
    refine ⟨kv, us', rfl, some ⟨g, 2, none⟩, c - 1, by rw [hn], by omega, by omega, ⟨hlen, fun hp => ⟨⟨g, 2, none⟩, rfl, (h1.lt g rfl).2, fun j u hj => ?_⟩⟩, by simpa using h2, fun i st ku hi hj => ?_⟩
    · have h7 : (⟨g, 2, none⟩ : Addr).add j = ⟨g, 2 + j, none⟩ := by by_cases hj : j = 0 <;> simp [Addr.add, hj]
      rw [h7]
      have hl2 : (b :: l).length = l.length + 1 := rfl
      refine own_cell (n := l.length + 1) (by rw [hl2] at h1; rw [← hn]; rw [← hn] at h1; exact h1) (2 + j) u ?_
      rw [hsc, Nat.add_comm]
      exact hj
    · obtain ⟨A', c', rfl, b1, b2, b3⟩ := own_form (h3 (i + 1) st ku hi hj)
      exact ⟨A', c', rfl, b1, b2, b3⟩
theorem limits_first (i : Nat) : (∀ b ∈ ((ByteArray.empty, []) :: booksL i : List PStep), b.1.size ≤ 140737488355328 ∧ (∀ x ∈ b.2, x.1.size ≤ 140737488355328 ∧ x.2.size ≤ 140737488355328) ∧ b.2.length ≤ 100000000) ∧ (((ByteArray.empty, []) :: booksL i : List PStep).map fun b => b.2.length).sum = 0 := by
  constructor
  · intro b hb
    rcases List.mem_cons.1 hb with rfl | hb
    · exact ⟨Nat.zero_le _, (fun x hx => by cases hx), Nat.zero_le _⟩
    · obtain ⟨j, -, rfl⟩ := List.mem_map.1 hb
      exact ⟨(show 4 ≤ 140737488355328 by omega), (fun x hx => by cases hx), Nat.zero_le _⟩
  · rw [List.map_cons, List.sum_cons]
    unfold booksL
    rw [List.map_map]
    have : ((fun b : PStep => b.2.length) ∘ fun i => (letS i, ([] : List PKey))) = fun _ => 0 := rfl
    rw [this, sum_const]
    simp
theorem lvals_len (j : Nat) : (lvals 0 j).length = j := by unfold lvals; rw [List.length_map, List.length_range']
theorem lvals_snoc (j : Nat) : lvals 0 (j + 1) = lvals 0 j ++ [(letP j, ⟨#[]⟩)] := by
  unfold lvals
  rw [List.range'_1_concat, List.map_append, Nat.zero_add]
  rfl
theorem lvals_take {j : Nat} (h : 9 ≤ j) : (lvals 0 j).take 9 = lvals 0 9 := by
  obtain ⟨d, rfl⟩ : ∃ d, j = 9 + d := ⟨j - 9, by omega⟩
  unfold lvals
  rw [← List.map_take, ← List.range'_append_1, List.take_left' List.length_range']
theorem limits_keys {W : World} {B j c : Nat} {A : Option Addr} (h : W.ownsRow B 32 2 (.slice A j c) j (pairCells (lvals 0 j))) (h9 : 9 ≤ j) : KeysAt W W.heap.size (.slice A j c) (lvals 0 j) ∧ KeysAt W W.heap.size (.slice A 9 c) (lvals 0 9) := by
  obtain ⟨A', c', e, h1, h2, hR⟩ := own_form h
  cases e
  refine ⟨⟨A, c, by rw [lvals_len], by rw [lvals_len]; exact h1, h2, by rw [lvals_len]; exact hR⟩, ⟨A, c, by rw [lvals_len], by rw [lvals_len]; omega, h2, ?_⟩⟩
  have h3 := hR.take h9
  rw [← pairs_take, lvals_take h9] at h3
  rw [lvals_len]
  exact h3
theorem lvals_size {n j : Nat} : ∀ x ∈ lvals n j, x.1.size ≤ 140737488355328 ∧ x.2.size ≤ 140737488355328 := fun x hx => by
  obtain ⟨i, -, rfl⟩ := List.mem_map.1 hx
  exact ⟨(show 5 ≤ 140737488355328 by omega), Nat.zero_le _⟩
theorem lvals_fit1 {j : Nat} (h : j ≤ 100000) : ∀ b ∈ [((⟨#[]⟩ : ByteArray), lvals 0 j)], b.1.size ≤ 140737488355328 ∧ (∀ x ∈ b.2, x.1.size ≤ 140737488355328 ∧ x.2.size ≤ 140737488355328) ∧ b.2.length ≤ 100000000 := fun b hb => by
  rw [List.mem_singleton.1 hb]
  exact ⟨Nat.zero_le _, lvals_size, by rw [lvals_len]; omega⟩
theorem lvals_fit2 {j : Nat} (h : j ≤ 100000) : ∀ b ∈ [((⟨#[97]⟩ : ByteArray), lvals 0 j), (⟨#[98]⟩, lvals 0 9)], b.1.size ≤ 140737488355328 ∧ (∀ x ∈ b.2, x.1.size ≤ 140737488355328 ∧ x.2.size ≤ 140737488355328) ∧ b.2.length ≤ 100000000 := fun b hb => by
  rcases List.mem_cons.1 hb with rfl | hb
  · exact ⟨(show 1 ≤ 140737488355328 by omega), lvals_size, by rw [lvals_len]; omega⟩
  · rw [List.mem_singleton.1 hb]
    exact ⟨(show 1 ≤ 140737488355328 by omega), lvals_size, by rw [lvals_len]; omega⟩
theorem own_one (w : World) (t : TypeId) (x y : Value) : (w.alloc (.cells #[x, y] t)).ownsRow w.heap.size t 2 (.slice (some ⟨w.heap.size, 0, none⟩) 1 1) 1 [x, y] :=
  ⟨rfl, .inr ⟨w.heap.size, 1, #[x, y], rfl, Nat.le_refl _, (Blk.new w t #[x, y]), Nat.le_refl _, by simp [maxLen], rfl, rfl⟩⟩
set_option maxHeartbeats 32000000 in
set_option maxRecDepth 100000 in
theorem limits_walk (x y : Int) (w : World) :
    Calls Try.prog 4 #[.int .i64 x, .int .i64 y] w fun en w' => en = .returned (.bool true) ∧ Below w.heap.size w w' := by
  have HWK := Lib.hid (bwakes_any w)
  obtain ⟨i1, hi1, hy0, hy1, hy2⟩ := info_parts valueI
  obtain ⟨i2, hi2, hx0, hx1, hx2⟩ := info_parts bookI
  obtain ⟨a, ha⟩ : ∃ a : Nat, max x 0 % 4 = (a : Int) := ⟨(max x 0 % 4).toNat, by omega⟩
  obtain ⟨b, hb⟩ : ∃ b : Nat, max y 0 % 4 = (b : Int) := ⟨(max y 0 % 4).toNat, by omega⟩
  have ha3 : a ≤ 3 := by omega
  have hb3 : b ≤ 3 := by omega
  have hat : (max x 0).tmod 4 = (a : Int) := by rw [Int.tmod_eq_emod_of_nonneg (by omega)]; exact ha
  have hbt : (max y 0).tmod 4 = (b : Int) := by rw [Int.tmod_eq_emod_of_nonneg (by omega)]; exact hb
  go_enter Try.func4, Try.ntmps4
  go_upto_region 3 with (go_at_call 7; go_must (refine HWK.out.mono ?_; rintro en w1 ⟨rfl, hb1⟩; have HB1 := Lib.hid hb1; clear hb1))
  go_upto_region 4 with (fail)
  clear ha hb hat hbt
  go_upto_region 5 with (fail)
  obtain ⟨B, hB⟩ : ∃ B, w1.heap.size = B := ⟨_, rfl⟩
  have HBE := Lib.hid hB
  have HS := Lib.hid (show Below w1.heap.size w1 ((w1.alloc (.cells #[.string ⟨#[]⟩, .slice none 0 0] 30)).alloc (.cells #[.slice (some ⟨w1.heap.size, 0, none⟩) 1 1] 24)) ∧ Blk ((w1.alloc (.cells #[.string ⟨#[]⟩, .slice none 0 0] 30)).alloc (.cells #[.slice (some ⟨w1.heap.size, 0, none⟩) 1 1] 24)) (w1.heap.size + 1) 24 #[.slice (some ⟨w1.heap.size, 0, none⟩) 1 1] ∧ BunOwn ((w1.alloc (.cells #[.string ⟨#[]⟩, .slice none 0 0] 30)).alloc (.cells #[.slice (some ⟨w1.heap.size, 0, none⟩) 1 1] 24)) w1.heap.size (.slice (some ⟨w1.heap.size, 0, none⟩) 1 1) [(ByteArray.empty, [])] [.slice none 0 0] from by
    have h2 := Blk.new (w1.alloc (.cells #[.string ⟨#[]⟩, .slice none 0 0] 30)) 24 #[.slice (some ⟨w1.heap.size, 0, none⟩) 1 1]
    simp only [World.size_alloc] at h2
    have h3 := own_one w1 30 (.string ⟨#[]⟩) (.slice none 0 0)
    refine ⟨((Below.refl w1.heap.size w1).alloc (Nat.le_refl _) _).alloc (by simp) _, h2, own_more h3 ((Below.refl _ _).alloc (Nat.le_refl _) _), rfl, fun i c kv h1 h2 => ?_⟩
    match i, h1, h2 with
    | 0, h1, h2 =>
      cases h1
      cases h2
      exact World.ownsRow_nil _ _ _ _
    | i + 1, h1, h2 => cases h1)
  rw [hB] at HS ⊢
  obtain ⟨gb, hgb⟩ : ∃ gb, gb = B + 1 := ⟨_, rfl⟩
  have HGE := Lib.hid hgb
  rw [← hgb] at HS ⊢
  generalize (w1.alloc (.cells #[.string ⟨#[]⟩, .slice none 0 0] 30)).alloc (.cells #[.slice (some ⟨B, 0, none⟩) 1 1] 24) = w2 at *
  clear hgb hB
  have ha4 : (a : Int) ≤ 3 := by omega
  have hb4 : (b : Int) ≤ 3 := by omega
  go_wp2
  go_loopw [6] (fun iv W => ∃ (i : Nat) (Au : Option Addr) (cu : Nat) (us : List Value), iv = .int .i64 (i : Int) ∧ i ≤ 510 + a ∧ Below B w1 W ∧ Blk W gb 24 #[.slice Au (i + 1) cu] ∧ BunOwn W B (.slice Au (i + 1) cu) ((ByteArray.empty, []) :: booksL i) us) (fun iv _ => 510 + a - (Lib.intOf iv).toNat)
  case atStart => exact ⟨0, _, _, _, rfl, Nat.zero_le _, HS.out⟩
  case round =>
    clear HS
    obtain ⟨i, Au, cu, us, rfl, hi, hB2, hG, hO⟩ := hrel
    have HB := Lib.hid hB2
    have HGB := Lib.hid hG
    have HBO := Lib.hid hO
    clear hB2 hG hO
    have HLN := Lib.hid (show ((ByteArray.empty, []) :: booksL i : List PStep).length = i + 1 from by rw [List.length_cons, booksL_len])
    have HZB := Lib.hid (show B ≤ wr.heap.size from by have := HB.out.size; rw [HBE.out] at this; exact this)
    by_cases hlt : i < 510 + a
    · have hq : (i : Int) < 510 + (a : Int) := by omega
      have hba := ((Below.refl wr.heap.size wr).alloc (Nat.le_refl _) (.cells #[.string (letS i), .slice none 0 0] 30)).drew
      have HBA := Lib.hid (HB.out.trans (hba.mono HZB.out))
      have HGA := Lib.hid (HGB.out.below hba HGB.out.lt)
      have HBOA := Lib.hid (HBO.out.on hba)
      have HOA := Lib.hid (show ((wr.alloc (.cells #[.string (letS i), .slice none 0 0] 30)).drew).ownsRow B 30 2 (.slice Au (i + 1) cu) (i + 1) (stepCells ((ByteArray.empty, []) :: booksL i) us) from by
        have h := HBOA.out.1
        rw [HLN.out] at h
        exact h)
      have HRA := Lib.hid ((reads_new wr #[.string (letS i), .slice none 0 0] 30 2 1 rfl).drew)
      have HZA := Lib.hid (show B ≤ ((wr.alloc (.cells #[.string (letS i), .slice none 0 0] 30)).drew).heap.size from Nat.le_trans HZB.out hba.size)
      have k0 : wr.cell? ⟨gb, 0, none⟩ = some (.slice Au (i + 1) cu) := HGB.out.cell 0
      clear hba
      go_upto_region 8 with (fail)
      refine wp_region_M (fun W => W.cell? ⟨gb, 0, none⟩ = some (.slice Au (i + 1) cu)) 8 (by kernel_rfl) (by go_keep) (fun hHeld => ?_)
      refine wpAnyM_take (i := 0) (d := (some 28)) (v := ?_) rfl rfl (by kernel_rfl) (by kernel_rfl) (by kernel_rfl) (by kernel_rfl) (by kernel_rfl) (fun _ _ _ h => h) (Or.inl ⟨by rfl, ?_⟩) (by assumption) ?_
      rotate_left
      · intro w hSw
        (try dsimp only at hSw)
        go_simp
        (try with_reducible rfl)
      (try simp only [Act.put, List.setIfInBounds_toArray, List.set_cons_zero, List.set_cons_succ])
      refine wpAnyM_take (i := 1) (d := (some 29)) (v := ?_) rfl rfl (by kernel_rfl) (by kernel_rfl) (by kernel_rfl) (by kernel_rfl) (by kernel_rfl) (fun _ _ _ h => h) (Or.inl ⟨by rfl, ?_⟩) (by assumption) ?_
      rotate_left
      · intro w hSw
        (try dsimp only at hSw)
        go_simp
        (try with_reducible rfl)
      (try simp only [Act.put, List.setIfInBounds_toArray, List.set_cons_zero, List.set_cons_succ])
      refine wpAnyM_take (i := 2) (d := (some 30)) (v := ?_) rfl rfl (by kernel_rfl) (by kernel_rfl) (by kernel_rfl) (by kernel_rfl) (by kernel_rfl) (fun _ _ _ h => h) (Or.inl ⟨by rfl, ?_⟩) (by assumption) ?_
      rotate_left
      · intro w hSw
        (try dsimp only at hSw)
        go_simp
        (try with_reducible rfl)
      (try simp only [Act.put, List.setIfInBounds_toArray, List.set_cons_zero, List.set_cons_succ])
      refine wpAnyM_one (i := 3) (by kernel_rfl) ?_
      refine owe_early (i := 3) (d := (some 31)) rfl rfl (fun K hK => ?_)
      go_simp
      refine (letters_any i _ (by omega)).mono ?_
      rintro en wl ⟨rfl, rfl⟩
      refine hK.out _ _ (by go_keep) (fun hHeld => ?_)
      clear hK K
      (try simp only [Act.put, List.setIfInBounds_toArray, List.set_cons_zero, List.set_cons_succ])
      refine wpAnyM_take (i := 4) (d := (some 32)) (v := ?_) rfl rfl (by kernel_rfl) (by kernel_rfl) (by kernel_rfl) (by kernel_rfl) (by kernel_rfl) (fun _ _ _ h => h) (Or.inl ⟨by rfl, ?_⟩) (by assumption) ?_
      rotate_left
      · intro w hSw
        (try dsimp only at hSw)
        go_simp
        (try with_reducible rfl)
      (try simp only [Act.put, List.setIfInBounds_toArray, List.set_cons_zero, List.set_cons_succ])
      refine wpAnyM_one (i := 5) (by kernel_rfl) ?_
      refine owe_early (i := 5) (d := (some 33)) rfl rfl (fun K hK => ?_)
      go_simp
      refine hK.out _ _ (by go_keep) (fun hHeld => ?_)
      clear hK K
      (try simp only [Act.put, List.setIfInBounds_toArray, List.set_cons_zero, List.set_cons_succ])
      refine wpAnyM_one (i := 6) (by kernel_rfl) ?_
      refine owe_early (i := 6) (d := (some 34)) rfl rfl (fun K hK => ?_)
      refine step_append_any (by rfl) (.tmp 29) (.tmp 33) 22 (by rfl) B 30 i2 _ 2 40 Try.underlying22 hi2 hx0 hx1 hx2 rfl (by omega) (.slice Au (i + 1) cu) (i + 1) (stepCells ((ByteArray.empty, []) :: booksL i) us) (by rfl) HOA.out (wr.heap.size + 1) (some ⟨wr.heap.size, 0, none⟩) 1 1 [.string (letS i), .slice none 0 0] (by rfl) HRA.out (by simp [Value.oneCell']) (by simp only [maxLen]; omega) (by omega) HZA.out ?_
      intro v9 w9 hown9 hg9 hat9
      obtain ⟨A9, c9, rfl, -, -, -⟩ := own_form hown9
      have HP9 := Lib.hid (HBOA.out.push (letS i, []) HLN.out (World.ownsRow_nil _ _ _ _) hown9 hg9)
      have HG9 := Lib.hid (blk_stays HGA.out HOA.out (by decide) hg9)
      have HB9 := Lib.hid (HBA.out.grown hg9 HZA.out (fun k hk => (HOA.out.lt k hk).1))
      have q0 : w9.cell? ⟨gb, 0, none⟩ = some (.slice Au (i + 1) cu) := HG9.out.cell 0
      have q1 : w9.frozen? ⟨gb, 0, none⟩ = false := HG9.out.frozen 0
      clear hown9 hg9 hat9
      refine hK.out _ _ (by go_keep) (fun hHeld => ?_)
      clear hK K
      (try simp only [Act.put, List.setIfInBounds_toArray, List.set_cons_zero, List.set_cons_succ])
      refine wpAnyM_take (i := 7) (d := (some 35)) (v := ?_) rfl rfl (by kernel_rfl) (by kernel_rfl) (by kernel_rfl) (by kernel_rfl) (by kernel_rfl) (fun _ _ _ h => h) (Or.inl ⟨by rfl, ?_⟩) (by assumption) ?_
      rotate_left
      · intro w hSw
        (try dsimp only at hSw)
        go_simp
        (try with_reducible rfl)
      (try simp only [Act.put, List.setIfInBounds_toArray, List.set_cons_zero, List.set_cons_succ])
      refine wpAnyM_one (i := 8) (by kernel_rfl) ?_
      refine owe_late (i := 8) (d := none) rfl rfl (by decide) (fun K hK => ?_)
      go_simp
      refine hK.out undef _ ?_
      clear hK K
      (try simp only [Act.put, List.setIfInBounds_toArray, List.set_cons_zero, List.set_cons_succ])
      refine wpAnyM_done (by kernel_rfl) ?_ _
      (try simp only [Act.put, List.setIfInBounds_toArray, List.set_cons_zero, List.set_cons_succ])
      go_wp2
      go_roundw
      case rel => exact ⟨i + 1, _, _, _, by go_num, by omega, HB9.out.setCell (by rw [HGE.out]; exact Nat.le_succ _) _, HG9.out.set_ 0 _, by rw [books_next]; exact bunown_set HG9.out HP9.out⟩
      case measure => simp [Lib.intOf]; omega
    · have hia : i = 510 + a := by omega
      have hq : ¬ (i : Int) < 510 + (a : Int) := by omega
      have hi2 : i ≤ 513 := by omega
      have hi3 : (i : Int) ≤ 513 := by omega
      have hi4 : 510 ≤ i := by omega
      obtain ⟨g, c9, hgv, -, -⟩ := own_head HBO.out.1 (by rw [HLN.out]; omega) HBO.out.1.1
      rw [HLN.out] at hgv
      cases hgv
      obtain ⟨A9, c9, e9, hcap1, hcap2, -⟩ := own_form HBO.out.1
      rw [HLN.out] at e9 hcap1
      obtain ⟨-, -, rfl⟩ := Value.slice.inj e9
      unfold maxLen at hcap2
      have hcu1 : ¬ cu = 1 := by omega
      have HST := Lib.hid (HBO.out.steps)
      obtain ⟨kv9, us9, rfl, hst9⟩ := steps_tail HBO.out (booksL_len i)
      have HS9 := Lib.hid hst9
      have HCK := Lib.hid (And.intro (check_books1 (k := i) (by omega)) (check_books (k := i) (by omega)))
      have HZB2 := Lib.hid (show Below B w1 wr ∧ B ≤ wr.heap.size from ⟨HB.out, HZB.out⟩)
      have hcu2 : (1 : Int) ≤ (i : Int) + 1 := by omega
      have HF7 := Lib.hid (limits_first i)
      have HIA := Lib.hid hia
      clear hst9 HB HZB hcap1 hia hi hi3 hi4 hlt
      by_cases h3 : a = 3
      · have h33 : ((a : Int) == 3) = true := by simp [h3]
        have HIA2 := HIA.out
        rw [if_pos (by omega)] at HCK
        have H3 := Lib.hid h3
        clear h3 HIA2
        go_upto_region 12 with (fail)
        have hba := (Below.refl wr.heap.size wr).alloc (Nat.le_refl _) (.cells #[.int .i64 3, .int .i64 (-1)] 39)
        have HB6 := Lib.hid (show Below B w1 (wr.alloc (.cells #[.int .i64 3, .int .i64 (-1)] 39)) ∧ B ≤ (wr.alloc (.cells #[.int .i64 3, .int .i64 (-1)] 39)).heap.size from ⟨HZB2.out.1.trans (hba.mono HZB2.out.2), Nat.le_trans HZB2.out.2 hba.size⟩)
        have HG6 := Lib.hid (HGB.out.below hba HGB.out.lt)
        have HF6 := Lib.hid (Blk.new wr 39 #[.int .i64 3, .int .i64 (-1)])
        have HS6 := Lib.hid (And.intro (HST.out.more hba) (HS9.out.more hba))
        have hgl : gb < wr.heap.size := HGB.out.lt
        have HGFB := Lib.hid HZB2.out.2
        clear hba h33
        generalize wr.alloc (.cells #[.int .i64 3, .int .i64 (-1)] 39) = w6 at *
        obtain ⟨gf, hgf⟩ : ∃ gf, wr.heap.size = gf := ⟨_, rfl⟩
        rw [hgf] at HF6 hgl HGFB ⊢
        clear hgf
        have HKP := Lib.hid (show ∀ W, Below w6.heap.size w6 W → W.cell? ⟨gb, 0, none⟩ = some (.slice (some ⟨g, 0, none⟩) (i + 1) cu) ∧ W.cell? ⟨gf, 0, none⟩ = some (.int .i64 3) ∧ W.cell? ⟨gf, 1, none⟩ = some (.int .i64 (-1)) from fun W hW => ⟨(HG6.out.below hW HG6.out.lt).cell 0, (HF6.out.below hW HF6.out.lt).cell 0, (HF6.out.below hW HF6.out.lt).cell 1⟩)
        have HC1 := Lib.hid (show ∀ W, Below w6.heap.size w6 W → Calls Try.prog 11 #[.agg #[.slice (some ⟨g, 0, none⟩) (i + 1) cu]] W (fun e w' => e = .returned (.agg #[.int .i64 3, .int .i64 (-1)]) ∧ Below W.heap.size W w') from fun W hW => by
          refine (buncheck_any _ ((ByteArray.empty, []) :: booksL i) _ W (HS6.out.1.more hW) HF7.out.1 (by rw [HLN.out]; have := HIA.out; omega) (by rw [HF7.out.2]; omega)).mono ?_
          rintro e w' ⟨rfl, hb⟩
          exact ⟨by rw [HCK.out.1] <;> (try rfl), hb⟩)
        have HC2 := Lib.hid (show ∀ W, Below w6.heap.size w6 W → Calls Try.prog 11 #[.agg #[.slice (some ⟨g, 2, none⟩) i (cu - 1)]] W (fun e w' => e = .returned (.agg #[.int .i64 3, .int .i64 (-1)]) ∧ Below W.heap.size W w') from fun W hW => by
          have hs := HF7.out.2
          rw [List.map_cons, List.sum_cons] at hs
          refine (buncheck_any _ (booksL i) _ W (HS6.out.2.more hW) (fun b hb => HF7.out.1 b (List.mem_cons_of_mem _ hb)) (by rw [booksL_len]; have := HIA.out; omega) (by omega)).mono ?_
          rintro e w' ⟨rfl, hb⟩
          exact ⟨by rw [HCK.out.2] <;> (try rfl), hb⟩)
        obtain ⟨k0, y0, y1⟩ := HKP.out w6 (Below.refl _ _)
        refine wp_region_M (fun W => W.cell? ⟨gb, 0, none⟩ = some (.slice (some ⟨g, 0, none⟩) (i + 1) cu) ∧ W.cell? ⟨gf, 0, none⟩ = some (.int .i64 3) ∧ W.cell? ⟨gf, 1, none⟩ = some (.int .i64 (-1))) 13 (by kernel_rfl) (by go_keep) (fun hHeld => ?_)
        refine wpAnyM_take (i := 0) (d := (some 40)) (v := ?_) rfl rfl (by kernel_rfl) (by kernel_rfl) (by kernel_rfl) (by kernel_rfl) (by kernel_rfl) (fun _ _ _ h => h) (Or.inl ⟨by rfl, ?_⟩) (by assumption) ?_
        rotate_left
        · intro w hSw
          (try dsimp only at hSw)
          go_simp
          (try with_reducible rfl)
        (try simp only [Act.put, List.setIfInBounds_toArray, List.set_cons_zero, List.set_cons_succ])
        refine wpAnyM_take (i := 2) (d := (some 42)) (v := ?_) rfl rfl (by kernel_rfl) (by kernel_rfl) (by kernel_rfl) (by kernel_rfl) (by kernel_rfl) (fun _ _ _ h => h) (Or.inl ⟨by rfl, ?_⟩) (by assumption) ?_
        rotate_left
        · intro w hSw
          (try dsimp only at hSw)
          go_simp
          (try with_reducible rfl)
        (try simp only [Act.put, List.setIfInBounds_toArray, List.set_cons_zero, List.set_cons_succ])
        refine wpAnyM_one (i := 1) (by kernel_rfl) ?_
        refine owe_early (i := 1) (d := (some 41)) rfl rfl (fun K hK => ?_)
        go_simp
        refine (HC1.out _ ((Below.refl w6.heap.size w6).drew)).mono ?_
        rintro en w8 ⟨rfl, hb⟩
        have HB8 := Lib.hid ((((Below.refl w6.heap.size w6).drew)).trans (hb.mono (((Below.refl w6.heap.size w6).drew)).size))
        clear hb
        obtain ⟨k0, y0, y1⟩ := HKP.out w8 HB8.out
        refine hK.out _ _ (by go_keep) (fun hHeld => ?_)
        clear hK K
        (try simp only [Act.put, List.setIfInBounds_toArray, List.set_cons_zero, List.set_cons_succ])
        refine wpAnyM_take (i := 3) (d := (some 43)) (v := ?_) rfl rfl (by kernel_rfl) (by kernel_rfl) (by kernel_rfl) (by kernel_rfl) (by kernel_rfl) (fun _ _ _ h => h) (Or.inl ⟨by rfl, ?_⟩) (by assumption) ?_
        rotate_left
        · intro w hSw
          (try dsimp only at hSw)
          go_simp
          (try with_reducible rfl)
        (try simp only [Act.put, List.setIfInBounds_toArray, List.set_cons_zero, List.set_cons_succ])
        refine wpAnyM_take (i := 4) (d := (some 44)) (v := ?_) rfl rfl (by kernel_rfl) (by kernel_rfl) (by kernel_rfl) (by kernel_rfl) (by kernel_rfl) (fun _ _ _ h => h) (Or.inl ⟨by rfl, ?_⟩) (by assumption) ?_
        rotate_left
        · intro w hSw
          (try dsimp only at hSw)
          go_simp
          (try with_reducible rfl)
        (try simp only [Act.put, List.setIfInBounds_toArray, List.set_cons_zero, List.set_cons_succ])
        refine wpAnyM_take (i := 5) (d := (some 45)) (v := ?_) rfl rfl (by kernel_rfl) (by kernel_rfl) (by kernel_rfl) (by kernel_rfl) (by kernel_rfl) (fun _ _ _ h => h) (Or.inl ⟨by rfl, ?_⟩) (by assumption) ?_
        rotate_left
        · intro w hSw
          (try dsimp only at hSw)
          go_simp
          (try with_reducible rfl)
        (try simp only [Act.put, List.setIfInBounds_toArray, List.set_cons_zero, List.set_cons_succ])
        refine wpAnyM_take (i := 6) (d := (some 46)) (v := ?_) rfl rfl (by kernel_rfl) (by kernel_rfl) (by kernel_rfl) (by kernel_rfl) (by kernel_rfl) (fun _ _ _ h => h) (Or.inl ⟨by rfl, ?_⟩) (by assumption) ?_
        rotate_left
        · intro w hSw
          (try dsimp only at hSw)
          go_simp
          (try with_reducible rfl)
        (try simp only [Act.put, List.setIfInBounds_toArray, List.set_cons_zero, List.set_cons_succ])
        refine wpAnyM_take (i := 7) (d := (some 47)) (v := ?_) rfl rfl (by kernel_rfl) (by kernel_rfl) (by kernel_rfl) (by kernel_rfl) (by kernel_rfl) (fun _ _ _ h => h) (Or.inl ⟨by rfl, ?_⟩) (by assumption) ?_
        rotate_left
        · intro w hSw
          (try dsimp only at hSw)
          go_simp
          (try with_reducible rfl)
        (try simp only [Act.put, List.setIfInBounds_toArray, List.set_cons_zero, List.set_cons_succ])
        refine wpAnyM_take (i := 8) (d := (some 48)) (v := ?_) rfl rfl (by kernel_rfl) (by kernel_rfl) (by kernel_rfl) (by kernel_rfl) (by kernel_rfl) (fun _ _ _ h => h) (Or.inl ⟨by rfl, ?_⟩) (by assumption) ?_
        rotate_left
        · intro w hSw
          (try dsimp only at hSw)
          go_simp
          (try with_reducible rfl)
        (try simp only [Act.put, List.setIfInBounds_toArray, List.set_cons_zero, List.set_cons_succ])
        refine wpAnyM_take (i := 10) (d := (some 50)) (v := ?_) rfl rfl (by kernel_rfl) (by kernel_rfl) (by kernel_rfl) (by kernel_rfl) (by kernel_rfl) (fun _ _ _ h => h) (Or.inl ⟨by rfl, ?_⟩) (by assumption) ?_
        rotate_left
        · intro w hSw
          (try dsimp only at hSw)
          go_simp
          (try with_reducible rfl)
        (try simp only [Act.put, List.setIfInBounds_toArray, List.set_cons_zero, List.set_cons_succ])
        refine wpAnyM_one (i := 9) (by kernel_rfl) ?_
        refine owe_early (i := 9) (d := (some 49)) rfl rfl (fun K hK => ?_)
        go_simp
        refine (HC2.out _ HB8.out).mono ?_
        rintro en w9 ⟨rfl, hb⟩
        have HB9 := Lib.hid ((HB8.out).trans (hb.mono (HB8.out).size))
        clear hb
        obtain ⟨k0, y0, y1⟩ := HKP.out w9 HB9.out
        refine hK.out _ _ (by go_keep) (fun hHeld => ?_)
        clear hK K
        (try simp only [Act.put, List.setIfInBounds_toArray, List.set_cons_zero, List.set_cons_succ])
        refine wpAnyM_take (i := 11) (d := (some 51)) (v := ?_) rfl rfl (by kernel_rfl) (by kernel_rfl) (by kernel_rfl) (by kernel_rfl) (by kernel_rfl) (fun _ _ _ h => h) (Or.inl ⟨by rfl, ?_⟩) (by assumption) ?_
        rotate_left
        · intro w hSw
          (try dsimp only at hSw)
          go_simp
          (try with_reducible rfl)
        (try simp only [Act.put, List.setIfInBounds_toArray, List.set_cons_zero, List.set_cons_succ])
        refine wpAnyM_take (i := 12) (d := (some 52)) (v := ?_) rfl rfl (by kernel_rfl) (by kernel_rfl) (by kernel_rfl) (by kernel_rfl) (by kernel_rfl) (fun _ _ _ h => h) (Or.inl ⟨by rfl, ?_⟩) (by assumption) ?_
        rotate_left
        · intro w hSw
          (try dsimp only at hSw)
          go_simp
          (try with_reducible rfl)
        (try simp only [Act.put, List.setIfInBounds_toArray, List.set_cons_zero, List.set_cons_succ])
        refine wpAnyM_done (by kernel_rfl) ?_ _
        (try simp only [Act.put, List.setIfInBounds_toArray, List.set_cons_zero, List.set_cons_succ])
        have HB14 := Lib.hid (show Below B w1 w9 ∧ B ≤ w9.heap.size ∧ Blk w9 gf 39 #[.int .i64 3, .int .i64 (-1)] from ⟨HB6.out.1.trans (HB9.out.mono HB6.out.2), Nat.le_trans HB6.out.2 HB9.out.size, HF6.out.below HB9.out HF6.out.lt⟩)
        clear k0 y0 y1 hHeld HKP HC1 HC2 HS6 HG6 HB6 HB9
        go_upto_region 14 with (fail)
        have hba := (Below.refl w9.heap.size w9).alloc (Nat.le_refl _) (.cells #[.string ⟨#[]⟩, .slice none 0 0] 30)
        have HB15 := Lib.hid (show Below B w1 (w9.alloc (.cells #[.string ⟨#[]⟩, .slice none 0 0] 30)) ∧ B ≤ (w9.alloc (.cells #[.string ⟨#[]⟩, .slice none 0 0] 30)).heap.size ∧ Blk (w9.alloc (.cells #[.string ⟨#[]⟩, .slice none 0 0] 30)) gf 39 #[.int .i64 3, .int .i64 (-1)] ∧ Blk (w9.alloc (.cells #[.string ⟨#[]⟩, .slice none 0 0] 30)) w9.heap.size 30 #[.string ⟨#[]⟩, .slice none 0 0] from ⟨HB14.out.1.trans (hba.mono HB14.out.2.1), Nat.le_trans HB14.out.2.1 hba.size, HB14.out.2.2.alloc _, Blk.new w9 _ _⟩)
        have hgfk : ¬ gf = w9.heap.size := Nat.ne_of_lt HB14.out.2.2.lt
        have HGKB := Lib.hid HB14.out.2.1
        clear hba HB14
        go_upto_region 15 with (fail)
        generalize w9.alloc (.cells #[.string ⟨#[]⟩, .slice none 0 0] 30) = w15 at *
        obtain ⟨gk, hgk⟩ : ∃ gk, w9.heap.size = gk := ⟨_, rfl⟩
        rw [hgk] at HB15 hgfk HGKB ⊢
        clear hgk
        have HGN := Lib.hid hgfk
        clear hgfk
        go_wp2
        go_loopw [9] (fun jv W => ∃ (j : Nat) (Av : Option Addr) (cv : Nat), jv = .int .i64 (j : Int) ∧ j ≤ 16382 + b ∧ Below B w1 W ∧ B ≤ W.heap.size ∧ Blk W gf 39 #[.int .i64 3, .int .i64 (-1)] ∧ Blk W gk 30 #[.string ⟨#[]⟩, .slice Av j cv] ∧ W.ownsRow B 32 2 (.slice Av j cv) j (pairCells (lvals 0 j))) (fun jv _ => 16382 + b - (Lib.intOf jv).toNat)
        case atStart => exact ⟨0, none, 0, rfl, Nat.zero_le _, HB15.out.1, HB15.out.2.1, HB15.out.2.2.1, HB15.out.2.2.2, World.ownsRow_nil _ _ _ _⟩
        case round =>
          clear HB15
          obtain ⟨j, Av, cv, rfl, hj, hB2, hZ, hF, hG, hO⟩ := hrel
          have HB := Lib.hid (And.intro hB2 hZ)
          have HF := Lib.hid hF
          have HG := Lib.hid hG
          have HO := Lib.hid hO
          have hgkl : gk < wr.heap.size := hG.lt
          clear hB2 hZ hF hG hO
          have HJL := Lib.hid hj
          have HB3 := Lib.hid hb3
          by_cases hlt : j < 16382 + b
          · have hq : (j : Int) < 16382 + (b : Int) := by omega
            have HLJ := Lib.hid hlt
            clear hj hlt
            have hcat : (⟨#[112]⟩ : ByteArray) ++ letS j = letP j := rfl
            have hsz : (letS j).size = 4 := rfl
            have hba := ((Below.refl wr.heap.size wr).alloc (Nat.le_refl _) (.cells #[.string (letP j), .string ⟨#[]⟩] 32)).drew
            have HBA := Lib.hid (show Below B w1 ((wr.alloc (.cells #[.string (letP j), .string ⟨#[]⟩] 32)).drew) ∧ B ≤ ((wr.alloc (.cells #[.string (letP j), .string ⟨#[]⟩] 32)).drew).heap.size from ⟨HB.out.1.trans (hba.mono HB.out.2), Nat.le_trans HB.out.2 hba.size⟩)
            have HFA := Lib.hid (HF.out.below hba HF.out.lt)
            have HGA := Lib.hid (HG.out.below hba HG.out.lt)
            have HOA := Lib.hid (own_more HO.out hba)
            have HRA := Lib.hid ((reads_new wr #[.string (letP j), .string ⟨#[]⟩] 32 2 1 rfl).drew)
            have k0 : wr.cell? ⟨gk, 1, none⟩ = some (.slice Av j cv) := HG.out.cell 1
            clear hba
            go_upto_region 18 with (fail)
            refine wp_region_M (fun W => W.cell? ⟨gk, 1, none⟩ = some (.slice Av j cv)) 9 (by kernel_rfl) (by go_keep) (fun hHeld => ?_)
            refine wpAnyM_take (i := 0) (d := (some 59)) (v := ?_) rfl rfl (by kernel_rfl) (by kernel_rfl) (by kernel_rfl) (by kernel_rfl) (by kernel_rfl) (fun _ _ _ h => h) (Or.inl ⟨by rfl, ?_⟩) (by assumption) ?_
            rotate_left
            · intro w hSw
              (try dsimp only at hSw)
              go_simp
              (try with_reducible rfl)
            (try simp only [Act.put, List.setIfInBounds_toArray, List.set_cons_zero, List.set_cons_succ])
            refine wpAnyM_take (i := 1) (d := (some 60)) (v := ?_) rfl rfl (by kernel_rfl) (by kernel_rfl) (by kernel_rfl) (by kernel_rfl) (by kernel_rfl) (fun _ _ _ h => h) (Or.inl ⟨by rfl, ?_⟩) (by assumption) ?_
            rotate_left
            · intro w hSw
              (try dsimp only at hSw)
              go_simp
              (try with_reducible rfl)
            (try simp only [Act.put, List.setIfInBounds_toArray, List.set_cons_zero, List.set_cons_succ])
            refine wpAnyM_take (i := 2) (d := (some 61)) (v := ?_) rfl rfl (by kernel_rfl) (by kernel_rfl) (by kernel_rfl) (by kernel_rfl) (by kernel_rfl) (fun _ _ _ h => h) (Or.inl ⟨by rfl, ?_⟩) (by assumption) ?_
            rotate_left
            · intro w hSw
              (try dsimp only at hSw)
              go_simp
              (try with_reducible rfl)
            (try simp only [Act.put, List.setIfInBounds_toArray, List.set_cons_zero, List.set_cons_succ])
            refine wpAnyM_one (i := 3) (by kernel_rfl) ?_
            refine owe_early (i := 3) (d := (some 62)) rfl rfl (fun K hK => ?_)
            go_simp
            refine (letters_any j _ (by have := HLJ.out; have := HB3.out; omega)).mono ?_
            rintro en wl ⟨rfl, rfl⟩
            refine hK.out _ _ (by go_keep) (fun hHeld => ?_)
            clear hK K
            (try simp only [Act.put, List.setIfInBounds_toArray, List.set_cons_zero, List.set_cons_succ])
            refine wpAnyM_take (i := 4) (d := (some 63)) (v := ?_) rfl rfl (by kernel_rfl) (by kernel_rfl) (by kernel_rfl) (by kernel_rfl) (by kernel_rfl) (fun _ _ _ h => h) (Or.inl ⟨by rfl, ?_⟩) (by assumption) ?_
            rotate_left
            · intro w hSw
              (try dsimp only at hSw)
              go_simp
              (try with_reducible rfl)
            (try simp only [Act.put, List.setIfInBounds_toArray, List.set_cons_zero, List.set_cons_succ])
            refine wpAnyM_take (i := 5) (d := (some 64)) (v := ?_) rfl rfl (by kernel_rfl) (by kernel_rfl) (by kernel_rfl) (by kernel_rfl) (by kernel_rfl) (fun _ _ _ h => h) (Or.inl ⟨by rfl, ?_⟩) (by assumption) ?_
            rotate_left
            · intro w hSw
              (try dsimp only at hSw)
              go_simp
              (try with_reducible rfl)
            (try simp only [Act.put, List.setIfInBounds_toArray, List.set_cons_zero, List.set_cons_succ])
            refine wpAnyM_one (i := 6) (by kernel_rfl) ?_
            refine owe_early (i := 6) (d := (some 65)) rfl rfl (fun K hK => ?_)
            go_simp
            refine hK.out _ _ (by go_keep) (fun hHeld => ?_)
            clear hK K
            (try simp only [Act.put, List.setIfInBounds_toArray, List.set_cons_zero, List.set_cons_succ])
            refine wpAnyM_one (i := 7) (by kernel_rfl) ?_
            refine owe_early (i := 7) (d := (some 66)) rfl rfl (fun K hK => ?_)
            refine step_append_any (by rfl) (.tmp 60) (.tmp 65) 28 (by rfl) B 32 i1 _ 2 32 Try.underlying28 hi1 hy0 hy1 hy2 rfl (by omega) (.slice Av j cv) j (pairCells (lvals 0 j)) (by rfl) HOA.out (wr.heap.size + 1) (some ⟨wr.heap.size, 0, none⟩) 1 1 [.string (letP j), .string ⟨#[]⟩] (by rfl) HRA.out (by simp [Value.oneCell']) (by have := HLJ.out; have := HB3.out; simp only [maxLen]; omega) (by omega) HBA.out.2 ?_
            intro v9 w19 hown9 hg9 hat9
            obtain ⟨A9, c9, rfl, -, -, -⟩ := own_form hown9
            have HG9 := Lib.hid (blk_stays HGA.out HOA.out (by decide) hg9)
            have HF9 := Lib.hid (blk_stays HFA.out HOA.out (by decide) hg9)
            have HB9 := Lib.hid (show Below B w1 w19 ∧ B ≤ w19.heap.size from ⟨HBA.out.1.grown hg9 HBA.out.2 (fun k hk => (HOA.out.lt k hk).1), Nat.le_trans HBA.out.2 hg9.size⟩)
            have HO9 := Lib.hid (show w19.ownsRow B 32 2 (.slice A9 (j + 1) c9) (j + 1) (pairCells (lvals 0 (j + 1))) from by rw [lvals_snoc]; simp only [pairCells] at hown9 ⊢; rw [List.flatMap_append]; exact hown9)
            have q0 : w19.cell? ⟨gk, 1, none⟩ = some (.slice Av j cv) := HG9.out.cell 1
            have q1 : w19.frozen? ⟨gk, 1, none⟩ = false := HG9.out.frozen 1
            clear hown9 hg9 hat9
            refine hK.out _ _ (by go_keep) (fun hHeld => ?_)
            clear hK K
            (try simp only [Act.put, List.setIfInBounds_toArray, List.set_cons_zero, List.set_cons_succ])
            refine wpAnyM_take (i := 8) (d := (some 67)) (v := ?_) rfl rfl (by kernel_rfl) (by kernel_rfl) (by kernel_rfl) (by kernel_rfl) (by kernel_rfl) (fun _ _ _ h => h) (Or.inl ⟨by rfl, ?_⟩) (by assumption) ?_
            rotate_left
            · intro w hSw
              (try dsimp only at hSw)
              go_simp
              (try with_reducible rfl)
            (try simp only [Act.put, List.setIfInBounds_toArray, List.set_cons_zero, List.set_cons_succ])
            refine wpAnyM_one (i := 9) (by kernel_rfl) ?_
            refine owe_late (i := 9) (d := none) rfl rfl (by decide) (fun K hK => ?_)
            go_simp
            refine hK.out undef _ ?_
            clear hK K
            (try simp only [Act.put, List.setIfInBounds_toArray, List.set_cons_zero, List.set_cons_succ])
            refine wpAnyM_done (by kernel_rfl) ?_ _
            (try simp only [Act.put, List.setIfInBounds_toArray, List.set_cons_zero, List.set_cons_succ])
            have HJ1 := HLJ.out
            go_wp2
            go_roundw
            case rel => exact ⟨j + 1, _, _, by go_num, HLJ.out, HB9.out.1.setCell HGKB.out _, by simpa [World.setCell] using HB9.out.2, HF9.out.far (by simpa using HGN.out) _, HG9.out.set_ 1 _, own_stays3 HO9.out HG9.out (by decide) (grown_set w19 gk 1 _)⟩
            case measure => simp [Lib.intOf]; omega
          · have hjb : j = 16382 + b := by omega
            have hq : ¬ (j : Int) < 16382 + (b : Int) := by omega
            have HJB := Lib.hid hjb
            have HVK := Lib.hid (limits_keys HO.out (by omega))
            obtain ⟨g2, c2, hv2, -, -⟩ := own_head HO.out (by omega) HO.out.1
            cases hv2
            have hc9 : (9 : Int) ≤ (cv : Int) := by
              obtain ⟨_, _, e2, h2, -⟩ := own_form HO.out
              cases e2
              omega
            clear hj hlt hjb
            have f0 : wr.cell? ⟨gf, 0, none⟩ = some (.int .i64 3) := HF.out.cell 0
            have f1 : wr.cell? ⟨gf, 1, none⟩ = some (.int .i64 (-1)) := HF.out.cell 1
            have f2 : wr.frozen? ⟨gf, 0, none⟩ = false := HF.out.frozen 0
            have f3 : wr.frozen? ⟨gf, 1, none⟩ = false := HF.out.frozen 1
            go_upto_region 20 with (fail)
            clear f0 f1 f2 f3
            have HW := Lib.hid (show Below B w1 ((wr.setCell ⟨gf, 0, none⟩ (.int .i64 0)).setCell ⟨gf, 1, none⟩ (.int .i64 0)) ∧ Blk ((wr.setCell ⟨gf, 0, none⟩ (.int .i64 0)).setCell ⟨gf, 1, none⟩ (.int .i64 0)) gf 39 #[.int .i64 0, .int .i64 0] ∧ Blk ((wr.setCell ⟨gf, 0, none⟩ (.int .i64 0)).setCell ⟨gf, 1, none⟩ (.int .i64 0)) gk 30 #[.string ⟨#[]⟩, .slice (some ⟨g2, 0, none⟩) j cv] ∧ ((wr.setCell ⟨gf, 0, none⟩ (.int .i64 0)).setCell ⟨gf, 1, none⟩ (.int .i64 0)).ownsRow B 32 2 (.slice (some ⟨g2, 0, none⟩) j cv) j (pairCells (lvals 0 j)) from
              ⟨(HB.out.1.setCell HGFB.out _).setCell HGFB.out _, (HF.out.set_ 0 _).set_ 1 _, (HG.out.far (by simpa using fun e => HGN.out e.symm) _).far (by simpa using fun e => HGN.out e.symm) _, own_stays3 (own_stays3 HO.out HF.out (by decide) (grown_set wr gf 0 (.int .i64 0))) (HF.out.set_ 0 (.int .i64 0)) (by decide) (grown_set _ gf 1 (.int .i64 0))⟩)
            have HZ20 := Lib.hid (show B ≤ ((wr.setCell ⟨gf, 0, none⟩ (.int .i64 0)).setCell ⟨gf, 1, none⟩ (.int .i64 0)).heap.size from by simpa [World.setCell] using HB.out.2)
            clear HB HF HG HO HVK
            generalize (wr.setCell ⟨gf, 0, none⟩ (.int .i64 0)).setCell ⟨gf, 1, none⟩ (.int .i64 0) = w20 at *
            by_cases hb5 : b = 3
            · have hb6 : ((b : Int) == 3) = true := by simp [hb5]
              have hb7 : ¬ (b : Int) < 3 := by omega
              have HJ := Lib.hid (show j = 16385 from by have := HJB.out; omega)
              have f0 : w20.cell? ⟨gf, 0, none⟩ = some (.int .i64 0) := HW.out.2.1.cell 0
              have f1 : w20.cell? ⟨gf, 1, none⟩ = some (.int .i64 0) := HW.out.2.1.cell 1
              have f2 : w20.frozen? ⟨gf, 0, none⟩ = false := HW.out.2.1.frozen 0
              have f3 : w20.frozen? ⟨gf, 1, none⟩ = false := HW.out.2.1.frozen 1
              clear hb5
              go_upto_region 22 with (fail)
              clear f0 f1 f2 f3
              have HX := Lib.hid (show Below B w1 ((w20.setCell ⟨gf, 0, none⟩ (.int .i64 3)).setCell ⟨gf, 1, none⟩ (.int .i64 0)) ∧ Blk ((w20.setCell ⟨gf, 0, none⟩ (.int .i64 3)).setCell ⟨gf, 1, none⟩ (.int .i64 0)) gf 39 #[.int .i64 3, .int .i64 0] ∧ Blk ((w20.setCell ⟨gf, 0, none⟩ (.int .i64 3)).setCell ⟨gf, 1, none⟩ (.int .i64 0)) gk 30 #[.string ⟨#[]⟩, .slice (some ⟨g2, 0, none⟩) j cv] ∧ ((w20.setCell ⟨gf, 0, none⟩ (.int .i64 3)).setCell ⟨gf, 1, none⟩ (.int .i64 0)).ownsRow B 32 2 (.slice (some ⟨g2, 0, none⟩) j cv) j (pairCells (lvals 0 j)) ∧ B ≤ ((w20.setCell ⟨gf, 0, none⟩ (.int .i64 3)).setCell ⟨gf, 1, none⟩ (.int .i64 0)).heap.size from
                ⟨(HW.out.1.setCell HGFB.out _).setCell HGFB.out _, (HW.out.2.1.set_ 0 _).set_ 1 _, (HW.out.2.2.1.far (by simpa using fun e => HGN.out e.symm) _).far (by simpa using fun e => HGN.out e.symm) _, own_stays3 (own_stays3 HW.out.2.2.2 HW.out.2.1 (by decide) (grown_set w20 gf 0 (.int .i64 3))) (HW.out.2.1.set_ 0 (.int .i64 3)) (by decide) (grown_set _ gf 1 (.int .i64 0)), by simpa [World.setCell] using HZ20.out⟩)
              clear HW HZ20
              generalize (w20.setCell ⟨gf, 0, none⟩ (.int .i64 3)).setCell ⟨gf, 1, none⟩ (.int .i64 0) = w22 at *
              have y0 : w22.cell? ⟨gk, 0, none⟩ = some (.string ⟨#[]⟩) := HX.out.2.2.1.cell 0
              have y1 : w22.cell? ⟨gk, 1, none⟩ = some (.slice (some ⟨g2, 0, none⟩) j cv) := HX.out.2.2.1.cell 1
              have HR := Lib.hid (reads_new w22 #[.string ⟨#[]⟩, .slice (some ⟨g2, 0, none⟩) j cv] 30 2 1 rfl)
              have hba := (Below.refl w22.heap.size w22).alloc (Nat.le_refl _) (.cells #[.string ⟨#[]⟩, .slice (some ⟨g2, 0, none⟩) j cv] 30)
              have HK := Lib.hid (limits_keys (own_more HX.out.2.2.2.1 hba) (by have := HJ.out; omega))
              have HE := Lib.hid (show Below B w1 (w22.alloc (.cells #[.string ⟨#[]⟩, .slice (some ⟨g2, 0, none⟩) j cv] 30)) ∧ Blk (w22.alloc (.cells #[.string ⟨#[]⟩, .slice (some ⟨g2, 0, none⟩) j cv] 30)) gf 39 #[.int .i64 3, .int .i64 0] from ⟨HX.out.1.trans (hba.mono HX.out.2.2.2.2), HX.out.2.1.alloc _⟩)
              have HST := Lib.hid (show StepsR (w22.alloc (.cells #[.string ⟨#[]⟩, .slice (some ⟨g2, 0, none⟩) j cv] 30)) (.slice (some ⟨w22.heap.size, 0, none⟩) 1 1) [(⟨#[]⟩, lvals 0 j)] [.slice (some ⟨g2, 0, none⟩) j cv] from
                ⟨_, 1, rfl, Nat.le_refl _, by simp [maxLen], by rw [World.size_alloc]; exact HR.out, rfl, fun i st kv hi hj => by
                  match i, hi, hj with
                  | 0, hi, hj =>
                    cases hi
                    cases hj
                    exact HK.out.1
                  | i + 1, hi, hj => cases hi⟩)
              clear hba HX HK HR
              go_upto_region 25 with (fail)
              clear y0 y1
              generalize w22.alloc (.cells #[.string ⟨#[]⟩, .slice (some ⟨g2, 0, none⟩) j cv] 30) = w23 at *
              obtain ⟨g3, hg3⟩ : ∃ g3, w22.heap.size = g3 := ⟨_, rfl⟩
              rw [hg3] at HST ⊢
              clear hg3
              have HCQ := Lib.hid (show Calls Try.prog 11 #[.agg #[.slice (some ⟨g3, 0, none⟩) 1 1]] w23.drew (fun e w' => e = .returned (.agg #[.int .i64 3, .int .i64 0]) ∧ Below w23.heap.size w23 w') from by
                have hd := (Below.refl w23.heap.size w23).drew
                refine (buncheck_any _ [(⟨#[]⟩, lvals 0 j)] _ w23.drew (HST.out.more hd) (lvals_fit1 (by have := HJ.out; omega)) (by simp) (by simp [lvals_len]; have := HJ.out; omega)).mono ?_
                rintro e w' ⟨rfl, hb⟩
                refine ⟨?_, hd.trans hb⟩
                rw [HJ.out, show checkB [(⟨#[]⟩, lvals 0 16385)] = (3, 0) from check_full]
                try rfl)
              have y0 : w23.cell? ⟨gf, 0, none⟩ = some (.int .i64 3) := HE.out.2.cell 0
              have y1 : w23.cell? ⟨gf, 1, none⟩ = some (.int .i64 0) := HE.out.2.cell 1
              refine wp_region_M (fun W => W.cell? ⟨gf, 0, none⟩ = some (.int .i64 3) ∧ W.cell? ⟨gf, 1, none⟩ = some (.int .i64 0)) 6 (by kernel_rfl) (by go_keep) (fun hHeld => ?_)
              refine wpAnyM_take (i := 0) (d := (some 84)) (v := ?_) rfl rfl (by kernel_rfl) (by kernel_rfl) (by kernel_rfl) (by kernel_rfl) (by kernel_rfl) (fun _ _ _ h => h) (Or.inl ⟨by rfl, ?_⟩) (by assumption) ?_
              rotate_left
              · intro w hSw
                (try dsimp only at hSw)
                go_simp
                (try with_reducible rfl)
              (try simp only [Act.put, List.setIfInBounds_toArray, List.set_cons_zero, List.set_cons_succ])
              refine wpAnyM_take (i := 1) (d := (some 85)) (v := ?_) rfl rfl (by kernel_rfl) (by kernel_rfl) (by kernel_rfl) (by kernel_rfl) (by kernel_rfl) (fun _ _ _ h => h) (Or.inl ⟨by rfl, ?_⟩) (by assumption) ?_
              rotate_left
              · intro w hSw
                (try dsimp only at hSw)
                go_simp
                (try with_reducible rfl)
              (try simp only [Act.put, List.setIfInBounds_toArray, List.set_cons_zero, List.set_cons_succ])
              refine wpAnyM_take (i := 3) (d := (some 87)) (v := ?_) rfl rfl (by kernel_rfl) (by kernel_rfl) (by kernel_rfl) (by kernel_rfl) (by kernel_rfl) (fun _ _ _ h => h) (Or.inl ⟨by rfl, ?_⟩) (by assumption) ?_
              rotate_left
              · intro w hSw
                (try dsimp only at hSw)
                go_simp
                (try with_reducible rfl)
              (try simp only [Act.put, List.setIfInBounds_toArray, List.set_cons_zero, List.set_cons_succ])
              refine wpAnyM_one (i := 2) (by kernel_rfl) ?_
              refine owe_early (i := 2) (d := (some 86)) rfl rfl (fun K hK => ?_)
              go_simp
              refine HCQ.out.mono ?_
              rintro en w24 ⟨rfl, hb⟩
              have HB24 := Lib.hid hb
              clear hb
              have q0 := (HE.out.2.below HB24.out HE.out.2.lt).cell 0
              have q1 := (HE.out.2.below HB24.out HE.out.2.lt).cell 1
              refine hK.out _ _ (by go_keep) (fun hHeld => ?_)
              clear hK K
              (try simp only [Act.put, List.setIfInBounds_toArray, List.set_cons_zero, List.set_cons_succ])
              refine wpAnyM_take (i := 4) (d := (some 88)) (v := ?_) rfl rfl (by kernel_rfl) (by kernel_rfl) (by kernel_rfl) (by kernel_rfl) (by kernel_rfl) (fun _ _ _ h => h) (Or.inl ⟨by rfl, ?_⟩) (by assumption) ?_
              rotate_left
              · intro w hSw
                (try dsimp only at hSw)
                go_simp
                (try with_reducible rfl)
              (try simp only [Act.put, List.setIfInBounds_toArray, List.set_cons_zero, List.set_cons_succ])
              refine wpAnyM_take (i := 5) (d := (some 4)) (v := ?_) rfl rfl (by kernel_rfl) (by kernel_rfl) (by kernel_rfl) (by kernel_rfl) (by kernel_rfl) (fun _ _ _ h => h) (Or.inl ⟨by rfl, ?_⟩) (by assumption) ?_
              rotate_left
              · intro w hSw
                (try dsimp only at hSw)
                go_simp
                (try with_reducible rfl)
              (try simp only [Act.put, List.setIfInBounds_toArray, List.set_cons_zero, List.set_cons_succ])
              refine wpAnyM_done (by kernel_rfl) ?_ _
              (try simp only [Act.put, List.setIfInBounds_toArray, List.set_cons_zero, List.set_cons_succ])
              go_wp2
              go_ret
              exact ⟨rfl, HB1.out.trans ((show Below w1.heap.size w1 w24 from by rw [HBE.out]; exact HE.out.1.trans (HB24.out.mono (by have := HE.out.2.lt; have := HGFB.out; omega))).mono HB1.out.size)⟩
            · have hb6 : ((b : Int) == 3) = false := by
                have : ¬ (b : Int) = 3 := by omega
                simpa using this
              have hb7 : (b : Int) < 3 := by omega
              have HJ := Lib.hid (show 9 ≤ j ∧ j ≤ 16384 from by have := HJB.out; omega)
              clear hb5
              have y0 : w20.cell? ⟨gk, 0, none⟩ = some (.string ⟨#[]⟩) := HW.out.2.2.1.cell 0
              have y1 : w20.cell? ⟨gk, 1, none⟩ = some (.slice (some ⟨g2, 0, none⟩) j cv) := HW.out.2.2.1.cell 1
              have hba := (Below.refl w20.heap.size w20).alloc (Nat.le_refl _) (.cells #[.string ⟨#[]⟩, .slice (some ⟨g2, 0, none⟩) j cv] 30)
              have HX := Lib.hid (show Below B w1 (w20.alloc (.cells #[.string ⟨#[]⟩, .slice (some ⟨g2, 0, none⟩) j cv] 30)) ∧ Blk (w20.alloc (.cells #[.string ⟨#[]⟩, .slice (some ⟨g2, 0, none⟩) j cv] 30)) gf 39 #[.int .i64 0, .int .i64 0] ∧ Blk (w20.alloc (.cells #[.string ⟨#[]⟩, .slice (some ⟨g2, 0, none⟩) j cv] 30)) gk 30 #[.string ⟨#[]⟩, .slice (some ⟨g2, 0, none⟩) j cv] ∧ (w20.alloc (.cells #[.string ⟨#[]⟩, .slice (some ⟨g2, 0, none⟩) j cv] 30)).ownsRow B 32 2 (.slice (some ⟨g2, 0, none⟩) j cv) j (pairCells (lvals 0 j)) ∧ B ≤ (w20.alloc (.cells #[.string ⟨#[]⟩, .slice (some ⟨g2, 0, none⟩) j cv] 30)).heap.size from ⟨HW.out.1.trans (hba.mono HZ20.out), HW.out.2.1.alloc _, HW.out.2.2.1.alloc _, own_more HW.out.2.2.2 hba, Nat.le_trans HZ20.out hba.size⟩)
              clear hba HW HZ20
              go_upto_region 24 with (fail)
              clear y0 y1
              generalize w20.alloc (.cells #[.string ⟨#[]⟩, .slice (some ⟨g2, 0, none⟩) j cv] 30) = w22 at *
              have y1 : w22.cell? ⟨gk, 1, none⟩ = some (.slice (some ⟨g2, 0, none⟩) j cv) := HX.out.2.2.1.cell 1
              have HR := Lib.hid (reads_new w22 #[.string ⟨#[97]⟩, .slice (some ⟨g2, 0, none⟩) j cv, .string ⟨#[98]⟩, .slice (some ⟨g2, 0, none⟩) 9 cv] 30 2 2 rfl)
              have hba := ((Below.refl w22.heap.size w22).alloc (Nat.le_refl _) (.cells #[.string ⟨#[97]⟩, .slice (some ⟨g2, 0, none⟩) j cv, .string ⟨#[98]⟩, .slice (some ⟨g2, 0, none⟩) 9 cv] 30)).drew
              have HK := Lib.hid (limits_keys (own_more HX.out.2.2.2.1 hba) HJ.out.1)
              have HE := Lib.hid (show Below B w1 (w22.alloc (.cells #[.string ⟨#[97]⟩, .slice (some ⟨g2, 0, none⟩) j cv, .string ⟨#[98]⟩, .slice (some ⟨g2, 0, none⟩) 9 cv] 30)).drew ∧ Blk (w22.alloc (.cells #[.string ⟨#[97]⟩, .slice (some ⟨g2, 0, none⟩) j cv, .string ⟨#[98]⟩, .slice (some ⟨g2, 0, none⟩) 9 cv] 30)).drew gf 39 #[.int .i64 0, .int .i64 0] from ⟨HX.out.1.trans (hba.mono HX.out.2.2.2.2), HX.out.2.1.below hba HX.out.2.1.lt⟩)
              have HST := Lib.hid (show StepsR (w22.alloc (.cells #[.string ⟨#[97]⟩, .slice (some ⟨g2, 0, none⟩) j cv, .string ⟨#[98]⟩, .slice (some ⟨g2, 0, none⟩) 9 cv] 30)).drew (.slice (some ⟨w22.heap.size, 0, none⟩) 2 2) [(⟨#[97]⟩, lvals 0 j), (⟨#[98]⟩, lvals 0 9)] [.slice (some ⟨g2, 0, none⟩) j cv, .slice (some ⟨g2, 0, none⟩) 9 cv] from
                ⟨_, 2, rfl, Nat.le_refl _, by simp [maxLen], (show Reads _ (w22.alloc _).heap.size _ _ _ _ from by rw [World.size_alloc]; exact HR.out.drew), rfl, fun i st kv hi hj => by
                  match i, hi, hj with
                  | 0, hi, hj =>
                    cases hi
                    cases hj
                    exact HK.out.1
                  | 1, hi, hj =>
                    cases hi
                    cases hj
                    exact HK.out.2
                  | i + 2, hi, hj => cases hi⟩)
              clear hba HX HK HR
              refine wp_region_M (fun W => W.cell? ⟨gk, 1, none⟩ = some (.slice (some ⟨g2, 0, none⟩) j cv)) 7 (by kernel_rfl) (by go_keep) (fun hHeld => ?_)
              refine wpAnyM_take (i := 0) (d := (some 76)) (v := ?_) rfl rfl (by kernel_rfl) (by kernel_rfl) (by kernel_rfl) (by kernel_rfl) (by kernel_rfl) (fun _ _ _ h => h) (Or.inl ⟨by rfl, ?_⟩) (by assumption) ?_
              rotate_left
              · intro w hSw
                (try dsimp only at hSw)
                go_simp
                (try with_reducible rfl)
              (try simp only [Act.put, List.setIfInBounds_toArray, List.set_cons_zero, List.set_cons_succ])
              refine wpAnyM_take (i := 1) (d := (some 77)) (v := ?_) rfl rfl (by kernel_rfl) (by kernel_rfl) (by kernel_rfl) (by kernel_rfl) (by kernel_rfl) (fun _ _ _ h => h) (Or.inl ⟨by rfl, ?_⟩) (by assumption) ?_
              rotate_left
              · intro w hSw
                (try dsimp only at hSw)
                go_simp
                (try with_reducible rfl)
              (try simp only [Act.put, List.setIfInBounds_toArray, List.set_cons_zero, List.set_cons_succ])
              refine wpAnyM_take (i := 2) (d := (some 78)) (v := ?_) rfl rfl (by kernel_rfl) (by kernel_rfl) (by kernel_rfl) (by kernel_rfl) (by kernel_rfl) (fun _ _ _ h => h) (Or.inl ⟨by rfl, ?_⟩) (by assumption) ?_
              rotate_left
              · intro w hSw
                (try dsimp only at hSw)
                go_simp
                (try with_reducible rfl)
              (try simp only [Act.put, List.setIfInBounds_toArray, List.set_cons_zero, List.set_cons_succ])
              refine wpAnyM_take (i := 3) (d := (some 79)) (v := ?_) rfl rfl (by kernel_rfl) (by kernel_rfl) (by kernel_rfl) (by kernel_rfl) (by kernel_rfl) (fun _ _ _ h => h) (Or.inl ⟨by rfl, ?_⟩) (by assumption) ?_
              rotate_left
              · intro w hSw
                (try dsimp only at hSw)
                go_simp
                (try with_reducible rfl)
              (try simp only [Act.put, List.setIfInBounds_toArray, List.set_cons_zero, List.set_cons_succ])
              refine wpAnyM_take (i := 4) (d := (some 80)) (v := ?_) rfl rfl (by kernel_rfl) (by kernel_rfl) (by kernel_rfl) (by kernel_rfl) (by kernel_rfl) (fun _ _ _ h => h) (Or.inl ⟨by rfl, ?_⟩) (by assumption) ?_
              rotate_left
              · intro w hSw
                (try dsimp only at hSw)
                go_simp
                (try with_reducible rfl)
              (try simp only [Act.put, List.setIfInBounds_toArray, List.set_cons_zero, List.set_cons_succ])
              refine wpAnyM_take (i := 5) (d := (some 81)) (v := ?_) rfl rfl (by kernel_rfl) (by kernel_rfl) (by kernel_rfl) (by kernel_rfl) (by kernel_rfl) (fun _ _ _ h => h) (Or.inl ⟨by rfl, ?_⟩) (by assumption) ?_
              rotate_left
              · intro w hSw
                (try dsimp only at hSw)
                go_simp
                (try with_reducible rfl)
              (try simp only [Act.put, List.setIfInBounds_toArray, List.set_cons_zero, List.set_cons_succ])
              refine wpAnyM_take (i := 6) (d := (some 82)) (v := ?_) rfl rfl (by kernel_rfl) (by kernel_rfl) (by kernel_rfl) (by kernel_rfl) (by kernel_rfl) (fun _ _ _ h => h) (Or.inl ⟨by rfl, ?_⟩) (by assumption) ?_
              rotate_left
              · intro w hSw
                (try dsimp only at hSw)
                go_simp
                (try with_reducible rfl)
              (try simp only [Act.put, List.setIfInBounds_toArray, List.set_cons_zero, List.set_cons_succ])
              refine wpAnyM_one (i := 7) (by kernel_rfl) ?_
              refine owe_late (i := 7) (d := (some 83)) rfl rfl (by decide) (fun K hK => ?_)
              go_simp
              refine hK.out _ _ ?_
              clear hK K
              (try simp only [Act.put, List.setIfInBounds_toArray, List.set_cons_zero, List.set_cons_succ])
              refine wpAnyM_one (i := 8) (by kernel_rfl) ?_
              refine owe_late (i := 8) (d := (some 10)) rfl rfl (by decide) (fun K hK => ?_)
              go_simp
              refine hK.out _ _ ?_
              clear hK K
              (try simp only [Act.put, List.setIfInBounds_toArray, List.set_cons_zero, List.set_cons_succ])
              refine wpAnyM_done (by kernel_rfl) ?_ _
              (try simp only [Act.put, List.setIfInBounds_toArray, List.set_cons_zero, List.set_cons_succ])
              clear y1
              go_upto_region 25 with (fail)
              generalize (w22.alloc (.cells #[.string ⟨#[97]⟩, .slice (some ⟨g2, 0, none⟩) j cv, .string ⟨#[98]⟩, .slice (some ⟨g2, 0, none⟩) 9 cv] 30)).drew = w23 at *
              obtain ⟨g3, hg3⟩ : ∃ g3, w22.heap.size = g3 := ⟨_, rfl⟩
              rw [hg3] at HST ⊢
              clear hg3
              have HCQ := Lib.hid (show Calls Try.prog 11 #[.agg #[.slice (some ⟨g3, 0, none⟩) 2 2]] w23.drew (fun e w' => e = .returned (.agg #[.int .i64 0, .int .i64 0]) ∧ Below w23.heap.size w23 w') from by
                have hd := (Below.refl w23.heap.size w23).drew
                refine (buncheck_any _ [(⟨#[97]⟩, lvals 0 j), (⟨#[98]⟩, lvals 0 9)] _ w23.drew (HST.out.more hd) (lvals_fit2 (by have := HJ.out; omega)) (by simp) (by simp [lvals_len]; have := HJ.out; omega)).mono ?_
                rintro e w' ⟨rfl, hb⟩
                refine ⟨?_, hd.trans hb⟩
                rw [check_two HJ.out.1 HJ.out.2]
                try rfl)
              have y0 : w23.cell? ⟨gf, 0, none⟩ = some (.int .i64 0) := HE.out.2.cell 0
              have y1 : w23.cell? ⟨gf, 1, none⟩ = some (.int .i64 0) := HE.out.2.cell 1
              refine wp_region_M (fun W => W.cell? ⟨gf, 0, none⟩ = some (.int .i64 0) ∧ W.cell? ⟨gf, 1, none⟩ = some (.int .i64 0)) 6 (by kernel_rfl) (by go_keep) (fun hHeld => ?_)
              refine wpAnyM_take (i := 0) (d := (some 84)) (v := ?_) rfl rfl (by kernel_rfl) (by kernel_rfl) (by kernel_rfl) (by kernel_rfl) (by kernel_rfl) (fun _ _ _ h => h) (Or.inl ⟨by rfl, ?_⟩) (by assumption) ?_
              rotate_left
              · intro w hSw
                (try dsimp only at hSw)
                go_simp
                (try with_reducible rfl)
              (try simp only [Act.put, List.setIfInBounds_toArray, List.set_cons_zero, List.set_cons_succ])
              refine wpAnyM_take (i := 1) (d := (some 85)) (v := ?_) rfl rfl (by kernel_rfl) (by kernel_rfl) (by kernel_rfl) (by kernel_rfl) (by kernel_rfl) (fun _ _ _ h => h) (Or.inl ⟨by rfl, ?_⟩) (by assumption) ?_
              rotate_left
              · intro w hSw
                (try dsimp only at hSw)
                go_simp
                (try with_reducible rfl)
              (try simp only [Act.put, List.setIfInBounds_toArray, List.set_cons_zero, List.set_cons_succ])
              refine wpAnyM_take (i := 3) (d := (some 87)) (v := ?_) rfl rfl (by kernel_rfl) (by kernel_rfl) (by kernel_rfl) (by kernel_rfl) (by kernel_rfl) (fun _ _ _ h => h) (Or.inl ⟨by rfl, ?_⟩) (by assumption) ?_
              rotate_left
              · intro w hSw
                (try dsimp only at hSw)
                go_simp
                (try with_reducible rfl)
              (try simp only [Act.put, List.setIfInBounds_toArray, List.set_cons_zero, List.set_cons_succ])
              refine wpAnyM_one (i := 2) (by kernel_rfl) ?_
              refine owe_early (i := 2) (d := (some 86)) rfl rfl (fun K hK => ?_)
              go_simp
              refine HCQ.out.mono ?_
              rintro en w24 ⟨rfl, hb⟩
              have HB24 := Lib.hid hb
              clear hb
              have q0 := (HE.out.2.below HB24.out HE.out.2.lt).cell 0
              have q1 := (HE.out.2.below HB24.out HE.out.2.lt).cell 1
              refine hK.out _ _ (by go_keep) (fun hHeld => ?_)
              clear hK K
              (try simp only [Act.put, List.setIfInBounds_toArray, List.set_cons_zero, List.set_cons_succ])
              refine wpAnyM_take (i := 4) (d := (some 88)) (v := ?_) rfl rfl (by kernel_rfl) (by kernel_rfl) (by kernel_rfl) (by kernel_rfl) (by kernel_rfl) (fun _ _ _ h => h) (Or.inl ⟨by rfl, ?_⟩) (by assumption) ?_
              rotate_left
              · intro w hSw
                (try dsimp only at hSw)
                go_simp
                (try with_reducible rfl)
              (try simp only [Act.put, List.setIfInBounds_toArray, List.set_cons_zero, List.set_cons_succ])
              refine wpAnyM_take (i := 5) (d := (some 4)) (v := ?_) rfl rfl (by kernel_rfl) (by kernel_rfl) (by kernel_rfl) (by kernel_rfl) (by kernel_rfl) (fun _ _ _ h => h) (Or.inl ⟨by rfl, ?_⟩) (by assumption) ?_
              rotate_left
              · intro w hSw
                (try dsimp only at hSw)
                go_simp
                (try with_reducible rfl)
              (try simp only [Act.put, List.setIfInBounds_toArray, List.set_cons_zero, List.set_cons_succ])
              refine wpAnyM_done (by kernel_rfl) ?_ _
              (try simp only [Act.put, List.setIfInBounds_toArray, List.set_cons_zero, List.set_cons_succ])
              go_wp2
              go_ret
              exact ⟨rfl, HB1.out.trans ((show Below w1.heap.size w1 w24 from by rw [HBE.out]; exact HE.out.1.trans (HB24.out.mono (by have := HE.out.2.lt; have := HGFB.out; omega))).mono HB1.out.size)⟩
      · have h33 : ((a : Int) == 3) = false := by
          have : ¬ (a : Int) = 3 := by omega
          simpa using this
        have HIA2 := HIA.out
        rw [if_neg (by omega)] at HCK
        have H3 := Lib.hid h3
        clear h3 HIA2
        go_upto_region 12 with (fail)
        have hba := (Below.refl wr.heap.size wr).alloc (Nat.le_refl _) (.cells #[.int .i64 0, .int .i64 0] 39)
        have HB6 := Lib.hid (show Below B w1 (wr.alloc (.cells #[.int .i64 0, .int .i64 0] 39)) ∧ B ≤ (wr.alloc (.cells #[.int .i64 0, .int .i64 0] 39)).heap.size from ⟨HZB2.out.1.trans (hba.mono HZB2.out.2), Nat.le_trans HZB2.out.2 hba.size⟩)
        have HG6 := Lib.hid (HGB.out.below hba HGB.out.lt)
        have HF6 := Lib.hid (Blk.new wr 39 #[.int .i64 0, .int .i64 0])
        have HS6 := Lib.hid (And.intro (HST.out.more hba) (HS9.out.more hba))
        have hgl : gb < wr.heap.size := HGB.out.lt
        have HGFB := Lib.hid HZB2.out.2
        clear hba h33
        generalize wr.alloc (.cells #[.int .i64 0, .int .i64 0] 39) = w6 at *
        obtain ⟨gf, hgf⟩ : ∃ gf, wr.heap.size = gf := ⟨_, rfl⟩
        rw [hgf] at HF6 hgl HGFB ⊢
        clear hgf
        have HKP := Lib.hid (show ∀ W, Below w6.heap.size w6 W → W.cell? ⟨gb, 0, none⟩ = some (.slice (some ⟨g, 0, none⟩) (i + 1) cu) ∧ W.cell? ⟨gf, 0, none⟩ = some (.int .i64 0) ∧ W.cell? ⟨gf, 1, none⟩ = some (.int .i64 0) from fun W hW => ⟨(HG6.out.below hW HG6.out.lt).cell 0, (HF6.out.below hW HF6.out.lt).cell 0, (HF6.out.below hW HF6.out.lt).cell 1⟩)
        have HC1 := Lib.hid (show ∀ W, Below w6.heap.size w6 W → Calls Try.prog 11 #[.agg #[.slice (some ⟨g, 0, none⟩) (i + 1) cu]] W (fun e w' => e = .returned (.agg #[.int .i64 0, .int .i64 0]) ∧ Below W.heap.size W w') from fun W hW => by
          refine (buncheck_any _ ((ByteArray.empty, []) :: booksL i) _ W (HS6.out.1.more hW) HF7.out.1 (by rw [HLN.out]; have := HIA.out; omega) (by rw [HF7.out.2]; omega)).mono ?_
          rintro e w' ⟨rfl, hb⟩
          exact ⟨by rw [HCK.out.1] <;> (try rfl), hb⟩)
        have HC2 := Lib.hid (show ∀ W, Below w6.heap.size w6 W → Calls Try.prog 11 #[.agg #[.slice (some ⟨g, 2, none⟩) i (cu - 1)]] W (fun e w' => e = .returned (.agg #[.int .i64 0, .int .i64 0]) ∧ Below W.heap.size W w') from fun W hW => by
          have hs := HF7.out.2
          rw [List.map_cons, List.sum_cons] at hs
          refine (buncheck_any _ (booksL i) _ W (HS6.out.2.more hW) (fun b hb => HF7.out.1 b (List.mem_cons_of_mem _ hb)) (by rw [booksL_len]; have := HIA.out; omega) (by omega)).mono ?_
          rintro e w' ⟨rfl, hb⟩
          exact ⟨by rw [HCK.out.2] <;> (try rfl), hb⟩)
        obtain ⟨k0, y0, y1⟩ := HKP.out w6 (Below.refl _ _)
        refine wp_region_M (fun W => W.cell? ⟨gb, 0, none⟩ = some (.slice (some ⟨g, 0, none⟩) (i + 1) cu) ∧ W.cell? ⟨gf, 0, none⟩ = some (.int .i64 0) ∧ W.cell? ⟨gf, 1, none⟩ = some (.int .i64 0)) 13 (by kernel_rfl) (by go_keep) (fun hHeld => ?_)
        refine wpAnyM_take (i := 0) (d := (some 40)) (v := ?_) rfl rfl (by kernel_rfl) (by kernel_rfl) (by kernel_rfl) (by kernel_rfl) (by kernel_rfl) (fun _ _ _ h => h) (Or.inl ⟨by rfl, ?_⟩) (by assumption) ?_
        rotate_left
        · intro w hSw
          (try dsimp only at hSw)
          go_simp
          (try with_reducible rfl)
        (try simp only [Act.put, List.setIfInBounds_toArray, List.set_cons_zero, List.set_cons_succ])
        refine wpAnyM_take (i := 2) (d := (some 42)) (v := ?_) rfl rfl (by kernel_rfl) (by kernel_rfl) (by kernel_rfl) (by kernel_rfl) (by kernel_rfl) (fun _ _ _ h => h) (Or.inl ⟨by rfl, ?_⟩) (by assumption) ?_
        rotate_left
        · intro w hSw
          (try dsimp only at hSw)
          go_simp
          (try with_reducible rfl)
        (try simp only [Act.put, List.setIfInBounds_toArray, List.set_cons_zero, List.set_cons_succ])
        refine wpAnyM_one (i := 1) (by kernel_rfl) ?_
        refine owe_early (i := 1) (d := (some 41)) rfl rfl (fun K hK => ?_)
        go_simp
        refine (HC1.out _ ((Below.refl w6.heap.size w6).drew)).mono ?_
        rintro en w8 ⟨rfl, hb⟩
        have HB8 := Lib.hid ((((Below.refl w6.heap.size w6).drew)).trans (hb.mono (((Below.refl w6.heap.size w6).drew)).size))
        clear hb
        obtain ⟨k0, y0, y1⟩ := HKP.out w8 HB8.out
        refine hK.out _ _ (by go_keep) (fun hHeld => ?_)
        clear hK K
        (try simp only [Act.put, List.setIfInBounds_toArray, List.set_cons_zero, List.set_cons_succ])
        refine wpAnyM_take (i := 3) (d := (some 43)) (v := ?_) rfl rfl (by kernel_rfl) (by kernel_rfl) (by kernel_rfl) (by kernel_rfl) (by kernel_rfl) (fun _ _ _ h => h) (Or.inl ⟨by rfl, ?_⟩) (by assumption) ?_
        rotate_left
        · intro w hSw
          (try dsimp only at hSw)
          go_simp
          (try with_reducible rfl)
        (try simp only [Act.put, List.setIfInBounds_toArray, List.set_cons_zero, List.set_cons_succ])
        refine wpAnyM_take (i := 4) (d := (some 44)) (v := ?_) rfl rfl (by kernel_rfl) (by kernel_rfl) (by kernel_rfl) (by kernel_rfl) (by kernel_rfl) (fun _ _ _ h => h) (Or.inl ⟨by rfl, ?_⟩) (by assumption) ?_
        rotate_left
        · intro w hSw
          (try dsimp only at hSw)
          go_simp
          (try with_reducible rfl)
        (try simp only [Act.put, List.setIfInBounds_toArray, List.set_cons_zero, List.set_cons_succ])
        refine wpAnyM_take (i := 5) (d := (some 45)) (v := ?_) rfl rfl (by kernel_rfl) (by kernel_rfl) (by kernel_rfl) (by kernel_rfl) (by kernel_rfl) (fun _ _ _ h => h) (Or.inl ⟨by rfl, ?_⟩) (by assumption) ?_
        rotate_left
        · intro w hSw
          (try dsimp only at hSw)
          go_simp
          (try with_reducible rfl)
        (try simp only [Act.put, List.setIfInBounds_toArray, List.set_cons_zero, List.set_cons_succ])
        refine wpAnyM_take (i := 6) (d := (some 46)) (v := ?_) rfl rfl (by kernel_rfl) (by kernel_rfl) (by kernel_rfl) (by kernel_rfl) (by kernel_rfl) (fun _ _ _ h => h) (Or.inl ⟨by rfl, ?_⟩) (by assumption) ?_
        rotate_left
        · intro w hSw
          (try dsimp only at hSw)
          go_simp
          (try with_reducible rfl)
        (try simp only [Act.put, List.setIfInBounds_toArray, List.set_cons_zero, List.set_cons_succ])
        refine wpAnyM_take (i := 7) (d := (some 47)) (v := ?_) rfl rfl (by kernel_rfl) (by kernel_rfl) (by kernel_rfl) (by kernel_rfl) (by kernel_rfl) (fun _ _ _ h => h) (Or.inl ⟨by rfl, ?_⟩) (by assumption) ?_
        rotate_left
        · intro w hSw
          (try dsimp only at hSw)
          go_simp
          (try with_reducible rfl)
        (try simp only [Act.put, List.setIfInBounds_toArray, List.set_cons_zero, List.set_cons_succ])
        refine wpAnyM_take (i := 8) (d := (some 48)) (v := ?_) rfl rfl (by kernel_rfl) (by kernel_rfl) (by kernel_rfl) (by kernel_rfl) (by kernel_rfl) (fun _ _ _ h => h) (Or.inl ⟨by rfl, ?_⟩) (by assumption) ?_
        rotate_left
        · intro w hSw
          (try dsimp only at hSw)
          go_simp
          (try with_reducible rfl)
        (try simp only [Act.put, List.setIfInBounds_toArray, List.set_cons_zero, List.set_cons_succ])
        refine wpAnyM_take (i := 10) (d := (some 50)) (v := ?_) rfl rfl (by kernel_rfl) (by kernel_rfl) (by kernel_rfl) (by kernel_rfl) (by kernel_rfl) (fun _ _ _ h => h) (Or.inl ⟨by rfl, ?_⟩) (by assumption) ?_
        rotate_left
        · intro w hSw
          (try dsimp only at hSw)
          go_simp
          (try with_reducible rfl)
        (try simp only [Act.put, List.setIfInBounds_toArray, List.set_cons_zero, List.set_cons_succ])
        refine wpAnyM_one (i := 9) (by kernel_rfl) ?_
        refine owe_early (i := 9) (d := (some 49)) rfl rfl (fun K hK => ?_)
        go_simp
        refine (HC2.out _ HB8.out).mono ?_
        rintro en w9 ⟨rfl, hb⟩
        have HB9 := Lib.hid ((HB8.out).trans (hb.mono (HB8.out).size))
        clear hb
        obtain ⟨k0, y0, y1⟩ := HKP.out w9 HB9.out
        refine hK.out _ _ (by go_keep) (fun hHeld => ?_)
        clear hK K
        (try simp only [Act.put, List.setIfInBounds_toArray, List.set_cons_zero, List.set_cons_succ])
        refine wpAnyM_take (i := 11) (d := (some 51)) (v := ?_) rfl rfl (by kernel_rfl) (by kernel_rfl) (by kernel_rfl) (by kernel_rfl) (by kernel_rfl) (fun _ _ _ h => h) (Or.inl ⟨by rfl, ?_⟩) (by assumption) ?_
        rotate_left
        · intro w hSw
          (try dsimp only at hSw)
          go_simp
          (try with_reducible rfl)
        (try simp only [Act.put, List.setIfInBounds_toArray, List.set_cons_zero, List.set_cons_succ])
        refine wpAnyM_take (i := 12) (d := (some 52)) (v := ?_) rfl rfl (by kernel_rfl) (by kernel_rfl) (by kernel_rfl) (by kernel_rfl) (by kernel_rfl) (fun _ _ _ h => h) (Or.inl ⟨by rfl, ?_⟩) (by assumption) ?_
        rotate_left
        · intro w hSw
          (try dsimp only at hSw)
          go_simp
          (try with_reducible rfl)
        (try simp only [Act.put, List.setIfInBounds_toArray, List.set_cons_zero, List.set_cons_succ])
        refine wpAnyM_done (by kernel_rfl) ?_ _
        (try simp only [Act.put, List.setIfInBounds_toArray, List.set_cons_zero, List.set_cons_succ])
        have HB14 := Lib.hid (show Below B w1 w9 ∧ B ≤ w9.heap.size ∧ Blk w9 gf 39 #[.int .i64 0, .int .i64 0] from ⟨HB6.out.1.trans (HB9.out.mono HB6.out.2), Nat.le_trans HB6.out.2 HB9.out.size, HF6.out.below HB9.out HF6.out.lt⟩)
        clear k0 y0 y1 hHeld HKP HC1 HC2 HS6 HG6 HB6 HB9
        go_upto_region 14 with (fail)
        have hba := (Below.refl w9.heap.size w9).alloc (Nat.le_refl _) (.cells #[.string ⟨#[]⟩, .slice none 0 0] 30)
        have HB15 := Lib.hid (show Below B w1 (w9.alloc (.cells #[.string ⟨#[]⟩, .slice none 0 0] 30)) ∧ B ≤ (w9.alloc (.cells #[.string ⟨#[]⟩, .slice none 0 0] 30)).heap.size ∧ Blk (w9.alloc (.cells #[.string ⟨#[]⟩, .slice none 0 0] 30)) gf 39 #[.int .i64 0, .int .i64 0] ∧ Blk (w9.alloc (.cells #[.string ⟨#[]⟩, .slice none 0 0] 30)) w9.heap.size 30 #[.string ⟨#[]⟩, .slice none 0 0] from ⟨HB14.out.1.trans (hba.mono HB14.out.2.1), Nat.le_trans HB14.out.2.1 hba.size, HB14.out.2.2.alloc _, Blk.new w9 _ _⟩)
        have hgfk : ¬ gf = w9.heap.size := Nat.ne_of_lt HB14.out.2.2.lt
        have HGKB := Lib.hid HB14.out.2.1
        clear hba HB14
        go_upto_region 15 with (fail)
        generalize w9.alloc (.cells #[.string ⟨#[]⟩, .slice none 0 0] 30) = w15 at *
        obtain ⟨gk, hgk⟩ : ∃ gk, w9.heap.size = gk := ⟨_, rfl⟩
        rw [hgk] at HB15 hgfk HGKB ⊢
        clear hgk
        have HGN := Lib.hid hgfk
        clear hgfk
        go_wp2
        go_loopw [9] (fun jv W => ∃ (j : Nat) (Av : Option Addr) (cv : Nat), jv = .int .i64 (j : Int) ∧ j ≤ 16382 + b ∧ Below B w1 W ∧ B ≤ W.heap.size ∧ Blk W gf 39 #[.int .i64 0, .int .i64 0] ∧ Blk W gk 30 #[.string ⟨#[]⟩, .slice Av j cv] ∧ W.ownsRow B 32 2 (.slice Av j cv) j (pairCells (lvals 0 j))) (fun jv _ => 16382 + b - (Lib.intOf jv).toNat)
        case atStart => exact ⟨0, none, 0, rfl, Nat.zero_le _, HB15.out.1, HB15.out.2.1, HB15.out.2.2.1, HB15.out.2.2.2, World.ownsRow_nil _ _ _ _⟩
        case round =>
          clear HB15
          obtain ⟨j, Av, cv, rfl, hj, hB2, hZ, hF, hG, hO⟩ := hrel
          have HB := Lib.hid (And.intro hB2 hZ)
          have HF := Lib.hid hF
          have HG := Lib.hid hG
          have HO := Lib.hid hO
          have hgkl : gk < wr.heap.size := hG.lt
          clear hB2 hZ hF hG hO
          have HJL := Lib.hid hj
          have HB3 := Lib.hid hb3
          by_cases hlt : j < 16382 + b
          · have hq : (j : Int) < 16382 + (b : Int) := by omega
            have HLJ := Lib.hid hlt
            clear hj hlt
            have hcat : (⟨#[112]⟩ : ByteArray) ++ letS j = letP j := rfl
            have hsz : (letS j).size = 4 := rfl
            have hba := ((Below.refl wr.heap.size wr).alloc (Nat.le_refl _) (.cells #[.string (letP j), .string ⟨#[]⟩] 32)).drew
            have HBA := Lib.hid (show Below B w1 ((wr.alloc (.cells #[.string (letP j), .string ⟨#[]⟩] 32)).drew) ∧ B ≤ ((wr.alloc (.cells #[.string (letP j), .string ⟨#[]⟩] 32)).drew).heap.size from ⟨HB.out.1.trans (hba.mono HB.out.2), Nat.le_trans HB.out.2 hba.size⟩)
            have HFA := Lib.hid (HF.out.below hba HF.out.lt)
            have HGA := Lib.hid (HG.out.below hba HG.out.lt)
            have HOA := Lib.hid (own_more HO.out hba)
            have HRA := Lib.hid ((reads_new wr #[.string (letP j), .string ⟨#[]⟩] 32 2 1 rfl).drew)
            have k0 : wr.cell? ⟨gk, 1, none⟩ = some (.slice Av j cv) := HG.out.cell 1
            clear hba
            go_upto_region 18 with (fail)
            refine wp_region_M (fun W => W.cell? ⟨gk, 1, none⟩ = some (.slice Av j cv)) 9 (by kernel_rfl) (by go_keep) (fun hHeld => ?_)
            refine wpAnyM_take (i := 0) (d := (some 59)) (v := ?_) rfl rfl (by kernel_rfl) (by kernel_rfl) (by kernel_rfl) (by kernel_rfl) (by kernel_rfl) (fun _ _ _ h => h) (Or.inl ⟨by rfl, ?_⟩) (by assumption) ?_
            rotate_left
            · intro w hSw
              (try dsimp only at hSw)
              go_simp
              (try with_reducible rfl)
            (try simp only [Act.put, List.setIfInBounds_toArray, List.set_cons_zero, List.set_cons_succ])
            refine wpAnyM_take (i := 1) (d := (some 60)) (v := ?_) rfl rfl (by kernel_rfl) (by kernel_rfl) (by kernel_rfl) (by kernel_rfl) (by kernel_rfl) (fun _ _ _ h => h) (Or.inl ⟨by rfl, ?_⟩) (by assumption) ?_
            rotate_left
            · intro w hSw
              (try dsimp only at hSw)
              go_simp
              (try with_reducible rfl)
            (try simp only [Act.put, List.setIfInBounds_toArray, List.set_cons_zero, List.set_cons_succ])
            refine wpAnyM_take (i := 2) (d := (some 61)) (v := ?_) rfl rfl (by kernel_rfl) (by kernel_rfl) (by kernel_rfl) (by kernel_rfl) (by kernel_rfl) (fun _ _ _ h => h) (Or.inl ⟨by rfl, ?_⟩) (by assumption) ?_
            rotate_left
            · intro w hSw
              (try dsimp only at hSw)
              go_simp
              (try with_reducible rfl)
            (try simp only [Act.put, List.setIfInBounds_toArray, List.set_cons_zero, List.set_cons_succ])
            refine wpAnyM_one (i := 3) (by kernel_rfl) ?_
            refine owe_early (i := 3) (d := (some 62)) rfl rfl (fun K hK => ?_)
            go_simp
            refine (letters_any j _ (by have := HLJ.out; have := HB3.out; omega)).mono ?_
            rintro en wl ⟨rfl, rfl⟩
            refine hK.out _ _ (by go_keep) (fun hHeld => ?_)
            clear hK K
            (try simp only [Act.put, List.setIfInBounds_toArray, List.set_cons_zero, List.set_cons_succ])
            refine wpAnyM_take (i := 4) (d := (some 63)) (v := ?_) rfl rfl (by kernel_rfl) (by kernel_rfl) (by kernel_rfl) (by kernel_rfl) (by kernel_rfl) (fun _ _ _ h => h) (Or.inl ⟨by rfl, ?_⟩) (by assumption) ?_
            rotate_left
            · intro w hSw
              (try dsimp only at hSw)
              go_simp
              (try with_reducible rfl)
            (try simp only [Act.put, List.setIfInBounds_toArray, List.set_cons_zero, List.set_cons_succ])
            refine wpAnyM_take (i := 5) (d := (some 64)) (v := ?_) rfl rfl (by kernel_rfl) (by kernel_rfl) (by kernel_rfl) (by kernel_rfl) (by kernel_rfl) (fun _ _ _ h => h) (Or.inl ⟨by rfl, ?_⟩) (by assumption) ?_
            rotate_left
            · intro w hSw
              (try dsimp only at hSw)
              go_simp
              (try with_reducible rfl)
            (try simp only [Act.put, List.setIfInBounds_toArray, List.set_cons_zero, List.set_cons_succ])
            refine wpAnyM_one (i := 6) (by kernel_rfl) ?_
            refine owe_early (i := 6) (d := (some 65)) rfl rfl (fun K hK => ?_)
            go_simp
            refine hK.out _ _ (by go_keep) (fun hHeld => ?_)
            clear hK K
            (try simp only [Act.put, List.setIfInBounds_toArray, List.set_cons_zero, List.set_cons_succ])
            refine wpAnyM_one (i := 7) (by kernel_rfl) ?_
            refine owe_early (i := 7) (d := (some 66)) rfl rfl (fun K hK => ?_)
            refine step_append_any (by rfl) (.tmp 60) (.tmp 65) 28 (by rfl) B 32 i1 _ 2 32 Try.underlying28 hi1 hy0 hy1 hy2 rfl (by omega) (.slice Av j cv) j (pairCells (lvals 0 j)) (by rfl) HOA.out (wr.heap.size + 1) (some ⟨wr.heap.size, 0, none⟩) 1 1 [.string (letP j), .string ⟨#[]⟩] (by rfl) HRA.out (by simp [Value.oneCell']) (by have := HLJ.out; have := HB3.out; simp only [maxLen]; omega) (by omega) HBA.out.2 ?_
            intro v9 w19 hown9 hg9 hat9
            obtain ⟨A9, c9, rfl, -, -, -⟩ := own_form hown9
            have HG9 := Lib.hid (blk_stays HGA.out HOA.out (by decide) hg9)
            have HF9 := Lib.hid (blk_stays HFA.out HOA.out (by decide) hg9)
            have HB9 := Lib.hid (show Below B w1 w19 ∧ B ≤ w19.heap.size from ⟨HBA.out.1.grown hg9 HBA.out.2 (fun k hk => (HOA.out.lt k hk).1), Nat.le_trans HBA.out.2 hg9.size⟩)
            have HO9 := Lib.hid (show w19.ownsRow B 32 2 (.slice A9 (j + 1) c9) (j + 1) (pairCells (lvals 0 (j + 1))) from by rw [lvals_snoc]; simp only [pairCells] at hown9 ⊢; rw [List.flatMap_append]; exact hown9)
            have q0 : w19.cell? ⟨gk, 1, none⟩ = some (.slice Av j cv) := HG9.out.cell 1
            have q1 : w19.frozen? ⟨gk, 1, none⟩ = false := HG9.out.frozen 1
            clear hown9 hg9 hat9
            refine hK.out _ _ (by go_keep) (fun hHeld => ?_)
            clear hK K
            (try simp only [Act.put, List.setIfInBounds_toArray, List.set_cons_zero, List.set_cons_succ])
            refine wpAnyM_take (i := 8) (d := (some 67)) (v := ?_) rfl rfl (by kernel_rfl) (by kernel_rfl) (by kernel_rfl) (by kernel_rfl) (by kernel_rfl) (fun _ _ _ h => h) (Or.inl ⟨by rfl, ?_⟩) (by assumption) ?_
            rotate_left
            · intro w hSw
              (try dsimp only at hSw)
              go_simp
              (try with_reducible rfl)
            (try simp only [Act.put, List.setIfInBounds_toArray, List.set_cons_zero, List.set_cons_succ])
            refine wpAnyM_one (i := 9) (by kernel_rfl) ?_
            refine owe_late (i := 9) (d := none) rfl rfl (by decide) (fun K hK => ?_)
            go_simp
            refine hK.out undef _ ?_
            clear hK K
            (try simp only [Act.put, List.setIfInBounds_toArray, List.set_cons_zero, List.set_cons_succ])
            refine wpAnyM_done (by kernel_rfl) ?_ _
            (try simp only [Act.put, List.setIfInBounds_toArray, List.set_cons_zero, List.set_cons_succ])
            have HJ1 := HLJ.out
            go_wp2
            go_roundw
            case rel => exact ⟨j + 1, _, _, by go_num, HLJ.out, HB9.out.1.setCell HGKB.out _, by simpa [World.setCell] using HB9.out.2, HF9.out.far (by simpa using HGN.out) _, HG9.out.set_ 1 _, own_stays3 HO9.out HG9.out (by decide) (grown_set w19 gk 1 _)⟩
            case measure => simp [Lib.intOf]; omega
          · have hjb : j = 16382 + b := by omega
            have hq : ¬ (j : Int) < 16382 + (b : Int) := by omega
            have HJB := Lib.hid hjb
            have HVK := Lib.hid (limits_keys HO.out (by omega))
            obtain ⟨g2, c2, hv2, -, -⟩ := own_head HO.out (by omega) HO.out.1
            cases hv2
            have hc9 : (9 : Int) ≤ (cv : Int) := by
              obtain ⟨_, _, e2, h2, -⟩ := own_form HO.out
              cases e2
              omega
            clear hj hlt hjb
            have f0 : wr.cell? ⟨gf, 0, none⟩ = some (.int .i64 0) := HF.out.cell 0
            have f1 : wr.cell? ⟨gf, 1, none⟩ = some (.int .i64 0) := HF.out.cell 1
            have f2 : wr.frozen? ⟨gf, 0, none⟩ = false := HF.out.frozen 0
            have f3 : wr.frozen? ⟨gf, 1, none⟩ = false := HF.out.frozen 1
            go_upto_region 20 with (fail)
            clear f0 f1 f2 f3
            have HW := Lib.hid (show Below B w1 ((wr.setCell ⟨gf, 0, none⟩ (.int .i64 0)).setCell ⟨gf, 1, none⟩ (.int .i64 0)) ∧ Blk ((wr.setCell ⟨gf, 0, none⟩ (.int .i64 0)).setCell ⟨gf, 1, none⟩ (.int .i64 0)) gf 39 #[.int .i64 0, .int .i64 0] ∧ Blk ((wr.setCell ⟨gf, 0, none⟩ (.int .i64 0)).setCell ⟨gf, 1, none⟩ (.int .i64 0)) gk 30 #[.string ⟨#[]⟩, .slice (some ⟨g2, 0, none⟩) j cv] ∧ ((wr.setCell ⟨gf, 0, none⟩ (.int .i64 0)).setCell ⟨gf, 1, none⟩ (.int .i64 0)).ownsRow B 32 2 (.slice (some ⟨g2, 0, none⟩) j cv) j (pairCells (lvals 0 j)) from
              ⟨(HB.out.1.setCell HGFB.out _).setCell HGFB.out _, (HF.out.set_ 0 _).set_ 1 _, (HG.out.far (by simpa using fun e => HGN.out e.symm) _).far (by simpa using fun e => HGN.out e.symm) _, own_stays3 (own_stays3 HO.out HF.out (by decide) (grown_set wr gf 0 (.int .i64 0))) (HF.out.set_ 0 (.int .i64 0)) (by decide) (grown_set _ gf 1 (.int .i64 0))⟩)
            have HZ20 := Lib.hid (show B ≤ ((wr.setCell ⟨gf, 0, none⟩ (.int .i64 0)).setCell ⟨gf, 1, none⟩ (.int .i64 0)).heap.size from by simpa [World.setCell] using HB.out.2)
            clear HB HF HG HO HVK
            generalize (wr.setCell ⟨gf, 0, none⟩ (.int .i64 0)).setCell ⟨gf, 1, none⟩ (.int .i64 0) = w20 at *
            by_cases hb5 : b = 3
            · have hb6 : ((b : Int) == 3) = true := by simp [hb5]
              have hb7 : ¬ (b : Int) < 3 := by omega
              have HJ := Lib.hid (show j = 16385 from by have := HJB.out; omega)
              have f0 : w20.cell? ⟨gf, 0, none⟩ = some (.int .i64 0) := HW.out.2.1.cell 0
              have f1 : w20.cell? ⟨gf, 1, none⟩ = some (.int .i64 0) := HW.out.2.1.cell 1
              have f2 : w20.frozen? ⟨gf, 0, none⟩ = false := HW.out.2.1.frozen 0
              have f3 : w20.frozen? ⟨gf, 1, none⟩ = false := HW.out.2.1.frozen 1
              clear hb5
              go_upto_region 22 with (fail)
              clear f0 f1 f2 f3
              have HX := Lib.hid (show Below B w1 ((w20.setCell ⟨gf, 0, none⟩ (.int .i64 3)).setCell ⟨gf, 1, none⟩ (.int .i64 0)) ∧ Blk ((w20.setCell ⟨gf, 0, none⟩ (.int .i64 3)).setCell ⟨gf, 1, none⟩ (.int .i64 0)) gf 39 #[.int .i64 3, .int .i64 0] ∧ Blk ((w20.setCell ⟨gf, 0, none⟩ (.int .i64 3)).setCell ⟨gf, 1, none⟩ (.int .i64 0)) gk 30 #[.string ⟨#[]⟩, .slice (some ⟨g2, 0, none⟩) j cv] ∧ ((w20.setCell ⟨gf, 0, none⟩ (.int .i64 3)).setCell ⟨gf, 1, none⟩ (.int .i64 0)).ownsRow B 32 2 (.slice (some ⟨g2, 0, none⟩) j cv) j (pairCells (lvals 0 j)) ∧ B ≤ ((w20.setCell ⟨gf, 0, none⟩ (.int .i64 3)).setCell ⟨gf, 1, none⟩ (.int .i64 0)).heap.size from
                ⟨(HW.out.1.setCell HGFB.out _).setCell HGFB.out _, (HW.out.2.1.set_ 0 _).set_ 1 _, (HW.out.2.2.1.far (by simpa using fun e => HGN.out e.symm) _).far (by simpa using fun e => HGN.out e.symm) _, own_stays3 (own_stays3 HW.out.2.2.2 HW.out.2.1 (by decide) (grown_set w20 gf 0 (.int .i64 3))) (HW.out.2.1.set_ 0 (.int .i64 3)) (by decide) (grown_set _ gf 1 (.int .i64 0)), by simpa [World.setCell] using HZ20.out⟩)
              clear HW HZ20
              generalize (w20.setCell ⟨gf, 0, none⟩ (.int .i64 3)).setCell ⟨gf, 1, none⟩ (.int .i64 0) = w22 at *
              have y0 : w22.cell? ⟨gk, 0, none⟩ = some (.string ⟨#[]⟩) := HX.out.2.2.1.cell 0
              have y1 : w22.cell? ⟨gk, 1, none⟩ = some (.slice (some ⟨g2, 0, none⟩) j cv) := HX.out.2.2.1.cell 1
              have HR := Lib.hid (reads_new w22 #[.string ⟨#[]⟩, .slice (some ⟨g2, 0, none⟩) j cv] 30 2 1 rfl)
              have hba := (Below.refl w22.heap.size w22).alloc (Nat.le_refl _) (.cells #[.string ⟨#[]⟩, .slice (some ⟨g2, 0, none⟩) j cv] 30)
              have HK := Lib.hid (limits_keys (own_more HX.out.2.2.2.1 hba) (by have := HJ.out; omega))
              have HE := Lib.hid (show Below B w1 (w22.alloc (.cells #[.string ⟨#[]⟩, .slice (some ⟨g2, 0, none⟩) j cv] 30)) ∧ Blk (w22.alloc (.cells #[.string ⟨#[]⟩, .slice (some ⟨g2, 0, none⟩) j cv] 30)) gf 39 #[.int .i64 3, .int .i64 0] from ⟨HX.out.1.trans (hba.mono HX.out.2.2.2.2), HX.out.2.1.alloc _⟩)
              have HST := Lib.hid (show StepsR (w22.alloc (.cells #[.string ⟨#[]⟩, .slice (some ⟨g2, 0, none⟩) j cv] 30)) (.slice (some ⟨w22.heap.size, 0, none⟩) 1 1) [(⟨#[]⟩, lvals 0 j)] [.slice (some ⟨g2, 0, none⟩) j cv] from
                ⟨_, 1, rfl, Nat.le_refl _, by simp [maxLen], by rw [World.size_alloc]; exact HR.out, rfl, fun i st kv hi hj => by
                  match i, hi, hj with
                  | 0, hi, hj =>
                    cases hi
                    cases hj
                    exact HK.out.1
                  | i + 1, hi, hj => cases hi⟩)
              clear hba HX HK HR
              go_upto_region 25 with (fail)
              clear y0 y1
              generalize w22.alloc (.cells #[.string ⟨#[]⟩, .slice (some ⟨g2, 0, none⟩) j cv] 30) = w23 at *
              obtain ⟨g3, hg3⟩ : ∃ g3, w22.heap.size = g3 := ⟨_, rfl⟩
              rw [hg3] at HST ⊢
              clear hg3
              have HCQ := Lib.hid (show Calls Try.prog 11 #[.agg #[.slice (some ⟨g3, 0, none⟩) 1 1]] w23.drew (fun e w' => e = .returned (.agg #[.int .i64 3, .int .i64 0]) ∧ Below w23.heap.size w23 w') from by
                have hd := (Below.refl w23.heap.size w23).drew
                refine (buncheck_any _ [(⟨#[]⟩, lvals 0 j)] _ w23.drew (HST.out.more hd) (lvals_fit1 (by have := HJ.out; omega)) (by simp) (by simp [lvals_len]; have := HJ.out; omega)).mono ?_
                rintro e w' ⟨rfl, hb⟩
                refine ⟨?_, hd.trans hb⟩
                rw [HJ.out, show checkB [(⟨#[]⟩, lvals 0 16385)] = (3, 0) from check_full]
                try rfl)
              have y0 : w23.cell? ⟨gf, 0, none⟩ = some (.int .i64 3) := HE.out.2.cell 0
              have y1 : w23.cell? ⟨gf, 1, none⟩ = some (.int .i64 0) := HE.out.2.cell 1
              refine wp_region_M (fun W => W.cell? ⟨gf, 0, none⟩ = some (.int .i64 3) ∧ W.cell? ⟨gf, 1, none⟩ = some (.int .i64 0)) 6 (by kernel_rfl) (by go_keep) (fun hHeld => ?_)
              refine wpAnyM_take (i := 0) (d := (some 84)) (v := ?_) rfl rfl (by kernel_rfl) (by kernel_rfl) (by kernel_rfl) (by kernel_rfl) (by kernel_rfl) (fun _ _ _ h => h) (Or.inl ⟨by rfl, ?_⟩) (by assumption) ?_
              rotate_left
              · intro w hSw
                (try dsimp only at hSw)
                go_simp
                (try with_reducible rfl)
              (try simp only [Act.put, List.setIfInBounds_toArray, List.set_cons_zero, List.set_cons_succ])
              refine wpAnyM_take (i := 1) (d := (some 85)) (v := ?_) rfl rfl (by kernel_rfl) (by kernel_rfl) (by kernel_rfl) (by kernel_rfl) (by kernel_rfl) (fun _ _ _ h => h) (Or.inl ⟨by rfl, ?_⟩) (by assumption) ?_
              rotate_left
              · intro w hSw
                (try dsimp only at hSw)
                go_simp
                (try with_reducible rfl)
              (try simp only [Act.put, List.setIfInBounds_toArray, List.set_cons_zero, List.set_cons_succ])
              refine wpAnyM_take (i := 3) (d := (some 87)) (v := ?_) rfl rfl (by kernel_rfl) (by kernel_rfl) (by kernel_rfl) (by kernel_rfl) (by kernel_rfl) (fun _ _ _ h => h) (Or.inl ⟨by rfl, ?_⟩) (by assumption) ?_
              rotate_left
              · intro w hSw
                (try dsimp only at hSw)
                go_simp
                (try with_reducible rfl)
              (try simp only [Act.put, List.setIfInBounds_toArray, List.set_cons_zero, List.set_cons_succ])
              refine wpAnyM_one (i := 2) (by kernel_rfl) ?_
              refine owe_early (i := 2) (d := (some 86)) rfl rfl (fun K hK => ?_)
              go_simp
              refine HCQ.out.mono ?_
              rintro en w24 ⟨rfl, hb⟩
              have HB24 := Lib.hid hb
              clear hb
              have q0 := (HE.out.2.below HB24.out HE.out.2.lt).cell 0
              have q1 := (HE.out.2.below HB24.out HE.out.2.lt).cell 1
              refine hK.out _ _ (by go_keep) (fun hHeld => ?_)
              clear hK K
              (try simp only [Act.put, List.setIfInBounds_toArray, List.set_cons_zero, List.set_cons_succ])
              refine wpAnyM_take (i := 4) (d := (some 88)) (v := ?_) rfl rfl (by kernel_rfl) (by kernel_rfl) (by kernel_rfl) (by kernel_rfl) (by kernel_rfl) (fun _ _ _ h => h) (Or.inl ⟨by rfl, ?_⟩) (by assumption) ?_
              rotate_left
              · intro w hSw
                (try dsimp only at hSw)
                go_simp
                (try with_reducible rfl)
              (try simp only [Act.put, List.setIfInBounds_toArray, List.set_cons_zero, List.set_cons_succ])
              refine wpAnyM_take (i := 5) (d := (some 4)) (v := ?_) rfl rfl (by kernel_rfl) (by kernel_rfl) (by kernel_rfl) (by kernel_rfl) (by kernel_rfl) (fun _ _ _ h => h) (Or.inl ⟨by rfl, ?_⟩) (by assumption) ?_
              rotate_left
              · intro w hSw
                (try dsimp only at hSw)
                go_simp
                (try with_reducible rfl)
              (try simp only [Act.put, List.setIfInBounds_toArray, List.set_cons_zero, List.set_cons_succ])
              refine wpAnyM_done (by kernel_rfl) ?_ _
              (try simp only [Act.put, List.setIfInBounds_toArray, List.set_cons_zero, List.set_cons_succ])
              go_wp2
              go_ret
              exact ⟨rfl, HB1.out.trans ((show Below w1.heap.size w1 w24 from by rw [HBE.out]; exact HE.out.1.trans (HB24.out.mono (by have := HE.out.2.lt; have := HGFB.out; omega))).mono HB1.out.size)⟩
            · have hb6 : ((b : Int) == 3) = false := by
                have : ¬ (b : Int) = 3 := by omega
                simpa using this
              have hb7 : (b : Int) < 3 := by omega
              have HJ := Lib.hid (show 9 ≤ j ∧ j ≤ 16384 from by have := HJB.out; omega)
              clear hb5
              have y0 : w20.cell? ⟨gk, 0, none⟩ = some (.string ⟨#[]⟩) := HW.out.2.2.1.cell 0
              have y1 : w20.cell? ⟨gk, 1, none⟩ = some (.slice (some ⟨g2, 0, none⟩) j cv) := HW.out.2.2.1.cell 1
              have hba := (Below.refl w20.heap.size w20).alloc (Nat.le_refl _) (.cells #[.string ⟨#[]⟩, .slice (some ⟨g2, 0, none⟩) j cv] 30)
              have HX := Lib.hid (show Below B w1 (w20.alloc (.cells #[.string ⟨#[]⟩, .slice (some ⟨g2, 0, none⟩) j cv] 30)) ∧ Blk (w20.alloc (.cells #[.string ⟨#[]⟩, .slice (some ⟨g2, 0, none⟩) j cv] 30)) gf 39 #[.int .i64 0, .int .i64 0] ∧ Blk (w20.alloc (.cells #[.string ⟨#[]⟩, .slice (some ⟨g2, 0, none⟩) j cv] 30)) gk 30 #[.string ⟨#[]⟩, .slice (some ⟨g2, 0, none⟩) j cv] ∧ (w20.alloc (.cells #[.string ⟨#[]⟩, .slice (some ⟨g2, 0, none⟩) j cv] 30)).ownsRow B 32 2 (.slice (some ⟨g2, 0, none⟩) j cv) j (pairCells (lvals 0 j)) ∧ B ≤ (w20.alloc (.cells #[.string ⟨#[]⟩, .slice (some ⟨g2, 0, none⟩) j cv] 30)).heap.size from ⟨HW.out.1.trans (hba.mono HZ20.out), HW.out.2.1.alloc _, HW.out.2.2.1.alloc _, own_more HW.out.2.2.2 hba, Nat.le_trans HZ20.out hba.size⟩)
              clear hba HW HZ20
              go_upto_region 24 with (fail)
              clear y0 y1
              generalize w20.alloc (.cells #[.string ⟨#[]⟩, .slice (some ⟨g2, 0, none⟩) j cv] 30) = w22 at *
              have y1 : w22.cell? ⟨gk, 1, none⟩ = some (.slice (some ⟨g2, 0, none⟩) j cv) := HX.out.2.2.1.cell 1
              have HR := Lib.hid (reads_new w22 #[.string ⟨#[97]⟩, .slice (some ⟨g2, 0, none⟩) j cv, .string ⟨#[98]⟩, .slice (some ⟨g2, 0, none⟩) 9 cv] 30 2 2 rfl)
              have hba := ((Below.refl w22.heap.size w22).alloc (Nat.le_refl _) (.cells #[.string ⟨#[97]⟩, .slice (some ⟨g2, 0, none⟩) j cv, .string ⟨#[98]⟩, .slice (some ⟨g2, 0, none⟩) 9 cv] 30)).drew
              have HK := Lib.hid (limits_keys (own_more HX.out.2.2.2.1 hba) HJ.out.1)
              have HE := Lib.hid (show Below B w1 (w22.alloc (.cells #[.string ⟨#[97]⟩, .slice (some ⟨g2, 0, none⟩) j cv, .string ⟨#[98]⟩, .slice (some ⟨g2, 0, none⟩) 9 cv] 30)).drew ∧ Blk (w22.alloc (.cells #[.string ⟨#[97]⟩, .slice (some ⟨g2, 0, none⟩) j cv, .string ⟨#[98]⟩, .slice (some ⟨g2, 0, none⟩) 9 cv] 30)).drew gf 39 #[.int .i64 0, .int .i64 0] from ⟨HX.out.1.trans (hba.mono HX.out.2.2.2.2), HX.out.2.1.below hba HX.out.2.1.lt⟩)
              have HST := Lib.hid (show StepsR (w22.alloc (.cells #[.string ⟨#[97]⟩, .slice (some ⟨g2, 0, none⟩) j cv, .string ⟨#[98]⟩, .slice (some ⟨g2, 0, none⟩) 9 cv] 30)).drew (.slice (some ⟨w22.heap.size, 0, none⟩) 2 2) [(⟨#[97]⟩, lvals 0 j), (⟨#[98]⟩, lvals 0 9)] [.slice (some ⟨g2, 0, none⟩) j cv, .slice (some ⟨g2, 0, none⟩) 9 cv] from
                ⟨_, 2, rfl, Nat.le_refl _, by simp [maxLen], (show Reads _ (w22.alloc _).heap.size _ _ _ _ from by rw [World.size_alloc]; exact HR.out.drew), rfl, fun i st kv hi hj => by
                  match i, hi, hj with
                  | 0, hi, hj =>
                    cases hi
                    cases hj
                    exact HK.out.1
                  | 1, hi, hj =>
                    cases hi
                    cases hj
                    exact HK.out.2
                  | i + 2, hi, hj => cases hi⟩)
              clear hba HX HK HR
              refine wp_region_M (fun W => W.cell? ⟨gk, 1, none⟩ = some (.slice (some ⟨g2, 0, none⟩) j cv)) 7 (by kernel_rfl) (by go_keep) (fun hHeld => ?_)
              refine wpAnyM_take (i := 0) (d := (some 76)) (v := ?_) rfl rfl (by kernel_rfl) (by kernel_rfl) (by kernel_rfl) (by kernel_rfl) (by kernel_rfl) (fun _ _ _ h => h) (Or.inl ⟨by rfl, ?_⟩) (by assumption) ?_
              rotate_left
              · intro w hSw
                (try dsimp only at hSw)
                go_simp
                (try with_reducible rfl)
              (try simp only [Act.put, List.setIfInBounds_toArray, List.set_cons_zero, List.set_cons_succ])
              refine wpAnyM_take (i := 1) (d := (some 77)) (v := ?_) rfl rfl (by kernel_rfl) (by kernel_rfl) (by kernel_rfl) (by kernel_rfl) (by kernel_rfl) (fun _ _ _ h => h) (Or.inl ⟨by rfl, ?_⟩) (by assumption) ?_
              rotate_left
              · intro w hSw
                (try dsimp only at hSw)
                go_simp
                (try with_reducible rfl)
              (try simp only [Act.put, List.setIfInBounds_toArray, List.set_cons_zero, List.set_cons_succ])
              refine wpAnyM_take (i := 2) (d := (some 78)) (v := ?_) rfl rfl (by kernel_rfl) (by kernel_rfl) (by kernel_rfl) (by kernel_rfl) (by kernel_rfl) (fun _ _ _ h => h) (Or.inl ⟨by rfl, ?_⟩) (by assumption) ?_
              rotate_left
              · intro w hSw
                (try dsimp only at hSw)
                go_simp
                (try with_reducible rfl)
              (try simp only [Act.put, List.setIfInBounds_toArray, List.set_cons_zero, List.set_cons_succ])
              refine wpAnyM_take (i := 3) (d := (some 79)) (v := ?_) rfl rfl (by kernel_rfl) (by kernel_rfl) (by kernel_rfl) (by kernel_rfl) (by kernel_rfl) (fun _ _ _ h => h) (Or.inl ⟨by rfl, ?_⟩) (by assumption) ?_
              rotate_left
              · intro w hSw
                (try dsimp only at hSw)
                go_simp
                (try with_reducible rfl)
              (try simp only [Act.put, List.setIfInBounds_toArray, List.set_cons_zero, List.set_cons_succ])
              refine wpAnyM_take (i := 4) (d := (some 80)) (v := ?_) rfl rfl (by kernel_rfl) (by kernel_rfl) (by kernel_rfl) (by kernel_rfl) (by kernel_rfl) (fun _ _ _ h => h) (Or.inl ⟨by rfl, ?_⟩) (by assumption) ?_
              rotate_left
              · intro w hSw
                (try dsimp only at hSw)
                go_simp
                (try with_reducible rfl)
              (try simp only [Act.put, List.setIfInBounds_toArray, List.set_cons_zero, List.set_cons_succ])
              refine wpAnyM_take (i := 5) (d := (some 81)) (v := ?_) rfl rfl (by kernel_rfl) (by kernel_rfl) (by kernel_rfl) (by kernel_rfl) (by kernel_rfl) (fun _ _ _ h => h) (Or.inl ⟨by rfl, ?_⟩) (by assumption) ?_
              rotate_left
              · intro w hSw
                (try dsimp only at hSw)
                go_simp
                (try with_reducible rfl)
              (try simp only [Act.put, List.setIfInBounds_toArray, List.set_cons_zero, List.set_cons_succ])
              refine wpAnyM_take (i := 6) (d := (some 82)) (v := ?_) rfl rfl (by kernel_rfl) (by kernel_rfl) (by kernel_rfl) (by kernel_rfl) (by kernel_rfl) (fun _ _ _ h => h) (Or.inl ⟨by rfl, ?_⟩) (by assumption) ?_
              rotate_left
              · intro w hSw
                (try dsimp only at hSw)
                go_simp
                (try with_reducible rfl)
              (try simp only [Act.put, List.setIfInBounds_toArray, List.set_cons_zero, List.set_cons_succ])
              refine wpAnyM_one (i := 7) (by kernel_rfl) ?_
              refine owe_late (i := 7) (d := (some 83)) rfl rfl (by decide) (fun K hK => ?_)
              go_simp
              refine hK.out _ _ ?_
              clear hK K
              (try simp only [Act.put, List.setIfInBounds_toArray, List.set_cons_zero, List.set_cons_succ])
              refine wpAnyM_one (i := 8) (by kernel_rfl) ?_
              refine owe_late (i := 8) (d := (some 10)) rfl rfl (by decide) (fun K hK => ?_)
              go_simp
              refine hK.out _ _ ?_
              clear hK K
              (try simp only [Act.put, List.setIfInBounds_toArray, List.set_cons_zero, List.set_cons_succ])
              refine wpAnyM_done (by kernel_rfl) ?_ _
              (try simp only [Act.put, List.setIfInBounds_toArray, List.set_cons_zero, List.set_cons_succ])
              clear y1
              go_upto_region 25 with (fail)
              generalize (w22.alloc (.cells #[.string ⟨#[97]⟩, .slice (some ⟨g2, 0, none⟩) j cv, .string ⟨#[98]⟩, .slice (some ⟨g2, 0, none⟩) 9 cv] 30)).drew = w23 at *
              obtain ⟨g3, hg3⟩ : ∃ g3, w22.heap.size = g3 := ⟨_, rfl⟩
              rw [hg3] at HST ⊢
              clear hg3
              have HCQ := Lib.hid (show Calls Try.prog 11 #[.agg #[.slice (some ⟨g3, 0, none⟩) 2 2]] w23.drew (fun e w' => e = .returned (.agg #[.int .i64 0, .int .i64 0]) ∧ Below w23.heap.size w23 w') from by
                have hd := (Below.refl w23.heap.size w23).drew
                refine (buncheck_any _ [(⟨#[97]⟩, lvals 0 j), (⟨#[98]⟩, lvals 0 9)] _ w23.drew (HST.out.more hd) (lvals_fit2 (by have := HJ.out; omega)) (by simp) (by simp [lvals_len]; have := HJ.out; omega)).mono ?_
                rintro e w' ⟨rfl, hb⟩
                refine ⟨?_, hd.trans hb⟩
                rw [check_two HJ.out.1 HJ.out.2]
                try rfl)
              have y0 : w23.cell? ⟨gf, 0, none⟩ = some (.int .i64 0) := HE.out.2.cell 0
              have y1 : w23.cell? ⟨gf, 1, none⟩ = some (.int .i64 0) := HE.out.2.cell 1
              refine wp_region_M (fun W => W.cell? ⟨gf, 0, none⟩ = some (.int .i64 0) ∧ W.cell? ⟨gf, 1, none⟩ = some (.int .i64 0)) 6 (by kernel_rfl) (by go_keep) (fun hHeld => ?_)
              refine wpAnyM_take (i := 0) (d := (some 84)) (v := ?_) rfl rfl (by kernel_rfl) (by kernel_rfl) (by kernel_rfl) (by kernel_rfl) (by kernel_rfl) (fun _ _ _ h => h) (Or.inl ⟨by rfl, ?_⟩) (by assumption) ?_
              rotate_left
              · intro w hSw
                (try dsimp only at hSw)
                go_simp
                (try with_reducible rfl)
              (try simp only [Act.put, List.setIfInBounds_toArray, List.set_cons_zero, List.set_cons_succ])
              refine wpAnyM_take (i := 1) (d := (some 85)) (v := ?_) rfl rfl (by kernel_rfl) (by kernel_rfl) (by kernel_rfl) (by kernel_rfl) (by kernel_rfl) (fun _ _ _ h => h) (Or.inl ⟨by rfl, ?_⟩) (by assumption) ?_
              rotate_left
              · intro w hSw
                (try dsimp only at hSw)
                go_simp
                (try with_reducible rfl)
              (try simp only [Act.put, List.setIfInBounds_toArray, List.set_cons_zero, List.set_cons_succ])
              refine wpAnyM_take (i := 3) (d := (some 87)) (v := ?_) rfl rfl (by kernel_rfl) (by kernel_rfl) (by kernel_rfl) (by kernel_rfl) (by kernel_rfl) (fun _ _ _ h => h) (Or.inl ⟨by rfl, ?_⟩) (by assumption) ?_
              rotate_left
              · intro w hSw
                (try dsimp only at hSw)
                go_simp
                (try with_reducible rfl)
              (try simp only [Act.put, List.setIfInBounds_toArray, List.set_cons_zero, List.set_cons_succ])
              refine wpAnyM_one (i := 2) (by kernel_rfl) ?_
              refine owe_early (i := 2) (d := (some 86)) rfl rfl (fun K hK => ?_)
              go_simp
              refine HCQ.out.mono ?_
              rintro en w24 ⟨rfl, hb⟩
              have HB24 := Lib.hid hb
              clear hb
              have q0 := (HE.out.2.below HB24.out HE.out.2.lt).cell 0
              have q1 := (HE.out.2.below HB24.out HE.out.2.lt).cell 1
              refine hK.out _ _ (by go_keep) (fun hHeld => ?_)
              clear hK K
              (try simp only [Act.put, List.setIfInBounds_toArray, List.set_cons_zero, List.set_cons_succ])
              refine wpAnyM_take (i := 4) (d := (some 88)) (v := ?_) rfl rfl (by kernel_rfl) (by kernel_rfl) (by kernel_rfl) (by kernel_rfl) (by kernel_rfl) (fun _ _ _ h => h) (Or.inl ⟨by rfl, ?_⟩) (by assumption) ?_
              rotate_left
              · intro w hSw
                (try dsimp only at hSw)
                go_simp
                (try with_reducible rfl)
              (try simp only [Act.put, List.setIfInBounds_toArray, List.set_cons_zero, List.set_cons_succ])
              refine wpAnyM_take (i := 5) (d := (some 4)) (v := ?_) rfl rfl (by kernel_rfl) (by kernel_rfl) (by kernel_rfl) (by kernel_rfl) (by kernel_rfl) (fun _ _ _ h => h) (Or.inl ⟨by rfl, ?_⟩) (by assumption) ?_
              rotate_left
              · intro w hSw
                (try dsimp only at hSw)
                go_simp
                (try with_reducible rfl)
              (try simp only [Act.put, List.setIfInBounds_toArray, List.set_cons_zero, List.set_cons_succ])
              refine wpAnyM_done (by kernel_rfl) ?_ _
              (try simp only [Act.put, List.setIfInBounds_toArray, List.set_cons_zero, List.set_cons_succ])
              go_wp2
              go_ret
              exact ⟨rfl, HB1.out.trans ((show Below w1.heap.size w1 w24 from by rw [HBE.out]; exact HE.out.1.trans (HB24.out.mono (by have := HE.out.2.lt; have := HGFB.out; omega))).mono HB1.out.size)⟩
set_option maxRecDepth 100000 in
theorem walk (a0 : Int) (a1 : Int) (w : World) (w0 : (Lit.int .i64 a0).wf = true) (w1 : (Lit.int .i64 a1).wf = true) :
    Calls Try.prog 4 #[.int .i64 a0, .int .i64 a1] w fun e w' => e = .returned (.bool true) ∧ Below w.heap.size w w' := by
  exact limits_walk a0 a1 w

set_option maxRecDepth 100000 in
theorem contract (H : Type) (enc : TypeId × Value → H) (W : World) (base : Nat) (args : Array Value) (ds gs : List (DataW H)) (before : List MemPlace)
    (hval0 : ∀ (j : Nat) t v, Try.f4.params[j]? = some t → args[j]? = some v → Value.okWide Try.prog W .any base t v)
    (hW : DataW.Whole enc Try.prog Try.f4.params.toList Rows.bundleLimitsSpec.vars false W args.toList ds gs before)
    (hsz0 : (DataW.weightsEach Try.prog (Try.f4.params.toList ++ Rows.bundleLimitsSpec.plain.varTypes Try.prog) (ds ++ gs)).all (· ≤ reachBytes) = true) :
    Calls Try.prog 4 args W fun e W' => ∃ v, e = .returned v ∧ Rows.bundleLimitsSpec.post enc Try.prog Try.f4 false true false false W args v W' := by
  have hval : ∀ (j : Nat) t v, Try.f4.params[j]? = some t → args[j]? = some v → Value.okWide Try.prog W .any base t v := hval0
  have hsz : (DataW.weightsEach Try.prog (Try.f4.params.toList ++ Rows.bundleLimitsSpec.plain.varTypes Try.prog) (ds ++ gs)).all (· ≤ reachBytes) = true := hsz0
  have hW' := hW
  obtain ⟨p, q, hA0, hV, rfl, hfz, hnd⟩ := hW
  have hA : DataW.TrodAll enc Try.prog W 0 (fun _ => true) true Try.f4.params.toList args.toList ds p := hA0
  rw [Try.params4] at hA hval hsz
  obtain ⟨v0, vs0, d0, ds0, p0, q0, hargs, rfl, rfl, h0, r0⟩ := trodAll_cons hA
  obtain ⟨v1, vs1, d1, ds1, p1, q1, rfl, rfl, rfl, h1, r1⟩ := trodAll_cons r0
  obtain ⟨rfl, rfl, rfl⟩ := trodAll_nil r1
  obtain rfl : args = #[v0, v1] := by cases args; simp_all
  obtain ⟨rfl, rfl⟩ := trodVars_none hV
  obtain ⟨a0, rfl, rfl, rfl, w0⟩ := open_int Try.underlying3 (hval 0 3 v0 rfl rfl) h0
  obtain ⟨a1, rfl, rfl, rfl, w1⟩ := open_int Try.underlying3 (hval 1 3 v1 rfl rfl) h1
  clear hA0 hval0
  refine (walk a0 a1 W w0 w1).mono fun e W' ⟨he, bel⟩ => ?_
  subst he
  exact ⟨_, rfl, _, _, _, [], _, [], hW', trodAll_mk1 (shut_bool Try.underlying4 _), (trodAll_cons_mk (shut_int Try.underlying3 w0) (trodAll_cons_mk (shut_int Try.underlying3 w1) trodAll_mk0)), rfl, bel.frame _, fun h => by cases h⟩

set_option maxRecDepth 100000 in
theorem lifted (os : Os) (started : os.Started) (H : Type) (enc : TypeId × Value → H) :
    ReturnsInHanded {} Try.checked os 4 .any (Rows.bundleLimitsSpec.pre6 enc Try.prog Try.f4 Rows.bundleLimitsRow.domain false) (Rows.bundleLimitsSpec.post enc Try.prog Try.f4 false true false false) := by
  refine returnsInHanded_of_change_sized (C := Try.checked) own started (by kernel_rfl) Try.func4
    (ChangeSpec.witness6 (enc := enc) (C := Try.checked) false ⟨#[], #[.int .i64 0, .int .i64 0], []⟩ 8 (by kernel_rfl) (by kernel_rfl) (by kernel_rfl) (by kernel_rfl)) ?_
  intro W base args ds gs before hval hW _ hsz _
  exact contract H enc W base args ds gs before hval hW hsz

theorem over : Rows.bundleLimitsRow.holds Try.pinned (OpenSpec.ofChange Rows.bundleLimitsSpec) :=
  OpenClaim.holds_of_wide 4 Try.f4 rfl rfl rfl rfl rfl rfl rfl ⟨rfl, rfl, rfl, rfl, rfl⟩ rfl rfl rfl rfl rfl (by kernel_rfl) Try.func4 (by kernel_rfl)
    (of_decide_eq_true (by kernel_rfl)) (by unfold Func.isWrapper; first | (rw [if_pos (by decide +kernel)]; kernel_rfl) | (rw [if_neg (by decide +kernel)]; exact ⟨rfl, rfl⟩))
    (fun os started H enc _ => lifted os started H enc)

/-- The statement. -/
theorem proved : Rows.BundleLimitsSaid := over
#print axioms proved
end Go.Proofs.Ytfpepdjffehbcaa.bundleLimits
