/-
  The walks of the document's Group, at, four, groups, rows, Texts, Paths, Tables of a bundle. Condition: the bundle may be, and is small.
-/
import Derived.Test.YtfpepdjffehbcaaGreatBunCut
import Derived.Test.YtfpepdjffehbcaaGreatBunOpen
import Derived.Test.YtfpepdjffehbcaaGreatRefParse
import Derived.Test.YtfpepdjffehbcaaGreatPoolPool
import Derived.Test.YtfpepdjffehbcaaGreatPoolTable
import Derived.Test.YtfpepdjffehbcaaGreatPoolFold
import Derived.Test.YtfpepdjffehbcaaGreatOctRef
set_option linter.unusedVariables false
set_option linter.unusedSimpArgs false
namespace Go.Proofs.YtfpepdjffehbcaaGreat
open Go.RowKit

/-- A path of a bundle that may be. -/
def PathOk (p : ByteArray) : Prop := rightB p = true ∧ p ≠ ByteArray.empty
theorem path_first {p : ByteArray} (h : PathOk p) : p.size ≤ 512 ∧ ∃ st r, parseM p = .ok (st :: r) ∧ grp p = st.1 := by
  obtain ⟨l, hl⟩ := rightB_ok.1 h.1
  obtain ⟨-, -, h3, h4⟩ := parseM_small hl
  cases l with
  | nil => exact absurd (size_empty.1 (h4.1 rfl)) h.2
  | cons st r => exact ⟨h3, st, r, hl, by unfold grp; rw [hl]⟩
theorem rparse_yes (s : ByteArray) (m : List PStep) (w : World) (hm : parseM s = .ok m) (hs : s.size ≤ 140737488355328) :
    Calls Tryz.prog 70 #[.string s] w fun en w' => Below w.heap.size w w' ∧ ∃ (A : Option Addr) (c : Nat) (vs : List Value), en = .returned (.tuple #[.slice A m.length c, .agg #[.int .i64 0, .int .i64 0]]) ∧ Reads w' w'.heap.size 2 A m.length (stepCells m vs) ∧ vs.length = m.length ∧ m.length ≤ c ∧ c ≤ maxLen :=
  (rparse_any s w hs).mono fun en w' h => by
    obtain ⟨hB, ⟨x, y, hE, rfl⟩ | ⟨l, v, hE, rfl, vs, hI⟩⟩ := h
    · rw [hm] at hE; cases hE
    · rw [hm] at hE
      cases hE
      obtain ⟨A, c, rfl, h1, h2, h3⟩ := own_form hI.2.1
      exact ⟨hB, A, c, vs, rfl, h3, hI.1, h1, h2⟩
-- BEGIN group
set_option maxHeartbeats 2000000 in
theorem rgroup_any (p : ByteArray) (w : World) (h : PathOk p) :
    Calls Tryz.prog 48 #[.string p] w fun e w' => e = .returned (.string (grp p)) ∧ Below w.heap.size w w' := by
  obtain ⟨hp, st, r, hm, hg⟩ := path_first h
  rw [hg]
  have HP := Lib.hid (rparse_yes p _ w hm (by omega))
  clear hm hg h
  obtain ⟨n, hn⟩ : ∃ n, (st :: r).length = n := ⟨_, rfl⟩
  have hn1 : 0 < n := by rw [← hn]; simp
  rw [hn] at HP
  have hn2 : (0 : Int) < (n : Int) := by omega
  go_enter Tryz.func48, Tryz.ntmps48
  go_upto_region 2 with (go_at_call 70; go_must (refine HP.out.mono ?_; rintro en w1 ⟨hb1, A, c, vs, rfl, hR, hvl, -, -⟩; have HB1 := Lib.hid hb1; have HR := Lib.hid hR; have HVL := Lib.hid hvl; clear hb1 hR hvl))
  obtain ⟨v0, hv0⟩ : ∃ v0, vs[0]? = some v0 := ⟨_, List.getElem?_eq_getElem (by rw [HVL.out]; exact hn1)⟩
  obtain ⟨b1, o1, rfl, hb1, hcl⟩ := HR.out.spot hn1 (by omega)
  have hat := stepCells_at (st :: r) vs 0 st v0 rfl hv0
  have HB2 := Lib.hid (HB1.out.alloc HB1.out.size (.cells #[.int .i64 0, .int .i64 0] 93))
  have k0 : (w1.alloc (.cells #[.int .i64 0, .int .i64 0] 93)).cell? ⟨b1, o1, none⟩ = some (.string st.1) := by
    have h1 : w1.cell? ⟨b1, o1, none⟩ = some (.string st.1) := by simpa using hcl _ _ hat.1
    exact (((Below.refl _ w1).alloc (Nat.le_refl _) (.cells #[.int .i64 0, .int .i64 0] 93)).cell (p := ⟨b1, o1, none⟩) hb1).trans h1
  clear hcl hat hv0
  go_wp2
  go_ret
  exact ⟨rfl, HB2.out⟩
-- END group
-- BEGIN at
set_option maxHeartbeats 2000000 in
theorem rat_any (v : Value) (L : List ByteArray) (s : ByteArray) (w : World) (h : Txts w w.heap.size v L) (hs : s ∈ L) (hn : L.length ≤ 100000000) :
    Calls Tryz.prog 42 #[v, .string s] w fun e w' => e = .returned (.int .u32 (idx L s : Int)) ∧ w = w' := by
  have HT := Lib.hid h
  obtain ⟨A, c, rfl, -, -, -⟩ := h
  have HI := Lib.hid (And.intro (idx_lt hs) (idx_get hs))
  have HF := Lib.hid (show ∀ (i : Nat) (x : ByteArray), (∀ (j : Nat) (y : ByteArray), j < i → L[j]? = some y → y ≠ s) → L[i]? = some x → x = s → idx L s = i from fun i x hj hx e => by
    subst e
    unfold idx
    have hil := (List.getElem?_eq_some_iff.1 hx).1
    rw [List.findIdx_eq hil]
    refine ⟨by rw [(List.getElem?_eq_some_iff.1 hx).2]; simp, fun j hji => ?_⟩
    simpa using hj j _ hji (List.getElem?_eq_getElem _))
  obtain ⟨n, hN⟩ : ∃ n, L.length = n := ⟨_, rfl⟩
  have HN := Lib.hid hN
  rw [hN] at hn HT ⊢
  clear hN hs
  have hn1 : (n : Int) ≤ 100000000 := by omega
  go_enter Tryz.func42, Tryz.ntmps42
  go_wp2
  go_loop [9] (fun iv => ∃ i : Nat, iv = .int .i64 (i : Int) ∧ i ≤ n ∧ ∀ (j : Nat) (y : ByteArray), j < i → L[j]? = some y → y ≠ s) (fun iv => n - (Lib.intOf iv).toNat)
  case atStart => exact ⟨0, rfl, Nat.zero_le _, fun j y hj => absurd hj (Nat.not_lt_zero j)⟩
  case round =>
    obtain ⟨i, rfl, hi, hne⟩ := hrel
    have HNE := Lib.hid hne
    clear hne
    by_cases hlt : i < n
    · have hq : (i : Int) < (n : Int) := by omega
      obtain ⟨x, hx⟩ := at_lt (l := L) (p := i) (by rw [HN.out]; exact hlt)
      obtain ⟨A', c', ex, -, -, hR⟩ := HT.out
      rw [HN.out] at ex hR
      cases ex
      obtain ⟨b1, o1, rfl, hb1, hcl⟩ := hR.spot (by omega) (by omega)
      have r0 : w.cell? ⟨b1, o1 + i, none⟩ = some (.string x) := hcl _ _ (str_at hx)
      have hbq := ba_beqB x s
      have hwp : IntKind.u32.wrap (i : Int) = (i : Int) := by rw [IntKind.wrap_u32]; omega
      by_cases he : x = s
      · rw [decide_eq_true he] at hbq
        have HE := Lib.hid (HF.out i x HNE.out hx he)
        clear hcl hx he hR
        go_wp2
        go_ret
        exact ⟨by rw [HE.out]; rfl, rfl⟩
      · rw [decide_eq_false he] at hbq
        have HNX := Lib.hid (show ∀ (j : Nat) (y : ByteArray), j < i + 1 → L[j]? = some y → y ≠ s from fun j y hj hy => by
          rcases Nat.lt_or_ge j i with h | h
          · exact HNE.out j y h hy
          · obtain rfl : j = i := by omega
            rw [hx] at hy
            cases hy
            exact he)
        clear hcl hx he hR hwp
        go_wp2
        go_round
        case rel => exact ⟨i + 1, by go_num, hlt, HNX.out⟩
        case measure => simp [Lib.intOf]; omega
    · exact absurd rfl (HNE.out _ _ (by have := HI.out.1; have := HN.out; omega) HI.out.2)
-- END at
-- BEGIN four
set_option maxHeartbeats 2000000 in
theorem rfour_any (v : Value) (L : List UInt8) (x base : Nat) (w : World) (h : OB w base 5 v L) (hb : base ≤ w.heap.size) (hx : x < 4294967296) (hlen : L.length ≤ 100000000000) :
    Calls Tryz.prog 41 #[v, .int .u32 (x : Int)] w fun e w' => (∃ A n c, e = .returned (.slice A n c) ∧ OB w' base 5 (.slice A n c) (L ++ le 4 x)) ∧ Below base w w' := by
  have HO := Lib.hid h
  obtain ⟨A, c, rfl, -, -, -⟩ := OB.form h
  obtain ⟨n, hn⟩ : ∃ n, L.length = n := ⟨_, rfl⟩
  have HN := Lib.hid hn
  rw [hn] at HO hlen ⊢
  clear hn h
  have HLO := Lib.hid (show Calls Tryz.prog 71 #[.int .u32 (x : Int), .int .i64 4] w (fun e w' => ∃ A2 c2, e = .returned (.slice A2 4 c2) ∧ RB w' w'.heap.size A2 (le 4 x) ∧ Below w.heap.size w w') from by
    refine (low_any 4 x w (by omega) hx).mono ?_
    rintro e w' ⟨v2, rfl, ho2, hb2⟩
    obtain ⟨A2, c2, rfl, -, -, hR⟩ := OB.form ho2
    exact ⟨A2, c2, by simp [le_len], hR, hb2⟩)
  obtain ⟨i0, hi0, hz0, hz1, hz2⟩ := info_parts byte_info
  go_enter Tryz.func41, Tryz.ntmps41
  go_wp2_with (first
    | (go_at_call 71; go_must (refine HLO.out.mono ?_; rintro en w2 ⟨A2, c2, rfl, hr2, hb2⟩; have HB2 := Lib.hid hb2; have HR2 := Lib.hid hr2; have HO2 := Lib.hid (show w2.ownsRow base 5 1 (.slice A n c) n (bvs L) from by have h := own_more HO.out hb2; rw [HN.out] at h; exact h); have HZ2 := Lib.hid (show base ≤ w2.heap.size from Nat.le_trans hb hb2.size); clear hb2 hr2))
    | (at_builtin; go_must (refine wpList_append_any _ rfl (.tmp 5) (.tmp 7) _ rfl base 5 i0 _ 1 1 Tryz.underlying27 hi0 hz0 hz1 hz2 rfl (by omega) _ n (bvs L) rfl HO2.out w2.heap.size A2 4 c2 (bvs (le 4 x)) rfl (by have h := HR2.out; unfold RB at h; rw [le_len] at h; exact h) (bvs_one _) (by simp only [maxLen]; omega) (by omega) HZ2.out ?_; intro v3 w3 hown3 hg3 hat3; have HO3 := Lib.hid hown3; have HB3 := Lib.hid ((HB2.out.mono hb).grown hg3 HZ2.out (fun k hk => (HO2.out.lt k hk).1)); clear hown3 hg3 hat3)))
  go_ret
  obtain ⟨A3, c3, rfl, -, -, -⟩ := own_form HO3.out
  refine ⟨⟨A3, _, c3, rfl, ?_⟩, HB3.out⟩
  have := HO3.out
  rw [← bvs_append] at this
  unfold OB
  rw [List.length_append, le_len, HN.out]
  exact this
-- END four
end Go.Proofs.YtfpepdjffehbcaaGreat
