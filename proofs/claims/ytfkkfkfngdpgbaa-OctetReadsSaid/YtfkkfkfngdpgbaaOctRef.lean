/-
  The walks of the references' Both and Low: what they make is a row of the call's own. Condition: the bytes are within the reach.
-/
import Derived.Test.YtfkkfkfngdpgbaaOctPut
namespace Go.Proofs.Ytfkkfkfngdpgbaa
open Go.RowKit

theorem take_snoc {α : Type} (l : List α) (d : α) {k : Nat} (h : k < l.length) : l.take (k + 1) = l.take k ++ [l.getD k d] := by
  rw [List.take_succ_eq_append_getElem h]
  simp [List.getD_eq_getElem?_getD, h]
theorem ob_of {w : World} {base : Nat} {e : TypeId} {v : Value} {l : List UInt8} {n : Nat} {xs : List Value} (h : w.ownsRow base e 1 v n xs) (hn : n = l.length) (hx : xs = bvs l) : OB w base e v l := by
  subst hn; subst hx; exact h
theorem ob_snoc {w : World} {base : Nat} {e : TypeId} {v : Value} {l : List UInt8} {b : UInt8} {n : Nat} {i : Int} (h : w.ownsRow base e 1 v (n + 1) (bvs l ++ [.int .u8 i])) (hn : n = l.length) (hi : i = (b.toNat : Int)) : OB w base e v (l ++ [b]) := by
  subst hn; subst hi
  exact ob_of h (by simp) (by simp [bvs, bv])

set_option maxHeartbeats 1000000 in
theorem both_any (l m : List UInt8) (A A' : Option Addr) (c c' B : Nat) (w : World) (hr : RB w B A l) (hr' : RB w B A' m) (hB : B ≤ w.heap.size) (hlen : l.length + m.length ≤ 140737488355328) :
    Calls Try.prog 13 #[.slice A l.length c, .slice A' m.length c'] w (MadeB w 5 (l ++ m)) := by
  obtain ⟨i0, hi0, hz0, hz1, hz2⟩ := info_parts byte_info
  go_enter Try.func13, Try.ntmps13
  go_wp2_with (at_make; refine wpList_make_own _ rfl _ _ 22 rfl w.heap.size 5 i0 (.int .u8 0) 1 Try.underlying22 hi0 hz0 hz1 _ _ _ (l.length + m.length) rfl rfl (by omega) (by rw [hz2]; omega) (by simp only [maxLen]; omega) (Nat.le_refl _) ?_; intro w1 hown1 hg1)
  have hb1 : Below w.heap.size w w1 := (Below.refl _ _).grown hg1 (Nat.le_refl _) (by simp)
  go_loopw [5, 6] (fun v i wr => ∃ k : Nat, k ≤ l.length ∧ i = .int .i64 k ∧ OB wr w.heap.size 5 v (l.take k) ∧ Below w.heap.size w wr) (fun _ i _ => l.length - (intOf i).toNat)
  case atStart => exact ⟨0, Nat.zero_le _, rfl, hown1, hb1⟩
  case round =>
    obtain ⟨k, hk, rfl, ho, hb⟩ := hrel
    have hz := hb.size
    have hrw := (RB.below hr (hb.mono hB))
    by_cases hlt : k < l.length
    · obtain ⟨b, off, rfl, hbB, hc⟩ := hrw.at_ hlt
      have hs := take_snoc l 0 hlt
      generalize l.getD k 0 = by0 at *
      have HS := Lib.hid hs
      clear hs
      have hlk : (l.take k).length ≤ k := List.length_take_le _ _
      go_wp2_with (at_builtin; refine wpList_append_any _ rfl (.tmp 20) (.tmp 25) _ rfl w.heap.size 5 i0 _ 1 1 Try.underlying22 hi0 hz0 hz1 hz2 rfl (by omega) _ (l.take k).length (bvs (l.take k)) rfl (ho.alloc _) (wr.heap.size + 1) (some ⟨wr.heap.size, 0, none⟩) 1 1 _ rfl (reads_new wr _ 5 1 1 rfl) (by simp [Value.oneCell']) (by simp only [maxLen]; omega) (by omega) (by simp; omega) ?_; intro v2 w2 hown2 hg2 hat2)
      go_roundw
      case rel => exact ⟨k + 1, by omega, by go_num, by rw [HS.out]; exact ob_snoc hown2 rfl rfl, (hb.alloc hz _).grown hg2 (by simp; omega) (fun k hk => (ho.lt k hk).1)⟩
      case measure => simp [intOf]; omega
    · obtain rfl : k = l.length := by omega
      go_wp2
      simp only [List.take_length] at ho
      obtain ⟨wo, rfl⟩ : ∃ wo : World, wo = wr := ⟨_, rfl⟩
      go_loopw [5, 7] (fun v i wr => ∃ k : Nat, k ≤ m.length ∧ i = .int .i64 k ∧ OB wr w.heap.size 5 v (l ++ m.take k) ∧ Below w.heap.size w wr) (fun _ i _ => m.length - (intOf i).toNat)
      case atStart => exact ⟨0, Nat.zero_le _, rfl, by simpa using ho, hb⟩
      case round =>
        clear ho hz hb hrw
        obtain ⟨k, hk, rfl, ho, hb⟩ := hrel
        have hz := hb.size
        have hrw := (RB.below hr' (hb.mono hB))
        by_cases hlt : k < m.length
        · obtain ⟨b, off, rfl, hbB, hc⟩ := hrw.at_ hlt
          have hs := take_snoc m 0 hlt
          generalize m.getD k 0 = by0 at *
          have HS := Lib.hid hs
          clear hs
          have hlk : (l ++ m.take k).length ≤ l.length + k := by simp; omega
          go_wp2_with (at_builtin; refine wpList_append_any _ rfl (.tmp 33) (.tmp 38) _ rfl w.heap.size 5 i0 _ 1 1 Try.underlying22 hi0 hz0 hz1 hz2 rfl (by omega) _ (l ++ m.take k).length (bvs (l ++ m.take k)) rfl (ho.alloc _) (wr.heap.size + 1) (some ⟨wr.heap.size, 0, none⟩) 1 1 _ rfl (reads_new wr _ 5 1 1 rfl) (by simp [Value.oneCell']) (by simp only [maxLen]; omega) (by omega) (by simp; omega) ?_; intro v2 w2 hown2 hg2 hat2)
          go_roundw
          case rel => exact ⟨k + 1, by omega, by go_num, by rw [HS.out, ← List.append_assoc]; exact ob_snoc hown2 rfl rfl, (hb.alloc hz _).grown hg2 (by simp; omega) (fun k hk => (ho.lt k hk).1)⟩
          case measure => simp [intOf]; omega
        · obtain rfl : k = m.length := by omega
          go_wp2
          go_ret
          simp only [List.take_length] at ho
          exact ⟨_, rfl, ho, hb⟩

/-- Low's row while it is filled. -/
def lowRow (n k x : Nat) : Array Value := (bvs (le k x) ++ List.replicate (n - k) (Value.int .u8 0)).toArray
theorem lowRow_set {n k x : Nat} {i : Int} (h : k < n) (hi : i = ((x / 256 ^ k % 256 : Nat) : Int)) : (lowRow n k x).setIfInBounds k (.int .u8 i) = lowRow n (k + 1) x := by
  subst hi
  unfold lowRow
  apply Array.ext'
  rw [Array.toList_setIfInBounds]
  simp only
  rw [List.set_append_right _ _ (by rw [bvs_len, le_len]; omega), bvs_len, le_len, Nat.sub_self, show n - k = (n - (k + 1)) + 1 by omega, List.replicate_succ, List.set_cons_zero, le_succ, bvs_append]
  simp [bvs, bv_of _ _ rfl]

set_option maxHeartbeats 1000000 in
theorem low_any (n x : Nat) (w : World) (hn : n ≤ 4) (hx : x < 4294967296) :
    Calls Try.prog 15 #[.int .u32 (x : Int), .int .i64 (n : Int)] w (MadeB w 5 (le n x)) := by
  obtain ⟨i0, hi0, hz0, hz1, hz2⟩ := info_parts byte_info
  have hmk := fun W : World => run_make (P := Try.prog) W 22 5 i0 _ Try.underlying22 hi0 hz0 .i64 .i64 n n (by omega) (by omega) (by rw [hz2]; omega) (by omega)
  have e0 : madeCells (Value.int .u8 0).cells (n * i0.size) = lowRow n 0 x := by
    rw [hz1]
    apply Array.ext'
    rw [show (Value.int .u8 0).cells = #[.int .u8 0] from rfl, toList_madeCells_one]
    simp [lowRow, le, bvs]
  simp only [Int.toNat_natCast, e0] at hmk
  clear e0
  go_enter Try.func15, Try.ntmps15
  go_wp2
  go_loopw [0, 6] (fun xv i wr => ∃ k : Nat, k ≤ n ∧ i = .int .i64 k ∧ xv = .int .u32 ((x / 256 ^ k : Nat) : Int) ∧ w.alloc (.cells (lowRow n k x) 5) = wr) (fun _ i _ => n - (intOf i).toNat)
  case atStart => exact ⟨0, Nat.zero_le _, rfl, by simp, rfl⟩
  case round =>
    obtain ⟨k, hk, rfl, rfl, rfl⟩ := hrel
    have hq : x / 256 ^ k < 4294967296 := Nat.lt_of_le_of_lt (Nat.div_le_self _ _) hx
    by_cases hlt : k < n
    · have hset := lowRow_set (x := x) hlt rfl
      have hsz : (lowRow n k x).size = n := by simp [lowRow, bvs_len, le_len]; omega
      have hcell : ∃ v, (w.alloc (.cells (lowRow n k x) 5)).cell? ⟨w.heap.size, k, none⟩ = some v := by
        rw [World.cell?_alloc_new]
        exact ⟨_, Array.getElem?_eq_getElem (by omega)⟩
      obtain ⟨v0, hv0⟩ := hcell
      have hnext : x / 256 ^ (k + 1) = x / 256 ^ k / 256 := by rw [Nat.pow_succ, Nat.div_div_eq_div_mul]
      generalize x / 256 ^ k = q at *
      have HN := Lib.hid hnext
      have HSET := Lib.hid hset
      clear hnext hset hsz
      go_wp2
      go_roundw
      case rel => exact ⟨k + 1, by omega, by go_num, by rw [HN.out]; go_num, by rw [← HSET.out]; rfl⟩
      case measure => simp [intOf]; omega
    · obtain rfl : k = n := by omega
      go_wp2
      go_ret
      refine ⟨_, rfl, ?_, (Below.refl _ _).alloc (Nat.le_refl _) _⟩
      have h := World.ownsRow_lit (base := w.heap.size) (e := 5) (size := 1) w (lowRow k k x) k (Nat.le_refl _) (by simp only [maxLen]; omega) (by simp [lowRow, bvs_len, le_len])
      exact ob_of (l := le k x) h (by rw [le_len]) (by simp [lowRow])
end Go.Proofs.Ytfkkfkfngdpgbaa
