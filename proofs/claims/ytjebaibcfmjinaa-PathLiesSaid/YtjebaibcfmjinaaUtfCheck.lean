/-
  The walk of utf.Check: the first broken byte. Condition: the string is within the reach.
-/
import Derived.Test.YtjebaibcfmjinaaUtf
import Derived.Test.YtjebaibcfmjinaaBlocks
import Derived.Laws.RangeString
import Derived.Laws.RangeAny
namespace Go.Proofs.Ytjebaibcfmjinaa
open Go.RowKit

/-- The first broken byte from p on. -/
def brokenF : Nat → ByteArray → Nat → Option Nat
  | 0, _, _ => none
  | k + 1, s, p => if p < s.size then (if Utf8.decode s p = (65533, 1) then some p else brokenF k s (p + (Utf8.decode s p).2)) else none
def broken (s : ByteArray) : Option Nat := brokenF s.size s 0
theorem decode_pos (s : ByteArray) (p : Nat) : 1 ≤ (Utf8.decode s p).2 := by
  simp only [Utf8.decode]
  repeat' split
  all_goals simp
theorem brokenF_fuel : ∀ (k : Nat) (s : ByteArray) (p j : Nat), s.size ≤ p + k → k ≤ j → brokenF j s p = brokenF k s p
  | 0, s, p, j, h, _ => by
    cases j with
    | zero => rfl
    | succ j => simp only [brokenF]; rw [if_neg (by omega)]
  | k + 1, s, p, 0, _, h => by omega
  | k + 1, s, p, j + 1, h, hj => by
    simp only [brokenF]
    have := decode_pos s p
    rw [brokenF_fuel k s (p + (Utf8.decode s p).2) j (by omega) (by omega)]
/-- What is broken from p on, with fuel enough. -/
def brokenAt (s : ByteArray) (p : Nat) : Option Nat := brokenF (s.size - p) s p
theorem brokenAt_step {s : ByteArray} {p : Nat} (h : p < s.size) : brokenAt s p = if Utf8.decode s p = (65533, 1) then some p else brokenAt s (p + (Utf8.decode s p).2) := by
  unfold brokenAt
  have := decode_pos s p
  rw [show s.size - p = (s.size - p - 1) + 1 by omega]
  simp only [brokenF]
  rw [if_pos h]
  by_cases hb : Utf8.decode s p = (65533, 1)
  · rw [if_pos hb, if_pos hb]
  · rw [if_neg hb, if_neg hb, brokenF_fuel (s.size - (p + (Utf8.decode s p).2)) s _ _ (by omega) (by omega)]
theorem brokenAt_end {s : ByteArray} {p : Nat} (h : ¬ p < s.size) : brokenAt s p = none := by
  unfold brokenAt
  rw [show s.size - p = 0 by omega]
  rfl
theorem broken_at (s : ByteArray) : broken s = brokenAt s 0 := rfl

/-- The Spot that is told. -/
def spotV (e a : Int) : Value := .agg #[.int .i64 e, .int .i64 a]
def checkV (s : ByteArray) : Value := match broken s with | some p => spotV 6 p | none => spotV 0 0

/-- Where the loop is. -/
def Ck (s : ByteArray) (last : Nat) (flag : Bool) (pos : Nat) : Prop :=
  pos ≤ s.size ∧ last ≤ pos ∧ ((flag = false ∧ broken s = brokenAt s pos) ∨ (flag = true ∧ last < pos ∧ (Utf8.decode s last).1 = 65533 ∧ pos = last + (Utf8.decode s last).2 ∧ broken s = brokenAt s last))

theorem ck_start (s : ByteArray) : Ck s 0 false 0 := ⟨Nat.zero_le _, Nat.le_refl _, .inl ⟨rfl, rfl⟩⟩
theorem decode_in {s : ByteArray} {p : Nat} (h : p < s.size) : p + (Utf8.decode s p).2 ≤ s.size := by
  simp only [Utf8.decode]
  repeat' split
  all_goals simp_all
  all_goals omega
/-- One piece on. -/
theorem ck_next {s : ByteArray} {l p : Nat} {f : Bool} (h : Ck s l f p) (hp : p < s.size) (hf : f = false ∨ ¬ p - l = 1) : Ck s p (((Utf8.decode s p).1 : Int) == 65533) (p + (Utf8.decode s p).2) := by
  obtain ⟨h1, h2, h3⟩ := h
  have hpos := decode_pos s p
  have hb : broken s = brokenAt s p := by
    rcases h3 with ⟨_, hb⟩ | ⟨hft, hl, hr, hpn, hb⟩
    · exact hb
    · rw [hb, brokenAt_step (by omega), if_neg, ← hpn]
      intro e
      rcases hf with hf | hf
      · rw [hf] at hft; cases hft
      · rw [e] at hpn; simp at hpn; omega
  refine ⟨decode_in hp, by omega, ?_⟩
  by_cases hr : (Utf8.decode s p).1 = 65533
  · refine .inr ⟨by rw [hr]; rfl, by omega, hr, rfl, hb⟩
  · refine .inl ⟨by rw [beq_eq_false_iff_ne]; omega, ?_⟩
    rw [hb, brokenAt_step hp, if_neg]
    intro e
    exact hr (by rw [e])
theorem ck_bad {s : ByteArray} {l p : Nat} (h : Ck s l true p) (hl : p - l = 1) : checkV s = spotV 6 l := by
  obtain ⟨h1, h2, h3⟩ := h
  rcases h3 with ⟨hf, _⟩ | ⟨_, hlt, hr, hpn, hb⟩
  · cases hf
  · unfold checkV
    rw [hb, brokenAt_step (by omega), if_pos (by
      apply Prod.ext
      · exact hr
      · show (Utf8.decode s l).2 = 1
        omega)]
theorem ck_good {s : ByteArray} {l p : Nat} {f : Bool} (h : Ck s l f p) (hp : ¬ p < s.size) (hf : f = false ∨ ¬ s.size - l = 1) : checkV s = spotV 0 0 := by
  obtain ⟨h1, h2, h3⟩ := h
  obtain rfl : p = s.size := by omega
  unfold checkV
  rcases h3 with ⟨_, hb⟩ | ⟨hft, hl, hr, hpn, hb⟩
  · rw [hb, brokenAt_end (by omega)]
  · rw [hb, brokenAt_step (by omega), if_neg, brokenAt_end (by omega)]
    intro e
    rcases hf with hf | hf
    · rw [hf] at hft; cases hft
    · rw [e] at hpn; simp at hpn; omega

theorem below2 (w : World) (o1 o2 : Obj) : Below w.heap.size w ((w.alloc o1).alloc o2) := ((Below.refl _ _).alloc (Nat.le_refl _) _).alloc (by simp only [World.size_alloc]; omega) _
set_option maxHeartbeats 2000000 in
theorem check_any (s : ByteArray) (w : World) (hs : s.size ≤ 140737488355328) :
    Calls Try.prog 48 #[.string s] w fun e w' => e = .returned (checkV s) ∧ Below w.heap.size w w' := by
  go_enter Try.func48, Try.ntmps48
  go_wp2
  go_loopw [3, 4, 5, 6] (fun lv fv _ _ wr => ∃ (l : Nat) (f : Bool) (p : Nat), Ck s l f p ∧ lv = .int .i64 l ∧ fv = .bool f ∧ (w.alloc (.cells #[.int .i64 0, .int .i64 0] 26)).iter s p = wr) (fun _ _ _ _ wr => s.size - wr.iterPos (w.heap.size + 1))
  case atStart => exact ⟨0, false, 0, ck_start s, rfl, rfl, rfl⟩
  case round =>
    obtain ⟨l, f, p, hck, rfl, rfl, rfl⟩ := hrel
    have hp1 := hck.1
    have hp2 := hck.2.1
    have hbel : ∀ q, Below w.heap.size w ((w.alloc (.cells #[.int .i64 0, .int .i64 0] 26)).iter s q) := fun q => below2 w _ _
    have HB := Lib.hid hbel
    clear hbel
    by_cases hp : p < s.size
    · have hnx := fun ty => run_next_any (P := Try.prog) (w.alloc (.cells #[.int .i64 0, .int .i64 0] 26)) s p ty hp
      simp only [World.size_alloc] at hnx
      have hn1 := decode_pos s p
      have hn2 := decode_in hp
      have HN := Lib.hid (fun hf => ck_next hck hp hf)
      have hr := decode_le s p
      generalize Utf8.decode s p = d at *
      obtain ⟨r, n⟩ := d
      simp only at hnx hn1 hn2 hr
      have hmeas : s.size - (((w.alloc (.cells #[.int .i64 0, .int .i64 0] 26)).iter s (p + n)).iterPos (w.heap.size + 1)) < s.size - (((w.alloc (.cells #[.int .i64 0, .int .i64 0] 26)).iter s p).iterPos (w.heap.size + 1)) := by
        have e := fun q => World.iterPos_iter (w.alloc (.cells #[.int .i64 0, .int .i64 0] 26)) s q
        simp only [World.size_alloc] at e
        rw [e, e]
        omega
      have HM := Lib.hid hmeas
      clear hmeas
      cases f
      · go_wp2
        go_roundw
        case rel => exact ⟨p, _, p + n, HN.out (.inl rfl), rfl, rfl, rfl⟩
        case measure => exact HM.out
      · by_cases h1 : p - l = 1
        · have c0 : ((w.alloc (.cells #[.int .i64 0, .int .i64 0] 26)).iter s (p + n)).cell? ⟨w.heap.size, 0, none⟩ = some (.int .i64 0) := ((Blk.new w _ _).alloc _).cell 0
          have c1 : ((w.alloc (.cells #[.int .i64 0, .int .i64 0] 26)).iter s (p + n)).cell? ⟨w.heap.size, 1, none⟩ = some (.int .i64 0) := ((Blk.new w _ _).alloc _).cell 1
          have f0 : ((w.alloc (.cells #[.int .i64 0, .int .i64 0] 26)).iter s (p + n)).frozen? ⟨w.heap.size, 0, none⟩ = false := ((Blk.new w _ _).alloc _).frozen 0
          have f1 : ((w.alloc (.cells #[.int .i64 0, .int .i64 0] 26)).iter s (p + n)).frozen? ⟨w.heap.size, 1, none⟩ = false := ((Blk.new w _ _).alloc _).frozen 1
          have HC := Lib.hid (ck_bad hck h1)
          have h1' : ((p : Int) - (l : Int) == 1) = true := by rw [beq_iff_eq]; omega
          clear h1
          go_wp2
          refine bodyPost_ret (v := .agg #[.int .i64 6, .int .i64 (l : Int)]) (by simp [results, Try.results48, go_sem, World.iter]) rfl ?_
          exact ⟨by rw [HC.out]; rfl, ((HB.out _).setCell (p := ⟨w.heap.size, 0, none⟩) (Nat.le_refl _) _).setCell (p := ⟨w.heap.size, 1, none⟩) (Nat.le_refl _) _⟩
        · have HN1 := Lib.hid (HN.out (.inr h1))
          have h1' : ((p : Int) - (l : Int) == 1) = false := by rw [beq_eq_false_iff_ne]; omega
          clear h1
          go_wp2
          go_roundw
          case rel => exact ⟨p, _, p + n, HN1.out, rfl, rfl, rfl⟩
          case measure => exact HM.out
    · obtain rfl : p = s.size := by omega
      have hnx := fun ty => run_next_end (P := Try.prog) (w.alloc (.cells #[.int .i64 0, .int .i64 0] 26)) s s.size ty (by omega)
      simp only [World.size_alloc] at hnx
      have c0 : ((w.alloc (.cells #[.int .i64 0, .int .i64 0] 26)).iter s s.size).cell? ⟨w.heap.size, 0, none⟩ = some (.int .i64 0) := ((Blk.new w _ _).alloc _).cell 0
      have c1 : ((w.alloc (.cells #[.int .i64 0, .int .i64 0] 26)).iter s s.size).cell? ⟨w.heap.size, 1, none⟩ = some (.int .i64 0) := ((Blk.new w _ _).alloc _).cell 1
      have f0 : ((w.alloc (.cells #[.int .i64 0, .int .i64 0] 26)).iter s s.size).frozen? ⟨w.heap.size, 0, none⟩ = false := ((Blk.new w _ _).alloc _).frozen 0
      have f1 : ((w.alloc (.cells #[.int .i64 0, .int .i64 0] 26)).iter s s.size).frozen? ⟨w.heap.size, 1, none⟩ = false := ((Blk.new w _ _).alloc _).frozen 1
      cases f
      · have HC := Lib.hid (ck_good hck (by omega) (.inl rfl))
        go_wp2
        refine bodyPost_ret (v := .agg #[.int .i64 0, .int .i64 0]) (by simp [results, Try.results48, go_sem, World.iter]) rfl ?_
        exact ⟨by rw [HC.out]; rfl, ((HB.out _).setCell (p := ⟨w.heap.size, 0, none⟩) (Nat.le_refl _) _).setCell (p := ⟨w.heap.size, 1, none⟩) (Nat.le_refl _) _⟩
      · by_cases h1 : s.size - l = 1
        · have HC := Lib.hid (ck_bad hck h1)
          have h1' : ((s.size : Int) - (l : Int) == 1) = true := by rw [beq_iff_eq]; omega
          clear h1
          go_wp2
          refine bodyPost_ret (v := .agg #[.int .i64 6, .int .i64 (l : Int)]) (by simp [results, Try.results48, go_sem, World.iter]) rfl ?_
          exact ⟨by rw [HC.out]; rfl, ((HB.out _).setCell (p := ⟨w.heap.size, 0, none⟩) (Nat.le_refl _) _).setCell (p := ⟨w.heap.size, 1, none⟩) (Nat.le_refl _) _⟩
        · have HC := Lib.hid (ck_good hck (by omega) (.inr h1))
          have h1' : ((s.size : Int) - (l : Int) == 1) = false := by rw [beq_eq_false_iff_ne]; omega
          clear h1
          go_wp2
          refine bodyPost_ret (v := .agg #[.int .i64 0, .int .i64 0]) (by simp [results, Try.results48, go_sem, World.iter]) rfl ?_
          exact ⟨by rw [HC.out]; rfl, ((HB.out _).setCell (p := ⟨w.heap.size, 0, none⟩) (Nat.le_refl _) _).setCell (p := ⟨w.heap.size, 1, none⟩) (Nat.le_refl _) _⟩
end Go.Proofs.Ytjebaibcfmjinaa
