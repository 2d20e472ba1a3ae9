/-
  Bytes of names, and broken bytes: plain Lean; no program in sight, no condition.
-/
import GoSem.Core.Utf8
import Derived.Laws.RangeAny
import Derived.Test.YtkfofdmcggoonaaGreatDoorProg
import Derived.Test.YtkfofdmcggoonaaGreatDoorBlocks
import Derived.Outline
import Derived.Lib.Hide
import Derived.Laws.BitsAllLaws
import Derived.Laws.RangeString
import Derived.Lib.Strings
import Derived.Lib.Walk
import Derived.Lib.Bytealg
import Derived.Deep.QuietTactic
import Derived.BigQuiet
set_option linter.unusedVariables false
set_option linter.unusedSimpArgs false
namespace Go.Proofs.YtkfofdmcggoonaaGreatDoor

def letterB (b : UInt8) : Bool := (97 ≤ b && b ≤ 122) || (65 ≤ b && b ≤ 90)
def digitB (b : UInt8) : Bool := 48 ≤ b && b ≤ 57
def startB (b : UInt8) : Bool := letterB b || b == 95
def nameB (b : UInt8) : Bool := startB b || digitB b || b == 45 || b == 46
theorem letter_or (b : UInt8) : letterB b = (decide (97 ≤ ((b ||| 32).toNat : Int)) && decide (((b ||| 32).toNat : Int) ≤ 122)) := by
  have h : ∀ n : Fin 256, letterB (UInt8.ofNat n.val) = (decide (97 ≤ (((UInt8.ofNat n.val) ||| 32).toNat : Int)) && decide ((((UInt8.ofNat n.val) ||| 32).toNat : Int) ≤ 122)) := by decide +kernel
  have := h ⟨b.toNat, b.toNat_lt⟩
  simpa using this
theorem digit_dec (b : UInt8) : digitB b = (decide (48 ≤ (b.toNat : Int)) && decide ((b.toNat : Int) ≤ 57)) := by
  have h : ∀ n : Fin 256, digitB (UInt8.ofNat n.val) = (decide (48 ≤ ((UInt8.ofNat n.val).toNat : Int)) && decide (((UInt8.ofNat n.val).toNat : Int) ≤ 57)) := by decide +kernel
  have := h ⟨b.toNat, b.toNat_lt⟩
  simpa using this
theorem beq_dec (b c : UInt8) : (b == c) = ((b.toNat : Int) == (c.toNat : Int)) := by
  by_cases h : b = c
  · subst h
    simp
  · have h2 : (b.toNat : Int) ≠ (c.toNat : Int) := fun e => h (UInt8.toNat_inj.1 (by omega))
    rw [beq_eq_false_iff_ne.2 h, beq_eq_false_iff_ne.2 h2]
end Go.Proofs.YtkfofdmcggoonaaGreatDoor
/-
  The walks of utf's letter, digit, NameStart, NameByte. No condition.
-/
namespace Go.Proofs.YtkfofdmcggoonaaGreatDoor
open Go.RowKit

set_option maxHeartbeats 400000 in
theorem letter_any (b : UInt8) (w : World) : Calls Tryz.prog 88 #[.int .u8 (b.toNat : Int)] w fun e w' => e = .returned (.bool (letterB b)) ∧ w = w' := by
  have hor : bits .or .u8 (b.toNat : Int) 32 = ((b ||| 32).toNat : Int) := by
    rw [show (32 : Int) = ((32 : Nat) : Int) from rfl, u8_or_nat _ _ b.toNat_lt (by omega), UInt8.toNat_or]
    rfl
  have HL := Lib.hid (letter_or b)
  generalize (b ||| 32).toNat = x at *
  generalize letterB b = y at *
  by_cases h1 : 97 ≤ (x : Int)
  · by_cases h2 : (x : Int) ≤ 122
    · go_enter Tryz.func88, Tryz.ntmps88
      go_wp2
      go_ret
      exact ⟨by rw [HL.out]; simp [h1, h2], rfl⟩
    · go_enter Tryz.func88, Tryz.ntmps88
      go_wp2
      go_ret
      exact ⟨by rw [HL.out]; simp [h1, h2], rfl⟩
  · go_enter Tryz.func88, Tryz.ntmps88
    go_wp2
    go_ret
    exact ⟨by rw [HL.out]; simp; omega, rfl⟩
set_option maxHeartbeats 400000 in
theorem digit_any (b : UInt8) (w : World) : Calls Tryz.prog 89 #[.int .u8 (b.toNat : Int)] w fun e w' => e = .returned (.bool (digitB b)) ∧ w = w' := by
  have HL := Lib.hid (digit_dec b)
  generalize b.toNat = x at *
  generalize digitB b = y at *
  by_cases h1 : 48 ≤ (x : Int)
  · by_cases h2 : (x : Int) ≤ 57
    · go_enter Tryz.func89, Tryz.ntmps89
      go_wp2
      go_ret
      exact ⟨by rw [HL.out]; simp [h1, h2], rfl⟩
    · go_enter Tryz.func89, Tryz.ntmps89
      go_wp2
      go_ret
      exact ⟨by rw [HL.out]; simp [h1, h2], rfl⟩
  · go_enter Tryz.func89, Tryz.ntmps89
    go_wp2
    go_ret
    exact ⟨by rw [HL.out]; simp; omega, rfl⟩
set_option maxHeartbeats 400000 in
theorem start_any (b : UInt8) (w : World) : Calls Tryz.prog 61 #[.int .u8 (b.toNat : Int)] w fun e w' => e = .returned (.bool (startB b)) ∧ w = w' := by
  have hs : startB b = (letterB b || ((b.toNat : Int) == 95)) := by unfold startB; rw [beq_dec]; rfl
  have HS := Lib.hid hs
  clear hs
  generalize hl : letterB b = l at *
  have HC := Lib.hid (letter_any b w)
  rw [hl] at HC
  clear hl
  generalize startB b = y at *
  generalize b.toNat = x at *
  cases l
  · go_enter Tryz.func61, Tryz.ntmps61
    go_wp2_with (go_at_call 88; refine HC.out.mono ?_; rintro e w' ⟨rfl, rfl⟩)
    go_ret
    exact ⟨by rw [HS.out]; simp, rfl⟩
  · go_enter Tryz.func61, Tryz.ntmps61
    go_wp2_with (go_at_call 88; refine HC.out.mono ?_; rintro e w' ⟨rfl, rfl⟩)
    go_ret
    exact ⟨by rw [HS.out]; simp, rfl⟩
set_option maxHeartbeats 400000 in
theorem nbyte_any (b : UInt8) (w : World) : Calls Tryz.prog 62 #[.int .u8 (b.toNat : Int)] w fun e w' => e = .returned (.bool (nameB b)) ∧ w = w' := by
  have hs : nameB b = (startB b || digitB b || ((b.toNat : Int) == 45) || ((b.toNat : Int) == 46)) := by unfold nameB; rw [beq_dec, beq_dec]; rfl
  have HS := Lib.hid hs
  clear hs
  generalize hl : startB b = l at *
  have HC := Lib.hid (start_any b w)
  rw [hl] at HC
  clear hl
  generalize hd : digitB b = d at *
  have HD := Lib.hid (digit_any b w)
  rw [hd] at HD
  clear hd
  generalize nameB b = y at *
  generalize b.toNat = x at *
  have h45 : ((x : Int) == 45) = true ∨ ((x : Int) == 45) = false := by cases ((x : Int) == 45) <;> simp
  have h46 : ((x : Int) == 46) = true ∨ ((x : Int) == 46) = false := by cases ((x : Int) == 46) <;> simp
  cases l
  · cases d
    · rcases h45 with h45 | h45
      · go_enter Tryz.func62, Tryz.ntmps62
        go_wp2_with (first | (go_at_call 61; refine HC.out.mono ?_; rintro e w' ⟨rfl, rfl⟩) | (go_at_call 89; refine HD.out.mono ?_; rintro e w' ⟨rfl, rfl⟩))
        go_ret
        exact ⟨by rw [HS.out, h45]; simp, rfl⟩
      · rcases h46 with h46 | h46
        · go_enter Tryz.func62, Tryz.ntmps62
          go_wp2_with (first | (go_at_call 61; refine HC.out.mono ?_; rintro e w' ⟨rfl, rfl⟩) | (go_at_call 89; refine HD.out.mono ?_; rintro e w' ⟨rfl, rfl⟩))
          go_ret
          exact ⟨by rw [HS.out, h46]; simp, rfl⟩
        · go_enter Tryz.func62, Tryz.ntmps62
          go_wp2_with (first | (go_at_call 61; refine HC.out.mono ?_; rintro e w' ⟨rfl, rfl⟩) | (go_at_call 89; refine HD.out.mono ?_; rintro e w' ⟨rfl, rfl⟩))
          go_ret
          exact ⟨by rw [HS.out, h45, h46]; rfl, rfl⟩
    · go_enter Tryz.func62, Tryz.ntmps62
      go_wp2_with (first | (go_at_call 61; refine HC.out.mono ?_; rintro e w' ⟨rfl, rfl⟩) | (go_at_call 89; refine HD.out.mono ?_; rintro e w' ⟨rfl, rfl⟩))
      go_ret
      exact ⟨by rw [HS.out]; simp, rfl⟩
  · go_enter Tryz.func62, Tryz.ntmps62
    go_wp2_with (first | (go_at_call 61; refine HC.out.mono ?_; rintro e w' ⟨rfl, rfl⟩) | (go_at_call 89; refine HD.out.mono ?_; rintro e w' ⟨rfl, rfl⟩))
    go_ret
    exact ⟨by rw [HS.out]; simp, rfl⟩
end Go.Proofs.YtkfofdmcggoonaaGreatDoor
/-
  The walk of utf.Check: the first broken byte. Condition: the string is within the reach.
-/
namespace Go.Proofs.YtkfofdmcggoonaaGreatDoor
open Go.RowKit

/-- The first broken byte from p on. -/
def brokenF : Nat → ByteArray → Nat → Option Nat
  | 0, _, _ => none
  | k + 1, s, p => if p < s.size then (if Utf8.decode s p = (65533, 1) then some p else brokenF k s (p + (Utf8.decode s p).2)) else none
def broken (s : ByteArray) : Option Nat := brokenF s.size s 0
theorem decode_pos (s : ByteArray) (p : Nat) : 1 ≤ (Utf8.decode s p).2 := by
  simp only [Utf8.decode]
  repeat' split
  all_goals simp
theorem brokenF_fuel : ∀ (k : Nat) (s : ByteArray) (p j : Nat), s.size ≤ p + k → k ≤ j → brokenF j s p = brokenF k s p
  | 0, s, p, j, h, _ => by
    cases j with
    | zero => rfl
    | succ j => simp only [brokenF]; rw [if_neg (by omega)]
  | k + 1, s, p, 0, _, h => by omega
  | k + 1, s, p, j + 1, h, hj => by
    simp only [brokenF]
    have := decode_pos s p
    rw [brokenF_fuel k s (p + (Utf8.decode s p).2) j (by omega) (by omega)]
/-- What is broken from p on, with fuel enough. -/
def brokenAt (s : ByteArray) (p : Nat) : Option Nat := brokenF (s.size - p) s p
theorem brokenAt_step {s : ByteArray} {p : Nat} (h : p < s.size) : brokenAt s p = if Utf8.decode s p = (65533, 1) then some p else brokenAt s (p + (Utf8.decode s p).2) := by
  unfold brokenAt
  have := decode_pos s p
  rw [show s.size - p = (s.size - p - 1) + 1 by omega]
  simp only [brokenF]
  rw [if_pos h]
  by_cases hb : Utf8.decode s p = (65533, 1)
  · rw [if_pos hb, if_pos hb]
  · rw [if_neg hb, if_neg hb, brokenF_fuel (s.size - (p + (Utf8.decode s p).2)) s _ _ (by omega) (by omega)]
theorem brokenAt_end {s : ByteArray} {p : Nat} (h : ¬ p < s.size) : brokenAt s p = none := by
  unfold brokenAt
  rw [show s.size - p = 0 by omega]
  rfl
theorem broken_at (s : ByteArray) : broken s = brokenAt s 0 := rfl

/-- The Spot that is told. -/
def spotV (e a : Int) : Value := .agg #[.int .i64 e, .int .i64 a]
def checkV (s : ByteArray) : Value := match broken s with | some p => spotV 6 p | none => spotV 0 0

/-- Where the loop is. -/
def Ck (s : ByteArray) (last : Nat) (flag : Bool) (pos : Nat) : Prop :=
  pos ≤ s.size ∧ last ≤ pos ∧ ((flag = false ∧ broken s = brokenAt s pos) ∨ (flag = true ∧ last < pos ∧ (Utf8.decode s last).1 = 65533 ∧ pos = last + (Utf8.decode s last).2 ∧ broken s = brokenAt s last))

theorem ck_start (s : ByteArray) : Ck s 0 false 0 := ⟨Nat.zero_le _, Nat.le_refl _, .inl ⟨rfl, rfl⟩⟩
theorem decode_in {s : ByteArray} {p : Nat} (h : p < s.size) : p + (Utf8.decode s p).2 ≤ s.size := by
  simp only [Utf8.decode]
  repeat' split
  all_goals simp_all
  all_goals omega
/-- One piece on. -/
theorem ck_next {s : ByteArray} {l p : Nat} {f : Bool} (h : Ck s l f p) (hp : p < s.size) (hf : f = false ∨ ¬ p - l = 1) : Ck s p (((Utf8.decode s p).1 : Int) == 65533) (p + (Utf8.decode s p).2) := by
  obtain ⟨h1, h2, h3⟩ := h
  have hpos := decode_pos s p
  have hb : broken s = brokenAt s p := by
    rcases h3 with ⟨_, hb⟩ | ⟨hft, hl, hr, hpn, hb⟩
    · exact hb
    · rw [hb, brokenAt_step (by omega), if_neg, ← hpn]
      intro e
      rcases hf with hf | hf
      · rw [hf] at hft; cases hft
      · rw [e] at hpn; simp at hpn; omega
  refine ⟨decode_in hp, by omega, ?_⟩
  by_cases hr : (Utf8.decode s p).1 = 65533
  · refine .inr ⟨by rw [hr]; rfl, by omega, hr, rfl, hb⟩
  · refine .inl ⟨by rw [beq_eq_false_iff_ne]; omega, ?_⟩
    rw [hb, brokenAt_step hp, if_neg]
    intro e
    exact hr (by rw [e])
theorem ck_bad {s : ByteArray} {l p : Nat} (h : Ck s l true p) (hl : p - l = 1) : checkV s = spotV 6 l := by
  obtain ⟨h1, h2, h3⟩ := h
  rcases h3 with ⟨hf, _⟩ | ⟨_, hlt, hr, hpn, hb⟩
  · cases hf
  · unfold checkV
    rw [hb, brokenAt_step (by omega), if_pos (by
      apply Prod.ext
      · exact hr
      · show (Utf8.decode s l).2 = 1
        omega)]
theorem ck_good {s : ByteArray} {l p : Nat} {f : Bool} (h : Ck s l f p) (hp : ¬ p < s.size) (hf : f = false ∨ ¬ s.size - l = 1) : checkV s = spotV 0 0 := by
  obtain ⟨h1, h2, h3⟩ := h
  obtain rfl : p = s.size := by omega
  unfold checkV
  rcases h3 with ⟨_, hb⟩ | ⟨hft, hl, hr, hpn, hb⟩
  · rw [hb, brokenAt_end (by omega)]
  · rw [hb, brokenAt_step (by omega), if_neg, brokenAt_end (by omega)]
    intro e
    rcases hf with hf | hf
    · rw [hf] at hft; cases hft
    · rw [e] at hpn; simp at hpn; omega

theorem below2 (w : World) (o1 o2 : Obj) : Below w.heap.size w ((w.alloc o1).alloc o2) := ((Below.refl _ _).alloc (Nat.le_refl _) _).alloc (by simp only [World.size_alloc]; omega) _
set_option maxHeartbeats 2000000 in
theorem check_any (s : ByteArray) (w : World) (hs : s.size ≤ 140737488355328) :
    Calls Tryz.prog 57 #[.string s] w fun e w' => e = .returned (checkV s) ∧ Below w.heap.size w w' := by
  go_enter Tryz.func57, Tryz.ntmps57
  go_wp2
  go_loopw [3, 4, 5, 6] (fun lv fv _ _ wr => ∃ (l : Nat) (f : Bool) (p : Nat), Ck s l f p ∧ lv = .int .i64 l ∧ fv = .bool f ∧ (w.alloc (.cells #[.int .i64 0, .int .i64 0] 43)).iter s p = wr) (fun _ _ _ _ wr => s.size - wr.iterPos (w.heap.size + 1))
  case atStart => exact ⟨0, false, 0, ck_start s, rfl, rfl, rfl⟩
  case round =>
    obtain ⟨l, f, p, hck, rfl, rfl, rfl⟩ := hrel
    have hp1 := hck.1
    have hp2 := hck.2.1
    have hbel : ∀ q, Below w.heap.size w ((w.alloc (.cells #[.int .i64 0, .int .i64 0] 43)).iter s q) := fun q => below2 w _ _
    have HB := Lib.hid hbel
    clear hbel
    by_cases hp : p < s.size
    · have hnx := fun ty => run_next_any (P := Tryz.prog) (w.alloc (.cells #[.int .i64 0, .int .i64 0] 43)) s p ty hp
      simp only [World.size_alloc] at hnx
      have hn1 := decode_pos s p
      have hn2 := decode_in hp
      have HN := Lib.hid (fun hf => ck_next hck hp hf)
      have hr := decode_le s p
      generalize Utf8.decode s p = d at *
      obtain ⟨r, n⟩ := d
      simp only at hnx hn1 hn2 hr
      have hmeas : s.size - (((w.alloc (.cells #[.int .i64 0, .int .i64 0] 43)).iter s (p + n)).iterPos (w.heap.size + 1)) < s.size - (((w.alloc (.cells #[.int .i64 0, .int .i64 0] 43)).iter s p).iterPos (w.heap.size + 1)) := by
        have e := fun q => World.iterPos_iter (w.alloc (.cells #[.int .i64 0, .int .i64 0] 43)) s q
        simp only [World.size_alloc] at e
        rw [e, e]
        omega
      have HM := Lib.hid hmeas
      clear hmeas
      cases f
      · go_wp2
        go_roundw
        case rel => exact ⟨p, _, p + n, HN.out (.inl rfl), rfl, rfl, rfl⟩
        case measure => exact HM.out
      · by_cases h1 : p - l = 1
        · have c0 : ((w.alloc (.cells #[.int .i64 0, .int .i64 0] 43)).iter s (p + n)).cell? ⟨w.heap.size, 0, none⟩ = some (.int .i64 0) := ((Blk.new w _ _).alloc _).cell 0
          have c1 : ((w.alloc (.cells #[.int .i64 0, .int .i64 0] 43)).iter s (p + n)).cell? ⟨w.heap.size, 1, none⟩ = some (.int .i64 0) := ((Blk.new w _ _).alloc _).cell 1
          have f0 : ((w.alloc (.cells #[.int .i64 0, .int .i64 0] 43)).iter s (p + n)).frozen? ⟨w.heap.size, 0, none⟩ = false := ((Blk.new w _ _).alloc _).frozen 0
          have f1 : ((w.alloc (.cells #[.int .i64 0, .int .i64 0] 43)).iter s (p + n)).frozen? ⟨w.heap.size, 1, none⟩ = false := ((Blk.new w _ _).alloc _).frozen 1
          have HC := Lib.hid (ck_bad hck h1)
          have h1' : ((p : Int) - (l : Int) == 1) = true := by rw [beq_iff_eq]; omega
          clear h1
          go_wp2
          refine bodyPost_ret (v := .agg #[.int .i64 6, .int .i64 (l : Int)]) (by simp [results, Tryz.results57, go_sem, World.iter]) rfl ?_
          exact ⟨by rw [HC.out]; rfl, ((HB.out _).setCell (p := ⟨w.heap.size, 0, none⟩) (Nat.le_refl _) _).setCell (p := ⟨w.heap.size, 1, none⟩) (Nat.le_refl _) _⟩
        · have HN1 := Lib.hid (HN.out (.inr h1))
          have h1' : ((p : Int) - (l : Int) == 1) = false := by rw [beq_eq_false_iff_ne]; omega
          clear h1
          go_wp2
          go_roundw
          case rel => exact ⟨p, _, p + n, HN1.out, rfl, rfl, rfl⟩
          case measure => exact HM.out
    · obtain rfl : p = s.size := by omega
      have hnx := fun ty => run_next_end (P := Tryz.prog) (w.alloc (.cells #[.int .i64 0, .int .i64 0] 43)) s s.size ty (by omega)
      simp only [World.size_alloc] at hnx
      have c0 : ((w.alloc (.cells #[.int .i64 0, .int .i64 0] 43)).iter s s.size).cell? ⟨w.heap.size, 0, none⟩ = some (.int .i64 0) := ((Blk.new w _ _).alloc _).cell 0
      have c1 : ((w.alloc (.cells #[.int .i64 0, .int .i64 0] 43)).iter s s.size).cell? ⟨w.heap.size, 1, none⟩ = some (.int .i64 0) := ((Blk.new w _ _).alloc _).cell 1
      have f0 : ((w.alloc (.cells #[.int .i64 0, .int .i64 0] 43)).iter s s.size).frozen? ⟨w.heap.size, 0, none⟩ = false := ((Blk.new w _ _).alloc _).frozen 0
      have f1 : ((w.alloc (.cells #[.int .i64 0, .int .i64 0] 43)).iter s s.size).frozen? ⟨w.heap.size, 1, none⟩ = false := ((Blk.new w _ _).alloc _).frozen 1
      cases f
      · have HC := Lib.hid (ck_good hck (by omega) (.inl rfl))
        go_wp2
        refine bodyPost_ret (v := .agg #[.int .i64 0, .int .i64 0]) (by simp [results, Tryz.results57, go_sem, World.iter]) rfl ?_
        exact ⟨by rw [HC.out]; rfl, ((HB.out _).setCell (p := ⟨w.heap.size, 0, none⟩) (Nat.le_refl _) _).setCell (p := ⟨w.heap.size, 1, none⟩) (Nat.le_refl _) _⟩
      · by_cases h1 : s.size - l = 1
        · have HC := Lib.hid (ck_bad hck h1)
          have h1' : ((s.size : Int) - (l : Int) == 1) = true := by rw [beq_iff_eq]; omega
          clear h1
          go_wp2
          refine bodyPost_ret (v := .agg #[.int .i64 6, .int .i64 (l : Int)]) (by simp [results, Tryz.results57, go_sem, World.iter]) rfl ?_
          exact ⟨by rw [HC.out]; rfl, ((HB.out _).setCell (p := ⟨w.heap.size, 0, none⟩) (Nat.le_refl _) _).setCell (p := ⟨w.heap.size, 1, none⟩) (Nat.le_refl _) _⟩
        · have HC := Lib.hid (ck_good hck (by omega) (.inr h1))
          have h1' : ((s.size : Int) - (l : Int) == 1) = false := by rw [beq_eq_false_iff_ne]; omega
          clear h1
          go_wp2
          refine bodyPost_ret (v := .agg #[.int .i64 0, .int .i64 0]) (by simp [results, Tryz.results57, go_sem, World.iter]) rfl ?_
          exact ⟨by rw [HC.out]; rfl, ((HB.out _).setCell (p := ⟨w.heap.size, 0, none⟩) (Nat.le_refl _) _).setCell (p := ⟨w.heap.size, 1, none⟩) (Nat.le_refl _) _⟩
end Go.Proofs.YtkfofdmcggoonaaGreatDoor
/-
  The walks of internal/stringslite.IndexByte and strings.IndexByte (turned from the shelf's templates), and of path.control. No condition.
-/
namespace Go.Proofs.YtkfofdmcggoonaaGreatDoor
open Go.RowKit

set_option maxHeartbeats 1000000 in
set_option maxRecDepth 100000 in
theorem slite_any (s : ByteArray) (c : Int) (w : World) :
    Calls Tryz.prog 110 #[.string s, .int .u8 c] w fun e w' => e = .returned (.int .i64 (Lib.indexByte s.data.toList c.toNat.toUInt8)) ∧ w = w' := by
  go_enter Tryz.func110, Tryz.ntmps110
  go_wp2
  rw [run_callFunc_extern Tryz.func115 (by kernel_rfl) (by kernel_rfl) (by kernel_rfl) (e := Extern.BytealgIndexByte.indexByte) (by kernel_rfl), Lib.run_indexByteString]
  simp only [Result.andThen]
  rw [Oper.upon_value]
  go_wp2
  go_ret
  exact ⟨rfl, rfl⟩
set_option maxHeartbeats 1000000 in
theorem indexbyte_any (s : ByteArray) (c : Int) (w : World) :
    Calls Tryz.prog 98 #[.string s, .int .u8 c] w fun e w' => e = .returned (.int .i64 (Lib.indexByte s.data.toList c.toNat.toUInt8)) ∧ w = w' := by
  go_enter Tryz.func98, Tryz.ntmps98
  go_wp2_with (go_at_call 110; refine (slite_any _ _ _).mono ?_; rintro e w' ⟨rfl, rfl⟩)
  go_ret
  exact ⟨rfl, rfl⟩
/-- Where the byte stands in "[]/=\\". -/
def specialI (c : Int) : Int := Lib.indexByte [91, 93, 47, 61, 92] c.toNat.toUInt8
theorem special_any (c : Int) (w : World) :
    Calls Tryz.prog 98 #[.string ⟨#[91, 93, 47, 61, 92]⟩, .int .u8 c] w fun e w' => e = .returned (.int .i64 (specialI c)) ∧ w = w' := indexbyte_any _ c w

/-- May the rune not stand in a value? -/
def controlR (r : Int) : Bool := decide (r < 32) || r == 127
set_option maxHeartbeats 1000000 in
theorem control_any (r : Int) (w : World) :
    Calls Tryz.prog 102 #[.int .i32 r] w fun e w' => e = .returned (.bool (controlR r)) ∧ w = w' := by
  unfold controlR
  by_cases h : r < 32
  · go_enter Tryz.func102, Tryz.ntmps102
    go_wp2
    go_ret
    exact ⟨by simp [h], rfl⟩
  · go_enter Tryz.func102, Tryz.ntmps102
    go_wp2
    go_ret
    exact ⟨by simp; omega, rfl⟩
end Go.Proofs.YtkfofdmcggoonaaGreatDoor
/-
  What path's value reader computes; no program in sight. Plain Lean; no condition.
-/
namespace Go.Proofs.YtkfofdmcggoonaaGreatDoor
open Go.RowKit

/-- What the reader of a value answers from place q on: the bytes and the place behind the ']', or an error and its place. -/
def valF : Nat → ByteArray → Nat → Nat → Bool → List UInt8 → Except (Int × Int) (List UInt8 × Nat)
  | 0, s, _, _, _, _ => .error (160, (s.size : Int))
  | k + 1, s, fr, q, esc, out =>
    if q < s.size then
      (if esc = true then
        (if (Utf8.decode s q).1 < 128 ∧ 0 ≤ specialI (Utf8.decode s q).1 then valF k s fr (q + (Utf8.decode s q).2) false (out ++ [(Utf8.decode s q).1.toUInt8])
         else .error (160, (q : Int)))
      else if (Utf8.decode s q).1 = 92 then valF k s fr (q + (Utf8.decode s q).2) true out
      else if (Utf8.decode s q).1 = 93 then (if out.length > 64 then .error (3, (fr : Int)) else .ok (out, q + 1))
      else if controlR (Utf8.decode s q).1 = true ∨ (Utf8.decode s q).1 = 91 ∨ (Utf8.decode s q).1 = 47 ∨ (Utf8.decode s q).1 = 61 then .error (160, (q : Int))
      else valF k s fr (q + (Utf8.decode s q).2) false (out ++ (Utf8.encode (Utf8.decode s q).1).data.toList))
    else .error (160, (s.size : Int))
def valAt (s : ByteArray) (fr q : Nat) (esc : Bool) (out : List UInt8) : Except (Int × Int) (List UInt8 × Nat) := valF (s.size - q) s fr q esc out
theorem valF_fuel (s : ByteArray) (fr : Nat) : ∀ (k : Nat) (q : Nat) (esc : Bool) (out : List UInt8) (j : Nat), s.size ≤ q + k → k ≤ j → valF j s fr q esc out = valF k s fr q esc out := by
  intro k
  induction k with
  | zero =>
    intro q esc out j h1 h2
    cases j with
    | zero => rfl
    | succ j => simp only [valF]; rw [if_neg (by omega)]
  | succ k ih =>
    intro q esc out j h1 h2
    cases j with
    | zero => omega
    | succ j =>
      have hp := decode_pos s q
      simp only [valF]
      rw [ih (q + (Utf8.decode s q).2) false _ j (by omega) (by omega), ih (q + (Utf8.decode s q).2) true _ j (by omega) (by omega), ih (q + (Utf8.decode s q).2) false _ j (by omega) (by omega)]
theorem valAt_step {s : ByteArray} {fr q : Nat} {esc : Bool} {out : List UInt8} (h : q < s.size) : valAt s fr q esc out =
      (if esc = true then
        (if (Utf8.decode s q).1 < 128 ∧ 0 ≤ specialI (Utf8.decode s q).1 then valAt s fr (q + (Utf8.decode s q).2) false (out ++ [(Utf8.decode s q).1.toUInt8])
         else .error (160, (q : Int)))
      else if (Utf8.decode s q).1 = 92 then valAt s fr (q + (Utf8.decode s q).2) true out
      else if (Utf8.decode s q).1 = 93 then (if out.length > 64 then .error (3, (fr : Int)) else .ok (out, q + 1))
      else if controlR (Utf8.decode s q).1 = true ∨ (Utf8.decode s q).1 = 91 ∨ (Utf8.decode s q).1 = 47 ∨ (Utf8.decode s q).1 = 61 then .error (160, (q : Int))
      else valAt s fr (q + (Utf8.decode s q).2) false (out ++ (Utf8.encode (Utf8.decode s q).1).data.toList)) := by
  have hp := decode_pos s q
  unfold valAt
  rw [show s.size - q = (s.size - q - 1) + 1 by omega]
  simp only [valF]
  rw [if_pos h]
  have e := fun b o => (valF_fuel s fr (s.size - (q + (Utf8.decode s q).2)) (q + (Utf8.decode s q).2) b o (s.size - q - 1) (by omega) (by omega))
  rw [e false, e true, e false]
theorem valAt_end {s : ByteArray} {fr q : Nat} {esc : Bool} {out : List UInt8} (h : ¬ q < s.size) : valAt s fr q esc out = .error (160, (s.size : Int)) := by
  unfold valAt
  rw [show s.size - q = 0 by omega]
  rfl
section
variable {s : ByteArray} {fr q r n : Nat} {out : List UInt8}
theorem va_esc (h : q < s.size) (hd : Utf8.decode s q = (r, n)) (h1 : r < 128) (h2 : 0 ≤ specialI r) : valAt s fr q true out = valAt s fr (q + n) false (out ++ [r.toUInt8]) := by
  rw [valAt_step h, hd, if_pos rfl, if_pos ⟨h1, h2⟩]
theorem va_esc_bad (h : q < s.size) (hd : Utf8.decode s q = (r, n)) (h1 : ¬ (r < 128 ∧ 0 ≤ specialI r)) : valAt s fr q true out = .error (160, (q : Int)) := by
  rw [valAt_step h, hd, if_pos rfl, if_neg h1]
theorem va_back (h : q < s.size) (hd : Utf8.decode s q = (r, n)) (h1 : r = 92) : valAt s fr q false out = valAt s fr (q + n) true out := by
  rw [valAt_step h, hd, if_neg (by simp), if_pos h1]
theorem va_shut (h : q < s.size) (hd : Utf8.decode s q = (r, n)) (h1 : r = 93) : valAt s fr q false out = if out.length > 64 then .error (3, (fr : Int)) else .ok (out, q + 1) := by
  rw [valAt_step h, hd, if_neg (by simp), if_neg (by simp [h1]), if_pos h1]
theorem va_bad (h : q < s.size) (hd : Utf8.decode s q = (r, n)) (h1 : r ≠ 92) (h2 : r ≠ 93) (h3 : controlR r = true ∨ r = 91 ∨ r = 47 ∨ r = 61) : valAt s fr q false out = .error (160, (q : Int)) := by
  rw [valAt_step h, hd, if_neg (by simp), if_neg h1, if_neg h2, if_pos h3]
theorem va_go (h : q < s.size) (hd : Utf8.decode s q = (r, n)) (h1 : r ≠ 92) (h2 : r ≠ 93) (h3 : ¬ (controlR r = true ∨ r = 91 ∨ r = 47 ∨ r = 61)) : valAt s fr q false out = valAt s fr (q + n) false (out ++ (Utf8.encode r).data.toList) := by
  rw [valAt_step h, hd, if_neg (by simp), if_neg h1, if_neg h2, if_neg h3]
end
end Go.Proofs.YtkfofdmcggoonaaGreatDoor
/-
  The walks of the path reader's fail, next and name. Condition: the string is within the reach.
-/
namespace Go.Proofs.YtkfofdmcggoonaaGreatDoor
open Go.RowKit

/-- The reader at block g. -/
def PR (w : World) (g : Nat) (s : ByteArray) (at_ : Nat) (e a : Int) : Prop := Blk w g 98 #[.string s, .int .i64 (at_ : Int), .int .i64 e, .int .i64 a]
theorem PR.c0 {w : World} {g : Nat} {s : ByteArray} {at_ : Nat} {e a : Int} (h : PR w g s at_ e a) : w.cell? ⟨g, 0, none⟩ = some (.string s) := Blk.cell h 0
theorem PR.c1 {w : World} {g : Nat} {s : ByteArray} {at_ : Nat} {e a : Int} (h : PR w g s at_ e a) : w.cell? ⟨g, 1, none⟩ = some (.int .i64 (at_ : Int)) := Blk.cell h 1
theorem PR.c2 {w : World} {g : Nat} {s : ByteArray} {at_ : Nat} {e a : Int} (h : PR w g s at_ e a) : w.cell? ⟨g, 2, none⟩ = some (.int .i64 e) := Blk.cell h 2
theorem PR.c3 {w : World} {g : Nat} {s : ByteArray} {at_ : Nat} {e a : Int} (h : PR w g s at_ e a) : w.cell? ⟨g, 3, none⟩ = some (.int .i64 a) := Blk.cell h 3
theorem PR.goto_ {w : World} {g : Nat} {s : ByteArray} {at_ : Nat} {e a : Int} (h : PR w g s at_ e a) (k : Nat) : PR (w.setCell ⟨g, 1, none⟩ (.int .i64 (k : Int))) g s k e a := Blk.set_ h 1 _
theorem PR.fail {w : World} {g : Nat} {s : ByteArray} {at_ : Nat} {e a : Int} (h : PR w g s at_ e a) (x y : Int) : PR ((w.setCell ⟨g, 2, none⟩ (.int .i64 x)).setCell ⟨g, 3, none⟩ (.int .i64 y)) g s at_ x y := Blk.set_ (Blk.set_ h 2 _) 3 _
theorem PR.drewN {w : World} {g : Nat} {s : ByteArray} {at_ : Nat} {e a : Int} (h : PR w g s at_ e a) (k : Nat) : PR (w.drewN k) g s at_ e a := Blk.drewN h k

set_option maxHeartbeats 400000 in
theorem fail_any (g at_ : Nat) (s : ByteArray) (e a x y : Int) (w : World) (h : PR w g s at_ e a) :
    Calls Tryz.prog 58 #[.pointer (some ⟨g, 0, none⟩), .int .i64 x, .int .i64 y] w fun en w' => en = .returned (.bool false) ∧ PR w' g s at_ x y ∧ Only g w w' := by
  have c2 := h.c2
  have c3 := h.c3
  have f2 := Blk.frozen h 2
  have f3 := Blk.frozen h 3
  go_enter Tryz.func58, Tryz.ntmps58
  go_wp2
  go_ret
  exact ⟨rfl, h.fail x y, ((Only.refl g w).setCell (.inl rfl) _).setCell (.inl rfl) _⟩

/-- Does this byte stand there? -/
def standsB (s : ByteArray) (at_ : Nat) (b : UInt8) : Bool := if h : at_ < s.size then s[at_] == b else false
theorem stands_at {s : ByteArray} {at_ : Nat} {b : UInt8} (h : standsB s at_ b = true) : ∃ hl : at_ < s.size, s[at_] = b := by
  unfold standsB at h
  split at h
  · rename_i hl
    exact ⟨hl, by simpa using h⟩
  · cases h
set_option maxHeartbeats 1000000 in
theorem next_yes (g at_ : Nat) (s : ByteArray) (e a : Int) (b : UInt8) (w : World) (h : PR w g s at_ e a) (hs : s.size ≤ 140737488355328) (hb : standsB s at_ b = true) :
    Calls Tryz.prog 60 #[.pointer (some ⟨g, 0, none⟩), .int .u8 (b.toNat : Int)] w fun en w' => en = .returned (.bool true) ∧ PR w' g s (at_ + 1) e a ∧ Only g w w' := by
  have c0 := h.c0
  have c1 := h.c1
  have f1 := Blk.frozen h 1
  obtain ⟨hlt, hb⟩ := stands_at hb
  have hq : (at_ : Int) < (s.size : Int) := by omega
  have hv : ((s[at_].toNat : Int) == (b.toNat : Int)) = true := by rw [hb]; simp
  clear hb
  go_enter Tryz.func60, Tryz.ntmps60
  go_wp2
  go_quiet (fail)
  go_wp2
  go_ret
  exact ⟨rfl, (h.drewN _).goto_ (at_ + 1), ((Only.refl g w).drewN _).setCell (.inl rfl) _⟩
set_option maxHeartbeats 1000000 in
theorem next_no (g at_ : Nat) (s : ByteArray) (e a : Int) (b : UInt8) (w : World) (h : PR w g s at_ e a) (_hs : s.size ≤ 140737488355328) (hb : standsB s at_ b = false) :
    Calls Tryz.prog 60 #[.pointer (some ⟨g, 0, none⟩), .int .u8 (b.toNat : Int)] w fun en w' => en = .returned (.bool false) ∧ PR w' g s at_ e a ∧ Only g w w' := by
  have c0 := h.c0
  have c1 := h.c1
  unfold standsB at hb
  by_cases hlt : at_ < s.size
  · rw [dif_pos hlt] at hb
    have hq : (at_ : Int) < (s.size : Int) := by omega
    have hv : ((s[at_].toNat : Int) == (b.toNat : Int)) = false := by rw [← beq_dec]; exact hb
    clear hb
    go_enter Tryz.func60, Tryz.ntmps60
    go_wp2
    go_quiet (fail)
    go_wp2
    go_ret
    exact ⟨rfl, h.drewN _, (Only.refl g w).drewN _⟩
  · have hq : decide ((at_ : Int) < (s.size : Int)) = false := by simp; omega
    clear hb
    go_enter Tryz.func60, Tryz.ntmps60
    go_wp2
    go_quiet (fail)
    go_wp2
    go_ret
    exact ⟨rfl, h.drewN _, (Only.refl g w).drewN _⟩

/-- The end of the bytes of a name. -/
def nameEndF : Nat → ByteArray → Nat → Nat
  | 0, _, p => p
  | k + 1, s, p => if h : p < s.size then (if nameB s[p] = true then nameEndF k s (p + 1) else p) else p
def nameEnd (s : ByteArray) (p : Nat) : Nat := nameEndF (s.size - p) s p
theorem nameEnd_step {s : ByteArray} {p : Nat} (h : p < s.size) : nameEnd s p = if nameB s[p] = true then nameEnd s (p + 1) else p := by
  unfold nameEnd
  rw [show s.size - p = (s.size - (p + 1)) + 1 by omega]
  simp only [nameEndF]
  rw [dif_pos h]
theorem nameEnd_end {s : ByteArray} {p : Nat} (h : ¬ p < s.size) : nameEnd s p = p := by
  unfold nameEnd
  rw [show s.size - p = 0 by omega]
  rfl
theorem nameEnd_ge (s : ByteArray) : ∀ k p, p ≤ nameEndF k s p ∧ (p ≤ s.size → nameEndF k s p ≤ s.size) := by
  intro k
  induction k with
  | zero => intro p; exact ⟨Nat.le_refl _, fun h => h⟩
  | succ k ih =>
    intro p
    simp only [nameEndF]
    split
    · split
      · have := ih (p + 1)
        exact ⟨by omega, fun _ => this.2 (by omega)⟩
      · exact ⟨Nat.le_refl _, fun h => h⟩
    · exact ⟨Nat.le_refl _, fun h => h⟩
/-- What name leaves: an error, or the name. -/
def nameErr (s : ByteArray) (at_ : Nat) : Option (Int × Int) :=
  if h : at_ < s.size then (if startB s[at_] = true then (if nameEnd s at_ - at_ > 64 then some (3, (at_ : Int)) else none) else some (160, (at_ : Int))) else some (160, (at_ : Int))
def NameBad (g at_ : Nat) (s : ByteArray) (w : World) (e : Ending) (w' : World) : Prop := ∃ x y p, nameErr s at_ = some (x, y) ∧ e = .returned (.tuple #[.string ByteArray.empty, .bool false]) ∧ PR w' g s p x y ∧ Only g w w'
def NameGood (g at_ : Nat) (s : ByteArray) (x y : Int) (w : World) (e : Ending) (w' : World) : Prop := e = .returned (.tuple #[.string (s.extract at_ (nameEnd s at_)), .bool true]) ∧ PR w' g s (nameEnd s at_) x y ∧ Only g w w'
set_option maxHeartbeats 2000000 in
theorem name_short (g at_ : Nat) (s : ByteArray) (e a : Int) (w : World) (h : PR w g s at_ e a) (hle : at_ ≤ s.size) (hlt : ¬ at_ < s.size) :
    Calls Tryz.prog 86 #[.pointer (some ⟨g, 0, none⟩)] w (NameBad g at_ s w) := by
  have c0 := h.c0
  have c1 := h.c1
  obtain rfl : at_ = s.size := by omega
  have hE := Lib.hid (show nameErr s s.size = some (160, (s.size : Int)) by unfold nameErr; rw [dif_neg (by omega)])
  have HF := Lib.hid (fun k => fail_any g s.size s e a 160 s.size _ (h.drewN k))
  clear hle hlt
  go_enter Tryz.func86, Tryz.ntmps86
  go_wp2
  go_quiet (fail)
  go_wp2_with (go_at_call 58; refine (HF.out _).mono ?_; rintro en w1 ⟨rfl, hR, hO⟩)
  go_ret2
  exact ⟨160, s.size, s.size, hE.out, rfl, hR, ((Only.refl g w).drewN _).trans hO⟩
set_option maxHeartbeats 2000000 in
theorem name_nostart (g at_ : Nat) (s : ByteArray) (e a : Int) (w : World) (h : PR w g s at_ e a) (hlt : at_ < s.size) (hst : startB s[at_] = false) :
    Calls Tryz.prog 86 #[.pointer (some ⟨g, 0, none⟩)] w (NameBad g at_ s w) := by
  have c0 := h.c0
  have c1 := h.c1
  have hE := Lib.hid (show nameErr s at_ = some (160, (at_ : Int)) by unfold nameErr; rw [dif_pos hlt, hst]; rfl)
  have HF := Lib.hid (fun k => fail_any g at_ s e a 160 at_ _ (h.drewN k))
  have HS := Lib.hid (fun W => start_any s[at_] W)
  rw [hst] at HS
  have hne : ((at_ : Int) == (s.size : Int)) = false := by rw [beq_eq_false_iff_ne]; omega
  have hq : (at_ : Int) < (s.size : Int) := by omega
  clear hst
  go_enter Tryz.func86, Tryz.ntmps86
  go_wp2
  go_quiet ((go_at_call 61; exact quiet_left (HS.out _)))
  go_wp2_with (go_at_call 58; refine (HF.out _).mono ?_; rintro en w1 ⟨rfl, hR, hO⟩)
  go_ret2
  exact ⟨160, at_, at_, hE.out, rfl, hR, ((Only.refl g w).drewN _).trans hO⟩

/-- Where the reader at block g is. -/
def atOf (g : Nat) (w : World) : Nat := match w.cell? ⟨g, 1, none⟩ with | some (.int _ n) => n.toNat | _ => 0
theorem atOf_pr {w : World} {g : Nat} {s : ByteArray} {at_ : Nat} {e a : Int} (h : PR w g s at_ e a) : atOf g w = at_ := by
  unfold atOf
  rw [h.c1]
  simp
theorem name_measure {w : World} {g : Nat} {s : ByteArray} {p : Nat} {e a : Int} (h : PR w g s p e a) (hp : p < s.size) (k : Nat) : s.size - atOf g ((w.drewN k).setCell ⟨g, 1, none⟩ (.int .i64 ((p : Int) + 1))) < s.size - atOf g w := by
  have e1 := atOf_pr ((h.drewN k).goto_ (p + 1))
  have e2 := atOf_pr h
  rw [show ((p + 1 : Nat) : Int) = (p : Int) + 1 by omega] at e1
  rw [e1, e2]
  omega
/-- Where name's loop is. -/
def NameAt (g at_ : Nat) (s : ByteArray) (e a : Int) (w : World) (p : Nat) (wr : World) : Prop := PR wr g s p e a ∧ at_ ≤ p ∧ p ≤ s.size ∧ nameEnd s at_ = nameEnd s p ∧ Only g w wr
def NamePost (g at_ : Nat) (s : ByteArray) (e a : Int) (w : World) (en : Ending) (w' : World) : Prop := NameBad g at_ s w en w' ∨ (nameErr s at_ = none ∧ NameGood g at_ s e a w en w')
set_option maxHeartbeats 4000000 in
theorem name_go (g at_ : Nat) (s : ByteArray) (e a : Int) (w : World) (h : PR w g s at_ e a) (hlt : at_ < s.size) (hst : startB s[at_] = true) (hs : s.size ≤ 140737488355328) :
    Calls Tryz.prog 86 #[.pointer (some ⟨g, 0, none⟩)] w (NamePost g at_ s e a w) := by
  have c0 := h.c0
  have c1 := h.c1
  have HS := Lib.hid (fun W => start_any s[at_] W)
  rw [hst] at HS
  have hE := Lib.hid (show nameErr s at_ = if nameEnd s at_ - at_ > 64 then some (3, (at_ : Int)) else none by unfold nameErr; rw [dif_pos hlt, hst]; rfl)
  have hne : ((at_ : Int) == (s.size : Int)) = false := by rw [beq_eq_false_iff_ne]; omega
  have hq : (at_ : Int) < (s.size : Int) := by omega
  clear hst
  go_enter Tryz.func86, Tryz.ntmps86
  go_wp2
  go_quiet ((go_at_call 61; exact quiet_left (HS.out _)))
  go_wp2
  go_loopw [38] (fun _ wr => ∃ p, NameAt g at_ s e a w p wr) (fun _ wr => s.size - atOf g wr)
  case atStart => exact ⟨at_, h.drewN _, Nat.le_refl _, by omega, rfl, (Only.refl g w).drewN _⟩
  case round =>
    clear c0 c1 hne
    obtain ⟨p, hR, hp1, hp2, hpe, hO⟩ := hrel
    have c0 := hR.c0
    have c1 := hR.c1
    have f1 := Blk.frozen hR 1
    have HPE := Lib.hid hpe
    clear hpe
    by_cases hp : p < s.size
    · have hq2 : (p : Int) < (s.size : Int) := by omega
      have HN := Lib.hid (fun W => nbyte_any s[p] W)
      have HE := Lib.hid (nameEnd_step hp)
      cases hb : nameB s[p]
      · rw [hb] at HN HE
        have HE2 := Lib.hid (show nameEnd s p = p from HE.out)
        clear HE hb
        have HE := HE2
        clear HE2
        by_cases hl : p - at_ > 64
        · have hl1 : (64 : Int) < (p : Int) - (at_ : Int) := by omega
          have HF := Lib.hid (fun k => fail_any g p s e a 3 at_ _ (hR.drewN k))
          have HX := Lib.hid (show nameErr s at_ = some (3, (at_ : Int)) by rw [hE.out, HPE.out, HE.out, if_pos hl])
          clear hl
          go_wp2
          go_quiet (((go_at_call 62; exact quiet_left (HN.out _))))
          go_wp2_with (go_at_call 58; refine (HF.out _).mono ?_; rintro en w1 ⟨rfl, hR1, hO1⟩)
          go_ret2
          exact .inl ⟨3, at_, p, HX.out, rfl, hR1, (hO.drewN _).trans hO1⟩
        · have hl1 : ¬ (64 : Int) < (p : Int) - (at_ : Int) := by omega
          have HX := Lib.hid (show nameErr s at_ = none by rw [hE.out, HPE.out, HE.out, if_neg hl])
          have HY := Lib.hid (show nameEnd s at_ = p by rw [HPE.out, HE.out])
          have hp3 : (at_ : Int) ≤ (p : Int) := by omega
          have hp4 : (p : Int) ≤ (s.size : Int) := by omega
          clear hl
          go_wp2
          go_quiet (((go_at_call 62; exact quiet_left (HN.out _))))
          go_wp2
          go_quiet (fail)
          go_wp2
          go_ret2
          refine .inr ⟨HX.out, ?_⟩
          unfold NameGood
          rw [HY.out]
          exact ⟨rfl, (hR.drewN _).drewN _, (hO.drewN _).drewN _⟩
      · rw [hb] at HN HE
        have HE2 := Lib.hid (show nameEnd s p = nameEnd s (p + 1) from HE.out)
        clear HE hb
        go_wp2
        go_quiet ((go_at_call 62; exact quiet_left (HN.out _)))
        go_wp2
        go_roundw
        case rel => exact ⟨p + 1, (hR.drewN _).goto_ (p + 1), by omega, by omega, by rw [HPE.out, HE2.out], (hO.drewN _).setCell (.inl rfl) _⟩
        case measure => exact name_measure hR hp _
    · have hq2 : decide ((p : Int) < (s.size : Int)) = false := by simp; omega
      have HE := Lib.hid (nameEnd_end hp)
      by_cases hl : p - at_ > 64
      · have hl1 : (64 : Int) < (p : Int) - (at_ : Int) := by omega
        have HF := Lib.hid (fun k => fail_any g p s e a 3 at_ _ (hR.drewN k))
        have HX := Lib.hid (show nameErr s at_ = some (3, (at_ : Int)) by rw [hE.out, HPE.out, HE.out, if_pos hl])
        clear hl
        go_wp2
        go_quiet (fail)
        go_wp2_with (go_at_call 58; refine (HF.out _).mono ?_; rintro en w1 ⟨rfl, hR1, hO1⟩)
        go_ret2
        exact .inl ⟨3, at_, p, HX.out, rfl, hR1, (hO.drewN _).trans hO1⟩
      · have hl1 : ¬ (64 : Int) < (p : Int) - (at_ : Int) := by omega
        have HX := Lib.hid (show nameErr s at_ = none by rw [hE.out, HPE.out, HE.out, if_neg hl])
        have HY := Lib.hid (show nameEnd s at_ = p by rw [HPE.out, HE.out])
        have hp3 : (at_ : Int) ≤ (p : Int) := by omega
        have hp4 : (p : Int) ≤ (s.size : Int) := by omega
        clear hl
        go_wp2
        go_quiet (fail)
        go_wp2
        go_quiet (fail)
        go_wp2
        go_ret2
        refine .inr ⟨HX.out, ?_⟩
        unfold NameGood
        rw [HY.out]
        exact ⟨rfl, (hR.drewN _).drewN _, (hO.drewN _).drewN _⟩
end Go.Proofs.YtkfofdmcggoonaaGreatDoor
