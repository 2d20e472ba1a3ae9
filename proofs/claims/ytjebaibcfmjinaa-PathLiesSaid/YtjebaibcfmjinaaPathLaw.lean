/-
  The walks of internal/stringslite.IndexByte and strings.IndexByte (turned from the shelf's templates), and of path.control. No condition.
-/
import Derived.Test.YtjebaibcfmjinaaProg
import Derived.Test.YtjebaibcfmjinaaWords
import Derived.Outline
import Derived.Lib.Hide
import Derived.Lib.Strings
import Derived.Lib.Walk
import Derived.Lib.Bytealg
import Derived.Deep.QuietTactic
import Derived.Test.YtjebaibcfmjinaaUtfCheck
namespace Go.Proofs.Ytjebaibcfmjinaa
open Go.RowKit

set_option maxHeartbeats 1000000 in
set_option maxRecDepth 100000 in
theorem slite_any (s : ByteArray) (c : Int) (w : World) :
    Calls Try.prog 95 #[.string s, .int .u8 c] w fun e w' => e = .returned (.int .i64 (Lib.indexByte s.data.toList c.toNat.toUInt8)) ∧ w = w' := by
  go_enter Try.func95, Try.ntmps95
  go_wp2
  rw [run_callFunc_extern Try.func109 (by kernel_rfl) (by kernel_rfl) (by kernel_rfl) (e := Extern.BytealgIndexByte.indexByte) (by kernel_rfl), Lib.run_indexByteString]
  simp only [Result.andThen]
  rw [Oper.upon_value]
  go_wp2
  go_ret
  exact ⟨rfl, rfl⟩
set_option maxHeartbeats 1000000 in
theorem indexbyte_any (s : ByteArray) (c : Int) (w : World) :
    Calls Try.prog 71 #[.string s, .int .u8 c] w fun e w' => e = .returned (.int .i64 (Lib.indexByte s.data.toList c.toNat.toUInt8)) ∧ w = w' := by
  go_enter Try.func71, Try.ntmps71
  go_wp2_with (go_at_call 95; refine (slite_any _ _ _).mono ?_; rintro e w' ⟨rfl, rfl⟩)
  go_ret
  exact ⟨rfl, rfl⟩
/-- Where the byte stands in "[]/=\\". -/
def specialI (c : Int) : Int := Lib.indexByte [91, 93, 47, 61, 92] c.toNat.toUInt8
theorem special_any (c : Int) (w : World) :
    Calls Try.prog 71 #[.string ⟨#[91, 93, 47, 61, 92]⟩, .int .u8 c] w fun e w' => e = .returned (.int .i64 (specialI c)) ∧ w = w' := indexbyte_any _ c w

/-- May the rune not stand in a value? -/
def controlR (r : Int) : Bool := decide (r < 32) || r == 127
set_option maxHeartbeats 1000000 in
theorem control_any (r : Int) (w : World) :
    Calls Try.prog 75 #[.int .i32 r] w fun e w' => e = .returned (.bool (controlR r)) ∧ w = w' := by
  unfold controlR
  by_cases h : r < 32
  · go_enter Try.func75, Try.ntmps75
    go_wp2
    go_ret
    exact ⟨by simp [h], rfl⟩
  · go_enter Try.func75, Try.ntmps75
    go_wp2
    go_ret
    exact ⟨by simp; omega, rfl⟩
end Go.Proofs.Ytjebaibcfmjinaa
/-
  What path's value reader computes; no program in sight. Plain Lean; no condition.
-/
namespace Go.Proofs.Ytjebaibcfmjinaa
open Go.RowKit

/-- What the reader of a value answers from place q on: the bytes and the place behind the ']', or an error and its place. -/
def valF : Nat → ByteArray → Nat → Nat → Bool → List UInt8 → Except (Int × Int) (List UInt8 × Nat)
  | 0, s, _, _, _, _ => .error (160, (s.size : Int))
  | k + 1, s, fr, q, esc, out =>
    if q < s.size then
      (if esc = true then
        (if (Utf8.decode s q).1 < 128 ∧ 0 ≤ specialI (Utf8.decode s q).1 then valF k s fr (q + (Utf8.decode s q).2) false (out ++ [(Utf8.decode s q).1.toUInt8])
         else .error (160, (q : Int)))
      else if (Utf8.decode s q).1 = 92 then valF k s fr (q + (Utf8.decode s q).2) true out
      else if (Utf8.decode s q).1 = 93 then (if out.length > 64 then .error (3, (fr : Int)) else .ok (out, q + 1))
      else if controlR (Utf8.decode s q).1 = true ∨ (Utf8.decode s q).1 = 91 ∨ (Utf8.decode s q).1 = 47 ∨ (Utf8.decode s q).1 = 61 then .error (160, (q : Int))
      else valF k s fr (q + (Utf8.decode s q).2) false (out ++ (Utf8.encode (Utf8.decode s q).1).data.toList))
    else .error (160, (s.size : Int))
def valAt (s : ByteArray) (fr q : Nat) (esc : Bool) (out : List UInt8) : Except (Int × Int) (List UInt8 × Nat) := valF (s.size - q) s fr q esc out
theorem valF_fuel (s : ByteArray) (fr : Nat) : ∀ (k : Nat) (q : Nat) (esc : Bool) (out : List UInt8) (j : Nat), s.size ≤ q + k → k ≤ j → valF j s fr q esc out = valF k s fr q esc out := by
  intro k
  induction k with
  | zero =>
    intro q esc out j h1 h2
    cases j with
    | zero => rfl
    | succ j => simp only [valF]; rw [if_neg (by omega)]
  | succ k ih =>
    intro q esc out j h1 h2
    cases j with
    | zero => omega
    | succ j =>
      have hp := decode_pos s q
      simp only [valF]
      rw [ih (q + (Utf8.decode s q).2) false _ j (by omega) (by omega), ih (q + (Utf8.decode s q).2) true _ j (by omega) (by omega), ih (q + (Utf8.decode s q).2) false _ j (by omega) (by omega)]
theorem valAt_step {s : ByteArray} {fr q : Nat} {esc : Bool} {out : List UInt8} (h : q < s.size) : valAt s fr q esc out =
      (if esc = true then
        (if (Utf8.decode s q).1 < 128 ∧ 0 ≤ specialI (Utf8.decode s q).1 then valAt s fr (q + (Utf8.decode s q).2) false (out ++ [(Utf8.decode s q).1.toUInt8])
         else .error (160, (q : Int)))
      else if (Utf8.decode s q).1 = 92 then valAt s fr (q + (Utf8.decode s q).2) true out
      else if (Utf8.decode s q).1 = 93 then (if out.length > 64 then .error (3, (fr : Int)) else .ok (out, q + 1))
      else if controlR (Utf8.decode s q).1 = true ∨ (Utf8.decode s q).1 = 91 ∨ (Utf8.decode s q).1 = 47 ∨ (Utf8.decode s q).1 = 61 then .error (160, (q : Int))
      else valAt s fr (q + (Utf8.decode s q).2) false (out ++ (Utf8.encode (Utf8.decode s q).1).data.toList)) := by
  have hp := decode_pos s q
  unfold valAt
  rw [show s.size - q = (s.size - q - 1) + 1 by omega]
  simp only [valF]
  rw [if_pos h]
  have e := fun b o => (valF_fuel s fr (s.size - (q + (Utf8.decode s q).2)) (q + (Utf8.decode s q).2) b o (s.size - q - 1) (by omega) (by omega))
  rw [e false, e true, e false]
theorem valAt_end {s : ByteArray} {fr q : Nat} {esc : Bool} {out : List UInt8} (h : ¬ q < s.size) : valAt s fr q esc out = .error (160, (s.size : Int)) := by
  unfold valAt
  rw [show s.size - q = 0 by omega]
  rfl
section
variable {s : ByteArray} {fr q r n : Nat} {out : List UInt8}
theorem va_esc (h : q < s.size) (hd : Utf8.decode s q = (r, n)) (h1 : r < 128) (h2 : 0 ≤ specialI r) : valAt s fr q true out = valAt s fr (q + n) false (out ++ [r.toUInt8]) := by
  rw [valAt_step h, hd, if_pos rfl, if_pos ⟨h1, h2⟩]
theorem va_esc_bad (h : q < s.size) (hd : Utf8.decode s q = (r, n)) (h1 : ¬ (r < 128 ∧ 0 ≤ specialI r)) : valAt s fr q true out = .error (160, (q : Int)) := by
  rw [valAt_step h, hd, if_pos rfl, if_neg h1]
theorem va_back (h : q < s.size) (hd : Utf8.decode s q = (r, n)) (h1 : r = 92) : valAt s fr q false out = valAt s fr (q + n) true out := by
  rw [valAt_step h, hd, if_neg (by simp), if_pos h1]
theorem va_shut (h : q < s.size) (hd : Utf8.decode s q = (r, n)) (h1 : r = 93) : valAt s fr q false out = if out.length > 64 then .error (3, (fr : Int)) else .ok (out, q + 1) := by
  rw [valAt_step h, hd, if_neg (by simp), if_neg (by simp [h1]), if_pos h1]
theorem va_bad (h : q < s.size) (hd : Utf8.decode s q = (r, n)) (h1 : r ≠ 92) (h2 : r ≠ 93) (h3 : controlR r = true ∨ r = 91 ∨ r = 47 ∨ r = 61) : valAt s fr q false out = .error (160, (q : Int)) := by
  rw [valAt_step h, hd, if_neg (by simp), if_neg h1, if_neg h2, if_pos h3]
theorem va_go (h : q < s.size) (hd : Utf8.decode s q = (r, n)) (h1 : r ≠ 92) (h2 : r ≠ 93) (h3 : ¬ (controlR r = true ∨ r = 91 ∨ r = 47 ∨ r = 61)) : valAt s fr q false out = valAt s fr (q + n) false (out ++ (Utf8.encode r).data.toList) := by
  rw [valAt_step h, hd, if_neg (by simp), if_neg h1, if_neg h2, if_neg h3]
end
end Go.Proofs.Ytjebaibcfmjinaa
