/-
  The walks of internal/stringslite.IndexByte and strings.IndexByte (turned from the shelf's templates), and of path.control. No condition.
-/
import Derived.Test.YtjebaibcfmjinaaProg
import Derived.Test.YtjebaibcfmjinaaWords
import Derived.Outline
import Derived.Lib.Hide
import Derived.Lib.Strings
import Derived.Lib.Walk
import Derived.Lib.Bytealg
import Derived.Deep.QuietTactic
namespace Go.Proofs.Ytjebaibcfmjinaa
open Go.RowKit

set_option maxHeartbeats 1000000 in
set_option maxRecDepth 100000 in
theorem slite_any (s : ByteArray) (c : Int) (w : World) :
    Calls Try.prog 95 #[.string s, .int .u8 c] w fun e w' => e = .returned (.int .i64 (Lib.indexByte s.data.toList c.toNat.toUInt8)) ∧ w = w' := by
  go_enter Try.func95, Try.ntmps95
  go_wp2
  rw [run_callFunc_extern Try.func109 (by kernel_rfl) (by kernel_rfl) (by kernel_rfl) (e := Extern.BytealgIndexByte.indexByte) (by kernel_rfl), Lib.run_indexByteString]
  simp only [Result.andThen]
  rw [Oper.upon_value]
  go_wp2
  go_ret
  exact ⟨rfl, rfl⟩
set_option maxHeartbeats 1000000 in
theorem indexbyte_any (s : ByteArray) (c : Int) (w : World) :
    Calls Try.prog 71 #[.string s, .int .u8 c] w fun e w' => e = .returned (.int .i64 (Lib.indexByte s.data.toList c.toNat.toUInt8)) ∧ w = w' := by
  go_enter Try.func71, Try.ntmps71
  go_wp2_with (go_at_call 95; refine (slite_any _ _ _).mono ?_; rintro e w' ⟨rfl, rfl⟩)
  go_ret
  exact ⟨rfl, rfl⟩
/-- Where the byte stands in "[]/=\\". -/
def specialI (c : Int) : Int := Lib.indexByte [91, 93, 47, 61, 92] c.toNat.toUInt8
theorem special_any (c : Int) (w : World) :
    Calls Try.prog 71 #[.string ⟨#[91, 93, 47, 61, 92]⟩, .int .u8 c] w fun e w' => e = .returned (.int .i64 (specialI c)) ∧ w = w' := indexbyte_any _ c w

/-- May the rune not stand in a value? -/
def controlR (r : Int) : Bool := decide (r < 32) || r == 127
set_option maxHeartbeats 1000000 in
theorem control_any (r : Int) (w : World) :
    Calls Try.prog 75 #[.int .i32 r] w fun e w' => e = .returned (.bool (controlR r)) ∧ w = w' := by
  unfold controlR
  by_cases h : r < 32
  · go_enter Try.func75, Try.ntmps75
    go_wp2
    go_ret
    exact ⟨by simp [h], rfl⟩
  · go_enter Try.func75, Try.ntmps75
    go_wp2
    go_ret
    exact ⟨by simp; omega, rfl⟩
end Go.Proofs.Ytjebaibcfmjinaa
