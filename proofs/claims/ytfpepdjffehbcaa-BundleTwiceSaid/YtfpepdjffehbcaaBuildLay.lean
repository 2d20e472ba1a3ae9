/-
  The shelf's contracts laid at this program (printed by the shelf's own command, in plain words). No condition.
-/
import Derived.Shelf.Strings.Builder1
import Derived.Test.YtfpepdjffehbcaaProg
namespace Go.Proofs.Ytfpepdjffehbcaa
open Go.Shelf
def buildS_ren : Go.Shelf.Ren := ⟨fun | 169 => 72 | n => n, fun | 70 => 137 | 9 => 9 | 0 => 0 | 72 => 139 | 37 => 42 | 127 => 162 | 3 => 3 | 5 => 5 | n => n, fun | n => n⟩
theorem buildS : Go.Proofs.Lays.n169 Try.prog buildS_ren := {
  mixed := by kernel_rfl
  f169 := Try.func72.trans (congrArg some (by kernel_rfl))
  t0 := Try.underlying0
  a0 := Try.isAgg0
  z0 := Try.sizeOf0
  v0 := Try.zeroValue0
  t3 := Try.underlying3
  a3 := Try.isAgg3
  z3 := Try.sizeOf3
  v3 := Try.zeroValue3
  t9 := Try.underlying9
  a9 := Try.isAgg9
  z9 := Try.sizeOf9
  v9 := Try.zeroValue9
  t37 := Try.underlying42
  a37 := Try.isAgg42
  z37 := Try.sizeOf42
  v37 := Try.zeroValue42
  t70 := Try.underlying137
  a70 := Try.isAgg137
  z70 := Try.sizeOf137
  v70 := Try.zeroValue137
  t72 := Try.underlying139
  a72 := Try.isAgg139
  z72 := Try.sizeOf139
  v72 := Try.zeroValue139
  t127 := Try.underlying162
  a127 := Try.isAgg162
  z127 := Try.sizeOf162
  v127 := Try.zeroValue162 }
end Go.Proofs.Ytfpepdjffehbcaa
