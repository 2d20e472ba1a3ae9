/-
  The shelf's contracts laid at this program (printed by the shelf's own command, in plain words). No condition.
-/
import Derived.Shelf.SlSorted.Search
import Derived.Test.YtagekiaejhjpnaaProg
namespace Go.Proofs.Ytagekiaejhjpnaa
open Go.Shelf
def searchL_ren : Go.Shelf.Ren := ⟨fun | 16 => 30 | n => n, fun | 3 => 3 | 35 => 60 | 4 => 4 | 38 => 75 | n => n, fun | n => n⟩
theorem searchL : Go.Proofs.SlLaysO.n16 Try.prog searchL_ren := {
  mixed := by kernel_rfl
  f16 := Try.func30.trans (congrArg some (by kernel_rfl))
  t3 := Try.underlying3
  a3 := Try.isAgg3
  z3 := Try.sizeOf3
  v3 := Try.zeroValue3
  t4 := Try.underlying4
  a4 := Try.isAgg4
  z4 := Try.sizeOf4
  v4 := Try.zeroValue4
  t35 := Try.underlying60
  a35 := Try.isAgg60
  z35 := Try.sizeOf60
  v35 := Try.zeroValue60
  t38 := Try.underlying75
  a38 := Try.isAgg75
  z38 := Try.sizeOf75
  v38 := Try.zeroValue75 }
end Go.Proofs.Ytagekiaejhjpnaa
