/-
  The shelf's contracts laid at this program (printed by the shelf's own command, in plain words). No condition.
-/
import Derived.Shelf.Spec.SearchS
import Derived.Test.YtagekiaejhjpnaaProg
namespace Go.Proofs.Ytagekiaejhjpnaa
open Go.Shelf
def binS_ren : Go.Shelf.Ren := ⟨fun | 26 => 39 | 33 => 51 | 34 => 52 | 38 => 65 | n => n, fun | 24 => 22 | 9 => 9 | 3 => 3 | 4 => 4 | 40 => 75 | 0 => 0 | n => n, fun | n => n⟩
theorem binS : Go.Proofs.Lays2.n26 Try.prog binS_ren := {
  mixed := by kernel_rfl
  f26 := Try.func39.trans (congrArg some (by kernel_rfl))
  f33 := Try.func51.trans (congrArg some (by kernel_rfl))
  f34 := Try.func52.trans (congrArg some (by kernel_rfl))
  f38 := Try.func65.trans (congrArg some (by kernel_rfl))
  t0 := Try.underlying0
  a0 := Try.isAgg0
  z0 := Try.sizeOf0
  v0 := Try.zeroValue0
  t3 := Try.underlying3
  a3 := Try.isAgg3
  z3 := Try.sizeOf3
  v3 := Try.zeroValue3
  t4 := Try.underlying4
  a4 := Try.isAgg4
  z4 := Try.sizeOf4
  v4 := Try.zeroValue4
  t9 := Try.underlying9
  a9 := Try.isAgg9
  z9 := Try.sizeOf9
  v9 := Try.zeroValue9
  t24 := Try.underlying22
  a24 := Try.isAgg22
  z24 := Try.sizeOf22
  v24 := Try.zeroValue22
  t40 := Try.underlying75
  a40 := Try.isAgg75
  z40 := Try.sizeOf75
  v40 := Try.zeroValue75 }
end Go.Proofs.Ytagekiaejhjpnaa
