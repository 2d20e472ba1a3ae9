/-
  The shelf's contracts laid at this program (printed by the shelf's own command, in plain words). No condition.
-/
import Derived.Shelf.Spec.SearchS
import Derived.Test.YtfpepdjffehbcaaProg
namespace Go.Proofs.Ytfpepdjffehbcaa
open Go.Shelf
def binS_ren : Go.Shelf.Ren := ⟨fun | 26 => 47 | 33 => 60 | 34 => 73 | 38 => 81 | n => n, fun | 24 => 27 | 9 => 9 | 3 => 3 | 4 => 4 | 40 => 100 | 0 => 0 | n => n, fun | n => n⟩
theorem binS : Go.Proofs.Lays2.n26 Try.prog binS_ren := {
  mixed := by kernel_rfl
  f26 := Try.func47.trans (congrArg some (by kernel_rfl))
  f33 := Try.func60.trans (congrArg some (by kernel_rfl))
  f34 := Try.func73.trans (congrArg some (by kernel_rfl))
  f38 := Try.func81.trans (congrArg some (by kernel_rfl))
  t0 := Try.underlying0
  a0 := Try.isAgg0
  z0 := Try.sizeOf0
  v0 := Try.zeroValue0
  t3 := Try.underlying3
  a3 := Try.isAgg3
  z3 := Try.sizeOf3
  v3 := Try.zeroValue3
  t4 := Try.underlying4
  a4 := Try.isAgg4
  z4 := Try.sizeOf4
  v4 := Try.zeroValue4
  t9 := Try.underlying9
  a9 := Try.isAgg9
  z9 := Try.sizeOf9
  v9 := Try.zeroValue9
  t24 := Try.underlying27
  a24 := Try.isAgg27
  z24 := Try.sizeOf27
  v24 := Try.zeroValue27
  t40 := Try.underlying100
  a40 := Try.isAgg100
  z40 := Try.sizeOf100
  v40 := Try.zeroValue100 }
end Go.Proofs.Ytfpepdjffehbcaa
