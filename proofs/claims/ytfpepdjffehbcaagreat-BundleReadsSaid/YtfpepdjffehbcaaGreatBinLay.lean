/-
  The shelf's contracts laid at this program (printed by the shelf's own command, in plain words). No condition.
-/
import Derived.Shelf.Spec.SearchS
import Derived.Test.YtfpepdjffehbcaaGreatProg
namespace Go.Proofs.YtfpepdjffehbcaaGreat
open Go.Shelf
def binS_ren : Go.Shelf.Ren := ⟨fun | 26 => 87 | 33 => 99 | 34 => 123 | 38 => 134 | n => n, fun | 24 => 40 | 9 => 9 | 3 => 3 | 4 => 4 | 40 => 57 | 0 => 0 | n => n, fun | n => n⟩
theorem binS : Go.Proofs.Lays2.n26 Tryz.prog binS_ren := {
  mixed := by kernel_rfl
  f26 := Tryz.func87.trans (congrArg some (by kernel_rfl))
  f33 := Tryz.func99.trans (congrArg some (by kernel_rfl))
  f34 := Tryz.func123.trans (congrArg some (by kernel_rfl))
  f38 := Tryz.func134.trans (congrArg some (by kernel_rfl))
  t0 := Tryz.underlying0
  a0 := Tryz.isAgg0
  z0 := Tryz.sizeOf0
  v0 := Tryz.zeroValue0
  t3 := Tryz.underlying3
  a3 := Tryz.isAgg3
  z3 := Tryz.sizeOf3
  v3 := Tryz.zeroValue3
  t4 := Tryz.underlying4
  a4 := Tryz.isAgg4
  z4 := Tryz.sizeOf4
  v4 := Tryz.zeroValue4
  t9 := Tryz.underlying9
  a9 := Tryz.isAgg9
  z9 := Tryz.sizeOf9
  v9 := Tryz.zeroValue9
  t24 := Tryz.underlying40
  a24 := Tryz.isAgg40
  z24 := Tryz.sizeOf40
  v24 := Tryz.zeroValue40
  t40 := Tryz.underlying57
  a40 := Tryz.isAgg57
  z40 := Tryz.sizeOf57
  v40 := Tryz.zeroValue57 }
end Go.Proofs.YtfpepdjffehbcaaGreat
