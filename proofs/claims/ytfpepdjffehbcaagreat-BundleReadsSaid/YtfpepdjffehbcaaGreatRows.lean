/-
  No cell of these rows narrows 'for every input' (looked for: loops, veiled, ifaces, maps, wideKeys, modest, calm, conditions, laid).
  DERIVED. THE GIVEN ROWS OF THIS SEAT. 5 by the template 'for every input the law returns true; each argument reads behind the call as it read before'; 0 by the template 'total and deterministic' (their statements: YtfpepdjffehbcaaGreatTotals.lean).
  GIVEN WITH THE SEED: the statements are not yours to turn. If you find one false, say at which input.
  Laid BY PROGRAM, IN A SANDBOX (cutbox-rows.mjs): the forced cells as the released guide's own fill.sh prints them over the translation 11fcbd7f64b6ee01… (all of the seat's roots in one cut). By AI agents, Wed Nov 11 2026. No macro, syntax, notation, axiom, sorry.
-/
import Derived.Test.YtfpepdjffehbcaaGreatChecked
import GoSem.Claim
import GoSem.ClaimJoined
import GoSem.ClaimMapViews
import Derived.JoinedTies
import Derived.KernelRfl
namespace Go.Proofs.YtfpepdjffehbcaaGreat
/- THE CELL 'sum', in the pinned program and in every row, IS THE sha256 OF THE DUMP (.gsa) THAT YtfpepdjffehbcaaGreatProg.lean LOADS. Nothing in Lean hashes anything: it is a label: what it is worth is what the hold of that sum in a sandbox is worth. -/
noncomputable def Tryz.pinned : Pinned := { name := "ytfpepdjffehbcaagreat", sum := "11fcbd7f64b6ee01bd574e957b5dbcbd10f45da3a4387e4ab548d75ec5e96222", checked := Tryz.checked }
namespace Rows
def none {H : Type} : Left H := { results := [], args := [] }

/-- 'vernacularlaw22.BundleEncodes': WHATEVER THE INPUT: true; the input reads as it did. -/
def bundleEncodesSpec : ChangeSpec := { name := "bundleEncodes", fn := fun _ => fun
  | [d] => { results := [.lit (.bool true)], args := [d] }
  | _ => none }
def bundleEncodesRow : OpenClaim := { program := "ytfpepdjffehbcaagreat", sum := "11fcbd7f64b6ee01bd574e957b5dbcbd10f45da3a4387e4ab548d75ec5e96222", func := "vernacular/vernacularlaw22.BundleEncodes", spec := "bundleEncodes", inPlace := ["internal/bytealg.IndexByteString", "internal/abi.NoEscape"], unfollowed := true, recurses := true, plainKeys := false, apart := false }
def BundleEncodesSaid : Prop := bundleEncodesRow.holds Tryz.pinned (OpenSpec.ofChange bundleEncodesSpec)

/-- ITS FALSE NEIGHBOUR: 'it returns false'. Refute it at one input. -/
def bundleEncodesWrong : ChangeSpec := { name := "bundleEncodes", fn := fun _ => fun
  | [d] => { results := [.lit (.bool false)], args := [d] }
  | _ => none }
def BundleEncodesWrongFalsely : Prop := bundleEncodesRow.holds Tryz.pinned (OpenSpec.ofChange bundleEncodesWrong)

/-- 'vernacularlaw22.BundleParts': WHATEVER THE INPUT: true; the input reads as it did. -/
def bundlePartsSpec : ChangeSpec := { name := "bundleParts", fn := fun _ => fun
  | [d] => { results := [.lit (.bool true)], args := [d] }
  | _ => none }
def bundlePartsRow : OpenClaim := { program := "ytfpepdjffehbcaagreat", sum := "11fcbd7f64b6ee01bd574e957b5dbcbd10f45da3a4387e4ab548d75ec5e96222", func := "vernacular/vernacularlaw22.BundleParts", spec := "bundleParts", inPlace := ["internal/bytealg.IndexByteString", "internal/abi.NoEscape"], unfollowed := true, recurses := true, plainKeys := false, apart := false }
def BundlePartsSaid : Prop := bundlePartsRow.holds Tryz.pinned (OpenSpec.ofChange bundlePartsSpec)

/-- ITS FALSE NEIGHBOUR: 'it returns false'. Refute it at one input. -/
def bundlePartsWrong : ChangeSpec := { name := "bundleParts", fn := fun _ => fun
  | [d] => { results := [.lit (.bool false)], args := [d] }
  | _ => none }
def BundlePartsWrongFalsely : Prop := bundlePartsRow.holds Tryz.pinned (OpenSpec.ofChange bundlePartsWrong)

/-- 'vernacularlaw22.BundleChecks': WHATEVER THE INPUT: true; the input reads as it did. -/
def bundleChecksSpec : ChangeSpec := { name := "bundleChecks", fn := fun _ => fun
  | [d] => { results := [.lit (.bool true)], args := [d] }
  | _ => none }
def bundleChecksRow : OpenClaim := { program := "ytfpepdjffehbcaagreat", sum := "11fcbd7f64b6ee01bd574e957b5dbcbd10f45da3a4387e4ab548d75ec5e96222", func := "vernacular/vernacularlaw22.BundleChecks", spec := "bundleChecks", inPlace := ["internal/bytealg.IndexByteString", "internal/abi.NoEscape", "internal/bytealg.abigen_runtime_cmpstring"], unfollowed := true, recurses := true, plainKeys := false, apart := false }
def BundleChecksSaid : Prop := bundleChecksRow.holds Tryz.pinned (OpenSpec.ofChange bundleChecksSpec)

/-- ITS FALSE NEIGHBOUR: 'it returns false'. Refute it at one input. -/
def bundleChecksWrong : ChangeSpec := { name := "bundleChecks", fn := fun _ => fun
  | [d] => { results := [.lit (.bool false)], args := [d] }
  | _ => none }
def BundleChecksWrongFalsely : Prop := bundleChecksRow.holds Tryz.pinned (OpenSpec.ofChange bundleChecksWrong)

/-- 'vernacularlaw22.BundleOrder': WHATEVER THE INPUT: true; the input reads as it did. -/
def bundleOrderSpec : ChangeSpec := { name := "bundleOrder", fn := fun _ => fun
  | [d1, d2] => { results := [.lit (.bool true)], args := [d1, d2] }
  | _ => none }
def bundleOrderRow : OpenClaim := { program := "ytfpepdjffehbcaagreat", sum := "11fcbd7f64b6ee01bd574e957b5dbcbd10f45da3a4387e4ab548d75ec5e96222", func := "vernacular/vernacularlaw22.BundleOrder", spec := "bundleOrder", inPlace := ["internal/bytealg.IndexByteString", "internal/abi.NoEscape", "internal/bytealg.abigen_runtime_cmpstring"], unfollowed := true, recurses := true, plainKeys := false, apart := false }
def BundleOrderSaid : Prop := bundleOrderRow.holds Tryz.pinned (OpenSpec.ofChange bundleOrderSpec)

/-- ITS FALSE NEIGHBOUR: 'it returns false'. Refute it at one input. -/
def bundleOrderWrong : ChangeSpec := { name := "bundleOrder", fn := fun _ => fun
  | [d1, d2] => { results := [.lit (.bool false)], args := [d1, d2] }
  | _ => none }
def BundleOrderWrongFalsely : Prop := bundleOrderRow.holds Tryz.pinned (OpenSpec.ofChange bundleOrderWrong)

/-- 'vernacularlaw22.BundleReads': WHATEVER THE INPUT: true; the input reads as it did. -/
def bundleReadsSpec : ChangeSpec := { name := "bundleReads", fn := fun _ => fun
  | [d] => { results := [.lit (.bool true)], args := [d] }
  | _ => none }
def bundleReadsRow : OpenClaim := { program := "ytfpepdjffehbcaagreat", sum := "11fcbd7f64b6ee01bd574e957b5dbcbd10f45da3a4387e4ab548d75ec5e96222", func := "vernacular/vernacularlaw22.BundleReads", spec := "bundleReads", inPlace := ["internal/bytealg.IndexByteString", "internal/abi.NoEscape", "internal/bytealg.abigen_runtime_cmpstring"], unfollowed := true, recurses := true, plainKeys := false, apart := false }
def BundleReadsSaid : Prop := bundleReadsRow.holds Tryz.pinned (OpenSpec.ofChange bundleReadsSpec)

/-- ITS FALSE NEIGHBOUR: 'it returns false'. Refute it at one input. -/
def bundleReadsWrong : ChangeSpec := { name := "bundleReads", fn := fun _ => fun
  | [d] => { results := [.lit (.bool false)], args := [d] }
  | _ => none }
def BundleReadsWrongFalsely : Prop := bundleReadsRow.holds Tryz.pinned (OpenSpec.ofChange bundleReadsWrong)

/- THE SECOND FORM. 'bulk': how many values and letters a reading holds, each counted each time it is reached (what is shared counts as often as it is met; a slice's spare places count too). A statement '..UptoSaid' is the law's where the arguments, and the package variables that the reading takes, are together of bulk at most 1048576: NARROWER than '..Said'. Prove '..Said' where nothing that the law and all that it calls make is longer than what came in: it says more and counts as full. Else prove '..UptoSaid'. A law counts once. -/
mutual
def uptoBulk {H : Type} : DataW H → Nat
  | .lit (.string bytes) => bytes.length + 1
  | .lit _ => 1
  | .nil => 1
  | .ptr d => uptoBulk d + 1
  | .slice elems spare => uptoBulkAll elems + uptoBulkAll spare + 1
  | .agg parts => uptoBulkAll parts + 1
  | .iface _ d => uptoBulk d + 1
  | .map entries => uptoBulkEntries entries + 1
  | .held _ => 1
def uptoBulkAll {H : Type} : List (DataW H) → Nat
  | [] => 0
  | d :: r => uptoBulk d + uptoBulkAll r
def uptoBulkEntries {H : Type} : List (Lit × DataW H) → Nat
  | [] => 0
  | x :: r => uptoBulkEntry x + uptoBulkEntries r
def uptoBulkEntry {H : Type} : Lit × DataW H → Nat
  | (.string bytes, d) => bytes.length + uptoBulk d + 1
  | (_, d) => uptoBulk d + 1
 end
def uptoSmall : (H : Type) → List (DataW H) → Bool := fun _ ds => decide (uptoBulkAll ds ≤ 1048576)
def OpenSpec.upto (s : _root_.Go.ChangeSpec) : _root_.Go.OpenSpec := { _root_.Go.OpenSpec.ofChange s with cond := some uptoSmall }

/-- 'vernacularlaw22.BundleEncodes', WHERE WHAT IT READS IS OF BULK AT MOST 1048576: true; the input reads as it did. -/
def bundleEncodesUptoRow : OpenClaim := { program := "ytfpepdjffehbcaagreat", sum := "11fcbd7f64b6ee01bd574e957b5dbcbd10f45da3a4387e4ab548d75ec5e96222", func := "vernacular/vernacularlaw22.BundleEncodes", spec := "bundleEncodes", inPlace := ["internal/bytealg.IndexByteString", "internal/abi.NoEscape"], unfollowed := true, recurses := true, plainKeys := false, apart := false, narrowed := true }
def BundleEncodesUptoSaid : Prop := bundleEncodesUptoRow.holds Tryz.pinned (OpenSpec.upto bundleEncodesSpec)

/-- 'vernacularlaw22.BundleParts', WHERE WHAT IT READS IS OF BULK AT MOST 1048576: true; the input reads as it did. -/
def bundlePartsUptoRow : OpenClaim := { program := "ytfpepdjffehbcaagreat", sum := "11fcbd7f64b6ee01bd574e957b5dbcbd10f45da3a4387e4ab548d75ec5e96222", func := "vernacular/vernacularlaw22.BundleParts", spec := "bundleParts", inPlace := ["internal/bytealg.IndexByteString", "internal/abi.NoEscape"], unfollowed := true, recurses := true, plainKeys := false, apart := false, narrowed := true }
def BundlePartsUptoSaid : Prop := bundlePartsUptoRow.holds Tryz.pinned (OpenSpec.upto bundlePartsSpec)

/-- 'vernacularlaw22.BundleChecks', WHERE WHAT IT READS IS OF BULK AT MOST 1048576: true; the input reads as it did. -/
def bundleChecksUptoRow : OpenClaim := { program := "ytfpepdjffehbcaagreat", sum := "11fcbd7f64b6ee01bd574e957b5dbcbd10f45da3a4387e4ab548d75ec5e96222", func := "vernacular/vernacularlaw22.BundleChecks", spec := "bundleChecks", inPlace := ["internal/bytealg.IndexByteString", "internal/abi.NoEscape", "internal/bytealg.abigen_runtime_cmpstring"], unfollowed := true, recurses := true, plainKeys := false, apart := false, narrowed := true }
def BundleChecksUptoSaid : Prop := bundleChecksUptoRow.holds Tryz.pinned (OpenSpec.upto bundleChecksSpec)

/-- 'vernacularlaw22.BundleOrder', WHERE WHAT IT READS IS OF BULK AT MOST 1048576: true; the input reads as it did. -/
def bundleOrderUptoRow : OpenClaim := { program := "ytfpepdjffehbcaagreat", sum := "11fcbd7f64b6ee01bd574e957b5dbcbd10f45da3a4387e4ab548d75ec5e96222", func := "vernacular/vernacularlaw22.BundleOrder", spec := "bundleOrder", inPlace := ["internal/bytealg.IndexByteString", "internal/abi.NoEscape", "internal/bytealg.abigen_runtime_cmpstring"], unfollowed := true, recurses := true, plainKeys := false, apart := false, narrowed := true }
def BundleOrderUptoSaid : Prop := bundleOrderUptoRow.holds Tryz.pinned (OpenSpec.upto bundleOrderSpec)

/-- 'vernacularlaw22.BundleReads', WHERE WHAT IT READS IS OF BULK AT MOST 1048576: true; the input reads as it did. -/
def bundleReadsUptoRow : OpenClaim := { program := "ytfpepdjffehbcaagreat", sum := "11fcbd7f64b6ee01bd574e957b5dbcbd10f45da3a4387e4ab548d75ec5e96222", func := "vernacular/vernacularlaw22.BundleReads", spec := "bundleReads", inPlace := ["internal/bytealg.IndexByteString", "internal/abi.NoEscape", "internal/bytealg.abigen_runtime_cmpstring"], unfollowed := true, recurses := true, plainKeys := false, apart := false, narrowed := true }
def BundleReadsUptoSaid : Prop := bundleReadsUptoRow.holds Tryz.pinned (OpenSpec.upto bundleReadsSpec)

end Rows
end Go.Proofs.YtfpepdjffehbcaaGreat
