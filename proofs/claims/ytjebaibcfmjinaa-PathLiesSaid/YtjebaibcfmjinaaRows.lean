/-
  No cell of these rows narrows 'for every input' (looked for: loops, veiled, ifaces, maps, wideKeys, modest, calm, conditions, laid).
  DERIVED. THE GIVEN ROWS OF THIS SEAT. 6 by the template 'for every input the law returns true; each argument reads behind the call as it read before'; 0 by the template 'total and deterministic' (their statements: YtjebaibcfmjinaaTotals.lean).
  GIVEN WITH THE SEED: the statements are not yours to turn. If you find one false, say at which input.
  Laid BY PROGRAM, IN A SANDBOX (cutbox-rows.mjs): the forced cells as the released guide's own fill.sh prints them over the translation 26b0cce2bd72ff58… (all of the seat's roots in one cut). By AI agents, Wed Nov 11 2026. No macro, syntax, notation, axiom, sorry.
-/
import Derived.Test.YtjebaibcfmjinaaChecked
import GoSem.Claim
import GoSem.ClaimJoined
import GoSem.ClaimMapViews
import Derived.JoinedTies
import Derived.KernelRfl
namespace Go.Proofs.Ytjebaibcfmjinaa
/- THE CELL 'sum', in the pinned program and in every row, IS THE sha256 OF THE DUMP (.gsa) THAT YtjebaibcfmjinaaProg.lean LOADS. Nothing in Lean hashes anything: it is a label: what it is worth is what the hold of that sum in a sandbox is worth. -/
noncomputable def Try.pinned : Pinned := { name := "ytjebaibcfmjinaa", sum := "26b0cce2bd72ff589e362d82ef0a377e19bdb451b7403675ab5337829f54b13b", checked := Try.checked }
namespace Rows
def none {H : Type} : Left H := { results := [], args := [] }

/-- 'vernacularlaw06.PathOrder': WHATEVER THE INPUT: true; the input reads as it did. -/
def pathOrderSpec : ChangeSpec := { name := "pathOrder", fn := fun _ => fun
  | [d1, d2, d3] => { results := [.lit (.bool true)], args := [d1, d2, d3] }
  | _ => none }
def pathOrderRow : OpenClaim := { program := "ytjebaibcfmjinaa", sum := "26b0cce2bd72ff589e362d82ef0a377e19bdb451b7403675ab5337829f54b13b", func := "vernacular/vernacularlaw06.PathOrder", spec := "pathOrder", inPlace := ["internal/bytealg.IndexByteString", "internal/abi.NoEscape", "internal/bytealg.MakeNoZero"], unfollowed := true, recurses := true, apart := false }
def PathOrderSaid : Prop := pathOrderRow.holds Try.pinned (OpenSpec.ofChange pathOrderSpec)

/-- ITS FALSE NEIGHBOUR: 'it returns false'. Refute it at one input. -/
def pathOrderWrong : ChangeSpec := { name := "pathOrder", fn := fun _ => fun
  | [d1, d2, d3] => { results := [.lit (.bool false)], args := [d1, d2, d3] }
  | _ => none }
def PathOrderWrongFalsely : Prop := pathOrderRow.holds Try.pinned (OpenSpec.ofChange pathOrderWrong)

/-- 'vernacularlaw06.PathLies': WHATEVER THE INPUT: true; the input reads as it did. -/
def pathLiesSpec : ChangeSpec := { name := "pathLies", fn := fun _ => fun
  | [d1, d2] => { results := [.lit (.bool true)], args := [d1, d2] }
  | _ => none }
def pathLiesRow : OpenClaim := { program := "ytjebaibcfmjinaa", sum := "26b0cce2bd72ff589e362d82ef0a377e19bdb451b7403675ab5337829f54b13b", func := "vernacular/vernacularlaw06.PathLies", spec := "pathLies", inPlace := ["internal/bytealg.IndexByteString", "internal/abi.NoEscape", "internal/bytealg.MakeNoZero"], unfollowed := true, recurses := true, apart := false }
def PathLiesSaid : Prop := pathLiesRow.holds Try.pinned (OpenSpec.ofChange pathLiesSpec)

/-- ITS FALSE NEIGHBOUR: 'it returns false'. Refute it at one input. -/
def pathLiesWrong : ChangeSpec := { name := "pathLies", fn := fun _ => fun
  | [d1, d2] => { results := [.lit (.bool false)], args := [d1, d2] }
  | _ => none }
def PathLiesWrongFalsely : Prop := pathLiesRow.holds Try.pinned (OpenSpec.ofChange pathLiesWrong)

/-- 'vernacularlaw06.PathGets': WHATEVER THE INPUT: true; the input reads as it did. -/
def pathGetsSpec : ChangeSpec := { name := "pathGets", fn := fun _ => fun
  | [d1, d2, d3] => { results := [.lit (.bool true)], args := [d1, d2, d3] }
  | _ => none }
def pathGetsRow : OpenClaim := { program := "ytjebaibcfmjinaa", sum := "26b0cce2bd72ff589e362d82ef0a377e19bdb451b7403675ab5337829f54b13b", func := "vernacular/vernacularlaw06.PathGets", spec := "pathGets", inPlace := ["internal/bytealg.IndexByteString", "internal/abi.NoEscape", "internal/bytealg.MakeNoZero"], unfollowed := true, recurses := true, apart := false }
def PathGetsSaid : Prop := pathGetsRow.holds Try.pinned (OpenSpec.ofChange pathGetsSpec)

/-- ITS FALSE NEIGHBOUR: 'it returns false'. Refute it at one input. -/
def pathGetsWrong : ChangeSpec := { name := "pathGets", fn := fun _ => fun
  | [d1, d2, d3] => { results := [.lit (.bool false)], args := [d1, d2, d3] }
  | _ => none }
def PathGetsWrongFalsely : Prop := pathGetsRow.holds Try.pinned (OpenSpec.ofChange pathGetsWrong)

/-- 'vernacularlaw06.PathThere': WHATEVER THE INPUT: true; the input reads as it did. -/
def pathThereSpec : ChangeSpec := { name := "pathThere", fn := fun _ => fun
  | [d1, d2] => { results := [.lit (.bool true)], args := [d1, d2] }
  | _ => none }
def pathThereRow : OpenClaim := { program := "ytjebaibcfmjinaa", sum := "26b0cce2bd72ff589e362d82ef0a377e19bdb451b7403675ab5337829f54b13b", func := "vernacular/vernacularlaw06.PathThere", spec := "pathThere", inPlace := ["internal/bytealg.IndexByteString", "internal/abi.NoEscape", "internal/bytealg.MakeNoZero"], unfollowed := true, recurses := true, apart := false }
def PathThereSaid : Prop := pathThereRow.holds Try.pinned (OpenSpec.ofChange pathThereSpec)

/-- ITS FALSE NEIGHBOUR: 'it returns false'. Refute it at one input. -/
def pathThereWrong : ChangeSpec := { name := "pathThere", fn := fun _ => fun
  | [d1, d2] => { results := [.lit (.bool false)], args := [d1, d2] }
  | _ => none }
def PathThereWrongFalsely : Prop := pathThereRow.holds Try.pinned (OpenSpec.ofChange pathThereWrong)

/-- 'vernacularlaw06.PathKeys': WHATEVER THE INPUT: true; the input reads as it did. -/
def pathKeysSpec : ChangeSpec := { name := "pathKeys", fn := fun _ => fun
  | [d1, d2, d3] => { results := [.lit (.bool true)], args := [d1, d2, d3] }
  | _ => none }
def pathKeysRow : OpenClaim := { program := "ytjebaibcfmjinaa", sum := "26b0cce2bd72ff589e362d82ef0a377e19bdb451b7403675ab5337829f54b13b", func := "vernacular/vernacularlaw06.PathKeys", spec := "pathKeys", inPlace := ["internal/bytealg.IndexByteString", "internal/abi.NoEscape", "internal/bytealg.MakeNoZero", "internal/bytealg.abigen_runtime_cmpstring"], unfollowed := true, recurses := true, apart := false }
def PathKeysSaid : Prop := pathKeysRow.holds Try.pinned (OpenSpec.ofChange pathKeysSpec)

/-- ITS FALSE NEIGHBOUR: 'it returns false'. Refute it at one input. -/
def pathKeysWrong : ChangeSpec := { name := "pathKeys", fn := fun _ => fun
  | [d1, d2, d3] => { results := [.lit (.bool false)], args := [d1, d2, d3] }
  | _ => none }
def PathKeysWrongFalsely : Prop := pathKeysRow.holds Try.pinned (OpenSpec.ofChange pathKeysWrong)

/-- 'vernacularlaw06.PathPuts': WHATEVER THE INPUT: true; the input reads as it did. -/
def pathPutsSpec : ChangeSpec := { name := "pathPuts", fn := fun _ => fun
  | [d1, d2, d3] => { results := [.lit (.bool true)], args := [d1, d2, d3] }
  | _ => none }
def pathPutsRow : OpenClaim := { program := "ytjebaibcfmjinaa", sum := "26b0cce2bd72ff589e362d82ef0a377e19bdb451b7403675ab5337829f54b13b", func := "vernacular/vernacularlaw06.PathPuts", spec := "pathPuts", inPlace := ["internal/bytealg.IndexByteString", "internal/abi.NoEscape", "internal/bytealg.MakeNoZero", "internal/bytealg.abigen_runtime_cmpstring"], unfollowed := true, recurses := true, apart := false }
def PathPutsSaid : Prop := pathPutsRow.holds Try.pinned (OpenSpec.ofChange pathPutsSpec)

/-- ITS FALSE NEIGHBOUR: 'it returns false'. Refute it at one input. -/
def pathPutsWrong : ChangeSpec := { name := "pathPuts", fn := fun _ => fun
  | [d1, d2, d3] => { results := [.lit (.bool false)], args := [d1, d2, d3] }
  | _ => none }
def PathPutsWrongFalsely : Prop := pathPutsRow.holds Try.pinned (OpenSpec.ofChange pathPutsWrong)

/- THE SECOND FORM. 'bulk': how many values and letters a reading holds, each counted each time it is reached (what is shared counts as often as it is met; a slice's spare places count too). A statement '..UptoSaid' is the law's where the arguments, and the package variables that the reading takes, are together of bulk at most 1048576: NARROWER than '..Said'. Prove '..Said' where nothing that the law and all that it calls make is longer than what came in: it says more and counts as full. Else prove '..UptoSaid'. A law counts once. -/
mutual
def uptoBulk {H : Type} : DataW H → Nat
  | .lit (.string bytes) => bytes.length + 1
  | .lit _ => 1
  | .nil => 1
  | .ptr d => uptoBulk d + 1
  | .slice elems spare => uptoBulkAll elems + uptoBulkAll spare + 1
  | .agg parts => uptoBulkAll parts + 1
  | .iface _ d => uptoBulk d + 1
  | .map entries => uptoBulkEntries entries + 1
  | .held _ => 1
def uptoBulkAll {H : Type} : List (DataW H) → Nat
  | [] => 0
  | d :: r => uptoBulk d + uptoBulkAll r
def uptoBulkEntries {H : Type} : List (Lit × DataW H) → Nat
  | [] => 0
  | x :: r => uptoBulkEntry x + uptoBulkEntries r
def uptoBulkEntry {H : Type} : Lit × DataW H → Nat
  | (.string bytes, d) => bytes.length + uptoBulk d + 1
  | (_, d) => uptoBulk d + 1
 end
def uptoSmall : (H : Type) → List (DataW H) → Bool := fun _ ds => decide (uptoBulkAll ds ≤ 1048576)
def OpenSpec.upto (s : _root_.Go.ChangeSpec) : _root_.Go.OpenSpec := { _root_.Go.OpenSpec.ofChange s with cond := some uptoSmall }

/-- 'vernacularlaw06.PathOrder', WHERE WHAT IT READS IS OF BULK AT MOST 1048576: true; the input reads as it did. -/
def pathOrderUptoRow : OpenClaim := { program := "ytjebaibcfmjinaa", sum := "26b0cce2bd72ff589e362d82ef0a377e19bdb451b7403675ab5337829f54b13b", func := "vernacular/vernacularlaw06.PathOrder", spec := "pathOrder", inPlace := ["internal/bytealg.IndexByteString", "internal/abi.NoEscape", "internal/bytealg.MakeNoZero"], unfollowed := true, recurses := true, apart := false, narrowed := true }
def PathOrderUptoSaid : Prop := pathOrderUptoRow.holds Try.pinned (OpenSpec.upto pathOrderSpec)

/-- 'vernacularlaw06.PathLies', WHERE WHAT IT READS IS OF BULK AT MOST 1048576: true; the input reads as it did. -/
def pathLiesUptoRow : OpenClaim := { program := "ytjebaibcfmjinaa", sum := "26b0cce2bd72ff589e362d82ef0a377e19bdb451b7403675ab5337829f54b13b", func := "vernacular/vernacularlaw06.PathLies", spec := "pathLies", inPlace := ["internal/bytealg.IndexByteString", "internal/abi.NoEscape", "internal/bytealg.MakeNoZero"], unfollowed := true, recurses := true, apart := false, narrowed := true }
def PathLiesUptoSaid : Prop := pathLiesUptoRow.holds Try.pinned (OpenSpec.upto pathLiesSpec)

/-- 'vernacularlaw06.PathGets', WHERE WHAT IT READS IS OF BULK AT MOST 1048576: true; the input reads as it did. -/
def pathGetsUptoRow : OpenClaim := { program := "ytjebaibcfmjinaa", sum := "26b0cce2bd72ff589e362d82ef0a377e19bdb451b7403675ab5337829f54b13b", func := "vernacular/vernacularlaw06.PathGets", spec := "pathGets", inPlace := ["internal/bytealg.IndexByteString", "internal/abi.NoEscape", "internal/bytealg.MakeNoZero"], unfollowed := true, recurses := true, apart := false, narrowed := true }
def PathGetsUptoSaid : Prop := pathGetsUptoRow.holds Try.pinned (OpenSpec.upto pathGetsSpec)

/-- 'vernacularlaw06.PathThere', WHERE WHAT IT READS IS OF BULK AT MOST 1048576: true; the input reads as it did. -/
def pathThereUptoRow : OpenClaim := { program := "ytjebaibcfmjinaa", sum := "26b0cce2bd72ff589e362d82ef0a377e19bdb451b7403675ab5337829f54b13b", func := "vernacular/vernacularlaw06.PathThere", spec := "pathThere", inPlace := ["internal/bytealg.IndexByteString", "internal/abi.NoEscape", "internal/bytealg.MakeNoZero"], unfollowed := true, recurses := true, apart := false, narrowed := true }
def PathThereUptoSaid : Prop := pathThereUptoRow.holds Try.pinned (OpenSpec.upto pathThereSpec)

/-- 'vernacularlaw06.PathKeys', WHERE WHAT IT READS IS OF BULK AT MOST 1048576: true; the input reads as it did. -/
def pathKeysUptoRow : OpenClaim := { program := "ytjebaibcfmjinaa", sum := "26b0cce2bd72ff589e362d82ef0a377e19bdb451b7403675ab5337829f54b13b", func := "vernacular/vernacularlaw06.PathKeys", spec := "pathKeys", inPlace := ["internal/bytealg.IndexByteString", "internal/abi.NoEscape", "internal/bytealg.MakeNoZero", "internal/bytealg.abigen_runtime_cmpstring"], unfollowed := true, recurses := true, apart := false, narrowed := true }
def PathKeysUptoSaid : Prop := pathKeysUptoRow.holds Try.pinned (OpenSpec.upto pathKeysSpec)

/-- 'vernacularlaw06.PathPuts', WHERE WHAT IT READS IS OF BULK AT MOST 1048576: true; the input reads as it did. -/
def pathPutsUptoRow : OpenClaim := { program := "ytjebaibcfmjinaa", sum := "26b0cce2bd72ff589e362d82ef0a377e19bdb451b7403675ab5337829f54b13b", func := "vernacular/vernacularlaw06.PathPuts", spec := "pathPuts", inPlace := ["internal/bytealg.IndexByteString", "internal/abi.NoEscape", "internal/bytealg.MakeNoZero", "internal/bytealg.abigen_runtime_cmpstring"], unfollowed := true, recurses := true, apart := false, narrowed := true }
def PathPutsUptoSaid : Prop := pathPutsUptoRow.holds Try.pinned (OpenSpec.upto pathPutsSpec)

end Rows
end Go.Proofs.Ytjebaibcfmjinaa
