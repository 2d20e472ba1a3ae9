/-
  No cell of these rows narrows 'for every input' (looked for: loops, veiled, ifaces, maps, wideKeys, modest, calm, conditions, laid).
  DERIVED. THE GIVEN ROWS OF THIS SEAT. 4 by the template 'for every input the law returns true; each argument reads behind the call as it read before'; 0 by the template 'total and deterministic' (their statements: YtfpepdjffehbcaaTotals.lean).
  GIVEN WITH THE SEED: the statements are not yours to turn. If you find one false, say at which input.
  Laid BY PROGRAM, IN A SANDBOX (cutbox-rows.mjs): the forced cells as the released guide's own fill.sh prints them over the translation 876261f3c77d14ca… (all of the seat's roots in one cut). By AI agents, Wed Nov 11 2026. No macro, syntax, notation, axiom, sorry.
-/
import Derived.Test.YtfpepdjffehbcaaChecked
import GoSem.Claim
import GoSem.ClaimJoined
import GoSem.ClaimMapViews
import Derived.JoinedTies
import Derived.KernelRfl
namespace Go.Proofs.Ytfpepdjffehbcaa
/- THE CELL 'sum', in the pinned program and in every row, IS THE sha256 OF THE DUMP (.gsa) THAT YtfpepdjffehbcaaProg.lean LOADS. Nothing in Lean hashes anything: it is a label: what it is worth is what the hold of that sum in a sandbox is worth. -/
noncomputable def Try.pinned : Pinned := { name := "ytfpepdjffehbcaa", sum := "876261f3c77d14ca40c96e8065aec001178a552192b8a96b8be97069f124c7e7", checked := Try.checked }
namespace Rows
def none {H : Type} : Left H := { results := [], args := [] }

/-- 'vernacularlaw22.BundleGets': WHATEVER THE INPUT: true; the input reads as it did. -/
def bundleGetsSpec : ChangeSpec := { name := "bundleGets", fn := fun _ => fun
  | [d1, d2, d3] => { results := [.lit (.bool true)], args := [d1, d2, d3] }
  | _ => none }
def bundleGetsRow : OpenClaim := { program := "ytfpepdjffehbcaa", sum := "876261f3c77d14ca40c96e8065aec001178a552192b8a96b8be97069f124c7e7", func := "vernacular/vernacularlaw22.BundleGets", spec := "bundleGets", inPlace := ["internal/bytealg.IndexByteString", "internal/abi.NoEscape"], unfollowed := true, recurses := true, apart := false }
def BundleGetsSaid : Prop := bundleGetsRow.holds Try.pinned (OpenSpec.ofChange bundleGetsSpec)

/-- ITS FALSE NEIGHBOUR: 'it returns false'. Refute it at one input. -/
def bundleGetsWrong : ChangeSpec := { name := "bundleGets", fn := fun _ => fun
  | [d1, d2, d3] => { results := [.lit (.bool false)], args := [d1, d2, d3] }
  | _ => none }
def BundleGetsWrongFalsely : Prop := bundleGetsRow.holds Try.pinned (OpenSpec.ofChange bundleGetsWrong)

/-- 'vernacularlaw22.BundleLimits': WHATEVER THE INPUT: true; the input reads as it did. -/
def bundleLimitsSpec : ChangeSpec := { name := "bundleLimits", fn := fun _ => fun
  | [d1, d2] => { results := [.lit (.bool true)], args := [d1, d2] }
  | _ => none }
def bundleLimitsRow : OpenClaim := { program := "ytfpepdjffehbcaa", sum := "876261f3c77d14ca40c96e8065aec001178a552192b8a96b8be97069f124c7e7", func := "vernacular/vernacularlaw22.BundleLimits", spec := "bundleLimits", inPlace := ["internal/bytealg.IndexByteString", "internal/abi.NoEscape"], unfollowed := true, recurses := true, apart := false }
def BundleLimitsSaid : Prop := bundleLimitsRow.holds Try.pinned (OpenSpec.ofChange bundleLimitsSpec)

/-- ITS FALSE NEIGHBOUR: 'it returns false'. Refute it at one input. -/
def bundleLimitsWrong : ChangeSpec := { name := "bundleLimits", fn := fun _ => fun
  | [d1, d2] => { results := [.lit (.bool false)], args := [d1, d2] }
  | _ => none }
def BundleLimitsWrongFalsely : Prop := bundleLimitsRow.holds Try.pinned (OpenSpec.ofChange bundleLimitsWrong)

/-- 'vernacularlaw22.BundleOne': WHATEVER THE INPUT: true; the input reads as it did. -/
def bundleOneSpec : ChangeSpec := { name := "bundleOne", fn := fun _ => fun
  | [d1, d2] => { results := [.lit (.bool true)], args := [d1, d2] }
  | _ => none }
def bundleOneRow : OpenClaim := { program := "ytfpepdjffehbcaa", sum := "876261f3c77d14ca40c96e8065aec001178a552192b8a96b8be97069f124c7e7", func := "vernacular/vernacularlaw22.BundleOne", spec := "bundleOne", inPlace := ["internal/bytealg.IndexByteString", "internal/abi.NoEscape"], unfollowed := true, recurses := true, apart := false }
def BundleOneSaid : Prop := bundleOneRow.holds Try.pinned (OpenSpec.ofChange bundleOneSpec)

/-- ITS FALSE NEIGHBOUR: 'it returns false'. Refute it at one input. -/
def bundleOneWrong : ChangeSpec := { name := "bundleOne", fn := fun _ => fun
  | [d1, d2] => { results := [.lit (.bool false)], args := [d1, d2] }
  | _ => none }
def BundleOneWrongFalsely : Prop := bundleOneRow.holds Try.pinned (OpenSpec.ofChange bundleOneWrong)

/-- 'vernacularlaw22.BundleTwice': WHATEVER THE INPUT: true; the input reads as it did. -/
def bundleTwiceSpec : ChangeSpec := { name := "bundleTwice", fn := fun _ => fun
  | [d] => { results := [.lit (.bool true)], args := [d] }
  | _ => none }
def bundleTwiceRow : OpenClaim := { program := "ytfpepdjffehbcaa", sum := "876261f3c77d14ca40c96e8065aec001178a552192b8a96b8be97069f124c7e7", func := "vernacular/vernacularlaw22.BundleTwice", spec := "bundleTwice", inPlace := ["internal/bytealg.IndexByteString", "internal/abi.NoEscape"], unfollowed := true, recurses := true, apart := false }
def BundleTwiceSaid : Prop := bundleTwiceRow.holds Try.pinned (OpenSpec.ofChange bundleTwiceSpec)

/-- ITS FALSE NEIGHBOUR: 'it returns false'. Refute it at one input. -/
def bundleTwiceWrong : ChangeSpec := { name := "bundleTwice", fn := fun _ => fun
  | [d] => { results := [.lit (.bool false)], args := [d] }
  | _ => none }
def BundleTwiceWrongFalsely : Prop := bundleTwiceRow.holds Try.pinned (OpenSpec.ofChange bundleTwiceWrong)

/- THE SECOND FORM. 'bulk': how many values and letters a reading holds, each counted each time it is reached (what is shared counts as often as it is met; a slice's spare places count too). A statement '..UptoSaid' is the law's where the arguments, and the package variables that the reading takes, are together of bulk at most 1048576: NARROWER than '..Said'. Prove '..Said' where nothing that the law and all that it calls make is longer than what came in: it says more and counts as full. Else prove '..UptoSaid'. A law counts once. -/
mutual
def uptoBulk {H : Type} : DataW H → Nat
  | .lit (.string bytes) => bytes.length + 1
  | .lit _ => 1
  | .nil => 1
  | .ptr d => uptoBulk d + 1
  | .slice elems spare => uptoBulkAll elems + uptoBulkAll spare + 1
  | .agg parts => uptoBulkAll parts + 1
  | .iface _ d => uptoBulk d + 1
  | .map entries => uptoBulkEntries entries + 1
  | .held _ => 1
def uptoBulkAll {H : Type} : List (DataW H) → Nat
  | [] => 0
  | d :: r => uptoBulk d + uptoBulkAll r
def uptoBulkEntries {H : Type} : List (Lit × DataW H) → Nat
  | [] => 0
  | x :: r => uptoBulkEntry x + uptoBulkEntries r
def uptoBulkEntry {H : Type} : Lit × DataW H → Nat
  | (.string bytes, d) => bytes.length + uptoBulk d + 1
  | (_, d) => uptoBulk d + 1
 end
def uptoSmall : (H : Type) → List (DataW H) → Bool := fun _ ds => decide (uptoBulkAll ds ≤ 1048576)
def OpenSpec.upto (s : _root_.Go.ChangeSpec) : _root_.Go.OpenSpec := { _root_.Go.OpenSpec.ofChange s with cond := some uptoSmall }

/-- 'vernacularlaw22.BundleGets', WHERE WHAT IT READS IS OF BULK AT MOST 1048576: true; the input reads as it did. -/
def bundleGetsUptoRow : OpenClaim := { program := "ytfpepdjffehbcaa", sum := "876261f3c77d14ca40c96e8065aec001178a552192b8a96b8be97069f124c7e7", func := "vernacular/vernacularlaw22.BundleGets", spec := "bundleGets", inPlace := ["internal/bytealg.IndexByteString", "internal/abi.NoEscape"], unfollowed := true, recurses := true, apart := false, narrowed := true }
def BundleGetsUptoSaid : Prop := bundleGetsUptoRow.holds Try.pinned (OpenSpec.upto bundleGetsSpec)

/-- 'vernacularlaw22.BundleLimits', WHERE WHAT IT READS IS OF BULK AT MOST 1048576: true; the input reads as it did. -/
def bundleLimitsUptoRow : OpenClaim := { program := "ytfpepdjffehbcaa", sum := "876261f3c77d14ca40c96e8065aec001178a552192b8a96b8be97069f124c7e7", func := "vernacular/vernacularlaw22.BundleLimits", spec := "bundleLimits", inPlace := ["internal/bytealg.IndexByteString", "internal/abi.NoEscape"], unfollowed := true, recurses := true, apart := false, narrowed := true }
def BundleLimitsUptoSaid : Prop := bundleLimitsUptoRow.holds Try.pinned (OpenSpec.upto bundleLimitsSpec)

/-- 'vernacularlaw22.BundleOne', WHERE WHAT IT READS IS OF BULK AT MOST 1048576: true; the input reads as it did. -/
def bundleOneUptoRow : OpenClaim := { program := "ytfpepdjffehbcaa", sum := "876261f3c77d14ca40c96e8065aec001178a552192b8a96b8be97069f124c7e7", func := "vernacular/vernacularlaw22.BundleOne", spec := "bundleOne", inPlace := ["internal/bytealg.IndexByteString", "internal/abi.NoEscape"], unfollowed := true, recurses := true, apart := false, narrowed := true }
def BundleOneUptoSaid : Prop := bundleOneUptoRow.holds Try.pinned (OpenSpec.upto bundleOneSpec)

/-- 'vernacularlaw22.BundleTwice', WHERE WHAT IT READS IS OF BULK AT MOST 1048576: true; the input reads as it did. -/
def bundleTwiceUptoRow : OpenClaim := { program := "ytfpepdjffehbcaa", sum := "876261f3c77d14ca40c96e8065aec001178a552192b8a96b8be97069f124c7e7", func := "vernacular/vernacularlaw22.BundleTwice", spec := "bundleTwice", inPlace := ["internal/bytealg.IndexByteString", "internal/abi.NoEscape"], unfollowed := true, recurses := true, apart := false, narrowed := true }
def BundleTwiceUptoSaid : Prop := bundleTwiceUptoRow.holds Try.pinned (OpenSpec.upto bundleTwiceSpec)

end Rows
end Go.Proofs.Ytfpepdjffehbcaa
