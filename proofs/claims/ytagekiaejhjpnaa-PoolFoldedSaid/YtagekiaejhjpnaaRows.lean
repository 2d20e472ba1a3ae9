/-
  No cell of these rows narrows 'for every input' (looked for: loops, veiled, ifaces, maps, wideKeys, modest, calm, conditions, laid).
  DERIVED. THE GIVEN ROWS OF THIS SEAT. 6 by the template 'for every input the law returns true; each argument reads behind the call as it read before'; 0 by the template 'total and deterministic' (their statements: YtagekiaejhjpnaaTotals.lean).
  GIVEN WITH THE SEED: the statements are not yours to turn. If you find one false, say at which input.
  Laid BY PROGRAM, IN A SANDBOX (cutbox-rows.mjs): the forced cells as the released guide's own fill.sh prints them over the translation b65dca4b38361ed7… (all of the seat's roots in one cut). By AI agents, Wed Nov 11 2026. No macro, syntax, notation, axiom, sorry.
-/
import Derived.Test.YtagekiaejhjpnaaChecked
import GoSem.Claim
import GoSem.ClaimJoined
import GoSem.ClaimMapViews
import Derived.JoinedTies
import Derived.KernelRfl
namespace Go.Proofs.Ytagekiaejhjpnaa
/- THE CELL 'sum', in the pinned program and in every row, IS THE sha256 OF THE DUMP (.gsa) THAT YtagekiaejhjpnaaProg.lean LOADS. Nothing in Lean hashes anything: it is a label: what it is worth is what the hold of that sum in a sandbox is worth. -/
noncomputable def Try.pinned : Pinned := { name := "ytagekiaejhjpnaa", sum := "b65dca4b38361ed7aad0430fcdadc206a40e0aaace67ed93e2e73d6e8cf7fc20", checked := Try.checked }
namespace Rows
def none {H : Type} : Left H := { results := [], args := [] }

/-- 'vernacularlaw21.PoolTexts': WHATEVER THE INPUT: true; the input reads as it did. -/
def poolTextsSpec : ChangeSpec := { name := "poolTexts", fn := fun _ => fun
  | [d1, d2, d3] => { results := [.lit (.bool true)], args := [d1, d2, d3] }
  | _ => none }
def poolTextsRow : OpenClaim := { program := "ytagekiaejhjpnaa", sum := "b65dca4b38361ed7aad0430fcdadc206a40e0aaace67ed93e2e73d6e8cf7fc20", func := "vernacular/vernacularlaw21.PoolTexts", spec := "poolTexts", unfollowed := true, recurses := true, apart := false }
def PoolTextsSaid : Prop := poolTextsRow.holds Try.pinned (OpenSpec.ofChange poolTextsSpec)

/-- ITS FALSE NEIGHBOUR: 'it returns false'. Refute it at one input. -/
def poolTextsWrong : ChangeSpec := { name := "poolTexts", fn := fun _ => fun
  | [d1, d2, d3] => { results := [.lit (.bool false)], args := [d1, d2, d3] }
  | _ => none }
def PoolTextsWrongFalsely : Prop := poolTextsRow.holds Try.pinned (OpenSpec.ofChange poolTextsWrong)

/-- 'vernacularlaw21.PoolOne': WHATEVER THE INPUT: true; the input reads as it did. -/
def poolOneSpec : ChangeSpec := { name := "poolOne", fn := fun _ => fun
  | [d1, d2] => { results := [.lit (.bool true)], args := [d1, d2] }
  | _ => none }
def poolOneRow : OpenClaim := { program := "ytagekiaejhjpnaa", sum := "b65dca4b38361ed7aad0430fcdadc206a40e0aaace67ed93e2e73d6e8cf7fc20", func := "vernacular/vernacularlaw21.PoolOne", spec := "poolOne", unfollowed := true, recurses := true, apart := false }
def PoolOneSaid : Prop := poolOneRow.holds Try.pinned (OpenSpec.ofChange poolOneSpec)

/-- ITS FALSE NEIGHBOUR: 'it returns false'. Refute it at one input. -/
def poolOneWrong : ChangeSpec := { name := "poolOne", fn := fun _ => fun
  | [d1, d2] => { results := [.lit (.bool false)], args := [d1, d2] }
  | _ => none }
def PoolOneWrongFalsely : Prop := poolOneRow.holds Try.pinned (OpenSpec.ofChange poolOneWrong)

/-- 'vernacularlaw21.PoolOrders': WHATEVER THE INPUT: true; the input reads as it did. -/
def poolOrdersSpec : ChangeSpec := { name := "poolOrders", fn := fun _ => fun
  | [d1, d2] => { results := [.lit (.bool true)], args := [d1, d2] }
  | _ => none }
def poolOrdersRow : OpenClaim := { program := "ytagekiaejhjpnaa", sum := "b65dca4b38361ed7aad0430fcdadc206a40e0aaace67ed93e2e73d6e8cf7fc20", func := "vernacular/vernacularlaw21.PoolOrders", spec := "poolOrders", unfollowed := true, recurses := true, apart := false }
def PoolOrdersSaid : Prop := poolOrdersRow.holds Try.pinned (OpenSpec.ofChange poolOrdersSpec)

/-- ITS FALSE NEIGHBOUR: 'it returns false'. Refute it at one input. -/
def poolOrdersWrong : ChangeSpec := { name := "poolOrders", fn := fun _ => fun
  | [d1, d2] => { results := [.lit (.bool false)], args := [d1, d2] }
  | _ => none }
def PoolOrdersWrongFalsely : Prop := poolOrdersRow.holds Try.pinned (OpenSpec.ofChange poolOrdersWrong)

/-- 'vernacularlaw21.PoolFolds': WHATEVER THE INPUT: true; the input reads as it did. -/
def poolFoldsSpec : ChangeSpec := { name := "poolFolds", fn := fun _ => fun
  | [d] => { results := [.lit (.bool true)], args := [d] }
  | _ => none }
def poolFoldsRow : OpenClaim := { program := "ytagekiaejhjpnaa", sum := "b65dca4b38361ed7aad0430fcdadc206a40e0aaace67ed93e2e73d6e8cf7fc20", func := "vernacular/vernacularlaw21.PoolFolds", spec := "poolFolds", inPlace := ["internal/abi.NoEscape"], unfollowed := true, recurses := true, apart := false }
def PoolFoldsSaid : Prop := poolFoldsRow.holds Try.pinned (OpenSpec.ofChange poolFoldsSpec)

/-- ITS FALSE NEIGHBOUR: 'it returns false'. Refute it at one input. -/
def poolFoldsWrong : ChangeSpec := { name := "poolFolds", fn := fun _ => fun
  | [d] => { results := [.lit (.bool false)], args := [d] }
  | _ => none }
def PoolFoldsWrongFalsely : Prop := poolFoldsRow.holds Try.pinned (OpenSpec.ofChange poolFoldsWrong)

/-- 'vernacularlaw21.PoolFolded': WHATEVER THE INPUT: true; the input reads as it did. -/
def poolFoldedSpec : ChangeSpec := { name := "poolFolded", fn := fun _ => fun
  | [d1, d2, d3] => { results := [.lit (.bool true)], args := [d1, d2, d3] }
  | _ => none }
def poolFoldedRow : OpenClaim := { program := "ytagekiaejhjpnaa", sum := "b65dca4b38361ed7aad0430fcdadc206a40e0aaace67ed93e2e73d6e8cf7fc20", func := "vernacular/vernacularlaw21.PoolFolded", spec := "poolFolded", inPlace := ["internal/abi.NoEscape"], unfollowed := true, recurses := true, apart := false }
def PoolFoldedSaid : Prop := poolFoldedRow.holds Try.pinned (OpenSpec.ofChange poolFoldedSpec)

/-- ITS FALSE NEIGHBOUR: 'it returns false'. Refute it at one input. -/
def poolFoldedWrong : ChangeSpec := { name := "poolFolded", fn := fun _ => fun
  | [d1, d2, d3] => { results := [.lit (.bool false)], args := [d1, d2, d3] }
  | _ => none }
def PoolFoldedWrongFalsely : Prop := poolFoldedRow.holds Try.pinned (OpenSpec.ofChange poolFoldedWrong)

/-- 'vernacularlaw21.PoolTables': WHATEVER THE INPUT: true; the input reads as it did. -/
def poolTablesSpec : ChangeSpec := { name := "poolTables", fn := fun _ => fun
  | [d1, d2] => { results := [.lit (.bool true)], args := [d1, d2] }
  | _ => none }
def poolTablesRow : OpenClaim := { program := "ytagekiaejhjpnaa", sum := "b65dca4b38361ed7aad0430fcdadc206a40e0aaace67ed93e2e73d6e8cf7fc20", func := "vernacular/vernacularlaw21.PoolTables", spec := "poolTables", unfollowed := true, recurses := true, apart := false }
def PoolTablesSaid : Prop := poolTablesRow.holds Try.pinned (OpenSpec.ofChange poolTablesSpec)

/-- ITS FALSE NEIGHBOUR: 'it returns false'. Refute it at one input. -/
def poolTablesWrong : ChangeSpec := { name := "poolTables", fn := fun _ => fun
  | [d1, d2] => { results := [.lit (.bool false)], args := [d1, d2] }
  | _ => none }
def PoolTablesWrongFalsely : Prop := poolTablesRow.holds Try.pinned (OpenSpec.ofChange poolTablesWrong)

/- THE SECOND FORM. 'bulk': how many values and letters a reading holds, each counted each time it is reached (what is shared counts as often as it is met; a slice's spare places count too). A statement '..UptoSaid' is the law's where the arguments, and the package variables that the reading takes, are together of bulk at most 1048576: NARROWER than '..Said'. Prove '..Said' where nothing that the law and all that it calls make is longer than what came in: it says more and counts as full. Else prove '..UptoSaid'. A law counts once. -/
mutual
def uptoBulk {H : Type} : DataW H → Nat
  | .lit (.string bytes) => bytes.length + 1
  | .lit _ => 1
  | .nil => 1
  | .ptr d => uptoBulk d + 1
  | .slice elems spare => uptoBulkAll elems + uptoBulkAll spare + 1
  | .agg parts => uptoBulkAll parts + 1
  | .iface _ d => uptoBulk d + 1
  | .map entries => uptoBulkEntries entries + 1
  | .held _ => 1
def uptoBulkAll {H : Type} : List (DataW H) → Nat
  | [] => 0
  | d :: r => uptoBulk d + uptoBulkAll r
def uptoBulkEntries {H : Type} : List (Lit × DataW H) → Nat
  | [] => 0
  | x :: r => uptoBulkEntry x + uptoBulkEntries r
def uptoBulkEntry {H : Type} : Lit × DataW H → Nat
  | (.string bytes, d) => bytes.length + uptoBulk d + 1
  | (_, d) => uptoBulk d + 1
 end
def uptoSmall : (H : Type) → List (DataW H) → Bool := fun _ ds => decide (uptoBulkAll ds ≤ 1048576)
def OpenSpec.upto (s : _root_.Go.ChangeSpec) : _root_.Go.OpenSpec := { _root_.Go.OpenSpec.ofChange s with cond := some uptoSmall }

/-- 'vernacularlaw21.PoolTexts', WHERE WHAT IT READS IS OF BULK AT MOST 1048576: true; the input reads as it did. -/
def poolTextsUptoRow : OpenClaim := { program := "ytagekiaejhjpnaa", sum := "b65dca4b38361ed7aad0430fcdadc206a40e0aaace67ed93e2e73d6e8cf7fc20", func := "vernacular/vernacularlaw21.PoolTexts", spec := "poolTexts", unfollowed := true, recurses := true, apart := false, narrowed := true }
def PoolTextsUptoSaid : Prop := poolTextsUptoRow.holds Try.pinned (OpenSpec.upto poolTextsSpec)

/-- 'vernacularlaw21.PoolOne', WHERE WHAT IT READS IS OF BULK AT MOST 1048576: true; the input reads as it did. -/
def poolOneUptoRow : OpenClaim := { program := "ytagekiaejhjpnaa", sum := "b65dca4b38361ed7aad0430fcdadc206a40e0aaace67ed93e2e73d6e8cf7fc20", func := "vernacular/vernacularlaw21.PoolOne", spec := "poolOne", unfollowed := true, recurses := true, apart := false, narrowed := true }
def PoolOneUptoSaid : Prop := poolOneUptoRow.holds Try.pinned (OpenSpec.upto poolOneSpec)

/-- 'vernacularlaw21.PoolOrders', WHERE WHAT IT READS IS OF BULK AT MOST 1048576: true; the input reads as it did. -/
def poolOrdersUptoRow : OpenClaim := { program := "ytagekiaejhjpnaa", sum := "b65dca4b38361ed7aad0430fcdadc206a40e0aaace67ed93e2e73d6e8cf7fc20", func := "vernacular/vernacularlaw21.PoolOrders", spec := "poolOrders", unfollowed := true, recurses := true, apart := false, narrowed := true }
def PoolOrdersUptoSaid : Prop := poolOrdersUptoRow.holds Try.pinned (OpenSpec.upto poolOrdersSpec)

/-- 'vernacularlaw21.PoolFolds', WHERE WHAT IT READS IS OF BULK AT MOST 1048576: true; the input reads as it did. -/
def poolFoldsUptoRow : OpenClaim := { program := "ytagekiaejhjpnaa", sum := "b65dca4b38361ed7aad0430fcdadc206a40e0aaace67ed93e2e73d6e8cf7fc20", func := "vernacular/vernacularlaw21.PoolFolds", spec := "poolFolds", inPlace := ["internal/abi.NoEscape"], unfollowed := true, recurses := true, apart := false, narrowed := true }
def PoolFoldsUptoSaid : Prop := poolFoldsUptoRow.holds Try.pinned (OpenSpec.upto poolFoldsSpec)

/-- 'vernacularlaw21.PoolFolded', WHERE WHAT IT READS IS OF BULK AT MOST 1048576: true; the input reads as it did. -/
def poolFoldedUptoRow : OpenClaim := { program := "ytagekiaejhjpnaa", sum := "b65dca4b38361ed7aad0430fcdadc206a40e0aaace67ed93e2e73d6e8cf7fc20", func := "vernacular/vernacularlaw21.PoolFolded", spec := "poolFolded", inPlace := ["internal/abi.NoEscape"], unfollowed := true, recurses := true, apart := false, narrowed := true }
def PoolFoldedUptoSaid : Prop := poolFoldedUptoRow.holds Try.pinned (OpenSpec.upto poolFoldedSpec)

/-- 'vernacularlaw21.PoolTables', WHERE WHAT IT READS IS OF BULK AT MOST 1048576: true; the input reads as it did. -/
def poolTablesUptoRow : OpenClaim := { program := "ytagekiaejhjpnaa", sum := "b65dca4b38361ed7aad0430fcdadc206a40e0aaace67ed93e2e73d6e8cf7fc20", func := "vernacular/vernacularlaw21.PoolTables", spec := "poolTables", unfollowed := true, recurses := true, apart := false, narrowed := true }
def PoolTablesUptoSaid : Prop := poolTablesUptoRow.holds Try.pinned (OpenSpec.upto poolTablesSpec)

end Rows
end Go.Proofs.Ytagekiaejhjpnaa
