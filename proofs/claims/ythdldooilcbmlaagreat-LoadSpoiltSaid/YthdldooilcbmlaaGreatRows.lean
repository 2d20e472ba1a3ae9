/-
  No cell of these rows narrows 'for every input' (looked for: loops, veiled, ifaces, maps, wideKeys, modest, calm, conditions, laid).
  DERIVED. THE GIVEN ROWS OF THIS SEAT. 3 by the template 'for every input the law returns true; each argument reads behind the call as it read before'; 0 by the template 'total and deterministic' (their statements: YthdldooilcbmlaaGreatTotals.lean).
  GIVEN WITH THE SEED: the statements are not yours to turn. If you find one false, say at which input.
  Laid BY PROGRAM, IN A SANDBOX (cutbox-rows.mjs): the forced cells as the released guide's own fill.sh prints them over the translation f23432478d1ff4e1… (all of the seat's roots in one cut). By AI agents, Wed Nov 11 2026. No macro, syntax, notation, axiom, sorry.
-/
import Derived.Test.YthdldooilcbmlaaGreatChecked
import GoSem.Claim
import GoSem.ClaimJoined
import GoSem.ClaimMapViews
import Derived.JoinedTies
import Derived.KernelRfl
namespace Go.Proofs.YthdldooilcbmlaaGreat
/- THE CELL 'sum', in the pinned program and in every row, IS THE sha256 OF THE DUMP (.gsa) THAT YthdldooilcbmlaaGreatProg.lean LOADS. Nothing in Lean hashes anything: it is a label: what it is worth is what the hold of that sum in a sandbox is worth. -/
noncomputable def Tryz.pinned : Pinned := { name := "ythdldooilcbmlaagreat", sum := "f23432478d1ff4e111a652b50d2dbef4a3b4b4dd6532c2c964f9eac111f79143", checked := Tryz.checked }
namespace Rows
def none {H : Type} : Left H := { results := [], args := [] }

/-- 'vernacularlaw23.LoadBursts': WHATEVER THE INPUT: true; the input reads as it did. -/
def loadBurstsSpec : ChangeSpec := { name := "loadBursts", fn := fun _ => fun
  | [d1, d2, d3] => { results := [.lit (.bool true)], args := [d1, d2, d3] }
  | _ => none }
def loadBurstsRow : OpenClaim := { program := "ythdldooilcbmlaagreat", sum := "f23432478d1ff4e111a652b50d2dbef4a3b4b4dd6532c2c964f9eac111f79143", func := "vernacular/vernacularlaw23.LoadBursts", spec := "loadBursts", inPlace := ["internal/bytealg.IndexByteString", "internal/abi.NoEscape", "internal/bytealg.abigen_runtime_cmpstring", "internal/bytealg.MakeNoZero"], unfollowed := true, recurses := true, plainKeys := false, apart := false }
def LoadBurstsSaid : Prop := loadBurstsRow.holds Tryz.pinned (OpenSpec.ofChange loadBurstsSpec)

/-- ITS FALSE NEIGHBOUR: 'it returns false'. Refute it at one input. -/
def loadBurstsWrong : ChangeSpec := { name := "loadBursts", fn := fun _ => fun
  | [d1, d2, d3] => { results := [.lit (.bool false)], args := [d1, d2, d3] }
  | _ => none }
def LoadBurstsWrongFalsely : Prop := loadBurstsRow.holds Tryz.pinned (OpenSpec.ofChange loadBurstsWrong)

/-- 'vernacularlaw23.LoadBack': WHATEVER THE INPUT: true; the input reads as it did. -/
def loadBackSpec : ChangeSpec := { name := "loadBack", fn := fun _ => fun
  | [d] => { results := [.lit (.bool true)], args := [d] }
  | _ => none }
def loadBackRow : OpenClaim := { program := "ythdldooilcbmlaagreat", sum := "f23432478d1ff4e111a652b50d2dbef4a3b4b4dd6532c2c964f9eac111f79143", func := "vernacular/vernacularlaw23.LoadBack", spec := "loadBack", inPlace := ["internal/bytealg.IndexByteString", "internal/abi.NoEscape", "internal/bytealg.abigen_runtime_cmpstring", "internal/bytealg.MakeNoZero"], unfollowed := true, recurses := true, plainKeys := false, apart := false }
def LoadBackSaid : Prop := loadBackRow.holds Tryz.pinned (OpenSpec.ofChange loadBackSpec)

/-- ITS FALSE NEIGHBOUR: 'it returns false'. Refute it at one input. -/
def loadBackWrong : ChangeSpec := { name := "loadBack", fn := fun _ => fun
  | [d] => { results := [.lit (.bool false)], args := [d] }
  | _ => none }
def LoadBackWrongFalsely : Prop := loadBackRow.holds Tryz.pinned (OpenSpec.ofChange loadBackWrong)

/-- 'vernacularlaw23.LoadSpoilt': WHATEVER THE INPUT: true; the input reads as it did. -/
def loadSpoiltSpec : ChangeSpec := { name := "loadSpoilt", fn := fun _ => fun
  | [d1, d2, d3] => { results := [.lit (.bool true)], args := [d1, d2, d3] }
  | _ => none }
def loadSpoiltRow : OpenClaim := { program := "ythdldooilcbmlaagreat", sum := "f23432478d1ff4e111a652b50d2dbef4a3b4b4dd6532c2c964f9eac111f79143", func := "vernacular/vernacularlaw23.LoadSpoilt", spec := "loadSpoilt", inPlace := ["internal/bytealg.IndexByteString", "internal/abi.NoEscape", "internal/bytealg.abigen_runtime_cmpstring", "internal/bytealg.MakeNoZero"], unfollowed := true, recurses := true, plainKeys := false, apart := false }
def LoadSpoiltSaid : Prop := loadSpoiltRow.holds Tryz.pinned (OpenSpec.ofChange loadSpoiltSpec)

/-- ITS FALSE NEIGHBOUR: 'it returns false'. Refute it at one input. -/
def loadSpoiltWrong : ChangeSpec := { name := "loadSpoilt", fn := fun _ => fun
  | [d1, d2, d3] => { results := [.lit (.bool false)], args := [d1, d2, d3] }
  | _ => none }
def LoadSpoiltWrongFalsely : Prop := loadSpoiltRow.holds Tryz.pinned (OpenSpec.ofChange loadSpoiltWrong)

/- THE SECOND FORM. 'bulk': how many values and letters a reading holds, each counted each time it is reached (what is shared counts as often as it is met; a slice's spare places count too). A statement '..UptoSaid' is the law's where the arguments, and the package variables that the reading takes, are together of bulk at most 1048576: NARROWER than '..Said'. Prove '..Said' where nothing that the law and all that it calls make is longer than what came in: it says more and counts as full. Else prove '..UptoSaid'. A law counts once. -/
mutual
def uptoBulk {H : Type} : DataW H → Nat
  | .lit (.string bytes) => bytes.length + 1
  | .lit _ => 1
  | .nil => 1
  | .ptr d => uptoBulk d + 1
  | .slice elems spare => uptoBulkAll elems + uptoBulkAll spare + 1
  | .agg parts => uptoBulkAll parts + 1
  | .iface _ d => uptoBulk d + 1
  | .map entries => uptoBulkEntries entries + 1
  | .held _ => 1
def uptoBulkAll {H : Type} : List (DataW H) → Nat
  | [] => 0
  | d :: r => uptoBulk d + uptoBulkAll r
def uptoBulkEntries {H : Type} : List (Lit × DataW H) → Nat
  | [] => 0
  | x :: r => uptoBulkEntry x + uptoBulkEntries r
def uptoBulkEntry {H : Type} : Lit × DataW H → Nat
  | (.string bytes, d) => bytes.length + uptoBulk d + 1
  | (_, d) => uptoBulk d + 1
 end
def uptoSmall : (H : Type) → List (DataW H) → Bool := fun _ ds => decide (uptoBulkAll ds ≤ 1048576)
def OpenSpec.upto (s : _root_.Go.ChangeSpec) : _root_.Go.OpenSpec := { _root_.Go.OpenSpec.ofChange s with cond := some uptoSmall }

/-- 'vernacularlaw23.LoadBursts', WHERE WHAT IT READS IS OF BULK AT MOST 1048576: true; the input reads as it did. -/
def loadBurstsUptoRow : OpenClaim := { program := "ythdldooilcbmlaagreat", sum := "f23432478d1ff4e111a652b50d2dbef4a3b4b4dd6532c2c964f9eac111f79143", func := "vernacular/vernacularlaw23.LoadBursts", spec := "loadBursts", inPlace := ["internal/bytealg.IndexByteString", "internal/abi.NoEscape", "internal/bytealg.abigen_runtime_cmpstring", "internal/bytealg.MakeNoZero"], unfollowed := true, recurses := true, plainKeys := false, apart := false, narrowed := true }
def LoadBurstsUptoSaid : Prop := loadBurstsUptoRow.holds Tryz.pinned (OpenSpec.upto loadBurstsSpec)

/-- 'vernacularlaw23.LoadBack', WHERE WHAT IT READS IS OF BULK AT MOST 1048576: true; the input reads as it did. -/
def loadBackUptoRow : OpenClaim := { program := "ythdldooilcbmlaagreat", sum := "f23432478d1ff4e111a652b50d2dbef4a3b4b4dd6532c2c964f9eac111f79143", func := "vernacular/vernacularlaw23.LoadBack", spec := "loadBack", inPlace := ["internal/bytealg.IndexByteString", "internal/abi.NoEscape", "internal/bytealg.abigen_runtime_cmpstring", "internal/bytealg.MakeNoZero"], unfollowed := true, recurses := true, plainKeys := false, apart := false, narrowed := true }
def LoadBackUptoSaid : Prop := loadBackUptoRow.holds Tryz.pinned (OpenSpec.upto loadBackSpec)

/-- 'vernacularlaw23.LoadSpoilt', WHERE WHAT IT READS IS OF BULK AT MOST 1048576: true; the input reads as it did. -/
def loadSpoiltUptoRow : OpenClaim := { program := "ythdldooilcbmlaagreat", sum := "f23432478d1ff4e111a652b50d2dbef4a3b4b4dd6532c2c964f9eac111f79143", func := "vernacular/vernacularlaw23.LoadSpoilt", spec := "loadSpoilt", inPlace := ["internal/bytealg.IndexByteString", "internal/abi.NoEscape", "internal/bytealg.abigen_runtime_cmpstring", "internal/bytealg.MakeNoZero"], unfollowed := true, recurses := true, plainKeys := false, apart := false, narrowed := true }
def LoadSpoiltUptoSaid : Prop := loadSpoiltUptoRow.holds Tryz.pinned (OpenSpec.upto loadSpoiltSpec)

end Rows
end Go.Proofs.YthdldooilcbmlaaGreat
