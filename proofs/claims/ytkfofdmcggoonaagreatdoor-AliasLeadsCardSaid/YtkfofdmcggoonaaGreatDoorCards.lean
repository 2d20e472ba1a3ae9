/-
  DERIVED. GIVEN WITH THE SEED: THE CARDS: each row of YtkfofdmcggoonaaGreatDoorRows.lean that lists a variable, with what it lists TIED to the program's text (the seventh form; the later family's looks); each row that meets fmt, with fmt's text TOLD by the authors' own Lean function (tested against real Go, not proved from fmt's source: count such statements apart). THE CARD IS WHAT COUNTS. Prove the row's statement (the work); the ties are given (YtkfofdmcggoonaaGreatDoorTie.lean); close each card by the builder's one call (the guide's Derived/Test/ToyasCard.lean, 'card_holds'). Laid BY PROGRAM, IN A SANDBOX (cutbox-door.mjs). By AI agents, Wed Nov 11 2026. No macro, syntax, notation, axiom, sorry.
-/
import Derived.Test.YtkfofdmcggoonaaGreatDoorRows
import GoSem.ClaimSeven
namespace Go.Proofs.YtkfofdmcggoonaaGreatDoor
namespace Rows

/-- THE TIED CARD OF 'vernacularlaw13.AliasNews'. -/
def aliasNewsCard : Claim7 := { stood := { row := aliasNewsRow, standIns := [], harness := (true, "18ed66469644a368a9021201992a70fbd9827dde09c5cdff5d3686c4f799bb51"), looks := false }, kinds := [], alts := [], laidByText := true, laidKinds := [.data, .pinned], laidTests := true, laidLooks := .later }
def AliasNewsCardSaid : Prop := Claim7.holds Tryz.pinned (.plain (OpenSpec.ofChange aliasNewsSpec)) aliasNewsCard

/-- THE TIED CARD OF 'vernacularlaw13.AliasLeads'. -/
def aliasLeadsCard : Claim7 := { stood := { row := aliasLeadsRow, standIns := [], harness := (true, "18ed66469644a368a9021201992a70fbd9827dde09c5cdff5d3686c4f799bb51"), looks := false }, kinds := [], alts := [], laidByText := true, laidKinds := [.data, .pinned], laidTests := true, laidLooks := .later }
def AliasLeadsCardSaid : Prop := Claim7.holds Tryz.pinned (.plain (OpenSpec.ofChange aliasLeadsSpec)) aliasLeadsCard

/-- THE SECOND FORM's CARD OF 'vernacularlaw13.AliasNews'. -/
def aliasNewsUptoCard : Claim7 := { stood := { row := aliasNewsUptoRow, standIns := [], harness := (true, "18ed66469644a368a9021201992a70fbd9827dde09c5cdff5d3686c4f799bb51"), looks := false }, kinds := [], alts := [], laidByText := true, laidKinds := [.data, .pinned], laidTests := true, laidLooks := .later }
def AliasNewsUptoCardSaid : Prop := Claim7.holds Tryz.pinned (.plain (OpenSpec.upto aliasNewsSpec)) aliasNewsUptoCard

/-- THE SECOND FORM's CARD OF 'vernacularlaw13.AliasLeads'. -/
def aliasLeadsUptoCard : Claim7 := { stood := { row := aliasLeadsUptoRow, standIns := [], harness := (true, "18ed66469644a368a9021201992a70fbd9827dde09c5cdff5d3686c4f799bb51"), looks := false }, kinds := [], alts := [], laidByText := true, laidKinds := [.data, .pinned], laidTests := true, laidLooks := .later }
def AliasLeadsUptoCardSaid : Prop := Claim7.holds Tryz.pinned (.plain (OpenSpec.upto aliasLeadsSpec)) aliasLeadsUptoCard
end Rows
end Go.Proofs.YtkfofdmcggoonaaGreatDoor
