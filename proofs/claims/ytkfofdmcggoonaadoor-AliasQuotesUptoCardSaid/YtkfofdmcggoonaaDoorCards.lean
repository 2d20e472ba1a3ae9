/-
  DERIVED. GIVEN WITH THE SEED: THE CARDS: each row of YtkfofdmcggoonaaDoorRows.lean that lists a variable, with what it lists TIED to the program's text (the seventh form; the later family's looks); each row that meets fmt, with fmt's text TOLD by the authors' own Lean function (tested against real Go, not proved from fmt's source: count such statements apart). THE CARD IS WHAT COUNTS. Prove the row's statement (the work); the ties are given (YtkfofdmcggoonaaDoorTie.lean); close each card by the builder's one call (the guide's Derived/Test/ToyasCard.lean, 'card_holds'). Laid BY PROGRAM, IN A SANDBOX (cutbox-door.mjs). By AI agents, Wed Nov 11 2026. No macro, syntax, notation, axiom, sorry.
-/
import Derived.Test.YtkfofdmcggoonaaDoorRows
import GoSem.ClaimSeven
namespace Go.Proofs.YtkfofdmcggoonaaDoor
namespace Rows

/-- THE TIED CARD OF 'vernacularlaw13.AliasTargets'. -/
def aliasTargetsCard : Claim7 := { stood := { row := aliasTargetsRow, standIns := [], harness := (true, "e6051bf2d40587e0cbc8063e4f02ab6e9a8eaa462cb7d68dd00b5a1d2d7d4f25"), looks := false }, kinds := [], alts := [], laidByText := true, laidKinds := [.data, .pinned], laidTests := true, laidLooks := .later }
def AliasTargetsCardSaid : Prop := Claim7.holds Tryd.pinned (.plain (OpenSpec.ofChange aliasTargetsSpec)) aliasTargetsCard

/-- THE TIED CARD OF 'vernacularlaw13.AliasNone'. -/
def aliasNoneCard : Claim7 := { stood := { row := aliasNoneRow, standIns := [], harness := (true, "e6051bf2d40587e0cbc8063e4f02ab6e9a8eaa462cb7d68dd00b5a1d2d7d4f25"), looks := false }, kinds := [], alts := [], laidByText := true, laidKinds := [.data, .pinned], laidTests := true, laidLooks := .later }
def AliasNoneCardSaid : Prop := Claim7.holds Tryd.pinned (.plain (OpenSpec.ofChange aliasNoneSpec)) aliasNoneCard

/-- THE TIED CARD OF 'vernacularlaw13.AliasBelow'. -/
def aliasBelowCard : Claim7 := { stood := { row := aliasBelowRow, standIns := [], harness := (true, "e6051bf2d40587e0cbc8063e4f02ab6e9a8eaa462cb7d68dd00b5a1d2d7d4f25"), looks := false }, kinds := [], alts := [], laidByText := true, laidKinds := [.data, .pinned], laidTests := true, laidLooks := .later }
def AliasBelowCardSaid : Prop := Claim7.holds Tryd.pinned (.plain (OpenSpec.ofChange aliasBelowSpec)) aliasBelowCard

/-- THE TIED CARD OF 'vernacularlaw13.AliasEnds'. -/
def aliasEndsCard : Claim7 := { stood := { row := aliasEndsRow, standIns := [], harness := (true, "e6051bf2d40587e0cbc8063e4f02ab6e9a8eaa462cb7d68dd00b5a1d2d7d4f25"), looks := false }, kinds := [], alts := [], laidByText := true, laidKinds := [.data, .pinned], laidTests := true, laidLooks := .later }
def AliasEndsCardSaid : Prop := Claim7.holds Tryd.pinned (.plain (OpenSpec.ofChange aliasEndsSpec)) aliasEndsCard

/-- THE TIED CARD OF 'vernacularlaw13.AliasQuotes'. -/
def aliasQuotesCard : Claim7 := { stood := { row := aliasQuotesRow, standIns := [], harness := (true, "e6051bf2d40587e0cbc8063e4f02ab6e9a8eaa462cb7d68dd00b5a1d2d7d4f25"), looks := false }, kinds := [], alts := [], laidByText := true, laidKinds := [.data, .pinned], laidTests := true, laidLooks := .later }
def AliasQuotesCardSaid : Prop := Claim7.holds Tryd.pinned (.plain (OpenSpec.ofChange aliasQuotesSpec)) aliasQuotesCard

/-- THE SECOND FORM's CARD OF 'vernacularlaw13.AliasTargets'. -/
def aliasTargetsUptoCard : Claim7 := { stood := { row := aliasTargetsUptoRow, standIns := [], harness := (true, "e6051bf2d40587e0cbc8063e4f02ab6e9a8eaa462cb7d68dd00b5a1d2d7d4f25"), looks := false }, kinds := [], alts := [], laidByText := true, laidKinds := [.data, .pinned], laidTests := true, laidLooks := .later }
def AliasTargetsUptoCardSaid : Prop := Claim7.holds Tryd.pinned (.plain (OpenSpec.upto aliasTargetsSpec)) aliasTargetsUptoCard

/-- THE SECOND FORM's CARD OF 'vernacularlaw13.AliasNone'. -/
def aliasNoneUptoCard : Claim7 := { stood := { row := aliasNoneUptoRow, standIns := [], harness := (true, "e6051bf2d40587e0cbc8063e4f02ab6e9a8eaa462cb7d68dd00b5a1d2d7d4f25"), looks := false }, kinds := [], alts := [], laidByText := true, laidKinds := [.data, .pinned], laidTests := true, laidLooks := .later }
def AliasNoneUptoCardSaid : Prop := Claim7.holds Tryd.pinned (.plain (OpenSpec.upto aliasNoneSpec)) aliasNoneUptoCard

/-- THE SECOND FORM's CARD OF 'vernacularlaw13.AliasBelow'. -/
def aliasBelowUptoCard : Claim7 := { stood := { row := aliasBelowUptoRow, standIns := [], harness := (true, "e6051bf2d40587e0cbc8063e4f02ab6e9a8eaa462cb7d68dd00b5a1d2d7d4f25"), looks := false }, kinds := [], alts := [], laidByText := true, laidKinds := [.data, .pinned], laidTests := true, laidLooks := .later }
def AliasBelowUptoCardSaid : Prop := Claim7.holds Tryd.pinned (.plain (OpenSpec.upto aliasBelowSpec)) aliasBelowUptoCard

/-- THE SECOND FORM's CARD OF 'vernacularlaw13.AliasEnds'. -/
def aliasEndsUptoCard : Claim7 := { stood := { row := aliasEndsUptoRow, standIns := [], harness := (true, "e6051bf2d40587e0cbc8063e4f02ab6e9a8eaa462cb7d68dd00b5a1d2d7d4f25"), looks := false }, kinds := [], alts := [], laidByText := true, laidKinds := [.data, .pinned], laidTests := true, laidLooks := .later }
def AliasEndsUptoCardSaid : Prop := Claim7.holds Tryd.pinned (.plain (OpenSpec.upto aliasEndsSpec)) aliasEndsUptoCard

/-- THE SECOND FORM's CARD OF 'vernacularlaw13.AliasQuotes'. -/
def aliasQuotesUptoCard : Claim7 := { stood := { row := aliasQuotesUptoRow, standIns := [], harness := (true, "e6051bf2d40587e0cbc8063e4f02ab6e9a8eaa462cb7d68dd00b5a1d2d7d4f25"), looks := false }, kinds := [], alts := [], laidByText := true, laidKinds := [.data, .pinned], laidTests := true, laidLooks := .later }
def AliasQuotesUptoCardSaid : Prop := Claim7.holds Tryd.pinned (.plain (OpenSpec.upto aliasQuotesSpec)) aliasQuotesUptoCard
end Rows
end Go.Proofs.YtkfofdmcggoonaaDoor
