/-
  DERIVED. GIVEN WITH THE SEED: THE CARDS: each row of YthdldooilcbmlaaGreatDoorRows.lean that lists a variable, with what it lists TIED to the program's text (the seventh form; the later family's looks); each row that meets fmt, with fmt's text TOLD by the authors' own Lean function (tested against real Go, not proved from fmt's source: count such statements apart). THE CARD IS WHAT COUNTS. Prove the row's statement (the work); the ties are given (YthdldooilcbmlaaGreatDoorTie.lean); close each card by the builder's one call (the guide's Derived/Test/ToyasCard.lean, 'card_holds'). Laid BY PROGRAM, IN A SANDBOX (cutbox-door.mjs). By AI agents, Wed Nov 11 2026. No macro, syntax, notation, axiom, sorry.
-/
import Derived.Test.YthdldooilcbmlaaGreatDoorRows
import GoSem.ClaimSeven
namespace Go.Proofs.YthdldooilcbmlaaGreatDoor
namespace Rows

/-- THE TIED CARD OF 'vernacularlaw23.LoadTells'. -/
def loadTellsCard : Claim7 := { stood := { row := loadTellsRow, standIns := [], harness := (true, "da5cc4922dbd1e0e32641291e1346a573cedf158c750b75d705c6f5cd4f299e4"), looks := false }, kinds := [], alts := [], laidByText := true, laidKinds := [.data, .pinned], laidTests := true, laidLooks := .later }
def LoadTellsCardSaid : Prop := Claim7.holds Tryz.pinned (.plain (OpenSpec.ofChange loadTellsSpec)) loadTellsCard

/-- THE TIED CARD OF 'vernacularlaw23.LoadNone'. -/
def loadNoneCard : Claim7 := { stood := { row := loadNoneRow, standIns := [], harness := (true, "da5cc4922dbd1e0e32641291e1346a573cedf158c750b75d705c6f5cd4f299e4"), looks := false }, kinds := [], alts := [], laidByText := true, laidKinds := [.data, .pinned], laidTests := true, laidLooks := .later }
def LoadNoneCardSaid : Prop := Claim7.holds Tryz.pinned (.plain (OpenSpec.ofChange loadNoneSpec)) loadNoneCard

/-- THE SECOND FORM's CARD OF 'vernacularlaw23.LoadTells'. -/
def loadTellsUptoCard : Claim7 := { stood := { row := loadTellsUptoRow, standIns := [], harness := (true, "da5cc4922dbd1e0e32641291e1346a573cedf158c750b75d705c6f5cd4f299e4"), looks := false }, kinds := [], alts := [], laidByText := true, laidKinds := [.data, .pinned], laidTests := true, laidLooks := .later }
def LoadTellsUptoCardSaid : Prop := Claim7.holds Tryz.pinned (.plain (OpenSpec.upto loadTellsSpec)) loadTellsUptoCard

/-- THE SECOND FORM's CARD OF 'vernacularlaw23.LoadNone'. -/
def loadNoneUptoCard : Claim7 := { stood := { row := loadNoneUptoRow, standIns := [], harness := (true, "da5cc4922dbd1e0e32641291e1346a573cedf158c750b75d705c6f5cd4f299e4"), looks := false }, kinds := [], alts := [], laidByText := true, laidKinds := [.data, .pinned], laidTests := true, laidLooks := .later }
def LoadNoneUptoCardSaid : Prop := Claim7.holds Tryz.pinned (.plain (OpenSpec.upto loadNoneSpec)) loadNoneUptoCard
end Rows
end Go.Proofs.YthdldooilcbmlaaGreatDoor
