/-
  DERIVED. GIVEN WITH THE SEED: THE CARDS: each row of YtgdldmfkgijkaaaDoorRows.lean that lists a variable, with what it lists TIED to the program's text (the seventh form; the later family's looks); each row that meets fmt, with fmt's text TOLD by the authors' own Lean function (tested against real Go, not proved from fmt's source: count such statements apart). THE CARD IS WHAT COUNTS. Prove the row's statement (the work); the ties are given (YtgdldmfkgijkaaaDoorTie.lean); close each card by the builder's one call (the guide's Derived/Test/ToyasCard.lean, 'card_holds'). Laid BY PROGRAM, IN A SANDBOX (cutbox-door.mjs). By AI agents, Wed Nov 11 2026. No macro, syntax, notation, axiom, sorry.
-/
import Derived.Test.YtgdldmfkgijkaaaDoorRows
import GoSem.ClaimSeven
namespace Go.Proofs.YtgdldmfkgijkaaaDoor
namespace Rows

/-- THE TIED CARD OF 'laws.FnWire'. -/
def fnWireCard : Claim7 := { stood := { row := fnWireRow, standIns := [], harness := (true, "92f80726cdd8e5e179373c1cd207ab0499bac7502a1e6a98fb0b79ab046ebc36"), looks := false }, kinds := [], alts := [], laidByText := true, laidKinds := [.data, .pinned], laidTests := true, laidLooks := .later }
def FnWireCardSaid : Prop := Claim7.holds Tryd.pinned (.plain (OpenSpec.ofChange fnWireSpec)) fnWireCard

/-- THE TIED CARD OF 'laws.FnDiffs'. -/
def fnDiffsCard : Claim7 := { stood := { row := fnDiffsRow, standIns := [], harness := (true, "92f80726cdd8e5e179373c1cd207ab0499bac7502a1e6a98fb0b79ab046ebc36"), looks := false }, kinds := [], alts := [], laidByText := true, laidKinds := [.data, .pinned], laidTests := true, laidLooks := .later }
def FnDiffsCardSaid : Prop := Claim7.holds Tryd.pinned (.plain (OpenSpec.ofChange fnDiffsSpec)) fnDiffsCard

/-- THE TIED CARD OF 'laws.FnCatalog'. -/
def fnCatalogCard : Claim7 := { stood := { row := fnCatalogRow, standIns := [], harness := (true, "92f80726cdd8e5e179373c1cd207ab0499bac7502a1e6a98fb0b79ab046ebc36"), looks := false }, kinds := [], alts := [], laidByText := true, laidKinds := [.data, .pinned], laidTests := true, laidLooks := .later }
def FnCatalogCardSaid : Prop := Claim7.holds Tryd.pinned (.plain (OpenSpec.ofChange fnCatalogSpec)) fnCatalogCard

/-- THE SECOND FORM's CARD OF 'laws.FnWire'. -/
def fnWireUptoCard : Claim7 := { stood := { row := fnWireUptoRow, standIns := [], harness := (true, "92f80726cdd8e5e179373c1cd207ab0499bac7502a1e6a98fb0b79ab046ebc36"), looks := false }, kinds := [], alts := [], laidByText := true, laidKinds := [.data, .pinned], laidTests := true, laidLooks := .later }
def FnWireUptoCardSaid : Prop := Claim7.holds Tryd.pinned (.plain (OpenSpec.upto fnWireSpec)) fnWireUptoCard

/-- THE SECOND FORM's CARD OF 'laws.FnDiffs'. -/
def fnDiffsUptoCard : Claim7 := { stood := { row := fnDiffsUptoRow, standIns := [], harness := (true, "92f80726cdd8e5e179373c1cd207ab0499bac7502a1e6a98fb0b79ab046ebc36"), looks := false }, kinds := [], alts := [], laidByText := true, laidKinds := [.data, .pinned], laidTests := true, laidLooks := .later }
def FnDiffsUptoCardSaid : Prop := Claim7.holds Tryd.pinned (.plain (OpenSpec.upto fnDiffsSpec)) fnDiffsUptoCard

/-- THE SECOND FORM's CARD OF 'laws.FnCatalog'. -/
def fnCatalogUptoCard : Claim7 := { stood := { row := fnCatalogUptoRow, standIns := [], harness := (true, "92f80726cdd8e5e179373c1cd207ab0499bac7502a1e6a98fb0b79ab046ebc36"), looks := false }, kinds := [], alts := [], laidByText := true, laidKinds := [.data, .pinned], laidTests := true, laidLooks := .later }
def FnCatalogUptoCardSaid : Prop := Claim7.holds Tryd.pinned (.plain (OpenSpec.upto fnCatalogSpec)) fnCatalogUptoCard
end Rows
end Go.Proofs.YtgdldmfkgijkaaaDoor
