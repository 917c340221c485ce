/-
  DERIVED. GIVEN WITH THE SEED: THE CARDS: each row of YtdpimbnjdbjinaaDoorRows.lean that lists a variable, with what it lists TIED to the program's text (the seventh form; the later family's looks); each row that meets fmt, with fmt's text TOLD by the authors' own Lean function (tested against real Go, not proved from fmt's source: count such statements apart). THE CARD IS WHAT COUNTS. Prove the row's statement (the work); the ties are given (YtdpimbnjdbjinaaDoorTie.lean); close each card by the builder's one call (the guide's Derived/Test/ToyasCard.lean, 'card_holds'). Laid BY PROGRAM, IN A SANDBOX (cutbox-door.mjs). By AI agents, Wed Nov 11 2026. No macro, syntax, notation, axiom, sorry.
-/
import Derived.Test.YtdpimbnjdbjinaaDoorRows
import GoSem.ClaimSeven
namespace Go.Proofs.YtdpimbnjdbjinaaDoor
namespace Rows

/-- THE TIED CARD OF 'laws.FnExactAskOk'. -/
def fnExactAskOkCard : Claim7 := { stood := { row := fnExactAskOkRow, standIns := [], harness := (true, "60c3125c521a22855331c85818fe44150d44047e57ccd545c748c79c5b63418a"), looks := false }, kinds := [], alts := [], laidByText := true, laidKinds := [.data, .pinned], laidTests := true, laidLooks := .later }
def FnExactAskOkCardSaid : Prop := Claim7.holds Tryd.pinned (.plain (OpenSpec.ofChange fnExactAskOkSpec)) fnExactAskOkCard

/-- THE TIED CARD OF 'laws.FnExactGetAsk'. -/
def fnExactGetAskCard : Claim7 := { stood := { row := fnExactGetAskRow, standIns := [], harness := (true, "60c3125c521a22855331c85818fe44150d44047e57ccd545c748c79c5b63418a"), looks := false }, kinds := [], alts := [], laidByText := true, laidKinds := [.data, .pinned], laidTests := true, laidLooks := .later }
def FnExactGetAskCardSaid : Prop := Claim7.holds Tryd.pinned (.plain (OpenSpec.ofChange fnExactGetAskSpec)) fnExactGetAskCard

/-- THE TIED CARD OF 'laws.FnExactPutAsk'. -/
def fnExactPutAskCard : Claim7 := { stood := { row := fnExactPutAskRow, standIns := [], harness := (true, "60c3125c521a22855331c85818fe44150d44047e57ccd545c748c79c5b63418a"), looks := false }, kinds := [], alts := [], laidByText := true, laidKinds := [.data, .pinned], laidTests := true, laidLooks := .later }
def FnExactPutAskCardSaid : Prop := Claim7.holds Tryd.pinned (.plain (OpenSpec.ofChange fnExactPutAskSpec)) fnExactPutAskCard

/-- THE TIED CARD OF 'laws.FnWire'. -/
def fnWireCard : Claim7 := { stood := { row := fnWireRow, standIns := [], harness := (true, "60c3125c521a22855331c85818fe44150d44047e57ccd545c748c79c5b63418a"), looks := false }, kinds := [], alts := [], laidByText := true, laidKinds := [.data, .pinned], laidTests := true, laidLooks := .later }
def FnWireCardSaid : Prop := Claim7.holds Tryd.pinned (.plain (OpenSpec.ofChange fnWireSpec)) fnWireCard

/-- THE TIED CARD OF 'laws.FnExactCatOk'. -/
def fnExactCatOkCard : Claim7 := { stood := { row := fnExactCatOkRow, standIns := [], harness := (true, "60c3125c521a22855331c85818fe44150d44047e57ccd545c748c79c5b63418a"), looks := false }, kinds := [], alts := [], laidByText := true, laidKinds := [.data, .pinned], laidTests := true, laidLooks := .later }
def FnExactCatOkCardSaid : Prop := Claim7.holds Tryd.pinned (.plain (OpenSpec.ofChange fnExactCatOkSpec)) fnExactCatOkCard

/-- THE TIED CARD OF 'laws.FnExactCatFind'. -/
def fnExactCatFindCard : Claim7 := { stood := { row := fnExactCatFindRow, standIns := [], harness := (true, "60c3125c521a22855331c85818fe44150d44047e57ccd545c748c79c5b63418a"), looks := false }, kinds := [], alts := [], laidByText := true, laidKinds := [.data, .pinned], laidTests := true, laidLooks := .later }
def FnExactCatFindCardSaid : Prop := Claim7.holds Tryd.pinned (.plain (OpenSpec.ofChange fnExactCatFindSpec)) fnExactCatFindCard

/-- THE TIED CARD OF 'laws.FnExactCatNames'. -/
def fnExactCatNamesCard : Claim7 := { stood := { row := fnExactCatNamesRow, standIns := [], harness := (true, "60c3125c521a22855331c85818fe44150d44047e57ccd545c748c79c5b63418a"), looks := false }, kinds := [], alts := [], laidByText := true, laidKinds := [.data, .pinned], laidTests := true, laidLooks := .later }
def FnExactCatNamesCardSaid : Prop := Claim7.holds Tryd.pinned (.plain (OpenSpec.ofChange fnExactCatNamesSpec)) fnExactCatNamesCard

/-- THE TIED CARD OF 'laws.FnExactCatDrop'. -/
def fnExactCatDropCard : Claim7 := { stood := { row := fnExactCatDropRow, standIns := [], harness := (true, "60c3125c521a22855331c85818fe44150d44047e57ccd545c748c79c5b63418a"), looks := false }, kinds := [], alts := [], laidByText := true, laidKinds := [.data, .pinned], laidTests := true, laidLooks := .later }
def FnExactCatDropCardSaid : Prop := Claim7.holds Tryd.pinned (.plain (OpenSpec.ofChange fnExactCatDropSpec)) fnExactCatDropCard

/-- THE TIED CARD OF 'laws.FnExactCatDiff'. -/
def fnExactCatDiffCard : Claim7 := { stood := { row := fnExactCatDiffRow, standIns := [], harness := (true, "60c3125c521a22855331c85818fe44150d44047e57ccd545c748c79c5b63418a"), looks := false }, kinds := [], alts := [], laidByText := true, laidKinds := [.data, .pinned], laidTests := true, laidLooks := .later }
def FnExactCatDiffCardSaid : Prop := Claim7.holds Tryd.pinned (.plain (OpenSpec.ofChange fnExactCatDiffSpec)) fnExactCatDiffCard

/-- THE TIED CARD OF 'laws.FnExactCatPut'. -/
def fnExactCatPutCard : Claim7 := { stood := { row := fnExactCatPutRow, standIns := [], harness := (true, "60c3125c521a22855331c85818fe44150d44047e57ccd545c748c79c5b63418a"), looks := false }, kinds := [], alts := [], laidByText := true, laidKinds := [.data, .pinned], laidTests := true, laidLooks := .later }
def FnExactCatPutCardSaid : Prop := Claim7.holds Tryd.pinned (.plain (OpenSpec.ofChange fnExactCatPutSpec)) fnExactCatPutCard

/-- THE TIED CARD OF 'laws.FnExactCatBytes'. -/
def fnExactCatBytesCard : Claim7 := { stood := { row := fnExactCatBytesRow, standIns := [], harness := (true, "60c3125c521a22855331c85818fe44150d44047e57ccd545c748c79c5b63418a"), looks := false }, kinds := [], alts := [], laidByText := true, laidKinds := [.data, .pinned], laidTests := true, laidLooks := .later }
def FnExactCatBytesCardSaid : Prop := Claim7.holds Tryd.pinned (.plain (OpenSpec.ofChange fnExactCatBytesSpec)) fnExactCatBytesCard

/-- THE TIED CARD OF 'laws.FnExactCatRead'. -/
def fnExactCatReadCard : Claim7 := { stood := { row := fnExactCatReadRow, standIns := [], harness := (true, "60c3125c521a22855331c85818fe44150d44047e57ccd545c748c79c5b63418a"), looks := false }, kinds := [], alts := [], laidByText := true, laidKinds := [.data, .pinned], laidTests := true, laidLooks := .later }
def FnExactCatReadCardSaid : Prop := Claim7.holds Tryd.pinned (.plain (OpenSpec.ofChange fnExactCatReadSpec)) fnExactCatReadCard

/-- THE SECOND FORM's CARD OF 'laws.FnExactAskOk'. -/
def fnExactAskOkUptoCard : Claim7 := { stood := { row := fnExactAskOkUptoRow, standIns := [], harness := (true, "60c3125c521a22855331c85818fe44150d44047e57ccd545c748c79c5b63418a"), looks := false }, kinds := [], alts := [], laidByText := true, laidKinds := [.data, .pinned], laidTests := true, laidLooks := .later }
def FnExactAskOkUptoCardSaid : Prop := Claim7.holds Tryd.pinned (.plain (OpenSpec.upto fnExactAskOkSpec)) fnExactAskOkUptoCard

/-- THE SECOND FORM's CARD OF 'laws.FnExactGetAsk'. -/
def fnExactGetAskUptoCard : Claim7 := { stood := { row := fnExactGetAskUptoRow, standIns := [], harness := (true, "60c3125c521a22855331c85818fe44150d44047e57ccd545c748c79c5b63418a"), looks := false }, kinds := [], alts := [], laidByText := true, laidKinds := [.data, .pinned], laidTests := true, laidLooks := .later }
def FnExactGetAskUptoCardSaid : Prop := Claim7.holds Tryd.pinned (.plain (OpenSpec.upto fnExactGetAskSpec)) fnExactGetAskUptoCard

/-- THE SECOND FORM's CARD OF 'laws.FnExactPutAsk'. -/
def fnExactPutAskUptoCard : Claim7 := { stood := { row := fnExactPutAskUptoRow, standIns := [], harness := (true, "60c3125c521a22855331c85818fe44150d44047e57ccd545c748c79c5b63418a"), looks := false }, kinds := [], alts := [], laidByText := true, laidKinds := [.data, .pinned], laidTests := true, laidLooks := .later }
def FnExactPutAskUptoCardSaid : Prop := Claim7.holds Tryd.pinned (.plain (OpenSpec.upto fnExactPutAskSpec)) fnExactPutAskUptoCard

/-- THE SECOND FORM's CARD OF 'laws.FnWire'. -/
def fnWireUptoCard : Claim7 := { stood := { row := fnWireUptoRow, standIns := [], harness := (true, "60c3125c521a22855331c85818fe44150d44047e57ccd545c748c79c5b63418a"), looks := false }, kinds := [], alts := [], laidByText := true, laidKinds := [.data, .pinned], laidTests := true, laidLooks := .later }
def FnWireUptoCardSaid : Prop := Claim7.holds Tryd.pinned (.plain (OpenSpec.upto fnWireSpec)) fnWireUptoCard

/-- THE SECOND FORM's CARD OF 'laws.FnExactCatOk'. -/
def fnExactCatOkUptoCard : Claim7 := { stood := { row := fnExactCatOkUptoRow, standIns := [], harness := (true, "60c3125c521a22855331c85818fe44150d44047e57ccd545c748c79c5b63418a"), looks := false }, kinds := [], alts := [], laidByText := true, laidKinds := [.data, .pinned], laidTests := true, laidLooks := .later }
def FnExactCatOkUptoCardSaid : Prop := Claim7.holds Tryd.pinned (.plain (OpenSpec.upto fnExactCatOkSpec)) fnExactCatOkUptoCard

/-- THE SECOND FORM's CARD OF 'laws.FnExactCatFind'. -/
def fnExactCatFindUptoCard : Claim7 := { stood := { row := fnExactCatFindUptoRow, standIns := [], harness := (true, "60c3125c521a22855331c85818fe44150d44047e57ccd545c748c79c5b63418a"), looks := false }, kinds := [], alts := [], laidByText := true, laidKinds := [.data, .pinned], laidTests := true, laidLooks := .later }
def FnExactCatFindUptoCardSaid : Prop := Claim7.holds Tryd.pinned (.plain (OpenSpec.upto fnExactCatFindSpec)) fnExactCatFindUptoCard

/-- THE SECOND FORM's CARD OF 'laws.FnExactCatNames'. -/
def fnExactCatNamesUptoCard : Claim7 := { stood := { row := fnExactCatNamesUptoRow, standIns := [], harness := (true, "60c3125c521a22855331c85818fe44150d44047e57ccd545c748c79c5b63418a"), looks := false }, kinds := [], alts := [], laidByText := true, laidKinds := [.data, .pinned], laidTests := true, laidLooks := .later }
def FnExactCatNamesUptoCardSaid : Prop := Claim7.holds Tryd.pinned (.plain (OpenSpec.upto fnExactCatNamesSpec)) fnExactCatNamesUptoCard

/-- THE SECOND FORM's CARD OF 'laws.FnExactCatDrop'. -/
def fnExactCatDropUptoCard : Claim7 := { stood := { row := fnExactCatDropUptoRow, standIns := [], harness := (true, "60c3125c521a22855331c85818fe44150d44047e57ccd545c748c79c5b63418a"), looks := false }, kinds := [], alts := [], laidByText := true, laidKinds := [.data, .pinned], laidTests := true, laidLooks := .later }
def FnExactCatDropUptoCardSaid : Prop := Claim7.holds Tryd.pinned (.plain (OpenSpec.upto fnExactCatDropSpec)) fnExactCatDropUptoCard

/-- THE SECOND FORM's CARD OF 'laws.FnExactCatDiff'. -/
def fnExactCatDiffUptoCard : Claim7 := { stood := { row := fnExactCatDiffUptoRow, standIns := [], harness := (true, "60c3125c521a22855331c85818fe44150d44047e57ccd545c748c79c5b63418a"), looks := false }, kinds := [], alts := [], laidByText := true, laidKinds := [.data, .pinned], laidTests := true, laidLooks := .later }
def FnExactCatDiffUptoCardSaid : Prop := Claim7.holds Tryd.pinned (.plain (OpenSpec.upto fnExactCatDiffSpec)) fnExactCatDiffUptoCard

/-- THE SECOND FORM's CARD OF 'laws.FnExactCatPut'. -/
def fnExactCatPutUptoCard : Claim7 := { stood := { row := fnExactCatPutUptoRow, standIns := [], harness := (true, "60c3125c521a22855331c85818fe44150d44047e57ccd545c748c79c5b63418a"), looks := false }, kinds := [], alts := [], laidByText := true, laidKinds := [.data, .pinned], laidTests := true, laidLooks := .later }
def FnExactCatPutUptoCardSaid : Prop := Claim7.holds Tryd.pinned (.plain (OpenSpec.upto fnExactCatPutSpec)) fnExactCatPutUptoCard

/-- THE SECOND FORM's CARD OF 'laws.FnExactCatBytes'. -/
def fnExactCatBytesUptoCard : Claim7 := { stood := { row := fnExactCatBytesUptoRow, standIns := [], harness := (true, "60c3125c521a22855331c85818fe44150d44047e57ccd545c748c79c5b63418a"), looks := false }, kinds := [], alts := [], laidByText := true, laidKinds := [.data, .pinned], laidTests := true, laidLooks := .later }
def FnExactCatBytesUptoCardSaid : Prop := Claim7.holds Tryd.pinned (.plain (OpenSpec.upto fnExactCatBytesSpec)) fnExactCatBytesUptoCard

/-- THE SECOND FORM's CARD OF 'laws.FnExactCatRead'. -/
def fnExactCatReadUptoCard : Claim7 := { stood := { row := fnExactCatReadUptoRow, standIns := [], harness := (true, "60c3125c521a22855331c85818fe44150d44047e57ccd545c748c79c5b63418a"), looks := false }, kinds := [], alts := [], laidByText := true, laidKinds := [.data, .pinned], laidTests := true, laidLooks := .later }
def FnExactCatReadUptoCardSaid : Prop := Claim7.holds Tryd.pinned (.plain (OpenSpec.upto fnExactCatReadSpec)) fnExactCatReadUptoCard
end Rows
end Go.Proofs.YtdpimbnjdbjinaaDoor
