/-
  DERIVED. GIVEN WITH THE SEED: THE CARDS: each row of YtghmmockgbiehaaDoorRows.lean that lists a variable, with what it lists TIED to the program's text (the seventh form; the later family's looks); each row that meets fmt, with fmt's text TOLD by the authors' own Lean function (tested against real Go, not proved from fmt's source: count such statements apart). THE CARD IS WHAT COUNTS. Prove the row's statement (the work); the ties are given (YtghmmockgbiehaaDoorTie.lean); close each card by the builder's one call (the guide's Derived/Test/ToyasCard.lean, 'card_holds'). Laid BY PROGRAM, IN A SANDBOX (cutbox-door.mjs). By AI agents, Wed Nov 11 2026. No macro, syntax, notation, axiom, sorry.
-/
import Derived.Test.YtghmmockgbiehaaDoorRows
import GoSem.ClaimSeven
namespace Go.Proofs.YtghmmockgbiehaaDoor
namespace Rows

/-- THE TIED CARD OF 'laws.FnExactNames'. -/
def fnExactNamesCard : Claim7 := { stood := { row := fnExactNamesRow, standIns := [], harness := (true, "d51cf6614b846ccce6eb4239a8234d2b439d5e37a9ae33855e4b5bd4d20c9bf0"), looks := false }, kinds := [], alts := [], laidByText := true, laidKinds := [.data, .pinned], laidTests := true, laidLooks := .later }
def FnExactNamesCardSaid : Prop := Claim7.holds Tryd.pinned (.plain (OpenSpec.ofChange fnExactNamesSpec)) fnExactNamesCard

/-- THE TIED CARD OF 'laws.FnExactCatPut'. -/
def fnExactCatPutCard : Claim7 := { stood := { row := fnExactCatPutRow, standIns := [], harness := (true, "d51cf6614b846ccce6eb4239a8234d2b439d5e37a9ae33855e4b5bd4d20c9bf0"), looks := false }, kinds := [], alts := [], laidByText := true, laidKinds := [.data, .pinned], laidTests := true, laidLooks := .later }
def FnExactCatPutCardSaid : Prop := Claim7.holds Tryd.pinned (.plain (OpenSpec.ofChange fnExactCatPutSpec)) fnExactCatPutCard

/-- THE SECOND FORM's CARD OF 'laws.FnExactNames'. -/
def fnExactNamesUptoCard : Claim7 := { stood := { row := fnExactNamesUptoRow, standIns := [], harness := (true, "d51cf6614b846ccce6eb4239a8234d2b439d5e37a9ae33855e4b5bd4d20c9bf0"), looks := false }, kinds := [], alts := [], laidByText := true, laidKinds := [.data, .pinned], laidTests := true, laidLooks := .later }
def FnExactNamesUptoCardSaid : Prop := Claim7.holds Tryd.pinned (.plain (OpenSpec.upto fnExactNamesSpec)) fnExactNamesUptoCard

/-- THE SECOND FORM's CARD OF 'laws.FnExactCatPut'. -/
def fnExactCatPutUptoCard : Claim7 := { stood := { row := fnExactCatPutUptoRow, standIns := [], harness := (true, "d51cf6614b846ccce6eb4239a8234d2b439d5e37a9ae33855e4b5bd4d20c9bf0"), looks := false }, kinds := [], alts := [], laidByText := true, laidKinds := [.data, .pinned], laidTests := true, laidLooks := .later }
def FnExactCatPutUptoCardSaid : Prop := Claim7.holds Tryd.pinned (.plain (OpenSpec.upto fnExactCatPutSpec)) fnExactCatPutUptoCard
end Rows
end Go.Proofs.YtghmmockgbiehaaDoor
