/-
  DERIVED. GIVEN WITH THE SEED: THE CARDS: each row of YtkehafdeijghgaaDoorRows.lean that lists a variable, with what it lists TIED to the program's text (the seventh form; the later family's looks); each row that meets fmt, with fmt's text TOLD by the authors' own Lean function (tested against real Go, not proved from fmt's source: count such statements apart). THE CARD IS WHAT COUNTS. Prove the row's statement (the work); the ties are given (YtkehafdeijghgaaDoorTie.lean); close each card by the builder's one call (the guide's Derived/Test/ToyasCard.lean, 'card_holds'). Laid BY PROGRAM, IN A SANDBOX (cutbox-door.mjs). By AI agents, Wed Nov 11 2026. No macro, syntax, notation, axiom, sorry.
-/
import Derived.Test.YtkehafdeijghgaaDoorRows
import GoSem.ClaimSeven
namespace Go.Proofs.YtkehafdeijghgaaDoor
namespace Rows

/-- THE TIED CARD OF 'laws.FnExactShelfOk'. -/
def fnExactShelfOkCard : Claim7 := { stood := { row := fnExactShelfOkRow, standIns := [], harness := (true, "38f1c2cba9089a641ce69628cbad1ff505ffb3e120d5e4e1ec4b21cfd26ed933"), looks := false }, kinds := [], alts := [], laidByText := true, laidKinds := [.data, .pinned], laidTests := true, laidLooks := .later }
def FnExactShelfOkCardSaid : Prop := Claim7.holds Tryd.pinned (.plain (OpenSpec.ofChange fnExactShelfOkSpec)) fnExactShelfOkCard

/-- THE TIED CARD OF 'laws.FnExactShelved'. -/
def fnExactShelvedCard : Claim7 := { stood := { row := fnExactShelvedRow, standIns := [], harness := (true, "38f1c2cba9089a641ce69628cbad1ff505ffb3e120d5e4e1ec4b21cfd26ed933"), looks := false }, kinds := [], alts := [], laidByText := true, laidKinds := [.data, .pinned], laidTests := true, laidLooks := .later }
def FnExactShelvedCardSaid : Prop := Claim7.holds Tryd.pinned (.plain (OpenSpec.ofChange fnExactShelvedSpec)) fnExactShelvedCard

/-- THE TIED CARD OF 'laws.FnExactNames'. -/
def fnExactNamesCard : Claim7 := { stood := { row := fnExactNamesRow, standIns := [], harness := (true, "38f1c2cba9089a641ce69628cbad1ff505ffb3e120d5e4e1ec4b21cfd26ed933"), looks := false }, kinds := [], alts := [], laidByText := true, laidKinds := [.data, .pinned], laidTests := true, laidLooks := .later }
def FnExactNamesCardSaid : Prop := Claim7.holds Tryd.pinned (.plain (OpenSpec.ofChange fnExactNamesSpec)) fnExactNamesCard

/-- THE TIED CARD OF 'laws.FnExactLinkOk'. -/
def fnExactLinkOkCard : Claim7 := { stood := { row := fnExactLinkOkRow, standIns := [], harness := (true, "38f1c2cba9089a641ce69628cbad1ff505ffb3e120d5e4e1ec4b21cfd26ed933"), looks := false }, kinds := [], alts := [], laidByText := true, laidKinds := [.data, .pinned], laidTests := true, laidLooks := .later }
def FnExactLinkOkCardSaid : Prop := Claim7.holds Tryd.pinned (.plain (OpenSpec.ofChange fnExactLinkOkSpec)) fnExactLinkOkCard

/-- THE TIED CARD OF 'laws.FnExactSound'. -/
def fnExactSoundCard : Claim7 := { stood := { row := fnExactSoundRow, standIns := [], harness := (true, "38f1c2cba9089a641ce69628cbad1ff505ffb3e120d5e4e1ec4b21cfd26ed933"), looks := false }, kinds := [], alts := [], laidByText := true, laidKinds := [.data, .pinned], laidTests := true, laidLooks := .later }
def FnExactSoundCardSaid : Prop := Claim7.holds Tryd.pinned (.plain (OpenSpec.ofChange fnExactSoundSpec)) fnExactSoundCard

/-- THE TIED CARD OF 'laws.FnExactAsked'. -/
def fnExactAskedCard : Claim7 := { stood := { row := fnExactAskedRow, standIns := [], harness := (true, "38f1c2cba9089a641ce69628cbad1ff505ffb3e120d5e4e1ec4b21cfd26ed933"), looks := false }, kinds := [], alts := [], laidByText := true, laidKinds := [.data, .pinned], laidTests := true, laidLooks := .later }
def FnExactAskedCardSaid : Prop := Claim7.holds Tryd.pinned (.plain (OpenSpec.ofChange fnExactAskedSpec)) fnExactAskedCard

/-- THE SECOND FORM's CARD OF 'laws.FnExactShelfOk'. -/
def fnExactShelfOkUptoCard : Claim7 := { stood := { row := fnExactShelfOkUptoRow, standIns := [], harness := (true, "38f1c2cba9089a641ce69628cbad1ff505ffb3e120d5e4e1ec4b21cfd26ed933"), looks := false }, kinds := [], alts := [], laidByText := true, laidKinds := [.data, .pinned], laidTests := true, laidLooks := .later }
def FnExactShelfOkUptoCardSaid : Prop := Claim7.holds Tryd.pinned (.plain (OpenSpec.upto fnExactShelfOkSpec)) fnExactShelfOkUptoCard

/-- THE SECOND FORM's CARD OF 'laws.FnExactShelved'. -/
def fnExactShelvedUptoCard : Claim7 := { stood := { row := fnExactShelvedUptoRow, standIns := [], harness := (true, "38f1c2cba9089a641ce69628cbad1ff505ffb3e120d5e4e1ec4b21cfd26ed933"), looks := false }, kinds := [], alts := [], laidByText := true, laidKinds := [.data, .pinned], laidTests := true, laidLooks := .later }
def FnExactShelvedUptoCardSaid : Prop := Claim7.holds Tryd.pinned (.plain (OpenSpec.upto fnExactShelvedSpec)) fnExactShelvedUptoCard

/-- THE SECOND FORM's CARD OF 'laws.FnExactNames'. -/
def fnExactNamesUptoCard : Claim7 := { stood := { row := fnExactNamesUptoRow, standIns := [], harness := (true, "38f1c2cba9089a641ce69628cbad1ff505ffb3e120d5e4e1ec4b21cfd26ed933"), looks := false }, kinds := [], alts := [], laidByText := true, laidKinds := [.data, .pinned], laidTests := true, laidLooks := .later }
def FnExactNamesUptoCardSaid : Prop := Claim7.holds Tryd.pinned (.plain (OpenSpec.upto fnExactNamesSpec)) fnExactNamesUptoCard

/-- THE SECOND FORM's CARD OF 'laws.FnExactLinkOk'. -/
def fnExactLinkOkUptoCard : Claim7 := { stood := { row := fnExactLinkOkUptoRow, standIns := [], harness := (true, "38f1c2cba9089a641ce69628cbad1ff505ffb3e120d5e4e1ec4b21cfd26ed933"), looks := false }, kinds := [], alts := [], laidByText := true, laidKinds := [.data, .pinned], laidTests := true, laidLooks := .later }
def FnExactLinkOkUptoCardSaid : Prop := Claim7.holds Tryd.pinned (.plain (OpenSpec.upto fnExactLinkOkSpec)) fnExactLinkOkUptoCard

/-- THE SECOND FORM's CARD OF 'laws.FnExactSound'. -/
def fnExactSoundUptoCard : Claim7 := { stood := { row := fnExactSoundUptoRow, standIns := [], harness := (true, "38f1c2cba9089a641ce69628cbad1ff505ffb3e120d5e4e1ec4b21cfd26ed933"), looks := false }, kinds := [], alts := [], laidByText := true, laidKinds := [.data, .pinned], laidTests := true, laidLooks := .later }
def FnExactSoundUptoCardSaid : Prop := Claim7.holds Tryd.pinned (.plain (OpenSpec.upto fnExactSoundSpec)) fnExactSoundUptoCard

/-- THE SECOND FORM's CARD OF 'laws.FnExactAsked'. -/
def fnExactAskedUptoCard : Claim7 := { stood := { row := fnExactAskedUptoRow, standIns := [], harness := (true, "38f1c2cba9089a641ce69628cbad1ff505ffb3e120d5e4e1ec4b21cfd26ed933"), looks := false }, kinds := [], alts := [], laidByText := true, laidKinds := [.data, .pinned], laidTests := true, laidLooks := .later }
def FnExactAskedUptoCardSaid : Prop := Claim7.holds Tryd.pinned (.plain (OpenSpec.upto fnExactAskedSpec)) fnExactAskedUptoCard
end Rows
end Go.Proofs.YtkehafdeijghgaaDoor
