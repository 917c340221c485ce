/-
  NARROWER THAN 'FOR EVERY INPUT', by the rows' own cells (each row's printed sentence says how): FnExactShelfOk: laid · FnExactShelved: laid · FnExactNames: laid · FnExactLinkOk: laid · FnExactSound: laid · FnExactAsked: laid.
  DERIVED. THE GIVEN ROWS OF THIS SEAT. 6 by the template 'for every input the law returns true; each argument reads behind the call as it read before'; 0 by the template 'total and deterministic' (their statements: YtkehafdeijghgaaDoorTotals.lean).
  GIVEN WITH THE SEED: the statements are not yours to turn. If you find one false, say at which input.
  Laid BY PROGRAM, IN A SANDBOX (cutbox-rows.mjs): the forced cells as the released guide's own fill.sh prints them over the translation f196d11f9fafa3bd… (all of the seat's roots in one cut). By AI agents, Wed Nov 11 2026. No macro, syntax, notation, axiom, sorry.
-/
import Derived.Test.YtkehafdeijghgaaDoorChecked
import GoSem.PinnedTables
import GoSem.Claim
import GoSem.ClaimJoined
import GoSem.ClaimMapViews
import Derived.JoinedTies
import Derived.KernelRfl
namespace Go.Proofs.YtkehafdeijghgaaDoor
/- THE CELL 'sum', in the pinned program and in every row, IS THE sha256 OF THE DUMP (.gsa) THAT YtkehafdeijghgaaDoorProg.lean LOADS. Nothing in Lean hashes anything: it is a label: what it is worth is what the hold of that sum in a sandbox is worth. -/
noncomputable def Tryd.pinned : Pinned := { name := "ytkehafdeijghgaadoor", sum := "f196d11f9fafa3bd4ca4e9e32a5043a440dace79a536b5ab149d0e41dadb1bde", checked := Tryd.checked }
namespace Rows
def none {H : Type} : Left H := { results := [], args := [] }

/- WHAT THE LISTED PACKAGE-LEVEL VARIABLES READ AS WHEN THE CALL BEGINS. Each datum BY PROGRAM (the guide's laid-datum.mjs) off the statement by which the dump's own 'gosem.cut.vars' lays the variable. In a bare row this is a premise. The card (YtkehafdeijghgaaDoorCards.lean) ties it to the program's text. -/
def laid_unicode_utf8_acceptRanges {H : Type} : DataW H := .agg [.agg [.lit (.int .u8 128), .lit (.int .u8 191)], .agg [.lit (.int .u8 160), .lit (.int .u8 191)], .agg [.lit (.int .u8 128), .lit (.int .u8 159)], .agg [.lit (.int .u8 144), .lit (.int .u8 191)], .agg [.lit (.int .u8 128), .lit (.int .u8 143)], .agg [.lit (.int .u8 0), .lit (.int .u8 0)], .agg [.lit (.int .u8 0), .lit (.int .u8 0)], .agg [.lit (.int .u8 0), .lit (.int .u8 0)], .agg [.lit (.int .u8 0), .lit (.int .u8 0)], .agg [.lit (.int .u8 0), .lit (.int .u8 0)], .agg [.lit (.int .u8 0), .lit (.int .u8 0)], .agg [.lit (.int .u8 0), .lit (.int .u8 0)], .agg [.lit (.int .u8 0), .lit (.int .u8 0)], .agg [.lit (.int .u8 0), .lit (.int .u8 0)], .agg [.lit (.int .u8 0), .lit (.int .u8 0)], .agg [.lit (.int .u8 0), .lit (.int .u8 0)]]
/-- One of Go's own tables, pinned by name: the form's constant. -/
def laid_unicode_utf8_first : DataW Unit := Go.Pinned.utf8First

/-- 'laws.FnExactShelfOk': WHATEVER THE INPUT: true; the input reads as it did. -/
def fnExactShelfOkSpec : ChangeSpec := { name := "fnExactShelfOk", fn := fun _ => fun
  | [d] => { results := [.lit (.bool true)], args := [d] }
  | _ => none }
def fnExactShelfOkRow : OpenClaim := { program := "ytkehafdeijghgaadoor", sum := "f196d11f9fafa3bd4ca4e9e32a5043a440dace79a536b5ab149d0e41dadb1bde", func := "loop.example/g00088/laws.FnExactShelfOk", spec := "fnExactShelfOk", inPlace := ["internal/bytealg.IndexByteString", "internal/bytealg.IndexString"], unfollowed := true, recurses := true, named := ["unicode/utf8.first", "unicode/utf8.acceptRanges", "internal/bytealg.MaxLen"], apart := false, laid := [("unicode/utf8.acceptRanges", laid_unicode_utf8_acceptRanges), ("unicode/utf8.first", laid_unicode_utf8_first)] }
def FnExactShelfOkSaid : Prop := fnExactShelfOkRow.holds Tryd.pinned (OpenSpec.ofChange fnExactShelfOkSpec)

/-- ITS FALSE NEIGHBOUR: 'it returns false'. Refute it at one input. -/
def fnExactShelfOkWrong : ChangeSpec := { name := "fnExactShelfOk", fn := fun _ => fun
  | [d] => { results := [.lit (.bool false)], args := [d] }
  | _ => none }
def FnExactShelfOkWrongFalsely : Prop := fnExactShelfOkRow.holds Tryd.pinned (OpenSpec.ofChange fnExactShelfOkWrong)

/-- 'laws.FnExactShelved': WHATEVER THE INPUT: true; the input reads as it did. -/
def fnExactShelvedSpec : ChangeSpec := { name := "fnExactShelved", fn := fun _ => fun
  | [d1, d2, d3] => { results := [.lit (.bool true)], args := [d1, d2, d3] }
  | _ => none }
def fnExactShelvedRow : OpenClaim := { program := "ytkehafdeijghgaadoor", sum := "f196d11f9fafa3bd4ca4e9e32a5043a440dace79a536b5ab149d0e41dadb1bde", func := "loop.example/g00088/laws.FnExactShelved", spec := "fnExactShelved", inPlace := ["internal/bytealg.IndexByteString", "internal/bytealg.IndexString", "internal/bytealg.abigen_runtime_cmpstring"], unfollowed := true, recurses := true, named := ["unicode/utf8.first", "unicode/utf8.acceptRanges", "internal/bytealg.MaxLen"], apart := false, laid := [("unicode/utf8.acceptRanges", laid_unicode_utf8_acceptRanges), ("unicode/utf8.first", laid_unicode_utf8_first)] }
def FnExactShelvedSaid : Prop := fnExactShelvedRow.holds Tryd.pinned (OpenSpec.ofChange fnExactShelvedSpec)

/-- ITS FALSE NEIGHBOUR: 'it returns false'. Refute it at one input. -/
def fnExactShelvedWrong : ChangeSpec := { name := "fnExactShelved", fn := fun _ => fun
  | [d1, d2, d3] => { results := [.lit (.bool false)], args := [d1, d2, d3] }
  | _ => none }
def FnExactShelvedWrongFalsely : Prop := fnExactShelvedRow.holds Tryd.pinned (OpenSpec.ofChange fnExactShelvedWrong)

/-- 'laws.FnExactNames': WHATEVER THE INPUT: true; the input reads as it did. -/
def fnExactNamesSpec : ChangeSpec := { name := "fnExactNames", fn := fun _ => fun
  | [d] => { results := [.lit (.bool true)], args := [d] }
  | _ => none }
def fnExactNamesRow : OpenClaim := { program := "ytkehafdeijghgaadoor", sum := "f196d11f9fafa3bd4ca4e9e32a5043a440dace79a536b5ab149d0e41dadb1bde", func := "loop.example/g00088/laws.FnExactNames", spec := "fnExactNames", inPlace := ["internal/bytealg.IndexByteString", "internal/bytealg.IndexString"], unfollowed := true, recurses := true, named := ["unicode/utf8.first", "unicode/utf8.acceptRanges", "internal/bytealg.MaxLen"], apart := false, laid := [("unicode/utf8.acceptRanges", laid_unicode_utf8_acceptRanges), ("unicode/utf8.first", laid_unicode_utf8_first)] }
def FnExactNamesSaid : Prop := fnExactNamesRow.holds Tryd.pinned (OpenSpec.ofChange fnExactNamesSpec)

/-- ITS FALSE NEIGHBOUR: 'it returns false'. Refute it at one input. -/
def fnExactNamesWrong : ChangeSpec := { name := "fnExactNames", fn := fun _ => fun
  | [d] => { results := [.lit (.bool false)], args := [d] }
  | _ => none }
def FnExactNamesWrongFalsely : Prop := fnExactNamesRow.holds Tryd.pinned (OpenSpec.ofChange fnExactNamesWrong)

/-- 'laws.FnExactLinkOk': WHATEVER THE INPUT: true; the input reads as it did. -/
def fnExactLinkOkSpec : ChangeSpec := { name := "fnExactLinkOk", fn := fun _ => fun
  | [d] => { results := [.lit (.bool true)], args := [d] }
  | _ => none }
def fnExactLinkOkRow : OpenClaim := { program := "ytkehafdeijghgaadoor", sum := "f196d11f9fafa3bd4ca4e9e32a5043a440dace79a536b5ab149d0e41dadb1bde", func := "loop.example/g00088/laws.FnExactLinkOk", spec := "fnExactLinkOk", inPlace := ["internal/bytealg.IndexByteString", "internal/bytealg.IndexString"], unfollowed := true, recurses := true, named := ["unicode/utf8.first", "unicode/utf8.acceptRanges", "internal/bytealg.MaxLen"], apart := false, laid := [("unicode/utf8.acceptRanges", laid_unicode_utf8_acceptRanges), ("unicode/utf8.first", laid_unicode_utf8_first)] }
def FnExactLinkOkSaid : Prop := fnExactLinkOkRow.holds Tryd.pinned (OpenSpec.ofChange fnExactLinkOkSpec)

/-- ITS FALSE NEIGHBOUR: 'it returns false'. Refute it at one input. -/
def fnExactLinkOkWrong : ChangeSpec := { name := "fnExactLinkOk", fn := fun _ => fun
  | [d] => { results := [.lit (.bool false)], args := [d] }
  | _ => none }
def FnExactLinkOkWrongFalsely : Prop := fnExactLinkOkRow.holds Tryd.pinned (OpenSpec.ofChange fnExactLinkOkWrong)

/-- 'laws.FnExactSound': WHATEVER THE INPUT: true; the input reads as it did. -/
def fnExactSoundSpec : ChangeSpec := { name := "fnExactSound", fn := fun _ => fun
  | [d1, d2] => { results := [.lit (.bool true)], args := [d1, d2] }
  | _ => none }
def fnExactSoundRow : OpenClaim := { program := "ytkehafdeijghgaadoor", sum := "f196d11f9fafa3bd4ca4e9e32a5043a440dace79a536b5ab149d0e41dadb1bde", func := "loop.example/g00088/laws.FnExactSound", spec := "fnExactSound", inPlace := ["internal/bytealg.IndexByteString", "internal/bytealg.IndexString"], unfollowed := true, recurses := true, named := ["unicode/utf8.first", "unicode/utf8.acceptRanges", "internal/bytealg.MaxLen"], apart := false, laid := [("unicode/utf8.acceptRanges", laid_unicode_utf8_acceptRanges), ("unicode/utf8.first", laid_unicode_utf8_first)] }
def FnExactSoundSaid : Prop := fnExactSoundRow.holds Tryd.pinned (OpenSpec.ofChange fnExactSoundSpec)

/-- ITS FALSE NEIGHBOUR: 'it returns false'. Refute it at one input. -/
def fnExactSoundWrong : ChangeSpec := { name := "fnExactSound", fn := fun _ => fun
  | [d1, d2] => { results := [.lit (.bool false)], args := [d1, d2] }
  | _ => none }
def FnExactSoundWrongFalsely : Prop := fnExactSoundRow.holds Tryd.pinned (OpenSpec.ofChange fnExactSoundWrong)

/-- 'laws.FnExactAsked': WHATEVER THE INPUT: true; the input reads as it did. -/
def fnExactAskedSpec : ChangeSpec := { name := "fnExactAsked", fn := fun _ => fun
  | [d1, d2] => { results := [.lit (.bool true)], args := [d1, d2] }
  | _ => none }
def fnExactAskedRow : OpenClaim := { program := "ytkehafdeijghgaadoor", sum := "f196d11f9fafa3bd4ca4e9e32a5043a440dace79a536b5ab149d0e41dadb1bde", func := "loop.example/g00088/laws.FnExactAsked", spec := "fnExactAsked", inPlace := ["internal/bytealg.IndexByteString", "internal/bytealg.IndexString"], unfollowed := true, recurses := true, named := ["unicode/utf8.first", "unicode/utf8.acceptRanges", "internal/bytealg.MaxLen"], apart := false, laid := [("unicode/utf8.acceptRanges", laid_unicode_utf8_acceptRanges), ("unicode/utf8.first", laid_unicode_utf8_first)] }
def FnExactAskedSaid : Prop := fnExactAskedRow.holds Tryd.pinned (OpenSpec.ofChange fnExactAskedSpec)

/-- ITS FALSE NEIGHBOUR: 'it returns false'. Refute it at one input. -/
def fnExactAskedWrong : ChangeSpec := { name := "fnExactAsked", fn := fun _ => fun
  | [d1, d2] => { results := [.lit (.bool false)], args := [d1, d2] }
  | _ => none }
def FnExactAskedWrongFalsely : Prop := fnExactAskedRow.holds Tryd.pinned (OpenSpec.ofChange fnExactAskedWrong)

/- THE SECOND FORM. 'bulk': how many values and letters a reading holds, each counted each time it is reached (what is shared counts as often as it is met; a slice's spare places count too). A statement '..UptoSaid' is the law's where the arguments, and the package variables that the reading takes, are together of bulk at most 1048576: NARROWER than '..Said'. Prove '..Said' where nothing that the law and all that it calls make is longer than what came in: it says more and counts as full. Else prove '..UptoSaid'. A law counts once. -/
mutual
def uptoBulk {H : Type} : DataW H → Nat
  | .lit (.string bytes) => bytes.length + 1
  | .lit _ => 1
  | .nil => 1
  | .ptr d => uptoBulk d + 1
  | .slice elems spare => uptoBulkAll elems + uptoBulkAll spare + 1
  | .agg parts => uptoBulkAll parts + 1
  | .iface _ d => uptoBulk d + 1
  | .map entries => uptoBulkEntries entries + 1
  | .held _ => 1
def uptoBulkAll {H : Type} : List (DataW H) → Nat
  | [] => 0
  | d :: r => uptoBulk d + uptoBulkAll r
def uptoBulkEntries {H : Type} : List (Lit × DataW H) → Nat
  | [] => 0
  | x :: r => uptoBulkEntry x + uptoBulkEntries r
def uptoBulkEntry {H : Type} : Lit × DataW H → Nat
  | (.string bytes, d) => bytes.length + uptoBulk d + 1
  | (_, d) => uptoBulk d + 1
 end
def uptoSmall : (H : Type) → List (DataW H) → Bool := fun _ ds => decide (uptoBulkAll ds ≤ 1048576)
def OpenSpec.upto (s : _root_.Go.ChangeSpec) : _root_.Go.OpenSpec := { _root_.Go.OpenSpec.ofChange s with cond := some uptoSmall }

/-- 'laws.FnExactShelfOk', WHERE WHAT IT READS IS OF BULK AT MOST 1048576: true; the input reads as it did. -/
def fnExactShelfOkUptoRow : OpenClaim := { program := "ytkehafdeijghgaadoor", sum := "f196d11f9fafa3bd4ca4e9e32a5043a440dace79a536b5ab149d0e41dadb1bde", func := "loop.example/g00088/laws.FnExactShelfOk", spec := "fnExactShelfOk", inPlace := ["internal/bytealg.IndexByteString", "internal/bytealg.IndexString"], unfollowed := true, recurses := true, named := ["unicode/utf8.first", "unicode/utf8.acceptRanges", "internal/bytealg.MaxLen"], apart := false, laid := [("unicode/utf8.acceptRanges", laid_unicode_utf8_acceptRanges), ("unicode/utf8.first", laid_unicode_utf8_first)], narrowed := true }
def FnExactShelfOkUptoSaid : Prop := fnExactShelfOkUptoRow.holds Tryd.pinned (OpenSpec.upto fnExactShelfOkSpec)

/-- 'laws.FnExactShelved', WHERE WHAT IT READS IS OF BULK AT MOST 1048576: true; the input reads as it did. -/
def fnExactShelvedUptoRow : OpenClaim := { program := "ytkehafdeijghgaadoor", sum := "f196d11f9fafa3bd4ca4e9e32a5043a440dace79a536b5ab149d0e41dadb1bde", func := "loop.example/g00088/laws.FnExactShelved", spec := "fnExactShelved", inPlace := ["internal/bytealg.IndexByteString", "internal/bytealg.IndexString", "internal/bytealg.abigen_runtime_cmpstring"], unfollowed := true, recurses := true, named := ["unicode/utf8.first", "unicode/utf8.acceptRanges", "internal/bytealg.MaxLen"], apart := false, laid := [("unicode/utf8.acceptRanges", laid_unicode_utf8_acceptRanges), ("unicode/utf8.first", laid_unicode_utf8_first)], narrowed := true }
def FnExactShelvedUptoSaid : Prop := fnExactShelvedUptoRow.holds Tryd.pinned (OpenSpec.upto fnExactShelvedSpec)

/-- 'laws.FnExactNames', WHERE WHAT IT READS IS OF BULK AT MOST 1048576: true; the input reads as it did. -/
def fnExactNamesUptoRow : OpenClaim := { program := "ytkehafdeijghgaadoor", sum := "f196d11f9fafa3bd4ca4e9e32a5043a440dace79a536b5ab149d0e41dadb1bde", func := "loop.example/g00088/laws.FnExactNames", spec := "fnExactNames", inPlace := ["internal/bytealg.IndexByteString", "internal/bytealg.IndexString"], unfollowed := true, recurses := true, named := ["unicode/utf8.first", "unicode/utf8.acceptRanges", "internal/bytealg.MaxLen"], apart := false, laid := [("unicode/utf8.acceptRanges", laid_unicode_utf8_acceptRanges), ("unicode/utf8.first", laid_unicode_utf8_first)], narrowed := true }
def FnExactNamesUptoSaid : Prop := fnExactNamesUptoRow.holds Tryd.pinned (OpenSpec.upto fnExactNamesSpec)

/-- 'laws.FnExactLinkOk', WHERE WHAT IT READS IS OF BULK AT MOST 1048576: true; the input reads as it did. -/
def fnExactLinkOkUptoRow : OpenClaim := { program := "ytkehafdeijghgaadoor", sum := "f196d11f9fafa3bd4ca4e9e32a5043a440dace79a536b5ab149d0e41dadb1bde", func := "loop.example/g00088/laws.FnExactLinkOk", spec := "fnExactLinkOk", inPlace := ["internal/bytealg.IndexByteString", "internal/bytealg.IndexString"], unfollowed := true, recurses := true, named := ["unicode/utf8.first", "unicode/utf8.acceptRanges", "internal/bytealg.MaxLen"], apart := false, laid := [("unicode/utf8.acceptRanges", laid_unicode_utf8_acceptRanges), ("unicode/utf8.first", laid_unicode_utf8_first)], narrowed := true }
def FnExactLinkOkUptoSaid : Prop := fnExactLinkOkUptoRow.holds Tryd.pinned (OpenSpec.upto fnExactLinkOkSpec)

/-- 'laws.FnExactSound', WHERE WHAT IT READS IS OF BULK AT MOST 1048576: true; the input reads as it did. -/
def fnExactSoundUptoRow : OpenClaim := { program := "ytkehafdeijghgaadoor", sum := "f196d11f9fafa3bd4ca4e9e32a5043a440dace79a536b5ab149d0e41dadb1bde", func := "loop.example/g00088/laws.FnExactSound", spec := "fnExactSound", inPlace := ["internal/bytealg.IndexByteString", "internal/bytealg.IndexString"], unfollowed := true, recurses := true, named := ["unicode/utf8.first", "unicode/utf8.acceptRanges", "internal/bytealg.MaxLen"], apart := false, laid := [("unicode/utf8.acceptRanges", laid_unicode_utf8_acceptRanges), ("unicode/utf8.first", laid_unicode_utf8_first)], narrowed := true }
def FnExactSoundUptoSaid : Prop := fnExactSoundUptoRow.holds Tryd.pinned (OpenSpec.upto fnExactSoundSpec)

/-- 'laws.FnExactAsked', WHERE WHAT IT READS IS OF BULK AT MOST 1048576: true; the input reads as it did. -/
def fnExactAskedUptoRow : OpenClaim := { program := "ytkehafdeijghgaadoor", sum := "f196d11f9fafa3bd4ca4e9e32a5043a440dace79a536b5ab149d0e41dadb1bde", func := "loop.example/g00088/laws.FnExactAsked", spec := "fnExactAsked", inPlace := ["internal/bytealg.IndexByteString", "internal/bytealg.IndexString"], unfollowed := true, recurses := true, named := ["unicode/utf8.first", "unicode/utf8.acceptRanges", "internal/bytealg.MaxLen"], apart := false, laid := [("unicode/utf8.acceptRanges", laid_unicode_utf8_acceptRanges), ("unicode/utf8.first", laid_unicode_utf8_first)], narrowed := true }
def FnExactAskedUptoSaid : Prop := fnExactAskedUptoRow.holds Tryd.pinned (OpenSpec.upto fnExactAskedSpec)

end Rows
end Go.Proofs.YtkehafdeijghgaaDoor
