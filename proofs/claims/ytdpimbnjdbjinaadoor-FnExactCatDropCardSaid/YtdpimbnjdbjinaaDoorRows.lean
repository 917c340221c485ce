/-
  NARROWER THAN 'FOR EVERY INPUT', by the rows' own cells (each row's printed sentence says how): FnExactAskOk: laid · FnExactGetAsk: laid · FnExactPutAsk: laid · FnWire: laid · FnExactCatOk: laid · FnExactCatFind: laid · FnExactCatNames: laid · FnExactCatDrop: laid · FnExactCatDiff: laid · FnExactCatPut: laid · FnExactCatBytes: laid · FnExactCatRead: laid.
  DERIVED. THE GIVEN ROWS OF THIS SEAT. 12 by the template 'for every input the law returns true; each argument reads behind the call as it read before'; 0 by the template 'total and deterministic' (their statements: YtdpimbnjdbjinaaDoorTotals.lean).
  GIVEN WITH THE SEED: the statements are not yours to turn. If you find one false, say at which input.
  Laid BY PROGRAM, IN A SANDBOX (cutbox-rows.mjs): the forced cells as the released guide's own fill.sh prints them over the translation bf6b61004cee9b65… (all of the seat's roots in one cut). By AI agents, Wed Nov 11 2026. No macro, syntax, notation, axiom, sorry.
-/
import Derived.Test.YtdpimbnjdbjinaaDoorChecked
import GoSem.PinnedTables
import GoSem.Claim
import GoSem.ClaimJoined
import GoSem.ClaimMapViews
import Derived.JoinedTies
import Derived.KernelRfl
namespace Go.Proofs.YtdpimbnjdbjinaaDoor
/- THE CELL 'sum', in the pinned program and in every row, IS THE sha256 OF THE DUMP (.gsa) THAT YtdpimbnjdbjinaaDoorProg.lean LOADS. Nothing in Lean hashes anything: it is a label: what it is worth is what the hold of that sum in a sandbox is worth. -/
noncomputable def Tryd.pinned : Pinned := { name := "ytdpimbnjdbjinaadoor", sum := "bf6b61004cee9b65b7dd243abea35a2bf365bbc5ae12738aea5ea576aca44739", checked := Tryd.checked }
namespace Rows
def none {H : Type} : Left H := { results := [], args := [] }

/- WHAT THE LISTED PACKAGE-LEVEL VARIABLES READ AS WHEN THE CALL BEGINS. Each datum BY PROGRAM (the guide's laid-datum.mjs) off the statement by which the dump's own 'gosem.cut.vars' lays the variable. In a bare row this is a premise. The card (YtdpimbnjdbjinaaDoorCards.lean) ties it to the program's text. -/
def laid_unicode_utf8_acceptRanges {H : Type} : DataW H := .agg [.agg [.lit (.int .u8 128), .lit (.int .u8 191)], .agg [.lit (.int .u8 160), .lit (.int .u8 191)], .agg [.lit (.int .u8 128), .lit (.int .u8 159)], .agg [.lit (.int .u8 144), .lit (.int .u8 191)], .agg [.lit (.int .u8 128), .lit (.int .u8 143)], .agg [.lit (.int .u8 0), .lit (.int .u8 0)], .agg [.lit (.int .u8 0), .lit (.int .u8 0)], .agg [.lit (.int .u8 0), .lit (.int .u8 0)], .agg [.lit (.int .u8 0), .lit (.int .u8 0)], .agg [.lit (.int .u8 0), .lit (.int .u8 0)], .agg [.lit (.int .u8 0), .lit (.int .u8 0)], .agg [.lit (.int .u8 0), .lit (.int .u8 0)], .agg [.lit (.int .u8 0), .lit (.int .u8 0)], .agg [.lit (.int .u8 0), .lit (.int .u8 0)], .agg [.lit (.int .u8 0), .lit (.int .u8 0)], .agg [.lit (.int .u8 0), .lit (.int .u8 0)]]
/-- One of Go's own tables, pinned by name: the form's constant. -/
def laid_unicode_utf8_first : DataW Unit := Go.Pinned.utf8First

/-- 'laws.FnExactAskOk': WHATEVER THE INPUT: true; the input reads as it did. -/
def fnExactAskOkSpec : ChangeSpec := { name := "fnExactAskOk", fn := fun _ => fun
  | [d] => { results := [.lit (.bool true)], args := [d] }
  | _ => none }
def fnExactAskOkRow : OpenClaim := { program := "ytdpimbnjdbjinaadoor", sum := "bf6b61004cee9b65b7dd243abea35a2bf365bbc5ae12738aea5ea576aca44739", func := "loop.example/g00088/laws.FnExactAskOk", spec := "fnExactAskOk", inPlace := ["internal/bytealg.IndexByteString", "internal/bytealg.IndexString"], named := ["unicode/utf8.first", "unicode/utf8.acceptRanges", "internal/bytealg.MaxLen"], apart := false, laid := [("unicode/utf8.acceptRanges", laid_unicode_utf8_acceptRanges), ("unicode/utf8.first", laid_unicode_utf8_first)] }
def FnExactAskOkSaid : Prop := fnExactAskOkRow.holds Tryd.pinned (OpenSpec.ofChange fnExactAskOkSpec)

/-- ITS FALSE NEIGHBOUR: 'it returns false'. Refute it at one input. -/
def fnExactAskOkWrong : ChangeSpec := { name := "fnExactAskOk", fn := fun _ => fun
  | [d] => { results := [.lit (.bool false)], args := [d] }
  | _ => none }
def FnExactAskOkWrongFalsely : Prop := fnExactAskOkRow.holds Tryd.pinned (OpenSpec.ofChange fnExactAskOkWrong)

/-- 'laws.FnExactGetAsk': WHATEVER THE INPUT: true; the input reads as it did. -/
def fnExactGetAskSpec : ChangeSpec := { name := "fnExactGetAsk", fn := fun _ => fun
  | [d] => { results := [.lit (.bool true)], args := [d] }
  | _ => none }
def fnExactGetAskRow : OpenClaim := { program := "ytdpimbnjdbjinaadoor", sum := "bf6b61004cee9b65b7dd243abea35a2bf365bbc5ae12738aea5ea576aca44739", func := "loop.example/g00088/laws.FnExactGetAsk", spec := "fnExactGetAsk", inPlace := ["internal/bytealg.IndexByteString", "internal/bytealg.IndexString"], named := ["unicode/utf8.first", "unicode/utf8.acceptRanges", "internal/bytealg.MaxLen"], apart := false, laid := [("unicode/utf8.acceptRanges", laid_unicode_utf8_acceptRanges), ("unicode/utf8.first", laid_unicode_utf8_first)] }
def FnExactGetAskSaid : Prop := fnExactGetAskRow.holds Tryd.pinned (OpenSpec.ofChange fnExactGetAskSpec)

/-- ITS FALSE NEIGHBOUR: 'it returns false'. Refute it at one input. -/
def fnExactGetAskWrong : ChangeSpec := { name := "fnExactGetAsk", fn := fun _ => fun
  | [d] => { results := [.lit (.bool false)], args := [d] }
  | _ => none }
def FnExactGetAskWrongFalsely : Prop := fnExactGetAskRow.holds Tryd.pinned (OpenSpec.ofChange fnExactGetAskWrong)

/-- 'laws.FnExactPutAsk': WHATEVER THE INPUT: true; the input reads as it did. -/
def fnExactPutAskSpec : ChangeSpec := { name := "fnExactPutAsk", fn := fun _ => fun
  | [d] => { results := [.lit (.bool true)], args := [d] }
  | _ => none }
def fnExactPutAskRow : OpenClaim := { program := "ytdpimbnjdbjinaadoor", sum := "bf6b61004cee9b65b7dd243abea35a2bf365bbc5ae12738aea5ea576aca44739", func := "loop.example/g00088/laws.FnExactPutAsk", spec := "fnExactPutAsk", inPlace := ["internal/bytealg.IndexByteString", "internal/bytealg.IndexString"], named := ["unicode/utf8.first", "unicode/utf8.acceptRanges", "internal/bytealg.MaxLen"], apart := false, laid := [("unicode/utf8.acceptRanges", laid_unicode_utf8_acceptRanges), ("unicode/utf8.first", laid_unicode_utf8_first)] }
def FnExactPutAskSaid : Prop := fnExactPutAskRow.holds Tryd.pinned (OpenSpec.ofChange fnExactPutAskSpec)

/-- ITS FALSE NEIGHBOUR: 'it returns false'. Refute it at one input. -/
def fnExactPutAskWrong : ChangeSpec := { name := "fnExactPutAsk", fn := fun _ => fun
  | [d] => { results := [.lit (.bool false)], args := [d] }
  | _ => none }
def FnExactPutAskWrongFalsely : Prop := fnExactPutAskRow.holds Tryd.pinned (OpenSpec.ofChange fnExactPutAskWrong)

/-- 'laws.FnWire': WHATEVER THE INPUT: true; the input reads as it did. -/
def fnWireSpec : ChangeSpec := { name := "fnWire", fn := fun _ => fun
  | [d] => { results := [.lit (.bool true)], args := [d] }
  | _ => none }
def fnWireRow : OpenClaim := { program := "ytdpimbnjdbjinaadoor", sum := "bf6b61004cee9b65b7dd243abea35a2bf365bbc5ae12738aea5ea576aca44739", func := "loop.example/g00088/laws.FnWire", spec := "fnWire", inPlace := ["internal/bytealg.IndexByteString", "internal/bytealg.IndexString"], unfollowed := true, recurses := true, named := ["unicode/utf8.first", "unicode/utf8.acceptRanges", "internal/bytealg.MaxLen"], apart := false, laid := [("unicode/utf8.acceptRanges", laid_unicode_utf8_acceptRanges), ("unicode/utf8.first", laid_unicode_utf8_first)] }
def FnWireSaid : Prop := fnWireRow.holds Tryd.pinned (OpenSpec.ofChange fnWireSpec)

/-- ITS FALSE NEIGHBOUR: 'it returns false'. Refute it at one input. -/
def fnWireWrong : ChangeSpec := { name := "fnWire", fn := fun _ => fun
  | [d] => { results := [.lit (.bool false)], args := [d] }
  | _ => none }
def FnWireWrongFalsely : Prop := fnWireRow.holds Tryd.pinned (OpenSpec.ofChange fnWireWrong)

/-- 'laws.FnExactCatOk': WHATEVER THE INPUT: true; the input reads as it did. -/
def fnExactCatOkSpec : ChangeSpec := { name := "fnExactCatOk", fn := fun _ => fun
  | [d] => { results := [.lit (.bool true)], args := [d] }
  | _ => none }
def fnExactCatOkRow : OpenClaim := { program := "ytdpimbnjdbjinaadoor", sum := "bf6b61004cee9b65b7dd243abea35a2bf365bbc5ae12738aea5ea576aca44739", func := "loop.example/g00088/laws.FnExactCatOk", spec := "fnExactCatOk", inPlace := ["internal/bytealg.IndexByteString", "internal/bytealg.IndexString"], named := ["unicode/utf8.first", "unicode/utf8.acceptRanges", "internal/bytealg.MaxLen"], apart := false, laid := [("unicode/utf8.acceptRanges", laid_unicode_utf8_acceptRanges), ("unicode/utf8.first", laid_unicode_utf8_first)] }
def FnExactCatOkSaid : Prop := fnExactCatOkRow.holds Tryd.pinned (OpenSpec.ofChange fnExactCatOkSpec)

/-- ITS FALSE NEIGHBOUR: 'it returns false'. Refute it at one input. -/
def fnExactCatOkWrong : ChangeSpec := { name := "fnExactCatOk", fn := fun _ => fun
  | [d] => { results := [.lit (.bool false)], args := [d] }
  | _ => none }
def FnExactCatOkWrongFalsely : Prop := fnExactCatOkRow.holds Tryd.pinned (OpenSpec.ofChange fnExactCatOkWrong)

/-- 'laws.FnExactCatFind': WHATEVER THE INPUT: true; the input reads as it did. -/
def fnExactCatFindSpec : ChangeSpec := { name := "fnExactCatFind", fn := fun _ => fun
  | [d1, d2] => { results := [.lit (.bool true)], args := [d1, d2] }
  | _ => none }
def fnExactCatFindRow : OpenClaim := { program := "ytdpimbnjdbjinaadoor", sum := "bf6b61004cee9b65b7dd243abea35a2bf365bbc5ae12738aea5ea576aca44739", func := "loop.example/g00088/laws.FnExactCatFind", spec := "fnExactCatFind", inPlace := ["internal/bytealg.IndexByteString", "internal/bytealg.IndexString", "internal/bytealg.abigen_runtime_cmpstring"], unfollowed := true, recurses := true, named := ["unicode/utf8.first", "unicode/utf8.acceptRanges", "internal/bytealg.MaxLen"], apart := false, laid := [("unicode/utf8.acceptRanges", laid_unicode_utf8_acceptRanges), ("unicode/utf8.first", laid_unicode_utf8_first)] }
def FnExactCatFindSaid : Prop := fnExactCatFindRow.holds Tryd.pinned (OpenSpec.ofChange fnExactCatFindSpec)

/-- ITS FALSE NEIGHBOUR: 'it returns false'. Refute it at one input. -/
def fnExactCatFindWrong : ChangeSpec := { name := "fnExactCatFind", fn := fun _ => fun
  | [d1, d2] => { results := [.lit (.bool false)], args := [d1, d2] }
  | _ => none }
def FnExactCatFindWrongFalsely : Prop := fnExactCatFindRow.holds Tryd.pinned (OpenSpec.ofChange fnExactCatFindWrong)

/-- 'laws.FnExactCatNames': WHATEVER THE INPUT: true; the input reads as it did. -/
def fnExactCatNamesSpec : ChangeSpec := { name := "fnExactCatNames", fn := fun _ => fun
  | [d] => { results := [.lit (.bool true)], args := [d] }
  | _ => none }
def fnExactCatNamesRow : OpenClaim := { program := "ytdpimbnjdbjinaadoor", sum := "bf6b61004cee9b65b7dd243abea35a2bf365bbc5ae12738aea5ea576aca44739", func := "loop.example/g00088/laws.FnExactCatNames", spec := "fnExactCatNames", inPlace := ["internal/bytealg.IndexByteString", "internal/bytealg.IndexString"], named := ["unicode/utf8.first", "unicode/utf8.acceptRanges", "internal/bytealg.MaxLen"], apart := false, laid := [("unicode/utf8.acceptRanges", laid_unicode_utf8_acceptRanges), ("unicode/utf8.first", laid_unicode_utf8_first)] }
def FnExactCatNamesSaid : Prop := fnExactCatNamesRow.holds Tryd.pinned (OpenSpec.ofChange fnExactCatNamesSpec)

/-- ITS FALSE NEIGHBOUR: 'it returns false'. Refute it at one input. -/
def fnExactCatNamesWrong : ChangeSpec := { name := "fnExactCatNames", fn := fun _ => fun
  | [d] => { results := [.lit (.bool false)], args := [d] }
  | _ => none }
def FnExactCatNamesWrongFalsely : Prop := fnExactCatNamesRow.holds Tryd.pinned (OpenSpec.ofChange fnExactCatNamesWrong)

/-- 'laws.FnExactCatDrop': WHATEVER THE INPUT: true; the input reads as it did. -/
def fnExactCatDropSpec : ChangeSpec := { name := "fnExactCatDrop", fn := fun _ => fun
  | [d1, d2] => { results := [.lit (.bool true)], args := [d1, d2] }
  | _ => none }
def fnExactCatDropRow : OpenClaim := { program := "ytdpimbnjdbjinaadoor", sum := "bf6b61004cee9b65b7dd243abea35a2bf365bbc5ae12738aea5ea576aca44739", func := "loop.example/g00088/laws.FnExactCatDrop", spec := "fnExactCatDrop", inPlace := ["internal/bytealg.IndexByteString", "internal/bytealg.IndexString", "internal/bytealg.abigen_runtime_cmpstring"], unfollowed := true, recurses := true, named := ["unicode/utf8.first", "unicode/utf8.acceptRanges", "internal/bytealg.MaxLen"], apart := false, laid := [("unicode/utf8.acceptRanges", laid_unicode_utf8_acceptRanges), ("unicode/utf8.first", laid_unicode_utf8_first)] }
def FnExactCatDropSaid : Prop := fnExactCatDropRow.holds Tryd.pinned (OpenSpec.ofChange fnExactCatDropSpec)

/-- ITS FALSE NEIGHBOUR: 'it returns false'. Refute it at one input. -/
def fnExactCatDropWrong : ChangeSpec := { name := "fnExactCatDrop", fn := fun _ => fun
  | [d1, d2] => { results := [.lit (.bool false)], args := [d1, d2] }
  | _ => none }
def FnExactCatDropWrongFalsely : Prop := fnExactCatDropRow.holds Tryd.pinned (OpenSpec.ofChange fnExactCatDropWrong)

/-- 'laws.FnExactCatDiff': WHATEVER THE INPUT: true; the input reads as it did. -/
def fnExactCatDiffSpec : ChangeSpec := { name := "fnExactCatDiff", fn := fun _ => fun
  | [d1, d2] => { results := [.lit (.bool true)], args := [d1, d2] }
  | _ => none }
def fnExactCatDiffRow : OpenClaim := { program := "ytdpimbnjdbjinaadoor", sum := "bf6b61004cee9b65b7dd243abea35a2bf365bbc5ae12738aea5ea576aca44739", func := "loop.example/g00088/laws.FnExactCatDiff", spec := "fnExactCatDiff", inPlace := ["internal/bytealg.IndexByteString", "internal/bytealg.IndexString", "internal/bytealg.abigen_runtime_cmpstring"], unfollowed := true, recurses := true, named := ["unicode/utf8.first", "unicode/utf8.acceptRanges", "internal/bytealg.MaxLen"], apart := false, laid := [("unicode/utf8.acceptRanges", laid_unicode_utf8_acceptRanges), ("unicode/utf8.first", laid_unicode_utf8_first)] }
def FnExactCatDiffSaid : Prop := fnExactCatDiffRow.holds Tryd.pinned (OpenSpec.ofChange fnExactCatDiffSpec)

/-- ITS FALSE NEIGHBOUR: 'it returns false'. Refute it at one input. -/
def fnExactCatDiffWrong : ChangeSpec := { name := "fnExactCatDiff", fn := fun _ => fun
  | [d1, d2] => { results := [.lit (.bool false)], args := [d1, d2] }
  | _ => none }
def FnExactCatDiffWrongFalsely : Prop := fnExactCatDiffRow.holds Tryd.pinned (OpenSpec.ofChange fnExactCatDiffWrong)

/-- 'laws.FnExactCatPut': WHATEVER THE INPUT: true; the input reads as it did. -/
def fnExactCatPutSpec : ChangeSpec := { name := "fnExactCatPut", fn := fun _ => fun
  | [d1, d2] => { results := [.lit (.bool true)], args := [d1, d2] }
  | _ => none }
def fnExactCatPutRow : OpenClaim := { program := "ytdpimbnjdbjinaadoor", sum := "bf6b61004cee9b65b7dd243abea35a2bf365bbc5ae12738aea5ea576aca44739", func := "loop.example/g00088/laws.FnExactCatPut", spec := "fnExactCatPut", inPlace := ["internal/bytealg.IndexByteString", "internal/bytealg.IndexString", "internal/bytealg.abigen_runtime_cmpstring", "slices.overlaps[loop.example/g00088/impl.Entry]"], unfollowed := true, recurses := true, named := ["unicode/utf8.first", "unicode/utf8.acceptRanges", "internal/bytealg.MaxLen"], apart := false, laid := [("unicode/utf8.acceptRanges", laid_unicode_utf8_acceptRanges), ("unicode/utf8.first", laid_unicode_utf8_first)] }
def FnExactCatPutSaid : Prop := fnExactCatPutRow.holds Tryd.pinned (OpenSpec.ofChange fnExactCatPutSpec)

/-- ITS FALSE NEIGHBOUR: 'it returns false'. Refute it at one input. -/
def fnExactCatPutWrong : ChangeSpec := { name := "fnExactCatPut", fn := fun _ => fun
  | [d1, d2] => { results := [.lit (.bool false)], args := [d1, d2] }
  | _ => none }
def FnExactCatPutWrongFalsely : Prop := fnExactCatPutRow.holds Tryd.pinned (OpenSpec.ofChange fnExactCatPutWrong)

/-- 'laws.FnExactCatBytes': WHATEVER THE INPUT: true; the input reads as it did. -/
def fnExactCatBytesSpec : ChangeSpec := { name := "fnExactCatBytes", fn := fun _ => fun
  | [d] => { results := [.lit (.bool true)], args := [d] }
  | _ => none }
def fnExactCatBytesRow : OpenClaim := { program := "ytdpimbnjdbjinaadoor", sum := "bf6b61004cee9b65b7dd243abea35a2bf365bbc5ae12738aea5ea576aca44739", func := "loop.example/g00088/laws.FnExactCatBytes", spec := "fnExactCatBytes", inPlace := ["internal/bytealg.IndexByteString", "internal/bytealg.IndexString"], named := ["unicode/utf8.first", "unicode/utf8.acceptRanges", "internal/bytealg.MaxLen"], apart := false, laid := [("unicode/utf8.acceptRanges", laid_unicode_utf8_acceptRanges), ("unicode/utf8.first", laid_unicode_utf8_first)] }
def FnExactCatBytesSaid : Prop := fnExactCatBytesRow.holds Tryd.pinned (OpenSpec.ofChange fnExactCatBytesSpec)

/-- ITS FALSE NEIGHBOUR: 'it returns false'. Refute it at one input. -/
def fnExactCatBytesWrong : ChangeSpec := { name := "fnExactCatBytes", fn := fun _ => fun
  | [d] => { results := [.lit (.bool false)], args := [d] }
  | _ => none }
def FnExactCatBytesWrongFalsely : Prop := fnExactCatBytesRow.holds Tryd.pinned (OpenSpec.ofChange fnExactCatBytesWrong)

/-- 'laws.FnExactCatRead': WHATEVER THE INPUT: true; the input reads as it did. -/
def fnExactCatReadSpec : ChangeSpec := { name := "fnExactCatRead", fn := fun _ => fun
  | [d] => { results := [.lit (.bool true)], args := [d] }
  | _ => none }
def fnExactCatReadRow : OpenClaim := { program := "ytdpimbnjdbjinaadoor", sum := "bf6b61004cee9b65b7dd243abea35a2bf365bbc5ae12738aea5ea576aca44739", func := "loop.example/g00088/laws.FnExactCatRead", spec := "fnExactCatRead", inPlace := ["internal/bytealg.IndexByteString", "internal/bytealg.IndexString"], named := ["unicode/utf8.first", "unicode/utf8.acceptRanges", "internal/bytealg.MaxLen"], apart := false, laid := [("unicode/utf8.acceptRanges", laid_unicode_utf8_acceptRanges), ("unicode/utf8.first", laid_unicode_utf8_first)] }
def FnExactCatReadSaid : Prop := fnExactCatReadRow.holds Tryd.pinned (OpenSpec.ofChange fnExactCatReadSpec)

/-- ITS FALSE NEIGHBOUR: 'it returns false'. Refute it at one input. -/
def fnExactCatReadWrong : ChangeSpec := { name := "fnExactCatRead", fn := fun _ => fun
  | [d] => { results := [.lit (.bool false)], args := [d] }
  | _ => none }
def FnExactCatReadWrongFalsely : Prop := fnExactCatReadRow.holds Tryd.pinned (OpenSpec.ofChange fnExactCatReadWrong)

/- THE SECOND FORM. 'bulk': how many values and letters a reading holds, each counted each time it is reached (what is shared counts as often as it is met; a slice's spare places count too). A statement '..UptoSaid' is the law's where the arguments, and the package variables that the reading takes, are together of bulk at most 1048576: NARROWER than '..Said'. Prove '..Said' where nothing that the law and all that it calls make is longer than what came in: it says more and counts as full. Else prove '..UptoSaid'. A law counts once. -/
mutual
def uptoBulk {H : Type} : DataW H → Nat
  | .lit (.string bytes) => bytes.length + 1
  | .lit _ => 1
  | .nil => 1
  | .ptr d => uptoBulk d + 1
  | .slice elems spare => uptoBulkAll elems + uptoBulkAll spare + 1
  | .agg parts => uptoBulkAll parts + 1
  | .iface _ d => uptoBulk d + 1
  | .map entries => uptoBulkEntries entries + 1
  | .held _ => 1
def uptoBulkAll {H : Type} : List (DataW H) → Nat
  | [] => 0
  | d :: r => uptoBulk d + uptoBulkAll r
def uptoBulkEntries {H : Type} : List (Lit × DataW H) → Nat
  | [] => 0
  | x :: r => uptoBulkEntry x + uptoBulkEntries r
def uptoBulkEntry {H : Type} : Lit × DataW H → Nat
  | (.string bytes, d) => bytes.length + uptoBulk d + 1
  | (_, d) => uptoBulk d + 1
 end
def uptoSmall : (H : Type) → List (DataW H) → Bool := fun _ ds => decide (uptoBulkAll ds ≤ 1048576)
def OpenSpec.upto (s : _root_.Go.ChangeSpec) : _root_.Go.OpenSpec := { _root_.Go.OpenSpec.ofChange s with cond := some uptoSmall }

/-- 'laws.FnExactAskOk', WHERE WHAT IT READS IS OF BULK AT MOST 1048576: true; the input reads as it did. -/
def fnExactAskOkUptoRow : OpenClaim := { program := "ytdpimbnjdbjinaadoor", sum := "bf6b61004cee9b65b7dd243abea35a2bf365bbc5ae12738aea5ea576aca44739", func := "loop.example/g00088/laws.FnExactAskOk", spec := "fnExactAskOk", inPlace := ["internal/bytealg.IndexByteString", "internal/bytealg.IndexString"], named := ["unicode/utf8.first", "unicode/utf8.acceptRanges", "internal/bytealg.MaxLen"], apart := false, laid := [("unicode/utf8.acceptRanges", laid_unicode_utf8_acceptRanges), ("unicode/utf8.first", laid_unicode_utf8_first)], narrowed := true }
def FnExactAskOkUptoSaid : Prop := fnExactAskOkUptoRow.holds Tryd.pinned (OpenSpec.upto fnExactAskOkSpec)

/-- 'laws.FnExactGetAsk', WHERE WHAT IT READS IS OF BULK AT MOST 1048576: true; the input reads as it did. -/
def fnExactGetAskUptoRow : OpenClaim := { program := "ytdpimbnjdbjinaadoor", sum := "bf6b61004cee9b65b7dd243abea35a2bf365bbc5ae12738aea5ea576aca44739", func := "loop.example/g00088/laws.FnExactGetAsk", spec := "fnExactGetAsk", inPlace := ["internal/bytealg.IndexByteString", "internal/bytealg.IndexString"], named := ["unicode/utf8.first", "unicode/utf8.acceptRanges", "internal/bytealg.MaxLen"], apart := false, laid := [("unicode/utf8.acceptRanges", laid_unicode_utf8_acceptRanges), ("unicode/utf8.first", laid_unicode_utf8_first)], narrowed := true }
def FnExactGetAskUptoSaid : Prop := fnExactGetAskUptoRow.holds Tryd.pinned (OpenSpec.upto fnExactGetAskSpec)

/-- 'laws.FnExactPutAsk', WHERE WHAT IT READS IS OF BULK AT MOST 1048576: true; the input reads as it did. -/
def fnExactPutAskUptoRow : OpenClaim := { program := "ytdpimbnjdbjinaadoor", sum := "bf6b61004cee9b65b7dd243abea35a2bf365bbc5ae12738aea5ea576aca44739", func := "loop.example/g00088/laws.FnExactPutAsk", spec := "fnExactPutAsk", inPlace := ["internal/bytealg.IndexByteString", "internal/bytealg.IndexString"], named := ["unicode/utf8.first", "unicode/utf8.acceptRanges", "internal/bytealg.MaxLen"], apart := false, laid := [("unicode/utf8.acceptRanges", laid_unicode_utf8_acceptRanges), ("unicode/utf8.first", laid_unicode_utf8_first)], narrowed := true }
def FnExactPutAskUptoSaid : Prop := fnExactPutAskUptoRow.holds Tryd.pinned (OpenSpec.upto fnExactPutAskSpec)

/-- 'laws.FnWire', WHERE WHAT IT READS IS OF BULK AT MOST 1048576: true; the input reads as it did. -/
def fnWireUptoRow : OpenClaim := { program := "ytdpimbnjdbjinaadoor", sum := "bf6b61004cee9b65b7dd243abea35a2bf365bbc5ae12738aea5ea576aca44739", func := "loop.example/g00088/laws.FnWire", spec := "fnWire", inPlace := ["internal/bytealg.IndexByteString", "internal/bytealg.IndexString"], unfollowed := true, recurses := true, named := ["unicode/utf8.first", "unicode/utf8.acceptRanges", "internal/bytealg.MaxLen"], apart := false, laid := [("unicode/utf8.acceptRanges", laid_unicode_utf8_acceptRanges), ("unicode/utf8.first", laid_unicode_utf8_first)], narrowed := true }
def FnWireUptoSaid : Prop := fnWireUptoRow.holds Tryd.pinned (OpenSpec.upto fnWireSpec)

/-- 'laws.FnExactCatOk', WHERE WHAT IT READS IS OF BULK AT MOST 1048576: true; the input reads as it did. -/
def fnExactCatOkUptoRow : OpenClaim := { program := "ytdpimbnjdbjinaadoor", sum := "bf6b61004cee9b65b7dd243abea35a2bf365bbc5ae12738aea5ea576aca44739", func := "loop.example/g00088/laws.FnExactCatOk", spec := "fnExactCatOk", inPlace := ["internal/bytealg.IndexByteString", "internal/bytealg.IndexString"], named := ["unicode/utf8.first", "unicode/utf8.acceptRanges", "internal/bytealg.MaxLen"], apart := false, laid := [("unicode/utf8.acceptRanges", laid_unicode_utf8_acceptRanges), ("unicode/utf8.first", laid_unicode_utf8_first)], narrowed := true }
def FnExactCatOkUptoSaid : Prop := fnExactCatOkUptoRow.holds Tryd.pinned (OpenSpec.upto fnExactCatOkSpec)

/-- 'laws.FnExactCatFind', WHERE WHAT IT READS IS OF BULK AT MOST 1048576: true; the input reads as it did. -/
def fnExactCatFindUptoRow : OpenClaim := { program := "ytdpimbnjdbjinaadoor", sum := "bf6b61004cee9b65b7dd243abea35a2bf365bbc5ae12738aea5ea576aca44739", func := "loop.example/g00088/laws.FnExactCatFind", spec := "fnExactCatFind", inPlace := ["internal/bytealg.IndexByteString", "internal/bytealg.IndexString", "internal/bytealg.abigen_runtime_cmpstring"], unfollowed := true, recurses := true, named := ["unicode/utf8.first", "unicode/utf8.acceptRanges", "internal/bytealg.MaxLen"], apart := false, laid := [("unicode/utf8.acceptRanges", laid_unicode_utf8_acceptRanges), ("unicode/utf8.first", laid_unicode_utf8_first)], narrowed := true }
def FnExactCatFindUptoSaid : Prop := fnExactCatFindUptoRow.holds Tryd.pinned (OpenSpec.upto fnExactCatFindSpec)

/-- 'laws.FnExactCatNames', WHERE WHAT IT READS IS OF BULK AT MOST 1048576: true; the input reads as it did. -/
def fnExactCatNamesUptoRow : OpenClaim := { program := "ytdpimbnjdbjinaadoor", sum := "bf6b61004cee9b65b7dd243abea35a2bf365bbc5ae12738aea5ea576aca44739", func := "loop.example/g00088/laws.FnExactCatNames", spec := "fnExactCatNames", inPlace := ["internal/bytealg.IndexByteString", "internal/bytealg.IndexString"], named := ["unicode/utf8.first", "unicode/utf8.acceptRanges", "internal/bytealg.MaxLen"], apart := false, laid := [("unicode/utf8.acceptRanges", laid_unicode_utf8_acceptRanges), ("unicode/utf8.first", laid_unicode_utf8_first)], narrowed := true }
def FnExactCatNamesUptoSaid : Prop := fnExactCatNamesUptoRow.holds Tryd.pinned (OpenSpec.upto fnExactCatNamesSpec)

/-- 'laws.FnExactCatDrop', WHERE WHAT IT READS IS OF BULK AT MOST 1048576: true; the input reads as it did. -/
def fnExactCatDropUptoRow : OpenClaim := { program := "ytdpimbnjdbjinaadoor", sum := "bf6b61004cee9b65b7dd243abea35a2bf365bbc5ae12738aea5ea576aca44739", func := "loop.example/g00088/laws.FnExactCatDrop", spec := "fnExactCatDrop", inPlace := ["internal/bytealg.IndexByteString", "internal/bytealg.IndexString", "internal/bytealg.abigen_runtime_cmpstring"], unfollowed := true, recurses := true, named := ["unicode/utf8.first", "unicode/utf8.acceptRanges", "internal/bytealg.MaxLen"], apart := false, laid := [("unicode/utf8.acceptRanges", laid_unicode_utf8_acceptRanges), ("unicode/utf8.first", laid_unicode_utf8_first)], narrowed := true }
def FnExactCatDropUptoSaid : Prop := fnExactCatDropUptoRow.holds Tryd.pinned (OpenSpec.upto fnExactCatDropSpec)

/-- 'laws.FnExactCatDiff', WHERE WHAT IT READS IS OF BULK AT MOST 1048576: true; the input reads as it did. -/
def fnExactCatDiffUptoRow : OpenClaim := { program := "ytdpimbnjdbjinaadoor", sum := "bf6b61004cee9b65b7dd243abea35a2bf365bbc5ae12738aea5ea576aca44739", func := "loop.example/g00088/laws.FnExactCatDiff", spec := "fnExactCatDiff", inPlace := ["internal/bytealg.IndexByteString", "internal/bytealg.IndexString", "internal/bytealg.abigen_runtime_cmpstring"], unfollowed := true, recurses := true, named := ["unicode/utf8.first", "unicode/utf8.acceptRanges", "internal/bytealg.MaxLen"], apart := false, laid := [("unicode/utf8.acceptRanges", laid_unicode_utf8_acceptRanges), ("unicode/utf8.first", laid_unicode_utf8_first)], narrowed := true }
def FnExactCatDiffUptoSaid : Prop := fnExactCatDiffUptoRow.holds Tryd.pinned (OpenSpec.upto fnExactCatDiffSpec)

/-- 'laws.FnExactCatPut', WHERE WHAT IT READS IS OF BULK AT MOST 1048576: true; the input reads as it did. -/
def fnExactCatPutUptoRow : OpenClaim := { program := "ytdpimbnjdbjinaadoor", sum := "bf6b61004cee9b65b7dd243abea35a2bf365bbc5ae12738aea5ea576aca44739", func := "loop.example/g00088/laws.FnExactCatPut", spec := "fnExactCatPut", inPlace := ["internal/bytealg.IndexByteString", "internal/bytealg.IndexString", "internal/bytealg.abigen_runtime_cmpstring", "slices.overlaps[loop.example/g00088/impl.Entry]"], unfollowed := true, recurses := true, named := ["unicode/utf8.first", "unicode/utf8.acceptRanges", "internal/bytealg.MaxLen"], apart := false, laid := [("unicode/utf8.acceptRanges", laid_unicode_utf8_acceptRanges), ("unicode/utf8.first", laid_unicode_utf8_first)], narrowed := true }
def FnExactCatPutUptoSaid : Prop := fnExactCatPutUptoRow.holds Tryd.pinned (OpenSpec.upto fnExactCatPutSpec)

/-- 'laws.FnExactCatBytes', WHERE WHAT IT READS IS OF BULK AT MOST 1048576: true; the input reads as it did. -/
def fnExactCatBytesUptoRow : OpenClaim := { program := "ytdpimbnjdbjinaadoor", sum := "bf6b61004cee9b65b7dd243abea35a2bf365bbc5ae12738aea5ea576aca44739", func := "loop.example/g00088/laws.FnExactCatBytes", spec := "fnExactCatBytes", inPlace := ["internal/bytealg.IndexByteString", "internal/bytealg.IndexString"], named := ["unicode/utf8.first", "unicode/utf8.acceptRanges", "internal/bytealg.MaxLen"], apart := false, laid := [("unicode/utf8.acceptRanges", laid_unicode_utf8_acceptRanges), ("unicode/utf8.first", laid_unicode_utf8_first)], narrowed := true }
def FnExactCatBytesUptoSaid : Prop := fnExactCatBytesUptoRow.holds Tryd.pinned (OpenSpec.upto fnExactCatBytesSpec)

/-- 'laws.FnExactCatRead', WHERE WHAT IT READS IS OF BULK AT MOST 1048576: true; the input reads as it did. -/
def fnExactCatReadUptoRow : OpenClaim := { program := "ytdpimbnjdbjinaadoor", sum := "bf6b61004cee9b65b7dd243abea35a2bf365bbc5ae12738aea5ea576aca44739", func := "loop.example/g00088/laws.FnExactCatRead", spec := "fnExactCatRead", inPlace := ["internal/bytealg.IndexByteString", "internal/bytealg.IndexString"], named := ["unicode/utf8.first", "unicode/utf8.acceptRanges", "internal/bytealg.MaxLen"], apart := false, laid := [("unicode/utf8.acceptRanges", laid_unicode_utf8_acceptRanges), ("unicode/utf8.first", laid_unicode_utf8_first)], narrowed := true }
def FnExactCatReadUptoSaid : Prop := fnExactCatReadUptoRow.holds Tryd.pinned (OpenSpec.upto fnExactCatReadSpec)

end Rows
end Go.Proofs.YtdpimbnjdbjinaaDoor
