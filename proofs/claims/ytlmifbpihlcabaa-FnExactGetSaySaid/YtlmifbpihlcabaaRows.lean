/-
  No cell of these rows narrows 'for every input' (looked for: loops, veiled, ifaces, maps, wideKeys, modest, calm, conditions, laid).
  DERIVED. THE GIVEN ROWS OF THIS SEAT. 6 by the template 'for every input the law returns true; each argument reads behind the call as it read before'; 0 by the template 'total and deterministic' (their statements: YtlmifbpihlcabaaTotals.lean).
  GIVEN WITH THE SEED: the statements are not yours to turn. If you find one false, say at which input.
  Laid BY PROGRAM, IN A SANDBOX (cutbox-rows.mjs): the forced cells as the released guide's own fill.sh prints them over the translation 5e83fe6bd19972af… (all of the seat's roots in one cut). By AI agents, Wed Nov 11 2026. No macro, syntax, notation, axiom, sorry.
-/
import Derived.Test.YtlmifbpihlcabaaChecked
import GoSem.Claim
import GoSem.ClaimJoined
import GoSem.ClaimMapViews
import Derived.JoinedTies
import Derived.KernelRfl
namespace Go.Proofs.Ytlmifbpihlcabaa
/- THE CELL 'sum', in the pinned program and in every row, IS THE sha256 OF THE DUMP (.gsa) THAT YtlmifbpihlcabaaProg.lean LOADS. Nothing in Lean hashes anything: it is a label: what it is worth is what the hold of that sum in a sandbox is worth. -/
noncomputable def Try.pinned : Pinned := { name := "ytlmifbpihlcabaa", sum := "5e83fe6bd19972afa5952de7f755803ea52c971da01d7df43f7dab7d62944f19", checked := Try.checked }
namespace Rows
def none {H : Type} : Left H := { results := [], args := [] }

/-- 'laws.FnExactSayOk': WHATEVER THE INPUT: true; the input reads as it did. -/
def fnExactSayOkSpec : ChangeSpec := { name := "fnExactSayOk", fn := fun _ => fun
  | [d] => { results := [.lit (.bool true)], args := [d] }
  | _ => none }
def fnExactSayOkRow : OpenClaim := { program := "ytlmifbpihlcabaa", sum := "5e83fe6bd19972afa5952de7f755803ea52c971da01d7df43f7dab7d62944f19", func := "loop.example/g00088/laws.FnExactSayOk", spec := "fnExactSayOk", unfollowed := true, recurses := true, apart := false }
def FnExactSayOkSaid : Prop := fnExactSayOkRow.holds Try.pinned (OpenSpec.ofChange fnExactSayOkSpec)

/-- ITS FALSE NEIGHBOUR: 'it returns false'. Refute it at one input. -/
def fnExactSayOkWrong : ChangeSpec := { name := "fnExactSayOk", fn := fun _ => fun
  | [d] => { results := [.lit (.bool false)], args := [d] }
  | _ => none }
def FnExactSayOkWrongFalsely : Prop := fnExactSayOkRow.holds Try.pinned (OpenSpec.ofChange fnExactSayOkWrong)

/-- 'laws.FnExactSlot': WHATEVER THE INPUT: true; the input reads as it did. -/
def fnExactSlotSpec : ChangeSpec := { name := "fnExactSlot", fn := fun _ => fun
  | [d1, d2] => { results := [.lit (.bool true)], args := [d1, d2] }
  | _ => none }
def fnExactSlotRow : OpenClaim := { program := "ytlmifbpihlcabaa", sum := "5e83fe6bd19972afa5952de7f755803ea52c971da01d7df43f7dab7d62944f19", func := "loop.example/g00088/laws.FnExactSlot", spec := "fnExactSlot", apart := false }
def FnExactSlotSaid : Prop := fnExactSlotRow.holds Try.pinned (OpenSpec.ofChange fnExactSlotSpec)

/-- ITS FALSE NEIGHBOUR: 'it returns false'. Refute it at one input. -/
def fnExactSlotWrong : ChangeSpec := { name := "fnExactSlot", fn := fun _ => fun
  | [d1, d2] => { results := [.lit (.bool false)], args := [d1, d2] }
  | _ => none }
def FnExactSlotWrongFalsely : Prop := fnExactSlotRow.holds Try.pinned (OpenSpec.ofChange fnExactSlotWrong)

/-- 'laws.FnExactNewDisk': WHATEVER THE INPUT: true; the input reads as it did. -/
def fnExactNewDiskSpec : ChangeSpec := { name := "fnExactNewDisk", fn := fun _ => fun
  | [] => { results := [.lit (.bool true)], args := [] }
  | _ => none }
def fnExactNewDiskRow : OpenClaim := { program := "ytlmifbpihlcabaa", sum := "5e83fe6bd19972afa5952de7f755803ea52c971da01d7df43f7dab7d62944f19", func := "loop.example/g00088/laws.FnExactNewDisk", spec := "fnExactNewDisk", apart := false }
def FnExactNewDiskSaid : Prop := fnExactNewDiskRow.holds Try.pinned (OpenSpec.ofChange fnExactNewDiskSpec)

/-- ITS FALSE NEIGHBOUR: 'it returns false'. Refute it at one input. -/
def fnExactNewDiskWrong : ChangeSpec := { name := "fnExactNewDisk", fn := fun _ => fun
  | [] => { results := [.lit (.bool false)], args := [] }
  | _ => none }
def FnExactNewDiskWrongFalsely : Prop := fnExactNewDiskRow.holds Try.pinned (OpenSpec.ofChange fnExactNewDiskWrong)

/-- 'laws.FnExactGetSay': WHATEVER THE INPUT: true; the input reads as it did. -/
def fnExactGetSaySpec : ChangeSpec := { name := "fnExactGetSay", fn := fun _ => fun
  | [d] => { results := [.lit (.bool true)], args := [d] }
  | _ => none }
def fnExactGetSayRow : OpenClaim := { program := "ytlmifbpihlcabaa", sum := "5e83fe6bd19972afa5952de7f755803ea52c971da01d7df43f7dab7d62944f19", func := "loop.example/g00088/laws.FnExactGetSay", spec := "fnExactGetSay", apart := false }
def FnExactGetSaySaid : Prop := fnExactGetSayRow.holds Try.pinned (OpenSpec.ofChange fnExactGetSaySpec)

/-- ITS FALSE NEIGHBOUR: 'it returns false'. Refute it at one input. -/
def fnExactGetSayWrong : ChangeSpec := { name := "fnExactGetSay", fn := fun _ => fun
  | [d] => { results := [.lit (.bool false)], args := [d] }
  | _ => none }
def FnExactGetSayWrongFalsely : Prop := fnExactGetSayRow.holds Try.pinned (OpenSpec.ofChange fnExactGetSayWrong)

/-- 'laws.FnExactReadDisk': WHATEVER THE INPUT: true; the input reads as it did. -/
def fnExactReadDiskSpec : ChangeSpec := { name := "fnExactReadDisk", fn := fun _ => fun
  | [d] => { results := [.lit (.bool true)], args := [d] }
  | _ => none }
def fnExactReadDiskRow : OpenClaim := { program := "ytlmifbpihlcabaa", sum := "5e83fe6bd19972afa5952de7f755803ea52c971da01d7df43f7dab7d62944f19", func := "loop.example/g00088/laws.FnExactReadDisk", spec := "fnExactReadDisk", apart := false }
def FnExactReadDiskSaid : Prop := fnExactReadDiskRow.holds Try.pinned (OpenSpec.ofChange fnExactReadDiskSpec)

/-- ITS FALSE NEIGHBOUR: 'it returns false'. Refute it at one input. -/
def fnExactReadDiskWrong : ChangeSpec := { name := "fnExactReadDisk", fn := fun _ => fun
  | [d] => { results := [.lit (.bool false)], args := [d] }
  | _ => none }
def FnExactReadDiskWrongFalsely : Prop := fnExactReadDiskRow.holds Try.pinned (OpenSpec.ofChange fnExactReadDiskWrong)

/-- 'laws.FnExactDiskOk': WHATEVER THE INPUT: true; the input reads as it did. -/
def fnExactDiskOkSpec : ChangeSpec := { name := "fnExactDiskOk", fn := fun _ => fun
  | [d] => { results := [.lit (.bool true)], args := [d] }
  | _ => none }
def fnExactDiskOkRow : OpenClaim := { program := "ytlmifbpihlcabaa", sum := "5e83fe6bd19972afa5952de7f755803ea52c971da01d7df43f7dab7d62944f19", func := "loop.example/g00088/laws.FnExactDiskOk", spec := "fnExactDiskOk", apart := false }
def FnExactDiskOkSaid : Prop := fnExactDiskOkRow.holds Try.pinned (OpenSpec.ofChange fnExactDiskOkSpec)

/-- ITS FALSE NEIGHBOUR: 'it returns false'. Refute it at one input. -/
def fnExactDiskOkWrong : ChangeSpec := { name := "fnExactDiskOk", fn := fun _ => fun
  | [d] => { results := [.lit (.bool false)], args := [d] }
  | _ => none }
def FnExactDiskOkWrongFalsely : Prop := fnExactDiskOkRow.holds Try.pinned (OpenSpec.ofChange fnExactDiskOkWrong)

/- THE SECOND FORM. 'bulk': how many values and letters a reading holds, each counted each time it is reached (what is shared counts as often as it is met; a slice's spare places count too). A statement '..UptoSaid' is the law's where the arguments, and the package variables that the reading takes, are together of bulk at most 1048576: NARROWER than '..Said'. Prove '..Said' where nothing that the law and all that it calls make is longer than what came in: it says more and counts as full. Else prove '..UptoSaid'. A law counts once. -/
mutual
def uptoBulk {H : Type} : DataW H → Nat
  | .lit (.string bytes) => bytes.length + 1
  | .lit _ => 1
  | .nil => 1
  | .ptr d => uptoBulk d + 1
  | .slice elems spare => uptoBulkAll elems + uptoBulkAll spare + 1
  | .agg parts => uptoBulkAll parts + 1
  | .iface _ d => uptoBulk d + 1
  | .map entries => uptoBulkEntries entries + 1
  | .held _ => 1
def uptoBulkAll {H : Type} : List (DataW H) → Nat
  | [] => 0
  | d :: r => uptoBulk d + uptoBulkAll r
def uptoBulkEntries {H : Type} : List (Lit × DataW H) → Nat
  | [] => 0
  | x :: r => uptoBulkEntry x + uptoBulkEntries r
def uptoBulkEntry {H : Type} : Lit × DataW H → Nat
  | (.string bytes, d) => bytes.length + uptoBulk d + 1
  | (_, d) => uptoBulk d + 1
 end
def uptoSmall : (H : Type) → List (DataW H) → Bool := fun _ ds => decide (uptoBulkAll ds ≤ 1048576)
def OpenSpec.upto (s : _root_.Go.ChangeSpec) : _root_.Go.OpenSpec := { _root_.Go.OpenSpec.ofChange s with cond := some uptoSmall }

/-- 'laws.FnExactSayOk', WHERE WHAT IT READS IS OF BULK AT MOST 1048576: true; the input reads as it did. -/
def fnExactSayOkUptoRow : OpenClaim := { program := "ytlmifbpihlcabaa", sum := "5e83fe6bd19972afa5952de7f755803ea52c971da01d7df43f7dab7d62944f19", func := "loop.example/g00088/laws.FnExactSayOk", spec := "fnExactSayOk", unfollowed := true, recurses := true, apart := false, narrowed := true }
def FnExactSayOkUptoSaid : Prop := fnExactSayOkUptoRow.holds Try.pinned (OpenSpec.upto fnExactSayOkSpec)

/-- 'laws.FnExactSlot', WHERE WHAT IT READS IS OF BULK AT MOST 1048576: true; the input reads as it did. -/
def fnExactSlotUptoRow : OpenClaim := { program := "ytlmifbpihlcabaa", sum := "5e83fe6bd19972afa5952de7f755803ea52c971da01d7df43f7dab7d62944f19", func := "loop.example/g00088/laws.FnExactSlot", spec := "fnExactSlot", apart := false, narrowed := true }
def FnExactSlotUptoSaid : Prop := fnExactSlotUptoRow.holds Try.pinned (OpenSpec.upto fnExactSlotSpec)

/-- 'laws.FnExactNewDisk', WHERE WHAT IT READS IS OF BULK AT MOST 1048576: true; the input reads as it did. -/
def fnExactNewDiskUptoRow : OpenClaim := { program := "ytlmifbpihlcabaa", sum := "5e83fe6bd19972afa5952de7f755803ea52c971da01d7df43f7dab7d62944f19", func := "loop.example/g00088/laws.FnExactNewDisk", spec := "fnExactNewDisk", apart := false, narrowed := true }
def FnExactNewDiskUptoSaid : Prop := fnExactNewDiskUptoRow.holds Try.pinned (OpenSpec.upto fnExactNewDiskSpec)

/-- 'laws.FnExactGetSay', WHERE WHAT IT READS IS OF BULK AT MOST 1048576: true; the input reads as it did. -/
def fnExactGetSayUptoRow : OpenClaim := { program := "ytlmifbpihlcabaa", sum := "5e83fe6bd19972afa5952de7f755803ea52c971da01d7df43f7dab7d62944f19", func := "loop.example/g00088/laws.FnExactGetSay", spec := "fnExactGetSay", apart := false, narrowed := true }
def FnExactGetSayUptoSaid : Prop := fnExactGetSayUptoRow.holds Try.pinned (OpenSpec.upto fnExactGetSaySpec)

/-- 'laws.FnExactReadDisk', WHERE WHAT IT READS IS OF BULK AT MOST 1048576: true; the input reads as it did. -/
def fnExactReadDiskUptoRow : OpenClaim := { program := "ytlmifbpihlcabaa", sum := "5e83fe6bd19972afa5952de7f755803ea52c971da01d7df43f7dab7d62944f19", func := "loop.example/g00088/laws.FnExactReadDisk", spec := "fnExactReadDisk", apart := false, narrowed := true }
def FnExactReadDiskUptoSaid : Prop := fnExactReadDiskUptoRow.holds Try.pinned (OpenSpec.upto fnExactReadDiskSpec)

/-- 'laws.FnExactDiskOk', WHERE WHAT IT READS IS OF BULK AT MOST 1048576: true; the input reads as it did. -/
def fnExactDiskOkUptoRow : OpenClaim := { program := "ytlmifbpihlcabaa", sum := "5e83fe6bd19972afa5952de7f755803ea52c971da01d7df43f7dab7d62944f19", func := "loop.example/g00088/laws.FnExactDiskOk", spec := "fnExactDiskOk", apart := false, narrowed := true }
def FnExactDiskOkUptoSaid : Prop := fnExactDiskOkUptoRow.holds Try.pinned (OpenSpec.upto fnExactDiskOkSpec)

end Rows
end Go.Proofs.Ytlmifbpihlcabaa
