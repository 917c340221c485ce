/-
  No cell of these rows narrows 'for every input' (looked for: loops, veiled, ifaces, maps, wideKeys, modest, calm, conditions, laid).
  DERIVED. THE GIVEN ROWS OF THIS SEAT. 6 by the template 'for every input the law returns true; each argument reads behind the call as it read before'; 0 by the template 'total and deterministic' (their statements: YtjkkndgbhcmphaaTotals.lean).
  GIVEN WITH THE SEED: the statements are not yours to turn. If you find one false, say at which input.
  Laid BY PROGRAM, IN A SANDBOX (cutbox-rows.mjs): the forced cells as the released guide's own fill.sh prints them over the translation f35be92fc4d98ec2… (all of the seat's roots in one cut). By AI agents, Wed Nov 11 2026. No macro, syntax, notation, axiom, sorry.
-/
import Derived.Test.YtjkkndgbhcmphaaChecked
import GoSem.Claim
import GoSem.ClaimJoined
import GoSem.ClaimMapViews
import Derived.JoinedTies
import Derived.KernelRfl
namespace Go.Proofs.Ytjkkndgbhcmphaa
/- THE CELL 'sum', in the pinned program and in every row, IS THE sha256 OF THE DUMP (.gsa) THAT YtjkkndgbhcmphaaProg.lean LOADS. Nothing in Lean hashes anything: it is a label: what it is worth is what the hold of that sum in a sandbox is worth. -/
noncomputable def Try.pinned : Pinned := { name := "ytjkkndgbhcmphaa", sum := "f35be92fc4d98ec2c43fd2235ac959f9f0651a2a5135cfc7bae3ab36524e546b", checked := Try.checked }
namespace Rows
def none {H : Type} : Left H := { results := [], args := [] }

/-- 'laws.FnExactPutSay': WHATEVER THE INPUT: true; the input reads as it did. -/
def fnExactPutSaySpec : ChangeSpec := { name := "fnExactPutSay", fn := fun _ => fun
  | [d] => { results := [.lit (.bool true)], args := [d] }
  | _ => none }
def fnExactPutSayRow : OpenClaim := { program := "ytjkkndgbhcmphaa", sum := "f35be92fc4d98ec2c43fd2235ac959f9f0651a2a5135cfc7bae3ab36524e546b", func := "loop.example/g00088/laws.FnExactPutSay", spec := "fnExactPutSay", unfollowed := true, recurses := true, apart := false }
def FnExactPutSaySaid : Prop := fnExactPutSayRow.holds Try.pinned (OpenSpec.ofChange fnExactPutSaySpec)

/-- ITS FALSE NEIGHBOUR: 'it returns false'. Refute it at one input. -/
def fnExactPutSayWrong : ChangeSpec := { name := "fnExactPutSay", fn := fun _ => fun
  | [d] => { results := [.lit (.bool false)], args := [d] }
  | _ => none }
def FnExactPutSayWrongFalsely : Prop := fnExactPutSayRow.holds Try.pinned (OpenSpec.ofChange fnExactPutSayWrong)

/-- 'laws.FnExactForged': WHATEVER THE INPUT: true; the input reads as it did. -/
def fnExactForgedSpec : ChangeSpec := { name := "fnExactForged", fn := fun _ => fun
  | [d1, d2, d3] => { results := [.lit (.bool true)], args := [d1, d2, d3] }
  | _ => none }
def fnExactForgedRow : OpenClaim := { program := "ytjkkndgbhcmphaa", sum := "f35be92fc4d98ec2c43fd2235ac959f9f0651a2a5135cfc7bae3ab36524e546b", func := "loop.example/g00088/laws.FnExactForged", spec := "fnExactForged", unfollowed := true, recurses := true, apart := false }
def FnExactForgedSaid : Prop := fnExactForgedRow.holds Try.pinned (OpenSpec.ofChange fnExactForgedSpec)

/-- ITS FALSE NEIGHBOUR: 'it returns false'. Refute it at one input. -/
def fnExactForgedWrong : ChangeSpec := { name := "fnExactForged", fn := fun _ => fun
  | [d1, d2, d3] => { results := [.lit (.bool false)], args := [d1, d2, d3] }
  | _ => none }
def FnExactForgedWrongFalsely : Prop := fnExactForgedRow.holds Try.pinned (OpenSpec.ofChange fnExactForgedWrong)

/-- 'laws.FnExactWriteDisk': WHATEVER THE INPUT: true; the input reads as it did. -/
def fnExactWriteDiskSpec : ChangeSpec := { name := "fnExactWriteDisk", fn := fun _ => fun
  | [d1, d2, d3, d4] => { results := [.lit (.bool true)], args := [d1, d2, d3, d4] }
  | _ => none }
def fnExactWriteDiskRow : OpenClaim := { program := "ytjkkndgbhcmphaa", sum := "f35be92fc4d98ec2c43fd2235ac959f9f0651a2a5135cfc7bae3ab36524e546b", func := "loop.example/g00088/laws.FnExactWriteDisk", spec := "fnExactWriteDisk", apart := false }
def FnExactWriteDiskSaid : Prop := fnExactWriteDiskRow.holds Try.pinned (OpenSpec.ofChange fnExactWriteDiskSpec)

/-- ITS FALSE NEIGHBOUR: 'it returns false'. Refute it at one input. -/
def fnExactWriteDiskWrong : ChangeSpec := { name := "fnExactWriteDisk", fn := fun _ => fun
  | [d1, d2, d3, d4] => { results := [.lit (.bool false)], args := [d1, d2, d3, d4] }
  | _ => none }
def FnExactWriteDiskWrongFalsely : Prop := fnExactWriteDiskRow.holds Try.pinned (OpenSpec.ofChange fnExactWriteDiskWrong)

/-- 'laws.FnDisk': WHATEVER THE INPUT: true; the input reads as it did. -/
def fnDiskSpec : ChangeSpec := { name := "fnDisk", fn := fun _ => fun
  | [d] => { results := [.lit (.bool true)], args := [d] }
  | _ => none }
def fnDiskRow : OpenClaim := { program := "ytjkkndgbhcmphaa", sum := "f35be92fc4d98ec2c43fd2235ac959f9f0651a2a5135cfc7bae3ab36524e546b", func := "loop.example/g00088/laws.FnDisk", spec := "fnDisk", apart := false }
def FnDiskSaid : Prop := fnDiskRow.holds Try.pinned (OpenSpec.ofChange fnDiskSpec)

/-- ITS FALSE NEIGHBOUR: 'it returns false'. Refute it at one input. -/
def fnDiskWrong : ChangeSpec := { name := "fnDisk", fn := fun _ => fun
  | [d] => { results := [.lit (.bool false)], args := [d] }
  | _ => none }
def FnDiskWrongFalsely : Prop := fnDiskRow.holds Try.pinned (OpenSpec.ofChange fnDiskWrong)

/-- 'laws.FnWrites': WHATEVER THE INPUT: true; the input reads as it did. -/
def fnWritesSpec : ChangeSpec := { name := "fnWrites", fn := fun _ => fun
  | [d] => { results := [.lit (.bool true)], args := [d] }
  | _ => none }
def fnWritesRow : OpenClaim := { program := "ytjkkndgbhcmphaa", sum := "f35be92fc4d98ec2c43fd2235ac959f9f0651a2a5135cfc7bae3ab36524e546b", func := "loop.example/g00088/laws.FnWrites", spec := "fnWrites", apart := false }
def FnWritesSaid : Prop := fnWritesRow.holds Try.pinned (OpenSpec.ofChange fnWritesSpec)

/-- ITS FALSE NEIGHBOUR: 'it returns false'. Refute it at one input. -/
def fnWritesWrong : ChangeSpec := { name := "fnWrites", fn := fun _ => fun
  | [d] => { results := [.lit (.bool false)], args := [d] }
  | _ => none }
def FnWritesWrongFalsely : Prop := fnWritesRow.holds Try.pinned (OpenSpec.ofChange fnWritesWrong)

/-- 'laws.FnExactRunDisk': WHATEVER THE INPUT: true; the input reads as it did. -/
def fnExactRunDiskSpec : ChangeSpec := { name := "fnExactRunDisk", fn := fun _ => fun
  | [d1, d2] => { results := [.lit (.bool true)], args := [d1, d2] }
  | _ => none }
def fnExactRunDiskRow : OpenClaim := { program := "ytjkkndgbhcmphaa", sum := "f35be92fc4d98ec2c43fd2235ac959f9f0651a2a5135cfc7bae3ab36524e546b", func := "loop.example/g00088/laws.FnExactRunDisk", spec := "fnExactRunDisk", apart := false }
def FnExactRunDiskSaid : Prop := fnExactRunDiskRow.holds Try.pinned (OpenSpec.ofChange fnExactRunDiskSpec)

/-- ITS FALSE NEIGHBOUR: 'it returns false'. Refute it at one input. -/
def fnExactRunDiskWrong : ChangeSpec := { name := "fnExactRunDisk", fn := fun _ => fun
  | [d1, d2] => { results := [.lit (.bool false)], args := [d1, d2] }
  | _ => none }
def FnExactRunDiskWrongFalsely : Prop := fnExactRunDiskRow.holds Try.pinned (OpenSpec.ofChange fnExactRunDiskWrong)

/- THE SECOND FORM. 'bulk': how many values and letters a reading holds, each counted each time it is reached (what is shared counts as often as it is met; a slice's spare places count too). A statement '..UptoSaid' is the law's where the arguments, and the package variables that the reading takes, are together of bulk at most 1048576: NARROWER than '..Said'. Prove '..Said' where nothing that the law and all that it calls make is longer than what came in: it says more and counts as full. Else prove '..UptoSaid'. A law counts once. -/
mutual
def uptoBulk {H : Type} : DataW H → Nat
  | .lit (.string bytes) => bytes.length + 1
  | .lit _ => 1
  | .nil => 1
  | .ptr d => uptoBulk d + 1
  | .slice elems spare => uptoBulkAll elems + uptoBulkAll spare + 1
  | .agg parts => uptoBulkAll parts + 1
  | .iface _ d => uptoBulk d + 1
  | .map entries => uptoBulkEntries entries + 1
  | .held _ => 1
def uptoBulkAll {H : Type} : List (DataW H) → Nat
  | [] => 0
  | d :: r => uptoBulk d + uptoBulkAll r
def uptoBulkEntries {H : Type} : List (Lit × DataW H) → Nat
  | [] => 0
  | x :: r => uptoBulkEntry x + uptoBulkEntries r
def uptoBulkEntry {H : Type} : Lit × DataW H → Nat
  | (.string bytes, d) => bytes.length + uptoBulk d + 1
  | (_, d) => uptoBulk d + 1
 end
def uptoSmall : (H : Type) → List (DataW H) → Bool := fun _ ds => decide (uptoBulkAll ds ≤ 1048576)
def OpenSpec.upto (s : _root_.Go.ChangeSpec) : _root_.Go.OpenSpec := { _root_.Go.OpenSpec.ofChange s with cond := some uptoSmall }

/-- 'laws.FnExactPutSay', WHERE WHAT IT READS IS OF BULK AT MOST 1048576: true; the input reads as it did. -/
def fnExactPutSayUptoRow : OpenClaim := { program := "ytjkkndgbhcmphaa", sum := "f35be92fc4d98ec2c43fd2235ac959f9f0651a2a5135cfc7bae3ab36524e546b", func := "loop.example/g00088/laws.FnExactPutSay", spec := "fnExactPutSay", unfollowed := true, recurses := true, apart := false, narrowed := true }
def FnExactPutSayUptoSaid : Prop := fnExactPutSayUptoRow.holds Try.pinned (OpenSpec.upto fnExactPutSaySpec)

/-- 'laws.FnExactForged', WHERE WHAT IT READS IS OF BULK AT MOST 1048576: true; the input reads as it did. -/
def fnExactForgedUptoRow : OpenClaim := { program := "ytjkkndgbhcmphaa", sum := "f35be92fc4d98ec2c43fd2235ac959f9f0651a2a5135cfc7bae3ab36524e546b", func := "loop.example/g00088/laws.FnExactForged", spec := "fnExactForged", unfollowed := true, recurses := true, apart := false, narrowed := true }
def FnExactForgedUptoSaid : Prop := fnExactForgedUptoRow.holds Try.pinned (OpenSpec.upto fnExactForgedSpec)

/-- 'laws.FnExactWriteDisk', WHERE WHAT IT READS IS OF BULK AT MOST 1048576: true; the input reads as it did. -/
def fnExactWriteDiskUptoRow : OpenClaim := { program := "ytjkkndgbhcmphaa", sum := "f35be92fc4d98ec2c43fd2235ac959f9f0651a2a5135cfc7bae3ab36524e546b", func := "loop.example/g00088/laws.FnExactWriteDisk", spec := "fnExactWriteDisk", apart := false, narrowed := true }
def FnExactWriteDiskUptoSaid : Prop := fnExactWriteDiskUptoRow.holds Try.pinned (OpenSpec.upto fnExactWriteDiskSpec)

/-- 'laws.FnDisk', WHERE WHAT IT READS IS OF BULK AT MOST 1048576: true; the input reads as it did. -/
def fnDiskUptoRow : OpenClaim := { program := "ytjkkndgbhcmphaa", sum := "f35be92fc4d98ec2c43fd2235ac959f9f0651a2a5135cfc7bae3ab36524e546b", func := "loop.example/g00088/laws.FnDisk", spec := "fnDisk", apart := false, narrowed := true }
def FnDiskUptoSaid : Prop := fnDiskUptoRow.holds Try.pinned (OpenSpec.upto fnDiskSpec)

/-- 'laws.FnWrites', WHERE WHAT IT READS IS OF BULK AT MOST 1048576: true; the input reads as it did. -/
def fnWritesUptoRow : OpenClaim := { program := "ytjkkndgbhcmphaa", sum := "f35be92fc4d98ec2c43fd2235ac959f9f0651a2a5135cfc7bae3ab36524e546b", func := "loop.example/g00088/laws.FnWrites", spec := "fnWrites", apart := false, narrowed := true }
def FnWritesUptoSaid : Prop := fnWritesUptoRow.holds Try.pinned (OpenSpec.upto fnWritesSpec)

/-- 'laws.FnExactRunDisk', WHERE WHAT IT READS IS OF BULK AT MOST 1048576: true; the input reads as it did. -/
def fnExactRunDiskUptoRow : OpenClaim := { program := "ytjkkndgbhcmphaa", sum := "f35be92fc4d98ec2c43fd2235ac959f9f0651a2a5135cfc7bae3ab36524e546b", func := "loop.example/g00088/laws.FnExactRunDisk", spec := "fnExactRunDisk", apart := false, narrowed := true }
def FnExactRunDiskUptoSaid : Prop := fnExactRunDiskUptoRow.holds Try.pinned (OpenSpec.upto fnExactRunDiskSpec)

end Rows
end Go.Proofs.Ytjkkndgbhcmphaa
