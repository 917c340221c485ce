/- Part of a proof about the given program: a verified evaluator, and what it tells of the functions (VhLFnExactNewDisk). Conditions: none beyond the hypotheses that each theorem states. -/
import Derived.Test.YtlmifbpihlcabaaG5
import Derived.Test.YtlmifbpihlcabaaG3
import Derived.Test.YtlmifbpihlcabaaRows
import Derived.JoinedOf
import Derived.Handed
section
namespace Go.Proofs.Ytlmifbpihlcabaa.VH.S
open Go.Proofs Go.Proofs.Ytlmifbpihlcabaa
set_option maxRecDepth 100000
theorem own5 : ownKnob Try.prog.godebug = none := by kernel_rfl
theorem laid5 : laidOutB Try.prog = true := by kernel_rfl
theorem law5 (xs : List AV) (h : FitsAll [] xs) : ∃ d, evFun E d 5 xs [] = some (.val (.bool true), []) := by
  obtain rfl := fitsAll_nil h
  exact ⟨0 + 9, e5 0⟩
theorem lift5 (os : Os) (started : os.Started) (H : Type) (enc : TypeId × Value → H) :
    ReturnsInHanded {} Try.checked os 5 .any (Rows.fnExactNewDiskSpec.pre6 enc Try.prog Try.f5 Rows.fnExactNewDiskRow.domain false) (Rows.fnExactNewDiskSpec.post enc Try.prog Try.f5 false true false false) :=
  lifted (C := Try.checked) (shs := []) own5 started (by kernel_rfl) Try.func5 laid5 rfl Try.underlying4 rfl
    (fun ds h => by
      match ds, h with
      | [], _ => rfl) (by kernel_rfl) (by kernel_rfl) EOK EB EP EH rfl law5
    (ChangeSpec.witness6 (enc := enc) (C := Try.checked) false ⟨#[], #[], []⟩ 8 (by kernel_rfl) (by kernel_rfl) (by kernel_rfl) (by kernel_rfl))
theorem over5 : Rows.fnExactNewDiskRow.holds Try.pinned (OpenSpec.ofChange Rows.fnExactNewDiskSpec) :=
  OpenClaim.holds_of_wide 5 Try.f5 rfl rfl rfl rfl rfl rfl rfl ⟨rfl, rfl, rfl, rfl, rfl⟩ rfl rfl rfl rfl rfl (by kernel_rfl) Try.func5 (by kernel_rfl)
    (of_decide_eq_true (by kernel_rfl)) (by unfold Func.isWrapper; first | (rw [if_pos (by decide +kernel)]; kernel_rfl) | (rw [if_neg (by decide +kernel)]; exact ⟨rfl, rfl⟩))
    (fun os started H enc _ => lift5 os started H enc)
end Go.Proofs.Ytlmifbpihlcabaa.VH.S
namespace Go.Proofs.Ytlmifbpihlcabaa
/-- The law FnExactNewDisk: for every input it returns true, and each argument reads as before. -/
theorem fnExactNewDisk_holds : Rows.FnExactNewDiskSaid := Go.Proofs.Ytlmifbpihlcabaa.VH.S.over5
end Go.Proofs.Ytlmifbpihlcabaa
end

