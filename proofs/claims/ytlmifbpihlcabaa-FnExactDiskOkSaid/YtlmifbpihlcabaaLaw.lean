/- Part of a proof about the given program: a verified evaluator, and what it tells of the functions (VhLFnExactDiskOk). Conditions: none beyond the hypotheses that each theorem states. -/
import Derived.Test.YtlmifbpihlcabaaG5
import Derived.Test.YtlmifbpihlcabaaG3
import Derived.Test.YtlmifbpihlcabaaRows
import Derived.JoinedOf
import Derived.Handed
section
namespace Go.Proofs.Ytlmifbpihlcabaa.VH.S
open Go.Proofs Go.Proofs.Ytlmifbpihlcabaa
set_option maxRecDepth 100000
theorem own8 : ownKnob Try.prog.godebug = none := by kernel_rfl
theorem laid8 : laidOutB Try.prog = true := by kernel_rfl
theorem law8 (xs : List AV) (h : FitsAll [.sl (.int .u8)] xs) : ∃ d, evFun E d 8 xs [] = some (.val (.bool true), []) := by
  obtain ⟨x0, y0, rfl, hx0, hy0⟩ := fitsAll_cons h
  obtain rfl := fitsAll_nil hy0
  obtain ⟨a, rfl, la, wa⟩ := fitsA_sl_int hx0
  exact ⟨0 + 11, e8 0 a (B8.wf wa)⟩
theorem lift8 (os : Os) (started : os.Started) (H : Type) (enc : TypeId × Value → H) :
    ReturnsInHanded {} Try.checked os 8 .any (Rows.fnExactDiskOkSpec.pre6 enc Try.prog Try.f8 Rows.fnExactDiskOkRow.domain false) (Rows.fnExactDiskOkSpec.post enc Try.prog Try.f8 false true false false) :=
  lifted (C := Try.checked) (shs := [.sl (.int .u8)]) own8 started (by kernel_rfl) Try.func8 laid8 rfl Try.underlying4 rfl
    (fun ds h => by
      match ds, h with
      | [_], _ => rfl) (by kernel_rfl) (by kernel_rfl) EOK EB EP EH rfl law8
    (ChangeSpec.witness6 (enc := enc) (C := Try.checked) false ⟨#[], #[.slice none 0 0], []⟩ 8 (by kernel_rfl) (by kernel_rfl) (by kernel_rfl) (by kernel_rfl))
theorem over8 : Rows.fnExactDiskOkRow.holds Try.pinned (OpenSpec.ofChange Rows.fnExactDiskOkSpec) :=
  OpenClaim.holds_of_wide 8 Try.f8 rfl rfl rfl rfl rfl rfl rfl ⟨rfl, rfl, rfl, rfl, rfl⟩ rfl rfl rfl rfl rfl (by kernel_rfl) Try.func8 (by kernel_rfl)
    (of_decide_eq_true (by kernel_rfl)) (by unfold Func.isWrapper; first | (rw [if_pos (by decide +kernel)]; kernel_rfl) | (rw [if_neg (by decide +kernel)]; exact ⟨rfl, rfl⟩))
    (fun os started H enc _ => lift8 os started H enc)
end Go.Proofs.Ytlmifbpihlcabaa.VH.S
namespace Go.Proofs.Ytlmifbpihlcabaa
/-- The law FnExactDiskOk: for every input it returns true, and each argument reads as before. -/
theorem fnExactDiskOk_holds : Rows.FnExactDiskOkSaid := Go.Proofs.Ytlmifbpihlcabaa.VH.S.over8
end Go.Proofs.Ytlmifbpihlcabaa
end

