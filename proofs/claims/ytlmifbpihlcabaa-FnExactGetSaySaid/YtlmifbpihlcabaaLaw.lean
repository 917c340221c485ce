/- Part of a proof about the given program: a verified evaluator, and what it tells of the functions (VhLFnExactGetSay). Conditions: none beyond the hypotheses that each theorem states. -/
import Derived.Test.YtlmifbpihlcabaaG6
import Derived.Test.YtlmifbpihlcabaaG3
import Derived.Test.YtlmifbpihlcabaaRows
import Derived.JoinedOf
import Derived.Handed
set_option linter.unusedSimpArgs false
set_option linter.unusedVariables false
section
namespace Go.Proofs.Ytlmifbpihlcabaa.VH.S
open Go.Proofs Go.Proofs.Ytlmifbpihlcabaa
set_option maxRecDepth 100000
theorem own6 : ownKnob Try.prog.godebug = none := by kernel_rfl
theorem laid6 : laidOutB Try.prog = true := by kernel_rfl
theorem law6 (xs : List AV) (h : FitsAll [.sl (.int .u8)] xs) : ∃ d, evFun E d 6 xs [] = some (.val (.bool true), []) := by
  obtain ⟨x0, y0, rfl, hx0, hy0⟩ := fitsAll_cons h
  obtain rfl := fitsAll_nil hy0
  obtain ⟨a, rfl, la, wa⟩ := fitsA_sl_int hx0
  exact ⟨0 + 12, e6 0 a (B8.wf wa)⟩
theorem lift6 (os : Os) (started : os.Started) (H : Type) (enc : TypeId × Value → H) :
    ReturnsInHanded {} Try.checked os 6 .any (Rows.fnExactGetSaySpec.pre6 enc Try.prog Try.f6 Rows.fnExactGetSayRow.domain false) (Rows.fnExactGetSaySpec.post enc Try.prog Try.f6 false true false false) :=
  lifted (C := Try.checked) (shs := [.sl (.int .u8)]) own6 started (by kernel_rfl) Try.func6 laid6 rfl Try.underlying4 rfl
    (fun ds h => by
      match ds, h with
      | [_], _ => rfl) (by kernel_rfl) (by kernel_rfl) EOK EB EP EH rfl law6
    (ChangeSpec.witness6 (enc := enc) (C := Try.checked) false ⟨#[], #[.slice none 0 0], []⟩ 8 (by kernel_rfl) (by kernel_rfl) (by kernel_rfl) (by kernel_rfl))
theorem over6 : Rows.fnExactGetSayRow.holds Try.pinned (OpenSpec.ofChange Rows.fnExactGetSaySpec) :=
  OpenClaim.holds_of_wide 6 Try.f6 rfl rfl rfl rfl rfl rfl rfl ⟨rfl, rfl, rfl, rfl, rfl⟩ rfl rfl rfl rfl rfl (by kernel_rfl) Try.func6 (by kernel_rfl)
    (of_decide_eq_true (by kernel_rfl)) (by unfold Func.isWrapper; first | (rw [if_pos (by decide +kernel)]; kernel_rfl) | (rw [if_neg (by decide +kernel)]; exact ⟨rfl, rfl⟩))
    (fun os started H enc _ => lift6 os started H enc)
end Go.Proofs.Ytlmifbpihlcabaa.VH.S
namespace Go.Proofs.Ytlmifbpihlcabaa
/-- The law FnExactGetSay: for every input it returns true, and each argument reads as before. -/
theorem fnExactGetSay_holds : Rows.FnExactGetSaySaid := Go.Proofs.Ytlmifbpihlcabaa.VH.S.over6
end Go.Proofs.Ytlmifbpihlcabaa
end

