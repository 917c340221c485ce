/- Part of a proof about the given program: a verified evaluator, and what it tells of the functions (VhLFnWrites). Conditions: none beyond the hypotheses that each theorem states. -/
import Derived.Test.YtjkkndgbhcmphaaG6
import Derived.Test.YtjkkndgbhcmphaaG3
import Derived.Test.YtjkkndgbhcmphaaRows
import Derived.JoinedOf
import Derived.Handed
section
namespace Go.Proofs.Ytjkkndgbhcmphaa.VH.S
open Go.Proofs Go.Proofs.Ytjkkndgbhcmphaa
set_option maxRecDepth 100000
theorem own7 : ownKnob Try.prog.godebug = none := by kernel_rfl
theorem laid7 : laidOutB Try.prog = true := by kernel_rfl
theorem law7 (xs : List AV) (h : FitsAll [.sl (.int .u8)] xs) : ∃ d, evFun E d 7 xs [] = some (.val (.bool true), []) := by
  obtain ⟨x0, y0, rfl, hx0, hy0⟩ := fitsAll_cons h
  obtain rfl := fitsAll_nil hy0
  obtain ⟨b, rfl, lb, wb⟩ := fitsA_sl_int hx0
  exact ⟨0 + 14, e7 0 b (B8.wf wb)⟩
theorem lift7 (os : Os) (started : os.Started) (H : Type) (enc : TypeId × Value → H) :
    ReturnsInHanded {} Try.checked os 7 .any (Rows.fnWritesSpec.pre6 enc Try.prog Try.f7 Rows.fnWritesRow.domain false) (Rows.fnWritesSpec.post enc Try.prog Try.f7 false true false false) :=
  lifted (C := Try.checked) (shs := [.sl (.int .u8)]) own7 started (by kernel_rfl) Try.func7 laid7 rfl Try.underlying4 rfl
    (fun ds h => by
      match ds, h with
      | [_], _ => rfl) (by kernel_rfl) (by kernel_rfl) EOK EB EP EH rfl law7
    (ChangeSpec.witness6 (enc := enc) (C := Try.checked) false ⟨#[], #[.slice none 0 0], []⟩ 8 (by kernel_rfl) (by kernel_rfl) (by kernel_rfl) (by kernel_rfl))
theorem over7 : Rows.fnWritesRow.holds Try.pinned (OpenSpec.ofChange Rows.fnWritesSpec) :=
  OpenClaim.holds_of_wide 7 Try.f7 rfl rfl rfl rfl rfl rfl rfl ⟨rfl, rfl, rfl, rfl, rfl⟩ rfl rfl rfl rfl rfl (by kernel_rfl) Try.func7 (by kernel_rfl)
    (of_decide_eq_true (by kernel_rfl)) (by unfold Func.isWrapper; first | (rw [if_pos (by decide +kernel)]; kernel_rfl) | (rw [if_neg (by decide +kernel)]; exact ⟨rfl, rfl⟩))
    (fun os started H enc _ => lift7 os started H enc)
end Go.Proofs.Ytjkkndgbhcmphaa.VH.S
namespace Go.Proofs.Ytjkkndgbhcmphaa
/-- The law FnWrites: for every input it returns true, and each argument reads as before. -/
theorem fnWrites_holds : Rows.FnWritesSaid := Go.Proofs.Ytjkkndgbhcmphaa.VH.S.over7
end Go.Proofs.Ytjkkndgbhcmphaa
end

