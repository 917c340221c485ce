/- Part of a proof about the given program: a verified evaluator, and what it tells of the functions (VhLFnDisk). Conditions: none beyond the hypotheses that each theorem states. -/
import Derived.Test.YtjkkndgbhcmphaaG5
import Derived.Test.YtjkkndgbhcmphaaG3
import Derived.Test.YtjkkndgbhcmphaaRows
import Derived.JoinedOf
import Derived.Handed
section
namespace Go.Proofs.Ytjkkndgbhcmphaa.VH.S
open Go.Proofs Go.Proofs.Ytjkkndgbhcmphaa
set_option maxRecDepth 100000
theorem own6 : ownKnob Try.prog.godebug = none := by kernel_rfl
theorem laid6 : laidOutB Try.prog = true := by kernel_rfl
theorem law6 (xs : List AV) (h : FitsAll [.sl (.int .u8)] xs) : ∃ d, evFun E d 6 xs [] = some (.val (.bool true), []) := by
  obtain ⟨x0, y0, rfl, hx0, hy0⟩ := fitsAll_cons h
  obtain rfl := fitsAll_nil hy0
  obtain ⟨b, rfl, lb, wb⟩ := fitsA_sl_int hx0
  exact ⟨0 + 13, e6 0 b (B8.wf wb)⟩
theorem lift6 (os : Os) (started : os.Started) (H : Type) (enc : TypeId × Value → H) :
    ReturnsInHanded {} Try.checked os 6 .any (Rows.fnDiskSpec.pre6 enc Try.prog Try.f6 Rows.fnDiskRow.domain false) (Rows.fnDiskSpec.post enc Try.prog Try.f6 false true false false) :=
  lifted (C := Try.checked) (shs := [.sl (.int .u8)]) own6 started (by kernel_rfl) Try.func6 laid6 rfl Try.underlying4 rfl
    (fun ds h => by
      match ds, h with
      | [_], _ => rfl) (by kernel_rfl) (by kernel_rfl) EOK EB EP EH rfl law6
    (ChangeSpec.witness6 (enc := enc) (C := Try.checked) false ⟨#[], #[.slice none 0 0], []⟩ 8 (by kernel_rfl) (by kernel_rfl) (by kernel_rfl) (by kernel_rfl))
theorem over6 : Rows.fnDiskRow.holds Try.pinned (OpenSpec.ofChange Rows.fnDiskSpec) :=
  OpenClaim.holds_of_wide 6 Try.f6 rfl rfl rfl rfl rfl rfl rfl ⟨rfl, rfl, rfl, rfl, rfl⟩ rfl rfl rfl rfl rfl (by kernel_rfl) Try.func6 (by kernel_rfl)
    (of_decide_eq_true (by kernel_rfl)) (by unfold Func.isWrapper; first | (rw [if_pos (by decide +kernel)]; kernel_rfl) | (rw [if_neg (by decide +kernel)]; exact ⟨rfl, rfl⟩))
    (fun os started H enc _ => lift6 os started H enc)
end Go.Proofs.Ytjkkndgbhcmphaa.VH.S
namespace Go.Proofs.Ytjkkndgbhcmphaa
/-- The law FnDisk: for every input it returns true, and each argument reads as before. -/
theorem fnDisk_holds : Rows.FnDiskSaid := Go.Proofs.Ytjkkndgbhcmphaa.VH.S.over6
end Go.Proofs.Ytjkkndgbhcmphaa
end

