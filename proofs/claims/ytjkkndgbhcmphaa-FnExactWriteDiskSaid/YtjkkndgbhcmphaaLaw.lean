/- Part of a proof about the given program: a verified evaluator, and what it tells of the functions (VhLFnExactWriteDisk). Conditions: none beyond the hypotheses that each theorem states. -/
import Derived.Test.YtjkkndgbhcmphaaG5
import Derived.Test.YtjkkndgbhcmphaaG3
import Derived.Test.YtjkkndgbhcmphaaRows
import Derived.JoinedOf
import Derived.Handed
section
namespace Go.Proofs.Ytjkkndgbhcmphaa.VH.S
open Go.Proofs Go.Proofs.Ytjkkndgbhcmphaa
set_option maxRecDepth 100000
theorem own5 : ownKnob Try.prog.godebug = none := by kernel_rfl
theorem laid5 : laidOutB Try.prog = true := by kernel_rfl
theorem law5 (xs : List AV) (h : FitsAll [.sl (.int .u8), .int .i64, .int .i64, .int .i64] xs) : ∃ d, evFun E d 5 xs [] = some (.val (.bool true), []) := by
  obtain ⟨x0, y0, rfl, hx0, hy0⟩ := fitsAll_cons h
  obtain ⟨x1, y1, rfl, hx1, hy1⟩ := fitsAll_cons hy0
  obtain ⟨x2, y2, rfl, hx2, hy2⟩ := fitsAll_cons hy1
  obtain ⟨x3, y3, rfl, hx3, hy3⟩ := fitsAll_cons hy2
  obtain rfl := fitsAll_nil hy3
  obtain ⟨a, rfl, la, wa⟩ := fitsA_sl_int hx0
  obtain ⟨c, rfl, wc⟩ := fitsA_int hx1
  obtain ⟨r, rfl, wr⟩ := fitsA_int hx2
  obtain ⟨t, rfl, wt⟩ := fitsA_int hx3
  exact ⟨0 + 11, e5 0 a c r t (B8.wf wa)⟩
theorem lift5 (os : Os) (started : os.Started) (H : Type) (enc : TypeId × Value → H) :
    ReturnsInHanded {} Try.checked os 5 .any (Rows.fnExactWriteDiskSpec.pre6 enc Try.prog Try.f5 Rows.fnExactWriteDiskRow.domain false) (Rows.fnExactWriteDiskSpec.post enc Try.prog Try.f5 false true false false) :=
  lifted (C := Try.checked) (shs := [.sl (.int .u8), .int .i64, .int .i64, .int .i64]) own5 started (by kernel_rfl) Try.func5 laid5 rfl Try.underlying4 rfl
    (fun ds h => by
      match ds, h with
      | [_, _, _, _], _ => rfl) (by kernel_rfl) (by kernel_rfl) EOK EB EP EH rfl law5
    (ChangeSpec.witness6 (enc := enc) (C := Try.checked) false ⟨#[], #[.slice none 0 0, .int .i64 0, .int .i64 0, .int .i64 0], []⟩ 8 (by kernel_rfl) (by kernel_rfl) (by kernel_rfl) (by kernel_rfl))
theorem over5 : Rows.fnExactWriteDiskRow.holds Try.pinned (OpenSpec.ofChange Rows.fnExactWriteDiskSpec) :=
  OpenClaim.holds_of_wide 5 Try.f5 rfl rfl rfl rfl rfl rfl rfl ⟨rfl, rfl, rfl, rfl, rfl⟩ rfl rfl rfl rfl rfl (by kernel_rfl) Try.func5 (by kernel_rfl)
    (of_decide_eq_true (by kernel_rfl)) (by unfold Func.isWrapper; first | (rw [if_pos (by decide +kernel)]; kernel_rfl) | (rw [if_neg (by decide +kernel)]; exact ⟨rfl, rfl⟩))
    (fun os started H enc _ => lift5 os started H enc)
end Go.Proofs.Ytjkkndgbhcmphaa.VH.S
namespace Go.Proofs.Ytjkkndgbhcmphaa
/-- The law FnExactWriteDisk: for every input it returns true, and each argument reads as before. -/
theorem fnExactWriteDisk_holds : Rows.FnExactWriteDiskSaid := Go.Proofs.Ytjkkndgbhcmphaa.VH.S.over5
end Go.Proofs.Ytjkkndgbhcmphaa
end

