/- Part of a proof about the given program: a verified evaluator, and what it tells of the functions (VhLFnExactMissing). Conditions: none beyond the hypotheses that each theorem states. -/
import Derived.Test.YthgopooldcheeaaG6
import Derived.Test.YthgopooldcheeaaG3
import Derived.Test.YthgopooldcheeaaRows
import Derived.JoinedOf
import Derived.Handed
set_option linter.unusedSimpArgs false
set_option linter.unusedVariables false
set_option linter.defProp false
section
namespace Go.Proofs.Ythgopooldcheeaa.VH.S
open Go.Proofs Go.Proofs.Ythgopooldcheeaa
set_option maxRecDepth 100000
theorem own4 : ownKnob Try.prog.godebug = none := by kernel_rfl
theorem laid4 : laidOutB Try.prog = true := by kernel_rfl
theorem law4 (xs : List AV) (h : FitsAll [.int .i64, .int .i64, .int .i64, .sl (.int .i64), .sl (.sl (.int .u8)), .int .i64] xs) : ∃ d, evFun E d 4 xs [] = some (.val (.bool true), []) := by
  obtain ⟨x0, y0, rfl, hx0, hy0⟩ := fitsAll_cons h
  obtain ⟨x1, y1, rfl, hx1, hy1⟩ := fitsAll_cons hy0
  obtain ⟨x2, y2, rfl, hx2, hy2⟩ := fitsAll_cons hy1
  obtain ⟨x3, y3, rfl, hx3, hy3⟩ := fitsAll_cons hy2
  obtain ⟨x4, y4, rfl, hx4, hy4⟩ := fitsAll_cons hy3
  obtain ⟨x5, y5, rfl, hx5, hy5⟩ := fitsAll_cons hy4
  obtain rfl := fitsAll_nil hy5
  obtain ⟨k, rfl, wk⟩ := fitsA_int hx0
  obtain ⟨n, rfl, wn⟩ := fitsA_int hx1
  obtain ⟨s, rfl, ws⟩ := fitsA_int hx2
  obtain ⟨a, rfl, la, wa⟩ := fitsA_sl_int hx3
  obtain ⟨b, lb, fb, rfl⟩ := fitsA_sl hx4
  obtain ⟨w, rfl, ww⟩ := fitsA_int hx5
  obtain ⟨S, h1, h2, h3⟩ := fits_rows fb
  refine ⟨0 + 10, ?_⟩
  rw [h2, ← h1]
  exact e4 0 k n s w a S la (by rw [h1]; exact lb) h3
theorem lift4 (os : Os) (started : os.Started) (H : Type) (enc : TypeId × Value → H) :
    ReturnsInHanded {} Try.checked os 4 .any (Rows.fnExactMissingSpec.pre6 enc Try.prog Try.f4 Rows.fnExactMissingRow.domain false) (Rows.fnExactMissingSpec.post enc Try.prog Try.f4 false true false false) :=
  lifted (C := Try.checked) (shs := [.int .i64, .int .i64, .int .i64, .sl (.int .i64), .sl (.sl (.int .u8)), .int .i64]) own4 started (by kernel_rfl) Try.func4 laid4 rfl Try.underlying4 rfl
    (fun ds h => by
      match ds, h with
      | [_, _, _, _, _, _], _ => rfl) (by kernel_rfl) (by kernel_rfl) EOK EB EP EH rfl law4
    (ChangeSpec.witness6 (enc := enc) (C := Try.checked) false ⟨#[], #[.int .i64 0, .int .i64 0, .int .i64 0, .slice none 0 0, .slice none 0 0, .int .i64 0], []⟩ 8 (by kernel_rfl) (by kernel_rfl) (by kernel_rfl) (by kernel_rfl))
theorem over4 : Rows.fnExactMissingRow.holds Try.pinned (OpenSpec.ofChange Rows.fnExactMissingSpec) :=
  OpenClaim.holds_of_wide 4 Try.f4 rfl rfl rfl rfl rfl rfl rfl ⟨rfl, rfl, rfl, rfl, rfl⟩ rfl rfl rfl rfl rfl (by kernel_rfl) Try.func4 (by kernel_rfl)
    (of_decide_eq_true (by kernel_rfl)) (by unfold Func.isWrapper; first | (rw [if_pos (by decide +kernel)]; kernel_rfl) | (rw [if_neg (by decide +kernel)]; exact ⟨rfl, rfl⟩))
    (fun os started H enc _ => lift4 os started H enc)
end Go.Proofs.Ythgopooldcheeaa.VH.S
namespace Go.Proofs.Ythgopooldcheeaa
/-- The law FnExactMissing: for every input it returns true, and each argument reads as before. -/
theorem fnExactMissing_holds : Rows.FnExactMissingSaid := Go.Proofs.Ythgopooldcheeaa.VH.S.over4
end Go.Proofs.Ythgopooldcheeaa
end

