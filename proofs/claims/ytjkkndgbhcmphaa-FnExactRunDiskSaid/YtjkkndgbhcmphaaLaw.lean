/- Part of a proof about the given program: a verified evaluator, and what it tells of the functions (VhLFnExactRunDisk). Conditions: none beyond the hypotheses that each theorem states. -/
import Derived.Test.YtjkkndgbhcmphaaG5
import Derived.Test.YtjkkndgbhcmphaaG3
import Derived.Test.YtjkkndgbhcmphaaRows
import Derived.JoinedOf
import Derived.Handed
section
namespace Go.Proofs.Ytjkkndgbhcmphaa.VH.S
open Go.Proofs Go.Proofs.Ytjkkndgbhcmphaa
set_option maxRecDepth 100000
theorem own8 : ownKnob Try.prog.godebug = none := by kernel_rfl
theorem laid8 : laidOutB Try.prog = true := by kernel_rfl
theorem law8 (xs : List AV) (h : FitsAll [.sl (.int .u8), .sl (.st (.pair (.int .i64) (.pair (.int .i64) (.pair (.int .i64) .unit))))] xs) : ∃ d, evFun E d 8 xs [] = some (.val (.bool true), []) := by
  obtain ⟨x0, y0, rfl, hx0, hy0⟩ := fitsAll_cons h
  obtain ⟨x1, y1, rfl, hx1, hy1⟩ := fitsAll_cons hy0
  obtain rfl := fitsAll_nil hy1
  obtain ⟨a, rfl, la, wa⟩ := fitsA_sl_int hx0
  obtain ⟨rows, lrows, frows, rfl⟩ := fitsA_sl hx1
  have hq : ∀ r, Fits (.st (.pair (.int .i64) (.pair (.int .i64) (.pair (.int .i64) .unit)))) r → ∃ w : Wt, r = encW w := fun r h => by
    obtain ⟨_, _, rfl, g0, q1⟩ := fits_pair (cs := r) h
    obtain ⟨x, rfl, _⟩ := fits_int g0
    obtain ⟨_, _, rfl, g1, q2⟩ := fits_pair q1
    obtain ⟨y, rfl, _⟩ := fits_int g1
    obtain ⟨_, _, rfl, g2, q3⟩ := fits_pair q2
    obtain ⟨z, rfl, _⟩ := fits_int g2
    obtain rfl := fits_unit q3
    exact ⟨(x, y, z), rfl⟩
  obtain ⟨ws, hw1, hw2⟩ := rows_enc hq rows frows
  refine ⟨0 + 12, ?_⟩
  rw [hw2, ← hw1]
  exact e8 0 a ws (B8.wf wa) (by rw [hw1]; exact lrows)
theorem lift8 (os : Os) (started : os.Started) (H : Type) (enc : TypeId × Value → H) :
    ReturnsInHanded {} Try.checked os 8 .any (Rows.fnExactRunDiskSpec.pre6 enc Try.prog Try.f8 Rows.fnExactRunDiskRow.domain false) (Rows.fnExactRunDiskSpec.post enc Try.prog Try.f8 false true false false) :=
  lifted (C := Try.checked) (shs := [.sl (.int .u8), .sl (.st (.pair (.int .i64) (.pair (.int .i64) (.pair (.int .i64) .unit))))]) own8 started (by kernel_rfl) Try.func8 laid8 rfl Try.underlying4 rfl
    (fun ds h => by
      match ds, h with
      | [_, _], _ => rfl) (by kernel_rfl) (by kernel_rfl) EOK EB EP EH rfl law8
    (ChangeSpec.witness6 (enc := enc) (C := Try.checked) false ⟨#[], #[.slice none 0 0, .slice none 0 0], []⟩ 8 (by kernel_rfl) (by kernel_rfl) (by kernel_rfl) (by kernel_rfl))
theorem over8 : Rows.fnExactRunDiskRow.holds Try.pinned (OpenSpec.ofChange Rows.fnExactRunDiskSpec) :=
  OpenClaim.holds_of_wide 8 Try.f8 rfl rfl rfl rfl rfl rfl rfl ⟨rfl, rfl, rfl, rfl, rfl⟩ rfl rfl rfl rfl rfl (by kernel_rfl) Try.func8 (by kernel_rfl)
    (of_decide_eq_true (by kernel_rfl)) (by unfold Func.isWrapper; first | (rw [if_pos (by decide +kernel)]; kernel_rfl) | (rw [if_neg (by decide +kernel)]; exact ⟨rfl, rfl⟩))
    (fun os started H enc _ => lift8 os started H enc)
end Go.Proofs.Ytjkkndgbhcmphaa.VH.S
namespace Go.Proofs.Ytjkkndgbhcmphaa
/-- The law FnExactRunDisk: for every input it returns true, and each argument reads as before. -/
theorem fnExactRunDisk_holds : Rows.FnExactRunDiskSaid := Go.Proofs.Ytjkkndgbhcmphaa.VH.S.over8
end Go.Proofs.Ytjkkndgbhcmphaa
end

