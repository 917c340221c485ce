/- Part of a proof about the given program: a verified evaluator, and what it tells of the functions (VhLFnExactForged). Conditions: none beyond the hypotheses that each theorem states. -/
import Derived.Test.YtjkkndgbhcmphaaG5
import Derived.Test.YtjkkndgbhcmphaaG3
import Derived.Test.YtjkkndgbhcmphaaRows
import Derived.JoinedOf
import Derived.Handed
section
namespace Go.Proofs.Ytjkkndgbhcmphaa.VH.S
open Go.Proofs Go.Proofs.Ytjkkndgbhcmphaa
set_option maxRecDepth 100000
theorem own4 : ownKnob Try.prog.godebug = none := by kernel_rfl
theorem laid4 : laidOutB Try.prog = true := by kernel_rfl
theorem law4 (xs : List AV) (h : FitsAll [.st (.pair (.int .i64) (.pair (.int .i64) (.pair (.sl (.int .u8)) (.pair (.int .i64) (.pair (.int .i64) (.pair (.sl (.int .i64)) .unit)))))), .int .i64, .int .u8] xs) : ∃ d, evFun E d 4 xs [] = some (.val (.bool true), []) := by
  obtain ⟨x0, y0, rfl, hx0, hy0⟩ := fitsAll_cons h
  obtain ⟨x1, y1, rfl, hx1, hy1⟩ := fitsAll_cons hy0
  obtain ⟨x2, y2, rfl, hx2, hy2⟩ := fitsAll_cons hy1
  obtain rfl := fitsAll_nil hy2
  obtain ⟨cs0, rfl, q0_0⟩ := fits_st hx0
  obtain ⟨_, _, rfl, g0_0, q0_1⟩ := fits_pair q0_0
  obtain ⟨k, rfl, wk⟩ := fits_int g0_0
  obtain ⟨_, _, rfl, g0_1, q0_2⟩ := fits_pair q0_1
  obtain ⟨v, rfl, wv⟩ := fits_int g0_1
  obtain ⟨_, _, rfl, g0_2, q0_3⟩ := fits_pair q0_2
  obtain ⟨sh, rfl, lsh, wsh⟩ := fits_sl_int g0_2
  obtain ⟨_, _, rfl, g0_3, q0_4⟩ := fits_pair q0_3
  obtain ⟨m, rfl, wm⟩ := fits_int g0_3
  obtain ⟨_, _, rfl, g0_4, q0_5⟩ := fits_pair q0_4
  obtain ⟨a, rfl, wa⟩ := fits_int g0_4
  obtain ⟨_, _, rfl, g0_5, q0_6⟩ := fits_pair q0_5
  obtain ⟨p, rfl, lp, wp⟩ := fits_sl_int g0_5
  obtain rfl := fits_unit q0_6
  obtain ⟨x, rfl, wx⟩ := fitsA_int hx1
  obtain ⟨y, rfl, wy⟩ := fitsA_int hx2
  exact ⟨0 + 9, e4 0 k v m a sh p x y lsh lp⟩
theorem lift4 (os : Os) (started : os.Started) (H : Type) (enc : TypeId × Value → H) :
    ReturnsInHanded {} Try.checked os 4 .any (Rows.fnExactForgedSpec.pre6 enc Try.prog Try.f4 Rows.fnExactForgedRow.domain false) (Rows.fnExactForgedSpec.post enc Try.prog Try.f4 false true false false) :=
  lifted (C := Try.checked) (shs := [.st (.pair (.int .i64) (.pair (.int .i64) (.pair (.sl (.int .u8)) (.pair (.int .i64) (.pair (.int .i64) (.pair (.sl (.int .i64)) .unit)))))), .int .i64, .int .u8]) own4 started (by kernel_rfl) Try.func4 laid4 rfl Try.underlying4 rfl
    (fun ds h => by
      match ds, h with
      | [_, _, _], _ => rfl) (by kernel_rfl) (by kernel_rfl) EOK EB EP EH rfl law4
    (ChangeSpec.witness6 (enc := enc) (C := Try.checked) false ⟨#[], #[.agg #[.int .i64 0, .int .i64 0, .slice none 0 0, .int .i64 0, .int .i64 0, .slice none 0 0], .int .i64 0, .int .u8 0], []⟩ 8 (by kernel_rfl) (by kernel_rfl) (by kernel_rfl) (by kernel_rfl))
theorem over4 : Rows.fnExactForgedRow.holds Try.pinned (OpenSpec.ofChange Rows.fnExactForgedSpec) :=
  OpenClaim.holds_of_wide 4 Try.f4 rfl rfl rfl rfl rfl rfl rfl ⟨rfl, rfl, rfl, rfl, rfl⟩ rfl rfl rfl rfl rfl (by kernel_rfl) Try.func4 (by kernel_rfl)
    (of_decide_eq_true (by kernel_rfl)) (by unfold Func.isWrapper; first | (rw [if_pos (by decide +kernel)]; kernel_rfl) | (rw [if_neg (by decide +kernel)]; exact ⟨rfl, rfl⟩))
    (fun os started H enc _ => lift4 os started H enc)
end Go.Proofs.Ytjkkndgbhcmphaa.VH.S
namespace Go.Proofs.Ytjkkndgbhcmphaa
/-- The law FnExactForged: for every input it returns true, and each argument reads as before. -/
theorem fnExactForged_holds : Rows.FnExactForgedSaid := Go.Proofs.Ytjkkndgbhcmphaa.VH.S.over4
end Go.Proofs.Ytjkkndgbhcmphaa
end

