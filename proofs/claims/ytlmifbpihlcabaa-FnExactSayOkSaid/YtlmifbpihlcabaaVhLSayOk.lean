/- Part of a proof about the given program: the verified evaluator and what it tells of the functions (VhLSayOk). Conditions: none beyond the hypotheses that each theorem states. -/
import Derived.Test.YtlmifbpihlcabaaVhS5
import Derived.Test.YtlmifbpihlcabaaVhFit
import Derived.Test.YtlmifbpihlcabaaRows
import Derived.JoinedOf
import Derived.Handed
namespace Go.Proofs.Ytlmifbpihlcabaa.VH.S
open Go.Proofs Go.Proofs.Ytlmifbpihlcabaa
set_option maxRecDepth 100000
theorem own : ownKnob Try.prog.godebug = none := by kernel_rfl
theorem laid : laidOutB Try.prog = true := by kernel_rfl
def sayS : Sh := .st (.pair (.int .i64) (.pair (.int .i64) (.pair (.sl (.int .u8)) (.pair (.int .i64) (.pair (.int .i64) (.pair (.sl (.int .i64)) .unit))))))
theorem law3 (xs : List AV) (h : FitsAll [sayS] xs) : ∃ d, evFun E d 3 xs [] = some (.val (.bool true), []) := by
  obtain ⟨x, ys, rfl, hx, hys⟩ := fitsAll_cons h
  obtain rfl := fitsAll_nil hys
  obtain ⟨cs, rfl, q0⟩ := fits_st hx
  obtain ⟨_, _, rfl, g0, q1⟩ := fits_pair q0
  obtain ⟨k, rfl, _⟩ := fits_int g0
  obtain ⟨_, _, rfl, g1, q2⟩ := fits_pair q1
  obtain ⟨v, rfl, _⟩ := fits_int g1
  obtain ⟨_, _, rfl, g2, q3⟩ := fits_pair q2
  obtain ⟨sh, rfl, l1, _⟩ := fits_sl_int g2
  obtain ⟨_, _, rfl, g3, q4⟩ := fits_pair q3
  obtain ⟨m, rfl, _⟩ := fits_int g3
  obtain ⟨_, _, rfl, g4, q5⟩ := fits_pair q4
  obtain ⟨a, rfl, _⟩ := fits_int g4
  obtain ⟨_, _, rfl, g5, q6⟩ := fits_pair q5
  obtain ⟨p, rfl, l2, _⟩ := fits_sl_int g5
  obtain rfl := fits_unit q6
  exact ⟨0 + 7, e3 0 k v m a sh p l1 l2⟩
set_option maxRecDepth 100000 in
theorem lift3 (os : Os) (started : os.Started) (H : Type) (enc : TypeId × Value → H) :
    ReturnsInHanded {} Try.checked os 3 .any (Rows.fnExactSayOkSpec.pre6 enc Try.prog Try.f3 Rows.fnExactSayOkRow.domain false) (Rows.fnExactSayOkSpec.post enc Try.prog Try.f3 false true false false) :=
  lifted (C := Try.checked) (shs := [sayS]) own started (by kernel_rfl) Try.func3 laid rfl Try.underlying4 rfl
    (fun ds h => by
      match ds, h with
      | [x], _ => rfl) (by kernel_rfl) (by kernel_rfl) EOK EB EP EH rfl law3
    (ChangeSpec.witness6 (enc := enc) (C := Try.checked) false ⟨#[], #[.agg #[.int .i64 0, .int .i64 0, .slice none 0 0, .int .i64 0, .int .i64 0, .slice none 0 0]], []⟩ 8 (by kernel_rfl) (by kernel_rfl) (by kernel_rfl) (by kernel_rfl))
theorem over3 : Rows.fnExactSayOkRow.holds Try.pinned (OpenSpec.ofChange Rows.fnExactSayOkSpec) :=
  OpenClaim.holds_of_wide 3 Try.f3 rfl rfl rfl rfl rfl rfl rfl ⟨rfl, rfl, rfl, rfl, rfl⟩ rfl rfl rfl rfl rfl (by kernel_rfl) Try.func3 (by kernel_rfl)
    (of_decide_eq_true (by kernel_rfl)) (by unfold Func.isWrapper; first | (rw [if_pos (by decide +kernel)]; kernel_rfl) | (rw [if_neg (by decide +kernel)]; exact ⟨rfl, rfl⟩))
    (fun os started H enc _ => lift3 os started H enc)
end Go.Proofs.Ytlmifbpihlcabaa.VH.S
namespace Go.Proofs.Ytlmifbpihlcabaa
/-- The law of SayOk: for every input it returns true, and the argument reads as before. -/
theorem fnExactSayOk_holds : Rows.FnExactSayOkSaid := VH.S.over3
end Go.Proofs.Ytlmifbpihlcabaa
