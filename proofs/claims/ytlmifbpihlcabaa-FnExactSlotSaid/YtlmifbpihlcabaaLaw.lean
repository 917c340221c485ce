/- Part of a proof about the given program: a verified evaluator, and what it tells of the functions (VhLFnExactSlot). Conditions: none beyond the hypotheses that each theorem states. -/
import Derived.Test.YtlmifbpihlcabaaG3
import Derived.Test.YtlmifbpihlcabaaG2
import Derived.Test.YtlmifbpihlcabaaRows
import Derived.JoinedOf
import Derived.Handed
section
namespace Go.Proofs.Ytlmifbpihlcabaa.VH.S
open Go.Proofs Go.Proofs.Ytlmifbpihlcabaa
set_option maxRecDepth 100000
theorem own4 : ownKnob Try.prog.godebug = none := by kernel_rfl
theorem laid4 : laidOutB Try.prog = true := by kernel_rfl
theorem law4 (xs : List AV) (h : FitsAll [.int .i64, .int .i64] xs) : ∃ d, evFun E d 4 xs [] = some (.val (.bool true), []) := by
  obtain ⟨x0, y0, rfl, hx0, hy0⟩ := fitsAll_cons h
  obtain ⟨x1, y1, rfl, hx1, hy1⟩ := fitsAll_cons hy0
  obtain rfl := fitsAll_nil hy1
  obtain ⟨c, rfl, wc⟩ := fitsA_int hx0
  obtain ⟨r, rfl, wr⟩ := fitsA_int hx1
  exact ⟨0 + 8, e4 0 c r⟩
theorem lift4 (os : Os) (started : os.Started) (H : Type) (enc : TypeId × Value → H) :
    ReturnsInHanded {} Try.checked os 4 .any (Rows.fnExactSlotSpec.pre6 enc Try.prog Try.f4 Rows.fnExactSlotRow.domain false) (Rows.fnExactSlotSpec.post enc Try.prog Try.f4 false true false false) :=
  lifted (C := Try.checked) (shs := [.int .i64, .int .i64]) own4 started (by kernel_rfl) Try.func4 laid4 rfl Try.underlying4 rfl
    (fun ds h => by
      match ds, h with
      | [_, _], _ => rfl) (by kernel_rfl) (by kernel_rfl) EOK EB EP EH rfl law4
    (ChangeSpec.witness6 (enc := enc) (C := Try.checked) false ⟨#[], #[.int .i64 0, .int .i64 0], []⟩ 8 (by kernel_rfl) (by kernel_rfl) (by kernel_rfl) (by kernel_rfl))
theorem over4 : Rows.fnExactSlotRow.holds Try.pinned (OpenSpec.ofChange Rows.fnExactSlotSpec) :=
  OpenClaim.holds_of_wide 4 Try.f4 rfl rfl rfl rfl rfl rfl rfl ⟨rfl, rfl, rfl, rfl, rfl⟩ rfl rfl rfl rfl rfl (by kernel_rfl) Try.func4 (by kernel_rfl)
    (of_decide_eq_true (by kernel_rfl)) (by unfold Func.isWrapper; first | (rw [if_pos (by decide +kernel)]; kernel_rfl) | (rw [if_neg (by decide +kernel)]; exact ⟨rfl, rfl⟩))
    (fun os started H enc _ => lift4 os started H enc)
end Go.Proofs.Ytlmifbpihlcabaa.VH.S
namespace Go.Proofs.Ytlmifbpihlcabaa
/-- The law FnExactSlot: for every input it returns true, and each argument reads as before. -/
theorem fnExactSlot_holds : Rows.FnExactSlotSaid := Go.Proofs.Ytlmifbpihlcabaa.VH.S.over4
end Go.Proofs.Ytlmifbpihlcabaa
end

