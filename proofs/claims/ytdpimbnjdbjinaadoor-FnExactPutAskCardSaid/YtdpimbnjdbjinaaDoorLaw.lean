/- Part of a proof about the given program: a verified evaluator, and what it tells of the functions (VhLFnExactPutAsk). Conditions: none beyond the hypotheses that each theorem states. -/
import Derived.Test.YtdpimbnjdbjinaaDoorG5
import Derived.Test.YtdpimbnjdbjinaaDoorG3
import Derived.Test.YtdpimbnjdbjinaaDoorG2
import Derived.Test.YtdpimbnjdbjinaaDoorCards
import Derived.Test.YtdpimbnjdbjinaaDoorTie
import Derived.SevenTiedAt
import Derived.Lay
import Derived.LaidOnce
import Derived.Handed
import Derived.JoinedOf
set_option linter.unusedSimpArgs false
set_option linter.unusedVariables false
section
namespace Go.Proofs.YtdpimbnjdbjinaaDoor.VH.S
open Go.Proofs Go.Proofs.YtdpimbnjdbjinaaDoor
set_option maxRecDepth 100000
theorem own5 : ownKnob Tryd.prog.godebug = none := by kernel_rfl
theorem laid5 : laidOutB Tryd.prog = true := by kernel_rfl
theorem law5 (xs : List AV) (h : FitsAll [.st (.pair (.int .i64) (.pair (.str) (.pair (.int .i64) (.pair (.sl (.int .u8)) .unit))))] xs) : ∃ d, evFun E d 5 xs [] = some (.val (.bool true), []) := by
  obtain ⟨x0, y0, rfl, hx0, hy0⟩ := fitsAll_cons h
  obtain rfl := fitsAll_nil hy0
  obtain ⟨cs0, rfl, q0_0⟩ := fits_st hx0
  obtain ⟨_, _, rfl, g0_0, q0_1⟩ := fits_pair q0_0
  obtain ⟨k, rfl, wk⟩ := fits_int g0_0
  obtain ⟨_, _, rfl, g0_1, q0_2⟩ := fits_pair q0_1
  obtain ⟨nm, rfl, wnm⟩ := fits_str g0_1
  obtain ⟨_, _, rfl, g0_2, q0_3⟩ := fits_pair q0_2
  obtain ⟨v, rfl, wv⟩ := fits_int g0_2
  obtain ⟨_, _, rfl, g0_3, q0_4⟩ := fits_pair q0_3
  obtain ⟨da, rfl, lda, wda⟩ := fits_sl_int g0_3
  obtain rfl := fits_unit q0_4
  obtain ⟨l, rfl⟩ : ∃ l, nm = sB l := ⟨_, sB_of nm⟩
  rw [sB_size] at wnm
  have hm : maxLen ≤ 9223372036854775807 := by decide
  exact ⟨0 + 9, e5 0 k v l da (by omega) lda⟩
theorem lift5 (os : Os) (started : os.Started) (H : Type) (enc : TypeId × Value → H) :
    ReturnsInHanded {} Tryd.checked os 5 .any (fun w args => (Rows.fnExactPutAskSpec.pre enc Tryd.prog Tryd.f5 [] false w args ∧ laidMetH Tryd.prog Rows.fnExactPutAskRow.laid w) ∧ sizedMet enc Tryd.prog Tryd.f5 (OpenSpec.ofChange Rows.fnExactPutAskSpec) false w args) (Rows.fnExactPutAskSpec.post enc Tryd.prog Tryd.f5 false true false false) :=
  liftedL (C := Tryd.checked) (X := fun w _ => laidMetH Tryd.prog Rows.fnExactPutAskRow.laid w) (shs := [.st (.pair (.int .i64) (.pair (.str) (.pair (.int .i64) (.pair (.sl (.int .u8)) .unit))))]) (fun _ _ _ hh h => h.of_heap hh) own5 started (by kernel_rfl) Tryd.func5 laid5 rfl Tryd.underlying4 rfl
    (fun ds h => by
      match ds, h with
      | [_], _ => rfl) (by kernel_rfl) (by kernel_rfl) EOK EB EP EH rfl law5
    (ChangeSpec.witness_shaped (enc := enc) (C := Tryd.checked) (os := os) (X := fun w _ => laidMetH Tryd.prog Rows.fnExactPutAskRow.laid w) false (World.laidAll Tryd.prog os Rows.fnExactPutAskRow.laid) #[.agg #[.int .i64 0, .string ByteArray.empty, .int .i64 0, .slice none 0 0]] 8 (World.laidAll_os _ _ _)
      (World.shaped_of_ZipB (by kernel_rfl) (by kernel_rfl)) (by kernel_rfl) (by kernel_rfl) (by kernel_rfl)
      (by rw [MakeChecks.laidMetH_plain _ _ _ (by kernel_rfl)]; exact laidMet_laidAll _ (by kernel_rfl) (by kernel_rfl)))
theorem over5 : Rows.fnExactPutAskRow.holds Tryd.pinned (OpenSpec.ofChange Rows.fnExactPutAskSpec) :=
  OpenClaim.holds_of_wide 5 Tryd.f5 rfl rfl rfl rfl rfl rfl rfl ⟨rfl, rfl, rfl, rfl, rfl⟩ rfl rfl rfl rfl rfl (by kernel_rfl) Tryd.func5 (by kernel_rfl)
    (of_decide_eq_true (by kernel_rfl)) (by unfold Func.isWrapper; first | (rw [if_pos (by decide +kernel)]; kernel_rfl) | (rw [if_neg (by decide +kernel)]; exact ⟨rfl, rfl⟩))
    (fun os started H enc _ => lift5 os started H enc)
theorem card5 : Rows.FnExactPutAskCardSaid :=
  Claim7.holds_tied_plain_at .later [] [.data, .pinned] true (true, "60c3125c521a22855331c85818fe44150d44047e57ccd545c748c79c5b63418a") false over5 (fun _ h => by cases h) (by kernel_rfl) (fun _ h => by cases h) fnExactPutAsk_row_tie rfl ⟨rfl, rfl⟩ (by kernel_rfl) rfl
    (fun f fn hf hfn => by
      obtain rfl : f = 5 := Option.some.inj ((show Tryd.prog.funcNamed "loop.example/g00088/laws.FnExactPutAsk" = some 5 by kernel_rfl).symm.trans hf) |>.symm
      obtain rfl : fn = Tryd.f5 := (Option.some.inj (Tryd.func5.symm.trans hfn)).symm
      exact ⟨by kernel_rfl, fun j t ht => by
        rw [Tryd.params5] at ht
        have hm : t ∈ [24] := by simpa using Array.mem_of_getElem? ht
        have hall : ([24].all fun u => !Tryd.prog.wantsStandIn u) = true := by kernel_rfl
        exact (show Tryd.prog.wantsStandIn t = false by simpa using List.all_eq_true.1 hall t hm)⟩)
    (by kernel_rfl)
end Go.Proofs.YtdpimbnjdbjinaaDoor.VH.S
namespace Go.Proofs.YtdpimbnjdbjinaaDoor
/-- The law FnExactPutAsk: for every input it returns true, and each argument reads as before; what is listed of package variables is tied to the text. -/
theorem fnExactPutAsk_holds : Rows.FnExactPutAskCardSaid := Go.Proofs.YtdpimbnjdbjinaaDoor.VH.S.card5
end Go.Proofs.YtdpimbnjdbjinaaDoor
end

