/- Part of a proof about the given program: a verified evaluator, and what it tells of the functions (VhLFnExactCatNames). Conditions: none beyond the hypotheses that each theorem states. -/
import Derived.Test.YtdpimbnjdbjinaaDoorG5
import Derived.Test.YtdpimbnjdbjinaaDoorG3
import Derived.Test.YtdpimbnjdbjinaaDoorG2
import Derived.Test.YtdpimbnjdbjinaaDoorCards
import Derived.Test.YtdpimbnjdbjinaaDoorTie
import Derived.SevenTiedAt
import Derived.Lay
import Derived.LaidOnce
import Derived.Handed
import Derived.JoinedOf
set_option linter.unusedSimpArgs false
set_option linter.unusedVariables false
section
namespace Go.Proofs.YtdpimbnjdbjinaaDoor.VH.S
open Go.Proofs Go.Proofs.YtdpimbnjdbjinaaDoor
set_option maxRecDepth 100000
theorem own9 : ownKnob Tryd.prog.godebug = none := by kernel_rfl
theorem laid9 : laidOutB Tryd.prog = true := by kernel_rfl
theorem law9 (xs : List AV) (h : FitsAll [.sl (.st (.pair (.str) (.pair (.int .i64) (.pair (.int .i64) (.pair (.int .i64) .unit)))))] xs) : ∃ d, evFun E d 9 xs [] = some (.val (.bool true), []) := by
  obtain ⟨x0, y0, rfl, hx0, hy0⟩ := fitsAll_cons h
  obtain rfl := fitsAll_nil hy0
  obtain ⟨a, la, fa, rfl⟩ := fitsA_sl hx0
  obtain ⟨L, h1, h2, h3⟩ := fits_ents fa
  refine ⟨0 + 8, ?_⟩
  rw [h2, ← h1]
  exact e9 0 L (by rw [h1]; exact la) (names_of h3)
theorem lift9 (os : Os) (started : os.Started) (H : Type) (enc : TypeId × Value → H) :
    ReturnsInHanded {} Tryd.checked os 9 .any (fun w args => (Rows.fnExactCatNamesSpec.pre enc Tryd.prog Tryd.f9 [] false w args ∧ laidMetH Tryd.prog Rows.fnExactCatNamesRow.laid w) ∧ sizedMet enc Tryd.prog Tryd.f9 (OpenSpec.ofChange Rows.fnExactCatNamesSpec) false w args) (Rows.fnExactCatNamesSpec.post enc Tryd.prog Tryd.f9 false true false false) :=
  liftedL (C := Tryd.checked) (X := fun w _ => laidMetH Tryd.prog Rows.fnExactCatNamesRow.laid w) (shs := [.sl (.st (.pair (.str) (.pair (.int .i64) (.pair (.int .i64) (.pair (.int .i64) .unit)))))]) (fun _ _ _ hh h => h.of_heap hh) own9 started (by kernel_rfl) Tryd.func9 laid9 rfl Tryd.underlying4 rfl
    (fun ds h => by
      match ds, h with
      | [_], _ => rfl) (by kernel_rfl) (by kernel_rfl) EOK EB EP EH rfl law9
    (ChangeSpec.witness_shaped (enc := enc) (C := Tryd.checked) (os := os) (X := fun w _ => laidMetH Tryd.prog Rows.fnExactCatNamesRow.laid w) false (World.laidAll Tryd.prog os Rows.fnExactCatNamesRow.laid) #[.slice none 0 0] 8 (World.laidAll_os _ _ _)
      (World.shaped_of_ZipB (by kernel_rfl) (by kernel_rfl)) (by kernel_rfl) (by kernel_rfl) (by kernel_rfl)
      (by rw [MakeChecks.laidMetH_plain _ _ _ (by kernel_rfl)]; exact laidMet_laidAll _ (by kernel_rfl) (by kernel_rfl)))
theorem over9 : Rows.fnExactCatNamesRow.holds Tryd.pinned (OpenSpec.ofChange Rows.fnExactCatNamesSpec) :=
  OpenClaim.holds_of_wide 9 Tryd.f9 rfl rfl rfl rfl rfl rfl rfl ⟨rfl, rfl, rfl, rfl, rfl⟩ rfl rfl rfl rfl rfl (by kernel_rfl) Tryd.func9 (by kernel_rfl)
    (of_decide_eq_true (by kernel_rfl)) (by unfold Func.isWrapper; first | (rw [if_pos (by decide +kernel)]; kernel_rfl) | (rw [if_neg (by decide +kernel)]; exact ⟨rfl, rfl⟩))
    (fun os started H enc _ => lift9 os started H enc)
theorem card9 : Rows.FnExactCatNamesCardSaid :=
  Claim7.holds_tied_plain_at .later [] [.data, .pinned] true (true, "60c3125c521a22855331c85818fe44150d44047e57ccd545c748c79c5b63418a") false over9 (fun _ h => by cases h) (by kernel_rfl) (fun _ h => by cases h) fnExactCatNames_row_tie rfl ⟨rfl, rfl⟩ (by kernel_rfl) rfl
    (fun f fn hf hfn => by
      obtain rfl : f = 9 := Option.some.inj ((show Tryd.prog.funcNamed "loop.example/g00088/laws.FnExactCatNames" = some 9 by kernel_rfl).symm.trans hf) |>.symm
      obtain rfl : fn = Tryd.f9 := (Option.some.inj (Tryd.func9.symm.trans hfn)).symm
      exact ⟨by kernel_rfl, fun j t ht => by
        rw [Tryd.params9] at ht
        have hm : t ∈ [50] := by simpa using Array.mem_of_getElem? ht
        have hall : ([50].all fun u => !Tryd.prog.wantsStandIn u) = true := by kernel_rfl
        exact (show Tryd.prog.wantsStandIn t = false by simpa using List.all_eq_true.1 hall t hm)⟩)
    (by kernel_rfl)
end Go.Proofs.YtdpimbnjdbjinaaDoor.VH.S
namespace Go.Proofs.YtdpimbnjdbjinaaDoor
/-- The law FnExactCatNames: for every input it returns true, and each argument reads as before; what is listed of package variables is tied to the text. -/
theorem fnExactCatNames_holds : Rows.FnExactCatNamesCardSaid := Go.Proofs.YtdpimbnjdbjinaaDoor.VH.S.card9
end Go.Proofs.YtdpimbnjdbjinaaDoor
end

