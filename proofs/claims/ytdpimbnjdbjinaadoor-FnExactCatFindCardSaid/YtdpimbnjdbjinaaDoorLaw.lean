/- Part of a proof about the given program: a verified evaluator, and what it tells of the functions (VhLFnExactCatFind). Conditions: none beyond the hypotheses that each theorem states. -/
import Derived.Test.YtdpimbnjdbjinaaDoorG5
import Derived.Test.YtdpimbnjdbjinaaDoorG3
import Derived.Test.YtdpimbnjdbjinaaDoorG2
import Derived.Test.YtdpimbnjdbjinaaDoorCards
import Derived.Test.YtdpimbnjdbjinaaDoorTie
import Derived.SevenTiedAt
import Derived.Lay
import Derived.LaidOnce
import Derived.Handed
import Derived.JoinedOf
set_option linter.unusedSimpArgs false
set_option linter.unusedVariables false
section
namespace Go.Proofs.YtdpimbnjdbjinaaDoor.VH.S
open Go.Proofs Go.Proofs.YtdpimbnjdbjinaaDoor
set_option maxRecDepth 100000
theorem own8 : ownKnob Tryd.prog.godebug = none := by kernel_rfl
theorem laid8 : laidOutB Tryd.prog = true := by kernel_rfl
theorem law8 (xs : List AV) (h : FitsAll [.sl (.st (.pair (.str) (.pair (.int .i64) (.pair (.int .i64) (.pair (.int .i64) .unit))))), .str] xs) : ∃ d, evFun E d 8 xs [] = some (.val (.bool true), []) := by
  obtain ⟨x0, y0, rfl, hx0, hy0⟩ := fitsAll_cons h
  obtain ⟨x1, y1, rfl, hx1, hy1⟩ := fitsAll_cons hy0
  obtain rfl := fitsAll_nil hy1
  obtain ⟨a, la, fa, rfl⟩ := fitsA_sl hx0
  obtain ⟨b, rfl, wb⟩ := fitsA_str hx1
  obtain ⟨L, h1, h2, h3⟩ := fits_ents fa
  obtain ⟨l, rfl⟩ : ∃ l, b = sB l := ⟨_, sB_of b⟩
  refine ⟨0 + 8, ?_⟩
  rw [h2, ← h1]
  exact e8 0 L l (by rw [h1]; exact la) (names_of h3)
theorem lift8 (os : Os) (started : os.Started) (H : Type) (enc : TypeId × Value → H) :
    ReturnsInHanded {} Tryd.checked os 8 .any (fun w args => (Rows.fnExactCatFindSpec.pre enc Tryd.prog Tryd.f8 [] false w args ∧ laidMetH Tryd.prog Rows.fnExactCatFindRow.laid w) ∧ sizedMet enc Tryd.prog Tryd.f8 (OpenSpec.ofChange Rows.fnExactCatFindSpec) false w args) (Rows.fnExactCatFindSpec.post enc Tryd.prog Tryd.f8 false true false false) :=
  liftedL (C := Tryd.checked) (X := fun w _ => laidMetH Tryd.prog Rows.fnExactCatFindRow.laid w) (shs := [.sl (.st (.pair (.str) (.pair (.int .i64) (.pair (.int .i64) (.pair (.int .i64) .unit))))), .str]) (fun _ _ _ hh h => h.of_heap hh) own8 started (by kernel_rfl) Tryd.func8 laid8 rfl Tryd.underlying4 rfl
    (fun ds h => by
      match ds, h with
      | [_, _], _ => rfl) (by kernel_rfl) (by kernel_rfl) EOK EB EP EH rfl law8
    (ChangeSpec.witness_shaped (enc := enc) (C := Tryd.checked) (os := os) (X := fun w _ => laidMetH Tryd.prog Rows.fnExactCatFindRow.laid w) false (World.laidAll Tryd.prog os Rows.fnExactCatFindRow.laid) #[.slice none 0 0, .string ByteArray.empty] 8 (World.laidAll_os _ _ _)
      (World.shaped_of_ZipB (by kernel_rfl) (by kernel_rfl)) (by kernel_rfl) (by kernel_rfl) (by kernel_rfl)
      (by rw [MakeChecks.laidMetH_plain _ _ _ (by kernel_rfl)]; exact laidMet_laidAll _ (by kernel_rfl) (by kernel_rfl)))
theorem over8 : Rows.fnExactCatFindRow.holds Tryd.pinned (OpenSpec.ofChange Rows.fnExactCatFindSpec) :=
  OpenClaim.holds_of_wide 8 Tryd.f8 rfl rfl rfl rfl rfl rfl rfl ⟨rfl, rfl, rfl, rfl, rfl⟩ rfl rfl rfl rfl rfl (by kernel_rfl) Tryd.func8 (by kernel_rfl)
    (of_decide_eq_true (by kernel_rfl)) (by unfold Func.isWrapper; first | (rw [if_pos (by decide +kernel)]; kernel_rfl) | (rw [if_neg (by decide +kernel)]; exact ⟨rfl, rfl⟩))
    (fun os started H enc _ => lift8 os started H enc)
theorem card8 : Rows.FnExactCatFindCardSaid :=
  Claim7.holds_tied_plain_at .later [] [.data, .pinned] true (true, "60c3125c521a22855331c85818fe44150d44047e57ccd545c748c79c5b63418a") false over8 (fun _ h => by cases h) (by kernel_rfl) (fun _ h => by cases h) fnExactCatFind_row_tie rfl ⟨rfl, rfl⟩ (by kernel_rfl) rfl
    (fun f fn hf hfn => by
      obtain rfl : f = 8 := Option.some.inj ((show Tryd.prog.funcNamed "loop.example/g00088/laws.FnExactCatFind" = some 8 by kernel_rfl).symm.trans hf) |>.symm
      obtain rfl : fn = Tryd.f8 := (Option.some.inj (Tryd.func8.symm.trans hfn)).symm
      exact ⟨by kernel_rfl, fun j t ht => by
        rw [Tryd.params8] at ht
        have hm : t ∈ [50, 9] := by simpa using Array.mem_of_getElem? ht
        have hall : ([50, 9].all fun u => !Tryd.prog.wantsStandIn u) = true := by kernel_rfl
        exact (show Tryd.prog.wantsStandIn t = false by simpa using List.all_eq_true.1 hall t hm)⟩)
    (by kernel_rfl)
end Go.Proofs.YtdpimbnjdbjinaaDoor.VH.S
namespace Go.Proofs.YtdpimbnjdbjinaaDoor
/-- The law FnExactCatFind: for every input it returns true, and each argument reads as before; what is listed of package variables is tied to the text. -/
theorem fnExactCatFind_holds : Rows.FnExactCatFindCardSaid := Go.Proofs.YtdpimbnjdbjinaaDoor.VH.S.card8
end Go.Proofs.YtdpimbnjdbjinaaDoor
end

