/- Part of a proof about the given program: a verified evaluator, and what it tells of the functions (VhLFnExactCatBytes). Conditions: none beyond the hypotheses that each theorem states. -/
import Derived.Test.YtdpimbnjdbjinaaDoorG6
import Derived.Test.YtdpimbnjdbjinaaDoorG3
import Derived.Test.YtdpimbnjdbjinaaDoorG2
import Derived.Test.YtdpimbnjdbjinaaDoorCards
import Derived.Test.YtdpimbnjdbjinaaDoorTie
import Derived.SevenTiedAt
import Derived.Lay
import Derived.LaidOnce
import Derived.Handed
import Derived.JoinedOf
set_option linter.unusedSimpArgs false
set_option linter.unusedVariables false
section
namespace Go.Proofs.YtdpimbnjdbjinaaDoor.VH.S
open Go.Proofs Go.Proofs.YtdpimbnjdbjinaaDoor
set_option maxRecDepth 100000
theorem own13 : ownKnob Tryd.prog.godebug = none := by kernel_rfl
theorem laid13 : laidOutB Tryd.prog = true := by kernel_rfl
theorem law13 (xs : List AV) (h : FitsAll [.sl (.st (.pair (.str) (.pair (.int .i64) (.pair (.int .i64) (.pair (.int .i64) .unit)))))] xs) : ∃ d, evFun E d 13 xs [] = some (.val (.bool true), []) := by
  obtain ⟨x0, y0, rfl, hx0, hy0⟩ := fitsAll_cons h
  obtain rfl := fitsAll_nil hy0
  obtain ⟨a, la, fa, rfl⟩ := fitsA_sl hx0
  obtain ⟨L, h1, h2, h3⟩ := fits_ents fa
  refine ⟨0 + 8, ?_⟩
  rw [h2, ← h1]
  exact e13 0 L (by rw [h1]; exact la) (names_of h3)
theorem lift13 (os : Os) (started : os.Started) (H : Type) (enc : TypeId × Value → H) :
    ReturnsInHanded {} Tryd.checked os 13 .any (fun w args => (Rows.fnExactCatBytesSpec.pre enc Tryd.prog Tryd.f13 [] false w args ∧ laidMetH Tryd.prog Rows.fnExactCatBytesRow.laid w) ∧ sizedMet enc Tryd.prog Tryd.f13 (OpenSpec.ofChange Rows.fnExactCatBytesSpec) false w args) (Rows.fnExactCatBytesSpec.post enc Tryd.prog Tryd.f13 false true false false) :=
  liftedL (C := Tryd.checked) (X := fun w _ => laidMetH Tryd.prog Rows.fnExactCatBytesRow.laid w) (shs := [.sl (.st (.pair (.str) (.pair (.int .i64) (.pair (.int .i64) (.pair (.int .i64) .unit)))))]) (fun _ _ _ hh h => h.of_heap hh) own13 started (by kernel_rfl) Tryd.func13 laid13 rfl Tryd.underlying4 rfl
    (fun ds h => by
      match ds, h with
      | [_], _ => rfl) (by kernel_rfl) (by kernel_rfl) EOK EB EP EH rfl law13
    (ChangeSpec.witness_shaped (enc := enc) (C := Tryd.checked) (os := os) (X := fun w _ => laidMetH Tryd.prog Rows.fnExactCatBytesRow.laid w) false (World.laidAll Tryd.prog os Rows.fnExactCatBytesRow.laid) #[.slice none 0 0] 8 (World.laidAll_os _ _ _)
      (World.shaped_of_ZipB (by kernel_rfl) (by kernel_rfl)) (by kernel_rfl) (by kernel_rfl) (by kernel_rfl)
      (by rw [MakeChecks.laidMetH_plain _ _ _ (by kernel_rfl)]; exact laidMet_laidAll _ (by kernel_rfl) (by kernel_rfl)))
theorem over13 : Rows.fnExactCatBytesRow.holds Tryd.pinned (OpenSpec.ofChange Rows.fnExactCatBytesSpec) :=
  OpenClaim.holds_of_wide 13 Tryd.f13 rfl rfl rfl rfl rfl rfl rfl ⟨rfl, rfl, rfl, rfl, rfl⟩ rfl rfl rfl rfl rfl (by kernel_rfl) Tryd.func13 (by kernel_rfl)
    (of_decide_eq_true (by kernel_rfl)) (by unfold Func.isWrapper; first | (rw [if_pos (by decide +kernel)]; kernel_rfl) | (rw [if_neg (by decide +kernel)]; exact ⟨rfl, rfl⟩))
    (fun os started H enc _ => lift13 os started H enc)
theorem card13 : Rows.FnExactCatBytesCardSaid :=
  Claim7.holds_tied_plain_at .later [] [.data, .pinned] true (true, "60c3125c521a22855331c85818fe44150d44047e57ccd545c748c79c5b63418a") false over13 (fun _ h => by cases h) (by kernel_rfl) (fun _ h => by cases h) fnExactCatBytes_row_tie rfl ⟨rfl, rfl⟩ (by kernel_rfl) rfl
    (fun f fn hf hfn => by
      obtain rfl : f = 13 := Option.some.inj ((show Tryd.prog.funcNamed "loop.example/g00088/laws.FnExactCatBytes" = some 13 by kernel_rfl).symm.trans hf) |>.symm
      obtain rfl : fn = Tryd.f13 := (Option.some.inj (Tryd.func13.symm.trans hfn)).symm
      exact ⟨by kernel_rfl, fun j t ht => by
        rw [Tryd.params13] at ht
        have hm : t ∈ [50] := by simpa using Array.mem_of_getElem? ht
        have hall : ([50].all fun u => !Tryd.prog.wantsStandIn u) = true := by kernel_rfl
        exact (show Tryd.prog.wantsStandIn t = false by simpa using List.all_eq_true.1 hall t hm)⟩)
    (by kernel_rfl)
end Go.Proofs.YtdpimbnjdbjinaaDoor.VH.S
namespace Go.Proofs.YtdpimbnjdbjinaaDoor
/-- The law FnExactCatBytes: for every input it returns true, and each argument reads as before; what is listed of package variables is tied to the text. -/
theorem fnExactCatBytes_holds : Rows.FnExactCatBytesCardSaid := Go.Proofs.YtdpimbnjdbjinaaDoor.VH.S.card13
end Go.Proofs.YtdpimbnjdbjinaaDoor
end

