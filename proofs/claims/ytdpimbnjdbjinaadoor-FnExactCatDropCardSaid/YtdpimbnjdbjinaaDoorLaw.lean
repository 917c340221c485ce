/- Part of a proof about the given program: a verified evaluator, and what it tells of the functions (VhLFnExactCatDrop). Conditions: none beyond the hypotheses that each theorem states. -/
import Derived.Test.YtdpimbnjdbjinaaDoorG6
import Derived.Test.YtdpimbnjdbjinaaDoorG3
import Derived.Test.YtdpimbnjdbjinaaDoorG2
import Derived.Test.YtdpimbnjdbjinaaDoorCards
import Derived.Test.YtdpimbnjdbjinaaDoorTie
import Derived.SevenTiedAt
import Derived.Lay
import Derived.LaidOnce
import Derived.Handed
import Derived.JoinedOf
set_option linter.unusedSimpArgs false
set_option linter.unusedVariables false
section
namespace Go.Proofs.YtdpimbnjdbjinaaDoor.VH.S
open Go.Proofs Go.Proofs.YtdpimbnjdbjinaaDoor
set_option maxRecDepth 100000
theorem own10 : ownKnob Tryd.prog.godebug = none := by kernel_rfl
theorem laid10 : laidOutB Tryd.prog = true := by kernel_rfl
theorem law10 (xs : List AV) (h : FitsAll [.sl (.st (.pair (.str) (.pair (.int .i64) (.pair (.int .i64) (.pair (.int .i64) .unit))))), .str] xs) : ∃ d, evFun E d 10 xs [] = some (.val (.bool true), []) := by
  obtain ⟨x0, y0, rfl, hx0, hy0⟩ := fitsAll_cons h
  obtain ⟨x1, y1, rfl, hx1, hy1⟩ := fitsAll_cons hy0
  obtain rfl := fitsAll_nil hy1
  obtain ⟨a, la, fa, rfl⟩ := fitsA_sl hx0
  obtain ⟨t, rfl, wt⟩ := fitsA_str hx1
  obtain ⟨L, h1, h2, h3⟩ := fits_ents fa
  obtain ⟨l, rfl⟩ : ∃ l, t = sB l := ⟨_, sB_of t⟩
  refine ⟨0 + 8, ?_⟩
  rw [h2, ← h1]
  exact e10 0 L l (by rw [h1]; exact la) (names_of h3)
theorem lift10 (os : Os) (started : os.Started) (H : Type) (enc : TypeId × Value → H) :
    ReturnsInHanded {} Tryd.checked os 10 .any (fun w args => (Rows.fnExactCatDropSpec.pre enc Tryd.prog Tryd.f10 [] false w args ∧ laidMetH Tryd.prog Rows.fnExactCatDropRow.laid w) ∧ sizedMet enc Tryd.prog Tryd.f10 (OpenSpec.ofChange Rows.fnExactCatDropSpec) false w args) (Rows.fnExactCatDropSpec.post enc Tryd.prog Tryd.f10 false true false false) :=
  liftedL (C := Tryd.checked) (X := fun w _ => laidMetH Tryd.prog Rows.fnExactCatDropRow.laid w) (shs := [.sl (.st (.pair (.str) (.pair (.int .i64) (.pair (.int .i64) (.pair (.int .i64) .unit))))), .str]) (fun _ _ _ hh h => h.of_heap hh) own10 started (by kernel_rfl) Tryd.func10 laid10 rfl Tryd.underlying4 rfl
    (fun ds h => by
      match ds, h with
      | [_, _], _ => rfl) (by kernel_rfl) (by kernel_rfl) EOK EB EP EH rfl law10
    (ChangeSpec.witness_shaped (enc := enc) (C := Tryd.checked) (os := os) (X := fun w _ => laidMetH Tryd.prog Rows.fnExactCatDropRow.laid w) false (World.laidAll Tryd.prog os Rows.fnExactCatDropRow.laid) #[.slice none 0 0, .string ByteArray.empty] 8 (World.laidAll_os _ _ _)
      (World.shaped_of_ZipB (by kernel_rfl) (by kernel_rfl)) (by kernel_rfl) (by kernel_rfl) (by kernel_rfl)
      (by rw [MakeChecks.laidMetH_plain _ _ _ (by kernel_rfl)]; exact laidMet_laidAll _ (by kernel_rfl) (by kernel_rfl)))
theorem over10 : Rows.fnExactCatDropRow.holds Tryd.pinned (OpenSpec.ofChange Rows.fnExactCatDropSpec) :=
  OpenClaim.holds_of_wide 10 Tryd.f10 rfl rfl rfl rfl rfl rfl rfl ⟨rfl, rfl, rfl, rfl, rfl⟩ rfl rfl rfl rfl rfl (by kernel_rfl) Tryd.func10 (by kernel_rfl)
    (of_decide_eq_true (by kernel_rfl)) (by unfold Func.isWrapper; first | (rw [if_pos (by decide +kernel)]; kernel_rfl) | (rw [if_neg (by decide +kernel)]; exact ⟨rfl, rfl⟩))
    (fun os started H enc _ => lift10 os started H enc)
theorem card10 : Rows.FnExactCatDropCardSaid :=
  Claim7.holds_tied_plain_at .later [] [.data, .pinned] true (true, "60c3125c521a22855331c85818fe44150d44047e57ccd545c748c79c5b63418a") false over10 (fun _ h => by cases h) (by kernel_rfl) (fun _ h => by cases h) fnExactCatDrop_row_tie rfl ⟨rfl, rfl⟩ (by kernel_rfl) rfl
    (fun f fn hf hfn => by
      obtain rfl : f = 10 := Option.some.inj ((show Tryd.prog.funcNamed "loop.example/g00088/laws.FnExactCatDrop" = some 10 by kernel_rfl).symm.trans hf) |>.symm
      obtain rfl : fn = Tryd.f10 := (Option.some.inj (Tryd.func10.symm.trans hfn)).symm
      exact ⟨by kernel_rfl, fun j t ht => by
        rw [Tryd.params10] at ht
        have hm : t ∈ [50, 9] := by simpa using Array.mem_of_getElem? ht
        have hall : ([50, 9].all fun u => !Tryd.prog.wantsStandIn u) = true := by kernel_rfl
        exact (show Tryd.prog.wantsStandIn t = false by simpa using List.all_eq_true.1 hall t hm)⟩)
    (by kernel_rfl)
end Go.Proofs.YtdpimbnjdbjinaaDoor.VH.S
namespace Go.Proofs.YtdpimbnjdbjinaaDoor
/-- The law FnExactCatDrop: for every input it returns true, and each argument reads as before; what is listed of package variables is tied to the text. -/
theorem fnExactCatDrop_holds : Rows.FnExactCatDropCardSaid := Go.Proofs.YtdpimbnjdbjinaaDoor.VH.S.card10
end Go.Proofs.YtdpimbnjdbjinaaDoor
end

