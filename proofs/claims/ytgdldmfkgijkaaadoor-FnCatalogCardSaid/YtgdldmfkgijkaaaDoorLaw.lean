/- Part of a proof about the given program: a verified evaluator, and what it tells of the functions (VhLFnCatalog). Conditions: none beyond the hypotheses that each theorem states. -/
import Derived.Test.YtgdldmfkgijkaaaDoorG6
import Derived.Test.YtgdldmfkgijkaaaDoorG3
import Derived.Test.YtgdldmfkgijkaaaDoorG2
import Derived.Test.YtgdldmfkgijkaaaDoorCards
import Derived.Test.YtgdldmfkgijkaaaDoorTie
import Derived.SevenTiedAt
import Derived.Lay
import Derived.LaidOnce
import Derived.Handed
import Derived.JoinedOf
set_option linter.unusedSimpArgs false
set_option linter.unusedVariables false
set_option linter.defProp false
section
namespace Go.Proofs.YtgdldmfkgijkaaaDoor.VH.S
open Go.Proofs Go.Proofs.YtgdldmfkgijkaaaDoor
set_option maxRecDepth 100000
theorem own5 : ownKnob Tryd.prog.godebug = none := by kernel_rfl
theorem laid5 : laidOutB Tryd.prog = true := by kernel_rfl
theorem law5 (xs : List AV) (h : FitsAll [.sl (.int .u8)] xs) : ∃ d, evFun E d 5 xs [] = some (.val (.bool true), []) := by
  obtain ⟨x0, y0, rfl, hx0, hy0⟩ := fitsAll_cons h
  obtain rfl := fitsAll_nil hy0
  obtain ⟨code, rfl, lcode, wcode⟩ := fitsA_sl_int hx0
  exact ⟨0 + 12, e5 0 code (B8.wf wcode)⟩
theorem lift5 (os : Os) (started : os.Started) (H : Type) (enc : TypeId × Value → H) :
    ReturnsInHanded {} Tryd.checked os 5 .any (fun w args => (Rows.fnCatalogSpec.pre enc Tryd.prog Tryd.f5 [] false w args ∧ laidMetH Tryd.prog Rows.fnCatalogRow.laid w) ∧ sizedMet enc Tryd.prog Tryd.f5 (OpenSpec.ofChange Rows.fnCatalogSpec) false w args) (Rows.fnCatalogSpec.post enc Tryd.prog Tryd.f5 false true false false) :=
  liftedL (C := Tryd.checked) (X := fun w _ => laidMetH Tryd.prog Rows.fnCatalogRow.laid w) (shs := [.sl (.int .u8)]) (fun _ _ _ hh h => h.of_heap hh) own5 started (by kernel_rfl) Tryd.func5 laid5 rfl Tryd.underlying4 rfl
    (fun ds h => by
      match ds, h with
      | [_], _ => rfl) (by kernel_rfl) (by kernel_rfl) EOK EB EP EH rfl law5
    (ChangeSpec.witness_shaped (enc := enc) (C := Tryd.checked) (os := os) (X := fun w _ => laidMetH Tryd.prog Rows.fnCatalogRow.laid w) false (World.laidAll Tryd.prog os Rows.fnCatalogRow.laid) #[.slice none 0 0] 8 (World.laidAll_os _ _ _)
      (World.shaped_of_ZipB (by kernel_rfl) (by kernel_rfl)) (by kernel_rfl) (by kernel_rfl) (by kernel_rfl)
      (by rw [MakeChecks.laidMetH_plain _ _ _ (by kernel_rfl)]; exact laidMet_laidAll _ (by kernel_rfl) (by kernel_rfl)))
theorem over5 : Rows.fnCatalogRow.holds Tryd.pinned (OpenSpec.ofChange Rows.fnCatalogSpec) :=
  OpenClaim.holds_of_wide 5 Tryd.f5 rfl rfl rfl rfl rfl rfl rfl ⟨rfl, rfl, rfl, rfl, rfl⟩ rfl rfl rfl rfl rfl (by kernel_rfl) Tryd.func5 (by kernel_rfl)
    (of_decide_eq_true (by kernel_rfl)) (by unfold Func.isWrapper; first | (rw [if_pos (by decide +kernel)]; kernel_rfl) | (rw [if_neg (by decide +kernel)]; exact ⟨rfl, rfl⟩))
    (fun os started H enc _ => lift5 os started H enc)
theorem card5 : Rows.FnCatalogCardSaid :=
  Claim7.holds_tied_plain_at .later [] [.data, .pinned] true (true, "92f80726cdd8e5e179373c1cd207ab0499bac7502a1e6a98fb0b79ab046ebc36") false over5 (fun _ h => by cases h) (by kernel_rfl) (fun _ h => by cases h) fnCatalog_row_tie rfl ⟨rfl, rfl⟩ (by kernel_rfl) rfl
    (fun f fn hf hfn => by
      obtain rfl : f = 5 := Option.some.inj ((show Tryd.prog.funcNamed "loop.example/g00088/laws.FnCatalog" = some 5 by kernel_rfl).symm.trans hf) |>.symm
      obtain rfl : fn = Tryd.f5 := (Option.some.inj (Tryd.func5.symm.trans hfn)).symm
      exact ⟨by kernel_rfl, fun j t ht => by
        rw [Tryd.params5] at ht
        have hm : t ∈ [22] := by simpa using Array.mem_of_getElem? ht
        have hall : ([22].all fun u => !Tryd.prog.wantsStandIn u) = true := by kernel_rfl
        exact (show Tryd.prog.wantsStandIn t = false by simpa using List.all_eq_true.1 hall t hm)⟩)
    (by kernel_rfl)
end Go.Proofs.YtgdldmfkgijkaaaDoor.VH.S
namespace Go.Proofs.YtgdldmfkgijkaaaDoor
/-- The law FnCatalog: for every input it returns true, and each argument reads as before; what is listed of package variables is tied to the text. -/
theorem fnCatalog_holds : Rows.FnCatalogCardSaid := Go.Proofs.YtgdldmfkgijkaaaDoor.VH.S.card5
end Go.Proofs.YtgdldmfkgijkaaaDoor
end

