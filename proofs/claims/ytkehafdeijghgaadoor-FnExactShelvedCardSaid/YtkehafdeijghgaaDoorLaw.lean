/- Part of a proof about the given program: a verified evaluator, and what it tells of the functions (VhLFnExactShelved). Conditions: none beyond the hypotheses that each theorem states. -/
import Derived.Test.YtkehafdeijghgaaDoorG7
import Derived.Test.YtkehafdeijghgaaDoorG5
import Derived.Test.YtkehafdeijghgaaDoorG3
import Derived.Test.YtkehafdeijghgaaDoorG2
import Derived.Test.YtkehafdeijghgaaDoorCards
import Derived.Test.YtkehafdeijghgaaDoorTie
import Derived.SevenTiedAt
import Derived.Lay
import Derived.LaidOnce
import Derived.Handed
import Derived.JoinedOf
set_option linter.unusedSimpArgs false
set_option linter.unusedVariables false
section
namespace Go.Proofs.YtkehafdeijghgaaDoor.VH.S
open Go.Proofs Go.Proofs.YtkehafdeijghgaaDoor
set_option maxRecDepth 100000
theorem own4 : ownKnob Tryd.prog.godebug = none := by kernel_rfl
theorem laid4 : laidOutB Tryd.prog = true := by kernel_rfl
theorem law4 (xs : List AV) (h : FitsAll [.sl (.st (.pair (.str) (.pair (.sl (.st (.pair (.int .i64) (.pair (.sl (.int .u8)) .unit)))) (.pair (.sl (.st (.pair (.int .i64) (.pair (.sl (.int .u8)) .unit)))) .unit)))), .str, .int .i64] xs) : ∃ d, evFun E d 4 xs [] = some (.val (.bool true), []) := by
  obtain ⟨x0, y0, rfl, hx0, hy0⟩ := fitsAll_cons h
  obtain ⟨x1, y1, rfl, hx1, hy1⟩ := fitsAll_cons hy0
  obtain ⟨x2, y2, rfl, hx2, hy2⟩ := fitsAll_cons hy1
  obtain rfl := fitsAll_nil hy2
  obtain ⟨a, la, fa, rfl⟩ := fitsA_sl hx0
  obtain ⟨b, rfl, wb⟩ := fitsA_str hx1
  obtain ⟨v, rfl, wv⟩ := fitsA_int hx2
  obtain ⟨L, h1, h2, h3⟩ := ftItemL fa
  obtain ⟨l, rfl⟩ : ∃ l, b = sB l := ⟨_, sB_of b⟩
  refine ⟨0 + 19, ?_⟩
  rw [h2, ← h1]
  exact e4 0 L l v (by rw [h1]; exact la) h3
theorem lift4 (os : Os) (started : os.Started) (H : Type) (enc : TypeId × Value → H) :
    ReturnsInHanded {} Tryd.checked os 4 .any (fun w args => (Rows.fnExactShelvedSpec.pre enc Tryd.prog Tryd.f4 [] false w args ∧ laidMetH Tryd.prog Rows.fnExactShelvedRow.laid w) ∧ sizedMet enc Tryd.prog Tryd.f4 (OpenSpec.ofChange Rows.fnExactShelvedSpec) false w args) (Rows.fnExactShelvedSpec.post enc Tryd.prog Tryd.f4 false true false false) :=
  liftedL (C := Tryd.checked) (X := fun w _ => laidMetH Tryd.prog Rows.fnExactShelvedRow.laid w) (shs := [.sl (.st (.pair (.str) (.pair (.sl (.st (.pair (.int .i64) (.pair (.sl (.int .u8)) .unit)))) (.pair (.sl (.st (.pair (.int .i64) (.pair (.sl (.int .u8)) .unit)))) .unit)))), .str, .int .i64]) (fun _ _ _ hh h => h.of_heap hh) own4 started (by kernel_rfl) Tryd.func4 laid4 rfl Tryd.underlying4 rfl
    (fun ds h => by
      match ds, h with
      | [_, _, _], _ => rfl) (by kernel_rfl) (by kernel_rfl) EOK EB EP EH rfl law4
    (ChangeSpec.witness_shaped (enc := enc) (C := Tryd.checked) (os := os) (X := fun w _ => laidMetH Tryd.prog Rows.fnExactShelvedRow.laid w) false (World.laidAll Tryd.prog os Rows.fnExactShelvedRow.laid) #[.slice none 0 0, .string ByteArray.empty, .int .i64 0] 8 (World.laidAll_os _ _ _)
      (World.shaped_of_ZipB (by kernel_rfl) (by kernel_rfl)) (by kernel_rfl) (by kernel_rfl) (by kernel_rfl)
      (by rw [MakeChecks.laidMetH_plain _ _ _ (by kernel_rfl)]; exact laidMet_laidAll _ (by kernel_rfl) (by kernel_rfl)))
theorem over4 : Rows.fnExactShelvedRow.holds Tryd.pinned (OpenSpec.ofChange Rows.fnExactShelvedSpec) :=
  OpenClaim.holds_of_wide 4 Tryd.f4 rfl rfl rfl rfl rfl rfl rfl ⟨rfl, rfl, rfl, rfl, rfl⟩ rfl rfl rfl rfl rfl (by kernel_rfl) Tryd.func4 (by kernel_rfl)
    (of_decide_eq_true (by kernel_rfl)) (by unfold Func.isWrapper; first | (rw [if_pos (by decide +kernel)]; kernel_rfl) | (rw [if_neg (by decide +kernel)]; exact ⟨rfl, rfl⟩))
    (fun os started H enc _ => lift4 os started H enc)
theorem card4 : Rows.FnExactShelvedCardSaid :=
  Claim7.holds_tied_plain_at .later [] [.data, .pinned] true (true, "38f1c2cba9089a641ce69628cbad1ff505ffb3e120d5e4e1ec4b21cfd26ed933") false over4 (fun _ h => by cases h) (by kernel_rfl) (fun _ h => by cases h) fnExactShelved_row_tie rfl ⟨rfl, rfl⟩ (by kernel_rfl) rfl
    (fun f fn hf hfn => by
      obtain rfl : f = 4 := Option.some.inj ((show Tryd.prog.funcNamed "loop.example/g00088/laws.FnExactShelved" = some 4 by kernel_rfl).symm.trans hf) |>.symm
      obtain rfl : fn = Tryd.f4 := (Option.some.inj (Tryd.func4.symm.trans hfn)).symm
      exact ⟨by kernel_rfl, fun j t ht => by
        rw [Tryd.params4] at ht
        have hm : t ∈ [22, 9, 3] := by simpa using Array.mem_of_getElem? ht
        have hall : ([22, 9, 3].all fun u => !Tryd.prog.wantsStandIn u) = true := by kernel_rfl
        exact (show Tryd.prog.wantsStandIn t = false by simpa using List.all_eq_true.1 hall t hm)⟩)
    (by kernel_rfl)
end Go.Proofs.YtkehafdeijghgaaDoor.VH.S
namespace Go.Proofs.YtkehafdeijghgaaDoor
/-- The law FnExactShelved: for every input it returns true, and each argument reads as before; what is listed of package variables is tied to the text. -/
theorem fnExactShelved_holds : Rows.FnExactShelvedCardSaid := Go.Proofs.YtkehafdeijghgaaDoor.VH.S.card4
end Go.Proofs.YtkehafdeijghgaaDoor
end

