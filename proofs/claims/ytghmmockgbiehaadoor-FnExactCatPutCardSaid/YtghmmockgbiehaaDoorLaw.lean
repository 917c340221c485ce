/- Part of a proof about the given program: a verified evaluator, and what it tells of the functions (VhLFnExactCatPut). Conditions: none beyond the hypotheses that each theorem states. -/
import Derived.Test.YtghmmockgbiehaaDoorG5
import Derived.Test.YtghmmockgbiehaaDoorG3
import Derived.Test.YtghmmockgbiehaaDoorG2
import Derived.Test.YtghmmockgbiehaaDoorCards
import Derived.Test.YtghmmockgbiehaaDoorTie
import Derived.SevenTiedAt
import Derived.Lay
import Derived.LaidOnce
import Derived.Handed
import Derived.JoinedOf
set_option linter.unusedSimpArgs false
set_option linter.unusedVariables false
set_option linter.defProp false
section
namespace Go.Proofs.YtghmmockgbiehaaDoor.VH.S
open Go.Proofs Go.Proofs.YtghmmockgbiehaaDoor
set_option maxRecDepth 100000
theorem own4 : ownKnob Tryd.prog.godebug = none := by kernel_rfl
theorem laid4 : laidOutB Tryd.prog = true := by kernel_rfl
theorem law4 (xs : List AV) (h : FitsAll [.sl (.st (.pair (.str) (.pair (.int .i64) (.pair (.int .i64) (.pair (.int .i64) .unit))))), .st (.pair (.str) (.pair (.int .i64) (.pair (.int .i64) (.pair (.int .i64) .unit))))] xs) : ∃ d, evFun E d 4 xs [] = some (.val (.bool true), []) := by
  obtain ⟨x0, y0, rfl, hx0, hy0⟩ := fitsAll_cons h
  obtain ⟨x1, y1, rfl, hx1, hy1⟩ := fitsAll_cons hy0
  obtain rfl := fitsAll_nil hy1
  obtain ⟨a, la, fa, rfl⟩ := fitsA_sl hx0
  obtain ⟨cs1, rfl, q1_0⟩ := fits_st hx1
  obtain ⟨_, _, rfl, g1_0, q1_1⟩ := fits_pair q1_0
  obtain ⟨nm, rfl, wnm⟩ := fits_str g1_0
  obtain ⟨_, _, rfl, g1_1, q1_2⟩ := fits_pair q1_1
  obtain ⟨v, rfl, wv⟩ := fits_int g1_1
  obtain ⟨_, _, rfl, g1_2, q1_3⟩ := fits_pair q1_2
  obtain ⟨s, rfl, ws⟩ := fits_int g1_2
  obtain ⟨_, _, rfl, g1_3, q1_4⟩ := fits_pair q1_3
  obtain ⟨r, rfl, wr⟩ := fits_int g1_3
  obtain rfl := fits_unit q1_4
  obtain ⟨L, h1, h2, h3⟩ := fits_ents fa
  obtain ⟨l, rfl⟩ : ∃ l, nm = sB l := ⟨_, sB_of nm⟩
  refine ⟨0 + 8, ?_⟩
  rw [h2, ← h1]
  exact e4 0 L ⟨l, v, s, r⟩ (by rw [h1]; exact la) (names_of h3) (by rw [← sB_size]; exact wnm)
theorem lift4 (os : Os) (started : os.Started) (H : Type) (enc : TypeId × Value → H) :
    ReturnsInHanded {} Tryd.checked os 4 .any (fun w args => (Rows.fnExactCatPutSpec.pre enc Tryd.prog Tryd.f4 [] false w args ∧ laidMetH Tryd.prog Rows.fnExactCatPutRow.laid w) ∧ sizedMet enc Tryd.prog Tryd.f4 (OpenSpec.ofChange Rows.fnExactCatPutSpec) false w args) (Rows.fnExactCatPutSpec.post enc Tryd.prog Tryd.f4 false true false false) :=
  liftedL (C := Tryd.checked) (X := fun w _ => laidMetH Tryd.prog Rows.fnExactCatPutRow.laid w) (shs := [.sl (.st (.pair (.str) (.pair (.int .i64) (.pair (.int .i64) (.pair (.int .i64) .unit))))), .st (.pair (.str) (.pair (.int .i64) (.pair (.int .i64) (.pair (.int .i64) .unit))))]) (fun _ _ _ hh h => h.of_heap hh) own4 started (by kernel_rfl) Tryd.func4 laid4 rfl Tryd.underlying4 rfl
    (fun ds h => by
      match ds, h with
      | [_, _], _ => rfl) (by kernel_rfl) (by kernel_rfl) EOK EB EP EH rfl law4
    (ChangeSpec.witness_shaped (enc := enc) (C := Tryd.checked) (os := os) (X := fun w _ => laidMetH Tryd.prog Rows.fnExactCatPutRow.laid w) false (World.laidAll Tryd.prog os Rows.fnExactCatPutRow.laid) #[.slice none 0 0, .agg #[.string ByteArray.empty, .int .i64 0, .int .i64 0, .int .i64 0]] 8 (World.laidAll_os _ _ _)
      (World.shaped_of_ZipB (by kernel_rfl) (by kernel_rfl)) (by kernel_rfl) (by kernel_rfl) (by kernel_rfl)
      (by rw [MakeChecks.laidMetH_plain _ _ _ (by kernel_rfl)]; exact laidMet_laidAll _ (by kernel_rfl) (by kernel_rfl)))
theorem over4 : Rows.fnExactCatPutRow.holds Tryd.pinned (OpenSpec.ofChange Rows.fnExactCatPutSpec) :=
  OpenClaim.holds_of_wide 4 Tryd.f4 rfl rfl rfl rfl rfl rfl rfl ⟨rfl, rfl, rfl, rfl, rfl⟩ rfl rfl rfl rfl rfl (by kernel_rfl) Tryd.func4 (by kernel_rfl)
    (of_decide_eq_true (by kernel_rfl)) (by unfold Func.isWrapper; first | (rw [if_pos (by decide +kernel)]; kernel_rfl) | (rw [if_neg (by decide +kernel)]; exact ⟨rfl, rfl⟩))
    (fun os started H enc _ => lift4 os started H enc)
theorem card4 : Rows.FnExactCatPutCardSaid :=
  Claim7.holds_tied_plain_at .later [] [.data, .pinned] true (true, "d51cf6614b846ccce6eb4239a8234d2b439d5e37a9ae33855e4b5bd4d20c9bf0") false over4 (fun _ h => by cases h) (by kernel_rfl) (fun _ h => by cases h) fnExactCatPut_row_tie rfl ⟨rfl, rfl⟩ (by kernel_rfl) rfl
    (fun f fn hf hfn => by
      obtain rfl : f = 4 := Option.some.inj ((show Tryd.prog.funcNamed "loop.example/g00088/laws.FnExactCatPut" = some 4 by kernel_rfl).symm.trans hf) |>.symm
      obtain rfl : fn = Tryd.f4 := (Option.some.inj (Tryd.func4.symm.trans hfn)).symm
      exact ⟨by kernel_rfl, fun j t ht => by
        rw [Tryd.params4] at ht
        have hm : t ∈ [33, 35] := by simpa using Array.mem_of_getElem? ht
        have hall : ([33, 35].all fun u => !Tryd.prog.wantsStandIn u) = true := by kernel_rfl
        exact (show Tryd.prog.wantsStandIn t = false by simpa using List.all_eq_true.1 hall t hm)⟩)
    (by kernel_rfl)
end Go.Proofs.YtghmmockgbiehaaDoor.VH.S
namespace Go.Proofs.YtghmmockgbiehaaDoor
/-- The law FnExactCatPut: for every input it returns true, and each argument reads as before; what is listed of package variables is tied to the text. -/
theorem fnExactCatPut_holds : Rows.FnExactCatPutCardSaid := Go.Proofs.YtghmmockgbiehaaDoor.VH.S.card4
end Go.Proofs.YtghmmockgbiehaaDoor
end

