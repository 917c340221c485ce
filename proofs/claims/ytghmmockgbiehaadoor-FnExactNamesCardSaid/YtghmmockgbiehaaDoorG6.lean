/- Part of a proof about the given program: a verified evaluator, and what it tells of the functions (VhGFSi, VhGFTq, VhGFSj, VhGFSk, VhGFMs, VhGFDm, VhGFDn, VhGFNm). Conditions: none beyond the hypotheses that each theorem states. -/
import Derived.Test.YtghmmockgbiehaaDoorG5
import Derived.Test.YtghmmockgbiehaaDoorG3
set_option linter.unusedSimpArgs false
set_option linter.unusedVariables false
set_option linter.defProp false
section
namespace Go.Proofs.YtghmmockgbiehaaDoor.VH.S
open Go.Proofs
set_option maxRecDepth 100000
set_option maxHeartbeats 8000000
set_option linter.unusedSimpArgs false

/- Items of a shelf. -/
def vAt (L : List XPiece) : Int := (pAt L 0).v
def itOK (x : XItem) : Bool := (x.nm == [] || nameOK x.nm) && pcsOK x.h && pcsOK x.s && decide (x.h.length + x.s.length ≠ 0) && (decide (x.h.length = 0) || decide (x.s.length = 0) || decide (vAt x.s > vAt x.h))
def OkI (x : XItem) : Prop := x.nm.length ≤ 1048576 ∧ OkPs x.h ∧ OkPs x.s
theorem g_first (L : List XPiece) (h : L.length ≠ 0) : g1 (flat oPiece L) 0 = some (vi (vAt L)) := by
  have := (oP_g L (show 0 < L.length by omega)).1
  simpa [vAt] using this
theorem e44 (d : Nat) (x : XItem) (hx : OkI x) : evFun E (d+16) 44 [.agg (bItem x)] [] = some (vb (itOK x), []) := by
  refine evFun_body b44 ?_
  obtain ⟨h0, h1, h2⟩ := hx
  have l1 := h1.1
  have l2 := h2.1
  cases k1 : (x.nm == [] || nameOK x.nm) with
  | false =>
    have hr : itOK x = false := by simp only [itOK, k1, Bool.false_and]
    (have fz := ga2 k1 hr; repeat' (first | simp (maxDischargeDepth := 8) only [go_sem, rr, reduceIte, reduceCtorEq, Nat.reduceEqDiff, Nat.reduceAdd, Nat.reduceMul, Nat.reduceSub, Nat.reduceBEq, Nat.reduceLeDiff, Int.reduceEq, Int.reduceLT, Int.reduceLE, Int.reduceGE, Int.reduceGT, Int.reduceBEq, Int.reduceBNe, Int.reduceToNat, Int.reduceNeg, Int.reduceSub, Int.reduceAdd, Int.reduceMul, fz, Tryd.f44] | (with_reducible refine qg5 ?_ ?_; focus (first | (simp (maxDischargeDepth := 8) only [bb, kk, fz]; done) | kernel_rfl)) | ((with_reducible first | refine qf3 ?_ ?_ | refine qf4 ?_ ?_ | refine qf5 ?_ ?_ | refine qf6 ?_ ?_ | refine qf7 ?_ ?_ | refine qf8 ?_ ?_ | refine qf9 ?_ ?_); focus (first | assumption | omega | (simp only [bz, fz]; omega))) | ((with_reducible first | refine qg ?_ ?_ | refine qg0 ?_ ?_ | refine qg1 ?_ ?_); focus (first | assumption | omega | (simp only [bz, fz]; omega))) | ((with_reducible first | refine g1_u8w ?_ ?_ | refine qg3 ?_ ?_); (focus ((repeat' (with_reducible apply And.intro)) <;> (first | assumption | omega | (simp only [bz, fz]; omega) | (simp (maxDischargeDepth := 8) only [bb, fz]; done)))); intro _) | (with_reducible apply call_elim; focus ((with_reducible first | apply e59) <;> (first | assumption | omega | (simp only [bz, fz]; omega) | (simp (maxDischargeDepth := 8) only [bb, fz]; done))))))
  | true =>
    cases k2 : pcsOK x.h with
    | false =>
      have hr : itOK x = false := by simp only [itOK, k2, Bool.and_false, Bool.false_and]
      (have fz := ga3 k1 k2 hr; repeat' (first | simp (maxDischargeDepth := 8) only [go_sem, rr, reduceIte, reduceCtorEq, Nat.reduceEqDiff, Nat.reduceAdd, Nat.reduceMul, Nat.reduceSub, Nat.reduceBEq, Nat.reduceLeDiff, Int.reduceEq, Int.reduceLT, Int.reduceLE, Int.reduceGE, Int.reduceGT, Int.reduceBEq, Int.reduceBNe, Int.reduceToNat, Int.reduceNeg, Int.reduceSub, Int.reduceAdd, Int.reduceMul, fz, Tryd.f44] | (with_reducible refine qg5 ?_ ?_; focus (first | (simp (maxDischargeDepth := 8) only [bb, kk, fz]; done) | kernel_rfl)) | ((with_reducible first | refine qf3 ?_ ?_ | refine qf4 ?_ ?_ | refine qf5 ?_ ?_ | refine qf6 ?_ ?_ | refine qf7 ?_ ?_ | refine qf8 ?_ ?_ | refine qf9 ?_ ?_); focus (first | assumption | omega | (simp only [bz, fz]; omega))) | ((with_reducible first | refine qg ?_ ?_ | refine qg0 ?_ ?_ | refine qg1 ?_ ?_); focus (first | assumption | omega | (simp only [bz, fz]; omega))) | ((with_reducible first | refine g1_u8w ?_ ?_ | refine qg3 ?_ ?_); (focus ((repeat' (with_reducible apply And.intro)) <;> (first | assumption | omega | (simp only [bz, fz]; omega) | (simp (maxDischargeDepth := 8) only [bb, fz]; done)))); intro _) | (with_reducible apply call_elim; focus ((with_reducible first | apply e59 | apply e60) <;> (first | assumption | omega | (simp only [bz, fz]; omega) | (simp (maxDischargeDepth := 8) only [bb, fz]; done))))))
    | true =>
      cases k3 : pcsOK x.s with
      | false =>
        have hr : itOK x = false := by simp only [itOK, k3, Bool.and_false, Bool.false_and]
        (have fz := ga4 k1 k2 k3 hr; repeat' (first | simp (maxDischargeDepth := 8) only [go_sem, rr, reduceIte, reduceCtorEq, Nat.reduceEqDiff, Nat.reduceAdd, Nat.reduceMul, Nat.reduceSub, Nat.reduceBEq, Nat.reduceLeDiff, Int.reduceEq, Int.reduceLT, Int.reduceLE, Int.reduceGE, Int.reduceGT, Int.reduceBEq, Int.reduceBNe, Int.reduceToNat, Int.reduceNeg, Int.reduceSub, Int.reduceAdd, Int.reduceMul, fz, Tryd.f44] | (with_reducible refine qg5 ?_ ?_; focus (first | (simp (maxDischargeDepth := 8) only [bb, kk, fz]; done) | kernel_rfl)) | ((with_reducible first | refine qf3 ?_ ?_ | refine qf4 ?_ ?_ | refine qf5 ?_ ?_ | refine qf6 ?_ ?_ | refine qf7 ?_ ?_ | refine qf8 ?_ ?_ | refine qf9 ?_ ?_); focus (first | assumption | omega | (simp only [bz, fz]; omega))) | ((with_reducible first | refine qg ?_ ?_ | refine qg0 ?_ ?_ | refine qg1 ?_ ?_); focus (first | assumption | omega | (simp only [bz, fz]; omega))) | ((with_reducible first | refine g1_u8w ?_ ?_ | refine qg3 ?_ ?_); (focus ((repeat' (with_reducible apply And.intro)) <;> (first | assumption | omega | (simp only [bz, fz]; omega) | (simp (maxDischargeDepth := 8) only [bb, fz]; done)))); intro _) | (with_reducible apply call_elim; focus ((with_reducible first | apply e59 | apply e60) <;> (first | assumption | omega | (simp only [bz, fz]; omega) | (simp (maxDischargeDepth := 8) only [bb, fz]; done))))))
      | true =>
        by_cases z1 : x.h.length = 0
        · by_cases z2 : x.s.length = 0
          · have hr : itOK x = false := by simp [itOK, z1, z2]
            (have fz := ga4 k1 k2 k3 hr; repeat' (first | simp (maxDischargeDepth := 8) only [go_sem, rr, reduceIte, reduceCtorEq, Nat.reduceEqDiff, Nat.reduceAdd, Nat.reduceMul, Nat.reduceSub, Nat.reduceBEq, Nat.reduceLeDiff, Int.reduceEq, Int.reduceLT, Int.reduceLE, Int.reduceGE, Int.reduceGT, Int.reduceBEq, Int.reduceBNe, Int.reduceToNat, Int.reduceNeg, Int.reduceSub, Int.reduceAdd, Int.reduceMul, fz, Tryd.f44] | (with_reducible refine qg5 ?_ ?_; focus (first | (simp (maxDischargeDepth := 8) only [bb, kk, fz]; done) | kernel_rfl)) | ((with_reducible first | refine qf3 ?_ ?_ | refine qf4 ?_ ?_ | refine qf5 ?_ ?_ | refine qf6 ?_ ?_ | refine qf7 ?_ ?_ | refine qf8 ?_ ?_ | refine qf9 ?_ ?_); focus (first | assumption | omega | (simp only [bz, fz]; omega))) | ((with_reducible first | refine qg ?_ ?_ | refine qg0 ?_ ?_ | refine qg1 ?_ ?_); focus (first | assumption | omega | (simp only [bz, fz]; omega))) | ((with_reducible first | refine g1_u8w ?_ ?_ | refine qg3 ?_ ?_); (focus ((repeat' (with_reducible apply And.intro)) <;> (first | assumption | omega | (simp only [bz, fz]; omega) | (simp (maxDischargeDepth := 8) only [bb, fz]; done)))); intro _) | (with_reducible apply call_elim; focus ((with_reducible first | apply e59 | apply e60) <;> (first | assumption | omega | (simp only [bz, fz]; omega) | (simp (maxDischargeDepth := 8) only [bb, fz]; done))))))
          · have hr : itOK x = true := by simp only [itOK, k1, k2, k3, z1, z2]; simp [z2]
            (have fz := ga4 k1 k2 k3 hr; repeat' (first | simp (maxDischargeDepth := 8) only [go_sem, rr, reduceIte, reduceCtorEq, Nat.reduceEqDiff, Nat.reduceAdd, Nat.reduceMul, Nat.reduceSub, Nat.reduceBEq, Nat.reduceLeDiff, Int.reduceEq, Int.reduceLT, Int.reduceLE, Int.reduceGE, Int.reduceGT, Int.reduceBEq, Int.reduceBNe, Int.reduceToNat, Int.reduceNeg, Int.reduceSub, Int.reduceAdd, Int.reduceMul, fz, Tryd.f44] | (with_reducible refine qg5 ?_ ?_; focus (first | (simp (maxDischargeDepth := 8) only [bb, kk, fz]; done) | kernel_rfl)) | ((with_reducible first | refine qf3 ?_ ?_ | refine qf4 ?_ ?_ | refine qf5 ?_ ?_ | refine qf6 ?_ ?_ | refine qf7 ?_ ?_ | refine qf8 ?_ ?_ | refine qf9 ?_ ?_); focus (first | assumption | omega | (simp only [bz, fz]; omega))) | ((with_reducible first | refine qg ?_ ?_ | refine qg0 ?_ ?_ | refine qg1 ?_ ?_); focus (first | assumption | omega | (simp only [bz, fz]; omega))) | ((with_reducible first | refine g1_u8w ?_ ?_ | refine qg3 ?_ ?_); (focus ((repeat' (with_reducible apply And.intro)) <;> (first | assumption | omega | (simp only [bz, fz]; omega) | (simp (maxDischargeDepth := 8) only [bb, fz]; done)))); intro _) | (with_reducible apply call_elim; focus ((with_reducible first | apply e59 | apply e60) <;> (first | assumption | omega | (simp only [bz, fz]; omega) | (simp (maxDischargeDepth := 8) only [bb, fz]; done))))))
        · by_cases z2 : x.s.length = 0
          · have hr : itOK x = true := by simp only [itOK, k1, k2, k3, z1, z2]; simp [z1]
            (have fz := ga4 k1 k2 k3 hr; repeat' (first | simp (maxDischargeDepth := 8) only [go_sem, rr, reduceIte, reduceCtorEq, Nat.reduceEqDiff, Nat.reduceAdd, Nat.reduceMul, Nat.reduceSub, Nat.reduceBEq, Nat.reduceLeDiff, Int.reduceEq, Int.reduceLT, Int.reduceLE, Int.reduceGE, Int.reduceGT, Int.reduceBEq, Int.reduceBNe, Int.reduceToNat, Int.reduceNeg, Int.reduceSub, Int.reduceAdd, Int.reduceMul, fz, Tryd.f44] | (with_reducible refine qg5 ?_ ?_; focus (first | (simp (maxDischargeDepth := 8) only [bb, kk, fz]; done) | kernel_rfl)) | ((with_reducible first | refine qf3 ?_ ?_ | refine qf4 ?_ ?_ | refine qf5 ?_ ?_ | refine qf6 ?_ ?_ | refine qf7 ?_ ?_ | refine qf8 ?_ ?_ | refine qf9 ?_ ?_); focus (first | assumption | omega | (simp only [bz, fz]; omega))) | ((with_reducible first | refine qg ?_ ?_ | refine qg0 ?_ ?_ | refine qg1 ?_ ?_); focus (first | assumption | omega | (simp only [bz, fz]; omega))) | ((with_reducible first | refine g1_u8w ?_ ?_ | refine qg3 ?_ ?_); (focus ((repeat' (with_reducible apply And.intro)) <;> (first | assumption | omega | (simp only [bz, fz]; omega) | (simp (maxDischargeDepth := 8) only [bb, fz]; done)))); intro _) | (with_reducible apply call_elim; focus ((with_reducible first | apply e59 | apply e60) <;> (first | assumption | omega | (simp only [bz, fz]; omega) | (simp (maxDischargeDepth := 8) only [bb, fz]; done))))))
          · have hr : itOK x = decide (vAt x.s > vAt x.h) := by
              have z3 : x.h.length + x.s.length ≠ 0 := by omega
              simp only [itOK, k1, k2, k3, decide_eq_true z3, decide_eq_false z1, decide_eq_false z2, Bool.true_and, Bool.and_self, Bool.false_or]
            have g1' := g_first x.h z1
            have g2 := g_first x.s z2
            (have fz := ga6 k1 k2 k3 hr g1' g2; repeat' (first | simp (maxDischargeDepth := 8) only [go_sem, rr, reduceIte, reduceCtorEq, Nat.reduceEqDiff, Nat.reduceAdd, Nat.reduceMul, Nat.reduceSub, Nat.reduceBEq, Nat.reduceLeDiff, Int.reduceEq, Int.reduceLT, Int.reduceLE, Int.reduceGE, Int.reduceGT, Int.reduceBEq, Int.reduceBNe, Int.reduceToNat, Int.reduceNeg, Int.reduceSub, Int.reduceAdd, Int.reduceMul, fz, Tryd.f44] | (with_reducible refine qg5 ?_ ?_; focus (first | (simp (maxDischargeDepth := 8) only [bb, kk, fz]; done) | kernel_rfl)) | ((with_reducible first | refine qf3 ?_ ?_ | refine qf4 ?_ ?_ | refine qf5 ?_ ?_ | refine qf6 ?_ ?_ | refine qf7 ?_ ?_ | refine qf8 ?_ ?_ | refine qf9 ?_ ?_); focus (first | assumption | omega | (simp only [bz, fz]; omega))) | ((with_reducible first | refine qg ?_ ?_ | refine qg0 ?_ ?_ | refine qg1 ?_ ?_); focus (first | assumption | omega | (simp only [bz, fz]; omega))) | ((with_reducible first | refine g1_u8w ?_ ?_ | refine qg3 ?_ ?_); (focus ((repeat' (with_reducible apply And.intro)) <;> (first | assumption | omega | (simp only [bz, fz]; omega) | (simp (maxDischargeDepth := 8) only [bb, fz]; done)))); intro _) | (with_reducible apply call_elim; focus ((with_reducible first | apply e59 | apply e60) <;> (first | assumption | omega | (simp only [bz, fz]; omega) | (simp (maxDischargeDepth := 8) only [bb, fz]; done))))))
def iAt (L : List XItem) (i : Nat) : XItem := L.getD i default
theorem oI_getR (L : List XItem) {i : Nat} (h : i < L.length) : getR (flat oItem L) (i * 3) 3 = some (oItem (iAt L i)) := by rw [iAt, getD_get h]; exact flt_getR oItem_len L h
theorem oI_g0 (L : List XItem) {i : Nat} (h : i < L.length) : g1 (flat oItem L) (i * 3) = some (vs (iAt L i).nm) := by
  have h0 := flt_get oItem_len L i h 0 (by decide)
  rw [iAt, getD_get h]
  simpa [g1] using h0
def OkIs (L : List XItem) : Prop := L.length ≤ 1048576 ∧ ∀ x, x ∈ L → OkI x
theorem OkIs.at {L : List XItem} (h : OkIs L) {i : Nat} (hi : i < L.length) : OkI (iAt L i) := by
  rw [iAt, getD_get hi]; exact h.2 _ (List.getElem_mem hi)
def siOK (L : List XItem) (i : Nat) : Bool := itOK (iAt L i) && (decide (i = 0) || ltB (iAt L (i - 1)).nm (iAt L i).nm)
def shOK (L : List XItem) : Bool := (List.range L.length).all (siOK L) && decide (L.length ≤ 12)
theorem shOK_no {L : List XItem} {i : Nat} (h : i < L.length) (hs : siOK L i = false) : shOK L = false := by
  have : (List.range L.length).all (siOK L) = false := List.all_eq_false.mpr ⟨i, List.mem_range.mpr h, by rw [hs]; simp⟩
  simp [shOK, this]
theorem shOK_all {L : List XItem} (h : ∀ i, i < L.length → siOK L i = true) : shOK L = decide (L.length ≤ 12) := by
  have : (List.range L.length).all (siOK L) = true := List.all_eq_true.mpr fun i hi => h i (List.mem_range.mp hi)
  simp [shOK, this]
theorem e26 (d : Nat) (L : List XItem) (c : Option Nat) (hL : OkIs L) : evFun E (d+17) 26 [.sl .snap 3 L.length c (flat oItem L)] [] = some (vb (shOK L), []) := by
  refine evFun_body b26 ?_
  have hl := hL.1
  have hq : decide ((L.length : Int) ≤ 12) = decide (L.length ≤ 12) := by rw [Bool.eq_iff_iff]; simp; omega
  (repeat' (first | simp (maxDischargeDepth := 8) only [go_sem, rr, reduceIte, reduceCtorEq, Nat.reduceEqDiff, Nat.reduceAdd, Nat.reduceMul, Nat.reduceSub, Nat.reduceBEq, Nat.reduceLeDiff, Int.reduceEq, Int.reduceLT, Int.reduceLE, Int.reduceGE, Int.reduceGT, Int.reduceBEq, Int.reduceBNe, Int.reduceToNat, Int.reduceNeg, Int.reduceSub, Int.reduceAdd, Int.reduceMul, Tryd.f26] | (with_reducible refine qg5 ?_ ?_; focus (first | (simp (maxDischargeDepth := 8) only [bb, kk]; done) | kernel_rfl)) | ((with_reducible first | refine qf3 ?_ ?_ | refine qf4 ?_ ?_ | refine qf5 ?_ ?_ | refine qf6 ?_ ?_ | refine qf7 ?_ ?_ | refine qf8 ?_ ?_ | refine qf9 ?_ ?_); focus (first | assumption | omega | (simp only [bz]; omega))) | ((with_reducible first | refine qg ?_ ?_ | refine qg0 ?_ ?_ | refine qg1 ?_ ?_); focus (first | assumption | omega | (simp only [bz]; omega))) | ((with_reducible first | refine g1_u8w ?_ ?_ | refine qg3 ?_ ?_); (focus ((repeat' (with_reducible apply And.intro)) <;> (first | assumption | omega | (simp only [bz]; omega) | (simp (maxDischargeDepth := 8) only [bb]; done)))); intro _)))
  refine loop_inv (fun i => ∀ j, j < i → siOK L j = true) (fun i => {T := tp [(0, .sl .snap 3 L.length c (flat oItem L)), (5, .sl .snap 3 L.length c (flat oItem L)), (6, vi L.length), (7, vi i)], H := hp [], nx := 0}) L.length ?_ (fun j h => by omega) (lt_LF (by omega)) (fun i hi hI Kn hK => ?_) (fun hI Kn => ?_)
  · simp only [vv, ff, norm, Array.toList, List.map, Option.isSome_none, bne_self_eq_false, reduceIte, reduceCtorEq, Nat.reduceEqDiff, Nat.reduceAdd, Nat.reduceMul, Nat.reduceSub, Nat.reduceBEq, Nat.reduceLeDiff, Int.reduceEq, Int.reduceLT, Int.reduceLE, Int.reduceGE, Int.reduceGT, Int.reduceBEq, Int.reduceBNe, Int.reduceToNat, Int.reduceNeg, Int.reduceSub, Int.reduceAdd, Int.reduceMul, finish, qe7, resOf, resa, qe8, qe9, qf, keep, qf0, qf1, qf2, qe5, qe6, Int.natCast_zero]
  · have hg := oI_getR L hi
    have h0 := oI_g0 L hi
    have hx := hL.at hi
    have next : siOK L i = true → ∀ j, j < i + 1 → siOK L j = true := fun h j hj => by
      by_cases e : j = i
      · subst e; exact h
      · exact hI j (by omega)
    cases h1 : itOK (iAt L i) with
    | false =>
      have hr := shOK_no hi (show siOK L i = false by simp [siOK, h1])
      (have fz := ga4 hg h0 h1 hr; repeat' (first | simp (maxDischargeDepth := 8) only [go_sem, rr, reduceIte, reduceCtorEq, Nat.reduceEqDiff, Nat.reduceAdd, Nat.reduceMul, Nat.reduceSub, Nat.reduceBEq, Nat.reduceLeDiff, Int.reduceEq, Int.reduceLT, Int.reduceLE, Int.reduceGE, Int.reduceGT, Int.reduceBEq, Int.reduceBNe, Int.reduceToNat, Int.reduceNeg, Int.reduceSub, Int.reduceAdd, Int.reduceMul, fz] | (with_reducible refine qg5 ?_ ?_; focus (first | (simp (maxDischargeDepth := 8) only [bb, kk, fz]; done) | kernel_rfl)) | ((with_reducible first | refine qf3 ?_ ?_ | refine qf4 ?_ ?_ | refine qf5 ?_ ?_ | refine qf6 ?_ ?_ | refine qf7 ?_ ?_ | refine qf8 ?_ ?_ | refine qf9 ?_ ?_); focus (first | assumption | omega | (simp only [bz, fz]; omega))) | ((with_reducible first | refine qg ?_ ?_ | refine qg0 ?_ ?_ | refine qg1 ?_ ?_); focus (first | assumption | omega | (simp only [bz, fz]; omega))) | ((with_reducible first | refine g1_u8w ?_ ?_ | refine qg3 ?_ ?_); (focus ((repeat' (with_reducible apply And.intro)) <;> (first | assumption | omega | (simp only [bz, fz]; omega) | (simp (maxDischargeDepth := 8) only [bb, fz]; done)))); intro _) | (with_reducible apply call_elim; focus ((with_reducible first | apply e44) <;> (first | assumption | omega | (simp only [bz, fz]; omega) | (simp (maxDischargeDepth := 8) only [bb, fz]; done))))))
    | true =>
      rcases Nat.eq_zero_or_pos i with hi0 | hi0
      · subst hi0
        (have fz := ga3 hg h0 h1; repeat' (first | simp (maxDischargeDepth := 8) only [go_sem, rr, reduceIte, reduceCtorEq, Nat.reduceEqDiff, Nat.reduceAdd, Nat.reduceMul, Nat.reduceSub, Nat.reduceBEq, Nat.reduceLeDiff, Int.reduceEq, Int.reduceLT, Int.reduceLE, Int.reduceGE, Int.reduceGT, Int.reduceBEq, Int.reduceBNe, Int.reduceToNat, Int.reduceNeg, Int.reduceSub, Int.reduceAdd, Int.reduceMul, fz] | (with_reducible refine qg5 ?_ ?_; focus (first | (simp (maxDischargeDepth := 8) only [bb, kk, fz]; done) | kernel_rfl)) | ((with_reducible first | refine qf3 ?_ ?_ | refine qf4 ?_ ?_ | refine qf5 ?_ ?_ | refine qf6 ?_ ?_ | refine qf7 ?_ ?_ | refine qf8 ?_ ?_ | refine qf9 ?_ ?_); focus (first | assumption | omega | (simp only [bz, fz]; omega))) | ((with_reducible first | refine qg ?_ ?_ | refine qg0 ?_ ?_ | refine qg1 ?_ ?_); focus (first | assumption | omega | (simp only [bz, fz]; omega))) | ((with_reducible first | refine g1_u8w ?_ ?_ | refine qg3 ?_ ?_); (focus ((repeat' (with_reducible apply And.intro)) <;> (first | assumption | omega | (simp only [bz, fz]; omega) | (simp (maxDischargeDepth := 8) only [bb, fz]; done)))); intro _) | (with_reducible apply call_elim; focus ((with_reducible first | apply e44) <;> (first | assumption | omega | (simp only [bz, fz]; omega) | (simp (maxDischargeDepth := 8) only [bb, fz]; done))))))
        refine hK (next (by simp [siOK, h1])) _ ?_
        simp only [vv, ff, norm, Array.toList, List.map, Option.isSome_none, bne_self_eq_false, reduceIte, reduceCtorEq, Nat.reduceEqDiff, Nat.reduceAdd, Nat.reduceMul, Nat.reduceSub, Nat.reduceBEq, Nat.reduceLeDiff, Int.reduceEq, Int.reduceLT, Int.reduceLE, Int.reduceGE, Int.reduceGT, Int.reduceBEq, Int.reduceBNe, Int.reduceToNat, Int.reduceNeg, Int.reduceSub, Int.reduceAdd, Int.reduceMul, finish, qe7, resOf, resa, qe8, qe9, qf, keep, qf0, qf1, qf2, qe5, qe6, Int.natCast_add, cst1]
      · have hp := oI_g0 L (show i - 1 < L.length by omega)
        cases h2 : ltB (iAt L (i - 1)).nm (iAt L i).nm with
        | false =>
          have hr := shOK_no hi (show siOK L i = false by simp [siOK, h2]; omega)
          (have fz := ga5 hg h0 h1 h2 hr; repeat' (first | simp (maxDischargeDepth := 8) only [go_sem, rr, reduceIte, reduceCtorEq, Nat.reduceEqDiff, Nat.reduceAdd, Nat.reduceMul, Nat.reduceSub, Nat.reduceBEq, Nat.reduceLeDiff, Int.reduceEq, Int.reduceLT, Int.reduceLE, Int.reduceGE, Int.reduceGT, Int.reduceBEq, Int.reduceBNe, Int.reduceToNat, Int.reduceNeg, Int.reduceSub, Int.reduceAdd, Int.reduceMul, fz, hp] | (with_reducible refine qg5 ?_ ?_; focus (first | (simp (maxDischargeDepth := 8) only [bb, kk, fz, hp]; done) | kernel_rfl)) | ((with_reducible first | refine qf3 ?_ ?_ | refine qf4 ?_ ?_ | refine qf5 ?_ ?_ | refine qf6 ?_ ?_ | refine qf7 ?_ ?_ | refine qf8 ?_ ?_ | refine qf9 ?_ ?_); focus (first | assumption | omega | (simp only [bz, fz, hp]; omega))) | ((with_reducible first | refine qg ?_ ?_ | refine qg0 ?_ ?_ | refine qg1 ?_ ?_); focus (first | assumption | omega | (simp only [bz, fz, hp]; omega))) | ((with_reducible first | refine g1_u8w ?_ ?_ | refine qg3 ?_ ?_); (focus ((repeat' (with_reducible apply And.intro)) <;> (first | assumption | omega | (simp only [bz, fz, hp]; omega) | (simp (maxDischargeDepth := 8) only [bb, fz, hp]; done)))); intro _) | (with_reducible apply call_elim; focus ((with_reducible first | apply e44) <;> (first | assumption | omega | (simp only [bz, fz, hp]; omega) | (simp (maxDischargeDepth := 8) only [bb, fz, hp]; done))))))
        | true =>
          (have fz := ga4 hg h0 h1 h2; repeat' (first | simp (maxDischargeDepth := 8) only [go_sem, rr, reduceIte, reduceCtorEq, Nat.reduceEqDiff, Nat.reduceAdd, Nat.reduceMul, Nat.reduceSub, Nat.reduceBEq, Nat.reduceLeDiff, Int.reduceEq, Int.reduceLT, Int.reduceLE, Int.reduceGE, Int.reduceGT, Int.reduceBEq, Int.reduceBNe, Int.reduceToNat, Int.reduceNeg, Int.reduceSub, Int.reduceAdd, Int.reduceMul, fz, hp] | (with_reducible refine qg5 ?_ ?_; focus (first | (simp (maxDischargeDepth := 8) only [bb, kk, fz, hp]; done) | kernel_rfl)) | ((with_reducible first | refine qf3 ?_ ?_ | refine qf4 ?_ ?_ | refine qf5 ?_ ?_ | refine qf6 ?_ ?_ | refine qf7 ?_ ?_ | refine qf8 ?_ ?_ | refine qf9 ?_ ?_); focus (first | assumption | omega | (simp only [bz, fz, hp]; omega))) | ((with_reducible first | refine qg ?_ ?_ | refine qg0 ?_ ?_ | refine qg1 ?_ ?_); focus (first | assumption | omega | (simp only [bz, fz, hp]; omega))) | ((with_reducible first | refine g1_u8w ?_ ?_ | refine qg3 ?_ ?_); (focus ((repeat' (with_reducible apply And.intro)) <;> (first | assumption | omega | (simp only [bz, fz, hp]; omega) | (simp (maxDischargeDepth := 8) only [bb, fz, hp]; done)))); intro _) | (with_reducible apply call_elim; focus ((with_reducible first | apply e44) <;> (first | assumption | omega | (simp only [bz, fz, hp]; omega) | (simp (maxDischargeDepth := 8) only [bb, fz, hp]; done))))))
          refine hK (next (by simp [siOK, h1, h2])) _ ?_
          simp only [vv, ff, norm, Array.toList, List.map, Option.isSome_none, bne_self_eq_false, reduceIte, reduceCtorEq, Nat.reduceEqDiff, Nat.reduceAdd, Nat.reduceMul, Nat.reduceSub, Nat.reduceBEq, Nat.reduceLeDiff, Int.reduceEq, Int.reduceLT, Int.reduceLE, Int.reduceGE, Int.reduceGT, Int.reduceBEq, Int.reduceBNe, Int.reduceToNat, Int.reduceNeg, Int.reduceSub, Int.reduceAdd, Int.reduceMul, finish, qe7, resOf, resa, qe8, qe9, qf, keep, qf0, qf1, qf2, qe5, qe6, Int.natCast_add, cst1]
  · have hr := shOK_all hI
    (have fz := ga2 hr hq; repeat' (first | simp (maxDischargeDepth := 8) only [go_sem, rr, reduceIte, reduceCtorEq, Nat.reduceEqDiff, Nat.reduceAdd, Nat.reduceMul, Nat.reduceSub, Nat.reduceBEq, Nat.reduceLeDiff, Int.reduceEq, Int.reduceLT, Int.reduceLE, Int.reduceGE, Int.reduceGT, Int.reduceBEq, Int.reduceBNe, Int.reduceToNat, Int.reduceNeg, Int.reduceSub, Int.reduceAdd, Int.reduceMul, fz] | (with_reducible refine qg5 ?_ ?_; focus (first | (simp (maxDischargeDepth := 8) only [bb, kk, fz]; done) | kernel_rfl)) | ((with_reducible first | refine qf3 ?_ ?_ | refine qf4 ?_ ?_ | refine qf5 ?_ ?_ | refine qf6 ?_ ?_ | refine qf7 ?_ ?_ | refine qf8 ?_ ?_ | refine qf9 ?_ ?_); focus (first | assumption | omega | (simp only [bz, fz]; omega))) | ((with_reducible first | refine qg ?_ ?_ | refine qg0 ?_ ?_ | refine qg1 ?_ ?_); focus (first | assumption | omega | (simp only [bz, fz]; omega))) | ((with_reducible first | refine g1_u8w ?_ ?_ | refine qg3 ?_ ?_); (focus ((repeat' (with_reducible apply And.intro)) <;> (first | assumption | omega | (simp only [bz, fz]; omega) | (simp (maxDischargeDepth := 8) only [bb, fz]; done)))); intro _)))
theorem pcs1 {L : List XPiece} (h : pcsOK L = true) : L.length ≤ 1 := by
  simp only [pcsOK, Bool.and_eq_true, decide_eq_true_eq] at h; exact h.1
theorem e24 (d : Nat) (L : List XItem) (c : Option Nat) (hL : OkIs L) : evFun E (d+12) 24 [.sl .snap 3 L.length c (flat oItem L)] [] = some (vb (shOK L), []) := by
  refine evFun_body b24 ?_
  have hl := hL.1
  have hq : decide ((L.length : Int) ≤ 12) = decide (L.length ≤ 12) := by rw [Bool.eq_iff_iff]; simp; omega
  (repeat' (first | simp (maxDischargeDepth := 8) only [go_sem, rr, reduceIte, reduceCtorEq, Nat.reduceEqDiff, Nat.reduceAdd, Nat.reduceMul, Nat.reduceSub, Nat.reduceBEq, Nat.reduceLeDiff, Int.reduceEq, Int.reduceLT, Int.reduceLE, Int.reduceGE, Int.reduceGT, Int.reduceBEq, Int.reduceBNe, Int.reduceToNat, Int.reduceNeg, Int.reduceSub, Int.reduceAdd, Int.reduceMul, Tryd.f24] | (with_reducible refine qg5 ?_ ?_; focus (first | (simp (maxDischargeDepth := 8) only [bb, kk]; done) | kernel_rfl)) | ((with_reducible first | refine qf3 ?_ ?_ | refine qf4 ?_ ?_ | refine qf5 ?_ ?_ | refine qf6 ?_ ?_ | refine qf7 ?_ ?_ | refine qf8 ?_ ?_ | refine qf9 ?_ ?_); focus (first | assumption | omega | (simp only [bz]; omega))) | ((with_reducible first | refine qg ?_ ?_ | refine qg0 ?_ ?_ | refine qg1 ?_ ?_); focus (first | assumption | omega | (simp only [bz]; omega))) | ((with_reducible first | refine g1_u8w ?_ ?_ | refine qg3 ?_ ?_); (focus ((repeat' (with_reducible apply And.intro)) <;> (first | assumption | omega | (simp only [bz]; omega) | (simp (maxDischargeDepth := 8) only [bb]; done)))); intro _)))
  refine loop_inv (fun i => ∀ j, j < i → siOK L j = true) (fun i => {T := tp [(0, .sl .snap 3 L.length c (flat oItem L)), (3, vi i)], H := hp [], nx := 0}) L.length ?_ (fun j h => by omega) (lt_LF (by omega)) (fun i hi hI Kn hK => ?_) (fun hI Kn => ?_)
  · simp only [vv, ff, norm, Array.toList, List.map, Option.isSome_none, bne_self_eq_false, reduceIte, reduceCtorEq, Nat.reduceEqDiff, Nat.reduceAdd, Nat.reduceMul, Nat.reduceSub, Nat.reduceBEq, Nat.reduceLeDiff, Int.reduceEq, Int.reduceLT, Int.reduceLE, Int.reduceGE, Int.reduceGT, Int.reduceBEq, Int.reduceBNe, Int.reduceToNat, Int.reduceNeg, Int.reduceSub, Int.reduceAdd, Int.reduceMul, finish, qe7, resOf, resa, qe8, qe9, qf, keep, qf0, qf1, qf2, qe5, qe6, Int.natCast_zero]
  · have hg := oI_getR L hi
    obtain ⟨n0, n1, n2⟩ := hL.at hi
    have next : siOK L i = true → ∀ j, j < i + 1 → siOK L j = true := fun h j hj => by
      by_cases e : j = i
      · subst e; exact h
      · exact hI j (by omega)
    have hr0 : siOK L i = false → shOK L = false := shOK_no hi
    have hso : siOK L i = (itOK (iAt L i) && (decide (i = 0) || ltB (iAt L (i - 1)).nm (iAt L i).nm)) := rfl
    have hprev : i ≠ 0 → g1 (flat oItem L) ((i - 1) * 3) = some (vs (iAt L (i - 1)).nm) := fun _ => oI_g0 L (show i - 1 < L.length by omega)
    generalize (iAt L (i - 1)).nm = pn at *
    generalize iAt L i = x at *
    have l1 := n1.1
    have l2 := n2.1
    cases kb : (x.nm == []) with
    | false =>
      cases k1 : nameOK x.nm with
      | false =>
        have hr := hr0 (by rw [hso]; simp only [itOK, kb, k1, Bool.false_or, Bool.false_and])
        (have fz := ga4 hg kb k1 hr; repeat' (first | simp (maxDischargeDepth := 8) only [go_sem, rr, reduceIte, reduceCtorEq, Nat.reduceEqDiff, Nat.reduceAdd, Nat.reduceMul, Nat.reduceSub, Nat.reduceBEq, Nat.reduceLeDiff, Int.reduceEq, Int.reduceLT, Int.reduceLE, Int.reduceGE, Int.reduceGT, Int.reduceBEq, Int.reduceBNe, Int.reduceToNat, Int.reduceNeg, Int.reduceSub, Int.reduceAdd, Int.reduceMul, fz] | (with_reducible refine qg5 ?_ ?_; focus (first | (simp (maxDischargeDepth := 8) only [bb, kk, fz]; done) | kernel_rfl)) | ((with_reducible first | refine qf3 ?_ ?_ | refine qf4 ?_ ?_ | refine qf5 ?_ ?_ | refine qf6 ?_ ?_ | refine qf7 ?_ ?_ | refine qf8 ?_ ?_ | refine qf9 ?_ ?_); focus (first | assumption | omega | (simp only [bz, fz]; omega))) | ((with_reducible first | refine qg ?_ ?_ | refine qg0 ?_ ?_ | refine qg1 ?_ ?_); focus (first | assumption | omega | (simp only [bz, fz]; omega))) | ((with_reducible first | refine g1_u8w ?_ ?_ | refine qg3 ?_ ?_); (focus ((repeat' (with_reducible apply And.intro)) <;> (first | assumption | omega | (simp only [bz, fz]; omega) | (simp (maxDischargeDepth := 8) only [bb, fz]; done)))); intro _) | (with_reducible apply call_elim; focus ((with_reducible first | apply e41) <;> (first | assumption | omega | (simp only [bz, fz]; omega) | (simp (maxDischargeDepth := 8) only [bb, fz]; done))))))
      | true =>
        have hkey : (x.nm == [] || nameOK x.nm) = true := by rw [kb, k1]; rfl
        by_cases hi0 : i = 0
        · cases k2 : pcsOK x.h with
          | false =>
            have hr := hr0 (by rw [hso]; simp only [itOK, k2, Bool.and_false, Bool.false_and])
            (have fz := ga5 hg kb k1 k2 hr; repeat' (first | simp (maxDischargeDepth := 8) only [go_sem, rr, reduceIte, reduceCtorEq, Nat.reduceEqDiff, Nat.reduceAdd, Nat.reduceMul, Nat.reduceSub, Nat.reduceBEq, Nat.reduceLeDiff, Int.reduceEq, Int.reduceLT, Int.reduceLE, Int.reduceGE, Int.reduceGT, Int.reduceBEq, Int.reduceBNe, Int.reduceToNat, Int.reduceNeg, Int.reduceSub, Int.reduceAdd, Int.reduceMul, fz] | (with_reducible refine qg5 ?_ ?_; focus (first | (simp (maxDischargeDepth := 8) only [bb, kk, fz]; done) | kernel_rfl)) | ((with_reducible first | refine qf3 ?_ ?_ | refine qf4 ?_ ?_ | refine qf5 ?_ ?_ | refine qf6 ?_ ?_ | refine qf7 ?_ ?_ | refine qf8 ?_ ?_ | refine qf9 ?_ ?_); focus (first | assumption | omega | (simp only [bz, fz]; omega))) | ((with_reducible first | refine qg ?_ ?_ | refine qg0 ?_ ?_ | refine qg1 ?_ ?_); focus (first | assumption | omega | (simp only [bz, fz]; omega))) | ((with_reducible first | refine g1_u8w ?_ ?_ | refine qg3 ?_ ?_); (focus ((repeat' (with_reducible apply And.intro)) <;> (first | assumption | omega | (simp only [bz, fz]; omega) | (simp (maxDischargeDepth := 8) only [bb, fz]; done)))); intro _) | (with_reducible apply call_elim; focus ((with_reducible first | apply e41 | apply e42) <;> (first | assumption | omega | (simp only [bz, fz]; omega) | (simp (maxDischargeDepth := 8) only [bb, fz]; done))))))
          | true =>
            cases k3 : pcsOK x.s with
            | false =>
              have hr := hr0 (by rw [hso]; simp only [itOK, k3, Bool.and_false, Bool.false_and])
              (have fz := ga6 hg kb k1 k2 k3 hr; repeat' (first | simp (maxDischargeDepth := 8) only [go_sem, rr, reduceIte, reduceCtorEq, Nat.reduceEqDiff, Nat.reduceAdd, Nat.reduceMul, Nat.reduceSub, Nat.reduceBEq, Nat.reduceLeDiff, Int.reduceEq, Int.reduceLT, Int.reduceLE, Int.reduceGE, Int.reduceGT, Int.reduceBEq, Int.reduceBNe, Int.reduceToNat, Int.reduceNeg, Int.reduceSub, Int.reduceAdd, Int.reduceMul, fz] | (with_reducible refine qg5 ?_ ?_; focus (first | (simp (maxDischargeDepth := 8) only [bb, kk, fz]; done) | kernel_rfl)) | ((with_reducible first | refine qf3 ?_ ?_ | refine qf4 ?_ ?_ | refine qf5 ?_ ?_ | refine qf6 ?_ ?_ | refine qf7 ?_ ?_ | refine qf8 ?_ ?_ | refine qf9 ?_ ?_); focus (first | assumption | omega | (simp only [bz, fz]; omega))) | ((with_reducible first | refine qg ?_ ?_ | refine qg0 ?_ ?_ | refine qg1 ?_ ?_); focus (first | assumption | omega | (simp only [bz, fz]; omega))) | ((with_reducible first | refine g1_u8w ?_ ?_ | refine qg3 ?_ ?_); (focus ((repeat' (with_reducible apply And.intro)) <;> (first | assumption | omega | (simp only [bz, fz]; omega) | (simp (maxDischargeDepth := 8) only [bb, fz]; done)))); intro _) | (with_reducible apply call_elim; focus ((with_reducible first | apply e41 | apply e42) <;> (first | assumption | omega | (simp only [bz, fz]; omega) | (simp (maxDischargeDepth := 8) only [bb, fz]; done))))))
            | true =>
              have m1 := pcs1 k2
              have m2 := pcs1 k3
              by_cases z1 : x.h.length = 0
              · by_cases z2 : x.s.length = 0
                · have hr := hr0 (by rw [hso]; simp [itOK, z1, z2])
                  (have fz := ga6 hg kb k1 k2 k3 hr; repeat' (first | simp (maxDischargeDepth := 8) only [go_sem, rr, reduceIte, reduceCtorEq, Nat.reduceEqDiff, Nat.reduceAdd, Nat.reduceMul, Nat.reduceSub, Nat.reduceBEq, Nat.reduceLeDiff, Int.reduceEq, Int.reduceLT, Int.reduceLE, Int.reduceGE, Int.reduceGT, Int.reduceBEq, Int.reduceBNe, Int.reduceToNat, Int.reduceNeg, Int.reduceSub, Int.reduceAdd, Int.reduceMul, fz] | (with_reducible refine qg5 ?_ ?_; focus (first | (simp (maxDischargeDepth := 8) only [bb, kk, fz]; done) | kernel_rfl)) | ((with_reducible first | refine qf3 ?_ ?_ | refine qf4 ?_ ?_ | refine qf5 ?_ ?_ | refine qf6 ?_ ?_ | refine qf7 ?_ ?_ | refine qf8 ?_ ?_ | refine qf9 ?_ ?_); focus (first | assumption | omega | (simp only [bz, fz]; omega))) | ((with_reducible first | refine qg ?_ ?_ | refine qg0 ?_ ?_ | refine qg1 ?_ ?_); focus (first | assumption | omega | (simp only [bz, fz]; omega))) | ((with_reducible first | refine g1_u8w ?_ ?_ | refine qg3 ?_ ?_); (focus ((repeat' (with_reducible apply And.intro)) <;> (first | assumption | omega | (simp only [bz, fz]; omega) | (simp (maxDischargeDepth := 8) only [bb, fz]; done)))); intro _) | (with_reducible apply call_elim; focus ((with_reducible first | apply e41 | apply e42) <;> (first | assumption | omega | (simp only [bz, fz]; omega) | (simp (maxDischargeDepth := 8) only [bb, fz]; done))))))
                · have hgood : siOK L i = true := by
                    rw [hso]; simp only [itOK, hkey, k2, k3]; simp [z1, z2, hi0]
                  (have fz := ga5 hg kb k1 k2 k3; repeat' (first | simp (maxDischargeDepth := 8) only [go_sem, rr, reduceIte, reduceCtorEq, Nat.reduceEqDiff, Nat.reduceAdd, Nat.reduceMul, Nat.reduceSub, Nat.reduceBEq, Nat.reduceLeDiff, Int.reduceEq, Int.reduceLT, Int.reduceLE, Int.reduceGE, Int.reduceGT, Int.reduceBEq, Int.reduceBNe, Int.reduceToNat, Int.reduceNeg, Int.reduceSub, Int.reduceAdd, Int.reduceMul, fz] | (with_reducible refine qg5 ?_ ?_; focus (first | (simp (maxDischargeDepth := 8) only [bb, kk, fz]; done) | kernel_rfl)) | ((with_reducible first | refine qf3 ?_ ?_ | refine qf4 ?_ ?_ | refine qf5 ?_ ?_ | refine qf6 ?_ ?_ | refine qf7 ?_ ?_ | refine qf8 ?_ ?_ | refine qf9 ?_ ?_); focus (first | assumption | omega | (simp only [bz, fz]; omega))) | ((with_reducible first | refine qg ?_ ?_ | refine qg0 ?_ ?_ | refine qg1 ?_ ?_); focus (first | assumption | omega | (simp only [bz, fz]; omega))) | ((with_reducible first | refine g1_u8w ?_ ?_ | refine qg3 ?_ ?_); (focus ((repeat' (with_reducible apply And.intro)) <;> (first | assumption | omega | (simp only [bz, fz]; omega) | (simp (maxDischargeDepth := 8) only [bb, fz]; done)))); intro _) | (with_reducible apply call_elim; focus ((with_reducible first | apply e41 | apply e42) <;> (first | assumption | omega | (simp only [bz, fz]; omega) | (simp (maxDischargeDepth := 8) only [bb, fz]; done))))))
                  refine hK (next hgood) _ ?_
                  simp only [vv, ff, norm, Array.toList, List.map, Option.isSome_none, bne_self_eq_false, reduceIte, reduceCtorEq, Nat.reduceEqDiff, Nat.reduceAdd, Nat.reduceMul, Nat.reduceSub, Nat.reduceBEq, Nat.reduceLeDiff, Int.reduceEq, Int.reduceLT, Int.reduceLE, Int.reduceGE, Int.reduceGT, Int.reduceBEq, Int.reduceBNe, Int.reduceToNat, Int.reduceNeg, Int.reduceSub, Int.reduceAdd, Int.reduceMul, finish, qe7, resOf, resa, qe8, qe9, qf, keep, qf0, qf1, qf2, qe5, qe6, Int.natCast_add, cst1]
              · by_cases z2 : x.s.length = 0
                · have hgood : siOK L i = true := by
                    rw [hso]; simp only [itOK, hkey, k2, k3]; simp [z1, z2, hi0]
                  (have fz := ga5 hg kb k1 k2 k3; repeat' (first | simp (maxDischargeDepth := 8) only [go_sem, rr, reduceIte, reduceCtorEq, Nat.reduceEqDiff, Nat.reduceAdd, Nat.reduceMul, Nat.reduceSub, Nat.reduceBEq, Nat.reduceLeDiff, Int.reduceEq, Int.reduceLT, Int.reduceLE, Int.reduceGE, Int.reduceGT, Int.reduceBEq, Int.reduceBNe, Int.reduceToNat, Int.reduceNeg, Int.reduceSub, Int.reduceAdd, Int.reduceMul, fz] | (with_reducible refine qg5 ?_ ?_; focus (first | (simp (maxDischargeDepth := 8) only [bb, kk, fz]; done) | kernel_rfl)) | ((with_reducible first | refine qf3 ?_ ?_ | refine qf4 ?_ ?_ | refine qf5 ?_ ?_ | refine qf6 ?_ ?_ | refine qf7 ?_ ?_ | refine qf8 ?_ ?_ | refine qf9 ?_ ?_); focus (first | assumption | omega | (simp only [bz, fz]; omega))) | ((with_reducible first | refine qg ?_ ?_ | refine qg0 ?_ ?_ | refine qg1 ?_ ?_); focus (first | assumption | omega | (simp only [bz, fz]; omega))) | ((with_reducible first | refine g1_u8w ?_ ?_ | refine qg3 ?_ ?_); (focus ((repeat' (with_reducible apply And.intro)) <;> (first | assumption | omega | (simp only [bz, fz]; omega) | (simp (maxDischargeDepth := 8) only [bb, fz]; done)))); intro _) | (with_reducible apply call_elim; focus ((with_reducible first | apply e41 | apply e42) <;> (first | assumption | omega | (simp only [bz, fz]; omega) | (simp (maxDischargeDepth := 8) only [bb, fz]; done))))))
                  refine hK (next hgood) _ ?_
                  simp only [vv, ff, norm, Array.toList, List.map, Option.isSome_none, bne_self_eq_false, reduceIte, reduceCtorEq, Nat.reduceEqDiff, Nat.reduceAdd, Nat.reduceMul, Nat.reduceSub, Nat.reduceBEq, Nat.reduceLeDiff, Int.reduceEq, Int.reduceLT, Int.reduceLE, Int.reduceGE, Int.reduceGT, Int.reduceBEq, Int.reduceBNe, Int.reduceToNat, Int.reduceNeg, Int.reduceSub, Int.reduceAdd, Int.reduceMul, finish, qe7, resOf, resa, qe8, qe9, qf, keep, qf0, qf1, qf2, qe5, qe6, Int.natCast_add, cst1]
                · have g1' := g_first x.h z1
                  have g2 := g_first x.s z2
                  by_cases hv : vAt x.h ≥ vAt x.s
                  · have hv' : ¬ vAt x.s > vAt x.h := by omega
                    have hr := hr0 (by rw [hso]; simp [itOK, z1, z2, hv'])
                    (have fz := ga8 hg kb k1 k2 k3 g1' g2 hr; repeat' (first | simp (maxDischargeDepth := 8) only [go_sem, rr, reduceIte, reduceCtorEq, Nat.reduceEqDiff, Nat.reduceAdd, Nat.reduceMul, Nat.reduceSub, Nat.reduceBEq, Nat.reduceLeDiff, Int.reduceEq, Int.reduceLT, Int.reduceLE, Int.reduceGE, Int.reduceGT, Int.reduceBEq, Int.reduceBNe, Int.reduceToNat, Int.reduceNeg, Int.reduceSub, Int.reduceAdd, Int.reduceMul, fz] | (with_reducible refine qg5 ?_ ?_; focus (first | (simp (maxDischargeDepth := 8) only [bb, kk, fz]; done) | kernel_rfl)) | ((with_reducible first | refine qf3 ?_ ?_ | refine qf4 ?_ ?_ | refine qf5 ?_ ?_ | refine qf6 ?_ ?_ | refine qf7 ?_ ?_ | refine qf8 ?_ ?_ | refine qf9 ?_ ?_); focus (first | assumption | omega | (simp only [bz, fz]; omega))) | ((with_reducible first | refine qg ?_ ?_ | refine qg0 ?_ ?_ | refine qg1 ?_ ?_); focus (first | assumption | omega | (simp only [bz, fz]; omega))) | ((with_reducible first | refine g1_u8w ?_ ?_ | refine qg3 ?_ ?_); (focus ((repeat' (with_reducible apply And.intro)) <;> (first | assumption | omega | (simp only [bz, fz]; omega) | (simp (maxDischargeDepth := 8) only [bb, fz]; done)))); intro _) | (with_reducible apply call_elim; focus ((with_reducible first | apply e41 | apply e42) <;> (first | assumption | omega | (simp only [bz, fz]; omega) | (simp (maxDischargeDepth := 8) only [bb, fz]; done))))))
                  · have hv' : vAt x.s > vAt x.h := by omega
                    have hgood : siOK L i = true := by
                      rw [hso]; simp only [itOK, hkey, k2, k3]; simp [z1, z2, hv', hi0]
                    (have fz := ga7 hg kb k1 k2 k3 g1' g2; repeat' (first | simp (maxDischargeDepth := 8) only [go_sem, rr, reduceIte, reduceCtorEq, Nat.reduceEqDiff, Nat.reduceAdd, Nat.reduceMul, Nat.reduceSub, Nat.reduceBEq, Nat.reduceLeDiff, Int.reduceEq, Int.reduceLT, Int.reduceLE, Int.reduceGE, Int.reduceGT, Int.reduceBEq, Int.reduceBNe, Int.reduceToNat, Int.reduceNeg, Int.reduceSub, Int.reduceAdd, Int.reduceMul, fz] | (with_reducible refine qg5 ?_ ?_; focus (first | (simp (maxDischargeDepth := 8) only [bb, kk, fz]; done) | kernel_rfl)) | ((with_reducible first | refine qf3 ?_ ?_ | refine qf4 ?_ ?_ | refine qf5 ?_ ?_ | refine qf6 ?_ ?_ | refine qf7 ?_ ?_ | refine qf8 ?_ ?_ | refine qf9 ?_ ?_); focus (first | assumption | omega | (simp only [bz, fz]; omega))) | ((with_reducible first | refine qg ?_ ?_ | refine qg0 ?_ ?_ | refine qg1 ?_ ?_); focus (first | assumption | omega | (simp only [bz, fz]; omega))) | ((with_reducible first | refine g1_u8w ?_ ?_ | refine qg3 ?_ ?_); (focus ((repeat' (with_reducible apply And.intro)) <;> (first | assumption | omega | (simp only [bz, fz]; omega) | (simp (maxDischargeDepth := 8) only [bb, fz]; done)))); intro _) | (with_reducible apply call_elim; focus ((with_reducible first | apply e41 | apply e42) <;> (first | assumption | omega | (simp only [bz, fz]; omega) | (simp (maxDischargeDepth := 8) only [bb, fz]; done))))))
                    refine hK (next hgood) _ ?_
                    simp only [vv, ff, norm, Array.toList, List.map, Option.isSome_none, bne_self_eq_false, reduceIte, reduceCtorEq, Nat.reduceEqDiff, Nat.reduceAdd, Nat.reduceMul, Nat.reduceSub, Nat.reduceBEq, Nat.reduceLeDiff, Int.reduceEq, Int.reduceLT, Int.reduceLE, Int.reduceGE, Int.reduceGT, Int.reduceBEq, Int.reduceBNe, Int.reduceToNat, Int.reduceNeg, Int.reduceSub, Int.reduceAdd, Int.reduceMul, finish, qe7, resOf, resa, qe8, qe9, qf, keep, qf0, qf1, qf2, qe5, qe6, Int.natCast_add, cst1]
        · have hp := hprev hi0
          cases h2 : ltB pn x.nm with
          | false =>
            have hr := hr0 (by rw [hso]; simp [h2, hi0])
            (have fz := ga5 hg kb k1 h2 hr; repeat' (first | simp (maxDischargeDepth := 8) only [go_sem, rr, reduceIte, reduceCtorEq, Nat.reduceEqDiff, Nat.reduceAdd, Nat.reduceMul, Nat.reduceSub, Nat.reduceBEq, Nat.reduceLeDiff, Int.reduceEq, Int.reduceLT, Int.reduceLE, Int.reduceGE, Int.reduceGT, Int.reduceBEq, Int.reduceBNe, Int.reduceToNat, Int.reduceNeg, Int.reduceSub, Int.reduceAdd, Int.reduceMul, fz, hp] | (with_reducible refine qg5 ?_ ?_; focus (first | (simp (maxDischargeDepth := 8) only [bb, kk, fz, hp]; done) | kernel_rfl)) | ((with_reducible first | refine qf3 ?_ ?_ | refine qf4 ?_ ?_ | refine qf5 ?_ ?_ | refine qf6 ?_ ?_ | refine qf7 ?_ ?_ | refine qf8 ?_ ?_ | refine qf9 ?_ ?_); focus (first | assumption | omega | (simp only [bz, fz, hp]; omega))) | ((with_reducible first | refine qg ?_ ?_ | refine qg0 ?_ ?_ | refine qg1 ?_ ?_); focus (first | assumption | omega | (simp only [bz, fz, hp]; omega))) | ((with_reducible first | refine g1_u8w ?_ ?_ | refine qg3 ?_ ?_); (focus ((repeat' (with_reducible apply And.intro)) <;> (first | assumption | omega | (simp only [bz, fz, hp]; omega) | (simp (maxDischargeDepth := 8) only [bb, fz, hp]; done)))); intro _) | (with_reducible apply call_elim; focus ((with_reducible first | apply e41 | apply e42) <;> (first | assumption | omega | (simp only [bz, fz, hp]; omega) | (simp (maxDischargeDepth := 8) only [bb, fz, hp]; done))))))
          | true =>
            cases k2 : pcsOK x.h with
            | false =>
              have hr := hr0 (by rw [hso]; simp only [itOK, k2, Bool.and_false, Bool.false_and])
              (have fz := ga6 hg kb k1 h2 k2 hr; repeat' (first | simp (maxDischargeDepth := 8) only [go_sem, rr, reduceIte, reduceCtorEq, Nat.reduceEqDiff, Nat.reduceAdd, Nat.reduceMul, Nat.reduceSub, Nat.reduceBEq, Nat.reduceLeDiff, Int.reduceEq, Int.reduceLT, Int.reduceLE, Int.reduceGE, Int.reduceGT, Int.reduceBEq, Int.reduceBNe, Int.reduceToNat, Int.reduceNeg, Int.reduceSub, Int.reduceAdd, Int.reduceMul, fz, hp] | (with_reducible refine qg5 ?_ ?_; focus (first | (simp (maxDischargeDepth := 8) only [bb, kk, fz, hp]; done) | kernel_rfl)) | ((with_reducible first | refine qf3 ?_ ?_ | refine qf4 ?_ ?_ | refine qf5 ?_ ?_ | refine qf6 ?_ ?_ | refine qf7 ?_ ?_ | refine qf8 ?_ ?_ | refine qf9 ?_ ?_); focus (first | assumption | omega | (simp only [bz, fz, hp]; omega))) | ((with_reducible first | refine qg ?_ ?_ | refine qg0 ?_ ?_ | refine qg1 ?_ ?_); focus (first | assumption | omega | (simp only [bz, fz, hp]; omega))) | ((with_reducible first | refine g1_u8w ?_ ?_ | refine qg3 ?_ ?_); (focus ((repeat' (with_reducible apply And.intro)) <;> (first | assumption | omega | (simp only [bz, fz, hp]; omega) | (simp (maxDischargeDepth := 8) only [bb, fz, hp]; done)))); intro _) | (with_reducible apply call_elim; focus ((with_reducible first | apply e41 | apply e42) <;> (first | assumption | omega | (simp only [bz, fz, hp]; omega) | (simp (maxDischargeDepth := 8) only [bb, fz, hp]; done))))))
            | true =>
              cases k3 : pcsOK x.s with
              | false =>
                have hr := hr0 (by rw [hso]; simp only [itOK, k3, Bool.and_false, Bool.false_and])
                (have fz := ga7 hg kb k1 h2 k2 k3 hr; repeat' (first | simp (maxDischargeDepth := 8) only [go_sem, rr, reduceIte, reduceCtorEq, Nat.reduceEqDiff, Nat.reduceAdd, Nat.reduceMul, Nat.reduceSub, Nat.reduceBEq, Nat.reduceLeDiff, Int.reduceEq, Int.reduceLT, Int.reduceLE, Int.reduceGE, Int.reduceGT, Int.reduceBEq, Int.reduceBNe, Int.reduceToNat, Int.reduceNeg, Int.reduceSub, Int.reduceAdd, Int.reduceMul, fz, hp] | (with_reducible refine qg5 ?_ ?_; focus (first | (simp (maxDischargeDepth := 8) only [bb, kk, fz, hp]; done) | kernel_rfl)) | ((with_reducible first | refine qf3 ?_ ?_ | refine qf4 ?_ ?_ | refine qf5 ?_ ?_ | refine qf6 ?_ ?_ | refine qf7 ?_ ?_ | refine qf8 ?_ ?_ | refine qf9 ?_ ?_); focus (first | assumption | omega | (simp only [bz, fz, hp]; omega))) | ((with_reducible first | refine qg ?_ ?_ | refine qg0 ?_ ?_ | refine qg1 ?_ ?_); focus (first | assumption | omega | (simp only [bz, fz, hp]; omega))) | ((with_reducible first | refine g1_u8w ?_ ?_ | refine qg3 ?_ ?_); (focus ((repeat' (with_reducible apply And.intro)) <;> (first | assumption | omega | (simp only [bz, fz, hp]; omega) | (simp (maxDischargeDepth := 8) only [bb, fz, hp]; done)))); intro _) | (with_reducible apply call_elim; focus ((with_reducible first | apply e41 | apply e42) <;> (first | assumption | omega | (simp only [bz, fz, hp]; omega) | (simp (maxDischargeDepth := 8) only [bb, fz, hp]; done))))))
              | true =>
                have m1 := pcs1 k2
                have m2 := pcs1 k3
                by_cases z1 : x.h.length = 0
                · by_cases z2 : x.s.length = 0
                  · have hr := hr0 (by rw [hso]; simp [itOK, z1, z2])
                    (have fz := ga7 hg kb k1 h2 k2 k3 hr; repeat' (first | simp (maxDischargeDepth := 8) only [go_sem, rr, reduceIte, reduceCtorEq, Nat.reduceEqDiff, Nat.reduceAdd, Nat.reduceMul, Nat.reduceSub, Nat.reduceBEq, Nat.reduceLeDiff, Int.reduceEq, Int.reduceLT, Int.reduceLE, Int.reduceGE, Int.reduceGT, Int.reduceBEq, Int.reduceBNe, Int.reduceToNat, Int.reduceNeg, Int.reduceSub, Int.reduceAdd, Int.reduceMul, fz, hp] | (with_reducible refine qg5 ?_ ?_; focus (first | (simp (maxDischargeDepth := 8) only [bb, kk, fz, hp]; done) | kernel_rfl)) | ((with_reducible first | refine qf3 ?_ ?_ | refine qf4 ?_ ?_ | refine qf5 ?_ ?_ | refine qf6 ?_ ?_ | refine qf7 ?_ ?_ | refine qf8 ?_ ?_ | refine qf9 ?_ ?_); focus (first | assumption | omega | (simp only [bz, fz, hp]; omega))) | ((with_reducible first | refine qg ?_ ?_ | refine qg0 ?_ ?_ | refine qg1 ?_ ?_); focus (first | assumption | omega | (simp only [bz, fz, hp]; omega))) | ((with_reducible first | refine g1_u8w ?_ ?_ | refine qg3 ?_ ?_); (focus ((repeat' (with_reducible apply And.intro)) <;> (first | assumption | omega | (simp only [bz, fz, hp]; omega) | (simp (maxDischargeDepth := 8) only [bb, fz, hp]; done)))); intro _) | (with_reducible apply call_elim; focus ((with_reducible first | apply e41 | apply e42) <;> (first | assumption | omega | (simp only [bz, fz, hp]; omega) | (simp (maxDischargeDepth := 8) only [bb, fz, hp]; done))))))
                  · have hgood : siOK L i = true := by
                      rw [hso]; simp only [itOK, hkey, k2, k3]; simp [z1, z2, h2]
                    (have fz := ga6 hg kb k1 h2 k2 k3; repeat' (first | simp (maxDischargeDepth := 8) only [go_sem, rr, reduceIte, reduceCtorEq, Nat.reduceEqDiff, Nat.reduceAdd, Nat.reduceMul, Nat.reduceSub, Nat.reduceBEq, Nat.reduceLeDiff, Int.reduceEq, Int.reduceLT, Int.reduceLE, Int.reduceGE, Int.reduceGT, Int.reduceBEq, Int.reduceBNe, Int.reduceToNat, Int.reduceNeg, Int.reduceSub, Int.reduceAdd, Int.reduceMul, fz, hp] | (with_reducible refine qg5 ?_ ?_; focus (first | (simp (maxDischargeDepth := 8) only [bb, kk, fz, hp]; done) | kernel_rfl)) | ((with_reducible first | refine qf3 ?_ ?_ | refine qf4 ?_ ?_ | refine qf5 ?_ ?_ | refine qf6 ?_ ?_ | refine qf7 ?_ ?_ | refine qf8 ?_ ?_ | refine qf9 ?_ ?_); focus (first | assumption | omega | (simp only [bz, fz, hp]; omega))) | ((with_reducible first | refine qg ?_ ?_ | refine qg0 ?_ ?_ | refine qg1 ?_ ?_); focus (first | assumption | omega | (simp only [bz, fz, hp]; omega))) | ((with_reducible first | refine g1_u8w ?_ ?_ | refine qg3 ?_ ?_); (focus ((repeat' (with_reducible apply And.intro)) <;> (first | assumption | omega | (simp only [bz, fz, hp]; omega) | (simp (maxDischargeDepth := 8) only [bb, fz, hp]; done)))); intro _) | (with_reducible apply call_elim; focus ((with_reducible first | apply e41 | apply e42) <;> (first | assumption | omega | (simp only [bz, fz, hp]; omega) | (simp (maxDischargeDepth := 8) only [bb, fz, hp]; done))))))
                    refine hK (next hgood) _ ?_
                    simp only [vv, ff, norm, Array.toList, List.map, Option.isSome_none, bne_self_eq_false, reduceIte, reduceCtorEq, Nat.reduceEqDiff, Nat.reduceAdd, Nat.reduceMul, Nat.reduceSub, Nat.reduceBEq, Nat.reduceLeDiff, Int.reduceEq, Int.reduceLT, Int.reduceLE, Int.reduceGE, Int.reduceGT, Int.reduceBEq, Int.reduceBNe, Int.reduceToNat, Int.reduceNeg, Int.reduceSub, Int.reduceAdd, Int.reduceMul, finish, qe7, resOf, resa, qe8, qe9, qf, keep, qf0, qf1, qf2, qe5, qe6, Int.natCast_add, cst1]
                · by_cases z2 : x.s.length = 0
                  · have hgood : siOK L i = true := by
                      rw [hso]; simp only [itOK, hkey, k2, k3]; simp [z1, z2, h2]
                    (have fz := ga6 hg kb k1 h2 k2 k3; repeat' (first | simp (maxDischargeDepth := 8) only [go_sem, rr, reduceIte, reduceCtorEq, Nat.reduceEqDiff, Nat.reduceAdd, Nat.reduceMul, Nat.reduceSub, Nat.reduceBEq, Nat.reduceLeDiff, Int.reduceEq, Int.reduceLT, Int.reduceLE, Int.reduceGE, Int.reduceGT, Int.reduceBEq, Int.reduceBNe, Int.reduceToNat, Int.reduceNeg, Int.reduceSub, Int.reduceAdd, Int.reduceMul, fz, hp] | (with_reducible refine qg5 ?_ ?_; focus (first | (simp (maxDischargeDepth := 8) only [bb, kk, fz, hp]; done) | kernel_rfl)) | ((with_reducible first | refine qf3 ?_ ?_ | refine qf4 ?_ ?_ | refine qf5 ?_ ?_ | refine qf6 ?_ ?_ | refine qf7 ?_ ?_ | refine qf8 ?_ ?_ | refine qf9 ?_ ?_); focus (first | assumption | omega | (simp only [bz, fz, hp]; omega))) | ((with_reducible first | refine qg ?_ ?_ | refine qg0 ?_ ?_ | refine qg1 ?_ ?_); focus (first | assumption | omega | (simp only [bz, fz, hp]; omega))) | ((with_reducible first | refine g1_u8w ?_ ?_ | refine qg3 ?_ ?_); (focus ((repeat' (with_reducible apply And.intro)) <;> (first | assumption | omega | (simp only [bz, fz, hp]; omega) | (simp (maxDischargeDepth := 8) only [bb, fz, hp]; done)))); intro _) | (with_reducible apply call_elim; focus ((with_reducible first | apply e41 | apply e42) <;> (first | assumption | omega | (simp only [bz, fz, hp]; omega) | (simp (maxDischargeDepth := 8) only [bb, fz, hp]; done))))))
                    refine hK (next hgood) _ ?_
                    simp only [vv, ff, norm, Array.toList, List.map, Option.isSome_none, bne_self_eq_false, reduceIte, reduceCtorEq, Nat.reduceEqDiff, Nat.reduceAdd, Nat.reduceMul, Nat.reduceSub, Nat.reduceBEq, Nat.reduceLeDiff, Int.reduceEq, Int.reduceLT, Int.reduceLE, Int.reduceGE, Int.reduceGT, Int.reduceBEq, Int.reduceBNe, Int.reduceToNat, Int.reduceNeg, Int.reduceSub, Int.reduceAdd, Int.reduceMul, finish, qe7, resOf, resa, qe8, qe9, qf, keep, qf0, qf1, qf2, qe5, qe6, Int.natCast_add, cst1]
                  · have g1' := g_first x.h z1
                    have g2 := g_first x.s z2
                    by_cases hv : vAt x.h ≥ vAt x.s
                    · have hv' : ¬ vAt x.s > vAt x.h := by omega
                      have hr := hr0 (by rw [hso]; simp [itOK, z1, z2, hv'])
                      (have fz := ga9 hg kb k1 h2 k2 k3 g1' g2 hr; repeat' (first | simp (maxDischargeDepth := 8) only [go_sem, rr, reduceIte, reduceCtorEq, Nat.reduceEqDiff, Nat.reduceAdd, Nat.reduceMul, Nat.reduceSub, Nat.reduceBEq, Nat.reduceLeDiff, Int.reduceEq, Int.reduceLT, Int.reduceLE, Int.reduceGE, Int.reduceGT, Int.reduceBEq, Int.reduceBNe, Int.reduceToNat, Int.reduceNeg, Int.reduceSub, Int.reduceAdd, Int.reduceMul, fz, hp] | (with_reducible refine qg5 ?_ ?_; focus (first | (simp (maxDischargeDepth := 8) only [bb, kk, fz, hp]; done) | kernel_rfl)) | ((with_reducible first | refine qf3 ?_ ?_ | refine qf4 ?_ ?_ | refine qf5 ?_ ?_ | refine qf6 ?_ ?_ | refine qf7 ?_ ?_ | refine qf8 ?_ ?_ | refine qf9 ?_ ?_); focus (first | assumption | omega | (simp only [bz, fz, hp]; omega))) | ((with_reducible first | refine qg ?_ ?_ | refine qg0 ?_ ?_ | refine qg1 ?_ ?_); focus (first | assumption | omega | (simp only [bz, fz, hp]; omega))) | ((with_reducible first | refine g1_u8w ?_ ?_ | refine qg3 ?_ ?_); (focus ((repeat' (with_reducible apply And.intro)) <;> (first | assumption | omega | (simp only [bz, fz, hp]; omega) | (simp (maxDischargeDepth := 8) only [bb, fz, hp]; done)))); intro _) | (with_reducible apply call_elim; focus ((with_reducible first | apply e41 | apply e42) <;> (first | assumption | omega | (simp only [bz, fz, hp]; omega) | (simp (maxDischargeDepth := 8) only [bb, fz, hp]; done))))))
                    · have hv' : vAt x.s > vAt x.h := by omega
                      have hgood : siOK L i = true := by
                        rw [hso]; simp only [itOK, hkey, k2, k3]; simp [z1, z2, hv', h2]
                      (have fz := ga8 hg kb k1 h2 k2 k3 g1' g2; repeat' (first | simp (maxDischargeDepth := 8) only [go_sem, rr, reduceIte, reduceCtorEq, Nat.reduceEqDiff, Nat.reduceAdd, Nat.reduceMul, Nat.reduceSub, Nat.reduceBEq, Nat.reduceLeDiff, Int.reduceEq, Int.reduceLT, Int.reduceLE, Int.reduceGE, Int.reduceGT, Int.reduceBEq, Int.reduceBNe, Int.reduceToNat, Int.reduceNeg, Int.reduceSub, Int.reduceAdd, Int.reduceMul, fz, hp] | (with_reducible refine qg5 ?_ ?_; focus (first | (simp (maxDischargeDepth := 8) only [bb, kk, fz, hp]; done) | kernel_rfl)) | ((with_reducible first | refine qf3 ?_ ?_ | refine qf4 ?_ ?_ | refine qf5 ?_ ?_ | refine qf6 ?_ ?_ | refine qf7 ?_ ?_ | refine qf8 ?_ ?_ | refine qf9 ?_ ?_); focus (first | assumption | omega | (simp only [bz, fz, hp]; omega))) | ((with_reducible first | refine qg ?_ ?_ | refine qg0 ?_ ?_ | refine qg1 ?_ ?_); focus (first | assumption | omega | (simp only [bz, fz, hp]; omega))) | ((with_reducible first | refine g1_u8w ?_ ?_ | refine qg3 ?_ ?_); (focus ((repeat' (with_reducible apply And.intro)) <;> (first | assumption | omega | (simp only [bz, fz, hp]; omega) | (simp (maxDischargeDepth := 8) only [bb, fz, hp]; done)))); intro _) | (with_reducible apply call_elim; focus ((with_reducible first | apply e41 | apply e42) <;> (first | assumption | omega | (simp only [bz, fz, hp]; omega) | (simp (maxDischargeDepth := 8) only [bb, fz, hp]; done))))))
                      refine hK (next hgood) _ ?_
                      simp only [vv, ff, norm, Array.toList, List.map, Option.isSome_none, bne_self_eq_false, reduceIte, reduceCtorEq, Nat.reduceEqDiff, Nat.reduceAdd, Nat.reduceMul, Nat.reduceSub, Nat.reduceBEq, Nat.reduceLeDiff, Int.reduceEq, Int.reduceLT, Int.reduceLE, Int.reduceGE, Int.reduceGT, Int.reduceBEq, Int.reduceBNe, Int.reduceToNat, Int.reduceNeg, Int.reduceSub, Int.reduceAdd, Int.reduceMul, finish, qe7, resOf, resa, qe8, qe9, qf, keep, qf0, qf1, qf2, qe5, qe6, Int.natCast_add, cst1]
    | true =>
      have hkey : (x.nm == [] || nameOK x.nm) = true := by rw [kb]; rfl
      by_cases hi0 : i = 0
      · cases k2 : pcsOK x.h with
        | false =>
          have hr := hr0 (by rw [hso]; simp only [itOK, k2, Bool.and_false, Bool.false_and])
          (have fz := ga4 hg kb k2 hr; repeat' (first | simp (maxDischargeDepth := 8) only [go_sem, rr, reduceIte, reduceCtorEq, Nat.reduceEqDiff, Nat.reduceAdd, Nat.reduceMul, Nat.reduceSub, Nat.reduceBEq, Nat.reduceLeDiff, Int.reduceEq, Int.reduceLT, Int.reduceLE, Int.reduceGE, Int.reduceGT, Int.reduceBEq, Int.reduceBNe, Int.reduceToNat, Int.reduceNeg, Int.reduceSub, Int.reduceAdd, Int.reduceMul, fz] | (with_reducible refine qg5 ?_ ?_; focus (first | (simp (maxDischargeDepth := 8) only [bb, kk, fz]; done) | kernel_rfl)) | ((with_reducible first | refine qf3 ?_ ?_ | refine qf4 ?_ ?_ | refine qf5 ?_ ?_ | refine qf6 ?_ ?_ | refine qf7 ?_ ?_ | refine qf8 ?_ ?_ | refine qf9 ?_ ?_); focus (first | assumption | omega | (simp only [bz, fz]; omega))) | ((with_reducible first | refine qg ?_ ?_ | refine qg0 ?_ ?_ | refine qg1 ?_ ?_); focus (first | assumption | omega | (simp only [bz, fz]; omega))) | ((with_reducible first | refine g1_u8w ?_ ?_ | refine qg3 ?_ ?_); (focus ((repeat' (with_reducible apply And.intro)) <;> (first | assumption | omega | (simp only [bz, fz]; omega) | (simp (maxDischargeDepth := 8) only [bb, fz]; done)))); intro _) | (with_reducible apply call_elim; focus ((with_reducible first | apply e41 | apply e42) <;> (first | assumption | omega | (simp only [bz, fz]; omega) | (simp (maxDischargeDepth := 8) only [bb, fz]; done))))))
        | true =>
          cases k3 : pcsOK x.s with
          | false =>
            have hr := hr0 (by rw [hso]; simp only [itOK, k3, Bool.and_false, Bool.false_and])
            (have fz := ga5 hg kb k2 k3 hr; repeat' (first | simp (maxDischargeDepth := 8) only [go_sem, rr, reduceIte, reduceCtorEq, Nat.reduceEqDiff, Nat.reduceAdd, Nat.reduceMul, Nat.reduceSub, Nat.reduceBEq, Nat.reduceLeDiff, Int.reduceEq, Int.reduceLT, Int.reduceLE, Int.reduceGE, Int.reduceGT, Int.reduceBEq, Int.reduceBNe, Int.reduceToNat, Int.reduceNeg, Int.reduceSub, Int.reduceAdd, Int.reduceMul, fz] | (with_reducible refine qg5 ?_ ?_; focus (first | (simp (maxDischargeDepth := 8) only [bb, kk, fz]; done) | kernel_rfl)) | ((with_reducible first | refine qf3 ?_ ?_ | refine qf4 ?_ ?_ | refine qf5 ?_ ?_ | refine qf6 ?_ ?_ | refine qf7 ?_ ?_ | refine qf8 ?_ ?_ | refine qf9 ?_ ?_); focus (first | assumption | omega | (simp only [bz, fz]; omega))) | ((with_reducible first | refine qg ?_ ?_ | refine qg0 ?_ ?_ | refine qg1 ?_ ?_); focus (first | assumption | omega | (simp only [bz, fz]; omega))) | ((with_reducible first | refine g1_u8w ?_ ?_ | refine qg3 ?_ ?_); (focus ((repeat' (with_reducible apply And.intro)) <;> (first | assumption | omega | (simp only [bz, fz]; omega) | (simp (maxDischargeDepth := 8) only [bb, fz]; done)))); intro _) | (with_reducible apply call_elim; focus ((with_reducible first | apply e41 | apply e42) <;> (first | assumption | omega | (simp only [bz, fz]; omega) | (simp (maxDischargeDepth := 8) only [bb, fz]; done))))))
          | true =>
            have m1 := pcs1 k2
            have m2 := pcs1 k3
            by_cases z1 : x.h.length = 0
            · by_cases z2 : x.s.length = 0
              · have hr := hr0 (by rw [hso]; simp [itOK, z1, z2])
                (have fz := ga5 hg kb k2 k3 hr; repeat' (first | simp (maxDischargeDepth := 8) only [go_sem, rr, reduceIte, reduceCtorEq, Nat.reduceEqDiff, Nat.reduceAdd, Nat.reduceMul, Nat.reduceSub, Nat.reduceBEq, Nat.reduceLeDiff, Int.reduceEq, Int.reduceLT, Int.reduceLE, Int.reduceGE, Int.reduceGT, Int.reduceBEq, Int.reduceBNe, Int.reduceToNat, Int.reduceNeg, Int.reduceSub, Int.reduceAdd, Int.reduceMul, fz] | (with_reducible refine qg5 ?_ ?_; focus (first | (simp (maxDischargeDepth := 8) only [bb, kk, fz]; done) | kernel_rfl)) | ((with_reducible first | refine qf3 ?_ ?_ | refine qf4 ?_ ?_ | refine qf5 ?_ ?_ | refine qf6 ?_ ?_ | refine qf7 ?_ ?_ | refine qf8 ?_ ?_ | refine qf9 ?_ ?_); focus (first | assumption | omega | (simp only [bz, fz]; omega))) | ((with_reducible first | refine qg ?_ ?_ | refine qg0 ?_ ?_ | refine qg1 ?_ ?_); focus (first | assumption | omega | (simp only [bz, fz]; omega))) | ((with_reducible first | refine g1_u8w ?_ ?_ | refine qg3 ?_ ?_); (focus ((repeat' (with_reducible apply And.intro)) <;> (first | assumption | omega | (simp only [bz, fz]; omega) | (simp (maxDischargeDepth := 8) only [bb, fz]; done)))); intro _) | (with_reducible apply call_elim; focus ((with_reducible first | apply e41 | apply e42) <;> (first | assumption | omega | (simp only [bz, fz]; omega) | (simp (maxDischargeDepth := 8) only [bb, fz]; done))))))
              · have hgood : siOK L i = true := by
                  rw [hso]; simp only [itOK, hkey, k2, k3]; simp [z1, z2, hi0]
                (have fz := ga4 hg kb k2 k3; repeat' (first | simp (maxDischargeDepth := 8) only [go_sem, rr, reduceIte, reduceCtorEq, Nat.reduceEqDiff, Nat.reduceAdd, Nat.reduceMul, Nat.reduceSub, Nat.reduceBEq, Nat.reduceLeDiff, Int.reduceEq, Int.reduceLT, Int.reduceLE, Int.reduceGE, Int.reduceGT, Int.reduceBEq, Int.reduceBNe, Int.reduceToNat, Int.reduceNeg, Int.reduceSub, Int.reduceAdd, Int.reduceMul, fz] | (with_reducible refine qg5 ?_ ?_; focus (first | (simp (maxDischargeDepth := 8) only [bb, kk, fz]; done) | kernel_rfl)) | ((with_reducible first | refine qf3 ?_ ?_ | refine qf4 ?_ ?_ | refine qf5 ?_ ?_ | refine qf6 ?_ ?_ | refine qf7 ?_ ?_ | refine qf8 ?_ ?_ | refine qf9 ?_ ?_); focus (first | assumption | omega | (simp only [bz, fz]; omega))) | ((with_reducible first | refine qg ?_ ?_ | refine qg0 ?_ ?_ | refine qg1 ?_ ?_); focus (first | assumption | omega | (simp only [bz, fz]; omega))) | ((with_reducible first | refine g1_u8w ?_ ?_ | refine qg3 ?_ ?_); (focus ((repeat' (with_reducible apply And.intro)) <;> (first | assumption | omega | (simp only [bz, fz]; omega) | (simp (maxDischargeDepth := 8) only [bb, fz]; done)))); intro _) | (with_reducible apply call_elim; focus ((with_reducible first | apply e41 | apply e42) <;> (first | assumption | omega | (simp only [bz, fz]; omega) | (simp (maxDischargeDepth := 8) only [bb, fz]; done))))))
                refine hK (next hgood) _ ?_
                simp only [vv, ff, norm, Array.toList, List.map, Option.isSome_none, bne_self_eq_false, reduceIte, reduceCtorEq, Nat.reduceEqDiff, Nat.reduceAdd, Nat.reduceMul, Nat.reduceSub, Nat.reduceBEq, Nat.reduceLeDiff, Int.reduceEq, Int.reduceLT, Int.reduceLE, Int.reduceGE, Int.reduceGT, Int.reduceBEq, Int.reduceBNe, Int.reduceToNat, Int.reduceNeg, Int.reduceSub, Int.reduceAdd, Int.reduceMul, finish, qe7, resOf, resa, qe8, qe9, qf, keep, qf0, qf1, qf2, qe5, qe6, Int.natCast_add, cst1]
            · by_cases z2 : x.s.length = 0
              · have hgood : siOK L i = true := by
                  rw [hso]; simp only [itOK, hkey, k2, k3]; simp [z1, z2, hi0]
                (have fz := ga4 hg kb k2 k3; repeat' (first | simp (maxDischargeDepth := 8) only [go_sem, rr, reduceIte, reduceCtorEq, Nat.reduceEqDiff, Nat.reduceAdd, Nat.reduceMul, Nat.reduceSub, Nat.reduceBEq, Nat.reduceLeDiff, Int.reduceEq, Int.reduceLT, Int.reduceLE, Int.reduceGE, Int.reduceGT, Int.reduceBEq, Int.reduceBNe, Int.reduceToNat, Int.reduceNeg, Int.reduceSub, Int.reduceAdd, Int.reduceMul, fz] | (with_reducible refine qg5 ?_ ?_; focus (first | (simp (maxDischargeDepth := 8) only [bb, kk, fz]; done) | kernel_rfl)) | ((with_reducible first | refine qf3 ?_ ?_ | refine qf4 ?_ ?_ | refine qf5 ?_ ?_ | refine qf6 ?_ ?_ | refine qf7 ?_ ?_ | refine qf8 ?_ ?_ | refine qf9 ?_ ?_); focus (first | assumption | omega | (simp only [bz, fz]; omega))) | ((with_reducible first | refine qg ?_ ?_ | refine qg0 ?_ ?_ | refine qg1 ?_ ?_); focus (first | assumption | omega | (simp only [bz, fz]; omega))) | ((with_reducible first | refine g1_u8w ?_ ?_ | refine qg3 ?_ ?_); (focus ((repeat' (with_reducible apply And.intro)) <;> (first | assumption | omega | (simp only [bz, fz]; omega) | (simp (maxDischargeDepth := 8) only [bb, fz]; done)))); intro _) | (with_reducible apply call_elim; focus ((with_reducible first | apply e41 | apply e42) <;> (first | assumption | omega | (simp only [bz, fz]; omega) | (simp (maxDischargeDepth := 8) only [bb, fz]; done))))))
                refine hK (next hgood) _ ?_
                simp only [vv, ff, norm, Array.toList, List.map, Option.isSome_none, bne_self_eq_false, reduceIte, reduceCtorEq, Nat.reduceEqDiff, Nat.reduceAdd, Nat.reduceMul, Nat.reduceSub, Nat.reduceBEq, Nat.reduceLeDiff, Int.reduceEq, Int.reduceLT, Int.reduceLE, Int.reduceGE, Int.reduceGT, Int.reduceBEq, Int.reduceBNe, Int.reduceToNat, Int.reduceNeg, Int.reduceSub, Int.reduceAdd, Int.reduceMul, finish, qe7, resOf, resa, qe8, qe9, qf, keep, qf0, qf1, qf2, qe5, qe6, Int.natCast_add, cst1]
              · have g1' := g_first x.h z1
                have g2 := g_first x.s z2
                by_cases hv : vAt x.h ≥ vAt x.s
                · have hv' : ¬ vAt x.s > vAt x.h := by omega
                  have hr := hr0 (by rw [hso]; simp [itOK, z1, z2, hv'])
                  (have fz := ga7 hg kb k2 k3 g1' g2 hr; repeat' (first | simp (maxDischargeDepth := 8) only [go_sem, rr, reduceIte, reduceCtorEq, Nat.reduceEqDiff, Nat.reduceAdd, Nat.reduceMul, Nat.reduceSub, Nat.reduceBEq, Nat.reduceLeDiff, Int.reduceEq, Int.reduceLT, Int.reduceLE, Int.reduceGE, Int.reduceGT, Int.reduceBEq, Int.reduceBNe, Int.reduceToNat, Int.reduceNeg, Int.reduceSub, Int.reduceAdd, Int.reduceMul, fz] | (with_reducible refine qg5 ?_ ?_; focus (first | (simp (maxDischargeDepth := 8) only [bb, kk, fz]; done) | kernel_rfl)) | ((with_reducible first | refine qf3 ?_ ?_ | refine qf4 ?_ ?_ | refine qf5 ?_ ?_ | refine qf6 ?_ ?_ | refine qf7 ?_ ?_ | refine qf8 ?_ ?_ | refine qf9 ?_ ?_); focus (first | assumption | omega | (simp only [bz, fz]; omega))) | ((with_reducible first | refine qg ?_ ?_ | refine qg0 ?_ ?_ | refine qg1 ?_ ?_); focus (first | assumption | omega | (simp only [bz, fz]; omega))) | ((with_reducible first | refine g1_u8w ?_ ?_ | refine qg3 ?_ ?_); (focus ((repeat' (with_reducible apply And.intro)) <;> (first | assumption | omega | (simp only [bz, fz]; omega) | (simp (maxDischargeDepth := 8) only [bb, fz]; done)))); intro _) | (with_reducible apply call_elim; focus ((with_reducible first | apply e41 | apply e42) <;> (first | assumption | omega | (simp only [bz, fz]; omega) | (simp (maxDischargeDepth := 8) only [bb, fz]; done))))))
                · have hv' : vAt x.s > vAt x.h := by omega
                  have hgood : siOK L i = true := by
                    rw [hso]; simp only [itOK, hkey, k2, k3]; simp [z1, z2, hv', hi0]
                  (have fz := ga6 hg kb k2 k3 g1' g2; repeat' (first | simp (maxDischargeDepth := 8) only [go_sem, rr, reduceIte, reduceCtorEq, Nat.reduceEqDiff, Nat.reduceAdd, Nat.reduceMul, Nat.reduceSub, Nat.reduceBEq, Nat.reduceLeDiff, Int.reduceEq, Int.reduceLT, Int.reduceLE, Int.reduceGE, Int.reduceGT, Int.reduceBEq, Int.reduceBNe, Int.reduceToNat, Int.reduceNeg, Int.reduceSub, Int.reduceAdd, Int.reduceMul, fz] | (with_reducible refine qg5 ?_ ?_; focus (first | (simp (maxDischargeDepth := 8) only [bb, kk, fz]; done) | kernel_rfl)) | ((with_reducible first | refine qf3 ?_ ?_ | refine qf4 ?_ ?_ | refine qf5 ?_ ?_ | refine qf6 ?_ ?_ | refine qf7 ?_ ?_ | refine qf8 ?_ ?_ | refine qf9 ?_ ?_); focus (first | assumption | omega | (simp only [bz, fz]; omega))) | ((with_reducible first | refine qg ?_ ?_ | refine qg0 ?_ ?_ | refine qg1 ?_ ?_); focus (first | assumption | omega | (simp only [bz, fz]; omega))) | ((with_reducible first | refine g1_u8w ?_ ?_ | refine qg3 ?_ ?_); (focus ((repeat' (with_reducible apply And.intro)) <;> (first | assumption | omega | (simp only [bz, fz]; omega) | (simp (maxDischargeDepth := 8) only [bb, fz]; done)))); intro _) | (with_reducible apply call_elim; focus ((with_reducible first | apply e41 | apply e42) <;> (first | assumption | omega | (simp only [bz, fz]; omega) | (simp (maxDischargeDepth := 8) only [bb, fz]; done))))))
                  refine hK (next hgood) _ ?_
                  simp only [vv, ff, norm, Array.toList, List.map, Option.isSome_none, bne_self_eq_false, reduceIte, reduceCtorEq, Nat.reduceEqDiff, Nat.reduceAdd, Nat.reduceMul, Nat.reduceSub, Nat.reduceBEq, Nat.reduceLeDiff, Int.reduceEq, Int.reduceLT, Int.reduceLE, Int.reduceGE, Int.reduceGT, Int.reduceBEq, Int.reduceBNe, Int.reduceToNat, Int.reduceNeg, Int.reduceSub, Int.reduceAdd, Int.reduceMul, finish, qe7, resOf, resa, qe8, qe9, qf, keep, qf0, qf1, qf2, qe5, qe6, Int.natCast_add, cst1]
      · have hp := hprev hi0
        cases h2 : ltB pn x.nm with
        | false =>
          have hr := hr0 (by rw [hso]; simp [h2, hi0])
          (have fz := ga4 hg kb h2 hr; repeat' (first | simp (maxDischargeDepth := 8) only [go_sem, rr, reduceIte, reduceCtorEq, Nat.reduceEqDiff, Nat.reduceAdd, Nat.reduceMul, Nat.reduceSub, Nat.reduceBEq, Nat.reduceLeDiff, Int.reduceEq, Int.reduceLT, Int.reduceLE, Int.reduceGE, Int.reduceGT, Int.reduceBEq, Int.reduceBNe, Int.reduceToNat, Int.reduceNeg, Int.reduceSub, Int.reduceAdd, Int.reduceMul, fz, hp] | (with_reducible refine qg5 ?_ ?_; focus (first | (simp (maxDischargeDepth := 8) only [bb, kk, fz, hp]; done) | kernel_rfl)) | ((with_reducible first | refine qf3 ?_ ?_ | refine qf4 ?_ ?_ | refine qf5 ?_ ?_ | refine qf6 ?_ ?_ | refine qf7 ?_ ?_ | refine qf8 ?_ ?_ | refine qf9 ?_ ?_); focus (first | assumption | omega | (simp only [bz, fz, hp]; omega))) | ((with_reducible first | refine qg ?_ ?_ | refine qg0 ?_ ?_ | refine qg1 ?_ ?_); focus (first | assumption | omega | (simp only [bz, fz, hp]; omega))) | ((with_reducible first | refine g1_u8w ?_ ?_ | refine qg3 ?_ ?_); (focus ((repeat' (with_reducible apply And.intro)) <;> (first | assumption | omega | (simp only [bz, fz, hp]; omega) | (simp (maxDischargeDepth := 8) only [bb, fz, hp]; done)))); intro _) | (with_reducible apply call_elim; focus ((with_reducible first | apply e41 | apply e42) <;> (first | assumption | omega | (simp only [bz, fz, hp]; omega) | (simp (maxDischargeDepth := 8) only [bb, fz, hp]; done))))))
        | true =>
          cases k2 : pcsOK x.h with
          | false =>
            have hr := hr0 (by rw [hso]; simp only [itOK, k2, Bool.and_false, Bool.false_and])
            (have fz := ga5 hg kb h2 k2 hr; repeat' (first | simp (maxDischargeDepth := 8) only [go_sem, rr, reduceIte, reduceCtorEq, Nat.reduceEqDiff, Nat.reduceAdd, Nat.reduceMul, Nat.reduceSub, Nat.reduceBEq, Nat.reduceLeDiff, Int.reduceEq, Int.reduceLT, Int.reduceLE, Int.reduceGE, Int.reduceGT, Int.reduceBEq, Int.reduceBNe, Int.reduceToNat, Int.reduceNeg, Int.reduceSub, Int.reduceAdd, Int.reduceMul, fz, hp] | (with_reducible refine qg5 ?_ ?_; focus (first | (simp (maxDischargeDepth := 8) only [bb, kk, fz, hp]; done) | kernel_rfl)) | ((with_reducible first | refine qf3 ?_ ?_ | refine qf4 ?_ ?_ | refine qf5 ?_ ?_ | refine qf6 ?_ ?_ | refine qf7 ?_ ?_ | refine qf8 ?_ ?_ | refine qf9 ?_ ?_); focus (first | assumption | omega | (simp only [bz, fz, hp]; omega))) | ((with_reducible first | refine qg ?_ ?_ | refine qg0 ?_ ?_ | refine qg1 ?_ ?_); focus (first | assumption | omega | (simp only [bz, fz, hp]; omega))) | ((with_reducible first | refine g1_u8w ?_ ?_ | refine qg3 ?_ ?_); (focus ((repeat' (with_reducible apply And.intro)) <;> (first | assumption | omega | (simp only [bz, fz, hp]; omega) | (simp (maxDischargeDepth := 8) only [bb, fz, hp]; done)))); intro _) | (with_reducible apply call_elim; focus ((with_reducible first | apply e41 | apply e42) <;> (first | assumption | omega | (simp only [bz, fz, hp]; omega) | (simp (maxDischargeDepth := 8) only [bb, fz, hp]; done))))))
          | true =>
            cases k3 : pcsOK x.s with
            | false =>
              have hr := hr0 (by rw [hso]; simp only [itOK, k3, Bool.and_false, Bool.false_and])
              (have fz := ga6 hg kb h2 k2 k3 hr; repeat' (first | simp (maxDischargeDepth := 8) only [go_sem, rr, reduceIte, reduceCtorEq, Nat.reduceEqDiff, Nat.reduceAdd, Nat.reduceMul, Nat.reduceSub, Nat.reduceBEq, Nat.reduceLeDiff, Int.reduceEq, Int.reduceLT, Int.reduceLE, Int.reduceGE, Int.reduceGT, Int.reduceBEq, Int.reduceBNe, Int.reduceToNat, Int.reduceNeg, Int.reduceSub, Int.reduceAdd, Int.reduceMul, fz, hp] | (with_reducible refine qg5 ?_ ?_; focus (first | (simp (maxDischargeDepth := 8) only [bb, kk, fz, hp]; done) | kernel_rfl)) | ((with_reducible first | refine qf3 ?_ ?_ | refine qf4 ?_ ?_ | refine qf5 ?_ ?_ | refine qf6 ?_ ?_ | refine qf7 ?_ ?_ | refine qf8 ?_ ?_ | refine qf9 ?_ ?_); focus (first | assumption | omega | (simp only [bz, fz, hp]; omega))) | ((with_reducible first | refine qg ?_ ?_ | refine qg0 ?_ ?_ | refine qg1 ?_ ?_); focus (first | assumption | omega | (simp only [bz, fz, hp]; omega))) | ((with_reducible first | refine g1_u8w ?_ ?_ | refine qg3 ?_ ?_); (focus ((repeat' (with_reducible apply And.intro)) <;> (first | assumption | omega | (simp only [bz, fz, hp]; omega) | (simp (maxDischargeDepth := 8) only [bb, fz, hp]; done)))); intro _) | (with_reducible apply call_elim; focus ((with_reducible first | apply e41 | apply e42) <;> (first | assumption | omega | (simp only [bz, fz, hp]; omega) | (simp (maxDischargeDepth := 8) only [bb, fz, hp]; done))))))
            | true =>
              have m1 := pcs1 k2
              have m2 := pcs1 k3
              by_cases z1 : x.h.length = 0
              · by_cases z2 : x.s.length = 0
                · have hr := hr0 (by rw [hso]; simp [itOK, z1, z2])
                  (have fz := ga6 hg kb h2 k2 k3 hr; repeat' (first | simp (maxDischargeDepth := 8) only [go_sem, rr, reduceIte, reduceCtorEq, Nat.reduceEqDiff, Nat.reduceAdd, Nat.reduceMul, Nat.reduceSub, Nat.reduceBEq, Nat.reduceLeDiff, Int.reduceEq, Int.reduceLT, Int.reduceLE, Int.reduceGE, Int.reduceGT, Int.reduceBEq, Int.reduceBNe, Int.reduceToNat, Int.reduceNeg, Int.reduceSub, Int.reduceAdd, Int.reduceMul, fz, hp] | (with_reducible refine qg5 ?_ ?_; focus (first | (simp (maxDischargeDepth := 8) only [bb, kk, fz, hp]; done) | kernel_rfl)) | ((with_reducible first | refine qf3 ?_ ?_ | refine qf4 ?_ ?_ | refine qf5 ?_ ?_ | refine qf6 ?_ ?_ | refine qf7 ?_ ?_ | refine qf8 ?_ ?_ | refine qf9 ?_ ?_); focus (first | assumption | omega | (simp only [bz, fz, hp]; omega))) | ((with_reducible first | refine qg ?_ ?_ | refine qg0 ?_ ?_ | refine qg1 ?_ ?_); focus (first | assumption | omega | (simp only [bz, fz, hp]; omega))) | ((with_reducible first | refine g1_u8w ?_ ?_ | refine qg3 ?_ ?_); (focus ((repeat' (with_reducible apply And.intro)) <;> (first | assumption | omega | (simp only [bz, fz, hp]; omega) | (simp (maxDischargeDepth := 8) only [bb, fz, hp]; done)))); intro _) | (with_reducible apply call_elim; focus ((with_reducible first | apply e41 | apply e42) <;> (first | assumption | omega | (simp only [bz, fz, hp]; omega) | (simp (maxDischargeDepth := 8) only [bb, fz, hp]; done))))))
                · have hgood : siOK L i = true := by
                    rw [hso]; simp only [itOK, hkey, k2, k3]; simp [z1, z2, h2]
                  (have fz := ga5 hg kb h2 k2 k3; repeat' (first | simp (maxDischargeDepth := 8) only [go_sem, rr, reduceIte, reduceCtorEq, Nat.reduceEqDiff, Nat.reduceAdd, Nat.reduceMul, Nat.reduceSub, Nat.reduceBEq, Nat.reduceLeDiff, Int.reduceEq, Int.reduceLT, Int.reduceLE, Int.reduceGE, Int.reduceGT, Int.reduceBEq, Int.reduceBNe, Int.reduceToNat, Int.reduceNeg, Int.reduceSub, Int.reduceAdd, Int.reduceMul, fz, hp] | (with_reducible refine qg5 ?_ ?_; focus (first | (simp (maxDischargeDepth := 8) only [bb, kk, fz, hp]; done) | kernel_rfl)) | ((with_reducible first | refine qf3 ?_ ?_ | refine qf4 ?_ ?_ | refine qf5 ?_ ?_ | refine qf6 ?_ ?_ | refine qf7 ?_ ?_ | refine qf8 ?_ ?_ | refine qf9 ?_ ?_); focus (first | assumption | omega | (simp only [bz, fz, hp]; omega))) | ((with_reducible first | refine qg ?_ ?_ | refine qg0 ?_ ?_ | refine qg1 ?_ ?_); focus (first | assumption | omega | (simp only [bz, fz, hp]; omega))) | ((with_reducible first | refine g1_u8w ?_ ?_ | refine qg3 ?_ ?_); (focus ((repeat' (with_reducible apply And.intro)) <;> (first | assumption | omega | (simp only [bz, fz, hp]; omega) | (simp (maxDischargeDepth := 8) only [bb, fz, hp]; done)))); intro _) | (with_reducible apply call_elim; focus ((with_reducible first | apply e41 | apply e42) <;> (first | assumption | omega | (simp only [bz, fz, hp]; omega) | (simp (maxDischargeDepth := 8) only [bb, fz, hp]; done))))))
                  refine hK (next hgood) _ ?_
                  simp only [vv, ff, norm, Array.toList, List.map, Option.isSome_none, bne_self_eq_false, reduceIte, reduceCtorEq, Nat.reduceEqDiff, Nat.reduceAdd, Nat.reduceMul, Nat.reduceSub, Nat.reduceBEq, Nat.reduceLeDiff, Int.reduceEq, Int.reduceLT, Int.reduceLE, Int.reduceGE, Int.reduceGT, Int.reduceBEq, Int.reduceBNe, Int.reduceToNat, Int.reduceNeg, Int.reduceSub, Int.reduceAdd, Int.reduceMul, finish, qe7, resOf, resa, qe8, qe9, qf, keep, qf0, qf1, qf2, qe5, qe6, Int.natCast_add, cst1]
              · by_cases z2 : x.s.length = 0
                · have hgood : siOK L i = true := by
                    rw [hso]; simp only [itOK, hkey, k2, k3]; simp [z1, z2, h2]
                  (have fz := ga5 hg kb h2 k2 k3; repeat' (first | simp (maxDischargeDepth := 8) only [go_sem, rr, reduceIte, reduceCtorEq, Nat.reduceEqDiff, Nat.reduceAdd, Nat.reduceMul, Nat.reduceSub, Nat.reduceBEq, Nat.reduceLeDiff, Int.reduceEq, Int.reduceLT, Int.reduceLE, Int.reduceGE, Int.reduceGT, Int.reduceBEq, Int.reduceBNe, Int.reduceToNat, Int.reduceNeg, Int.reduceSub, Int.reduceAdd, Int.reduceMul, fz, hp] | (with_reducible refine qg5 ?_ ?_; focus (first | (simp (maxDischargeDepth := 8) only [bb, kk, fz, hp]; done) | kernel_rfl)) | ((with_reducible first | refine qf3 ?_ ?_ | refine qf4 ?_ ?_ | refine qf5 ?_ ?_ | refine qf6 ?_ ?_ | refine qf7 ?_ ?_ | refine qf8 ?_ ?_ | refine qf9 ?_ ?_); focus (first | assumption | omega | (simp only [bz, fz, hp]; omega))) | ((with_reducible first | refine qg ?_ ?_ | refine qg0 ?_ ?_ | refine qg1 ?_ ?_); focus (first | assumption | omega | (simp only [bz, fz, hp]; omega))) | ((with_reducible first | refine g1_u8w ?_ ?_ | refine qg3 ?_ ?_); (focus ((repeat' (with_reducible apply And.intro)) <;> (first | assumption | omega | (simp only [bz, fz, hp]; omega) | (simp (maxDischargeDepth := 8) only [bb, fz, hp]; done)))); intro _) | (with_reducible apply call_elim; focus ((with_reducible first | apply e41 | apply e42) <;> (first | assumption | omega | (simp only [bz, fz, hp]; omega) | (simp (maxDischargeDepth := 8) only [bb, fz, hp]; done))))))
                  refine hK (next hgood) _ ?_
                  simp only [vv, ff, norm, Array.toList, List.map, Option.isSome_none, bne_self_eq_false, reduceIte, reduceCtorEq, Nat.reduceEqDiff, Nat.reduceAdd, Nat.reduceMul, Nat.reduceSub, Nat.reduceBEq, Nat.reduceLeDiff, Int.reduceEq, Int.reduceLT, Int.reduceLE, Int.reduceGE, Int.reduceGT, Int.reduceBEq, Int.reduceBNe, Int.reduceToNat, Int.reduceNeg, Int.reduceSub, Int.reduceAdd, Int.reduceMul, finish, qe7, resOf, resa, qe8, qe9, qf, keep, qf0, qf1, qf2, qe5, qe6, Int.natCast_add, cst1]
                · have g1' := g_first x.h z1
                  have g2 := g_first x.s z2
                  by_cases hv : vAt x.h ≥ vAt x.s
                  · have hv' : ¬ vAt x.s > vAt x.h := by omega
                    have hr := hr0 (by rw [hso]; simp [itOK, z1, z2, hv'])
                    (have fz := ga8 hg kb h2 k2 k3 g1' g2 hr; repeat' (first | simp (maxDischargeDepth := 8) only [go_sem, rr, reduceIte, reduceCtorEq, Nat.reduceEqDiff, Nat.reduceAdd, Nat.reduceMul, Nat.reduceSub, Nat.reduceBEq, Nat.reduceLeDiff, Int.reduceEq, Int.reduceLT, Int.reduceLE, Int.reduceGE, Int.reduceGT, Int.reduceBEq, Int.reduceBNe, Int.reduceToNat, Int.reduceNeg, Int.reduceSub, Int.reduceAdd, Int.reduceMul, fz, hp] | (with_reducible refine qg5 ?_ ?_; focus (first | (simp (maxDischargeDepth := 8) only [bb, kk, fz, hp]; done) | kernel_rfl)) | ((with_reducible first | refine qf3 ?_ ?_ | refine qf4 ?_ ?_ | refine qf5 ?_ ?_ | refine qf6 ?_ ?_ | refine qf7 ?_ ?_ | refine qf8 ?_ ?_ | refine qf9 ?_ ?_); focus (first | assumption | omega | (simp only [bz, fz, hp]; omega))) | ((with_reducible first | refine qg ?_ ?_ | refine qg0 ?_ ?_ | refine qg1 ?_ ?_); focus (first | assumption | omega | (simp only [bz, fz, hp]; omega))) | ((with_reducible first | refine g1_u8w ?_ ?_ | refine qg3 ?_ ?_); (focus ((repeat' (with_reducible apply And.intro)) <;> (first | assumption | omega | (simp only [bz, fz, hp]; omega) | (simp (maxDischargeDepth := 8) only [bb, fz, hp]; done)))); intro _) | (with_reducible apply call_elim; focus ((with_reducible first | apply e41 | apply e42) <;> (first | assumption | omega | (simp only [bz, fz, hp]; omega) | (simp (maxDischargeDepth := 8) only [bb, fz, hp]; done))))))
                  · have hv' : vAt x.s > vAt x.h := by omega
                    have hgood : siOK L i = true := by
                      rw [hso]; simp only [itOK, hkey, k2, k3]; simp [z1, z2, hv', h2]
                    (have fz := ga7 hg kb h2 k2 k3 g1' g2; repeat' (first | simp (maxDischargeDepth := 8) only [go_sem, rr, reduceIte, reduceCtorEq, Nat.reduceEqDiff, Nat.reduceAdd, Nat.reduceMul, Nat.reduceSub, Nat.reduceBEq, Nat.reduceLeDiff, Int.reduceEq, Int.reduceLT, Int.reduceLE, Int.reduceGE, Int.reduceGT, Int.reduceBEq, Int.reduceBNe, Int.reduceToNat, Int.reduceNeg, Int.reduceSub, Int.reduceAdd, Int.reduceMul, fz, hp] | (with_reducible refine qg5 ?_ ?_; focus (first | (simp (maxDischargeDepth := 8) only [bb, kk, fz, hp]; done) | kernel_rfl)) | ((with_reducible first | refine qf3 ?_ ?_ | refine qf4 ?_ ?_ | refine qf5 ?_ ?_ | refine qf6 ?_ ?_ | refine qf7 ?_ ?_ | refine qf8 ?_ ?_ | refine qf9 ?_ ?_); focus (first | assumption | omega | (simp only [bz, fz, hp]; omega))) | ((with_reducible first | refine qg ?_ ?_ | refine qg0 ?_ ?_ | refine qg1 ?_ ?_); focus (first | assumption | omega | (simp only [bz, fz, hp]; omega))) | ((with_reducible first | refine g1_u8w ?_ ?_ | refine qg3 ?_ ?_); (focus ((repeat' (with_reducible apply And.intro)) <;> (first | assumption | omega | (simp only [bz, fz, hp]; omega) | (simp (maxDischargeDepth := 8) only [bb, fz, hp]; done)))); intro _) | (with_reducible apply call_elim; focus ((with_reducible first | apply e41 | apply e42) <;> (first | assumption | omega | (simp only [bz, fz, hp]; omega) | (simp (maxDischargeDepth := 8) only [bb, fz, hp]; done))))))
                    refine hK (next hgood) _ ?_
                    simp only [vv, ff, norm, Array.toList, List.map, Option.isSome_none, bne_self_eq_false, reduceIte, reduceCtorEq, Nat.reduceEqDiff, Nat.reduceAdd, Nat.reduceMul, Nat.reduceSub, Nat.reduceBEq, Nat.reduceLeDiff, Int.reduceEq, Int.reduceLT, Int.reduceLE, Int.reduceGE, Int.reduceGT, Int.reduceBEq, Int.reduceBNe, Int.reduceToNat, Int.reduceNeg, Int.reduceSub, Int.reduceAdd, Int.reduceMul, finish, qe7, resOf, resa, qe8, qe9, qf, keep, qf0, qf1, qf2, qe5, qe6, Int.natCast_add, cst1]
  · have hr := shOK_all hI
    (have fz := ga2 hr hq; repeat' (first | simp (maxDischargeDepth := 8) only [go_sem, rr, reduceIte, reduceCtorEq, Nat.reduceEqDiff, Nat.reduceAdd, Nat.reduceMul, Nat.reduceSub, Nat.reduceBEq, Nat.reduceLeDiff, Int.reduceEq, Int.reduceLT, Int.reduceLE, Int.reduceGE, Int.reduceGT, Int.reduceBEq, Int.reduceBNe, Int.reduceToNat, Int.reduceNeg, Int.reduceSub, Int.reduceAdd, Int.reduceMul, fz] | (with_reducible refine qg5 ?_ ?_; focus (first | (simp (maxDischargeDepth := 8) only [bb, kk, fz]; done) | kernel_rfl)) | ((with_reducible first | refine qf3 ?_ ?_ | refine qf4 ?_ ?_ | refine qf5 ?_ ?_ | refine qf6 ?_ ?_ | refine qf7 ?_ ?_ | refine qf8 ?_ ?_ | refine qf9 ?_ ?_); focus (first | assumption | omega | (simp only [bz, fz]; omega))) | ((with_reducible first | refine qg ?_ ?_ | refine qg0 ?_ ?_ | refine qg1 ?_ ?_); focus (first | assumption | omega | (simp only [bz, fz]; omega))) | ((with_reducible first | refine g1_u8w ?_ ?_ | refine qg3 ?_ ?_); (focus ((repeat' (with_reducible apply And.intro)) <;> (first | assumption | omega | (simp only [bz, fz]; omega) | (simp (maxDischargeDepth := 8) only [bb, fz]; done)))); intro _)))
theorem okPs_of {L : List XPiece} (h : totS sPiece L ≤ 1048576) (hK : ∀ y, y ∈ L → KPiece y) : OkPs L := by
  refine ⟨Nat.le_trans (totS_len _ _) h, fun x hx => ?_⟩
  obtain ⟨i, hi, rfl⟩ := List.mem_iff_getElem.mp hx
  exact ⟨(hK _ hx).1.2, Nat.le_trans (totS_one sPiece hi) h⟩
theorem okI_of {x : XItem} (h : sItem x ≤ 1048576) (hK : KItem x) : OkI x := by
  obtain ⟨k0, ⟨k1, l1⟩, ⟨k2, l2⟩, _⟩ := hK
  unfold sItem at h
  exact ⟨by omega, okPs_of (by omega) l1, okPs_of (by omega) l2⟩
theorem okIs_of {L : List XItem} (h : totS sItem L ≤ 1048576) (hK : ∀ y, y ∈ L → KItem y) : OkIs L := by
  refine ⟨Nat.le_trans (totS_len _ _) h, fun x hx => ?_⟩
  obtain ⟨i, hi, rfl⟩ := List.mem_iff_getElem.mp hx
  exact okI_of (Nat.le_trans (totS_one sItem hi) h) (hK _ hx)
end Go.Proofs.YtghmmockgbiehaaDoor.VH.S
end

section
namespace Go.Proofs.YtghmmockgbiehaaDoor.VH.S
open Go.Proofs
set_option maxRecDepth 100000

abbrev shPiece : Sh := .st (.pair (.int .i64) (.pair (.sl (.int .u8)) .unit))
theorem ftPiece {r : List AV} (h : Fits shPiece r) : ∃ x : XPiece, r = fPiece x ∧ KPiece x := by
  have hm : maxLen ≤ 9223372036854775807 := by decide
  obtain ⟨_, _, rfl, g0, q0⟩ := fits_pair (cs := r) h
  obtain ⟨x0, rfl, _⟩ := fits_int g0
  obtain ⟨_, _, rfl, g1, q1⟩ := fits_pair q0
  obtain ⟨x1, rfl, l1, w1⟩ := fits_sl_int g1
  obtain rfl := fits_unit q1
  exact ⟨⟨x0, x1⟩, rfl, ⟨⟨l1, B8.wf w1⟩, trivial⟩⟩
theorem ftPieceL : ∀ {rows : List (List AV)}, (∀ r, r ∈ rows → Fits shPiece r) → ∃ L : List XPiece, L.length = rows.length ∧ rows.flatten = flat fPiece L ∧ ∀ y, y ∈ L → KPiece y
  | [], _ => ⟨[], rfl, rfl, fun y h => by simp at h⟩
  | r :: rs, h => by
    obtain ⟨x, rfl, hx⟩ := ftPiece (h r (by simp))
    obtain ⟨L, h1, h2, h3⟩ := ftPieceL (rows := rs) fun r hr => h r (by simp [hr])
    exact ⟨x :: L, by simp [h1], by rw [List.flatten_cons, h2]; rfl, fun y hy => by
      rcases List.mem_cons.mp hy with e | e
      · rw [e]; exact hx
      · exact h3 y e⟩
abbrev shItem : Sh := .st (.pair .str (.pair (.sl shPiece) (.pair (.sl shPiece) .unit)))
theorem ftItem {r : List AV} (h : Fits shItem r) : ∃ x : XItem, r = fItem x ∧ KItem x := by
  have hm : maxLen ≤ 9223372036854775807 := by decide
  obtain ⟨_, _, rfl, g0, q0⟩ := fits_pair (cs := r) h
  obtain ⟨s0, rfl, w0⟩ := fits_str g0
  obtain ⟨x0, rfl⟩ : ∃ t, s0 = sB t := ⟨_, sB_of s0⟩
  rw [sB_size] at w0
  obtain ⟨_, _, rfl, g1, q1⟩ := fits_pair q0
  obtain ⟨rows1, r1, l1, rfl⟩ := fits_sl_st g1
  obtain ⟨x1, a1, b1, c1⟩ := ftPieceL r1
  rw [b1, ← a1]
  rw [← a1] at l1
  obtain ⟨_, _, rfl, g2, q2⟩ := fits_pair q1
  obtain ⟨rows2, r2, l2, rfl⟩ := fits_sl_st g2
  obtain ⟨x2, a2, b2, c2⟩ := ftPieceL r2
  rw [b2, ← a2]
  rw [← a2] at l2
  obtain rfl := fits_unit q2
  exact ⟨⟨x0, x1, x2⟩, rfl, ⟨by show x0.length ≤ _; omega, ⟨l1, c1⟩, ⟨l2, c2⟩, trivial⟩⟩
theorem ftItemL : ∀ {rows : List (List AV)}, (∀ r, r ∈ rows → Fits shItem r) → ∃ L : List XItem, L.length = rows.length ∧ rows.flatten = flat fItem L ∧ ∀ y, y ∈ L → KItem y
  | [], _ => ⟨[], rfl, rfl, fun y h => by simp at h⟩
  | r :: rs, h => by
    obtain ⟨x, rfl, hx⟩ := ftItem (h r (by simp))
    obtain ⟨L, h1, h2, h3⟩ := ftItemL (rows := rs) fun r hr => h r (by simp [hr])
    exact ⟨x :: L, by simp [h1], by rw [List.flatten_cons, h2]; rfl, fun y hy => by
      rcases List.mem_cons.mp hy with e | e
      · rw [e]; exact hx
      · exact h3 y e⟩
end Go.Proofs.YtghmmockgbiehaaDoor.VH.S
end

section
namespace Go.Proofs.YtghmmockgbiehaaDoor.VH.S
open Go.Proofs
set_option maxRecDepth 100000
set_option maxHeartbeats 8000000
set_option linter.unusedSimpArgs false

end Go.Proofs.YtghmmockgbiehaaDoor.VH.S
end

section
namespace Go.Proofs.YtghmmockgbiehaaDoor.VH.S
open Go.Proofs
set_option maxRecDepth 100000
set_option maxHeartbeats 8000000
set_option linter.unusedSimpArgs false

end Go.Proofs.YtghmmockgbiehaaDoor.VH.S
end

section
namespace Go.Proofs.YtghmmockgbiehaaDoor.VH.S
open Go.Proofs
set_option maxRecDepth 100000
set_option maxHeartbeats 8000000
set_option linter.unusedSimpArgs false

/- Marks that are texts. -/
theorem e28 (d : Nat) (k : Nat) (h0 : 0 < k) (hk : k ≤ 549755813880) : evFun E (d+1) 28 [vi k] [] = some (vs (mT k), []) := by
  refine evFun_body b28 ?_
  (repeat' (first | simp (maxDischargeDepth := 8) only [go_sem, rr, reduceIte, reduceCtorEq, Nat.reduceEqDiff, Nat.reduceAdd, Nat.reduceMul, Nat.reduceSub, Nat.reduceBEq, Nat.reduceLeDiff, Int.reduceEq, Int.reduceLT, Int.reduceLE, Int.reduceGE, Int.reduceGT, Int.reduceBEq, Int.reduceBNe, Int.reduceToNat, Int.reduceNeg, Int.reduceSub, Int.reduceAdd, Int.reduceMul, Tryd.f28] | (with_reducible refine qg5 ?_ ?_; focus (first | (simp (maxDischargeDepth := 8) only [bb, kk]; done) | kernel_rfl)) | ((with_reducible first | refine qf3 ?_ ?_ | refine qf4 ?_ ?_ | refine qf5 ?_ ?_ | refine qf6 ?_ ?_ | refine qf7 ?_ ?_ | refine qf8 ?_ ?_ | refine qf9 ?_ ?_); focus (first | assumption | omega | (simp only [bz]; omega))) | ((with_reducible first | refine qg ?_ ?_ | refine qg0 ?_ ?_ | refine qg1 ?_ ?_); focus (first | assumption | omega | (simp only [bz]; omega))) | ((with_reducible first | refine g1_u8w ?_ ?_ | refine qg3 ?_ ?_); (focus ((repeat' (with_reducible apply And.intro)) <;> (first | assumption | omega | (simp only [bz]; omega) | (simp (maxDischargeDepth := 8) only [bb]; done)))); intro _) | ((with_reducible refine g1_64w ?_ ?_); (focus ((repeat' (with_reducible apply And.intro)) <;> (first | assumption | omega | (simp only [bz]; omega) | (simp (maxDischargeDepth := 8) only [bb]; done)))); intro _)))
  refine loop_wf (α := Nat × List UInt8) (fun a => {T := tp [(0, vi a.1), (3, vs a.2)], H := hp [], nx := 0}) (fun a => digs a.1 ++ a.2 = digs k ∧ a.1 ≤ k) (fun a => a.1) ?_ (k, []) ?_ ⟨by simp, Nat.le_refl _⟩ (lt_LF (by simp only; omega))
  · rintro ⟨m, out⟩ ⟨h1, h2⟩ Kn hK
    simp only at h1 h2
    have hlen : (digs m).length + out.length ≤ 549755813880 := by
      have := digs_len k
      rw [← h1, List.length_append] at this; omega
    by_cases hm : m = 0
    · subst hm
      rw [digs_zero, List.nil_append] at h1
      have hdl : (digs k).length ≤ 549755813880 := by rw [← h1]; omega
      (repeat' (first | simp (maxDischargeDepth := 8) only [go_sem, rr, reduceIte, reduceCtorEq, Nat.reduceEqDiff, Nat.reduceAdd, Nat.reduceMul, Nat.reduceSub, Nat.reduceBEq, Nat.reduceLeDiff, Int.reduceEq, Int.reduceLT, Int.reduceLE, Int.reduceGE, Int.reduceGT, Int.reduceBEq, Int.reduceBNe, Int.reduceToNat, Int.reduceNeg, Int.reduceSub, Int.reduceAdd, Int.reduceMul, h1, mT] | (with_reducible refine qg5 ?_ ?_; focus (first | (simp (maxDischargeDepth := 8) only [bb, kk, h1, mT]; done) | kernel_rfl)) | ((with_reducible first | refine qf3 ?_ ?_ | refine qf4 ?_ ?_ | refine qf5 ?_ ?_ | refine qf6 ?_ ?_ | refine qf7 ?_ ?_ | refine qf8 ?_ ?_ | refine qf9 ?_ ?_); focus (first | assumption | omega | (simp only [bz, h1, mT]; omega))) | ((with_reducible first | refine qg ?_ ?_ | refine qg0 ?_ ?_ | refine qg1 ?_ ?_); focus (first | assumption | omega | (simp only [bz, h1, mT]; omega))) | ((with_reducible first | refine g1_u8w ?_ ?_ | refine qg3 ?_ ?_); (focus ((repeat' (with_reducible apply And.intro)) <;> (first | assumption | omega | (simp only [bz, h1, mT]; omega) | (simp (maxDischargeDepth := 8) only [bb, h1, mT]; done)))); intro _) | ((with_reducible refine g1_64w ?_ ?_); (focus ((repeat' (with_reducible apply And.intro)) <;> (first | assumption | omega | (simp only [bz, h1, mT]; omega) | (simp (maxDischargeDepth := 8) only [bb, h1, mT]; done)))); intro _)))
    · have t1 : (m : Int).tmod 10 = ((m % 10 : Nat) : Int) := rfl
      have t2 : (m : Int).tdiv 10 = ((m / 10 : Nat) : Int) := rfl
      have t3 : IntKind.i64.wrap ((m / 10 : Nat) : Int) = ((m / 10 : Nat) : Int) := wrap64 (by omega) (by omega)
      have hol : out.length + 1 ≤ 549755813880 := by
        rw [digs_pos (by omega), List.length_append] at hlen
        simp at hlen; omega
      have t4 : (48 + ((m % 10 : Nat) : Int)).toNat = 48 + m % 10 := by omega
      (have fz := ga4 t1 t2 t3 t4; repeat' (first | simp (maxDischargeDepth := 8) only [go_sem, rr, reduceIte, reduceCtorEq, Nat.reduceEqDiff, Nat.reduceAdd, Nat.reduceMul, Nat.reduceSub, Nat.reduceBEq, Nat.reduceLeDiff, Int.reduceEq, Int.reduceLT, Int.reduceLE, Int.reduceGE, Int.reduceGT, Int.reduceBEq, Int.reduceBNe, Int.reduceToNat, Int.reduceNeg, Int.reduceSub, Int.reduceAdd, Int.reduceMul, fz, bytesOf, byteOf, cellsIn] | (with_reducible refine qg5 ?_ ?_; focus (first | (simp (maxDischargeDepth := 8) only [bb, kk, fz, bytesOf, byteOf, cellsIn]; done) | kernel_rfl)) | ((with_reducible first | refine qf3 ?_ ?_ | refine qf4 ?_ ?_ | refine qf5 ?_ ?_ | refine qf6 ?_ ?_ | refine qf7 ?_ ?_ | refine qf8 ?_ ?_ | refine qf9 ?_ ?_); focus (first | assumption | omega | (simp only [bz, fz, bytesOf, byteOf, cellsIn]; omega))) | ((with_reducible first | refine qg ?_ ?_ | refine qg0 ?_ ?_ | refine qg1 ?_ ?_); focus (first | assumption | omega | (simp only [bz, fz, bytesOf, byteOf, cellsIn]; omega))) | ((with_reducible first | refine g1_u8w ?_ ?_ | refine qg3 ?_ ?_); (focus ((repeat' (with_reducible apply And.intro)) <;> (first | assumption | omega | (simp only [bz, fz, bytesOf, byteOf, cellsIn]; omega) | (simp (maxDischargeDepth := 8) only [bb, fz, bytesOf, byteOf, cellsIn]; done)))); intro _) | ((with_reducible refine g1_64w ?_ ?_); (focus ((repeat' (with_reducible apply And.intro)) <;> (first | assumption | omega | (simp only [bz, fz, bytesOf, byteOf, cellsIn]; omega) | (simp (maxDischargeDepth := 8) only [bb, fz, bytesOf, byteOf, cellsIn]; done)))); intro _)))
      refine hK (m / 10, UInt8.ofNat (48 + m % 10) :: out) ⟨?_, by simp only; omega⟩ (by simp only; omega) _ ?_
      · simp only
        rw [← h1, digs_pos (show 0 < m by omega), List.append_assoc]; rfl
      · simp only [vv, ff, norm, Array.toList, List.map, Option.isSome_none, bne_self_eq_false, reduceIte, reduceCtorEq, Nat.reduceEqDiff, Nat.reduceAdd, Nat.reduceMul, Nat.reduceSub, Nat.reduceBEq, Nat.reduceLeDiff, Int.reduceEq, Int.reduceLT, Int.reduceLE, Int.reduceGE, Int.reduceGT, Int.reduceBEq, Int.reduceBNe, Int.reduceToNat, Int.reduceNeg, Int.reduceSub, Int.reduceAdd, Int.reduceMul, finish, qe7, resOf, resa, qe8, qe9, qf, keep, qf0, qf1, qf2, qe5, qe6]
  · simp only [vv, ff, norm, Array.toList, List.map, Option.isSome_none, bne_self_eq_false, reduceIte, reduceCtorEq, Nat.reduceEqDiff, Nat.reduceAdd, Nat.reduceMul, Nat.reduceSub, Nat.reduceBEq, Nat.reduceLeDiff, Int.reduceEq, Int.reduceLT, Int.reduceLE, Int.reduceGE, Int.reduceGT, Int.reduceBEq, Int.reduceBNe, Int.reduceToNat, Int.reduceNeg, Int.reduceSub, Int.reduceAdd, Int.reduceMul, finish, qe7, resOf, resa, qe8, qe9, qf, keep, qf0, qf1, qf2, qe5, qe6]
/-- texts in a row -/
abbrev txt (l : List (List UInt8)) : List AV := l.map fun s => vs s
theorem txt_snap : ∀ l : List (List UInt8), qe9 (txt l) = true
  | [] => rfl
  | s :: l => by simp only [txt, List.map_cons, qe9, qe8]; exact txt_snap l
theorem txt_own : ∀ l : List (List UInt8), (txt l).any qb8 = false
  | [] => rfl
  | s :: l => by simp only [txt, List.map_cons, List.any_cons, qb8]; exact txt_own l
theorem txt_sl : ∀ l : List (List UInt8), (txt l).any isSl = false
  | [] => rfl
  | s :: l => by simp only [txt, List.map_cons, List.any_cons, isSl]; exact txt_sl l
def tA (l : List (List UInt8)) (i : Nat) : List UInt8 := l.getD i []
theorem tA_get {l : List (List UInt8)} {i : Nat} (h : i < l.length) : tA l i = l[i] := by
  rw [tA, List.getD_eq_getElem?_getD, List.getElem?_eq_getElem h]; rfl
theorem txt_g1 (l : List (List UInt8)) {i : Nat} (h : i < l.length) : g1 (txt l) i = some (vs (tA l i)) := by
  rw [tA_get h]; simp [g1, h]
theorem txt_len (l : List (List UInt8)) : (txt l).length = l.length := by simp
theorem txt_set (l : List (List UInt8)) (i : Nat) (s : List UInt8) : (txt l).set i (vs s) = txt (l.set i s) := by simp [txt, List.map_set]
/-- marks -/
def mkT (k n : Nat) : List (List UInt8) := (List.range n).map fun i => mT (k + i)
theorem mkT_len (k n : Nat) : (mkT k n).length = n := by simp [mkT]
theorem mkT_at (k : Nat) {n i : Nat} (h : i < n) : tA (mkT k n) i = mT (k + i) := by rw [tA_get (by rw [mkT_len]; exact h)]; simp [mkT]
def mkP (k : Nat) (l : List (List UInt8)) (i : Nat) : List (List UInt8) := mkT k i ++ l.drop i
theorem mkP_len (k : Nat) (l : List (List UInt8)) {i : Nat} (h : i ≤ l.length) : (mkP k l i).length = l.length := by simp [mkP, mkT_len]; omega
theorem mkP_zero (k : Nat) (l : List (List UInt8)) : mkP k l 0 = l := by simp [mkP, mkT]
theorem mkP_full (k : Nat) (l : List (List UInt8)) : mkP k l l.length = mkT k l.length := by simp [mkP]
theorem mkP_set (k : Nat) (l : List (List UInt8)) {i : Nat} (h : i < l.length) : (mkP k l i).set i (mT (k + i)) = mkP k l (i + 1) := by
  have hd : l.drop i = l[i] :: l.drop (i + 1) := List.drop_eq_getElem_cons h
  have hm : mkT k (i + 1) = mkT k i ++ [mT (k + i)] := by simp [mkT, List.range_succ]
  rw [mkP, mkP, hd, hm, List.set_append_right _ _ (by simp [mkT_len])]
  simp only [mkT_len, Nat.sub_self, List.set_cons_zero, List.append_assoc, List.cons_append, List.nil_append]
theorem e12 (d : Nat) (l : List (List UInt8)) (c : Option Nat) (k : Nat) (h0 : 0 < k) (hk : k + l.length ≤ 549755813880) : evFun E (d+2) 12 [.ref 0 [] 1 0 l.length c, vi k] [txt l] = some (vi (k + l.length), [some (txt (mkT k l.length))]) := by
  refine evFun_body b12 ?_
  (repeat' (first | simp (maxDischargeDepth := 8) only [go_sem, rr, reduceIte, reduceCtorEq, Nat.reduceEqDiff, Nat.reduceAdd, Nat.reduceMul, Nat.reduceSub, Nat.reduceBEq, Nat.reduceLeDiff, Int.reduceEq, Int.reduceLT, Int.reduceLE, Int.reduceGE, Int.reduceGT, Int.reduceBEq, Int.reduceBNe, Int.reduceToNat, Int.reduceNeg, Int.reduceSub, Int.reduceAdd, Int.reduceMul, Tryd.f12] | (with_reducible refine qg5 ?_ ?_; focus (first | (simp (maxDischargeDepth := 8) only [bb, kk]; done) | kernel_rfl)) | ((with_reducible first | refine qf3 ?_ ?_ | refine qf4 ?_ ?_ | refine qf5 ?_ ?_ | refine qf6 ?_ ?_ | refine qf7 ?_ ?_ | refine qf8 ?_ ?_ | refine qf9 ?_ ?_); focus (first | assumption | omega | (simp only [bz]; omega))) | ((with_reducible first | refine qg ?_ ?_ | refine qg0 ?_ ?_ | refine qg1 ?_ ?_); focus (first | assumption | omega | (simp only [bz]; omega))) | ((with_reducible first | refine g1_u8w ?_ ?_ | refine qg3 ?_ ?_); (focus ((repeat' (with_reducible apply And.intro)) <;> (first | assumption | omega | (simp only [bz]; omega) | (simp (maxDischargeDepth := 8) only [bb]; done)))); intro _) | ((with_reducible refine g1_64w ?_ ?_); (focus ((repeat' (with_reducible apply And.intro)) <;> (first | assumption | omega | (simp only [bz]; omega) | (simp (maxDischargeDepth := 8) only [bb]; done)))); intro _)))
  refine loop_go (fun i => {T := tp [(0, .ref 0 [] 1 0 l.length c), (1, vi (k + (i : Int))), (5, vi i)], H := hp [some (txt (mkP k l i))], nx := 1}) l.length ?_ (lt_LF (by omega)) (fun i hi Kn hK => ?_) (fun Kn => ?_)
  · simp only [vv, ff, norm, Array.toList, List.map, Option.isSome_none, bne_self_eq_false, reduceIte, reduceCtorEq, Nat.reduceEqDiff, Nat.reduceAdd, Nat.reduceMul, Nat.reduceSub, Nat.reduceBEq, Nat.reduceLeDiff, Int.reduceEq, Int.reduceLT, Int.reduceLE, Int.reduceGE, Int.reduceGT, Int.reduceBEq, Int.reduceBNe, Int.reduceToNat, Int.reduceNeg, Int.reduceSub, Int.reduceAdd, Int.reduceMul, finish, qe7, resOf, resa, qe8, qe9, qf, keep, qf0, qf1, qf2, qe5, qe6, Int.natCast_zero, Int.add_zero, mkP_zero]
  · have hs := txt_set (mkP k l i) i (mT (k + i))
    rw [mkP_set _ _ hi] at hs
    have hlen : (txt (mkP k l i)).length = l.length := by rw [txt_len, mkP_len _ _ (by omega)]
    have hc : (k : Int) + i = ((k + i : Nat) : Int) := by omega
    have hT : evFun E (d+1) 28 [vi ((k : Int) + i)] [] = some (vs (mT (k + i)), []) := by rw [hc]; exact e28 d (k + i) (by omega) (by omega)
    (have fz := ga3 hs hlen hT; repeat' (first | simp (maxDischargeDepth := 8) only [go_sem, rr, reduceIte, reduceCtorEq, Nat.reduceEqDiff, Nat.reduceAdd, Nat.reduceMul, Nat.reduceSub, Nat.reduceBEq, Nat.reduceLeDiff, Int.reduceEq, Int.reduceLT, Int.reduceLE, Int.reduceGE, Int.reduceGT, Int.reduceBEq, Int.reduceBNe, Int.reduceToNat, Int.reduceNeg, Int.reduceSub, Int.reduceAdd, Int.reduceMul, fz] | (with_reducible refine qg5 ?_ ?_; focus (first | (simp (maxDischargeDepth := 8) only [bb, kk, fz]; done) | kernel_rfl)) | ((with_reducible first | refine qf3 ?_ ?_ | refine qf4 ?_ ?_ | refine qf5 ?_ ?_ | refine qf6 ?_ ?_ | refine qf7 ?_ ?_ | refine qf8 ?_ ?_ | refine qf9 ?_ ?_); focus (first | assumption | omega | (simp only [bz, fz]; omega))) | ((with_reducible first | refine qg ?_ ?_ | refine qg0 ?_ ?_ | refine qg1 ?_ ?_); focus (first | assumption | omega | (simp only [bz, fz]; omega))) | ((with_reducible first | refine g1_u8w ?_ ?_ | refine qg3 ?_ ?_); (focus ((repeat' (with_reducible apply And.intro)) <;> (first | assumption | omega | (simp only [bz, fz]; omega) | (simp (maxDischargeDepth := 8) only [bb, fz]; done)))); intro _) | ((with_reducible refine g1_64w ?_ ?_); (focus ((repeat' (with_reducible apply And.intro)) <;> (first | assumption | omega | (simp only [bz, fz]; omega) | (simp (maxDischargeDepth := 8) only [bb, fz]; done)))); intro _)))
    refine hK _ ?_
    simp only [vv, ff, norm, Array.toList, List.map, Option.isSome_none, bne_self_eq_false, reduceIte, reduceCtorEq, Nat.reduceEqDiff, Nat.reduceAdd, Nat.reduceMul, Nat.reduceSub, Nat.reduceBEq, Nat.reduceLeDiff, Int.reduceEq, Int.reduceLT, Int.reduceLE, Int.reduceGE, Int.reduceGT, Int.reduceBEq, Int.reduceBNe, Int.reduceToNat, Int.reduceNeg, Int.reduceSub, Int.reduceAdd, Int.reduceMul, finish, qe7, resOf, resa, qe8, qe9, qf, keep, qf0, qf1, qf2, qe5, qe6, Int.natCast_add, cst1, Int.add_assoc]
  · have hsn := txt_snap (mkT k l.length)
    (repeat' (first | simp (maxDischargeDepth := 8) only [go_sem, rr, reduceIte, reduceCtorEq, Nat.reduceEqDiff, Nat.reduceAdd, Nat.reduceMul, Nat.reduceSub, Nat.reduceBEq, Nat.reduceLeDiff, Int.reduceEq, Int.reduceLT, Int.reduceLE, Int.reduceGE, Int.reduceGT, Int.reduceBEq, Int.reduceBNe, Int.reduceToNat, Int.reduceNeg, Int.reduceSub, Int.reduceAdd, Int.reduceMul, mkP_full, hsn] | (with_reducible refine qg5 ?_ ?_; focus (first | (simp (maxDischargeDepth := 8) only [bb, kk, mkP_full, hsn]; done) | kernel_rfl)) | ((with_reducible first | refine qf3 ?_ ?_ | refine qf4 ?_ ?_ | refine qf5 ?_ ?_ | refine qf6 ?_ ?_ | refine qf7 ?_ ?_ | refine qf8 ?_ ?_ | refine qf9 ?_ ?_); focus (first | assumption | omega | (simp only [bz, mkP_full, hsn]; omega))) | ((with_reducible first | refine qg ?_ ?_ | refine qg0 ?_ ?_ | refine qg1 ?_ ?_); focus (first | assumption | omega | (simp only [bz, mkP_full, hsn]; omega))) | ((with_reducible first | refine g1_u8w ?_ ?_ | refine qg3 ?_ ?_); (focus ((repeat' (with_reducible apply And.intro)) <;> (first | assumption | omega | (simp only [bz, mkP_full, hsn]; omega) | (simp (maxDischargeDepth := 8) only [bb, mkP_full, hsn]; done)))); intro _) | ((with_reducible refine g1_64w ?_ ?_); (focus ((repeat' (with_reducible apply And.intro)) <;> (first | assumption | omega | (simp only [bz, mkP_full, hsn]; omega) | (simp (maxDischargeDepth := 8) only [bb, mkP_full, hsn]; done)))); intro _)))
theorem e13 (d : Nat) (n : Nat) (tg : Tg) (c : Option Nat) (k : Nat) (h0 : 0 < k) (hk : k + n ≤ 549755813880) : evFun E (d+2) 13 [.sl tg 1 n c (txt (mkT k n)), vi k] [] = some (vi (k + n), []) := by
  refine evFun_body b13 ?_
  (repeat' (first | simp (maxDischargeDepth := 8) only [go_sem, rr, reduceIte, reduceCtorEq, Nat.reduceEqDiff, Nat.reduceAdd, Nat.reduceMul, Nat.reduceSub, Nat.reduceBEq, Nat.reduceLeDiff, Int.reduceEq, Int.reduceLT, Int.reduceLE, Int.reduceGE, Int.reduceGT, Int.reduceBEq, Int.reduceBNe, Int.reduceToNat, Int.reduceNeg, Int.reduceSub, Int.reduceAdd, Int.reduceMul, Tryd.f13] | (with_reducible refine qg5 ?_ ?_; focus (first | (simp (maxDischargeDepth := 8) only [bb, kk]; done) | kernel_rfl)) | ((with_reducible first | refine qf3 ?_ ?_ | refine qf4 ?_ ?_ | refine qf5 ?_ ?_ | refine qf6 ?_ ?_ | refine qf7 ?_ ?_ | refine qf8 ?_ ?_ | refine qf9 ?_ ?_); focus (first | assumption | omega | (simp only [bz]; omega))) | ((with_reducible first | refine qg ?_ ?_ | refine qg0 ?_ ?_ | refine qg1 ?_ ?_); focus (first | assumption | omega | (simp only [bz]; omega))) | ((with_reducible first | refine g1_u8w ?_ ?_ | refine qg3 ?_ ?_); (focus ((repeat' (with_reducible apply And.intro)) <;> (first | assumption | omega | (simp only [bz]; omega) | (simp (maxDischargeDepth := 8) only [bb]; done)))); intro _) | ((with_reducible refine g1_64w ?_ ?_); (focus ((repeat' (with_reducible apply And.intro)) <;> (first | assumption | omega | (simp only [bz]; omega) | (simp (maxDischargeDepth := 8) only [bb]; done)))); intro _)))
  refine loop_go (fun i => {T := tp [(0, .sl tg 1 n c (txt (mkT k n))), (1, vi (k + (i : Int))), (5, vi i)], H := hp [], nx := 0}) n ?_ (lt_LF (by omega)) (fun i hi Kn hK => ?_) (fun Kn => ?_)
  · simp only [vv, ff, norm, Array.toList, List.map, Option.isSome_none, bne_self_eq_false, reduceIte, reduceCtorEq, Nat.reduceEqDiff, Nat.reduceAdd, Nat.reduceMul, Nat.reduceSub, Nat.reduceBEq, Nat.reduceLeDiff, Int.reduceEq, Int.reduceLT, Int.reduceLE, Int.reduceGE, Int.reduceGT, Int.reduceBEq, Int.reduceBNe, Int.reduceToNat, Int.reduceNeg, Int.reduceSub, Int.reduceAdd, Int.reduceMul, finish, qe7, resOf, resa, qe8, qe9, qf, keep, qf0, qf1, qf2, qe5, qe6, Int.natCast_zero, Int.add_zero]
  · have hg := txt_g1 (mkT k n) (i := i) (by rw [mkT_len]; exact hi)
    rw [mkT_at k hi] at hg
    have hc : (k : Int) + i = ((k + i : Nat) : Int) := by omega
    have hT : evFun E (d+1) 28 [vi ((k : Int) + i)] [] = some (vs (mT (k + i)), []) := by rw [hc]; exact e28 d (k + i) (by omega) (by omega)
    have he : (mT (k + i) == mT (k + i)) = true := by simp
    (have fz := ga3 hg hT he; repeat' (first | simp (maxDischargeDepth := 8) only [go_sem, rr, reduceIte, reduceCtorEq, Nat.reduceEqDiff, Nat.reduceAdd, Nat.reduceMul, Nat.reduceSub, Nat.reduceBEq, Nat.reduceLeDiff, Int.reduceEq, Int.reduceLT, Int.reduceLE, Int.reduceGE, Int.reduceGT, Int.reduceBEq, Int.reduceBNe, Int.reduceToNat, Int.reduceNeg, Int.reduceSub, Int.reduceAdd, Int.reduceMul, fz] | (with_reducible refine qg5 ?_ ?_; focus (first | (simp (maxDischargeDepth := 8) only [bb, kk, fz]; done) | kernel_rfl)) | ((with_reducible first | refine qf3 ?_ ?_ | refine qf4 ?_ ?_ | refine qf5 ?_ ?_ | refine qf6 ?_ ?_ | refine qf7 ?_ ?_ | refine qf8 ?_ ?_ | refine qf9 ?_ ?_); focus (first | assumption | omega | (simp only [bz, fz]; omega))) | ((with_reducible first | refine qg ?_ ?_ | refine qg0 ?_ ?_ | refine qg1 ?_ ?_); focus (first | assumption | omega | (simp only [bz, fz]; omega))) | ((with_reducible first | refine g1_u8w ?_ ?_ | refine qg3 ?_ ?_); (focus ((repeat' (with_reducible apply And.intro)) <;> (first | assumption | omega | (simp only [bz, fz]; omega) | (simp (maxDischargeDepth := 8) only [bb, fz]; done)))); intro _) | ((with_reducible refine g1_64w ?_ ?_); (focus ((repeat' (with_reducible apply And.intro)) <;> (first | assumption | omega | (simp only [bz, fz]; omega) | (simp (maxDischargeDepth := 8) only [bb, fz]; done)))); intro _)))
    refine hK _ ?_
    simp only [vv, ff, norm, Array.toList, List.map, Option.isSome_none, bne_self_eq_false, reduceIte, reduceCtorEq, Nat.reduceEqDiff, Nat.reduceAdd, Nat.reduceMul, Nat.reduceSub, Nat.reduceBEq, Nat.reduceLeDiff, Int.reduceEq, Int.reduceLT, Int.reduceLE, Int.reduceGE, Int.reduceGT, Int.reduceBEq, Int.reduceBNe, Int.reduceToNat, Int.reduceNeg, Int.reduceSub, Int.reduceAdd, Int.reduceMul, finish, qe7, resOf, resa, qe8, qe9, qf, keep, qf0, qf1, qf2, qe5, qe6, Int.natCast_add, cst1, Int.add_assoc]
  · (repeat' (first | simp (maxDischargeDepth := 8) only [go_sem, rr, reduceIte, reduceCtorEq, Nat.reduceEqDiff, Nat.reduceAdd, Nat.reduceMul, Nat.reduceSub, Nat.reduceBEq, Nat.reduceLeDiff, Int.reduceEq, Int.reduceLT, Int.reduceLE, Int.reduceGE, Int.reduceGT, Int.reduceBEq, Int.reduceBNe, Int.reduceToNat, Int.reduceNeg, Int.reduceSub, Int.reduceAdd, Int.reduceMul] | (with_reducible refine qg5 ?_ ?_; focus (first | (simp (maxDischargeDepth := 8) only [bb, kk]; done) | kernel_rfl)) | ((with_reducible first | refine qf3 ?_ ?_ | refine qf4 ?_ ?_ | refine qf5 ?_ ?_ | refine qf6 ?_ ?_ | refine qf7 ?_ ?_ | refine qf8 ?_ ?_ | refine qf9 ?_ ?_); focus (first | assumption | omega | (simp only [bz]; omega))) | ((with_reducible first | refine qg ?_ ?_ | refine qg0 ?_ ?_ | refine qg1 ?_ ?_); focus (first | assumption | omega | (simp only [bz]; omega))) | ((with_reducible first | refine g1_u8w ?_ ?_ | refine qg3 ?_ ?_); (focus ((repeat' (with_reducible apply And.intro)) <;> (first | assumption | omega | (simp only [bz]; omega) | (simp (maxDischargeDepth := 8) only [bb]; done)))); intro _) | ((with_reducible refine g1_64w ?_ ?_); (focus ((repeat' (with_reducible apply And.intro)) <;> (first | assumption | omega | (simp only [bz]; omega) | (simp (maxDischargeDepth := 8) only [bb]; done)))); intro _)))
theorem e9 (d : Nat) (l : List (List UInt8)) (n : Nat) (tg tg' : Tg) (c c' : Option Nat) (hn : l.length = n) (hl : n ≤ 549755813888) : evFun E (d+1) 9 [.sl tg 1 n c (txt l), .sl tg' 1 n c' (txt l)] [] = some (vb true, []) := by
  subst hn
  refine evFun_body b9 ?_
  (repeat' (first | simp (maxDischargeDepth := 8) only [go_sem, rr, reduceIte, reduceCtorEq, Nat.reduceEqDiff, Nat.reduceAdd, Nat.reduceMul, Nat.reduceSub, Nat.reduceBEq, Nat.reduceLeDiff, Int.reduceEq, Int.reduceLT, Int.reduceLE, Int.reduceGE, Int.reduceGT, Int.reduceBEq, Int.reduceBNe, Int.reduceToNat, Int.reduceNeg, Int.reduceSub, Int.reduceAdd, Int.reduceMul, Tryd.f9] | (with_reducible refine qg5 ?_ ?_; focus (first | (simp (maxDischargeDepth := 8) only [bb, kk]; done) | kernel_rfl)) | ((with_reducible first | refine qf3 ?_ ?_ | refine qf4 ?_ ?_ | refine qf5 ?_ ?_ | refine qf6 ?_ ?_ | refine qf7 ?_ ?_ | refine qf8 ?_ ?_ | refine qf9 ?_ ?_); focus (first | assumption | omega | (simp only [bz]; omega))) | ((with_reducible first | refine qg ?_ ?_ | refine qg0 ?_ ?_ | refine qg1 ?_ ?_); focus (first | assumption | omega | (simp only [bz]; omega))) | ((with_reducible first | refine g1_u8w ?_ ?_ | refine qg3 ?_ ?_); (focus ((repeat' (with_reducible apply And.intro)) <;> (first | assumption | omega | (simp only [bz]; omega) | (simp (maxDischargeDepth := 8) only [bb]; done)))); intro _) | ((with_reducible refine g1_64w ?_ ?_); (focus ((repeat' (with_reducible apply And.intro)) <;> (first | assumption | omega | (simp only [bz]; omega) | (simp (maxDischargeDepth := 8) only [bb]; done)))); intro _)))
  refine loop_go (fun i => {T := tp [(0, .sl tg 1 l.length c (txt l)), (1, .sl tg' 1 l.length c' (txt l)), (5, vi i)], H := hp [], nx := 0}) l.length ?_ (lt_LF hl) (fun i hi Kn hK => ?_) (fun Kn => ?_)
  · simp only [vv, ff, norm, Array.toList, List.map, Option.isSome_none, bne_self_eq_false, reduceIte, reduceCtorEq, Nat.reduceEqDiff, Nat.reduceAdd, Nat.reduceMul, Nat.reduceSub, Nat.reduceBEq, Nat.reduceLeDiff, Int.reduceEq, Int.reduceLT, Int.reduceLE, Int.reduceGE, Int.reduceGT, Int.reduceBEq, Int.reduceBNe, Int.reduceToNat, Int.reduceNeg, Int.reduceSub, Int.reduceAdd, Int.reduceMul, finish, qe7, resOf, resa, qe8, qe9, qf, keep, qf0, qf1, qf2, qe5, qe6, Int.natCast_zero]
  · have hg := txt_g1 l hi
    have he : (tA l i == tA l i) = true := by simp
    (have fz := ga2 hg he; repeat' (first | simp (maxDischargeDepth := 8) only [go_sem, rr, reduceIte, reduceCtorEq, Nat.reduceEqDiff, Nat.reduceAdd, Nat.reduceMul, Nat.reduceSub, Nat.reduceBEq, Nat.reduceLeDiff, Int.reduceEq, Int.reduceLT, Int.reduceLE, Int.reduceGE, Int.reduceGT, Int.reduceBEq, Int.reduceBNe, Int.reduceToNat, Int.reduceNeg, Int.reduceSub, Int.reduceAdd, Int.reduceMul, fz] | (with_reducible refine qg5 ?_ ?_; focus (first | (simp (maxDischargeDepth := 8) only [bb, kk, fz]; done) | kernel_rfl)) | ((with_reducible first | refine qf3 ?_ ?_ | refine qf4 ?_ ?_ | refine qf5 ?_ ?_ | refine qf6 ?_ ?_ | refine qf7 ?_ ?_ | refine qf8 ?_ ?_ | refine qf9 ?_ ?_); focus (first | assumption | omega | (simp only [bz, fz]; omega))) | ((with_reducible first | refine qg ?_ ?_ | refine qg0 ?_ ?_ | refine qg1 ?_ ?_); focus (first | assumption | omega | (simp only [bz, fz]; omega))) | ((with_reducible first | refine g1_u8w ?_ ?_ | refine qg3 ?_ ?_); (focus ((repeat' (with_reducible apply And.intro)) <;> (first | assumption | omega | (simp only [bz, fz]; omega) | (simp (maxDischargeDepth := 8) only [bb, fz]; done)))); intro _) | ((with_reducible refine g1_64w ?_ ?_); (focus ((repeat' (with_reducible apply And.intro)) <;> (first | assumption | omega | (simp only [bz, fz]; omega) | (simp (maxDischargeDepth := 8) only [bb, fz]; done)))); intro _)))
    refine hK _ ?_
    simp only [vv, ff, norm, Array.toList, List.map, Option.isSome_none, bne_self_eq_false, reduceIte, reduceCtorEq, Nat.reduceEqDiff, Nat.reduceAdd, Nat.reduceMul, Nat.reduceSub, Nat.reduceBEq, Nat.reduceLeDiff, Int.reduceEq, Int.reduceLT, Int.reduceLE, Int.reduceGE, Int.reduceGT, Int.reduceBEq, Int.reduceBNe, Int.reduceToNat, Int.reduceNeg, Int.reduceSub, Int.reduceAdd, Int.reduceMul, finish, qe7, resOf, resa, qe8, qe9, qf, keep, qf0, qf1, qf2, qe5, qe6, Int.natCast_add, cst1]
  · (repeat' (first | simp (maxDischargeDepth := 8) only [go_sem, rr, reduceIte, reduceCtorEq, Nat.reduceEqDiff, Nat.reduceAdd, Nat.reduceMul, Nat.reduceSub, Nat.reduceBEq, Nat.reduceLeDiff, Int.reduceEq, Int.reduceLT, Int.reduceLE, Int.reduceGE, Int.reduceGT, Int.reduceBEq, Int.reduceBNe, Int.reduceToNat, Int.reduceNeg, Int.reduceSub, Int.reduceAdd, Int.reduceMul] | (with_reducible refine qg5 ?_ ?_; focus (first | (simp (maxDischargeDepth := 8) only [bb, kk]; done) | kernel_rfl)) | ((with_reducible first | refine qf3 ?_ ?_ | refine qf4 ?_ ?_ | refine qf5 ?_ ?_ | refine qf6 ?_ ?_ | refine qf7 ?_ ?_ | refine qf8 ?_ ?_ | refine qf9 ?_ ?_); focus (first | assumption | omega | (simp only [bz]; omega))) | ((with_reducible first | refine qg ?_ ?_ | refine qg0 ?_ ?_ | refine qg1 ?_ ?_); focus (first | assumption | omega | (simp only [bz]; omega))) | ((with_reducible first | refine g1_u8w ?_ ?_ | refine qg3 ?_ ?_); (focus ((repeat' (with_reducible apply And.intro)) <;> (first | assumption | omega | (simp only [bz]; omega) | (simp (maxDischargeDepth := 8) only [bb]; done)))); intro _) | ((with_reducible refine g1_64w ?_ ?_); (focus ((repeat' (with_reducible apply And.intro)) <;> (first | assumption | omega | (simp only [bz]; omega) | (simp (maxDischargeDepth := 8) only [bb]; done)))); intro _)))
def capZ (i : Nat) : Option Nat := if i = 0 then some 0 else none
theorem capZ_succ (i : Nat) : capZ (i + 1) = none := rfl
theorem capZ_zero : capZ 0 = some 0 := rfl
theorem e9n (d : Nat) (tg : Tg) (c : Option Nat) : evFun E (d+1) 9 [.val (.slice none 0 0), .sl tg 1 0 c []] [] = some (vb true, []) := by
  refine evFun_body b9 ?_
  simp only [vv, cc, ff, uu, norm, qa, qa0, clash, meets, execOp, evBox, opnd, qa1, bin, convHM, qa2, qa3, qa4, qa5, qa6, qa7, zOK, qa8, qa9, borL, isSl, qb, qb0, qb1, qb2, qb3, qb4, cellsOf, TD.agg, qb5, qb6, qb7, qb8, qb9, qc, qc0, qc1, setAt, qc2, qc3, qc4, getR, qc5, qc6, qc7, qc8, qc9, Array.toList, List.map, Option.isSome_none, bne_self_eq_false, reduceIte, reduceCtorEq, Nat.reduceEqDiff, Nat.reduceAdd, Nat.reduceMul, Nat.reduceSub, Nat.reduceBEq, Nat.reduceLeDiff, Int.reduceEq, Int.reduceLT, Int.reduceLE, Int.reduceGE, Int.reduceGT, Int.reduceBEq, Int.reduceBNe, Int.reduceToNat, Int.reduceNeg, Int.reduceSub, Int.reduceAdd, Int.reduceMul, qd, qd0, qd1, qd2, qd3, qd4, qd5, qd6, qd7, qd8, qd9, qe, qe0, qe1, qe2, qe3, qe4, qe5, qe6, finish, qe7, resOf, resa, qe8, qe9, qf, keep, qf0, qf1, qf2, rr, Tryd.f9]
theorem e12n (d : Nat) (k : Int) : evFun E (d+1) 12 [.val (.slice none 0 0), vi k] [] = some (vi k, []) := by
  refine evFun_body b12 ?_
  simp only [vv, cc, ff, uu, norm, qa, qa0, clash, meets, execOp, evBox, opnd, qa1, bin, convHM, qa2, qa3, qa4, qa5, qa6, qa7, zOK, qa8, qa9, borL, isSl, qb, qb0, qb1, qb2, qb3, qb4, cellsOf, TD.agg, qb5, qb6, qb7, qb8, qb9, qc, qc0, qc1, setAt, qc2, qc3, qc4, getR, qc5, qc6, qc7, qc8, qc9, Array.toList, List.map, Option.isSome_none, bne_self_eq_false, reduceIte, reduceCtorEq, Nat.reduceEqDiff, Nat.reduceAdd, Nat.reduceMul, Nat.reduceSub, Nat.reduceBEq, Nat.reduceLeDiff, Int.reduceEq, Int.reduceLT, Int.reduceLE, Int.reduceGE, Int.reduceGT, Int.reduceBEq, Int.reduceBNe, Int.reduceToNat, Int.reduceNeg, Int.reduceSub, Int.reduceAdd, Int.reduceMul, qd, qd0, qd1, qd2, qd3, qd4, qd5, qd6, qd7, qd8, qd9, qe, qe0, qe1, qe2, qe3, qe4, qe5, qe6, finish, qe7, resOf, resa, qe8, qe9, qf, keep, qf0, qf1, qf2, rr, Tryd.f12]
theorem e13n (d : Nat) (k : Int) : evFun E (d+1) 13 [.val (.slice none 0 0), vi k] [] = some (vi k, []) := by
  refine evFun_body b13 ?_
  simp only [vv, cc, ff, uu, norm, qa, qa0, clash, meets, execOp, evBox, opnd, qa1, bin, convHM, qa2, qa3, qa4, qa5, qa6, qa7, zOK, qa8, qa9, borL, isSl, qb, qb0, qb1, qb2, qb3, qb4, cellsOf, TD.agg, qb5, qb6, qb7, qb8, qb9, qc, qc0, qc1, setAt, qc2, qc3, qc4, getR, qc5, qc6, qc7, qc8, qc9, Array.toList, List.map, Option.isSome_none, bne_self_eq_false, reduceIte, reduceCtorEq, Nat.reduceEqDiff, Nat.reduceAdd, Nat.reduceMul, Nat.reduceSub, Nat.reduceBEq, Nat.reduceLeDiff, Int.reduceEq, Int.reduceLT, Int.reduceLE, Int.reduceGE, Int.reduceGT, Int.reduceBEq, Int.reduceBNe, Int.reduceToNat, Int.reduceNeg, Int.reduceSub, Int.reduceAdd, Int.reduceMul, qd, qd0, qd1, qd2, qd3, qd4, qd5, qd6, qd7, qd8, qd9, qe, qe0, qe1, qe2, qe3, qe4, qe5, qe6, finish, qe7, resOf, resa, qe8, qe9, qf, keep, qf0, qf1, qf2, rr, Tryd.f13]
theorem mark1T (d : Nat) (l : List (List UInt8)) (n : Nat) (c : Option Nat) (hn : l.length = n) (hl : n ≤ 1048576) : evFun E (d+2) 12 [.ref 0 [] 1 0 n c, vi 1] [txt l] = some (vi (1 + n), [some (txt (mkT 1 n))]) := by
  subst hn; exact e12 d l c 1 (by decide) (by omega)
theorem held1T (d : Nat) (n : Nat) (tg : Tg) (c : Option Nat) (hl : n ≤ 1048576) : evFun E (d+2) 13 [.sl tg 1 n c (txt (mkT 1 n)), vi 1] [] = some (vi (1 + n), []) := e13 d n tg c 1 (by decide) (by omega)
end Go.Proofs.YtghmmockgbiehaaDoor.VH.S
end

section
namespace Go.Proofs.YtghmmockgbiehaaDoor.VH.S
open Go.Proofs
set_option maxRecDepth 100000
set_option maxHeartbeats 8000000
set_option linter.unusedSimpArgs false

/- Marking what lies in the parts of a row. -/
def RR (cs : List AV) (j n : Nat) (X : List AV) : List AV := cs.set j (.sl .own 2 n none X)
theorem RR_get {cs : List AV} {j : Nat} (h : j < cs.length) (n : Nat) (X : List AV) : (RR cs j n X)[j]? = some (.sl .own 2 n none X) := by rw [RR, List.getElem?_set_self h]
theorem RR_mod {cs : List AV} {j : Nat} (h : j < cs.length) (n : Nat) (X : List AV) (g : List AV → List AV) : modp [j] g (RR cs j n X) = RR cs j n (g X) := by
  rw [modp_cons (RR_get h n X), modp_nil, RR, List.set_set, RR]
theorem RR_sub2 {cs : List AV} {j : Nat} (h : j < cs.length) (n : Nat) (X : List AV) (q : Nat) : sub [j, q] (RR cs j n X) = sub [q] X := by
  simp only [sub, RR_get h]
theorem RR_mod2 {cs : List AV} {j : Nat} (h : j < cs.length) (n : Nat) (X : List AV) (q : Nat) (g : List AV → List AV) : modp [j, q] g (RR cs j n X) = RR cs j n (modp [q] g X) := by
  rw [modp_cons (RR_get h n X), RR, List.set_set, RR]
theorem RR_self {cs : List AV} {j n : Nat} {X : List AV} (h : cs[j]? = some (.sl .own 2 n none X)) : RR cs j n X = cs := by
  have hj : j < cs.length := by
    rcases Nat.lt_or_ge j cs.length with h1 | h1
    · exact h1
    · rw [List.getElem?_eq_none h1] at h; simp at h
  rw [List.getElem?_eq_getElem hj] at h
  injection h with h
  rw [RR, ← h]; exact List.set_getElem_self hj
theorem RR_len (cs : List AV) (j n : Nat) (X : List AV) : (RR cs j n X).length = cs.length := by simp [RR]
theorem noSnapL_set : ∀ {cs : List AV} (j : Nat) {v : AV}, qe9 cs = true → qe8 v = true → qe9 (cs.set j v) = true
  | [], _, _, _, _ => rfl
  | x :: r, 0, v, h, hv => by
    simp only [qe9, Bool.and_eq_true] at h
    simp only [List.set_cons_zero, qe9, hv, h.2, Bool.and_self]
  | x :: r, j + 1, v, h, hv => by
    simp only [qe9, Bool.and_eq_true] at h
    simp only [List.set_cons_succ, qe9, h.1, noSnapL_set j h.2 hv, Bool.and_self]
theorem RR_snap {cs X : List AV} (j n : Nat) (h : qe9 cs = true) (hX : qe9 X = true) : qe9 (RR cs j n X) = true := by
  refine noSnapL_set j h ?_
  simp only [qe8, hX]
/-- the first from one list, the others from another -/
def mxL {α : Type} (A B : List α) (i : Nat) : List α := A.take i ++ B.drop i
theorem mxL_len {α : Type} {A B : List α} (h : A.length = B.length) {i : Nat} (hi : i ≤ B.length) : (mxL A B i).length = B.length := by simp [mxL]; omega
theorem mxL_zero {α : Type} (A B : List α) : mxL A B 0 = B := by simp [mxL]
theorem mxL_full {α : Type} {A B : List α} (h : A.length = B.length) : mxL A B B.length = A := by simp [mxL, ← h]
theorem mxL_get {α : Type} {A B : List α} (h : A.length = B.length) {i : Nat} (hi : i < B.length) : (mxL A B i)[i]? = some B[i] := by
  rw [mxL, List.getElem?_append_right (by rw [List.length_take]; omega), List.length_take]
  have : i - min i A.length = 0 := by omega
  rw [this, List.getElem?_drop, Nat.add_zero, List.getElem?_eq_getElem hi]
theorem mxL_set {α : Type} {A B : List α} (h : A.length = B.length) {i : Nat} (hi : i < B.length) {a : α} (ha : A[i]? = some a) : (mxL A B i).set i a = mxL A B (i + 1) := by
  have hA : i < A.length := by omega
  rw [List.getElem?_eq_getElem hA] at ha
  injection ha with ha
  have hd : B.drop i = B[i] :: B.drop (i + 1) := List.drop_eq_getElem_cons hi
  have e : i - (A.take i).length = 0 := by rw [List.length_take]; omega
  rw [mxL, mxL, hd, List.set_append_right _ _ (by rw [List.length_take]; omega), e, List.set_cons_zero, List.take_succ_eq_append_getElem hA, ha, List.append_assoc]
  rfl
def mkPc : Nat → List XPiece → List XPiece
  | _, [] => []
  | k, x :: r => ⟨(k : Int), marks .u8 ((k + 1 : Nat) : Int) x.d.length⟩ :: mkPc (k + 1 + x.d.length) r
theorem mkPc_len : ∀ (k : Nat) (P : List XPiece), (mkPc k P).length = P.length
  | _, [] => rfl
  | k, x :: r => by simp only [mkPc, List.length_cons, mkPc_len _ r]
def KP (k : Nat) (P : List XPiece) (i : Nat) : Nat := k + (i + sumS sPiece P i)
theorem mkPc_at : ∀ (k : Nat) (P : List XPiece) (i : Nat) (h : i < P.length), (mkPc k P)[i]? = some ⟨(KP k P i : Int), marks .u8 ((KP k P i + 1 : Nat) : Int) P[i].d.length⟩
  | k, x :: r, 0, _ => by simp [mkPc, KP, sumS]
  | k, x :: r, i + 1, h => by
    have hi : i < r.length := by simpa using h
    have := mkPc_at (k + 1 + x.d.length) r i hi
    rw [mkPc, List.getElem?_cons_succ, this]
    have e : KP (k + 1 + x.d.length) r i = KP k (x :: r) (i + 1) := by
      simp only [KP, sumS, List.take_succ_cons, List.map_cons, List.sum_cons, sPiece]; omega
    rw [e]; rfl
theorem KP_zero (k : Nat) (P : List XPiece) : KP k P 0 = k := by simp [KP, sumS]
theorem KP_succ (k : Nat) {P : List XPiece} {i : Nat} (h : i < P.length) : KP k P (i + 1) = KP k P i + 1 + P[i].d.length := by
  simp only [KP, sumS_succ sPiece h, sPiece]; omega
theorem KP_le (k : Nat) {P : List XPiece} {i : Nat} (h : i ≤ P.length) : KP k P i ≤ k + totS sPiece P := by
  have := sumS_mono sPiece P h
  simp only [KP, totS]; omega
theorem KP_full (k : Nat) (P : List XPiece) : KP k P P.length = k + totS sPiece P := rfl
theorem oP_set0 (M : List XPiece) {i : Nat} (h : i < M.length) (a b : Int) (ds : List Int) : (flat oPiece (M.set i ⟨a, ds⟩)).set (i * 2) (vi b) = flat oPiece (M.set i ⟨b, ds⟩) := by
  have := flt_set oPiece_len (M.set i ⟨a, ds⟩) i (by simpa using h) 0 (by decide) (vi b) ⟨b, ds⟩ (by simp)
  simpa using this
theorem oP_set1 (M : List XPiece) {i : Nat} (h : i < M.length) (a : Int) (ds es : List Int) (hl : ds.length = es.length) : (flat oPiece (M.set i ⟨a, ds⟩)).set (i * 2 + 1) (.sl .own 1 es.length none (es.map (iv .u8))) = flat oPiece (M.set i ⟨a, es⟩) := by
  have := flt_set oPiece_len (M.set i ⟨a, ds⟩) i (by simpa using h) 1 (by decide) (.sl .own 1 es.length none (es.map (iv .u8))) ⟨a, es⟩ (by simp)
  simpa using this
theorem plainM (k : IntKind) (l : List Int) : qd7 (l.map (iv k)) = true := by
  induction l with
  | nil => rfl
  | cons x r ih => simp only [List.map_cons, qd7, qc4, ih, Bool.and_self]
theorem marksLen (k : IntKind) (a : Int) (n : Nat) : (marks k a n).length = n := by simp [marks]
theorem z046 (d : Nat) (tg : Tg) (cap : Option Nat) (k : Int) : evFun E (d+1) 46 [.sl tg 1 0 cap [], vi k] [] = some (vi k, []) := by
  refine evFun_body b46 ?_
  simp only [vv, cc, ff, uu, norm, qa, qa0, clash, meets, execOp, evBox, opnd, qa1, bin, convHM, qa2, qa3, qa4, qa5, qa6, qa7, zOK, qa8, qa9, borL, isSl, qb, qb0, qb1, qb2, qb3, qb4, cellsOf, TD.agg, qb5, qb6, qb7, qb8, qb9, qc, qc0, qc1, setAt, qc2, qc3, qc4, getR, qc5, qc6, qc7, qc8, qc9, Array.toList, List.map, Option.isSome_none, bne_self_eq_false, reduceIte, reduceCtorEq, Nat.reduceEqDiff, Nat.reduceAdd, Nat.reduceMul, Nat.reduceSub, Nat.reduceBEq, Nat.reduceLeDiff, Int.reduceEq, Int.reduceLT, Int.reduceLE, Int.reduceGE, Int.reduceGT, Int.reduceBEq, Int.reduceBNe, Int.reduceToNat, Int.reduceNeg, Int.reduceSub, Int.reduceAdd, Int.reduceMul, qd, qd0, qd1, qd2, qd3, qd4, qd5, qd6, qd7, qd8, qd9, qe, qe0, qe1, qe2, qe3, qe4, qe5, qe6, finish, qe7, resOf, resa, qe8, qe9, qf, keep, qf0, qf1, qf2, rr, Tryd.f46]
theorem e29 (d : Nat) (cs : List AV) (j : Nat) (P : List XPiece) (hc : cs[j]? = some (.sl .own 2 P.length none (flat oPiece P))) (hns : qe9 cs = true) (k : Nat) (h0 : 0 < k) (hk : k + totS sPiece P ≤ 549755813880) : evFun E (d+2) 29 [.ref 0 [j] 2 0 P.length none, vi k] [cs] = some (vi ((k + totS sPiece P : Nat) : Int), [some (RR cs j P.length (flat oPiece (mkPc k P)))]) := by
  have hj : j < cs.length := by
    rcases Nat.lt_or_ge j cs.length with h1 | h1
    · exact h1
    · rw [List.getElem?_eq_none h1] at hc; simp at hc
  refine evFun_body b29 ?_
  have hPl : P.length ≤ 549755813880 := by have := totS_len sPiece P; omega
  have hml := mkPc_len k P
  (repeat' (first | simp (maxDischargeDepth := 8) only [go_sem, rr, reduceIte, reduceCtorEq, Nat.reduceEqDiff, Nat.reduceAdd, Nat.reduceMul, Nat.reduceSub, Nat.reduceBEq, Nat.reduceLeDiff, Int.reduceEq, Int.reduceLT, Int.reduceLE, Int.reduceGE, Int.reduceGT, Int.reduceBEq, Int.reduceBNe, Int.reduceToNat, Int.reduceNeg, Int.reduceSub, Int.reduceAdd, Int.reduceMul, Tryd.f29] | (with_reducible refine qg5 ?_ ?_; focus (first | (simp (maxDischargeDepth := 8) only [bb, kk]; done) | kernel_rfl)) | ((with_reducible first | refine qf3 ?_ ?_ | refine qf4 ?_ ?_ | refine qf5 ?_ ?_ | refine qf6 ?_ ?_ | refine qf7 ?_ ?_ | refine qf8 ?_ ?_ | refine qf9 ?_ ?_); focus (first | assumption | omega | (simp only [bz]; omega))) | ((with_reducible first | refine qg ?_ ?_ | refine qg0 ?_ ?_ | refine qg1 ?_ ?_); focus (first | assumption | omega | (simp only [bz]; omega))) | ((with_reducible first | refine g1_u8w ?_ ?_ | refine qg3 ?_ ?_); (focus ((repeat' (with_reducible apply And.intro)) <;> (first | assumption | omega | (simp only [bz]; omega) | (simp (maxDischargeDepth := 8) only [bb]; done)))); intro _)))
  refine loop_go (fun i => {T := tp [(0, .ref 0 [j] 2 0 P.length none), (1, vi (KP k P i : Int)), (5, vi i)], H := hp [some (RR cs j P.length (flat oPiece (mxL (mkPc k P) P i)))], nx := 1}) P.length ?_ (lt_LF (by omega)) (fun i hi Kn hK => ?_) (fun Kn => ?_)
  · simp only [vv, ff, norm, Array.toList, List.map, Option.isSome_none, bne_self_eq_false, reduceIte, reduceCtorEq, Nat.reduceEqDiff, Nat.reduceAdd, Nat.reduceMul, Nat.reduceSub, Nat.reduceBEq, Nat.reduceLeDiff, Int.reduceEq, Int.reduceLT, Int.reduceLE, Int.reduceGE, Int.reduceGT, Int.reduceBEq, Int.reduceBNe, Int.reduceToNat, Int.reduceNeg, Int.reduceSub, Int.reduceAdd, Int.reduceMul, finish, qe7, resOf, resa, qe8, qe9, qf, keep, qf0, qf1, qf2, qe5, qe6, Int.natCast_zero, KP_zero, mxL_zero, RR_self hc]
  · have hMl := mxL_len hml (i := i) (by omega)
    have hMi : i < (mxL (mkPc k P) P i).length := by omega
    have hat := mkPc_at k P i hi
    have hset := mxL_set hml hi hat
    have hget := mxL_get hml hi
    have hKs := KP_succ k hi
    have hKle := KP_le k (P := P) (i := i + 1) (by omega)
    generalize mxL (mkPc k P) P (i + 1) = N at *
    generalize mxL (mkPc k P) P i = M at *
    generalize hx : P[i] = x at *
    generalize hKa : KP k P i = a at *
    have hself : M.set i ⟨x.v, x.d⟩ = M := by
      have : M[i] = x := by rw [List.getElem?_eq_getElem hMi] at hget; injection hget
      have e : (⟨x.v, x.d⟩ : XPiece) = M[i] := by rw [this]
      rw [e]; exact List.set_getElem_self hMi
    have s0 := oP_set0 M hMi x.v (a : Int) x.d
    rw [hself] at s0
    have s1 := oP_set1 M hMi (a : Int) x.d (marks .u8 ((a + 1 : Nat) : Int) x.d.length) (by rw [marksLen])
    rw [hset, marksLen] at s1
    have hMs : i < (M.set i ⟨(a : Int), x.d⟩).length := by simpa using hMi
    have g2 : (flat oPiece (M.set i ⟨(a : Int), x.d⟩))[i * 2 + 1]? = some (.sl .own 1 x.d.length none (x.d.map (iv .u8))) := by
      have := flt_get oPiece_len (M.set i ⟨(a : Int), x.d⟩) i hMs 1 (by decide)
      simpa using this
    have hRl := RR_len cs j P.length
    have e1 := RR_get hj P.length
    have e2 := RR_mod hj P.length
    have e3 : sub [j, i * 2 + 1] (RR cs j P.length (flat oPiece (M.set i ⟨(a : Int), x.d⟩))) = some (x.d.map (iv .u8)) := by
      rw [RR_sub2 hj]; simp only [sub, g2]
    have e4 : ∀ ds, modp [j, i * 2 + 1] (fun _ => ds) (RR cs j P.length (flat oPiece (M.set i ⟨(a : Int), x.d⟩))) = RR cs j P.length ((flat oPiece (M.set i ⟨(a : Int), x.d⟩)).set (i * 2 + 1) (.sl .own 1 x.d.length none ds)) := fun ds => by
      rw [RR_mod2 hj, modp_cons g2, modp_nil]
    have hfl : (flat oPiece M).length = P.length * 2 := by rw [flat_len oPiece_len, hMl]
    have hfl2 : (flat oPiece (M.set i ⟨(a : Int), x.d⟩)).length = P.length * 2 := by rw [flat_len oPiece_len, List.length_set, hMl]
    have hcast : ((a + 1 : Nat) : Int) = (a : Int) + 1 := by omega
    rw [hcast] at s1
    have g3 : g1 (flat oPiece (M.set i ⟨(a : Int), x.d⟩)) (i * 2 + 1) = some (.sl .own 1 x.d.length none (x.d.map (iv .u8))) := by simpa [g1] using g2
    have p1 := plainM .u8 x.d
    have hml2 : ((marks .u8 ((a : Int) + 1) x.d.length).map (iv .u8)).length = x.d.length := by rw [List.length_map, marksLen]
    have hml3 : (x.d.map (iv .u8)).length = x.d.length := List.length_map _
    have hno := anyOwn_iv .u8 (marks .u8 ((a : Int) + 1) x.d.length)
    have hi2 : i * 2 + 1 ≤ P.length * 2 := by omega
    have hi3 : i * 2 + 1 + 1 ≤ P.length * 2 := by omega
    by_cases hz : x.d.length = 0
    · have hd0 : x.d = [] := List.eq_nil_of_length_eq_zero hz
      have hB := fun d => z046 d .snap none ((a : Int) + 1)
      have hM2 : M.set i ⟨(a : Int), x.d⟩ = N := by
        rw [← hset, hz, hd0]; rfl
      rw [hd0] at s0 g3 e3 hfl2 hM2
      simp only [List.length_nil, List.map_nil] at g3 e3
      rw [hM2] at s0 g3 e3 hfl2
      (have fz := ga10 e1 e2 s0 g3 hfl hfl2 hRl hB hi2 hi3; repeat' (first | simp (maxDischargeDepth := 8) only [go_sem, rr, reduceIte, reduceCtorEq, Nat.reduceEqDiff, Nat.reduceAdd, Nat.reduceMul, Nat.reduceSub, Nat.reduceBEq, Nat.reduceLeDiff, Int.reduceEq, Int.reduceLT, Int.reduceLE, Int.reduceGE, Int.reduceGT, Int.reduceBEq, Int.reduceBNe, Int.reduceToNat, Int.reduceNeg, Int.reduceSub, Int.reduceAdd, Int.reduceMul, fz, e3] | (with_reducible refine qg5 ?_ ?_; focus (first | (simp (maxDischargeDepth := 8) only [bb, kk, fz, e3]; done) | kernel_rfl)) | ((with_reducible first | refine qf3 ?_ ?_ | refine qf4 ?_ ?_ | refine qf5 ?_ ?_ | refine qf6 ?_ ?_ | refine qf7 ?_ ?_ | refine qf8 ?_ ?_ | refine qf9 ?_ ?_); focus (first | assumption | omega | (simp only [bz, fz, e3]; omega))) | ((with_reducible first | refine qg ?_ ?_ | refine qg0 ?_ ?_ | refine qg1 ?_ ?_); focus (first | assumption | omega | (simp only [bz, fz, e3]; omega))) | ((with_reducible first | refine g1_u8w ?_ ?_ | refine qg3 ?_ ?_); (focus ((repeat' (with_reducible apply And.intro)) <;> (first | assumption | omega | (simp only [bz, fz, e3]; omega) | (simp (maxDischargeDepth := 8) only [bb, fz, e3]; done)))); intro _)))
      refine hK _ ?_
      rw [hd0, List.length_nil] at hKs
      simp only [vv, ff, norm, Array.toList, List.map, Option.isSome_none, bne_self_eq_false, reduceIte, reduceCtorEq, Nat.reduceEqDiff, Nat.reduceAdd, Nat.reduceMul, Nat.reduceSub, Nat.reduceBEq, Nat.reduceLeDiff, Int.reduceEq, Int.reduceLT, Int.reduceLE, Int.reduceGE, Int.reduceGT, Int.reduceBEq, Int.reduceBNe, Int.reduceToNat, Int.reduceNeg, Int.reduceSub, Int.reduceAdd, Int.reduceMul, finish, qe7, resOf, resa, qe8, qe9, qf, keep, qf0, qf1, qf2, qe5, qe6, Int.natCast_add, cst1, hKs, Int.add_zero, Nat.add_zero]
    · have hpos : 0 < x.d.length := by omega
      have hB := fun d => e46 d x.d none ((a : Int) + 1) (by omega) (by omega)
      have q1 : (x.d.map (iv .u8)).isEmpty = false := by
        cases hq : x.d with
        | nil => rw [hq] at hpos; simp at hpos
        | cons => rfl
      (have fz := ga17 e1 e2 e4 s0 s1 g3 hfl hfl2 hRl hB p1 q1 hml2 hml3 hno hi2 hi3; repeat' (first | simp (maxDischargeDepth := 8) only [go_sem, rr, reduceIte, reduceCtorEq, Nat.reduceEqDiff, Nat.reduceAdd, Nat.reduceMul, Nat.reduceSub, Nat.reduceBEq, Nat.reduceLeDiff, Int.reduceEq, Int.reduceLT, Int.reduceLE, Int.reduceGE, Int.reduceGT, Int.reduceBEq, Int.reduceBNe, Int.reduceToNat, Int.reduceNeg, Int.reduceSub, Int.reduceAdd, Int.reduceMul, fz, e3] | (with_reducible refine qg5 ?_ ?_; focus (first | (simp (maxDischargeDepth := 8) only [bb, kk, fz, e3]; done) | kernel_rfl)) | ((with_reducible first | refine qf3 ?_ ?_ | refine qf4 ?_ ?_ | refine qf5 ?_ ?_ | refine qf6 ?_ ?_ | refine qf7 ?_ ?_ | refine qf8 ?_ ?_ | refine qf9 ?_ ?_); focus (first | assumption | omega | (simp only [bz, fz, e3]; omega))) | ((with_reducible first | refine qg ?_ ?_ | refine qg0 ?_ ?_ | refine qg1 ?_ ?_); focus (first | assumption | omega | (simp only [bz, fz, e3]; omega))) | ((with_reducible first | refine g1_u8w ?_ ?_ | refine qg3 ?_ ?_); (focus ((repeat' (with_reducible apply And.intro)) <;> (first | assumption | omega | (simp only [bz, fz, e3]; omega) | (simp (maxDischargeDepth := 8) only [bb, fz, e3]; done)))); intro _)))
      refine hK _ ?_
      simp only [vv, ff, norm, Array.toList, List.map, Option.isSome_none, bne_self_eq_false, reduceIte, reduceCtorEq, Nat.reduceEqDiff, Nat.reduceAdd, Nat.reduceMul, Nat.reduceSub, Nat.reduceBEq, Nat.reduceLeDiff, Int.reduceEq, Int.reduceLT, Int.reduceLE, Int.reduceGE, Int.reduceGT, Int.reduceBEq, Int.reduceBNe, Int.reduceToNat, Int.reduceNeg, Int.reduceSub, Int.reduceAdd, Int.reduceMul, finish, qe7, resOf, resa, qe8, qe9, qf, keep, qf0, qf1, qf2, qe5, qe6, Int.natCast_add, cst1, hKs]
  · have hsn := RR_snap j P.length hns (flat_snap oPiece_snap (mkPc k P))
    (repeat' (first | simp (maxDischargeDepth := 8) only [go_sem, rr, reduceIte, reduceCtorEq, Nat.reduceEqDiff, Nat.reduceAdd, Nat.reduceMul, Nat.reduceSub, Nat.reduceBEq, Nat.reduceLeDiff, Int.reduceEq, Int.reduceLT, Int.reduceLE, Int.reduceGE, Int.reduceGT, Int.reduceBEq, Int.reduceBNe, Int.reduceToNat, Int.reduceNeg, Int.reduceSub, Int.reduceAdd, Int.reduceMul, mxL_full hml, KP_full, hsn] | (with_reducible refine qg5 ?_ ?_; focus (first | (simp (maxDischargeDepth := 8) only [bb, kk, mxL_full hml, KP_full, hsn]; done) | kernel_rfl)) | ((with_reducible first | refine qf3 ?_ ?_ | refine qf4 ?_ ?_ | refine qf5 ?_ ?_ | refine qf6 ?_ ?_ | refine qf7 ?_ ?_ | refine qf8 ?_ ?_ | refine qf9 ?_ ?_); focus (first | assumption | omega | (simp only [bz, mxL_full hml, KP_full, hsn]; omega))) | ((with_reducible first | refine qg ?_ ?_ | refine qg0 ?_ ?_ | refine qg1 ?_ ?_); focus (first | assumption | omega | (simp only [bz, mxL_full hml, KP_full, hsn]; omega))) | ((with_reducible first | refine g1_u8w ?_ ?_ | refine qg3 ?_ ?_); (focus ((repeat' (with_reducible apply And.intro)) <;> (first | assumption | omega | (simp only [bz, mxL_full hml, KP_full, hsn]; omega) | (simp (maxDischargeDepth := 8) only [bb, mxL_full hml, KP_full, hsn]; done)))); intro _)))
end Go.Proofs.YtghmmockgbiehaaDoor.VH.S
end

section
namespace Go.Proofs.YtghmmockgbiehaaDoor.VH.S
open Go.Proofs
set_option maxRecDepth 100000
set_option maxHeartbeats 8000000
set_option linter.unusedSimpArgs false

/- Marking a shelf. -/
def cI (x : XItem) : Nat := totS sPiece x.h + totS sPiece x.s
def mI (k : Nat) (x : XItem) : XItem := ⟨mT k, mkPc (k + 1) x.h, mkPc (k + 1 + totS sPiece x.h) x.s⟩
def mkIt : Nat → List XItem → List XItem
  | _, [] => []
  | k, x :: r => mI k x :: mkIt (k + 1 + cI x) r
theorem mkIt_len : ∀ (k : Nat) (L : List XItem), (mkIt k L).length = L.length
  | _, [] => rfl
  | k, x :: r => by simp only [mkIt, List.length_cons, mkIt_len _ r]
def KI (k : Nat) (L : List XItem) (i : Nat) : Nat := k + (i + sumS cI L i)
theorem mkIt_at : ∀ (k : Nat) (L : List XItem) (i : Nat) (h : i < L.length), (mkIt k L)[i]? = some (mI (KI k L i) L[i])
  | k, x :: r, 0, _ => by simp [mkIt, KI, sumS]
  | k, x :: r, i + 1, h => by
    have hi : i < r.length := by simpa using h
    have := mkIt_at (k + 1 + cI x) r i hi
    rw [mkIt, List.getElem?_cons_succ, this]
    have e : KI (k + 1 + cI x) r i = KI k (x :: r) (i + 1) := by
      simp only [KI, sumS, List.take_succ_cons, List.map_cons, List.sum_cons]; omega
    rw [e]; rfl
theorem KI_zero (k : Nat) (L : List XItem) : KI k L 0 = k := by simp [KI, sumS]
theorem KI_succ (k : Nat) {L : List XItem} {i : Nat} (h : i < L.length) : KI k L (i + 1) = KI k L i + 1 + totS sPiece L[i].h + totS sPiece L[i].s := by
  simp only [KI, sumS_succ cI h, cI]; omega
theorem KI_le (k : Nat) {L : List XItem} {i : Nat} (h : i ≤ L.length) : KI k L i ≤ k + totS cI L := by
  have := sumS_mono cI L h
  simp only [KI, totS]; omega
theorem KI_full (k : Nat) (L : List XItem) : KI k L L.length = k + totS cI L := rfl
theorem oI_set0 (M : List XItem) {i : Nat} (h : i < M.length) (a b : List UInt8) (p q : List XPiece) : (flat oItem (M.set i ⟨a, p, q⟩)).set (i * 3) (vs b) = flat oItem (M.set i ⟨b, p, q⟩) := by
  have := flt_set oItem_len (M.set i ⟨a, p, q⟩) i (by simpa using h) 0 (by decide) (vs b) ⟨b, p, q⟩ (by simp)
  simpa using this
theorem oI_set1 (M : List XItem) {i : Nat} (h : i < M.length) (a : List UInt8) (p p' q : List XPiece) : (flat oItem (M.set i ⟨a, p, q⟩)).set (i * 3 + 1) (.sl .own 2 p'.length none (flat oPiece p')) = flat oItem (M.set i ⟨a, p', q⟩) := by
  have := flt_set oItem_len (M.set i ⟨a, p, q⟩) i (by simpa using h) 1 (by decide) (.sl .own 2 p'.length none (flat oPiece p')) ⟨a, p', q⟩ (by simp)
  simpa using this
theorem oI_set2 (M : List XItem) {i : Nat} (h : i < M.length) (a : List UInt8) (p q q' : List XPiece) : (flat oItem (M.set i ⟨a, p, q⟩)).set (i * 3 + 2) (.sl .own 2 q'.length none (flat oPiece q')) = flat oItem (M.set i ⟨a, p, q'⟩) := by
  have := flt_set oItem_len (M.set i ⟨a, p, q⟩) i (by simpa using h) 2 (by decide) (.sl .own 2 q'.length none (flat oPiece q')) ⟨a, p, q'⟩ (by simp)
  simpa using this
theorem pr_false : ∀ P : List XPiece, (qd7 (flat oPiece P) && !(flat oPiece P).isEmpty) = false
  | [] => rfl
  | _ :: _ => rfl
theorem ownI {L : List XItem} {i : Nat} (h : i < L.length) : (flat oItem L).any qb8 = true := by
  cases L with
  | nil => simp at h
  | cons x r => rfl
theorem e11 (d : Nat) (L : List XItem) (c : Option Nat) (k : Nat) (h0 : 0 < k) (hk : k + totS cI L ≤ 549755813880) : evFun E (d+3) 11 [.ref 0 [] 3 0 L.length c, vi k] [flat oItem L] = some (vi ((k + totS cI L : Nat) : Int), [some (flat oItem (mkIt k L))]) := by
  refine evFun_body b11 ?_
  have hLl : L.length ≤ 549755813880 := by have := totS_len cI L; omega
  have hml := mkIt_len k L
  (repeat' (first | simp (maxDischargeDepth := 8) only [go_sem, rr, reduceIte, reduceCtorEq, Nat.reduceEqDiff, Nat.reduceAdd, Nat.reduceMul, Nat.reduceSub, Nat.reduceBEq, Nat.reduceLeDiff, Int.reduceEq, Int.reduceLT, Int.reduceLE, Int.reduceGE, Int.reduceGT, Int.reduceBEq, Int.reduceBNe, Int.reduceToNat, Int.reduceNeg, Int.reduceSub, Int.reduceAdd, Int.reduceMul, Tryd.f11] | (with_reducible refine qg5 ?_ ?_; focus (first | (simp (maxDischargeDepth := 8) only [bb, kk]; done) | kernel_rfl)) | ((with_reducible first | refine qf3 ?_ ?_ | refine qf4 ?_ ?_ | refine qf5 ?_ ?_ | refine qf6 ?_ ?_ | refine qf7 ?_ ?_ | refine qf8 ?_ ?_ | refine qf9 ?_ ?_); focus (first | assumption | omega | (simp only [bz]; omega))) | ((with_reducible first | refine qg ?_ ?_ | refine qg0 ?_ ?_ | refine qg1 ?_ ?_); focus (first | assumption | omega | (simp only [bz]; omega))) | ((with_reducible first | refine g1_u8w ?_ ?_ | refine qg3 ?_ ?_); (focus ((repeat' (with_reducible apply And.intro)) <;> (first | assumption | omega | (simp only [bz]; omega) | (simp (maxDischargeDepth := 8) only [bb]; done)))); intro _)))
  refine loop_go (fun i => {T := tp [(0, .ref 0 [] 3 0 L.length c), (1, vi (KI k L i : Int)), (5, vi i)], H := hp [some (flat oItem (mxL (mkIt k L) L i))], nx := 1}) L.length ?_ (lt_LF (by omega)) (fun i hi Kn hK => ?_) (fun Kn => ?_)
  · simp only [vv, ff, norm, Array.toList, List.map, Option.isSome_none, bne_self_eq_false, reduceIte, reduceCtorEq, Nat.reduceEqDiff, Nat.reduceAdd, Nat.reduceMul, Nat.reduceSub, Nat.reduceBEq, Nat.reduceLeDiff, Int.reduceEq, Int.reduceLT, Int.reduceLE, Int.reduceGE, Int.reduceGT, Int.reduceBEq, Int.reduceBNe, Int.reduceToNat, Int.reduceNeg, Int.reduceSub, Int.reduceAdd, Int.reduceMul, finish, qe7, resOf, resa, qe8, qe9, qf, keep, qf0, qf1, qf2, qe5, qe6, Int.natCast_zero, KI_zero, mxL_zero]
  · have hMl := mxL_len hml (i := i) (by omega)
    have hMi : i < (mxL (mkIt k L) L i).length := by omega
    have hat := mkIt_at k L i hi
    have hset := mxL_set hml hi hat
    have hget := mxL_get hml hi
    have hKs := KI_succ k hi
    have hKle := KI_le k (L := L) (i := i + 1) (by omega)
    have hKge : 0 < KI k L i := by simp only [KI]; omega
    generalize mxL (mkIt k L) L (i + 1) = N at *
    generalize mxL (mkIt k L) L i = M at *
    generalize hx : L[i] = x at *
    generalize hKa : KI k L i = a at *
    have hself : M.set i ⟨x.nm, x.h, x.s⟩ = M := by
      have : M[i] = x := by rw [List.getElem?_eq_getElem hMi] at hget; injection hget
      have e : (⟨x.nm, x.h, x.s⟩ : XItem) = M[i] := by rw [this]
      rw [e]; exact List.set_getElem_self hMi
    have s0 := oI_set0 M hMi x.nm (mT a) x.h x.s
    rw [hself] at s0
    have s1 := oI_set1 M hMi (mT a) x.h (mkPc (a + 1) x.h) x.s
    have s2 := oI_set2 M hMi (mT a) (mkPc (a + 1) x.h) x.s (mkPc (a + 1 + totS sPiece x.h) x.s)
    have hset2 : M.set i ⟨mT a, mkPc (a + 1) x.h, mkPc (a + 1 + totS sPiece x.h) x.s⟩ = N := hset
    rw [hset2] at s2
    rw [mkPc_len] at s1 s2
    have hMs : ∀ y, i < (M.set i y).length := fun y => by simpa using hMi
    have g1x : (flat oItem (M.set i ⟨mT a, x.h, x.s⟩))[i * 3 + 1]? = some (.sl .own 2 x.h.length none (flat oPiece x.h)) := by
      have := flt_get oItem_len (M.set i ⟨mT a, x.h, x.s⟩) i (hMs _) 1 (by decide)
      simpa using this
    have g2x : (flat oItem (M.set i ⟨mT a, mkPc (a + 1) x.h, x.s⟩))[i * 3 + 2]? = some (.sl .own 2 x.s.length none (flat oPiece x.s)) := by
      have := flt_get oItem_len (M.set i ⟨mT a, mkPc (a + 1) x.h, x.s⟩) i (hMs _) 2 (by decide)
      simpa using this
    have g1y : g1 (flat oItem (M.set i ⟨mT a, x.h, x.s⟩)) (i * 3 + 1) = some (.sl .own 2 x.h.length none (flat oPiece x.h)) := by simpa [g1] using g1x
    have g2y : g1 (flat oItem (M.set i ⟨mT a, mkPc (a + 1) x.h, x.s⟩)) (i * 3 + 2) = some (.sl .own 2 x.s.length none (flat oPiece x.s)) := by simpa [g1] using g2x
    have hT : evFun E (d+2) 28 [vi (a : Int)] [] = some (vs (mT a), []) := e28 (d + 1) a (by omega) (by omega)
    have hC1 : evFun E (d+2) 29 [.ref 0 [i * 3 + 1] 2 0 x.h.length none, vi ((a : Int) + 1)] [flat oItem (M.set i ⟨mT a, x.h, x.s⟩)] = some (vi ((a : Int) + 1 + totS sPiece x.h), [some (flat oItem (M.set i ⟨mT a, mkPc (a + 1) x.h, x.s⟩))]) := by
      have := e29 d (flat oItem (M.set i ⟨mT a, x.h, x.s⟩)) (i * 3 + 1) x.h g1x (flat_snap oItem_snap _) (a + 1) (by omega) (by omega)
      rw [RR, s1, Int.natCast_add, Int.natCast_add] at this
      exact this
    have hC2 : evFun E (d+2) 29 [.ref 0 [i * 3 + 2] 2 0 x.s.length none, vi ((a : Int) + 1 + totS sPiece x.h)] [flat oItem (M.set i ⟨mT a, mkPc (a + 1) x.h, x.s⟩)] = some (vi ((a : Int) + 1 + totS sPiece x.h + totS sPiece x.s), [some (flat oItem N)]) := by
      have := e29 d (flat oItem (M.set i ⟨mT a, mkPc (a + 1) x.h, x.s⟩)) (i * 3 + 2) x.s g2x (flat_snap oItem_snap _) (a + 1 + totS sPiece x.h) (by omega) (by omega)
      rw [RR, s2, Int.natCast_add, Int.natCast_add, Int.natCast_add] at this
      exact this
    have hfl : ∀ y, (flat oItem (M.set i y)).length = L.length * 3 := fun y => by rw [flat_len oItem_len, List.length_set, hMl]
    have hfl0 : (flat oItem M).length = L.length * 3 := by rw [flat_len oItem_len, hMl]
    have ow1 : ∀ y, (flat oItem (M.set i y)).any qb8 = true := fun y => ownI (hMs y)
    have hNi : i < N.length := by rw [← hset2]; exact hMs _
    have ow2 : (flat oItem N).any qb8 = true := ownI hNi
    have pf := pr_false
    have sx1 : sub [i * 3 + 1] (flat oItem (M.set i ⟨mT a, x.h, x.s⟩)) = some (flat oPiece x.h) := by simp only [sub, g1x]
    have sx2 : sub [i * 3 + 2] (flat oItem (M.set i ⟨mT a, mkPc (a + 1) x.h, x.s⟩)) = some (flat oPiece x.s) := by simp only [sub, g2x]
    have hkl : qc2 [0] (.ref 0 [] 3 0 L.length c) = .ref 0 [] 3 0 L.length c := rfl
    have hi2 : i * 3 + 1 ≤ L.length * 3 := by omega
    have hi3 : i * 3 + 3 ≤ L.length * 3 := by omega
    have w1 : 0 < totS sPiece x.h + 1 := by omega
    (have fz := ga15 s0 g1x g2x g1y g2y hT hC1 hC2 hfl hfl0 ow1 ow2 pf hi2 hi3; repeat' (first | simp (maxDischargeDepth := 8) only [go_sem, rr, reduceIte, reduceCtorEq, Nat.reduceEqDiff, Nat.reduceAdd, Nat.reduceMul, Nat.reduceSub, Nat.reduceBEq, Nat.reduceLeDiff, Int.reduceEq, Int.reduceLT, Int.reduceLE, Int.reduceGE, Int.reduceGT, Int.reduceBEq, Int.reduceBNe, Int.reduceToNat, Int.reduceNeg, Int.reduceSub, Int.reduceAdd, Int.reduceMul, fz] | (with_reducible refine qg5 ?_ ?_; focus (first | (simp (maxDischargeDepth := 8) only [bb, kk, fz]; done) | kernel_rfl)) | ((with_reducible first | refine qf3 ?_ ?_ | refine qf4 ?_ ?_ | refine qf5 ?_ ?_ | refine qf6 ?_ ?_ | refine qf7 ?_ ?_ | refine qf8 ?_ ?_ | refine qf9 ?_ ?_); focus (first | assumption | omega | (simp only [bz, fz]; omega))) | ((with_reducible first | refine qg ?_ ?_ | refine qg0 ?_ ?_ | refine qg1 ?_ ?_); focus (first | assumption | omega | (simp only [bz, fz]; omega))) | ((with_reducible first | refine g1_u8w ?_ ?_ | refine qg3 ?_ ?_); (focus ((repeat' (with_reducible apply And.intro)) <;> (first | assumption | omega | (simp only [bz, fz]; omega) | (simp (maxDischargeDepth := 8) only [bb, fz]; done)))); intro _)))
    refine hK _ ?_
    simp only [vv, ff, norm, Array.toList, List.map, Option.isSome_none, bne_self_eq_false, reduceIte, reduceCtorEq, Nat.reduceEqDiff, Nat.reduceAdd, Nat.reduceMul, Nat.reduceSub, Nat.reduceBEq, Nat.reduceLeDiff, Int.reduceEq, Int.reduceLT, Int.reduceLE, Int.reduceGE, Int.reduceGT, Int.reduceBEq, Int.reduceBNe, Int.reduceToNat, Int.reduceNeg, Int.reduceSub, Int.reduceAdd, Int.reduceMul, finish, qe7, resOf, resa, qe8, qe9, qf, keep, qf0, qf1, qf2, qe5, qe6, hkl, Int.natCast_add, cst1, hKs]
  · have hsn := flat_snap oItem_snap (mkIt k L)
    (repeat' (first | simp (maxDischargeDepth := 8) only [go_sem, rr, reduceIte, reduceCtorEq, Nat.reduceEqDiff, Nat.reduceAdd, Nat.reduceMul, Nat.reduceSub, Nat.reduceBEq, Nat.reduceLeDiff, Int.reduceEq, Int.reduceLT, Int.reduceLE, Int.reduceGE, Int.reduceGT, Int.reduceBEq, Int.reduceBNe, Int.reduceToNat, Int.reduceNeg, Int.reduceSub, Int.reduceAdd, Int.reduceMul, mxL_full hml, KI_full, hsn] | (with_reducible refine qg5 ?_ ?_; focus (first | (simp (maxDischargeDepth := 8) only [bb, kk, mxL_full hml, KI_full, hsn]; done) | kernel_rfl)) | ((with_reducible first | refine qf3 ?_ ?_ | refine qf4 ?_ ?_ | refine qf5 ?_ ?_ | refine qf6 ?_ ?_ | refine qf7 ?_ ?_ | refine qf8 ?_ ?_ | refine qf9 ?_ ?_); focus (first | assumption | omega | (simp only [bz, mxL_full hml, KI_full, hsn]; omega))) | ((with_reducible first | refine qg ?_ ?_ | refine qg0 ?_ ?_ | refine qg1 ?_ ?_); focus (first | assumption | omega | (simp only [bz, mxL_full hml, KI_full, hsn]; omega))) | ((with_reducible first | refine g1_u8w ?_ ?_ | refine qg3 ?_ ?_); (focus ((repeat' (with_reducible apply And.intro)) <;> (first | assumption | omega | (simp only [bz, mxL_full hml, KI_full, hsn]; omega) | (simp (maxDischargeDepth := 8) only [bb, mxL_full hml, KI_full, hsn]; done)))); intro _)))
end Go.Proofs.YtghmmockgbiehaaDoor.VH.S
end

section
namespace Go.Proofs.YtghmmockgbiehaaDoor.VH.S
open Go.Proofs
set_option maxRecDepth 100000
set_option maxHeartbeats 8000000
set_option linter.unusedSimpArgs false

/- The names of a shelf. -/
def nmsI (L : List XItem) : List (List UInt8) := L.map XItem.nm
theorem nmsI_len (L : List XItem) : (nmsI L).length = L.length := by simp [nmsI]
theorem nmsI_succ (L : List XItem) {i : Nat} (h : i < L.length) : txt ((nmsI L).take i) ++ [vs (iAt L i).nm] = txt ((nmsI L).take (i + 1)) := by
  have : i < (nmsI L).length := by rw [nmsI_len]; exact h
  rw [List.take_succ_eq_append_getElem this, txt, txt, List.map_append]
  rw [iAt, getD_get h]; simp [nmsI]
def nlL (L : List XItem) : List (List UInt8) := if shOK L then nmsI L else []
theorem e6 (d : Nat) (L : List XItem) (c : Option Nat) (hL : OkIs L) : evFun E (d+13) 6 [.sl .snap 3 L.length c (flat oItem L)] [] = some (.ref 0 [] 1 0 (nlL L).length (capZ (nlL L).length), [some (txt (nlL L))]) := by
  refine evFun_body b6 ?_
  have hl := hL.1
  cases hc : shOK L with
  | false =>
    have hr : nlL L = [] := by simp [nlL, hc]
    (repeat' (first | simp (maxDischargeDepth := 8) only [go_sem, rr, reduceIte, reduceCtorEq, Nat.reduceEqDiff, Nat.reduceAdd, Nat.reduceMul, Nat.reduceSub, Nat.reduceBEq, Nat.reduceLeDiff, Int.reduceEq, Int.reduceLT, Int.reduceLE, Int.reduceGE, Int.reduceGT, Int.reduceBEq, Int.reduceBNe, Int.reduceToNat, Int.reduceNeg, Int.reduceSub, Int.reduceAdd, Int.reduceMul, Tryd.f6] | (with_reducible refine qg5 ?_ ?_; focus (first | (simp (maxDischargeDepth := 8) only [bb, kk]; done) | kernel_rfl)) | ((with_reducible first | refine qf3 ?_ ?_ | refine qf4 ?_ ?_ | refine qf5 ?_ ?_ | refine qf6 ?_ ?_ | refine qf7 ?_ ?_ | refine qf8 ?_ ?_ | refine qf9 ?_ ?_); focus (first | assumption | omega | (simp only [bz]; omega))) | ((with_reducible first | refine qg ?_ ?_ | refine qg0 ?_ ?_ | refine qg1 ?_ ?_); focus (first | assumption | omega | (simp only [bz]; omega))) | ((with_reducible first | refine g1_u8w ?_ ?_ | refine qg3 ?_ ?_); (focus ((repeat' (with_reducible apply And.intro)) <;> (first | assumption | omega | (simp only [bz]; omega) | (simp (maxDischargeDepth := 8) only [bb]; done)))); intro _)))
    refine loop_go (fun _ => {T := tp [(0, .sl .snap 3 L.length c (flat oItem L)), (3, .ref 0 [] 1 0 0 (some 0)), (4, vi 0)], H := hp [some []], nx := 1}) 0 ?_ (lt_LF (by omega)) (fun i hi Kn hK => by omega) (fun Kn => ?_)
    · simp only [vv, ff, norm, Array.toList, List.map, Option.isSome_none, bne_self_eq_false, reduceIte, reduceCtorEq, Nat.reduceEqDiff, Nat.reduceAdd, Nat.reduceMul, Nat.reduceSub, Nat.reduceBEq, Nat.reduceLeDiff, Int.reduceEq, Int.reduceLT, Int.reduceLE, Int.reduceGE, Int.reduceGT, Int.reduceBEq, Int.reduceBNe, Int.reduceToNat, Int.reduceNeg, Int.reduceSub, Int.reduceAdd, Int.reduceMul, finish, qe7, resOf, resa, qe8, qe9, qf, keep, qf0, qf1, qf2, qe5, qe6]
    · by_cases h0 : 0 < L.length
      · (have fz := ga2 hc hr; repeat' (first | simp (maxDischargeDepth := 8) only [go_sem, rr, reduceIte, reduceCtorEq, Nat.reduceEqDiff, Nat.reduceAdd, Nat.reduceMul, Nat.reduceSub, Nat.reduceBEq, Nat.reduceLeDiff, Int.reduceEq, Int.reduceLT, Int.reduceLE, Int.reduceGE, Int.reduceGT, Int.reduceBEq, Int.reduceBNe, Int.reduceToNat, Int.reduceNeg, Int.reduceSub, Int.reduceAdd, Int.reduceMul, fz, capZ_zero, txt] | (with_reducible refine qg5 ?_ ?_; focus (first | (simp (maxDischargeDepth := 8) only [bb, kk, fz, capZ_zero, txt]; done) | kernel_rfl)) | ((with_reducible first | refine qf3 ?_ ?_ | refine qf4 ?_ ?_ | refine qf5 ?_ ?_ | refine qf6 ?_ ?_ | refine qf7 ?_ ?_ | refine qf8 ?_ ?_ | refine qf9 ?_ ?_); focus (first | assumption | omega | (simp only [bz, fz, capZ_zero, txt]; omega))) | ((with_reducible first | refine qg ?_ ?_ | refine qg0 ?_ ?_ | refine qg1 ?_ ?_); focus (first | assumption | omega | (simp only [bz, fz, capZ_zero, txt]; omega))) | ((with_reducible first | refine g1_u8w ?_ ?_ | refine qg3 ?_ ?_); (focus ((repeat' (with_reducible apply And.intro)) <;> (first | assumption | omega | (simp only [bz, fz, capZ_zero, txt]; omega) | (simp (maxDischargeDepth := 8) only [bb, fz, capZ_zero, txt]; done)))); intro _) | (with_reducible apply call_elim; focus ((with_reducible first | apply e24) <;> (first | assumption | omega | (simp only [bz, fz, capZ_zero, txt]; omega) | (simp (maxDischargeDepth := 8) only [bb, fz, capZ_zero, txt]; done))))))
      · (repeat' (first | simp (maxDischargeDepth := 8) only [go_sem, rr, reduceIte, reduceCtorEq, Nat.reduceEqDiff, Nat.reduceAdd, Nat.reduceMul, Nat.reduceSub, Nat.reduceBEq, Nat.reduceLeDiff, Int.reduceEq, Int.reduceLT, Int.reduceLE, Int.reduceGE, Int.reduceGT, Int.reduceBEq, Int.reduceBNe, Int.reduceToNat, Int.reduceNeg, Int.reduceSub, Int.reduceAdd, Int.reduceMul, hr, capZ_zero, txt] | (with_reducible refine qg5 ?_ ?_; focus (first | (simp (maxDischargeDepth := 8) only [bb, kk, hr, capZ_zero, txt]; done) | kernel_rfl)) | ((with_reducible first | refine qf3 ?_ ?_ | refine qf4 ?_ ?_ | refine qf5 ?_ ?_ | refine qf6 ?_ ?_ | refine qf7 ?_ ?_ | refine qf8 ?_ ?_ | refine qf9 ?_ ?_); focus (first | assumption | omega | (simp only [bz, hr, capZ_zero, txt]; omega))) | ((with_reducible first | refine qg ?_ ?_ | refine qg0 ?_ ?_ | refine qg1 ?_ ?_); focus (first | assumption | omega | (simp only [bz, hr, capZ_zero, txt]; omega))) | ((with_reducible first | refine g1_u8w ?_ ?_ | refine qg3 ?_ ?_); (focus ((repeat' (with_reducible apply And.intro)) <;> (first | assumption | omega | (simp only [bz, hr, capZ_zero, txt]; omega) | (simp (maxDischargeDepth := 8) only [bb, hr, capZ_zero, txt]; done)))); intro _)))
  | true =>
    have hr : nlL L = nmsI L := by simp [nlL, hc]
    (repeat' (first | simp (maxDischargeDepth := 8) only [go_sem, rr, reduceIte, reduceCtorEq, Nat.reduceEqDiff, Nat.reduceAdd, Nat.reduceMul, Nat.reduceSub, Nat.reduceBEq, Nat.reduceLeDiff, Int.reduceEq, Int.reduceLT, Int.reduceLE, Int.reduceGE, Int.reduceGT, Int.reduceBEq, Int.reduceBNe, Int.reduceToNat, Int.reduceNeg, Int.reduceSub, Int.reduceAdd, Int.reduceMul, Tryd.f6] | (with_reducible refine qg5 ?_ ?_; focus (first | (simp (maxDischargeDepth := 8) only [bb, kk]; done) | kernel_rfl)) | ((with_reducible first | refine qf3 ?_ ?_ | refine qf4 ?_ ?_ | refine qf5 ?_ ?_ | refine qf6 ?_ ?_ | refine qf7 ?_ ?_ | refine qf8 ?_ ?_ | refine qf9 ?_ ?_); focus (first | assumption | omega | (simp only [bz]; omega))) | ((with_reducible first | refine qg ?_ ?_ | refine qg0 ?_ ?_ | refine qg1 ?_ ?_); focus (first | assumption | omega | (simp only [bz]; omega))) | ((with_reducible first | refine g1_u8w ?_ ?_ | refine qg3 ?_ ?_); (focus ((repeat' (with_reducible apply And.intro)) <;> (first | assumption | omega | (simp only [bz]; omega) | (simp (maxDischargeDepth := 8) only [bb]; done)))); intro _)))
    refine loop_go (fun i => {T := tp [(0, .sl .snap 3 L.length c (flat oItem L)), (3, .ref 0 [] 1 0 i (capZ i)), (4, vi i)], H := hp [some (txt ((nmsI L).take i))], nx := 1}) L.length ?_ (lt_LF (by omega)) (fun i hi Kn hK => ?_) (fun Kn => ?_)
    · simp only [vv, ff, norm, Array.toList, List.map, Option.isSome_none, bne_self_eq_false, reduceIte, reduceCtorEq, Nat.reduceEqDiff, Nat.reduceAdd, Nat.reduceMul, Nat.reduceSub, Nat.reduceBEq, Nat.reduceLeDiff, Int.reduceEq, Int.reduceLT, Int.reduceLE, Int.reduceGE, Int.reduceGT, Int.reduceBEq, Int.reduceBNe, Int.reduceToNat, Int.reduceNeg, Int.reduceSub, Int.reduceAdd, Int.reduceMul, finish, qe7, resOf, resa, qe8, qe9, qf, keep, qf0, qf1, qf2, qe5, qe6, Int.natCast_zero, capZ_zero, txt, List.take_zero]
    · have hg := oI_g0 L hi
      have hs := nmsI_succ L hi
      have hlen : (txt ((nmsI L).take i)).length = i := by rw [txt_len, List.length_take, nmsI_len]; omega
      have ho := txt_own ((nmsI L).take i)
      have hsl := txt_sl ((nmsI L).take i)
      (have fz := ga6 hg hc hs hlen ho hsl; repeat' (first | simp (maxDischargeDepth := 8) only [go_sem, rr, reduceIte, reduceCtorEq, Nat.reduceEqDiff, Nat.reduceAdd, Nat.reduceMul, Nat.reduceSub, Nat.reduceBEq, Nat.reduceLeDiff, Int.reduceEq, Int.reduceLT, Int.reduceLE, Int.reduceGE, Int.reduceGT, Int.reduceBEq, Int.reduceBNe, Int.reduceToNat, Int.reduceNeg, Int.reduceSub, Int.reduceAdd, Int.reduceMul, fz] | (with_reducible refine qg5 ?_ ?_; focus (first | (simp (maxDischargeDepth := 8) only [bb, kk, fz]; done) | kernel_rfl)) | ((with_reducible first | refine qf3 ?_ ?_ | refine qf4 ?_ ?_ | refine qf5 ?_ ?_ | refine qf6 ?_ ?_ | refine qf7 ?_ ?_ | refine qf8 ?_ ?_ | refine qf9 ?_ ?_); focus (first | assumption | omega | (simp only [bz, fz]; omega))) | ((with_reducible first | refine qg ?_ ?_ | refine qg0 ?_ ?_ | refine qg1 ?_ ?_); focus (first | assumption | omega | (simp only [bz, fz]; omega))) | ((with_reducible first | refine g1_u8w ?_ ?_ | refine qg3 ?_ ?_); (focus ((repeat' (with_reducible apply And.intro)) <;> (first | assumption | omega | (simp only [bz, fz]; omega) | (simp (maxDischargeDepth := 8) only [bb, fz]; done)))); intro _) | (with_reducible apply call_elim; focus ((with_reducible first | apply e24) <;> (first | assumption | omega | (simp only [bz, fz]; omega) | (simp (maxDischargeDepth := 8) only [bb, fz]; done))))))
      refine hK _ ?_
      simp only [vv, ff, norm, Array.toList, List.map, Option.isSome_none, bne_self_eq_false, reduceIte, reduceCtorEq, Nat.reduceEqDiff, Nat.reduceAdd, Nat.reduceMul, Nat.reduceSub, Nat.reduceBEq, Nat.reduceLeDiff, Int.reduceEq, Int.reduceLT, Int.reduceLE, Int.reduceGE, Int.reduceGT, Int.reduceBEq, Int.reduceBNe, Int.reduceToNat, Int.reduceNeg, Int.reduceSub, Int.reduceAdd, Int.reduceMul, finish, qe7, resOf, resa, qe8, qe9, qf, keep, qf0, qf1, qf2, qe5, qe6, Int.natCast_add, cst1, capZ_succ, capK_pos Nat.one_pos]
    · have ht : (nmsI L).take L.length = nmsI L := List.take_of_length_le (by rw [nmsI_len]; exact Nat.le_refl _)
      have hsn := txt_snap (nmsI L)
      (have fz := ga3 hr ht hsn; repeat' (first | simp (maxDischargeDepth := 8) only [go_sem, rr, reduceIte, reduceCtorEq, Nat.reduceEqDiff, Nat.reduceAdd, Nat.reduceMul, Nat.reduceSub, Nat.reduceBEq, Nat.reduceLeDiff, Int.reduceEq, Int.reduceLT, Int.reduceLE, Int.reduceGE, Int.reduceGT, Int.reduceBEq, Int.reduceBNe, Int.reduceToNat, Int.reduceNeg, Int.reduceSub, Int.reduceAdd, Int.reduceMul, fz, nmsI_len] | (with_reducible refine qg5 ?_ ?_; focus (first | (simp (maxDischargeDepth := 8) only [bb, kk, fz, nmsI_len]; done) | kernel_rfl)) | ((with_reducible first | refine qf3 ?_ ?_ | refine qf4 ?_ ?_ | refine qf5 ?_ ?_ | refine qf6 ?_ ?_ | refine qf7 ?_ ?_ | refine qf8 ?_ ?_ | refine qf9 ?_ ?_); focus (first | assumption | omega | (simp only [bz, fz, nmsI_len]; omega))) | ((with_reducible first | refine qg ?_ ?_ | refine qg0 ?_ ?_ | refine qg1 ?_ ?_); focus (first | assumption | omega | (simp only [bz, fz, nmsI_len]; omega))) | ((with_reducible first | refine g1_u8w ?_ ?_ | refine qg3 ?_ ?_); (focus ((repeat' (with_reducible apply And.intro)) <;> (first | assumption | omega | (simp only [bz, fz, nmsI_len]; omega) | (simp (maxDischargeDepth := 8) only [bb, fz, nmsI_len]; done)))); intro _)))
theorem e8t (d : Nat) (L : List XItem) (c : Option Nat) (hL : OkIs L) (hc : shOK L = true) : evFun E (d+18) 8 [.sl .snap 3 L.length c (flat oItem L)] [] = some (.ref 0 [] 1 0 L.length (capZ L.length), [some (txt (nmsI L))]) := by
  refine evFun_body b8 ?_
  have hl := hL.1
  (repeat' (first | simp (maxDischargeDepth := 8) only [go_sem, rr, reduceIte, reduceCtorEq, Nat.reduceEqDiff, Nat.reduceAdd, Nat.reduceMul, Nat.reduceSub, Nat.reduceBEq, Nat.reduceLeDiff, Int.reduceEq, Int.reduceLT, Int.reduceLE, Int.reduceGE, Int.reduceGT, Int.reduceBEq, Int.reduceBNe, Int.reduceToNat, Int.reduceNeg, Int.reduceSub, Int.reduceAdd, Int.reduceMul, hc, Tryd.f8] | (with_reducible refine qg5 ?_ ?_; focus (first | (simp (maxDischargeDepth := 8) only [bb, kk, hc]; done) | kernel_rfl)) | ((with_reducible first | refine qf3 ?_ ?_ | refine qf4 ?_ ?_ | refine qf5 ?_ ?_ | refine qf6 ?_ ?_ | refine qf7 ?_ ?_ | refine qf8 ?_ ?_ | refine qf9 ?_ ?_); focus (first | assumption | omega | (simp only [bz, hc]; omega))) | ((with_reducible first | refine qg ?_ ?_ | refine qg0 ?_ ?_ | refine qg1 ?_ ?_); focus (first | assumption | omega | (simp only [bz, hc]; omega))) | ((with_reducible first | refine g1_u8w ?_ ?_ | refine qg3 ?_ ?_); (focus ((repeat' (with_reducible apply And.intro)) <;> (first | assumption | omega | (simp only [bz, hc]; omega) | (simp (maxDischargeDepth := 8) only [bb, hc]; done)))); intro _) | (with_reducible apply call_elim; focus ((with_reducible first | apply e26) <;> (first | assumption | omega | (simp only [bz, hc]; omega) | (simp (maxDischargeDepth := 8) only [bb, hc]; done))))))
  refine loop_go (fun i => {T := tp [(3, .ref 0 [] 1 0 i (capZ i)), (10, .sl .snap 3 L.length c (flat oItem L)), (11, vi L.length), (12, vi i)], H := hp [some (txt ((nmsI L).take i))], nx := 1}) L.length ?_ (lt_LF (by omega)) (fun i hi Kn hK => ?_) (fun Kn => ?_)
  · simp only [vv, ff, norm, Array.toList, List.map, Option.isSome_none, bne_self_eq_false, reduceIte, reduceCtorEq, Nat.reduceEqDiff, Nat.reduceAdd, Nat.reduceMul, Nat.reduceSub, Nat.reduceBEq, Nat.reduceLeDiff, Int.reduceEq, Int.reduceLT, Int.reduceLE, Int.reduceGE, Int.reduceGT, Int.reduceBEq, Int.reduceBNe, Int.reduceToNat, Int.reduceNeg, Int.reduceSub, Int.reduceAdd, Int.reduceMul, finish, qe7, resOf, resa, qe8, qe9, qf, keep, qf0, qf1, qf2, qe5, qe6, Int.natCast_zero, capZ_zero, txt, List.take_zero]
  · have hg := oI_getR L hi
    have hs := nmsI_succ L hi
    have hlen : (txt ((nmsI L).take i)).length = i := by rw [txt_len, List.length_take, nmsI_len]; omega
    have ho := txt_own ((nmsI L).take i)
    have hsl := txt_sl ((nmsI L).take i)
    (have fz := ga5 hg hs hlen ho hsl; repeat' (first | simp (maxDischargeDepth := 8) only [go_sem, rr, reduceIte, reduceCtorEq, Nat.reduceEqDiff, Nat.reduceAdd, Nat.reduceMul, Nat.reduceSub, Nat.reduceBEq, Nat.reduceLeDiff, Int.reduceEq, Int.reduceLT, Int.reduceLE, Int.reduceGE, Int.reduceGT, Int.reduceBEq, Int.reduceBNe, Int.reduceToNat, Int.reduceNeg, Int.reduceSub, Int.reduceAdd, Int.reduceMul, fz] | (with_reducible refine qg5 ?_ ?_; focus (first | (simp (maxDischargeDepth := 8) only [bb, kk, fz]; done) | kernel_rfl)) | ((with_reducible first | refine qf3 ?_ ?_ | refine qf4 ?_ ?_ | refine qf5 ?_ ?_ | refine qf6 ?_ ?_ | refine qf7 ?_ ?_ | refine qf8 ?_ ?_ | refine qf9 ?_ ?_); focus (first | assumption | omega | (simp only [bz, fz]; omega))) | ((with_reducible first | refine qg ?_ ?_ | refine qg0 ?_ ?_ | refine qg1 ?_ ?_); focus (first | assumption | omega | (simp only [bz, fz]; omega))) | ((with_reducible first | refine g1_u8w ?_ ?_ | refine qg3 ?_ ?_); (focus ((repeat' (with_reducible apply And.intro)) <;> (first | assumption | omega | (simp only [bz, fz]; omega) | (simp (maxDischargeDepth := 8) only [bb, fz]; done)))); intro _)))
    refine hK _ ?_
    simp only [vv, ff, norm, Array.toList, List.map, Option.isSome_none, bne_self_eq_false, reduceIte, reduceCtorEq, Nat.reduceEqDiff, Nat.reduceAdd, Nat.reduceMul, Nat.reduceSub, Nat.reduceBEq, Nat.reduceLeDiff, Int.reduceEq, Int.reduceLT, Int.reduceLE, Int.reduceGE, Int.reduceGT, Int.reduceBEq, Int.reduceBNe, Int.reduceToNat, Int.reduceNeg, Int.reduceSub, Int.reduceAdd, Int.reduceMul, finish, qe7, resOf, resa, qe8, qe9, qf, keep, qf0, qf1, qf2, qe5, qe6, Int.natCast_add, cst1, capZ_succ, capK_pos Nat.one_pos]
  · have ht : (nmsI L).take L.length = nmsI L := List.take_of_length_le (by rw [nmsI_len]; exact Nat.le_refl _)
    have hsn := txt_snap (nmsI L)
    (have fz := ga2 ht hsn; repeat' (first | simp (maxDischargeDepth := 8) only [go_sem, rr, reduceIte, reduceCtorEq, Nat.reduceEqDiff, Nat.reduceAdd, Nat.reduceMul, Nat.reduceSub, Nat.reduceBEq, Nat.reduceLeDiff, Int.reduceEq, Int.reduceLT, Int.reduceLE, Int.reduceGE, Int.reduceGT, Int.reduceBEq, Int.reduceBNe, Int.reduceToNat, Int.reduceNeg, Int.reduceSub, Int.reduceAdd, Int.reduceMul, fz] | (with_reducible refine qg5 ?_ ?_; focus (first | (simp (maxDischargeDepth := 8) only [bb, kk, fz]; done) | kernel_rfl)) | ((with_reducible first | refine qf3 ?_ ?_ | refine qf4 ?_ ?_ | refine qf5 ?_ ?_ | refine qf6 ?_ ?_ | refine qf7 ?_ ?_ | refine qf8 ?_ ?_ | refine qf9 ?_ ?_); focus (first | assumption | omega | (simp only [bz, fz]; omega))) | ((with_reducible first | refine qg ?_ ?_ | refine qg0 ?_ ?_ | refine qg1 ?_ ?_); focus (first | assumption | omega | (simp only [bz, fz]; omega))) | ((with_reducible first | refine g1_u8w ?_ ?_ | refine qg3 ?_ ?_); (focus ((repeat' (with_reducible apply And.intro)) <;> (first | assumption | omega | (simp only [bz, fz]; omega) | (simp (maxDischargeDepth := 8) only [bb, fz]; done)))); intro _)))
theorem e8f (d : Nat) (L : List XItem) (c : Option Nat) (hL : OkIs L) (hc : shOK L = false) : evFun E (d+18) 8 [.sl .snap 3 L.length c (flat oItem L)] [] = some (.val (.slice none 0 0), []) := by
  refine evFun_body b8 ?_
  (repeat' (first | simp (maxDischargeDepth := 8) only [go_sem, rr, reduceIte, reduceCtorEq, Nat.reduceEqDiff, Nat.reduceAdd, Nat.reduceMul, Nat.reduceSub, Nat.reduceBEq, Nat.reduceLeDiff, Int.reduceEq, Int.reduceLT, Int.reduceLE, Int.reduceGE, Int.reduceGT, Int.reduceBEq, Int.reduceBNe, Int.reduceToNat, Int.reduceNeg, Int.reduceSub, Int.reduceAdd, Int.reduceMul, hc, Tryd.f8] | (with_reducible refine qg5 ?_ ?_; focus (first | (simp (maxDischargeDepth := 8) only [bb, kk, hc]; done) | kernel_rfl)) | ((with_reducible first | refine qf3 ?_ ?_ | refine qf4 ?_ ?_ | refine qf5 ?_ ?_ | refine qf6 ?_ ?_ | refine qf7 ?_ ?_ | refine qf8 ?_ ?_ | refine qf9 ?_ ?_); focus (first | assumption | omega | (simp only [bz, hc]; omega))) | ((with_reducible first | refine qg ?_ ?_ | refine qg0 ?_ ?_ | refine qg1 ?_ ?_); focus (first | assumption | omega | (simp only [bz, hc]; omega))) | ((with_reducible first | refine g1_u8w ?_ ?_ | refine qg3 ?_ ?_); (focus ((repeat' (with_reducible apply And.intro)) <;> (first | assumption | omega | (simp only [bz, hc]; omega) | (simp (maxDischargeDepth := 8) only [bb, hc]; done)))); intro _) | (with_reducible apply call_elim; focus ((with_reducible first | apply e26) <;> (first | assumption | omega | (simp only [bz, hc]; omega) | (simp (maxDischargeDepth := 8) only [bb, hc]; done))))))
theorem sum_mono {α : Type} {f g : α → Nat} (h : ∀ x, f x ≤ g x) : ∀ L : List α, (L.map f).sum ≤ (L.map g).sum
  | [] => Nat.le_refl _
  | x :: r => by
    have := sum_mono h r
    have := h x
    simp only [List.map_cons, List.sum_cons]; omega
theorem totI_le (L : List XItem) : totS cI L ≤ totS sItem L := by
  have := sum_mono (f := cI) (g := sItem) (fun x => by simp only [cI, sItem]; omega) (L.take L.length)
  simp only [totS, sumS]; omega
theorem mark1I (d : Nat) (L : List XItem) (c : Option Nat) (h : totS sItem L ≤ 1048576) : evFun E (d+3) 11 [.ref 0 [] 3 0 L.length c, vi 1] [flat oItem L] = some (vi ((1 + totS cI L : Nat) : Int), [some (flat oItem (mkIt 1 L))]) := e11 d L c 1 (by decide) (by have := totI_le L; omega)
theorem e3 (d : Nat) (L : List XItem) (hL : L.length ≤ 9223372036854775807) (hK : ∀ y, y ∈ L → KItem y) : evFun E (d+19) 3 [.sl .fgn 3 L.length none (flat fItem L)] [] = some (vb true, []) := by
  refine evFun_body b3 ?_
  by_cases h : (totS sItem L : Int) ≤ 1048576
  · have hs : totS sItem L ≤ 1048576 := by omega
    have hO := okIs_of hs hK
    have hl := hO.1
    have hti := totI_le L
    have hlen := flat_len oItem_len L
    have htk := flat_take oItem_len L
    have hlen2 : (flat oItem (mkIt 1 L)).length = L.length * 3 := by rw [flat_len oItem_len, mkIt_len]
    have hnn : decide (((1 + totS cI L : Nat) : Int) < 0) = false := decide_eq_false (by omega)
    cases ob : (flat oItem (mkIt 1 L)).any qb8 with
    | true =>
      cases hc : shOK L with
      | false =>
        have hr : nlL L = [] := by simp [nlL, hc]
        have hsp : ∀ d c, evFun E (d+13) 6 [.sl .snap 3 L.length c (flat oItem L)] [] = _ := fun d c => e6 d L c hO
        simp only [hr, capZ_zero, List.length_nil, txt, List.map_nil] at hsp
        (have fz := ga7 hc hsp hlen htk hlen2 ob hnn; repeat' (first | simp (maxDischargeDepth := 8) only [go_sem, rr, reduceIte, reduceCtorEq, Nat.reduceEqDiff, Nat.reduceAdd, Nat.reduceMul, Nat.reduceSub, Nat.reduceBEq, Nat.reduceLeDiff, Int.reduceEq, Int.reduceLT, Int.reduceLE, Int.reduceGE, Int.reduceGT, Int.reduceBEq, Int.reduceBNe, Int.reduceToNat, Int.reduceNeg, Int.reduceSub, Int.reduceAdd, Int.reduceMul, fz, bne_self_eq_false, e9n, e12n, e13n, Tryd.f3] | (with_reducible refine qg5 ?_ ?_; focus (first | (simp (maxDischargeDepth := 8) only [bb, kk, fz, bne_self_eq_false, e9n, e12n, e13n]; done) | kernel_rfl)) | ((with_reducible first | refine qf3 ?_ ?_ | refine qf4 ?_ ?_ | refine qf5 ?_ ?_ | refine qf6 ?_ ?_ | refine qf7 ?_ ?_ | refine qf8 ?_ ?_ | refine qf9 ?_ ?_); focus (first | assumption | omega | (simp only [bz, fz, bne_self_eq_false, e9n, e12n, e13n]; omega))) | ((with_reducible first | refine qg ?_ ?_ | refine qg0 ?_ ?_ | refine qg1 ?_ ?_); focus (first | assumption | omega | (simp only [bz, fz, bne_self_eq_false, e9n, e12n, e13n]; omega))) | ((with_reducible first | refine g1_u8w ?_ ?_ | refine qg3 ?_ ?_); (focus ((repeat' (with_reducible apply And.intro)) <;> (first | assumption | omega | (simp only [bz, fz, bne_self_eq_false, e9n, e12n, e13n]; omega) | (simp (maxDischargeDepth := 8) only [bb, fz, bne_self_eq_false, e9n, e12n, e13n]; done)))); intro _) | (with_reducible apply call_elim; focus ((with_reducible first | apply p5 | apply t7 | apply e8f | apply q10 | apply mark1I) <;> (first | assumption | omega | (simp only [bz, fz, bne_self_eq_false, e9n, e12n, e13n]; omega) | (simp (maxDischargeDepth := 8) only [bb, fz, bne_self_eq_false, e9n, e12n, e13n]; done))))))
      | true =>
        have hr : nlL L = nmsI L := by simp [nlL, hc]
        have hsp : ∀ d c, evFun E (d+13) 6 [.sl .snap 3 L.length c (flat oItem L)] [] = _ := fun d c => e6 d L c hO
        simp only [hr, nmsI_len] at hsp
        have ho3 := txt_own (nmsI L)
        have ho4 := txt_own (mkT 1 L.length)
        have hl3 : (txt (nmsI L)).length = L.length := by rw [txt_len, nmsI_len]
        have hl4 : (txt (mkT 1 L.length)).length = L.length := by rw [txt_len, mkT_len]
        have hl5 := nmsI_len L
        have hbb : ((1 + (L.length : Int)) != 1 + L.length) = false := by simp
        (have fz := ga13 hc hsp hlen htk hlen2 ob hnn ho3 ho4 hl3 hl4 hl5 hbb; repeat' (first | simp (maxDischargeDepth := 8) only [go_sem, rr, reduceIte, reduceCtorEq, Nat.reduceEqDiff, Nat.reduceAdd, Nat.reduceMul, Nat.reduceSub, Nat.reduceBEq, Nat.reduceLeDiff, Int.reduceEq, Int.reduceLT, Int.reduceLE, Int.reduceGE, Int.reduceGT, Int.reduceBEq, Int.reduceBNe, Int.reduceToNat, Int.reduceNeg, Int.reduceSub, Int.reduceAdd, Int.reduceMul, fz, bne_self_eq_false, Tryd.f3] | (with_reducible refine qg5 ?_ ?_; focus (first | (simp (maxDischargeDepth := 8) only [bb, kk, fz, bne_self_eq_false]; done) | kernel_rfl)) | ((with_reducible first | refine qf3 ?_ ?_ | refine qf4 ?_ ?_ | refine qf5 ?_ ?_ | refine qf6 ?_ ?_ | refine qf7 ?_ ?_ | refine qf8 ?_ ?_ | refine qf9 ?_ ?_); focus (first | assumption | omega | (simp only [bz, fz, bne_self_eq_false]; omega))) | ((with_reducible first | refine qg ?_ ?_ | refine qg0 ?_ ?_ | refine qg1 ?_ ?_); focus (first | assumption | omega | (simp only [bz, fz, bne_self_eq_false]; omega))) | ((with_reducible first | refine g1_u8w ?_ ?_ | refine qg3 ?_ ?_); (focus ((repeat' (with_reducible apply And.intro)) <;> (first | assumption | omega | (simp only [bz, fz, bne_self_eq_false]; omega) | (simp (maxDischargeDepth := 8) only [bb, fz, bne_self_eq_false]; done)))); intro _) | (with_reducible apply call_elim; focus (first | ((with_reducible first | apply p5 | apply t7 | apply e8t | apply q10 | apply mark1I | apply e9) <;> (first | assumption | omega | (simp only [bz, fz, bne_self_eq_false]; omega) | (simp (maxDischargeDepth := 8) only [bb, fz, bne_self_eq_false]; done))) | ((with_reducible first | apply mark1T) <;> (first | assumption | omega | (simp only [bz, fz, bne_self_eq_false]; omega) | (simp (maxDischargeDepth := 8) only [bb, fz, bne_self_eq_false]; done))) | ((with_reducible first | apply held1T) <;> (first | assumption | omega | (simp only [bz, fz, bne_self_eq_false]; omega) | (simp (maxDischargeDepth := 8) only [bb, fz, bne_self_eq_false]; done)))))))
    | false =>
      cases hc : shOK L with
      | false =>
        have hr : nlL L = [] := by simp [nlL, hc]
        have hsp : ∀ d c, evFun E (d+13) 6 [.sl .snap 3 L.length c (flat oItem L)] [] = _ := fun d c => e6 d L c hO
        simp only [hr, capZ_zero, List.length_nil, txt, List.map_nil] at hsp
        (have fz := ga7 hc hsp hlen htk hlen2 ob hnn; repeat' (first | simp (maxDischargeDepth := 8) only [go_sem, rr, reduceIte, reduceCtorEq, Nat.reduceEqDiff, Nat.reduceAdd, Nat.reduceMul, Nat.reduceSub, Nat.reduceBEq, Nat.reduceLeDiff, Int.reduceEq, Int.reduceLT, Int.reduceLE, Int.reduceGE, Int.reduceGT, Int.reduceBEq, Int.reduceBNe, Int.reduceToNat, Int.reduceNeg, Int.reduceSub, Int.reduceAdd, Int.reduceMul, fz, bne_self_eq_false, e9n, e12n, e13n, Tryd.f3] | (with_reducible refine qg5 ?_ ?_; focus (first | (simp (maxDischargeDepth := 8) only [bb, kk, fz, bne_self_eq_false, e9n, e12n, e13n]; done) | kernel_rfl)) | ((with_reducible first | refine qf3 ?_ ?_ | refine qf4 ?_ ?_ | refine qf5 ?_ ?_ | refine qf6 ?_ ?_ | refine qf7 ?_ ?_ | refine qf8 ?_ ?_ | refine qf9 ?_ ?_); focus (first | assumption | omega | (simp only [bz, fz, bne_self_eq_false, e9n, e12n, e13n]; omega))) | ((with_reducible first | refine qg ?_ ?_ | refine qg0 ?_ ?_ | refine qg1 ?_ ?_); focus (first | assumption | omega | (simp only [bz, fz, bne_self_eq_false, e9n, e12n, e13n]; omega))) | ((with_reducible first | refine g1_u8w ?_ ?_ | refine qg3 ?_ ?_); (focus ((repeat' (with_reducible apply And.intro)) <;> (first | assumption | omega | (simp only [bz, fz, bne_self_eq_false, e9n, e12n, e13n]; omega) | (simp (maxDischargeDepth := 8) only [bb, fz, bne_self_eq_false, e9n, e12n, e13n]; done)))); intro _) | (with_reducible apply call_elim; focus ((with_reducible first | apply p5 | apply t7 | apply e8f | apply q10 | apply mark1I) <;> (first | assumption | omega | (simp only [bz, fz, bne_self_eq_false, e9n, e12n, e13n]; omega) | (simp (maxDischargeDepth := 8) only [bb, fz, bne_self_eq_false, e9n, e12n, e13n]; done))))))
      | true =>
        have hr : nlL L = nmsI L := by simp [nlL, hc]
        have hsp : ∀ d c, evFun E (d+13) 6 [.sl .snap 3 L.length c (flat oItem L)] [] = _ := fun d c => e6 d L c hO
        simp only [hr, nmsI_len] at hsp
        have ho3 := txt_own (nmsI L)
        have ho4 := txt_own (mkT 1 L.length)
        have hl3 : (txt (nmsI L)).length = L.length := by rw [txt_len, nmsI_len]
        have hl4 : (txt (mkT 1 L.length)).length = L.length := by rw [txt_len, mkT_len]
        have hl5 := nmsI_len L
        have hbb : ((1 + (L.length : Int)) != 1 + L.length) = false := by simp
        (have fz := ga13 hc hsp hlen htk hlen2 ob hnn ho3 ho4 hl3 hl4 hl5 hbb; repeat' (first | simp (maxDischargeDepth := 8) only [go_sem, rr, reduceIte, reduceCtorEq, Nat.reduceEqDiff, Nat.reduceAdd, Nat.reduceMul, Nat.reduceSub, Nat.reduceBEq, Nat.reduceLeDiff, Int.reduceEq, Int.reduceLT, Int.reduceLE, Int.reduceGE, Int.reduceGT, Int.reduceBEq, Int.reduceBNe, Int.reduceToNat, Int.reduceNeg, Int.reduceSub, Int.reduceAdd, Int.reduceMul, fz, bne_self_eq_false, Tryd.f3] | (with_reducible refine qg5 ?_ ?_; focus (first | (simp (maxDischargeDepth := 8) only [bb, kk, fz, bne_self_eq_false]; done) | kernel_rfl)) | ((with_reducible first | refine qf3 ?_ ?_ | refine qf4 ?_ ?_ | refine qf5 ?_ ?_ | refine qf6 ?_ ?_ | refine qf7 ?_ ?_ | refine qf8 ?_ ?_ | refine qf9 ?_ ?_); focus (first | assumption | omega | (simp only [bz, fz, bne_self_eq_false]; omega))) | ((with_reducible first | refine qg ?_ ?_ | refine qg0 ?_ ?_ | refine qg1 ?_ ?_); focus (first | assumption | omega | (simp only [bz, fz, bne_self_eq_false]; omega))) | ((with_reducible first | refine g1_u8w ?_ ?_ | refine qg3 ?_ ?_); (focus ((repeat' (with_reducible apply And.intro)) <;> (first | assumption | omega | (simp only [bz, fz, bne_self_eq_false]; omega) | (simp (maxDischargeDepth := 8) only [bb, fz, bne_self_eq_false]; done)))); intro _) | (with_reducible apply call_elim; focus (first | ((with_reducible first | apply p5 | apply t7 | apply e8t | apply q10 | apply mark1I | apply e9) <;> (first | assumption | omega | (simp only [bz, fz, bne_self_eq_false]; omega) | (simp (maxDischargeDepth := 8) only [bb, fz, bne_self_eq_false]; done))) | ((with_reducible first | apply mark1T) <;> (first | assumption | omega | (simp only [bz, fz, bne_self_eq_false]; omega) | (simp (maxDischargeDepth := 8) only [bb, fz, bne_self_eq_false]; done))) | ((with_reducible first | apply held1T) <;> (first | assumption | omega | (simp only [bz, fz, bne_self_eq_false]; omega) | (simp (maxDischargeDepth := 8) only [bb, fz, bne_self_eq_false]; done)))))))
  · (repeat' (first | simp (maxDischargeDepth := 8) only [go_sem, rr, reduceIte, reduceCtorEq, Nat.reduceEqDiff, Nat.reduceAdd, Nat.reduceMul, Nat.reduceSub, Nat.reduceBEq, Nat.reduceLeDiff, Int.reduceEq, Int.reduceLT, Int.reduceLE, Int.reduceGE, Int.reduceGT, Int.reduceBEq, Int.reduceBNe, Int.reduceToNat, Int.reduceNeg, Int.reduceSub, Int.reduceAdd, Int.reduceMul, Tryd.f3] | (with_reducible refine qg5 ?_ ?_; focus (first | (simp (maxDischargeDepth := 8) only [bb, kk]; done) | kernel_rfl)) | ((with_reducible first | refine qf3 ?_ ?_ | refine qf4 ?_ ?_ | refine qf5 ?_ ?_ | refine qf6 ?_ ?_ | refine qf7 ?_ ?_ | refine qf8 ?_ ?_ | refine qf9 ?_ ?_); focus (first | assumption | omega | (simp only [bz]; omega))) | ((with_reducible first | refine qg ?_ ?_ | refine qg0 ?_ ?_ | refine qg1 ?_ ?_); focus (first | assumption | omega | (simp only [bz]; omega))) | ((with_reducible first | refine g1_u8w ?_ ?_ | refine qg3 ?_ ?_); (focus ((repeat' (with_reducible apply And.intro)) <;> (first | assumption | omega | (simp only [bz]; omega) | (simp (maxDischargeDepth := 8) only [bb]; done)))); intro _) | (with_reducible apply call_elim; focus ((with_reducible first | apply n5) <;> (first | assumption | omega | (simp only [bz]; omega) | (simp (maxDischargeDepth := 8) only [bb]; done))))))
end Go.Proofs.YtghmmockgbiehaaDoor.VH.S
end

