/- Part of a proof about the given program: a verified evaluator, and what it tells of the functions (VhJFCe, VhJFCt, VhJFMk, VhJFCn, VhJFCf, VhJFCg, VhJFCd, VhJFDp, VhJFCx, VhJFIn, VhJFCu, VhJFCo, VhJFCb, VhJFCr, VhJFCs, VhJFDq, VhJFDc, VhJFDe, VhJFDf). Conditions: none beyond the hypotheses that each theorem states. -/
import Derived.Test.YtgdldmfkgijkaaaDoorG4
import Derived.Test.YtgdldmfkgijkaaaDoorG3
set_option linter.unusedSimpArgs false
set_option linter.unusedVariables false
set_option linter.defProp false
section
namespace Go.Proofs.YtgdldmfkgijkaaaDoor.VH.S
open Go.Proofs
set_option maxRecDepth 100000
set_option maxHeartbeats 8000000
set_option linter.unusedSimpArgs false

/- Entries of a catalog. -/
structure Ent where
  nm : List UInt8
  v : Int
  s : Int
  r : Int
  deriving DecidableEq
abbrev encE (e : Ent) : List AV := [vs e.nm, vi e.v, vi e.s, vi e.r]
def e0 : Ent := ⟨[], 0, 0, 0⟩
def eA (L : List Ent) (i : Nat) : Ent := L.getD i e0
theorem eA_get {L : List Ent} {i : Nat} (h : i < L.length) : eA L i = L[i] := by
  rw [eA, List.getD_eq_getElem?_getD, List.getElem?_eq_getElem h]; rfl
theorem encE_len (e : Ent) : (encE e).length = 4 := rfl
theorem fE_len (L : List Ent) : (flat encE L).length = L.length * 4 := flat_len encE_len L
theorem fE_getR (L : List Ent) {i : Nat} (h : i < L.length) : getR (flat encE L) (i * 4) 4 = some (encE (eA L i)) := by rw [eA_get h]; exact flt_getR encE_len L h
theorem fE_get0 (L : List Ent) {i : Nat} (h : i < L.length) : g1 (flat encE L) (i * 4) = some (vs (eA L i).nm) := by
  have := flt_get encE_len L i h 0 (by decide); rw [eA_get h]; simpa [g1] using this
theorem noSnapL_encE : ∀ L : List Ent, qf2 (flat encE L) = true
  | [] => rfl
  | e :: L => by
    simp only [flat, List.cons_append, List.nil_append, qf2, qf1, noSnapL_encE L]; rfl
theorem anyOwn_encE : ∀ L : List Ent, (flat encE L).any qb8 = false
  | [] => rfl
  | e :: L => by simp only [flat, List.cons_append, List.nil_append, List.any_cons, qb8, anyOwn_encE L]; rfl
theorem anySl_encE : ∀ L : List Ent, (flat encE L).any isSl = false
  | [] => rfl
  | e :: L => by simp only [flat, List.cons_append, List.nil_append, List.any_cons, isSl, anySl_encE L]; rfl
def entOK (e : Ent) : Bool := nameOK e.nm && (decide (1 ≤ e.v) && decide (e.v ≤ 1000000)) && (decide (0 ≤ e.s) && decide (e.s ≤ 120)) && (decide (0 ≤ e.r) && decide (e.r ≤ 1152921504606846975))
theorem e86b (d : Nat) (x : Int) : evFun E (d+2) 86 [vi x] [] = some (vb (decide (0 ≤ x) && decide (x ≤ 1152921504606846975)), []) := e86 d x
theorem e63 (d : Nat) (e : Ent) (hl : e.nm.length ≤ 549755813888) : evFun E (d+5) 63 [.agg [vs e.nm, vi e.v, vi e.s, vi e.r]] [] = some (vb (entOK e), []) := by
  refine evFun_body b63 ?_
  cases h1 : nameOK e.nm with
  | false =>
    have hr : entOK e = false := by simp [entOK, h1]
    (have fz := ga2 h1 hr; repeat' (first | simp (maxDischargeDepth := 8) only [go_sem, rr, reduceIte, reduceCtorEq, Nat.reduceEqDiff, Nat.reduceAdd, Nat.reduceMul, Nat.reduceSub, Nat.reduceBEq, Nat.reduceLeDiff, Int.reduceEq, Int.reduceLT, Int.reduceLE, Int.reduceGE, Int.reduceGT, Int.reduceBEq, Int.reduceBNe, Int.reduceToNat, Int.reduceNeg, Int.reduceSub, Int.reduceAdd, Int.reduceMul, fz, Tryd.f63] | (with_reducible refine qg9 ?_ ?_; focus (first | (simp (maxDischargeDepth := 8) only [bb, kk, fz]; done) | kernel_rfl)) | ((with_reducible first | refine qf7 ?_ ?_ | refine qf8 ?_ ?_ | refine qf9 ?_ ?_ | refine qg ?_ ?_ | refine qg0 ?_ ?_ | refine qg1 ?_ ?_ | refine qg2 ?_ ?_); focus (first | assumption | omega | (simp only [bz, fz]; omega))) | ((with_reducible first | refine qg3 ?_ ?_ | refine qg4 ?_ ?_ | refine qg5 ?_ ?_); focus (first | assumption | omega | (simp only [bz, fz]; omega))) | ((with_reducible first | refine g1_u8w ?_ ?_ | refine qg7 ?_ ?_); (focus ((repeat' (with_reducible apply And.intro)) <;> (first | assumption | omega | (simp only [bz, fz]; omega) | (simp (maxDischargeDepth := 8) only [bb, fz]; done)))); intro _) | (with_reducible apply call_elim; focus ((with_reducible first | apply e79) <;> (first | assumption | omega | (simp only [bz, fz]; omega) | (simp (maxDischargeDepth := 8) only [bb, fz]; done))))))
  | true =>
    by_cases h2 : 1 ≤ e.v ∧ e.v ≤ 1000000
    · by_cases h3 : 0 ≤ e.s ∧ e.s ≤ 120
      · have hr : entOK e = (decide (0 ≤ e.r) && decide (e.r ≤ 1152921504606846975)) := by simp [entOK, h1, h2, h3]
        (have fz := ga2 h1 hr; repeat' (first | simp (maxDischargeDepth := 8) only [go_sem, rr, reduceIte, reduceCtorEq, Nat.reduceEqDiff, Nat.reduceAdd, Nat.reduceMul, Nat.reduceSub, Nat.reduceBEq, Nat.reduceLeDiff, Int.reduceEq, Int.reduceLT, Int.reduceLE, Int.reduceGE, Int.reduceGT, Int.reduceBEq, Int.reduceBNe, Int.reduceToNat, Int.reduceNeg, Int.reduceSub, Int.reduceAdd, Int.reduceMul, fz, Tryd.f63] | (with_reducible refine qg9 ?_ ?_; focus (first | (simp (maxDischargeDepth := 8) only [bb, kk, fz]; done) | kernel_rfl)) | ((with_reducible first | refine qf7 ?_ ?_ | refine qf8 ?_ ?_ | refine qf9 ?_ ?_ | refine qg ?_ ?_ | refine qg0 ?_ ?_ | refine qg1 ?_ ?_ | refine qg2 ?_ ?_); focus (first | assumption | omega | (simp only [bz, fz]; omega))) | ((with_reducible first | refine qg3 ?_ ?_ | refine qg4 ?_ ?_ | refine qg5 ?_ ?_); focus (first | assumption | omega | (simp only [bz, fz]; omega))) | ((with_reducible first | refine g1_u8w ?_ ?_ | refine qg7 ?_ ?_); (focus ((repeat' (with_reducible apply And.intro)) <;> (first | assumption | omega | (simp only [bz, fz]; omega) | (simp (maxDischargeDepth := 8) only [bb, fz]; done)))); intro _) | (with_reducible apply call_elim; focus ((with_reducible first | apply e79 | apply e40 | apply e86b) <;> (first | assumption | omega | (simp only [bz, fz]; omega) | (simp (maxDischargeDepth := 8) only [bb, fz]; done))))))
      · have hr : entOK e = false := by
          have : (decide (0 ≤ e.s) && decide (e.s ≤ 120)) = false := by simp; omega
          simp [entOK, this]
        (have fz := ga2 h1 hr; repeat' (first | simp (maxDischargeDepth := 8) only [go_sem, rr, reduceIte, reduceCtorEq, Nat.reduceEqDiff, Nat.reduceAdd, Nat.reduceMul, Nat.reduceSub, Nat.reduceBEq, Nat.reduceLeDiff, Int.reduceEq, Int.reduceLT, Int.reduceLE, Int.reduceGE, Int.reduceGT, Int.reduceBEq, Int.reduceBNe, Int.reduceToNat, Int.reduceNeg, Int.reduceSub, Int.reduceAdd, Int.reduceMul, fz, Tryd.f63] | (with_reducible refine qg9 ?_ ?_; focus (first | (simp (maxDischargeDepth := 8) only [bb, kk, fz]; done) | kernel_rfl)) | ((with_reducible first | refine qf7 ?_ ?_ | refine qf8 ?_ ?_ | refine qf9 ?_ ?_ | refine qg ?_ ?_ | refine qg0 ?_ ?_ | refine qg1 ?_ ?_ | refine qg2 ?_ ?_); focus (first | assumption | omega | (simp only [bz, fz]; omega))) | ((with_reducible first | refine qg3 ?_ ?_ | refine qg4 ?_ ?_ | refine qg5 ?_ ?_); focus (first | assumption | omega | (simp only [bz, fz]; omega))) | ((with_reducible first | refine g1_u8w ?_ ?_ | refine qg7 ?_ ?_); (focus ((repeat' (with_reducible apply And.intro)) <;> (first | assumption | omega | (simp only [bz, fz]; omega) | (simp (maxDischargeDepth := 8) only [bb, fz]; done)))); intro _) | (with_reducible apply call_elim; focus ((with_reducible first | apply e79 | apply e40) <;> (first | assumption | omega | (simp only [bz, fz]; omega) | (simp (maxDischargeDepth := 8) only [bb, fz]; done))))))
    · have hr : entOK e = false := by
        have : (decide (1 ≤ e.v) && decide (e.v ≤ 1000000)) = false := by simp; omega
        simp [entOK, this]
      (have fz := ga2 h1 hr; repeat' (first | simp (maxDischargeDepth := 8) only [go_sem, rr, reduceIte, reduceCtorEq, Nat.reduceEqDiff, Nat.reduceAdd, Nat.reduceMul, Nat.reduceSub, Nat.reduceBEq, Nat.reduceLeDiff, Int.reduceEq, Int.reduceLT, Int.reduceLE, Int.reduceGE, Int.reduceGT, Int.reduceBEq, Int.reduceBNe, Int.reduceToNat, Int.reduceNeg, Int.reduceSub, Int.reduceAdd, Int.reduceMul, fz, Tryd.f63] | (with_reducible refine qg9 ?_ ?_; focus (first | (simp (maxDischargeDepth := 8) only [bb, kk, fz]; done) | kernel_rfl)) | ((with_reducible first | refine qf7 ?_ ?_ | refine qf8 ?_ ?_ | refine qf9 ?_ ?_ | refine qg ?_ ?_ | refine qg0 ?_ ?_ | refine qg1 ?_ ?_ | refine qg2 ?_ ?_); focus (first | assumption | omega | (simp only [bz, fz]; omega))) | ((with_reducible first | refine qg3 ?_ ?_ | refine qg4 ?_ ?_ | refine qg5 ?_ ?_); focus (first | assumption | omega | (simp only [bz, fz]; omega))) | ((with_reducible first | refine g1_u8w ?_ ?_ | refine qg7 ?_ ?_); (focus ((repeat' (with_reducible apply And.intro)) <;> (first | assumption | omega | (simp only [bz, fz]; omega) | (simp (maxDischargeDepth := 8) only [bb, fz]; done)))); intro _) | (with_reducible apply call_elim; focus ((with_reducible first | apply e79 | apply e40) <;> (first | assumption | omega | (simp only [bz, fz]; omega) | (simp (maxDischargeDepth := 8) only [bb, fz]; done))))))
theorem e62 (d : Nat) (e : Ent) (hl : e.nm.length ≤ 549755813888) : evFun E (d+3) 62 [.agg [vs e.nm, vi e.v, vi e.s, vi e.r]] [] = some (vb (entOK e), []) := by
  refine evFun_body b62 ?_
  cases h1 : nameOK e.nm with
  | false =>
    have hr : entOK e = false := by simp [entOK, h1]
    (have fz := ga2 h1 hr; repeat' (first | simp (maxDischargeDepth := 8) only [go_sem, rr, reduceIte, reduceCtorEq, Nat.reduceEqDiff, Nat.reduceAdd, Nat.reduceMul, Nat.reduceSub, Nat.reduceBEq, Nat.reduceLeDiff, Int.reduceEq, Int.reduceLT, Int.reduceLE, Int.reduceGE, Int.reduceGT, Int.reduceBEq, Int.reduceBNe, Int.reduceToNat, Int.reduceNeg, Int.reduceSub, Int.reduceAdd, Int.reduceMul, fz, Tryd.f62] | (with_reducible refine qg9 ?_ ?_; focus (first | (simp (maxDischargeDepth := 8) only [bb, kk, fz]; done) | kernel_rfl)) | ((with_reducible first | refine qf7 ?_ ?_ | refine qf8 ?_ ?_ | refine qf9 ?_ ?_ | refine qg ?_ ?_ | refine qg0 ?_ ?_ | refine qg1 ?_ ?_ | refine qg2 ?_ ?_); focus (first | assumption | omega | (simp only [bz, fz]; omega))) | ((with_reducible first | refine qg3 ?_ ?_ | refine qg4 ?_ ?_ | refine qg5 ?_ ?_); focus (first | assumption | omega | (simp only [bz, fz]; omega))) | ((with_reducible first | refine g1_u8w ?_ ?_ | refine qg7 ?_ ?_); (focus ((repeat' (with_reducible apply And.intro)) <;> (first | assumption | omega | (simp only [bz, fz]; omega) | (simp (maxDischargeDepth := 8) only [bb, fz]; done)))); intro _) | (with_reducible apply call_elim; focus ((with_reducible first | apply e38) <;> (first | assumption | omega | (simp only [bz, fz]; omega) | (simp (maxDischargeDepth := 8) only [bb, fz]; done))))))
  | true =>
    by_cases h2 : 1 ≤ e.v ∧ e.v ≤ 1000000
    · by_cases h3 : 0 ≤ e.s ∧ e.s ≤ 120
      · have hr : entOK e = (decide (e.r ≥ 0) && decide (e.r ≤ 1152921504606846975)) := by simp [entOK, h1, h2, h3]
        (have fz := ga2 h1 hr; repeat' (first | simp (maxDischargeDepth := 8) only [go_sem, rr, reduceIte, reduceCtorEq, Nat.reduceEqDiff, Nat.reduceAdd, Nat.reduceMul, Nat.reduceSub, Nat.reduceBEq, Nat.reduceLeDiff, Int.reduceEq, Int.reduceLT, Int.reduceLE, Int.reduceGE, Int.reduceGT, Int.reduceBEq, Int.reduceBNe, Int.reduceToNat, Int.reduceNeg, Int.reduceSub, Int.reduceAdd, Int.reduceMul, fz, Tryd.f62] | (with_reducible refine qg9 ?_ ?_; focus (first | (simp (maxDischargeDepth := 8) only [bb, kk, fz]; done) | kernel_rfl)) | ((with_reducible first | refine qf7 ?_ ?_ | refine qf8 ?_ ?_ | refine qf9 ?_ ?_ | refine qg ?_ ?_ | refine qg0 ?_ ?_ | refine qg1 ?_ ?_ | refine qg2 ?_ ?_); focus (first | assumption | omega | (simp only [bz, fz]; omega))) | ((with_reducible first | refine qg3 ?_ ?_ | refine qg4 ?_ ?_ | refine qg5 ?_ ?_); focus (first | assumption | omega | (simp only [bz, fz]; omega))) | ((with_reducible first | refine g1_u8w ?_ ?_ | refine qg7 ?_ ?_); (focus ((repeat' (with_reducible apply And.intro)) <;> (first | assumption | omega | (simp only [bz, fz]; omega) | (simp (maxDischargeDepth := 8) only [bb, fz]; done)))); intro _) | (with_reducible apply call_elim; focus ((with_reducible first | apply e38 | apply e39) <;> (first | assumption | omega | (simp only [bz, fz]; omega) | (simp (maxDischargeDepth := 8) only [bb, fz]; done))))))
      · have hr : entOK e = false := by
          have : (decide (0 ≤ e.s) && decide (e.s ≤ 120)) = false := by simp; omega
          simp [entOK, this]
        (have fz := ga2 h1 hr; repeat' (first | simp (maxDischargeDepth := 8) only [go_sem, rr, reduceIte, reduceCtorEq, Nat.reduceEqDiff, Nat.reduceAdd, Nat.reduceMul, Nat.reduceSub, Nat.reduceBEq, Nat.reduceLeDiff, Int.reduceEq, Int.reduceLT, Int.reduceLE, Int.reduceGE, Int.reduceGT, Int.reduceBEq, Int.reduceBNe, Int.reduceToNat, Int.reduceNeg, Int.reduceSub, Int.reduceAdd, Int.reduceMul, fz, Tryd.f62] | (with_reducible refine qg9 ?_ ?_; focus (first | (simp (maxDischargeDepth := 8) only [bb, kk, fz]; done) | kernel_rfl)) | ((with_reducible first | refine qf7 ?_ ?_ | refine qf8 ?_ ?_ | refine qf9 ?_ ?_ | refine qg ?_ ?_ | refine qg0 ?_ ?_ | refine qg1 ?_ ?_ | refine qg2 ?_ ?_); focus (first | assumption | omega | (simp only [bz, fz]; omega))) | ((with_reducible first | refine qg3 ?_ ?_ | refine qg4 ?_ ?_ | refine qg5 ?_ ?_); focus (first | assumption | omega | (simp only [bz, fz]; omega))) | ((with_reducible first | refine g1_u8w ?_ ?_ | refine qg7 ?_ ?_); (focus ((repeat' (with_reducible apply And.intro)) <;> (first | assumption | omega | (simp only [bz, fz]; omega) | (simp (maxDischargeDepth := 8) only [bb, fz]; done)))); intro _) | (with_reducible apply call_elim; focus ((with_reducible first | apply e38 | apply e39) <;> (first | assumption | omega | (simp only [bz, fz]; omega) | (simp (maxDischargeDepth := 8) only [bb, fz]; done))))))
    · have hr : entOK e = false := by
        have : (decide (1 ≤ e.v) && decide (e.v ≤ 1000000)) = false := by simp; omega
        simp [entOK, this]
      (have fz := ga2 h1 hr; repeat' (first | simp (maxDischargeDepth := 8) only [go_sem, rr, reduceIte, reduceCtorEq, Nat.reduceEqDiff, Nat.reduceAdd, Nat.reduceMul, Nat.reduceSub, Nat.reduceBEq, Nat.reduceLeDiff, Int.reduceEq, Int.reduceLT, Int.reduceLE, Int.reduceGE, Int.reduceGT, Int.reduceBEq, Int.reduceBNe, Int.reduceToNat, Int.reduceNeg, Int.reduceSub, Int.reduceAdd, Int.reduceMul, fz, Tryd.f62] | (with_reducible refine qg9 ?_ ?_; focus (first | (simp (maxDischargeDepth := 8) only [bb, kk, fz]; done) | kernel_rfl)) | ((with_reducible first | refine qf7 ?_ ?_ | refine qf8 ?_ ?_ | refine qf9 ?_ ?_ | refine qg ?_ ?_ | refine qg0 ?_ ?_ | refine qg1 ?_ ?_ | refine qg2 ?_ ?_); focus (first | assumption | omega | (simp only [bz, fz]; omega))) | ((with_reducible first | refine qg3 ?_ ?_ | refine qg4 ?_ ?_ | refine qg5 ?_ ?_); focus (first | assumption | omega | (simp only [bz, fz]; omega))) | ((with_reducible first | refine g1_u8w ?_ ?_ | refine qg7 ?_ ?_); (focus ((repeat' (with_reducible apply And.intro)) <;> (first | assumption | omega | (simp only [bz, fz]; omega) | (simp (maxDischargeDepth := 8) only [bb, fz]; done)))); intro _) | (with_reducible apply call_elim; focus ((with_reducible first | apply e38 | apply e39) <;> (first | assumption | omega | (simp only [bz, fz]; omega) | (simp (maxDischargeDepth := 8) only [bb, fz]; done))))))
def stOK (L : List Ent) (i : Nat) : Bool := entOK (eA L i) && (decide (i = 0) || ltB (eA L (i - 1)).nm (eA L i).nm)
def catOK (L : List Ent) : Bool := (List.range L.length).all (stOK L) && decide (L.length ≤ 5)
theorem catOK_no {L : List Ent} {i : Nat} (h : i < L.length) (hs : stOK L i = false) : catOK L = false := by
  have : (List.range L.length).all (stOK L) = false := List.all_eq_false.mpr ⟨i, List.mem_range.mpr h, by rw [hs]; simp⟩
  simp [catOK, this]
theorem catOK_all {L : List Ent} (h : ∀ i, i < L.length → stOK L i = true) : catOK L = decide (L.length ≤ 5) := by
  have : (List.range L.length).all (stOK L) = true := List.all_eq_true.mpr fun i hi => h i (List.mem_range.mp hi)
  simp [catOK, this]
def Small (L : List Ent) : Prop := L.length ≤ 549755813888 ∧ ∀ i, (eA L i).nm.length ≤ 549755813888
theorem e24 (d : Nat) (L : List Ent) (tg : Tg) (c : Option Nat) (hS : Small L) : evFun E (d+6) 24 [.sl tg 4 L.length c (flat encE L)] [] = some (vb (catOK L), []) := by
  refine evFun_body b24 ?_
  have hl := hS.1
  have hq : decide ((L.length : Int) ≤ 5) = decide (L.length ≤ 5) := by rw [Bool.eq_iff_iff]; simp; omega
  (repeat' (first | simp (maxDischargeDepth := 8) only [go_sem, rr, reduceIte, reduceCtorEq, Nat.reduceEqDiff, Nat.reduceAdd, Nat.reduceMul, Nat.reduceSub, Nat.reduceBEq, Nat.reduceLeDiff, Int.reduceEq, Int.reduceLT, Int.reduceLE, Int.reduceGE, Int.reduceGT, Int.reduceBEq, Int.reduceBNe, Int.reduceToNat, Int.reduceNeg, Int.reduceSub, Int.reduceAdd, Int.reduceMul, Tryd.f24] | (with_reducible refine qg9 ?_ ?_; focus (first | (simp (maxDischargeDepth := 8) only [bb, kk]; done) | kernel_rfl)) | ((with_reducible first | refine qf7 ?_ ?_ | refine qf8 ?_ ?_ | refine qf9 ?_ ?_ | refine qg ?_ ?_ | refine qg0 ?_ ?_ | refine qg1 ?_ ?_ | refine qg2 ?_ ?_); focus (first | assumption | omega | (simp only [bz]; omega))) | ((with_reducible first | refine qg3 ?_ ?_ | refine qg4 ?_ ?_ | refine qg5 ?_ ?_); focus (first | assumption | omega | (simp only [bz]; omega))) | ((with_reducible first | refine g1_u8w ?_ ?_ | refine qg7 ?_ ?_); (focus ((repeat' (with_reducible apply And.intro)) <;> (first | assumption | omega | (simp only [bz]; omega) | (simp (maxDischargeDepth := 8) only [bb]; done)))); intro _)))
  refine loop_inv (fun i => ∀ j, j < i → stOK L j = true) (fun i => {T := tp [(0, .sl tg 4 L.length c (flat encE L)), (5, .sl tg 4 L.length c (flat encE L)), (6, vi L.length), (7, vi i)], H := hp [], nx := 0}) L.length ?_ (fun j h => by omega) (lt_LF (by omega)) (fun i hi hI Kn hK => ?_) (fun hI Kn => ?_)
  · simp only [vv, ff, norm, Array.toList, List.map, Option.isSome_none, bne_self_eq_false, reduceIte, reduceCtorEq, Nat.reduceEqDiff, Nat.reduceAdd, Nat.reduceMul, Nat.reduceSub, Nat.reduceBEq, Nat.reduceLeDiff, Int.reduceEq, Int.reduceLT, Int.reduceLE, Int.reduceGE, Int.reduceGT, Int.reduceBEq, Int.reduceBNe, Int.reduceToNat, Int.reduceNeg, Int.reduceSub, Int.reduceAdd, Int.reduceMul, finish, qf0, resOf, resa, qf1, qf2, qf3, keep, qf4, qf5, qf6, qe9, qf, Int.natCast_zero]
  · have hg := fE_getR L hi
    have h0 := fE_get0 L hi
    have hn := hS.2 i
    have next : stOK L i = true → ∀ j, j < i + 1 → stOK L j = true := fun h j hj => by
      by_cases e : j = i
      · subst e; exact h
      · exact hI j (by omega)
    cases h1 : entOK (eA L i) with
    | false =>
      have hr := catOK_no hi (show stOK L i = false by simp [stOK, h1])
      (have fz := ga4 hg h0 h1 hr; repeat' (first | simp (maxDischargeDepth := 8) only [go_sem, rr, reduceIte, reduceCtorEq, Nat.reduceEqDiff, Nat.reduceAdd, Nat.reduceMul, Nat.reduceSub, Nat.reduceBEq, Nat.reduceLeDiff, Int.reduceEq, Int.reduceLT, Int.reduceLE, Int.reduceGE, Int.reduceGT, Int.reduceBEq, Int.reduceBNe, Int.reduceToNat, Int.reduceNeg, Int.reduceSub, Int.reduceAdd, Int.reduceMul, fz] | (with_reducible refine qg9 ?_ ?_; focus (first | (simp (maxDischargeDepth := 8) only [bb, kk, fz]; done) | kernel_rfl)) | ((with_reducible first | refine qf7 ?_ ?_ | refine qf8 ?_ ?_ | refine qf9 ?_ ?_ | refine qg ?_ ?_ | refine qg0 ?_ ?_ | refine qg1 ?_ ?_ | refine qg2 ?_ ?_); focus (first | assumption | omega | (simp only [bz, fz]; omega))) | ((with_reducible first | refine qg3 ?_ ?_ | refine qg4 ?_ ?_ | refine qg5 ?_ ?_); focus (first | assumption | omega | (simp only [bz, fz]; omega))) | ((with_reducible first | refine g1_u8w ?_ ?_ | refine qg7 ?_ ?_); (focus ((repeat' (with_reducible apply And.intro)) <;> (first | assumption | omega | (simp only [bz, fz]; omega) | (simp (maxDischargeDepth := 8) only [bb, fz]; done)))); intro _) | (with_reducible apply call_elim; focus ((with_reducible first | apply e63) <;> (first | assumption | omega | (simp only [bz, fz]; omega) | (simp (maxDischargeDepth := 8) only [bb, fz]; done))))))
    | true =>
      rcases Nat.eq_zero_or_pos i with hi0 | hi0
      · subst hi0
        (have fz := ga3 hg h0 h1; repeat' (first | simp (maxDischargeDepth := 8) only [go_sem, rr, reduceIte, reduceCtorEq, Nat.reduceEqDiff, Nat.reduceAdd, Nat.reduceMul, Nat.reduceSub, Nat.reduceBEq, Nat.reduceLeDiff, Int.reduceEq, Int.reduceLT, Int.reduceLE, Int.reduceGE, Int.reduceGT, Int.reduceBEq, Int.reduceBNe, Int.reduceToNat, Int.reduceNeg, Int.reduceSub, Int.reduceAdd, Int.reduceMul, fz] | (with_reducible refine qg9 ?_ ?_; focus (first | (simp (maxDischargeDepth := 8) only [bb, kk, fz]; done) | kernel_rfl)) | ((with_reducible first | refine qf7 ?_ ?_ | refine qf8 ?_ ?_ | refine qf9 ?_ ?_ | refine qg ?_ ?_ | refine qg0 ?_ ?_ | refine qg1 ?_ ?_ | refine qg2 ?_ ?_); focus (first | assumption | omega | (simp only [bz, fz]; omega))) | ((with_reducible first | refine qg3 ?_ ?_ | refine qg4 ?_ ?_ | refine qg5 ?_ ?_); focus (first | assumption | omega | (simp only [bz, fz]; omega))) | ((with_reducible first | refine g1_u8w ?_ ?_ | refine qg7 ?_ ?_); (focus ((repeat' (with_reducible apply And.intro)) <;> (first | assumption | omega | (simp only [bz, fz]; omega) | (simp (maxDischargeDepth := 8) only [bb, fz]; done)))); intro _) | (with_reducible apply call_elim; focus ((with_reducible first | apply e63) <;> (first | assumption | omega | (simp only [bz, fz]; omega) | (simp (maxDischargeDepth := 8) only [bb, fz]; done))))))
        refine hK (next (by simp [stOK, h1])) _ ?_
        simp only [vv, ff, norm, Array.toList, List.map, Option.isSome_none, bne_self_eq_false, reduceIte, reduceCtorEq, Nat.reduceEqDiff, Nat.reduceAdd, Nat.reduceMul, Nat.reduceSub, Nat.reduceBEq, Nat.reduceLeDiff, Int.reduceEq, Int.reduceLT, Int.reduceLE, Int.reduceGE, Int.reduceGT, Int.reduceBEq, Int.reduceBNe, Int.reduceToNat, Int.reduceNeg, Int.reduceSub, Int.reduceAdd, Int.reduceMul, finish, qf0, resOf, resa, qf1, qf2, qf3, keep, qf4, qf5, qf6, qe9, qf, Int.natCast_add, cst1]
      · have hp := fE_get0 L (show i - 1 < L.length by omega)
        cases h2 : ltB (eA L (i - 1)).nm (eA L i).nm with
        | false =>
          have hr := catOK_no hi (show stOK L i = false by simp [stOK, h2]; omega)
          (have fz := ga5 hg h0 h1 h2 hr; repeat' (first | simp (maxDischargeDepth := 8) only [go_sem, rr, reduceIte, reduceCtorEq, Nat.reduceEqDiff, Nat.reduceAdd, Nat.reduceMul, Nat.reduceSub, Nat.reduceBEq, Nat.reduceLeDiff, Int.reduceEq, Int.reduceLT, Int.reduceLE, Int.reduceGE, Int.reduceGT, Int.reduceBEq, Int.reduceBNe, Int.reduceToNat, Int.reduceNeg, Int.reduceSub, Int.reduceAdd, Int.reduceMul, fz, hp] | (with_reducible refine qg9 ?_ ?_; focus (first | (simp (maxDischargeDepth := 8) only [bb, kk, fz, hp]; done) | kernel_rfl)) | ((with_reducible first | refine qf7 ?_ ?_ | refine qf8 ?_ ?_ | refine qf9 ?_ ?_ | refine qg ?_ ?_ | refine qg0 ?_ ?_ | refine qg1 ?_ ?_ | refine qg2 ?_ ?_); focus (first | assumption | omega | (simp only [bz, fz, hp]; omega))) | ((with_reducible first | refine qg3 ?_ ?_ | refine qg4 ?_ ?_ | refine qg5 ?_ ?_); focus (first | assumption | omega | (simp only [bz, fz, hp]; omega))) | ((with_reducible first | refine g1_u8w ?_ ?_ | refine qg7 ?_ ?_); (focus ((repeat' (with_reducible apply And.intro)) <;> (first | assumption | omega | (simp only [bz, fz, hp]; omega) | (simp (maxDischargeDepth := 8) only [bb, fz, hp]; done)))); intro _) | (with_reducible apply call_elim; focus ((with_reducible first | apply e63) <;> (first | assumption | omega | (simp only [bz, fz, hp]; omega) | (simp (maxDischargeDepth := 8) only [bb, fz, hp]; done))))))
        | true =>
          (have fz := ga4 hg h0 h1 h2; repeat' (first | simp (maxDischargeDepth := 8) only [go_sem, rr, reduceIte, reduceCtorEq, Nat.reduceEqDiff, Nat.reduceAdd, Nat.reduceMul, Nat.reduceSub, Nat.reduceBEq, Nat.reduceLeDiff, Int.reduceEq, Int.reduceLT, Int.reduceLE, Int.reduceGE, Int.reduceGT, Int.reduceBEq, Int.reduceBNe, Int.reduceToNat, Int.reduceNeg, Int.reduceSub, Int.reduceAdd, Int.reduceMul, fz, hp] | (with_reducible refine qg9 ?_ ?_; focus (first | (simp (maxDischargeDepth := 8) only [bb, kk, fz, hp]; done) | kernel_rfl)) | ((with_reducible first | refine qf7 ?_ ?_ | refine qf8 ?_ ?_ | refine qf9 ?_ ?_ | refine qg ?_ ?_ | refine qg0 ?_ ?_ | refine qg1 ?_ ?_ | refine qg2 ?_ ?_); focus (first | assumption | omega | (simp only [bz, fz, hp]; omega))) | ((with_reducible first | refine qg3 ?_ ?_ | refine qg4 ?_ ?_ | refine qg5 ?_ ?_); focus (first | assumption | omega | (simp only [bz, fz, hp]; omega))) | ((with_reducible first | refine g1_u8w ?_ ?_ | refine qg7 ?_ ?_); (focus ((repeat' (with_reducible apply And.intro)) <;> (first | assumption | omega | (simp only [bz, fz, hp]; omega) | (simp (maxDischargeDepth := 8) only [bb, fz, hp]; done)))); intro _) | (with_reducible apply call_elim; focus ((with_reducible first | apply e63) <;> (first | assumption | omega | (simp only [bz, fz, hp]; omega) | (simp (maxDischargeDepth := 8) only [bb, fz, hp]; done))))))
          refine hK (next (by simp [stOK, h1, h2])) _ ?_
          simp only [vv, ff, norm, Array.toList, List.map, Option.isSome_none, bne_self_eq_false, reduceIte, reduceCtorEq, Nat.reduceEqDiff, Nat.reduceAdd, Nat.reduceMul, Nat.reduceSub, Nat.reduceBEq, Nat.reduceLeDiff, Int.reduceEq, Int.reduceLT, Int.reduceLE, Int.reduceGE, Int.reduceGT, Int.reduceBEq, Int.reduceBNe, Int.reduceToNat, Int.reduceNeg, Int.reduceSub, Int.reduceAdd, Int.reduceMul, finish, qf0, resOf, resa, qf1, qf2, qf3, keep, qf4, qf5, qf6, qe9, qf, Int.natCast_add, cst1]
  · have hr := catOK_all hI
    (have fz := ga2 hr hq; repeat' (first | simp (maxDischargeDepth := 8) only [go_sem, rr, reduceIte, reduceCtorEq, Nat.reduceEqDiff, Nat.reduceAdd, Nat.reduceMul, Nat.reduceSub, Nat.reduceBEq, Nat.reduceLeDiff, Int.reduceEq, Int.reduceLT, Int.reduceLE, Int.reduceGE, Int.reduceGT, Int.reduceBEq, Int.reduceBNe, Int.reduceToNat, Int.reduceNeg, Int.reduceSub, Int.reduceAdd, Int.reduceMul, fz] | (with_reducible refine qg9 ?_ ?_; focus (first | (simp (maxDischargeDepth := 8) only [bb, kk, fz]; done) | kernel_rfl)) | ((with_reducible first | refine qf7 ?_ ?_ | refine qf8 ?_ ?_ | refine qf9 ?_ ?_ | refine qg ?_ ?_ | refine qg0 ?_ ?_ | refine qg1 ?_ ?_ | refine qg2 ?_ ?_); focus (first | assumption | omega | (simp only [bz, fz]; omega))) | ((with_reducible first | refine qg3 ?_ ?_ | refine qg4 ?_ ?_ | refine qg5 ?_ ?_); focus (first | assumption | omega | (simp only [bz, fz]; omega))) | ((with_reducible first | refine g1_u8w ?_ ?_ | refine qg7 ?_ ?_); (focus ((repeat' (with_reducible apply And.intro)) <;> (first | assumption | omega | (simp only [bz, fz]; omega) | (simp (maxDischargeDepth := 8) only [bb, fz]; done)))); intro _)))
theorem e23 (d : Nat) (L : List Ent) (tg : Tg) (c : Option Nat) (hS : Small L) : evFun E (d+4) 23 [.sl tg 4 L.length c (flat encE L)] [] = some (vb (catOK L), []) := by
  refine evFun_body b23 ?_
  have hl := hS.1
  have hq : decide ((L.length : Int) ≤ 5) = decide (L.length ≤ 5) := by rw [Bool.eq_iff_iff]; simp; omega
  (repeat' (first | simp (maxDischargeDepth := 8) only [go_sem, rr, reduceIte, reduceCtorEq, Nat.reduceEqDiff, Nat.reduceAdd, Nat.reduceMul, Nat.reduceSub, Nat.reduceBEq, Nat.reduceLeDiff, Int.reduceEq, Int.reduceLT, Int.reduceLE, Int.reduceGE, Int.reduceGT, Int.reduceBEq, Int.reduceBNe, Int.reduceToNat, Int.reduceNeg, Int.reduceSub, Int.reduceAdd, Int.reduceMul, Tryd.f23] | (with_reducible refine qg9 ?_ ?_; focus (first | (simp (maxDischargeDepth := 8) only [bb, kk]; done) | kernel_rfl)) | ((with_reducible first | refine qf7 ?_ ?_ | refine qf8 ?_ ?_ | refine qf9 ?_ ?_ | refine qg ?_ ?_ | refine qg0 ?_ ?_ | refine qg1 ?_ ?_ | refine qg2 ?_ ?_); focus (first | assumption | omega | (simp only [bz]; omega))) | ((with_reducible first | refine qg3 ?_ ?_ | refine qg4 ?_ ?_ | refine qg5 ?_ ?_); focus (first | assumption | omega | (simp only [bz]; omega))) | ((with_reducible first | refine g1_u8w ?_ ?_ | refine qg7 ?_ ?_); (focus ((repeat' (with_reducible apply And.intro)) <;> (first | assumption | omega | (simp only [bz]; omega) | (simp (maxDischargeDepth := 8) only [bb]; done)))); intro _)))
  refine loop_inv (fun i => ∀ j, j < i → stOK L j = true) (fun i => {T := tp [(0, .sl tg 4 L.length c (flat encE L)), (3, vi i)], H := hp [], nx := 0}) L.length ?_ (fun j h => by omega) (lt_LF (by omega)) (fun i hi hI Kn hK => ?_) (fun hI Kn => ?_)
  · simp only [vv, ff, norm, Array.toList, List.map, Option.isSome_none, bne_self_eq_false, reduceIte, reduceCtorEq, Nat.reduceEqDiff, Nat.reduceAdd, Nat.reduceMul, Nat.reduceSub, Nat.reduceBEq, Nat.reduceLeDiff, Int.reduceEq, Int.reduceLT, Int.reduceLE, Int.reduceGE, Int.reduceGT, Int.reduceBEq, Int.reduceBNe, Int.reduceToNat, Int.reduceNeg, Int.reduceSub, Int.reduceAdd, Int.reduceMul, finish, qf0, resOf, resa, qf1, qf2, qf3, keep, qf4, qf5, qf6, qe9, qf, Int.natCast_zero]
  · have hg := fE_getR L hi
    have h0 := fE_get0 L hi
    have hn := hS.2 i
    have next : stOK L i = true → ∀ j, j < i + 1 → stOK L j = true := fun h j hj => by
      by_cases e : j = i
      · subst e; exact h
      · exact hI j (by omega)
    cases h1 : entOK (eA L i) with
    | false =>
      have hr := catOK_no hi (show stOK L i = false by simp [stOK, h1])
      (have fz := ga4 hg h0 h1 hr; repeat' (first | simp (maxDischargeDepth := 8) only [go_sem, rr, reduceIte, reduceCtorEq, Nat.reduceEqDiff, Nat.reduceAdd, Nat.reduceMul, Nat.reduceSub, Nat.reduceBEq, Nat.reduceLeDiff, Int.reduceEq, Int.reduceLT, Int.reduceLE, Int.reduceGE, Int.reduceGT, Int.reduceBEq, Int.reduceBNe, Int.reduceToNat, Int.reduceNeg, Int.reduceSub, Int.reduceAdd, Int.reduceMul, fz] | (with_reducible refine qg9 ?_ ?_; focus (first | (simp (maxDischargeDepth := 8) only [bb, kk, fz]; done) | kernel_rfl)) | ((with_reducible first | refine qf7 ?_ ?_ | refine qf8 ?_ ?_ | refine qf9 ?_ ?_ | refine qg ?_ ?_ | refine qg0 ?_ ?_ | refine qg1 ?_ ?_ | refine qg2 ?_ ?_); focus (first | assumption | omega | (simp only [bz, fz]; omega))) | ((with_reducible first | refine qg3 ?_ ?_ | refine qg4 ?_ ?_ | refine qg5 ?_ ?_); focus (first | assumption | omega | (simp only [bz, fz]; omega))) | ((with_reducible first | refine g1_u8w ?_ ?_ | refine qg7 ?_ ?_); (focus ((repeat' (with_reducible apply And.intro)) <;> (first | assumption | omega | (simp only [bz, fz]; omega) | (simp (maxDischargeDepth := 8) only [bb, fz]; done)))); intro _) | (with_reducible apply call_elim; focus ((with_reducible first | apply e62) <;> (first | assumption | omega | (simp only [bz, fz]; omega) | (simp (maxDischargeDepth := 8) only [bb, fz]; done))))))
    | true =>
      rcases Nat.eq_zero_or_pos i with hi0 | hi0
      · subst hi0
        (have fz := ga3 hg h0 h1; repeat' (first | simp (maxDischargeDepth := 8) only [go_sem, rr, reduceIte, reduceCtorEq, Nat.reduceEqDiff, Nat.reduceAdd, Nat.reduceMul, Nat.reduceSub, Nat.reduceBEq, Nat.reduceLeDiff, Int.reduceEq, Int.reduceLT, Int.reduceLE, Int.reduceGE, Int.reduceGT, Int.reduceBEq, Int.reduceBNe, Int.reduceToNat, Int.reduceNeg, Int.reduceSub, Int.reduceAdd, Int.reduceMul, fz] | (with_reducible refine qg9 ?_ ?_; focus (first | (simp (maxDischargeDepth := 8) only [bb, kk, fz]; done) | kernel_rfl)) | ((with_reducible first | refine qf7 ?_ ?_ | refine qf8 ?_ ?_ | refine qf9 ?_ ?_ | refine qg ?_ ?_ | refine qg0 ?_ ?_ | refine qg1 ?_ ?_ | refine qg2 ?_ ?_); focus (first | assumption | omega | (simp only [bz, fz]; omega))) | ((with_reducible first | refine qg3 ?_ ?_ | refine qg4 ?_ ?_ | refine qg5 ?_ ?_); focus (first | assumption | omega | (simp only [bz, fz]; omega))) | ((with_reducible first | refine g1_u8w ?_ ?_ | refine qg7 ?_ ?_); (focus ((repeat' (with_reducible apply And.intro)) <;> (first | assumption | omega | (simp only [bz, fz]; omega) | (simp (maxDischargeDepth := 8) only [bb, fz]; done)))); intro _) | (with_reducible apply call_elim; focus ((with_reducible first | apply e62) <;> (first | assumption | omega | (simp only [bz, fz]; omega) | (simp (maxDischargeDepth := 8) only [bb, fz]; done))))))
        refine hK (next (by simp [stOK, h1])) _ ?_
        simp only [vv, ff, norm, Array.toList, List.map, Option.isSome_none, bne_self_eq_false, reduceIte, reduceCtorEq, Nat.reduceEqDiff, Nat.reduceAdd, Nat.reduceMul, Nat.reduceSub, Nat.reduceBEq, Nat.reduceLeDiff, Int.reduceEq, Int.reduceLT, Int.reduceLE, Int.reduceGE, Int.reduceGT, Int.reduceBEq, Int.reduceBNe, Int.reduceToNat, Int.reduceNeg, Int.reduceSub, Int.reduceAdd, Int.reduceMul, finish, qf0, resOf, resa, qf1, qf2, qf3, keep, qf4, qf5, qf6, qe9, qf, Int.natCast_add, cst1]
      · have hp := fE_get0 L (show i - 1 < L.length by omega)
        cases h2 : ltB (eA L (i - 1)).nm (eA L i).nm with
        | false =>
          have hr := catOK_no hi (show stOK L i = false by simp [stOK, h2]; omega)
          (have fz := ga5 hg h0 h1 h2 hr; repeat' (first | simp (maxDischargeDepth := 8) only [go_sem, rr, reduceIte, reduceCtorEq, Nat.reduceEqDiff, Nat.reduceAdd, Nat.reduceMul, Nat.reduceSub, Nat.reduceBEq, Nat.reduceLeDiff, Int.reduceEq, Int.reduceLT, Int.reduceLE, Int.reduceGE, Int.reduceGT, Int.reduceBEq, Int.reduceBNe, Int.reduceToNat, Int.reduceNeg, Int.reduceSub, Int.reduceAdd, Int.reduceMul, fz, hp] | (with_reducible refine qg9 ?_ ?_; focus (first | (simp (maxDischargeDepth := 8) only [bb, kk, fz, hp]; done) | kernel_rfl)) | ((with_reducible first | refine qf7 ?_ ?_ | refine qf8 ?_ ?_ | refine qf9 ?_ ?_ | refine qg ?_ ?_ | refine qg0 ?_ ?_ | refine qg1 ?_ ?_ | refine qg2 ?_ ?_); focus (first | assumption | omega | (simp only [bz, fz, hp]; omega))) | ((with_reducible first | refine qg3 ?_ ?_ | refine qg4 ?_ ?_ | refine qg5 ?_ ?_); focus (first | assumption | omega | (simp only [bz, fz, hp]; omega))) | ((with_reducible first | refine g1_u8w ?_ ?_ | refine qg7 ?_ ?_); (focus ((repeat' (with_reducible apply And.intro)) <;> (first | assumption | omega | (simp only [bz, fz, hp]; omega) | (simp (maxDischargeDepth := 8) only [bb, fz, hp]; done)))); intro _) | (with_reducible apply call_elim; focus ((with_reducible first | apply e62) <;> (first | assumption | omega | (simp only [bz, fz, hp]; omega) | (simp (maxDischargeDepth := 8) only [bb, fz, hp]; done))))))
        | true =>
          (have fz := ga4 hg h0 h1 h2; repeat' (first | simp (maxDischargeDepth := 8) only [go_sem, rr, reduceIte, reduceCtorEq, Nat.reduceEqDiff, Nat.reduceAdd, Nat.reduceMul, Nat.reduceSub, Nat.reduceBEq, Nat.reduceLeDiff, Int.reduceEq, Int.reduceLT, Int.reduceLE, Int.reduceGE, Int.reduceGT, Int.reduceBEq, Int.reduceBNe, Int.reduceToNat, Int.reduceNeg, Int.reduceSub, Int.reduceAdd, Int.reduceMul, fz, hp] | (with_reducible refine qg9 ?_ ?_; focus (first | (simp (maxDischargeDepth := 8) only [bb, kk, fz, hp]; done) | kernel_rfl)) | ((with_reducible first | refine qf7 ?_ ?_ | refine qf8 ?_ ?_ | refine qf9 ?_ ?_ | refine qg ?_ ?_ | refine qg0 ?_ ?_ | refine qg1 ?_ ?_ | refine qg2 ?_ ?_); focus (first | assumption | omega | (simp only [bz, fz, hp]; omega))) | ((with_reducible first | refine qg3 ?_ ?_ | refine qg4 ?_ ?_ | refine qg5 ?_ ?_); focus (first | assumption | omega | (simp only [bz, fz, hp]; omega))) | ((with_reducible first | refine g1_u8w ?_ ?_ | refine qg7 ?_ ?_); (focus ((repeat' (with_reducible apply And.intro)) <;> (first | assumption | omega | (simp only [bz, fz, hp]; omega) | (simp (maxDischargeDepth := 8) only [bb, fz, hp]; done)))); intro _) | (with_reducible apply call_elim; focus ((with_reducible first | apply e62) <;> (first | assumption | omega | (simp only [bz, fz, hp]; omega) | (simp (maxDischargeDepth := 8) only [bb, fz, hp]; done))))))
          refine hK (next (by simp [stOK, h1, h2])) _ ?_
          simp only [vv, ff, norm, Array.toList, List.map, Option.isSome_none, bne_self_eq_false, reduceIte, reduceCtorEq, Nat.reduceEqDiff, Nat.reduceAdd, Nat.reduceMul, Nat.reduceSub, Nat.reduceBEq, Nat.reduceLeDiff, Int.reduceEq, Int.reduceLT, Int.reduceLE, Int.reduceGE, Int.reduceGT, Int.reduceBEq, Int.reduceBNe, Int.reduceToNat, Int.reduceNeg, Int.reduceSub, Int.reduceAdd, Int.reduceMul, finish, qf0, resOf, resa, qf1, qf2, qf3, keep, qf4, qf5, qf6, qe9, qf, Int.natCast_add, cst1]
  · have hr := catOK_all hI
    (have fz := ga2 hr hq; repeat' (first | simp (maxDischargeDepth := 8) only [go_sem, rr, reduceIte, reduceCtorEq, Nat.reduceEqDiff, Nat.reduceAdd, Nat.reduceMul, Nat.reduceSub, Nat.reduceBEq, Nat.reduceLeDiff, Int.reduceEq, Int.reduceLT, Int.reduceLE, Int.reduceGE, Int.reduceGT, Int.reduceBEq, Int.reduceBNe, Int.reduceToNat, Int.reduceNeg, Int.reduceSub, Int.reduceAdd, Int.reduceMul, fz] | (with_reducible refine qg9 ?_ ?_; focus (first | (simp (maxDischargeDepth := 8) only [bb, kk, fz]; done) | kernel_rfl)) | ((with_reducible first | refine qf7 ?_ ?_ | refine qf8 ?_ ?_ | refine qf9 ?_ ?_ | refine qg ?_ ?_ | refine qg0 ?_ ?_ | refine qg1 ?_ ?_ | refine qg2 ?_ ?_); focus (first | assumption | omega | (simp only [bz, fz]; omega))) | ((with_reducible first | refine qg3 ?_ ?_ | refine qg4 ?_ ?_ | refine qg5 ?_ ?_); focus (first | assumption | omega | (simp only [bz, fz]; omega))) | ((with_reducible first | refine g1_u8w ?_ ?_ | refine qg7 ?_ ?_); (focus ((repeat' (with_reducible apply And.intro)) <;> (first | assumption | omega | (simp only [bz, fz]; omega) | (simp (maxDischargeDepth := 8) only [bb, fz]; done)))); intro _)))
end Go.Proofs.YtgdldmfkgijkaaaDoor.VH.S
end

section
namespace Go.Proofs.YtgdldmfkgijkaaaDoor.VH.S
open Go.Proofs
set_option maxRecDepth 100000
set_option maxHeartbeats 8000000
set_option linter.unusedSimpArgs false

def Names (L : List Ent) : Prop := ∀ i, (eA L i).nm.length ≤ 9223372036854775807
end Go.Proofs.YtgdldmfkgijkaaaDoor.VH.S
end

section
namespace Go.Proofs.YtgdldmfkgijkaaaDoor.VH.S
open Go.Proofs
set_option maxRecDepth 100000
set_option maxHeartbeats 8000000
set_option linter.unusedSimpArgs false

/- Marks that are texts. -/
abbrev txt (l : List (List UInt8)) : List AV := l.map fun s => vs s
theorem txt_snap : ∀ l : List (List UInt8), qf2 (txt l) = true
  | [] => rfl
  | s :: l => by simp only [txt, List.map_cons, qf2, qf1]; exact txt_snap l
theorem txt_own : ∀ l : List (List UInt8), (txt l).any qb8 = false
  | [] => rfl
  | s :: l => by simp only [txt, List.map_cons, List.any_cons, qb8]; exact txt_own l
theorem txt_sl : ∀ l : List (List UInt8), (txt l).any isSl = false
  | [] => rfl
  | s :: l => by simp only [txt, List.map_cons, List.any_cons, isSl]; exact txt_sl l
def tA (l : List (List UInt8)) (i : Nat) : List UInt8 := l.getD i []
theorem tA_get {l : List (List UInt8)} {i : Nat} (h : i < l.length) : tA l i = l[i] := by
  rw [tA, List.getD_eq_getElem?_getD, List.getElem?_eq_getElem h]; rfl
theorem txt_g1 (l : List (List UInt8)) {i : Nat} (h : i < l.length) : g1 (txt l) i = some (vs (tA l i)) := by
  rw [tA_get h]; simp [g1, h]
theorem txt_len (l : List (List UInt8)) : (txt l).length = l.length := by simp
def nmsE (L : List Ent) : List (List UInt8) := L.map Ent.nm
theorem nmsE_len (L : List Ent) : (nmsE L).length = L.length := by simp [nmsE]
end Go.Proofs.YtgdldmfkgijkaaaDoor.VH.S
end

section
namespace Go.Proofs.YtgdldmfkgijkaaaDoor.VH.S
open Go.Proofs
set_option maxRecDepth 100000
set_option maxHeartbeats 8000000
set_option linter.unusedSimpArgs false

def capZ (i : Nat) : Option Nat := if i = 0 then some 0 else none
theorem capZ_succ (i : Nat) : capZ (i + 1) = none := rfl
theorem capZ_zero : capZ 0 = some 0 := rfl
end Go.Proofs.YtgdldmfkgijkaaaDoor.VH.S
end

section
namespace Go.Proofs.YtgdldmfkgijkaaaDoor.VH.S
open Go.Proofs
set_option maxRecDepth 100000
set_option maxHeartbeats 8000000
set_option linter.unusedSimpArgs false

/- Searching a catalog. -/
def lb (L : List Ent) (t : List UInt8) : Nat := ((List.range L.length).takeWhile fun i => ltB (eA L i).nm t).length
def Sorted (L : List Ent) : Prop := ∀ a b, a < b → b < L.length → ltB (eA L a).nm (eA L b).nm = true
theorem sorted_of {L : List Ent} (h : catOK L = true) : Sorted L := by
  have hs : ∀ i, i < L.length → stOK L i = true := by
    simp only [catOK, Bool.and_eq_true, List.all_eq_true] at h
    exact fun i hi => h.1 i (List.mem_range.mpr hi)
  intro a b hab hb
  induction b with
  | zero => omega
  | succ b ih =>
    have h1 := hs (b + 1) hb
    simp only [stOK, Bool.and_eq_true, Bool.or_eq_true, decide_eq_true_eq, Nat.add_sub_cancel] at h1
    have h2 := h1.2.resolve_left (by omega)
    by_cases e : a = b
    · subst e; exact h2
    · exact ltB_trans (ih (by omega) (by omega)) h2
theorem lb_le (L : List Ent) (t : List UInt8) : lb L t ≤ L.length := by
  have := takeWhile_le (fun i => ltB (eA L i).nm t) (List.range L.length)
  simpa [lb] using this
theorem lb_lt {L : List Ent} {t : List UInt8} {i : Nat} (h : i < lb L t) : ltB (eA L i).nm t = true := by
  obtain ⟨h1, h2⟩ := takeWhile_lt (fun i => ltB (eA L i).nm t) (List.range L.length) i h
  simpa using h2
theorem lb_at {L : List Ent} {t : List UInt8} (h : lb L t < L.length) : ltB (eA L (lb L t)).nm t = false := by
  have := takeWhile_at (fun i => ltB (eA L i).nm t) (List.range L.length) (by rw [List.length_range]; exact h)
  simpa [lb] using this
theorem lb_ge {L : List Ent} (hs : Sorted L) {t : List UInt8} {i : Nat} (hi : i < L.length) (h : ltB (eA L i).nm t = true) : i < lb L t := by
  refine Classical.byContradiction fun hh => ?_
  have h1 := lb_at (t := t) (show lb L t < L.length by omega)
  by_cases e : lb L t = i
  · rw [e, h] at h1; simp at h1
  · have := ltB_trans (hs _ _ (show lb L t < i by omega) hi) h
    rw [h1] at this; simp at this
def hasE (L : List Ent) (t : List UInt8) : Bool := decide (lb L t < L.length) && ((eA L (lb L t)).nm == t)
theorem e85 (d : Nat) (a b : List UInt8) : evFun E (d+3) 85 [vs a, vs b] [] = some (vi (cmpS a b), []) := by
  have h1 : ∀ d, evFun E (d+2) 92 [vs a, vs b] [] = some (vi (cmpS a b), []) := fun d => by
    refine evFun_body b92 ?_
    have hw : E.wk 101 = none := rfl
    (have fz := ga2 ecmp hw; repeat' (first | simp (maxDischargeDepth := 8) only [go_sem, rr, reduceIte, reduceCtorEq, Nat.reduceEqDiff, Nat.reduceAdd, Nat.reduceMul, Nat.reduceSub, Nat.reduceBEq, Nat.reduceLeDiff, Int.reduceEq, Int.reduceLT, Int.reduceLE, Int.reduceGE, Int.reduceGT, Int.reduceBEq, Int.reduceBNe, Int.reduceToNat, Int.reduceNeg, Int.reduceSub, Int.reduceAdd, Int.reduceMul, fz, Tryd.f92] | (with_reducible refine qg9 ?_ ?_; focus (first | (simp (maxDischargeDepth := 8) only [bb, kk, fz]; done) | kernel_rfl)) | ((with_reducible first | refine qf7 ?_ ?_ | refine qf8 ?_ ?_ | refine qf9 ?_ ?_ | refine qg ?_ ?_ | refine qg0 ?_ ?_ | refine qg1 ?_ ?_ | refine qg2 ?_ ?_); focus (first | assumption | omega | (simp only [bz, fz]; omega))) | ((with_reducible first | refine qg3 ?_ ?_ | refine qg4 ?_ ?_ | refine qg5 ?_ ?_); focus (first | assumption | omega | (simp only [bz, fz]; omega))) | ((with_reducible first | refine g1_u8w ?_ ?_ | refine qg7 ?_ ?_); (focus ((repeat' (with_reducible apply And.intro)) <;> (first | assumption | omega | (simp only [bz, fz]; omega) | (simp (maxDischargeDepth := 8) only [bb, fz]; done)))); intro _)))
  refine evFun_body b85 ?_
  (repeat' (first | simp (maxDischargeDepth := 8) only [go_sem, rr, reduceIte, reduceCtorEq, Nat.reduceEqDiff, Nat.reduceAdd, Nat.reduceMul, Nat.reduceSub, Nat.reduceBEq, Nat.reduceLeDiff, Int.reduceEq, Int.reduceLT, Int.reduceLE, Int.reduceGE, Int.reduceGT, Int.reduceBEq, Int.reduceBNe, Int.reduceToNat, Int.reduceNeg, Int.reduceSub, Int.reduceAdd, Int.reduceMul, h1, Tryd.f85] | (with_reducible refine qg9 ?_ ?_; focus (first | (simp (maxDischargeDepth := 8) only [bb, kk, h1]; done) | kernel_rfl)) | ((with_reducible first | refine qf7 ?_ ?_ | refine qf8 ?_ ?_ | refine qf9 ?_ ?_ | refine qg ?_ ?_ | refine qg0 ?_ ?_ | refine qg1 ?_ ?_ | refine qg2 ?_ ?_); focus (first | assumption | omega | (simp only [bz, h1]; omega))) | ((with_reducible first | refine qg3 ?_ ?_ | refine qg4 ?_ ?_ | refine qg5 ?_ ?_); focus (first | assumption | omega | (simp only [bz, h1]; omega))) | ((with_reducible first | refine g1_u8w ?_ ?_ | refine qg7 ?_ ?_); (focus ((repeat' (with_reducible apply And.intro)) <;> (first | assumption | omega | (simp only [bz, h1]; omega) | (simp (maxDischargeDepth := 8) only [bb, h1]; done)))); intro _)))
theorem e84 (d : Nat) (e : Ent) (t : List UInt8) : evFun E (d+4) 84 [.agg [vs e.nm, vi e.v, vi e.s, vi e.r], vs t] [] = some (vi (cmpS e.nm t), []) := by
  refine evFun_body b84 ?_
  (repeat' (first | simp (maxDischargeDepth := 8) only [go_sem, rr, reduceIte, reduceCtorEq, Nat.reduceEqDiff, Nat.reduceAdd, Nat.reduceMul, Nat.reduceSub, Nat.reduceBEq, Nat.reduceLeDiff, Int.reduceEq, Int.reduceLT, Int.reduceLE, Int.reduceGE, Int.reduceGT, Int.reduceBEq, Int.reduceBNe, Int.reduceToNat, Int.reduceNeg, Int.reduceSub, Int.reduceAdd, Int.reduceMul, e85, Tryd.f84] | (with_reducible refine qg9 ?_ ?_; focus (first | (simp (maxDischargeDepth := 8) only [bb, kk, e85]; done) | kernel_rfl)) | ((with_reducible first | refine qf7 ?_ ?_ | refine qf8 ?_ ?_ | refine qf9 ?_ ?_ | refine qg ?_ ?_ | refine qg0 ?_ ?_ | refine qg1 ?_ ?_ | refine qg2 ?_ ?_); focus (first | assumption | omega | (simp only [bz, e85]; omega))) | ((with_reducible first | refine qg3 ?_ ?_ | refine qg4 ?_ ?_ | refine qg5 ?_ ?_); focus (first | assumption | omega | (simp only [bz, e85]; omega))) | ((with_reducible first | refine g1_u8w ?_ ?_ | refine qg7 ?_ ?_); (focus ((repeat' (with_reducible apply And.intro)) <;> (first | assumption | omega | (simp only [bz, e85]; omega) | (simp (maxDischargeDepth := 8) only [bb, e85]; done)))); intro _)))
theorem half (i j : Nat) (h : i + j < 9223372036854775808) : shrU ((i : Int) + j) 1 = ((i + j) / 2 : Nat) := by
  have : (2 : Int) ^ (min (1 : Int).toNat 64) = 2 := by decide
  rw [shrU, this, Int.fdiv_eq_ediv_of_nonneg _ (by decide)]; omega
theorem e83 (d : Nat) (L : List Ent) (t : List UInt8) (tg : Tg) (c : Option Nat) (hl : L.length ≤ 549755813888) (hs : Sorted L) : evFun E (d+5) 83 [.sl tg 4 L.length c (flat encE L), vs t, .fn 84 []] [] = some (.tup [vi (lb L t), vb (hasE L t)], []) := by
  refine evFun_body b83 ?_
  have hle := lb_le L t
  (repeat' (first | simp (maxDischargeDepth := 8) only [go_sem, rr, reduceIte, reduceCtorEq, Nat.reduceEqDiff, Nat.reduceAdd, Nat.reduceMul, Nat.reduceSub, Nat.reduceBEq, Nat.reduceLeDiff, Int.reduceEq, Int.reduceLT, Int.reduceLE, Int.reduceGE, Int.reduceGT, Int.reduceBEq, Int.reduceBNe, Int.reduceToNat, Int.reduceNeg, Int.reduceSub, Int.reduceAdd, Int.reduceMul, Tryd.f83] | (with_reducible refine qg9 ?_ ?_; focus (first | (simp (maxDischargeDepth := 8) only [bb, kk]; done) | kernel_rfl)) | ((with_reducible first | refine qf7 ?_ ?_ | refine qf8 ?_ ?_ | refine qf9 ?_ ?_ | refine qg ?_ ?_ | refine qg0 ?_ ?_ | refine qg1 ?_ ?_ | refine qg2 ?_ ?_); focus (first | assumption | omega | (simp only [bz]; omega))) | ((with_reducible first | refine qg3 ?_ ?_ | refine qg4 ?_ ?_ | refine qg5 ?_ ?_); focus (first | assumption | omega | (simp only [bz]; omega))) | ((with_reducible first | refine g1_u8w ?_ ?_ | refine qg7 ?_ ?_); (focus ((repeat' (with_reducible apply And.intro)) <;> (first | assumption | omega | (simp only [bz]; omega) | (simp (maxDischargeDepth := 8) only [bb]; done)))); intro _)))
  refine loop_wf (α := Nat × Nat) (fun a => {T := tp [(0, .sl tg 4 L.length c (flat encE L)), (1, vs t), (2, .fn 84 []), (8, vi L.length), (9, vi a.1), (10, vi a.2)], H := hp [], nx := 0}) (fun a => a.1 ≤ lb L t ∧ lb L t ≤ a.2 ∧ a.2 ≤ L.length) (fun a => a.2 - a.1) ?_ (0, L.length) ?_ ⟨Nat.zero_le _, hle, Nat.le_refl _⟩ (lt_LF (by simp; omega))
  · rintro ⟨i, j⟩ ⟨h1, h2, h3⟩ Kn hK
    simp only at h1 h2 h3
    by_cases hij : i < j
    · have hh : (i + j) / 2 < L.length := by omega
      have hg := fE_getR L hh
      have hhalf := half i j (by omega)
      cases hc : ltB (eA L ((i + j) / 2)).nm t with
      | true =>
        have hc' : decide (cmpS (eA L ((i + j) / 2)).nm t < 0) = true := by rw [cmpS_lt, hc]
        (have fz := ga4 hg hhalf hc' e84; repeat' (first | simp (maxDischargeDepth := 8) only [go_sem, rr, reduceIte, reduceCtorEq, Nat.reduceEqDiff, Nat.reduceAdd, Nat.reduceMul, Nat.reduceSub, Nat.reduceBEq, Nat.reduceLeDiff, Int.reduceEq, Int.reduceLT, Int.reduceLE, Int.reduceGE, Int.reduceGT, Int.reduceBEq, Int.reduceBNe, Int.reduceToNat, Int.reduceNeg, Int.reduceSub, Int.reduceAdd, Int.reduceMul, fz] | (with_reducible refine qg9 ?_ ?_; focus (first | (simp (maxDischargeDepth := 8) only [bb, kk, fz]; done) | kernel_rfl)) | ((with_reducible first | refine qf7 ?_ ?_ | refine qf8 ?_ ?_ | refine qf9 ?_ ?_ | refine qg ?_ ?_ | refine qg0 ?_ ?_ | refine qg1 ?_ ?_ | refine qg2 ?_ ?_); focus (first | assumption | omega | (simp only [bz, fz]; omega))) | ((with_reducible first | refine qg3 ?_ ?_ | refine qg4 ?_ ?_ | refine qg5 ?_ ?_); focus (first | assumption | omega | (simp only [bz, fz]; omega))) | ((with_reducible first | refine g1_u8w ?_ ?_ | refine qg7 ?_ ?_); (focus ((repeat' (with_reducible apply And.intro)) <;> (first | assumption | omega | (simp only [bz, fz]; omega) | (simp (maxDischargeDepth := 8) only [bb, fz]; done)))); intro _)))
        refine hK ((i + j) / 2 + 1, j) ⟨lb_ge hs hh hc, h2, h3⟩ (by simp only; omega) _ ?_
        simp only [vv, ff, norm, Array.toList, List.map, Option.isSome_none, bne_self_eq_false, reduceIte, reduceCtorEq, Nat.reduceEqDiff, Nat.reduceAdd, Nat.reduceMul, Nat.reduceSub, Nat.reduceBEq, Nat.reduceLeDiff, Int.reduceEq, Int.reduceLT, Int.reduceLE, Int.reduceGE, Int.reduceGT, Int.reduceBEq, Int.reduceBNe, Int.reduceToNat, Int.reduceNeg, Int.reduceSub, Int.reduceAdd, Int.reduceMul, finish, qf0, resOf, resa, qf1, qf2, qf3, keep, qf4, qf5, qf6, qe9, qf, Int.natCast_add, cst1]
      | false =>
        have hc' : decide (cmpS (eA L ((i + j) / 2)).nm t < 0) = false := by rw [cmpS_lt, hc]
        have h4 : lb L t ≤ (i + j) / 2 := by
          refine Classical.byContradiction fun hh2 => ?_
          have := lb_lt (L := L) (t := t) (show (i + j) / 2 < lb L t by omega)
          rw [hc] at this; simp at this
        (have fz := ga4 hg hhalf hc' e84; repeat' (first | simp (maxDischargeDepth := 8) only [go_sem, rr, reduceIte, reduceCtorEq, Nat.reduceEqDiff, Nat.reduceAdd, Nat.reduceMul, Nat.reduceSub, Nat.reduceBEq, Nat.reduceLeDiff, Int.reduceEq, Int.reduceLT, Int.reduceLE, Int.reduceGE, Int.reduceGT, Int.reduceBEq, Int.reduceBNe, Int.reduceToNat, Int.reduceNeg, Int.reduceSub, Int.reduceAdd, Int.reduceMul, fz] | (with_reducible refine qg9 ?_ ?_; focus (first | (simp (maxDischargeDepth := 8) only [bb, kk, fz]; done) | kernel_rfl)) | ((with_reducible first | refine qf7 ?_ ?_ | refine qf8 ?_ ?_ | refine qf9 ?_ ?_ | refine qg ?_ ?_ | refine qg0 ?_ ?_ | refine qg1 ?_ ?_ | refine qg2 ?_ ?_); focus (first | assumption | omega | (simp only [bz, fz]; omega))) | ((with_reducible first | refine qg3 ?_ ?_ | refine qg4 ?_ ?_ | refine qg5 ?_ ?_); focus (first | assumption | omega | (simp only [bz, fz]; omega))) | ((with_reducible first | refine g1_u8w ?_ ?_ | refine qg7 ?_ ?_); (focus ((repeat' (with_reducible apply And.intro)) <;> (first | assumption | omega | (simp only [bz, fz]; omega) | (simp (maxDischargeDepth := 8) only [bb, fz]; done)))); intro _)))
        refine hK (i, (i + j) / 2) ⟨h1, h4, by simp only; omega⟩ (by simp only; omega) _ ?_
        simp only [vv, ff, norm, Array.toList, List.map, Option.isSome_none, bne_self_eq_false, reduceIte, reduceCtorEq, Nat.reduceEqDiff, Nat.reduceAdd, Nat.reduceMul, Nat.reduceSub, Nat.reduceBEq, Nat.reduceLeDiff, Int.reduceEq, Int.reduceLT, Int.reduceLE, Int.reduceGE, Int.reduceGT, Int.reduceBEq, Int.reduceBNe, Int.reduceToNat, Int.reduceNeg, Int.reduceSub, Int.reduceAdd, Int.reduceMul, finish, qf0, resOf, resa, qf1, qf2, qf3, keep, qf4, qf5, qf6, qe9, qf]
    · have e1 : i = lb L t := by omega
      have e2 : j = lb L t := by omega
      subst e1
      by_cases hn : lb L t < L.length
      · have hg := fE_getR L hn
        have hr : hasE L t = ((eA L (lb L t)).nm == t) := by simp [hasE, hn]
        have hc := cmpS_eq (eA L (lb L t)).nm t
        (have fz := ga5 hg hr hc e2 e84; repeat' (first | simp (maxDischargeDepth := 8) only [go_sem, rr, reduceIte, reduceCtorEq, Nat.reduceEqDiff, Nat.reduceAdd, Nat.reduceMul, Nat.reduceSub, Nat.reduceBEq, Nat.reduceLeDiff, Int.reduceEq, Int.reduceLT, Int.reduceLE, Int.reduceGE, Int.reduceGT, Int.reduceBEq, Int.reduceBNe, Int.reduceToNat, Int.reduceNeg, Int.reduceSub, Int.reduceAdd, Int.reduceMul, fz] | (with_reducible refine qg9 ?_ ?_; focus (first | (simp (maxDischargeDepth := 8) only [bb, kk, fz]; done) | kernel_rfl)) | ((with_reducible first | refine qf7 ?_ ?_ | refine qf8 ?_ ?_ | refine qf9 ?_ ?_ | refine qg ?_ ?_ | refine qg0 ?_ ?_ | refine qg1 ?_ ?_ | refine qg2 ?_ ?_); focus (first | assumption | omega | (simp only [bz, fz]; omega))) | ((with_reducible first | refine qg3 ?_ ?_ | refine qg4 ?_ ?_ | refine qg5 ?_ ?_); focus (first | assumption | omega | (simp only [bz, fz]; omega))) | ((with_reducible first | refine g1_u8w ?_ ?_ | refine qg7 ?_ ?_); (focus ((repeat' (with_reducible apply And.intro)) <;> (first | assumption | omega | (simp only [bz, fz]; omega) | (simp (maxDischargeDepth := 8) only [bb, fz]; done)))); intro _)))
      · have hr : hasE L t = false := by simp [hasE, hn]
        (have fz := ga2 hr e2; repeat' (first | simp (maxDischargeDepth := 8) only [go_sem, rr, reduceIte, reduceCtorEq, Nat.reduceEqDiff, Nat.reduceAdd, Nat.reduceMul, Nat.reduceSub, Nat.reduceBEq, Nat.reduceLeDiff, Int.reduceEq, Int.reduceLT, Int.reduceLE, Int.reduceGE, Int.reduceGT, Int.reduceBEq, Int.reduceBNe, Int.reduceToNat, Int.reduceNeg, Int.reduceSub, Int.reduceAdd, Int.reduceMul, fz] | (with_reducible refine qg9 ?_ ?_; focus (first | (simp (maxDischargeDepth := 8) only [bb, kk, fz]; done) | kernel_rfl)) | ((with_reducible first | refine qf7 ?_ ?_ | refine qf8 ?_ ?_ | refine qf9 ?_ ?_ | refine qg ?_ ?_ | refine qg0 ?_ ?_ | refine qg1 ?_ ?_ | refine qg2 ?_ ?_); focus (first | assumption | omega | (simp only [bz, fz]; omega))) | ((with_reducible first | refine qg3 ?_ ?_ | refine qg4 ?_ ?_ | refine qg5 ?_ ?_); focus (first | assumption | omega | (simp only [bz, fz]; omega))) | ((with_reducible first | refine g1_u8w ?_ ?_ | refine qg7 ?_ ?_); (focus ((repeat' (with_reducible apply And.intro)) <;> (first | assumption | omega | (simp only [bz, fz]; omega) | (simp (maxDischargeDepth := 8) only [bb, fz]; done)))); intro _)))
  · simp only [vv, ff, norm, Array.toList, List.map, Option.isSome_none, bne_self_eq_false, reduceIte, reduceCtorEq, Nat.reduceEqDiff, Nat.reduceAdd, Nat.reduceMul, Nat.reduceSub, Nat.reduceBEq, Nat.reduceLeDiff, Int.reduceEq, Int.reduceLT, Int.reduceLE, Int.reduceGE, Int.reduceGT, Int.reduceBEq, Int.reduceBNe, Int.reduceToNat, Int.reduceNeg, Int.reduceSub, Int.reduceAdd, Int.reduceMul, finish, qf0, resOf, resa, qf1, qf2, qf3, keep, qf4, qf5, qf6, qe9, qf, Int.natCast_zero]
end Go.Proofs.YtgdldmfkgijkaaaDoor.VH.S
end

section
namespace Go.Proofs.YtgdldmfkgijkaaaDoor.VH.S
open Go.Proofs
set_option maxRecDepth 100000
set_option maxHeartbeats 8000000
set_option linter.unusedSimpArgs false

theorem e60 (d : Nat) (L : List Ent) (t : List UInt8) (tg : Tg) (c : Option Nat) (hl : L.length ≤ 549755813888) (hs : Sorted L) : evFun E (d+6) 60 [.sl tg 4 L.length c (flat encE L), vs t] [] = some (.tup [vi (lb L t), vb (hasE L t)], []) := by
  refine evFun_body b60 ?_
  (repeat' (first | simp (maxDischargeDepth := 8) only [go_sem, rr, reduceIte, reduceCtorEq, Nat.reduceEqDiff, Nat.reduceAdd, Nat.reduceMul, Nat.reduceSub, Nat.reduceBEq, Nat.reduceLeDiff, Int.reduceEq, Int.reduceLT, Int.reduceLE, Int.reduceGE, Int.reduceGT, Int.reduceBEq, Int.reduceBNe, Int.reduceToNat, Int.reduceNeg, Int.reduceSub, Int.reduceAdd, Int.reduceMul, Tryd.f60] | (with_reducible refine qg9 ?_ ?_; focus (first | (simp (maxDischargeDepth := 8) only [bb, kk]; done) | kernel_rfl)) | ((with_reducible first | refine qf7 ?_ ?_ | refine qf8 ?_ ?_ | refine qf9 ?_ ?_ | refine qg ?_ ?_ | refine qg0 ?_ ?_ | refine qg1 ?_ ?_ | refine qg2 ?_ ?_); focus (first | assumption | omega | (simp only [bz]; omega))) | ((with_reducible first | refine qg3 ?_ ?_ | refine qg4 ?_ ?_ | refine qg5 ?_ ?_); focus (first | assumption | omega | (simp only [bz]; omega))) | ((with_reducible first | refine g1_u8w ?_ ?_ | refine qg7 ?_ ?_); (focus ((repeat' (with_reducible apply And.intro)) <;> (first | assumption | omega | (simp only [bz]; omega) | (simp (maxDischargeDepth := 8) only [bb]; done)))); intro _) | (with_reducible apply call_elim; focus ((with_reducible first | apply e83) <;> (first | assumption | omega | (simp only [bz]; omega) | (simp (maxDischargeDepth := 8) only [bb]; done))))))
def fi (L : List Ent) (t : List UInt8) : Nat := ((List.range L.length).takeWhile fun i => !((eA L i).nm == t)).length
theorem fi_le (L : List Ent) (t : List UInt8) : fi L t ≤ L.length := by
  have := takeWhile_le (fun i => !((eA L i).nm == t)) (List.range L.length)
  simpa [fi] using this
theorem fi_lt {L : List Ent} {t : List UInt8} {i : Nat} (h : i < fi L t) : ((eA L i).nm == t) = false := by
  obtain ⟨h1, h2⟩ := takeWhile_lt (fun i => !((eA L i).nm == t)) (List.range L.length) i h
  rw [List.getElem_range] at h2
  simpa using h2
theorem fi_at {L : List Ent} {t : List UInt8} (h : fi L t < L.length) : ((eA L (fi L t)).nm == t) = true := by
  have := takeWhile_at (fun i => !((eA L i).nm == t)) (List.range L.length) (by rw [List.length_range]; exact h)
  rw [List.getElem_range] at this
  simpa [fi] using this
theorem fi_has {L : List Ent} (hs : Sorted L) (t : List UInt8) : (hasE L t = true → fi L t = lb L t ∧ fi L t < L.length) ∧ (hasE L t = false → fi L t = L.length) := by
  have hle := fi_le L t
  constructor
  · intro h
    simp only [hasE, Bool.and_eq_true, decide_eq_true_eq, beq_iff_eq] at h
    have h1 : fi L t ≤ lb L t := by
      refine Classical.byContradiction fun hh => ?_
      have := fi_lt (L := L) (t := t) (show lb L t < fi L t by omega)
      rw [h.2] at this; simp at this
    have h2 : fi L t < L.length := by omega
    have h3 : lb L t ≤ fi L t := by
      refine Classical.byContradiction fun hh => ?_
      have := lb_lt (L := L) (t := t) (show fi L t < lb L t by omega)
      have h4 := fi_at h2
      rw [beq_iff_eq] at h4
      rw [h4, ltB_irrefl] at this; simp at this
    exact ⟨by omega, h2⟩
  · intro h
    refine Classical.byContradiction fun hh => ?_
    have h2 : fi L t < L.length := by omega
    have h4 := fi_at h2
    rw [beq_iff_eq] at h4
    have h5 : lb L t = fi L t := by
      refine Classical.byContradiction fun hne => ?_
      rcases Nat.lt_or_gt_of_ne hne with hlt | hgt
      · have h6 := lb_at (L := L) (t := t) (by omega)
        have := hs _ _ hlt h2
        rw [h4, h6] at this; simp at this
      · have := lb_lt (L := L) (t := t) hgt
        rw [h4, ltB_irrefl] at this; simp at this
    simp [hasE, h5, h2, h4] at h
theorem e82 (d : Nat) (L : List Ent) (t : List UInt8) (tg : Tg) (c : Option Nat) (hl : L.length ≤ 549755813888) : evFun E (d+1) 82 [.sl tg 4 L.length c (flat encE L), vs t] [] = some (vi (if fi L t < L.length then (fi L t : Int) else -1), []) := by
  refine evFun_body b82 ?_
  have hle := fi_le L t
  (repeat' (first | simp (maxDischargeDepth := 8) only [go_sem, rr, reduceIte, reduceCtorEq, Nat.reduceEqDiff, Nat.reduceAdd, Nat.reduceMul, Nat.reduceSub, Nat.reduceBEq, Nat.reduceLeDiff, Int.reduceEq, Int.reduceLT, Int.reduceLE, Int.reduceGE, Int.reduceGT, Int.reduceBEq, Int.reduceBNe, Int.reduceToNat, Int.reduceNeg, Int.reduceSub, Int.reduceAdd, Int.reduceMul, Tryd.f82] | (with_reducible refine qg9 ?_ ?_; focus (first | (simp (maxDischargeDepth := 8) only [bb, kk]; done) | kernel_rfl)) | ((with_reducible first | refine qf7 ?_ ?_ | refine qf8 ?_ ?_ | refine qf9 ?_ ?_ | refine qg ?_ ?_ | refine qg0 ?_ ?_ | refine qg1 ?_ ?_ | refine qg2 ?_ ?_); focus (first | assumption | omega | (simp only [bz]; omega))) | ((with_reducible first | refine qg3 ?_ ?_ | refine qg4 ?_ ?_ | refine qg5 ?_ ?_); focus (first | assumption | omega | (simp only [bz]; omega))) | ((with_reducible first | refine g1_u8w ?_ ?_ | refine qg7 ?_ ?_); (focus ((repeat' (with_reducible apply And.intro)) <;> (first | assumption | omega | (simp only [bz]; omega) | (simp (maxDischargeDepth := 8) only [bb]; done)))); intro _)))
  refine loop_go (fun i => {T := tp [(0, .sl tg 4 L.length c (flat encE L)), (1, vs t), (5, vi i)], H := hp [], nx := 0}) (fi L t) ?_ (lt_LF (by omega)) (fun i hi Kn hK => ?_) (fun Kn => ?_)
  · simp only [vv, ff, norm, Array.toList, List.map, Option.isSome_none, bne_self_eq_false, reduceIte, reduceCtorEq, Nat.reduceEqDiff, Nat.reduceAdd, Nat.reduceMul, Nat.reduceSub, Nat.reduceBEq, Nat.reduceLeDiff, Int.reduceEq, Int.reduceLT, Int.reduceLE, Int.reduceGE, Int.reduceGT, Int.reduceBEq, Int.reduceBNe, Int.reduceToNat, Int.reduceNeg, Int.reduceSub, Int.reduceAdd, Int.reduceMul, finish, qf0, resOf, resa, qf1, qf2, qf3, keep, qf4, qf5, qf6, qe9, qf, Int.natCast_zero]
  · have h0 := fE_get0 L (show i < L.length by omega)
    have h1 := fi_lt hi
    (have fz := ga2 h0 h1; repeat' (first | simp (maxDischargeDepth := 8) only [go_sem, rr, reduceIte, reduceCtorEq, Nat.reduceEqDiff, Nat.reduceAdd, Nat.reduceMul, Nat.reduceSub, Nat.reduceBEq, Nat.reduceLeDiff, Int.reduceEq, Int.reduceLT, Int.reduceLE, Int.reduceGE, Int.reduceGT, Int.reduceBEq, Int.reduceBNe, Int.reduceToNat, Int.reduceNeg, Int.reduceSub, Int.reduceAdd, Int.reduceMul, fz] | (with_reducible refine qg9 ?_ ?_; focus (first | (simp (maxDischargeDepth := 8) only [bb, kk, fz]; done) | kernel_rfl)) | ((with_reducible first | refine qf7 ?_ ?_ | refine qf8 ?_ ?_ | refine qf9 ?_ ?_ | refine qg ?_ ?_ | refine qg0 ?_ ?_ | refine qg1 ?_ ?_ | refine qg2 ?_ ?_); focus (first | assumption | omega | (simp only [bz, fz]; omega))) | ((with_reducible first | refine qg3 ?_ ?_ | refine qg4 ?_ ?_ | refine qg5 ?_ ?_); focus (first | assumption | omega | (simp only [bz, fz]; omega))) | ((with_reducible first | refine g1_u8w ?_ ?_ | refine qg7 ?_ ?_); (focus ((repeat' (with_reducible apply And.intro)) <;> (first | assumption | omega | (simp only [bz, fz]; omega) | (simp (maxDischargeDepth := 8) only [bb, fz]; done)))); intro _)))
    refine hK _ ?_
    simp only [vv, ff, norm, Array.toList, List.map, Option.isSome_none, bne_self_eq_false, reduceIte, reduceCtorEq, Nat.reduceEqDiff, Nat.reduceAdd, Nat.reduceMul, Nat.reduceSub, Nat.reduceBEq, Nat.reduceLeDiff, Int.reduceEq, Int.reduceLT, Int.reduceLE, Int.reduceGE, Int.reduceGT, Int.reduceBEq, Int.reduceBNe, Int.reduceToNat, Int.reduceNeg, Int.reduceSub, Int.reduceAdd, Int.reduceMul, finish, qf0, resOf, resa, qf1, qf2, qf3, keep, qf4, qf5, qf6, qe9, qf, Int.natCast_add, cst1]
  · by_cases h : fi L t < L.length
    · have h0 := fE_get0 L h
      have h1 := fi_at h
      (have fz := ga2 h0 h1; repeat' (first | simp (maxDischargeDepth := 8) only [go_sem, rr, reduceIte, reduceCtorEq, Nat.reduceEqDiff, Nat.reduceAdd, Nat.reduceMul, Nat.reduceSub, Nat.reduceBEq, Nat.reduceLeDiff, Int.reduceEq, Int.reduceLT, Int.reduceLE, Int.reduceGE, Int.reduceGT, Int.reduceBEq, Int.reduceBNe, Int.reduceToNat, Int.reduceNeg, Int.reduceSub, Int.reduceAdd, Int.reduceMul, fz, if_pos h] | (with_reducible refine qg9 ?_ ?_; focus (first | (simp (maxDischargeDepth := 8) only [bb, kk, fz, if_pos h]; done) | kernel_rfl)) | ((with_reducible first | refine qf7 ?_ ?_ | refine qf8 ?_ ?_ | refine qf9 ?_ ?_ | refine qg ?_ ?_ | refine qg0 ?_ ?_ | refine qg1 ?_ ?_ | refine qg2 ?_ ?_); focus (first | assumption | omega | (simp only [bz, fz, if_pos h]; omega))) | ((with_reducible first | refine qg3 ?_ ?_ | refine qg4 ?_ ?_ | refine qg5 ?_ ?_); focus (first | assumption | omega | (simp only [bz, fz, if_pos h]; omega))) | ((with_reducible first | refine g1_u8w ?_ ?_ | refine qg7 ?_ ?_); (focus ((repeat' (with_reducible apply And.intro)) <;> (first | assumption | omega | (simp only [bz, fz, if_pos h]; omega) | (simp (maxDischargeDepth := 8) only [bb, fz, if_pos h]; done)))); intro _)))
    · (repeat' (first | simp (maxDischargeDepth := 8) only [go_sem, rr, reduceIte, reduceCtorEq, Nat.reduceEqDiff, Nat.reduceAdd, Nat.reduceMul, Nat.reduceSub, Nat.reduceBEq, Nat.reduceLeDiff, Int.reduceEq, Int.reduceLT, Int.reduceLE, Int.reduceGE, Int.reduceGT, Int.reduceBEq, Int.reduceBNe, Int.reduceToNat, Int.reduceNeg, Int.reduceSub, Int.reduceAdd, Int.reduceMul, if_neg h] | (with_reducible refine qg9 ?_ ?_; focus (first | (simp (maxDischargeDepth := 8) only [bb, kk, if_neg h]; done) | kernel_rfl)) | ((with_reducible first | refine qf7 ?_ ?_ | refine qf8 ?_ ?_ | refine qf9 ?_ ?_ | refine qg ?_ ?_ | refine qg0 ?_ ?_ | refine qg1 ?_ ?_ | refine qg2 ?_ ?_); focus (first | assumption | omega | (simp only [bz, if_neg h]; omega))) | ((with_reducible first | refine qg3 ?_ ?_ | refine qg4 ?_ ?_ | refine qg5 ?_ ?_); focus (first | assumption | omega | (simp only [bz, if_neg h]; omega))) | ((with_reducible first | refine g1_u8w ?_ ?_ | refine qg7 ?_ ?_); (focus ((repeat' (with_reducible apply And.intro)) <;> (first | assumption | omega | (simp only [bz, if_neg h]; omega) | (simp (maxDischargeDepth := 8) only [bb, if_neg h]; done)))); intro _)))
def cfE (L : List Ent) (t : List UInt8) : Ent := if catOK L && hasE L t then eA L (lb L t) else e0
theorem e25 (d : Nat) (L : List Ent) (t : List UInt8) (tg : Tg) (c : Option Nat) (hS : Small L) : evFun E (d+7) 25 [.sl tg 4 L.length c (flat encE L), vs t] [] = some (.tup [.agg (encE (cfE L t)), vb (catOK L && hasE L t)], []) := by
  refine evFun_body b25 ?_
  have hl := hS.1
  cases hc : catOK L with
  | false =>
    have he : cfE L t = e0 := by simp [cfE, hc]
    (have fz := ga2 hc he; repeat' (first | simp (maxDischargeDepth := 8) only [go_sem, rr, reduceIte, reduceCtorEq, Nat.reduceEqDiff, Nat.reduceAdd, Nat.reduceMul, Nat.reduceSub, Nat.reduceBEq, Nat.reduceLeDiff, Int.reduceEq, Int.reduceLT, Int.reduceLE, Int.reduceGE, Int.reduceGT, Int.reduceBEq, Int.reduceBNe, Int.reduceToNat, Int.reduceNeg, Int.reduceSub, Int.reduceAdd, Int.reduceMul, fz, e0, sB_empty, Tryd.f25] | (with_reducible refine qg9 ?_ ?_; focus (first | (simp (maxDischargeDepth := 8) only [bb, kk, fz, e0, sB_empty]; done) | kernel_rfl)) | ((with_reducible first | refine qf7 ?_ ?_ | refine qf8 ?_ ?_ | refine qf9 ?_ ?_ | refine qg ?_ ?_ | refine qg0 ?_ ?_ | refine qg1 ?_ ?_ | refine qg2 ?_ ?_); focus (first | assumption | omega | (simp only [bz, fz, e0, sB_empty]; omega))) | ((with_reducible first | refine qg3 ?_ ?_ | refine qg4 ?_ ?_ | refine qg5 ?_ ?_); focus (first | assumption | omega | (simp only [bz, fz, e0, sB_empty]; omega))) | ((with_reducible first | refine g1_u8w ?_ ?_ | refine qg7 ?_ ?_); (focus ((repeat' (with_reducible apply And.intro)) <;> (first | assumption | omega | (simp only [bz, fz, e0, sB_empty]; omega) | (simp (maxDischargeDepth := 8) only [bb, fz, e0, sB_empty]; done)))); intro _) | (with_reducible apply call_elim; focus ((with_reducible first | apply e24) <;> (first | assumption | omega | (simp only [bz, fz, e0, sB_empty]; omega) | (simp (maxDischargeDepth := 8) only [bb, fz, e0, sB_empty]; done))))))
  | true =>
    have hs := sorted_of hc
    cases hh : hasE L t with
    | false =>
      have he : cfE L t = e0 := by simp [cfE, hh]
      (have fz := ga3 hc hh he; repeat' (first | simp (maxDischargeDepth := 8) only [go_sem, rr, reduceIte, reduceCtorEq, Nat.reduceEqDiff, Nat.reduceAdd, Nat.reduceMul, Nat.reduceSub, Nat.reduceBEq, Nat.reduceLeDiff, Int.reduceEq, Int.reduceLT, Int.reduceLE, Int.reduceGE, Int.reduceGT, Int.reduceBEq, Int.reduceBNe, Int.reduceToNat, Int.reduceNeg, Int.reduceSub, Int.reduceAdd, Int.reduceMul, fz, e0, sB_empty, Tryd.f25] | (with_reducible refine qg9 ?_ ?_; focus (first | (simp (maxDischargeDepth := 8) only [bb, kk, fz, e0, sB_empty]; done) | kernel_rfl)) | ((with_reducible first | refine qf7 ?_ ?_ | refine qf8 ?_ ?_ | refine qf9 ?_ ?_ | refine qg ?_ ?_ | refine qg0 ?_ ?_ | refine qg1 ?_ ?_ | refine qg2 ?_ ?_); focus (first | assumption | omega | (simp only [bz, fz, e0, sB_empty]; omega))) | ((with_reducible first | refine qg3 ?_ ?_ | refine qg4 ?_ ?_ | refine qg5 ?_ ?_); focus (first | assumption | omega | (simp only [bz, fz, e0, sB_empty]; omega))) | ((with_reducible first | refine g1_u8w ?_ ?_ | refine qg7 ?_ ?_); (focus ((repeat' (with_reducible apply And.intro)) <;> (first | assumption | omega | (simp only [bz, fz, e0, sB_empty]; omega) | (simp (maxDischargeDepth := 8) only [bb, fz, e0, sB_empty]; done)))); intro _) | (with_reducible apply call_elim; focus ((with_reducible first | apply e24 | apply e60) <;> (first | assumption | omega | (simp only [bz, fz, e0, sB_empty]; omega) | (simp (maxDischargeDepth := 8) only [bb, fz, e0, sB_empty]; done))))))
    | true =>
      have he : cfE L t = eA L (lb L t) := by simp [cfE, hc, hh]
      have h2 : lb L t < L.length := by simp only [hasE, Bool.and_eq_true, decide_eq_true_eq] at hh; exact hh.1
      have hg := fE_getR L h2
      (have fz := ga4 hc hh he hg; repeat' (first | simp (maxDischargeDepth := 8) only [go_sem, rr, reduceIte, reduceCtorEq, Nat.reduceEqDiff, Nat.reduceAdd, Nat.reduceMul, Nat.reduceSub, Nat.reduceBEq, Nat.reduceLeDiff, Int.reduceEq, Int.reduceLT, Int.reduceLE, Int.reduceGE, Int.reduceGT, Int.reduceBEq, Int.reduceBNe, Int.reduceToNat, Int.reduceNeg, Int.reduceSub, Int.reduceAdd, Int.reduceMul, fz, sB_empty, Tryd.f25] | (with_reducible refine qg9 ?_ ?_; focus (first | (simp (maxDischargeDepth := 8) only [bb, kk, fz, sB_empty]; done) | kernel_rfl)) | ((with_reducible first | refine qf7 ?_ ?_ | refine qf8 ?_ ?_ | refine qf9 ?_ ?_ | refine qg ?_ ?_ | refine qg0 ?_ ?_ | refine qg1 ?_ ?_ | refine qg2 ?_ ?_); focus (first | assumption | omega | (simp only [bz, fz, sB_empty]; omega))) | ((with_reducible first | refine qg3 ?_ ?_ | refine qg4 ?_ ?_ | refine qg5 ?_ ?_); focus (first | assumption | omega | (simp only [bz, fz, sB_empty]; omega))) | ((with_reducible first | refine g1_u8w ?_ ?_ | refine qg7 ?_ ?_); (focus ((repeat' (with_reducible apply And.intro)) <;> (first | assumption | omega | (simp only [bz, fz, sB_empty]; omega) | (simp (maxDischargeDepth := 8) only [bb, fz, sB_empty]; done)))); intro _) | (with_reducible apply call_elim; focus ((with_reducible first | apply e24 | apply e60) <;> (first | assumption | omega | (simp only [bz, fz, sB_empty]; omega) | (simp (maxDischargeDepth := 8) only [bb, fz, sB_empty]; done))))))
end Go.Proofs.YtgdldmfkgijkaaaDoor.VH.S
end

section
namespace Go.Proofs.YtgdldmfkgijkaaaDoor.VH.S
open Go.Proofs
set_option maxRecDepth 100000
set_option maxHeartbeats 8000000
set_option linter.unusedSimpArgs false

/- Two catalogs. -/
abbrev ltP (x y : List UInt8) : Prop := ltB x y = true
theorem sorted_ext : ∀ l m : List (List UInt8), l.Pairwise ltP → m.Pairwise ltP → (∀ x, x ∈ l ↔ x ∈ m) → l = m
  | [], [], _, _, _ => rfl
  | [], b :: m, _, _, h => by have := (h b).2 (by simp); simp at this
  | a :: l, [], _, _, h => by have := (h a).1 (by simp); simp at this
  | a :: l, b :: m, h1, h2, h => by
    obtain ⟨p1, p2⟩ := List.pairwise_cons.mp h1
    obtain ⟨q1, q2⟩ := List.pairwise_cons.mp h2
    have hab : a = b := by
      refine Classical.byContradiction fun hne => ?_
      have ha : a ∈ m := by
        rcases List.mem_cons.mp ((h a).1 (by simp)) with e | e
        · exact absurd e hne
        · exact e
      have hb : b ∈ l := by
        rcases List.mem_cons.mp ((h b).2 (by simp)) with e | e
        · exact absurd e.symm hne
        · exact e
      have := ltB_asymm (q1 a ha)
      rw [p1 b hb] at this; simp at this
    subst hab
    rw [sorted_ext l m p2 q2 fun x => ⟨fun hx => by
      rcases List.mem_cons.mp ((h x).1 (by simp [hx])) with e | e
      · subst e; have := p1 x hx; simp only [ltP, ltB_irrefl] at this; simp at this
      · exact e, fun hx => by
      rcases List.mem_cons.mp ((h x).2 (by simp [hx])) with e | e
      · subst e; have := q1 x hx; simp only [ltP, ltB_irrefl] at this; simp at this
      · exact e⟩]
theorem sorted_pw {L : List Ent} (hs : Sorted L) : L.Pairwise fun a b => ltB a.nm b.nm = true := by
  rw [List.pairwise_iff_getElem]
  intro i j hi hj hij
  have := hs i j hij hj
  rw [eA_get hi, eA_get hj] at this; exact this
theorem has_mem {L : List Ent} (hs : Sorted L) {e : Ent} (he : e ∈ L) : hasE L e.nm = true ∧ eA L (lb L e.nm) = e := by
  obtain ⟨i, hi, rfl⟩ := List.mem_iff_getElem.mp he
  have hle : lb L L[i].nm ≤ i := by
    refine Classical.byContradiction fun h => ?_
    have := lb_lt (L := L) (t := L[i].nm) (show i < lb L L[i].nm by omega)
    rw [eA_get hi, ltB_irrefl] at this; simp at this
  have heq : lb L L[i].nm = i := by
    refine Classical.byContradiction fun h => ?_
    have h1 := lb_at (L := L) (t := L[i].nm) (by omega)
    have h2 := hs (lb L L[i].nm) i (by omega) hi
    rw [eA_get hi] at h2
    rw [h1] at h2; simp at h2
  refine ⟨?_, by rw [heq]; exact eA_get hi⟩
  simp [hasE, heq, eA_get hi, hi]
theorem has_get {L : List Ent} {t : List UInt8} (h : hasE L t = true) : eA L (lb L t) ∈ L ∧ (eA L (lb L t)).nm = t ∧ lb L t < L.length := by
  simp only [hasE, Bool.and_eq_true, decide_eq_true_eq, beq_iff_eq] at h
  exact ⟨by rw [eA_get h.1]; exact List.getElem_mem _, h.2, h.1⟩
def lackN (L M : List Ent) : List (List UInt8) := (L.filter fun e => !hasE M e.nm).map Ent.nm
def chgN (L M : List Ent) : List (List UInt8) := (L.filter fun e => hasE M e.nm && !decide (eA M (lb M e.nm) = e)).map Ent.nm
theorem pw_names {L : List Ent} (hs : Sorted L) (p : Ent → Bool) : ((L.filter p).map Ent.nm).Pairwise ltP := by
  rw [List.pairwise_map]
  exact ((sorted_pw hs).filter p)
theorem chg_mem {L M : List Ent} (hL : Sorted L) (hM : Sorted M) (x : List UInt8) (h : x ∈ chgN L M) : x ∈ chgN M L := by
  simp only [chgN, List.mem_map, List.mem_filter, Bool.and_eq_true, Bool.not_eq_true', decide_eq_false_iff_not] at h ⊢
  obtain ⟨e, ⟨he, h1, h2⟩, rfl⟩ := h
  obtain ⟨g1, g2, g3⟩ := has_get h1
  obtain ⟨f1, f2⟩ := has_mem hL he
  refine ⟨eA M (lb M e.nm), ⟨g1, by rw [g2]; exact f1, ?_⟩, g2⟩
  rw [g2, f2]; exact fun h => h2 h.symm
theorem chg_comm {L M : List Ent} (hL : Sorted L) (hM : Sorted M) : chgN L M = chgN M L :=
  sorted_ext _ _ (pw_names hL _) (pw_names hM _) fun x => ⟨chg_mem hL hM x, chg_mem hM hL x⟩
theorem take_snoc {L : List Ent} {i : Nat} (h : i < L.length) : L.take (i + 1) = L.take i ++ [eA L i] := by
  rw [eA_get h, List.take_succ_eq_append_getElem h]
theorem lack_yes {L M : List Ent} {i : Nat} (h : i < L.length) (hh : hasE M (eA L i).nm = true) : lackN (L.take (i + 1)) M = lackN (L.take i) M := by
  simp [lackN, take_snoc h, hh]
theorem lack_no {L M : List Ent} {i : Nat} (h : i < L.length) (hh : hasE M (eA L i).nm = false) : txt (lackN (L.take i) M) ++ [vs (eA L i).nm] = txt (lackN (L.take (i + 1)) M) := by
  simp [lackN, take_snoc h, hh]
theorem lack_noL {L M : List Ent} {i : Nat} (h : i < L.length) (hh : hasE M (eA L i).nm = false) : (lackN (L.take (i + 1)) M).length = (lackN (L.take i) M).length + 1 := by
  simp [lackN, take_snoc h, hh]
theorem lack_le (L M : List Ent) (i : Nat) : (lackN (L.take i) M).length ≤ L.length := by
  have h1 := List.length_filter_le (fun e : Ent => !hasE M e.nm) (L.take i)
  have h2 : (L.take i).length ≤ L.length := by rw [List.length_take]; omega
  simp only [lackN, List.length_map]; omega
def isChg (L M : List Ent) (i : Nat) : Bool := hasE M (eA L i).nm && !decide (eA M (lb M (eA L i).nm) = eA L i)
theorem chg_no {L M : List Ent} {i : Nat} (h : i < L.length) (hh : isChg L M i = false) : chgN (L.take (i + 1)) M = chgN (L.take i) M := by
  simp only [isChg] at hh
  simp [chgN, take_snoc h, List.filter_cons, hh]
theorem chg_yes {L M : List Ent} {i : Nat} (h : i < L.length) (hh : isChg L M i = true) : txt (chgN (L.take i) M) ++ [vs (eA L i).nm] = txt (chgN (L.take (i + 1)) M) := by
  simp only [isChg] at hh
  simp [chgN, take_snoc h, List.filter_cons, hh]
theorem chg_yesL {L M : List Ent} {i : Nat} (h : i < L.length) (hh : isChg L M i = true) : (chgN (L.take (i + 1)) M).length = (chgN (L.take i) M).length + 1 := by
  simp only [isChg] at hh
  simp [chgN, take_snoc h, List.filter_cons, hh]
theorem chg_le (L M : List Ent) (i : Nat) : (chgN (L.take i) M).length ≤ L.length := by
  have h1 := List.length_filter_le (fun e : Ent => hasE M e.nm && !decide (eA M (lb M e.nm) = e)) (L.take i)
  have h2 : (L.take i).length ≤ L.length := by rw [List.length_take]; omega
  simp only [chgN, List.length_map]; omega
theorem lack_zero (M : List Ent) : lackN [] M = [] := rfl
theorem chg_zero (M : List Ent) : chgN [] M = [] := rfl
theorem eqE (x y : Ent) : eqCells [.string ByteArray.empty, .int .i64 0, .int .i64 0, .int .i64 0] [vs x.nm, vi x.v, vi x.s, vi x.r] [vs y.nm, vi y.v, vi y.s, vi y.r] = some (decide (x = y)) := by
  cases x with
  | mk n v s r =>
  cases y with
  | mk n' v' s' r' =>
  simp only [eqCells, eqC, if_true, sB_toList, Ent.mk.injEq, Bool.and_true]
  congr 1
  rw [Bool.eq_iff_iff]; simp
theorem txt_takeAll (L : List Ent) : L.take L.length = L := List.take_of_length_le (Nat.le_refl _)

theorem e61 (d : Nat) (L M : List Ent) (tg tg' : Tg) (c c' : Option Nat) (hl : L.length ≤ 549755813880) (hm : M.length ≤ 549755813888) (hs : Sorted M) : evFun E (d+7) 61 [.sl tg 4 L.length c (flat encE L), .sl tg' 4 M.length c' (flat encE M)] [] = some (.ref 0 [] 1 0 (lackN L M).length (capZ (lackN L M).length), [some (txt (lackN L M))]) := by
  refine evFun_body b61 ?_
  (repeat' (first | simp (maxDischargeDepth := 8) only [go_sem, rr, reduceIte, reduceCtorEq, Nat.reduceEqDiff, Nat.reduceAdd, Nat.reduceMul, Nat.reduceSub, Nat.reduceBEq, Nat.reduceLeDiff, Int.reduceEq, Int.reduceLT, Int.reduceLE, Int.reduceGE, Int.reduceGT, Int.reduceBEq, Int.reduceBNe, Int.reduceToNat, Int.reduceNeg, Int.reduceSub, Int.reduceAdd, Int.reduceMul, Tryd.f61] | (with_reducible refine qg9 ?_ ?_; focus (first | (simp (maxDischargeDepth := 8) only [bb, kk]; done) | kernel_rfl)) | ((with_reducible first | refine qf7 ?_ ?_ | refine qf8 ?_ ?_ | refine qf9 ?_ ?_ | refine qg ?_ ?_ | refine qg0 ?_ ?_ | refine qg1 ?_ ?_ | refine qg2 ?_ ?_); focus (first | assumption | omega | (simp only [bz]; omega))) | ((with_reducible first | refine qg3 ?_ ?_ | refine qg4 ?_ ?_ | refine qg5 ?_ ?_); focus (first | assumption | omega | (simp only [bz]; omega))) | ((with_reducible first | refine g1_u8w ?_ ?_ | refine qg7 ?_ ?_); (focus ((repeat' (with_reducible apply And.intro)) <;> (first | assumption | omega | (simp only [bz]; omega) | (simp (maxDischargeDepth := 8) only [bb]; done)))); intro _) | ((with_reducible refine g1_64w ?_ ?_); (focus ((repeat' (with_reducible apply And.intro)) <;> (first | assumption | omega | (simp only [bz]; omega) | (simp (maxDischargeDepth := 8) only [bb]; done)))); intro _)))
  refine loop_go (fun i => {T := tp [(1, .sl tg' 4 M.length c' (flat encE M)), (5, .ref 0 [] 1 0 (lackN (L.take i) M).length (capZ (lackN (L.take i) M).length)), (11, .sl tg 4 L.length c (flat encE L)), (12, vi L.length), (13, vi i)], H := hp [some (txt (lackN (L.take i) M))], nx := 1}) L.length ?_ (lt_LF (by omega)) (fun i hi Kn hK => ?_) (fun Kn => ?_)
  · simp only [vv, ff, norm, Array.toList, List.map, Option.isSome_none, bne_self_eq_false, reduceIte, reduceCtorEq, Nat.reduceEqDiff, Nat.reduceAdd, Nat.reduceMul, Nat.reduceSub, Nat.reduceBEq, Nat.reduceLeDiff, Int.reduceEq, Int.reduceLT, Int.reduceLE, Int.reduceGE, Int.reduceGT, Int.reduceBEq, Int.reduceBNe, Int.reduceToNat, Int.reduceNeg, Int.reduceSub, Int.reduceAdd, Int.reduceMul, finish, qf0, resOf, resa, qf1, qf2, qf3, keep, qf4, qf5, qf6, qe9, qf, Int.natCast_zero, capZ_zero, txt, List.take_zero, lack_zero, List.length_nil]
  · have hg := fE_getR L hi
    have hle := lack_le L M i
    cases hh : hasE M (eA L i).nm with
    | true =>
      have hy := lack_yes hi hh
      (have fz := ga2 hg hh; repeat' (first | simp (maxDischargeDepth := 8) only [go_sem, rr, reduceIte, reduceCtorEq, Nat.reduceEqDiff, Nat.reduceAdd, Nat.reduceMul, Nat.reduceSub, Nat.reduceBEq, Nat.reduceLeDiff, Int.reduceEq, Int.reduceLT, Int.reduceLE, Int.reduceGE, Int.reduceGT, Int.reduceBEq, Int.reduceBNe, Int.reduceToNat, Int.reduceNeg, Int.reduceSub, Int.reduceAdd, Int.reduceMul, fz] | (with_reducible refine qg9 ?_ ?_; focus (first | (simp (maxDischargeDepth := 8) only [bb, kk, fz]; done) | kernel_rfl)) | ((with_reducible first | refine qf7 ?_ ?_ | refine qf8 ?_ ?_ | refine qf9 ?_ ?_ | refine qg ?_ ?_ | refine qg0 ?_ ?_ | refine qg1 ?_ ?_ | refine qg2 ?_ ?_); focus (first | assumption | omega | (simp only [bz, fz]; omega))) | ((with_reducible first | refine qg3 ?_ ?_ | refine qg4 ?_ ?_ | refine qg5 ?_ ?_); focus (first | assumption | omega | (simp only [bz, fz]; omega))) | ((with_reducible first | refine g1_u8w ?_ ?_ | refine qg7 ?_ ?_); (focus ((repeat' (with_reducible apply And.intro)) <;> (first | assumption | omega | (simp only [bz, fz]; omega) | (simp (maxDischargeDepth := 8) only [bb, fz]; done)))); intro _) | ((with_reducible refine g1_64w ?_ ?_); (focus ((repeat' (with_reducible apply And.intro)) <;> (first | assumption | omega | (simp only [bz, fz]; omega) | (simp (maxDischargeDepth := 8) only [bb, fz]; done)))); intro _) | (with_reducible apply call_elim; focus ((with_reducible first | apply e60) <;> (first | assumption | omega | (simp only [bz, fz]; omega) | (simp (maxDischargeDepth := 8) only [bb, fz]; done))))))
      refine hK _ ?_
      simp only [vv, ff, norm, Array.toList, List.map, Option.isSome_none, bne_self_eq_false, reduceIte, reduceCtorEq, Nat.reduceEqDiff, Nat.reduceAdd, Nat.reduceMul, Nat.reduceSub, Nat.reduceBEq, Nat.reduceLeDiff, Int.reduceEq, Int.reduceLT, Int.reduceLE, Int.reduceGE, Int.reduceGT, Int.reduceBEq, Int.reduceBNe, Int.reduceToNat, Int.reduceNeg, Int.reduceSub, Int.reduceAdd, Int.reduceMul, finish, qf0, resOf, resa, qf1, qf2, qf3, keep, qf4, qf5, qf6, qe9, qf, Int.natCast_add, cst1, hy]
    | false =>
      have hy := lack_no hi hh
      have hyl := lack_noL hi hh
      have hlen : (txt (lackN (L.take i) M)).length = (lackN (L.take i) M).length := txt_len _
      have ho := txt_own (lackN (L.take i) M)
      have hsl := txt_sl (lackN (L.take i) M)
      (have fz := ga6 hg hh hy hlen ho hsl; repeat' (first | simp (maxDischargeDepth := 8) only [go_sem, rr, reduceIte, reduceCtorEq, Nat.reduceEqDiff, Nat.reduceAdd, Nat.reduceMul, Nat.reduceSub, Nat.reduceBEq, Nat.reduceLeDiff, Int.reduceEq, Int.reduceLT, Int.reduceLE, Int.reduceGE, Int.reduceGT, Int.reduceBEq, Int.reduceBNe, Int.reduceToNat, Int.reduceNeg, Int.reduceSub, Int.reduceAdd, Int.reduceMul, fz] | (with_reducible refine qg9 ?_ ?_; focus (first | (simp (maxDischargeDepth := 8) only [bb, kk, fz]; done) | kernel_rfl)) | ((with_reducible first | refine qf7 ?_ ?_ | refine qf8 ?_ ?_ | refine qf9 ?_ ?_ | refine qg ?_ ?_ | refine qg0 ?_ ?_ | refine qg1 ?_ ?_ | refine qg2 ?_ ?_); focus (first | assumption | omega | (simp only [bz, fz]; omega))) | ((with_reducible first | refine qg3 ?_ ?_ | refine qg4 ?_ ?_ | refine qg5 ?_ ?_); focus (first | assumption | omega | (simp only [bz, fz]; omega))) | ((with_reducible first | refine g1_u8w ?_ ?_ | refine qg7 ?_ ?_); (focus ((repeat' (with_reducible apply And.intro)) <;> (first | assumption | omega | (simp only [bz, fz]; omega) | (simp (maxDischargeDepth := 8) only [bb, fz]; done)))); intro _) | ((with_reducible refine g1_64w ?_ ?_); (focus ((repeat' (with_reducible apply And.intro)) <;> (first | assumption | omega | (simp only [bz, fz]; omega) | (simp (maxDischargeDepth := 8) only [bb, fz]; done)))); intro _) | (with_reducible apply call_elim; focus ((with_reducible first | apply e60) <;> (first | assumption | omega | (simp only [bz, fz]; omega) | (simp (maxDischargeDepth := 8) only [bb, fz]; done))))))
      refine hK _ ?_
      simp only [vv, ff, norm, Array.toList, List.map, Option.isSome_none, bne_self_eq_false, reduceIte, reduceCtorEq, Nat.reduceEqDiff, Nat.reduceAdd, Nat.reduceMul, Nat.reduceSub, Nat.reduceBEq, Nat.reduceLeDiff, Int.reduceEq, Int.reduceLT, Int.reduceLE, Int.reduceGE, Int.reduceGT, Int.reduceBEq, Int.reduceBNe, Int.reduceToNat, Int.reduceNeg, Int.reduceSub, Int.reduceAdd, Int.reduceMul, finish, qf0, resOf, resa, qf1, qf2, qf3, keep, qf4, qf5, qf6, qe9, qf, Int.natCast_add, cst1, hyl, capZ_succ, capK_pos Nat.one_pos]
  · have ht := txt_takeAll L
    have hsn := txt_snap (lackN L M)
    (have fz := ga2 ht hsn; repeat' (first | simp (maxDischargeDepth := 8) only [go_sem, rr, reduceIte, reduceCtorEq, Nat.reduceEqDiff, Nat.reduceAdd, Nat.reduceMul, Nat.reduceSub, Nat.reduceBEq, Nat.reduceLeDiff, Int.reduceEq, Int.reduceLT, Int.reduceLE, Int.reduceGE, Int.reduceGT, Int.reduceBEq, Int.reduceBNe, Int.reduceToNat, Int.reduceNeg, Int.reduceSub, Int.reduceAdd, Int.reduceMul, fz] | (with_reducible refine qg9 ?_ ?_; focus (first | (simp (maxDischargeDepth := 8) only [bb, kk, fz]; done) | kernel_rfl)) | ((with_reducible first | refine qf7 ?_ ?_ | refine qf8 ?_ ?_ | refine qf9 ?_ ?_ | refine qg ?_ ?_ | refine qg0 ?_ ?_ | refine qg1 ?_ ?_ | refine qg2 ?_ ?_); focus (first | assumption | omega | (simp only [bz, fz]; omega))) | ((with_reducible first | refine qg3 ?_ ?_ | refine qg4 ?_ ?_ | refine qg5 ?_ ?_); focus (first | assumption | omega | (simp only [bz, fz]; omega))) | ((with_reducible first | refine g1_u8w ?_ ?_ | refine qg7 ?_ ?_); (focus ((repeat' (with_reducible apply And.intro)) <;> (first | assumption | omega | (simp only [bz, fz]; omega) | (simp (maxDischargeDepth := 8) only [bb, fz]; done)))); intro _) | ((with_reducible refine g1_64w ?_ ?_); (focus ((repeat' (with_reducible apply And.intro)) <;> (first | assumption | omega | (simp only [bz, fz]; omega) | (simp (maxDischargeDepth := 8) only [bb, fz]; done)))); intro _)))
theorem e22 (d : Nat) (A B : List Ent) (tg tg' : Tg) (c c' : Option Nat) (hA : Small A) (hB : Small B) (ha : catOK A = true) (hb : catOK B = true) : evFun E (d+8) 22 [.sl tg 4 A.length c (flat encE A), .sl tg' 4 B.length c' (flat encE B)] [] = some (.tup [.ref 0 [] 1 0 (lackN B A).length (capZ (lackN B A).length), .ref 1 [] 1 0 (lackN A B).length (capZ (lackN A B).length), .ref 2 [] 1 0 (chgN A B).length (capZ (chgN A B).length)], [some (txt (lackN B A)), some (txt (lackN A B)), some (txt (chgN A B))]) := by
  refine evFun_body b22 ?_
  have hla := hA.1
  have hlb := hB.1
  have hsa := sorted_of ha
  have hsb := sorted_of hb
  have h5 : A.length ≤ 5 := by simp only [catOK, Bool.and_eq_true, decide_eq_true_eq] at ha; exact ha.2
  have h5b : B.length ≤ 5 := by simp only [catOK, Bool.and_eq_true, decide_eq_true_eq] at hb; exact hb.2
  (have fz := ga2 ha hb; repeat' (first | simp (maxDischargeDepth := 8) only [go_sem, rr, reduceIte, reduceCtorEq, Nat.reduceEqDiff, Nat.reduceAdd, Nat.reduceMul, Nat.reduceSub, Nat.reduceBEq, Nat.reduceLeDiff, Int.reduceEq, Int.reduceLT, Int.reduceLE, Int.reduceGE, Int.reduceGT, Int.reduceBEq, Int.reduceBNe, Int.reduceToNat, Int.reduceNeg, Int.reduceSub, Int.reduceAdd, Int.reduceMul, fz, Tryd.f22] | (with_reducible refine qg9 ?_ ?_; focus (first | (simp (maxDischargeDepth := 8) only [bb, kk, fz]; done) | kernel_rfl)) | ((with_reducible first | refine qf7 ?_ ?_ | refine qf8 ?_ ?_ | refine qf9 ?_ ?_ | refine qg ?_ ?_ | refine qg0 ?_ ?_ | refine qg1 ?_ ?_ | refine qg2 ?_ ?_); focus (first | assumption | omega | (simp only [bz, fz]; omega))) | ((with_reducible first | refine qg3 ?_ ?_ | refine qg4 ?_ ?_ | refine qg5 ?_ ?_); focus (first | assumption | omega | (simp only [bz, fz]; omega))) | ((with_reducible first | refine g1_u8w ?_ ?_ | refine qg7 ?_ ?_); (focus ((repeat' (with_reducible apply And.intro)) <;> (first | assumption | omega | (simp only [bz, fz]; omega) | (simp (maxDischargeDepth := 8) only [bb, fz]; done)))); intro _) | ((with_reducible refine g1_64w ?_ ?_); (focus ((repeat' (with_reducible apply And.intro)) <;> (first | assumption | omega | (simp only [bz, fz]; omega) | (simp (maxDischargeDepth := 8) only [bb, fz]; done)))); intro _) | (with_reducible apply call_elim; focus ((with_reducible first | apply e24) <;> (first | assumption | omega | (simp only [bz, fz]; omega) | (simp (maxDischargeDepth := 8) only [bb, fz]; done))))))
  refine loop_go (fun i => {T := tp [(0, .sl tg 4 A.length c (flat encE A)), (1, .sl tg' 4 B.length c' (flat encE B)), (7, .ref 0 [] 1 0 (chgN (A.take i) B).length (capZ (chgN (A.take i) B).length)), (21, .sl tg 4 A.length c (flat encE A)), (22, vi A.length), (23, vi i)], H := hp [some (txt (chgN (A.take i) B))], nx := 1}) A.length ?_ (lt_LF (by omega)) (fun i hi Kn hK => ?_) (fun Kn => ?_)
  · simp only [vv, ff, norm, Array.toList, List.map, Option.isSome_none, bne_self_eq_false, reduceIte, reduceCtorEq, Nat.reduceEqDiff, Nat.reduceAdd, Nat.reduceMul, Nat.reduceSub, Nat.reduceBEq, Nat.reduceLeDiff, Int.reduceEq, Int.reduceLT, Int.reduceLE, Int.reduceGE, Int.reduceGT, Int.reduceBEq, Int.reduceBNe, Int.reduceToNat, Int.reduceNeg, Int.reduceSub, Int.reduceAdd, Int.reduceMul, finish, qf0, resOf, resa, qf1, qf2, qf3, keep, qf4, qf5, qf6, qe9, qf, Int.natCast_zero, capZ_zero, txt, List.take_zero, chg_zero, List.length_nil]
  · have hg := fE_getR A hi
    have hle := chg_le A B i
    cases hh : hasE B (eA A i).nm with
    | false =>
      have hy := chg_no (L := A) (M := B) hi (by simp [isChg, hh])
      (have fz := ga2 hg hh; repeat' (first | simp (maxDischargeDepth := 8) only [go_sem, rr, reduceIte, reduceCtorEq, Nat.reduceEqDiff, Nat.reduceAdd, Nat.reduceMul, Nat.reduceSub, Nat.reduceBEq, Nat.reduceLeDiff, Int.reduceEq, Int.reduceLT, Int.reduceLE, Int.reduceGE, Int.reduceGT, Int.reduceBEq, Int.reduceBNe, Int.reduceToNat, Int.reduceNeg, Int.reduceSub, Int.reduceAdd, Int.reduceMul, fz] | (with_reducible refine qg9 ?_ ?_; focus (first | (simp (maxDischargeDepth := 8) only [bb, kk, fz]; done) | kernel_rfl)) | ((with_reducible first | refine qf7 ?_ ?_ | refine qf8 ?_ ?_ | refine qf9 ?_ ?_ | refine qg ?_ ?_ | refine qg0 ?_ ?_ | refine qg1 ?_ ?_ | refine qg2 ?_ ?_); focus (first | assumption | omega | (simp only [bz, fz]; omega))) | ((with_reducible first | refine qg3 ?_ ?_ | refine qg4 ?_ ?_ | refine qg5 ?_ ?_); focus (first | assumption | omega | (simp only [bz, fz]; omega))) | ((with_reducible first | refine g1_u8w ?_ ?_ | refine qg7 ?_ ?_); (focus ((repeat' (with_reducible apply And.intro)) <;> (first | assumption | omega | (simp only [bz, fz]; omega) | (simp (maxDischargeDepth := 8) only [bb, fz]; done)))); intro _) | ((with_reducible refine g1_64w ?_ ?_); (focus ((repeat' (with_reducible apply And.intro)) <;> (first | assumption | omega | (simp only [bz, fz]; omega) | (simp (maxDischargeDepth := 8) only [bb, fz]; done)))); intro _) | (with_reducible apply call_elim; focus ((with_reducible first | apply e60) <;> (first | assumption | omega | (simp only [bz, fz]; omega) | (simp (maxDischargeDepth := 8) only [bb, fz]; done))))))
      refine hK _ ?_
      simp only [vv, ff, norm, Array.toList, List.map, Option.isSome_none, bne_self_eq_false, reduceIte, reduceCtorEq, Nat.reduceEqDiff, Nat.reduceAdd, Nat.reduceMul, Nat.reduceSub, Nat.reduceBEq, Nat.reduceLeDiff, Int.reduceEq, Int.reduceLT, Int.reduceLE, Int.reduceGE, Int.reduceGT, Int.reduceBEq, Int.reduceBNe, Int.reduceToNat, Int.reduceNeg, Int.reduceSub, Int.reduceAdd, Int.reduceMul, finish, qf0, resOf, resa, qf1, qf2, qf3, keep, qf4, qf5, qf6, qe9, qf, Int.natCast_add, cst1, hy]
    | true =>
      obtain ⟨_, _, hlt⟩ := has_get hh
      have hg2 := fE_getR B hlt
      have he := eqE (eA B (lb B (eA A i).nm)) (eA A i)
      cases hd : decide (eA B (lb B (eA A i).nm) = eA A i) with
      | true =>
        have hy := chg_no (L := A) (M := B) hi (by simp [isChg, hh, hd])
        (have fz := ga5 hg hg2 hh he hd; repeat' (first | simp (maxDischargeDepth := 8) only [go_sem, rr, reduceIte, reduceCtorEq, Nat.reduceEqDiff, Nat.reduceAdd, Nat.reduceMul, Nat.reduceSub, Nat.reduceBEq, Nat.reduceLeDiff, Int.reduceEq, Int.reduceLT, Int.reduceLE, Int.reduceGE, Int.reduceGT, Int.reduceBEq, Int.reduceBNe, Int.reduceToNat, Int.reduceNeg, Int.reduceSub, Int.reduceAdd, Int.reduceMul, fz, aggBin] | (with_reducible refine qg9 ?_ ?_; focus (first | (simp (maxDischargeDepth := 8) only [bb, kk, fz, aggBin]; done) | kernel_rfl)) | ((with_reducible first | refine qf7 ?_ ?_ | refine qf8 ?_ ?_ | refine qf9 ?_ ?_ | refine qg ?_ ?_ | refine qg0 ?_ ?_ | refine qg1 ?_ ?_ | refine qg2 ?_ ?_); focus (first | assumption | omega | (simp only [bz, fz, aggBin]; omega))) | ((with_reducible first | refine qg3 ?_ ?_ | refine qg4 ?_ ?_ | refine qg5 ?_ ?_); focus (first | assumption | omega | (simp only [bz, fz, aggBin]; omega))) | ((with_reducible first | refine g1_u8w ?_ ?_ | refine qg7 ?_ ?_); (focus ((repeat' (with_reducible apply And.intro)) <;> (first | assumption | omega | (simp only [bz, fz, aggBin]; omega) | (simp (maxDischargeDepth := 8) only [bb, fz, aggBin]; done)))); intro _) | ((with_reducible refine g1_64w ?_ ?_); (focus ((repeat' (with_reducible apply And.intro)) <;> (first | assumption | omega | (simp only [bz, fz, aggBin]; omega) | (simp (maxDischargeDepth := 8) only [bb, fz, aggBin]; done)))); intro _) | (with_reducible apply call_elim; focus ((with_reducible first | apply e60) <;> (first | assumption | omega | (simp only [bz, fz, aggBin]; omega) | (simp (maxDischargeDepth := 8) only [bb, fz, aggBin]; done))))))
        refine hK _ ?_
        simp only [vv, ff, norm, Array.toList, List.map, Option.isSome_none, bne_self_eq_false, reduceIte, reduceCtorEq, Nat.reduceEqDiff, Nat.reduceAdd, Nat.reduceMul, Nat.reduceSub, Nat.reduceBEq, Nat.reduceLeDiff, Int.reduceEq, Int.reduceLT, Int.reduceLE, Int.reduceGE, Int.reduceGT, Int.reduceBEq, Int.reduceBNe, Int.reduceToNat, Int.reduceNeg, Int.reduceSub, Int.reduceAdd, Int.reduceMul, finish, qf0, resOf, resa, qf1, qf2, qf3, keep, qf4, qf5, qf6, qe9, qf, Int.natCast_add, cst1, hy]
      | false =>
        have hq : isChg A B i = true := by simp [isChg, hh, hd]
        have hy := chg_yes hi hq
        have hyl := chg_yesL hi hq
        have hlen : (txt (chgN (A.take i) B)).length = (chgN (A.take i) B).length := txt_len _
        have ho := txt_own (chgN (A.take i) B)
        have hsl := txt_sl (chgN (A.take i) B)
        (have fz := ga9 hg hg2 hh he hd hy hlen ho hsl; repeat' (first | simp (maxDischargeDepth := 8) only [go_sem, rr, reduceIte, reduceCtorEq, Nat.reduceEqDiff, Nat.reduceAdd, Nat.reduceMul, Nat.reduceSub, Nat.reduceBEq, Nat.reduceLeDiff, Int.reduceEq, Int.reduceLT, Int.reduceLE, Int.reduceGE, Int.reduceGT, Int.reduceBEq, Int.reduceBNe, Int.reduceToNat, Int.reduceNeg, Int.reduceSub, Int.reduceAdd, Int.reduceMul, fz, aggBin] | (with_reducible refine qg9 ?_ ?_; focus (first | (simp (maxDischargeDepth := 8) only [bb, kk, fz, aggBin]; done) | kernel_rfl)) | ((with_reducible first | refine qf7 ?_ ?_ | refine qf8 ?_ ?_ | refine qf9 ?_ ?_ | refine qg ?_ ?_ | refine qg0 ?_ ?_ | refine qg1 ?_ ?_ | refine qg2 ?_ ?_); focus (first | assumption | omega | (simp only [bz, fz, aggBin]; omega))) | ((with_reducible first | refine qg3 ?_ ?_ | refine qg4 ?_ ?_ | refine qg5 ?_ ?_); focus (first | assumption | omega | (simp only [bz, fz, aggBin]; omega))) | ((with_reducible first | refine g1_u8w ?_ ?_ | refine qg7 ?_ ?_); (focus ((repeat' (with_reducible apply And.intro)) <;> (first | assumption | omega | (simp only [bz, fz, aggBin]; omega) | (simp (maxDischargeDepth := 8) only [bb, fz, aggBin]; done)))); intro _) | ((with_reducible refine g1_64w ?_ ?_); (focus ((repeat' (with_reducible apply And.intro)) <;> (first | assumption | omega | (simp only [bz, fz, aggBin]; omega) | (simp (maxDischargeDepth := 8) only [bb, fz, aggBin]; done)))); intro _) | (with_reducible apply call_elim; focus ((with_reducible first | apply e60) <;> (first | assumption | omega | (simp only [bz, fz, aggBin]; omega) | (simp (maxDischargeDepth := 8) only [bb, fz, aggBin]; done))))))
        refine hK _ ?_
        simp only [vv, ff, norm, Array.toList, List.map, Option.isSome_none, bne_self_eq_false, reduceIte, reduceCtorEq, Nat.reduceEqDiff, Nat.reduceAdd, Nat.reduceMul, Nat.reduceSub, Nat.reduceBEq, Nat.reduceLeDiff, Int.reduceEq, Int.reduceLT, Int.reduceLE, Int.reduceGE, Int.reduceGT, Int.reduceBEq, Int.reduceBNe, Int.reduceToNat, Int.reduceNeg, Int.reduceSub, Int.reduceAdd, Int.reduceMul, finish, qf0, resOf, resa, qf1, qf2, qf3, keep, qf4, qf5, qf6, qe9, qf, Int.natCast_add, cst1, hyl, capZ_succ, capK_pos Nat.one_pos]
  · have ht := txt_takeAll A
    have hsn := txt_snap (chgN A B)
    have hsn2 := txt_snap (lackN A B)
    have hsn3 := txt_snap (lackN B A)
    have ho := txt_own (lackN A B)
    have ho3 := txt_own (lackN B A)
    have ho4 := txt_own (chgN A B)
    (have fz := ga7 ht hsn hsn2 hsn3 ho ho3 ho4; repeat' (first | simp (maxDischargeDepth := 8) only [go_sem, rr, reduceIte, reduceCtorEq, Nat.reduceEqDiff, Nat.reduceAdd, Nat.reduceMul, Nat.reduceSub, Nat.reduceBEq, Nat.reduceLeDiff, Int.reduceEq, Int.reduceLT, Int.reduceLE, Int.reduceGE, Int.reduceGT, Int.reduceBEq, Int.reduceBNe, Int.reduceToNat, Int.reduceNeg, Int.reduceSub, Int.reduceAdd, Int.reduceMul, fz] | (with_reducible refine qg9 ?_ ?_; focus (first | (simp (maxDischargeDepth := 8) only [bb, kk, fz]; done) | kernel_rfl)) | ((with_reducible first | refine qf7 ?_ ?_ | refine qf8 ?_ ?_ | refine qf9 ?_ ?_ | refine qg ?_ ?_ | refine qg0 ?_ ?_ | refine qg1 ?_ ?_ | refine qg2 ?_ ?_); focus (first | assumption | omega | (simp only [bz, fz]; omega))) | ((with_reducible first | refine qg3 ?_ ?_ | refine qg4 ?_ ?_ | refine qg5 ?_ ?_); focus (first | assumption | omega | (simp only [bz, fz]; omega))) | ((with_reducible first | refine g1_u8w ?_ ?_ | refine qg7 ?_ ?_); (focus ((repeat' (with_reducible apply And.intro)) <;> (first | assumption | omega | (simp only [bz, fz]; omega) | (simp (maxDischargeDepth := 8) only [bb, fz]; done)))); intro _) | ((with_reducible refine g1_64w ?_ ?_); (focus ((repeat' (with_reducible apply And.intro)) <;> (first | assumption | omega | (simp only [bz, fz]; omega) | (simp (maxDischargeDepth := 8) only [bb, fz]; done)))); intro _) | (with_reducible apply call_elim; focus ((with_reducible first | apply e61) <;> (first | assumption | omega | (simp only [bz, fz]; omega) | (simp (maxDischargeDepth := 8) only [bb, fz]; done))))))
theorem e22f (d : Nat) (A B : List Ent) (tg tg' : Tg) (c c' : Option Nat) (hA : Small A) (hB : Small B) (h : (catOK A && catOK B) = false) : evFun E (d+8) 22 [.sl tg 4 A.length c (flat encE A), .sl tg' 4 B.length c' (flat encE B)] [] = some (.tup [.val (.slice none 0 0), .val (.slice none 0 0), .val (.slice none 0 0)], []) := by
  refine evFun_body b22 ?_
  cases ha : catOK A with
  | false => (repeat' (first | simp (maxDischargeDepth := 8) only [go_sem, rr, reduceIte, reduceCtorEq, Nat.reduceEqDiff, Nat.reduceAdd, Nat.reduceMul, Nat.reduceSub, Nat.reduceBEq, Nat.reduceLeDiff, Int.reduceEq, Int.reduceLT, Int.reduceLE, Int.reduceGE, Int.reduceGT, Int.reduceBEq, Int.reduceBNe, Int.reduceToNat, Int.reduceNeg, Int.reduceSub, Int.reduceAdd, Int.reduceMul, ha, Tryd.f22] | (with_reducible refine qg9 ?_ ?_; focus (first | (simp (maxDischargeDepth := 8) only [bb, kk, ha]; done) | kernel_rfl)) | ((with_reducible first | refine qf7 ?_ ?_ | refine qf8 ?_ ?_ | refine qf9 ?_ ?_ | refine qg ?_ ?_ | refine qg0 ?_ ?_ | refine qg1 ?_ ?_ | refine qg2 ?_ ?_); focus (first | assumption | omega | (simp only [bz, ha]; omega))) | ((with_reducible first | refine qg3 ?_ ?_ | refine qg4 ?_ ?_ | refine qg5 ?_ ?_); focus (first | assumption | omega | (simp only [bz, ha]; omega))) | ((with_reducible first | refine g1_u8w ?_ ?_ | refine qg7 ?_ ?_); (focus ((repeat' (with_reducible apply And.intro)) <;> (first | assumption | omega | (simp only [bz, ha]; omega) | (simp (maxDischargeDepth := 8) only [bb, ha]; done)))); intro _) | ((with_reducible refine g1_64w ?_ ?_); (focus ((repeat' (with_reducible apply And.intro)) <;> (first | assumption | omega | (simp only [bz, ha]; omega) | (simp (maxDischargeDepth := 8) only [bb, ha]; done)))); intro _) | (with_reducible apply call_elim; focus ((with_reducible first | apply e24) <;> (first | assumption | omega | (simp only [bz, ha]; omega) | (simp (maxDischargeDepth := 8) only [bb, ha]; done))))))
  | true =>
    have hb : catOK B = false := by rw [ha] at h; simpa using h
    (have fz := ga2 ha hb; repeat' (first | simp (maxDischargeDepth := 8) only [go_sem, rr, reduceIte, reduceCtorEq, Nat.reduceEqDiff, Nat.reduceAdd, Nat.reduceMul, Nat.reduceSub, Nat.reduceBEq, Nat.reduceLeDiff, Int.reduceEq, Int.reduceLT, Int.reduceLE, Int.reduceGE, Int.reduceGT, Int.reduceBEq, Int.reduceBNe, Int.reduceToNat, Int.reduceNeg, Int.reduceSub, Int.reduceAdd, Int.reduceMul, fz, Tryd.f22] | (with_reducible refine qg9 ?_ ?_; focus (first | (simp (maxDischargeDepth := 8) only [bb, kk, fz]; done) | kernel_rfl)) | ((with_reducible first | refine qf7 ?_ ?_ | refine qf8 ?_ ?_ | refine qf9 ?_ ?_ | refine qg ?_ ?_ | refine qg0 ?_ ?_ | refine qg1 ?_ ?_ | refine qg2 ?_ ?_); focus (first | assumption | omega | (simp only [bz, fz]; omega))) | ((with_reducible first | refine qg3 ?_ ?_ | refine qg4 ?_ ?_ | refine qg5 ?_ ?_); focus (first | assumption | omega | (simp only [bz, fz]; omega))) | ((with_reducible first | refine g1_u8w ?_ ?_ | refine qg7 ?_ ?_); (focus ((repeat' (with_reducible apply And.intro)) <;> (first | assumption | omega | (simp only [bz, fz]; omega) | (simp (maxDischargeDepth := 8) only [bb, fz]; done)))); intro _) | ((with_reducible refine g1_64w ?_ ?_); (focus ((repeat' (with_reducible apply And.intro)) <;> (first | assumption | omega | (simp only [bz, fz]; omega) | (simp (maxDischargeDepth := 8) only [bb, fz]; done)))); intro _) | (with_reducible apply call_elim; focus ((with_reducible first | apply e24) <;> (first | assumption | omega | (simp only [bz, fz]; omega) | (simp (maxDischargeDepth := 8) only [bb, fz]; done))))))
end Go.Proofs.YtgdldmfkgijkaaaDoor.VH.S
end

section
namespace Go.Proofs.YtgdldmfkgijkaaaDoor.VH.S
open Go.Proofs
set_option maxRecDepth 100000
set_option maxHeartbeats 8000000
set_option linter.unusedSimpArgs false

/- What two catalogs differ in: plain laws. -/
def comN (L M : List Ent) : List (List UInt8) := (L.filter fun e => hasE M e.nm).map Ent.nm
theorem com_mem {L M : List Ent} (hL : Sorted L) (x : List UInt8) (h : x ∈ comN L M) : x ∈ comN M L := by
  simp only [comN, List.mem_map, List.mem_filter] at h ⊢
  obtain ⟨e, ⟨he, h1⟩, rfl⟩ := h
  obtain ⟨g1, g2, g3⟩ := has_get h1
  obtain ⟨f1, f2⟩ := has_mem hL he
  exact ⟨eA M (lb M e.nm), ⟨g1, by rw [g2]; exact f1⟩, g2⟩
theorem com_comm {L M : List Ent} (hL : Sorted L) (hM : Sorted M) : comN L M = comN M L :=
  sorted_ext _ _ (pw_names hL _) (pw_names hM _) fun x => ⟨com_mem hL x, com_mem hM x⟩
theorem com_len (L M : List Ent) : (comN L M).length + (lackN L M).length = L.length := by
  simp only [comN, lackN, List.length_map]
  induction L with
  | nil => rfl
  | cons e l ih =>
    simp only [List.filter_cons, List.length_cons]
    cases hasE M e.nm <;> simp only [Bool.not_false, Bool.not_true, if_true, if_false, Bool.false_eq_true, List.length_cons] <;> omega
theorem diff_len {A B : List Ent} (hA : Sorted A) (hB : Sorted B) : A.length + (lackN B A).length = B.length + (lackN A B).length := by
  have h1 := com_len A B
  have h2 := com_len B A
  rw [com_comm hB hA] at h2
  omega
theorem tA_mem {l : List (List UInt8)} {i : Nat} (h : i < l.length) : tA l i ∈ l := by rw [tA_get h]; exact List.getElem_mem _
theorem lack_has {L M : List Ent} (hL : Sorted L) {i : Nat} (h : i < (lackN L M).length) : hasE M (tA (lackN L M) i) = false ∧ hasE L (tA (lackN L M) i) = true := by
  have hm := tA_mem h
  generalize tA (lackN L M) i = t at hm ⊢
  simp only [lackN, List.mem_map, List.mem_filter, Bool.not_eq_true'] at hm
  obtain ⟨e, ⟨he, h1⟩, h2⟩ := hm
  subst h2
  exact ⟨h1, (has_mem hL he).1⟩
theorem chg_has {L M : List Ent} (hL : Sorted L) {i : Nat} (h : i < (chgN L M).length) : hasE L (tA (chgN L M) i) = true ∧ hasE M (tA (chgN L M) i) = true ∧ decide (eA L (lb L (tA (chgN L M) i)) = eA M (lb M (tA (chgN L M) i))) = false := by
  have hm := tA_mem h
  generalize tA (chgN L M) i = t at hm ⊢
  simp only [chgN, List.mem_map, List.mem_filter, Bool.and_eq_true, Bool.not_eq_true', decide_eq_false_iff_not] at hm
  obtain ⟨e, ⟨he, h1, h2⟩, h3⟩ := hm
  subst h3
  obtain ⟨f1, f2⟩ := has_mem hL he
  refine ⟨f1, h1, decide_eq_false ?_⟩
  rw [f2]; exact fun hh => h2 hh.symm
theorem hasE_nil (t : List UInt8) : hasE [] t = false := by simp [hasE]
theorem lack_nilR (L : List Ent) : lackN L [] = nmsE L := by
  simp only [lackN, nmsE, hasE_nil, Bool.not_false]
  rw [List.filter_eq_self.mpr fun _ _ => rfl]
end Go.Proofs.YtgdldmfkgijkaaaDoor.VH.S
end

section
namespace Go.Proofs.YtgdldmfkgijkaaaDoor.VH.S
open Go.Proofs
set_option maxRecDepth 100000
set_option maxHeartbeats 8000000
set_option linter.unusedSimpArgs false

theorem e56 (d : Nat) (tg : Tg) (c : Option Nat) (L : List Ent) (hl : L.length ≤ 549755813888) : evFun E (d+1) 56 [.sl tg 4 L.length c (flat encE L)] [] = some (.ref 0 [] 4 0 L.length (capK (some 0) L.length), [some (flat encE L)]) := by
  refine evFun_body b56 ?_
  have hs := noSnapL_encE L
  have hsl := anySl_encE L
  (have fz := ga2 hs hsl; repeat' (first | simp (maxDischargeDepth := 8) only [go_sem, rr, reduceIte, reduceCtorEq, Nat.reduceEqDiff, Nat.reduceAdd, Nat.reduceMul, Nat.reduceSub, Nat.reduceBEq, Nat.reduceLeDiff, Int.reduceEq, Int.reduceLT, Int.reduceLE, Int.reduceGE, Int.reduceGT, Int.reduceBEq, Int.reduceBNe, Int.reduceToNat, Int.reduceNeg, Int.reduceSub, Int.reduceAdd, Int.reduceMul, fz, Tryd.f56] | (with_reducible refine qg9 ?_ ?_; focus (first | (simp (maxDischargeDepth := 8) only [bb, kk, fz]; done) | kernel_rfl)) | ((with_reducible first | refine qf7 ?_ ?_ | refine qf8 ?_ ?_ | refine qf9 ?_ ?_ | refine qg ?_ ?_ | refine qg0 ?_ ?_ | refine qg1 ?_ ?_ | refine qg2 ?_ ?_); focus (first | assumption | omega | (simp only [bz, fz]; omega))) | ((with_reducible first | refine qg3 ?_ ?_ | refine qg4 ?_ ?_ | refine qg5 ?_ ?_); focus (first | assumption | omega | (simp only [bz, fz]; omega))) | ((with_reducible first | refine g1_u8w ?_ ?_ | refine qg7 ?_ ?_); (focus ((repeat' (with_reducible apply And.intro)) <;> (first | assumption | omega | (simp only [bz, fz]; omega) | (simp (maxDischargeDepth := 8) only [bb, fz]; done)))); intro _) | ((with_reducible refine g1_64w ?_ ?_); (focus ((repeat' (with_reducible apply And.intro)) <;> (first | assumption | omega | (simp only [bz, fz]; omega) | (simp (maxDischargeDepth := 8) only [bb, fz]; done)))); intro _)))
/-- a catalog without the entry at a place -/
def dropE (L : List Ent) (k : Nat) : List Ent := L.take k ++ L.drop (k + 1)
theorem dropE_len {L : List Ent} {k : Nat} (h : k < L.length) : (dropE L k).length = L.length - 1 := by simp [dropE]; omega
theorem flat_tk (L : List Ent) (k : Nat) : (flat encE L).take (k * 4) = flat encE (L.take k) := by
  induction L generalizing k with
  | nil => simp [flat]
  | cons e L ih =>
    cases k with
    | zero => simp [flat]
    | succ k =>
      rw [flat, List.take_succ_cons, flat, ← ih k, show (k + 1) * 4 = (encE e).length + k * 4 by rw [encE_len]; omega, List.take_length_add_append]
theorem flat_dr (L : List Ent) (k : Nat) : (flat encE L).drop (k * 4) = flat encE (L.drop k) := by
  induction L generalizing k with
  | nil => simp [flat]
  | cons e L ih =>
    cases k with
    | zero => simp [flat]
    | succ k =>
      rw [flat, List.drop_succ_cons, ← ih k, show (k + 1) * 4 = (encE e).length + k * 4 by rw [encE_len]; omega, List.drop_length_add_append]
theorem shift (L : List Ent) {k : Nat} (h : k < L.length) : setAt (flat encE L) (k * 4) (flat encE (L.drop (k + 1))) = flat encE (dropE L k ++ L.drop (L.length - 1)) := by
  rw [setAt_put _ _ _ (by rw [fE_len, fE_len, List.length_drop]; omega), putL, flat_tk, fE_len, List.length_drop, ← Nat.add_mul, flat_dr, ← flat_app, ← flat_app]
  rw [dropE, show k + (L.length - (k + 1)) = L.length - 1 by omega]
/-- what a drop comes to -/
def cdOK (L : List Ent) (t : List UInt8) : Bool := catOK L && hasE L t
theorem capK0_pos {n : Nat} (h : 0 < n) : capK (some 0) n = none := capK_pos h
theorem e59 (d : Nat) (L : List Ent) (t : List UInt8) (tg : Tg) (c : Option Nat) (hS : Small L) (hok : cdOK L t = true) : evFun E (d+6) 59 [.sl tg 4 L.length c (flat encE L), vs t] [] = some (.tup [.ref 0 [] 4 0 (L.length - 1) none, vb true], [some (flat encE (dropE L (lb L t) ++ L.drop (L.length - 1)))]) := by
  refine evFun_body b59 ?_
  simp only [cdOK, Bool.and_eq_true] at hok
  obtain ⟨hc, hh⟩ := hok
  have hs := sorted_of hc
  have hl := hS.1
  have h5 : L.length ≤ 5 := by simp only [catOK, Bool.and_eq_true, decide_eq_true_eq] at hc; exact hc.2
  have hlt : lb L t < L.length := by simp only [hasE, Bool.and_eq_true, decide_eq_true_eq] at hh; exact hh.1
  obtain ⟨hfi, hft⟩ := (fi_has hs t).1 hh
  rw [hfi] at hft
  have hlen := fE_len L
  have hk := capK0_pos (show 0 < L.length by omega)
  have hcp := fun d tg c => e56 d tg c L hl
  rw [hk] at hcp
  have t1 : ((lb L t : Int) + 1).toNat = lb L t + 1 := by omega
  have t2 : ((L.length : Int) - (lb L t + 1)).toNat = L.length - (lb L t + 1) := by omega
  have t3 : lb L t + (L.length - (lb L t + 1)) = L.length - 1 := by omega
  have hd := flat_dr L (lb L t + 1)
  have htk : (flat encE (L.drop (lb L t + 1))).take ((L.length - (lb L t + 1)) * 4) = flat encE (L.drop (lb L t + 1)) := List.take_of_length_le (by rw [fE_len, List.length_drop]; exact Nat.le_refl _)
  have hlx : (flat encE (L.drop (lb L t + 1))).length = (L.length - (lb L t + 1)) * 4 := by rw [fE_len, List.length_drop]
  have hown := anyOwn_encE (L.drop (lb L t + 1))
  have hsl := anySl_encE (L.drop (lb L t + 1))
  have hsn := noSnapL_encE (dropE L (lb L t) ++ L.drop (L.length - 1))
  have hsh := shift L hlt
  by_cases hm : L.length - (lb L t + 1) = 0
  · have hnil : L.drop (lb L t + 1) = [] := List.drop_of_length_le (by omega)
    have hrow : flat encE (dropE L (lb L t) ++ L.drop (L.length - 1)) = flat encE L := by
      rw [dropE, hnil, List.append_nil, show lb L t = L.length - 1 by omega, List.take_append_drop]
    have hk1 : L.length - 1 = lb L t := by omega
    have hsn2 := noSnapL_encE L
    rw [hrow, hk1]
    rw [hm] at htk
    (have fz := ga12 hc hcp hlen hown hsl hfi t1 t2 hm hd hnil hsn2; repeat' (first | simp (maxDischargeDepth := 8) only [go_sem, rr, reduceIte, reduceCtorEq, Nat.reduceEqDiff, Nat.reduceAdd, Nat.reduceMul, Nat.reduceSub, Nat.reduceBEq, Nat.reduceLeDiff, Int.reduceEq, Int.reduceLT, Int.reduceLE, Int.reduceGE, Int.reduceGT, Int.reduceBEq, Int.reduceBNe, Int.reduceToNat, Int.reduceNeg, Int.reduceSub, Int.reduceAdd, Int.reduceMul, fz, flat, if_pos hlt, Nat.sub_zero, Tryd.f59] | (with_reducible refine qg9 ?_ ?_; focus (first | (simp (maxDischargeDepth := 8) only [bb, kk, fz, flat, if_pos hlt, Nat.sub_zero]; done) | kernel_rfl)) | ((with_reducible first | refine qf7 ?_ ?_ | refine qf8 ?_ ?_ | refine qf9 ?_ ?_ | refine qg ?_ ?_ | refine qg0 ?_ ?_ | refine qg1 ?_ ?_ | refine qg2 ?_ ?_); focus (first | assumption | omega | (simp only [bz, fz, flat, if_pos hlt, Nat.sub_zero]; omega))) | ((with_reducible first | refine qg3 ?_ ?_ | refine qg4 ?_ ?_ | refine qg5 ?_ ?_); focus (first | assumption | omega | (simp only [bz, fz, flat, if_pos hlt, Nat.sub_zero]; omega))) | ((with_reducible first | refine g1_u8w ?_ ?_ | refine qg7 ?_ ?_); (focus ((repeat' (with_reducible apply And.intro)) <;> (first | assumption | omega | (simp only [bz, fz, flat, if_pos hlt, Nat.sub_zero]; omega) | (simp (maxDischargeDepth := 8) only [bb, fz, flat, if_pos hlt, Nat.sub_zero]; done)))); intro _) | ((with_reducible refine g1_64w ?_ ?_); (focus ((repeat' (with_reducible apply And.intro)) <;> (first | assumption | omega | (simp only [bz, fz, flat, if_pos hlt, Nat.sub_zero]; omega) | (simp (maxDischargeDepth := 8) only [bb, fz, flat, if_pos hlt, Nat.sub_zero]; done)))); intro _) | (with_reducible apply call_elim; focus ((with_reducible first | apply e82 | apply e23) <;> (first | assumption | omega | (simp only [bz, fz, flat, if_pos hlt, Nat.sub_zero]; omega) | (simp (maxDischargeDepth := 8) only [bb, fz, flat, if_pos hlt, Nat.sub_zero]; done))))))
  · (have fz := ga14 hc hcp hlen hown hsl hfi t1 t2 t3 hd htk hlx hsh hsn; repeat' (first | simp (maxDischargeDepth := 8) only [go_sem, rr, reduceIte, reduceCtorEq, Nat.reduceEqDiff, Nat.reduceAdd, Nat.reduceMul, Nat.reduceSub, Nat.reduceBEq, Nat.reduceLeDiff, Int.reduceEq, Int.reduceLT, Int.reduceLE, Int.reduceGE, Int.reduceGT, Int.reduceBEq, Int.reduceBNe, Int.reduceToNat, Int.reduceNeg, Int.reduceSub, Int.reduceAdd, Int.reduceMul, fz, if_pos hlt, Nat.sub_zero, Tryd.f59] | (with_reducible refine qg9 ?_ ?_; focus (first | (simp (maxDischargeDepth := 8) only [bb, kk, fz, if_pos hlt, Nat.sub_zero]; done) | kernel_rfl)) | ((with_reducible first | refine qf7 ?_ ?_ | refine qf8 ?_ ?_ | refine qf9 ?_ ?_ | refine qg ?_ ?_ | refine qg0 ?_ ?_ | refine qg1 ?_ ?_ | refine qg2 ?_ ?_); focus (first | assumption | omega | (simp only [bz, fz, if_pos hlt, Nat.sub_zero]; omega))) | ((with_reducible first | refine qg3 ?_ ?_ | refine qg4 ?_ ?_ | refine qg5 ?_ ?_); focus (first | assumption | omega | (simp only [bz, fz, if_pos hlt, Nat.sub_zero]; omega))) | ((with_reducible first | refine g1_u8w ?_ ?_ | refine qg7 ?_ ?_); (focus ((repeat' (with_reducible apply And.intro)) <;> (first | assumption | omega | (simp only [bz, fz, if_pos hlt, Nat.sub_zero]; omega) | (simp (maxDischargeDepth := 8) only [bb, fz, if_pos hlt, Nat.sub_zero]; done)))); intro _) | ((with_reducible refine g1_64w ?_ ?_); (focus ((repeat' (with_reducible apply And.intro)) <;> (first | assumption | omega | (simp only [bz, fz, if_pos hlt, Nat.sub_zero]; omega) | (simp (maxDischargeDepth := 8) only [bb, fz, if_pos hlt, Nat.sub_zero]; done)))); intro _) | (with_reducible apply call_elim; focus ((with_reducible first | apply e82 | apply e23) <;> (first | assumption | omega | (simp only [bz, fz, if_pos hlt, Nat.sub_zero]; omega) | (simp (maxDischargeDepth := 8) only [bb, fz, if_pos hlt, Nat.sub_zero]; done))))))
theorem e59f (d : Nat) (L : List Ent) (t : List UInt8) (tg : Tg) (c : Option Nat) (hS : Small L) (hok : cdOK L t = false) : evFun E (d+6) 59 [.sl tg 4 L.length c (flat encE L), vs t] [] = some (.tup [.ref 0 [] 4 0 L.length (capK (some 0) L.length), vb false], [some (flat encE L)]) := by
  refine evFun_body b59 ?_
  have hl := hS.1
  have hsn := noSnapL_encE L
  have hcp := fun d tg c => e56 d tg c L hl
  generalize capK (some 0) L.length = cq at hcp
  cases hc : catOK L with
  | false =>
    by_cases hlt : fi L t < L.length
    · (have fz := ga3 hc hcp hsn; repeat' (first | simp (maxDischargeDepth := 8) only [go_sem, rr, reduceIte, reduceCtorEq, Nat.reduceEqDiff, Nat.reduceAdd, Nat.reduceMul, Nat.reduceSub, Nat.reduceBEq, Nat.reduceLeDiff, Int.reduceEq, Int.reduceLT, Int.reduceLE, Int.reduceGE, Int.reduceGT, Int.reduceBEq, Int.reduceBNe, Int.reduceToNat, Int.reduceNeg, Int.reduceSub, Int.reduceAdd, Int.reduceMul, fz, if_pos hlt, Tryd.f59] | (with_reducible refine qg9 ?_ ?_; focus (first | (simp (maxDischargeDepth := 8) only [bb, kk, fz, if_pos hlt]; done) | kernel_rfl)) | ((with_reducible first | refine qf7 ?_ ?_ | refine qf8 ?_ ?_ | refine qf9 ?_ ?_ | refine qg ?_ ?_ | refine qg0 ?_ ?_ | refine qg1 ?_ ?_ | refine qg2 ?_ ?_); focus (first | assumption | omega | (simp only [bz, fz, if_pos hlt]; omega))) | ((with_reducible first | refine qg3 ?_ ?_ | refine qg4 ?_ ?_ | refine qg5 ?_ ?_); focus (first | assumption | omega | (simp only [bz, fz, if_pos hlt]; omega))) | ((with_reducible first | refine g1_u8w ?_ ?_ | refine qg7 ?_ ?_); (focus ((repeat' (with_reducible apply And.intro)) <;> (first | assumption | omega | (simp only [bz, fz, if_pos hlt]; omega) | (simp (maxDischargeDepth := 8) only [bb, fz, if_pos hlt]; done)))); intro _) | ((with_reducible refine g1_64w ?_ ?_); (focus ((repeat' (with_reducible apply And.intro)) <;> (first | assumption | omega | (simp only [bz, fz, if_pos hlt]; omega) | (simp (maxDischargeDepth := 8) only [bb, fz, if_pos hlt]; done)))); intro _) | (with_reducible apply call_elim; focus ((with_reducible first | apply e82 | apply e23) <;> (first | assumption | omega | (simp only [bz, fz, if_pos hlt]; omega) | (simp (maxDischargeDepth := 8) only [bb, fz, if_pos hlt]; done))))))
    · (have fz := ga3 hc hcp hsn; repeat' (first | simp (maxDischargeDepth := 8) only [go_sem, rr, reduceIte, reduceCtorEq, Nat.reduceEqDiff, Nat.reduceAdd, Nat.reduceMul, Nat.reduceSub, Nat.reduceBEq, Nat.reduceLeDiff, Int.reduceEq, Int.reduceLT, Int.reduceLE, Int.reduceGE, Int.reduceGT, Int.reduceBEq, Int.reduceBNe, Int.reduceToNat, Int.reduceNeg, Int.reduceSub, Int.reduceAdd, Int.reduceMul, fz, if_neg hlt, Tryd.f59] | (with_reducible refine qg9 ?_ ?_; focus (first | (simp (maxDischargeDepth := 8) only [bb, kk, fz, if_neg hlt]; done) | kernel_rfl)) | ((with_reducible first | refine qf7 ?_ ?_ | refine qf8 ?_ ?_ | refine qf9 ?_ ?_ | refine qg ?_ ?_ | refine qg0 ?_ ?_ | refine qg1 ?_ ?_ | refine qg2 ?_ ?_); focus (first | assumption | omega | (simp only [bz, fz, if_neg hlt]; omega))) | ((with_reducible first | refine qg3 ?_ ?_ | refine qg4 ?_ ?_ | refine qg5 ?_ ?_); focus (first | assumption | omega | (simp only [bz, fz, if_neg hlt]; omega))) | ((with_reducible first | refine g1_u8w ?_ ?_ | refine qg7 ?_ ?_); (focus ((repeat' (with_reducible apply And.intro)) <;> (first | assumption | omega | (simp only [bz, fz, if_neg hlt]; omega) | (simp (maxDischargeDepth := 8) only [bb, fz, if_neg hlt]; done)))); intro _) | ((with_reducible refine g1_64w ?_ ?_); (focus ((repeat' (with_reducible apply And.intro)) <;> (first | assumption | omega | (simp only [bz, fz, if_neg hlt]; omega) | (simp (maxDischargeDepth := 8) only [bb, fz, if_neg hlt]; done)))); intro _) | (with_reducible apply call_elim; focus ((with_reducible first | apply e82 | apply e23) <;> (first | assumption | omega | (simp only [bz, fz, if_neg hlt]; omega) | (simp (maxDischargeDepth := 8) only [bb, fz, if_neg hlt]; done))))))
  | true =>
    have hs := sorted_of hc
    have hh : hasE L t = false := by simpa [cdOK, hc] using hok
    have hfn := (fi_has hs t).2 hh
    have hlt : ¬ fi L t < L.length := by omega
    (have fz := ga3 hc hcp hsn; repeat' (first | simp (maxDischargeDepth := 8) only [go_sem, rr, reduceIte, reduceCtorEq, Nat.reduceEqDiff, Nat.reduceAdd, Nat.reduceMul, Nat.reduceSub, Nat.reduceBEq, Nat.reduceLeDiff, Int.reduceEq, Int.reduceLT, Int.reduceLE, Int.reduceGE, Int.reduceGT, Int.reduceBEq, Int.reduceBNe, Int.reduceToNat, Int.reduceNeg, Int.reduceSub, Int.reduceAdd, Int.reduceMul, fz, if_neg hlt, Tryd.f59] | (with_reducible refine qg9 ?_ ?_; focus (first | (simp (maxDischargeDepth := 8) only [bb, kk, fz, if_neg hlt]; done) | kernel_rfl)) | ((with_reducible first | refine qf7 ?_ ?_ | refine qf8 ?_ ?_ | refine qf9 ?_ ?_ | refine qg ?_ ?_ | refine qg0 ?_ ?_ | refine qg1 ?_ ?_ | refine qg2 ?_ ?_); focus (first | assumption | omega | (simp only [bz, fz, if_neg hlt]; omega))) | ((with_reducible first | refine qg3 ?_ ?_ | refine qg4 ?_ ?_ | refine qg5 ?_ ?_); focus (first | assumption | omega | (simp only [bz, fz, if_neg hlt]; omega))) | ((with_reducible first | refine g1_u8w ?_ ?_ | refine qg7 ?_ ?_); (focus ((repeat' (with_reducible apply And.intro)) <;> (first | assumption | omega | (simp only [bz, fz, if_neg hlt]; omega) | (simp (maxDischargeDepth := 8) only [bb, fz, if_neg hlt]; done)))); intro _) | ((with_reducible refine g1_64w ?_ ?_); (focus ((repeat' (with_reducible apply And.intro)) <;> (first | assumption | omega | (simp only [bz, fz, if_neg hlt]; omega) | (simp (maxDischargeDepth := 8) only [bb, fz, if_neg hlt]; done)))); intro _) | (with_reducible apply call_elim; focus ((with_reducible first | apply e82 | apply e23) <;> (first | assumption | omega | (simp only [bz, fz, if_neg hlt]; omega) | (simp (maxDischargeDepth := 8) only [bb, fz, if_neg hlt]; done))))))
end Go.Proofs.YtgdldmfkgijkaaaDoor.VH.S
end

section
namespace Go.Proofs.YtgdldmfkgijkaaaDoor.VH.S
open Go.Proofs
set_option maxRecDepth 100000
set_option maxHeartbeats 8000000
set_option linter.unusedSimpArgs false

end Go.Proofs.YtgdldmfkgijkaaaDoor.VH.S
end

section
namespace Go.Proofs.YtgdldmfkgijkaaaDoor.VH.S
open Go.Proofs
set_option maxRecDepth 100000
set_option maxHeartbeats 8000000
set_option linter.unusedSimpArgs false

def insE (L : List Ent) (k : Nat) (e : Ent) : List Ent := L.take k ++ [e] ++ L.drop k
theorem insE_len {L : List Ent} {k : Nat} (h : k ≤ L.length) (e : Ent) : (insE L k e).length = L.length + 1 := by simp [insE]; omega
theorem fE_setE (L : List Ent) {k : Nat} (h : k < L.length) (e : Ent) : setAt (flat encE L) (k * 4) (encE e) = flat encE (L.set k e) := by
  rw [setAt_put _ _ _ (by rw [fE_len, encE_len]; omega), putL, flat_tk, encE_len, show k * 4 + 4 = (k + 1) * 4 by omega, flat_dr, List.set_eq_take_append_cons_drop, if_pos h, flat_app]
  simp [flat]
def cpOK (L : List Ent) (e : Ent) : Bool := catOK L && entOK e
def cpL (L : List Ent) (e : Ent) : List Ent := if cpOK L e then (if hasE L e.nm then L.set (lb L e.nm) e else if L.length = 5 then L else insE L (lb L e.nm) e) else L
def cpB (L : List Ent) (e : Ent) : Bool := cpOK L e && (hasE L e.nm || decide (L.length ≠ 5))
def cpC (L : List Ent) (e : Ent) : Option Nat := if cpOK L e && !hasE L e.nm && decide (L.length ≠ 5) then none else capK (some 0) L.length
theorem e57 (d : Nat) (L : List Ent) (e : Ent) (tg : Tg) (c : Option Nat) (hS : Small L) (he : e.nm.length ≤ 549755813888) : evFun E (d+6) 57 [.sl tg 4 L.length c (flat encE L), .agg [vs e.nm, vi e.v, vi e.s, vi e.r]] [] = some (.tup [.ref 0 [] 4 0 (cpL L e).length (cpC L e), vb (cpB L e)], [some (flat encE (cpL L e))]) := by
  refine evFun_body b57 ?_
  have hl := hS.1
  have hlen := fE_len L
  have hown := anyOwn_encE L
  have hsn := noSnapL_encE L
  have hle := lb_le L e.nm
  have hfl := fi_le L e.nm
  have hcp := fun d tg c => e56 d tg c L hl
  cases hc : catOK L with
  | false =>
    have e1 : cpL L e = L := by simp [cpL, cpOK, hc]
    have e2 : cpB L e = false := by simp [cpB, cpOK, hc]
    have e3 : cpC L e = capK (some 0) L.length := by simp [cpC, cpOK, hc]
    rw [e1, e2, e3]
    generalize capK (some 0) L.length = cq at hcp
    (have fz := ga4 hc hlen hcp hsn; repeat' (first | simp (maxDischargeDepth := 8) only [go_sem, rr, reduceIte, reduceCtorEq, Nat.reduceEqDiff, Nat.reduceAdd, Nat.reduceMul, Nat.reduceSub, Nat.reduceBEq, Nat.reduceLeDiff, Int.reduceEq, Int.reduceLT, Int.reduceLE, Int.reduceGE, Int.reduceGT, Int.reduceBEq, Int.reduceBNe, Int.reduceToNat, Int.reduceNeg, Int.reduceSub, Int.reduceAdd, Int.reduceMul, fz, Tryd.f57] | (with_reducible refine qg9 ?_ ?_; focus (first | (simp (maxDischargeDepth := 8) only [bb, kk, fz]; done) | kernel_rfl)) | ((with_reducible first | refine qf7 ?_ ?_ | refine qf8 ?_ ?_ | refine qf9 ?_ ?_ | refine qg ?_ ?_ | refine qg0 ?_ ?_ | refine qg1 ?_ ?_ | refine qg2 ?_ ?_); focus (first | assumption | omega | (simp only [bz, fz]; omega))) | ((with_reducible first | refine qg3 ?_ ?_ | refine qg4 ?_ ?_ | refine qg5 ?_ ?_); focus (first | assumption | omega | (simp only [bz, fz]; omega))) | ((with_reducible first | refine g1_u8w ?_ ?_ | refine qg7 ?_ ?_); (focus ((repeat' (with_reducible apply And.intro)) <;> (first | assumption | omega | (simp only [bz, fz]; omega) | (simp (maxDischargeDepth := 8) only [bb, fz]; done)))); intro _) | (with_reducible apply call_elim; focus ((with_reducible first | apply e23) <;> (first | assumption | omega | (simp only [bz, fz]; omega) | (simp (maxDischargeDepth := 8) only [bb, fz]; done))))))
  | true =>
    have hs := sorted_of hc
    have h5 : L.length ≤ 5 := by simp only [catOK, Bool.and_eq_true, decide_eq_true_eq] at hc; exact hc.2
    cases hk : entOK e with
    | false =>
      have e1 : cpL L e = L := by simp [cpL, cpOK, hk]
      have e2 : cpB L e = false := by simp [cpB, cpOK, hk]
      have e3 : cpC L e = capK (some 0) L.length := by simp [cpC, cpOK, hk]
      rw [e1, e2, e3]
      generalize capK (some 0) L.length = cq at hcp
      (have fz := ga5 hc hk hlen hcp hsn; repeat' (first | simp (maxDischargeDepth := 8) only [go_sem, rr, reduceIte, reduceCtorEq, Nat.reduceEqDiff, Nat.reduceAdd, Nat.reduceMul, Nat.reduceSub, Nat.reduceBEq, Nat.reduceLeDiff, Int.reduceEq, Int.reduceLT, Int.reduceLE, Int.reduceGE, Int.reduceGT, Int.reduceBEq, Int.reduceBNe, Int.reduceToNat, Int.reduceNeg, Int.reduceSub, Int.reduceAdd, Int.reduceMul, fz, Tryd.f57] | (with_reducible refine qg9 ?_ ?_; focus (first | (simp (maxDischargeDepth := 8) only [bb, kk, fz]; done) | kernel_rfl)) | ((with_reducible first | refine qf7 ?_ ?_ | refine qf8 ?_ ?_ | refine qf9 ?_ ?_ | refine qg ?_ ?_ | refine qg0 ?_ ?_ | refine qg1 ?_ ?_ | refine qg2 ?_ ?_); focus (first | assumption | omega | (simp only [bz, fz]; omega))) | ((with_reducible first | refine qg3 ?_ ?_ | refine qg4 ?_ ?_ | refine qg5 ?_ ?_); focus (first | assumption | omega | (simp only [bz, fz]; omega))) | ((with_reducible first | refine g1_u8w ?_ ?_ | refine qg7 ?_ ?_); (focus ((repeat' (with_reducible apply And.intro)) <;> (first | assumption | omega | (simp only [bz, fz]; omega) | (simp (maxDischargeDepth := 8) only [bb, fz]; done)))); intro _) | (with_reducible apply call_elim; focus ((with_reducible first | apply e23 | apply e62) <;> (first | assumption | omega | (simp only [bz, fz]; omega) | (simp (maxDischargeDepth := 8) only [bb, fz]; done))))))
    | true =>
      cases hh : hasE L e.nm with
      | true =>
        have hlt : lb L e.nm < L.length := by simp only [hasE, Bool.and_eq_true, decide_eq_true_eq] at hh; exact hh.1
        obtain ⟨hfi, hft⟩ := (fi_has hs e.nm).1 hh
        have e1 : cpL L e = L.set (lb L e.nm) e := by simp [cpL, cpOK, hc, hk, hh]
        have e2 : cpB L e = true := by simp [cpB, cpOK, hc, hk, hh]
        have e3 : cpC L e = capK (some 0) L.length := by simp [cpC, hh]
        have hst := fE_setE L hlt e
        have hsn2 := noSnapL_encE (L.set (lb L e.nm) e)
        have hls : (L.set (lb L e.nm) e).length = L.length := List.length_set
        simp only [encE] at hst
        rw [e1, e2, e3]
        generalize capK (some 0) L.length = cq at hcp
        (have fz := ga9 hc hk hlen hcp hsn hst hsn2 hls hfi; repeat' (first | simp (maxDischargeDepth := 8) only [go_sem, rr, reduceIte, reduceCtorEq, Nat.reduceEqDiff, Nat.reduceAdd, Nat.reduceMul, Nat.reduceSub, Nat.reduceBEq, Nat.reduceLeDiff, Int.reduceEq, Int.reduceLT, Int.reduceLE, Int.reduceGE, Int.reduceGT, Int.reduceBEq, Int.reduceBNe, Int.reduceToNat, Int.reduceNeg, Int.reduceSub, Int.reduceAdd, Int.reduceMul, fz, if_pos hlt, Tryd.f57] | (with_reducible refine qg9 ?_ ?_; focus (first | (simp (maxDischargeDepth := 8) only [bb, kk, fz, if_pos hlt]; done) | kernel_rfl)) | ((with_reducible first | refine qf7 ?_ ?_ | refine qf8 ?_ ?_ | refine qf9 ?_ ?_ | refine qg ?_ ?_ | refine qg0 ?_ ?_ | refine qg1 ?_ ?_ | refine qg2 ?_ ?_); focus (first | assumption | omega | (simp only [bz, fz, if_pos hlt]; omega))) | ((with_reducible first | refine qg3 ?_ ?_ | refine qg4 ?_ ?_ | refine qg5 ?_ ?_); focus (first | assumption | omega | (simp only [bz, fz, if_pos hlt]; omega))) | ((with_reducible first | refine g1_u8w ?_ ?_ | refine qg7 ?_ ?_); (focus ((repeat' (with_reducible apply And.intro)) <;> (first | assumption | omega | (simp only [bz, fz, if_pos hlt]; omega) | (simp (maxDischargeDepth := 8) only [bb, fz, if_pos hlt]; done)))); intro _) | (with_reducible apply call_elim; focus ((with_reducible first | apply e23 | apply e62 | apply e82) <;> (first | assumption | omega | (simp only [bz, fz, if_pos hlt]; omega) | (simp (maxDischargeDepth := 8) only [bb, fz, if_pos hlt]; done))))))
      | false =>
        have hfn := (fi_has hs e.nm).2 hh
        have hlt : ¬ fi L e.nm < L.length := by omega
        by_cases hn : L.length = 5
        · have e1 : cpL L e = L := by simp [cpL, cpOK, hc, hk, hh, hn]
          have e2 : cpB L e = false := by simp [cpB, cpOK, hc, hk, hh, hn]
          have e3 : cpC L e = capK (some 0) L.length := by simp [cpC, hn]
          rw [e1, e2, e3]
          generalize capK (some 0) L.length = cq at hcp
          (have fz := ga5 hc hk hlen hcp hsn; repeat' (first | simp (maxDischargeDepth := 8) only [go_sem, rr, reduceIte, reduceCtorEq, Nat.reduceEqDiff, Nat.reduceAdd, Nat.reduceMul, Nat.reduceSub, Nat.reduceBEq, Nat.reduceLeDiff, Int.reduceEq, Int.reduceLT, Int.reduceLE, Int.reduceGE, Int.reduceGT, Int.reduceBEq, Int.reduceBNe, Int.reduceToNat, Int.reduceNeg, Int.reduceSub, Int.reduceAdd, Int.reduceMul, fz, if_neg hlt, Tryd.f57] | (with_reducible refine qg9 ?_ ?_; focus (first | (simp (maxDischargeDepth := 8) only [bb, kk, fz, if_neg hlt]; done) | kernel_rfl)) | ((with_reducible first | refine qf7 ?_ ?_ | refine qf8 ?_ ?_ | refine qf9 ?_ ?_ | refine qg ?_ ?_ | refine qg0 ?_ ?_ | refine qg1 ?_ ?_ | refine qg2 ?_ ?_); focus (first | assumption | omega | (simp only [bz, fz, if_neg hlt]; omega))) | ((with_reducible first | refine qg3 ?_ ?_ | refine qg4 ?_ ?_ | refine qg5 ?_ ?_); focus (first | assumption | omega | (simp only [bz, fz, if_neg hlt]; omega))) | ((with_reducible first | refine g1_u8w ?_ ?_ | refine qg7 ?_ ?_); (focus ((repeat' (with_reducible apply And.intro)) <;> (first | assumption | omega | (simp only [bz, fz, if_neg hlt]; omega) | (simp (maxDischargeDepth := 8) only [bb, fz, if_neg hlt]; done)))); intro _) | (with_reducible apply call_elim; focus ((with_reducible first | apply e23 | apply e62 | apply e82) <;> (first | assumption | omega | (simp only [bz, fz, if_neg hlt]; omega) | (simp (maxDischargeDepth := 8) only [bb, fz, if_neg hlt]; done))))))
        · have e1 : cpL L e = insE L (lb L e.nm) e := by simp [cpL, cpOK, hc, hk, hh, hn]
          have e2 : cpB L e = true := by simp [cpB, cpOK, hc, hk, hh, hn]
          have e3 : cpC L e = none := by simp [cpC, cpOK, hc, hk, hh, hn]
          have hsn2 := noSnapL_encE (insE L (lb L e.nm) e)
          have hil := insE_len hle e
          rw [e1, e2, e3]
          generalize capK (some 0) L.length = cq at hcp
          (have fz := ga5 hc hk hlen hcp hsn; repeat' (first | simp (maxDischargeDepth := 8) only [go_sem, rr, reduceIte, reduceCtorEq, Nat.reduceEqDiff, Nat.reduceAdd, Nat.reduceMul, Nat.reduceSub, Nat.reduceBEq, Nat.reduceLeDiff, Int.reduceEq, Int.reduceLT, Int.reduceLE, Int.reduceGE, Int.reduceGT, Int.reduceBEq, Int.reduceBNe, Int.reduceToNat, Int.reduceNeg, Int.reduceSub, Int.reduceAdd, Int.reduceMul, fz, if_neg hlt, Tryd.f57] | (with_reducible refine qg9 ?_ ?_; focus (first | (simp (maxDischargeDepth := 8) only [bb, kk, fz, if_neg hlt]; done) | kernel_rfl)) | ((with_reducible first | refine qf7 ?_ ?_ | refine qf8 ?_ ?_ | refine qf9 ?_ ?_ | refine qg ?_ ?_ | refine qg0 ?_ ?_ | refine qg1 ?_ ?_ | refine qg2 ?_ ?_); focus (first | assumption | omega | (simp only [bz, fz, if_neg hlt]; omega))) | ((with_reducible first | refine qg3 ?_ ?_ | refine qg4 ?_ ?_ | refine qg5 ?_ ?_); focus (first | assumption | omega | (simp only [bz, fz, if_neg hlt]; omega))) | ((with_reducible first | refine g1_u8w ?_ ?_ | refine qg7 ?_ ?_); (focus ((repeat' (with_reducible apply And.intro)) <;> (first | assumption | omega | (simp only [bz, fz, if_neg hlt]; omega) | (simp (maxDischargeDepth := 8) only [bb, fz, if_neg hlt]; done)))); intro _) | (with_reducible apply call_elim; focus ((with_reducible first | apply e23 | apply e62 | apply e82) <;> (first | assumption | omega | (simp only [bz, fz, if_neg hlt]; omega) | (simp (maxDischargeDepth := 8) only [bb, fz, if_neg hlt]; done))))))
          refine loop_go (fun i => {T := tp [(3, .ptr 0 [] 0), (6, .ref 1 [] 4 0 L.length cq), (8, vi i)], H := hp [some [vs e.nm, vi e.v, vi e.s, vi e.r], some (flat encE L)], nx := 2}) (lb L e.nm) ?_ (lt_LF (by omega)) (fun i hi Kn hK => ?_) (fun Kn => ?_)
          · simp only [vv, ff, norm, Array.toList, List.map, Option.isSome_none, bne_self_eq_false, reduceIte, reduceCtorEq, Nat.reduceEqDiff, Nat.reduceAdd, Nat.reduceMul, Nat.reduceSub, Nat.reduceBEq, Nat.reduceLeDiff, Int.reduceEq, Int.reduceLT, Int.reduceLE, Int.reduceGE, Int.reduceGT, Int.reduceBEq, Int.reduceBNe, Int.reduceToNat, Int.reduceNeg, Int.reduceSub, Int.reduceAdd, Int.reduceMul, finish, qf0, resOf, resa, qf1, qf2, qf3, keep, qf4, qf5, qf6, qe9, qf, Int.natCast_zero]
          · have h0 := fE_get0 L (show i < L.length by omega)
            have h1 := lb_lt hi
            (have fz := ga3 h0 h1 hlen; repeat' (first | simp (maxDischargeDepth := 8) only [go_sem, rr, reduceIte, reduceCtorEq, Nat.reduceEqDiff, Nat.reduceAdd, Nat.reduceMul, Nat.reduceSub, Nat.reduceBEq, Nat.reduceLeDiff, Int.reduceEq, Int.reduceLT, Int.reduceLE, Int.reduceGE, Int.reduceGT, Int.reduceBEq, Int.reduceBNe, Int.reduceToNat, Int.reduceNeg, Int.reduceSub, Int.reduceAdd, Int.reduceMul, fz] | (with_reducible refine qg9 ?_ ?_; focus (first | (simp (maxDischargeDepth := 8) only [bb, kk, fz]; done) | kernel_rfl)) | ((with_reducible first | refine qf7 ?_ ?_ | refine qf8 ?_ ?_ | refine qf9 ?_ ?_ | refine qg ?_ ?_ | refine qg0 ?_ ?_ | refine qg1 ?_ ?_ | refine qg2 ?_ ?_); focus (first | assumption | omega | (simp only [bz, fz]; omega))) | ((with_reducible first | refine qg3 ?_ ?_ | refine qg4 ?_ ?_ | refine qg5 ?_ ?_); focus (first | assumption | omega | (simp only [bz, fz]; omega))) | ((with_reducible first | refine g1_u8w ?_ ?_ | refine qg7 ?_ ?_); (focus ((repeat' (with_reducible apply And.intro)) <;> (first | assumption | omega | (simp only [bz, fz]; omega) | (simp (maxDischargeDepth := 8) only [bb, fz]; done)))); intro _)))
            refine hK _ ?_
            simp only [vv, ff, norm, Array.toList, List.map, Option.isSome_none, bne_self_eq_false, reduceIte, reduceCtorEq, Nat.reduceEqDiff, Nat.reduceAdd, Nat.reduceMul, Nat.reduceSub, Nat.reduceBEq, Nat.reduceLeDiff, Int.reduceEq, Int.reduceLT, Int.reduceLE, Int.reduceGE, Int.reduceGT, Int.reduceBEq, Int.reduceBNe, Int.reduceToNat, Int.reduceNeg, Int.reduceSub, Int.reduceAdd, Int.reduceMul, finish, qf0, resOf, resa, qf1, qf2, qf3, keep, qf4, qf5, qf6, qe9, qf, Int.natCast_add, cst1]
          · generalize hkk : lb L e.nm = k at hle hil hsn2
            have hdr : ((flat encE L).drop (k * 4)).take ((L.length - k) * 4) = flat encE (L.drop k) := by rw [flat_dr]; exact List.take_of_length_le (by rw [fE_len, List.length_drop]; exact Nat.le_refl _)
            have htk := flat_tk L k
            have od := anyOwn_encE (L.drop k)
            have ot := anyOwn_encE (L.take k)
            have ld : (flat encE (L.drop k)).length = (L.length - k) * 4 := by rw [fE_len, List.length_drop]
            have lt : (flat encE (L.take k)).length = k * 4 := by rw [fE_len, List.length_take, Nat.min_eq_left hle]
            have hfin : flat encE (L.take k) ++ vs e.nm :: vi e.v :: vi e.s :: vi e.r :: flat encE (L.drop k) = flat encE (insE L k e) := by rw [insE, flat_app, flat_app]; simp [flat, encE]
            have hck : ∀ X, capK X (1 + (L.length - k)) = none := fun X => capK_pos (by omega)
            have ha : k + (1 + (L.length - k)) = L.length + 1 := by omega
            have htk2 : (vs e.nm :: vi e.v :: vi e.s :: vi e.r :: flat encE (L.drop k)).take ((1 + (L.length - k)) * 4) = vs e.nm :: vi e.v :: vi e.s :: vi e.r :: flat encE (L.drop k) := List.take_of_length_le (by simp only [List.length_cons, ld]; omega)
            by_cases hkl : k < L.length
            · have h0 := fE_get0 L hkl
              have h1 : ltB (eA L k).nm e.nm = false := by rw [← hkk] at hkl ⊢; exact lb_at hkl
              (have fz := ga16 h0 h1 hlen hown hdr htk od ot ld lt hfin hck ha htk2 hsn2 hil; repeat' (first | simp (maxDischargeDepth := 8) only [go_sem, rr, reduceIte, reduceCtorEq, Nat.reduceEqDiff, Nat.reduceAdd, Nat.reduceMul, Nat.reduceSub, Nat.reduceBEq, Nat.reduceLeDiff, Int.reduceEq, Int.reduceLT, Int.reduceLE, Int.reduceGE, Int.reduceGT, Int.reduceBEq, Int.reduceBNe, Int.reduceToNat, Int.reduceNeg, Int.reduceSub, Int.reduceAdd, Int.reduceMul, fz, Nat.sub_zero] | (with_reducible refine qg9 ?_ ?_; focus (first | (simp (maxDischargeDepth := 8) only [bb, kk, fz, Nat.sub_zero]; done) | kernel_rfl)) | ((with_reducible first | refine qf7 ?_ ?_ | refine qf8 ?_ ?_ | refine qf9 ?_ ?_ | refine qg ?_ ?_ | refine qg0 ?_ ?_ | refine qg1 ?_ ?_ | refine qg2 ?_ ?_); focus (first | assumption | omega | (simp only [bz, fz, Nat.sub_zero]; omega))) | ((with_reducible first | refine qg3 ?_ ?_ | refine qg4 ?_ ?_ | refine qg5 ?_ ?_); focus (first | assumption | omega | (simp only [bz, fz, Nat.sub_zero]; omega))) | ((with_reducible first | refine g1_u8w ?_ ?_ | refine qg7 ?_ ?_); (focus ((repeat' (with_reducible apply And.intro)) <;> (first | assumption | omega | (simp only [bz, fz, Nat.sub_zero]; omega) | (simp (maxDischargeDepth := 8) only [bb, fz, Nat.sub_zero]; done)))); intro _)))
            · (have fz := ga14 hlen hown hdr htk od ot ld lt hfin hck ha htk2 hsn2 hil; repeat' (first | simp (maxDischargeDepth := 8) only [go_sem, rr, reduceIte, reduceCtorEq, Nat.reduceEqDiff, Nat.reduceAdd, Nat.reduceMul, Nat.reduceSub, Nat.reduceBEq, Nat.reduceLeDiff, Int.reduceEq, Int.reduceLT, Int.reduceLE, Int.reduceGE, Int.reduceGT, Int.reduceBEq, Int.reduceBNe, Int.reduceToNat, Int.reduceNeg, Int.reduceSub, Int.reduceAdd, Int.reduceMul, fz, Nat.sub_zero] | (with_reducible refine qg9 ?_ ?_; focus (first | (simp (maxDischargeDepth := 8) only [bb, kk, fz, Nat.sub_zero]; done) | kernel_rfl)) | ((with_reducible first | refine qf7 ?_ ?_ | refine qf8 ?_ ?_ | refine qf9 ?_ ?_ | refine qg ?_ ?_ | refine qg0 ?_ ?_ | refine qg1 ?_ ?_ | refine qg2 ?_ ?_); focus (first | assumption | omega | (simp only [bz, fz, Nat.sub_zero]; omega))) | ((with_reducible first | refine qg3 ?_ ?_ | refine qg4 ?_ ?_ | refine qg5 ?_ ?_); focus (first | assumption | omega | (simp only [bz, fz, Nat.sub_zero]; omega))) | ((with_reducible first | refine g1_u8w ?_ ?_ | refine qg7 ?_ ?_); (focus ((repeat' (with_reducible apply And.intro)) <;> (first | assumption | omega | (simp only [bz, fz, Nat.sub_zero]; omega) | (simp (maxDischargeDepth := 8) only [bb, fz, Nat.sub_zero]; done)))); intro _)))
theorem cpL_le (L : List Ent) (e : Ent) : (cpL L e).length ≤ L.length + 1 := by
  have := lb_le L e.nm
  unfold cpL
  split
  · split
    · rw [List.length_set]; omega
    · split
      · omega
      · rw [insE_len this]; omega
  · omega
end Go.Proofs.YtgdldmfkgijkaaaDoor.VH.S
end

section
namespace Go.Proofs.YtgdldmfkgijkaaaDoor.VH.S
open Go.Proofs
set_option maxRecDepth 100000
set_option maxHeartbeats 8000000
set_option linter.unusedSimpArgs false

/- Joining rows of bytes. -/
theorem g90 (d n : Nat) (h0 : 0 < n) (hl : n ≤ 549755813880) : evFun E (d+1) 90 [.val (.slice none 0 0), vi n] [] = some (.ref 0 [] 1 0 0 none, [some (List.replicate n (iv .u8 0))]) := by
  refine evFun_body b90 ?_
  have hz2 := noSnapL_iv .u8 (List.replicate n 0)
  rw [List.map_replicate] at hz2
  (repeat' (first | simp (maxDischargeDepth := 8) only [go_sem, rr, reduceIte, reduceCtorEq, Nat.reduceEqDiff, Nat.reduceAdd, Nat.reduceMul, Nat.reduceSub, Nat.reduceBEq, Nat.reduceLeDiff, Int.reduceEq, Int.reduceLT, Int.reduceLE, Int.reduceGE, Int.reduceGT, Int.reduceBEq, Int.reduceBNe, Int.reduceToNat, Int.reduceNeg, Int.reduceSub, Int.reduceAdd, Int.reduceMul, zeros_one, hz2, Nat.sub_zero, Tryd.f90] | (with_reducible refine qg9 ?_ ?_; focus (first | (simp (maxDischargeDepth := 8) only [bb, kk, zeros_one, hz2, Nat.sub_zero]; done) | kernel_rfl)) | ((with_reducible first | refine qf7 ?_ ?_ | refine qf8 ?_ ?_ | refine qf9 ?_ ?_ | refine qg ?_ ?_ | refine qg0 ?_ ?_ | refine qg1 ?_ ?_ | refine qg2 ?_ ?_); focus (first | assumption | omega | (simp only [bz, zeros_one, hz2, Nat.sub_zero]; omega))) | ((with_reducible first | refine qg3 ?_ ?_ | refine qg4 ?_ ?_ | refine qg5 ?_ ?_); focus (first | assumption | omega | (simp only [bz, zeros_one, hz2, Nat.sub_zero]; omega))) | ((with_reducible first | refine g1_u8w ?_ ?_ | refine qg7 ?_ ?_); (focus ((repeat' (with_reducible apply And.intro)) <;> (first | assumption | omega | (simp only [bz, zeros_one, hz2, Nat.sub_zero]; omega) | (simp (maxDischargeDepth := 8) only [bb, zeros_one, hz2, Nat.sub_zero]; done)))); intro _)))
abbrev Prt := Tg × Option Nat × List AV
def pC (p : Prt) : AV := .sl p.1 1 p.2.2.length p.2.1 p.2.2
def catP (P : List Prt) : List AV := (P.map fun p => p.2.2).flatten
def p0 : Prt := (.fgn, none, [])
def pA (P : List Prt) (i : Nat) : Prt := P.getD i p0
theorem pA_get {P : List Prt} {i : Nat} (h : i < P.length) : pA P i = P[i] := by
  rw [pA, List.getD_eq_getElem?_getD, List.getElem?_eq_getElem h]; rfl
theorem pC_get {P : List Prt} {i : Nat} (h : i < P.length) : g1 (P.map pC) i = some (.sl (pA P i).1 1 (pA P i).2.2.length (pA P i).2.1 (pA P i).2.2) := by
  rw [pA_get h]; simp [g1, h, pC]
theorem catP_succ {P : List Prt} {i : Nat} (h : i < P.length) : catP (P.take (i + 1)) = catP (P.take i) ++ (pA P i).2.2 := by
  rw [pA_get h, List.take_succ_eq_append_getElem h]; simp only [catP, List.map_append, List.map_cons, List.map_nil, List.flatten_append, List.flatten_cons, List.flatten_nil, List.append_nil]
theorem catP_len {P : List Prt} {i : Nat} (h : i < P.length) : (catP (P.take (i + 1))).length = (catP (P.take i)).length + (pA P i).2.2.length := by
  rw [catP_succ h, List.length_append]
theorem catP_le (P : List Prt) {i j : Nat} (h : i ≤ j) (hj : j ≤ P.length) : (catP (P.take i)).length ≤ (catP (P.take j)).length := by
  induction j with
  | zero => have : i = 0 := by omega
            subst this; exact Nat.le_refl _
  | succ j ih =>
    by_cases e : i = j + 1
    · subst e; exact Nat.le_refl _
    · rw [catP_len (by omega)]
      exact Nat.le_trans (ih (by omega) (by omega)) (Nat.le_add_right _ _)
theorem catP_nil : catP [] = [] := rfl
theorem catP_all (P : List Prt) : P.take P.length = P := List.take_of_length_le (Nat.le_refl _)
theorem isK_cat {P : List Prt} (hk : ∀ p ∈ P, isK .u8 p.2.2 = true) : isK .u8 (catP P) = true := by
  induction P with
  | nil => rfl
  | cons p P ih =>
    have : catP (p :: P) = p.2.2 ++ catP P := by simp [catP]
    rw [this, isK_app, hk p (by simp), ih fun q hq => hk q (by simp [hq])]; rfl
/-- a row with room -/
def roomy (cs : List AV) (N : Nat) : List AV := cs ++ List.replicate (N - cs.length) (iv .u8 0)
theorem roomy_len {cs : List AV} {N : Nat} (h : cs.length ≤ N) : (roomy cs N).length = N := by simp [roomy]; omega
theorem roomy_put {cs ds : List AV} {N : Nat} (h : cs.length + ds.length ≤ N) : setAt (roomy cs N) cs.length ds = roomy (cs ++ ds) N := by
  rw [setAt_put _ _ _ (by rw [roomy_len (by omega)]; exact h)]
  simp only [roomy, putL, List.length_append]
  rw [List.take_append_of_le_length (Nat.le_refl _), List.take_length, List.drop_append, List.drop_of_length_le (Nat.le_add_right _ _), List.nil_append, List.append_assoc]
  rw [List.drop_replicate, show N - cs.length - (cs.length + ds.length - cs.length) = N - (cs.length + ds.length) by omega]
  simp only [List.append_assoc]
theorem roomy_full (cs : List AV) : roomy cs cs.length = cs := by simp [roomy]
theorem roomy_nil (N : Nat) : roomy [] N = List.replicate N (iv .u8 0) := by simp [roomy]
theorem roomy_own {cs : List AV} (N : Nat) (h : isK .u8 cs = true) : (roomy cs N).any qb8 = false := by
  rw [roomy, List.any_append, isK_own h, isK_own (isK_repl .u8 _ 0)]; rfl
theorem g77 (d : Nat) (P : List Prt) (c : Option Nat) (hk : ∀ p ∈ P, isK .u8 p.2.2 = true) (h0 : 0 < (catP P).length) (hl : (catP P).length ≤ 549755813880) (hP : P.length ≤ 1000) : evFun E (d+2) 77 [.sl .snap 1 P.length c (P.map pC)] [] = some (.ref 0 [] 1 0 (catP P).length none, [some (catP P)]) := by
  refine evFun_body b77 ?_
  have hall := catP_all P
  (repeat' (first | simp (maxDischargeDepth := 8) only [go_sem, rr, reduceIte, reduceCtorEq, Nat.reduceEqDiff, Nat.reduceAdd, Nat.reduceMul, Nat.reduceSub, Nat.reduceBEq, Nat.reduceLeDiff, Int.reduceEq, Int.reduceLT, Int.reduceLE, Int.reduceGE, Int.reduceGT, Int.reduceBEq, Int.reduceBNe, Int.reduceToNat, Int.reduceNeg, Int.reduceSub, Int.reduceAdd, Int.reduceMul, Tryd.f77] | (with_reducible refine qg9 ?_ ?_; focus (first | (simp (maxDischargeDepth := 8) only [bb, kk]; done) | kernel_rfl)) | ((with_reducible first | refine qf7 ?_ ?_ | refine qf8 ?_ ?_ | refine qf9 ?_ ?_ | refine qg ?_ ?_ | refine qg0 ?_ ?_ | refine qg1 ?_ ?_ | refine qg2 ?_ ?_); focus (first | assumption | omega | (simp only [bz]; omega))) | ((with_reducible first | refine qg3 ?_ ?_ | refine qg4 ?_ ?_ | refine qg5 ?_ ?_); focus (first | assumption | omega | (simp only [bz]; omega))) | ((with_reducible first | refine g1_u8w ?_ ?_ | refine qg7 ?_ ?_); (focus ((repeat' (with_reducible apply And.intro)) <;> (first | assumption | omega | (simp only [bz]; omega) | (simp (maxDischargeDepth := 8) only [bb]; done)))); intro _)))
  refine loop_go (fun i => {T := tp [(0, .sl .snap 1 P.length c (P.map pC)), (3, vi (catP (P.take i)).length), (9, .sl .snap 1 P.length c (P.map pC)), (10, vi P.length), (11, vi i)], H := hp [], nx := 0}) P.length ?_ (lt_LF (by omega)) (fun i hi Kn hK => ?_) (fun Kn => ?_)
  · simp only [vv, ff, norm, Array.toList, List.map, Option.isSome_none, bne_self_eq_false, reduceIte, reduceCtorEq, Nat.reduceEqDiff, Nat.reduceAdd, Nat.reduceMul, Nat.reduceSub, Nat.reduceBEq, Nat.reduceLeDiff, Int.reduceEq, Int.reduceLT, Int.reduceLE, Int.reduceGE, Int.reduceGT, Int.reduceBEq, Int.reduceBNe, Int.reduceToNat, Int.reduceNeg, Int.reduceSub, Int.reduceAdd, Int.reduceMul, finish, qf0, resOf, resa, qf1, qf2, qf3, keep, qf4, qf5, qf6, qe9, qf, Int.natCast_zero, List.take_zero, catP_nil, List.length_nil]
  · have hg := pC_get hi
    have hs := catP_len hi
    have hle := catP_le P (show i + 1 ≤ P.length by omega) (Nat.le_refl _)
    rw [hall, hs] at hle
    (repeat' (first | simp (maxDischargeDepth := 8) only [go_sem, rr, reduceIte, reduceCtorEq, Nat.reduceEqDiff, Nat.reduceAdd, Nat.reduceMul, Nat.reduceSub, Nat.reduceBEq, Nat.reduceLeDiff, Int.reduceEq, Int.reduceLT, Int.reduceLE, Int.reduceGE, Int.reduceGT, Int.reduceBEq, Int.reduceBNe, Int.reduceToNat, Int.reduceNeg, Int.reduceSub, Int.reduceAdd, Int.reduceMul, hg] | (with_reducible refine qg9 ?_ ?_; focus (first | (simp (maxDischargeDepth := 8) only [bb, kk, hg]; done) | kernel_rfl)) | ((with_reducible first | refine qf7 ?_ ?_ | refine qf8 ?_ ?_ | refine qf9 ?_ ?_ | refine qg ?_ ?_ | refine qg0 ?_ ?_ | refine qg1 ?_ ?_ | refine qg2 ?_ ?_); focus (first | assumption | omega | (simp only [bz, hg]; omega))) | ((with_reducible first | refine qg3 ?_ ?_ | refine qg4 ?_ ?_ | refine qg5 ?_ ?_); focus (first | assumption | omega | (simp only [bz, hg]; omega))) | ((with_reducible first | refine g1_u8w ?_ ?_ | refine qg7 ?_ ?_); (focus ((repeat' (with_reducible apply And.intro)) <;> (first | assumption | omega | (simp only [bz, hg]; omega) | (simp (maxDischargeDepth := 8) only [bb, hg]; done)))); intro _)))
    refine hK _ ?_
    simp only [vv, ff, norm, Array.toList, List.map, Option.isSome_none, bne_self_eq_false, reduceIte, reduceCtorEq, Nat.reduceEqDiff, Nat.reduceAdd, Nat.reduceMul, Nat.reduceSub, Nat.reduceBEq, Nat.reduceLeDiff, Int.reduceEq, Int.reduceLT, Int.reduceLE, Int.reduceGE, Int.reduceGT, Int.reduceBEq, Int.reduceBNe, Int.reduceToNat, Int.reduceNeg, Int.reduceSub, Int.reduceAdd, Int.reduceMul, finish, qf0, resOf, resa, qf1, qf2, qf3, keep, qf4, qf5, qf6, qe9, qf, Int.natCast_add, cst1, hs]
  · (repeat' (first | simp (maxDischargeDepth := 8) only [go_sem, rr, reduceIte, reduceCtorEq, Nat.reduceEqDiff, Nat.reduceAdd, Nat.reduceMul, Nat.reduceSub, Nat.reduceBEq, Nat.reduceLeDiff, Int.reduceEq, Int.reduceLT, Int.reduceLE, Int.reduceGE, Int.reduceGT, Int.reduceBEq, Int.reduceBNe, Int.reduceToNat, Int.reduceNeg, Int.reduceSub, Int.reduceAdd, Int.reduceMul, hall] | (with_reducible refine qg9 ?_ ?_; focus (first | (simp (maxDischargeDepth := 8) only [bb, kk, hall]; done) | kernel_rfl)) | ((with_reducible first | refine qf7 ?_ ?_ | refine qf8 ?_ ?_ | refine qf9 ?_ ?_ | refine qg ?_ ?_ | refine qg0 ?_ ?_ | refine qg1 ?_ ?_ | refine qg2 ?_ ?_); focus (first | assumption | omega | (simp only [bz, hall]; omega))) | ((with_reducible first | refine qg3 ?_ ?_ | refine qg4 ?_ ?_ | refine qg5 ?_ ?_); focus (first | assumption | omega | (simp only [bz, hall]; omega))) | ((with_reducible first | refine g1_u8w ?_ ?_ | refine qg7 ?_ ?_); (focus ((repeat' (with_reducible apply And.intro)) <;> (first | assumption | omega | (simp only [bz, hall]; omega) | (simp (maxDischargeDepth := 8) only [bb, hall]; done)))); intro _) | (with_reducible apply call_elim; focus ((with_reducible first | apply g90) <;> (first | assumption | omega | (simp only [bz, hall]; omega) | (simp (maxDischargeDepth := 8) only [bb, hall]; done))))))
    refine loop_go (fun i => {T := tp [(6, .ref 0 [] 1 0 (catP (P.take i)).length none), (25, .sl .snap 1 P.length c (P.map pC)), (26, vi P.length), (27, vi i)], H := hp [some (roomy (catP (P.take i)) (catP P).length)], nx := 1}) P.length ?_ (lt_LF (by omega)) (fun i hi Kn hK => ?_) (fun Kn => ?_)
    · simp only [vv, ff, norm, Array.toList, List.map, Option.isSome_none, bne_self_eq_false, reduceIte, reduceCtorEq, Nat.reduceEqDiff, Nat.reduceAdd, Nat.reduceMul, Nat.reduceSub, Nat.reduceBEq, Nat.reduceLeDiff, Int.reduceEq, Int.reduceLT, Int.reduceLE, Int.reduceGE, Int.reduceGT, Int.reduceBEq, Int.reduceBNe, Int.reduceToNat, Int.reduceNeg, Int.reduceSub, Int.reduceAdd, Int.reduceMul, finish, qf0, resOf, resa, qf1, qf2, qf3, keep, qf4, qf5, qf6, qe9, qf, Int.natCast_zero, List.take_zero, catP_nil, List.length_nil, roomy_nil]
    · have hg := pC_get hi
      have hs := catP_len hi
      have hc := catP_succ hi
      have hle := catP_le P (show i + 1 ≤ P.length by omega) (Nat.le_refl _)
      rw [hall, hs] at hle
      have hkp : isK .u8 (pA P i).2.2 = true := by rw [pA_get hi]; exact hk _ (List.getElem_mem _)
      have hkc : isK .u8 (catP (P.take i)) = true := isK_cat fun p hp' => hk p (List.mem_of_mem_take hp')
      have hro := roomy_own (catP P).length hkc
      have hrl := roomy_len (cs := catP (P.take i)) (N := (catP P).length) (by omega)
      have hput := roomy_put (cs := catP (P.take i)) (ds := (pA P i).2.2) (N := (catP P).length) hle
      by_cases hm : (pA P i).2.2.length = 0
      · have he : (pA P i).2.2 = [] := List.eq_nil_of_length_eq_zero hm
        rw [he, List.append_nil] at hc
        rw [hm, Nat.add_zero] at hs
        by_cases hf : (catP (P.take i)).length = (catP P).length
        · (have fz := ga5 hg hrl hro he hf; repeat' (first | simp (maxDischargeDepth := 8) only [go_sem, rr, reduceIte, reduceCtorEq, Nat.reduceEqDiff, Nat.reduceAdd, Nat.reduceMul, Nat.reduceSub, Nat.reduceBEq, Nat.reduceLeDiff, Int.reduceEq, Int.reduceLT, Int.reduceLE, Int.reduceGE, Int.reduceGT, Int.reduceBEq, Int.reduceBNe, Int.reduceToNat, Int.reduceNeg, Int.reduceSub, Int.reduceAdd, Int.reduceMul, fz] | (with_reducible refine qg9 ?_ ?_; focus (first | (simp (maxDischargeDepth := 8) only [bb, kk, fz]; done) | kernel_rfl)) | ((with_reducible first | refine qf7 ?_ ?_ | refine qf8 ?_ ?_ | refine qf9 ?_ ?_ | refine qg ?_ ?_ | refine qg0 ?_ ?_ | refine qg1 ?_ ?_ | refine qg2 ?_ ?_); focus (first | assumption | omega | (simp only [bz, fz]; omega))) | ((with_reducible first | refine qg3 ?_ ?_ | refine qg4 ?_ ?_ | refine qg5 ?_ ?_); focus (first | assumption | omega | (simp only [bz, fz]; omega))) | ((with_reducible first | refine g1_u8w ?_ ?_ | refine qg7 ?_ ?_); (focus ((repeat' (with_reducible apply And.intro)) <;> (first | assumption | omega | (simp only [bz, fz]; omega) | (simp (maxDischargeDepth := 8) only [bb, fz]; done)))); intro _)))
          refine hK _ ?_
          simp only [vv, ff, norm, Array.toList, List.map, Option.isSome_none, bne_self_eq_false, reduceIte, reduceCtorEq, Nat.reduceEqDiff, Nat.reduceAdd, Nat.reduceMul, Nat.reduceSub, Nat.reduceBEq, Nat.reduceLeDiff, Int.reduceEq, Int.reduceLT, Int.reduceLE, Int.reduceGE, Int.reduceGT, Int.reduceBEq, Int.reduceBNe, Int.reduceToNat, Int.reduceNeg, Int.reduceSub, Int.reduceAdd, Int.reduceMul, finish, qf0, resOf, resa, qf1, qf2, qf3, keep, qf4, qf5, qf6, qe9, qf, Int.natCast_add, cst1, hs, hc, hf]
        · (have fz := ga4 hg hrl hro he; repeat' (first | simp (maxDischargeDepth := 8) only [go_sem, rr, reduceIte, reduceCtorEq, Nat.reduceEqDiff, Nat.reduceAdd, Nat.reduceMul, Nat.reduceSub, Nat.reduceBEq, Nat.reduceLeDiff, Int.reduceEq, Int.reduceLT, Int.reduceLE, Int.reduceGE, Int.reduceGT, Int.reduceBEq, Int.reduceBNe, Int.reduceToNat, Int.reduceNeg, Int.reduceSub, Int.reduceAdd, Int.reduceMul, fz] | (with_reducible refine qg9 ?_ ?_; focus (first | (simp (maxDischargeDepth := 8) only [bb, kk, fz]; done) | kernel_rfl)) | ((with_reducible first | refine qf7 ?_ ?_ | refine qf8 ?_ ?_ | refine qf9 ?_ ?_ | refine qg ?_ ?_ | refine qg0 ?_ ?_ | refine qg1 ?_ ?_ | refine qg2 ?_ ?_); focus (first | assumption | omega | (simp only [bz, fz]; omega))) | ((with_reducible first | refine qg3 ?_ ?_ | refine qg4 ?_ ?_ | refine qg5 ?_ ?_); focus (first | assumption | omega | (simp only [bz, fz]; omega))) | ((with_reducible first | refine g1_u8w ?_ ?_ | refine qg7 ?_ ?_); (focus ((repeat' (with_reducible apply And.intro)) <;> (first | assumption | omega | (simp only [bz, fz]; omega) | (simp (maxDischargeDepth := 8) only [bb, fz]; done)))); intro _)))
          refine hK _ ?_
          simp only [vv, ff, norm, Array.toList, List.map, Option.isSome_none, bne_self_eq_false, reduceIte, reduceCtorEq, Nat.reduceEqDiff, Nat.reduceAdd, Nat.reduceMul, Nat.reduceSub, Nat.reduceBEq, Nat.reduceLeDiff, Int.reduceEq, Int.reduceLT, Int.reduceLE, Int.reduceGE, Int.reduceGT, Int.reduceBEq, Int.reduceBNe, Int.reduceToNat, Int.reduceNeg, Int.reduceSub, Int.reduceAdd, Int.reduceMul, finish, qf0, resOf, resa, qf1, qf2, qf3, keep, qf4, qf5, qf6, qe9, qf, Int.natCast_add, cst1, hs, hc]
      · (have fz := ga5 hg hrl hro hkp hput; repeat' (first | simp (maxDischargeDepth := 8) only [go_sem, rr, reduceIte, reduceCtorEq, Nat.reduceEqDiff, Nat.reduceAdd, Nat.reduceMul, Nat.reduceSub, Nat.reduceBEq, Nat.reduceLeDiff, Int.reduceEq, Int.reduceLT, Int.reduceLE, Int.reduceGE, Int.reduceGT, Int.reduceBEq, Int.reduceBNe, Int.reduceToNat, Int.reduceNeg, Int.reduceSub, Int.reduceAdd, Int.reduceMul, fz] | (with_reducible refine qg9 ?_ ?_; focus (first | (simp (maxDischargeDepth := 8) only [bb, kk, fz]; done) | kernel_rfl)) | ((with_reducible first | refine qf7 ?_ ?_ | refine qf8 ?_ ?_ | refine qf9 ?_ ?_ | refine qg ?_ ?_ | refine qg0 ?_ ?_ | refine qg1 ?_ ?_ | refine qg2 ?_ ?_); focus (first | assumption | omega | (simp only [bz, fz]; omega))) | ((with_reducible first | refine qg3 ?_ ?_ | refine qg4 ?_ ?_ | refine qg5 ?_ ?_); focus (first | assumption | omega | (simp only [bz, fz]; omega))) | ((with_reducible first | refine g1_u8w ?_ ?_ | refine qg7 ?_ ?_); (focus ((repeat' (with_reducible apply And.intro)) <;> (first | assumption | omega | (simp only [bz, fz]; omega) | (simp (maxDischargeDepth := 8) only [bb, fz]; done)))); intro _)))
        refine hK _ ?_
        simp only [vv, ff, norm, Array.toList, List.map, Option.isSome_none, bne_self_eq_false, reduceIte, reduceCtorEq, Nat.reduceEqDiff, Nat.reduceAdd, Nat.reduceMul, Nat.reduceSub, Nat.reduceBEq, Nat.reduceLeDiff, Int.reduceEq, Int.reduceLT, Int.reduceLE, Int.reduceGE, Int.reduceGT, Int.reduceBEq, Int.reduceBNe, Int.reduceToNat, Int.reduceNeg, Int.reduceSub, Int.reduceAdd, Int.reduceMul, finish, qf0, resOf, resa, qf1, qf2, qf3, keep, qf4, qf5, qf6, qe9, qf, Int.natCast_add, cst1, hs, hc, List.length_append]
    · have hfu := roomy_full (catP P)
      have hsn := isK_snap (isK_cat hk)
      (have fz := ga3 hall hfu hsn; repeat' (first | simp (maxDischargeDepth := 8) only [go_sem, rr, reduceIte, reduceCtorEq, Nat.reduceEqDiff, Nat.reduceAdd, Nat.reduceMul, Nat.reduceSub, Nat.reduceBEq, Nat.reduceLeDiff, Int.reduceEq, Int.reduceLT, Int.reduceLE, Int.reduceGE, Int.reduceGT, Int.reduceBEq, Int.reduceBNe, Int.reduceToNat, Int.reduceNeg, Int.reduceSub, Int.reduceAdd, Int.reduceMul, fz] | (with_reducible refine qg9 ?_ ?_; focus (first | (simp (maxDischargeDepth := 8) only [bb, kk, fz]; done) | kernel_rfl)) | ((with_reducible first | refine qf7 ?_ ?_ | refine qf8 ?_ ?_ | refine qf9 ?_ ?_ | refine qg ?_ ?_ | refine qg0 ?_ ?_ | refine qg1 ?_ ?_ | refine qg2 ?_ ?_); focus (first | assumption | omega | (simp only [bz, fz]; omega))) | ((with_reducible first | refine qg3 ?_ ?_ | refine qg4 ?_ ?_ | refine qg5 ?_ ?_); focus (first | assumption | omega | (simp only [bz, fz]; omega))) | ((with_reducible first | refine g1_u8w ?_ ?_ | refine qg7 ?_ ?_); (focus ((repeat' (with_reducible apply And.intro)) <;> (first | assumption | omega | (simp only [bz, fz]; omega) | (simp (maxDischargeDepth := 8) only [bb, fz]; done)))); intro _)))
theorem c477 (d : Nat) (c : Option Nat) (t1 t2 t3 t4 : Tg) (n1 n2 n3 n4 : Nat) (c1 c2 c3 c4 : Option Nat) (x1 x2 x3 x4 : List AV) (e1 : x1.length = n1) (e2 : x2.length = n2) (e3 : x3.length = n3) (e4 : x4.length = n4) (k1 : isK .u8 x1 = true) (k2 : isK .u8 x2 = true) (k3 : isK .u8 x3 = true) (k4 : isK .u8 x4 = true) (h0 : 0 < n1) (hl : n1 + n2 + n3 + n4 ≤ 549755813880) : evFun E (d+2) 77 [.sl .snap 1 4 c [.sl t1 1 n1 c1 x1, .sl t2 1 n2 c2 x2, .sl t3 1 n3 c3 x3, .sl t4 1 n4 c4 x4]] [] = some (.ref 0 [] 1 0 (n1 + n2 + n3 + n4) none, [some (x1 ++ x2 ++ x3 ++ x4)]) := by
  subst e1; subst e2; subst e3; subst e4
  have he : catP [(t1, c1, x1), (t2, c2, x2), (t3, c3, x3), (t4, c4, x4)] = x1 ++ x2 ++ x3 ++ x4 := by simp [catP]
  have := g77 d [(t1, c1, x1), (t2, c2, x2), (t3, c3, x3), (t4, c4, x4)] c (by simp [k1, k2, k3, k4]) (by rw [he]; simp; omega) (by rw [he]; simp; omega) (by simp)
  rw [he] at this
  simpa [pC, Nat.add_assoc] using this
theorem isK_u8 : ∀ l : List UInt8, isK .u8 (l.map VH.u8) = true
  | [] => rfl
  | b :: l => by rw [List.map_cons, VH.u8, isK_int]; exact isK_u8 l
theorem nameOK_len {nm : List UInt8} (h : (nm == [] || nameOK nm) = true) : nm.length ≤ 8 := by
  rw [Bool.or_eq_true] at h
  rcases h with h | h
  · rw [beq_iff_eq] at h; subst h; simp
  · simp only [nameOK, Bool.and_eq_true, decide_eq_true_eq] at h; exact h.1.2
/-- the bytes of an ask -/
def askB (k : Int) (nm : List UInt8) (v : Int) (cs : List AV) : List AV := [iv .u8 k, iv .u8 nm.length] ++ nm.map VH.u8 ++ (eightL v).map (iv .u8) ++ cs
theorem askOk_parts {k v : Int} {nm : List UInt8} {n : Nat} (h : askOk k nm v n = true) : (1 ≤ k ∧ k ≤ 4) ∧ nm.length ≤ 8 ∧ (0 ≤ v ∧ v ≤ 1000000) ∧ n ≤ 540 := by
  simp only [askOk, Bool.and_eq_true, decide_eq_true_eq] at h
  obtain ⟨⟨⟨h1, h2⟩, h3⟩, h4⟩ := h
  refine ⟨h1, nameOK_len h2, h3, ?_⟩
  split at h4
  · simp only [Bool.and_eq_true, decide_eq_true_eq] at h4; exact h4.2
  · simp only [decide_eq_true_eq] at h4; omega
theorem eight8 (x : Int) : ((eightL x).map (iv .u8)).length = 8 := by simp [eightL]
theorem isK_askB {k v : Int} {nm : List UInt8} {cs : List AV} (hk : isK .u8 cs = true) : isK .u8 (askB k nm v cs) = true := by
  simp only [askB, isK_app, isK_u8, isK_map, hk, isK_int, isK_nil, Bool.and_true, Bool.and_self]
theorem e8 (d : Nat) (k v : Int) (nm : List UInt8) (n : Nat) (c : Option Nat) (cs : List AV) (hl : nm.length ≤ 549755813888) (hk : isK .u8 cs = true) (hn : cs.length = n) (hok : askOk k nm v n = true) : evFun E (d+7) 8 [.agg [vi k, vs nm, vi v, .sl .snap 1 n c cs]] [] = some (.tup [.ref 0 [] 1 0 (2 + nm.length + 8 + n) none, vb true], [some (askB k nm v cs)]) := by
  obtain ⟨h1, h2, h3, h4⟩ := askOk_parts hok
  have hp : evFun E (d+6) 35 [.agg [vi k, vs nm, vi v, .sl .snap 1 n c cs]] [] = some (.ref 0 [] 1 0 (2 + nm.length + 8 + n) none, [some (askB k nm v cs)]) := by
    refine evFun_body b35 ?_
    have hu := isK_u8 nm
    have h8 := isK_map .u8 (eightL v)
    have hl8 := eight8 v
    have hul : (nm.map VH.u8).length = nm.length := by simp
    have x1 : [AV.val (.int .u8 k), AV.val (.int .u8 nm.length)].length = 2 := rfl
    have x2 : isK .u8 [AV.val (.int .u8 k), AV.val (.int .u8 nm.length)] = true := rfl
    (have fz := ga6 hk hn hu h8 hl8 hul; repeat' (first | simp (maxDischargeDepth := 8) only [go_sem, rr, reduceIte, reduceCtorEq, Nat.reduceEqDiff, Nat.reduceAdd, Nat.reduceMul, Nat.reduceSub, Nat.reduceBEq, Nat.reduceLeDiff, Int.reduceEq, Int.reduceLT, Int.reduceLE, Int.reduceGE, Int.reduceGT, Int.reduceBEq, Int.reduceBNe, Int.reduceToNat, Int.reduceNeg, Int.reduceSub, Int.reduceAdd, Int.reduceMul, fz, askB, Tryd.f35] | (with_reducible refine qg9 ?_ ?_; focus (first | (simp (maxDischargeDepth := 8) only [bb, kk, fz, askB]; done) | kernel_rfl)) | ((with_reducible first | refine qf7 ?_ ?_ | refine qf8 ?_ ?_ | refine qf9 ?_ ?_ | refine qg ?_ ?_ | refine qg0 ?_ ?_ | refine qg1 ?_ ?_ | refine qg2 ?_ ?_); focus (first | assumption | omega | (simp only [bz, fz, askB]; omega))) | ((with_reducible first | refine qg3 ?_ ?_ | refine qg4 ?_ ?_ | refine qg5 ?_ ?_); focus (first | assumption | omega | (simp only [bz, fz, askB]; omega))) | ((with_reducible first | refine g1_u8w ?_ ?_ | refine qg7 ?_ ?_); (focus ((repeat' (with_reducible apply And.intro)) <;> (first | assumption | omega | (simp only [bz, fz, askB]; omega) | (simp (maxDischargeDepth := 8) only [bb, fz, askB]; done)))); intro _) | (with_reducible apply call_elim; focus ((with_reducible first | apply e78 | apply c477) <;> (first | assumption | omega | (simp only [bz, fz, askB]; omega) | (simp (maxDischargeDepth := 8) only [bb, fz, askB]; done))))))
  refine evFun_body b8 ?_
  have hs := isK_snap (isK_askB (k := k) (v := v) (nm := nm) hk)
  (have fz := ga2 hok hs; repeat' (first | simp (maxDischargeDepth := 8) only [go_sem, rr, reduceIte, reduceCtorEq, Nat.reduceEqDiff, Nat.reduceAdd, Nat.reduceMul, Nat.reduceSub, Nat.reduceBEq, Nat.reduceLeDiff, Int.reduceEq, Int.reduceLT, Int.reduceLE, Int.reduceGE, Int.reduceGT, Int.reduceBEq, Int.reduceBNe, Int.reduceToNat, Int.reduceNeg, Int.reduceSub, Int.reduceAdd, Int.reduceMul, fz, hp, Tryd.f8] | (with_reducible refine qg9 ?_ ?_; focus (first | (simp (maxDischargeDepth := 8) only [bb, kk, fz, hp]; done) | kernel_rfl)) | ((with_reducible first | refine qf7 ?_ ?_ | refine qf8 ?_ ?_ | refine qf9 ?_ ?_ | refine qg ?_ ?_ | refine qg0 ?_ ?_ | refine qg1 ?_ ?_ | refine qg2 ?_ ?_); focus (first | assumption | omega | (simp only [bz, fz, hp]; omega))) | ((with_reducible first | refine qg3 ?_ ?_ | refine qg4 ?_ ?_ | refine qg5 ?_ ?_); focus (first | assumption | omega | (simp only [bz, fz, hp]; omega))) | ((with_reducible first | refine g1_u8w ?_ ?_ | refine qg7 ?_ ?_); (focus ((repeat' (with_reducible apply And.intro)) <;> (first | assumption | omega | (simp only [bz, fz, hp]; omega) | (simp (maxDischargeDepth := 8) only [bb, fz, hp]; done)))); intro _) | (with_reducible apply call_elim; focus ((with_reducible first | apply e11) <;> (first | assumption | omega | (simp only [bz, fz, hp]; omega) | (simp (maxDischargeDepth := 8) only [bb, fz, hp]; done))))))
end Go.Proofs.YtgdldmfkgijkaaaDoor.VH.S
end

section
namespace Go.Proofs.YtgdldmfkgijkaaaDoor.VH.S
open Go.Proofs
set_option maxRecDepth 100000
set_option maxHeartbeats 8000000
set_option linter.unusedSimpArgs false

/- The bytes of a catalog. -/
def h3 (x : Int) : List Int := [w8 (shrI x 16), w8 (shrI x 8), w8 x]
def NmOK (L : List Ent) : Prop := ∀ i, i < L.length → entOK (eA L i) = true
theorem cat_parts {L : List Ent} (h : catOK L = true) : L.length ≤ 5 ∧ NmOK L := by
  simp only [catOK, Bool.and_eq_true, List.all_eq_true, decide_eq_true_eq] at h
  refine ⟨h.2, fun i hi => ?_⟩
  have := h.1 i (List.mem_range.mpr hi)
  simp only [stOK, Bool.and_eq_true] at this
  exact this.1
end Go.Proofs.YtgdldmfkgijkaaaDoor.VH.S
end

section
namespace Go.Proofs.YtgdldmfkgijkaaaDoor.VH.S
open Go.Proofs
set_option maxRecDepth 100000
set_option maxHeartbeats 8000000
set_option linter.unusedSimpArgs false

theorem B8.h3 (x : Int) : B8 (h3 x) := B8.cons (B8.w8 _) (B8.cons (B8.w8 _) (B8.cons (B8.w8 _) B8.nil))
end Go.Proofs.YtgdldmfkgijkaaaDoor.VH.S
end

section
namespace Go.Proofs.YtgdldmfkgijkaaaDoor.VH.S
open Go.Proofs
set_option maxRecDepth 100000
set_option maxHeartbeats 8000000
set_option linter.unusedSimpArgs false

end Go.Proofs.YtgdldmfkgijkaaaDoor.VH.S
end

section
namespace Go.Proofs.YtgdldmfkgijkaaaDoor.VH.S
open Go.Proofs
set_option maxRecDepth 100000
set_option maxHeartbeats 8000000
set_option linter.unusedSimpArgs false

/- Right catalogs: plain laws. -/
theorem catOK_ent {L : List Ent} (h : catOK L = true) {e : Ent} (he : e ∈ L) : entOK e = true := by
  obtain ⟨i, hi, rfl⟩ := List.mem_iff_getElem.mp he
  have := (cat_parts h).2 i hi
  rw [eA_get hi] at this; exact this
theorem catOK_mk {L : List Ent} (h1 : ∀ e ∈ L, entOK e = true) (h2 : Sorted L) (h3 : L.length ≤ 5) : catOK L = true := by
  rw [catOK_all (fun i hi => ?_)]
  · exact decide_eq_true h3
  simp only [stOK, Bool.and_eq_true, Bool.or_eq_true, decide_eq_true_eq]
  refine ⟨h1 _ (by rw [eA_get hi]; exact List.getElem_mem _), ?_⟩
  by_cases h0 : i = 0
  · exact .inl h0
  · exact .inr (h2 (i - 1) i (by omega) hi)
theorem sorted_mk {L : List Ent} (h : L.Pairwise fun a b => ltB a.nm b.nm = true) : Sorted L := by
  intro a b hab hb
  rw [eA_get (by omega), eA_get hb]
  exact List.pairwise_iff_getElem.mp h a b (by omega) hb hab
theorem lb_take {L : List Ent} {t : List UInt8} {e : Ent} (h : e ∈ L.take (lb L t)) : ltB e.nm t = true := by
  obtain ⟨i, hi, rfl⟩ := List.mem_iff_getElem.mp h
  rw [List.length_take] at hi
  have := lb_lt (L := L) (t := t) (i := i) (by omega)
  rw [eA_get (by omega)] at this
  rw [List.getElem_take]; exact this
theorem lb_drop {L : List Ent} {t : List UInt8} (hs : Sorted L) (hn : hasE L t = false) {e : Ent} (h : e ∈ L.drop (lb L t)) : ltB t e.nm = true := by
  obtain ⟨i, hi, rfl⟩ := List.mem_iff_getElem.mp h
  rw [List.length_drop] at hi
  rw [List.getElem_drop]
  have h0 : lb L t < L.length := by omega
  have h1 := lb_at h0
  have h2 : (eA L (lb L t)).nm ≠ t := by simpa [hasE, h0] using hn
  have h3 : ltB t (eA L (lb L t)).nm = true := by
    cases h4 : ltB t (eA L (lb L t)).nm with
    | true => rfl
    | false => exact absurd (ltB_tri h1 h4) h2
  by_cases hi0 : i = 0
  · subst hi0; rw [eA_get h0] at h3; exact h3
  · have := hs (lb L t) (lb L t + i) (by omega) (by omega)
    rw [eA_get (i := lb L t + i) (by omega)] at this
    exact ltB_trans h3 this
theorem ins_sorted {L : List Ent} {e : Ent} (hs : Sorted L) (hn : hasE L e.nm = false) : Sorted (insE L (lb L e.nm) e) := by
  refine sorted_mk ?_
  have hw := sorted_pw hs
  unfold insE
  rw [List.append_assoc, List.pairwise_append]
  refine ⟨hw.sublist (List.take_sublist ..), ?_, ?_⟩
  · rw [List.singleton_append, List.pairwise_cons]
    exact ⟨fun b hb => lb_drop hs hn hb, hw.sublist (List.drop_sublist ..)⟩
  · intro a ha b hb
    rcases List.mem_append.mp hb with hb | hb
    · rw [List.mem_singleton.mp hb]; exact lb_take ha
    · exact ltB_trans (lb_take ha) (lb_drop hs hn hb)
theorem ins_mem {L : List Ent} {k : Nat} {e x : Ent} (h : x ∈ insE L k e) : x ∈ L ∨ x = e := by
  simp only [insE, List.mem_append, List.mem_singleton] at h
  rcases h with (h | h) | h
  · exact .inl (List.mem_of_mem_take h)
  · exact .inr h
  · exact .inl (List.mem_of_mem_drop h)
theorem set_sorted {L : List Ent} {k : Nat} {e : Ent} (hs : Sorted L) (hk : k < L.length) (hn : (eA L k).nm = e.nm) : Sorted (L.set k e) := by
  have key : ∀ i, i < L.length → (eA (L.set k e) i).nm = (eA L i).nm := fun i hi => by
    rw [eA_get (by rw [List.length_set]; exact hi), List.getElem_set]
    by_cases h : k = i
    · subst h; simp only [if_true]; exact hn.symm
    · simp only [h, if_false]; rw [eA_get hi]
  intro a b hab hb
  rw [List.length_set] at hb
  rw [key a (by omega), key b hb]
  exact hs a b hab hb
theorem cpL_mem {L : List Ent} {e x : Ent} (h : x ∈ cpL L e) : x ∈ L ∨ x = e := by
  unfold cpL at h
  split at h
  · split at h
    · exact List.mem_or_eq_of_mem_set h
    · split at h
      · exact .inl h
      · exact ins_mem h
  · exact .inl h
theorem cpL_ok {L : List Ent} {e : Ent} (h : catOK L = true) : catOK (cpL L e) = true := by
  unfold cpL
  split
  · rename_i hc
    have he : entOK e = true := by simp only [cpOK, Bool.and_eq_true] at hc; exact hc.2
    have hs := sorted_of h
    obtain ⟨h5, _⟩ := cat_parts h
    split
    · rename_i hh
      obtain ⟨_, g2, g3⟩ := has_get hh
      refine catOK_mk (fun x hx => ?_) (set_sorted hs g3 g2) (by rw [List.length_set]; exact h5)
      rcases List.mem_or_eq_of_mem_set hx with hx | rfl
      · exact catOK_ent h hx
      · exact he
    · rename_i hh
      split
      · exact h
      · refine catOK_mk (fun x hx => ?_) (ins_sorted hs (by simpa using hh)) (by rw [insE_len (lb_le L e.nm)]; omega)
        rcases ins_mem hx with hx | rfl
        · exact catOK_ent h hx
        · exact he
  · exact h
end Go.Proofs.YtgdldmfkgijkaaaDoor.VH.S
end

section
namespace Go.Proofs.YtgdldmfkgijkaaaDoor.VH.S
open Go.Proofs
set_option maxRecDepth 100000
set_option maxHeartbeats 8000000
set_option linter.unusedSimpArgs false

/- Drawn entries. -/
def cNames : List (List UInt8) := [[97], [98], [99, 97, 116], [100, 45, 49], [97, 98, 99, 100, 101, 102, 103, 104], [122, 122], [113, 57]]
def cBad : List (List UInt8) := [[], [65], [97, 98, 99, 100, 101, 102, 103, 104, 105]]
def NmE (t : List UInt8) : Prop := t.length ≤ 9 ∧ t ≠ [109, 109]
theorem cNames_b (i : Nat) : NmE (cNames.getD i []) := by
  match i with
  | 0 | 1 | 2 | 3 | 4 | 5 | 6 => exact ⟨by decide, by decide⟩
  | i + 7 => exact ⟨by simp [cNames], by simp [cNames]⟩
theorem cBad_b (i : Nat) : NmE (cBad.getD i []) := by
  match i with
  | 0 | 1 | 2 => exact ⟨by decide, by decide⟩
  | i + 3 => exact ⟨by simp [cBad], by simp [cBad]⟩
def drS3 (b : List Int) (s : Nat × Int) : Nat × Int := (bel b 121 (bel b 400 (bel b 7 s).2).2).2
def drM (b : List Int) (s : Nat × Int) : Int := (bel b 60000 (drS3 b s)).1 * (bel b 60000 (bel b 60000 (drS3 b s)).2).1
def drS4 (b : List Int) (s : Nat × Int) : Nat × Int := (bel b 60000 (bel b 60000 (drS3 b s)).2).2
def drE (b : List Int) (s : Nat × Int) : Ent × (Nat × Int) :=
  if (bel b 40 (drS4 b s)).1 = 0 then (⟨cBad.getD (bel b 3 (bel b 40 (drS4 b s)).2).1.toNat [], 1 + (bel b 400 (bel b 7 s).2).1, (bel b 121 (bel b 400 (bel b 7 s).2).2).1, drM b s⟩, (bel b 3 (bel b 40 (drS4 b s)).2).2)
  else if (bel b 40 (drS4 b s)).1 = 1 then (⟨cNames.getD (bel b 7 s).1.toNat [], [0, 1000000, 1000001].getD (bel b 3 (bel b 40 (drS4 b s)).2).1.toNat 0, (bel b 121 (bel b 400 (bel b 7 s).2).2).1, drM b s⟩, (bel b 3 (bel b 40 (drS4 b s)).2).2)
  else if (bel b 40 (drS4 b s)).1 = 2 then (⟨cNames.getD (bel b 7 s).1.toNat [], 1 + (bel b 400 (bel b 7 s).2).1, [-1, 120, 121].getD (bel b 3 (bel b 40 (drS4 b s)).2).1.toNat 0, drM b s⟩, (bel b 3 (bel b 40 (drS4 b s)).2).2)
  else if (bel b 40 (drS4 b s)).1 = 3 then (⟨cNames.getD (bel b 7 s).1.toNat [], 1 + (bel b 400 (bel b 7 s).2).1, (bel b 121 (bel b 400 (bel b 7 s).2).2).1, [-1, 1152921504606846975, 1152921504606846976].getD (bel b 3 (bel b 40 (drS4 b s)).2).1.toNat 0⟩, (bel b 3 (bel b 40 (drS4 b s)).2).2)
  else (⟨cNames.getD (bel b 7 s).1.toNat [], 1 + (bel b 400 (bel b 7 s).2).1, (bel b 121 (bel b 400 (bel b 7 s).2).2).1, drM b s⟩, (bel b 40 (drS4 b s)).2)
theorem drE_b (b : List Int) (s : Nat × Int) : NmE (drE b s).1.nm := by
  unfold drE
  split
  · exact cBad_b _
  · split
    · exact cNames_b _
    · split
      · exact cNames_b _
      · split <;> exact cNames_b _
theorem e58 (d : Nat) (b : List Int) (s : Nat × Int) (hb : b.length ≤ 2 ^ 39) : evFun E (d+4) 58 [.ptr 0 [] 0] [curC b s] = some (.agg [vs (drE b s).1.nm, vi (drE b s).1.v, vi (drE b s).1.s, vi (drE b s).1.r], [some (curC b (drE b s).2)]) := by
  have pN : ∀ d s, evFun E (d+3) 76 [.ptr 0 [] 0, .sl .snap 1 7 none [vs [97], vs [98], vs [99, 97, 116], vs [100, 45, 49], vs [97, 98, 99, 100, 101, 102, 103, 104], vs [122, 122], vs [113, 57]]] [curC b s] = _ := fun d s => e76 d b s hb .snap none 7 cNames rfl (by decide)
  have pB : ∀ d s, evFun E (d+3) 76 [.ptr 0 [] 0, .sl .snap 1 3 none [vs [], vs [65], vs [97, 98, 99, 100, 101, 102, 103, 104, 105]]] [curC b s] = _ := fun d s => e76 d b s hb .snap none 3 cBad rfl (by decide)
  have pV : ∀ d s, evFun E (d+3) 75 [.ptr 0 [] 0, .sl .snap 1 3 none [vi 0, vi 1000000, vi 1000001]] [curC b s] = _ := fun d s => e75g d b s hb .snap none 3 [0, 1000000, 1000001] rfl (by decide)
  have pS : ∀ d s, evFun E (d+3) 75 [.ptr 0 [] 0, .sl .snap 1 3 none [vi (-1), vi 120, vi 121]] [curC b s] = _ := fun d s => e75g d b s hb .snap none 3 [-1, 120, 121] rfl (by decide)
  have pR : ∀ d s, evFun E (d+3) 75 [.ptr 0 [] 0, .sl .snap 1 3 none [vi (-1), vi 1152921504606846975, vi 1152921504606846976]] [curC b s] = _ := fun d s => e75g d b s hb .snap none 3 [-1, 1152921504606846975, 1152921504606846976] rfl (by decide)
  obtain ⟨v0, v1⟩ := bel_b b (n := 400) (by decide) (bel b 7 s).2
  obtain ⟨t0, t1⟩ := bel_b b (n := 121) (by decide) (bel b 400 (bel b 7 s).2).2
  have hs3 : (bel b 121 (bel b 400 (bel b 7 s).2).2).2 = drS3 b s := rfl
  obtain ⟨r0, r1⟩ := bel_b b (n := 60000) (by decide) (drS3 b s)
  obtain ⟨q0, q1⟩ := bel_b b (n := 60000) (by decide) (bel b 60000 (drS3 b s)).2
  have hm0 : 0 ≤ drM b s := Int.mul_nonneg r0 q0
  have hm1 : drM b s ≤ 60000 * 60000 := Int.mul_le_mul (by omega) (by omega) q0 (by decide)
  have hM : (bel b 60000 (drS3 b s)).1 * (bel b 60000 (bel b 60000 (drS3 b s)).2).1 = drM b s := rfl
  have hs4 : (bel b 60000 (bel b 60000 (drS3 b s)).2).2 = drS4 b s := rfl
  obtain ⟨w0, w1⟩ := bel_b b (n := 40) (by decide) (drS4 b s)
  have c : (bel b 40 (drS4 b s)).1 = 0 ∨ (bel b 40 (drS4 b s)).1 = 1 ∨ (bel b 40 (drS4 b s)).1 = 2 ∨ (bel b 40 (drS4 b s)).1 = 3 ∨ 4 ≤ (bel b 40 (drS4 b s)).1 := by omega
  refine evFun_body b58 ?_
  rcases c with c | c | c | c | c
  · rw [drE, if_pos c]
    (have fz := ga7 hs3 hM hs4 pN pV pS pR; repeat' (first | simp (maxDischargeDepth := 8) only [go_sem, rr, reduceIte, reduceCtorEq, Nat.reduceEqDiff, Nat.reduceAdd, Nat.reduceMul, Nat.reduceSub, Nat.reduceBEq, Nat.reduceLeDiff, Int.reduceEq, Int.reduceLT, Int.reduceLE, Int.reduceGE, Int.reduceGT, Int.reduceBEq, Int.reduceBNe, Int.reduceToNat, Int.reduceNeg, Int.reduceSub, Int.reduceAdd, Int.reduceMul, fz, pB, cur_own, cur_snap, Tryd.f58] | (with_reducible refine qg9 ?_ ?_; focus (first | (simp (maxDischargeDepth := 8) only [bb, kk, fz, pB, cur_own, cur_snap]; done) | kernel_rfl)) | ((with_reducible first | refine qf7 ?_ ?_ | refine qf8 ?_ ?_ | refine qf9 ?_ ?_ | refine qg ?_ ?_ | refine qg0 ?_ ?_ | refine qg1 ?_ ?_ | refine qg2 ?_ ?_); focus (first | assumption | omega | (simp only [bz, fz, pB, cur_own, cur_snap]; omega))) | ((with_reducible first | refine qg3 ?_ ?_ | refine qg4 ?_ ?_ | refine qg5 ?_ ?_); focus (first | assumption | omega | (simp only [bz, fz, pB, cur_own, cur_snap]; omega))) | ((with_reducible first | refine g1_u8w ?_ ?_ | refine qg7 ?_ ?_); (focus ((repeat' (with_reducible apply And.intro)) <;> (first | assumption | omega | (simp only [bz, fz, pB, cur_own, cur_snap]; omega) | (simp (maxDischargeDepth := 8) only [bb, fz, pB, cur_own, cur_snap]; done)))); intro _) | (with_reducible apply call_elim; focus ((with_reducible first | apply e53) <;> (first | assumption | omega | (simp only [bz, fz, pB, cur_own, cur_snap]; omega) | (simp (maxDischargeDepth := 8) only [bb, fz, pB, cur_own, cur_snap]; done))))))
  · rw [drE, if_neg (by omega), if_pos c]
    (have fz := ga7 hs3 hM hs4 pN pV pS pR; repeat' (first | simp (maxDischargeDepth := 8) only [go_sem, rr, reduceIte, reduceCtorEq, Nat.reduceEqDiff, Nat.reduceAdd, Nat.reduceMul, Nat.reduceSub, Nat.reduceBEq, Nat.reduceLeDiff, Int.reduceEq, Int.reduceLT, Int.reduceLE, Int.reduceGE, Int.reduceGT, Int.reduceBEq, Int.reduceBNe, Int.reduceToNat, Int.reduceNeg, Int.reduceSub, Int.reduceAdd, Int.reduceMul, fz, pB, cur_own, cur_snap, Tryd.f58] | (with_reducible refine qg9 ?_ ?_; focus (first | (simp (maxDischargeDepth := 8) only [bb, kk, fz, pB, cur_own, cur_snap]; done) | kernel_rfl)) | ((with_reducible first | refine qf7 ?_ ?_ | refine qf8 ?_ ?_ | refine qf9 ?_ ?_ | refine qg ?_ ?_ | refine qg0 ?_ ?_ | refine qg1 ?_ ?_ | refine qg2 ?_ ?_); focus (first | assumption | omega | (simp only [bz, fz, pB, cur_own, cur_snap]; omega))) | ((with_reducible first | refine qg3 ?_ ?_ | refine qg4 ?_ ?_ | refine qg5 ?_ ?_); focus (first | assumption | omega | (simp only [bz, fz, pB, cur_own, cur_snap]; omega))) | ((with_reducible first | refine g1_u8w ?_ ?_ | refine qg7 ?_ ?_); (focus ((repeat' (with_reducible apply And.intro)) <;> (first | assumption | omega | (simp only [bz, fz, pB, cur_own, cur_snap]; omega) | (simp (maxDischargeDepth := 8) only [bb, fz, pB, cur_own, cur_snap]; done)))); intro _) | (with_reducible apply call_elim; focus ((with_reducible first | apply e53) <;> (first | assumption | omega | (simp only [bz, fz, pB, cur_own, cur_snap]; omega) | (simp (maxDischargeDepth := 8) only [bb, fz, pB, cur_own, cur_snap]; done))))))
  · rw [drE, if_neg (by omega), if_neg (by omega), if_pos c]
    (have fz := ga7 hs3 hM hs4 pN pV pS pR; repeat' (first | simp (maxDischargeDepth := 8) only [go_sem, rr, reduceIte, reduceCtorEq, Nat.reduceEqDiff, Nat.reduceAdd, Nat.reduceMul, Nat.reduceSub, Nat.reduceBEq, Nat.reduceLeDiff, Int.reduceEq, Int.reduceLT, Int.reduceLE, Int.reduceGE, Int.reduceGT, Int.reduceBEq, Int.reduceBNe, Int.reduceToNat, Int.reduceNeg, Int.reduceSub, Int.reduceAdd, Int.reduceMul, fz, pB, cur_own, cur_snap, Tryd.f58] | (with_reducible refine qg9 ?_ ?_; focus (first | (simp (maxDischargeDepth := 8) only [bb, kk, fz, pB, cur_own, cur_snap]; done) | kernel_rfl)) | ((with_reducible first | refine qf7 ?_ ?_ | refine qf8 ?_ ?_ | refine qf9 ?_ ?_ | refine qg ?_ ?_ | refine qg0 ?_ ?_ | refine qg1 ?_ ?_ | refine qg2 ?_ ?_); focus (first | assumption | omega | (simp only [bz, fz, pB, cur_own, cur_snap]; omega))) | ((with_reducible first | refine qg3 ?_ ?_ | refine qg4 ?_ ?_ | refine qg5 ?_ ?_); focus (first | assumption | omega | (simp only [bz, fz, pB, cur_own, cur_snap]; omega))) | ((with_reducible first | refine g1_u8w ?_ ?_ | refine qg7 ?_ ?_); (focus ((repeat' (with_reducible apply And.intro)) <;> (first | assumption | omega | (simp only [bz, fz, pB, cur_own, cur_snap]; omega) | (simp (maxDischargeDepth := 8) only [bb, fz, pB, cur_own, cur_snap]; done)))); intro _) | (with_reducible apply call_elim; focus ((with_reducible first | apply e53) <;> (first | assumption | omega | (simp only [bz, fz, pB, cur_own, cur_snap]; omega) | (simp (maxDischargeDepth := 8) only [bb, fz, pB, cur_own, cur_snap]; done))))))
  · rw [drE, if_neg (by omega), if_neg (by omega), if_neg (by omega), if_pos c]
    (have fz := ga7 hs3 hM hs4 pN pV pS pR; repeat' (first | simp (maxDischargeDepth := 8) only [go_sem, rr, reduceIte, reduceCtorEq, Nat.reduceEqDiff, Nat.reduceAdd, Nat.reduceMul, Nat.reduceSub, Nat.reduceBEq, Nat.reduceLeDiff, Int.reduceEq, Int.reduceLT, Int.reduceLE, Int.reduceGE, Int.reduceGT, Int.reduceBEq, Int.reduceBNe, Int.reduceToNat, Int.reduceNeg, Int.reduceSub, Int.reduceAdd, Int.reduceMul, fz, pB, cur_own, cur_snap, Tryd.f58] | (with_reducible refine qg9 ?_ ?_; focus (first | (simp (maxDischargeDepth := 8) only [bb, kk, fz, pB, cur_own, cur_snap]; done) | kernel_rfl)) | ((with_reducible first | refine qf7 ?_ ?_ | refine qf8 ?_ ?_ | refine qf9 ?_ ?_ | refine qg ?_ ?_ | refine qg0 ?_ ?_ | refine qg1 ?_ ?_ | refine qg2 ?_ ?_); focus (first | assumption | omega | (simp only [bz, fz, pB, cur_own, cur_snap]; omega))) | ((with_reducible first | refine qg3 ?_ ?_ | refine qg4 ?_ ?_ | refine qg5 ?_ ?_); focus (first | assumption | omega | (simp only [bz, fz, pB, cur_own, cur_snap]; omega))) | ((with_reducible first | refine g1_u8w ?_ ?_ | refine qg7 ?_ ?_); (focus ((repeat' (with_reducible apply And.intro)) <;> (first | assumption | omega | (simp only [bz, fz, pB, cur_own, cur_snap]; omega) | (simp (maxDischargeDepth := 8) only [bb, fz, pB, cur_own, cur_snap]; done)))); intro _) | (with_reducible apply call_elim; focus ((with_reducible first | apply e53) <;> (first | assumption | omega | (simp only [bz, fz, pB, cur_own, cur_snap]; omega) | (simp (maxDischargeDepth := 8) only [bb, fz, pB, cur_own, cur_snap]; done))))))
  · rw [drE, if_neg (by omega), if_neg (by omega), if_neg (by omega), if_neg (by omega)]
    (have fz := ga7 hs3 hM hs4 pN pV pS pR; repeat' (first | simp (maxDischargeDepth := 8) only [go_sem, rr, reduceIte, reduceCtorEq, Nat.reduceEqDiff, Nat.reduceAdd, Nat.reduceMul, Nat.reduceSub, Nat.reduceBEq, Nat.reduceLeDiff, Int.reduceEq, Int.reduceLT, Int.reduceLE, Int.reduceGE, Int.reduceGT, Int.reduceBEq, Int.reduceBNe, Int.reduceToNat, Int.reduceNeg, Int.reduceSub, Int.reduceAdd, Int.reduceMul, fz, pB, cur_own, cur_snap, Tryd.f58] | (with_reducible refine qg9 ?_ ?_; focus (first | (simp (maxDischargeDepth := 8) only [bb, kk, fz, pB, cur_own, cur_snap]; done) | kernel_rfl)) | ((with_reducible first | refine qf7 ?_ ?_ | refine qf8 ?_ ?_ | refine qf9 ?_ ?_ | refine qg ?_ ?_ | refine qg0 ?_ ?_ | refine qg1 ?_ ?_ | refine qg2 ?_ ?_); focus (first | assumption | omega | (simp only [bz, fz, pB, cur_own, cur_snap]; omega))) | ((with_reducible first | refine qg3 ?_ ?_ | refine qg4 ?_ ?_ | refine qg5 ?_ ?_); focus (first | assumption | omega | (simp only [bz, fz, pB, cur_own, cur_snap]; omega))) | ((with_reducible first | refine g1_u8w ?_ ?_ | refine qg7 ?_ ?_); (focus ((repeat' (with_reducible apply And.intro)) <;> (first | assumption | omega | (simp only [bz, fz, pB, cur_own, cur_snap]; omega) | (simp (maxDischargeDepth := 8) only [bb, fz, pB, cur_own, cur_snap]; done)))); intro _) | (with_reducible apply call_elim; focus ((with_reducible first | apply e53) <;> (first | assumption | omega | (simp only [bz, fz, pB, cur_own, cur_snap]; omega) | (simp (maxDischargeDepth := 8) only [bb, fz, pB, cur_own, cur_snap]; done))))))
/- Drawn catalogs. -/
def Nms (L : List Ent) : Prop := ∀ e ∈ L, NmE e.nm
theorem small_nm {L : List Ent} (h : Nms L) (hl : L.length ≤ 1000) : Small L := by
  refine ⟨by omega, fun i => ?_⟩
  by_cases hi : i < L.length
  · rw [eA_get hi]
    have := (h _ (List.getElem_mem hi)).1
    omega
  · have : eA L i = e0 := by rw [eA, List.getD_eq_getElem?_getD, List.getElem?_eq_none (by omega)]; rfl
    rw [this]; decide
theorem nms_put {L : List Ent} {e : Ent} (h : Nms L) (he : NmE e.nm) : Nms (cpL L e) := fun x hx => by
  rcases cpL_mem hx with hx | rfl
  · exact h x hx
  · exact he
def dcS (b : List Int) (s : Nat × Int) : Nat → List Ent × (Nat × Int)
  | 0 => ([], s)
  | i + 1 => (cpL (dcS b s i).1 (drE b (dcS b s i).2).1, (drE b (dcS b s i).2).2)
def dcC (b : List Int) (s : Nat × Int) : Nat → Option Nat
  | 0 => some 0
  | i + 1 => cpC (dcS b s i).1 (drE b (dcS b s i).2).1
theorem dcS_ok (b : List Int) (s : Nat × Int) : ∀ i, catOK (dcS b s i).1 = true
  | 0 => rfl
  | i + 1 => cpL_ok (dcS_ok b s i)
theorem dcS_nms (b : List Int) (s : Nat × Int) : ∀ i, Nms (dcS b s i).1
  | 0 => fun e h => by simp [dcS] at h
  | i + 1 => nms_put (dcS_nms b s i) (drE_b b _)
theorem dcS_small (b : List Int) (s : Nat × Int) (i : Nat) : Small (dcS b s i).1 := small_nm (dcS_nms b s i) (by have := (cat_parts (dcS_ok b s i)).1; omega)
theorem e64 (d : Nat) (b : List Int) (s : Nat × Int) (hb : b.length ≤ 2 ^ 39) : evFun E (d+7) 64 [.ptr 0 [] 0] [curC b s] = some (.ref 1 [] 4 0 (dcS b (bel b 8 s).2 (bel b 8 s).1.toNat).1.length (dcC b (bel b 8 s).2 (bel b 8 s).1.toNat), [some (curC b (dcS b (bel b 8 s).2 (bel b 8 s).1.toNat).2), some (flat encE (dcS b (bel b 8 s).2 (bel b 8 s).1.toNat).1)]) := by
  have hB := fun d => e53 d b 8 s hb (by decide)
  obtain ⟨k0, k1⟩ := bel_b b (n := 8) (by decide) s
  generalize (bel b 8 s).2 = s0 at hB ⊢
  generalize (bel b 8 s).1 = k at hB k0 k1 ⊢
  refine evFun_body b64 ?_
  (repeat' (first | simp (maxDischargeDepth := 8) only [go_sem, rr, reduceIte, reduceCtorEq, Nat.reduceEqDiff, Nat.reduceAdd, Nat.reduceMul, Nat.reduceSub, Nat.reduceBEq, Nat.reduceLeDiff, Int.reduceEq, Int.reduceLT, Int.reduceLE, Int.reduceGE, Int.reduceGT, Int.reduceBEq, Int.reduceBNe, Int.reduceToNat, Int.reduceNeg, Int.reduceSub, Int.reduceAdd, Int.reduceMul, hB, cur_own, Tryd.f64] | (with_reducible refine qg9 ?_ ?_; focus (first | (simp (maxDischargeDepth := 8) only [bb, kk, hB, cur_own]; done) | kernel_rfl)) | ((with_reducible first | refine qf7 ?_ ?_ | refine qf8 ?_ ?_ | refine qf9 ?_ ?_ | refine qg ?_ ?_ | refine qg0 ?_ ?_ | refine qg1 ?_ ?_ | refine qg2 ?_ ?_); focus (first | assumption | omega | (simp only [bz, hB, cur_own]; omega))) | ((with_reducible first | refine qg3 ?_ ?_ | refine qg4 ?_ ?_ | refine qg5 ?_ ?_); focus (first | assumption | omega | (simp only [bz, hB, cur_own]; omega))) | ((with_reducible first | refine g1_u8w ?_ ?_ | refine qg7 ?_ ?_); (focus ((repeat' (with_reducible apply And.intro)) <;> (first | assumption | omega | (simp only [bz, hB, cur_own]; omega) | (simp (maxDischargeDepth := 8) only [bb, hB, cur_own]; done)))); intro _)))
  refine loop_go (fun i => {T := tp [(0, .ptr 0 [] 0), (3, .ref 1 [] 4 0 (dcS b s0 i).1.length (dcC b s0 i)), (4, vi (k - i))], H := hp [some (curC b (dcS b s0 i).2), some (flat encE (dcS b s0 i).1)], nx := 2}) k.toNat ?_ (lt_LF (by omega)) (fun i hi Kn hK => ?_) (fun Kn => ?_)
  · simp only [vv, ff, norm, Array.toList, List.map, Option.isSome_none, bne_self_eq_false, reduceIte, reduceCtorEq, Nat.reduceEqDiff, Nat.reduceAdd, Nat.reduceMul, Nat.reduceSub, Nat.reduceBEq, Nat.reduceLeDiff, Int.reduceEq, Int.reduceLT, Int.reduceLE, Int.reduceGE, Int.reduceGT, Int.reduceBEq, Int.reduceBNe, Int.reduceToNat, Int.reduceNeg, Int.reduceSub, Int.reduceAdd, Int.reduceMul, finish, qf0, resOf, resa, qf1, qf2, qf3, keep, qf4, qf5, qf6, qe9, qf, Int.natCast_zero, Int.sub_zero, dcS, dcC, flat, List.map_nil, List.length_nil, List.flatten_nil]
  · have hS := dcS_small b s0 i
    have hE := drE_b b (dcS b s0 i).2
    have hlen := fE_len (dcS b s0 i).1
    have hlen2 := fE_len (cpL (dcS b s0 i).1 (drE b (dcS b s0 i).2).1)
    have hown := anyOwn_encE (dcS b s0 i).1
    have hsn := noSnapL_encE (dcS b s0 i).1
    have hP : ∀ d tg c, evFun E (d+6) 57 [.sl tg 4 (dcS b s0 i).1.length c (flat encE (dcS b s0 i).1), .agg [vs (drE b (dcS b s0 i).2).1.nm, vi (drE b (dcS b s0 i).2).1.v, vi (drE b (dcS b s0 i).2).1.s, vi (drE b (dcS b s0 i).2).1.r]] [] = _ := fun d tg c => e57 d (dcS b s0 i).1 (drE b (dcS b s0 i).2).1 tg c hS (by have := hE.1; omega)
    (have fz := ga5 hP hlen hlen2 hown hsn; repeat' (first | simp (maxDischargeDepth := 8) only [go_sem, rr, reduceIte, reduceCtorEq, Nat.reduceEqDiff, Nat.reduceAdd, Nat.reduceMul, Nat.reduceSub, Nat.reduceBEq, Nat.reduceLeDiff, Int.reduceEq, Int.reduceLT, Int.reduceLE, Int.reduceGE, Int.reduceGT, Int.reduceBEq, Int.reduceBNe, Int.reduceToNat, Int.reduceNeg, Int.reduceSub, Int.reduceAdd, Int.reduceMul, fz, cur_own, cur_snap] | (with_reducible refine qg9 ?_ ?_; focus (first | (simp (maxDischargeDepth := 8) only [bb, kk, fz, cur_own, cur_snap]; done) | kernel_rfl)) | ((with_reducible first | refine qf7 ?_ ?_ | refine qf8 ?_ ?_ | refine qf9 ?_ ?_ | refine qg ?_ ?_ | refine qg0 ?_ ?_ | refine qg1 ?_ ?_ | refine qg2 ?_ ?_); focus (first | assumption | omega | (simp only [bz, fz, cur_own, cur_snap]; omega))) | ((with_reducible first | refine qg3 ?_ ?_ | refine qg4 ?_ ?_ | refine qg5 ?_ ?_); focus (first | assumption | omega | (simp only [bz, fz, cur_own, cur_snap]; omega))) | ((with_reducible first | refine g1_u8w ?_ ?_ | refine qg7 ?_ ?_); (focus ((repeat' (with_reducible apply And.intro)) <;> (first | assumption | omega | (simp only [bz, fz, cur_own, cur_snap]; omega) | (simp (maxDischargeDepth := 8) only [bb, fz, cur_own, cur_snap]; done)))); intro _) | (with_reducible apply call_elim; focus ((with_reducible first | apply e58) <;> (first | assumption | omega | (simp only [bz, fz, cur_own, cur_snap]; omega) | (simp (maxDischargeDepth := 8) only [bb, fz, cur_own, cur_snap]; done))))))
    refine hK _ ?_
    simp only [vv, ff, norm, Array.toList, List.map, Option.isSome_none, bne_self_eq_false, reduceIte, reduceCtorEq, Nat.reduceEqDiff, Nat.reduceAdd, Nat.reduceMul, Nat.reduceSub, Nat.reduceBEq, Nat.reduceLeDiff, Int.reduceEq, Int.reduceLT, Int.reduceLE, Int.reduceGE, Int.reduceGT, Int.reduceBEq, Int.reduceBNe, Int.reduceToNat, Int.reduceNeg, Int.reduceSub, Int.reduceAdd, Int.reduceMul, finish, qf0, resOf, resa, qf1, qf2, qf3, keep, qf4, qf5, qf6, qe9, qf, Int.natCast_add, cst1, dcS, dcC, Int.sub_sub]
  · have hlen := fE_len (dcS b s0 k.toNat).1
    have hown := anyOwn_encE (dcS b s0 k.toNat).1
    have hsn := noSnapL_encE (dcS b s0 k.toNat).1
    (have fz := ga3 hlen hown hsn; repeat' (first | simp (maxDischargeDepth := 8) only [go_sem, rr, reduceIte, reduceCtorEq, Nat.reduceEqDiff, Nat.reduceAdd, Nat.reduceMul, Nat.reduceSub, Nat.reduceBEq, Nat.reduceLeDiff, Int.reduceEq, Int.reduceLT, Int.reduceLE, Int.reduceGE, Int.reduceGT, Int.reduceBEq, Int.reduceBNe, Int.reduceToNat, Int.reduceNeg, Int.reduceSub, Int.reduceAdd, Int.reduceMul, fz, cur_own, cur_snap] | (with_reducible refine qg9 ?_ ?_; focus (first | (simp (maxDischargeDepth := 8) only [bb, kk, fz, cur_own, cur_snap]; done) | kernel_rfl)) | ((with_reducible first | refine qf7 ?_ ?_ | refine qf8 ?_ ?_ | refine qf9 ?_ ?_ | refine qg ?_ ?_ | refine qg0 ?_ ?_ | refine qg1 ?_ ?_ | refine qg2 ?_ ?_); focus (first | assumption | omega | (simp only [bz, fz, cur_own, cur_snap]; omega))) | ((with_reducible first | refine qg3 ?_ ?_ | refine qg4 ?_ ?_ | refine qg5 ?_ ?_); focus (first | assumption | omega | (simp only [bz, fz, cur_own, cur_snap]; omega))) | ((with_reducible first | refine g1_u8w ?_ ?_ | refine qg7 ?_ ?_); (focus ((repeat' (with_reducible apply And.intro)) <;> (first | assumption | omega | (simp only [bz, fz, cur_own, cur_snap]; omega) | (simp (maxDischargeDepth := 8) only [bb, fz, cur_own, cur_snap]; done)))); intro _)))
end Go.Proofs.YtgdldmfkgijkaaaDoor.VH.S
end

section
namespace Go.Proofs.YtgdldmfkgijkaaaDoor.VH.S
open Go.Proofs
set_option maxRecDepth 100000
set_option maxHeartbeats 8000000
set_option linter.unusedSimpArgs false

/- Two drawn catalogs. -/
/- reducible -/
structure DA where
  L : List Ent
  c : Option Nat
  s : Nat × Int
def daX (b : List Int) (x : DA) : DA := if (bel b 10 x.s).1 = 0 then ⟨x.L ++ [(drE b (bel b 10 x.s).2).1], none, (drE b (bel b 10 x.s).2).2⟩ else ⟨x.L, x.c, (bel b 10 x.s).2⟩
def daN (b : List Int) (s : Nat × Int) : DA := daX b ⟨(dcS b (bel b 8 s).2 (bel b 8 s).1.toNat).1, dcC b (bel b 8 s).2 (bel b 8 s).1.toNat, (dcS b (bel b 8 s).2 (bel b 8 s).1.toNat).2⟩
theorem daX_b (b : List Int) {x : DA} (h : Nms x.L) (h5 : x.L.length ≤ 5) : Nms (daX b x).L ∧ (daX b x).L.length ≤ 6 := by
  unfold daX
  split
  · refine ⟨fun e he => ?_, by simp; omega⟩
    rcases List.mem_append.mp he with he | he
    · exact h e he
    · rw [List.mem_singleton.mp he]; exact drE_b b _
  · exact ⟨h, by show x.L.length ≤ 6; omega⟩
theorem daN_b (b : List Int) (s : Nat × Int) : Nms (daN b s).L ∧ (daN b s).L.length ≤ 6 :=
  daX_b b (dcS_nms b _ _) (cat_parts (dcS_ok b _ _)).1
theorem fE_app1 (L : List Ent) (e : Ent) : flat encE L ++ [vs e.nm, vi e.v, vi e.s, vi e.r] = flat encE (L ++ [e]) := by rw [flat_app]; simp [flat]
theorem e55 (d : Nat) (b : List Int) (s : Nat × Int) (hb : b.length ≤ 2 ^ 39) : evFun E (d+8) 55 [.ptr 0 [] 0] [curC b s] = some (.ref 1 [] 4 0 (daN b s).L.length (daN b s).c, [some (curC b (daN b s).s), some (flat encE (daN b s).L)]) := by
  have hD := e64 d b s hb
  have h5 := (cat_parts (dcS_ok b (bel b 8 s).2 (bel b 8 s).1.toNat)).1
  unfold daN
  generalize (dcS b (bel b 8 s).2 (bel b 8 s).1.toNat).1 = L at hD h5 ⊢
  generalize dcC b (bel b 8 s).2 (bel b 8 s).1.toNat = c at hD ⊢
  generalize (dcS b (bel b 8 s).2 (bel b 8 s).1.toNat).2 = s1 at hD ⊢
  have hlen := fE_len L
  have hown := anyOwn_encE L
  have hsn := noSnapL_encE L
  have hO : ∀ d, evFun E (d+3) 51 [.ptr 0 [] 0, vi 10] [curC b s1] = _ := fun d => e51 d b 10 s1 hb (by decide)
  refine evFun_body b55 ?_
  by_cases h0 : (bel b 10 s1).1 = 0
  · rw [daX, if_pos h0]
    have hb0 : ((bel b 10 s1).1 == 0) = true := by rw [h0]; rfl
    rw [hb0] at hO
    have hlen2 := fE_len (L ++ [(drE b (bel b 10 s1).2).1])
    have hown2 := anyOwn_encE (L ++ [(drE b (bel b 10 s1).2).1])
    have hsn2 := noSnapL_encE (L ++ [(drE b (bel b 10 s1).2).1])
    (have fz := ga8 hD hO hlen hown hsn hlen2 hown2 hsn2; repeat' (first | simp (maxDischargeDepth := 8) only [go_sem, rr, reduceIte, reduceCtorEq, Nat.reduceEqDiff, Nat.reduceAdd, Nat.reduceMul, Nat.reduceSub, Nat.reduceBEq, Nat.reduceLeDiff, Int.reduceEq, Int.reduceLT, Int.reduceLE, Int.reduceGE, Int.reduceGT, Int.reduceBEq, Int.reduceBNe, Int.reduceToNat, Int.reduceNeg, Int.reduceSub, Int.reduceAdd, Int.reduceMul, fz, fE_app1, List.length_append, List.length_cons, List.length_nil, capK_pos Nat.one_pos, cur_own, cur_snap, Tryd.f55] | (with_reducible refine qg9 ?_ ?_; focus (first | (simp (maxDischargeDepth := 8) only [bb, kk, fz, fE_app1, List.length_append, List.length_cons, List.length_nil, capK_pos Nat.one_pos, cur_own, cur_snap]; done) | kernel_rfl)) | ((with_reducible first | refine qf7 ?_ ?_ | refine qf8 ?_ ?_ | refine qf9 ?_ ?_ | refine qg ?_ ?_ | refine qg0 ?_ ?_ | refine qg1 ?_ ?_ | refine qg2 ?_ ?_); focus (first | with_reducible assumption | omega | (simp only [bz, fz, fE_app1, List.length_append, List.length_cons, List.length_nil, capK_pos Nat.one_pos, cur_own, cur_snap]; omega))) | ((with_reducible first | refine qg3 ?_ ?_ | refine qg4 ?_ ?_ | refine qg5 ?_ ?_); focus (first | with_reducible assumption | omega | (simp only [bz, fz, fE_app1, List.length_append, List.length_cons, List.length_nil, capK_pos Nat.one_pos, cur_own, cur_snap]; omega))) | ((with_reducible first | refine g1_u8w ?_ ?_ | refine qg7 ?_ ?_); (focus ((repeat' (with_reducible apply And.intro)) <;> (first | with_reducible assumption | omega | (simp only [bz, fz, fE_app1, List.length_append, List.length_cons, List.length_nil, capK_pos Nat.one_pos, cur_own, cur_snap]; omega) | (simp (maxDischargeDepth := 8) only [bb, fz, fE_app1, List.length_append, List.length_cons, List.length_nil, capK_pos Nat.one_pos, cur_own, cur_snap]; done)))); intro _) | (with_reducible apply call_elim; focus ((with_reducible first | apply e58) <;> (first | with_reducible assumption | omega | (simp only [bz, fz, fE_app1, List.length_append, List.length_cons, List.length_nil, capK_pos Nat.one_pos, cur_own, cur_snap]; omega) | (simp (maxDischargeDepth := 8) only [bb, fz, fE_app1, List.length_append, List.length_cons, List.length_nil, capK_pos Nat.one_pos, cur_own, cur_snap]; done))))))
  · rw [daX, if_neg h0]
    have hb0 : ((bel b 10 s1).1 == 0) = false := beq_eq_false_iff_ne.mpr h0
    rw [hb0] at hO
    (have fz := ga5 hD hO hlen hown hsn; repeat' (first | simp (maxDischargeDepth := 8) only [go_sem, rr, reduceIte, reduceCtorEq, Nat.reduceEqDiff, Nat.reduceAdd, Nat.reduceMul, Nat.reduceSub, Nat.reduceBEq, Nat.reduceLeDiff, Int.reduceEq, Int.reduceLT, Int.reduceLE, Int.reduceGE, Int.reduceGT, Int.reduceBEq, Int.reduceBNe, Int.reduceToNat, Int.reduceNeg, Int.reduceSub, Int.reduceAdd, Int.reduceMul, fz, cur_own, cur_snap, Tryd.f55] | (with_reducible refine qg9 ?_ ?_; focus (first | (simp (maxDischargeDepth := 8) only [bb, kk, fz, cur_own, cur_snap]; done) | kernel_rfl)) | ((with_reducible first | refine qf7 ?_ ?_ | refine qf8 ?_ ?_ | refine qf9 ?_ ?_ | refine qg ?_ ?_ | refine qg0 ?_ ?_ | refine qg1 ?_ ?_ | refine qg2 ?_ ?_); focus (first | with_reducible assumption | omega | (simp only [bz, fz, cur_own, cur_snap]; omega))) | ((with_reducible first | refine qg3 ?_ ?_ | refine qg4 ?_ ?_ | refine qg5 ?_ ?_); focus (first | with_reducible assumption | omega | (simp only [bz, fz, cur_own, cur_snap]; omega))) | ((with_reducible first | refine g1_u8w ?_ ?_ | refine qg7 ?_ ?_); (focus ((repeat' (with_reducible apply And.intro)) <;> (first | with_reducible assumption | omega | (simp only [bz, fz, cur_own, cur_snap]; omega) | (simp (maxDischargeDepth := 8) only [bb, fz, cur_own, cur_snap]; done)))); intro _)))
/-- the second catalog on its way: its row, how much of it counts, its room, the drawing's state -/
structure DB where
  M : List Ent
  n : Nat
  c : Option Nat
  s : Nat × Int
def dbX (b : List Int) (x : DB) : DB :=
  if (bel b 2 x.s).1 = 0 then ⟨cpL (x.M.take x.n) (drE b (bel b 2 x.s).2).1, (cpL (x.M.take x.n) (drE b (bel b 2 x.s).2).1).length, cpC (x.M.take x.n) (drE b (bel b 2 x.s).2).1, (drE b (bel b 2 x.s).2).2⟩
  else if cdOK (x.M.take x.n) (drE b (bel b 2 x.s).2).1.nm = true then ⟨dropE (x.M.take x.n) (lb (x.M.take x.n) (drE b (bel b 2 x.s).2).1.nm) ++ (x.M.take x.n).drop ((x.M.take x.n).length - 1), (x.M.take x.n).length - 1, none, (drE b (bel b 2 x.s).2).2⟩
  else ⟨x.M.take x.n, (x.M.take x.n).length, capK (some 0) (x.M.take x.n).length, (drE b (bel b 2 x.s).2).2⟩
def dbS (b : List Int) (x : DB) : Nat → DB
  | 0 => x
  | i + 1 => dbX b (dbS b x i)
def DBok (x : DB) (m : Nat) : Prop := Nms x.M ∧ x.M.length ≤ m ∧ x.n ≤ x.M.length
theorem nms_take {L : List Ent} (h : Nms L) (n : Nat) : Nms (L.take n) := fun e he => h e (List.mem_of_mem_take he)
theorem dbX_ok (b : List Int) {x : DB} {m : Nat} (h : DBok x m) : DBok (dbX b x) (m + 1) := by
  obtain ⟨h1, h2, h3⟩ := h
  have hT := nms_take h1 x.n
  have hl : (x.M.take x.n).length = x.n := by rw [List.length_take]; omega
  unfold dbX
  split
  · have := cpL_le (x.M.take x.n) (drE b (bel b 2 x.s).2).1
    exact ⟨nms_put hT (drE_b b _), by show (cpL _ _).length ≤ m + 1; omega, Nat.le_refl _⟩
  · split
    · rename_i hc
      have hh : hasE (x.M.take x.n) (drE b (bel b 2 x.s).2).1.nm = true := by simp only [cdOK, Bool.and_eq_true] at hc; exact hc.2
      have hlt := (has_get hh).2.2
      have hd := dropE_len hlt
      refine ⟨fun e he => ?_, ?_, ?_⟩
      · simp only [dropE, List.mem_append] at he
        rcases he with (he | he) | he
        · exact hT e (List.mem_of_mem_take he)
        · exact hT e (List.mem_of_mem_drop he)
        · exact hT e (List.mem_of_mem_drop he)
      · simp only [List.length_append, hd, List.length_drop]; omega
      · simp only [List.length_append, hd, List.length_drop]; omega
    · exact ⟨hT, by show (x.M.take x.n).length ≤ m + 1; omega, Nat.le_refl _⟩
theorem dbS_ok (b : List Int) {x : DB} {m : Nat} (h : DBok x m) : ∀ i, DBok (dbS b x i) (m + i)
  | 0 => h
  | i + 1 => dbX_ok b (dbS_ok b h i)
theorem e21 (d : Nat) (b : List Int) (hb : b.length ≤ 2 ^ 39) : ∃ A M n cA cB, evFun E (d+9) 21 [.sl .fgn 1 b.length none (b.map (iv .u8))] [] = some (.tup [.ref 0 [] 4 0 A.length cA, .ref 1 [] 4 0 n cB], [some (flat encE A), some (flat encE M)]) ∧ Nms A ∧ A.length ≤ 6 ∧ Nms M ∧ M.length ≤ 9 ∧ n ≤ M.length := by
  have hD := e55 d b (0, newH b (newN b)) hb
  obtain ⟨a1, a2⟩ := daN_b b (0, newH b (newN b))
  generalize daN b (0, newH b (newN b)) = x at hD a1 a2
  obtain ⟨A, cA, s⟩ := x
  simp only [] at hD a1 a2
  have hcp : ∀ d tg c, evFun E (d+1) 56 [.sl tg 4 A.length c (flat encE A)] [] = _ := fun d tg c => e56 d tg c A (by omega)
  have hB : ∀ d, evFun E (d+2) 53 [.ptr 0 [] 0, vi 4] [curC b s] = _ := fun d => e53 d b 4 s hb (by decide)
  obtain ⟨k0, k1⟩ := bel_b b (n := 4) (by decide) s
  generalize (bel b 4 s).2 = s0 at hB
  generalize (bel b 4 s).1 = k at hB k0 k1
  have hok := dbS_ok b (x := ⟨A, A.length, capK (some 0) A.length, s0⟩) (m := 6) ⟨a1, a2, Nat.le_refl _⟩
  obtain ⟨z1, z2, z3⟩ := hok k.toNat
  have hlen := fE_len A
  have hown := anyOwn_encE A
  have hsn := noSnapL_encE A
  generalize hx : (⟨A, A.length, capK (some 0) A.length, s0⟩ : DB) = x at hok z1 z2 z3 ⊢
  refine ⟨A, (dbS b x k.toNat).M, (dbS b x k.toNat).n, cA, (dbS b x k.toNat).c, evFun_body b21 ?_, a1, a2, z1, by omega, z3⟩
  (have fz := ga6 hD hcp hB hlen hown hsn; repeat' (first | simp (maxDischargeDepth := 8) only [go_sem, rr, reduceIte, reduceCtorEq, Nat.reduceEqDiff, Nat.reduceAdd, Nat.reduceMul, Nat.reduceSub, Nat.reduceBEq, Nat.reduceLeDiff, Int.reduceEq, Int.reduceLT, Int.reduceLE, Int.reduceGE, Int.reduceGT, Int.reduceBEq, Int.reduceBNe, Int.reduceToNat, Int.reduceNeg, Int.reduceSub, Int.reduceAdd, Int.reduceMul, fz, cur_own, cur_snap, Tryd.f21] | (with_reducible refine qg9 ?_ ?_; focus (first | (simp (maxDischargeDepth := 8) only [bb, kk, fz, cur_own, cur_snap]; done) | kernel_rfl)) | ((with_reducible first | refine qf7 ?_ ?_ | refine qf8 ?_ ?_ | refine qf9 ?_ ?_ | refine qg ?_ ?_ | refine qg0 ?_ ?_ | refine qg1 ?_ ?_ | refine qg2 ?_ ?_); focus (first | with_reducible assumption | omega | (simp only [bz, fz, cur_own, cur_snap]; omega))) | ((with_reducible first | refine qg3 ?_ ?_ | refine qg4 ?_ ?_ | refine qg5 ?_ ?_); focus (first | with_reducible assumption | omega | (simp only [bz, fz, cur_own, cur_snap]; omega))) | ((with_reducible first | refine g1_u8w ?_ ?_ | refine qg7 ?_ ?_); (focus ((repeat' (with_reducible apply And.intro)) <;> (first | with_reducible assumption | omega | (simp only [bz, fz, cur_own, cur_snap]; omega) | (simp (maxDischargeDepth := 8) only [bb, fz, cur_own, cur_snap]; done)))); intro _) | (with_reducible apply call_elim; focus ((with_reducible first | apply e34) <;> (first | with_reducible assumption | omega | (simp only [bz, fz, cur_own, cur_snap]; omega) | (simp (maxDischargeDepth := 8) only [bb, fz, cur_own, cur_snap]; done))))))
  refine loop_go (fun i => {T := tp [(4, .ptr 0 [] 0), (5, .ref 1 [] 4 0 A.length cA), (6, .ref 2 [] 4 0 (dbS b x i).n (dbS b x i).c), (7, vi (k - i))], H := hp [some (curC b (dbS b x i).s), some (flat encE A), some (flat encE (dbS b x i).M)], nx := 3}) k.toNat ?_ (lt_LF (by omega)) (fun i hi Kn hK => ?_) (fun Kn => ?_)
  · subst hx
    simp only [vv, ff, norm, Array.toList, List.map, Option.isSome_none, bne_self_eq_false, reduceIte, reduceCtorEq, Nat.reduceEqDiff, Nat.reduceAdd, Nat.reduceMul, Nat.reduceSub, Nat.reduceBEq, Nat.reduceLeDiff, Int.reduceEq, Int.reduceLT, Int.reduceLE, Int.reduceGE, Int.reduceGT, Int.reduceBEq, Int.reduceBNe, Int.reduceToNat, Int.reduceNeg, Int.reduceSub, Int.reduceAdd, Int.reduceMul, finish, qf0, resOf, resa, qf1, qf2, qf3, keep, qf4, qf5, qf6, qe9, qf, Int.natCast_zero, Int.sub_zero, dbS]
  · obtain ⟨i1, i2, i3⟩ := hok i
    have hn9 : (drE b (bel b 2 (dbS b x i).s).2).1.nm.length ≤ 9 := (drE_b b (bel b 2 (dbS b x i).s).2).1
    have hO : ∀ d, evFun E (d+3) 51 [.ptr 0 [] 0, vi 2] [curC b (dbS b x i).s] = _ := fun d => e51 d b 2 (dbS b x i).s hb (by decide)
    have hEE : ∀ d, evFun E (d+4) 58 [.ptr 0 [] 0] [curC b (bel b 2 (dbS b x i).s).2] = _ := fun d => e58 d b (bel b 2 (dbS b x i).s).2 hb
    have hq : dbS b x (i + 1) = _ := (show dbS b x (i + 1) = dbX b (dbS b x i) from rfl).trans (dbX.eq_1 b (dbS b x i))
    generalize dbS b x (i + 1) = y2 at hq hK
    generalize drE b (bel b 2 (dbS b x i).s).2 = es at hn9 hEE hq
    obtain ⟨e, s2⟩ := es
    simp only [] at hn9 hEE hq
    generalize dbS b x i = y at i1 i2 i3 hO hEE hq ⊢
    obtain ⟨M, n, c, s⟩ := y
    simp only [] at i1 i2 i3 hO hEE hq ⊢
    have hl : (M.take n).length = n := by rw [List.length_take]; omega
    have hSm : Small (M.take n) := small_nm (nms_take i1 _) (by omega)
    have hft := flat_tk M n
    have hlm := fE_len M
    have hom := anyOwn_encE M
    have hnm := noSnapL_encE M
    have hlt := fE_len (M.take n)
    rw [hl] at hlt
    generalize M.take n = T at hl hSm hft hlt hq
    generalize (bel b 2 s).2 = s1 at hO hEE
    by_cases h0 : (bel b 2 s).1 = 0
    · rw [if_pos h0] at hq
      have hb0 : ((bel b 2 s).1 == 0) = true := by rw [h0]; rfl
      rw [hb0] at hO
      have hP : ∀ d tg c, evFun E (d+6) 57 [.sl tg 4 n c (flat encE T), .agg [vs e.nm, vi e.v, vi e.s, vi e.r]] [] = _ := fun d tg c => by
        have h := e57 d T e tg c hSm (by omega)
        simp only [hl] at h
        exact h
      have hl2 := fE_len (cpL T e)
      generalize cpL T e = P at hP hq hl2
      generalize cpC T e = cP at hP hq
      generalize cpB T e = bP at hP
      subst hq
      (have fz := ga12 hO hP hEE hft hlm hom hnm hlt hl2 hlen hown hsn; repeat' (first | simp (maxDischargeDepth := 8) only [go_sem, rr, reduceIte, reduceCtorEq, Nat.reduceEqDiff, Nat.reduceAdd, Nat.reduceMul, Nat.reduceSub, Nat.reduceBEq, Nat.reduceLeDiff, Int.reduceEq, Int.reduceLT, Int.reduceLE, Int.reduceGE, Int.reduceGT, Int.reduceBEq, Int.reduceBNe, Int.reduceToNat, Int.reduceNeg, Int.reduceSub, Int.reduceAdd, Int.reduceMul, fz, cur_own, cur_snap] | (with_reducible refine qg9 ?_ ?_; focus (first | (simp (maxDischargeDepth := 8) only [bb, kk, fz, cur_own, cur_snap]; done) | kernel_rfl)) | ((with_reducible first | refine qf7 ?_ ?_ | refine qf8 ?_ ?_ | refine qf9 ?_ ?_ | refine qg ?_ ?_ | refine qg0 ?_ ?_ | refine qg1 ?_ ?_ | refine qg2 ?_ ?_); focus (first | with_reducible assumption | omega | (simp only [bz, fz, cur_own, cur_snap]; omega))) | ((with_reducible first | refine qg3 ?_ ?_ | refine qg4 ?_ ?_ | refine qg5 ?_ ?_); focus (first | with_reducible assumption | omega | (simp only [bz, fz, cur_own, cur_snap]; omega))) | ((with_reducible first | refine g1_u8w ?_ ?_ | refine qg7 ?_ ?_); (focus ((repeat' (with_reducible apply And.intro)) <;> (first | with_reducible assumption | omega | (simp only [bz, fz, cur_own, cur_snap]; omega) | (simp (maxDischargeDepth := 8) only [bb, fz, cur_own, cur_snap]; done)))); intro _)))
      refine hK _ ?_
      simp only [vv, ff, norm, Array.toList, List.map, Option.isSome_none, bne_self_eq_false, reduceIte, reduceCtorEq, Nat.reduceEqDiff, Nat.reduceAdd, Nat.reduceMul, Nat.reduceSub, Nat.reduceBEq, Nat.reduceLeDiff, Int.reduceEq, Int.reduceLT, Int.reduceLE, Int.reduceGE, Int.reduceGT, Int.reduceBEq, Int.reduceBNe, Int.reduceToNat, Int.reduceNeg, Int.reduceSub, Int.reduceAdd, Int.reduceMul, finish, qf0, resOf, resa, qf1, qf2, qf3, keep, qf4, qf5, qf6, qe9, qf, Int.natCast_add, cst1, Int.sub_sub]
    · rw [if_neg h0] at hq
      have hb0 : ((bel b 2 s).1 == 0) = false := beq_eq_false_iff_ne.mpr h0
      rw [hb0] at hO
      cases hcd : cdOK T e.nm with
      | true =>
        rw [if_pos hcd] at hq
        have hP : ∀ d tg c, evFun E (d+6) 59 [.sl tg 4 n c (flat encE T), vs e.nm] [] = _ := fun d tg c => by
          have h := e59 d T e.nm tg c hSm hcd
          simp only [hl] at h
          exact h
        simp only [hl] at hq
        generalize dropE T (lb T e.nm) ++ T.drop (n - 1) = P at hP hq
        subst hq
        (have fz := ga11 hO hP hEE hft hlm hom hnm hlt hlen hown hsn; repeat' (first | simp (maxDischargeDepth := 8) only [go_sem, rr, reduceIte, reduceCtorEq, Nat.reduceEqDiff, Nat.reduceAdd, Nat.reduceMul, Nat.reduceSub, Nat.reduceBEq, Nat.reduceLeDiff, Int.reduceEq, Int.reduceLT, Int.reduceLE, Int.reduceGE, Int.reduceGT, Int.reduceBEq, Int.reduceBNe, Int.reduceToNat, Int.reduceNeg, Int.reduceSub, Int.reduceAdd, Int.reduceMul, fz, cur_own, cur_snap] | (with_reducible refine qg9 ?_ ?_; focus (first | (simp (maxDischargeDepth := 8) only [bb, kk, fz, cur_own, cur_snap]; done) | kernel_rfl)) | ((with_reducible first | refine qf7 ?_ ?_ | refine qf8 ?_ ?_ | refine qf9 ?_ ?_ | refine qg ?_ ?_ | refine qg0 ?_ ?_ | refine qg1 ?_ ?_ | refine qg2 ?_ ?_); focus (first | with_reducible assumption | omega | (simp only [bz, fz, cur_own, cur_snap]; omega))) | ((with_reducible first | refine qg3 ?_ ?_ | refine qg4 ?_ ?_ | refine qg5 ?_ ?_); focus (first | with_reducible assumption | omega | (simp only [bz, fz, cur_own, cur_snap]; omega))) | ((with_reducible first | refine g1_u8w ?_ ?_ | refine qg7 ?_ ?_); (focus ((repeat' (with_reducible apply And.intro)) <;> (first | with_reducible assumption | omega | (simp only [bz, fz, cur_own, cur_snap]; omega) | (simp (maxDischargeDepth := 8) only [bb, fz, cur_own, cur_snap]; done)))); intro _)))
        refine hK _ ?_
        simp only [vv, ff, norm, Array.toList, List.map, Option.isSome_none, bne_self_eq_false, reduceIte, reduceCtorEq, Nat.reduceEqDiff, Nat.reduceAdd, Nat.reduceMul, Nat.reduceSub, Nat.reduceBEq, Nat.reduceLeDiff, Int.reduceEq, Int.reduceLT, Int.reduceLE, Int.reduceGE, Int.reduceGT, Int.reduceBEq, Int.reduceBNe, Int.reduceToNat, Int.reduceNeg, Int.reduceSub, Int.reduceAdd, Int.reduceMul, finish, qf0, resOf, resa, qf1, qf2, qf3, keep, qf4, qf5, qf6, qe9, qf, Int.natCast_add, cst1, Int.sub_sub]
      | false =>
        rw [if_neg (by rw [hcd]; simp)] at hq
        have hP : ∀ d tg c, evFun E (d+6) 59 [.sl tg 4 n c (flat encE T), vs e.nm] [] = _ := fun d tg c => by
          have h := e59f d T e.nm tg c hSm hcd
          simp only [hl] at h
          exact h
        simp only [hl] at hq
        subst hq
        (have fz := ga11 hO hP hEE hft hlm hom hnm hlt hlen hown hsn; repeat' (first | simp (maxDischargeDepth := 8) only [go_sem, rr, reduceIte, reduceCtorEq, Nat.reduceEqDiff, Nat.reduceAdd, Nat.reduceMul, Nat.reduceSub, Nat.reduceBEq, Nat.reduceLeDiff, Int.reduceEq, Int.reduceLT, Int.reduceLE, Int.reduceGE, Int.reduceGT, Int.reduceBEq, Int.reduceBNe, Int.reduceToNat, Int.reduceNeg, Int.reduceSub, Int.reduceAdd, Int.reduceMul, fz, cur_own, cur_snap] | (with_reducible refine qg9 ?_ ?_; focus (first | (simp (maxDischargeDepth := 8) only [bb, kk, fz, cur_own, cur_snap]; done) | kernel_rfl)) | ((with_reducible first | refine qf7 ?_ ?_ | refine qf8 ?_ ?_ | refine qf9 ?_ ?_ | refine qg ?_ ?_ | refine qg0 ?_ ?_ | refine qg1 ?_ ?_ | refine qg2 ?_ ?_); focus (first | with_reducible assumption | omega | (simp only [bz, fz, cur_own, cur_snap]; omega))) | ((with_reducible first | refine qg3 ?_ ?_ | refine qg4 ?_ ?_ | refine qg5 ?_ ?_); focus (first | with_reducible assumption | omega | (simp only [bz, fz, cur_own, cur_snap]; omega))) | ((with_reducible first | refine g1_u8w ?_ ?_ | refine qg7 ?_ ?_); (focus ((repeat' (with_reducible apply And.intro)) <;> (first | with_reducible assumption | omega | (simp only [bz, fz, cur_own, cur_snap]; omega) | (simp (maxDischargeDepth := 8) only [bb, fz, cur_own, cur_snap]; done)))); intro _)))
        refine hK _ ?_
        simp only [vv, ff, norm, Array.toList, List.map, Option.isSome_none, bne_self_eq_false, reduceIte, reduceCtorEq, Nat.reduceEqDiff, Nat.reduceAdd, Nat.reduceMul, Nat.reduceSub, Nat.reduceBEq, Nat.reduceLeDiff, Int.reduceEq, Int.reduceLT, Int.reduceLE, Int.reduceGE, Int.reduceGT, Int.reduceBEq, Int.reduceBNe, Int.reduceToNat, Int.reduceNeg, Int.reduceSub, Int.reduceAdd, Int.reduceMul, finish, qf0, resOf, resa, qf1, qf2, qf3, keep, qf4, qf5, qf6, qe9, qf, Int.natCast_add, cst1, Int.sub_sub]
  · obtain ⟨i1, i2, i3⟩ := hok k.toNat
    have hlm := fE_len (dbS b x k.toNat).M
    have hom := anyOwn_encE (dbS b x k.toNat).M
    have hnm := noSnapL_encE (dbS b x k.toNat).M
    (have fz := ga6 hlm hom hnm hlen hown hsn; repeat' (first | simp (maxDischargeDepth := 8) only [go_sem, rr, reduceIte, reduceCtorEq, Nat.reduceEqDiff, Nat.reduceAdd, Nat.reduceMul, Nat.reduceSub, Nat.reduceBEq, Nat.reduceLeDiff, Int.reduceEq, Int.reduceLT, Int.reduceLE, Int.reduceGE, Int.reduceGT, Int.reduceBEq, Int.reduceBNe, Int.reduceToNat, Int.reduceNeg, Int.reduceSub, Int.reduceAdd, Int.reduceMul, fz, cur_own, cur_snap] | (with_reducible refine qg9 ?_ ?_; focus (first | (simp (maxDischargeDepth := 8) only [bb, kk, fz, cur_own, cur_snap]; done) | kernel_rfl)) | ((with_reducible first | refine qf7 ?_ ?_ | refine qf8 ?_ ?_ | refine qf9 ?_ ?_ | refine qg ?_ ?_ | refine qg0 ?_ ?_ | refine qg1 ?_ ?_ | refine qg2 ?_ ?_); focus (first | with_reducible assumption | omega | (simp only [bz, fz, cur_own, cur_snap]; omega))) | ((with_reducible first | refine qg3 ?_ ?_ | refine qg4 ?_ ?_ | refine qg5 ?_ ?_); focus (first | with_reducible assumption | omega | (simp only [bz, fz, cur_own, cur_snap]; omega))) | ((with_reducible first | refine g1_u8w ?_ ?_ | refine qg7 ?_ ?_); (focus ((repeat' (with_reducible apply And.intro)) <;> (first | with_reducible assumption | omega | (simp only [bz, fz, cur_own, cur_snap]; omega) | (simp (maxDischargeDepth := 8) only [bb, fz, cur_own, cur_snap]; done)))); intro _)))
end Go.Proofs.YtgdldmfkgijkaaaDoor.VH.S
end

section
namespace Go.Proofs.YtgdldmfkgijkaaaDoor.VH.S
open Go.Proofs
set_option maxRecDepth 100000
set_option maxHeartbeats 8000000
set_option linter.unusedSimpArgs false

/- The law of differences. -/
/- reducible -/
theorem e4 (d : Nat) (a : List Int) (hb : B8 a) : evFun E (d+12) 4 [.sl .fgn 1 a.length none (a.map (iv .u8))] [] = some (vb true, []) := by
  by_cases hbig : (a.length : Int) > 1048576
  · refine evFun_body b4 ?_
    have hbg : ∀ d, evFun E (d+1) 6 [.sl .fgn 1 a.length none (a.map (iv .u8))] [] = some (vb true, []) := fun d => by rw [e6, decide_eq_true hbig]
    (repeat' (first | simp (maxDischargeDepth := 8) only [go_sem, rr, reduceIte, reduceCtorEq, Nat.reduceEqDiff, Nat.reduceAdd, Nat.reduceMul, Nat.reduceSub, Nat.reduceBEq, Nat.reduceLeDiff, Int.reduceEq, Int.reduceLT, Int.reduceLE, Int.reduceGE, Int.reduceGT, Int.reduceBEq, Int.reduceBNe, Int.reduceToNat, Int.reduceNeg, Int.reduceSub, Int.reduceAdd, Int.reduceMul, hbg, Tryd.f4] | (with_reducible refine qg9 ?_ ?_; focus (first | (simp (maxDischargeDepth := 8) only [bb, kk, hbg]; done) | kernel_rfl)) | ((with_reducible first | refine qf7 ?_ ?_ | refine qf8 ?_ ?_ | refine qf9 ?_ ?_ | refine qg ?_ ?_ | refine qg0 ?_ ?_ | refine qg1 ?_ ?_ | refine qg2 ?_ ?_); focus (first | with_reducible assumption | omega | (simp only [bz, hbg]; omega))) | ((with_reducible first | refine qg3 ?_ ?_ | refine qg4 ?_ ?_ | refine qg5 ?_ ?_); focus (first | with_reducible assumption | omega | (simp only [bz, hbg]; omega))) | ((with_reducible first | refine g1_u8w ?_ ?_ | refine qg7 ?_ ?_); (focus ((repeat' (with_reducible apply And.intro)) <;> (first | with_reducible assumption | omega | (simp only [bz, hbg]; omega) | (simp (maxDischargeDepth := 8) only [bb, hbg]; done)))); intro _)))
  have hl : a.length ≤ 2 ^ 39 := by omega
  have hbg : ∀ d, evFun E (d+1) 6 [.sl .fgn 1 a.length none (a.map (iv .u8))] [] = some (vb false, []) := fun d => by rw [e6, decide_eq_false hbig]
  obtain ⟨A, M, n, cA, cB, hD, a1, a2, m1, m2, m3⟩ := e21 (d+2) a hl
  have hSA : Small A := small_nm a1 (by omega)
  have hSB : Small (M.take n) := small_nm (nms_take m1 n) (by rw [List.length_take]; omega)
  have hBn : (M.take n).length = n := by rw [List.length_take]; omega
  have hft := flat_tk M n
  have hlA := fE_len A
  have hoA := anyOwn_encE A
  have hnA := noSnapL_encE A
  have hlM := fE_len M
  have hoM := anyOwn_encE M
  have hnM := noSnapL_encE M
  have hlB := fE_len (M.take n)
  generalize hBB : M.take n = B at hSB hBn hft hlB
  have z1 : ∀ d tg c, evFun E (d+4) 23 [.sl tg 4 A.length c (flat encE A)] [] = _ := fun d tg c => e23 d A tg c hSA
  have z2 : ∀ d tg c, evFun E (d+4) 23 [.sl tg 4 n c (flat encE B)] [] = _ := fun d tg c => by have h := e23 d B tg c hSB; simp only [hBn] at h; exact h
  have y1 : ∀ d tg c, evFun E (d+6) 24 [.sl tg 4 A.length c (flat encE A)] [] = _ := fun d tg c => e24 d A tg c hSA
  refine evFun_body b4 ?_
  cases hok : catOK A && catOK B with
  | false =>
    have f1 : ∀ d tg tg' c c', evFun E (d+8) 22 [.sl tg 4 A.length c (flat encE A), .sl tg' 4 n c' (flat encE B)] [] = _ := fun d tg tg' c c' => by have h := e22f d A B tg tg' c c' hSA hSB hok; simp only [hBn] at h; exact h
    have f2 : ∀ d tg tg' c c', evFun E (d+8) 22 [.sl tg' 4 n c' (flat encE B), .sl tg 4 A.length c (flat encE A)] [] = _ := fun d tg tg' c c' => by have h := e22f d B A tg' tg c' c hSB hSA (by rw [Bool.and_comm]; exact hok); simp only [hBn] at h; exact h
    cases hA : catOK A with
    | false =>
      rw [hA] at z1 y1
      (have fz := ga15 hbg hD hft hlA hoA hnA hlM hoM hnM hlB f1 f2 z1 z2 y1; repeat' (first | simp (maxDischargeDepth := 8) only [go_sem, rr, reduceIte, reduceCtorEq, Nat.reduceEqDiff, Nat.reduceAdd, Nat.reduceMul, Nat.reduceSub, Nat.reduceBEq, Nat.reduceLeDiff, Int.reduceEq, Int.reduceLT, Int.reduceLE, Int.reduceGE, Int.reduceGT, Int.reduceBEq, Int.reduceBNe, Int.reduceToNat, Int.reduceNeg, Int.reduceSub, Int.reduceAdd, Int.reduceMul, fz, Tryd.f4] | (with_reducible refine qg9 ?_ ?_; focus (first | (simp (maxDischargeDepth := 8) only [bb, kk, fz]; done) | kernel_rfl)) | ((with_reducible first | refine qf7 ?_ ?_ | refine qf8 ?_ ?_ | refine qf9 ?_ ?_ | refine qg ?_ ?_ | refine qg0 ?_ ?_ | refine qg1 ?_ ?_ | refine qg2 ?_ ?_); focus (first | with_reducible assumption | omega | (simp only [bz, fz]; omega))) | ((with_reducible first | refine qg3 ?_ ?_ | refine qg4 ?_ ?_ | refine qg5 ?_ ?_); focus (first | with_reducible assumption | omega | (simp only [bz, fz]; omega))) | ((with_reducible first | refine g1_u8w ?_ ?_ | refine qg7 ?_ ?_); (focus ((repeat' (with_reducible apply And.intro)) <;> (first | with_reducible assumption | omega | (simp only [bz, fz]; omega) | (simp (maxDischargeDepth := 8) only [bb, fz]; done)))); intro _)))
    | true =>
      have hB : catOK B = false := by rw [hA] at hok; exact hok
      rw [hA] at z1 y1
      rw [hB] at z2
      (have fz := ga15 hbg hD hft hlA hoA hnA hlM hoM hnM hlB f1 f2 z1 z2 y1; repeat' (first | simp (maxDischargeDepth := 8) only [go_sem, rr, reduceIte, reduceCtorEq, Nat.reduceEqDiff, Nat.reduceAdd, Nat.reduceMul, Nat.reduceSub, Nat.reduceBEq, Nat.reduceLeDiff, Int.reduceEq, Int.reduceLT, Int.reduceLE, Int.reduceGE, Int.reduceGT, Int.reduceBEq, Int.reduceBNe, Int.reduceToNat, Int.reduceNeg, Int.reduceSub, Int.reduceAdd, Int.reduceMul, fz, Tryd.f4] | (with_reducible refine qg9 ?_ ?_; focus (first | (simp (maxDischargeDepth := 8) only [bb, kk, fz]; done) | kernel_rfl)) | ((with_reducible first | refine qf7 ?_ ?_ | refine qf8 ?_ ?_ | refine qf9 ?_ ?_ | refine qg ?_ ?_ | refine qg0 ?_ ?_ | refine qg1 ?_ ?_ | refine qg2 ?_ ?_); focus (first | with_reducible assumption | omega | (simp only [bz, fz]; omega))) | ((with_reducible first | refine qg3 ?_ ?_ | refine qg4 ?_ ?_ | refine qg5 ?_ ?_); focus (first | with_reducible assumption | omega | (simp only [bz, fz]; omega))) | ((with_reducible first | refine g1_u8w ?_ ?_ | refine qg7 ?_ ?_); (focus ((repeat' (with_reducible apply And.intro)) <;> (first | with_reducible assumption | omega | (simp only [bz, fz]; omega) | (simp (maxDischargeDepth := 8) only [bb, fz]; done)))); intro _)))
  | true =>
    obtain ⟨hA, hB⟩ : catOK A = true ∧ catOK B = true := by simpa using hok
    rw [hA] at z1 y1
    rw [hB] at z2
    have sA := sorted_of hA
    have sB := sorted_of hB
    have hN : catOK ([] : List Ent) = true := rfl
    have hSN : Small ([] : List Ent) := small_nm (fun e h => by simp at h) (by decide)
    have f1 : ∀ d tg tg' c c', evFun E (d+8) 22 [.sl tg 4 A.length c (flat encE A), .sl tg' 4 n c' (flat encE B)] [] = _ := fun d tg tg' c c' => by have h := e22 d A B tg tg' c c' hSA hSB hA hB; simp only [hBn] at h; exact h
    have f2 : ∀ d tg tg' c c', evFun E (d+8) 22 [.sl tg' 4 n c' (flat encE B), .sl tg 4 A.length c (flat encE A)] [] = _ := fun d tg tg' c c' => by have h := e22 d B A tg' tg c' c hSB hSA hB hA; simp only [hBn] at h; exact h
    have f3 : ∀ d tg tg' c c', evFun E (d+8) 22 [.sl tg 4 0 c [], .sl tg' 4 A.length c' (flat encE A)] [] = some (.tup [.ref 0 [] 1 0 A.length (capZ A.length), .ref 1 [] 1 0 0 (some 0), .ref 2 [] 1 0 0 (some 0)], [some (txt (nmsE A)), some [], some []]) := fun d tg tg' c c' => by
      have h := e22 d [] A tg tg' c c' hSN hSA hN hA
      rw [lack_nilR, nmsE_len] at h
      exact h
    rw [chg_comm sB sA] at f2
    have hcount := diff_len sA sB
    rw [hBn] at hcount
    have hmo : ∀ i, i < (lackN B A).length → hasE A (tA (lackN B A) i) = false ∧ hasE B (tA (lackN B A) i) = true := fun i h => lack_has sB h
    have hot : ∀ i, i < (chgN A B).length → hasE A (tA (chgN A B) i) = true ∧ hasE B (tA (chgN A B) i) = true ∧ decide (eA A (lb A (tA (chgN A B) i)) = eA B (lb B (tA (chgN A B) i))) = false := fun i h => chg_has sA h
    have lmo := lack_le B A B.length
    have lle := lack_le A B A.length
    have lot := chg_le A B A.length
    rw [txt_takeAll] at lmo lle lot
    have h5 := (cat_parts hA).1
    have h5B := (cat_parts hB).1
    generalize lackN B A = mo at *
    generalize lackN A B = le at *
    generalize chgN A B = ot at *
    have F1 : ∀ d tg c t, evFun E (d+7) 25 [.sl tg 4 A.length c (flat encE A), vs t] [] = some (.tup [.agg (encE (if hasE A t then eA A (lb A t) else e0)), vb (hasE A t)], []) := fun d tg c t => by
      have h := e25 d A t tg c hSA
      simpa [cfE, hA] using h
    have F2 : ∀ d tg c t, evFun E (d+7) 25 [.sl tg 4 n c (flat encE B), vs t] [] = some (.tup [.agg (encE (if hasE B t then eA B (lb B t) else e0)), vb (hasE B t)], []) := fun d tg c t => by
      have h := e25 d B t tg c hSB
      rw [hBn] at h
      simpa [cfE, hB] using h
    have tmo := txt_len mo
    have tle := txt_len le
    have tot := txt_len ot
    have omo := txt_own mo
    have ole := txt_own le
    have oot := txt_own ot
    have smo := txt_snap mo
    have sle := txt_snap le
    have sot := txt_snap ot
    (repeat' (first | simp (maxDischargeDepth := 8) only [go_sem, rr, reduceIte, reduceCtorEq, Nat.reduceEqDiff, Nat.reduceAdd, Nat.reduceMul, Nat.reduceSub, Nat.reduceBEq, Nat.reduceLeDiff, Int.reduceEq, Int.reduceLT, Int.reduceLE, Int.reduceGE, Int.reduceGT, Int.reduceBEq, Int.reduceBNe, Int.reduceToNat, Int.reduceNeg, Int.reduceSub, Int.reduceAdd, Int.reduceMul, hbg, hD, hft, hlA, hoA, hnA, hlM, hoM, hnM, hlB, f1, f2, z1, z2, y1, tmo, tle, tot, omo, ole, oot, smo, sle, sot, Tryd.f4] | (with_reducible refine qg9 ?_ ?_; focus (first | (simp (maxDischargeDepth := 8) only [bb, kk, hbg, hD, hft, hlA, hoA, hnA, hlM, hoM, hnM, hlB, f1, f2, z1, z2, y1, tmo, tle, tot, omo, ole, oot, smo, sle, sot]; done) | kernel_rfl)) | ((with_reducible first | refine qf7 ?_ ?_ | refine qf8 ?_ ?_ | refine qf9 ?_ ?_ | refine qg ?_ ?_ | refine qg0 ?_ ?_ | refine qg1 ?_ ?_ | refine qg2 ?_ ?_); focus (first | with_reducible assumption | omega | (simp only [bz, hbg, hD, hft, hlA, hoA, hnA, hlM, hoM, hnM, hlB, f1, f2, z1, z2, y1, tmo, tle, tot, omo, ole, oot, smo, sle, sot]; omega))) | ((with_reducible first | refine qg3 ?_ ?_ | refine qg4 ?_ ?_ | refine qg5 ?_ ?_); focus (first | with_reducible assumption | omega | (simp only [bz, hbg, hD, hft, hlA, hoA, hnA, hlM, hoM, hnM, hlB, f1, f2, z1, z2, y1, tmo, tle, tot, omo, ole, oot, smo, sle, sot]; omega))) | ((with_reducible first | refine g1_u8w ?_ ?_ | refine qg7 ?_ ?_); (focus ((repeat' (with_reducible apply And.intro)) <;> (first | with_reducible assumption | omega | (simp only [bz, hbg, hD, hft, hlA, hoA, hnA, hlM, hoM, hnM, hlB, f1, f2, z1, z2, y1, tmo, tle, tot, omo, ole, oot, smo, sle, sot]; omega) | (simp (maxDischargeDepth := 8) only [bb, hbg, hD, hft, hlA, hoA, hnA, hlM, hoM, hnM, hlB, f1, f2, z1, z2, y1, tmo, tle, tot, omo, ole, oot, smo, sle, sot]; done)))); intro _)))
    refine loop_go (fun i => {T := tp [(3, .ref 0 [] 4 0 A.length cA), (4, .ref 1 [] 4 0 n cB), (5, .ref 2 [] 1 0 mo.length (capZ mo.length)), (7, .ref 3 [] 1 0 ot.length (capZ ot.length)), (9, .ref 4 [] 1 0 mo.length (capZ mo.length)), (11, vi i)], H := hp [some (flat encE A), some (flat encE M), some (txt mo), some (txt ot), some (txt mo)], nx := 5}) mo.length ?_ (lt_LF (by omega)) (fun i hi Kn hK => ?_) (fun Kn => ?_)
    · simp only [vv, ff, norm, Array.toList, List.map, Option.isSome_none, bne_self_eq_false, reduceIte, reduceCtorEq, Nat.reduceEqDiff, Nat.reduceAdd, Nat.reduceMul, Nat.reduceSub, Nat.reduceBEq, Nat.reduceLeDiff, Int.reduceEq, Int.reduceLT, Int.reduceLE, Int.reduceGE, Int.reduceGT, Int.reduceBEq, Int.reduceBNe, Int.reduceToNat, Int.reduceNeg, Int.reduceSub, Int.reduceAdd, Int.reduceMul, finish, qf0, resOf, resa, qf1, qf2, qf3, keep, qf4, qf5, qf6, qe9, qf, Int.natCast_zero]
    · obtain ⟨q1, q2⟩ := hmo i hi
      have hg := txt_g1 mo hi
      have F1 := fun d tg c => F1 d tg c (tA mo i)
      have F2 := fun d tg c => F2 d tg c (tA mo i)
      simp only [q1, q2, if_true, Bool.false_eq_true, if_false] at F1 F2
      generalize eA B (lb B (tA mo i)) = eB at F2
      have he : (tA mo i == tA mo i) = true := by simp
      (repeat' (first | simp (maxDischargeDepth := 8) only [go_sem, rr, reduceIte, reduceCtorEq, Nat.reduceEqDiff, Nat.reduceAdd, Nat.reduceMul, Nat.reduceSub, Nat.reduceBEq, Nat.reduceLeDiff, Int.reduceEq, Int.reduceLT, Int.reduceLE, Int.reduceGE, Int.reduceGT, Int.reduceBEq, Int.reduceBNe, Int.reduceToNat, Int.reduceNeg, Int.reduceSub, Int.reduceAdd, Int.reduceMul, hft, hlA, hoA, hnA, hlM, hoM, hnM, hlB, hg, F1, F2, he, tmo, tle, tot, omo, ole, oot, smo, sle, sot] | (with_reducible refine qg9 ?_ ?_; focus (first | (simp (maxDischargeDepth := 8) only [bb, kk, hft, hlA, hoA, hnA, hlM, hoM, hnM, hlB, hg, F1, F2, he, tmo, tle, tot, omo, ole, oot, smo, sle, sot]; done) | kernel_rfl)) | ((with_reducible first | refine qf7 ?_ ?_ | refine qf8 ?_ ?_ | refine qf9 ?_ ?_ | refine qg ?_ ?_ | refine qg0 ?_ ?_ | refine qg1 ?_ ?_ | refine qg2 ?_ ?_); focus (first | with_reducible assumption | omega | (simp only [bz, hft, hlA, hoA, hnA, hlM, hoM, hnM, hlB, hg, F1, F2, he, tmo, tle, tot, omo, ole, oot, smo, sle, sot]; omega))) | ((with_reducible first | refine qg3 ?_ ?_ | refine qg4 ?_ ?_ | refine qg5 ?_ ?_); focus (first | with_reducible assumption | omega | (simp only [bz, hft, hlA, hoA, hnA, hlM, hoM, hnM, hlB, hg, F1, F2, he, tmo, tle, tot, omo, ole, oot, smo, sle, sot]; omega))) | ((with_reducible first | refine g1_u8w ?_ ?_ | refine qg7 ?_ ?_); (focus ((repeat' (with_reducible apply And.intro)) <;> (first | with_reducible assumption | omega | (simp only [bz, hft, hlA, hoA, hnA, hlM, hoM, hnM, hlB, hg, F1, F2, he, tmo, tle, tot, omo, ole, oot, smo, sle, sot]; omega) | (simp (maxDischargeDepth := 8) only [bb, hft, hlA, hoA, hnA, hlM, hoM, hnM, hlB, hg, F1, F2, he, tmo, tle, tot, omo, ole, oot, smo, sle, sot]; done)))); intro _)))
      refine hK _ ?_
      simp only [vv, ff, norm, Array.toList, List.map, Option.isSome_none, bne_self_eq_false, reduceIte, reduceCtorEq, Nat.reduceEqDiff, Nat.reduceAdd, Nat.reduceMul, Nat.reduceSub, Nat.reduceBEq, Nat.reduceLeDiff, Int.reduceEq, Int.reduceLT, Int.reduceLE, Int.reduceGE, Int.reduceGT, Int.reduceBEq, Int.reduceBNe, Int.reduceToNat, Int.reduceNeg, Int.reduceSub, Int.reduceAdd, Int.reduceMul, finish, qf0, resOf, resa, qf1, qf2, qf3, keep, qf4, qf5, qf6, qe9, qf, Int.natCast_add, cst1]
    · (have fz := ga17 hft hlA hoA hnA hlM hoM hnM hlB tmo tle tot omo ole oot smo sle sot; repeat' (first | simp (maxDischargeDepth := 8) only [go_sem, rr, reduceIte, reduceCtorEq, Nat.reduceEqDiff, Nat.reduceAdd, Nat.reduceMul, Nat.reduceSub, Nat.reduceBEq, Nat.reduceLeDiff, Int.reduceEq, Int.reduceLT, Int.reduceLE, Int.reduceGE, Int.reduceGT, Int.reduceBEq, Int.reduceBNe, Int.reduceToNat, Int.reduceNeg, Int.reduceSub, Int.reduceAdd, Int.reduceMul, fz] | (with_reducible refine qg9 ?_ ?_; focus (first | (simp (maxDischargeDepth := 8) only [bb, kk, fz]; done) | kernel_rfl)) | ((with_reducible first | refine qf7 ?_ ?_ | refine qf8 ?_ ?_ | refine qf9 ?_ ?_ | refine qg ?_ ?_ | refine qg0 ?_ ?_ | refine qg1 ?_ ?_ | refine qg2 ?_ ?_); focus (first | with_reducible assumption | omega | (simp only [bz, fz]; omega))) | ((with_reducible first | refine qg3 ?_ ?_ | refine qg4 ?_ ?_ | refine qg5 ?_ ?_); focus (first | with_reducible assumption | omega | (simp only [bz, fz]; omega))) | ((with_reducible first | refine g1_u8w ?_ ?_ | refine qg7 ?_ ?_); (focus ((repeat' (with_reducible apply And.intro)) <;> (first | with_reducible assumption | omega | (simp only [bz, fz]; omega) | (simp (maxDischargeDepth := 8) only [bb, fz]; done)))); intro _)))
      refine loop_go (fun i => {T := tp [(3, .ref 0 [] 4 0 A.length cA), (4, .ref 1 [] 4 0 n cB), (7, .ref 2 [] 1 0 ot.length (capZ ot.length)), (16, vi i)], H := hp [some (flat encE A), some (flat encE M), some (txt ot)], nx := 3}) ot.length ?_ (lt_LF (by omega)) (fun i hi Kn hK => ?_) (fun Kn => ?_)
      · simp only [vv, ff, norm, Array.toList, List.map, Option.isSome_none, bne_self_eq_false, reduceIte, reduceCtorEq, Nat.reduceEqDiff, Nat.reduceAdd, Nat.reduceMul, Nat.reduceSub, Nat.reduceBEq, Nat.reduceLeDiff, Int.reduceEq, Int.reduceLT, Int.reduceLE, Int.reduceGE, Int.reduceGT, Int.reduceBEq, Int.reduceBNe, Int.reduceToNat, Int.reduceNeg, Int.reduceSub, Int.reduceAdd, Int.reduceMul, finish, qf0, resOf, resa, qf1, qf2, qf3, keep, qf4, qf5, qf6, qe9, qf, Int.natCast_zero]
      · obtain ⟨q1, q2, q3⟩ := hot i hi
        have hg := txt_g1 ot hi
        have F1 := fun d tg c => F1 d tg c (tA ot i)
        have F2 := fun d tg c => F2 d tg c (tA ot i)
        simp only [q1, q2, if_true] at F1 F2
        generalize eA A (lb A (tA ot i)) = xA at F1 q3
        generalize eA B (lb B (tA ot i)) = xB at F2 q3
        have he := eqE xA xB
        (repeat' (first | simp (maxDischargeDepth := 8) only [go_sem, rr, reduceIte, reduceCtorEq, Nat.reduceEqDiff, Nat.reduceAdd, Nat.reduceMul, Nat.reduceSub, Nat.reduceBEq, Nat.reduceLeDiff, Int.reduceEq, Int.reduceLT, Int.reduceLE, Int.reduceGE, Int.reduceGT, Int.reduceBEq, Int.reduceBNe, Int.reduceToNat, Int.reduceNeg, Int.reduceSub, Int.reduceAdd, Int.reduceMul, hft, hlA, hoA, hnA, hlM, hoM, hnM, hlB, hg, F1, F2, he, q3, aggBin, tmo, tle, tot, omo, ole, oot, smo, sle, sot] | (with_reducible refine qg9 ?_ ?_; focus (first | (simp (maxDischargeDepth := 8) only [bb, kk, hft, hlA, hoA, hnA, hlM, hoM, hnM, hlB, hg, F1, F2, he, q3, aggBin, tmo, tle, tot, omo, ole, oot, smo, sle, sot]; done) | kernel_rfl)) | ((with_reducible first | refine qf7 ?_ ?_ | refine qf8 ?_ ?_ | refine qf9 ?_ ?_ | refine qg ?_ ?_ | refine qg0 ?_ ?_ | refine qg1 ?_ ?_ | refine qg2 ?_ ?_); focus (first | with_reducible assumption | omega | (simp only [bz, hft, hlA, hoA, hnA, hlM, hoM, hnM, hlB, hg, F1, F2, he, q3, aggBin, tmo, tle, tot, omo, ole, oot, smo, sle, sot]; omega))) | ((with_reducible first | refine qg3 ?_ ?_ | refine qg4 ?_ ?_ | refine qg5 ?_ ?_); focus (first | with_reducible assumption | omega | (simp only [bz, hft, hlA, hoA, hnA, hlM, hoM, hnM, hlB, hg, F1, F2, he, q3, aggBin, tmo, tle, tot, omo, ole, oot, smo, sle, sot]; omega))) | ((with_reducible first | refine g1_u8w ?_ ?_ | refine qg7 ?_ ?_); (focus ((repeat' (with_reducible apply And.intro)) <;> (first | with_reducible assumption | omega | (simp only [bz, hft, hlA, hoA, hnA, hlM, hoM, hnM, hlB, hg, F1, F2, he, q3, aggBin, tmo, tle, tot, omo, ole, oot, smo, sle, sot]; omega) | (simp (maxDischargeDepth := 8) only [bb, hft, hlA, hoA, hnA, hlM, hoM, hnM, hlB, hg, F1, F2, he, q3, aggBin, tmo, tle, tot, omo, ole, oot, smo, sle, sot]; done)))); intro _)))
        refine hK _ ?_
        simp only [vv, ff, norm, Array.toList, List.map, Option.isSome_none, bne_self_eq_false, reduceIte, reduceCtorEq, Nat.reduceEqDiff, Nat.reduceAdd, Nat.reduceMul, Nat.reduceSub, Nat.reduceBEq, Nat.reduceLeDiff, Int.reduceEq, Int.reduceLT, Int.reduceLE, Int.reduceGE, Int.reduceGT, Int.reduceBEq, Int.reduceBNe, Int.reduceToNat, Int.reduceNeg, Int.reduceSub, Int.reduceAdd, Int.reduceMul, finish, qf0, resOf, resa, qf1, qf2, qf3, keep, qf4, qf5, qf6, qe9, qf, Int.natCast_add, cst1]
      · have tnn := txt_len (nmsE A)
        have onn := txt_own (nmsE A)
        have snn := txt_snap (nmsE A)
        (repeat' (first | simp (maxDischargeDepth := 8) only [go_sem, rr, reduceIte, reduceCtorEq, Nat.reduceEqDiff, Nat.reduceAdd, Nat.reduceMul, Nat.reduceSub, Nat.reduceBEq, Nat.reduceLeDiff, Int.reduceEq, Int.reduceLT, Int.reduceLE, Int.reduceGE, Int.reduceGT, Int.reduceBEq, Int.reduceBNe, Int.reduceToNat, Int.reduceNeg, Int.reduceSub, Int.reduceAdd, Int.reduceMul, hft, hlA, hoA, hnA, hlM, hoM, hnM, hlB, f3, tmo, tle, tot, omo, ole, oot, smo, sle, sot, tnn, onn, snn] | (with_reducible refine qg9 ?_ ?_; focus (first | (simp (maxDischargeDepth := 8) only [bb, kk, hft, hlA, hoA, hnA, hlM, hoM, hnM, hlB, f3, tmo, tle, tot, omo, ole, oot, smo, sle, sot, tnn, onn, snn]; done) | kernel_rfl)) | ((with_reducible first | refine qf7 ?_ ?_ | refine qf8 ?_ ?_ | refine qf9 ?_ ?_ | refine qg ?_ ?_ | refine qg0 ?_ ?_ | refine qg1 ?_ ?_ | refine qg2 ?_ ?_); focus (first | with_reducible assumption | omega | (simp only [bz, hft, hlA, hoA, hnA, hlM, hoM, hnM, hlB, f3, tmo, tle, tot, omo, ole, oot, smo, sle, sot, tnn, onn, snn]; omega))) | ((with_reducible first | refine qg3 ?_ ?_ | refine qg4 ?_ ?_ | refine qg5 ?_ ?_); focus (first | with_reducible assumption | omega | (simp only [bz, hft, hlA, hoA, hnA, hlM, hoM, hnM, hlB, f3, tmo, tle, tot, omo, ole, oot, smo, sle, sot, tnn, onn, snn]; omega))) | ((with_reducible first | refine g1_u8w ?_ ?_ | refine qg7 ?_ ?_); (focus ((repeat' (with_reducible apply And.intro)) <;> (first | with_reducible assumption | omega | (simp only [bz, hft, hlA, hoA, hnA, hlM, hoM, hnM, hlB, f3, tmo, tle, tot, omo, ole, oot, smo, sle, sot, tnn, onn, snn]; omega) | (simp (maxDischargeDepth := 8) only [bb, hft, hlA, hoA, hnA, hlM, hoM, hnM, hlB, f3, tmo, tle, tot, omo, ole, oot, smo, sle, sot, tnn, onn, snn]; done)))); intro _)))
end Go.Proofs.YtgdldmfkgijkaaaDoor.VH.S
end

