/- Part of a proof about the given program: a verified evaluator, and what it tells of the functions (VhJFCe, VhJFCt, VhJFMk, VhJFCn, VhJFCf, VhJFCg, VhJFCd, VhJFDp, VhJFCx, VhJFIn, VhJFCu, VhJFCo, VhJFCb, VhJFCr, VhJFCs, VhJFDq, VhJFDc, VhJFDe). Conditions: none beyond the hypotheses that each theorem states. -/
import Derived.Test.YtgdldmfkgijkaaaDoorG4
import Derived.Test.YtgdldmfkgijkaaaDoorG3
set_option linter.unusedSimpArgs false
set_option linter.unusedVariables false
set_option linter.defProp false
section
namespace Go.Proofs.YtgdldmfkgijkaaaDoor.VH.S
open Go.Proofs
set_option maxRecDepth 100000
set_option maxHeartbeats 8000000
set_option linter.unusedSimpArgs false

/- Entries of a catalog. -/
structure Ent where
  nm : List UInt8
  v : Int
  s : Int
  r : Int
  deriving DecidableEq
abbrev encE (e : Ent) : List AV := [vs e.nm, vi e.v, vi e.s, vi e.r]
def e0 : Ent := ⟨[], 0, 0, 0⟩
def eA (L : List Ent) (i : Nat) : Ent := L.getD i e0
theorem eA_get {L : List Ent} {i : Nat} (h : i < L.length) : eA L i = L[i] := by
  rw [eA, List.getD_eq_getElem?_getD, List.getElem?_eq_getElem h]; rfl
theorem encE_len (e : Ent) : (encE e).length = 4 := rfl
theorem fE_len (L : List Ent) : (flat encE L).length = L.length * 4 := flat_len encE_len L
theorem fE_getR (L : List Ent) {i : Nat} (h : i < L.length) : getR (flat encE L) (i * 4) 4 = some (encE (eA L i)) := by rw [eA_get h]; exact flt_getR encE_len L h
theorem fE_get0 (L : List Ent) {i : Nat} (h : i < L.length) : g1 (flat encE L) (i * 4) = some (vs (eA L i).nm) := by
  have := flt_get encE_len L i h 0 (by decide); rw [eA_get h]; simpa [g1] using this
theorem noSnapL_encE : ∀ L : List Ent, qf2 (flat encE L) = true
  | [] => rfl
  | e :: L => by
    simp only [flat, List.cons_append, List.nil_append, qf2, qf1, noSnapL_encE L]; rfl
theorem anyOwn_encE : ∀ L : List Ent, (flat encE L).any qb8 = false
  | [] => rfl
  | e :: L => by simp only [flat, List.cons_append, List.nil_append, List.any_cons, qb8, anyOwn_encE L]; rfl
theorem anySl_encE : ∀ L : List Ent, (flat encE L).any isSl = false
  | [] => rfl
  | e :: L => by simp only [flat, List.cons_append, List.nil_append, List.any_cons, isSl, anySl_encE L]; rfl
def entOK (e : Ent) : Bool := nameOK e.nm && (decide (1 ≤ e.v) && decide (e.v ≤ 1000000)) && (decide (0 ≤ e.s) && decide (e.s ≤ 120)) && (decide (0 ≤ e.r) && decide (e.r ≤ 1152921504606846975))
theorem e86b (d : Nat) (x : Int) : evFun E (d+2) 86 [vi x] [] = some (vb (decide (0 ≤ x) && decide (x ≤ 1152921504606846975)), []) := e86 d x
theorem e63 (d : Nat) (e : Ent) (hl : e.nm.length ≤ 549755813888) : evFun E (d+5) 63 [.agg [vs e.nm, vi e.v, vi e.s, vi e.r]] [] = some (vb (entOK e), []) := by
  refine evFun_body b63 ?_
  cases h1 : nameOK e.nm with
  | false =>
    have hr : entOK e = false := by simp [entOK, h1]
    (have fz := ga2 h1 hr; repeat' (first | simp (maxDischargeDepth := 8) only [go_sem, rr, reduceIte, reduceCtorEq, Nat.reduceEqDiff, Nat.reduceAdd, Nat.reduceMul, Nat.reduceSub, Nat.reduceBEq, Nat.reduceLeDiff, Int.reduceEq, Int.reduceLT, Int.reduceLE, Int.reduceGE, Int.reduceGT, Int.reduceBEq, Int.reduceBNe, Int.reduceToNat, Int.reduceNeg, Int.reduceSub, Int.reduceAdd, Int.reduceMul, fz, Tryd.f63] | (with_reducible refine qg9 ?_ ?_; focus (first | (simp (maxDischargeDepth := 8) only [bb, kk, fz]; done) | kernel_rfl)) | ((with_reducible first | refine qf7 ?_ ?_ | refine qf8 ?_ ?_ | refine qf9 ?_ ?_ | refine qg ?_ ?_ | refine qg0 ?_ ?_ | refine qg1 ?_ ?_ | refine qg2 ?_ ?_); focus (first | assumption | omega | (simp only [bz, fz]; omega))) | ((with_reducible first | refine qg3 ?_ ?_ | refine qg4 ?_ ?_ | refine qg5 ?_ ?_); focus (first | assumption | omega | (simp only [bz, fz]; omega))) | ((with_reducible first | refine g1_u8w ?_ ?_ | refine qg7 ?_ ?_); (focus ((repeat' (with_reducible apply And.intro)) <;> (first | assumption | omega | (simp only [bz, fz]; omega) | (simp (maxDischargeDepth := 8) only [bb, fz]; done)))); intro _) | (with_reducible apply call_elim; focus ((with_reducible first | apply e79) <;> (first | assumption | omega | (simp only [bz, fz]; omega) | (simp (maxDischargeDepth := 8) only [bb, fz]; done))))))
  | true =>
    by_cases h2 : 1 ≤ e.v ∧ e.v ≤ 1000000
    · by_cases h3 : 0 ≤ e.s ∧ e.s ≤ 120
      · have hr : entOK e = (decide (0 ≤ e.r) && decide (e.r ≤ 1152921504606846975)) := by simp [entOK, h1, h2, h3]
        (have fz := ga2 h1 hr; repeat' (first | simp (maxDischargeDepth := 8) only [go_sem, rr, reduceIte, reduceCtorEq, Nat.reduceEqDiff, Nat.reduceAdd, Nat.reduceMul, Nat.reduceSub, Nat.reduceBEq, Nat.reduceLeDiff, Int.reduceEq, Int.reduceLT, Int.reduceLE, Int.reduceGE, Int.reduceGT, Int.reduceBEq, Int.reduceBNe, Int.reduceToNat, Int.reduceNeg, Int.reduceSub, Int.reduceAdd, Int.reduceMul, fz, Tryd.f63] | (with_reducible refine qg9 ?_ ?_; focus (first | (simp (maxDischargeDepth := 8) only [bb, kk, fz]; done) | kernel_rfl)) | ((with_reducible first | refine qf7 ?_ ?_ | refine qf8 ?_ ?_ | refine qf9 ?_ ?_ | refine qg ?_ ?_ | refine qg0 ?_ ?_ | refine qg1 ?_ ?_ | refine qg2 ?_ ?_); focus (first | assumption | omega | (simp only [bz, fz]; omega))) | ((with_reducible first | refine qg3 ?_ ?_ | refine qg4 ?_ ?_ | refine qg5 ?_ ?_); focus (first | assumption | omega | (simp only [bz, fz]; omega))) | ((with_reducible first | refine g1_u8w ?_ ?_ | refine qg7 ?_ ?_); (focus ((repeat' (with_reducible apply And.intro)) <;> (first | assumption | omega | (simp only [bz, fz]; omega) | (simp (maxDischargeDepth := 8) only [bb, fz]; done)))); intro _) | (with_reducible apply call_elim; focus ((with_reducible first | apply e79 | apply e40 | apply e86b) <;> (first | assumption | omega | (simp only [bz, fz]; omega) | (simp (maxDischargeDepth := 8) only [bb, fz]; done))))))
      · have hr : entOK e = false := by
          have : (decide (0 ≤ e.s) && decide (e.s ≤ 120)) = false := by simp; omega
          simp [entOK, this]
        (have fz := ga2 h1 hr; repeat' (first | simp (maxDischargeDepth := 8) only [go_sem, rr, reduceIte, reduceCtorEq, Nat.reduceEqDiff, Nat.reduceAdd, Nat.reduceMul, Nat.reduceSub, Nat.reduceBEq, Nat.reduceLeDiff, Int.reduceEq, Int.reduceLT, Int.reduceLE, Int.reduceGE, Int.reduceGT, Int.reduceBEq, Int.reduceBNe, Int.reduceToNat, Int.reduceNeg, Int.reduceSub, Int.reduceAdd, Int.reduceMul, fz, Tryd.f63] | (with_reducible refine qg9 ?_ ?_; focus (first | (simp (maxDischargeDepth := 8) only [bb, kk, fz]; done) | kernel_rfl)) | ((with_reducible first | refine qf7 ?_ ?_ | refine qf8 ?_ ?_ | refine qf9 ?_ ?_ | refine qg ?_ ?_ | refine qg0 ?_ ?_ | refine qg1 ?_ ?_ | refine qg2 ?_ ?_); focus (first | assumption | omega | (simp only [bz, fz]; omega))) | ((with_reducible first | refine qg3 ?_ ?_ | refine qg4 ?_ ?_ | refine qg5 ?_ ?_); focus (first | assumption | omega | (simp only [bz, fz]; omega))) | ((with_reducible first | refine g1_u8w ?_ ?_ | refine qg7 ?_ ?_); (focus ((repeat' (with_reducible apply And.intro)) <;> (first | assumption | omega | (simp only [bz, fz]; omega) | (simp (maxDischargeDepth := 8) only [bb, fz]; done)))); intro _) | (with_reducible apply call_elim; focus ((with_reducible first | apply e79 | apply e40) <;> (first | assumption | omega | (simp only [bz, fz]; omega) | (simp (maxDischargeDepth := 8) only [bb, fz]; done))))))
    · have hr : entOK e = false := by
        have : (decide (1 ≤ e.v) && decide (e.v ≤ 1000000)) = false := by simp; omega
        simp [entOK, this]
      (have fz := ga2 h1 hr; repeat' (first | simp (maxDischargeDepth := 8) only [go_sem, rr, reduceIte, reduceCtorEq, Nat.reduceEqDiff, Nat.reduceAdd, Nat.reduceMul, Nat.reduceSub, Nat.reduceBEq, Nat.reduceLeDiff, Int.reduceEq, Int.reduceLT, Int.reduceLE, Int.reduceGE, Int.reduceGT, Int.reduceBEq, Int.reduceBNe, Int.reduceToNat, Int.reduceNeg, Int.reduceSub, Int.reduceAdd, Int.reduceMul, fz, Tryd.f63] | (with_reducible refine qg9 ?_ ?_; focus (first | (simp (maxDischargeDepth := 8) only [bb, kk, fz]; done) | kernel_rfl)) | ((with_reducible first | refine qf7 ?_ ?_ | refine qf8 ?_ ?_ | refine qf9 ?_ ?_ | refine qg ?_ ?_ | refine qg0 ?_ ?_ | refine qg1 ?_ ?_ | refine qg2 ?_ ?_); focus (first | assumption | omega | (simp only [bz, fz]; omega))) | ((with_reducible first | refine qg3 ?_ ?_ | refine qg4 ?_ ?_ | refine qg5 ?_ ?_); focus (first | assumption | omega | (simp only [bz, fz]; omega))) | ((with_reducible first | refine g1_u8w ?_ ?_ | refine qg7 ?_ ?_); (focus ((repeat' (with_reducible apply And.intro)) <;> (first | assumption | omega | (simp only [bz, fz]; omega) | (simp (maxDischargeDepth := 8) only [bb, fz]; done)))); intro _) | (with_reducible apply call_elim; focus ((with_reducible first | apply e79 | apply e40) <;> (first | assumption | omega | (simp only [bz, fz]; omega) | (simp (maxDischargeDepth := 8) only [bb, fz]; done))))))
theorem e62 (d : Nat) (e : Ent) (hl : e.nm.length ≤ 549755813888) : evFun E (d+3) 62 [.agg [vs e.nm, vi e.v, vi e.s, vi e.r]] [] = some (vb (entOK e), []) := by
  refine evFun_body b62 ?_
  cases h1 : nameOK e.nm with
  | false =>
    have hr : entOK e = false := by simp [entOK, h1]
    (have fz := ga2 h1 hr; repeat' (first | simp (maxDischargeDepth := 8) only [go_sem, rr, reduceIte, reduceCtorEq, Nat.reduceEqDiff, Nat.reduceAdd, Nat.reduceMul, Nat.reduceSub, Nat.reduceBEq, Nat.reduceLeDiff, Int.reduceEq, Int.reduceLT, Int.reduceLE, Int.reduceGE, Int.reduceGT, Int.reduceBEq, Int.reduceBNe, Int.reduceToNat, Int.reduceNeg, Int.reduceSub, Int.reduceAdd, Int.reduceMul, fz, Tryd.f62] | (with_reducible refine qg9 ?_ ?_; focus (first | (simp (maxDischargeDepth := 8) only [bb, kk, fz]; done) | kernel_rfl)) | ((with_reducible first | refine qf7 ?_ ?_ | refine qf8 ?_ ?_ | refine qf9 ?_ ?_ | refine qg ?_ ?_ | refine qg0 ?_ ?_ | refine qg1 ?_ ?_ | refine qg2 ?_ ?_); focus (first | assumption | omega | (simp only [bz, fz]; omega))) | ((with_reducible first | refine qg3 ?_ ?_ | refine qg4 ?_ ?_ | refine qg5 ?_ ?_); focus (first | assumption | omega | (simp only [bz, fz]; omega))) | ((with_reducible first | refine g1_u8w ?_ ?_ | refine qg7 ?_ ?_); (focus ((repeat' (with_reducible apply And.intro)) <;> (first | assumption | omega | (simp only [bz, fz]; omega) | (simp (maxDischargeDepth := 8) only [bb, fz]; done)))); intro _) | (with_reducible apply call_elim; focus ((with_reducible first | apply e38) <;> (first | assumption | omega | (simp only [bz, fz]; omega) | (simp (maxDischargeDepth := 8) only [bb, fz]; done))))))
  | true =>
    by_cases h2 : 1 ≤ e.v ∧ e.v ≤ 1000000
    · by_cases h3 : 0 ≤ e.s ∧ e.s ≤ 120
      · have hr : entOK e = (decide (e.r ≥ 0) && decide (e.r ≤ 1152921504606846975)) := by simp [entOK, h1, h2, h3]
        (have fz := ga2 h1 hr; repeat' (first | simp (maxDischargeDepth := 8) only [go_sem, rr, reduceIte, reduceCtorEq, Nat.reduceEqDiff, Nat.reduceAdd, Nat.reduceMul, Nat.reduceSub, Nat.reduceBEq, Nat.reduceLeDiff, Int.reduceEq, Int.reduceLT, Int.reduceLE, Int.reduceGE, Int.reduceGT, Int.reduceBEq, Int.reduceBNe, Int.reduceToNat, Int.reduceNeg, Int.reduceSub, Int.reduceAdd, Int.reduceMul, fz, Tryd.f62] | (with_reducible refine qg9 ?_ ?_; focus (first | (simp (maxDischargeDepth := 8) only [bb, kk, fz]; done) | kernel_rfl)) | ((with_reducible first | refine qf7 ?_ ?_ | refine qf8 ?_ ?_ | refine qf9 ?_ ?_ | refine qg ?_ ?_ | refine qg0 ?_ ?_ | refine qg1 ?_ ?_ | refine qg2 ?_ ?_); focus (first | assumption | omega | (simp only [bz, fz]; omega))) | ((with_reducible first | refine qg3 ?_ ?_ | refine qg4 ?_ ?_ | refine qg5 ?_ ?_); focus (first | assumption | omega | (simp only [bz, fz]; omega))) | ((with_reducible first | refine g1_u8w ?_ ?_ | refine qg7 ?_ ?_); (focus ((repeat' (with_reducible apply And.intro)) <;> (first | assumption | omega | (simp only [bz, fz]; omega) | (simp (maxDischargeDepth := 8) only [bb, fz]; done)))); intro _) | (with_reducible apply call_elim; focus ((with_reducible first | apply e38 | apply e39) <;> (first | assumption | omega | (simp only [bz, fz]; omega) | (simp (maxDischargeDepth := 8) only [bb, fz]; done))))))
      · have hr : entOK e = false := by
          have : (decide (0 ≤ e.s) && decide (e.s ≤ 120)) = false := by simp; omega
          simp [entOK, this]
        (have fz := ga2 h1 hr; repeat' (first | simp (maxDischargeDepth := 8) only [go_sem, rr, reduceIte, reduceCtorEq, Nat.reduceEqDiff, Nat.reduceAdd, Nat.reduceMul, Nat.reduceSub, Nat.reduceBEq, Nat.reduceLeDiff, Int.reduceEq, Int.reduceLT, Int.reduceLE, Int.reduceGE, Int.reduceGT, Int.reduceBEq, Int.reduceBNe, Int.reduceToNat, Int.reduceNeg, Int.reduceSub, Int.reduceAdd, Int.reduceMul, fz, Tryd.f62] | (with_reducible refine qg9 ?_ ?_; focus (first | (simp (maxDischargeDepth := 8) only [bb, kk, fz]; done) | kernel_rfl)) | ((with_reducible first | refine qf7 ?_ ?_ | refine qf8 ?_ ?_ | refine qf9 ?_ ?_ | refine qg ?_ ?_ | refine qg0 ?_ ?_ | refine qg1 ?_ ?_ | refine qg2 ?_ ?_); focus (first | assumption | omega | (simp only [bz, fz]; omega))) | ((with_reducible first | refine qg3 ?_ ?_ | refine qg4 ?_ ?_ | refine qg5 ?_ ?_); focus (first | assumption | omega | (simp only [bz, fz]; omega))) | ((with_reducible first | refine g1_u8w ?_ ?_ | refine qg7 ?_ ?_); (focus ((repeat' (with_reducible apply And.intro)) <;> (first | assumption | omega | (simp only [bz, fz]; omega) | (simp (maxDischargeDepth := 8) only [bb, fz]; done)))); intro _) | (with_reducible apply call_elim; focus ((with_reducible first | apply e38 | apply e39) <;> (first | assumption | omega | (simp only [bz, fz]; omega) | (simp (maxDischargeDepth := 8) only [bb, fz]; done))))))
    · have hr : entOK e = false := by
        have : (decide (1 ≤ e.v) && decide (e.v ≤ 1000000)) = false := by simp; omega
        simp [entOK, this]
      (have fz := ga2 h1 hr; repeat' (first | simp (maxDischargeDepth := 8) only [go_sem, rr, reduceIte, reduceCtorEq, Nat.reduceEqDiff, Nat.reduceAdd, Nat.reduceMul, Nat.reduceSub, Nat.reduceBEq, Nat.reduceLeDiff, Int.reduceEq, Int.reduceLT, Int.reduceLE, Int.reduceGE, Int.reduceGT, Int.reduceBEq, Int.reduceBNe, Int.reduceToNat, Int.reduceNeg, Int.reduceSub, Int.reduceAdd, Int.reduceMul, fz, Tryd.f62] | (with_reducible refine qg9 ?_ ?_; focus (first | (simp (maxDischargeDepth := 8) only [bb, kk, fz]; done) | kernel_rfl)) | ((with_reducible first | refine qf7 ?_ ?_ | refine qf8 ?_ ?_ | refine qf9 ?_ ?_ | refine qg ?_ ?_ | refine qg0 ?_ ?_ | refine qg1 ?_ ?_ | refine qg2 ?_ ?_); focus (first | assumption | omega | (simp only [bz, fz]; omega))) | ((with_reducible first | refine qg3 ?_ ?_ | refine qg4 ?_ ?_ | refine qg5 ?_ ?_); focus (first | assumption | omega | (simp only [bz, fz]; omega))) | ((with_reducible first | refine g1_u8w ?_ ?_ | refine qg7 ?_ ?_); (focus ((repeat' (with_reducible apply And.intro)) <;> (first | assumption | omega | (simp only [bz, fz]; omega) | (simp (maxDischargeDepth := 8) only [bb, fz]; done)))); intro _) | (with_reducible apply call_elim; focus ((with_reducible first | apply e38 | apply e39) <;> (first | assumption | omega | (simp only [bz, fz]; omega) | (simp (maxDischargeDepth := 8) only [bb, fz]; done))))))
def stOK (L : List Ent) (i : Nat) : Bool := entOK (eA L i) && (decide (i = 0) || ltB (eA L (i - 1)).nm (eA L i).nm)
def catOK (L : List Ent) : Bool := (List.range L.length).all (stOK L) && decide (L.length ≤ 5)
theorem catOK_no {L : List Ent} {i : Nat} (h : i < L.length) (hs : stOK L i = false) : catOK L = false := by
  have : (List.range L.length).all (stOK L) = false := List.all_eq_false.mpr ⟨i, List.mem_range.mpr h, by rw [hs]; simp⟩
  simp [catOK, this]
theorem catOK_all {L : List Ent} (h : ∀ i, i < L.length → stOK L i = true) : catOK L = decide (L.length ≤ 5) := by
  have : (List.range L.length).all (stOK L) = true := List.all_eq_true.mpr fun i hi => h i (List.mem_range.mp hi)
  simp [catOK, this]
def Small (L : List Ent) : Prop := L.length ≤ 549755813888 ∧ ∀ i, (eA L i).nm.length ≤ 549755813888
theorem e24 (d : Nat) (L : List Ent) (tg : Tg) (c : Option Nat) (hS : Small L) : evFun E (d+6) 24 [.sl tg 4 L.length c (flat encE L)] [] = some (vb (catOK L), []) := by
  refine evFun_body b24 ?_
  have hl := hS.1
  have hq : decide ((L.length : Int) ≤ 5) = decide (L.length ≤ 5) := by rw [Bool.eq_iff_iff]; simp; omega
  (repeat' (first | simp (maxDischargeDepth := 8) only [go_sem, rr, reduceIte, reduceCtorEq, Nat.reduceEqDiff, Nat.reduceAdd, Nat.reduceMul, Nat.reduceSub, Nat.reduceBEq, Nat.reduceLeDiff, Int.reduceEq, Int.reduceLT, Int.reduceLE, Int.reduceGE, Int.reduceGT, Int.reduceBEq, Int.reduceBNe, Int.reduceToNat, Int.reduceNeg, Int.reduceSub, Int.reduceAdd, Int.reduceMul, Tryd.f24] | (with_reducible refine qg9 ?_ ?_; focus (first | (simp (maxDischargeDepth := 8) only [bb, kk]; done) | kernel_rfl)) | ((with_reducible first | refine qf7 ?_ ?_ | refine qf8 ?_ ?_ | refine qf9 ?_ ?_ | refine qg ?_ ?_ | refine qg0 ?_ ?_ | refine qg1 ?_ ?_ | refine qg2 ?_ ?_); focus (first | assumption | omega | (simp only [bz]; omega))) | ((with_reducible first | refine qg3 ?_ ?_ | refine qg4 ?_ ?_ | refine qg5 ?_ ?_); focus (first | assumption | omega | (simp only [bz]; omega))) | ((with_reducible first | refine g1_u8w ?_ ?_ | refine qg7 ?_ ?_); (focus ((repeat' (with_reducible apply And.intro)) <;> (first | assumption | omega | (simp only [bz]; omega) | (simp (maxDischargeDepth := 8) only [bb]; done)))); intro _)))
  refine loop_inv (fun i => ∀ j, j < i → stOK L j = true) (fun i => {T := tp [(0, .sl tg 4 L.length c (flat encE L)), (5, .sl tg 4 L.length c (flat encE L)), (6, vi L.length), (7, vi i)], H := hp [], nx := 0}) L.length ?_ (fun j h => by omega) (lt_LF (by omega)) (fun i hi hI Kn hK => ?_) (fun hI Kn => ?_)
  · simp only [vv, ff, norm, Array.toList, List.map, Option.isSome_none, bne_self_eq_false, reduceIte, reduceCtorEq, Nat.reduceEqDiff, Nat.reduceAdd, Nat.reduceMul, Nat.reduceSub, Nat.reduceBEq, Nat.reduceLeDiff, Int.reduceEq, Int.reduceLT, Int.reduceLE, Int.reduceGE, Int.reduceGT, Int.reduceBEq, Int.reduceBNe, Int.reduceToNat, Int.reduceNeg, Int.reduceSub, Int.reduceAdd, Int.reduceMul, finish, qf0, resOf, resa, qf1, qf2, qf3, keep, qf4, qf5, qf6, qe9, qf, Int.natCast_zero]
  · have hg := fE_getR L hi
    have h0 := fE_get0 L hi
    have hn := hS.2 i
    have next : stOK L i = true → ∀ j, j < i + 1 → stOK L j = true := fun h j hj => by
      by_cases e : j = i
      · subst e; exact h
      · exact hI j (by omega)
    cases h1 : entOK (eA L i) with
    | false =>
      have hr := catOK_no hi (show stOK L i = false by simp [stOK, h1])
      (have fz := ga4 hg h0 h1 hr; repeat' (first | simp (maxDischargeDepth := 8) only [go_sem, rr, reduceIte, reduceCtorEq, Nat.reduceEqDiff, Nat.reduceAdd, Nat.reduceMul, Nat.reduceSub, Nat.reduceBEq, Nat.reduceLeDiff, Int.reduceEq, Int.reduceLT, Int.reduceLE, Int.reduceGE, Int.reduceGT, Int.reduceBEq, Int.reduceBNe, Int.reduceToNat, Int.reduceNeg, Int.reduceSub, Int.reduceAdd, Int.reduceMul, fz] | (with_reducible refine qg9 ?_ ?_; focus (first | (simp (maxDischargeDepth := 8) only [bb, kk, fz]; done) | kernel_rfl)) | ((with_reducible first | refine qf7 ?_ ?_ | refine qf8 ?_ ?_ | refine qf9 ?_ ?_ | refine qg ?_ ?_ | refine qg0 ?_ ?_ | refine qg1 ?_ ?_ | refine qg2 ?_ ?_); focus (first | assumption | omega | (simp only [bz, fz]; omega))) | ((with_reducible first | refine qg3 ?_ ?_ | refine qg4 ?_ ?_ | refine qg5 ?_ ?_); focus (first | assumption | omega | (simp only [bz, fz]; omega))) | ((with_reducible first | refine g1_u8w ?_ ?_ | refine qg7 ?_ ?_); (focus ((repeat' (with_reducible apply And.intro)) <;> (first | assumption | omega | (simp only [bz, fz]; omega) | (simp (maxDischargeDepth := 8) only [bb, fz]; done)))); intro _) | (with_reducible apply call_elim; focus ((with_reducible first | apply e63) <;> (first | assumption | omega | (simp only [bz, fz]; omega) | (simp (maxDischargeDepth := 8) only [bb, fz]; done))))))
    | true =>
      rcases Nat.eq_zero_or_pos i with hi0 | hi0
      · subst hi0
        (have fz := ga3 hg h0 h1; repeat' (first | simp (maxDischargeDepth := 8) only [go_sem, rr, reduceIte, reduceCtorEq, Nat.reduceEqDiff, Nat.reduceAdd, Nat.reduceMul, Nat.reduceSub, Nat.reduceBEq, Nat.reduceLeDiff, Int.reduceEq, Int.reduceLT, Int.reduceLE, Int.reduceGE, Int.reduceGT, Int.reduceBEq, Int.reduceBNe, Int.reduceToNat, Int.reduceNeg, Int.reduceSub, Int.reduceAdd, Int.reduceMul, fz] | (with_reducible refine qg9 ?_ ?_; focus (first | (simp (maxDischargeDepth := 8) only [bb, kk, fz]; done) | kernel_rfl)) | ((with_reducible first | refine qf7 ?_ ?_ | refine qf8 ?_ ?_ | refine qf9 ?_ ?_ | refine qg ?_ ?_ | refine qg0 ?_ ?_ | refine qg1 ?_ ?_ | refine qg2 ?_ ?_); focus (first | assumption | omega | (simp only [bz, fz]; omega))) | ((with_reducible first | refine qg3 ?_ ?_ | refine qg4 ?_ ?_ | refine qg5 ?_ ?_); focus (first | assumption | omega | (simp only [bz, fz]; omega))) | ((with_reducible first | refine g1_u8w ?_ ?_ | refine qg7 ?_ ?_); (focus ((repeat' (with_reducible apply And.intro)) <;> (first | assumption | omega | (simp only [bz, fz]; omega) | (simp (maxDischargeDepth := 8) only [bb, fz]; done)))); intro _) | (with_reducible apply call_elim; focus ((with_reducible first | apply e63) <;> (first | assumption | omega | (simp only [bz, fz]; omega) | (simp (maxDischargeDepth := 8) only [bb, fz]; done))))))
        refine hK (next (by simp [stOK, h1])) _ ?_
        simp only [vv, ff, norm, Array.toList, List.map, Option.isSome_none, bne_self_eq_false, reduceIte, reduceCtorEq, Nat.reduceEqDiff, Nat.reduceAdd, Nat.reduceMul, Nat.reduceSub, Nat.reduceBEq, Nat.reduceLeDiff, Int.reduceEq, Int.reduceLT, Int.reduceLE, Int.reduceGE, Int.reduceGT, Int.reduceBEq, Int.reduceBNe, Int.reduceToNat, Int.reduceNeg, Int.reduceSub, Int.reduceAdd, Int.reduceMul, finish, qf0, resOf, resa, qf1, qf2, qf3, keep, qf4, qf5, qf6, qe9, qf, Int.natCast_add, cst1]
      · have hp := fE_get0 L (show i - 1 < L.length by omega)
        cases h2 : ltB (eA L (i - 1)).nm (eA L i).nm with
        | false =>
          have hr := catOK_no hi (show stOK L i = false by simp [stOK, h2]; omega)
          (have fz := ga5 hg h0 h1 h2 hr; repeat' (first | simp (maxDischargeDepth := 8) only [go_sem, rr, reduceIte, reduceCtorEq, Nat.reduceEqDiff, Nat.reduceAdd, Nat.reduceMul, Nat.reduceSub, Nat.reduceBEq, Nat.reduceLeDiff, Int.reduceEq, Int.reduceLT, Int.reduceLE, Int.reduceGE, Int.reduceGT, Int.reduceBEq, Int.reduceBNe, Int.reduceToNat, Int.reduceNeg, Int.reduceSub, Int.reduceAdd, Int.reduceMul, fz, hp] | (with_reducible refine qg9 ?_ ?_; focus (first | (simp (maxDischargeDepth := 8) only [bb, kk, fz, hp]; done) | kernel_rfl)) | ((with_reducible first | refine qf7 ?_ ?_ | refine qf8 ?_ ?_ | refine qf9 ?_ ?_ | refine qg ?_ ?_ | refine qg0 ?_ ?_ | refine qg1 ?_ ?_ | refine qg2 ?_ ?_); focus (first | assumption | omega | (simp only [bz, fz, hp]; omega))) | ((with_reducible first | refine qg3 ?_ ?_ | refine qg4 ?_ ?_ | refine qg5 ?_ ?_); focus (first | assumption | omega | (simp only [bz, fz, hp]; omega))) | ((with_reducible first | refine g1_u8w ?_ ?_ | refine qg7 ?_ ?_); (focus ((repeat' (with_reducible apply And.intro)) <;> (first | assumption | omega | (simp only [bz, fz, hp]; omega) | (simp (maxDischargeDepth := 8) only [bb, fz, hp]; done)))); intro _) | (with_reducible apply call_elim; focus ((with_reducible first | apply e63) <;> (first | assumption | omega | (simp only [bz, fz, hp]; omega) | (simp (maxDischargeDepth := 8) only [bb, fz, hp]; done))))))
        | true =>
          (have fz := ga4 hg h0 h1 h2; repeat' (first | simp (maxDischargeDepth := 8) only [go_sem, rr, reduceIte, reduceCtorEq, Nat.reduceEqDiff, Nat.reduceAdd, Nat.reduceMul, Nat.reduceSub, Nat.reduceBEq, Nat.reduceLeDiff, Int.reduceEq, Int.reduceLT, Int.reduceLE, Int.reduceGE, Int.reduceGT, Int.reduceBEq, Int.reduceBNe, Int.reduceToNat, Int.reduceNeg, Int.reduceSub, Int.reduceAdd, Int.reduceMul, fz, hp] | (with_reducible refine qg9 ?_ ?_; focus (first | (simp (maxDischargeDepth := 8) only [bb, kk, fz, hp]; done) | kernel_rfl)) | ((with_reducible first | refine qf7 ?_ ?_ | refine qf8 ?_ ?_ | refine qf9 ?_ ?_ | refine qg ?_ ?_ | refine qg0 ?_ ?_ | refine qg1 ?_ ?_ | refine qg2 ?_ ?_); focus (first | assumption | omega | (simp only [bz, fz, hp]; omega))) | ((with_reducible first | refine qg3 ?_ ?_ | refine qg4 ?_ ?_ | refine qg5 ?_ ?_); focus (first | assumption | omega | (simp only [bz, fz, hp]; omega))) | ((with_reducible first | refine g1_u8w ?_ ?_ | refine qg7 ?_ ?_); (focus ((repeat' (with_reducible apply And.intro)) <;> (first | assumption | omega | (simp only [bz, fz, hp]; omega) | (simp (maxDischargeDepth := 8) only [bb, fz, hp]; done)))); intro _) | (with_reducible apply call_elim; focus ((with_reducible first | apply e63) <;> (first | assumption | omega | (simp only [bz, fz, hp]; omega) | (simp (maxDischargeDepth := 8) only [bb, fz, hp]; done))))))
          refine hK (next (by simp [stOK, h1, h2])) _ ?_
          simp only [vv, ff, norm, Array.toList, List.map, Option.isSome_none, bne_self_eq_false, reduceIte, reduceCtorEq, Nat.reduceEqDiff, Nat.reduceAdd, Nat.reduceMul, Nat.reduceSub, Nat.reduceBEq, Nat.reduceLeDiff, Int.reduceEq, Int.reduceLT, Int.reduceLE, Int.reduceGE, Int.reduceGT, Int.reduceBEq, Int.reduceBNe, Int.reduceToNat, Int.reduceNeg, Int.reduceSub, Int.reduceAdd, Int.reduceMul, finish, qf0, resOf, resa, qf1, qf2, qf3, keep, qf4, qf5, qf6, qe9, qf, Int.natCast_add, cst1]
  · have hr := catOK_all hI
    (have fz := ga2 hr hq; repeat' (first | simp (maxDischargeDepth := 8) only [go_sem, rr, reduceIte, reduceCtorEq, Nat.reduceEqDiff, Nat.reduceAdd, Nat.reduceMul, Nat.reduceSub, Nat.reduceBEq, Nat.reduceLeDiff, Int.reduceEq, Int.reduceLT, Int.reduceLE, Int.reduceGE, Int.reduceGT, Int.reduceBEq, Int.reduceBNe, Int.reduceToNat, Int.reduceNeg, Int.reduceSub, Int.reduceAdd, Int.reduceMul, fz] | (with_reducible refine qg9 ?_ ?_; focus (first | (simp (maxDischargeDepth := 8) only [bb, kk, fz]; done) | kernel_rfl)) | ((with_reducible first | refine qf7 ?_ ?_ | refine qf8 ?_ ?_ | refine qf9 ?_ ?_ | refine qg ?_ ?_ | refine qg0 ?_ ?_ | refine qg1 ?_ ?_ | refine qg2 ?_ ?_); focus (first | assumption | omega | (simp only [bz, fz]; omega))) | ((with_reducible first | refine qg3 ?_ ?_ | refine qg4 ?_ ?_ | refine qg5 ?_ ?_); focus (first | assumption | omega | (simp only [bz, fz]; omega))) | ((with_reducible first | refine g1_u8w ?_ ?_ | refine qg7 ?_ ?_); (focus ((repeat' (with_reducible apply And.intro)) <;> (first | assumption | omega | (simp only [bz, fz]; omega) | (simp (maxDischargeDepth := 8) only [bb, fz]; done)))); intro _)))
theorem e23 (d : Nat) (L : List Ent) (tg : Tg) (c : Option Nat) (hS : Small L) : evFun E (d+4) 23 [.sl tg 4 L.length c (flat encE L)] [] = some (vb (catOK L), []) := by
  refine evFun_body b23 ?_
  have hl := hS.1
  have hq : decide ((L.length : Int) ≤ 5) = decide (L.length ≤ 5) := by rw [Bool.eq_iff_iff]; simp; omega
  (repeat' (first | simp (maxDischargeDepth := 8) only [go_sem, rr, reduceIte, reduceCtorEq, Nat.reduceEqDiff, Nat.reduceAdd, Nat.reduceMul, Nat.reduceSub, Nat.reduceBEq, Nat.reduceLeDiff, Int.reduceEq, Int.reduceLT, Int.reduceLE, Int.reduceGE, Int.reduceGT, Int.reduceBEq, Int.reduceBNe, Int.reduceToNat, Int.reduceNeg, Int.reduceSub, Int.reduceAdd, Int.reduceMul, Tryd.f23] | (with_reducible refine qg9 ?_ ?_; focus (first | (simp (maxDischargeDepth := 8) only [bb, kk]; done) | kernel_rfl)) | ((with_reducible first | refine qf7 ?_ ?_ | refine qf8 ?_ ?_ | refine qf9 ?_ ?_ | refine qg ?_ ?_ | refine qg0 ?_ ?_ | refine qg1 ?_ ?_ | refine qg2 ?_ ?_); focus (first | assumption | omega | (simp only [bz]; omega))) | ((with_reducible first | refine qg3 ?_ ?_ | refine qg4 ?_ ?_ | refine qg5 ?_ ?_); focus (first | assumption | omega | (simp only [bz]; omega))) | ((with_reducible first | refine g1_u8w ?_ ?_ | refine qg7 ?_ ?_); (focus ((repeat' (with_reducible apply And.intro)) <;> (first | assumption | omega | (simp only [bz]; omega) | (simp (maxDischargeDepth := 8) only [bb]; done)))); intro _)))
  refine loop_inv (fun i => ∀ j, j < i → stOK L j = true) (fun i => {T := tp [(0, .sl tg 4 L.length c (flat encE L)), (3, vi i)], H := hp [], nx := 0}) L.length ?_ (fun j h => by omega) (lt_LF (by omega)) (fun i hi hI Kn hK => ?_) (fun hI Kn => ?_)
  · simp only [vv, ff, norm, Array.toList, List.map, Option.isSome_none, bne_self_eq_false, reduceIte, reduceCtorEq, Nat.reduceEqDiff, Nat.reduceAdd, Nat.reduceMul, Nat.reduceSub, Nat.reduceBEq, Nat.reduceLeDiff, Int.reduceEq, Int.reduceLT, Int.reduceLE, Int.reduceGE, Int.reduceGT, Int.reduceBEq, Int.reduceBNe, Int.reduceToNat, Int.reduceNeg, Int.reduceSub, Int.reduceAdd, Int.reduceMul, finish, qf0, resOf, resa, qf1, qf2, qf3, keep, qf4, qf5, qf6, qe9, qf, Int.natCast_zero]
  · have hg := fE_getR L hi
    have h0 := fE_get0 L hi
    have hn := hS.2 i
    have next : stOK L i = true → ∀ j, j < i + 1 → stOK L j = true := fun h j hj => by
      by_cases e : j = i
      · subst e; exact h
      · exact hI j (by omega)
    cases h1 : entOK (eA L i) with
    | false =>
      have hr := catOK_no hi (show stOK L i = false by simp [stOK, h1])
      (have fz := ga4 hg h0 h1 hr; repeat' (first | simp (maxDischargeDepth := 8) only [go_sem, rr, reduceIte, reduceCtorEq, Nat.reduceEqDiff, Nat.reduceAdd, Nat.reduceMul, Nat.reduceSub, Nat.reduceBEq, Nat.reduceLeDiff, Int.reduceEq, Int.reduceLT, Int.reduceLE, Int.reduceGE, Int.reduceGT, Int.reduceBEq, Int.reduceBNe, Int.reduceToNat, Int.reduceNeg, Int.reduceSub, Int.reduceAdd, Int.reduceMul, fz] | (with_reducible refine qg9 ?_ ?_; focus (first | (simp (maxDischargeDepth := 8) only [bb, kk, fz]; done) | kernel_rfl)) | ((with_reducible first | refine qf7 ?_ ?_ | refine qf8 ?_ ?_ | refine qf9 ?_ ?_ | refine qg ?_ ?_ | refine qg0 ?_ ?_ | refine qg1 ?_ ?_ | refine qg2 ?_ ?_); focus (first | assumption | omega | (simp only [bz, fz]; omega))) | ((with_reducible first | refine qg3 ?_ ?_ | refine qg4 ?_ ?_ | refine qg5 ?_ ?_); focus (first | assumption | omega | (simp only [bz, fz]; omega))) | ((with_reducible first | refine g1_u8w ?_ ?_ | refine qg7 ?_ ?_); (focus ((repeat' (with_reducible apply And.intro)) <;> (first | assumption | omega | (simp only [bz, fz]; omega) | (simp (maxDischargeDepth := 8) only [bb, fz]; done)))); intro _) | (with_reducible apply call_elim; focus ((with_reducible first | apply e62) <;> (first | assumption | omega | (simp only [bz, fz]; omega) | (simp (maxDischargeDepth := 8) only [bb, fz]; done))))))
    | true =>
      rcases Nat.eq_zero_or_pos i with hi0 | hi0
      · subst hi0
        (have fz := ga3 hg h0 h1; repeat' (first | simp (maxDischargeDepth := 8) only [go_sem, rr, reduceIte, reduceCtorEq, Nat.reduceEqDiff, Nat.reduceAdd, Nat.reduceMul, Nat.reduceSub, Nat.reduceBEq, Nat.reduceLeDiff, Int.reduceEq, Int.reduceLT, Int.reduceLE, Int.reduceGE, Int.reduceGT, Int.reduceBEq, Int.reduceBNe, Int.reduceToNat, Int.reduceNeg, Int.reduceSub, Int.reduceAdd, Int.reduceMul, fz] | (with_reducible refine qg9 ?_ ?_; focus (first | (simp (maxDischargeDepth := 8) only [bb, kk, fz]; done) | kernel_rfl)) | ((with_reducible first | refine qf7 ?_ ?_ | refine qf8 ?_ ?_ | refine qf9 ?_ ?_ | refine qg ?_ ?_ | refine qg0 ?_ ?_ | refine qg1 ?_ ?_ | refine qg2 ?_ ?_); focus (first | assumption | omega | (simp only [bz, fz]; omega))) | ((with_reducible first | refine qg3 ?_ ?_ | refine qg4 ?_ ?_ | refine qg5 ?_ ?_); focus (first | assumption | omega | (simp only [bz, fz]; omega))) | ((with_reducible first | refine g1_u8w ?_ ?_ | refine qg7 ?_ ?_); (focus ((repeat' (with_reducible apply And.intro)) <;> (first | assumption | omega | (simp only [bz, fz]; omega) | (simp (maxDischargeDepth := 8) only [bb, fz]; done)))); intro _) | (with_reducible apply call_elim; focus ((with_reducible first | apply e62) <;> (first | assumption | omega | (simp only [bz, fz]; omega) | (simp (maxDischargeDepth := 8) only [bb, fz]; done))))))
        refine hK (next (by simp [stOK, h1])) _ ?_
        simp only [vv, ff, norm, Array.toList, List.map, Option.isSome_none, bne_self_eq_false, reduceIte, reduceCtorEq, Nat.reduceEqDiff, Nat.reduceAdd, Nat.reduceMul, Nat.reduceSub, Nat.reduceBEq, Nat.reduceLeDiff, Int.reduceEq, Int.reduceLT, Int.reduceLE, Int.reduceGE, Int.reduceGT, Int.reduceBEq, Int.reduceBNe, Int.reduceToNat, Int.reduceNeg, Int.reduceSub, Int.reduceAdd, Int.reduceMul, finish, qf0, resOf, resa, qf1, qf2, qf3, keep, qf4, qf5, qf6, qe9, qf, Int.natCast_add, cst1]
      · have hp := fE_get0 L (show i - 1 < L.length by omega)
        cases h2 : ltB (eA L (i - 1)).nm (eA L i).nm with
        | false =>
          have hr := catOK_no hi (show stOK L i = false by simp [stOK, h2]; omega)
          (have fz := ga5 hg h0 h1 h2 hr; repeat' (first | simp (maxDischargeDepth := 8) only [go_sem, rr, reduceIte, reduceCtorEq, Nat.reduceEqDiff, Nat.reduceAdd, Nat.reduceMul, Nat.reduceSub, Nat.reduceBEq, Nat.reduceLeDiff, Int.reduceEq, Int.reduceLT, Int.reduceLE, Int.reduceGE, Int.reduceGT, Int.reduceBEq, Int.reduceBNe, Int.reduceToNat, Int.reduceNeg, Int.reduceSub, Int.reduceAdd, Int.reduceMul, fz, hp] | (with_reducible refine qg9 ?_ ?_; focus (first | (simp (maxDischargeDepth := 8) only [bb, kk, fz, hp]; done) | kernel_rfl)) | ((with_reducible first | refine qf7 ?_ ?_ | refine qf8 ?_ ?_ | refine qf9 ?_ ?_ | refine qg ?_ ?_ | refine qg0 ?_ ?_ | refine qg1 ?_ ?_ | refine qg2 ?_ ?_); focus (first | assumption | omega | (simp only [bz, fz, hp]; omega))) | ((with_reducible first | refine qg3 ?_ ?_ | refine qg4 ?_ ?_ | refine qg5 ?_ ?_); focus (first | assumption | omega | (simp only [bz, fz, hp]; omega))) | ((with_reducible first | refine g1_u8w ?_ ?_ | refine qg7 ?_ ?_); (focus ((repeat' (with_reducible apply And.intro)) <;> (first | assumption | omega | (simp only [bz, fz, hp]; omega) | (simp (maxDischargeDepth := 8) only [bb, fz, hp]; done)))); intro _) | (with_reducible apply call_elim; focus ((with_reducible first | apply e62) <;> (first | assumption | omega | (simp only [bz, fz, hp]; omega) | (simp (maxDischargeDepth := 8) only [bb, fz, hp]; done))))))
        | true =>
          (have fz := ga4 hg h0 h1 h2; repeat' (first | simp (maxDischargeDepth := 8) only [go_sem, rr, reduceIte, reduceCtorEq, Nat.reduceEqDiff, Nat.reduceAdd, Nat.reduceMul, Nat.reduceSub, Nat.reduceBEq, Nat.reduceLeDiff, Int.reduceEq, Int.reduceLT, Int.reduceLE, Int.reduceGE, Int.reduceGT, Int.reduceBEq, Int.reduceBNe, Int.reduceToNat, Int.reduceNeg, Int.reduceSub, Int.reduceAdd, Int.reduceMul, fz, hp] | (with_reducible refine qg9 ?_ ?_; focus (first | (simp (maxDischargeDepth := 8) only [bb, kk, fz, hp]; done) | kernel_rfl)) | ((with_reducible first | refine qf7 ?_ ?_ | refine qf8 ?_ ?_ | refine qf9 ?_ ?_ | refine qg ?_ ?_ | refine qg0 ?_ ?_ | refine qg1 ?_ ?_ | refine qg2 ?_ ?_); focus (first | assumption | omega | (simp only [bz, fz, hp]; omega))) | ((with_reducible first | refine qg3 ?_ ?_ | refine qg4 ?_ ?_ | refine qg5 ?_ ?_); focus (first | assumption | omega | (simp only [bz, fz, hp]; omega))) | ((with_reducible first | refine g1_u8w ?_ ?_ | refine qg7 ?_ ?_); (focus ((repeat' (with_reducible apply And.intro)) <;> (first | assumption | omega | (simp only [bz, fz, hp]; omega) | (simp (maxDischargeDepth := 8) only [bb, fz, hp]; done)))); intro _) | (with_reducible apply call_elim; focus ((with_reducible first | apply e62) <;> (first | assumption | omega | (simp only [bz, fz, hp]; omega) | (simp (maxDischargeDepth := 8) only [bb, fz, hp]; done))))))
          refine hK (next (by simp [stOK, h1, h2])) _ ?_
          simp only [vv, ff, norm, Array.toList, List.map, Option.isSome_none, bne_self_eq_false, reduceIte, reduceCtorEq, Nat.reduceEqDiff, Nat.reduceAdd, Nat.reduceMul, Nat.reduceSub, Nat.reduceBEq, Nat.reduceLeDiff, Int.reduceEq, Int.reduceLT, Int.reduceLE, Int.reduceGE, Int.reduceGT, Int.reduceBEq, Int.reduceBNe, Int.reduceToNat, Int.reduceNeg, Int.reduceSub, Int.reduceAdd, Int.reduceMul, finish, qf0, resOf, resa, qf1, qf2, qf3, keep, qf4, qf5, qf6, qe9, qf, Int.natCast_add, cst1]
  · have hr := catOK_all hI
    (have fz := ga2 hr hq; repeat' (first | simp (maxDischargeDepth := 8) only [go_sem, rr, reduceIte, reduceCtorEq, Nat.reduceEqDiff, Nat.reduceAdd, Nat.reduceMul, Nat.reduceSub, Nat.reduceBEq, Nat.reduceLeDiff, Int.reduceEq, Int.reduceLT, Int.reduceLE, Int.reduceGE, Int.reduceGT, Int.reduceBEq, Int.reduceBNe, Int.reduceToNat, Int.reduceNeg, Int.reduceSub, Int.reduceAdd, Int.reduceMul, fz] | (with_reducible refine qg9 ?_ ?_; focus (first | (simp (maxDischargeDepth := 8) only [bb, kk, fz]; done) | kernel_rfl)) | ((with_reducible first | refine qf7 ?_ ?_ | refine qf8 ?_ ?_ | refine qf9 ?_ ?_ | refine qg ?_ ?_ | refine qg0 ?_ ?_ | refine qg1 ?_ ?_ | refine qg2 ?_ ?_); focus (first | assumption | omega | (simp only [bz, fz]; omega))) | ((with_reducible first | refine qg3 ?_ ?_ | refine qg4 ?_ ?_ | refine qg5 ?_ ?_); focus (first | assumption | omega | (simp only [bz, fz]; omega))) | ((with_reducible first | refine g1_u8w ?_ ?_ | refine qg7 ?_ ?_); (focus ((repeat' (with_reducible apply And.intro)) <;> (first | assumption | omega | (simp only [bz, fz]; omega) | (simp (maxDischargeDepth := 8) only [bb, fz]; done)))); intro _)))
end Go.Proofs.YtgdldmfkgijkaaaDoor.VH.S
end

section
namespace Go.Proofs.YtgdldmfkgijkaaaDoor.VH.S
open Go.Proofs
set_option maxRecDepth 100000
set_option maxHeartbeats 8000000
set_option linter.unusedSimpArgs false

def Names (L : List Ent) : Prop := ∀ i, (eA L i).nm.length ≤ 9223372036854775807
end Go.Proofs.YtgdldmfkgijkaaaDoor.VH.S
end

section
namespace Go.Proofs.YtgdldmfkgijkaaaDoor.VH.S
open Go.Proofs
set_option maxRecDepth 100000
set_option maxHeartbeats 8000000
set_option linter.unusedSimpArgs false

/- Marks that are texts. -/
abbrev txt (l : List (List UInt8)) : List AV := l.map fun s => vs s
theorem txt_snap : ∀ l : List (List UInt8), qf2 (txt l) = true
  | [] => rfl
  | s :: l => by simp only [txt, List.map_cons, qf2, qf1]; exact txt_snap l
theorem txt_own : ∀ l : List (List UInt8), (txt l).any qb8 = false
  | [] => rfl
  | s :: l => by simp only [txt, List.map_cons, List.any_cons, qb8]; exact txt_own l
theorem txt_sl : ∀ l : List (List UInt8), (txt l).any isSl = false
  | [] => rfl
  | s :: l => by simp only [txt, List.map_cons, List.any_cons, isSl]; exact txt_sl l
def tA (l : List (List UInt8)) (i : Nat) : List UInt8 := l.getD i []
theorem txt_len (l : List (List UInt8)) : (txt l).length = l.length := by simp
def nmsE (L : List Ent) : List (List UInt8) := L.map Ent.nm
theorem nmsE_len (L : List Ent) : (nmsE L).length = L.length := by simp [nmsE]
theorem nmsE_succ (L : List Ent) {i : Nat} (h : i < L.length) : txt ((nmsE L).take i) ++ [vs (eA L i).nm] = txt ((nmsE L).take (i + 1)) := by
  have : i < (nmsE L).length := by rw [nmsE_len]; exact h
  rw [List.take_succ_eq_append_getElem this, txt, txt, List.map_append]
  simp [nmsE, eA_get h]
end Go.Proofs.YtgdldmfkgijkaaaDoor.VH.S
end

section
namespace Go.Proofs.YtgdldmfkgijkaaaDoor.VH.S
open Go.Proofs
set_option maxRecDepth 100000
set_option maxHeartbeats 8000000
set_option linter.unusedSimpArgs false

def capZ (i : Nat) : Option Nat := if i = 0 then some 0 else none
theorem capZ_succ (i : Nat) : capZ (i + 1) = none := rfl
theorem capZ_zero : capZ 0 = some 0 := rfl
theorem e31t (d : Nat) (L : List Ent) (tg : Tg) (c : Option Nat) (hS : Small L) (hc : catOK L = true) : evFun E (d+7) 31 [.sl tg 4 L.length c (flat encE L)] [] = some (.ref 0 [] 1 0 L.length (capZ L.length), [some (txt (nmsE L))]) := by
  refine evFun_body b31 ?_
  have hl := hS.1
  (repeat' (first | simp (maxDischargeDepth := 8) only [go_sem, rr, reduceIte, reduceCtorEq, Nat.reduceEqDiff, Nat.reduceAdd, Nat.reduceMul, Nat.reduceSub, Nat.reduceBEq, Nat.reduceLeDiff, Int.reduceEq, Int.reduceLT, Int.reduceLE, Int.reduceGE, Int.reduceGT, Int.reduceBEq, Int.reduceBNe, Int.reduceToNat, Int.reduceNeg, Int.reduceSub, Int.reduceAdd, Int.reduceMul, hc, Tryd.f31] | (with_reducible refine qg9 ?_ ?_; focus (first | (simp (maxDischargeDepth := 8) only [bb, kk, hc]; done) | kernel_rfl)) | ((with_reducible first | refine qf7 ?_ ?_ | refine qf8 ?_ ?_ | refine qf9 ?_ ?_ | refine qg ?_ ?_ | refine qg0 ?_ ?_ | refine qg1 ?_ ?_ | refine qg2 ?_ ?_); focus (first | assumption | omega | (simp only [bz, hc]; omega))) | ((with_reducible first | refine qg3 ?_ ?_ | refine qg4 ?_ ?_ | refine qg5 ?_ ?_); focus (first | assumption | omega | (simp only [bz, hc]; omega))) | ((with_reducible first | refine g1_u8w ?_ ?_ | refine qg7 ?_ ?_); (focus ((repeat' (with_reducible apply And.intro)) <;> (first | assumption | omega | (simp only [bz, hc]; omega) | (simp (maxDischargeDepth := 8) only [bb, hc]; done)))); intro _) | (with_reducible apply call_elim; focus ((with_reducible first | apply e24) <;> (first | assumption | omega | (simp only [bz, hc]; omega) | (simp (maxDischargeDepth := 8) only [bb, hc]; done))))))
  refine loop_go (fun i => {T := tp [(3, .ref 0 [] 1 0 i (capZ i)), (10, .sl tg 4 L.length c (flat encE L)), (11, vi L.length), (12, vi i)], H := hp [some (txt ((nmsE L).take i))], nx := 1}) L.length ?_ (lt_LF hl) (fun i hi Kn hK => ?_) (fun Kn => ?_)
  · simp only [vv, ff, norm, Array.toList, List.map, Option.isSome_none, bne_self_eq_false, reduceIte, reduceCtorEq, Nat.reduceEqDiff, Nat.reduceAdd, Nat.reduceMul, Nat.reduceSub, Nat.reduceBEq, Nat.reduceLeDiff, Int.reduceEq, Int.reduceLT, Int.reduceLE, Int.reduceGE, Int.reduceGT, Int.reduceBEq, Int.reduceBNe, Int.reduceToNat, Int.reduceNeg, Int.reduceSub, Int.reduceAdd, Int.reduceMul, finish, qf0, resOf, resa, qf1, qf2, qf3, keep, qf4, qf5, qf6, qe9, qf, Int.natCast_zero, capZ_zero, txt, List.take_zero]
  · have hg := fE_getR L hi
    have hs := nmsE_succ L hi
    have hlen : (txt ((nmsE L).take i)).length = i := by rw [txt_len, List.length_take, nmsE_len]; omega
    have ho := txt_own ((nmsE L).take i)
    have hsl := txt_sl ((nmsE L).take i)
    (have fz := ga5 hg hs hlen ho hsl; repeat' (first | simp (maxDischargeDepth := 8) only [go_sem, rr, reduceIte, reduceCtorEq, Nat.reduceEqDiff, Nat.reduceAdd, Nat.reduceMul, Nat.reduceSub, Nat.reduceBEq, Nat.reduceLeDiff, Int.reduceEq, Int.reduceLT, Int.reduceLE, Int.reduceGE, Int.reduceGT, Int.reduceBEq, Int.reduceBNe, Int.reduceToNat, Int.reduceNeg, Int.reduceSub, Int.reduceAdd, Int.reduceMul, fz] | (with_reducible refine qg9 ?_ ?_; focus (first | (simp (maxDischargeDepth := 8) only [bb, kk, fz]; done) | kernel_rfl)) | ((with_reducible first | refine qf7 ?_ ?_ | refine qf8 ?_ ?_ | refine qf9 ?_ ?_ | refine qg ?_ ?_ | refine qg0 ?_ ?_ | refine qg1 ?_ ?_ | refine qg2 ?_ ?_); focus (first | assumption | omega | (simp only [bz, fz]; omega))) | ((with_reducible first | refine qg3 ?_ ?_ | refine qg4 ?_ ?_ | refine qg5 ?_ ?_); focus (first | assumption | omega | (simp only [bz, fz]; omega))) | ((with_reducible first | refine g1_u8w ?_ ?_ | refine qg7 ?_ ?_); (focus ((repeat' (with_reducible apply And.intro)) <;> (first | assumption | omega | (simp only [bz, fz]; omega) | (simp (maxDischargeDepth := 8) only [bb, fz]; done)))); intro _)))
    refine hK _ ?_
    simp only [vv, ff, norm, Array.toList, List.map, Option.isSome_none, bne_self_eq_false, reduceIte, reduceCtorEq, Nat.reduceEqDiff, Nat.reduceAdd, Nat.reduceMul, Nat.reduceSub, Nat.reduceBEq, Nat.reduceLeDiff, Int.reduceEq, Int.reduceLT, Int.reduceLE, Int.reduceGE, Int.reduceGT, Int.reduceBEq, Int.reduceBNe, Int.reduceToNat, Int.reduceNeg, Int.reduceSub, Int.reduceAdd, Int.reduceMul, finish, qf0, resOf, resa, qf1, qf2, qf3, keep, qf4, qf5, qf6, qe9, qf, Int.natCast_add, cst1, capZ_succ, capK_pos Nat.one_pos]
  · have ht : (nmsE L).take L.length = nmsE L := List.take_of_length_le (by rw [nmsE_len]; exact Nat.le_refl _)
    have hsn := txt_snap (nmsE L)
    (have fz := ga2 ht hsn; repeat' (first | simp (maxDischargeDepth := 8) only [go_sem, rr, reduceIte, reduceCtorEq, Nat.reduceEqDiff, Nat.reduceAdd, Nat.reduceMul, Nat.reduceSub, Nat.reduceBEq, Nat.reduceLeDiff, Int.reduceEq, Int.reduceLT, Int.reduceLE, Int.reduceGE, Int.reduceGT, Int.reduceBEq, Int.reduceBNe, Int.reduceToNat, Int.reduceNeg, Int.reduceSub, Int.reduceAdd, Int.reduceMul, fz] | (with_reducible refine qg9 ?_ ?_; focus (first | (simp (maxDischargeDepth := 8) only [bb, kk, fz]; done) | kernel_rfl)) | ((with_reducible first | refine qf7 ?_ ?_ | refine qf8 ?_ ?_ | refine qf9 ?_ ?_ | refine qg ?_ ?_ | refine qg0 ?_ ?_ | refine qg1 ?_ ?_ | refine qg2 ?_ ?_); focus (first | assumption | omega | (simp only [bz, fz]; omega))) | ((with_reducible first | refine qg3 ?_ ?_ | refine qg4 ?_ ?_ | refine qg5 ?_ ?_); focus (first | assumption | omega | (simp only [bz, fz]; omega))) | ((with_reducible first | refine g1_u8w ?_ ?_ | refine qg7 ?_ ?_); (focus ((repeat' (with_reducible apply And.intro)) <;> (first | assumption | omega | (simp only [bz, fz]; omega) | (simp (maxDischargeDepth := 8) only [bb, fz]; done)))); intro _)))
end Go.Proofs.YtgdldmfkgijkaaaDoor.VH.S
end

section
namespace Go.Proofs.YtgdldmfkgijkaaaDoor.VH.S
open Go.Proofs
set_option maxRecDepth 100000
set_option maxHeartbeats 8000000
set_option linter.unusedSimpArgs false

/- Searching a catalog. -/
def lb (L : List Ent) (t : List UInt8) : Nat := ((List.range L.length).takeWhile fun i => ltB (eA L i).nm t).length
def Sorted (L : List Ent) : Prop := ∀ a b, a < b → b < L.length → ltB (eA L a).nm (eA L b).nm = true
theorem sorted_of {L : List Ent} (h : catOK L = true) : Sorted L := by
  have hs : ∀ i, i < L.length → stOK L i = true := by
    simp only [catOK, Bool.and_eq_true, List.all_eq_true] at h
    exact fun i hi => h.1 i (List.mem_range.mpr hi)
  intro a b hab hb
  induction b with
  | zero => omega
  | succ b ih =>
    have h1 := hs (b + 1) hb
    simp only [stOK, Bool.and_eq_true, Bool.or_eq_true, decide_eq_true_eq, Nat.add_sub_cancel] at h1
    have h2 := h1.2.resolve_left (by omega)
    by_cases e : a = b
    · subst e; exact h2
    · exact ltB_trans (ih (by omega) (by omega)) h2
theorem lb_le (L : List Ent) (t : List UInt8) : lb L t ≤ L.length := by
  have := takeWhile_le (fun i => ltB (eA L i).nm t) (List.range L.length)
  simpa [lb] using this
theorem lb_lt {L : List Ent} {t : List UInt8} {i : Nat} (h : i < lb L t) : ltB (eA L i).nm t = true := by
  obtain ⟨h1, h2⟩ := takeWhile_lt (fun i => ltB (eA L i).nm t) (List.range L.length) i h
  simpa using h2
theorem lb_at {L : List Ent} {t : List UInt8} (h : lb L t < L.length) : ltB (eA L (lb L t)).nm t = false := by
  have := takeWhile_at (fun i => ltB (eA L i).nm t) (List.range L.length) (by rw [List.length_range]; exact h)
  simpa [lb] using this
theorem lb_ge {L : List Ent} (hs : Sorted L) {t : List UInt8} {i : Nat} (hi : i < L.length) (h : ltB (eA L i).nm t = true) : i < lb L t := by
  refine Classical.byContradiction fun hh => ?_
  have h1 := lb_at (t := t) (show lb L t < L.length by omega)
  by_cases e : lb L t = i
  · rw [e, h] at h1; simp at h1
  · have := ltB_trans (hs _ _ (show lb L t < i by omega) hi) h
    rw [h1] at this; simp at this
def hasE (L : List Ent) (t : List UInt8) : Bool := decide (lb L t < L.length) && ((eA L (lb L t)).nm == t)
theorem e85 (d : Nat) (a b : List UInt8) : evFun E (d+3) 85 [vs a, vs b] [] = some (vi (cmpS a b), []) := by
  have h1 : ∀ d, evFun E (d+2) 92 [vs a, vs b] [] = some (vi (cmpS a b), []) := fun d => by
    refine evFun_body b92 ?_
    have hw : E.wk 101 = none := rfl
    (have fz := ga2 ecmp hw; repeat' (first | simp (maxDischargeDepth := 8) only [go_sem, rr, reduceIte, reduceCtorEq, Nat.reduceEqDiff, Nat.reduceAdd, Nat.reduceMul, Nat.reduceSub, Nat.reduceBEq, Nat.reduceLeDiff, Int.reduceEq, Int.reduceLT, Int.reduceLE, Int.reduceGE, Int.reduceGT, Int.reduceBEq, Int.reduceBNe, Int.reduceToNat, Int.reduceNeg, Int.reduceSub, Int.reduceAdd, Int.reduceMul, fz, Tryd.f92] | (with_reducible refine qg9 ?_ ?_; focus (first | (simp (maxDischargeDepth := 8) only [bb, kk, fz]; done) | kernel_rfl)) | ((with_reducible first | refine qf7 ?_ ?_ | refine qf8 ?_ ?_ | refine qf9 ?_ ?_ | refine qg ?_ ?_ | refine qg0 ?_ ?_ | refine qg1 ?_ ?_ | refine qg2 ?_ ?_); focus (first | assumption | omega | (simp only [bz, fz]; omega))) | ((with_reducible first | refine qg3 ?_ ?_ | refine qg4 ?_ ?_ | refine qg5 ?_ ?_); focus (first | assumption | omega | (simp only [bz, fz]; omega))) | ((with_reducible first | refine g1_u8w ?_ ?_ | refine qg7 ?_ ?_); (focus ((repeat' (with_reducible apply And.intro)) <;> (first | assumption | omega | (simp only [bz, fz]; omega) | (simp (maxDischargeDepth := 8) only [bb, fz]; done)))); intro _)))
  refine evFun_body b85 ?_
  (repeat' (first | simp (maxDischargeDepth := 8) only [go_sem, rr, reduceIte, reduceCtorEq, Nat.reduceEqDiff, Nat.reduceAdd, Nat.reduceMul, Nat.reduceSub, Nat.reduceBEq, Nat.reduceLeDiff, Int.reduceEq, Int.reduceLT, Int.reduceLE, Int.reduceGE, Int.reduceGT, Int.reduceBEq, Int.reduceBNe, Int.reduceToNat, Int.reduceNeg, Int.reduceSub, Int.reduceAdd, Int.reduceMul, h1, Tryd.f85] | (with_reducible refine qg9 ?_ ?_; focus (first | (simp (maxDischargeDepth := 8) only [bb, kk, h1]; done) | kernel_rfl)) | ((with_reducible first | refine qf7 ?_ ?_ | refine qf8 ?_ ?_ | refine qf9 ?_ ?_ | refine qg ?_ ?_ | refine qg0 ?_ ?_ | refine qg1 ?_ ?_ | refine qg2 ?_ ?_); focus (first | assumption | omega | (simp only [bz, h1]; omega))) | ((with_reducible first | refine qg3 ?_ ?_ | refine qg4 ?_ ?_ | refine qg5 ?_ ?_); focus (first | assumption | omega | (simp only [bz, h1]; omega))) | ((with_reducible first | refine g1_u8w ?_ ?_ | refine qg7 ?_ ?_); (focus ((repeat' (with_reducible apply And.intro)) <;> (first | assumption | omega | (simp only [bz, h1]; omega) | (simp (maxDischargeDepth := 8) only [bb, h1]; done)))); intro _)))
theorem e84 (d : Nat) (e : Ent) (t : List UInt8) : evFun E (d+4) 84 [.agg [vs e.nm, vi e.v, vi e.s, vi e.r], vs t] [] = some (vi (cmpS e.nm t), []) := by
  refine evFun_body b84 ?_
  (repeat' (first | simp (maxDischargeDepth := 8) only [go_sem, rr, reduceIte, reduceCtorEq, Nat.reduceEqDiff, Nat.reduceAdd, Nat.reduceMul, Nat.reduceSub, Nat.reduceBEq, Nat.reduceLeDiff, Int.reduceEq, Int.reduceLT, Int.reduceLE, Int.reduceGE, Int.reduceGT, Int.reduceBEq, Int.reduceBNe, Int.reduceToNat, Int.reduceNeg, Int.reduceSub, Int.reduceAdd, Int.reduceMul, e85, Tryd.f84] | (with_reducible refine qg9 ?_ ?_; focus (first | (simp (maxDischargeDepth := 8) only [bb, kk, e85]; done) | kernel_rfl)) | ((with_reducible first | refine qf7 ?_ ?_ | refine qf8 ?_ ?_ | refine qf9 ?_ ?_ | refine qg ?_ ?_ | refine qg0 ?_ ?_ | refine qg1 ?_ ?_ | refine qg2 ?_ ?_); focus (first | assumption | omega | (simp only [bz, e85]; omega))) | ((with_reducible first | refine qg3 ?_ ?_ | refine qg4 ?_ ?_ | refine qg5 ?_ ?_); focus (first | assumption | omega | (simp only [bz, e85]; omega))) | ((with_reducible first | refine g1_u8w ?_ ?_ | refine qg7 ?_ ?_); (focus ((repeat' (with_reducible apply And.intro)) <;> (first | assumption | omega | (simp only [bz, e85]; omega) | (simp (maxDischargeDepth := 8) only [bb, e85]; done)))); intro _)))
theorem half (i j : Nat) (h : i + j < 9223372036854775808) : shrU ((i : Int) + j) 1 = ((i + j) / 2 : Nat) := by
  have : (2 : Int) ^ (min (1 : Int).toNat 64) = 2 := by decide
  rw [shrU, this, Int.fdiv_eq_ediv_of_nonneg _ (by decide)]; omega
theorem e83 (d : Nat) (L : List Ent) (t : List UInt8) (tg : Tg) (c : Option Nat) (hl : L.length ≤ 549755813888) (hs : Sorted L) : evFun E (d+5) 83 [.sl tg 4 L.length c (flat encE L), vs t, .fn 84 []] [] = some (.tup [vi (lb L t), vb (hasE L t)], []) := by
  refine evFun_body b83 ?_
  have hle := lb_le L t
  (repeat' (first | simp (maxDischargeDepth := 8) only [go_sem, rr, reduceIte, reduceCtorEq, Nat.reduceEqDiff, Nat.reduceAdd, Nat.reduceMul, Nat.reduceSub, Nat.reduceBEq, Nat.reduceLeDiff, Int.reduceEq, Int.reduceLT, Int.reduceLE, Int.reduceGE, Int.reduceGT, Int.reduceBEq, Int.reduceBNe, Int.reduceToNat, Int.reduceNeg, Int.reduceSub, Int.reduceAdd, Int.reduceMul, Tryd.f83] | (with_reducible refine qg9 ?_ ?_; focus (first | (simp (maxDischargeDepth := 8) only [bb, kk]; done) | kernel_rfl)) | ((with_reducible first | refine qf7 ?_ ?_ | refine qf8 ?_ ?_ | refine qf9 ?_ ?_ | refine qg ?_ ?_ | refine qg0 ?_ ?_ | refine qg1 ?_ ?_ | refine qg2 ?_ ?_); focus (first | assumption | omega | (simp only [bz]; omega))) | ((with_reducible first | refine qg3 ?_ ?_ | refine qg4 ?_ ?_ | refine qg5 ?_ ?_); focus (first | assumption | omega | (simp only [bz]; omega))) | ((with_reducible first | refine g1_u8w ?_ ?_ | refine qg7 ?_ ?_); (focus ((repeat' (with_reducible apply And.intro)) <;> (first | assumption | omega | (simp only [bz]; omega) | (simp (maxDischargeDepth := 8) only [bb]; done)))); intro _)))
  refine loop_wf (α := Nat × Nat) (fun a => {T := tp [(0, .sl tg 4 L.length c (flat encE L)), (1, vs t), (2, .fn 84 []), (8, vi L.length), (9, vi a.1), (10, vi a.2)], H := hp [], nx := 0}) (fun a => a.1 ≤ lb L t ∧ lb L t ≤ a.2 ∧ a.2 ≤ L.length) (fun a => a.2 - a.1) ?_ (0, L.length) ?_ ⟨Nat.zero_le _, hle, Nat.le_refl _⟩ (lt_LF (by simp; omega))
  · rintro ⟨i, j⟩ ⟨h1, h2, h3⟩ Kn hK
    simp only at h1 h2 h3
    by_cases hij : i < j
    · have hh : (i + j) / 2 < L.length := by omega
      have hg := fE_getR L hh
      have hhalf := half i j (by omega)
      cases hc : ltB (eA L ((i + j) / 2)).nm t with
      | true =>
        have hc' : decide (cmpS (eA L ((i + j) / 2)).nm t < 0) = true := by rw [cmpS_lt, hc]
        (have fz := ga4 hg hhalf hc' e84; repeat' (first | simp (maxDischargeDepth := 8) only [go_sem, rr, reduceIte, reduceCtorEq, Nat.reduceEqDiff, Nat.reduceAdd, Nat.reduceMul, Nat.reduceSub, Nat.reduceBEq, Nat.reduceLeDiff, Int.reduceEq, Int.reduceLT, Int.reduceLE, Int.reduceGE, Int.reduceGT, Int.reduceBEq, Int.reduceBNe, Int.reduceToNat, Int.reduceNeg, Int.reduceSub, Int.reduceAdd, Int.reduceMul, fz] | (with_reducible refine qg9 ?_ ?_; focus (first | (simp (maxDischargeDepth := 8) only [bb, kk, fz]; done) | kernel_rfl)) | ((with_reducible first | refine qf7 ?_ ?_ | refine qf8 ?_ ?_ | refine qf9 ?_ ?_ | refine qg ?_ ?_ | refine qg0 ?_ ?_ | refine qg1 ?_ ?_ | refine qg2 ?_ ?_); focus (first | assumption | omega | (simp only [bz, fz]; omega))) | ((with_reducible first | refine qg3 ?_ ?_ | refine qg4 ?_ ?_ | refine qg5 ?_ ?_); focus (first | assumption | omega | (simp only [bz, fz]; omega))) | ((with_reducible first | refine g1_u8w ?_ ?_ | refine qg7 ?_ ?_); (focus ((repeat' (with_reducible apply And.intro)) <;> (first | assumption | omega | (simp only [bz, fz]; omega) | (simp (maxDischargeDepth := 8) only [bb, fz]; done)))); intro _)))
        refine hK ((i + j) / 2 + 1, j) ⟨lb_ge hs hh hc, h2, h3⟩ (by simp only; omega) _ ?_
        simp only [vv, ff, norm, Array.toList, List.map, Option.isSome_none, bne_self_eq_false, reduceIte, reduceCtorEq, Nat.reduceEqDiff, Nat.reduceAdd, Nat.reduceMul, Nat.reduceSub, Nat.reduceBEq, Nat.reduceLeDiff, Int.reduceEq, Int.reduceLT, Int.reduceLE, Int.reduceGE, Int.reduceGT, Int.reduceBEq, Int.reduceBNe, Int.reduceToNat, Int.reduceNeg, Int.reduceSub, Int.reduceAdd, Int.reduceMul, finish, qf0, resOf, resa, qf1, qf2, qf3, keep, qf4, qf5, qf6, qe9, qf, Int.natCast_add, cst1]
      | false =>
        have hc' : decide (cmpS (eA L ((i + j) / 2)).nm t < 0) = false := by rw [cmpS_lt, hc]
        have h4 : lb L t ≤ (i + j) / 2 := by
          refine Classical.byContradiction fun hh2 => ?_
          have := lb_lt (L := L) (t := t) (show (i + j) / 2 < lb L t by omega)
          rw [hc] at this; simp at this
        (have fz := ga4 hg hhalf hc' e84; repeat' (first | simp (maxDischargeDepth := 8) only [go_sem, rr, reduceIte, reduceCtorEq, Nat.reduceEqDiff, Nat.reduceAdd, Nat.reduceMul, Nat.reduceSub, Nat.reduceBEq, Nat.reduceLeDiff, Int.reduceEq, Int.reduceLT, Int.reduceLE, Int.reduceGE, Int.reduceGT, Int.reduceBEq, Int.reduceBNe, Int.reduceToNat, Int.reduceNeg, Int.reduceSub, Int.reduceAdd, Int.reduceMul, fz] | (with_reducible refine qg9 ?_ ?_; focus (first | (simp (maxDischargeDepth := 8) only [bb, kk, fz]; done) | kernel_rfl)) | ((with_reducible first | refine qf7 ?_ ?_ | refine qf8 ?_ ?_ | refine qf9 ?_ ?_ | refine qg ?_ ?_ | refine qg0 ?_ ?_ | refine qg1 ?_ ?_ | refine qg2 ?_ ?_); focus (first | assumption | omega | (simp only [bz, fz]; omega))) | ((with_reducible first | refine qg3 ?_ ?_ | refine qg4 ?_ ?_ | refine qg5 ?_ ?_); focus (first | assumption | omega | (simp only [bz, fz]; omega))) | ((with_reducible first | refine g1_u8w ?_ ?_ | refine qg7 ?_ ?_); (focus ((repeat' (with_reducible apply And.intro)) <;> (first | assumption | omega | (simp only [bz, fz]; omega) | (simp (maxDischargeDepth := 8) only [bb, fz]; done)))); intro _)))
        refine hK (i, (i + j) / 2) ⟨h1, h4, by simp only; omega⟩ (by simp only; omega) _ ?_
        simp only [vv, ff, norm, Array.toList, List.map, Option.isSome_none, bne_self_eq_false, reduceIte, reduceCtorEq, Nat.reduceEqDiff, Nat.reduceAdd, Nat.reduceMul, Nat.reduceSub, Nat.reduceBEq, Nat.reduceLeDiff, Int.reduceEq, Int.reduceLT, Int.reduceLE, Int.reduceGE, Int.reduceGT, Int.reduceBEq, Int.reduceBNe, Int.reduceToNat, Int.reduceNeg, Int.reduceSub, Int.reduceAdd, Int.reduceMul, finish, qf0, resOf, resa, qf1, qf2, qf3, keep, qf4, qf5, qf6, qe9, qf]
    · have e1 : i = lb L t := by omega
      have e2 : j = lb L t := by omega
      subst e1
      by_cases hn : lb L t < L.length
      · have hg := fE_getR L hn
        have hr : hasE L t = ((eA L (lb L t)).nm == t) := by simp [hasE, hn]
        have hc := cmpS_eq (eA L (lb L t)).nm t
        (have fz := ga5 hg hr hc e2 e84; repeat' (first | simp (maxDischargeDepth := 8) only [go_sem, rr, reduceIte, reduceCtorEq, Nat.reduceEqDiff, Nat.reduceAdd, Nat.reduceMul, Nat.reduceSub, Nat.reduceBEq, Nat.reduceLeDiff, Int.reduceEq, Int.reduceLT, Int.reduceLE, Int.reduceGE, Int.reduceGT, Int.reduceBEq, Int.reduceBNe, Int.reduceToNat, Int.reduceNeg, Int.reduceSub, Int.reduceAdd, Int.reduceMul, fz] | (with_reducible refine qg9 ?_ ?_; focus (first | (simp (maxDischargeDepth := 8) only [bb, kk, fz]; done) | kernel_rfl)) | ((with_reducible first | refine qf7 ?_ ?_ | refine qf8 ?_ ?_ | refine qf9 ?_ ?_ | refine qg ?_ ?_ | refine qg0 ?_ ?_ | refine qg1 ?_ ?_ | refine qg2 ?_ ?_); focus (first | assumption | omega | (simp only [bz, fz]; omega))) | ((with_reducible first | refine qg3 ?_ ?_ | refine qg4 ?_ ?_ | refine qg5 ?_ ?_); focus (first | assumption | omega | (simp only [bz, fz]; omega))) | ((with_reducible first | refine g1_u8w ?_ ?_ | refine qg7 ?_ ?_); (focus ((repeat' (with_reducible apply And.intro)) <;> (first | assumption | omega | (simp only [bz, fz]; omega) | (simp (maxDischargeDepth := 8) only [bb, fz]; done)))); intro _)))
      · have hr : hasE L t = false := by simp [hasE, hn]
        (have fz := ga2 hr e2; repeat' (first | simp (maxDischargeDepth := 8) only [go_sem, rr, reduceIte, reduceCtorEq, Nat.reduceEqDiff, Nat.reduceAdd, Nat.reduceMul, Nat.reduceSub, Nat.reduceBEq, Nat.reduceLeDiff, Int.reduceEq, Int.reduceLT, Int.reduceLE, Int.reduceGE, Int.reduceGT, Int.reduceBEq, Int.reduceBNe, Int.reduceToNat, Int.reduceNeg, Int.reduceSub, Int.reduceAdd, Int.reduceMul, fz] | (with_reducible refine qg9 ?_ ?_; focus (first | (simp (maxDischargeDepth := 8) only [bb, kk, fz]; done) | kernel_rfl)) | ((with_reducible first | refine qf7 ?_ ?_ | refine qf8 ?_ ?_ | refine qf9 ?_ ?_ | refine qg ?_ ?_ | refine qg0 ?_ ?_ | refine qg1 ?_ ?_ | refine qg2 ?_ ?_); focus (first | assumption | omega | (simp only [bz, fz]; omega))) | ((with_reducible first | refine qg3 ?_ ?_ | refine qg4 ?_ ?_ | refine qg5 ?_ ?_); focus (first | assumption | omega | (simp only [bz, fz]; omega))) | ((with_reducible first | refine g1_u8w ?_ ?_ | refine qg7 ?_ ?_); (focus ((repeat' (with_reducible apply And.intro)) <;> (first | assumption | omega | (simp only [bz, fz]; omega) | (simp (maxDischargeDepth := 8) only [bb, fz]; done)))); intro _)))
  · simp only [vv, ff, norm, Array.toList, List.map, Option.isSome_none, bne_self_eq_false, reduceIte, reduceCtorEq, Nat.reduceEqDiff, Nat.reduceAdd, Nat.reduceMul, Nat.reduceSub, Nat.reduceBEq, Nat.reduceLeDiff, Int.reduceEq, Int.reduceLT, Int.reduceLE, Int.reduceGE, Int.reduceGT, Int.reduceBEq, Int.reduceBNe, Int.reduceToNat, Int.reduceNeg, Int.reduceSub, Int.reduceAdd, Int.reduceMul, finish, qf0, resOf, resa, qf1, qf2, qf3, keep, qf4, qf5, qf6, qe9, qf, Int.natCast_zero]
end Go.Proofs.YtgdldmfkgijkaaaDoor.VH.S
end

section
namespace Go.Proofs.YtgdldmfkgijkaaaDoor.VH.S
open Go.Proofs
set_option maxRecDepth 100000
set_option maxHeartbeats 8000000
set_option linter.unusedSimpArgs false

theorem e60 (d : Nat) (L : List Ent) (t : List UInt8) (tg : Tg) (c : Option Nat) (hl : L.length ≤ 549755813888) (hs : Sorted L) : evFun E (d+6) 60 [.sl tg 4 L.length c (flat encE L), vs t] [] = some (.tup [vi (lb L t), vb (hasE L t)], []) := by
  refine evFun_body b60 ?_
  (repeat' (first | simp (maxDischargeDepth := 8) only [go_sem, rr, reduceIte, reduceCtorEq, Nat.reduceEqDiff, Nat.reduceAdd, Nat.reduceMul, Nat.reduceSub, Nat.reduceBEq, Nat.reduceLeDiff, Int.reduceEq, Int.reduceLT, Int.reduceLE, Int.reduceGE, Int.reduceGT, Int.reduceBEq, Int.reduceBNe, Int.reduceToNat, Int.reduceNeg, Int.reduceSub, Int.reduceAdd, Int.reduceMul, Tryd.f60] | (with_reducible refine qg9 ?_ ?_; focus (first | (simp (maxDischargeDepth := 8) only [bb, kk]; done) | kernel_rfl)) | ((with_reducible first | refine qf7 ?_ ?_ | refine qf8 ?_ ?_ | refine qf9 ?_ ?_ | refine qg ?_ ?_ | refine qg0 ?_ ?_ | refine qg1 ?_ ?_ | refine qg2 ?_ ?_); focus (first | assumption | omega | (simp only [bz]; omega))) | ((with_reducible first | refine qg3 ?_ ?_ | refine qg4 ?_ ?_ | refine qg5 ?_ ?_); focus (first | assumption | omega | (simp only [bz]; omega))) | ((with_reducible first | refine g1_u8w ?_ ?_ | refine qg7 ?_ ?_); (focus ((repeat' (with_reducible apply And.intro)) <;> (first | assumption | omega | (simp only [bz]; omega) | (simp (maxDischargeDepth := 8) only [bb]; done)))); intro _) | (with_reducible apply call_elim; focus ((with_reducible first | apply e83) <;> (first | assumption | omega | (simp only [bz]; omega) | (simp (maxDischargeDepth := 8) only [bb]; done))))))
def fi (L : List Ent) (t : List UInt8) : Nat := ((List.range L.length).takeWhile fun i => !((eA L i).nm == t)).length
theorem fi_le (L : List Ent) (t : List UInt8) : fi L t ≤ L.length := by
  have := takeWhile_le (fun i => !((eA L i).nm == t)) (List.range L.length)
  simpa [fi] using this
theorem fi_lt {L : List Ent} {t : List UInt8} {i : Nat} (h : i < fi L t) : ((eA L i).nm == t) = false := by
  obtain ⟨h1, h2⟩ := takeWhile_lt (fun i => !((eA L i).nm == t)) (List.range L.length) i h
  rw [List.getElem_range] at h2
  simpa using h2
theorem fi_at {L : List Ent} {t : List UInt8} (h : fi L t < L.length) : ((eA L (fi L t)).nm == t) = true := by
  have := takeWhile_at (fun i => !((eA L i).nm == t)) (List.range L.length) (by rw [List.length_range]; exact h)
  rw [List.getElem_range] at this
  simpa [fi] using this
theorem fi_has {L : List Ent} (hs : Sorted L) (t : List UInt8) : (hasE L t = true → fi L t = lb L t ∧ fi L t < L.length) ∧ (hasE L t = false → fi L t = L.length) := by
  have hle := fi_le L t
  constructor
  · intro h
    simp only [hasE, Bool.and_eq_true, decide_eq_true_eq, beq_iff_eq] at h
    have h1 : fi L t ≤ lb L t := by
      refine Classical.byContradiction fun hh => ?_
      have := fi_lt (L := L) (t := t) (show lb L t < fi L t by omega)
      rw [h.2] at this; simp at this
    have h2 : fi L t < L.length := by omega
    have h3 : lb L t ≤ fi L t := by
      refine Classical.byContradiction fun hh => ?_
      have := lb_lt (L := L) (t := t) (show fi L t < lb L t by omega)
      have h4 := fi_at h2
      rw [beq_iff_eq] at h4
      rw [h4, ltB_irrefl] at this; simp at this
    exact ⟨by omega, h2⟩
  · intro h
    refine Classical.byContradiction fun hh => ?_
    have h2 : fi L t < L.length := by omega
    have h4 := fi_at h2
    rw [beq_iff_eq] at h4
    have h5 : lb L t = fi L t := by
      refine Classical.byContradiction fun hne => ?_
      rcases Nat.lt_or_gt_of_ne hne with hlt | hgt
      · have h6 := lb_at (L := L) (t := t) (by omega)
        have := hs _ _ hlt h2
        rw [h4, h6] at this; simp at this
      · have := lb_lt (L := L) (t := t) hgt
        rw [h4, ltB_irrefl] at this; simp at this
    simp [hasE, h5, h2, h4] at h
theorem e82 (d : Nat) (L : List Ent) (t : List UInt8) (tg : Tg) (c : Option Nat) (hl : L.length ≤ 549755813888) : evFun E (d+1) 82 [.sl tg 4 L.length c (flat encE L), vs t] [] = some (vi (if fi L t < L.length then (fi L t : Int) else -1), []) := by
  refine evFun_body b82 ?_
  have hle := fi_le L t
  (repeat' (first | simp (maxDischargeDepth := 8) only [go_sem, rr, reduceIte, reduceCtorEq, Nat.reduceEqDiff, Nat.reduceAdd, Nat.reduceMul, Nat.reduceSub, Nat.reduceBEq, Nat.reduceLeDiff, Int.reduceEq, Int.reduceLT, Int.reduceLE, Int.reduceGE, Int.reduceGT, Int.reduceBEq, Int.reduceBNe, Int.reduceToNat, Int.reduceNeg, Int.reduceSub, Int.reduceAdd, Int.reduceMul, Tryd.f82] | (with_reducible refine qg9 ?_ ?_; focus (first | (simp (maxDischargeDepth := 8) only [bb, kk]; done) | kernel_rfl)) | ((with_reducible first | refine qf7 ?_ ?_ | refine qf8 ?_ ?_ | refine qf9 ?_ ?_ | refine qg ?_ ?_ | refine qg0 ?_ ?_ | refine qg1 ?_ ?_ | refine qg2 ?_ ?_); focus (first | assumption | omega | (simp only [bz]; omega))) | ((with_reducible first | refine qg3 ?_ ?_ | refine qg4 ?_ ?_ | refine qg5 ?_ ?_); focus (first | assumption | omega | (simp only [bz]; omega))) | ((with_reducible first | refine g1_u8w ?_ ?_ | refine qg7 ?_ ?_); (focus ((repeat' (with_reducible apply And.intro)) <;> (first | assumption | omega | (simp only [bz]; omega) | (simp (maxDischargeDepth := 8) only [bb]; done)))); intro _)))
  refine loop_go (fun i => {T := tp [(0, .sl tg 4 L.length c (flat encE L)), (1, vs t), (5, vi i)], H := hp [], nx := 0}) (fi L t) ?_ (lt_LF (by omega)) (fun i hi Kn hK => ?_) (fun Kn => ?_)
  · simp only [vv, ff, norm, Array.toList, List.map, Option.isSome_none, bne_self_eq_false, reduceIte, reduceCtorEq, Nat.reduceEqDiff, Nat.reduceAdd, Nat.reduceMul, Nat.reduceSub, Nat.reduceBEq, Nat.reduceLeDiff, Int.reduceEq, Int.reduceLT, Int.reduceLE, Int.reduceGE, Int.reduceGT, Int.reduceBEq, Int.reduceBNe, Int.reduceToNat, Int.reduceNeg, Int.reduceSub, Int.reduceAdd, Int.reduceMul, finish, qf0, resOf, resa, qf1, qf2, qf3, keep, qf4, qf5, qf6, qe9, qf, Int.natCast_zero]
  · have h0 := fE_get0 L (show i < L.length by omega)
    have h1 := fi_lt hi
    (have fz := ga2 h0 h1; repeat' (first | simp (maxDischargeDepth := 8) only [go_sem, rr, reduceIte, reduceCtorEq, Nat.reduceEqDiff, Nat.reduceAdd, Nat.reduceMul, Nat.reduceSub, Nat.reduceBEq, Nat.reduceLeDiff, Int.reduceEq, Int.reduceLT, Int.reduceLE, Int.reduceGE, Int.reduceGT, Int.reduceBEq, Int.reduceBNe, Int.reduceToNat, Int.reduceNeg, Int.reduceSub, Int.reduceAdd, Int.reduceMul, fz] | (with_reducible refine qg9 ?_ ?_; focus (first | (simp (maxDischargeDepth := 8) only [bb, kk, fz]; done) | kernel_rfl)) | ((with_reducible first | refine qf7 ?_ ?_ | refine qf8 ?_ ?_ | refine qf9 ?_ ?_ | refine qg ?_ ?_ | refine qg0 ?_ ?_ | refine qg1 ?_ ?_ | refine qg2 ?_ ?_); focus (first | assumption | omega | (simp only [bz, fz]; omega))) | ((with_reducible first | refine qg3 ?_ ?_ | refine qg4 ?_ ?_ | refine qg5 ?_ ?_); focus (first | assumption | omega | (simp only [bz, fz]; omega))) | ((with_reducible first | refine g1_u8w ?_ ?_ | refine qg7 ?_ ?_); (focus ((repeat' (with_reducible apply And.intro)) <;> (first | assumption | omega | (simp only [bz, fz]; omega) | (simp (maxDischargeDepth := 8) only [bb, fz]; done)))); intro _)))
    refine hK _ ?_
    simp only [vv, ff, norm, Array.toList, List.map, Option.isSome_none, bne_self_eq_false, reduceIte, reduceCtorEq, Nat.reduceEqDiff, Nat.reduceAdd, Nat.reduceMul, Nat.reduceSub, Nat.reduceBEq, Nat.reduceLeDiff, Int.reduceEq, Int.reduceLT, Int.reduceLE, Int.reduceGE, Int.reduceGT, Int.reduceBEq, Int.reduceBNe, Int.reduceToNat, Int.reduceNeg, Int.reduceSub, Int.reduceAdd, Int.reduceMul, finish, qf0, resOf, resa, qf1, qf2, qf3, keep, qf4, qf5, qf6, qe9, qf, Int.natCast_add, cst1]
  · by_cases h : fi L t < L.length
    · have h0 := fE_get0 L h
      have h1 := fi_at h
      (have fz := ga2 h0 h1; repeat' (first | simp (maxDischargeDepth := 8) only [go_sem, rr, reduceIte, reduceCtorEq, Nat.reduceEqDiff, Nat.reduceAdd, Nat.reduceMul, Nat.reduceSub, Nat.reduceBEq, Nat.reduceLeDiff, Int.reduceEq, Int.reduceLT, Int.reduceLE, Int.reduceGE, Int.reduceGT, Int.reduceBEq, Int.reduceBNe, Int.reduceToNat, Int.reduceNeg, Int.reduceSub, Int.reduceAdd, Int.reduceMul, fz, if_pos h] | (with_reducible refine qg9 ?_ ?_; focus (first | (simp (maxDischargeDepth := 8) only [bb, kk, fz, if_pos h]; done) | kernel_rfl)) | ((with_reducible first | refine qf7 ?_ ?_ | refine qf8 ?_ ?_ | refine qf9 ?_ ?_ | refine qg ?_ ?_ | refine qg0 ?_ ?_ | refine qg1 ?_ ?_ | refine qg2 ?_ ?_); focus (first | assumption | omega | (simp only [bz, fz, if_pos h]; omega))) | ((with_reducible first | refine qg3 ?_ ?_ | refine qg4 ?_ ?_ | refine qg5 ?_ ?_); focus (first | assumption | omega | (simp only [bz, fz, if_pos h]; omega))) | ((with_reducible first | refine g1_u8w ?_ ?_ | refine qg7 ?_ ?_); (focus ((repeat' (with_reducible apply And.intro)) <;> (first | assumption | omega | (simp only [bz, fz, if_pos h]; omega) | (simp (maxDischargeDepth := 8) only [bb, fz, if_pos h]; done)))); intro _)))
    · (repeat' (first | simp (maxDischargeDepth := 8) only [go_sem, rr, reduceIte, reduceCtorEq, Nat.reduceEqDiff, Nat.reduceAdd, Nat.reduceMul, Nat.reduceSub, Nat.reduceBEq, Nat.reduceLeDiff, Int.reduceEq, Int.reduceLT, Int.reduceLE, Int.reduceGE, Int.reduceGT, Int.reduceBEq, Int.reduceBNe, Int.reduceToNat, Int.reduceNeg, Int.reduceSub, Int.reduceAdd, Int.reduceMul, if_neg h] | (with_reducible refine qg9 ?_ ?_; focus (first | (simp (maxDischargeDepth := 8) only [bb, kk, if_neg h]; done) | kernel_rfl)) | ((with_reducible first | refine qf7 ?_ ?_ | refine qf8 ?_ ?_ | refine qf9 ?_ ?_ | refine qg ?_ ?_ | refine qg0 ?_ ?_ | refine qg1 ?_ ?_ | refine qg2 ?_ ?_); focus (first | assumption | omega | (simp only [bz, if_neg h]; omega))) | ((with_reducible first | refine qg3 ?_ ?_ | refine qg4 ?_ ?_ | refine qg5 ?_ ?_); focus (first | assumption | omega | (simp only [bz, if_neg h]; omega))) | ((with_reducible first | refine g1_u8w ?_ ?_ | refine qg7 ?_ ?_); (focus ((repeat' (with_reducible apply And.intro)) <;> (first | assumption | omega | (simp only [bz, if_neg h]; omega) | (simp (maxDischargeDepth := 8) only [bb, if_neg h]; done)))); intro _)))
def cfE (L : List Ent) (t : List UInt8) : Ent := if catOK L && hasE L t then eA L (lb L t) else e0
theorem e25 (d : Nat) (L : List Ent) (t : List UInt8) (tg : Tg) (c : Option Nat) (hS : Small L) : evFun E (d+7) 25 [.sl tg 4 L.length c (flat encE L), vs t] [] = some (.tup [.agg (encE (cfE L t)), vb (catOK L && hasE L t)], []) := by
  refine evFun_body b25 ?_
  have hl := hS.1
  cases hc : catOK L with
  | false =>
    have he : cfE L t = e0 := by simp [cfE, hc]
    (have fz := ga2 hc he; repeat' (first | simp (maxDischargeDepth := 8) only [go_sem, rr, reduceIte, reduceCtorEq, Nat.reduceEqDiff, Nat.reduceAdd, Nat.reduceMul, Nat.reduceSub, Nat.reduceBEq, Nat.reduceLeDiff, Int.reduceEq, Int.reduceLT, Int.reduceLE, Int.reduceGE, Int.reduceGT, Int.reduceBEq, Int.reduceBNe, Int.reduceToNat, Int.reduceNeg, Int.reduceSub, Int.reduceAdd, Int.reduceMul, fz, e0, sB_empty, Tryd.f25] | (with_reducible refine qg9 ?_ ?_; focus (first | (simp (maxDischargeDepth := 8) only [bb, kk, fz, e0, sB_empty]; done) | kernel_rfl)) | ((with_reducible first | refine qf7 ?_ ?_ | refine qf8 ?_ ?_ | refine qf9 ?_ ?_ | refine qg ?_ ?_ | refine qg0 ?_ ?_ | refine qg1 ?_ ?_ | refine qg2 ?_ ?_); focus (first | assumption | omega | (simp only [bz, fz, e0, sB_empty]; omega))) | ((with_reducible first | refine qg3 ?_ ?_ | refine qg4 ?_ ?_ | refine qg5 ?_ ?_); focus (first | assumption | omega | (simp only [bz, fz, e0, sB_empty]; omega))) | ((with_reducible first | refine g1_u8w ?_ ?_ | refine qg7 ?_ ?_); (focus ((repeat' (with_reducible apply And.intro)) <;> (first | assumption | omega | (simp only [bz, fz, e0, sB_empty]; omega) | (simp (maxDischargeDepth := 8) only [bb, fz, e0, sB_empty]; done)))); intro _) | (with_reducible apply call_elim; focus ((with_reducible first | apply e24) <;> (first | assumption | omega | (simp only [bz, fz, e0, sB_empty]; omega) | (simp (maxDischargeDepth := 8) only [bb, fz, e0, sB_empty]; done))))))
  | true =>
    have hs := sorted_of hc
    cases hh : hasE L t with
    | false =>
      have he : cfE L t = e0 := by simp [cfE, hh]
      (have fz := ga3 hc hh he; repeat' (first | simp (maxDischargeDepth := 8) only [go_sem, rr, reduceIte, reduceCtorEq, Nat.reduceEqDiff, Nat.reduceAdd, Nat.reduceMul, Nat.reduceSub, Nat.reduceBEq, Nat.reduceLeDiff, Int.reduceEq, Int.reduceLT, Int.reduceLE, Int.reduceGE, Int.reduceGT, Int.reduceBEq, Int.reduceBNe, Int.reduceToNat, Int.reduceNeg, Int.reduceSub, Int.reduceAdd, Int.reduceMul, fz, e0, sB_empty, Tryd.f25] | (with_reducible refine qg9 ?_ ?_; focus (first | (simp (maxDischargeDepth := 8) only [bb, kk, fz, e0, sB_empty]; done) | kernel_rfl)) | ((with_reducible first | refine qf7 ?_ ?_ | refine qf8 ?_ ?_ | refine qf9 ?_ ?_ | refine qg ?_ ?_ | refine qg0 ?_ ?_ | refine qg1 ?_ ?_ | refine qg2 ?_ ?_); focus (first | assumption | omega | (simp only [bz, fz, e0, sB_empty]; omega))) | ((with_reducible first | refine qg3 ?_ ?_ | refine qg4 ?_ ?_ | refine qg5 ?_ ?_); focus (first | assumption | omega | (simp only [bz, fz, e0, sB_empty]; omega))) | ((with_reducible first | refine g1_u8w ?_ ?_ | refine qg7 ?_ ?_); (focus ((repeat' (with_reducible apply And.intro)) <;> (first | assumption | omega | (simp only [bz, fz, e0, sB_empty]; omega) | (simp (maxDischargeDepth := 8) only [bb, fz, e0, sB_empty]; done)))); intro _) | (with_reducible apply call_elim; focus ((with_reducible first | apply e24 | apply e60) <;> (first | assumption | omega | (simp only [bz, fz, e0, sB_empty]; omega) | (simp (maxDischargeDepth := 8) only [bb, fz, e0, sB_empty]; done))))))
    | true =>
      have he : cfE L t = eA L (lb L t) := by simp [cfE, hc, hh]
      have h2 : lb L t < L.length := by simp only [hasE, Bool.and_eq_true, decide_eq_true_eq] at hh; exact hh.1
      have hg := fE_getR L h2
      (have fz := ga4 hc hh he hg; repeat' (first | simp (maxDischargeDepth := 8) only [go_sem, rr, reduceIte, reduceCtorEq, Nat.reduceEqDiff, Nat.reduceAdd, Nat.reduceMul, Nat.reduceSub, Nat.reduceBEq, Nat.reduceLeDiff, Int.reduceEq, Int.reduceLT, Int.reduceLE, Int.reduceGE, Int.reduceGT, Int.reduceBEq, Int.reduceBNe, Int.reduceToNat, Int.reduceNeg, Int.reduceSub, Int.reduceAdd, Int.reduceMul, fz, sB_empty, Tryd.f25] | (with_reducible refine qg9 ?_ ?_; focus (first | (simp (maxDischargeDepth := 8) only [bb, kk, fz, sB_empty]; done) | kernel_rfl)) | ((with_reducible first | refine qf7 ?_ ?_ | refine qf8 ?_ ?_ | refine qf9 ?_ ?_ | refine qg ?_ ?_ | refine qg0 ?_ ?_ | refine qg1 ?_ ?_ | refine qg2 ?_ ?_); focus (first | assumption | omega | (simp only [bz, fz, sB_empty]; omega))) | ((with_reducible first | refine qg3 ?_ ?_ | refine qg4 ?_ ?_ | refine qg5 ?_ ?_); focus (first | assumption | omega | (simp only [bz, fz, sB_empty]; omega))) | ((with_reducible first | refine g1_u8w ?_ ?_ | refine qg7 ?_ ?_); (focus ((repeat' (with_reducible apply And.intro)) <;> (first | assumption | omega | (simp only [bz, fz, sB_empty]; omega) | (simp (maxDischargeDepth := 8) only [bb, fz, sB_empty]; done)))); intro _) | (with_reducible apply call_elim; focus ((with_reducible first | apply e24 | apply e60) <;> (first | assumption | omega | (simp only [bz, fz, sB_empty]; omega) | (simp (maxDischargeDepth := 8) only [bb, fz, sB_empty]; done))))))
end Go.Proofs.YtgdldmfkgijkaaaDoor.VH.S
end

section
namespace Go.Proofs.YtgdldmfkgijkaaaDoor.VH.S
open Go.Proofs
set_option maxRecDepth 100000
set_option maxHeartbeats 8000000
set_option linter.unusedSimpArgs false

theorem sorted_pw {L : List Ent} (hs : Sorted L) : L.Pairwise fun a b => ltB a.nm b.nm = true := by
  rw [List.pairwise_iff_getElem]
  intro i j hi hj hij
  have := hs i j hij hj
  rw [eA_get hi, eA_get hj] at this; exact this
theorem has_mem {L : List Ent} (hs : Sorted L) {e : Ent} (he : e ∈ L) : hasE L e.nm = true ∧ eA L (lb L e.nm) = e := by
  obtain ⟨i, hi, rfl⟩ := List.mem_iff_getElem.mp he
  have hle : lb L L[i].nm ≤ i := by
    refine Classical.byContradiction fun h => ?_
    have := lb_lt (L := L) (t := L[i].nm) (show i < lb L L[i].nm by omega)
    rw [eA_get hi, ltB_irrefl] at this; simp at this
  have heq : lb L L[i].nm = i := by
    refine Classical.byContradiction fun h => ?_
    have h1 := lb_at (L := L) (t := L[i].nm) (by omega)
    have h2 := hs (lb L L[i].nm) i (by omega) hi
    rw [eA_get hi] at h2
    rw [h1] at h2; simp at h2
  refine ⟨?_, by rw [heq]; exact eA_get hi⟩
  simp [hasE, heq, eA_get hi, hi]
theorem has_get {L : List Ent} {t : List UInt8} (h : hasE L t = true) : eA L (lb L t) ∈ L ∧ (eA L (lb L t)).nm = t ∧ lb L t < L.length := by
  simp only [hasE, Bool.and_eq_true, decide_eq_true_eq, beq_iff_eq] at h
  exact ⟨by rw [eA_get h.1]; exact List.getElem_mem _, h.2, h.1⟩
theorem eqE (x y : Ent) : eqCells [.string ByteArray.empty, .int .i64 0, .int .i64 0, .int .i64 0] [vs x.nm, vi x.v, vi x.s, vi x.r] [vs y.nm, vi y.v, vi y.s, vi y.r] = some (decide (x = y)) := by
  cases x with
  | mk n v s r =>
  cases y with
  | mk n' v' s' r' =>
  simp only [eqCells, eqC, if_true, sB_toList, Ent.mk.injEq, Bool.and_true]
  congr 1
  rw [Bool.eq_iff_iff]; simp
end Go.Proofs.YtgdldmfkgijkaaaDoor.VH.S
end

section
namespace Go.Proofs.YtgdldmfkgijkaaaDoor.VH.S
open Go.Proofs
set_option maxRecDepth 100000
set_option maxHeartbeats 8000000
set_option linter.unusedSimpArgs false

theorem hasE_nil (t : List UInt8) : hasE [] t = false := by simp [hasE]
end Go.Proofs.YtgdldmfkgijkaaaDoor.VH.S
end

section
namespace Go.Proofs.YtgdldmfkgijkaaaDoor.VH.S
open Go.Proofs
set_option maxRecDepth 100000
set_option maxHeartbeats 8000000
set_option linter.unusedSimpArgs false

/- An entry is dropped. -/
theorem eC68 (d : Nat) (tg : Tg) (c : Option Nat) (L : List Ent) (h0 : 0 < L.length) (hl : L.length ≤ 549755813888) : evFun E (d+1) 68 [.sl tg 4 L.length c (flat encE L)] [] = some (.ref 0 [] 4 0 L.length none, [some (flat encE L)]) := by
  refine evFun_body b68 ?_
  have hs := noSnapL_encE L
  have hsl := anySl_encE L
  have e1 : decide (L.length = 0) = false := decide_eq_false (by omega)
  (have fz := ga3 hs hsl e1; repeat' (first | simp (maxDischargeDepth := 8) only [go_sem, rr, reduceIte, reduceCtorEq, Nat.reduceEqDiff, Nat.reduceAdd, Nat.reduceMul, Nat.reduceSub, Nat.reduceBEq, Nat.reduceLeDiff, Int.reduceEq, Int.reduceLT, Int.reduceLE, Int.reduceGE, Int.reduceGT, Int.reduceBEq, Int.reduceBNe, Int.reduceToNat, Int.reduceNeg, Int.reduceSub, Int.reduceAdd, Int.reduceMul, fz, capK_pos h0, Tryd.f68] | (with_reducible refine qg9 ?_ ?_; focus (first | (simp (maxDischargeDepth := 8) only [bb, kk, fz, capK_pos h0]; done) | kernel_rfl)) | ((with_reducible first | refine qf7 ?_ ?_ | refine qf8 ?_ ?_ | refine qf9 ?_ ?_ | refine qg ?_ ?_ | refine qg0 ?_ ?_ | refine qg1 ?_ ?_ | refine qg2 ?_ ?_); focus (first | assumption | omega | (simp only [bz, fz, capK_pos h0]; omega))) | ((with_reducible first | refine qg3 ?_ ?_ | refine qg4 ?_ ?_ | refine qg5 ?_ ?_); focus (first | assumption | omega | (simp only [bz, fz, capK_pos h0]; omega))) | ((with_reducible first | refine g1_u8w ?_ ?_ | refine qg7 ?_ ?_); (focus ((repeat' (with_reducible apply And.intro)) <;> (first | assumption | omega | (simp only [bz, fz, capK_pos h0]; omega) | (simp (maxDischargeDepth := 8) only [bb, fz, capK_pos h0]; done)))); intro _) | ((with_reducible refine g1_64w ?_ ?_); (focus ((repeat' (with_reducible apply And.intro)) <;> (first | assumption | omega | (simp only [bz, fz, capK_pos h0]; omega) | (simp (maxDischargeDepth := 8) only [bb, fz, capK_pos h0]; done)))); intro _)))
theorem eZ68 (d : Nat) (tg : Tg) (c : Option Nat) : evFun E (d+1) 68 [.sl tg 4 0 c []] [] = some (.sl .fgn 4 0 (some 0) [], []) := by
  refine evFun_body b68 ?_
  (repeat' (first | simp (maxDischargeDepth := 8) only [go_sem, rr, reduceIte, reduceCtorEq, Nat.reduceEqDiff, Nat.reduceAdd, Nat.reduceMul, Nat.reduceSub, Nat.reduceBEq, Nat.reduceLeDiff, Int.reduceEq, Int.reduceLT, Int.reduceLE, Int.reduceGE, Int.reduceGT, Int.reduceBEq, Int.reduceBNe, Int.reduceToNat, Int.reduceNeg, Int.reduceSub, Int.reduceAdd, Int.reduceMul, Tryd.f68] | (with_reducible refine qg9 ?_ ?_; focus (first | (simp (maxDischargeDepth := 8) only [bb, kk]; done) | kernel_rfl)) | ((with_reducible first | refine qf7 ?_ ?_ | refine qf8 ?_ ?_ | refine qf9 ?_ ?_ | refine qg ?_ ?_ | refine qg0 ?_ ?_ | refine qg1 ?_ ?_ | refine qg2 ?_ ?_); focus (first | assumption | omega | (simp only [bz]; omega))) | ((with_reducible first | refine qg3 ?_ ?_ | refine qg4 ?_ ?_ | refine qg5 ?_ ?_); focus (first | assumption | omega | (simp only [bz]; omega))) | ((with_reducible first | refine g1_u8w ?_ ?_ | refine qg7 ?_ ?_); (focus ((repeat' (with_reducible apply And.intro)) <;> (first | assumption | omega | (simp only [bz]; omega) | (simp (maxDischargeDepth := 8) only [bb]; done)))); intro _) | ((with_reducible refine g1_64w ?_ ?_); (focus ((repeat' (with_reducible apply And.intro)) <;> (first | assumption | omega | (simp only [bz]; omega) | (simp (maxDischargeDepth := 8) only [bb]; done)))); intro _)))
theorem e56 (d : Nat) (tg : Tg) (c : Option Nat) (L : List Ent) (hl : L.length ≤ 549755813888) : evFun E (d+1) 56 [.sl tg 4 L.length c (flat encE L)] [] = some (.ref 0 [] 4 0 L.length (capK (some 0) L.length), [some (flat encE L)]) := by
  refine evFun_body b56 ?_
  have hs := noSnapL_encE L
  have hsl := anySl_encE L
  (have fz := ga2 hs hsl; repeat' (first | simp (maxDischargeDepth := 8) only [go_sem, rr, reduceIte, reduceCtorEq, Nat.reduceEqDiff, Nat.reduceAdd, Nat.reduceMul, Nat.reduceSub, Nat.reduceBEq, Nat.reduceLeDiff, Int.reduceEq, Int.reduceLT, Int.reduceLE, Int.reduceGE, Int.reduceGT, Int.reduceBEq, Int.reduceBNe, Int.reduceToNat, Int.reduceNeg, Int.reduceSub, Int.reduceAdd, Int.reduceMul, fz, Tryd.f56] | (with_reducible refine qg9 ?_ ?_; focus (first | (simp (maxDischargeDepth := 8) only [bb, kk, fz]; done) | kernel_rfl)) | ((with_reducible first | refine qf7 ?_ ?_ | refine qf8 ?_ ?_ | refine qf9 ?_ ?_ | refine qg ?_ ?_ | refine qg0 ?_ ?_ | refine qg1 ?_ ?_ | refine qg2 ?_ ?_); focus (first | assumption | omega | (simp only [bz, fz]; omega))) | ((with_reducible first | refine qg3 ?_ ?_ | refine qg4 ?_ ?_ | refine qg5 ?_ ?_); focus (first | assumption | omega | (simp only [bz, fz]; omega))) | ((with_reducible first | refine g1_u8w ?_ ?_ | refine qg7 ?_ ?_); (focus ((repeat' (with_reducible apply And.intro)) <;> (first | assumption | omega | (simp only [bz, fz]; omega) | (simp (maxDischargeDepth := 8) only [bb, fz]; done)))); intro _) | ((with_reducible refine g1_64w ?_ ?_); (focus ((repeat' (with_reducible apply And.intro)) <;> (first | assumption | omega | (simp only [bz, fz]; omega) | (simp (maxDischargeDepth := 8) only [bb, fz]; done)))); intro _)))
/-- a catalog without the entry at a place -/
def dropE (L : List Ent) (k : Nat) : List Ent := L.take k ++ L.drop (k + 1)
theorem dropE_len {L : List Ent} {k : Nat} (h : k < L.length) : (dropE L k).length = L.length - 1 := by simp [dropE]; omega
theorem flat_tk (L : List Ent) (k : Nat) : (flat encE L).take (k * 4) = flat encE (L.take k) := by
  induction L generalizing k with
  | nil => simp [flat]
  | cons e L ih =>
    cases k with
    | zero => simp [flat]
    | succ k =>
      rw [flat, List.take_succ_cons, flat, ← ih k, show (k + 1) * 4 = (encE e).length + k * 4 by rw [encE_len]; omega, List.take_length_add_append]
theorem flat_dr (L : List Ent) (k : Nat) : (flat encE L).drop (k * 4) = flat encE (L.drop k) := by
  induction L generalizing k with
  | nil => simp [flat]
  | cons e L ih =>
    cases k with
    | zero => simp [flat]
    | succ k =>
      rw [flat, List.drop_succ_cons, ← ih k, show (k + 1) * 4 = (encE e).length + k * 4 by rw [encE_len]; omega, List.drop_length_add_append]
theorem shift (L : List Ent) {k : Nat} (h : k < L.length) : setAt (flat encE L) (k * 4) (flat encE (L.drop (k + 1))) = flat encE (dropE L k ++ L.drop (L.length - 1)) := by
  rw [setAt_put _ _ _ (by rw [fE_len, fE_len, List.length_drop]; omega), putL, flat_tk, fE_len, List.length_drop, ← Nat.add_mul, flat_dr, ← flat_app, ← flat_app]
  rw [dropE, show k + (L.length - (k + 1)) = L.length - 1 by omega]
theorem cleared (L : List Ent) {k : Nat} (h : k < L.length) (M : List Ent) (hM : M.length = L.length - 1) (e : Ent) : setAt (flat encE (M ++ [e])) ((L.length - 1) * 4) (encE e0) = flat encE (M ++ [e0]) := by
  rw [← hM, flat_app, setAt_put _ _ _ (by rw [List.length_append, fE_len, fE_len, encE_len]; simp), putL, List.take_append_of_le_length (by rw [fE_len]; exact Nat.le_refl _), ← fE_len M, List.take_length, List.drop_of_length_le (by rw [List.length_append, fE_len, fE_len, encE_len]; simp), List.append_nil, flat_app]
  rfl
theorem e70 (d : Nat) (L : List Ent) (k : Nat) (h : k < L.length) (hl : L.length ≤ 1048576) : evFun E (d+1) 70 [.ref 0 [] 4 0 L.length none, vi k, vi (k + 1)] [flat encE L] = some (.ref 0 [] 4 0 (L.length - 1) none, [some (flat encE (dropE L k ++ [e0]))]) := by
  refine evFun_body b70 ?_
  have hlen := fE_len L
  have hown := anyOwn_encE (L.drop (k + 1))
  have t1 : ((k : Int) + 1).toNat = k + 1 := by omega
  have t2 : ((L.length : Int) - (k + 1)).toNat = L.length - (k + 1) := by omega
  have t3 : k + (L.length - (k + 1)) = L.length - 1 := by omega
  have t4 : ((L.length : Int) - (L.length - 1 : Nat)).toNat = 1 := by omega
  have hd := flat_dr L (k + 1)
  have htk : (flat encE (L.drop (k + 1))).take ((L.length - (k + 1)) * 4) = flat encE (L.drop (k + 1)) := List.take_of_length_le (by rw [fE_len, List.length_drop]; exact Nat.le_refl _)
  have hz1 : ∀ td a b, zeros ⟨td, 4, a, [.string ByteArray.empty, .int .i64 0, .int .i64 0, .int .i64 0], b⟩ 1 = encE e0 := fun _ _ _ => rfl
  have hsn := noSnapL_encE (dropE L k ++ [e0])
  have hlast : L.drop (L.length - 1) = [L[L.length - 1]] := by
    rw [List.drop_eq_getElem_cons (by omega), List.drop_of_length_le (by omega)]
  have hcl := cleared L h (dropE L k) (dropE_len h) L[L.length - 1]
  have hlf : (flat encE (dropE L k ++ [L[L.length - 1]])).length = L.length * 4 := by rw [fE_len, List.length_append, dropE_len h]; simp; omega
  have hov : decide (((L.length - 1 : Nat) : Int) < (L.length : Int)) = true := decide_eq_true (by omega)
  by_cases hm : L.length - (k + 1) = 0
  · have hself : L = dropE L k ++ [L[L.length - 1]] := by
      have hk : k = L.length - 1 := by omega
      have e := List.take_append_drop (L.length - 1) L
      rw [hlast] at e
      have e2 : List.take k L = List.take (L.length - 1) L := by rw [hk]
      rw [dropE, List.drop_of_length_le (show L.length ≤ k + 1 by omega), List.append_nil, e2]; exact e.symm
    have hrow : flat encE L = flat encE (dropE L k ++ [L[L.length - 1]]) := congrArg (flat encE) hself
    have hk1 : L.length - 1 = k := by omega
    have t6 : L.length - k = 1 := by omega
    have hcl1 : setAt (flat encE L) (k * 4) (encE e0) = flat encE (dropE L k ++ [e0]) := by
      have e := hcl
      rw [← hrow, hk1] at e; exact e
    rw [hm] at htk t3
    rw [Nat.add_zero] at t3
    (have fz := ga11 hlen hown t1 t2 t6 hm hd hz1 hk1 hcl1 hsn; repeat' (first | simp (maxDischargeDepth := 8) only [go_sem, rr, reduceIte, reduceCtorEq, Nat.reduceEqDiff, Nat.reduceAdd, Nat.reduceMul, Nat.reduceSub, Nat.reduceBEq, Nat.reduceLeDiff, Int.reduceEq, Int.reduceLT, Int.reduceLE, Int.reduceGE, Int.reduceGT, Int.reduceBEq, Int.reduceBNe, Int.reduceToNat, Int.reduceNeg, Int.reduceSub, Int.reduceAdd, Int.reduceMul, fz, clearHM, Nat.sub_zero, Tryd.f70] | (with_reducible refine qg9 ?_ ?_; focus (first | (simp (maxDischargeDepth := 8) only [bb, kk, fz, clearHM, Nat.sub_zero]; done) | kernel_rfl)) | ((with_reducible first | refine qf7 ?_ ?_ | refine qf8 ?_ ?_ | refine qf9 ?_ ?_ | refine qg ?_ ?_ | refine qg0 ?_ ?_ | refine qg1 ?_ ?_ | refine qg2 ?_ ?_); focus (first | assumption | omega | (simp only [bz, fz, clearHM, Nat.sub_zero]; omega))) | ((with_reducible first | refine qg3 ?_ ?_ | refine qg4 ?_ ?_ | refine qg5 ?_ ?_); focus (first | assumption | omega | (simp only [bz, fz, clearHM, Nat.sub_zero]; omega))) | ((with_reducible first | refine g1_u8w ?_ ?_ | refine qg7 ?_ ?_); (focus ((repeat' (with_reducible apply And.intro)) <;> (first | assumption | omega | (simp only [bz, fz, clearHM, Nat.sub_zero]; omega) | (simp (maxDischargeDepth := 8) only [bb, fz, clearHM, Nat.sub_zero]; done)))); intro _) | ((with_reducible refine g1_64w ?_ ?_); (focus ((repeat' (with_reducible apply And.intro)) <;> (first | assumption | omega | (simp only [bz, fz, clearHM, Nat.sub_zero]; omega) | (simp (maxDischargeDepth := 8) only [bb, fz, clearHM, Nat.sub_zero]; done)))); intro _)))
  · have hsh := shift L h
    rw [hlast] at hsh
    have hlx : (flat encE (L.drop (k + 1))).length = (L.length - (k + 1)) * 4 := by rw [fE_len, List.length_drop]
    have t7 : L.length - (L.length - 1) = 1 := by omega
    (have fz := ga16 hlen hown t1 t2 t3 t4 t7 hd htk hlx hz1 hsh hcl hsn hlf hov; repeat' (first | simp (maxDischargeDepth := 8) only [go_sem, rr, reduceIte, reduceCtorEq, Nat.reduceEqDiff, Nat.reduceAdd, Nat.reduceMul, Nat.reduceSub, Nat.reduceBEq, Nat.reduceLeDiff, Int.reduceEq, Int.reduceLT, Int.reduceLE, Int.reduceGE, Int.reduceGT, Int.reduceBEq, Int.reduceBNe, Int.reduceToNat, Int.reduceNeg, Int.reduceSub, Int.reduceAdd, Int.reduceMul, fz, clearHM, Nat.sub_zero, Tryd.f70] | (with_reducible refine qg9 ?_ ?_; focus (first | (simp (maxDischargeDepth := 8) only [bb, kk, fz, clearHM, Nat.sub_zero]; done) | kernel_rfl)) | ((with_reducible first | refine qf7 ?_ ?_ | refine qf8 ?_ ?_ | refine qf9 ?_ ?_ | refine qg ?_ ?_ | refine qg0 ?_ ?_ | refine qg1 ?_ ?_ | refine qg2 ?_ ?_); focus (first | assumption | omega | (simp only [bz, fz, clearHM, Nat.sub_zero]; omega))) | ((with_reducible first | refine qg3 ?_ ?_ | refine qg4 ?_ ?_ | refine qg5 ?_ ?_); focus (first | assumption | omega | (simp only [bz, fz, clearHM, Nat.sub_zero]; omega))) | ((with_reducible first | refine g1_u8w ?_ ?_ | refine qg7 ?_ ?_); (focus ((repeat' (with_reducible apply And.intro)) <;> (first | assumption | omega | (simp only [bz, fz, clearHM, Nat.sub_zero]; omega) | (simp (maxDischargeDepth := 8) only [bb, fz, clearHM, Nat.sub_zero]; done)))); intro _) | ((with_reducible refine g1_64w ?_ ?_); (focus ((repeat' (with_reducible apply And.intro)) <;> (first | assumption | omega | (simp only [bz, fz, clearHM, Nat.sub_zero]; omega) | (simp (maxDischargeDepth := 8) only [bb, fz, clearHM, Nat.sub_zero]; done)))); intro _)))
/-- what a drop comes to -/
def cdOK (L : List Ent) (t : List UInt8) : Bool := catOK L && hasE L t
theorem e30 (d : Nat) (L : List Ent) (t : List UInt8) (tg : Tg) (c : Option Nat) (hS : Small L) (hok : cdOK L t = true) : evFun E (d+7) 30 [.sl tg 4 L.length c (flat encE L), vs t] [] = some (.tup [.ref 0 [] 4 0 (L.length - 1) none, vb true], [some (flat encE (dropE L (lb L t) ++ [e0]))]) := by
  refine evFun_body b30 ?_
  simp only [cdOK, Bool.and_eq_true] at hok
  obtain ⟨hc, hh⟩ := hok
  have hs := sorted_of hc
  have hl := hS.1
  have h5 : L.length ≤ 5 := by simp only [catOK, Bool.and_eq_true, decide_eq_true_eq] at hc; exact hc.2
  have hlt : lb L t < L.length := by simp only [hasE, Bool.and_eq_true, decide_eq_true_eq] at hh; exact hh.1
  have hlen := fE_len L
  have hown := anyOwn_encE L
  have hcl := fun d tg c => eC68 d tg c L (by omega) hl
  have hde := fun d => e70 d L (lb L t) hlt (by omega)
  have hsn := noSnapL_encE (dropE L (lb L t) ++ [e0])
  have ho2 := anyOwn_encE (dropE L (lb L t) ++ [e0])
  (have fz := ga8 hc hh hlen hown hcl hde hsn ho2; repeat' (first | simp (maxDischargeDepth := 8) only [go_sem, rr, reduceIte, reduceCtorEq, Nat.reduceEqDiff, Nat.reduceAdd, Nat.reduceMul, Nat.reduceSub, Nat.reduceBEq, Nat.reduceLeDiff, Int.reduceEq, Int.reduceLT, Int.reduceLE, Int.reduceGE, Int.reduceGT, Int.reduceBEq, Int.reduceBNe, Int.reduceToNat, Int.reduceNeg, Int.reduceSub, Int.reduceAdd, Int.reduceMul, fz, Tryd.f30] | (with_reducible refine qg9 ?_ ?_; focus (first | (simp (maxDischargeDepth := 8) only [bb, kk, fz]; done) | kernel_rfl)) | ((with_reducible first | refine qf7 ?_ ?_ | refine qf8 ?_ ?_ | refine qf9 ?_ ?_ | refine qg ?_ ?_ | refine qg0 ?_ ?_ | refine qg1 ?_ ?_ | refine qg2 ?_ ?_); focus (first | assumption | omega | (simp only [bz, fz]; omega))) | ((with_reducible first | refine qg3 ?_ ?_ | refine qg4 ?_ ?_ | refine qg5 ?_ ?_); focus (first | assumption | omega | (simp only [bz, fz]; omega))) | ((with_reducible first | refine g1_u8w ?_ ?_ | refine qg7 ?_ ?_); (focus ((repeat' (with_reducible apply And.intro)) <;> (first | assumption | omega | (simp only [bz, fz]; omega) | (simp (maxDischargeDepth := 8) only [bb, fz]; done)))); intro _) | ((with_reducible refine g1_64w ?_ ?_); (focus ((repeat' (with_reducible apply And.intro)) <;> (first | assumption | omega | (simp only [bz, fz]; omega) | (simp (maxDischargeDepth := 8) only [bb, fz]; done)))); intro _) | (with_reducible apply call_elim; focus ((with_reducible first | apply e24 | apply e60) <;> (first | assumption | omega | (simp only [bz, fz]; omega) | (simp (maxDischargeDepth := 8) only [bb, fz]; done))))))
theorem e30f (d : Nat) (L : List Ent) (t : List UInt8) (tg : Tg) (c : Option Nat) (hS : Small L) (h0 : 0 < L.length) (hok : cdOK L t = false) : evFun E (d+7) 30 [.sl tg 4 L.length c (flat encE L), vs t] [] = some (.tup [.ref 0 [] 4 0 L.length none, vb false], [some (flat encE L)]) := by
  refine evFun_body b30 ?_
  have hl := hS.1
  have hlen := fE_len L
  have hcl := fun d tg c => eC68 d tg c L h0 hl
  have hsn := noSnapL_encE L
  cases hc : catOK L with
  | false => (have fz := ga4 hc hlen hcl hsn; repeat' (first | simp (maxDischargeDepth := 8) only [go_sem, rr, reduceIte, reduceCtorEq, Nat.reduceEqDiff, Nat.reduceAdd, Nat.reduceMul, Nat.reduceSub, Nat.reduceBEq, Nat.reduceLeDiff, Int.reduceEq, Int.reduceLT, Int.reduceLE, Int.reduceGE, Int.reduceGT, Int.reduceBEq, Int.reduceBNe, Int.reduceToNat, Int.reduceNeg, Int.reduceSub, Int.reduceAdd, Int.reduceMul, fz, Tryd.f30] | (with_reducible refine qg9 ?_ ?_; focus (first | (simp (maxDischargeDepth := 8) only [bb, kk, fz]; done) | kernel_rfl)) | ((with_reducible first | refine qf7 ?_ ?_ | refine qf8 ?_ ?_ | refine qf9 ?_ ?_ | refine qg ?_ ?_ | refine qg0 ?_ ?_ | refine qg1 ?_ ?_ | refine qg2 ?_ ?_); focus (first | assumption | omega | (simp only [bz, fz]; omega))) | ((with_reducible first | refine qg3 ?_ ?_ | refine qg4 ?_ ?_ | refine qg5 ?_ ?_); focus (first | assumption | omega | (simp only [bz, fz]; omega))) | ((with_reducible first | refine g1_u8w ?_ ?_ | refine qg7 ?_ ?_); (focus ((repeat' (with_reducible apply And.intro)) <;> (first | assumption | omega | (simp only [bz, fz]; omega) | (simp (maxDischargeDepth := 8) only [bb, fz]; done)))); intro _) | ((with_reducible refine g1_64w ?_ ?_); (focus ((repeat' (with_reducible apply And.intro)) <;> (first | assumption | omega | (simp only [bz, fz]; omega) | (simp (maxDischargeDepth := 8) only [bb, fz]; done)))); intro _) | (with_reducible apply call_elim; focus ((with_reducible first | apply e24) <;> (first | assumption | omega | (simp only [bz, fz]; omega) | (simp (maxDischargeDepth := 8) only [bb, fz]; done))))))
  | true =>
    have hs := sorted_of hc
    have hh : hasE L t = false := by simpa [cdOK, hc] using hok
    (have fz := ga5 hc hh hlen hcl hsn; repeat' (first | simp (maxDischargeDepth := 8) only [go_sem, rr, reduceIte, reduceCtorEq, Nat.reduceEqDiff, Nat.reduceAdd, Nat.reduceMul, Nat.reduceSub, Nat.reduceBEq, Nat.reduceLeDiff, Int.reduceEq, Int.reduceLT, Int.reduceLE, Int.reduceGE, Int.reduceGT, Int.reduceBEq, Int.reduceBNe, Int.reduceToNat, Int.reduceNeg, Int.reduceSub, Int.reduceAdd, Int.reduceMul, fz, Tryd.f30] | (with_reducible refine qg9 ?_ ?_; focus (first | (simp (maxDischargeDepth := 8) only [bb, kk, fz]; done) | kernel_rfl)) | ((with_reducible first | refine qf7 ?_ ?_ | refine qf8 ?_ ?_ | refine qf9 ?_ ?_ | refine qg ?_ ?_ | refine qg0 ?_ ?_ | refine qg1 ?_ ?_ | refine qg2 ?_ ?_); focus (first | assumption | omega | (simp only [bz, fz]; omega))) | ((with_reducible first | refine qg3 ?_ ?_ | refine qg4 ?_ ?_ | refine qg5 ?_ ?_); focus (first | assumption | omega | (simp only [bz, fz]; omega))) | ((with_reducible first | refine g1_u8w ?_ ?_ | refine qg7 ?_ ?_); (focus ((repeat' (with_reducible apply And.intro)) <;> (first | assumption | omega | (simp only [bz, fz]; omega) | (simp (maxDischargeDepth := 8) only [bb, fz]; done)))); intro _) | ((with_reducible refine g1_64w ?_ ?_); (focus ((repeat' (with_reducible apply And.intro)) <;> (first | assumption | omega | (simp only [bz, fz]; omega) | (simp (maxDischargeDepth := 8) only [bb, fz]; done)))); intro _) | (with_reducible apply call_elim; focus ((with_reducible first | apply e24 | apply e60) <;> (first | assumption | omega | (simp only [bz, fz]; omega) | (simp (maxDischargeDepth := 8) only [bb, fz]; done))))))
theorem flat_tkA (M X : List Ent) (n : Nat) (h : M.length = n) : (flat encE (M ++ X)).take (n * 4) = flat encE M := by
  rw [flat_tk, ← h, List.take_append_of_le_length (Nat.le_refl _), List.take_length]
end Go.Proofs.YtgdldmfkgijkaaaDoor.VH.S
end

section
namespace Go.Proofs.YtgdldmfkgijkaaaDoor.VH.S
open Go.Proofs
set_option maxRecDepth 100000
set_option maxHeartbeats 8000000
set_option linter.unusedSimpArgs false

/- An entry put among entries. -/
theorem map_val_own (l : List Value) : (l.map AV.val).any qb8 = false := List.any_eq_false.mpr fun x h => by
  obtain ⟨v, _, rfl⟩ := List.mem_map.mp h
  simp [qb8]
theorem map_val_snap : ∀ l : List Value, qf2 (l.map AV.val) = true
  | [] => rfl
  | v :: l => by simp only [List.map_cons, qf2, qf1, map_val_snap l, Bool.and_self]
theorem snap_app (a b : List AV) : qf2 (a ++ b) = (qf2 a && qf2 b) := by
  induction a with
  | nil => rfl
  | cons x a ih => simp only [List.cons_append, qf2, ih, Bool.and_assoc]
theorem snap_take {a : List AV} (h : qf2 a = true) (n : Nat) : qf2 (a.take n) = true := by
  have := h
  rw [← List.take_append_drop n a, snap_app, Bool.and_eq_true] at this
  exact this.1
theorem snap_drop {a : List AV} (h : qf2 a = true) (n : Nat) : qf2 (a.drop n) = true := by
  have := h
  rw [← List.take_append_drop n a, snap_app, Bool.and_eq_true] at this
  exact this.2
theorem setAt_eq (cs : List AV) (o : Nat) (ys : List AV) (h : o + ys.length ≤ cs.length) : setAt cs o ys = cs.take o ++ ys ++ cs.drop (o + ys.length) := by
  apply List.ext_getElem?
  intro j
  rw [setAt_get h, List.getElem?_append, List.getElem?_append, List.length_append, List.length_take]
  by_cases h1 : j < o
  · rw [if_neg (by omega), if_pos (by omega), if_pos (by omega), List.getElem?_take_of_lt h1]
  · by_cases h2 : j < o + ys.length
    · rw [if_pos (by omega), if_pos (by omega), if_neg (by omega), show j - min o cs.length = j - o by omega]
    · rw [if_neg (by omega), if_neg (by omega), List.getElem?_drop]; congr 1; omega
theorem snap_setAt {cs ys : List AV} {o : Nat} (h : o + ys.length ≤ cs.length) (h1 : qf2 cs = true) (h2 : qf2 ys = true) : qf2 (setAt cs o ys) = true := by
  rw [setAt_eq cs o ys h, snap_app, snap_app, snap_take h1, snap_drop h1, h2]; rfl
theorem own_take {a : List AV} (h : a.any qb8 = false) (n : Nat) : (a.take n).any qb8 = false := List.any_eq_false.mpr fun x hx => List.any_eq_false.mp h x (List.mem_of_mem_take hx)
theorem own_drop {a : List AV} (h : a.any qb8 = false) (n : Nat) : (a.drop n).any qb8 = false := List.any_eq_false.mpr fun x hx => List.any_eq_false.mp h x (List.mem_of_mem_drop hx)
theorem zeros_own (r : Row) (n : Nat) : (zeros r n).any qb8 = false := by
  refine List.any_eq_false.mpr fun x hx => ?_
  simp only [zeros, List.mem_flatten, List.mem_replicate] at hx
  obtain ⟨l, ⟨_, rfl⟩, hx⟩ := hx
  obtain ⟨v, _, rfl⟩ := List.mem_map.mp hx
  simp [qb8]
theorem ins_grow {z n i : Nat} (V es : List AV) (hi : i < n) (hl : V.length = n * z) (he : es.length = z) (r : Row) (hr : r.zero.length = z) :
    setAt (setAt (V.take (i * z) ++ zeros r (n + 1 - i)) (i * z) es) ((i + 1) * z) (V.drop (i * z)) = V.take (i * z) ++ es ++ V.drop (i * z) := by
  have h1 : i * z ≤ n * z := Nat.mul_le_mul_right _ (by omega)
  have h2 : (i + 1) * z = i * z + z := Nat.succ_mul i z
  have h3 : (zeros r (n + 1 - i)).length = n * z + z - i * z := by rw [zeros_len, hr, Nat.sub_mul, Nat.succ_mul]
  have hlt : (V.take (i * z)).length = i * z := by rw [List.length_take]; omega
  generalize hZ : zeros r (n + 1 - i) = Z at h3
  have q1 : (V.take (i * z) ++ Z).take (i * z) = V.take (i * z) := by rw [List.take_append_of_le_length (by omega), List.take_take, Nat.min_self]
  have q2 : (V.take (i * z) ++ Z).drop (i * z + es.length) = Z.drop z := by rw [List.drop_append, hlt, he, List.drop_of_length_le (by omega), List.nil_append]; congr 1; omega
  have e1 : setAt (V.take (i * z) ++ Z) (i * z) es = V.take (i * z) ++ es ++ Z.drop z := by
    rw [setAt_eq _ _ _ (by rw [List.length_append, hlt, h3]; omega), q1, q2]
  have hl1 : (V.take (i * z) ++ es).length = (i + 1) * z := by rw [List.length_append, hlt, he, h2]
  have q3 : (V.take (i * z) ++ es ++ Z.drop z).take ((i + 1) * z) = V.take (i * z) ++ es := by rw [List.take_append_of_le_length (by omega), List.take_of_length_le (by omega)]
  have q4 : (V.take (i * z) ++ es ++ Z.drop z).drop ((i + 1) * z + (V.drop (i * z)).length) = [] := List.drop_of_length_le (by rw [List.length_append, hl1, List.length_drop, List.length_drop, h3, hl]; omega)
  rw [e1, setAt_eq _ _ _ (by rw [List.length_append, hl1, List.length_drop, List.length_drop, h3, hl]; omega), q3, q4, List.append_nil]
theorem ins_room {z n i c : Nat} (V es : List AV) (hi : i < n) (hc : n < c) (hl : V.length = c * z) (he : es.length = z) :
    setAt (setAt V ((i + 1) * z) ((V.drop (i * z)).take ((n - i) * z))) (i * z) es = V.take (i * z) ++ es ++ (V.drop (i * z)).take ((n - i) * z) ++ V.drop ((n + 1) * z) := by
  have h1 : i * z ≤ n * z := Nat.mul_le_mul_right _ (by omega)
  have h1' : (n + 1) * z ≤ c * z := Nat.mul_le_mul_right _ (by omega)
  have h2 : (i + 1) * z = i * z + z := Nat.succ_mul i z
  have h2' : (n + 1) * z = n * z + z := Nat.succ_mul n z
  have h3 : (n - i) * z = n * z - i * z := Nat.sub_mul n i z
  have hlt : ((V.drop (i * z)).take ((n - i) * z)).length = n * z - i * z := by rw [List.length_take, List.length_drop]; omega
  have e1 : setAt V ((i + 1) * z) ((V.drop (i * z)).take ((n - i) * z)) = V.take ((i + 1) * z) ++ (V.drop (i * z)).take ((n - i) * z) ++ V.drop ((n + 1) * z) := by
    rw [setAt_eq _ _ _ (by rw [hlt]; omega), hlt]; congr 2; omega
  have hla : (V.take ((i + 1) * z)).length = i * z + z := by rw [List.length_take]; omega
  rw [e1, setAt_eq _ _ _ (by rw [he]; simp only [List.length_append, hlt, hla, List.length_drop]; omega), he, List.append_assoc (V.take ((i + 1) * z)), List.take_append_of_le_length (by omega), List.take_take, Nat.min_eq_left (by omega), List.drop_append_of_le_length (by omega), List.drop_of_length_le (by omega), List.nil_append, List.append_assoc, List.append_assoc, List.append_assoc]
theorem e691 (d n c : Nat) (V es : List AV) (hc : n = c) (hn : n ≤ 1000000) (hl : V.length = c * 4) (ho : V.any qb8 = false) (hs : qf2 V = true) (he : es.length = 4) (hes : es.any qb8 = false) (hel : es.any isSl = false) (hen : qf2 es = true) :
    evFun E (d+2) 69 [.ref 0 [] 4 0 n (some c), vi n, .sl .snap 4 1 none es] [V] = some (.ref 1 [] 4 0 (n + 1) none, [none, some (V ++ es)]) := by
  refine evFun_body b69 ?_
  subst hc
  have htk : V.take (n * 4) = V := List.take_of_length_le (by omega)
  have hsn : qf2 (V ++ es) = true := by rw [snap_app, hs, hen]; rfl
  (have fz := ga9 ho hl hs he hes hel hen htk hsn; repeat' (first | simp (maxDischargeDepth := 8) only [go_sem, rr, reduceIte, reduceCtorEq, Nat.reduceEqDiff, Nat.reduceAdd, Nat.reduceMul, Nat.reduceSub, Nat.reduceBEq, Nat.reduceLeDiff, Int.reduceEq, Int.reduceLT, Int.reduceLE, Int.reduceGE, Int.reduceGT, Int.reduceBEq, Int.reduceBNe, Int.reduceToNat, Int.reduceNeg, Int.reduceSub, Int.reduceAdd, Int.reduceMul, fz, Tryd.f69] | (with_reducible refine qg9 ?_ ?_; focus (first | (simp (maxDischargeDepth := 8) only [bb, kk, fz]; done) | kernel_rfl)) | ((with_reducible first | refine qf7 ?_ ?_ | refine qf8 ?_ ?_ | refine qf9 ?_ ?_ | refine qg ?_ ?_ | refine qg0 ?_ ?_ | refine qg1 ?_ ?_ | refine qg2 ?_ ?_); focus (first | assumption | omega | (simp only [bz, fz]; omega))) | ((with_reducible first | refine qg3 ?_ ?_ | refine qg4 ?_ ?_ | refine qg5 ?_ ?_); focus (first | assumption | omega | (simp only [bz, fz]; omega))) | ((with_reducible first | refine g1_u8w ?_ ?_ | refine qg7 ?_ ?_); (focus ((repeat' (with_reducible apply And.intro)) <;> (first | assumption | omega | (simp only [bz, fz]; omega) | (simp (maxDischargeDepth := 8) only [bb, fz]; done)))); intro _)))
theorem e692 (d n c : Nat) (V es : List AV) (hc : n < c) (hn : n ≤ 1000000) (hl : V.length = c * 4) (ho : V.any qb8 = false) (hs : qf2 V = true) (he : es.length = 4) (hes : es.any qb8 = false) (hel : es.any isSl = false) (hen : qf2 es = true) :
    evFun E (d+2) 69 [.ref 0 [] 4 0 n (some c), vi n, .sl .snap 4 1 none es] [V] = some (.ref 0 [] 4 0 (n + 1) (some c), [some (setAt V (n * 4) es)]) := by
  refine evFun_body b69 ?_
  have hsn : qf2 (setAt V (n * 4) es) = true := snap_setAt (by omega) hs hen
  (have fz := ga8 ho hl hs he hes hel hen hsn; repeat' (first | simp (maxDischargeDepth := 8) only [go_sem, rr, reduceIte, reduceCtorEq, Nat.reduceEqDiff, Nat.reduceAdd, Nat.reduceMul, Nat.reduceSub, Nat.reduceBEq, Nat.reduceLeDiff, Int.reduceEq, Int.reduceLT, Int.reduceLE, Int.reduceGE, Int.reduceGT, Int.reduceBEq, Int.reduceBNe, Int.reduceToNat, Int.reduceNeg, Int.reduceSub, Int.reduceAdd, Int.reduceMul, fz, Tryd.f69] | (with_reducible refine qg9 ?_ ?_; focus (first | (simp (maxDischargeDepth := 8) only [bb, kk, fz]; done) | kernel_rfl)) | ((with_reducible first | refine qf7 ?_ ?_ | refine qf8 ?_ ?_ | refine qf9 ?_ ?_ | refine qg ?_ ?_ | refine qg0 ?_ ?_ | refine qg1 ?_ ?_ | refine qg2 ?_ ?_); focus (first | assumption | omega | (simp only [bz, fz]; omega))) | ((with_reducible first | refine qg3 ?_ ?_ | refine qg4 ?_ ?_ | refine qg5 ?_ ?_); focus (first | assumption | omega | (simp only [bz, fz]; omega))) | ((with_reducible first | refine g1_u8w ?_ ?_ | refine qg7 ?_ ?_); (focus ((repeat' (with_reducible apply And.intro)) <;> (first | assumption | omega | (simp only [bz, fz]; omega) | (simp (maxDischargeDepth := 8) only [bb, fz]; done)))); intro _)))
theorem e693 (d n c i : Nat) (V es : List AV) (hi : i < n) (hc : n = c) (hn : n ≤ 1000000) (hl : V.length = c * 4) (ho : V.any qb8 = false) (hs : qf2 V = true) (he : es.length = 4) (hes : es.any qb8 = false) (hel : es.any isSl = false) (hen : qf2 es = true) :
    evFun E (d+2) 69 [.ref 0 [] 4 0 n (some c), vi i, .sl .snap 4 1 none es] [V] = some (.ref 1 [] 4 0 (n + 1) none, [some V, some (V.take (i * 4) ++ es ++ V.drop (i * 4))]) := by
  refine evFun_body b69 ?_
  subst hc
  have hto := own_take ho (i * 4)
  have htd := own_take (own_drop ho (i * 4)) ((n - i) * 4)
  have ht1 : ((n : Int) + 1 - (i : Int)).toNat = n + 1 - i := by omega
  have hif : (if i * 4 ≤ n * 4 then i * 4 else n * 4) = i * 4 := if_pos (by omega)
  have hod := own_drop ho (i * 4)
  have ht3 : (((n + 1 : Nat) : Int) - ((i : Int) + 1)).toNat = n - i := by omega
  have hii : i + (n + 1 - i) = n + 1 := by omega
  have hdt : (V.drop (i * 4)).take ((n - i) * 4) = V.drop (i * 4) := List.take_of_length_le (by rw [List.length_drop]; omega)
  have hgr : ∀ r : Row, r.zero.length = 4 → setAt (setAt (V.take (i * 4) ++ zeros r (n + 1 - i)) (i * 4) es) ((i + 1) * 4) (V.drop (i * 4)) = V.take (i * 4) ++ es ++ V.drop (i * 4) := ins_grow V es hi hl he
  have hsn : qf2 (V.take (i * 4) ++ es ++ V.drop (i * 4)) = true := by rw [snap_app, snap_app, snap_take hs, snap_drop hs, hen]; rfl
  (have fz := ga17 ho hl hs he hes hel hen hto htd hod ht1 ht3 hii hsn hif hdt hgr; repeat' (first | simp (maxDischargeDepth := 8) only [go_sem, rr, reduceIte, reduceCtorEq, Nat.reduceEqDiff, Nat.reduceAdd, Nat.reduceMul, Nat.reduceSub, Nat.reduceBEq, Nat.reduceLeDiff, Int.reduceEq, Int.reduceLT, Int.reduceLE, Int.reduceGE, Int.reduceGT, Int.reduceBEq, Int.reduceBNe, Int.reduceToNat, Int.reduceNeg, Int.reduceSub, Int.reduceAdd, Int.reduceMul, fz, setAt_len, copyHM, Nat.sub_zero, Int.sub_zero, zeros_own, zeros_len, Tryd.f69] | (with_reducible refine qg9 ?_ ?_; focus (first | (simp (maxDischargeDepth := 8) only [bb, kk, fz, setAt_len, copyHM, Nat.sub_zero, Int.sub_zero, zeros_own, zeros_len]; done) | kernel_rfl)) | ((with_reducible first | refine qf7 ?_ ?_ | refine qf8 ?_ ?_ | refine qf9 ?_ ?_ | refine qg ?_ ?_ | refine qg0 ?_ ?_ | refine qg1 ?_ ?_ | refine qg2 ?_ ?_); focus (first | assumption | omega | (simp only [bz, fz, setAt_len, copyHM, Nat.sub_zero, Int.sub_zero, zeros_own, zeros_len]; omega))) | ((with_reducible first | refine qg3 ?_ ?_ | refine qg4 ?_ ?_ | refine qg5 ?_ ?_); focus (first | assumption | omega | (simp only [bz, fz, setAt_len, copyHM, Nat.sub_zero, Int.sub_zero, zeros_own, zeros_len]; omega))) | ((with_reducible first | refine g1_u8w ?_ ?_ | refine qg7 ?_ ?_); (focus ((repeat' (with_reducible apply And.intro)) <;> (first | assumption | omega | (simp only [bz, fz, setAt_len, copyHM, Nat.sub_zero, Int.sub_zero, zeros_own, zeros_len]; omega) | (simp (maxDischargeDepth := 8) only [bb, fz, setAt_len, copyHM, Nat.sub_zero, Int.sub_zero, zeros_own, zeros_len]; done)))); intro _)))
theorem e694 (d n c i : Nat) (V es : List AV) (hi : i < n) (hc : n < c) (hn : n ≤ 1000000) (hl : V.length = c * 4) (ho : V.any qb8 = false) (hs : qf2 V = true) (he : es.length = 4) (hes : es.any qb8 = false) (hel : es.any isSl = false) (hen : qf2 es = true) :
    evFun E (d+2) 69 [.ref 0 [] 4 0 n (some c), vi i, .sl .snap 4 1 none es] [V] = some (.ref 0 [] 4 0 (n + 1) (some c), [some (V.take (i * 4) ++ es ++ (V.drop (i * 4)).take ((n - i) * 4) ++ V.drop ((n + 1) * 4))]) := by
  refine evFun_body b69 ?_
  have htd := own_take (own_drop ho (i * 4)) ((n + 1 - i) * 4)
  have ht1 : ((n : Int) + 1).toNat = n + 1 := by omega
  have ht2 : (((n + 1 : Nat) : Int) - ((i : Int) + 1)).toNat = n - i := by omega
  have hif : (if (n + 1 - i) * 4 ≤ c * 4 - i * 4 then (n + 1 - i) * 4 else c * 4 - i * 4) = (n + 1 - i) * 4 := if_pos (by omega)
  have htt : ((V.drop (i * 4)).take ((n + 1 - i) * 4)).take ((n - i) * 4) = (V.drop (i * 4)).take ((n - i) * 4) := by rw [List.take_take, Nat.min_eq_left (by omega)]
  have hgr := ins_room V es hi hc hl he
  have hsn : qf2 (V.take (i * 4) ++ es ++ (V.drop (i * 4)).take ((n - i) * 4) ++ V.drop ((n + 1) * 4)) = true := by rw [snap_app, snap_app, snap_app, snap_take hs, snap_take (snap_drop hs _), snap_drop hs, hen]; rfl
  (have fz := ga14 ho hl hs he hes hel hen htd ht1 ht2 hif htt hgr hsn; repeat' (first | simp (maxDischargeDepth := 8) only [go_sem, rr, reduceIte, reduceCtorEq, Nat.reduceEqDiff, Nat.reduceAdd, Nat.reduceMul, Nat.reduceSub, Nat.reduceBEq, Nat.reduceLeDiff, Int.reduceEq, Int.reduceLT, Int.reduceLE, Int.reduceGE, Int.reduceGT, Int.reduceBEq, Int.reduceBNe, Int.reduceToNat, Int.reduceNeg, Int.reduceSub, Int.reduceAdd, Int.reduceMul, fz, setAt_len, copyHM, Nat.sub_zero, Int.sub_zero, Tryd.f69] | (with_reducible refine qg9 ?_ ?_; focus (first | (simp (maxDischargeDepth := 8) only [bb, kk, fz, setAt_len, copyHM, Nat.sub_zero, Int.sub_zero]; done) | kernel_rfl)) | ((with_reducible first | refine qf7 ?_ ?_ | refine qf8 ?_ ?_ | refine qf9 ?_ ?_ | refine qg ?_ ?_ | refine qg0 ?_ ?_ | refine qg1 ?_ ?_ | refine qg2 ?_ ?_); focus (first | assumption | omega | (simp only [bz, fz, setAt_len, copyHM, Nat.sub_zero, Int.sub_zero]; omega))) | ((with_reducible first | refine qg3 ?_ ?_ | refine qg4 ?_ ?_ | refine qg5 ?_ ?_); focus (first | assumption | omega | (simp only [bz, fz, setAt_len, copyHM, Nat.sub_zero, Int.sub_zero]; omega))) | ((with_reducible first | refine g1_u8w ?_ ?_ | refine qg7 ?_ ?_); (focus ((repeat' (with_reducible apply And.intro)) <;> (first | assumption | omega | (simp only [bz, fz, setAt_len, copyHM, Nat.sub_zero, Int.sub_zero]; omega) | (simp (maxDischargeDepth := 8) only [bb, fz, setAt_len, copyHM, Nat.sub_zero, Int.sub_zero]; done)))); intro _) | (with_reducible apply call_elim; focus ((with_reducible first | apply eovl88) <;> (first | assumption | omega | (simp only [bz, fz, setAt_len, copyHM, Nat.sub_zero, Int.sub_zero]; omega) | (simp (maxDischargeDepth := 8) only [bb, fz, setAt_len, copyHM, Nat.sub_zero, Int.sub_zero]; done))))))
theorem plain_own : ∀ {l : List AV}, qe0 l = true → l.any qb8 = false ∧ l.any isSl = false ∧ qf2 l = true
  | [], _ => ⟨rfl, rfl, rfl⟩
  | .val v :: l, h => by
    simp only [qe0, Bool.and_eq_true] at h
    obtain ⟨h1, h2, h3⟩ := plain_own h.2
    exact ⟨by simp [qb8, h1], by simp [isSl, h2], by simp [qf2, qf1, h3]⟩
  | .und :: _, h | .sl .. :: _, h | .ref .. :: _, h | .ptr .. :: _, h | .rp .. :: _, h | .agg _ :: _, h | .tup _ :: _, h | .fn .. :: _, h | .bx _ :: _, h => by simp [qe0] at h
theorem iOK4 (d n i : Nat) (es : List AV) (hi : i ≤ n) (hn : n ≤ 1000000) (hp : qe0 es = true) (he : es.length = 4) : InsOK (evFun E (d+2)) 69 4 n i es := by
  obtain ⟨h1, h2, h3⟩ := plain_own hp
  intro c vals hc hl hf
  have ho := map_val_own vals
  have hs := map_val_snap vals
  have hlen : (vals.map AV.val).length = c * 4 := by rw [List.length_map]; exact hl
  by_cases hin : i = n
  · subst hin
    have hm : (vals.take (i * 4)).drop (i * 4) = [] := List.drop_of_length_le (by rw [List.length_take]; omega)
    by_cases hnc : i = c
    · have ht : vals.take (i * 4) = vals := List.take_of_length_le (by omega)
      exact ⟨1, _, _, [], e691 d i c _ es hnc hn hlen ho hs he h1 h2 h3, by rw [hm, ht]; simp⟩
    · refine ⟨0, _, _, (vals.map AV.val).drop (i * 4 + 4), e692 d i c _ es (by omega) hn hlen ho hs he h1 h2 h3, ?_⟩
      rw [hm, setAt_eq _ _ _ (by rw [hlen, he]; omega), he, List.map_take]; simp
  · by_cases hnc : n = c
    · have ht : vals.take (n * 4) = vals := List.take_of_length_le (by omega)
      exact ⟨1, _, _, [], e693 d n c i _ es (by omega) hnc hn hlen ho hs he h1 h2 h3, by rw [ht, List.map_take, List.map_drop]; simp⟩
    · refine ⟨0, _, _, (vals.map AV.val).drop ((n + 1) * 4), e694 d n c i _ es (by omega) (by omega) hn hlen ho hs he h1 h2 h3, ?_⟩
      rw [List.drop_take, ← Nat.sub_mul, List.map_take, List.map_take, List.map_drop]; simp
end Go.Proofs.YtgdldmfkgijkaaaDoor.VH.S
end

section
namespace Go.Proofs.YtgdldmfkgijkaaaDoor.VH.S
open Go.Proofs
set_option maxRecDepth 100000
set_option maxHeartbeats 8000000
set_option linter.unusedSimpArgs false

/- An entry is put. -/
theorem guardP_t {α : Type} {p : Prop} (h : p) (m : HM α) : guardP p m = m := if_pos h
def insE (L : List Ent) (k : Nat) (e : Ent) : List Ent := L.take k ++ [e] ++ L.drop k
theorem insE_len {L : List Ent} {k : Nat} (h : k ≤ L.length) (e : Ent) : (insE L k e).length = L.length + 1 := by simp [insE]; omega
theorem insE_flat (L : List Ent) (k : Nat) (e : Ent) : (flat encE L).take (k * 4) ++ encE e ++ (flat encE L).drop (k * 4) = flat encE (insE L k e) := by
  rw [flat_tk, flat_dr, insE, flat_app, flat_app]; simp [flat]
theorem insE_nil (e : Ent) : insE [] 0 e = [e] := rfl
theorem fE_setE (L : List Ent) {k : Nat} (h : k < L.length) (e : Ent) : setAt (flat encE L) (k * 4) (encE e) = flat encE (L.set k e) := by
  rw [setAt_put _ _ _ (by rw [fE_len, encE_len]; omega), putL, flat_tk, encE_len, show k * 4 + 4 = (k + 1) * 4 by omega, flat_dr, List.set_eq_take_append_cons_drop, if_pos h, flat_app]
  simp [flat]
def cpOK (L : List Ent) (e : Ent) : Bool := catOK L && entOK e
def cpL (L : List Ent) (e : Ent) : List Ent := if cpOK L e then (if hasE L e.nm then L.set (lb L e.nm) e else if L.length = 5 then L else insE L (lb L e.nm) e) else L
def cpB (L : List Ent) (e : Ent) : Bool := cpOK L e && (hasE L e.nm || decide (L.length ≠ 5))
theorem e29 (d : Nat) (L : List Ent) (e : Ent) (tg : Tg) (c : Option Nat) (hS : Small L) (he : e.nm.length ≤ 549755813888) (h0 : 0 < L.length) : evFun E (d+7) 29 [.sl tg 4 L.length c (flat encE L), .agg [vs e.nm, vi e.v, vi e.s, vi e.r]] [] = some (.tup [.ref 0 [] 4 0 (cpL L e).length none, vb (cpB L e)], [some (flat encE (cpL L e))]) := by
  refine evFun_body b29 ?_
  have hl := hS.1
  have hlen := fE_len L
  have hown := anyOwn_encE L
  have hcl := fun d tg c => eC68 d tg c L h0 hl
  have hsn := noSnapL_encE L
  have hle := lb_le L e.nm
  cases hc : catOK L with
  | false =>
    have e1 : cpL L e = L := by simp [cpL, cpOK, hc]
    have e2 : cpB L e = false := by simp [cpB, cpOK, hc]
    rw [e1, e2]
    (have fz := ga4 hc hlen hcl hsn; repeat' (first | simp (maxDischargeDepth := 8) only [go_sem, rr, reduceIte, reduceCtorEq, Nat.reduceEqDiff, Nat.reduceAdd, Nat.reduceMul, Nat.reduceSub, Nat.reduceBEq, Nat.reduceLeDiff, Int.reduceEq, Int.reduceLT, Int.reduceLE, Int.reduceGE, Int.reduceGT, Int.reduceBEq, Int.reduceBNe, Int.reduceToNat, Int.reduceNeg, Int.reduceSub, Int.reduceAdd, Int.reduceMul, fz, Tryd.f29] | (with_reducible refine qg9 ?_ ?_; focus (first | (simp (maxDischargeDepth := 8) only [bb, kk, fz]; done) | kernel_rfl)) | ((with_reducible first | refine qf7 ?_ ?_ | refine qf8 ?_ ?_ | refine qf9 ?_ ?_ | refine qg ?_ ?_ | refine qg0 ?_ ?_ | refine qg1 ?_ ?_ | refine qg2 ?_ ?_); focus (first | assumption | omega | (simp only [bz, fz]; omega))) | ((with_reducible first | refine qg3 ?_ ?_ | refine qg4 ?_ ?_ | refine qg5 ?_ ?_); focus (first | assumption | omega | (simp only [bz, fz]; omega))) | ((with_reducible first | refine g1_u8w ?_ ?_ | refine qg7 ?_ ?_); (focus ((repeat' (with_reducible apply And.intro)) <;> (first | assumption | omega | (simp only [bz, fz]; omega) | (simp (maxDischargeDepth := 8) only [bb, fz]; done)))); intro _) | (with_reducible apply call_elim; focus ((with_reducible first | apply e24) <;> (first | assumption | omega | (simp only [bz, fz]; omega) | (simp (maxDischargeDepth := 8) only [bb, fz]; done))))))
  | true =>
    have hs := sorted_of hc
    have h5 : L.length ≤ 5 := by simp only [catOK, Bool.and_eq_true, decide_eq_true_eq] at hc; exact hc.2
    cases hk : entOK e with
    | false =>
      have e1 : cpL L e = L := by simp [cpL, cpOK, hk]
      have e2 : cpB L e = false := by simp [cpB, cpOK, hk]
      rw [e1, e2]
      (have fz := ga5 hc hk hlen hcl hsn; repeat' (first | simp (maxDischargeDepth := 8) only [go_sem, rr, reduceIte, reduceCtorEq, Nat.reduceEqDiff, Nat.reduceAdd, Nat.reduceMul, Nat.reduceSub, Nat.reduceBEq, Nat.reduceLeDiff, Int.reduceEq, Int.reduceLT, Int.reduceLE, Int.reduceGE, Int.reduceGT, Int.reduceBEq, Int.reduceBNe, Int.reduceToNat, Int.reduceNeg, Int.reduceSub, Int.reduceAdd, Int.reduceMul, fz, Tryd.f29] | (with_reducible refine qg9 ?_ ?_; focus (first | (simp (maxDischargeDepth := 8) only [bb, kk, fz]; done) | kernel_rfl)) | ((with_reducible first | refine qf7 ?_ ?_ | refine qf8 ?_ ?_ | refine qf9 ?_ ?_ | refine qg ?_ ?_ | refine qg0 ?_ ?_ | refine qg1 ?_ ?_ | refine qg2 ?_ ?_); focus (first | assumption | omega | (simp only [bz, fz]; omega))) | ((with_reducible first | refine qg3 ?_ ?_ | refine qg4 ?_ ?_ | refine qg5 ?_ ?_); focus (first | assumption | omega | (simp only [bz, fz]; omega))) | ((with_reducible first | refine g1_u8w ?_ ?_ | refine qg7 ?_ ?_); (focus ((repeat' (with_reducible apply And.intro)) <;> (first | assumption | omega | (simp only [bz, fz]; omega) | (simp (maxDischargeDepth := 8) only [bb, fz]; done)))); intro _) | (with_reducible apply call_elim; focus ((with_reducible first | apply e24 | apply e63) <;> (first | assumption | omega | (simp only [bz, fz]; omega) | (simp (maxDischargeDepth := 8) only [bb, fz]; done))))))
    | true =>
      cases hh : hasE L e.nm with
      | true =>
        have hlt : lb L e.nm < L.length := by simp only [hasE, Bool.and_eq_true, decide_eq_true_eq] at hh; exact hh.1
        have e1 : cpL L e = L.set (lb L e.nm) e := by simp [cpL, cpOK, hc, hk, hh]
        have e2 : cpB L e = true := by simp [cpB, cpOK, hc, hk, hh]
        have hst := fE_setE L hlt e
        have hsn2 := noSnapL_encE (L.set (lb L e.nm) e)
        have hls : (L.set (lb L e.nm) e).length = L.length := List.length_set
        simp only [encE] at hst
        rw [e1, e2]
        (have fz := ga9 hc hk hh hlen hcl hsn hst hsn2 hls; repeat' (first | simp (maxDischargeDepth := 8) only [go_sem, rr, reduceIte, reduceCtorEq, Nat.reduceEqDiff, Nat.reduceAdd, Nat.reduceMul, Nat.reduceSub, Nat.reduceBEq, Nat.reduceLeDiff, Int.reduceEq, Int.reduceLT, Int.reduceLE, Int.reduceGE, Int.reduceGT, Int.reduceBEq, Int.reduceBNe, Int.reduceToNat, Int.reduceNeg, Int.reduceSub, Int.reduceAdd, Int.reduceMul, fz, Tryd.f29] | (with_reducible refine qg9 ?_ ?_; focus (first | (simp (maxDischargeDepth := 8) only [bb, kk, fz]; done) | kernel_rfl)) | ((with_reducible first | refine qf7 ?_ ?_ | refine qf8 ?_ ?_ | refine qf9 ?_ ?_ | refine qg ?_ ?_ | refine qg0 ?_ ?_ | refine qg1 ?_ ?_ | refine qg2 ?_ ?_); focus (first | assumption | omega | (simp only [bz, fz]; omega))) | ((with_reducible first | refine qg3 ?_ ?_ | refine qg4 ?_ ?_ | refine qg5 ?_ ?_); focus (first | assumption | omega | (simp only [bz, fz]; omega))) | ((with_reducible first | refine g1_u8w ?_ ?_ | refine qg7 ?_ ?_); (focus ((repeat' (with_reducible apply And.intro)) <;> (first | assumption | omega | (simp only [bz, fz]; omega) | (simp (maxDischargeDepth := 8) only [bb, fz]; done)))); intro _) | (with_reducible apply call_elim; focus ((with_reducible first | apply e24 | apply e63 | apply e60) <;> (first | assumption | omega | (simp only [bz, fz]; omega) | (simp (maxDischargeDepth := 8) only [bb, fz]; done))))))
      | false =>
        by_cases hn : L.length = 5
        · have e1 : cpL L e = L := by simp [cpL, cpOK, hc, hk, hh, hn]
          have e2 : cpB L e = false := by simp [cpB, cpOK, hc, hk, hh, hn]
          rw [e1, e2]
          (have fz := ga6 hc hk hh hlen hcl hsn; repeat' (first | simp (maxDischargeDepth := 8) only [go_sem, rr, reduceIte, reduceCtorEq, Nat.reduceEqDiff, Nat.reduceAdd, Nat.reduceMul, Nat.reduceSub, Nat.reduceBEq, Nat.reduceLeDiff, Int.reduceEq, Int.reduceLT, Int.reduceLE, Int.reduceGE, Int.reduceGT, Int.reduceBEq, Int.reduceBNe, Int.reduceToNat, Int.reduceNeg, Int.reduceSub, Int.reduceAdd, Int.reduceMul, fz, Tryd.f29] | (with_reducible refine qg9 ?_ ?_; focus (first | (simp (maxDischargeDepth := 8) only [bb, kk, fz]; done) | kernel_rfl)) | ((with_reducible first | refine qf7 ?_ ?_ | refine qf8 ?_ ?_ | refine qf9 ?_ ?_ | refine qg ?_ ?_ | refine qg0 ?_ ?_ | refine qg1 ?_ ?_ | refine qg2 ?_ ?_); focus (first | assumption | omega | (simp only [bz, fz]; omega))) | ((with_reducible first | refine qg3 ?_ ?_ | refine qg4 ?_ ?_ | refine qg5 ?_ ?_); focus (first | assumption | omega | (simp only [bz, fz]; omega))) | ((with_reducible first | refine g1_u8w ?_ ?_ | refine qg7 ?_ ?_); (focus ((repeat' (with_reducible apply And.intro)) <;> (first | assumption | omega | (simp only [bz, fz]; omega) | (simp (maxDischargeDepth := 8) only [bb, fz]; done)))); intro _) | (with_reducible apply call_elim; focus ((with_reducible first | apply e24 | apply e63 | apply e60) <;> (first | assumption | omega | (simp only [bz, fz]; omega) | (simp (maxDischargeDepth := 8) only [bb, fz]; done))))))
        · have e1 : cpL L e = insE L (lb L e.nm) e := by simp [cpL, cpOK, hc, hk, hh, hn]
          have e2 : cpB L e = true := by simp [cpB, cpOK, hc, hk, hh, hn]
          have hIns : InsOK (evFun E (d+6)) 69 4 L.length (lb L e.nm) [vs e.nm, vi e.v, vi e.s, vi e.r] := iOK4 (d+4) _ _ _ hle (by omega) rfl rfl
          have hG := fun (m : HM AV) => guardP_t hIns m
          have hfl := insE_flat L (lb L e.nm) e
          have hsn2 := noSnapL_encE (insE L (lb L e.nm) e)
          have hil := insE_len hle e
          simp only [encE] at hfl
          rw [e1, e2]
          (have fz := ga10 hc hk hh hlen hcl hsn hG hfl hsn2 hil; repeat' (first | simp (maxDischargeDepth := 8) only [go_sem, rr, reduceIte, reduceCtorEq, Nat.reduceEqDiff, Nat.reduceAdd, Nat.reduceMul, Nat.reduceSub, Nat.reduceBEq, Nat.reduceLeDiff, Int.reduceEq, Int.reduceLT, Int.reduceLE, Int.reduceGE, Int.reduceGT, Int.reduceBEq, Int.reduceBNe, Int.reduceToNat, Int.reduceNeg, Int.reduceSub, Int.reduceAdd, Int.reduceMul, fz, insArgs, insHM, Tryd.f29] | (with_reducible refine qg9 ?_ ?_; focus (first | (simp (maxDischargeDepth := 8) only [bb, kk, fz, insArgs, insHM]; done) | kernel_rfl)) | ((with_reducible first | refine qf7 ?_ ?_ | refine qf8 ?_ ?_ | refine qf9 ?_ ?_ | refine qg ?_ ?_ | refine qg0 ?_ ?_ | refine qg1 ?_ ?_ | refine qg2 ?_ ?_); focus (first | assumption | omega | (simp only [bz, fz, insArgs, insHM]; omega))) | ((with_reducible first | refine qg3 ?_ ?_ | refine qg4 ?_ ?_ | refine qg5 ?_ ?_); focus (first | assumption | omega | (simp only [bz, fz, insArgs, insHM]; omega))) | ((with_reducible first | refine g1_u8w ?_ ?_ | refine qg7 ?_ ?_); (focus ((repeat' (with_reducible apply And.intro)) <;> (first | assumption | omega | (simp only [bz, fz, insArgs, insHM]; omega) | (simp (maxDischargeDepth := 8) only [bb, fz, insArgs, insHM]; done)))); intro _) | (with_reducible apply call_elim; focus ((with_reducible first | apply e24 | apply e63 | apply e60) <;> (first | assumption | omega | (simp only [bz, fz, insArgs, insHM]; omega) | (simp (maxDischargeDepth := 8) only [bb, fz, insArgs, insHM]; done))))))
theorem eZ69 (d : Nat) (cc : Option Nat) (es : List AV) (he : es.length = 4) (hp : qe0 es = true) : evFun E (d+2) 69 [.sl .fgn 4 0 (some 0) [], vi 0, .sl .snap 4 1 cc es] [] = some (.ref 0 [] 4 0 1 none, [some es]) := by
  obtain ⟨h1, h2, h3⟩ := plain_own hp
  refine evFun_body b69 ?_
  (have fz := ga3 he h1 h2; repeat' (first | simp (maxDischargeDepth := 8) only [go_sem, rr, reduceIte, reduceCtorEq, Nat.reduceEqDiff, Nat.reduceAdd, Nat.reduceMul, Nat.reduceSub, Nat.reduceBEq, Nat.reduceLeDiff, Int.reduceEq, Int.reduceLT, Int.reduceLE, Int.reduceGE, Int.reduceGT, Int.reduceBEq, Int.reduceBNe, Int.reduceToNat, Int.reduceNeg, Int.reduceSub, Int.reduceAdd, Int.reduceMul, fz, h3, Tryd.f69] | (with_reducible refine qg9 ?_ ?_; focus (first | (simp (maxDischargeDepth := 8) only [bb, kk, fz, h3]; done) | kernel_rfl)) | ((with_reducible first | refine qf7 ?_ ?_ | refine qf8 ?_ ?_ | refine qf9 ?_ ?_ | refine qg ?_ ?_ | refine qg0 ?_ ?_ | refine qg1 ?_ ?_ | refine qg2 ?_ ?_); focus (first | assumption | omega | (simp only [bz, fz, h3]; omega))) | ((with_reducible first | refine qg3 ?_ ?_ | refine qg4 ?_ ?_ | refine qg5 ?_ ?_); focus (first | assumption | omega | (simp only [bz, fz, h3]; omega))) | ((with_reducible first | refine g1_u8w ?_ ?_ | refine qg7 ?_ ?_); (focus ((repeat' (with_reducible apply And.intro)) <;> (first | assumption | omega | (simp only [bz, fz, h3]; omega) | (simp (maxDischargeDepth := 8) only [bb, fz, h3]; done)))); intro _)))
theorem e29z (d : Nat) (e : Ent) (tg : Tg) (c : Option Nat) (he : e.nm.length ≤ 549755813888) (hk : entOK e = true) : evFun E (d+7) 29 [.sl tg 4 0 c [], .agg [vs e.nm, vi e.v, vi e.s, vi e.r]] [] = some (.tup [.ref 0 [] 4 0 1 none, vb true], [some [vs e.nm, vi e.v, vi e.s, vi e.r]]) := by
  refine evFun_body b29 ?_
  have hS : Small [] := ⟨by decide, fun i => by simp [eA, e0]⟩
  have hO := fun d tg c => e24 d [] tg c hS
  have hE := fun d tg c => e60 d [] e.nm tg c (by decide) (fun a b _ hb => by simp at hb)
  have h1 : catOK [] = true := rfl
  have h2 : hasE [] e.nm = false := by simp [hasE]
  have h3 : lb [] e.nm = 0 := rfl
  have hI := fun d cc => eZ69 d cc [vs e.nm, vi e.v, vi e.s, vi e.r] rfl rfl
  simp only [List.length_nil, flat, h1, h2, h3] at hO hE
  (have fz := ga5 hO hE hI hk eZ68; repeat' (first | simp (maxDischargeDepth := 8) only [go_sem, rr, reduceIte, reduceCtorEq, Nat.reduceEqDiff, Nat.reduceAdd, Nat.reduceMul, Nat.reduceSub, Nat.reduceBEq, Nat.reduceLeDiff, Int.reduceEq, Int.reduceLT, Int.reduceLE, Int.reduceGE, Int.reduceGT, Int.reduceBEq, Int.reduceBNe, Int.reduceToNat, Int.reduceNeg, Int.reduceSub, Int.reduceAdd, Int.reduceMul, fz, insArgs, Tryd.f29] | (with_reducible refine qg9 ?_ ?_; focus (first | (simp (maxDischargeDepth := 8) only [bb, kk, fz, insArgs]; done) | kernel_rfl)) | ((with_reducible first | refine qf7 ?_ ?_ | refine qf8 ?_ ?_ | refine qf9 ?_ ?_ | refine qg ?_ ?_ | refine qg0 ?_ ?_ | refine qg1 ?_ ?_ | refine qg2 ?_ ?_); focus (first | assumption | omega | (simp only [bz, fz, insArgs]; omega))) | ((with_reducible first | refine qg3 ?_ ?_ | refine qg4 ?_ ?_ | refine qg5 ?_ ?_); focus (first | assumption | omega | (simp only [bz, fz, insArgs]; omega))) | ((with_reducible first | refine g1_u8w ?_ ?_ | refine qg7 ?_ ?_); (focus ((repeat' (with_reducible apply And.intro)) <;> (first | assumption | omega | (simp only [bz, fz, insArgs]; omega) | (simp (maxDischargeDepth := 8) only [bb, fz, insArgs]; done)))); intro _) | (with_reducible apply call_elim; focus ((with_reducible first | apply e63) <;> (first | assumption | omega | (simp only [bz, fz, insArgs]; omega) | (simp (maxDischargeDepth := 8) only [bb, fz, insArgs]; done))))))
def cpC (L : List Ent) (e : Ent) : Option Nat := if cpOK L e && !hasE L e.nm && decide (L.length ≠ 5) then none else capK (some 0) L.length
theorem e57 (d : Nat) (L : List Ent) (e : Ent) (tg : Tg) (c : Option Nat) (hS : Small L) (he : e.nm.length ≤ 549755813888) : evFun E (d+6) 57 [.sl tg 4 L.length c (flat encE L), .agg [vs e.nm, vi e.v, vi e.s, vi e.r]] [] = some (.tup [.ref 0 [] 4 0 (cpL L e).length (cpC L e), vb (cpB L e)], [some (flat encE (cpL L e))]) := by
  refine evFun_body b57 ?_
  have hl := hS.1
  have hlen := fE_len L
  have hown := anyOwn_encE L
  have hsn := noSnapL_encE L
  have hle := lb_le L e.nm
  have hfl := fi_le L e.nm
  have hcp := fun d tg c => e56 d tg c L hl
  cases hc : catOK L with
  | false =>
    have e1 : cpL L e = L := by simp [cpL, cpOK, hc]
    have e2 : cpB L e = false := by simp [cpB, cpOK, hc]
    have e3 : cpC L e = capK (some 0) L.length := by simp [cpC, cpOK, hc]
    rw [e1, e2, e3]
    generalize capK (some 0) L.length = cq at hcp
    (have fz := ga4 hc hlen hcp hsn; repeat' (first | simp (maxDischargeDepth := 8) only [go_sem, rr, reduceIte, reduceCtorEq, Nat.reduceEqDiff, Nat.reduceAdd, Nat.reduceMul, Nat.reduceSub, Nat.reduceBEq, Nat.reduceLeDiff, Int.reduceEq, Int.reduceLT, Int.reduceLE, Int.reduceGE, Int.reduceGT, Int.reduceBEq, Int.reduceBNe, Int.reduceToNat, Int.reduceNeg, Int.reduceSub, Int.reduceAdd, Int.reduceMul, fz, Tryd.f57] | (with_reducible refine qg9 ?_ ?_; focus (first | (simp (maxDischargeDepth := 8) only [bb, kk, fz]; done) | kernel_rfl)) | ((with_reducible first | refine qf7 ?_ ?_ | refine qf8 ?_ ?_ | refine qf9 ?_ ?_ | refine qg ?_ ?_ | refine qg0 ?_ ?_ | refine qg1 ?_ ?_ | refine qg2 ?_ ?_); focus (first | assumption | omega | (simp only [bz, fz]; omega))) | ((with_reducible first | refine qg3 ?_ ?_ | refine qg4 ?_ ?_ | refine qg5 ?_ ?_); focus (first | assumption | omega | (simp only [bz, fz]; omega))) | ((with_reducible first | refine g1_u8w ?_ ?_ | refine qg7 ?_ ?_); (focus ((repeat' (with_reducible apply And.intro)) <;> (first | assumption | omega | (simp only [bz, fz]; omega) | (simp (maxDischargeDepth := 8) only [bb, fz]; done)))); intro _) | (with_reducible apply call_elim; focus ((with_reducible first | apply e23) <;> (first | assumption | omega | (simp only [bz, fz]; omega) | (simp (maxDischargeDepth := 8) only [bb, fz]; done))))))
  | true =>
    have hs := sorted_of hc
    have h5 : L.length ≤ 5 := by simp only [catOK, Bool.and_eq_true, decide_eq_true_eq] at hc; exact hc.2
    cases hk : entOK e with
    | false =>
      have e1 : cpL L e = L := by simp [cpL, cpOK, hk]
      have e2 : cpB L e = false := by simp [cpB, cpOK, hk]
      have e3 : cpC L e = capK (some 0) L.length := by simp [cpC, cpOK, hk]
      rw [e1, e2, e3]
      generalize capK (some 0) L.length = cq at hcp
      (have fz := ga5 hc hk hlen hcp hsn; repeat' (first | simp (maxDischargeDepth := 8) only [go_sem, rr, reduceIte, reduceCtorEq, Nat.reduceEqDiff, Nat.reduceAdd, Nat.reduceMul, Nat.reduceSub, Nat.reduceBEq, Nat.reduceLeDiff, Int.reduceEq, Int.reduceLT, Int.reduceLE, Int.reduceGE, Int.reduceGT, Int.reduceBEq, Int.reduceBNe, Int.reduceToNat, Int.reduceNeg, Int.reduceSub, Int.reduceAdd, Int.reduceMul, fz, Tryd.f57] | (with_reducible refine qg9 ?_ ?_; focus (first | (simp (maxDischargeDepth := 8) only [bb, kk, fz]; done) | kernel_rfl)) | ((with_reducible first | refine qf7 ?_ ?_ | refine qf8 ?_ ?_ | refine qf9 ?_ ?_ | refine qg ?_ ?_ | refine qg0 ?_ ?_ | refine qg1 ?_ ?_ | refine qg2 ?_ ?_); focus (first | assumption | omega | (simp only [bz, fz]; omega))) | ((with_reducible first | refine qg3 ?_ ?_ | refine qg4 ?_ ?_ | refine qg5 ?_ ?_); focus (first | assumption | omega | (simp only [bz, fz]; omega))) | ((with_reducible first | refine g1_u8w ?_ ?_ | refine qg7 ?_ ?_); (focus ((repeat' (with_reducible apply And.intro)) <;> (first | assumption | omega | (simp only [bz, fz]; omega) | (simp (maxDischargeDepth := 8) only [bb, fz]; done)))); intro _) | (with_reducible apply call_elim; focus ((with_reducible first | apply e23 | apply e62) <;> (first | assumption | omega | (simp only [bz, fz]; omega) | (simp (maxDischargeDepth := 8) only [bb, fz]; done))))))
    | true =>
      cases hh : hasE L e.nm with
      | true =>
        have hlt : lb L e.nm < L.length := by simp only [hasE, Bool.and_eq_true, decide_eq_true_eq] at hh; exact hh.1
        obtain ⟨hfi, hft⟩ := (fi_has hs e.nm).1 hh
        have e1 : cpL L e = L.set (lb L e.nm) e := by simp [cpL, cpOK, hc, hk, hh]
        have e2 : cpB L e = true := by simp [cpB, cpOK, hc, hk, hh]
        have e3 : cpC L e = capK (some 0) L.length := by simp [cpC, hh]
        have hst := fE_setE L hlt e
        have hsn2 := noSnapL_encE (L.set (lb L e.nm) e)
        have hls : (L.set (lb L e.nm) e).length = L.length := List.length_set
        simp only [encE] at hst
        rw [e1, e2, e3]
        generalize capK (some 0) L.length = cq at hcp
        (have fz := ga9 hc hk hlen hcp hsn hst hsn2 hls hfi; repeat' (first | simp (maxDischargeDepth := 8) only [go_sem, rr, reduceIte, reduceCtorEq, Nat.reduceEqDiff, Nat.reduceAdd, Nat.reduceMul, Nat.reduceSub, Nat.reduceBEq, Nat.reduceLeDiff, Int.reduceEq, Int.reduceLT, Int.reduceLE, Int.reduceGE, Int.reduceGT, Int.reduceBEq, Int.reduceBNe, Int.reduceToNat, Int.reduceNeg, Int.reduceSub, Int.reduceAdd, Int.reduceMul, fz, if_pos hlt, Tryd.f57] | (with_reducible refine qg9 ?_ ?_; focus (first | (simp (maxDischargeDepth := 8) only [bb, kk, fz, if_pos hlt]; done) | kernel_rfl)) | ((with_reducible first | refine qf7 ?_ ?_ | refine qf8 ?_ ?_ | refine qf9 ?_ ?_ | refine qg ?_ ?_ | refine qg0 ?_ ?_ | refine qg1 ?_ ?_ | refine qg2 ?_ ?_); focus (first | assumption | omega | (simp only [bz, fz, if_pos hlt]; omega))) | ((with_reducible first | refine qg3 ?_ ?_ | refine qg4 ?_ ?_ | refine qg5 ?_ ?_); focus (first | assumption | omega | (simp only [bz, fz, if_pos hlt]; omega))) | ((with_reducible first | refine g1_u8w ?_ ?_ | refine qg7 ?_ ?_); (focus ((repeat' (with_reducible apply And.intro)) <;> (first | assumption | omega | (simp only [bz, fz, if_pos hlt]; omega) | (simp (maxDischargeDepth := 8) only [bb, fz, if_pos hlt]; done)))); intro _) | (with_reducible apply call_elim; focus ((with_reducible first | apply e23 | apply e62 | apply e82) <;> (first | assumption | omega | (simp only [bz, fz, if_pos hlt]; omega) | (simp (maxDischargeDepth := 8) only [bb, fz, if_pos hlt]; done))))))
      | false =>
        have hfn := (fi_has hs e.nm).2 hh
        have hlt : ¬ fi L e.nm < L.length := by omega
        by_cases hn : L.length = 5
        · have e1 : cpL L e = L := by simp [cpL, cpOK, hc, hk, hh, hn]
          have e2 : cpB L e = false := by simp [cpB, cpOK, hc, hk, hh, hn]
          have e3 : cpC L e = capK (some 0) L.length := by simp [cpC, hn]
          rw [e1, e2, e3]
          generalize capK (some 0) L.length = cq at hcp
          (have fz := ga5 hc hk hlen hcp hsn; repeat' (first | simp (maxDischargeDepth := 8) only [go_sem, rr, reduceIte, reduceCtorEq, Nat.reduceEqDiff, Nat.reduceAdd, Nat.reduceMul, Nat.reduceSub, Nat.reduceBEq, Nat.reduceLeDiff, Int.reduceEq, Int.reduceLT, Int.reduceLE, Int.reduceGE, Int.reduceGT, Int.reduceBEq, Int.reduceBNe, Int.reduceToNat, Int.reduceNeg, Int.reduceSub, Int.reduceAdd, Int.reduceMul, fz, if_neg hlt, Tryd.f57] | (with_reducible refine qg9 ?_ ?_; focus (first | (simp (maxDischargeDepth := 8) only [bb, kk, fz, if_neg hlt]; done) | kernel_rfl)) | ((with_reducible first | refine qf7 ?_ ?_ | refine qf8 ?_ ?_ | refine qf9 ?_ ?_ | refine qg ?_ ?_ | refine qg0 ?_ ?_ | refine qg1 ?_ ?_ | refine qg2 ?_ ?_); focus (first | assumption | omega | (simp only [bz, fz, if_neg hlt]; omega))) | ((with_reducible first | refine qg3 ?_ ?_ | refine qg4 ?_ ?_ | refine qg5 ?_ ?_); focus (first | assumption | omega | (simp only [bz, fz, if_neg hlt]; omega))) | ((with_reducible first | refine g1_u8w ?_ ?_ | refine qg7 ?_ ?_); (focus ((repeat' (with_reducible apply And.intro)) <;> (first | assumption | omega | (simp only [bz, fz, if_neg hlt]; omega) | (simp (maxDischargeDepth := 8) only [bb, fz, if_neg hlt]; done)))); intro _) | (with_reducible apply call_elim; focus ((with_reducible first | apply e23 | apply e62 | apply e82) <;> (first | assumption | omega | (simp only [bz, fz, if_neg hlt]; omega) | (simp (maxDischargeDepth := 8) only [bb, fz, if_neg hlt]; done))))))
        · have e1 : cpL L e = insE L (lb L e.nm) e := by simp [cpL, cpOK, hc, hk, hh, hn]
          have e2 : cpB L e = true := by simp [cpB, cpOK, hc, hk, hh, hn]
          have e3 : cpC L e = none := by simp [cpC, cpOK, hc, hk, hh, hn]
          have hsn2 := noSnapL_encE (insE L (lb L e.nm) e)
          have hil := insE_len hle e
          rw [e1, e2, e3]
          generalize capK (some 0) L.length = cq at hcp
          (have fz := ga5 hc hk hlen hcp hsn; repeat' (first | simp (maxDischargeDepth := 8) only [go_sem, rr, reduceIte, reduceCtorEq, Nat.reduceEqDiff, Nat.reduceAdd, Nat.reduceMul, Nat.reduceSub, Nat.reduceBEq, Nat.reduceLeDiff, Int.reduceEq, Int.reduceLT, Int.reduceLE, Int.reduceGE, Int.reduceGT, Int.reduceBEq, Int.reduceBNe, Int.reduceToNat, Int.reduceNeg, Int.reduceSub, Int.reduceAdd, Int.reduceMul, fz, if_neg hlt, Tryd.f57] | (with_reducible refine qg9 ?_ ?_; focus (first | (simp (maxDischargeDepth := 8) only [bb, kk, fz, if_neg hlt]; done) | kernel_rfl)) | ((with_reducible first | refine qf7 ?_ ?_ | refine qf8 ?_ ?_ | refine qf9 ?_ ?_ | refine qg ?_ ?_ | refine qg0 ?_ ?_ | refine qg1 ?_ ?_ | refine qg2 ?_ ?_); focus (first | assumption | omega | (simp only [bz, fz, if_neg hlt]; omega))) | ((with_reducible first | refine qg3 ?_ ?_ | refine qg4 ?_ ?_ | refine qg5 ?_ ?_); focus (first | assumption | omega | (simp only [bz, fz, if_neg hlt]; omega))) | ((with_reducible first | refine g1_u8w ?_ ?_ | refine qg7 ?_ ?_); (focus ((repeat' (with_reducible apply And.intro)) <;> (first | assumption | omega | (simp only [bz, fz, if_neg hlt]; omega) | (simp (maxDischargeDepth := 8) only [bb, fz, if_neg hlt]; done)))); intro _) | (with_reducible apply call_elim; focus ((with_reducible first | apply e23 | apply e62 | apply e82) <;> (first | assumption | omega | (simp only [bz, fz, if_neg hlt]; omega) | (simp (maxDischargeDepth := 8) only [bb, fz, if_neg hlt]; done))))))
          refine loop_go (fun i => {T := tp [(3, .ptr 0 [] 0), (6, .ref 1 [] 4 0 L.length cq), (8, vi i)], H := hp [some [vs e.nm, vi e.v, vi e.s, vi e.r], some (flat encE L)], nx := 2}) (lb L e.nm) ?_ (lt_LF (by omega)) (fun i hi Kn hK => ?_) (fun Kn => ?_)
          · simp only [vv, ff, norm, Array.toList, List.map, Option.isSome_none, bne_self_eq_false, reduceIte, reduceCtorEq, Nat.reduceEqDiff, Nat.reduceAdd, Nat.reduceMul, Nat.reduceSub, Nat.reduceBEq, Nat.reduceLeDiff, Int.reduceEq, Int.reduceLT, Int.reduceLE, Int.reduceGE, Int.reduceGT, Int.reduceBEq, Int.reduceBNe, Int.reduceToNat, Int.reduceNeg, Int.reduceSub, Int.reduceAdd, Int.reduceMul, finish, qf0, resOf, resa, qf1, qf2, qf3, keep, qf4, qf5, qf6, qe9, qf, Int.natCast_zero]
          · have h0 := fE_get0 L (show i < L.length by omega)
            have h1 := lb_lt hi
            (have fz := ga3 h0 h1 hlen; repeat' (first | simp (maxDischargeDepth := 8) only [go_sem, rr, reduceIte, reduceCtorEq, Nat.reduceEqDiff, Nat.reduceAdd, Nat.reduceMul, Nat.reduceSub, Nat.reduceBEq, Nat.reduceLeDiff, Int.reduceEq, Int.reduceLT, Int.reduceLE, Int.reduceGE, Int.reduceGT, Int.reduceBEq, Int.reduceBNe, Int.reduceToNat, Int.reduceNeg, Int.reduceSub, Int.reduceAdd, Int.reduceMul, fz] | (with_reducible refine qg9 ?_ ?_; focus (first | (simp (maxDischargeDepth := 8) only [bb, kk, fz]; done) | kernel_rfl)) | ((with_reducible first | refine qf7 ?_ ?_ | refine qf8 ?_ ?_ | refine qf9 ?_ ?_ | refine qg ?_ ?_ | refine qg0 ?_ ?_ | refine qg1 ?_ ?_ | refine qg2 ?_ ?_); focus (first | assumption | omega | (simp only [bz, fz]; omega))) | ((with_reducible first | refine qg3 ?_ ?_ | refine qg4 ?_ ?_ | refine qg5 ?_ ?_); focus (first | assumption | omega | (simp only [bz, fz]; omega))) | ((with_reducible first | refine g1_u8w ?_ ?_ | refine qg7 ?_ ?_); (focus ((repeat' (with_reducible apply And.intro)) <;> (first | assumption | omega | (simp only [bz, fz]; omega) | (simp (maxDischargeDepth := 8) only [bb, fz]; done)))); intro _)))
            refine hK _ ?_
            simp only [vv, ff, norm, Array.toList, List.map, Option.isSome_none, bne_self_eq_false, reduceIte, reduceCtorEq, Nat.reduceEqDiff, Nat.reduceAdd, Nat.reduceMul, Nat.reduceSub, Nat.reduceBEq, Nat.reduceLeDiff, Int.reduceEq, Int.reduceLT, Int.reduceLE, Int.reduceGE, Int.reduceGT, Int.reduceBEq, Int.reduceBNe, Int.reduceToNat, Int.reduceNeg, Int.reduceSub, Int.reduceAdd, Int.reduceMul, finish, qf0, resOf, resa, qf1, qf2, qf3, keep, qf4, qf5, qf6, qe9, qf, Int.natCast_add, cst1]
          · generalize hkk : lb L e.nm = k at hle hil hsn2
            have hdr : ((flat encE L).drop (k * 4)).take ((L.length - k) * 4) = flat encE (L.drop k) := by rw [flat_dr]; exact List.take_of_length_le (by rw [fE_len, List.length_drop]; exact Nat.le_refl _)
            have htk := flat_tk L k
            have od := anyOwn_encE (L.drop k)
            have ot := anyOwn_encE (L.take k)
            have ld : (flat encE (L.drop k)).length = (L.length - k) * 4 := by rw [fE_len, List.length_drop]
            have lt : (flat encE (L.take k)).length = k * 4 := by rw [fE_len, List.length_take, Nat.min_eq_left hle]
            have hfin : flat encE (L.take k) ++ vs e.nm :: vi e.v :: vi e.s :: vi e.r :: flat encE (L.drop k) = flat encE (insE L k e) := by rw [insE, flat_app, flat_app]; simp [flat, encE]
            have hck : ∀ X, capK X (1 + (L.length - k)) = none := fun X => capK_pos (by omega)
            have ha : k + (1 + (L.length - k)) = L.length + 1 := by omega
            have htk2 : (vs e.nm :: vi e.v :: vi e.s :: vi e.r :: flat encE (L.drop k)).take ((1 + (L.length - k)) * 4) = vs e.nm :: vi e.v :: vi e.s :: vi e.r :: flat encE (L.drop k) := List.take_of_length_le (by simp only [List.length_cons, ld]; omega)
            by_cases hkl : k < L.length
            · have h0 := fE_get0 L hkl
              have h1 : ltB (eA L k).nm e.nm = false := by rw [← hkk] at hkl ⊢; exact lb_at hkl
              (have fz := ga16 h0 h1 hlen hown hdr htk od ot ld lt hfin hck ha htk2 hsn2 hil; repeat' (first | simp (maxDischargeDepth := 8) only [go_sem, rr, reduceIte, reduceCtorEq, Nat.reduceEqDiff, Nat.reduceAdd, Nat.reduceMul, Nat.reduceSub, Nat.reduceBEq, Nat.reduceLeDiff, Int.reduceEq, Int.reduceLT, Int.reduceLE, Int.reduceGE, Int.reduceGT, Int.reduceBEq, Int.reduceBNe, Int.reduceToNat, Int.reduceNeg, Int.reduceSub, Int.reduceAdd, Int.reduceMul, fz, Nat.sub_zero] | (with_reducible refine qg9 ?_ ?_; focus (first | (simp (maxDischargeDepth := 8) only [bb, kk, fz, Nat.sub_zero]; done) | kernel_rfl)) | ((with_reducible first | refine qf7 ?_ ?_ | refine qf8 ?_ ?_ | refine qf9 ?_ ?_ | refine qg ?_ ?_ | refine qg0 ?_ ?_ | refine qg1 ?_ ?_ | refine qg2 ?_ ?_); focus (first | assumption | omega | (simp only [bz, fz, Nat.sub_zero]; omega))) | ((with_reducible first | refine qg3 ?_ ?_ | refine qg4 ?_ ?_ | refine qg5 ?_ ?_); focus (first | assumption | omega | (simp only [bz, fz, Nat.sub_zero]; omega))) | ((with_reducible first | refine g1_u8w ?_ ?_ | refine qg7 ?_ ?_); (focus ((repeat' (with_reducible apply And.intro)) <;> (first | assumption | omega | (simp only [bz, fz, Nat.sub_zero]; omega) | (simp (maxDischargeDepth := 8) only [bb, fz, Nat.sub_zero]; done)))); intro _)))
            · (have fz := ga14 hlen hown hdr htk od ot ld lt hfin hck ha htk2 hsn2 hil; repeat' (first | simp (maxDischargeDepth := 8) only [go_sem, rr, reduceIte, reduceCtorEq, Nat.reduceEqDiff, Nat.reduceAdd, Nat.reduceMul, Nat.reduceSub, Nat.reduceBEq, Nat.reduceLeDiff, Int.reduceEq, Int.reduceLT, Int.reduceLE, Int.reduceGE, Int.reduceGT, Int.reduceBEq, Int.reduceBNe, Int.reduceToNat, Int.reduceNeg, Int.reduceSub, Int.reduceAdd, Int.reduceMul, fz, Nat.sub_zero] | (with_reducible refine qg9 ?_ ?_; focus (first | (simp (maxDischargeDepth := 8) only [bb, kk, fz, Nat.sub_zero]; done) | kernel_rfl)) | ((with_reducible first | refine qf7 ?_ ?_ | refine qf8 ?_ ?_ | refine qf9 ?_ ?_ | refine qg ?_ ?_ | refine qg0 ?_ ?_ | refine qg1 ?_ ?_ | refine qg2 ?_ ?_); focus (first | assumption | omega | (simp only [bz, fz, Nat.sub_zero]; omega))) | ((with_reducible first | refine qg3 ?_ ?_ | refine qg4 ?_ ?_ | refine qg5 ?_ ?_); focus (first | assumption | omega | (simp only [bz, fz, Nat.sub_zero]; omega))) | ((with_reducible first | refine g1_u8w ?_ ?_ | refine qg7 ?_ ?_); (focus ((repeat' (with_reducible apply And.intro)) <;> (first | assumption | omega | (simp only [bz, fz, Nat.sub_zero]; omega) | (simp (maxDischargeDepth := 8) only [bb, fz, Nat.sub_zero]; done)))); intro _)))
end Go.Proofs.YtgdldmfkgijkaaaDoor.VH.S
end

section
namespace Go.Proofs.YtgdldmfkgijkaaaDoor.VH.S
open Go.Proofs
set_option maxRecDepth 100000
set_option maxHeartbeats 8000000
set_option linter.unusedSimpArgs false

/- Joining rows of bytes. -/
theorem g90 (d n : Nat) (h0 : 0 < n) (hl : n ≤ 549755813880) : evFun E (d+1) 90 [.val (.slice none 0 0), vi n] [] = some (.ref 0 [] 1 0 0 none, [some (List.replicate n (iv .u8 0))]) := by
  refine evFun_body b90 ?_
  have hz2 := noSnapL_iv .u8 (List.replicate n 0)
  rw [List.map_replicate] at hz2
  (repeat' (first | simp (maxDischargeDepth := 8) only [go_sem, rr, reduceIte, reduceCtorEq, Nat.reduceEqDiff, Nat.reduceAdd, Nat.reduceMul, Nat.reduceSub, Nat.reduceBEq, Nat.reduceLeDiff, Int.reduceEq, Int.reduceLT, Int.reduceLE, Int.reduceGE, Int.reduceGT, Int.reduceBEq, Int.reduceBNe, Int.reduceToNat, Int.reduceNeg, Int.reduceSub, Int.reduceAdd, Int.reduceMul, zeros_one, hz2, Nat.sub_zero, Tryd.f90] | (with_reducible refine qg9 ?_ ?_; focus (first | (simp (maxDischargeDepth := 8) only [bb, kk, zeros_one, hz2, Nat.sub_zero]; done) | kernel_rfl)) | ((with_reducible first | refine qf7 ?_ ?_ | refine qf8 ?_ ?_ | refine qf9 ?_ ?_ | refine qg ?_ ?_ | refine qg0 ?_ ?_ | refine qg1 ?_ ?_ | refine qg2 ?_ ?_); focus (first | assumption | omega | (simp only [bz, zeros_one, hz2, Nat.sub_zero]; omega))) | ((with_reducible first | refine qg3 ?_ ?_ | refine qg4 ?_ ?_ | refine qg5 ?_ ?_); focus (first | assumption | omega | (simp only [bz, zeros_one, hz2, Nat.sub_zero]; omega))) | ((with_reducible first | refine g1_u8w ?_ ?_ | refine qg7 ?_ ?_); (focus ((repeat' (with_reducible apply And.intro)) <;> (first | assumption | omega | (simp only [bz, zeros_one, hz2, Nat.sub_zero]; omega) | (simp (maxDischargeDepth := 8) only [bb, zeros_one, hz2, Nat.sub_zero]; done)))); intro _)))
abbrev Prt := Tg × Option Nat × List AV
def pC (p : Prt) : AV := .sl p.1 1 p.2.2.length p.2.1 p.2.2
def catP (P : List Prt) : List AV := (P.map fun p => p.2.2).flatten
def p0 : Prt := (.fgn, none, [])
def pA (P : List Prt) (i : Nat) : Prt := P.getD i p0
theorem pA_get {P : List Prt} {i : Nat} (h : i < P.length) : pA P i = P[i] := by
  rw [pA, List.getD_eq_getElem?_getD, List.getElem?_eq_getElem h]; rfl
theorem pC_get {P : List Prt} {i : Nat} (h : i < P.length) : g1 (P.map pC) i = some (.sl (pA P i).1 1 (pA P i).2.2.length (pA P i).2.1 (pA P i).2.2) := by
  rw [pA_get h]; simp [g1, h, pC]
theorem catP_succ {P : List Prt} {i : Nat} (h : i < P.length) : catP (P.take (i + 1)) = catP (P.take i) ++ (pA P i).2.2 := by
  rw [pA_get h, List.take_succ_eq_append_getElem h]; simp only [catP, List.map_append, List.map_cons, List.map_nil, List.flatten_append, List.flatten_cons, List.flatten_nil, List.append_nil]
theorem catP_len {P : List Prt} {i : Nat} (h : i < P.length) : (catP (P.take (i + 1))).length = (catP (P.take i)).length + (pA P i).2.2.length := by
  rw [catP_succ h, List.length_append]
theorem catP_le (P : List Prt) {i j : Nat} (h : i ≤ j) (hj : j ≤ P.length) : (catP (P.take i)).length ≤ (catP (P.take j)).length := by
  induction j with
  | zero => have : i = 0 := by omega
            subst this; exact Nat.le_refl _
  | succ j ih =>
    by_cases e : i = j + 1
    · subst e; exact Nat.le_refl _
    · rw [catP_len (by omega)]
      exact Nat.le_trans (ih (by omega) (by omega)) (Nat.le_add_right _ _)
theorem catP_nil : catP [] = [] := rfl
theorem catP_all (P : List Prt) : P.take P.length = P := List.take_of_length_le (Nat.le_refl _)
theorem isK_cat {P : List Prt} (hk : ∀ p ∈ P, isK .u8 p.2.2 = true) : isK .u8 (catP P) = true := by
  induction P with
  | nil => rfl
  | cons p P ih =>
    have : catP (p :: P) = p.2.2 ++ catP P := by simp [catP]
    rw [this, isK_app, hk p (by simp), ih fun q hq => hk q (by simp [hq])]; rfl
/-- a row with room -/
def roomy (cs : List AV) (N : Nat) : List AV := cs ++ List.replicate (N - cs.length) (iv .u8 0)
theorem roomy_len {cs : List AV} {N : Nat} (h : cs.length ≤ N) : (roomy cs N).length = N := by simp [roomy]; omega
theorem roomy_put {cs ds : List AV} {N : Nat} (h : cs.length + ds.length ≤ N) : setAt (roomy cs N) cs.length ds = roomy (cs ++ ds) N := by
  rw [setAt_put _ _ _ (by rw [roomy_len (by omega)]; exact h)]
  simp only [roomy, putL, List.length_append]
  rw [List.take_append_of_le_length (Nat.le_refl _), List.take_length, List.drop_append, List.drop_of_length_le (Nat.le_add_right _ _), List.nil_append, List.append_assoc]
  rw [List.drop_replicate, show N - cs.length - (cs.length + ds.length - cs.length) = N - (cs.length + ds.length) by omega]
  simp only [List.append_assoc]
theorem roomy_full (cs : List AV) : roomy cs cs.length = cs := by simp [roomy]
theorem roomy_nil (N : Nat) : roomy [] N = List.replicate N (iv .u8 0) := by simp [roomy]
theorem roomy_own {cs : List AV} (N : Nat) (h : isK .u8 cs = true) : (roomy cs N).any qb8 = false := by
  rw [roomy, List.any_append, isK_own h, isK_own (isK_repl .u8 _ 0)]; rfl
theorem g77 (d : Nat) (P : List Prt) (c : Option Nat) (hk : ∀ p ∈ P, isK .u8 p.2.2 = true) (h0 : 0 < (catP P).length) (hl : (catP P).length ≤ 549755813880) (hP : P.length ≤ 1000) : evFun E (d+2) 77 [.sl .snap 1 P.length c (P.map pC)] [] = some (.ref 0 [] 1 0 (catP P).length none, [some (catP P)]) := by
  refine evFun_body b77 ?_
  have hall := catP_all P
  (repeat' (first | simp (maxDischargeDepth := 8) only [go_sem, rr, reduceIte, reduceCtorEq, Nat.reduceEqDiff, Nat.reduceAdd, Nat.reduceMul, Nat.reduceSub, Nat.reduceBEq, Nat.reduceLeDiff, Int.reduceEq, Int.reduceLT, Int.reduceLE, Int.reduceGE, Int.reduceGT, Int.reduceBEq, Int.reduceBNe, Int.reduceToNat, Int.reduceNeg, Int.reduceSub, Int.reduceAdd, Int.reduceMul, Tryd.f77] | (with_reducible refine qg9 ?_ ?_; focus (first | (simp (maxDischargeDepth := 8) only [bb, kk]; done) | kernel_rfl)) | ((with_reducible first | refine qf7 ?_ ?_ | refine qf8 ?_ ?_ | refine qf9 ?_ ?_ | refine qg ?_ ?_ | refine qg0 ?_ ?_ | refine qg1 ?_ ?_ | refine qg2 ?_ ?_); focus (first | assumption | omega | (simp only [bz]; omega))) | ((with_reducible first | refine qg3 ?_ ?_ | refine qg4 ?_ ?_ | refine qg5 ?_ ?_); focus (first | assumption | omega | (simp only [bz]; omega))) | ((with_reducible first | refine g1_u8w ?_ ?_ | refine qg7 ?_ ?_); (focus ((repeat' (with_reducible apply And.intro)) <;> (first | assumption | omega | (simp only [bz]; omega) | (simp (maxDischargeDepth := 8) only [bb]; done)))); intro _)))
  refine loop_go (fun i => {T := tp [(0, .sl .snap 1 P.length c (P.map pC)), (3, vi (catP (P.take i)).length), (9, .sl .snap 1 P.length c (P.map pC)), (10, vi P.length), (11, vi i)], H := hp [], nx := 0}) P.length ?_ (lt_LF (by omega)) (fun i hi Kn hK => ?_) (fun Kn => ?_)
  · simp only [vv, ff, norm, Array.toList, List.map, Option.isSome_none, bne_self_eq_false, reduceIte, reduceCtorEq, Nat.reduceEqDiff, Nat.reduceAdd, Nat.reduceMul, Nat.reduceSub, Nat.reduceBEq, Nat.reduceLeDiff, Int.reduceEq, Int.reduceLT, Int.reduceLE, Int.reduceGE, Int.reduceGT, Int.reduceBEq, Int.reduceBNe, Int.reduceToNat, Int.reduceNeg, Int.reduceSub, Int.reduceAdd, Int.reduceMul, finish, qf0, resOf, resa, qf1, qf2, qf3, keep, qf4, qf5, qf6, qe9, qf, Int.natCast_zero, List.take_zero, catP_nil, List.length_nil]
  · have hg := pC_get hi
    have hs := catP_len hi
    have hle := catP_le P (show i + 1 ≤ P.length by omega) (Nat.le_refl _)
    rw [hall, hs] at hle
    (repeat' (first | simp (maxDischargeDepth := 8) only [go_sem, rr, reduceIte, reduceCtorEq, Nat.reduceEqDiff, Nat.reduceAdd, Nat.reduceMul, Nat.reduceSub, Nat.reduceBEq, Nat.reduceLeDiff, Int.reduceEq, Int.reduceLT, Int.reduceLE, Int.reduceGE, Int.reduceGT, Int.reduceBEq, Int.reduceBNe, Int.reduceToNat, Int.reduceNeg, Int.reduceSub, Int.reduceAdd, Int.reduceMul, hg] | (with_reducible refine qg9 ?_ ?_; focus (first | (simp (maxDischargeDepth := 8) only [bb, kk, hg]; done) | kernel_rfl)) | ((with_reducible first | refine qf7 ?_ ?_ | refine qf8 ?_ ?_ | refine qf9 ?_ ?_ | refine qg ?_ ?_ | refine qg0 ?_ ?_ | refine qg1 ?_ ?_ | refine qg2 ?_ ?_); focus (first | assumption | omega | (simp only [bz, hg]; omega))) | ((with_reducible first | refine qg3 ?_ ?_ | refine qg4 ?_ ?_ | refine qg5 ?_ ?_); focus (first | assumption | omega | (simp only [bz, hg]; omega))) | ((with_reducible first | refine g1_u8w ?_ ?_ | refine qg7 ?_ ?_); (focus ((repeat' (with_reducible apply And.intro)) <;> (first | assumption | omega | (simp only [bz, hg]; omega) | (simp (maxDischargeDepth := 8) only [bb, hg]; done)))); intro _)))
    refine hK _ ?_
    simp only [vv, ff, norm, Array.toList, List.map, Option.isSome_none, bne_self_eq_false, reduceIte, reduceCtorEq, Nat.reduceEqDiff, Nat.reduceAdd, Nat.reduceMul, Nat.reduceSub, Nat.reduceBEq, Nat.reduceLeDiff, Int.reduceEq, Int.reduceLT, Int.reduceLE, Int.reduceGE, Int.reduceGT, Int.reduceBEq, Int.reduceBNe, Int.reduceToNat, Int.reduceNeg, Int.reduceSub, Int.reduceAdd, Int.reduceMul, finish, qf0, resOf, resa, qf1, qf2, qf3, keep, qf4, qf5, qf6, qe9, qf, Int.natCast_add, cst1, hs]
  · (repeat' (first | simp (maxDischargeDepth := 8) only [go_sem, rr, reduceIte, reduceCtorEq, Nat.reduceEqDiff, Nat.reduceAdd, Nat.reduceMul, Nat.reduceSub, Nat.reduceBEq, Nat.reduceLeDiff, Int.reduceEq, Int.reduceLT, Int.reduceLE, Int.reduceGE, Int.reduceGT, Int.reduceBEq, Int.reduceBNe, Int.reduceToNat, Int.reduceNeg, Int.reduceSub, Int.reduceAdd, Int.reduceMul, hall] | (with_reducible refine qg9 ?_ ?_; focus (first | (simp (maxDischargeDepth := 8) only [bb, kk, hall]; done) | kernel_rfl)) | ((with_reducible first | refine qf7 ?_ ?_ | refine qf8 ?_ ?_ | refine qf9 ?_ ?_ | refine qg ?_ ?_ | refine qg0 ?_ ?_ | refine qg1 ?_ ?_ | refine qg2 ?_ ?_); focus (first | assumption | omega | (simp only [bz, hall]; omega))) | ((with_reducible first | refine qg3 ?_ ?_ | refine qg4 ?_ ?_ | refine qg5 ?_ ?_); focus (first | assumption | omega | (simp only [bz, hall]; omega))) | ((with_reducible first | refine g1_u8w ?_ ?_ | refine qg7 ?_ ?_); (focus ((repeat' (with_reducible apply And.intro)) <;> (first | assumption | omega | (simp only [bz, hall]; omega) | (simp (maxDischargeDepth := 8) only [bb, hall]; done)))); intro _) | (with_reducible apply call_elim; focus ((with_reducible first | apply g90) <;> (first | assumption | omega | (simp only [bz, hall]; omega) | (simp (maxDischargeDepth := 8) only [bb, hall]; done))))))
    refine loop_go (fun i => {T := tp [(6, .ref 0 [] 1 0 (catP (P.take i)).length none), (25, .sl .snap 1 P.length c (P.map pC)), (26, vi P.length), (27, vi i)], H := hp [some (roomy (catP (P.take i)) (catP P).length)], nx := 1}) P.length ?_ (lt_LF (by omega)) (fun i hi Kn hK => ?_) (fun Kn => ?_)
    · simp only [vv, ff, norm, Array.toList, List.map, Option.isSome_none, bne_self_eq_false, reduceIte, reduceCtorEq, Nat.reduceEqDiff, Nat.reduceAdd, Nat.reduceMul, Nat.reduceSub, Nat.reduceBEq, Nat.reduceLeDiff, Int.reduceEq, Int.reduceLT, Int.reduceLE, Int.reduceGE, Int.reduceGT, Int.reduceBEq, Int.reduceBNe, Int.reduceToNat, Int.reduceNeg, Int.reduceSub, Int.reduceAdd, Int.reduceMul, finish, qf0, resOf, resa, qf1, qf2, qf3, keep, qf4, qf5, qf6, qe9, qf, Int.natCast_zero, List.take_zero, catP_nil, List.length_nil, roomy_nil]
    · have hg := pC_get hi
      have hs := catP_len hi
      have hc := catP_succ hi
      have hle := catP_le P (show i + 1 ≤ P.length by omega) (Nat.le_refl _)
      rw [hall, hs] at hle
      have hkp : isK .u8 (pA P i).2.2 = true := by rw [pA_get hi]; exact hk _ (List.getElem_mem _)
      have hkc : isK .u8 (catP (P.take i)) = true := isK_cat fun p hp' => hk p (List.mem_of_mem_take hp')
      have hro := roomy_own (catP P).length hkc
      have hrl := roomy_len (cs := catP (P.take i)) (N := (catP P).length) (by omega)
      have hput := roomy_put (cs := catP (P.take i)) (ds := (pA P i).2.2) (N := (catP P).length) hle
      by_cases hm : (pA P i).2.2.length = 0
      · have he : (pA P i).2.2 = [] := List.eq_nil_of_length_eq_zero hm
        rw [he, List.append_nil] at hc
        rw [hm, Nat.add_zero] at hs
        by_cases hf : (catP (P.take i)).length = (catP P).length
        · (have fz := ga5 hg hrl hro he hf; repeat' (first | simp (maxDischargeDepth := 8) only [go_sem, rr, reduceIte, reduceCtorEq, Nat.reduceEqDiff, Nat.reduceAdd, Nat.reduceMul, Nat.reduceSub, Nat.reduceBEq, Nat.reduceLeDiff, Int.reduceEq, Int.reduceLT, Int.reduceLE, Int.reduceGE, Int.reduceGT, Int.reduceBEq, Int.reduceBNe, Int.reduceToNat, Int.reduceNeg, Int.reduceSub, Int.reduceAdd, Int.reduceMul, fz] | (with_reducible refine qg9 ?_ ?_; focus (first | (simp (maxDischargeDepth := 8) only [bb, kk, fz]; done) | kernel_rfl)) | ((with_reducible first | refine qf7 ?_ ?_ | refine qf8 ?_ ?_ | refine qf9 ?_ ?_ | refine qg ?_ ?_ | refine qg0 ?_ ?_ | refine qg1 ?_ ?_ | refine qg2 ?_ ?_); focus (first | assumption | omega | (simp only [bz, fz]; omega))) | ((with_reducible first | refine qg3 ?_ ?_ | refine qg4 ?_ ?_ | refine qg5 ?_ ?_); focus (first | assumption | omega | (simp only [bz, fz]; omega))) | ((with_reducible first | refine g1_u8w ?_ ?_ | refine qg7 ?_ ?_); (focus ((repeat' (with_reducible apply And.intro)) <;> (first | assumption | omega | (simp only [bz, fz]; omega) | (simp (maxDischargeDepth := 8) only [bb, fz]; done)))); intro _)))
          refine hK _ ?_
          simp only [vv, ff, norm, Array.toList, List.map, Option.isSome_none, bne_self_eq_false, reduceIte, reduceCtorEq, Nat.reduceEqDiff, Nat.reduceAdd, Nat.reduceMul, Nat.reduceSub, Nat.reduceBEq, Nat.reduceLeDiff, Int.reduceEq, Int.reduceLT, Int.reduceLE, Int.reduceGE, Int.reduceGT, Int.reduceBEq, Int.reduceBNe, Int.reduceToNat, Int.reduceNeg, Int.reduceSub, Int.reduceAdd, Int.reduceMul, finish, qf0, resOf, resa, qf1, qf2, qf3, keep, qf4, qf5, qf6, qe9, qf, Int.natCast_add, cst1, hs, hc, hf]
        · (have fz := ga4 hg hrl hro he; repeat' (first | simp (maxDischargeDepth := 8) only [go_sem, rr, reduceIte, reduceCtorEq, Nat.reduceEqDiff, Nat.reduceAdd, Nat.reduceMul, Nat.reduceSub, Nat.reduceBEq, Nat.reduceLeDiff, Int.reduceEq, Int.reduceLT, Int.reduceLE, Int.reduceGE, Int.reduceGT, Int.reduceBEq, Int.reduceBNe, Int.reduceToNat, Int.reduceNeg, Int.reduceSub, Int.reduceAdd, Int.reduceMul, fz] | (with_reducible refine qg9 ?_ ?_; focus (first | (simp (maxDischargeDepth := 8) only [bb, kk, fz]; done) | kernel_rfl)) | ((with_reducible first | refine qf7 ?_ ?_ | refine qf8 ?_ ?_ | refine qf9 ?_ ?_ | refine qg ?_ ?_ | refine qg0 ?_ ?_ | refine qg1 ?_ ?_ | refine qg2 ?_ ?_); focus (first | assumption | omega | (simp only [bz, fz]; omega))) | ((with_reducible first | refine qg3 ?_ ?_ | refine qg4 ?_ ?_ | refine qg5 ?_ ?_); focus (first | assumption | omega | (simp only [bz, fz]; omega))) | ((with_reducible first | refine g1_u8w ?_ ?_ | refine qg7 ?_ ?_); (focus ((repeat' (with_reducible apply And.intro)) <;> (first | assumption | omega | (simp only [bz, fz]; omega) | (simp (maxDischargeDepth := 8) only [bb, fz]; done)))); intro _)))
          refine hK _ ?_
          simp only [vv, ff, norm, Array.toList, List.map, Option.isSome_none, bne_self_eq_false, reduceIte, reduceCtorEq, Nat.reduceEqDiff, Nat.reduceAdd, Nat.reduceMul, Nat.reduceSub, Nat.reduceBEq, Nat.reduceLeDiff, Int.reduceEq, Int.reduceLT, Int.reduceLE, Int.reduceGE, Int.reduceGT, Int.reduceBEq, Int.reduceBNe, Int.reduceToNat, Int.reduceNeg, Int.reduceSub, Int.reduceAdd, Int.reduceMul, finish, qf0, resOf, resa, qf1, qf2, qf3, keep, qf4, qf5, qf6, qe9, qf, Int.natCast_add, cst1, hs, hc]
      · (have fz := ga5 hg hrl hro hkp hput; repeat' (first | simp (maxDischargeDepth := 8) only [go_sem, rr, reduceIte, reduceCtorEq, Nat.reduceEqDiff, Nat.reduceAdd, Nat.reduceMul, Nat.reduceSub, Nat.reduceBEq, Nat.reduceLeDiff, Int.reduceEq, Int.reduceLT, Int.reduceLE, Int.reduceGE, Int.reduceGT, Int.reduceBEq, Int.reduceBNe, Int.reduceToNat, Int.reduceNeg, Int.reduceSub, Int.reduceAdd, Int.reduceMul, fz] | (with_reducible refine qg9 ?_ ?_; focus (first | (simp (maxDischargeDepth := 8) only [bb, kk, fz]; done) | kernel_rfl)) | ((with_reducible first | refine qf7 ?_ ?_ | refine qf8 ?_ ?_ | refine qf9 ?_ ?_ | refine qg ?_ ?_ | refine qg0 ?_ ?_ | refine qg1 ?_ ?_ | refine qg2 ?_ ?_); focus (first | assumption | omega | (simp only [bz, fz]; omega))) | ((with_reducible first | refine qg3 ?_ ?_ | refine qg4 ?_ ?_ | refine qg5 ?_ ?_); focus (first | assumption | omega | (simp only [bz, fz]; omega))) | ((with_reducible first | refine g1_u8w ?_ ?_ | refine qg7 ?_ ?_); (focus ((repeat' (with_reducible apply And.intro)) <;> (first | assumption | omega | (simp only [bz, fz]; omega) | (simp (maxDischargeDepth := 8) only [bb, fz]; done)))); intro _)))
        refine hK _ ?_
        simp only [vv, ff, norm, Array.toList, List.map, Option.isSome_none, bne_self_eq_false, reduceIte, reduceCtorEq, Nat.reduceEqDiff, Nat.reduceAdd, Nat.reduceMul, Nat.reduceSub, Nat.reduceBEq, Nat.reduceLeDiff, Int.reduceEq, Int.reduceLT, Int.reduceLE, Int.reduceGE, Int.reduceGT, Int.reduceBEq, Int.reduceBNe, Int.reduceToNat, Int.reduceNeg, Int.reduceSub, Int.reduceAdd, Int.reduceMul, finish, qf0, resOf, resa, qf1, qf2, qf3, keep, qf4, qf5, qf6, qe9, qf, Int.natCast_add, cst1, hs, hc, List.length_append]
    · have hfu := roomy_full (catP P)
      have hsn := isK_snap (isK_cat hk)
      (have fz := ga3 hall hfu hsn; repeat' (first | simp (maxDischargeDepth := 8) only [go_sem, rr, reduceIte, reduceCtorEq, Nat.reduceEqDiff, Nat.reduceAdd, Nat.reduceMul, Nat.reduceSub, Nat.reduceBEq, Nat.reduceLeDiff, Int.reduceEq, Int.reduceLT, Int.reduceLE, Int.reduceGE, Int.reduceGT, Int.reduceBEq, Int.reduceBNe, Int.reduceToNat, Int.reduceNeg, Int.reduceSub, Int.reduceAdd, Int.reduceMul, fz] | (with_reducible refine qg9 ?_ ?_; focus (first | (simp (maxDischargeDepth := 8) only [bb, kk, fz]; done) | kernel_rfl)) | ((with_reducible first | refine qf7 ?_ ?_ | refine qf8 ?_ ?_ | refine qf9 ?_ ?_ | refine qg ?_ ?_ | refine qg0 ?_ ?_ | refine qg1 ?_ ?_ | refine qg2 ?_ ?_); focus (first | assumption | omega | (simp only [bz, fz]; omega))) | ((with_reducible first | refine qg3 ?_ ?_ | refine qg4 ?_ ?_ | refine qg5 ?_ ?_); focus (first | assumption | omega | (simp only [bz, fz]; omega))) | ((with_reducible first | refine g1_u8w ?_ ?_ | refine qg7 ?_ ?_); (focus ((repeat' (with_reducible apply And.intro)) <;> (first | assumption | omega | (simp only [bz, fz]; omega) | (simp (maxDischargeDepth := 8) only [bb, fz]; done)))); intro _)))
theorem c477 (d : Nat) (c : Option Nat) (t1 t2 t3 t4 : Tg) (n1 n2 n3 n4 : Nat) (c1 c2 c3 c4 : Option Nat) (x1 x2 x3 x4 : List AV) (e1 : x1.length = n1) (e2 : x2.length = n2) (e3 : x3.length = n3) (e4 : x4.length = n4) (k1 : isK .u8 x1 = true) (k2 : isK .u8 x2 = true) (k3 : isK .u8 x3 = true) (k4 : isK .u8 x4 = true) (h0 : 0 < n1) (hl : n1 + n2 + n3 + n4 ≤ 549755813880) : evFun E (d+2) 77 [.sl .snap 1 4 c [.sl t1 1 n1 c1 x1, .sl t2 1 n2 c2 x2, .sl t3 1 n3 c3 x3, .sl t4 1 n4 c4 x4]] [] = some (.ref 0 [] 1 0 (n1 + n2 + n3 + n4) none, [some (x1 ++ x2 ++ x3 ++ x4)]) := by
  subst e1; subst e2; subst e3; subst e4
  have he : catP [(t1, c1, x1), (t2, c2, x2), (t3, c3, x3), (t4, c4, x4)] = x1 ++ x2 ++ x3 ++ x4 := by simp [catP]
  have := g77 d [(t1, c1, x1), (t2, c2, x2), (t3, c3, x3), (t4, c4, x4)] c (by simp [k1, k2, k3, k4]) (by rw [he]; simp; omega) (by rw [he]; simp; omega) (by simp)
  rw [he] at this
  simpa [pC, Nat.add_assoc] using this
theorem c677 (d : Nat) (c : Option Nat) (t1 t2 t3 t4 t5 t6 : Tg) (n1 n2 n3 n4 n5 n6 : Nat) (c1 c2 c3 c4 c5 c6 : Option Nat) (x1 x2 x3 x4 x5 x6 : List AV) (e1 : x1.length = n1) (e2 : x2.length = n2) (e3 : x3.length = n3) (e4 : x4.length = n4) (e5 : x5.length = n5) (e6 : x6.length = n6) (k1 : isK .u8 x1 = true) (k2 : isK .u8 x2 = true) (k3 : isK .u8 x3 = true) (k4 : isK .u8 x4 = true) (k5 : isK .u8 x5 = true) (k6 : isK .u8 x6 = true) (h0 : 0 < n1) (hl : n1 + n2 + n3 + n4 + n5 + n6 ≤ 549755813880) : evFun E (d+2) 77 [.sl .snap 1 6 c [.sl t1 1 n1 c1 x1, .sl t2 1 n2 c2 x2, .sl t3 1 n3 c3 x3, .sl t4 1 n4 c4 x4, .sl t5 1 n5 c5 x5, .sl t6 1 n6 c6 x6]] [] = some (.ref 0 [] 1 0 (n1 + n2 + n3 + n4 + n5 + n6) none, [some (x1 ++ x2 ++ x3 ++ x4 ++ x5 ++ x6)]) := by
  subst e1; subst e2; subst e3; subst e4; subst e5; subst e6
  have he : catP [(t1, c1, x1), (t2, c2, x2), (t3, c3, x3), (t4, c4, x4), (t5, c5, x5), (t6, c6, x6)] = x1 ++ x2 ++ x3 ++ x4 ++ x5 ++ x6 := by simp [catP]
  have := g77 d [(t1, c1, x1), (t2, c2, x2), (t3, c3, x3), (t4, c4, x4), (t5, c5, x5), (t6, c6, x6)] c (by simp [k1, k2, k3, k4, k5, k6]) (by rw [he]; simp; omega) (by rw [he]; simp; omega) (by simp)
  rw [he] at this
  simpa [pC, Nat.add_assoc] using this
theorem isK_u8 : ∀ l : List UInt8, isK .u8 (l.map VH.u8) = true
  | [] => rfl
  | b :: l => by rw [List.map_cons, VH.u8, isK_int]; exact isK_u8 l
theorem nameOK_len {nm : List UInt8} (h : (nm == [] || nameOK nm) = true) : nm.length ≤ 8 := by
  rw [Bool.or_eq_true] at h
  rcases h with h | h
  · rw [beq_iff_eq] at h; subst h; simp
  · simp only [nameOK, Bool.and_eq_true, decide_eq_true_eq] at h; exact h.1.2
/-- the bytes of an ask -/
def askB (k : Int) (nm : List UInt8) (v : Int) (cs : List AV) : List AV := [iv .u8 k, iv .u8 nm.length] ++ nm.map VH.u8 ++ (eightL v).map (iv .u8) ++ cs
theorem askOk_parts {k v : Int} {nm : List UInt8} {n : Nat} (h : askOk k nm v n = true) : (1 ≤ k ∧ k ≤ 4) ∧ nm.length ≤ 8 ∧ (0 ≤ v ∧ v ≤ 1000000) ∧ n ≤ 540 := by
  simp only [askOk, Bool.and_eq_true, decide_eq_true_eq] at h
  obtain ⟨⟨⟨h1, h2⟩, h3⟩, h4⟩ := h
  refine ⟨h1, nameOK_len h2, h3, ?_⟩
  split at h4
  · simp only [Bool.and_eq_true, decide_eq_true_eq] at h4; exact h4.2
  · simp only [decide_eq_true_eq] at h4; omega
theorem eight8 (x : Int) : ((eightL x).map (iv .u8)).length = 8 := by simp [eightL]
theorem isK_askB {k v : Int} {nm : List UInt8} {cs : List AV} (hk : isK .u8 cs = true) : isK .u8 (askB k nm v cs) = true := by
  simp only [askB, isK_app, isK_u8, isK_map, hk, isK_int, isK_nil, Bool.and_true, Bool.and_self]
theorem e8 (d : Nat) (k v : Int) (nm : List UInt8) (n : Nat) (c : Option Nat) (cs : List AV) (hl : nm.length ≤ 549755813888) (hk : isK .u8 cs = true) (hn : cs.length = n) (hok : askOk k nm v n = true) : evFun E (d+7) 8 [.agg [vi k, vs nm, vi v, .sl .snap 1 n c cs]] [] = some (.tup [.ref 0 [] 1 0 (2 + nm.length + 8 + n) none, vb true], [some (askB k nm v cs)]) := by
  obtain ⟨h1, h2, h3, h4⟩ := askOk_parts hok
  have hp : evFun E (d+6) 35 [.agg [vi k, vs nm, vi v, .sl .snap 1 n c cs]] [] = some (.ref 0 [] 1 0 (2 + nm.length + 8 + n) none, [some (askB k nm v cs)]) := by
    refine evFun_body b35 ?_
    have hu := isK_u8 nm
    have h8 := isK_map .u8 (eightL v)
    have hl8 := eight8 v
    have hul : (nm.map VH.u8).length = nm.length := by simp
    have x1 : [AV.val (.int .u8 k), AV.val (.int .u8 nm.length)].length = 2 := rfl
    have x2 : isK .u8 [AV.val (.int .u8 k), AV.val (.int .u8 nm.length)] = true := rfl
    (have fz := ga6 hk hn hu h8 hl8 hul; repeat' (first | simp (maxDischargeDepth := 8) only [go_sem, rr, reduceIte, reduceCtorEq, Nat.reduceEqDiff, Nat.reduceAdd, Nat.reduceMul, Nat.reduceSub, Nat.reduceBEq, Nat.reduceLeDiff, Int.reduceEq, Int.reduceLT, Int.reduceLE, Int.reduceGE, Int.reduceGT, Int.reduceBEq, Int.reduceBNe, Int.reduceToNat, Int.reduceNeg, Int.reduceSub, Int.reduceAdd, Int.reduceMul, fz, askB, Tryd.f35] | (with_reducible refine qg9 ?_ ?_; focus (first | (simp (maxDischargeDepth := 8) only [bb, kk, fz, askB]; done) | kernel_rfl)) | ((with_reducible first | refine qf7 ?_ ?_ | refine qf8 ?_ ?_ | refine qf9 ?_ ?_ | refine qg ?_ ?_ | refine qg0 ?_ ?_ | refine qg1 ?_ ?_ | refine qg2 ?_ ?_); focus (first | assumption | omega | (simp only [bz, fz, askB]; omega))) | ((with_reducible first | refine qg3 ?_ ?_ | refine qg4 ?_ ?_ | refine qg5 ?_ ?_); focus (first | assumption | omega | (simp only [bz, fz, askB]; omega))) | ((with_reducible first | refine g1_u8w ?_ ?_ | refine qg7 ?_ ?_); (focus ((repeat' (with_reducible apply And.intro)) <;> (first | assumption | omega | (simp only [bz, fz, askB]; omega) | (simp (maxDischargeDepth := 8) only [bb, fz, askB]; done)))); intro _) | (with_reducible apply call_elim; focus ((with_reducible first | apply e78 | apply c477) <;> (first | assumption | omega | (simp only [bz, fz, askB]; omega) | (simp (maxDischargeDepth := 8) only [bb, fz, askB]; done))))))
  refine evFun_body b8 ?_
  have hs := isK_snap (isK_askB (k := k) (v := v) (nm := nm) hk)
  (have fz := ga2 hok hs; repeat' (first | simp (maxDischargeDepth := 8) only [go_sem, rr, reduceIte, reduceCtorEq, Nat.reduceEqDiff, Nat.reduceAdd, Nat.reduceMul, Nat.reduceSub, Nat.reduceBEq, Nat.reduceLeDiff, Int.reduceEq, Int.reduceLT, Int.reduceLE, Int.reduceGE, Int.reduceGT, Int.reduceBEq, Int.reduceBNe, Int.reduceToNat, Int.reduceNeg, Int.reduceSub, Int.reduceAdd, Int.reduceMul, fz, hp, Tryd.f8] | (with_reducible refine qg9 ?_ ?_; focus (first | (simp (maxDischargeDepth := 8) only [bb, kk, fz, hp]; done) | kernel_rfl)) | ((with_reducible first | refine qf7 ?_ ?_ | refine qf8 ?_ ?_ | refine qf9 ?_ ?_ | refine qg ?_ ?_ | refine qg0 ?_ ?_ | refine qg1 ?_ ?_ | refine qg2 ?_ ?_); focus (first | assumption | omega | (simp only [bz, fz, hp]; omega))) | ((with_reducible first | refine qg3 ?_ ?_ | refine qg4 ?_ ?_ | refine qg5 ?_ ?_); focus (first | assumption | omega | (simp only [bz, fz, hp]; omega))) | ((with_reducible first | refine g1_u8w ?_ ?_ | refine qg7 ?_ ?_); (focus ((repeat' (with_reducible apply And.intro)) <;> (first | assumption | omega | (simp only [bz, fz, hp]; omega) | (simp (maxDischargeDepth := 8) only [bb, fz, hp]; done)))); intro _) | (with_reducible apply call_elim; focus ((with_reducible first | apply e11) <;> (first | assumption | omega | (simp only [bz, fz, hp]; omega) | (simp (maxDischargeDepth := 8) only [bb, fz, hp]; done))))))
end Go.Proofs.YtgdldmfkgijkaaaDoor.VH.S
end

section
namespace Go.Proofs.YtgdldmfkgijkaaaDoor.VH.S
open Go.Proofs
set_option maxRecDepth 100000
set_option maxHeartbeats 8000000
set_option linter.unusedSimpArgs false

/- The bytes of a catalog. -/
def h3 (x : Int) : List Int := [w8 (shrI x 16), w8 (shrI x 8), w8 x]
theorem e87t (d : Nat) (x : Int) : evFun E (d+1) 87 [vi x, vi 3] [] = some (.ref 0 [] 1 0 3 (some 3), [some ((h3 x).map (iv .u8))]) := by
  refine evFun_body b87 ?_
  simp only [vv, cc, ff, uu, norm, qa, qa0, clash, meets, execOp, evBox, opnd, qa1, bin, convHM, qa2, qa3, qa4, qa5, qa6, qa7, zOK, qa8, qa9, borL, isSl, qb, qb0, qb1, qb2, qb3, qb4, cellsOf, TD.agg, qb5, qb6, qb7, qb8, qb9, qc, qc0, qc1, setAt, qc2, qc3, qc4, getR, qc5, qc6, qc7, qc8, qc9, Array.toList, List.map, Option.isSome_none, bne_self_eq_false, reduceIte, reduceCtorEq, Nat.reduceEqDiff, Nat.reduceAdd, Nat.reduceMul, Nat.reduceSub, Nat.reduceBEq, Nat.reduceLeDiff, Int.reduceEq, Int.reduceLT, Int.reduceLE, Int.reduceGE, Int.reduceGT, Int.reduceBEq, Int.reduceBNe, Int.reduceToNat, Int.reduceNeg, Int.reduceSub, Int.reduceAdd, Int.reduceMul, qd, qd0, qd1, qd2, qd3, qd4, qd5, qd6, qd7, qd8, qd9, qe, qe0, qe1, qe2, qe3, qe4, qe5, qe6, qe7, qe8, qe9, qf, finish, qf0, resOf, resa, qf1, qf2, qf3, keep, qf4, qf5, qf6, rr, Tryd.f87]
  simp only [h3, List.map_cons, List.map_nil, shr_shr, Int.reduceAdd, Int.reduceLE]
def entB (e : Ent) : List AV := [iv .u8 e.nm.length] ++ e.nm.map VH.u8 ++ (h3 e.v).map (iv .u8) ++ [iv .u8 e.s] ++ (eightL e.r).map (iv .u8)
def cbL (L : List Ent) (i : Nat) : List AV := [iv .u8 L.length] ++ (L.take i).flatMap entB
theorem cbL_zero (L : List Ent) : cbL L 0 = [iv .u8 L.length] := rfl
theorem cbL_succ {L : List Ent} {i : Nat} (h : i < L.length) : cbL L (i + 1) = cbL L i ++ [iv .u8 (eA L i).nm.length] ++ (eA L i).nm.map VH.u8 ++ (h3 (eA L i).v).map (iv .u8) ++ [iv .u8 (eA L i).s] ++ (eightL (eA L i).r).map (iv .u8) := by
  rw [cbL, cbL, List.take_succ_eq_append_getElem h, List.flatMap_append, eA_get h]
  simp only [List.flatMap_cons, List.flatMap_nil, List.append_nil, entB, List.append_assoc]
theorem cbL_len {L : List Ent} {i : Nat} (h : i < L.length) : (cbL L (i + 1)).length = (cbL L i).length + 1 + (eA L i).nm.length + 3 + 1 + 8 := by
  rw [cbL_succ h]; simp [h3, eightL]; omega
def NmOK (L : List Ent) : Prop := ∀ i, i < L.length → entOK (eA L i) = true
theorem entOK_parts {e : Ent} (h : entOK e = true) : (1 ≤ e.nm.length ∧ e.nm.length ≤ 8) ∧ (1 ≤ e.v ∧ e.v ≤ 1000000) ∧ (0 ≤ e.s ∧ e.s ≤ 120) ∧ (0 ≤ e.r ∧ e.r ≤ 1152921504606846975) := by
  simp only [entOK, nameOK, Bool.and_eq_true, decide_eq_true_eq] at h
  obtain ⟨⟨⟨⟨⟨a, b⟩, _⟩, c⟩, d⟩, e⟩ := h
  exact ⟨⟨a, b⟩, c, d, e⟩
theorem cat_parts {L : List Ent} (h : catOK L = true) : L.length ≤ 5 ∧ NmOK L := by
  simp only [catOK, Bool.and_eq_true, List.all_eq_true, decide_eq_true_eq] at h
  refine ⟨h.2, fun i hi => ?_⟩
  have := h.1 i (List.mem_range.mpr hi)
  simp only [stOK, Bool.and_eq_true] at this
  exact this.1
theorem cbL_le {L : List Ent} (hN : NmOK L) {i : Nat} (h : i ≤ L.length) : (cbL L i).length ≤ 1 + 21 * i := by
  induction i with
  | zero => simp [cbL]
  | succ i ih =>
    rw [cbL_len (by omega)]
    have := ih (by omega)
    have := (entOK_parts (hN i (by omega))).1
    omega
theorem isK_cbL (L : List Ent) : ∀ i, isK .u8 (cbL L i) = true := by
  intro i
  rw [cbL, isK_app]
  have : ∀ M : List Ent, isK .u8 (M.flatMap entB) = true := fun M => by
    induction M with
    | nil => rfl
    | cons e M ih => rw [List.flatMap_cons, isK_app, ih, entB]; simp only [isK_app, isK_u8, isK_map, isK_int, isK_nil, Bool.and_self]
  rw [this]; rfl
def capC (i : Nat) : Option Nat := if i = 0 then some 1 else none
theorem capC_succ (i : Nat) : capC (i + 1) = none := rfl
theorem capC_zero : capC 0 = some 1 := rfl
def catB (L : List Ent) : List AV := cbL L L.length ++ List.replicate (106 - (cbL L L.length).length) (iv .u8 0)
theorem catB_len {L : List Ent} (h : catOK L = true) : (catB L).length = 106 := by
  obtain ⟨h5, hN⟩ := cat_parts h
  have := cbL_le hN (Nat.le_refl _)
  simp [catB]; omega
theorem isK_catB (L : List Ent) : isK .u8 (catB L) = true := by rw [catB, isK_app, isK_cbL, isK_repl]; rfl
theorem drop5 (x : Int) : ((eightL x).map (iv .u8)).drop 5 = (h3 x).map (iv .u8) := rfl
theorem h33 (x : Int) : ((h3 x).map (iv .u8)).length = 3 := rfl
theorem e65 (d : Nat) (L : List Ent) (tg : Tg) (c : Option Nat) (hc : catOK L = true) : evFun E (d+6) 65 [.sl tg 4 L.length c (flat encE L)] [] = some (.ref 0 [] 1 0 106 none, [some (catB L)]) := by
  refine evFun_body b65 ?_
  obtain ⟨h5, hN⟩ := cat_parts hc
  (repeat' (first | simp (maxDischargeDepth := 8) only [go_sem, rr, reduceIte, reduceCtorEq, Nat.reduceEqDiff, Nat.reduceAdd, Nat.reduceMul, Nat.reduceSub, Nat.reduceBEq, Nat.reduceLeDiff, Int.reduceEq, Int.reduceLT, Int.reduceLE, Int.reduceGE, Int.reduceGT, Int.reduceBEq, Int.reduceBNe, Int.reduceToNat, Int.reduceNeg, Int.reduceSub, Int.reduceAdd, Int.reduceMul, Tryd.f65] | (with_reducible refine qg9 ?_ ?_; focus (first | (simp (maxDischargeDepth := 8) only [bb, kk]; done) | kernel_rfl)) | ((with_reducible first | refine qf7 ?_ ?_ | refine qf8 ?_ ?_ | refine qf9 ?_ ?_ | refine qg ?_ ?_ | refine qg0 ?_ ?_ | refine qg1 ?_ ?_ | refine qg2 ?_ ?_); focus (first | assumption | omega | (simp only [bz]; omega))) | ((with_reducible first | refine qg3 ?_ ?_ | refine qg4 ?_ ?_ | refine qg5 ?_ ?_); focus (first | assumption | omega | (simp only [bz]; omega))) | ((with_reducible first | refine g1_u8w ?_ ?_ | refine qg7 ?_ ?_); (focus ((repeat' (with_reducible apply And.intro)) <;> (first | assumption | omega | (simp only [bz]; omega) | (simp (maxDischargeDepth := 8) only [bb]; done)))); intro _)))
  refine loop_go (fun i => {T := tp [(3, .ref 0 [] 1 0 (cbL L i).length (capC i)), (10, .sl tg 4 L.length c (flat encE L)), (11, vi L.length), (12, vi i)], H := hp [some (cbL L i)], nx := 1}) L.length ?_ (lt_LF (by omega)) (fun i hi Kn hK => ?_) (fun Kn => ?_)
  · simp only [vv, ff, norm, Array.toList, List.map, Option.isSome_none, bne_self_eq_false, reduceIte, reduceCtorEq, Nat.reduceEqDiff, Nat.reduceAdd, Nat.reduceMul, Nat.reduceSub, Nat.reduceBEq, Nat.reduceLeDiff, Int.reduceEq, Int.reduceLT, Int.reduceLE, Int.reduceGE, Int.reduceGT, Int.reduceBEq, Int.reduceBNe, Int.reduceToNat, Int.reduceNeg, Int.reduceSub, Int.reduceAdd, Int.reduceMul, finish, qf0, resOf, resa, qf1, qf2, qf3, keep, qf4, qf5, qf6, qe9, qf, Int.natCast_zero, capC_zero, cbL_zero]
  · have hg := fE_getR L hi
    obtain ⟨h1, h2, h3', h4⟩ := entOK_parts (hN i hi)
    have hle := cbL_le hN (show i ≤ L.length by omega)
    have hu := isK_u8 (eA L i).nm
    have h8 := isK_map .u8 (eightL (eA L i).r)
    have hl8 := eight8 (eA L i).r
    have k3 := isK_map .u8 (h3 (eA L i).v)
    have l3 := h33 (eA L i).v
    have hul : ((eA L i).nm.map VH.u8).length = (eA L i).nm.length := by simp
    have hkc := isK_cbL L i
    have hs := cbL_succ hi
    have hsl := cbL_len hi
    have x1 : [AV.val (.int .u8 (eA L i).nm.length)].length = 1 := rfl
    have x2 : isK .u8 [AV.val (.int .u8 (eA L i).nm.length)] = true := rfl
    have x3 : [AV.val (.int .u8 (eA L i).s)].length = 1 := rfl
    have x4 : isK .u8 [AV.val (.int .u8 (eA L i).s)] = true := rfl
    have hpos : 0 < (cbL L i).length := by simp [cbL]
    have hself : (cbL L i).length = (cbL L i).length := rfl
    (have fz := ga8 hg hu h8 hl8 k3 l3 hul hkc; repeat' (first | simp (maxDischargeDepth := 8) only [go_sem, rr, reduceIte, reduceCtorEq, Nat.reduceEqDiff, Nat.reduceAdd, Nat.reduceMul, Nat.reduceSub, Nat.reduceBEq, Nat.reduceLeDiff, Int.reduceEq, Int.reduceLT, Int.reduceLE, Int.reduceGE, Int.reduceGT, Int.reduceBEq, Int.reduceBNe, Int.reduceToNat, Int.reduceNeg, Int.reduceSub, Int.reduceAdd, Int.reduceMul, fz] | (with_reducible refine qg9 ?_ ?_; focus (first | (simp (maxDischargeDepth := 8) only [bb, kk, fz]; done) | kernel_rfl)) | ((with_reducible first | refine qf7 ?_ ?_ | refine qf8 ?_ ?_ | refine qf9 ?_ ?_ | refine qg ?_ ?_ | refine qg0 ?_ ?_ | refine qg1 ?_ ?_ | refine qg2 ?_ ?_); focus (first | assumption | omega | (simp only [bz, fz]; omega))) | ((with_reducible first | refine qg3 ?_ ?_ | refine qg4 ?_ ?_ | refine qg5 ?_ ?_); focus (first | assumption | omega | (simp only [bz, fz]; omega))) | ((with_reducible first | refine g1_u8w ?_ ?_ | refine qg7 ?_ ?_); (focus ((repeat' (with_reducible apply And.intro)) <;> (first | assumption | omega | (simp only [bz, fz]; omega) | (simp (maxDischargeDepth := 8) only [bb, fz]; done)))); intro _) | (with_reducible apply call_elim; focus ((with_reducible first | apply e87t | apply e78 | apply c677) <;> (first | assumption | omega | (simp only [bz, fz]; omega) | (simp (maxDischargeDepth := 8) only [bb, fz]; done))))))
    refine hK _ ?_
    simp only [vv, ff, norm, Array.toList, List.map, Option.isSome_none, bne_self_eq_false, reduceIte, reduceCtorEq, Nat.reduceEqDiff, Nat.reduceAdd, Nat.reduceMul, Nat.reduceSub, Nat.reduceBEq, Nat.reduceLeDiff, Int.reduceEq, Int.reduceLT, Int.reduceLE, Int.reduceGE, Int.reduceGT, Int.reduceBEq, Int.reduceBNe, Int.reduceToNat, Int.reduceNeg, Int.reduceSub, Int.reduceAdd, Int.reduceMul, finish, qf0, resOf, resa, qf1, qf2, qf3, keep, qf4, qf5, qf6, qe9, qf, Int.natCast_add, cst1, hsl, capC_succ, capK_pos (show 0 < 8 by decide)]
    simp only [hs]
  · have hle := cbL_le hN (Nat.le_refl _)
    have hkc := isK_cbL L L.length
    have ht : ((106 : Int) - (cbL L L.length).length).toNat = 106 - (cbL L L.length).length := by omega
    have ht2 : (cbL L L.length).length + (106 - (cbL L L.length).length) = 106 := by omega
    have hs := isK_snap (isK_catB L)
    unfold catB at hs
    have hcc : capK (capC L.length) (106 - (cbL L L.length).length) = none := by
      rcases Nat.eq_zero_or_pos L.length with h0 | h0
      · have e : (cbL L L.length).length = 1 := by rw [h0, cbL_zero]; rfl
        exact capK_pos (by omega)
      · rw [show capC L.length = none from if_neg (by omega)]; rfl
    (have fz := ga5 hkc ht ht2 hs hcc; repeat' (first | simp (maxDischargeDepth := 8) only [go_sem, rr, reduceIte, reduceCtorEq, Nat.reduceEqDiff, Nat.reduceAdd, Nat.reduceMul, Nat.reduceSub, Nat.reduceBEq, Nat.reduceLeDiff, Int.reduceEq, Int.reduceLT, Int.reduceLE, Int.reduceGE, Int.reduceGT, Int.reduceBEq, Int.reduceBNe, Int.reduceToNat, Int.reduceNeg, Int.reduceSub, Int.reduceAdd, Int.reduceMul, fz, zeros_one, catB] | (with_reducible refine qg9 ?_ ?_; focus (first | (simp (maxDischargeDepth := 8) only [bb, kk, fz, zeros_one, catB]; done) | kernel_rfl)) | ((with_reducible first | refine qf7 ?_ ?_ | refine qf8 ?_ ?_ | refine qf9 ?_ ?_ | refine qg ?_ ?_ | refine qg0 ?_ ?_ | refine qg1 ?_ ?_ | refine qg2 ?_ ?_); focus (first | assumption | omega | (simp only [bz, fz, zeros_one, catB]; omega))) | ((with_reducible first | refine qg3 ?_ ?_ | refine qg4 ?_ ?_ | refine qg5 ?_ ?_); focus (first | assumption | omega | (simp only [bz, fz, zeros_one, catB]; omega))) | ((with_reducible first | refine g1_u8w ?_ ?_ | refine qg7 ?_ ?_); (focus ((repeat' (with_reducible apply And.intro)) <;> (first | assumption | omega | (simp only [bz, fz, zeros_one, catB]; omega) | (simp (maxDischargeDepth := 8) only [bb, fz, zeros_one, catB]; done)))); intro _)))
theorem e71 (d : Nat) (L : List Ent) (tg : Tg) (c : Option Nat) (hS : Small L) (hc : catOK L = true) : evFun E (d+5) 71 [.sl tg 4 L.length c (flat encE L)] [] = some (.tup [.ref 0 [] 1 0 106 none, vb true], [some (catB L)]) := by
  refine evFun_body b71 ?_
  obtain ⟨h5, hN⟩ := cat_parts hc
  (repeat' (first | simp (maxDischargeDepth := 8) only [go_sem, rr, reduceIte, reduceCtorEq, Nat.reduceEqDiff, Nat.reduceAdd, Nat.reduceMul, Nat.reduceSub, Nat.reduceBEq, Nat.reduceLeDiff, Int.reduceEq, Int.reduceLT, Int.reduceLE, Int.reduceGE, Int.reduceGT, Int.reduceBEq, Int.reduceBNe, Int.reduceToNat, Int.reduceNeg, Int.reduceSub, Int.reduceAdd, Int.reduceMul, hc, Tryd.f71] | (with_reducible refine qg9 ?_ ?_; focus (first | (simp (maxDischargeDepth := 8) only [bb, kk, hc]; done) | kernel_rfl)) | ((with_reducible first | refine qf7 ?_ ?_ | refine qf8 ?_ ?_ | refine qf9 ?_ ?_ | refine qg ?_ ?_ | refine qg0 ?_ ?_ | refine qg1 ?_ ?_ | refine qg2 ?_ ?_); focus (first | assumption | omega | (simp only [bz, hc]; omega))) | ((with_reducible first | refine qg3 ?_ ?_ | refine qg4 ?_ ?_ | refine qg5 ?_ ?_); focus (first | assumption | omega | (simp only [bz, hc]; omega))) | ((with_reducible first | refine g1_u8w ?_ ?_ | refine qg7 ?_ ?_); (focus ((repeat' (with_reducible apply And.intro)) <;> (first | assumption | omega | (simp only [bz, hc]; omega) | (simp (maxDischargeDepth := 8) only [bb, hc]; done)))); intro _) | (with_reducible apply call_elim; focus ((with_reducible first | apply e23) <;> (first | assumption | omega | (simp only [bz, hc]; omega) | (simp (maxDischargeDepth := 8) only [bb, hc]; done))))))
  refine loop_go (fun i => {T := tp [(0, .sl tg 4 L.length c (flat encE L)), (4, .ref 0 [] 1 0 (cbL L i).length (capC i)), (5, vi i)], H := hp [some (cbL L i)], nx := 1}) L.length ?_ (lt_LF (by omega)) (fun i hi Kn hK => ?_) (fun Kn => ?_)
  · simp only [vv, ff, norm, Array.toList, List.map, Option.isSome_none, bne_self_eq_false, reduceIte, reduceCtorEq, Nat.reduceEqDiff, Nat.reduceAdd, Nat.reduceMul, Nat.reduceSub, Nat.reduceBEq, Nat.reduceLeDiff, Int.reduceEq, Int.reduceLT, Int.reduceLE, Int.reduceGE, Int.reduceGT, Int.reduceBEq, Int.reduceBNe, Int.reduceToNat, Int.reduceNeg, Int.reduceSub, Int.reduceAdd, Int.reduceMul, finish, qf0, resOf, resa, qf1, qf2, qf3, keep, qf4, qf5, qf6, qe9, qf, Int.natCast_zero, capC_zero, cbL_zero]
  · have hg := fE_getR L hi
    obtain ⟨h1, h2, h3', h4⟩ := entOK_parts (hN i hi)
    have hle := cbL_le hN (show i ≤ L.length by omega)
    have hu := isK_u8 (eA L i).nm
    have h8 := isK_map .u8 (eightL (eA L i).r)
    have hl8 := eight8 (eA L i).r
    have h8v := isK_map .u8 (eightL (eA L i).v)
    have hl8v := eight8 (eA L i).v
    have k3 := isK_map .u8 (h3 (eA L i).v)
    have l3 := h33 (eA L i).v
    have hul : ((eA L i).nm.map VH.u8).length = (eA L i).nm.length := by simp
    have hkc := isK_cbL L i
    have hs := cbL_succ hi
    have hsl := cbL_len hi
    have hd5 := drop5 (eA L i).v
    (have fz := ga11 hg hu h8 hl8 h8v hl8v k3 l3 hul hkc hd5; repeat' (first | simp (maxDischargeDepth := 8) only [go_sem, rr, reduceIte, reduceCtorEq, Nat.reduceEqDiff, Nat.reduceAdd, Nat.reduceMul, Nat.reduceSub, Nat.reduceBEq, Nat.reduceLeDiff, Int.reduceEq, Int.reduceLT, Int.reduceLE, Int.reduceGE, Int.reduceGT, Int.reduceBEq, Int.reduceBNe, Int.reduceToNat, Int.reduceNeg, Int.reduceSub, Int.reduceAdd, Int.reduceMul, fz] | (with_reducible refine qg9 ?_ ?_; focus (first | (simp (maxDischargeDepth := 8) only [bb, kk, fz]; done) | kernel_rfl)) | ((with_reducible first | refine qf7 ?_ ?_ | refine qf8 ?_ ?_ | refine qf9 ?_ ?_ | refine qg ?_ ?_ | refine qg0 ?_ ?_ | refine qg1 ?_ ?_ | refine qg2 ?_ ?_); focus (first | assumption | omega | (simp only [bz, fz]; omega))) | ((with_reducible first | refine qg3 ?_ ?_ | refine qg4 ?_ ?_ | refine qg5 ?_ ?_); focus (first | assumption | omega | (simp only [bz, fz]; omega))) | ((with_reducible first | refine g1_u8w ?_ ?_ | refine qg7 ?_ ?_); (focus ((repeat' (with_reducible apply And.intro)) <;> (first | assumption | omega | (simp only [bz, fz]; omega) | (simp (maxDischargeDepth := 8) only [bb, fz]; done)))); intro _) | (with_reducible apply call_elim; focus ((with_reducible first | apply e81) <;> (first | assumption | omega | (simp only [bz, fz]; omega) | (simp (maxDischargeDepth := 8) only [bb, fz]; done))))))
    refine hK _ ?_
    simp only [vv, ff, norm, Array.toList, List.map, Option.isSome_none, bne_self_eq_false, reduceIte, reduceCtorEq, Nat.reduceEqDiff, Nat.reduceAdd, Nat.reduceMul, Nat.reduceSub, Nat.reduceBEq, Nat.reduceLeDiff, Int.reduceEq, Int.reduceLT, Int.reduceLE, Int.reduceGE, Int.reduceGT, Int.reduceBEq, Int.reduceBNe, Int.reduceToNat, Int.reduceNeg, Int.reduceSub, Int.reduceAdd, Int.reduceMul, finish, qf0, resOf, resa, qf1, qf2, qf3, keep, qf4, qf5, qf6, qe9, qf, Int.natCast_add, cst1, hsl, hd5, capC_succ, capK_pos (show 0 < 8 by decide)]
    simp only [hs, List.append_assoc, List.cons_append, List.nil_append]
  · have hle := cbL_le hN (Nat.le_refl _)
    have hkc := isK_cbL L L.length
    have ht : ((106 : Int) - (cbL L L.length).length).toNat = 106 - (cbL L L.length).length := by omega
    have ht2 : (cbL L L.length).length + (106 - (cbL L L.length).length) = 106 := by omega
    have hs := isK_snap (isK_catB L)
    unfold catB at hs
    have hcc : capK (capC L.length) (106 - (cbL L L.length).length) = none := by
      rcases Nat.eq_zero_or_pos L.length with h0 | h0
      · have e : (cbL L L.length).length = 1 := by rw [h0, cbL_zero]; rfl
        exact capK_pos (by omega)
      · rw [show capC L.length = none from if_neg (by omega)]; rfl
    (have fz := ga5 hkc ht ht2 hs hcc; repeat' (first | simp (maxDischargeDepth := 8) only [go_sem, rr, reduceIte, reduceCtorEq, Nat.reduceEqDiff, Nat.reduceAdd, Nat.reduceMul, Nat.reduceSub, Nat.reduceBEq, Nat.reduceLeDiff, Int.reduceEq, Int.reduceLT, Int.reduceLE, Int.reduceGE, Int.reduceGT, Int.reduceBEq, Int.reduceBNe, Int.reduceToNat, Int.reduceNeg, Int.reduceSub, Int.reduceAdd, Int.reduceMul, fz, zeros_one, catB] | (with_reducible refine qg9 ?_ ?_; focus (first | (simp (maxDischargeDepth := 8) only [bb, kk, fz, zeros_one, catB]; done) | kernel_rfl)) | ((with_reducible first | refine qf7 ?_ ?_ | refine qf8 ?_ ?_ | refine qf9 ?_ ?_ | refine qg ?_ ?_ | refine qg0 ?_ ?_ | refine qg1 ?_ ?_ | refine qg2 ?_ ?_); focus (first | assumption | omega | (simp only [bz, fz, zeros_one, catB]; omega))) | ((with_reducible first | refine qg3 ?_ ?_ | refine qg4 ?_ ?_ | refine qg5 ?_ ?_); focus (first | assumption | omega | (simp only [bz, fz, zeros_one, catB]; omega))) | ((with_reducible first | refine g1_u8w ?_ ?_ | refine qg7 ?_ ?_); (focus ((repeat' (with_reducible apply And.intro)) <;> (first | assumption | omega | (simp only [bz, fz, zeros_one, catB]; omega) | (simp (maxDischargeDepth := 8) only [bb, fz, zeros_one, catB]; done)))); intro _)))
theorem e27 (d : Nat) (L : List Ent) (tg : Tg) (c : Option Nat) (hS : Small L) (hc : catOK L = true) : evFun E (d+7) 27 [.sl tg 4 L.length c (flat encE L)] [] = some (.tup [.ref 0 [] 1 0 106 none, vb true], [some (catB L)]) := by
  refine evFun_body b27 ?_
  have hs := isK_snap (isK_catB L)
  (have fz := ga2 hc hs; repeat' (first | simp (maxDischargeDepth := 8) only [go_sem, rr, reduceIte, reduceCtorEq, Nat.reduceEqDiff, Nat.reduceAdd, Nat.reduceMul, Nat.reduceSub, Nat.reduceBEq, Nat.reduceLeDiff, Int.reduceEq, Int.reduceLT, Int.reduceLE, Int.reduceGE, Int.reduceGT, Int.reduceBEq, Int.reduceBNe, Int.reduceToNat, Int.reduceNeg, Int.reduceSub, Int.reduceAdd, Int.reduceMul, fz, Tryd.f27] | (with_reducible refine qg9 ?_ ?_; focus (first | (simp (maxDischargeDepth := 8) only [bb, kk, fz]; done) | kernel_rfl)) | ((with_reducible first | refine qf7 ?_ ?_ | refine qf8 ?_ ?_ | refine qf9 ?_ ?_ | refine qg ?_ ?_ | refine qg0 ?_ ?_ | refine qg1 ?_ ?_ | refine qg2 ?_ ?_); focus (first | assumption | omega | (simp only [bz, fz]; omega))) | ((with_reducible first | refine qg3 ?_ ?_ | refine qg4 ?_ ?_ | refine qg5 ?_ ?_); focus (first | assumption | omega | (simp only [bz, fz]; omega))) | ((with_reducible first | refine g1_u8w ?_ ?_ | refine qg7 ?_ ?_); (focus ((repeat' (with_reducible apply And.intro)) <;> (first | assumption | omega | (simp only [bz, fz]; omega) | (simp (maxDischargeDepth := 8) only [bb, fz]; done)))); intro _) | (with_reducible apply call_elim; focus ((with_reducible first | apply e24 | apply e65) <;> (first | assumption | omega | (simp only [bz, fz]; omega) | (simp (maxDischargeDepth := 8) only [bb, fz]; done))))))
end Go.Proofs.YtgdldmfkgijkaaaDoor.VH.S
end

section
namespace Go.Proofs.YtgdldmfkgijkaaaDoor.VH.S
open Go.Proofs
set_option maxRecDepth 100000
set_option maxHeartbeats 8000000
set_option linter.unusedSimpArgs false

/- A catalog is read. -/
def txL (l : List Int) : List UInt8 := l.map fun n => UInt8.ofNat n.toNat
theorem txL_len (l : List Int) : (txL l).length = l.length := by simp [txL]
theorem bytes_seg {cs : List AV} (h : isK .u8 cs = true) (o q : Nat) : bytesOf ((cs.drop o).take q) = some (txL (((un cs).drop o).take q)) := by
  rw [bytesOf_isK (isK_take _ (isK_drop _ h)), un_take, un_drop]; rfl
def rdAt (l : List Int) : Nat → Nat
  | 0 => 1
  | j + 1 => rdAt l j + (1 + (at0 l (rdAt l j)).toNat) + 12
def rdQ (l : List Int) (j : Nat) : Nat := (at0 l (rdAt l j)).toNat
def enAt (l : List Int) (o q : Nat) : Ent := ⟨txL ((l.drop (o + 1)).take q), numB ((l.drop (o + (1 + q))).take 3), at0 l (o + (1 + q) + 3), numB ((l.drop (o + (1 + q) + 4)).take 8)⟩
def rdE (l : List Int) (j : Nat) : Ent := enAt l (rdAt l j) (rdQ l j)
def rdL (l : List Int) (i : Nat) : List Ent := (List.range i).map (rdE l)
theorem rdL_len (l : List Int) (i : Nat) : (rdL l i).length = i := by simp [rdL]
theorem rdL_zero (l : List Int) : rdL l 0 = [] := rfl
theorem rdL_succ (l : List Int) (i : Nat) : rdL l (i + 1) = rdL l i ++ [rdE l i] := by simp [rdL, List.range_succ]
theorem rdL_at (l : List Int) {i j : Nat} (h : j < i) : eA (rdL l i) j = rdE l j := by rw [eA_get (by rw [rdL_len]; exact h)]; simp [rdL]
theorem rdF_succ (l : List Int) (i : Nat) : flat encE (rdL l i) ++ encE (rdE l i) = flat encE (rdL l (i + 1)) := by rw [rdL_succ, flat_app]; simp [flat]
theorem rdF_len (l : List Int) (i : Nat) : (flat encE (rdL l i)).length = i * 4 := by rw [fE_len, rdL_len]
def rtB (l : List Int) (o q : Nat) : Int := numB ((l.drop (o + (1 + q) + 4)).take 8)
def reOK (l : List Int) (o q n : Nat) : Bool := decide (o + (1 + q) + 12 ≤ n) && decide (rtB l o q < 1152921504606846976)
theorem seg_num {cs : List AV} (hk : isK .u8 cs = true) (hb : B8 (un cs)) (o m n : Nat) (hn : cs.length = n) (h : o + m ≤ n) (hm : m ≤ 8) (d : Nat) (t : Tg) (c : Option Nat) : evFun E (d+1) 36 [.sl t 1 m c ((cs.drop o).take m)] [] = some (u64 (numB (((un cs).drop o).take m)), []) := by
  have hu : un ((cs.drop o).take m) = (((un cs).drop o).take m) := by rw [un_take, un_drop]
  have := q36 d t c ((cs.drop o).take m) m (isK_take _ (isK_drop _ hk)) (by simp; omega) hm (by rw [hu]; exact (hb.drop _).take _)
  rw [hu] at this; exact this
theorem b8_u8 (l : List UInt8) : B8 (un (l.map VH.u8)) := by
  induction l with
  | nil => exact B8.nil
  | cons b l ih =>
    rw [List.map_cons, VH.u8, un_int]
    have := UInt8.toNat_lt b
    exact B8.cons ⟨by omega, by omega⟩ ih
theorem B8.h3 (x : Int) : B8 (h3 x) := B8.cons (B8.w8 _) (B8.cons (B8.w8 _) (B8.cons (B8.w8 _) B8.nil))
theorem b8_entB {e : Ent} (h : entOK e = true) : B8 (un (entB e)) := by
  obtain ⟨h1, h2, h3', h4⟩ := entOK_parts h
  simp only [entB, un_app, un_map]
  refine (((B8.cons ⟨by omega, by omega⟩ B8.nil).app (b8_u8 _)).app (B8.h3 _)).app (B8.cons ⟨by omega, by omega⟩ B8.nil) |>.app (B8.eight _)
theorem b8_catB {L : List Ent} (h : catOK L = true) : B8 (un (catB L)) := by
  obtain ⟨h5, hN⟩ := cat_parts h
  have key : ∀ i, i ≤ L.length → B8 (un (cbL L i)) := by
    intro i
    induction i with
    | zero => exact fun _ => B8.cons ⟨by omega, by omega⟩ B8.nil
    | succ i ih =>
      intro hi
      have e : cbL L (i + 1) = cbL L i ++ entB (eA L i) := by
        rw [cbL_succ (by omega)]; simp [entB]
      rw [e, un_app]
      exact (ih (by omega)).app (b8_entB (hN i (by omega)))
  rw [catB, un_app, un_repl]
  refine (key _ (Nat.le_refl _)).app fun n hn => ?_
  rw [List.eq_of_mem_replicate hn]; decide
/- What both come to. -/
def crN (l : List Int) : Nat := (at0 l 0).toNat
def crOK (l : List Int) : Bool := decide (at0 l 0 ≤ 5) && (catOK (rdL l (crN l)) && decide (un (catB (rdL l (crN l))) = l))
theorem cr_re {l : List Int} (hb : B8 l) (hl : l.length = 106) (h : crOK l = true) : ∀ j, j < crN l → rdAt l j ≤ 1 + 21 * j ∧ rdQ l j ≤ 8 ∧ rtB l (rdAt l j) (rdQ l j) < 1152921504606846976 ∧ 0 ≤ rtB l (rdAt l j) (rdQ l j) := by
  simp only [crOK, Bool.and_eq_true, decide_eq_true_eq] at h
  obtain ⟨h5, hc, _⟩ := h
  have hN : crN l ≤ 5 := by have := (hb.at0 0).1; unfold crN; omega
  obtain ⟨_, hE⟩ := cat_parts hc
  have key : ∀ j, j < crN l → rdAt l j ≤ 1 + 21 * j → rdQ l j ≤ 8 ∧ rtB l (rdAt l j) (rdQ l j) < 1152921504606846976 ∧ 0 ≤ rtB l (rdAt l j) (rdQ l j) := by
    intro j hj hle
    have he := entOK_parts (hE j (by rw [rdL_len]; exact hj))
    rw [rdL_at l hj] at he
    obtain ⟨e1, e2, e3, e4⟩ := he
    have e1 := e1.2
    simp only [rdE, enAt, txL_len, List.length_take, List.length_drop, hl] at e1
    refine ⟨by omega, ?_, e4.1⟩
    have := e4.2
    simp only [rdE, enAt] at this
    unfold rtB; omega
  intro j
  induction j with
  | zero => exact fun hj => ⟨by simp [rdAt], key 0 hj (by simp [rdAt])⟩
  | succ j ih =>
    intro hj
    have := ih (by omega)
    have hle : rdAt l (j + 1) ≤ 1 + 21 * (j + 1) := by
      have h8 := this.2.1
      unfold rdQ at h8
      simp only [rdAt]; omega
    exact ⟨hle, key (j + 1) hj hle⟩
theorem cr_reOK {l : List Int} (hb : B8 l) (hl : l.length = 106) (h : crOK l = true) {j : Nat} (hj : j < crN l) : reOK l (rdAt l j) (rdQ l j) 106 = true := by
  have hN : crN l ≤ 5 := by
    simp only [crOK, Bool.and_eq_true, decide_eq_true_eq] at h
    have := (hb.at0 0).1; unfold crN; omega
  obtain ⟨h1, h2, h3, _⟩ := cr_re hb hl h j hj
  simp only [reOK, Bool.and_eq_true, decide_eq_true_eq]
  exact ⟨by omega, h3⟩
theorem rdL_small {l : List Int} (hl : l.length ≤ 1048576) {n : Nat} (hn : n ≤ 1048576) : Small (rdL l n) := by
  refine ⟨by rw [rdL_len]; omega, fun i => ?_⟩
  by_cases h : i < n
  · rw [rdL_at l h]
    simp only [rdE, enAt, txL_len, List.length_take, List.length_drop]; omega
  · have : eA (rdL l n) i = e0 := by rw [eA, List.getD_eq_getElem?_getD, List.getElem?_eq_none (by rw [rdL_len]; omega)]; rfl
    rw [this]; simp [e0]
def capE (i : Nat) : Option Nat := if i = 0 then some 0 else none
theorem capE_succ (i : Nat) : capE (i + 1) = none := rfl
theorem capE_zero : capE 0 = some 0 := rfl
end Go.Proofs.YtgdldmfkgijkaaaDoor.VH.S
end

section
namespace Go.Proofs.YtgdldmfkgijkaaaDoor.VH.S
open Go.Proofs
set_option maxRecDepth 100000
set_option maxHeartbeats 8000000
set_option linter.unusedSimpArgs false

end Go.Proofs.YtgdldmfkgijkaaaDoor.VH.S
end

section
namespace Go.Proofs.YtgdldmfkgijkaaaDoor.VH.S
open Go.Proofs
set_option maxRecDepth 100000
set_option maxHeartbeats 8000000
set_option linter.unusedSimpArgs false

/- Right catalogs: plain laws. -/
theorem catOK_ent {L : List Ent} (h : catOK L = true) {e : Ent} (he : e ∈ L) : entOK e = true := by
  obtain ⟨i, hi, rfl⟩ := List.mem_iff_getElem.mp he
  have := (cat_parts h).2 i hi
  rw [eA_get hi] at this; exact this
theorem catOK_mk {L : List Ent} (h1 : ∀ e ∈ L, entOK e = true) (h2 : Sorted L) (h3 : L.length ≤ 5) : catOK L = true := by
  rw [catOK_all (fun i hi => ?_)]
  · exact decide_eq_true h3
  simp only [stOK, Bool.and_eq_true, Bool.or_eq_true, decide_eq_true_eq]
  refine ⟨h1 _ (by rw [eA_get hi]; exact List.getElem_mem _), ?_⟩
  by_cases h0 : i = 0
  · exact .inl h0
  · exact .inr (h2 (i - 1) i (by omega) hi)
theorem sorted_mk {L : List Ent} (h : L.Pairwise fun a b => ltB a.nm b.nm = true) : Sorted L := by
  intro a b hab hb
  rw [eA_get (by omega), eA_get hb]
  exact List.pairwise_iff_getElem.mp h a b (by omega) hb hab
theorem lb_take {L : List Ent} {t : List UInt8} {e : Ent} (h : e ∈ L.take (lb L t)) : ltB e.nm t = true := by
  obtain ⟨i, hi, rfl⟩ := List.mem_iff_getElem.mp h
  rw [List.length_take] at hi
  have := lb_lt (L := L) (t := t) (i := i) (by omega)
  rw [eA_get (by omega)] at this
  rw [List.getElem_take]; exact this
theorem lb_drop {L : List Ent} {t : List UInt8} (hs : Sorted L) (hn : hasE L t = false) {e : Ent} (h : e ∈ L.drop (lb L t)) : ltB t e.nm = true := by
  obtain ⟨i, hi, rfl⟩ := List.mem_iff_getElem.mp h
  rw [List.length_drop] at hi
  rw [List.getElem_drop]
  have h0 : lb L t < L.length := by omega
  have h1 := lb_at h0
  have h2 : (eA L (lb L t)).nm ≠ t := by simpa [hasE, h0] using hn
  have h3 : ltB t (eA L (lb L t)).nm = true := by
    cases h4 : ltB t (eA L (lb L t)).nm with
    | true => rfl
    | false => exact absurd (ltB_tri h1 h4) h2
  by_cases hi0 : i = 0
  · subst hi0; rw [eA_get h0] at h3; exact h3
  · have := hs (lb L t) (lb L t + i) (by omega) (by omega)
    rw [eA_get (i := lb L t + i) (by omega)] at this
    exact ltB_trans h3 this
theorem ins_sorted {L : List Ent} {e : Ent} (hs : Sorted L) (hn : hasE L e.nm = false) : Sorted (insE L (lb L e.nm) e) := by
  refine sorted_mk ?_
  have hw := sorted_pw hs
  unfold insE
  rw [List.append_assoc, List.pairwise_append]
  refine ⟨hw.sublist (List.take_sublist ..), ?_, ?_⟩
  · rw [List.singleton_append, List.pairwise_cons]
    exact ⟨fun b hb => lb_drop hs hn hb, hw.sublist (List.drop_sublist ..)⟩
  · intro a ha b hb
    rcases List.mem_append.mp hb with hb | hb
    · rw [List.mem_singleton.mp hb]; exact lb_take ha
    · exact ltB_trans (lb_take ha) (lb_drop hs hn hb)
theorem ins_mem {L : List Ent} {k : Nat} {e x : Ent} (h : x ∈ insE L k e) : x ∈ L ∨ x = e := by
  simp only [insE, List.mem_append, List.mem_singleton] at h
  rcases h with (h | h) | h
  · exact .inl (List.mem_of_mem_take h)
  · exact .inr h
  · exact .inl (List.mem_of_mem_drop h)
theorem set_sorted {L : List Ent} {k : Nat} {e : Ent} (hs : Sorted L) (hk : k < L.length) (hn : (eA L k).nm = e.nm) : Sorted (L.set k e) := by
  have key : ∀ i, i < L.length → (eA (L.set k e) i).nm = (eA L i).nm := fun i hi => by
    rw [eA_get (by rw [List.length_set]; exact hi), List.getElem_set]
    by_cases h : k = i
    · subst h; simp only [if_true]; exact hn.symm
    · simp only [h, if_false]; rw [eA_get hi]
  intro a b hab hb
  rw [List.length_set] at hb
  rw [key a (by omega), key b hb]
  exact hs a b hab hb
theorem cpL_mem {L : List Ent} {e x : Ent} (h : x ∈ cpL L e) : x ∈ L ∨ x = e := by
  unfold cpL at h
  split at h
  · split at h
    · exact List.mem_or_eq_of_mem_set h
    · split at h
      · exact .inl h
      · exact ins_mem h
  · exact .inl h
theorem cpL_ok {L : List Ent} {e : Ent} (h : catOK L = true) : catOK (cpL L e) = true := by
  unfold cpL
  split
  · rename_i hc
    have he : entOK e = true := by simp only [cpOK, Bool.and_eq_true] at hc; exact hc.2
    have hs := sorted_of h
    obtain ⟨h5, _⟩ := cat_parts h
    split
    · rename_i hh
      obtain ⟨_, g2, g3⟩ := has_get hh
      refine catOK_mk (fun x hx => ?_) (set_sorted hs g3 g2) (by rw [List.length_set]; exact h5)
      rcases List.mem_or_eq_of_mem_set hx with hx | rfl
      · exact catOK_ent h hx
      · exact he
    · rename_i hh
      split
      · exact h
      · refine catOK_mk (fun x hx => ?_) (ins_sorted hs (by simpa using hh)) (by rw [insE_len (lb_le L e.nm)]; omega)
        rcases ins_mem hx with hx | rfl
        · exact catOK_ent h hx
        · exact he
  · exact h
theorem no_mem {L : List Ent} {t : List UInt8} (h : ∀ e ∈ L, e.nm ≠ t) : hasE L t = false := by
  cases hh : hasE L t with
  | false => rfl
  | true =>
    obtain ⟨g1, g2, _⟩ := has_get hh
    exact absurd g2 (h _ g1)
theorem lb_ins {L : List Ent} {e : Ent} (hs : Sorted L) (hn : hasE L e.nm = false) : lb (insE L (lb L e.nm) e) e.nm = lb L e.nm := by
  have hs2 := ins_sorted hs hn
  have hle := lb_le L e.nm
  have hlen := insE_len hle e
  have hm : e ∈ insE L (lb L e.nm) e := by simp [insE]
  obtain ⟨h1, h2⟩ := has_mem hs2 hm
  obtain ⟨_, g2, g3⟩ := has_get h1
  have he : eA (insE L (lb L e.nm) e) (lb L e.nm) = e := by
    rw [eA_get (by omega)]
    simp [insE, List.getElem_append, List.length_take, hle]
  rcases Nat.lt_trichotomy (lb (insE L (lb L e.nm) e) e.nm) (lb L e.nm) with h | h | h
  · have := hs2 _ _ h (by omega)
    rw [h2, he, ltB_irrefl] at this; simp at this
  · exact h
  · have := hs2 _ _ h g3
    rw [h2, he, ltB_irrefl] at this; simp at this
theorem drop_ins {L : List Ent} {k : Nat} (h : k ≤ L.length) (e : Ent) : dropE (insE L k e) k = L := by
  simp only [dropE, insE]
  have h1 : (L.take k).length = k := by rw [List.length_take]; omega
  rw [List.append_assoc, List.take_append_of_le_length (by omega), List.take_of_length_le (by omega)]
  rw [List.singleton_append, List.drop_append, h1, List.drop_of_length_le (by omega)]
  simp
/- A right catalog's bytes read back. -/
theorem h3_num {x : Int} (h0 : 0 ≤ x) (h1 : x < 16777216) : numB (h3 x) = x := by
  have s : ∀ k : Nat, k ≤ 64 → shrI x (k : Int) = x / 2 ^ k := fun k hk => by
    rw [shrI, Int.toNat_natCast, Nat.min_eq_left hk, Int.fdiv_eq_ediv_of_nonneg _ (Int.le_of_lt (Int.pow_pos (by decide)))]
  have s8 := s 8 (by decide); have s16 := s 16 (by decide)
  simp only [Int.cast_ofNat_Int] at s8 s16
  simp only [h3, numB, List.foldl_cons, List.foldl_nil, w8, IntKind.wrap_u8, s8, s16]
  omega
theorem un_nm (l : List UInt8) : un (l.map VH.u8) = l.map fun b => (b.toNat : Int) := by
  induction l with
  | nil => rfl
  | cons b l ih => rw [List.map_cons, VH.u8, un_int, ih]; rfl
theorem tx_un (l : List UInt8) : txL (un (l.map VH.u8)) = l := by
  rw [un_nm]; simp [txL, Function.comp_def]
theorem drop_pre (p X : List Int) (k : Nat) : (p ++ X).drop (p.length + k) = X.drop k := by
  rw [← List.drop_drop, List.drop_left]
theorem at0_drop (l : List Int) (o : Nat) : at0 l o = at0 (l.drop o) 0 := by
  simp [at0, List.getD_eq_getElem?_getD, List.getElem?_drop]
def entL (e : Ent) : List Int := [(e.nm.length : Int)] ++ un (e.nm.map VH.u8) ++ h3 e.v ++ [e.s] ++ eightL e.r
theorem un_entB (e : Ent) : un (entB e) = entL e := by
  simp only [entB, entL, un_app, un_map]; rfl
theorem nm_unlen (e : Ent) : (un (e.nm.map VH.u8)).length = e.nm.length := by rw [un_len, List.length_map]
theorem en_ent (p rest : List Int) (e : Ent) (h : entOK e = true) : at0 (p ++ (entL e ++ rest)) p.length = e.nm.length ∧ enAt (p ++ (entL e ++ rest)) p.length e.nm.length = e := by
  obtain ⟨h1, h2, h3', h4⟩ := entOK_parts h
  have hn := nm_unlen e
  have e0 : (p ++ (entL e ++ rest)).drop p.length = entL e ++ rest := by rw [List.drop_left]
  have e1 : (p ++ (entL e ++ rest)).drop (p.length + 1) = un (e.nm.map VH.u8) ++ (h3 e.v ++ ([e.s] ++ (eightL e.r ++ rest))) := by
    rw [drop_pre]; simp [entL]
  have e2 : (p ++ (entL e ++ rest)).drop (p.length + (1 + e.nm.length)) = h3 e.v ++ ([e.s] ++ (eightL e.r ++ rest)) := by
    rw [← Nat.add_assoc, ← List.drop_drop, e1, ← hn, List.drop_left]
  have e3 : (p ++ (entL e ++ rest)).drop (p.length + (1 + e.nm.length) + 3) = [e.s] ++ (eightL e.r ++ rest) := by
    rw [← List.drop_drop, e2]; rfl
  have e4 : (p ++ (entL e ++ rest)).drop (p.length + (1 + e.nm.length) + 4) = eightL e.r ++ rest := by
    rw [show p.length + (1 + e.nm.length) + 4 = p.length + (1 + e.nm.length) + 3 + 1 by omega, ← List.drop_drop, e3]; rfl
  refine ⟨by rw [at0_drop, e0]; rfl, ?_⟩
  rw [enAt, e1, e2, e4, at0_drop, e3]
  have t1 : (un (e.nm.map VH.u8) ++ (h3 e.v ++ ([e.s] ++ (eightL e.r ++ rest)))).take e.nm.length = un (e.nm.map VH.u8) := by
    rw [← hn, List.take_left]
  have t2 : (h3 e.v ++ ([e.s] ++ (eightL e.r ++ rest))).take 3 = h3 e.v := List.take_left (l₁ := h3 e.v)
  have t3 : (eightL e.r ++ rest).take 8 = eightL e.r := List.take_left (l₁ := eightL e.r)
  rw [t1, t2, t3, tx_un, h3_num (by omega) (by omega), numB_eight (by omega) (by omega)]
  rfl
theorem cb_split (L : List Ent) {i : Nat} (h : i < L.length) : ∃ rest, un (catB L) = un (cbL L i) ++ (entL (eA L i) ++ rest) := by
  refine ⟨un ((L.drop (i + 1)).flatMap entB ++ List.replicate (106 - (cbL L L.length).length) (iv .u8 0)), ?_⟩
  rw [← un_entB, ← un_app, ← un_app, catB]
  congr 1
  have e : cbL L L.length = [iv .u8 L.length] ++ L.flatMap entB := by rw [cbL, List.take_of_length_le (Nat.le_refl _)]
  have e2 : L.flatMap entB = (L.take i).flatMap entB ++ (entB (eA L i) ++ (L.drop (i + 1)).flatMap entB) := by
    conv => lhs; rw [← List.take_append_drop i L, List.drop_eq_getElem_cons h, List.flatMap_append, List.flatMap_cons]
    rw [eA_get h]
  rw [e, cbL, e2]
  simp only [List.append_assoc]
theorem rd_cat {L : List Ent} (h : catOK L = true) : ∀ i, i ≤ L.length → rdAt (un (catB L)) i = (cbL L i).length := by
  obtain ⟨_, hN⟩ := cat_parts h
  intro i
  induction i with
  | zero => exact fun _ => rfl
  | succ i ih =>
    intro hi
    obtain ⟨rest, hr⟩ := cb_split L (i := i) (by omega)
    rw [rdAt, ih (by omega), cbL_len (by omega)]
    have := (en_ent (un (cbL L i)) rest (eA L i) (hN i (by omega))).1
    rw [un_len] at this
    rw [hr, this]
    omega
theorem rdE_cat {L : List Ent} (h : catOK L = true) {i : Nat} (hi : i < L.length) : rdE (un (catB L)) i = eA L i := by
  obtain ⟨_, hN⟩ := cat_parts h
  obtain ⟨rest, hr⟩ := cb_split L hi
  obtain ⟨h1, h2⟩ := en_ent (un (cbL L i)) rest (eA L i) (hN i hi)
  rw [un_len] at h1 h2
  rw [rdE, rdQ, rd_cat h i (by omega), hr, h1]
  exact h2
theorem crN_cat {L : List Ent} (h : catOK L = true) : crN (un (catB L)) = L.length := by
  have : at0 (un (catB L)) 0 = L.length := rfl
  rw [crN, this]; omega
theorem crL_cat {L : List Ent} (h : catOK L = true) : rdL (un (catB L)) L.length = L := by
  refine List.ext_getElem (rdL_len _ _) fun i h1 h2 => ?_
  rw [← eA_get h1, ← eA_get h2, rdL_at _ h2, rdE_cat h h2]
theorem crOK_cat {L : List Ent} (h : catOK L = true) : crOK (un (catB L)) = true := by
  have h0 : at0 (un (catB L)) 0 = L.length := rfl
  have h5 := (cat_parts h).1
  simp only [crOK, crN_cat h, crL_cat h, h, h0, Bool.and_eq_true, decide_eq_true_eq, and_true]
  omega
end Go.Proofs.YtgdldmfkgijkaaaDoor.VH.S
end

section
namespace Go.Proofs.YtgdldmfkgijkaaaDoor.VH.S
open Go.Proofs
set_option maxRecDepth 100000
set_option maxHeartbeats 8000000
set_option linter.unusedSimpArgs false

/- Drawn entries. -/
def cNames : List (List UInt8) := [[97], [98], [99, 97, 116], [100, 45, 49], [97, 98, 99, 100, 101, 102, 103, 104], [122, 122], [113, 57]]
def cBad : List (List UInt8) := [[], [65], [97, 98, 99, 100, 101, 102, 103, 104, 105]]
def NmE (t : List UInt8) : Prop := t.length ≤ 9 ∧ t ≠ [109, 109]
theorem cNames_b (i : Nat) : NmE (cNames.getD i []) := by
  match i with
  | 0 | 1 | 2 | 3 | 4 | 5 | 6 => exact ⟨by decide, by decide⟩
  | i + 7 => exact ⟨by simp [cNames], by simp [cNames]⟩
theorem cBad_b (i : Nat) : NmE (cBad.getD i []) := by
  match i with
  | 0 | 1 | 2 => exact ⟨by decide, by decide⟩
  | i + 3 => exact ⟨by simp [cBad], by simp [cBad]⟩
def drS3 (b : List Int) (s : Nat × Int) : Nat × Int := (bel b 121 (bel b 400 (bel b 7 s).2).2).2
def drM (b : List Int) (s : Nat × Int) : Int := (bel b 60000 (drS3 b s)).1 * (bel b 60000 (bel b 60000 (drS3 b s)).2).1
def drS4 (b : List Int) (s : Nat × Int) : Nat × Int := (bel b 60000 (bel b 60000 (drS3 b s)).2).2
def drE (b : List Int) (s : Nat × Int) : Ent × (Nat × Int) :=
  if (bel b 40 (drS4 b s)).1 = 0 then (⟨cBad.getD (bel b 3 (bel b 40 (drS4 b s)).2).1.toNat [], 1 + (bel b 400 (bel b 7 s).2).1, (bel b 121 (bel b 400 (bel b 7 s).2).2).1, drM b s⟩, (bel b 3 (bel b 40 (drS4 b s)).2).2)
  else if (bel b 40 (drS4 b s)).1 = 1 then (⟨cNames.getD (bel b 7 s).1.toNat [], [0, 1000000, 1000001].getD (bel b 3 (bel b 40 (drS4 b s)).2).1.toNat 0, (bel b 121 (bel b 400 (bel b 7 s).2).2).1, drM b s⟩, (bel b 3 (bel b 40 (drS4 b s)).2).2)
  else if (bel b 40 (drS4 b s)).1 = 2 then (⟨cNames.getD (bel b 7 s).1.toNat [], 1 + (bel b 400 (bel b 7 s).2).1, [-1, 120, 121].getD (bel b 3 (bel b 40 (drS4 b s)).2).1.toNat 0, drM b s⟩, (bel b 3 (bel b 40 (drS4 b s)).2).2)
  else if (bel b 40 (drS4 b s)).1 = 3 then (⟨cNames.getD (bel b 7 s).1.toNat [], 1 + (bel b 400 (bel b 7 s).2).1, (bel b 121 (bel b 400 (bel b 7 s).2).2).1, [-1, 1152921504606846975, 1152921504606846976].getD (bel b 3 (bel b 40 (drS4 b s)).2).1.toNat 0⟩, (bel b 3 (bel b 40 (drS4 b s)).2).2)
  else (⟨cNames.getD (bel b 7 s).1.toNat [], 1 + (bel b 400 (bel b 7 s).2).1, (bel b 121 (bel b 400 (bel b 7 s).2).2).1, drM b s⟩, (bel b 40 (drS4 b s)).2)
theorem drE_b (b : List Int) (s : Nat × Int) : NmE (drE b s).1.nm := by
  unfold drE
  split
  · exact cBad_b _
  · split
    · exact cNames_b _
    · split
      · exact cNames_b _
      · split <;> exact cNames_b _
theorem e58 (d : Nat) (b : List Int) (s : Nat × Int) (hb : b.length ≤ 2 ^ 39) : evFun E (d+4) 58 [.ptr 0 [] 0] [curC b s] = some (.agg [vs (drE b s).1.nm, vi (drE b s).1.v, vi (drE b s).1.s, vi (drE b s).1.r], [some (curC b (drE b s).2)]) := by
  have pN : ∀ d s, evFun E (d+3) 76 [.ptr 0 [] 0, .sl .snap 1 7 none [vs [97], vs [98], vs [99, 97, 116], vs [100, 45, 49], vs [97, 98, 99, 100, 101, 102, 103, 104], vs [122, 122], vs [113, 57]]] [curC b s] = _ := fun d s => e76 d b s hb .snap none 7 cNames rfl (by decide)
  have pB : ∀ d s, evFun E (d+3) 76 [.ptr 0 [] 0, .sl .snap 1 3 none [vs [], vs [65], vs [97, 98, 99, 100, 101, 102, 103, 104, 105]]] [curC b s] = _ := fun d s => e76 d b s hb .snap none 3 cBad rfl (by decide)
  have pV : ∀ d s, evFun E (d+3) 75 [.ptr 0 [] 0, .sl .snap 1 3 none [vi 0, vi 1000000, vi 1000001]] [curC b s] = _ := fun d s => e75g d b s hb .snap none 3 [0, 1000000, 1000001] rfl (by decide)
  have pS : ∀ d s, evFun E (d+3) 75 [.ptr 0 [] 0, .sl .snap 1 3 none [vi (-1), vi 120, vi 121]] [curC b s] = _ := fun d s => e75g d b s hb .snap none 3 [-1, 120, 121] rfl (by decide)
  have pR : ∀ d s, evFun E (d+3) 75 [.ptr 0 [] 0, .sl .snap 1 3 none [vi (-1), vi 1152921504606846975, vi 1152921504606846976]] [curC b s] = _ := fun d s => e75g d b s hb .snap none 3 [-1, 1152921504606846975, 1152921504606846976] rfl (by decide)
  obtain ⟨v0, v1⟩ := bel_b b (n := 400) (by decide) (bel b 7 s).2
  obtain ⟨t0, t1⟩ := bel_b b (n := 121) (by decide) (bel b 400 (bel b 7 s).2).2
  have hs3 : (bel b 121 (bel b 400 (bel b 7 s).2).2).2 = drS3 b s := rfl
  obtain ⟨r0, r1⟩ := bel_b b (n := 60000) (by decide) (drS3 b s)
  obtain ⟨q0, q1⟩ := bel_b b (n := 60000) (by decide) (bel b 60000 (drS3 b s)).2
  have hm0 : 0 ≤ drM b s := Int.mul_nonneg r0 q0
  have hm1 : drM b s ≤ 60000 * 60000 := Int.mul_le_mul (by omega) (by omega) q0 (by decide)
  have hM : (bel b 60000 (drS3 b s)).1 * (bel b 60000 (bel b 60000 (drS3 b s)).2).1 = drM b s := rfl
  have hs4 : (bel b 60000 (bel b 60000 (drS3 b s)).2).2 = drS4 b s := rfl
  obtain ⟨w0, w1⟩ := bel_b b (n := 40) (by decide) (drS4 b s)
  have c : (bel b 40 (drS4 b s)).1 = 0 ∨ (bel b 40 (drS4 b s)).1 = 1 ∨ (bel b 40 (drS4 b s)).1 = 2 ∨ (bel b 40 (drS4 b s)).1 = 3 ∨ 4 ≤ (bel b 40 (drS4 b s)).1 := by omega
  refine evFun_body b58 ?_
  rcases c with c | c | c | c | c
  · rw [drE, if_pos c]
    (have fz := ga7 hs3 hM hs4 pN pV pS pR; repeat' (first | simp (maxDischargeDepth := 8) only [go_sem, rr, reduceIte, reduceCtorEq, Nat.reduceEqDiff, Nat.reduceAdd, Nat.reduceMul, Nat.reduceSub, Nat.reduceBEq, Nat.reduceLeDiff, Int.reduceEq, Int.reduceLT, Int.reduceLE, Int.reduceGE, Int.reduceGT, Int.reduceBEq, Int.reduceBNe, Int.reduceToNat, Int.reduceNeg, Int.reduceSub, Int.reduceAdd, Int.reduceMul, fz, pB, cur_own, cur_snap, Tryd.f58] | (with_reducible refine qg9 ?_ ?_; focus (first | (simp (maxDischargeDepth := 8) only [bb, kk, fz, pB, cur_own, cur_snap]; done) | kernel_rfl)) | ((with_reducible first | refine qf7 ?_ ?_ | refine qf8 ?_ ?_ | refine qf9 ?_ ?_ | refine qg ?_ ?_ | refine qg0 ?_ ?_ | refine qg1 ?_ ?_ | refine qg2 ?_ ?_); focus (first | assumption | omega | (simp only [bz, fz, pB, cur_own, cur_snap]; omega))) | ((with_reducible first | refine qg3 ?_ ?_ | refine qg4 ?_ ?_ | refine qg5 ?_ ?_); focus (first | assumption | omega | (simp only [bz, fz, pB, cur_own, cur_snap]; omega))) | ((with_reducible first | refine g1_u8w ?_ ?_ | refine qg7 ?_ ?_); (focus ((repeat' (with_reducible apply And.intro)) <;> (first | assumption | omega | (simp only [bz, fz, pB, cur_own, cur_snap]; omega) | (simp (maxDischargeDepth := 8) only [bb, fz, pB, cur_own, cur_snap]; done)))); intro _) | (with_reducible apply call_elim; focus ((with_reducible first | apply e53) <;> (first | assumption | omega | (simp only [bz, fz, pB, cur_own, cur_snap]; omega) | (simp (maxDischargeDepth := 8) only [bb, fz, pB, cur_own, cur_snap]; done))))))
  · rw [drE, if_neg (by omega), if_pos c]
    (have fz := ga7 hs3 hM hs4 pN pV pS pR; repeat' (first | simp (maxDischargeDepth := 8) only [go_sem, rr, reduceIte, reduceCtorEq, Nat.reduceEqDiff, Nat.reduceAdd, Nat.reduceMul, Nat.reduceSub, Nat.reduceBEq, Nat.reduceLeDiff, Int.reduceEq, Int.reduceLT, Int.reduceLE, Int.reduceGE, Int.reduceGT, Int.reduceBEq, Int.reduceBNe, Int.reduceToNat, Int.reduceNeg, Int.reduceSub, Int.reduceAdd, Int.reduceMul, fz, pB, cur_own, cur_snap, Tryd.f58] | (with_reducible refine qg9 ?_ ?_; focus (first | (simp (maxDischargeDepth := 8) only [bb, kk, fz, pB, cur_own, cur_snap]; done) | kernel_rfl)) | ((with_reducible first | refine qf7 ?_ ?_ | refine qf8 ?_ ?_ | refine qf9 ?_ ?_ | refine qg ?_ ?_ | refine qg0 ?_ ?_ | refine qg1 ?_ ?_ | refine qg2 ?_ ?_); focus (first | assumption | omega | (simp only [bz, fz, pB, cur_own, cur_snap]; omega))) | ((with_reducible first | refine qg3 ?_ ?_ | refine qg4 ?_ ?_ | refine qg5 ?_ ?_); focus (first | assumption | omega | (simp only [bz, fz, pB, cur_own, cur_snap]; omega))) | ((with_reducible first | refine g1_u8w ?_ ?_ | refine qg7 ?_ ?_); (focus ((repeat' (with_reducible apply And.intro)) <;> (first | assumption | omega | (simp only [bz, fz, pB, cur_own, cur_snap]; omega) | (simp (maxDischargeDepth := 8) only [bb, fz, pB, cur_own, cur_snap]; done)))); intro _) | (with_reducible apply call_elim; focus ((with_reducible first | apply e53) <;> (first | assumption | omega | (simp only [bz, fz, pB, cur_own, cur_snap]; omega) | (simp (maxDischargeDepth := 8) only [bb, fz, pB, cur_own, cur_snap]; done))))))
  · rw [drE, if_neg (by omega), if_neg (by omega), if_pos c]
    (have fz := ga7 hs3 hM hs4 pN pV pS pR; repeat' (first | simp (maxDischargeDepth := 8) only [go_sem, rr, reduceIte, reduceCtorEq, Nat.reduceEqDiff, Nat.reduceAdd, Nat.reduceMul, Nat.reduceSub, Nat.reduceBEq, Nat.reduceLeDiff, Int.reduceEq, Int.reduceLT, Int.reduceLE, Int.reduceGE, Int.reduceGT, Int.reduceBEq, Int.reduceBNe, Int.reduceToNat, Int.reduceNeg, Int.reduceSub, Int.reduceAdd, Int.reduceMul, fz, pB, cur_own, cur_snap, Tryd.f58] | (with_reducible refine qg9 ?_ ?_; focus (first | (simp (maxDischargeDepth := 8) only [bb, kk, fz, pB, cur_own, cur_snap]; done) | kernel_rfl)) | ((with_reducible first | refine qf7 ?_ ?_ | refine qf8 ?_ ?_ | refine qf9 ?_ ?_ | refine qg ?_ ?_ | refine qg0 ?_ ?_ | refine qg1 ?_ ?_ | refine qg2 ?_ ?_); focus (first | assumption | omega | (simp only [bz, fz, pB, cur_own, cur_snap]; omega))) | ((with_reducible first | refine qg3 ?_ ?_ | refine qg4 ?_ ?_ | refine qg5 ?_ ?_); focus (first | assumption | omega | (simp only [bz, fz, pB, cur_own, cur_snap]; omega))) | ((with_reducible first | refine g1_u8w ?_ ?_ | refine qg7 ?_ ?_); (focus ((repeat' (with_reducible apply And.intro)) <;> (first | assumption | omega | (simp only [bz, fz, pB, cur_own, cur_snap]; omega) | (simp (maxDischargeDepth := 8) only [bb, fz, pB, cur_own, cur_snap]; done)))); intro _) | (with_reducible apply call_elim; focus ((with_reducible first | apply e53) <;> (first | assumption | omega | (simp only [bz, fz, pB, cur_own, cur_snap]; omega) | (simp (maxDischargeDepth := 8) only [bb, fz, pB, cur_own, cur_snap]; done))))))
  · rw [drE, if_neg (by omega), if_neg (by omega), if_neg (by omega), if_pos c]
    (have fz := ga7 hs3 hM hs4 pN pV pS pR; repeat' (first | simp (maxDischargeDepth := 8) only [go_sem, rr, reduceIte, reduceCtorEq, Nat.reduceEqDiff, Nat.reduceAdd, Nat.reduceMul, Nat.reduceSub, Nat.reduceBEq, Nat.reduceLeDiff, Int.reduceEq, Int.reduceLT, Int.reduceLE, Int.reduceGE, Int.reduceGT, Int.reduceBEq, Int.reduceBNe, Int.reduceToNat, Int.reduceNeg, Int.reduceSub, Int.reduceAdd, Int.reduceMul, fz, pB, cur_own, cur_snap, Tryd.f58] | (with_reducible refine qg9 ?_ ?_; focus (first | (simp (maxDischargeDepth := 8) only [bb, kk, fz, pB, cur_own, cur_snap]; done) | kernel_rfl)) | ((with_reducible first | refine qf7 ?_ ?_ | refine qf8 ?_ ?_ | refine qf9 ?_ ?_ | refine qg ?_ ?_ | refine qg0 ?_ ?_ | refine qg1 ?_ ?_ | refine qg2 ?_ ?_); focus (first | assumption | omega | (simp only [bz, fz, pB, cur_own, cur_snap]; omega))) | ((with_reducible first | refine qg3 ?_ ?_ | refine qg4 ?_ ?_ | refine qg5 ?_ ?_); focus (first | assumption | omega | (simp only [bz, fz, pB, cur_own, cur_snap]; omega))) | ((with_reducible first | refine g1_u8w ?_ ?_ | refine qg7 ?_ ?_); (focus ((repeat' (with_reducible apply And.intro)) <;> (first | assumption | omega | (simp only [bz, fz, pB, cur_own, cur_snap]; omega) | (simp (maxDischargeDepth := 8) only [bb, fz, pB, cur_own, cur_snap]; done)))); intro _) | (with_reducible apply call_elim; focus ((with_reducible first | apply e53) <;> (first | assumption | omega | (simp only [bz, fz, pB, cur_own, cur_snap]; omega) | (simp (maxDischargeDepth := 8) only [bb, fz, pB, cur_own, cur_snap]; done))))))
  · rw [drE, if_neg (by omega), if_neg (by omega), if_neg (by omega), if_neg (by omega)]
    (have fz := ga7 hs3 hM hs4 pN pV pS pR; repeat' (first | simp (maxDischargeDepth := 8) only [go_sem, rr, reduceIte, reduceCtorEq, Nat.reduceEqDiff, Nat.reduceAdd, Nat.reduceMul, Nat.reduceSub, Nat.reduceBEq, Nat.reduceLeDiff, Int.reduceEq, Int.reduceLT, Int.reduceLE, Int.reduceGE, Int.reduceGT, Int.reduceBEq, Int.reduceBNe, Int.reduceToNat, Int.reduceNeg, Int.reduceSub, Int.reduceAdd, Int.reduceMul, fz, pB, cur_own, cur_snap, Tryd.f58] | (with_reducible refine qg9 ?_ ?_; focus (first | (simp (maxDischargeDepth := 8) only [bb, kk, fz, pB, cur_own, cur_snap]; done) | kernel_rfl)) | ((with_reducible first | refine qf7 ?_ ?_ | refine qf8 ?_ ?_ | refine qf9 ?_ ?_ | refine qg ?_ ?_ | refine qg0 ?_ ?_ | refine qg1 ?_ ?_ | refine qg2 ?_ ?_); focus (first | assumption | omega | (simp only [bz, fz, pB, cur_own, cur_snap]; omega))) | ((with_reducible first | refine qg3 ?_ ?_ | refine qg4 ?_ ?_ | refine qg5 ?_ ?_); focus (first | assumption | omega | (simp only [bz, fz, pB, cur_own, cur_snap]; omega))) | ((with_reducible first | refine g1_u8w ?_ ?_ | refine qg7 ?_ ?_); (focus ((repeat' (with_reducible apply And.intro)) <;> (first | assumption | omega | (simp only [bz, fz, pB, cur_own, cur_snap]; omega) | (simp (maxDischargeDepth := 8) only [bb, fz, pB, cur_own, cur_snap]; done)))); intro _) | (with_reducible apply call_elim; focus ((with_reducible first | apply e53) <;> (first | assumption | omega | (simp only [bz, fz, pB, cur_own, cur_snap]; omega) | (simp (maxDischargeDepth := 8) only [bb, fz, pB, cur_own, cur_snap]; done))))))
/- Drawn catalogs. -/
def Nms (L : List Ent) : Prop := ∀ e ∈ L, NmE e.nm
theorem small_nm {L : List Ent} (h : Nms L) (hl : L.length ≤ 1000) : Small L := by
  refine ⟨by omega, fun i => ?_⟩
  by_cases hi : i < L.length
  · rw [eA_get hi]
    have := (h _ (List.getElem_mem hi)).1
    omega
  · have : eA L i = e0 := by rw [eA, List.getD_eq_getElem?_getD, List.getElem?_eq_none (by omega)]; rfl
    rw [this]; decide
theorem nms_put {L : List Ent} {e : Ent} (h : Nms L) (he : NmE e.nm) : Nms (cpL L e) := fun x hx => by
  rcases cpL_mem hx with hx | rfl
  · exact h x hx
  · exact he
def dcS (b : List Int) (s : Nat × Int) : Nat → List Ent × (Nat × Int)
  | 0 => ([], s)
  | i + 1 => (cpL (dcS b s i).1 (drE b (dcS b s i).2).1, (drE b (dcS b s i).2).2)
def dcC (b : List Int) (s : Nat × Int) : Nat → Option Nat
  | 0 => some 0
  | i + 1 => cpC (dcS b s i).1 (drE b (dcS b s i).2).1
theorem dcS_ok (b : List Int) (s : Nat × Int) : ∀ i, catOK (dcS b s i).1 = true
  | 0 => rfl
  | i + 1 => cpL_ok (dcS_ok b s i)
theorem dcS_nms (b : List Int) (s : Nat × Int) : ∀ i, Nms (dcS b s i).1
  | 0 => fun e h => by simp [dcS] at h
  | i + 1 => nms_put (dcS_nms b s i) (drE_b b _)
theorem dcS_small (b : List Int) (s : Nat × Int) (i : Nat) : Small (dcS b s i).1 := small_nm (dcS_nms b s i) (by have := (cat_parts (dcS_ok b s i)).1; omega)
theorem e64 (d : Nat) (b : List Int) (s : Nat × Int) (hb : b.length ≤ 2 ^ 39) : evFun E (d+7) 64 [.ptr 0 [] 0] [curC b s] = some (.ref 1 [] 4 0 (dcS b (bel b 8 s).2 (bel b 8 s).1.toNat).1.length (dcC b (bel b 8 s).2 (bel b 8 s).1.toNat), [some (curC b (dcS b (bel b 8 s).2 (bel b 8 s).1.toNat).2), some (flat encE (dcS b (bel b 8 s).2 (bel b 8 s).1.toNat).1)]) := by
  have hB := fun d => e53 d b 8 s hb (by decide)
  obtain ⟨k0, k1⟩ := bel_b b (n := 8) (by decide) s
  generalize (bel b 8 s).2 = s0 at hB ⊢
  generalize (bel b 8 s).1 = k at hB k0 k1 ⊢
  refine evFun_body b64 ?_
  (repeat' (first | simp (maxDischargeDepth := 8) only [go_sem, rr, reduceIte, reduceCtorEq, Nat.reduceEqDiff, Nat.reduceAdd, Nat.reduceMul, Nat.reduceSub, Nat.reduceBEq, Nat.reduceLeDiff, Int.reduceEq, Int.reduceLT, Int.reduceLE, Int.reduceGE, Int.reduceGT, Int.reduceBEq, Int.reduceBNe, Int.reduceToNat, Int.reduceNeg, Int.reduceSub, Int.reduceAdd, Int.reduceMul, hB, cur_own, Tryd.f64] | (with_reducible refine qg9 ?_ ?_; focus (first | (simp (maxDischargeDepth := 8) only [bb, kk, hB, cur_own]; done) | kernel_rfl)) | ((with_reducible first | refine qf7 ?_ ?_ | refine qf8 ?_ ?_ | refine qf9 ?_ ?_ | refine qg ?_ ?_ | refine qg0 ?_ ?_ | refine qg1 ?_ ?_ | refine qg2 ?_ ?_); focus (first | assumption | omega | (simp only [bz, hB, cur_own]; omega))) | ((with_reducible first | refine qg3 ?_ ?_ | refine qg4 ?_ ?_ | refine qg5 ?_ ?_); focus (first | assumption | omega | (simp only [bz, hB, cur_own]; omega))) | ((with_reducible first | refine g1_u8w ?_ ?_ | refine qg7 ?_ ?_); (focus ((repeat' (with_reducible apply And.intro)) <;> (first | assumption | omega | (simp only [bz, hB, cur_own]; omega) | (simp (maxDischargeDepth := 8) only [bb, hB, cur_own]; done)))); intro _)))
  refine loop_go (fun i => {T := tp [(0, .ptr 0 [] 0), (3, .ref 1 [] 4 0 (dcS b s0 i).1.length (dcC b s0 i)), (4, vi (k - i))], H := hp [some (curC b (dcS b s0 i).2), some (flat encE (dcS b s0 i).1)], nx := 2}) k.toNat ?_ (lt_LF (by omega)) (fun i hi Kn hK => ?_) (fun Kn => ?_)
  · simp only [vv, ff, norm, Array.toList, List.map, Option.isSome_none, bne_self_eq_false, reduceIte, reduceCtorEq, Nat.reduceEqDiff, Nat.reduceAdd, Nat.reduceMul, Nat.reduceSub, Nat.reduceBEq, Nat.reduceLeDiff, Int.reduceEq, Int.reduceLT, Int.reduceLE, Int.reduceGE, Int.reduceGT, Int.reduceBEq, Int.reduceBNe, Int.reduceToNat, Int.reduceNeg, Int.reduceSub, Int.reduceAdd, Int.reduceMul, finish, qf0, resOf, resa, qf1, qf2, qf3, keep, qf4, qf5, qf6, qe9, qf, Int.natCast_zero, Int.sub_zero, dcS, dcC, flat, List.map_nil, List.length_nil, List.flatten_nil]
  · have hS := dcS_small b s0 i
    have hE := drE_b b (dcS b s0 i).2
    have hlen := fE_len (dcS b s0 i).1
    have hlen2 := fE_len (cpL (dcS b s0 i).1 (drE b (dcS b s0 i).2).1)
    have hown := anyOwn_encE (dcS b s0 i).1
    have hsn := noSnapL_encE (dcS b s0 i).1
    have hP : ∀ d tg c, evFun E (d+6) 57 [.sl tg 4 (dcS b s0 i).1.length c (flat encE (dcS b s0 i).1), .agg [vs (drE b (dcS b s0 i).2).1.nm, vi (drE b (dcS b s0 i).2).1.v, vi (drE b (dcS b s0 i).2).1.s, vi (drE b (dcS b s0 i).2).1.r]] [] = _ := fun d tg c => e57 d (dcS b s0 i).1 (drE b (dcS b s0 i).2).1 tg c hS (by have := hE.1; omega)
    (have fz := ga5 hP hlen hlen2 hown hsn; repeat' (first | simp (maxDischargeDepth := 8) only [go_sem, rr, reduceIte, reduceCtorEq, Nat.reduceEqDiff, Nat.reduceAdd, Nat.reduceMul, Nat.reduceSub, Nat.reduceBEq, Nat.reduceLeDiff, Int.reduceEq, Int.reduceLT, Int.reduceLE, Int.reduceGE, Int.reduceGT, Int.reduceBEq, Int.reduceBNe, Int.reduceToNat, Int.reduceNeg, Int.reduceSub, Int.reduceAdd, Int.reduceMul, fz, cur_own, cur_snap] | (with_reducible refine qg9 ?_ ?_; focus (first | (simp (maxDischargeDepth := 8) only [bb, kk, fz, cur_own, cur_snap]; done) | kernel_rfl)) | ((with_reducible first | refine qf7 ?_ ?_ | refine qf8 ?_ ?_ | refine qf9 ?_ ?_ | refine qg ?_ ?_ | refine qg0 ?_ ?_ | refine qg1 ?_ ?_ | refine qg2 ?_ ?_); focus (first | assumption | omega | (simp only [bz, fz, cur_own, cur_snap]; omega))) | ((with_reducible first | refine qg3 ?_ ?_ | refine qg4 ?_ ?_ | refine qg5 ?_ ?_); focus (first | assumption | omega | (simp only [bz, fz, cur_own, cur_snap]; omega))) | ((with_reducible first | refine g1_u8w ?_ ?_ | refine qg7 ?_ ?_); (focus ((repeat' (with_reducible apply And.intro)) <;> (first | assumption | omega | (simp only [bz, fz, cur_own, cur_snap]; omega) | (simp (maxDischargeDepth := 8) only [bb, fz, cur_own, cur_snap]; done)))); intro _) | (with_reducible apply call_elim; focus ((with_reducible first | apply e58) <;> (first | assumption | omega | (simp only [bz, fz, cur_own, cur_snap]; omega) | (simp (maxDischargeDepth := 8) only [bb, fz, cur_own, cur_snap]; done))))))
    refine hK _ ?_
    simp only [vv, ff, norm, Array.toList, List.map, Option.isSome_none, bne_self_eq_false, reduceIte, reduceCtorEq, Nat.reduceEqDiff, Nat.reduceAdd, Nat.reduceMul, Nat.reduceSub, Nat.reduceBEq, Nat.reduceLeDiff, Int.reduceEq, Int.reduceLT, Int.reduceLE, Int.reduceGE, Int.reduceGT, Int.reduceBEq, Int.reduceBNe, Int.reduceToNat, Int.reduceNeg, Int.reduceSub, Int.reduceAdd, Int.reduceMul, finish, qf0, resOf, resa, qf1, qf2, qf3, keep, qf4, qf5, qf6, qe9, qf, Int.natCast_add, cst1, dcS, dcC, Int.sub_sub]
  · have hlen := fE_len (dcS b s0 k.toNat).1
    have hown := anyOwn_encE (dcS b s0 k.toNat).1
    have hsn := noSnapL_encE (dcS b s0 k.toNat).1
    (have fz := ga3 hlen hown hsn; repeat' (first | simp (maxDischargeDepth := 8) only [go_sem, rr, reduceIte, reduceCtorEq, Nat.reduceEqDiff, Nat.reduceAdd, Nat.reduceMul, Nat.reduceSub, Nat.reduceBEq, Nat.reduceLeDiff, Int.reduceEq, Int.reduceLT, Int.reduceLE, Int.reduceGE, Int.reduceGT, Int.reduceBEq, Int.reduceBNe, Int.reduceToNat, Int.reduceNeg, Int.reduceSub, Int.reduceAdd, Int.reduceMul, fz, cur_own, cur_snap] | (with_reducible refine qg9 ?_ ?_; focus (first | (simp (maxDischargeDepth := 8) only [bb, kk, fz, cur_own, cur_snap]; done) | kernel_rfl)) | ((with_reducible first | refine qf7 ?_ ?_ | refine qf8 ?_ ?_ | refine qf9 ?_ ?_ | refine qg ?_ ?_ | refine qg0 ?_ ?_ | refine qg1 ?_ ?_ | refine qg2 ?_ ?_); focus (first | assumption | omega | (simp only [bz, fz, cur_own, cur_snap]; omega))) | ((with_reducible first | refine qg3 ?_ ?_ | refine qg4 ?_ ?_ | refine qg5 ?_ ?_); focus (first | assumption | omega | (simp only [bz, fz, cur_own, cur_snap]; omega))) | ((with_reducible first | refine g1_u8w ?_ ?_ | refine qg7 ?_ ?_); (focus ((repeat' (with_reducible apply And.intro)) <;> (first | assumption | omega | (simp only [bz, fz, cur_own, cur_snap]; omega) | (simp (maxDischargeDepth := 8) only [bb, fz, cur_own, cur_snap]; done)))); intro _)))
end Go.Proofs.YtgdldmfkgijkaaaDoor.VH.S
end

section
namespace Go.Proofs.YtgdldmfkgijkaaaDoor.VH.S
open Go.Proofs
set_option maxRecDepth 100000
set_option maxHeartbeats 8000000
set_option linter.unusedSimpArgs false

end Go.Proofs.YtgdldmfkgijkaaaDoor.VH.S
end

