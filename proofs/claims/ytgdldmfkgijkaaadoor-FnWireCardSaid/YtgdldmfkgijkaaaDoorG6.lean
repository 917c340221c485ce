/- Part of a proof about the given program: a verified evaluator, and what it tells of the functions (VhWFGi, VhWFGl, VhWFWq, VhWFWd, VhWFWe, VhWFWz). Conditions: none beyond the hypotheses that each theorem states. -/
import Derived.Test.YtgdldmfkgijkaaaDoorG5
import Derived.Test.YtgdldmfkgijkaaaDoorG3
set_option linter.unusedSimpArgs false
set_option linter.unusedVariables false
set_option linter.defProp false
section
namespace Go.Proofs.YtgdldmfkgijkaaaDoor.VH.S
open Go.Proofs
set_option maxRecDepth 100000
set_option maxHeartbeats 8000000
set_option linter.unusedSimpArgs false

theorem qz37 (d : Nat) (tg : Tg) (cap : Option Nat) (n : Nat) (cs : List AV) (hk : isK .u8 cs = true) (hn : cs.length = n) (h0 : 0 < n) (hl : n ≤ 549755813888) : evFun E (d+1) 37 [.sl tg 1 n cap cs] [] = some (.ref 0 [] 1 0 n none, [some cs]) := by
  subst hn
  refine evFun_body b37 ?_
  have e1 := isK_sl hk
  have e2 := isK_snap hk
  have e3 : decide (0 < cs.length) = true := decide_eq_true h0
  simp only [vv, cc, qa, qa0, clash, meets, execOp, evBox, opnd, qa1, bin, convHM, qa2, qa3, qa4, qa5, qa6, qa7, zOK, qa8, qa9, borL, isSl, qb, qb0, qb1, qb2, qb3, qb4, cellsOf, TD.agg, qb5, qb6, qb7, qb8, qb9, qc, qc0, qc1, setAt, qc2, qc3, qc4, getR, qc5, qc6, qc7, qc8, qc9, Array.toList, List.map, Option.isSome_none, bne_self_eq_false, reduceIte, reduceCtorEq, Nat.reduceEqDiff, Nat.reduceAdd, Nat.reduceMul, Nat.reduceSub, Nat.reduceBEq, Nat.reduceLeDiff, Int.reduceEq, Int.reduceLT, Int.reduceLE, Int.reduceGE, Int.reduceGT, Int.reduceBEq, Int.reduceBNe, Int.reduceToNat, Int.reduceNeg, Int.reduceSub, Int.reduceAdd, Int.reduceMul, qd, qd0, qd1, qd2, qd3, qd4, qd5, qd6, qd7, qd8, qd9, qe, qe0, qe1, qe2, qe3, qe4, qe5, qe6, qe7, qe8, qe9, qf, rr, Tryd.f37, e1, e3, limN hl, Bool.or_true]
  have e4 : ¬ cs.length = 0 := by omega
  simp only [vv, ff, qa, qa0, clash, meets, execOp, evBox, opnd, qa1, bin, convHM, qa2, qa3, qa4, qa5, qa6, qa7, zOK, qa8, qa9, borL, isSl, qb, qb0, qb1, qb2, qb3, qb4, cellsOf, TD.agg, qb5, qb6, qb7, qb8, qb9, qc, qc0, qc1, setAt, qc2, qc3, qc4, getR, qc5, qc6, qc7, qc8, qc9, Array.toList, List.map, Option.isSome_none, bne_self_eq_false, reduceIte, reduceCtorEq, Nat.reduceEqDiff, Nat.reduceAdd, Nat.reduceMul, Nat.reduceSub, Nat.reduceBEq, Nat.reduceLeDiff, Int.reduceEq, Int.reduceLT, Int.reduceLE, Int.reduceGE, Int.reduceGT, Int.reduceBEq, Int.reduceBNe, Int.reduceToNat, Int.reduceNeg, Int.reduceSub, Int.reduceAdd, Int.reduceMul, finish, qf0, resOf, resa, qf1, qf2, qf3, keep, qf4, qf5, qf6, qe9, qf, rr, e2, decide_eq_false e4, capK_pos h0]
def wX (l : List Int) (i : Nat) : Int := IntKind.i64.wrap (pX l i)
def pathD (l : List Int) (i : Nat) : List AV := ((List.range i).map (wX l)).map (iv .i64)
def pathE (l : List Int) (i : Nat) : AV := if i = 0 then .val qc6 else .sl .own 1 i none (pathD l i)
theorem pathD_len (l : List Int) (i : Nat) : (pathD l i).length = i := by simp [pathD]
theorem pathD_succ (l : List Int) (i : Nat) : pathD l i ++ [.val (.int .i64 (IntKind.i64.wrap (pX l i)))] = pathD l (i + 1) := by simp [pathD, List.range_succ, wX]
theorem pathD_take (l : List Int) (i : Nat) : (pathD l i).take i = pathD l i := List.take_of_length_le (by rw [pathD_len]; exact Nat.le_refl _)
theorem pathD_own (l : List Int) (i : Nat) : (pathD l i).any qb8 = false := anyOwn_iv _ _
theorem pathD_one (l : List Int) : pathD l 1 = [.val (.int .i64 (IntKind.i64.wrap (pX l 0)))] := rfl
theorem pathD_eq {l : List Int} (hb : B8 l) {q : Nat} (h : pB l q = false) : pathD l q = pathC l q := by
  unfold pathD pathC
  congr 1
  refine List.map_congr_left fun i hi => ?_
  have h1 := List.any_eq_false.mp h i hi
  have h2 : ¬ (1152921504606846976 ≤ pX l i) := fun hh => h1 (decide_eq_true hh)
  have h3 : 0 ≤ pX l i := numB_nn ((hb.drop _).take 8)
  exact wrap64 (by omega) (by omega)
theorem pB_succ (l : List Int) (i : Nat) : pB l (i + 1) = (pB l i || decide (pX l i ≥ 1152921504606846976)) := by
  simp [pB, List.range_succ, List.any_append]
def gsR (cs : List AV) (q n : Nat) : GO := if g4 (un cs) = true then .err 4 else if pB (un cs) q = true then .err 4 else if n - (12 + 8 * q) > 200 then .err 5 else .say (gV (un cs)) (at0 (un cs) 9) (at0 (un cs) 10) (cs.drop (12 + 8 * q)) ((List.range q).map (pX (un cs)))
def capG (cap : Option Nat) : Nat → Option Nat
  | 0 => cap.map fun c => c - 12
  | i + 1 => (capG cap i).map fun c => c - 8
theorem e45 (d : Nat) (tg : Tg) (cap : Option Nat) (n q : Nat) (cs : List AV) (hk : isK .u8 cs = true) (hn : cs.length = n) (hb : B8 (un cs)) (hq : at0 (un cs) 11 = (q : Int)) (hlo : 13 + 8 * q ≤ n) (hhi : n ≤ 600) : evFun E (d+9) 45 [.sl tg 1 n cap cs] [] = some (gsA (gsR cs q n), gsC (gsR cs q n)) := by
  refine evFun_body b45 ?_
  have hgv : numB (((un cs).drop 1).take 8) = gV (un cs) := rfl
  have n12 : ((n : Int) - 12).toNat = n - 12 := by omega
  have tk : (cs.drop 12).take (n - 12) = cs.drop 12 := List.take_of_length_le (by simp; omega)
  (have fz := ga7 hk hn hb hq hgv n12 tk; repeat' (first | simp (maxDischargeDepth := 8) only [go_sem, rr, reduceIte, reduceCtorEq, Nat.reduceEqDiff, Nat.reduceAdd, Nat.reduceMul, Nat.reduceSub, Nat.reduceBEq, Nat.reduceLeDiff, Int.reduceEq, Int.reduceLT, Int.reduceLE, Int.reduceGE, Int.reduceGT, Int.reduceBEq, Int.reduceBNe, Int.reduceToNat, Int.reduceNeg, Int.reduceSub, Int.reduceAdd, Int.reduceMul, fz, Tryd.f45] | (with_reducible refine qg9 ?_ ?_; focus (first | (simp (maxDischargeDepth := 8) only [bb, kk, fz]; done) | kernel_rfl)) | ((with_reducible first | refine qf7 ?_ ?_ | refine qf8 ?_ ?_ | refine qf9 ?_ ?_ | refine qg ?_ ?_ | refine qg0 ?_ ?_ | refine qg1 ?_ ?_ | refine qg2 ?_ ?_); focus (first | assumption | omega | (simp only [bz, fz]; omega))) | ((with_reducible first | refine qg3 ?_ ?_ | refine qg4 ?_ ?_ | refine qg5 ?_ ?_); focus (first | assumption | omega | (simp only [bz, fz]; omega))) | ((with_reducible first | refine g1_u8w ?_ ?_ | refine qg7 ?_ ?_); (focus ((repeat' (with_reducible apply And.intro)) <;> (first | assumption | omega | (simp only [bz, fz]; omega) | (simp (maxDischargeDepth := 8) only [bb, fz]; done)))); intro _) | ((with_reducible refine g1_64w ?_ ?_); (focus ((repeat' (with_reducible apply And.intro)) <;> (first | assumption | omega | (simp only [bz, fz]; omega) | (simp (maxDischargeDepth := 8) only [bb, fz]; done)))); intro _) | (with_reducible apply call_elim; focus ((with_reducible first | apply q36) <;> (first | assumption | omega | (simp only [bz, fz]; omega) | (simp (maxDischargeDepth := 8) only [bb, fz]; done))))))
  refine loop_go (fun i => {T := tp [(0, .sl tg 1 n cap cs), (2, .ptr 0 [] 0), (4, .ptr 1 [] 0), (5, .sl tg 1 (n - 12 - 8 * i) (capG cap i) (cs.drop (12 + 8 * i))), (6, u64 (gV (un cs))), (7, vb (pB (un cs) i)), (25, iv .u8 q), (26, iv .u8 i)], H := hp [some z6, some [vi 2, vi 0, .val qc6, vi (at0 (un cs) 9), vi (at0 (un cs) 10), pathE (un cs) i]], nx := 2}) q ?_ (lt_LF (by omega)) (fun i hi Kn hK => ?_) (fun Kn => ?_)
  · simp only [vv, ff, norm, Array.toList, List.map, Option.isSome_none, bne_self_eq_false, reduceIte, reduceCtorEq, Nat.reduceEqDiff, Nat.reduceAdd, Nat.reduceMul, Nat.reduceSub, Nat.reduceBEq, Nat.reduceLeDiff, Int.reduceEq, Int.reduceLT, Int.reduceLE, Int.reduceGE, Int.reduceGT, Int.reduceBEq, Int.reduceBNe, Int.reduceToNat, Int.reduceNeg, Int.reduceSub, Int.reduceAdd, Int.reduceMul, finish, qf0, resOf, resa, qf1, qf2, qf3, keep, qf4, qf5, qf6, qe9, qf, Int.natCast_zero, pathE, qc6, z6, capG, pB, List.range_zero, List.any_nil, Nat.mul_zero, Nat.sub_zero]
  · have x7 : numB (((un cs).drop (12 + 8 * i)).take 8) = pX (un cs) i := rfl
    have x8 : (n - 12 - 8 * i : Nat) - 8 = n - 12 - 8 * (i + 1) := by omega
    have x9 : IntKind.u8.wrap ((i : Int) + 1) = ((i + 1 : Nat) : Int) := by rw [wrap8 (by omega) (by omega)]; rfl
    have x10 : 12 + 8 * i + 8 = 12 + 8 * (i + 1) := by omega
    have x11 : (cs.drop (20 + 8 * i)).take (n - 12 - 8 * (i + 1)) = cs.drop (20 + 8 * i) := List.take_of_length_le (by simp; omega)
    have x15 : (cs.drop 20).take (n - 12 - 8) = cs.drop 20 := List.take_of_length_le (by simp; omega)
    have x12 : 8 + (12 + 8 * i) = 20 + 8 * i := by omega
    have x13 : 12 + 8 * (i + 1) = 20 + 8 * i := by omega
    have x14 : 12 + 8 * i + 8 = 20 + 8 * i := by omega
    rcases Nat.eq_zero_or_pos i with hi0 | hi0
    · subst hi0
      cases hp1 : pB (un cs) 0 <;> (have fz := ga3 hk hn hb; repeat' (first | simp (maxDischargeDepth := 8) only [go_sem, rr, reduceIte, reduceCtorEq, Nat.reduceEqDiff, Nat.reduceAdd, Nat.reduceMul, Nat.reduceSub, Nat.reduceBEq, Nat.reduceLeDiff, Int.reduceEq, Int.reduceLT, Int.reduceLE, Int.reduceGE, Int.reduceGT, Int.reduceBEq, Int.reduceBNe, Int.reduceToNat, Int.reduceNeg, Int.reduceSub, Int.reduceAdd, Int.reduceMul, fz, x7, hp1, pathE, qc6] | (with_reducible refine qg9 ?_ ?_; focus (first | (simp (maxDischargeDepth := 8) only [bb, kk, fz, x7, hp1, pathE, qc6]; done) | kernel_rfl)) | ((with_reducible first | refine qf7 ?_ ?_ | refine qf8 ?_ ?_ | refine qf9 ?_ ?_ | refine qg ?_ ?_ | refine qg0 ?_ ?_ | refine qg1 ?_ ?_ | refine qg2 ?_ ?_); focus (first | assumption | omega | (simp only [bz, fz, x7, hp1, pathE, qc6]; omega))) | ((with_reducible first | refine qg3 ?_ ?_ | refine qg4 ?_ ?_ | refine qg5 ?_ ?_); focus (first | assumption | omega | (simp only [bz, fz, x7, hp1, pathE, qc6]; omega))) | ((with_reducible first | refine g1_u8w ?_ ?_ | refine qg7 ?_ ?_); (focus ((repeat' (with_reducible apply And.intro)) <;> (first | assumption | omega | (simp only [bz, fz, x7, hp1, pathE, qc6]; omega) | (simp (maxDischargeDepth := 8) only [bb, fz, x7, hp1, pathE, qc6]; done)))); intro _) | ((with_reducible refine g1_64w ?_ ?_); (focus ((repeat' (with_reducible apply And.intro)) <;> (first | assumption | omega | (simp only [bz, fz, x7, hp1, pathE, qc6]; omega) | (simp (maxDischargeDepth := 8) only [bb, fz, x7, hp1, pathE, qc6]; done)))); intro _) | (with_reducible apply call_elim; focus ((with_reducible first | apply q36) <;> (first | assumption | omega | (simp only [bz, fz, x7, hp1, pathE, qc6]; omega) | (simp (maxDischargeDepth := 8) only [bb, fz, x7, hp1, pathE, qc6]; done)))) | (with_reducible refine wrapM_raw ?_))) <;> refine hK _ ?_ <;> simp only [vv, ff, norm, Array.toList, List.map, Option.isSome_none, bne_self_eq_false, reduceIte, reduceCtorEq, Nat.reduceEqDiff, Nat.reduceAdd, Nat.reduceMul, Nat.reduceSub, Nat.reduceBEq, Nat.reduceLeDiff, Int.reduceEq, Int.reduceLT, Int.reduceLE, Int.reduceGE, Int.reduceGT, Int.reduceBEq, Int.reduceBNe, Int.reduceToNat, Int.reduceNeg, Int.reduceSub, Int.reduceAdd, Int.reduceMul, finish, qf0, resOf, resa, qf1, qf2, qf3, keep, qf4, qf5, qf6, qe9, qf, qc2, qc3, z6, qc6, pathD_one, if_neg (show ¬ (0 + 1 = 0) by decide), pathE, capG, pB_succ, hp1, x8, toNat_lit, tn_subl, List.drop_drop, x11, x12, x13, x14, x15, Nat.mul_zero, Nat.add_zero, Nat.sub_zero]
    · cases hp1 : pB (un cs) i <;> (have fz := ga3 hk hn hb; repeat' (first | simp (maxDischargeDepth := 8) only [go_sem, rr, reduceIte, reduceCtorEq, Nat.reduceEqDiff, Nat.reduceAdd, Nat.reduceMul, Nat.reduceSub, Nat.reduceBEq, Nat.reduceLeDiff, Int.reduceEq, Int.reduceLT, Int.reduceLE, Int.reduceGE, Int.reduceGT, Int.reduceBEq, Int.reduceBNe, Int.reduceToNat, Int.reduceNeg, Int.reduceSub, Int.reduceAdd, Int.reduceMul, fz, x7, hp1, pathE, qc6, if_neg (show ¬ i = 0 by omega), pathD_own, pathD_len, pathD_take, pathD_succ, dself] | (with_reducible refine qg9 ?_ ?_; focus (first | (simp (maxDischargeDepth := 8) only [bb, kk, fz, x7, hp1, pathE, qc6, if_neg (show ¬ i = 0 by omega), pathD_own, pathD_len, pathD_take, pathD_succ, dself]; done) | kernel_rfl)) | ((with_reducible first | refine qf7 ?_ ?_ | refine qf8 ?_ ?_ | refine qf9 ?_ ?_ | refine qg ?_ ?_ | refine qg0 ?_ ?_ | refine qg1 ?_ ?_ | refine qg2 ?_ ?_); focus (first | assumption | omega | (simp only [bz, fz, x7, hp1, pathE, qc6, if_neg (show ¬ i = 0 by omega), pathD_own, pathD_len, pathD_take, pathD_succ, dself]; omega))) | ((with_reducible first | refine qg3 ?_ ?_ | refine qg4 ?_ ?_ | refine qg5 ?_ ?_); focus (first | assumption | omega | (simp only [bz, fz, x7, hp1, pathE, qc6, if_neg (show ¬ i = 0 by omega), pathD_own, pathD_len, pathD_take, pathD_succ, dself]; omega))) | ((with_reducible first | refine g1_u8w ?_ ?_ | refine qg7 ?_ ?_); (focus ((repeat' (with_reducible apply And.intro)) <;> (first | assumption | omega | (simp only [bz, fz, x7, hp1, pathE, qc6, if_neg (show ¬ i = 0 by omega), pathD_own, pathD_len, pathD_take, pathD_succ, dself]; omega) | (simp (maxDischargeDepth := 8) only [bb, fz, x7, hp1, pathE, qc6, if_neg (show ¬ i = 0 by omega), pathD_own, pathD_len, pathD_take, pathD_succ, dself]; done)))); intro _) | ((with_reducible refine g1_64w ?_ ?_); (focus ((repeat' (with_reducible apply And.intro)) <;> (first | assumption | omega | (simp only [bz, fz, x7, hp1, pathE, qc6, if_neg (show ¬ i = 0 by omega), pathD_own, pathD_len, pathD_take, pathD_succ, dself]; omega) | (simp (maxDischargeDepth := 8) only [bb, fz, x7, hp1, pathE, qc6, if_neg (show ¬ i = 0 by omega), pathD_own, pathD_len, pathD_take, pathD_succ, dself]; done)))); intro _) | (with_reducible apply call_elim; focus ((with_reducible first | apply q36) <;> (first | assumption | omega | (simp only [bz, fz, x7, hp1, pathE, qc6, if_neg (show ¬ i = 0 by omega), pathD_own, pathD_len, pathD_take, pathD_succ, dself]; omega) | (simp (maxDischargeDepth := 8) only [bb, fz, x7, hp1, pathE, qc6, if_neg (show ¬ i = 0 by omega), pathD_own, pathD_len, pathD_take, pathD_succ, dself]; done)))) | (with_reducible refine wrapM_raw ?_))) <;> refine hK _ ?_ <;> simp only [vv, ff, norm, Array.toList, List.map, Option.isSome_none, bne_self_eq_false, reduceIte, reduceCtorEq, Nat.reduceEqDiff, Nat.reduceAdd, Nat.reduceMul, Nat.reduceSub, Nat.reduceBEq, Nat.reduceLeDiff, Int.reduceEq, Int.reduceLT, Int.reduceLE, Int.reduceGE, Int.reduceGT, Int.reduceBEq, Int.reduceBNe, Int.reduceToNat, Int.reduceNeg, Int.reduceSub, Int.reduceAdd, Int.reduceMul, finish, qf0, resOf, resa, qf1, qf2, qf3, keep, qf4, qf5, qf6, qe9, qf, qc2, qc3, z6, qc6, if_neg (show ¬ (i + 1 = 0) by omega), pathE, capG, pB_succ, hp1, x8, List.drop_drop, x11, x12, x13, x14, tn_subl, Int.natCast_add, cst1]
  · have hg0 : 0 ≤ gV (un cs) := numB_nn ((hb.drop 1).take 8)
    have b9 := hb.at0 9
    have b10 := hb.at0 10
    cases hp1 : pB (un cs) q with
    | true =>
      have hr : gsR cs q n = .err 4 := by simp [gsR, hp1]
      (have fz := ga5 hk hn hb hq hr; repeat' (first | simp (maxDischargeDepth := 8) only [go_sem, rr, reduceIte, reduceCtorEq, Nat.reduceEqDiff, Nat.reduceAdd, Nat.reduceMul, Nat.reduceSub, Nat.reduceBEq, Nat.reduceLeDiff, Int.reduceEq, Int.reduceLT, Int.reduceLE, Int.reduceGE, Int.reduceGT, Int.reduceBEq, Int.reduceBNe, Int.reduceToNat, Int.reduceNeg, Int.reduceSub, Int.reduceAdd, Int.reduceMul, fz, hp1, qc6, gsA, gsC, z6] | (with_reducible refine qg9 ?_ ?_; focus (first | (simp (maxDischargeDepth := 8) only [bb, kk, fz, hp1, qc6, gsA, gsC, z6]; done) | kernel_rfl)) | ((with_reducible first | refine qf7 ?_ ?_ | refine qf8 ?_ ?_ | refine qf9 ?_ ?_ | refine qg ?_ ?_ | refine qg0 ?_ ?_ | refine qg1 ?_ ?_ | refine qg2 ?_ ?_); focus (first | assumption | omega | (simp only [bz, fz, hp1, qc6, gsA, gsC, z6]; omega))) | ((with_reducible first | refine qg3 ?_ ?_ | refine qg4 ?_ ?_ | refine qg5 ?_ ?_); focus (first | assumption | omega | (simp only [bz, fz, hp1, qc6, gsA, gsC, z6]; omega))) | ((with_reducible first | refine g1_u8w ?_ ?_ | refine qg7 ?_ ?_); (focus ((repeat' (with_reducible apply And.intro)) <;> (first | assumption | omega | (simp only [bz, fz, hp1, qc6, gsA, gsC, z6]; omega) | (simp (maxDischargeDepth := 8) only [bb, fz, hp1, qc6, gsA, gsC, z6]; done)))); intro _) | ((with_reducible refine g1_64w ?_ ?_); (focus ((repeat' (with_reducible apply And.intro)) <;> (first | assumption | omega | (simp only [bz, fz, hp1, qc6, gsA, gsC, z6]; omega) | (simp (maxDischargeDepth := 8) only [bb, fz, hp1, qc6, gsA, gsC, z6]; done)))); intro _) | (with_reducible apply call_elim; focus ((with_reducible first | apply e40) <;> (first | assumption | omega | (simp only [bz, fz, hp1, qc6, gsA, gsC, z6]; omega) | (simp (maxDischargeDepth := 8) only [bb, fz, hp1, qc6, gsA, gsC, z6]; done))))))
    | false =>
      by_cases c1 : gV (un cs) > 1000000
      · have hr : gsR cs q n = .err 4 := by simp [gsR, g4, c1]
        (have fz := ga5 hk hn hb hq hr; repeat' (first | simp (maxDischargeDepth := 8) only [go_sem, rr, reduceIte, reduceCtorEq, Nat.reduceEqDiff, Nat.reduceAdd, Nat.reduceMul, Nat.reduceSub, Nat.reduceBEq, Nat.reduceLeDiff, Int.reduceEq, Int.reduceLT, Int.reduceLE, Int.reduceGE, Int.reduceGT, Int.reduceBEq, Int.reduceBNe, Int.reduceToNat, Int.reduceNeg, Int.reduceSub, Int.reduceAdd, Int.reduceMul, fz, hp1, qc6, gsA, gsC, z6] | (with_reducible refine qg9 ?_ ?_; focus (first | (simp (maxDischargeDepth := 8) only [bb, kk, fz, hp1, qc6, gsA, gsC, z6]; done) | kernel_rfl)) | ((with_reducible first | refine qf7 ?_ ?_ | refine qf8 ?_ ?_ | refine qf9 ?_ ?_ | refine qg ?_ ?_ | refine qg0 ?_ ?_ | refine qg1 ?_ ?_ | refine qg2 ?_ ?_); focus (first | assumption | omega | (simp only [bz, fz, hp1, qc6, gsA, gsC, z6]; omega))) | ((with_reducible first | refine qg3 ?_ ?_ | refine qg4 ?_ ?_ | refine qg5 ?_ ?_); focus (first | assumption | omega | (simp only [bz, fz, hp1, qc6, gsA, gsC, z6]; omega))) | ((with_reducible first | refine g1_u8w ?_ ?_ | refine qg7 ?_ ?_); (focus ((repeat' (with_reducible apply And.intro)) <;> (first | assumption | omega | (simp only [bz, fz, hp1, qc6, gsA, gsC, z6]; omega) | (simp (maxDischargeDepth := 8) only [bb, fz, hp1, qc6, gsA, gsC, z6]; done)))); intro _) | ((with_reducible refine g1_64w ?_ ?_); (focus ((repeat' (with_reducible apply And.intro)) <;> (first | assumption | omega | (simp only [bz, fz, hp1, qc6, gsA, gsC, z6]; omega) | (simp (maxDischargeDepth := 8) only [bb, fz, hp1, qc6, gsA, gsC, z6]; done)))); intro _) | (with_reducible apply call_elim; focus ((with_reducible first | apply e40) <;> (first | assumption | omega | (simp only [bz, fz, hp1, qc6, gsA, gsC, z6]; omega) | (simp (maxDischargeDepth := 8) only [bb, fz, hp1, qc6, gsA, gsC, z6]; done))))))
      by_cases c2 : (q : Int) > 4
      · have hr : gsR cs q n = .err 4 := by simp [gsR, g4, hq, c2]
        (have fz := ga5 hk hn hb hq hr; repeat' (first | simp (maxDischargeDepth := 8) only [go_sem, rr, reduceIte, reduceCtorEq, Nat.reduceEqDiff, Nat.reduceAdd, Nat.reduceMul, Nat.reduceSub, Nat.reduceBEq, Nat.reduceLeDiff, Int.reduceEq, Int.reduceLT, Int.reduceLE, Int.reduceGE, Int.reduceGT, Int.reduceBEq, Int.reduceBNe, Int.reduceToNat, Int.reduceNeg, Int.reduceSub, Int.reduceAdd, Int.reduceMul, fz, hp1, qc6, gsA, gsC, z6] | (with_reducible refine qg9 ?_ ?_; focus (first | (simp (maxDischargeDepth := 8) only [bb, kk, fz, hp1, qc6, gsA, gsC, z6]; done) | kernel_rfl)) | ((with_reducible first | refine qf7 ?_ ?_ | refine qf8 ?_ ?_ | refine qf9 ?_ ?_ | refine qg ?_ ?_ | refine qg0 ?_ ?_ | refine qg1 ?_ ?_ | refine qg2 ?_ ?_); focus (first | assumption | omega | (simp only [bz, fz, hp1, qc6, gsA, gsC, z6]; omega))) | ((with_reducible first | refine qg3 ?_ ?_ | refine qg4 ?_ ?_ | refine qg5 ?_ ?_); focus (first | assumption | omega | (simp only [bz, fz, hp1, qc6, gsA, gsC, z6]; omega))) | ((with_reducible first | refine g1_u8w ?_ ?_ | refine qg7 ?_ ?_); (focus ((repeat' (with_reducible apply And.intro)) <;> (first | assumption | omega | (simp only [bz, fz, hp1, qc6, gsA, gsC, z6]; omega) | (simp (maxDischargeDepth := 8) only [bb, fz, hp1, qc6, gsA, gsC, z6]; done)))); intro _) | ((with_reducible refine g1_64w ?_ ?_); (focus ((repeat' (with_reducible apply And.intro)) <;> (first | assumption | omega | (simp only [bz, fz, hp1, qc6, gsA, gsC, z6]; omega) | (simp (maxDischargeDepth := 8) only [bb, fz, hp1, qc6, gsA, gsC, z6]; done)))); intro _) | (with_reducible apply call_elim; focus ((with_reducible first | apply e40) <;> (first | assumption | omega | (simp only [bz, fz, hp1, qc6, gsA, gsC, z6]; omega) | (simp (maxDischargeDepth := 8) only [bb, fz, hp1, qc6, gsA, gsC, z6]; done))))))
      by_cases c3 : 1 ≤ at0 (un cs) 9 ∧ at0 (un cs) 9 ≤ 8
      · by_cases c4 : at0 (un cs) 10 ≥ at0 (un cs) 9
        · have hr : gsR cs q n = .err 4 := by simp [gsR, g4, c4]
          (have fz := ga5 hk hn hb hq hr; repeat' (first | simp (maxDischargeDepth := 8) only [go_sem, rr, reduceIte, reduceCtorEq, Nat.reduceEqDiff, Nat.reduceAdd, Nat.reduceMul, Nat.reduceSub, Nat.reduceBEq, Nat.reduceLeDiff, Int.reduceEq, Int.reduceLT, Int.reduceLE, Int.reduceGE, Int.reduceGT, Int.reduceBEq, Int.reduceBNe, Int.reduceToNat, Int.reduceNeg, Int.reduceSub, Int.reduceAdd, Int.reduceMul, fz, hp1, qc6, gsA, gsC, z6] | (with_reducible refine qg9 ?_ ?_; focus (first | (simp (maxDischargeDepth := 8) only [bb, kk, fz, hp1, qc6, gsA, gsC, z6]; done) | kernel_rfl)) | ((with_reducible first | refine qf7 ?_ ?_ | refine qf8 ?_ ?_ | refine qf9 ?_ ?_ | refine qg ?_ ?_ | refine qg0 ?_ ?_ | refine qg1 ?_ ?_ | refine qg2 ?_ ?_); focus (first | assumption | omega | (simp only [bz, fz, hp1, qc6, gsA, gsC, z6]; omega))) | ((with_reducible first | refine qg3 ?_ ?_ | refine qg4 ?_ ?_ | refine qg5 ?_ ?_); focus (first | assumption | omega | (simp only [bz, fz, hp1, qc6, gsA, gsC, z6]; omega))) | ((with_reducible first | refine g1_u8w ?_ ?_ | refine qg7 ?_ ?_); (focus ((repeat' (with_reducible apply And.intro)) <;> (first | assumption | omega | (simp only [bz, fz, hp1, qc6, gsA, gsC, z6]; omega) | (simp (maxDischargeDepth := 8) only [bb, fz, hp1, qc6, gsA, gsC, z6]; done)))); intro _) | ((with_reducible refine g1_64w ?_ ?_); (focus ((repeat' (with_reducible apply And.intro)) <;> (first | assumption | omega | (simp only [bz, fz, hp1, qc6, gsA, gsC, z6]; omega) | (simp (maxDischargeDepth := 8) only [bb, fz, hp1, qc6, gsA, gsC, z6]; done)))); intro _) | (with_reducible apply call_elim; focus ((with_reducible first | apply e40) <;> (first | assumption | omega | (simp only [bz, fz, hp1, qc6, gsA, gsC, z6]; omega) | (simp (maxDischargeDepth := 8) only [bb, fz, hp1, qc6, gsA, gsC, z6]; done))))))
        · have hg4 : g4 (un cs) = false := by simp [g4, hq]; omega
          have y5 : n - 12 - 8 * q = n - (12 + 8 * q) := by omega
          by_cases c5 : n - (12 + 8 * q) > 200
          · have hr : gsR cs q n = .err 5 := by simp [gsR, hg4, hp1, c5]
            (have fz := ga6 hk hn hb hq hr y5; repeat' (first | simp (maxDischargeDepth := 8) only [go_sem, rr, reduceIte, reduceCtorEq, Nat.reduceEqDiff, Nat.reduceAdd, Nat.reduceMul, Nat.reduceSub, Nat.reduceBEq, Nat.reduceLeDiff, Int.reduceEq, Int.reduceLT, Int.reduceLE, Int.reduceGE, Int.reduceGT, Int.reduceBEq, Int.reduceBNe, Int.reduceToNat, Int.reduceNeg, Int.reduceSub, Int.reduceAdd, Int.reduceMul, fz, hp1, qc6, gsA, gsC, z6] | (with_reducible refine qg9 ?_ ?_; focus (first | (simp (maxDischargeDepth := 8) only [bb, kk, fz, hp1, qc6, gsA, gsC, z6]; done) | kernel_rfl)) | ((with_reducible first | refine qf7 ?_ ?_ | refine qf8 ?_ ?_ | refine qf9 ?_ ?_ | refine qg ?_ ?_ | refine qg0 ?_ ?_ | refine qg1 ?_ ?_ | refine qg2 ?_ ?_); focus (first | assumption | omega | (simp only [bz, fz, hp1, qc6, gsA, gsC, z6]; omega))) | ((with_reducible first | refine qg3 ?_ ?_ | refine qg4 ?_ ?_ | refine qg5 ?_ ?_); focus (first | assumption | omega | (simp only [bz, fz, hp1, qc6, gsA, gsC, z6]; omega))) | ((with_reducible first | refine g1_u8w ?_ ?_ | refine qg7 ?_ ?_); (focus ((repeat' (with_reducible apply And.intro)) <;> (first | assumption | omega | (simp only [bz, fz, hp1, qc6, gsA, gsC, z6]; omega) | (simp (maxDischargeDepth := 8) only [bb, fz, hp1, qc6, gsA, gsC, z6]; done)))); intro _) | ((with_reducible refine g1_64w ?_ ?_); (focus ((repeat' (with_reducible apply And.intro)) <;> (first | assumption | omega | (simp only [bz, fz, hp1, qc6, gsA, gsC, z6]; omega) | (simp (maxDischargeDepth := 8) only [bb, fz, hp1, qc6, gsA, gsC, z6]; done)))); intro _) | (with_reducible apply call_elim; focus ((with_reducible first | apply e40) <;> (first | assumption | omega | (simp only [bz, fz, hp1, qc6, gsA, gsC, z6]; omega) | (simp (maxDischargeDepth := 8) only [bb, fz, hp1, qc6, gsA, gsC, z6]; done))))))
          · have hr : gsR cs q n = .say (gV (un cs)) (at0 (un cs) 9) (at0 (un cs) 10) (cs.drop (12 + 8 * q)) ((List.range q).map (pX (un cs))) := by simp [gsR, hg4, hp1, c5]
            have y6 : isK .u8 (cs.drop (12 + 8 * q)) = true := isK_drop _ hk
            have y7 : (cs.drop (12 + 8 * q)).length = n - (12 + 8 * q) := by simp; omega
            have y8 : n - (12 + 8 * q) ≤ 549755813888 := by omega
            have y9 := isK_own y6
            have y10 := isK_snap y6
            have y11 : 0 < n - (12 + 8 * q) := by omega
            have z1 : (List.range q).length = q := List.length_range
            have z2 : ((List.range q).map (pX (un cs))).map (iv .i64) = pathC (un cs) q := rfl
            have z4 : qf2 (pathC (un cs) q) = true := noSnapL_iv _ _
            have z5 := pathD_eq hb hp1
            rcases Nat.eq_zero_or_pos q with hq0 | hq0
            · (have fz := ga11 hk hn hb hq hr y5 y6 y7 y9 y10 z1; repeat' (first | simp (maxDischargeDepth := 8) only [go_sem, rr, reduceIte, reduceCtorEq, Nat.reduceEqDiff, Nat.reduceAdd, Nat.reduceMul, Nat.reduceSub, Nat.reduceBEq, Nat.reduceLeDiff, Int.reduceEq, Int.reduceLT, Int.reduceLE, Int.reduceGE, Int.reduceGT, Int.reduceBEq, Int.reduceBNe, Int.reduceToNat, Int.reduceNeg, Int.reduceSub, Int.reduceAdd, Int.reduceMul, fz, hp1, qc6, gsA, gsC, z6, pathE, if_pos hq0, List.length_map] | (with_reducible refine qg9 ?_ ?_; focus (first | (simp (maxDischargeDepth := 8) only [bb, kk, fz, hp1, qc6, gsA, gsC, z6, pathE, if_pos hq0, List.length_map]; done) | kernel_rfl)) | ((with_reducible first | refine qf7 ?_ ?_ | refine qf8 ?_ ?_ | refine qf9 ?_ ?_ | refine qg ?_ ?_ | refine qg0 ?_ ?_ | refine qg1 ?_ ?_ | refine qg2 ?_ ?_); focus (first | assumption | omega | (simp only [bz, fz, hp1, qc6, gsA, gsC, z6, pathE, if_pos hq0, List.length_map]; omega))) | ((with_reducible first | refine qg3 ?_ ?_ | refine qg4 ?_ ?_ | refine qg5 ?_ ?_); focus (first | assumption | omega | (simp only [bz, fz, hp1, qc6, gsA, gsC, z6, pathE, if_pos hq0, List.length_map]; omega))) | ((with_reducible first | refine g1_u8w ?_ ?_ | refine qg7 ?_ ?_); (focus ((repeat' (with_reducible apply And.intro)) <;> (first | assumption | omega | (simp only [bz, fz, hp1, qc6, gsA, gsC, z6, pathE, if_pos hq0, List.length_map]; omega) | (simp (maxDischargeDepth := 8) only [bb, fz, hp1, qc6, gsA, gsC, z6, pathE, if_pos hq0, List.length_map]; done)))); intro _) | ((with_reducible refine g1_64w ?_ ?_); (focus ((repeat' (with_reducible apply And.intro)) <;> (first | assumption | omega | (simp only [bz, fz, hp1, qc6, gsA, gsC, z6, pathE, if_pos hq0, List.length_map]; omega) | (simp (maxDischargeDepth := 8) only [bb, fz, hp1, qc6, gsA, gsC, z6, pathE, if_pos hq0, List.length_map]; done)))); intro _) | (with_reducible apply call_elim; focus ((with_reducible first | apply e40 | apply qz37) <;> (first | assumption | omega | (simp only [bz, fz, hp1, qc6, gsA, gsC, z6, pathE, if_pos hq0, List.length_map]; omega) | (simp (maxDischargeDepth := 8) only [bb, fz, hp1, qc6, gsA, gsC, z6, pathE, if_pos hq0, List.length_map]; done))))))
            · (have fz := ga14 hk hn hb hq hr y5 y6 y7 y9 y10 z1 z2 z4 z5; repeat' (first | simp (maxDischargeDepth := 8) only [go_sem, rr, reduceIte, reduceCtorEq, Nat.reduceEqDiff, Nat.reduceAdd, Nat.reduceMul, Nat.reduceSub, Nat.reduceBEq, Nat.reduceLeDiff, Int.reduceEq, Int.reduceLT, Int.reduceLE, Int.reduceGE, Int.reduceGT, Int.reduceBEq, Int.reduceBNe, Int.reduceToNat, Int.reduceNeg, Int.reduceSub, Int.reduceAdd, Int.reduceMul, fz, hp1, qc6, gsA, gsC, z6, pathE, if_neg (show ¬ q = 0 by omega), pathC_len, pathC_take, pathC_own, List.length_map] | (with_reducible refine qg9 ?_ ?_; focus (first | (simp (maxDischargeDepth := 8) only [bb, kk, fz, hp1, qc6, gsA, gsC, z6, pathE, if_neg (show ¬ q = 0 by omega), pathC_len, pathC_take, pathC_own, List.length_map]; done) | kernel_rfl)) | ((with_reducible first | refine qf7 ?_ ?_ | refine qf8 ?_ ?_ | refine qf9 ?_ ?_ | refine qg ?_ ?_ | refine qg0 ?_ ?_ | refine qg1 ?_ ?_ | refine qg2 ?_ ?_); focus (first | assumption | omega | (simp only [bz, fz, hp1, qc6, gsA, gsC, z6, pathE, if_neg (show ¬ q = 0 by omega), pathC_len, pathC_take, pathC_own, List.length_map]; omega))) | ((with_reducible first | refine qg3 ?_ ?_ | refine qg4 ?_ ?_ | refine qg5 ?_ ?_); focus (first | assumption | omega | (simp only [bz, fz, hp1, qc6, gsA, gsC, z6, pathE, if_neg (show ¬ q = 0 by omega), pathC_len, pathC_take, pathC_own, List.length_map]; omega))) | ((with_reducible first | refine g1_u8w ?_ ?_ | refine qg7 ?_ ?_); (focus ((repeat' (with_reducible apply And.intro)) <;> (first | assumption | omega | (simp only [bz, fz, hp1, qc6, gsA, gsC, z6, pathE, if_neg (show ¬ q = 0 by omega), pathC_len, pathC_take, pathC_own, List.length_map]; omega) | (simp (maxDischargeDepth := 8) only [bb, fz, hp1, qc6, gsA, gsC, z6, pathE, if_neg (show ¬ q = 0 by omega), pathC_len, pathC_take, pathC_own, List.length_map]; done)))); intro _) | ((with_reducible refine g1_64w ?_ ?_); (focus ((repeat' (with_reducible apply And.intro)) <;> (first | assumption | omega | (simp only [bz, fz, hp1, qc6, gsA, gsC, z6, pathE, if_neg (show ¬ q = 0 by omega), pathC_len, pathC_take, pathC_own, List.length_map]; omega) | (simp (maxDischargeDepth := 8) only [bb, fz, hp1, qc6, gsA, gsC, z6, pathE, if_neg (show ¬ q = 0 by omega), pathC_len, pathC_take, pathC_own, List.length_map]; done)))); intro _) | (with_reducible apply call_elim; focus ((with_reducible first | apply e40 | apply qz37) <;> (first | assumption | omega | (simp only [bz, fz, hp1, qc6, gsA, gsC, z6, pathE, if_neg (show ¬ q = 0 by omega), pathC_len, pathC_take, pathC_own, List.length_map]; omega) | (simp (maxDischargeDepth := 8) only [bb, fz, hp1, qc6, gsA, gsC, z6, pathE, if_neg (show ¬ q = 0 by omega), pathC_len, pathC_take, pathC_own, List.length_map]; done))))))
      · have hr : gsR cs q n = .err 4 := by
          have : g4 (un cs) = true := by
            simp only [g4, Bool.or_eq_true, Bool.not_eq_true', Bool.and_eq_false_iff, decide_eq_false_iff_not]
            left; left; right; omega
          simp [gsR, this]
        (have fz := ga5 hk hn hb hq hr; repeat' (first | simp (maxDischargeDepth := 8) only [go_sem, rr, reduceIte, reduceCtorEq, Nat.reduceEqDiff, Nat.reduceAdd, Nat.reduceMul, Nat.reduceSub, Nat.reduceBEq, Nat.reduceLeDiff, Int.reduceEq, Int.reduceLT, Int.reduceLE, Int.reduceGE, Int.reduceGT, Int.reduceBEq, Int.reduceBNe, Int.reduceToNat, Int.reduceNeg, Int.reduceSub, Int.reduceAdd, Int.reduceMul, fz, hp1, qc6, gsA, gsC, z6] | (with_reducible refine qg9 ?_ ?_; focus (first | (simp (maxDischargeDepth := 8) only [bb, kk, fz, hp1, qc6, gsA, gsC, z6]; done) | kernel_rfl)) | ((with_reducible first | refine qf7 ?_ ?_ | refine qf8 ?_ ?_ | refine qf9 ?_ ?_ | refine qg ?_ ?_ | refine qg0 ?_ ?_ | refine qg1 ?_ ?_ | refine qg2 ?_ ?_); focus (first | assumption | omega | (simp only [bz, fz, hp1, qc6, gsA, gsC, z6]; omega))) | ((with_reducible first | refine qg3 ?_ ?_ | refine qg4 ?_ ?_ | refine qg5 ?_ ?_); focus (first | assumption | omega | (simp only [bz, fz, hp1, qc6, gsA, gsC, z6]; omega))) | ((with_reducible first | refine g1_u8w ?_ ?_ | refine qg7 ?_ ?_); (focus ((repeat' (with_reducible apply And.intro)) <;> (first | assumption | omega | (simp only [bz, fz, hp1, qc6, gsA, gsC, z6]; omega) | (simp (maxDischargeDepth := 8) only [bb, fz, hp1, qc6, gsA, gsC, z6]; done)))); intro _) | ((with_reducible refine g1_64w ?_ ?_); (focus ((repeat' (with_reducible apply And.intro)) <;> (first | assumption | omega | (simp only [bz, fz, hp1, qc6, gsA, gsC, z6]; omega) | (simp (maxDischargeDepth := 8) only [bb, fz, hp1, qc6, gsA, gsC, z6]; done)))); intro _) | (with_reducible apply call_elim; focus ((with_reducible first | apply e40) <;> (first | assumption | omega | (simp only [bz, fz, hp1, qc6, gsA, gsC, z6]; omega) | (simp (maxDischargeDepth := 8) only [bb, fz, hp1, qc6, gsA, gsC, z6]; done))))))
end Go.Proofs.YtgdldmfkgijkaaaDoor.VH.S
end

section
namespace Go.Proofs.YtgdldmfkgijkaaaDoor.VH.S
open Go.Proofs
set_option maxRecDepth 100000
set_option maxHeartbeats 8000000
set_option linter.unusedSimpArgs false

theorem gsR_cases (cs : List AV) (q n : Nat) : gsR cs q n = .err 4 ∨ gsR cs q n = .err 5 ∨ gsR cs q n = .say (gV (un cs)) (at0 (un cs) 9) (at0 (un cs) 10) (cs.drop (12 + 8 * q)) ((List.range q).map (pX (un cs))) := by
  unfold gsR
  split
  · exact .inl rfl
  · split
    · exact .inl rfl
    · split
      · exact .inr (.inl rfl)
      · exact .inr (.inr rfl)
theorem e14 (d : Nat) (tg : Tg) (cap : Option Nat) (n : Nat) (cs : List AV) (hk : isK .u8 cs = true) (hn : cs.length = n) (hb : B8 (un cs)) : evFun E (d+10) 14 [.sl tg 1 n cap cs] [] = some (gsA (gsO cs), gsC (gsO cs)) := by
  refine evFun_body b14 ?_
  by_cases c0 : n = 0
  · have hr : gsO cs = .err 1 := by simp [gsO, hn, c0]
    (repeat' (first | simp (maxDischargeDepth := 8) only [go_sem, rr, reduceIte, reduceCtorEq, Nat.reduceEqDiff, Nat.reduceAdd, Nat.reduceMul, Nat.reduceSub, Nat.reduceBEq, Nat.reduceLeDiff, Int.reduceEq, Int.reduceLT, Int.reduceLE, Int.reduceGE, Int.reduceGT, Int.reduceBEq, Int.reduceBNe, Int.reduceToNat, Int.reduceNeg, Int.reduceSub, Int.reduceAdd, Int.reduceMul, hr, gsA, gsC, qc6, z6, Tryd.f14] | (with_reducible refine qg9 ?_ ?_; focus (first | (simp (maxDischargeDepth := 8) only [bb, kk, hr, gsA, gsC, qc6, z6]; done) | kernel_rfl)) | ((with_reducible first | refine qf7 ?_ ?_ | refine qf8 ?_ ?_ | refine qf9 ?_ ?_ | refine qg ?_ ?_ | refine qg0 ?_ ?_ | refine qg1 ?_ ?_ | refine qg2 ?_ ?_); focus (first | assumption | omega | (simp only [bz, hr, gsA, gsC, qc6, z6]; omega))) | ((with_reducible first | refine qg3 ?_ ?_ | refine qg4 ?_ ?_ | refine qg5 ?_ ?_); focus (first | assumption | omega | (simp only [bz, hr, gsA, gsC, qc6, z6]; omega))) | ((with_reducible first | refine g1_u8w ?_ ?_ | refine qg7 ?_ ?_); (focus ((repeat' (with_reducible apply And.intro)) <;> (first | assumption | omega | (simp only [bz, hr, gsA, gsC, qc6, z6]; omega) | (simp (maxDischargeDepth := 8) only [bb, hr, gsA, gsC, qc6, z6]; done)))); intro _) | ((with_reducible refine g1_64w ?_ ?_); (focus ((repeat' (with_reducible apply And.intro)) <;> (first | assumption | omega | (simp only [bz, hr, gsA, gsC, qc6, z6]; omega) | (simp (maxDischargeDepth := 8) only [bb, hr, gsA, gsC, qc6, z6]; done)))); intro _)))
  by_cases c1 : n > 600
  · have hr : gsO cs = .err 5 := by simp [gsO, hn, c0, c1]
    (repeat' (first | simp (maxDischargeDepth := 8) only [go_sem, rr, reduceIte, reduceCtorEq, Nat.reduceEqDiff, Nat.reduceAdd, Nat.reduceMul, Nat.reduceSub, Nat.reduceBEq, Nat.reduceLeDiff, Int.reduceEq, Int.reduceLT, Int.reduceLE, Int.reduceGE, Int.reduceGT, Int.reduceBEq, Int.reduceBNe, Int.reduceToNat, Int.reduceNeg, Int.reduceSub, Int.reduceAdd, Int.reduceMul, hr, gsA, gsC, qc6, z6, Tryd.f14] | (with_reducible refine qg9 ?_ ?_; focus (first | (simp (maxDischargeDepth := 8) only [bb, kk, hr, gsA, gsC, qc6, z6]; done) | kernel_rfl)) | ((with_reducible first | refine qf7 ?_ ?_ | refine qf8 ?_ ?_ | refine qf9 ?_ ?_ | refine qg ?_ ?_ | refine qg0 ?_ ?_ | refine qg1 ?_ ?_ | refine qg2 ?_ ?_); focus (first | assumption | omega | (simp only [bz, hr, gsA, gsC, qc6, z6]; omega))) | ((with_reducible first | refine qg3 ?_ ?_ | refine qg4 ?_ ?_ | refine qg5 ?_ ?_); focus (first | assumption | omega | (simp only [bz, hr, gsA, gsC, qc6, z6]; omega))) | ((with_reducible first | refine g1_u8w ?_ ?_ | refine qg7 ?_ ?_); (focus ((repeat' (with_reducible apply And.intro)) <;> (first | assumption | omega | (simp only [bz, hr, gsA, gsC, qc6, z6]; omega) | (simp (maxDischargeDepth := 8) only [bb, hr, gsA, gsC, qc6, z6]; done)))); intro _) | ((with_reducible refine g1_64w ?_ ?_); (focus ((repeat' (with_reducible apply And.intro)) <;> (first | assumption | omega | (simp only [bz, hr, gsA, gsC, qc6, z6]; omega) | (simp (maxDischargeDepth := 8) only [bb, hr, gsA, gsC, qc6, z6]; done)))); intro _)))
  have b0 := hb.at0 0
  by_cases c2 : at0 (un cs) 0 > 3
  · have hr : gsO cs = .err 2 := by simp [gsO, hn, c0, c1, c2]
    (have fz := ga4 hk hn hb hr; repeat' (first | simp (maxDischargeDepth := 8) only [go_sem, rr, reduceIte, reduceCtorEq, Nat.reduceEqDiff, Nat.reduceAdd, Nat.reduceMul, Nat.reduceSub, Nat.reduceBEq, Nat.reduceLeDiff, Int.reduceEq, Int.reduceLT, Int.reduceLE, Int.reduceGE, Int.reduceGT, Int.reduceBEq, Int.reduceBNe, Int.reduceToNat, Int.reduceNeg, Int.reduceSub, Int.reduceAdd, Int.reduceMul, fz, gsA, gsC, qc6, z6, Tryd.f14] | (with_reducible refine qg9 ?_ ?_; focus (first | (simp (maxDischargeDepth := 8) only [bb, kk, fz, gsA, gsC, qc6, z6]; done) | kernel_rfl)) | ((with_reducible first | refine qf7 ?_ ?_ | refine qf8 ?_ ?_ | refine qf9 ?_ ?_ | refine qg ?_ ?_ | refine qg0 ?_ ?_ | refine qg1 ?_ ?_ | refine qg2 ?_ ?_); focus (first | assumption | omega | (simp only [bz, fz, gsA, gsC, qc6, z6]; omega))) | ((with_reducible first | refine qg3 ?_ ?_ | refine qg4 ?_ ?_ | refine qg5 ?_ ?_); focus (first | assumption | omega | (simp only [bz, fz, gsA, gsC, qc6, z6]; omega))) | ((with_reducible first | refine g1_u8w ?_ ?_ | refine qg7 ?_ ?_); (focus ((repeat' (with_reducible apply And.intro)) <;> (first | assumption | omega | (simp only [bz, fz, gsA, gsC, qc6, z6]; omega) | (simp (maxDischargeDepth := 8) only [bb, fz, gsA, gsC, qc6, z6]; done)))); intro _) | ((with_reducible refine g1_64w ?_ ?_); (focus ((repeat' (with_reducible apply And.intro)) <;> (first | assumption | omega | (simp only [bz, fz, gsA, gsC, qc6, z6]; omega) | (simp (maxDischargeDepth := 8) only [bb, fz, gsA, gsC, qc6, z6]; done)))); intro _)))
  by_cases c3 : at0 (un cs) 0 = 2
  · have b11 := hb.at0 11
    by_cases c5 : (n : Int) < 13
    · have hr : gsO cs = .err 3 := by simp [gsO, hn, c0, c1, c2, c3, c5]
      (have fz := ga4 hk hn hb hr; repeat' (first | simp (maxDischargeDepth := 8) only [go_sem, rr, reduceIte, reduceCtorEq, Nat.reduceEqDiff, Nat.reduceAdd, Nat.reduceMul, Nat.reduceSub, Nat.reduceBEq, Nat.reduceLeDiff, Int.reduceEq, Int.reduceLT, Int.reduceLE, Int.reduceGE, Int.reduceGT, Int.reduceBEq, Int.reduceBNe, Int.reduceToNat, Int.reduceNeg, Int.reduceSub, Int.reduceAdd, Int.reduceMul, fz, gsA, gsC, qc6, z6, Tryd.f14] | (with_reducible refine qg9 ?_ ?_; focus (first | (simp (maxDischargeDepth := 8) only [bb, kk, fz, gsA, gsC, qc6, z6]; done) | kernel_rfl)) | ((with_reducible first | refine qf7 ?_ ?_ | refine qf8 ?_ ?_ | refine qf9 ?_ ?_ | refine qg ?_ ?_ | refine qg0 ?_ ?_ | refine qg1 ?_ ?_ | refine qg2 ?_ ?_); focus (first | assumption | omega | (simp only [bz, fz, gsA, gsC, qc6, z6]; omega))) | ((with_reducible first | refine qg3 ?_ ?_ | refine qg4 ?_ ?_ | refine qg5 ?_ ?_); focus (first | assumption | omega | (simp only [bz, fz, gsA, gsC, qc6, z6]; omega))) | ((with_reducible first | refine g1_u8w ?_ ?_ | refine qg7 ?_ ?_); (focus ((repeat' (with_reducible apply And.intro)) <;> (first | assumption | omega | (simp only [bz, fz, gsA, gsC, qc6, z6]; omega) | (simp (maxDischargeDepth := 8) only [bb, fz, gsA, gsC, qc6, z6]; done)))); intro _) | ((with_reducible refine g1_64w ?_ ?_); (focus ((repeat' (with_reducible apply And.intro)) <;> (first | assumption | omega | (simp only [bz, fz, gsA, gsC, qc6, z6]; omega) | (simp (maxDischargeDepth := 8) only [bb, fz, gsA, gsC, qc6, z6]; done)))); intro _)))
    obtain ⟨q, hq⟩ : ∃ q : Nat, at0 (un cs) 11 = (q : Int) := ⟨_, (Int.toNat_of_nonneg b11.1).symm⟩
    by_cases c6 : (n : Int) < 13 + 8 * q
    · have hr : gsO cs = .err 3 := by simp [gsO, hn, c0, c1, c2, c3, c5, hq, c6]
      (have fz := ga5 hk hn hb hq hr; repeat' (first | simp (maxDischargeDepth := 8) only [go_sem, rr, reduceIte, reduceCtorEq, Nat.reduceEqDiff, Nat.reduceAdd, Nat.reduceMul, Nat.reduceSub, Nat.reduceBEq, Nat.reduceLeDiff, Int.reduceEq, Int.reduceLT, Int.reduceLE, Int.reduceGE, Int.reduceGT, Int.reduceBEq, Int.reduceBNe, Int.reduceToNat, Int.reduceNeg, Int.reduceSub, Int.reduceAdd, Int.reduceMul, fz, gsA, gsC, qc6, z6, Tryd.f14] | (with_reducible refine qg9 ?_ ?_; focus (first | (simp (maxDischargeDepth := 8) only [bb, kk, fz, gsA, gsC, qc6, z6]; done) | kernel_rfl)) | ((with_reducible first | refine qf7 ?_ ?_ | refine qf8 ?_ ?_ | refine qf9 ?_ ?_ | refine qg ?_ ?_ | refine qg0 ?_ ?_ | refine qg1 ?_ ?_ | refine qg2 ?_ ?_); focus (first | assumption | omega | (simp only [bz, fz, gsA, gsC, qc6, z6]; omega))) | ((with_reducible first | refine qg3 ?_ ?_ | refine qg4 ?_ ?_ | refine qg5 ?_ ?_); focus (first | assumption | omega | (simp only [bz, fz, gsA, gsC, qc6, z6]; omega))) | ((with_reducible first | refine g1_u8w ?_ ?_ | refine qg7 ?_ ?_); (focus ((repeat' (with_reducible apply And.intro)) <;> (first | assumption | omega | (simp only [bz, fz, gsA, gsC, qc6, z6]; omega) | (simp (maxDischargeDepth := 8) only [bb, fz, gsA, gsC, qc6, z6]; done)))); intro _) | ((with_reducible refine g1_64w ?_ ?_); (focus ((repeat' (with_reducible apply And.intro)) <;> (first | assumption | omega | (simp only [bz, fz, gsA, gsC, qc6, z6]; omega) | (simp (maxDischargeDepth := 8) only [bb, fz, gsA, gsC, qc6, z6]; done)))); intro _)))
    have hr : gsO cs = gsR cs q n := by
      simp only [gsO, hn, c0, c1, c2, c3, c5, hq, c6, if_false, gsR, Int.toNat_natCast, ne_eq, not_true_eq_false, if_neg]
      simp
    have hG : ∀ tg, _ := fun tg => e45 d tg cap n q cs hk hn hb hq (by omega) (by omega)
    rw [hr]
    rcases gsR_cases cs q n with h | h | h
    · rw [h]
      simp only [h, gsA, gsC] at hG
      (have fz := ga5 hk hn hb hq hG; repeat' (first | simp (maxDischargeDepth := 8) only [go_sem, rr, reduceIte, reduceCtorEq, Nat.reduceEqDiff, Nat.reduceAdd, Nat.reduceMul, Nat.reduceSub, Nat.reduceBEq, Nat.reduceLeDiff, Int.reduceEq, Int.reduceLT, Int.reduceLE, Int.reduceGE, Int.reduceGT, Int.reduceBEq, Int.reduceBNe, Int.reduceToNat, Int.reduceNeg, Int.reduceSub, Int.reduceAdd, Int.reduceMul, fz, gsA, gsC, qc6, z6, Tryd.f14] | (with_reducible refine qg9 ?_ ?_; focus (first | (simp (maxDischargeDepth := 8) only [bb, kk, fz, gsA, gsC, qc6, z6]; done) | kernel_rfl)) | ((with_reducible first | refine qf7 ?_ ?_ | refine qf8 ?_ ?_ | refine qf9 ?_ ?_ | refine qg ?_ ?_ | refine qg0 ?_ ?_ | refine qg1 ?_ ?_ | refine qg2 ?_ ?_); focus (first | assumption | omega | (simp only [bz, fz, gsA, gsC, qc6, z6]; omega))) | ((with_reducible first | refine qg3 ?_ ?_ | refine qg4 ?_ ?_ | refine qg5 ?_ ?_); focus (first | assumption | omega | (simp only [bz, fz, gsA, gsC, qc6, z6]; omega))) | ((with_reducible first | refine g1_u8w ?_ ?_ | refine qg7 ?_ ?_); (focus ((repeat' (with_reducible apply And.intro)) <;> (first | assumption | omega | (simp only [bz, fz, gsA, gsC, qc6, z6]; omega) | (simp (maxDischargeDepth := 8) only [bb, fz, gsA, gsC, qc6, z6]; done)))); intro _) | ((with_reducible refine g1_64w ?_ ?_); (focus ((repeat' (with_reducible apply And.intro)) <;> (first | assumption | omega | (simp only [bz, fz, gsA, gsC, qc6, z6]; omega) | (simp (maxDischargeDepth := 8) only [bb, fz, gsA, gsC, qc6, z6]; done)))); intro _)))
    · rw [h]
      simp only [h, gsA, gsC] at hG
      (have fz := ga5 hk hn hb hq hG; repeat' (first | simp (maxDischargeDepth := 8) only [go_sem, rr, reduceIte, reduceCtorEq, Nat.reduceEqDiff, Nat.reduceAdd, Nat.reduceMul, Nat.reduceSub, Nat.reduceBEq, Nat.reduceLeDiff, Int.reduceEq, Int.reduceLT, Int.reduceLE, Int.reduceGE, Int.reduceGT, Int.reduceBEq, Int.reduceBNe, Int.reduceToNat, Int.reduceNeg, Int.reduceSub, Int.reduceAdd, Int.reduceMul, fz, gsA, gsC, qc6, z6, Tryd.f14] | (with_reducible refine qg9 ?_ ?_; focus (first | (simp (maxDischargeDepth := 8) only [bb, kk, fz, gsA, gsC, qc6, z6]; done) | kernel_rfl)) | ((with_reducible first | refine qf7 ?_ ?_ | refine qf8 ?_ ?_ | refine qf9 ?_ ?_ | refine qg ?_ ?_ | refine qg0 ?_ ?_ | refine qg1 ?_ ?_ | refine qg2 ?_ ?_); focus (first | assumption | omega | (simp only [bz, fz, gsA, gsC, qc6, z6]; omega))) | ((with_reducible first | refine qg3 ?_ ?_ | refine qg4 ?_ ?_ | refine qg5 ?_ ?_); focus (first | assumption | omega | (simp only [bz, fz, gsA, gsC, qc6, z6]; omega))) | ((with_reducible first | refine g1_u8w ?_ ?_ | refine qg7 ?_ ?_); (focus ((repeat' (with_reducible apply And.intro)) <;> (first | assumption | omega | (simp only [bz, fz, gsA, gsC, qc6, z6]; omega) | (simp (maxDischargeDepth := 8) only [bb, fz, gsA, gsC, qc6, z6]; done)))); intro _) | ((with_reducible refine g1_64w ?_ ?_); (focus ((repeat' (with_reducible apply And.intro)) <;> (first | assumption | omega | (simp only [bz, fz, gsA, gsC, qc6, z6]; omega) | (simp (maxDischargeDepth := 8) only [bb, fz, gsA, gsC, qc6, z6]; done)))); intro _)))
    · rw [h]
      have y6 : isK .u8 (cs.drop (12 + 8 * q)) = true := isK_drop _ hk
      have y9 := isK_own y6
      have y10 := isK_snap y6
      have z1 : (List.range q).length = q := List.length_range
      have z2 : ((List.range q).map (pX (un cs))).map (iv .i64) = pathC (un cs) q := rfl
      have z4 : qf2 (pathC (un cs) q) = true := noSnapL_iv _ _
      have z5 : (cs.drop (12 + 8 * q)).take (cs.drop (12 + 8 * q)).length = cs.drop (12 + 8 * q) := List.take_length
      rcases Nat.eq_zero_or_pos q with hq0 | hq0
      · simp only [h, gsA, gsC, List.length_map, z1, if_pos hq0] at hG
        generalize cs.drop (12 + 8 * q) = ds at *
        (have fz := ga9 hk hn hb hq hG y9 y10 z5 z1; repeat' (first | simp (maxDischargeDepth := 8) only [go_sem, rr, reduceIte, reduceCtorEq, Nat.reduceEqDiff, Nat.reduceAdd, Nat.reduceMul, Nat.reduceSub, Nat.reduceBEq, Nat.reduceLeDiff, Int.reduceEq, Int.reduceLT, Int.reduceLE, Int.reduceGE, Int.reduceGT, Int.reduceBEq, Int.reduceBNe, Int.reduceToNat, Int.reduceNeg, Int.reduceSub, Int.reduceAdd, Int.reduceMul, fz, gsA, gsC, qc6, z6, List.length_map, if_pos hq0, Tryd.f14] | (with_reducible refine qg9 ?_ ?_; focus (first | (simp (maxDischargeDepth := 8) only [bb, kk, fz, gsA, gsC, qc6, z6, List.length_map, if_pos hq0]; done) | kernel_rfl)) | ((with_reducible first | refine qf7 ?_ ?_ | refine qf8 ?_ ?_ | refine qf9 ?_ ?_ | refine qg ?_ ?_ | refine qg0 ?_ ?_ | refine qg1 ?_ ?_ | refine qg2 ?_ ?_); focus (first | assumption | omega | (simp only [bz, fz, gsA, gsC, qc6, z6, List.length_map, if_pos hq0]; omega))) | ((with_reducible first | refine qg3 ?_ ?_ | refine qg4 ?_ ?_ | refine qg5 ?_ ?_); focus (first | assumption | omega | (simp only [bz, fz, gsA, gsC, qc6, z6, List.length_map, if_pos hq0]; omega))) | ((with_reducible first | refine g1_u8w ?_ ?_ | refine qg7 ?_ ?_); (focus ((repeat' (with_reducible apply And.intro)) <;> (first | assumption | omega | (simp only [bz, fz, gsA, gsC, qc6, z6, List.length_map, if_pos hq0]; omega) | (simp (maxDischargeDepth := 8) only [bb, fz, gsA, gsC, qc6, z6, List.length_map, if_pos hq0]; done)))); intro _) | ((with_reducible refine g1_64w ?_ ?_); (focus ((repeat' (with_reducible apply And.intro)) <;> (first | assumption | omega | (simp only [bz, fz, gsA, gsC, qc6, z6, List.length_map, if_pos hq0]; omega) | (simp (maxDischargeDepth := 8) only [bb, fz, gsA, gsC, qc6, z6, List.length_map, if_pos hq0]; done)))); intro _)))
      · simp only [h, gsA, gsC, List.length_map, z1, z2, if_neg (show ¬ q = 0 by omega)] at hG
        generalize cs.drop (12 + 8 * q) = ds at *
        (have fz := ga11 hk hn hb hq hG y9 y10 z5 z1 z2 z4; repeat' (first | simp (maxDischargeDepth := 8) only [go_sem, rr, reduceIte, reduceCtorEq, Nat.reduceEqDiff, Nat.reduceAdd, Nat.reduceMul, Nat.reduceSub, Nat.reduceBEq, Nat.reduceLeDiff, Int.reduceEq, Int.reduceLT, Int.reduceLE, Int.reduceGE, Int.reduceGT, Int.reduceBEq, Int.reduceBNe, Int.reduceToNat, Int.reduceNeg, Int.reduceSub, Int.reduceAdd, Int.reduceMul, fz, gsA, gsC, qc6, z6, List.length_map, pathC_len, pathC_take, pathC_own, if_neg (show ¬ q = 0 by omega), Tryd.f14] | (with_reducible refine qg9 ?_ ?_; focus (first | (simp (maxDischargeDepth := 8) only [bb, kk, fz, gsA, gsC, qc6, z6, List.length_map, pathC_len, pathC_take, pathC_own, if_neg (show ¬ q = 0 by omega)]; done) | kernel_rfl)) | ((with_reducible first | refine qf7 ?_ ?_ | refine qf8 ?_ ?_ | refine qf9 ?_ ?_ | refine qg ?_ ?_ | refine qg0 ?_ ?_ | refine qg1 ?_ ?_ | refine qg2 ?_ ?_); focus (first | assumption | omega | (simp only [bz, fz, gsA, gsC, qc6, z6, List.length_map, pathC_len, pathC_take, pathC_own, if_neg (show ¬ q = 0 by omega)]; omega))) | ((with_reducible first | refine qg3 ?_ ?_ | refine qg4 ?_ ?_ | refine qg5 ?_ ?_); focus (first | assumption | omega | (simp only [bz, fz, gsA, gsC, qc6, z6, List.length_map, pathC_len, pathC_take, pathC_own, if_neg (show ¬ q = 0 by omega)]; omega))) | ((with_reducible first | refine g1_u8w ?_ ?_ | refine qg7 ?_ ?_); (focus ((repeat' (with_reducible apply And.intro)) <;> (first | assumption | omega | (simp only [bz, fz, gsA, gsC, qc6, z6, List.length_map, pathC_len, pathC_take, pathC_own, if_neg (show ¬ q = 0 by omega)]; omega) | (simp (maxDischargeDepth := 8) only [bb, fz, gsA, gsC, qc6, z6, List.length_map, pathC_len, pathC_take, pathC_own, if_neg (show ¬ q = 0 by omega)]; done)))); intro _) | ((with_reducible refine g1_64w ?_ ?_); (focus ((repeat' (with_reducible apply And.intro)) <;> (first | assumption | omega | (simp only [bz, fz, gsA, gsC, qc6, z6, List.length_map, pathC_len, pathC_take, pathC_own, if_neg (show ¬ q = 0 by omega)]; omega) | (simp (maxDischargeDepth := 8) only [bb, fz, gsA, gsC, qc6, z6, List.length_map, pathC_len, pathC_take, pathC_own, if_neg (show ¬ q = 0 by omega)]; done)))); intro _)))
  by_cases c4 : n > 1
  · have hr : gsO cs = .err 5 := by simp [gsO, hn, c0, c1, c2, c3, c4]
    (have fz := ga4 hk hn hb hr; repeat' (first | simp (maxDischargeDepth := 8) only [go_sem, rr, reduceIte, reduceCtorEq, Nat.reduceEqDiff, Nat.reduceAdd, Nat.reduceMul, Nat.reduceSub, Nat.reduceBEq, Nat.reduceLeDiff, Int.reduceEq, Int.reduceLT, Int.reduceLE, Int.reduceGE, Int.reduceGT, Int.reduceBEq, Int.reduceBNe, Int.reduceToNat, Int.reduceNeg, Int.reduceSub, Int.reduceAdd, Int.reduceMul, fz, gsA, gsC, qc6, z6, Tryd.f14] | (with_reducible refine qg9 ?_ ?_; focus (first | (simp (maxDischargeDepth := 8) only [bb, kk, fz, gsA, gsC, qc6, z6]; done) | kernel_rfl)) | ((with_reducible first | refine qf7 ?_ ?_ | refine qf8 ?_ ?_ | refine qf9 ?_ ?_ | refine qg ?_ ?_ | refine qg0 ?_ ?_ | refine qg1 ?_ ?_ | refine qg2 ?_ ?_); focus (first | assumption | omega | (simp only [bz, fz, gsA, gsC, qc6, z6]; omega))) | ((with_reducible first | refine qg3 ?_ ?_ | refine qg4 ?_ ?_ | refine qg5 ?_ ?_); focus (first | assumption | omega | (simp only [bz, fz, gsA, gsC, qc6, z6]; omega))) | ((with_reducible first | refine g1_u8w ?_ ?_ | refine qg7 ?_ ?_); (focus ((repeat' (with_reducible apply And.intro)) <;> (first | assumption | omega | (simp only [bz, fz, gsA, gsC, qc6, z6]; omega) | (simp (maxDischargeDepth := 8) only [bb, fz, gsA, gsC, qc6, z6]; done)))); intro _) | ((with_reducible refine g1_64w ?_ ?_); (focus ((repeat' (with_reducible apply And.intro)) <;> (first | assumption | omega | (simp only [bz, fz, gsA, gsC, qc6, z6]; omega) | (simp (maxDischargeDepth := 8) only [bb, fz, gsA, gsC, qc6, z6]; done)))); intro _)))
  have hr : gsO cs = .kind (at0 (un cs) 0) := by simp [gsO, hn, c0, c1, c2, c3, c4]
  (have fz := ga4 hk hn hb hr; repeat' (first | simp (maxDischargeDepth := 8) only [go_sem, rr, reduceIte, reduceCtorEq, Nat.reduceEqDiff, Nat.reduceAdd, Nat.reduceMul, Nat.reduceSub, Nat.reduceBEq, Nat.reduceLeDiff, Int.reduceEq, Int.reduceLT, Int.reduceLE, Int.reduceGE, Int.reduceGT, Int.reduceBEq, Int.reduceBNe, Int.reduceToNat, Int.reduceNeg, Int.reduceSub, Int.reduceAdd, Int.reduceMul, fz, gsA, gsC, qc6, z6, Tryd.f14] | (with_reducible refine qg9 ?_ ?_; focus (first | (simp (maxDischargeDepth := 8) only [bb, kk, fz, gsA, gsC, qc6, z6]; done) | kernel_rfl)) | ((with_reducible first | refine qf7 ?_ ?_ | refine qf8 ?_ ?_ | refine qf9 ?_ ?_ | refine qg ?_ ?_ | refine qg0 ?_ ?_ | refine qg1 ?_ ?_ | refine qg2 ?_ ?_); focus (first | assumption | omega | (simp only [bz, fz, gsA, gsC, qc6, z6]; omega))) | ((with_reducible first | refine qg3 ?_ ?_ | refine qg4 ?_ ?_ | refine qg5 ?_ ?_); focus (first | assumption | omega | (simp only [bz, fz, gsA, gsC, qc6, z6]; omega))) | ((with_reducible first | refine g1_u8w ?_ ?_ | refine qg7 ?_ ?_); (focus ((repeat' (with_reducible apply And.intro)) <;> (first | assumption | omega | (simp only [bz, fz, gsA, gsC, qc6, z6]; omega) | (simp (maxDischargeDepth := 8) only [bb, fz, gsA, gsC, qc6, z6]; done)))); intro _) | ((with_reducible refine g1_64w ?_ ?_); (focus ((repeat' (with_reducible apply And.intro)) <;> (first | assumption | omega | (simp only [bz, fz, gsA, gsC, qc6, z6]; omega) | (simp (maxDischargeDepth := 8) only [bb, fz, gsA, gsC, qc6, z6]; done)))); intro _)))
end Go.Proofs.YtgdldmfkgijkaaaDoor.VH.S
end

section
namespace Go.Proofs.YtgdldmfkgijkaaaDoor.VH.S
open Go.Proofs
set_option maxRecDepth 100000
set_option maxHeartbeats 8000000
set_option linter.unusedSimpArgs false

/- The wire's plain laws: says. -/
theorem w8_id {x : Int} (h0 : 0 ≤ x) (h1 : x < 256) : w8 x = x := by rw [w8, wrap8 h0 h1]
theorem sayOk_parts {v m a : Int} {n : Nat} {p : List Int} (h : sayOk 2 v n m a p = true) : (0 ≤ v ∧ v ≤ 1000000) ∧ (1 ≤ n ∧ n ≤ 200) ∧ (1 ≤ m ∧ m ≤ 8) ∧ (0 ≤ a ∧ a ≤ m - 1) ∧ p.length ≤ 4 ∧ p.any bad = false := by
  rw [sayOk, if_pos rfl] at h
  simp only [Bool.and_eq_true, decide_eq_true_eq, Bool.not_eq_true'] at h
  obtain ⟨⟨⟨⟨⟨⟨h1, h2⟩, h3⟩, h4⟩, h5⟩, h6⟩, h7⟩ := h
  exact ⟨⟨h1, h2⟩, h3, h4, h5, h6, h7⟩
theorem flat8_len : ∀ p : List Int, (p.flatMap eightL).length = 8 * p.length
  | [] => rfl
  | x :: p => by rw [List.flatMap_cons, List.length_append, flat8_len p, eight_len, List.length_cons]; omega
theorem flat8_get : ∀ (p : List Int) (sh : List Int) (i : Nat) (h : i < p.length), ((p.flatMap eightL ++ sh).drop (8 * i)).take 8 = eightL p[i]
  | x :: p, sh, 0, _ => by
    rw [List.flatMap_cons, Nat.mul_zero, List.drop_zero, List.append_assoc, List.take_append_of_le_length (by rw [eight_len]; exact Nat.le_refl _)]
    exact List.take_of_length_le (by rw [eight_len]; exact Nat.le_refl _)
  | x :: p, sh, i + 1, h => by
    have := flat8_get p sh i (by simpa using h)
    rw [List.flatMap_cons, List.append_assoc, show 8 * (i + 1) = (eightL x).length + 8 * i by rw [eight_len]; omega, List.drop_length_add_append]
    simpa using this
abbrev hd12 (v m a : Int) (n : Nat) : List Int := [2] ++ eightL v ++ [w8 m, w8 a, w8 n]
theorem py2 (v m a : Int) (sh p : List Int) : pyL 2 v m a sh p = hd12 v m a p.length ++ (p.flatMap eightL ++ sh) := by
  rw [pyL, if_pos rfl, List.append_assoc]
theorem hd12_len (v m a : Int) (n : Nat) : (hd12 v m a n).length = 12 := rfl
theorem py_drop (v m a : Int) (sh p : List Int) (i : Nat) : (pyL 2 v m a sh p).drop (12 + i) = (p.flatMap eightL ++ sh).drop i := by
  rw [py2, ← hd12_len v m a p.length, List.drop_length_add_append]
theorem gs_put {k v m a : Int} {sh p : List Int} (h8 : B8 sh) (h : sayOk k v sh.length m a p = true) : gsO ((pyL k v m a sh p).map (iv .u8)) = if k = 2 then .say v m a (sh.map (iv .u8)) p else .kind k := by
  by_cases hk : k = 2
  · subst hk
    obtain ⟨hv, hn, hm, ha, hp, hb⟩ := sayOk_parts h
    have hl : (pyL 2 v m a sh p).length = 12 + 8 * p.length + sh.length := by rw [py2, List.length_append, hd12_len, List.length_append, flat8_len]; omega
    have e0 : at0 (pyL 2 v m a sh p) 0 = 2 := rfl
    have e9 : at0 (pyL 2 v m a sh p) 9 = m := (show at0 (pyL 2 v m a sh p) 9 = w8 m from rfl).trans (w8_id (by omega) (by omega))
    have e10 : at0 (pyL 2 v m a sh p) 10 = a := (show at0 (pyL 2 v m a sh p) 10 = w8 a from rfl).trans (w8_id (by omega) (by omega))
    have e11 : at0 (pyL 2 v m a sh p) 11 = (p.length : Int) := (show at0 (pyL 2 v m a sh p) 11 = w8 p.length from rfl).trans (w8_id (by omega) (by omega))
    have ev : gV (pyL 2 v m a sh p) = v := (show gV (pyL 2 v m a sh p) = numB (eightL v) from rfl).trans (numB_eight (by omega) (by omega))
    have ep : ∀ i (hi : i < p.length), pX (pyL 2 v m a sh p) i = p[i] := by
      intro i hi
      have h1 := List.any_eq_false.mp hb p[i] (List.getElem_mem hi)
      simp only [bad, Bool.not_eq_true', Bool.not_eq_false, Bool.and_eq_true, decide_eq_true_eq] at h1
      rw [pX, py_drop, flat8_get p sh i hi, numB_eight (by omega) (by omega)]
    have epl : (List.range p.length).map (pX (pyL 2 v m a sh p)) = p := by
      apply List.ext_getElem (by simp)
      intro i h1 h2
      rw [List.getElem_map, List.getElem_range]; exact ep i h2
    have hpb : pB (pyL 2 v m a sh p) p.length = false := by
      refine List.any_eq_false.mpr fun i hi => ?_
      rw [List.mem_range] at hi
      have h1 := List.any_eq_false.mp hb p[i] (List.getElem_mem hi)
      simp only [bad, Bool.not_eq_true', Bool.not_eq_false, Bool.and_eq_true, decide_eq_true_eq] at h1
      rw [ep i hi]; simp only [decide_eq_true_eq]; omega
    have h4 : g4 (pyL 2 v m a sh p) = false := by
      rw [g4, ev, e9, e10, e11]
      simp only [Bool.or_eq_false_iff, decide_eq_false_iff_not, Bool.not_eq_false', Bool.and_eq_true, decide_eq_true_eq]; omega
    have hd : ((pyL 2 v m a sh p).map (iv .u8)).drop (12 + 8 * p.length) = sh.map (iv .u8) := by
      rw [← List.map_drop, py_drop, List.drop_append_of_le_length (by rw [flat8_len]; exact Nat.le_refl _), List.drop_of_length_le (by rw [flat8_len]; exact Nat.le_refl _), List.nil_append]
    unfold gsO
    rw [un_map, List.length_map, hl, e0, e11, h4, Int.toNat_natCast, hpb, ev, e9, e10, epl, hd]
    rw [if_neg (by omega), if_neg (by omega), if_neg (by omega), if_neg (by omega), if_neg (by omega), if_neg (by omega), if_neg (by simp), if_neg (by simp), if_neg (by omega), if_pos rfl]
  · rw [if_neg hk]
    rw [sayOk, if_neg hk] at h
    simp only [Bool.and_eq_true, decide_eq_true_eq] at h
    have e : pyL k v m a sh p = [k] := by rw [pyL, if_neg hk, w8_id (by omega) (by omega)]
    rw [e]
    have e0 : at0 (un ([k].map (iv .u8))) 0 = k := rfl
    unfold gsO
    rw [e0, if_neg (by simp), if_neg (by simp), if_neg (by omega), if_pos hk, if_neg (by simp)]
theorem list12 {l : List Int} (h : 12 ≤ l.length) : l.take 12 = [at0 l 0] ++ (l.drop 1).take 8 ++ [at0 l 9, at0 l 10, at0 l 11] := by
  match l, h with
  | a0 :: a1 :: a2 :: a3 :: a4 :: a5 :: a6 :: a7 :: a8 :: a9 :: a10 :: a11 :: l, _ => rfl
theorem flat_pX {l : List Int} (h8 : B8 l) : ∀ q : Nat, 12 + 8 * q ≤ l.length → pB l q = false → ((List.range q).map (pX l)).flatMap eightL = (l.drop 12).take (8 * q)
  | 0, _, _ => by simp
  | q + 1, hl, hb => by
    rw [pB, List.range_succ, List.any_append, Bool.or_eq_false_iff] at hb
    have h1 : pX l q < 1152921504606846976 := by have := hb.2; simp at this; omega
    have e : eightL (pX l q) = (l.drop (12 + 8 * q)).take 8 := eight_num ((h8.drop _).take _) (by rw [List.length_take, List.length_drop]; omega) (by unfold pX at h1; omega)
    rw [List.range_succ, List.map_append, List.flatMap_append, flat_pX h8 q (by omega) hb.1]
    simp only [List.map_cons, List.map_nil, List.flatMap_cons, List.flatMap_nil, List.append_nil]
    rw [e, show 8 * (q + 1) = 8 * q + 8 by omega, List.take_add, List.drop_drop]
/-- a say that is read well is what is put -/
theorem put_gs {cs : List AV} (hk : isK .u8 cs = true) (h8 : B8 (un cs)) {v m a : Int} {sh : List AV} {p : List Int} (h : gsO cs = .say v m a sh p) :
    sh = (un sh).map (iv .u8) ∧ B8 (un sh) ∧ sayOk 2 v (un sh).length m a p = true ∧ pyL 2 v m a (un sh) p = un cs ∧ p.length ≤ 4 := by
  have hul : (un cs).length = cs.length := un_len cs
  unfold gsO at h
  split at h; · cases h
  split at h; · cases h
  split at h; · cases h
  split at h
  · split at h <;> cases h
  rename_i h2
  split at h; · cases h
  split at h; · cases h
  split at h; · cases h
  split at h; · cases h
  split at h; · cases h
  rename_i c1 c2 c3 c4 c5
  have b11 := h8.at0 11
  obtain ⟨q, hq⟩ : ∃ q : Nat, at0 (un cs) 11 = (q : Int) := ⟨(at0 (un cs) 11).toNat, by omega⟩
  rw [hq] at h c2 c4 c5
  simp only [Int.toNat_natCast] at h c4 c5
  have c3' : g4 (un cs) = false := by simpa using c3
  have c4' : pB (un cs) q = false := by simpa using c4
  simp only [g4, Bool.or_eq_false_iff, decide_eq_false_iff_not, Bool.not_eq_false', Bool.and_eq_true, decide_eq_true_eq, hq] at c3'
  obtain ⟨⟨⟨g1, g2⟩, g3⟩, g5⟩ := c3'
  injection h with e1 e2 e3 e4 e5
  have hx : isK .u8 sh = true := by rw [← e4]; exact isK_drop _ hk
  have hus : un sh = (un cs).drop (12 + 8 * q) := by rw [← e4, un_drop]
  have hsl : (un sh).length = cs.length - (12 + 8 * q) := by rw [hus, List.length_drop, hul]
  have b10 := h8.at0 10
  have hv0 : 0 ≤ gV (un cs) := numB_nn ((h8.drop 1).take 8)
  have hpl : p.length = q := by rw [← e5]; simp
  have hpb : p.any bad = false := by
    refine List.any_eq_false.mpr fun x hx => ?_
    rw [← e5] at hx
    obtain ⟨i, hi, rfl⟩ := List.mem_map.mp hx
    rw [List.mem_range] at hi
    have h1 := List.any_eq_false.mp c4' i (List.mem_range.mpr hi)
    have h0 : 0 ≤ pX (un cs) i := numB_nn ((h8.drop _).take 8)
    simp only [decide_eq_true_eq] at h1
    simp only [bad, Bool.not_eq_true', Bool.not_eq_false, Bool.and_eq_true, decide_eq_true_eq]; omega
  refine ⟨isK_get hx, by rw [hus]; exact h8.drop _, ?_, ?_, by omega⟩
  · rw [sayOk, if_pos rfl, hsl, hpl, hpb]
    simp only [Bool.and_eq_true, decide_eq_true_eq, Bool.not_eq_true']
    rw [← e1, ← e2, ← e3]
    exact ⟨⟨⟨⟨⟨⟨by omega, by omega⟩, by omega, by omega⟩, by omega, by omega⟩, by omega, by omega⟩, by omega⟩, trivial⟩
  · have ev : eightL (gV (un cs)) = ((un cs).drop 1).take 8 := eight_num ((h8.drop _).take _) (by rw [List.length_take, List.length_drop, hul]; omega) (by unfold gV at g1; omega)
    have h12 := list12 (l := un cs) (by omega)
    have e0 : at0 (un cs) 0 = 2 := by simpa using h2
    have hfl := flat_pX h8 q (by omega) c4'
    rw [pyL, if_pos rfl, hpl, ← e1, ← e2, ← e3, ← e5, hfl, hus, ev, w8_id (by omega) (by omega), w8_id (by omega) (by omega), w8_id (by omega) (by omega), ← hq, ← e0, ← h12, List.append_assoc]
    have hd : (un cs).drop (12 + 8 * q) = ((un cs).drop 12).drop (8 * q) := by rw [List.drop_drop]
    rw [hd, List.take_append_drop, List.take_append_drop]
theorem put_gk {cs : List AV} (h8 : B8 (un cs)) {k : Int} (h : gsO cs = .kind k) : sayOk k 0 0 0 0 [] = true ∧ [k] = un cs ∧ k ≠ 2 := by
  have hul : (un cs).length = cs.length := un_len cs
  unfold gsO at h
  split at h; · cases h
  split at h; · cases h
  split at h; · cases h
  rename_i c0 c1 c2
  split at h
  · rename_i c3
    split at h
    · cases h
    · rename_i c4
      injection h with e; subst e
      have b0 := h8.at0 0
      refine ⟨?_, ?_, c3⟩
      · rw [sayOk, if_neg c3]; simp; omega
      · match hu : un cs, hul with
        | [], h => simp at h; omega
        | [x], _ => rfl
        | _ :: _ :: _, h => simp at h; omega
  · split at h; · cases h
    split at h; · cases h
    split at h; · cases h
    split at h; · cases h
    split at h; · cases h
    cases h
end Go.Proofs.YtgdldmfkgijkaaaDoor.VH.S
end

section
namespace Go.Proofs.YtgdldmfkgijkaaaDoor.VH.S
open Go.Proofs
set_option maxRecDepth 100000
set_option maxHeartbeats 8000000
set_option linter.unusedSimpArgs false

/- Drawn bytes of asks and says. -/
theorem y54 (d : Nat) (k v : Int) (nm : List UInt8) (l : List Int) (c : Option Nat) (h1 : nm.length ≤ 9) (h2 : l.length ≤ 541) (h8 : B8 l) :
    ∃ n cap l' ok, evFun E (d+4) 54 [.agg [vi k, vs nm, vi v, .sl .snap 1 l.length c (l.map (iv .u8))]] [] = some (.tup [.ref 0 [] 1 0 n cap, vb ok], [some (l'.map (iv .u8))]) ∧ l'.length = n ∧ n ≤ 600 ∧ B8 l' := by
  cases hok : askOk k nm v l.length with
  | true =>
    obtain ⟨q1, q2, q3, q4⟩ := askOk_parts hok
    have h := e54 d k v nm l.length c (l.map (iv .u8)) (by omega) (isK_map _ _) (by simp) hok
    rw [askB_askL] at h
    exact ⟨_, _, _, _, h, by rw [askL_len]; omega, by omega, askL_b8 q1 q2 h8⟩
  | false => exact ⟨_, _, [], _, e54f d k v nm l.length c (l.map (iv .u8)) (by omega) hok, rfl, by decide, fun x h => by simp at h⟩
theorem x18 (d : Nat) (b : List Int) (hb : b.length ≤ 2 ^ 39) : ∃ cs n cap, evFun E (d+6) 18 [.sl .fgn 1 b.length none (b.map (iv .u8))] [] = some (.ref 0 [] 1 0 n cap, [some cs]) ∧ Byt cs n 601 := by
  obtain ⟨k, nm, v, o, s', h, h1, h2⟩ := x33 d b (0, newH b (newN b)) hb
  cases o with
  | none =>
    obtain ⟨n, cap, l', ok, hP, p1, p2, p3⟩ := y54 (d+1) k v nm [] (some 0) h1 (by decide) (fun x h => by simp at h)
    obtain ⟨kk, cs', n', cap', s2, hB, hk, hby, _⟩ := x50 (d+2) b s' n 600 cap (l'.map (iv .u8)) hb (isK_map _ _) (by rw [un_map]; exact p3) (by simpa using p1) p2 (by decide)
    have ho := isK_own hby.1
    have hs := isK_snap hby.1
    have ho2 := anyOwn_iv .u8 l'
    refine ⟨cs', n', cap', evFun_body b18 ?_, hby⟩
    simp only [askX, askR] at h
    simp only [List.length_nil, List.map_nil] at hP
    rcases hk with rfl | rfl
    · simp only [reduceIte] at hB
      (have fz := ga6 h hP hB ho hs ho2; repeat' (first | simp (maxDischargeDepth := 8) only [go_sem, rr, reduceIte, reduceCtorEq, Nat.reduceEqDiff, Nat.reduceAdd, Nat.reduceMul, Nat.reduceSub, Nat.reduceBEq, Nat.reduceLeDiff, Int.reduceEq, Int.reduceLT, Int.reduceLE, Int.reduceGE, Int.reduceGT, Int.reduceBEq, Int.reduceBNe, Int.reduceToNat, Int.reduceNeg, Int.reduceSub, Int.reduceAdd, Int.reduceMul, fz, cur_own, cur_snap, Tryd.f18] | (with_reducible refine qg9 ?_ ?_; focus (first | (simp (maxDischargeDepth := 8) only [bb, kk, fz, cur_own, cur_snap]; done) | kernel_rfl)) | ((with_reducible first | refine qf7 ?_ ?_ | refine qf8 ?_ ?_ | refine qf9 ?_ ?_ | refine qg ?_ ?_ | refine qg0 ?_ ?_ | refine qg1 ?_ ?_ | refine qg2 ?_ ?_); focus (first | assumption | omega | (simp only [bz, fz, cur_own, cur_snap]; omega))) | ((with_reducible first | refine qg3 ?_ ?_ | refine qg4 ?_ ?_ | refine qg5 ?_ ?_); focus (first | assumption | omega | (simp only [bz, fz, cur_own, cur_snap]; omega))) | ((with_reducible first | refine g1_u8w ?_ ?_ | refine qg7 ?_ ?_); (focus ((repeat' (with_reducible apply And.intro)) <;> (first | assumption | omega | (simp only [bz, fz, cur_own, cur_snap]; omega) | (simp (maxDischargeDepth := 8) only [bb, fz, cur_own, cur_snap]; done)))); intro _) | (with_reducible apply call_elim; focus ((with_reducible first | apply e34) <;> (first | assumption | omega | (simp only [bz, fz, cur_own, cur_snap]; omega) | (simp (maxDischargeDepth := 8) only [bb, fz, cur_own, cur_snap]; done))))))
    · simp only [reduceIte, Nat.reduceEqDiff] at hB
      (have fz := ga6 h hP hB ho hs ho2; repeat' (first | simp (maxDischargeDepth := 8) only [go_sem, rr, reduceIte, reduceCtorEq, Nat.reduceEqDiff, Nat.reduceAdd, Nat.reduceMul, Nat.reduceSub, Nat.reduceBEq, Nat.reduceLeDiff, Int.reduceEq, Int.reduceLT, Int.reduceLE, Int.reduceGE, Int.reduceGT, Int.reduceBEq, Int.reduceBNe, Int.reduceToNat, Int.reduceNeg, Int.reduceSub, Int.reduceAdd, Int.reduceMul, fz, cur_own, cur_snap, Tryd.f18] | (with_reducible refine qg9 ?_ ?_; focus (first | (simp (maxDischargeDepth := 8) only [bb, kk, fz, cur_own, cur_snap]; done) | kernel_rfl)) | ((with_reducible first | refine qf7 ?_ ?_ | refine qf8 ?_ ?_ | refine qf9 ?_ ?_ | refine qg ?_ ?_ | refine qg0 ?_ ?_ | refine qg1 ?_ ?_ | refine qg2 ?_ ?_); focus (first | assumption | omega | (simp only [bz, fz, cur_own, cur_snap]; omega))) | ((with_reducible first | refine qg3 ?_ ?_ | refine qg4 ?_ ?_ | refine qg5 ?_ ?_); focus (first | assumption | omega | (simp only [bz, fz, cur_own, cur_snap]; omega))) | ((with_reducible first | refine g1_u8w ?_ ?_ | refine qg7 ?_ ?_); (focus ((repeat' (with_reducible apply And.intro)) <;> (first | assumption | omega | (simp only [bz, fz, cur_own, cur_snap]; omega) | (simp (maxDischargeDepth := 8) only [bb, fz, cur_own, cur_snap]; done)))); intro _) | (with_reducible apply call_elim; focus ((with_reducible first | apply e34) <;> (first | assumption | omega | (simp only [bz, fz, cur_own, cur_snap]; omega) | (simp (maxDischargeDepth := 8) only [bb, fz, cur_own, cur_snap]; done))))))
  | some l =>
    obtain ⟨q1, q2⟩ := h2 l rfl
    obtain ⟨n, cap, l', ok, hP, p1, p2, p3⟩ := y54 (d+1) k v nm l none h1 q2 q1
    obtain ⟨kk, cs', n', cap', s2, hB, hk, hby, _⟩ := x50 (d+2) b s' n 600 cap (l'.map (iv .u8)) hb (isK_map _ _) (by rw [un_map]; exact p3) (by simpa using p1) p2 (by decide)
    have ho := isK_own hby.1
    have hs := isK_snap hby.1
    have ho2 := anyOwn_iv .u8 l'
    have ho3 := anyOwn_iv .u8 l
    refine ⟨cs', n', cap', evFun_body b18 ?_, hby⟩
    simp only [askX, askR] at h
    rcases hk with rfl | rfl
    · simp only [reduceIte] at hB
      (have fz := ga7 h hP hB ho hs ho2 ho3; repeat' (first | simp (maxDischargeDepth := 8) only [go_sem, rr, reduceIte, reduceCtorEq, Nat.reduceEqDiff, Nat.reduceAdd, Nat.reduceMul, Nat.reduceSub, Nat.reduceBEq, Nat.reduceLeDiff, Int.reduceEq, Int.reduceLT, Int.reduceLE, Int.reduceGE, Int.reduceGT, Int.reduceBEq, Int.reduceBNe, Int.reduceToNat, Int.reduceNeg, Int.reduceSub, Int.reduceAdd, Int.reduceMul, fz, cur_own, cur_snap, Tryd.f18] | (with_reducible refine qg9 ?_ ?_; focus (first | (simp (maxDischargeDepth := 8) only [bb, kk, fz, cur_own, cur_snap]; done) | kernel_rfl)) | ((with_reducible first | refine qf7 ?_ ?_ | refine qf8 ?_ ?_ | refine qf9 ?_ ?_ | refine qg ?_ ?_ | refine qg0 ?_ ?_ | refine qg1 ?_ ?_ | refine qg2 ?_ ?_); focus (first | assumption | omega | (simp only [bz, fz, cur_own, cur_snap]; omega))) | ((with_reducible first | refine qg3 ?_ ?_ | refine qg4 ?_ ?_ | refine qg5 ?_ ?_); focus (first | assumption | omega | (simp only [bz, fz, cur_own, cur_snap]; omega))) | ((with_reducible first | refine g1_u8w ?_ ?_ | refine qg7 ?_ ?_); (focus ((repeat' (with_reducible apply And.intro)) <;> (first | assumption | omega | (simp only [bz, fz, cur_own, cur_snap]; omega) | (simp (maxDischargeDepth := 8) only [bb, fz, cur_own, cur_snap]; done)))); intro _) | (with_reducible apply call_elim; focus ((with_reducible first | apply e34) <;> (first | assumption | omega | (simp only [bz, fz, cur_own, cur_snap]; omega) | (simp (maxDischargeDepth := 8) only [bb, fz, cur_own, cur_snap]; done))))))
    · simp only [reduceIte, Nat.reduceEqDiff] at hB
      (have fz := ga7 h hP hB ho hs ho2 ho3; repeat' (first | simp (maxDischargeDepth := 8) only [go_sem, rr, reduceIte, reduceCtorEq, Nat.reduceEqDiff, Nat.reduceAdd, Nat.reduceMul, Nat.reduceSub, Nat.reduceBEq, Nat.reduceLeDiff, Int.reduceEq, Int.reduceLT, Int.reduceLE, Int.reduceGE, Int.reduceGT, Int.reduceBEq, Int.reduceBNe, Int.reduceToNat, Int.reduceNeg, Int.reduceSub, Int.reduceAdd, Int.reduceMul, fz, cur_own, cur_snap, Tryd.f18] | (with_reducible refine qg9 ?_ ?_; focus (first | (simp (maxDischargeDepth := 8) only [bb, kk, fz, cur_own, cur_snap]; done) | kernel_rfl)) | ((with_reducible first | refine qf7 ?_ ?_ | refine qf8 ?_ ?_ | refine qf9 ?_ ?_ | refine qg ?_ ?_ | refine qg0 ?_ ?_ | refine qg1 ?_ ?_ | refine qg2 ?_ ?_); focus (first | assumption | omega | (simp only [bz, fz, cur_own, cur_snap]; omega))) | ((with_reducible first | refine qg3 ?_ ?_ | refine qg4 ?_ ?_ | refine qg5 ?_ ?_); focus (first | assumption | omega | (simp only [bz, fz, cur_own, cur_snap]; omega))) | ((with_reducible first | refine g1_u8w ?_ ?_ | refine qg7 ?_ ?_); (focus ((repeat' (with_reducible apply And.intro)) <;> (first | assumption | omega | (simp only [bz, fz, cur_own, cur_snap]; omega) | (simp (maxDischargeDepth := 8) only [bb, fz, cur_own, cur_snap]; done)))); intro _) | (with_reducible apply call_elim; focus ((with_reducible first | apply e34) <;> (first | assumption | omega | (simp only [bz, fz, cur_own, cur_snap]; omega) | (simp (maxDischargeDepth := 8) only [bb, fz, cur_own, cur_snap]; done))))))
end Go.Proofs.YtgdldmfkgijkaaaDoor.VH.S
end

section
namespace Go.Proofs.YtgdldmfkgijkaaaDoor.VH.S
open Go.Proofs
set_option maxRecDepth 100000
set_option maxHeartbeats 8000000
set_option linter.unusedSimpArgs false

/- Drawn bytes of says. -/
/- reducible -/
theorem e52 (d : Nat) (x y : Int) : evFun E (d+1) 52 [vi x, vi y] [] = some (vi (if x < y then x else y), []) := by
  refine evFun_body b52 ?_
  by_cases h : x < y
  · (repeat' (first | simp (maxDischargeDepth := 8) only [go_sem, rr, reduceIte, reduceCtorEq, Nat.reduceEqDiff, Nat.reduceAdd, Nat.reduceMul, Nat.reduceSub, Nat.reduceBEq, Nat.reduceLeDiff, Int.reduceEq, Int.reduceLT, Int.reduceLE, Int.reduceGE, Int.reduceGT, Int.reduceBEq, Int.reduceBNe, Int.reduceToNat, Int.reduceNeg, Int.reduceSub, Int.reduceAdd, Int.reduceMul, h, Tryd.f52] | (with_reducible refine qg9 ?_ ?_; focus (first | (simp (maxDischargeDepth := 8) only [bb, kk, h]; done) | kernel_rfl)) | ((with_reducible first | refine qf7 ?_ ?_ | refine qf8 ?_ ?_ | refine qf9 ?_ ?_ | refine qg ?_ ?_ | refine qg0 ?_ ?_ | refine qg1 ?_ ?_ | refine qg2 ?_ ?_); focus (first | with_reducible assumption | omega | (simp only [bz, h]; omega))) | ((with_reducible first | refine qg3 ?_ ?_ | refine qg4 ?_ ?_ | refine qg5 ?_ ?_); focus (first | with_reducible assumption | omega | (simp only [bz, h]; omega))) | ((with_reducible first | refine g1_u8w ?_ ?_ | refine qg7 ?_ ?_); (focus ((repeat' (with_reducible apply And.intro)) <;> (first | with_reducible assumption | omega | (simp only [bz, h]; omega) | (simp (maxDischargeDepth := 8) only [bb, h]; done)))); intro _) | ((with_reducible refine g1_64w ?_ ?_); (focus ((repeat' (with_reducible apply And.intro)) <;> (first | with_reducible assumption | omega | (simp only [bz, h]; omega) | (simp (maxDischargeDepth := 8) only [bb, h]; done)))); intro _)))
  · (repeat' (first | simp (maxDischargeDepth := 8) only [go_sem, rr, reduceIte, reduceCtorEq, Nat.reduceEqDiff, Nat.reduceAdd, Nat.reduceMul, Nat.reduceSub, Nat.reduceBEq, Nat.reduceLeDiff, Int.reduceEq, Int.reduceLT, Int.reduceLE, Int.reduceGE, Int.reduceGT, Int.reduceBEq, Int.reduceBNe, Int.reduceToNat, Int.reduceNeg, Int.reduceSub, Int.reduceAdd, Int.reduceMul, h, Tryd.f52] | (with_reducible refine qg9 ?_ ?_; focus (first | (simp (maxDischargeDepth := 8) only [bb, kk, h]; done) | kernel_rfl)) | ((with_reducible first | refine qf7 ?_ ?_ | refine qf8 ?_ ?_ | refine qf9 ?_ ?_ | refine qg ?_ ?_ | refine qg0 ?_ ?_ | refine qg1 ?_ ?_ | refine qg2 ?_ ?_); focus (first | with_reducible assumption | omega | (simp only [bz, h]; omega))) | ((with_reducible first | refine qg3 ?_ ?_ | refine qg4 ?_ ?_ | refine qg5 ?_ ?_); focus (first | with_reducible assumption | omega | (simp only [bz, h]; omega))) | ((with_reducible first | refine g1_u8w ?_ ?_ | refine qg7 ?_ ?_); (focus ((repeat' (with_reducible apply And.intro)) <;> (first | with_reducible assumption | omega | (simp only [bz, h]; omega) | (simp (maxDischargeDepth := 8) only [bb, h]; done)))); intro _) | ((with_reducible refine g1_64w ?_ ?_); (focus ((repeat' (with_reducible apply And.intro)) <;> (first | with_reducible assumption | omega | (simp only [bz, h]; omega) | (simp (maxDischargeDepth := 8) only [bb, h]; done)))); intro _)))
theorem pyL_b8 (k v m a : Int) {sh : List Int} (p : List Int) (h : B8 sh) : B8 (pyL k v m a sh p) := by
  unfold pyL
  split
  · refine ((((B8.cons ⟨by decide, by decide⟩ B8.nil).app (B8.eight v)).app (B8.cons (B8.w8 _) (B8.cons (B8.w8 _) (B8.cons (B8.w8 _) B8.nil)))).app ?_).app h
    intro x hx
    obtain ⟨y, _, hy⟩ := List.mem_flatMap.mp hx
    exact B8.eight y x hy
  · exact B8.cons (B8.w8 _) B8.nil
def cO : Option (List Int) → Option Nat
  | none => some 0
  | some _ => none
theorem y49 (d : Nat) (k v m a : Int) (sh p : List Int) (c1 c2 : Option Nat) (h1 : sh.length ≤ 201) (h2 : p.length ≤ 5) (h8 : B8 sh) :
    ∃ n cap l' ok, evFun E (d+3) 49 [sayV .snap k v sh c1 m a p c2] [] = some (.tup [.ref 0 [] 1 0 n cap, vb ok], [some (l'.map (iv .u8))]) ∧ l'.length = n ∧ n ≤ 244 ∧ B8 l' ∧ Cap1 cap := by
  cases ho : sayOk k v sh.length m a p with
  | true =>
    have h := e49 d k v m a sh p c1 c2 (by omega) (by omega) ho
    rw [pyC_map] at h
    refine ⟨_, _, _, _, h, pyL_len .., ?_, pyL_b8 _ _ _ _ _ h8, ?_⟩
    · by_cases hk : k = 2
      · subst hk
        obtain ⟨_, hn, _, _, hp, _⟩ := sayOk_parts ho
        rw [pyN, if_pos rfl]; omega
      · rw [pyN, if_neg hk]; omega
    · intro q hq
      split at hq
      · cases hq
      · injection hq with hq; omega
  | false => exact ⟨0, some 0, [], _, e49n d k v m a sh p c1 c2 (by omega) ho, rfl, by decide, (fun x h => by simp at h), fun q h => by injection h with h; omega⟩
theorem x17 (d : Nat) (b : List Int) (hb : b.length ≤ 2 ^ 39) : ∃ cs n cap, evFun E (d+6) 17 [.sl .fgn 1 b.length none (b.map (iv .u8))] [] = some (.ref 0 [] 1 0 n cap, [some cs]) ∧ Byt cs n 1000 := by
  have h := e43 d b (0, newH b (newN b)) hb
  obtain ⟨b1, b2, b3⟩ := dSayB_b b (0, newH b (newN b))
  generalize dSayB b (0, newH b (newN b)) = x at h b1 b2 b3
  obtain ⟨k, v, S, m, a, P, s'⟩ := x
  simp only [DSay.X, DSay.R] at h b1 b2 b3
  have hS1 : (S.getD []).length ≤ 201 ∧ B8 (S.getD []) := by
    cases S with
    | none => exact ⟨by decide, B8.nil⟩
    | some l => exact ⟨(b1 l rfl).2, (b1 l rfl).1⟩
  have hP1 : (P.getD []).length ≤ 5 := by
    cases P with
    | none => decide
    | some l => exact (b2 l rfl).1
  obtain ⟨n, cap, l', ok, hP, p1, p2, p3, p4⟩ := y49 (d+2) k v m a (S.getD []) (P.getD []) (cO S) (cO P) hS1.1 hP1 hS1.2
  obtain ⟨kk, cs, n', cap', s2, hB, hk, ⟨q1, q2, q3, q4⟩, q5⟩ := x50 (d+2) b s' n 244 cap (l'.map (iv .u8)) hb (isK_map _ _) (by rw [un_map]; exact p3) (by simpa using p1) p2 (by decide)
  have hO := e51 (d+2) b 40 s2 hb (by decide)
  have ho := isK_own q1
  have hs := isK_snap q1
  have ho2 := anyOwn_iv .u8 l'
  have ht : (cs.take n').any qb8 = false := isK_own (isK_take _ q1)
  have hc : cap' = none ∨ ∃ q, cap' = some q ∧ q ≤ 1 := by
    cases cap' with
    | none => exact .inl rfl
    | some q => exact .inr ⟨q, rfl, q5 p4 q rfl⟩
  cases hz : ((bel b 40 s2).1 == 0) with
  | false =>
    rw [hz] at hO; clear hz
    refine ⟨cs, n', cap', evFun_body b17 ?_, q1, q2, q3, by omega⟩
    cases S with
    | none =>
      have hPn : P = none := b3 rfl
      subst hPn
      simp only [sayX, sayR, slX] at h
      simp only [sayV, Option.getD_none, cO, List.length_nil, List.map_nil] at hP
      rcases hk with rfl | rfl <;> simp only [reduceIte, Nat.reduceEqDiff] at hB
      all_goals (have fz := ga7 h hP hB hO ho hs ho2; repeat' (first | simp (maxDischargeDepth := 8) only [go_sem, rr, reduceIte, reduceCtorEq, Nat.reduceEqDiff, Nat.reduceAdd, Nat.reduceMul, Nat.reduceSub, Nat.reduceBEq, Nat.reduceLeDiff, Int.reduceEq, Int.reduceLT, Int.reduceLE, Int.reduceGE, Int.reduceGT, Int.reduceBEq, Int.reduceBNe, Int.reduceToNat, Int.reduceNeg, Int.reduceSub, Int.reduceAdd, Int.reduceMul, fz, cur_own, cur_snap, Tryd.f17] | (with_reducible refine qg9 ?_ ?_; focus (first | (simp (maxDischargeDepth := 8) only [bb, kk, fz, cur_own, cur_snap]; done) | kernel_rfl)) | ((with_reducible first | refine qf7 ?_ ?_ | refine qf8 ?_ ?_ | refine qf9 ?_ ?_ | refine qg ?_ ?_ | refine qg0 ?_ ?_ | refine qg1 ?_ ?_ | refine qg2 ?_ ?_); focus (first | with_reducible assumption | omega | (simp only [bz, fz, cur_own, cur_snap]; omega))) | ((with_reducible first | refine qg3 ?_ ?_ | refine qg4 ?_ ?_ | refine qg5 ?_ ?_); focus (first | with_reducible assumption | omega | (simp only [bz, fz, cur_own, cur_snap]; omega))) | ((with_reducible first | refine g1_u8w ?_ ?_ | refine qg7 ?_ ?_); (focus ((repeat' (with_reducible apply And.intro)) <;> (first | with_reducible assumption | omega | (simp only [bz, fz, cur_own, cur_snap]; omega) | (simp (maxDischargeDepth := 8) only [bb, fz, cur_own, cur_snap]; done)))); intro _) | ((with_reducible refine g1_64w ?_ ?_); (focus ((repeat' (with_reducible apply And.intro)) <;> (first | with_reducible assumption | omega | (simp only [bz, fz, cur_own, cur_snap]; omega) | (simp (maxDischargeDepth := 8) only [bb, fz, cur_own, cur_snap]; done)))); intro _) | (with_reducible apply call_elim; focus ((with_reducible first | apply e34) <;> (first | with_reducible assumption | omega | (simp only [bz, fz, cur_own, cur_snap]; omega) | (simp (maxDischargeDepth := 8) only [bb, fz, cur_own, cur_snap]; done))))))
    | some l =>
      have hol := anyOwn_iv .u8 l
      cases P with
      | none =>
        simp only [sayX, sayR, slX, sayC, slC] at h
        simp only [sayV, Option.getD_some, Option.getD_none, cO, List.length_nil, List.map_nil] at hP
        rcases hk with rfl | rfl <;> simp only [reduceIte, Nat.reduceEqDiff] at hB
        all_goals (have fz := ga8 h hP hB hO ho hs ho2 hol; repeat' (first | simp (maxDischargeDepth := 8) only [go_sem, rr, reduceIte, reduceCtorEq, Nat.reduceEqDiff, Nat.reduceAdd, Nat.reduceMul, Nat.reduceSub, Nat.reduceBEq, Nat.reduceLeDiff, Int.reduceEq, Int.reduceLT, Int.reduceLE, Int.reduceGE, Int.reduceGT, Int.reduceBEq, Int.reduceBNe, Int.reduceToNat, Int.reduceNeg, Int.reduceSub, Int.reduceAdd, Int.reduceMul, fz, cur_own, cur_snap, Tryd.f17] | (with_reducible refine qg9 ?_ ?_; focus (first | (simp (maxDischargeDepth := 8) only [bb, kk, fz, cur_own, cur_snap]; done) | kernel_rfl)) | ((with_reducible first | refine qf7 ?_ ?_ | refine qf8 ?_ ?_ | refine qf9 ?_ ?_ | refine qg ?_ ?_ | refine qg0 ?_ ?_ | refine qg1 ?_ ?_ | refine qg2 ?_ ?_); focus (first | with_reducible assumption | omega | (simp only [bz, fz, cur_own, cur_snap]; omega))) | ((with_reducible first | refine qg3 ?_ ?_ | refine qg4 ?_ ?_ | refine qg5 ?_ ?_); focus (first | with_reducible assumption | omega | (simp only [bz, fz, cur_own, cur_snap]; omega))) | ((with_reducible first | refine g1_u8w ?_ ?_ | refine qg7 ?_ ?_); (focus ((repeat' (with_reducible apply And.intro)) <;> (first | with_reducible assumption | omega | (simp only [bz, fz, cur_own, cur_snap]; omega) | (simp (maxDischargeDepth := 8) only [bb, fz, cur_own, cur_snap]; done)))); intro _) | ((with_reducible refine g1_64w ?_ ?_); (focus ((repeat' (with_reducible apply And.intro)) <;> (first | with_reducible assumption | omega | (simp only [bz, fz, cur_own, cur_snap]; omega) | (simp (maxDischargeDepth := 8) only [bb, fz, cur_own, cur_snap]; done)))); intro _) | (with_reducible apply call_elim; focus ((with_reducible first | apply e34) <;> (first | with_reducible assumption | omega | (simp only [bz, fz, cur_own, cur_snap]; omega) | (simp (maxDischargeDepth := 8) only [bb, fz, cur_own, cur_snap]; done))))))
      | some p =>
        have hop := anyOwn_iv .i64 p
        simp only [sayX, sayR, slX, sayC, slC] at h
        simp only [sayV, Option.getD_some, cO] at hP
        rcases hk with rfl | rfl <;> simp only [reduceIte, Nat.reduceEqDiff] at hB
        all_goals (have fz := ga9 h hP hB hO ho hs ho2 hol hop; repeat' (first | simp (maxDischargeDepth := 8) only [go_sem, rr, reduceIte, reduceCtorEq, Nat.reduceEqDiff, Nat.reduceAdd, Nat.reduceMul, Nat.reduceSub, Nat.reduceBEq, Nat.reduceLeDiff, Int.reduceEq, Int.reduceLT, Int.reduceLE, Int.reduceGE, Int.reduceGT, Int.reduceBEq, Int.reduceBNe, Int.reduceToNat, Int.reduceNeg, Int.reduceSub, Int.reduceAdd, Int.reduceMul, fz, cur_own, cur_snap, Tryd.f17] | (with_reducible refine qg9 ?_ ?_; focus (first | (simp (maxDischargeDepth := 8) only [bb, kk, fz, cur_own, cur_snap]; done) | kernel_rfl)) | ((with_reducible first | refine qf7 ?_ ?_ | refine qf8 ?_ ?_ | refine qf9 ?_ ?_ | refine qg ?_ ?_ | refine qg0 ?_ ?_ | refine qg1 ?_ ?_ | refine qg2 ?_ ?_); focus (first | with_reducible assumption | omega | (simp only [bz, fz, cur_own, cur_snap]; omega))) | ((with_reducible first | refine qg3 ?_ ?_ | refine qg4 ?_ ?_ | refine qg5 ?_ ?_); focus (first | with_reducible assumption | omega | (simp only [bz, fz, cur_own, cur_snap]; omega))) | ((with_reducible first | refine g1_u8w ?_ ?_ | refine qg7 ?_ ?_); (focus ((repeat' (with_reducible apply And.intro)) <;> (first | with_reducible assumption | omega | (simp only [bz, fz, cur_own, cur_snap]; omega) | (simp (maxDischargeDepth := 8) only [bb, fz, cur_own, cur_snap]; done)))); intro _) | ((with_reducible refine g1_64w ?_ ?_); (focus ((repeat' (with_reducible apply And.intro)) <;> (first | with_reducible assumption | omega | (simp only [bz, fz, cur_own, cur_snap]; omega) | (simp (maxDischargeDepth := 8) only [bb, fz, cur_own, cur_snap]; done)))); intro _) | (with_reducible apply call_elim; focus ((with_reducible first | apply e34) <;> (first | with_reducible assumption | omega | (simp only [bz, fz, cur_own, cur_snap]; omega) | (simp (maxDischargeDepth := 8) only [bb, fz, cur_own, cur_snap]; done))))))
  | true =>
    rw [hz] at hO; clear hz
    obtain ⟨w0, w1⟩ := bel_b b (n := 2) (by decide) (bel b 40 s2).2
    have hmin : ∀ d, evFun E (d+1) 52 [vi n', vi 600] [] = some (vi n', []) := fun d => by rw [e52, if_pos (by omega)]
    generalize hZ : ((601 : Int) - n' - (bel b 2 (bel b 40 s2).2).1) = Z
    have hZ0 : 300 ≤ Z ∧ Z ≤ 601 := by omega
    have hz8 : B8 (List.replicate Z.toNat 0) := B8.zeros _
    have hcz : capK cap' Z.toNat = none := capK_pos (by omega)
    have hsz : qf2 (cs ++ (List.replicate Z.toNat 0).map (iv .u8)) = true := isK_snap (by rw [isK_app, q1, isK_map]; rfl)
    have hsy : qf2 (cs.take n' ++ (List.replicate Z.toNat 0).map (iv .u8)) = true := isK_snap (by rw [isK_app, isK_take _ q1, isK_map]; rfl)
    by_cases he : n' = cs.length
    · refine ⟨cs ++ (List.replicate Z.toNat 0).map (iv .u8), n' + Z.toNat, none, evFun_body b17 ?_, by rw [isK_app, q1, isK_map]; rfl, ?_, by simp; omega, by simp; omega⟩
      · cases S with
        | none =>
          have hPn : P = none := b3 rfl
          subst hPn
          simp only [sayX, sayR, slX] at h
          simp only [sayV, Option.getD_none, cO, List.length_nil, List.map_nil] at hP
          rcases hk with rfl | rfl <;> simp only [reduceIte, Nat.reduceEqDiff] at hB
          all_goals (have fz := ga12 h hP hB hO hZ hcz hsz hsy ho hs ho2 hmin; repeat' (first | simp (maxDischargeDepth := 8) only [go_sem, rr, reduceIte, reduceCtorEq, Nat.reduceEqDiff, Nat.reduceAdd, Nat.reduceMul, Nat.reduceSub, Nat.reduceBEq, Nat.reduceLeDiff, Int.reduceEq, Int.reduceLT, Int.reduceLE, Int.reduceGE, Int.reduceGT, Int.reduceBEq, Int.reduceBNe, Int.reduceToNat, Int.reduceNeg, Int.reduceSub, Int.reduceAdd, Int.reduceMul, fz, zeros_one, zeros8, cur_own, cur_snap, Tryd.f17] | (with_reducible refine qg9 ?_ ?_; focus (first | (simp (maxDischargeDepth := 8) only [bb, kk, fz, zeros_one, zeros8, cur_own, cur_snap]; done) | kernel_rfl)) | ((with_reducible first | refine qf7 ?_ ?_ | refine qf8 ?_ ?_ | refine qf9 ?_ ?_ | refine qg ?_ ?_ | refine qg0 ?_ ?_ | refine qg1 ?_ ?_ | refine qg2 ?_ ?_); focus (first | with_reducible assumption | omega | (simp only [bz, fz, zeros_one, zeros8, cur_own, cur_snap]; omega))) | ((with_reducible first | refine qg3 ?_ ?_ | refine qg4 ?_ ?_ | refine qg5 ?_ ?_); focus (first | with_reducible assumption | omega | (simp only [bz, fz, zeros_one, zeros8, cur_own, cur_snap]; omega))) | ((with_reducible first | refine g1_u8w ?_ ?_ | refine qg7 ?_ ?_); (focus ((repeat' (with_reducible apply And.intro)) <;> (first | with_reducible assumption | omega | (simp only [bz, fz, zeros_one, zeros8, cur_own, cur_snap]; omega) | (simp (maxDischargeDepth := 8) only [bb, fz, zeros_one, zeros8, cur_own, cur_snap]; done)))); intro _) | ((with_reducible refine g1_64w ?_ ?_); (focus ((repeat' (with_reducible apply And.intro)) <;> (first | with_reducible assumption | omega | (simp only [bz, fz, zeros_one, zeros8, cur_own, cur_snap]; omega) | (simp (maxDischargeDepth := 8) only [bb, fz, zeros_one, zeros8, cur_own, cur_snap]; done)))); intro _) | (with_reducible apply call_elim; focus ((with_reducible first | apply e34 | apply e53) <;> (first | with_reducible assumption | omega | (simp only [bz, fz, zeros_one, zeros8, cur_own, cur_snap]; omega) | (simp (maxDischargeDepth := 8) only [bb, fz, zeros_one, zeros8, cur_own, cur_snap]; done))))))
        | some l =>
          have hol := anyOwn_iv .u8 l
          cases P with
          | none =>
            simp only [sayX, sayR, slX, sayC, slC] at h
            simp only [sayV, Option.getD_some, Option.getD_none, cO, List.length_nil, List.map_nil] at hP
            rcases hk with rfl | rfl <;> simp only [reduceIte, Nat.reduceEqDiff] at hB
            all_goals (have fz := ga13 h hP hB hO hZ hcz hsz hsy ho hs ho2 hol hmin; repeat' (first | simp (maxDischargeDepth := 8) only [go_sem, rr, reduceIte, reduceCtorEq, Nat.reduceEqDiff, Nat.reduceAdd, Nat.reduceMul, Nat.reduceSub, Nat.reduceBEq, Nat.reduceLeDiff, Int.reduceEq, Int.reduceLT, Int.reduceLE, Int.reduceGE, Int.reduceGT, Int.reduceBEq, Int.reduceBNe, Int.reduceToNat, Int.reduceNeg, Int.reduceSub, Int.reduceAdd, Int.reduceMul, fz, zeros_one, zeros8, cur_own, cur_snap, Tryd.f17] | (with_reducible refine qg9 ?_ ?_; focus (first | (simp (maxDischargeDepth := 8) only [bb, kk, fz, zeros_one, zeros8, cur_own, cur_snap]; done) | kernel_rfl)) | ((with_reducible first | refine qf7 ?_ ?_ | refine qf8 ?_ ?_ | refine qf9 ?_ ?_ | refine qg ?_ ?_ | refine qg0 ?_ ?_ | refine qg1 ?_ ?_ | refine qg2 ?_ ?_); focus (first | with_reducible assumption | omega | (simp only [bz, fz, zeros_one, zeros8, cur_own, cur_snap]; omega))) | ((with_reducible first | refine qg3 ?_ ?_ | refine qg4 ?_ ?_ | refine qg5 ?_ ?_); focus (first | with_reducible assumption | omega | (simp only [bz, fz, zeros_one, zeros8, cur_own, cur_snap]; omega))) | ((with_reducible first | refine g1_u8w ?_ ?_ | refine qg7 ?_ ?_); (focus ((repeat' (with_reducible apply And.intro)) <;> (first | with_reducible assumption | omega | (simp only [bz, fz, zeros_one, zeros8, cur_own, cur_snap]; omega) | (simp (maxDischargeDepth := 8) only [bb, fz, zeros_one, zeros8, cur_own, cur_snap]; done)))); intro _) | ((with_reducible refine g1_64w ?_ ?_); (focus ((repeat' (with_reducible apply And.intro)) <;> (first | with_reducible assumption | omega | (simp only [bz, fz, zeros_one, zeros8, cur_own, cur_snap]; omega) | (simp (maxDischargeDepth := 8) only [bb, fz, zeros_one, zeros8, cur_own, cur_snap]; done)))); intro _) | (with_reducible apply call_elim; focus ((with_reducible first | apply e34 | apply e53) <;> (first | with_reducible assumption | omega | (simp only [bz, fz, zeros_one, zeros8, cur_own, cur_snap]; omega) | (simp (maxDischargeDepth := 8) only [bb, fz, zeros_one, zeros8, cur_own, cur_snap]; done))))))
          | some p =>
            have hop := anyOwn_iv .i64 p
            simp only [sayX, sayR, slX, sayC, slC] at h
            simp only [sayV, Option.getD_some, cO] at hP
            rcases hk with rfl | rfl <;> simp only [reduceIte, Nat.reduceEqDiff] at hB
            all_goals (have fz := ga14 h hP hB hO hZ hcz hsz hsy ho hs ho2 hol hop hmin; repeat' (first | simp (maxDischargeDepth := 8) only [go_sem, rr, reduceIte, reduceCtorEq, Nat.reduceEqDiff, Nat.reduceAdd, Nat.reduceMul, Nat.reduceSub, Nat.reduceBEq, Nat.reduceLeDiff, Int.reduceEq, Int.reduceLT, Int.reduceLE, Int.reduceGE, Int.reduceGT, Int.reduceBEq, Int.reduceBNe, Int.reduceToNat, Int.reduceNeg, Int.reduceSub, Int.reduceAdd, Int.reduceMul, fz, zeros_one, zeros8, cur_own, cur_snap, Tryd.f17] | (with_reducible refine qg9 ?_ ?_; focus (first | (simp (maxDischargeDepth := 8) only [bb, kk, fz, zeros_one, zeros8, cur_own, cur_snap]; done) | kernel_rfl)) | ((with_reducible first | refine qf7 ?_ ?_ | refine qf8 ?_ ?_ | refine qf9 ?_ ?_ | refine qg ?_ ?_ | refine qg0 ?_ ?_ | refine qg1 ?_ ?_ | refine qg2 ?_ ?_); focus (first | with_reducible assumption | omega | (simp only [bz, fz, zeros_one, zeros8, cur_own, cur_snap]; omega))) | ((with_reducible first | refine qg3 ?_ ?_ | refine qg4 ?_ ?_ | refine qg5 ?_ ?_); focus (first | with_reducible assumption | omega | (simp only [bz, fz, zeros_one, zeros8, cur_own, cur_snap]; omega))) | ((with_reducible first | refine g1_u8w ?_ ?_ | refine qg7 ?_ ?_); (focus ((repeat' (with_reducible apply And.intro)) <;> (first | with_reducible assumption | omega | (simp only [bz, fz, zeros_one, zeros8, cur_own, cur_snap]; omega) | (simp (maxDischargeDepth := 8) only [bb, fz, zeros_one, zeros8, cur_own, cur_snap]; done)))); intro _) | ((with_reducible refine g1_64w ?_ ?_); (focus ((repeat' (with_reducible apply And.intro)) <;> (first | with_reducible assumption | omega | (simp only [bz, fz, zeros_one, zeros8, cur_own, cur_snap]; omega) | (simp (maxDischargeDepth := 8) only [bb, fz, zeros_one, zeros8, cur_own, cur_snap]; done)))); intro _) | (with_reducible apply call_elim; focus ((with_reducible first | apply e34 | apply e53) <;> (first | with_reducible assumption | omega | (simp only [bz, fz, zeros_one, zeros8, cur_own, cur_snap]; omega) | (simp (maxDischargeDepth := 8) only [bb, fz, zeros_one, zeros8, cur_own, cur_snap]; done))))))
      · rw [un_app, un_map]; exact q2.app hz8
    · refine ⟨cs.take n' ++ (List.replicate Z.toNat 0).map (iv .u8), n' + Z.toNat, none, evFun_body b17 ?_, by rw [isK_app, isK_take _ q1, isK_map]; rfl, ?_, by simp; omega, by simp; omega⟩
      · cases S with
        | none =>
          have hPn : P = none := b3 rfl
          subst hPn
          simp only [sayX, sayR, slX] at h
          simp only [sayV, Option.getD_none, cO, List.length_nil, List.map_nil] at hP
          rcases hk with rfl | rfl <;> simp only [reduceIte, Nat.reduceEqDiff] at hB
          all_goals (rcases hc with rfl | ⟨q, rfl, hq⟩) <;> (have fz := ga13 h hP hB hO hZ hcz hsz hsy ho hs ho2 ht hmin; repeat' (first | simp (maxDischargeDepth := 8) only [go_sem, rr, reduceIte, reduceCtorEq, Nat.reduceEqDiff, Nat.reduceAdd, Nat.reduceMul, Nat.reduceSub, Nat.reduceBEq, Nat.reduceLeDiff, Int.reduceEq, Int.reduceLT, Int.reduceLE, Int.reduceGE, Int.reduceGT, Int.reduceBEq, Int.reduceBNe, Int.reduceToNat, Int.reduceNeg, Int.reduceSub, Int.reduceAdd, Int.reduceMul, fz, zeros_one, zeros8, cur_own, cur_snap, Tryd.f17] | (with_reducible refine qg9 ?_ ?_; focus (first | (simp (maxDischargeDepth := 8) only [bb, kk, fz, zeros_one, zeros8, cur_own, cur_snap]; done) | kernel_rfl)) | ((with_reducible first | refine qf7 ?_ ?_ | refine qf8 ?_ ?_ | refine qf9 ?_ ?_ | refine qg ?_ ?_ | refine qg0 ?_ ?_ | refine qg1 ?_ ?_ | refine qg2 ?_ ?_); focus (first | with_reducible assumption | omega | (simp only [bz, fz, zeros_one, zeros8, cur_own, cur_snap]; omega))) | ((with_reducible first | refine qg3 ?_ ?_ | refine qg4 ?_ ?_ | refine qg5 ?_ ?_); focus (first | with_reducible assumption | omega | (simp only [bz, fz, zeros_one, zeros8, cur_own, cur_snap]; omega))) | ((with_reducible first | refine g1_u8w ?_ ?_ | refine qg7 ?_ ?_); (focus ((repeat' (with_reducible apply And.intro)) <;> (first | with_reducible assumption | omega | (simp only [bz, fz, zeros_one, zeros8, cur_own, cur_snap]; omega) | (simp (maxDischargeDepth := 8) only [bb, fz, zeros_one, zeros8, cur_own, cur_snap]; done)))); intro _) | ((with_reducible refine g1_64w ?_ ?_); (focus ((repeat' (with_reducible apply And.intro)) <;> (first | with_reducible assumption | omega | (simp only [bz, fz, zeros_one, zeros8, cur_own, cur_snap]; omega) | (simp (maxDischargeDepth := 8) only [bb, fz, zeros_one, zeros8, cur_own, cur_snap]; done)))); intro _) | (with_reducible apply call_elim; focus ((with_reducible first | apply e34 | apply e53) <;> (first | with_reducible assumption | omega | (simp only [bz, fz, zeros_one, zeros8, cur_own, cur_snap]; omega) | (simp (maxDischargeDepth := 8) only [bb, fz, zeros_one, zeros8, cur_own, cur_snap]; done))))))
        | some l =>
          have hol := anyOwn_iv .u8 l
          cases P with
          | none =>
            simp only [sayX, sayR, slX, sayC, slC] at h
            simp only [sayV, Option.getD_some, Option.getD_none, cO, List.length_nil, List.map_nil] at hP
            rcases hk with rfl | rfl <;> simp only [reduceIte, Nat.reduceEqDiff] at hB
            all_goals (rcases hc with rfl | ⟨q, rfl, hq⟩) <;> (have fz := ga14 h hP hB hO hZ hcz hsz hsy ho hs ho2 hol ht hmin; repeat' (first | simp (maxDischargeDepth := 8) only [go_sem, rr, reduceIte, reduceCtorEq, Nat.reduceEqDiff, Nat.reduceAdd, Nat.reduceMul, Nat.reduceSub, Nat.reduceBEq, Nat.reduceLeDiff, Int.reduceEq, Int.reduceLT, Int.reduceLE, Int.reduceGE, Int.reduceGT, Int.reduceBEq, Int.reduceBNe, Int.reduceToNat, Int.reduceNeg, Int.reduceSub, Int.reduceAdd, Int.reduceMul, fz, zeros_one, zeros8, cur_own, cur_snap, Tryd.f17] | (with_reducible refine qg9 ?_ ?_; focus (first | (simp (maxDischargeDepth := 8) only [bb, kk, fz, zeros_one, zeros8, cur_own, cur_snap]; done) | kernel_rfl)) | ((with_reducible first | refine qf7 ?_ ?_ | refine qf8 ?_ ?_ | refine qf9 ?_ ?_ | refine qg ?_ ?_ | refine qg0 ?_ ?_ | refine qg1 ?_ ?_ | refine qg2 ?_ ?_); focus (first | with_reducible assumption | omega | (simp only [bz, fz, zeros_one, zeros8, cur_own, cur_snap]; omega))) | ((with_reducible first | refine qg3 ?_ ?_ | refine qg4 ?_ ?_ | refine qg5 ?_ ?_); focus (first | with_reducible assumption | omega | (simp only [bz, fz, zeros_one, zeros8, cur_own, cur_snap]; omega))) | ((with_reducible first | refine g1_u8w ?_ ?_ | refine qg7 ?_ ?_); (focus ((repeat' (with_reducible apply And.intro)) <;> (first | with_reducible assumption | omega | (simp only [bz, fz, zeros_one, zeros8, cur_own, cur_snap]; omega) | (simp (maxDischargeDepth := 8) only [bb, fz, zeros_one, zeros8, cur_own, cur_snap]; done)))); intro _) | ((with_reducible refine g1_64w ?_ ?_); (focus ((repeat' (with_reducible apply And.intro)) <;> (first | with_reducible assumption | omega | (simp only [bz, fz, zeros_one, zeros8, cur_own, cur_snap]; omega) | (simp (maxDischargeDepth := 8) only [bb, fz, zeros_one, zeros8, cur_own, cur_snap]; done)))); intro _) | (with_reducible apply call_elim; focus ((with_reducible first | apply e34 | apply e53) <;> (first | with_reducible assumption | omega | (simp only [bz, fz, zeros_one, zeros8, cur_own, cur_snap]; omega) | (simp (maxDischargeDepth := 8) only [bb, fz, zeros_one, zeros8, cur_own, cur_snap]; done))))))
          | some p =>
            have hop := anyOwn_iv .i64 p
            simp only [sayX, sayR, slX, sayC, slC] at h
            simp only [sayV, Option.getD_some, cO] at hP
            rcases hk with rfl | rfl <;> simp only [reduceIte, Nat.reduceEqDiff] at hB
            all_goals (rcases hc with rfl | ⟨q, rfl, hq⟩) <;> (have fz := ga15 h hP hB hO hZ hcz hsz hsy ho hs ho2 hol hop ht hmin; repeat' (first | simp (maxDischargeDepth := 8) only [go_sem, rr, reduceIte, reduceCtorEq, Nat.reduceEqDiff, Nat.reduceAdd, Nat.reduceMul, Nat.reduceSub, Nat.reduceBEq, Nat.reduceLeDiff, Int.reduceEq, Int.reduceLT, Int.reduceLE, Int.reduceGE, Int.reduceGT, Int.reduceBEq, Int.reduceBNe, Int.reduceToNat, Int.reduceNeg, Int.reduceSub, Int.reduceAdd, Int.reduceMul, fz, zeros_one, zeros8, cur_own, cur_snap, Tryd.f17] | (with_reducible refine qg9 ?_ ?_; focus (first | (simp (maxDischargeDepth := 8) only [bb, kk, fz, zeros_one, zeros8, cur_own, cur_snap]; done) | kernel_rfl)) | ((with_reducible first | refine qf7 ?_ ?_ | refine qf8 ?_ ?_ | refine qf9 ?_ ?_ | refine qg ?_ ?_ | refine qg0 ?_ ?_ | refine qg1 ?_ ?_ | refine qg2 ?_ ?_); focus (first | with_reducible assumption | omega | (simp only [bz, fz, zeros_one, zeros8, cur_own, cur_snap]; omega))) | ((with_reducible first | refine qg3 ?_ ?_ | refine qg4 ?_ ?_ | refine qg5 ?_ ?_); focus (first | with_reducible assumption | omega | (simp only [bz, fz, zeros_one, zeros8, cur_own, cur_snap]; omega))) | ((with_reducible first | refine g1_u8w ?_ ?_ | refine qg7 ?_ ?_); (focus ((repeat' (with_reducible apply And.intro)) <;> (first | with_reducible assumption | omega | (simp only [bz, fz, zeros_one, zeros8, cur_own, cur_snap]; omega) | (simp (maxDischargeDepth := 8) only [bb, fz, zeros_one, zeros8, cur_own, cur_snap]; done)))); intro _) | ((with_reducible refine g1_64w ?_ ?_); (focus ((repeat' (with_reducible apply And.intro)) <;> (first | with_reducible assumption | omega | (simp only [bz, fz, zeros_one, zeros8, cur_own, cur_snap]; omega) | (simp (maxDischargeDepth := 8) only [bb, fz, zeros_one, zeros8, cur_own, cur_snap]; done)))); intro _) | (with_reducible apply call_elim; focus ((with_reducible first | apply e34 | apply e53) <;> (first | with_reducible assumption | omega | (simp only [bz, fz, zeros_one, zeros8, cur_own, cur_snap]; omega) | (simp (maxDischargeDepth := 8) only [bb, fz, zeros_one, zeros8, cur_own, cur_snap]; done))))))
      · rw [un_app, un_map, un_take]; exact (q2.take _).app hz8
end Go.Proofs.YtgdldmfkgijkaaaDoor.VH.S
end

section
namespace Go.Proofs.YtgdldmfkgijkaaaDoor.VH.S
open Go.Proofs
set_option maxRecDepth 100000
set_option maxHeartbeats 8000000
set_option linter.unusedSimpArgs false

/- Asks whose data is foreign. -/
theorem n11 (d : Nat) (k v : Int) (nm : List UInt8) (n : Nat) (c : Option Nat) (cs : List AV) (hl : nm.length ≤ 549755813888) : evFun E (d+6) 11 [.agg [vi k, vs nm, vi v, .sl .fgn 1 n c cs]] [] = some (vb (askOk k nm v n), []) := by
  refine evFun_body b11 ?_
  by_cases k1 : k = 1
  · subst k1
    have e1 : (decide ((n : Int) ≥ 1) && decide ((n : Int) ≤ 540)) = (decide (1 ≤ n) && decide (n ≤ 540)) := by rw [Bool.eq_iff_iff]; simp; omega
    cases hn : (nm == [] || nameOK nm) with
    | false =>
      have hr : askOk 1 nm v n = false := by unfold askOk; rw [hn]; simp []
      (have fz := ga2 hr hn; repeat' (first | simp (maxDischargeDepth := 8) only [go_sem, rr, reduceIte, reduceCtorEq, Nat.reduceEqDiff, Nat.reduceAdd, Nat.reduceMul, Nat.reduceSub, Nat.reduceBEq, Nat.reduceLeDiff, Int.reduceEq, Int.reduceLT, Int.reduceLE, Int.reduceGE, Int.reduceGT, Int.reduceBEq, Int.reduceBNe, Int.reduceToNat, Int.reduceNeg, Int.reduceSub, Int.reduceAdd, Int.reduceMul, fz, Tryd.f11] | (with_reducible refine qg9 ?_ ?_; focus (first | (simp (maxDischargeDepth := 8) only [bb, kk, fz]; done) | kernel_rfl)) | ((with_reducible first | refine qf7 ?_ ?_ | refine qf8 ?_ ?_ | refine qf9 ?_ ?_ | refine qg ?_ ?_ | refine qg0 ?_ ?_ | refine qg1 ?_ ?_ | refine qg2 ?_ ?_); focus (first | assumption | omega | (simp only [bz, fz]; omega))) | ((with_reducible first | refine qg3 ?_ ?_ | refine qg4 ?_ ?_ | refine qg5 ?_ ?_); focus (first | assumption | omega | (simp only [bz, fz]; omega))) | ((with_reducible first | refine g1_u8w ?_ ?_ | refine qg7 ?_ ?_); (focus ((repeat' (with_reducible apply And.intro)) <;> (first | assumption | omega | (simp only [bz, fz]; omega) | (simp (maxDischargeDepth := 8) only [bb, fz]; done)))); intro _) | (with_reducible apply call_elim; focus ((with_reducible first | apply e40 | apply e41) <;> (first | assumption | omega | (simp only [bz, fz]; omega) | (simp (maxDischargeDepth := 8) only [bb, fz]; done))))))
    | true =>
      by_cases hv : 0 ≤ v ∧ v ≤ 1000000
      · have hr : askOk 1 nm v n = (decide (1 ≤ n) && decide (n ≤ 540)) := by unfold askOk; rw [hn]; simp [hv]
        (have fz := ga3 hr hn e1; repeat' (first | simp (maxDischargeDepth := 8) only [go_sem, rr, reduceIte, reduceCtorEq, Nat.reduceEqDiff, Nat.reduceAdd, Nat.reduceMul, Nat.reduceSub, Nat.reduceBEq, Nat.reduceLeDiff, Int.reduceEq, Int.reduceLT, Int.reduceLE, Int.reduceGE, Int.reduceGT, Int.reduceBEq, Int.reduceBNe, Int.reduceToNat, Int.reduceNeg, Int.reduceSub, Int.reduceAdd, Int.reduceMul, fz, Tryd.f11] | (with_reducible refine qg9 ?_ ?_; focus (first | (simp (maxDischargeDepth := 8) only [bb, kk, fz]; done) | kernel_rfl)) | ((with_reducible first | refine qf7 ?_ ?_ | refine qf8 ?_ ?_ | refine qf9 ?_ ?_ | refine qg ?_ ?_ | refine qg0 ?_ ?_ | refine qg1 ?_ ?_ | refine qg2 ?_ ?_); focus (first | assumption | omega | (simp only [bz, fz]; omega))) | ((with_reducible first | refine qg3 ?_ ?_ | refine qg4 ?_ ?_ | refine qg5 ?_ ?_); focus (first | assumption | omega | (simp only [bz, fz]; omega))) | ((with_reducible first | refine g1_u8w ?_ ?_ | refine qg7 ?_ ?_); (focus ((repeat' (with_reducible apply And.intro)) <;> (first | assumption | omega | (simp only [bz, fz]; omega) | (simp (maxDischargeDepth := 8) only [bb, fz]; done)))); intro _) | (with_reducible apply call_elim; focus ((with_reducible first | apply e40 | apply e41 | apply e42) <;> (first | assumption | omega | (simp only [bz, fz]; omega) | (simp (maxDischargeDepth := 8) only [bb, fz]; done))))))
      · have hr : askOk 1 nm v n = false := by unfold askOk; rw [hn]; simp; omega
        (have fz := ga2 hr hn; repeat' (first | simp (maxDischargeDepth := 8) only [go_sem, rr, reduceIte, reduceCtorEq, Nat.reduceEqDiff, Nat.reduceAdd, Nat.reduceMul, Nat.reduceSub, Nat.reduceBEq, Nat.reduceLeDiff, Int.reduceEq, Int.reduceLT, Int.reduceLE, Int.reduceGE, Int.reduceGT, Int.reduceBEq, Int.reduceBNe, Int.reduceToNat, Int.reduceNeg, Int.reduceSub, Int.reduceAdd, Int.reduceMul, fz, Tryd.f11] | (with_reducible refine qg9 ?_ ?_; focus (first | (simp (maxDischargeDepth := 8) only [bb, kk, fz]; done) | kernel_rfl)) | ((with_reducible first | refine qf7 ?_ ?_ | refine qf8 ?_ ?_ | refine qf9 ?_ ?_ | refine qg ?_ ?_ | refine qg0 ?_ ?_ | refine qg1 ?_ ?_ | refine qg2 ?_ ?_); focus (first | assumption | omega | (simp only [bz, fz]; omega))) | ((with_reducible first | refine qg3 ?_ ?_ | refine qg4 ?_ ?_ | refine qg5 ?_ ?_); focus (first | assumption | omega | (simp only [bz, fz]; omega))) | ((with_reducible first | refine g1_u8w ?_ ?_ | refine qg7 ?_ ?_); (focus ((repeat' (with_reducible apply And.intro)) <;> (first | assumption | omega | (simp only [bz, fz]; omega) | (simp (maxDischargeDepth := 8) only [bb, fz]; done)))); intro _) | (with_reducible apply call_elim; focus ((with_reducible first | apply e40 | apply e41 | apply e42) <;> (first | assumption | omega | (simp only [bz, fz]; omega) | (simp (maxDischargeDepth := 8) only [bb, fz]; done))))))
  · by_cases hk : 1 ≤ k ∧ k ≤ 4
    · have e1 : ((n : Int) == 0) = decide (n = 0) := by rw [Bool.eq_iff_iff]; simp
      cases hn : (nm == [] || nameOK nm) with
      | false =>
        have hr : askOk k nm v n = false := by unfold askOk; rw [hn]; simp []
        (have fz := ga2 hr hn; repeat' (first | simp (maxDischargeDepth := 8) only [go_sem, rr, reduceIte, reduceCtorEq, Nat.reduceEqDiff, Nat.reduceAdd, Nat.reduceMul, Nat.reduceSub, Nat.reduceBEq, Nat.reduceLeDiff, Int.reduceEq, Int.reduceLT, Int.reduceLE, Int.reduceGE, Int.reduceGT, Int.reduceBEq, Int.reduceBNe, Int.reduceToNat, Int.reduceNeg, Int.reduceSub, Int.reduceAdd, Int.reduceMul, fz, Tryd.f11] | (with_reducible refine qg9 ?_ ?_; focus (first | (simp (maxDischargeDepth := 8) only [bb, kk, fz]; done) | kernel_rfl)) | ((with_reducible first | refine qf7 ?_ ?_ | refine qf8 ?_ ?_ | refine qf9 ?_ ?_ | refine qg ?_ ?_ | refine qg0 ?_ ?_ | refine qg1 ?_ ?_ | refine qg2 ?_ ?_); focus (first | assumption | omega | (simp only [bz, fz]; omega))) | ((with_reducible first | refine qg3 ?_ ?_ | refine qg4 ?_ ?_ | refine qg5 ?_ ?_); focus (first | assumption | omega | (simp only [bz, fz]; omega))) | ((with_reducible first | refine g1_u8w ?_ ?_ | refine qg7 ?_ ?_); (focus ((repeat' (with_reducible apply And.intro)) <;> (first | assumption | omega | (simp only [bz, fz]; omega) | (simp (maxDischargeDepth := 8) only [bb, fz]; done)))); intro _) | (with_reducible apply call_elim; focus ((with_reducible first | apply e40 | apply e41) <;> (first | assumption | omega | (simp only [bz, fz]; omega) | (simp (maxDischargeDepth := 8) only [bb, fz]; done))))))
      | true =>
        by_cases hv : 0 ≤ v ∧ v ≤ 1000000
        · have hr : askOk k nm v n = decide (n = 0) := by unfold askOk; rw [hn]; simp [hv, hk, k1]
          (have fz := ga3 hr hn e1; repeat' (first | simp (maxDischargeDepth := 8) only [go_sem, rr, reduceIte, reduceCtorEq, Nat.reduceEqDiff, Nat.reduceAdd, Nat.reduceMul, Nat.reduceSub, Nat.reduceBEq, Nat.reduceLeDiff, Int.reduceEq, Int.reduceLT, Int.reduceLE, Int.reduceGE, Int.reduceGT, Int.reduceBEq, Int.reduceBNe, Int.reduceToNat, Int.reduceNeg, Int.reduceSub, Int.reduceAdd, Int.reduceMul, fz, Tryd.f11] | (with_reducible refine qg9 ?_ ?_; focus (first | (simp (maxDischargeDepth := 8) only [bb, kk, fz]; done) | kernel_rfl)) | ((with_reducible first | refine qf7 ?_ ?_ | refine qf8 ?_ ?_ | refine qf9 ?_ ?_ | refine qg ?_ ?_ | refine qg0 ?_ ?_ | refine qg1 ?_ ?_ | refine qg2 ?_ ?_); focus (first | assumption | omega | (simp only [bz, fz]; omega))) | ((with_reducible first | refine qg3 ?_ ?_ | refine qg4 ?_ ?_ | refine qg5 ?_ ?_); focus (first | assumption | omega | (simp only [bz, fz]; omega))) | ((with_reducible first | refine g1_u8w ?_ ?_ | refine qg7 ?_ ?_); (focus ((repeat' (with_reducible apply And.intro)) <;> (first | assumption | omega | (simp only [bz, fz]; omega) | (simp (maxDischargeDepth := 8) only [bb, fz]; done)))); intro _) | (with_reducible apply call_elim; focus ((with_reducible first | apply e40 | apply e41 | apply e42) <;> (first | assumption | omega | (simp only [bz, fz]; omega) | (simp (maxDischargeDepth := 8) only [bb, fz]; done))))))
        · have hr : askOk k nm v n = false := by unfold askOk; rw [hn]; simp; omega
          (have fz := ga2 hr hn; repeat' (first | simp (maxDischargeDepth := 8) only [go_sem, rr, reduceIte, reduceCtorEq, Nat.reduceEqDiff, Nat.reduceAdd, Nat.reduceMul, Nat.reduceSub, Nat.reduceBEq, Nat.reduceLeDiff, Int.reduceEq, Int.reduceLT, Int.reduceLE, Int.reduceGE, Int.reduceGT, Int.reduceBEq, Int.reduceBNe, Int.reduceToNat, Int.reduceNeg, Int.reduceSub, Int.reduceAdd, Int.reduceMul, fz, Tryd.f11] | (with_reducible refine qg9 ?_ ?_; focus (first | (simp (maxDischargeDepth := 8) only [bb, kk, fz]; done) | kernel_rfl)) | ((with_reducible first | refine qf7 ?_ ?_ | refine qf8 ?_ ?_ | refine qf9 ?_ ?_ | refine qg ?_ ?_ | refine qg0 ?_ ?_ | refine qg1 ?_ ?_ | refine qg2 ?_ ?_); focus (first | assumption | omega | (simp only [bz, fz]; omega))) | ((with_reducible first | refine qg3 ?_ ?_ | refine qg4 ?_ ?_ | refine qg5 ?_ ?_); focus (first | assumption | omega | (simp only [bz, fz]; omega))) | ((with_reducible first | refine g1_u8w ?_ ?_ | refine qg7 ?_ ?_); (focus ((repeat' (with_reducible apply And.intro)) <;> (first | assumption | omega | (simp only [bz, fz]; omega) | (simp (maxDischargeDepth := 8) only [bb, fz]; done)))); intro _) | (with_reducible apply call_elim; focus ((with_reducible first | apply e40 | apply e41 | apply e42) <;> (first | assumption | omega | (simp only [bz, fz]; omega) | (simp (maxDischargeDepth := 8) only [bb, fz]; done))))))
    · have hr : askOk k nm v n = false := by
        have : (decide (1 ≤ k) && decide (k ≤ 4)) = false := by simp; omega
        simp [askOk, this]
      (repeat' (first | simp (maxDischargeDepth := 8) only [go_sem, rr, reduceIte, reduceCtorEq, Nat.reduceEqDiff, Nat.reduceAdd, Nat.reduceMul, Nat.reduceSub, Nat.reduceBEq, Nat.reduceLeDiff, Int.reduceEq, Int.reduceLT, Int.reduceLE, Int.reduceGE, Int.reduceGT, Int.reduceBEq, Int.reduceBNe, Int.reduceToNat, Int.reduceNeg, Int.reduceSub, Int.reduceAdd, Int.reduceMul, hr, Tryd.f11] | (with_reducible refine qg9 ?_ ?_; focus (first | (simp (maxDischargeDepth := 8) only [bb, kk, hr]; done) | kernel_rfl)) | ((with_reducible first | refine qf7 ?_ ?_ | refine qf8 ?_ ?_ | refine qf9 ?_ ?_ | refine qg ?_ ?_ | refine qg0 ?_ ?_ | refine qg1 ?_ ?_ | refine qg2 ?_ ?_); focus (first | assumption | omega | (simp only [bz, hr]; omega))) | ((with_reducible first | refine qg3 ?_ ?_ | refine qg4 ?_ ?_ | refine qg5 ?_ ?_); focus (first | assumption | omega | (simp only [bz, hr]; omega))) | ((with_reducible first | refine g1_u8w ?_ ?_ | refine qg7 ?_ ?_); (focus ((repeat' (with_reducible apply And.intro)) <;> (first | assumption | omega | (simp only [bz, hr]; omega) | (simp (maxDischargeDepth := 8) only [bb, hr]; done)))); intro _) | (with_reducible apply call_elim; focus ((with_reducible first | apply e40 | apply e41 | apply e42) <;> (first | assumption | omega | (simp only [bz, hr]; omega) | (simp (maxDischargeDepth := 8) only [bb, hr]; done))))))
theorem n8 (d : Nat) (k v : Int) (nm : List UInt8) (n : Nat) (c : Option Nat) (cs : List AV) (hl : nm.length ≤ 549755813888) (hk : isK .u8 cs = true) (hn : cs.length = n) (hok : askOk k nm v n = true) : evFun E (d+7) 8 [.agg [vi k, vs nm, vi v, .sl .fgn 1 n c cs]] [] = some (.tup [.ref 0 [] 1 0 (2 + nm.length + 8 + n) none, vb true], [some (askB k nm v cs)]) := by
  obtain ⟨h1, h2, h3, h4⟩ := askOk_parts hok
  have hp : evFun E (d+6) 35 [.agg [vi k, vs nm, vi v, .sl .fgn 1 n c cs]] [] = some (.ref 0 [] 1 0 (2 + nm.length + 8 + n) none, [some (askB k nm v cs)]) := by
    refine evFun_body b35 ?_
    have hu := isK_u8 nm
    have h8 := isK_map .u8 (eightL v)
    have hl8 := eight8 v
    have hul : (nm.map VH.u8).length = nm.length := by simp
    have x1 : [AV.val (.int .u8 k), AV.val (.int .u8 nm.length)].length = 2 := rfl
    have x2 : isK .u8 [AV.val (.int .u8 k), AV.val (.int .u8 nm.length)] = true := rfl
    (have fz := ga6 hk hn hu h8 hl8 hul; repeat' (first | simp (maxDischargeDepth := 8) only [go_sem, rr, reduceIte, reduceCtorEq, Nat.reduceEqDiff, Nat.reduceAdd, Nat.reduceMul, Nat.reduceSub, Nat.reduceBEq, Nat.reduceLeDiff, Int.reduceEq, Int.reduceLT, Int.reduceLE, Int.reduceGE, Int.reduceGT, Int.reduceBEq, Int.reduceBNe, Int.reduceToNat, Int.reduceNeg, Int.reduceSub, Int.reduceAdd, Int.reduceMul, fz, askB, Tryd.f35] | (with_reducible refine qg9 ?_ ?_; focus (first | (simp (maxDischargeDepth := 8) only [bb, kk, fz, askB]; done) | kernel_rfl)) | ((with_reducible first | refine qf7 ?_ ?_ | refine qf8 ?_ ?_ | refine qf9 ?_ ?_ | refine qg ?_ ?_ | refine qg0 ?_ ?_ | refine qg1 ?_ ?_ | refine qg2 ?_ ?_); focus (first | assumption | omega | (simp only [bz, fz, askB]; omega))) | ((with_reducible first | refine qg3 ?_ ?_ | refine qg4 ?_ ?_ | refine qg5 ?_ ?_); focus (first | assumption | omega | (simp only [bz, fz, askB]; omega))) | ((with_reducible first | refine g1_u8w ?_ ?_ | refine qg7 ?_ ?_); (focus ((repeat' (with_reducible apply And.intro)) <;> (first | assumption | omega | (simp only [bz, fz, askB]; omega) | (simp (maxDischargeDepth := 8) only [bb, fz, askB]; done)))); intro _) | (with_reducible apply call_elim; focus ((with_reducible first | apply e78 | apply c477) <;> (first | assumption | omega | (simp only [bz, fz, askB]; omega) | (simp (maxDischargeDepth := 8) only [bb, fz, askB]; done))))))
  refine evFun_body b8 ?_
  have hs := isK_snap (isK_askB (k := k) (v := v) (nm := nm) hk)
  (have fz := ga2 hok hs; repeat' (first | simp (maxDischargeDepth := 8) only [go_sem, rr, reduceIte, reduceCtorEq, Nat.reduceEqDiff, Nat.reduceAdd, Nat.reduceMul, Nat.reduceSub, Nat.reduceBEq, Nat.reduceLeDiff, Int.reduceEq, Int.reduceLT, Int.reduceLE, Int.reduceGE, Int.reduceGT, Int.reduceBEq, Int.reduceBNe, Int.reduceToNat, Int.reduceNeg, Int.reduceSub, Int.reduceAdd, Int.reduceMul, fz, hp, Tryd.f8] | (with_reducible refine qg9 ?_ ?_; focus (first | (simp (maxDischargeDepth := 8) only [bb, kk, fz, hp]; done) | kernel_rfl)) | ((with_reducible first | refine qf7 ?_ ?_ | refine qf8 ?_ ?_ | refine qf9 ?_ ?_ | refine qg ?_ ?_ | refine qg0 ?_ ?_ | refine qg1 ?_ ?_ | refine qg2 ?_ ?_); focus (first | assumption | omega | (simp only [bz, fz, hp]; omega))) | ((with_reducible first | refine qg3 ?_ ?_ | refine qg4 ?_ ?_ | refine qg5 ?_ ?_); focus (first | assumption | omega | (simp only [bz, fz, hp]; omega))) | ((with_reducible first | refine g1_u8w ?_ ?_ | refine qg7 ?_ ?_); (focus ((repeat' (with_reducible apply And.intro)) <;> (first | assumption | omega | (simp only [bz, fz, hp]; omega) | (simp (maxDischargeDepth := 8) only [bb, fz, hp]; done)))); intro _) | (with_reducible apply call_elim; focus ((with_reducible first | apply n11) <;> (first | assumption | omega | (simp only [bz, fz, hp]; omega) | (simp (maxDischargeDepth := 8) only [bb, fz, hp]; done))))))
end Go.Proofs.YtgdldmfkgijkaaaDoor.VH.S
end

