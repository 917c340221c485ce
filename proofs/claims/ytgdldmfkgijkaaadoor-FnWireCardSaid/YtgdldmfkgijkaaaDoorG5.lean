/- Part of a proof about the given program: a verified evaluator, and what it tells of the functions (VhWFCo, VhWFCe, VhWFCt, VhWFCp, VhWFCq, VhWFR, VhWFT, VhWFN, VhWFW, VhWFP, VhWFAt, VhWFDr, VhWFDa, VhWFDs, VhWFDb, VhWFWp, VhWFY, VhWFPm, VhWFPs, VhWFFg, VhWFGm, VhWFGs). Conditions: none beyond the hypotheses that each theorem states. -/
import Derived.Test.YtgdldmfkgijkaaaDoorG4
import Derived.Test.YtgdldmfkgijkaaaDoorG3
set_option linter.unusedSimpArgs false
set_option linter.unusedVariables false
set_option linter.defProp false
section
namespace Go.Proofs.YtgdldmfkgijkaaaDoor.VH.S
open Go.Proofs
set_option maxRecDepth 100000
set_option maxHeartbeats 8000000
set_option linter.unusedSimpArgs false

/- Joining rows of bytes. -/
theorem g90 (d n : Nat) (h0 : 0 < n) (hl : n ≤ 549755813880) : evFun E (d+1) 90 [.val (.slice none 0 0), vi n] [] = some (.ref 0 [] 1 0 0 none, [some (List.replicate n (iv .u8 0))]) := by
  refine evFun_body b90 ?_
  have hz2 := noSnapL_iv .u8 (List.replicate n 0)
  rw [List.map_replicate] at hz2
  (repeat' (first | simp (maxDischargeDepth := 8) only [go_sem, rr, reduceIte, reduceCtorEq, Nat.reduceEqDiff, Nat.reduceAdd, Nat.reduceMul, Nat.reduceSub, Nat.reduceBEq, Nat.reduceLeDiff, Int.reduceEq, Int.reduceLT, Int.reduceLE, Int.reduceGE, Int.reduceGT, Int.reduceBEq, Int.reduceBNe, Int.reduceToNat, Int.reduceNeg, Int.reduceSub, Int.reduceAdd, Int.reduceMul, zeros_one, hz2, Nat.sub_zero, Tryd.f90] | (with_reducible refine qg9 ?_ ?_; focus (first | (simp (maxDischargeDepth := 8) only [bb, kk, zeros_one, hz2, Nat.sub_zero]; done) | kernel_rfl)) | ((with_reducible first | refine qf7 ?_ ?_ | refine qf8 ?_ ?_ | refine qf9 ?_ ?_ | refine qg ?_ ?_ | refine qg0 ?_ ?_ | refine qg1 ?_ ?_ | refine qg2 ?_ ?_); focus (first | assumption | omega | (simp only [bz, zeros_one, hz2, Nat.sub_zero]; omega))) | ((with_reducible first | refine qg3 ?_ ?_ | refine qg4 ?_ ?_ | refine qg5 ?_ ?_); focus (first | assumption | omega | (simp only [bz, zeros_one, hz2, Nat.sub_zero]; omega))) | ((with_reducible first | refine g1_u8w ?_ ?_ | refine qg7 ?_ ?_); (focus ((repeat' (with_reducible apply And.intro)) <;> (first | assumption | omega | (simp only [bz, zeros_one, hz2, Nat.sub_zero]; omega) | (simp (maxDischargeDepth := 8) only [bb, zeros_one, hz2, Nat.sub_zero]; done)))); intro _)))
abbrev Prt := Tg × Option Nat × List AV
def pC (p : Prt) : AV := .sl p.1 1 p.2.2.length p.2.1 p.2.2
def catP (P : List Prt) : List AV := (P.map fun p => p.2.2).flatten
def p0 : Prt := (.fgn, none, [])
def pA (P : List Prt) (i : Nat) : Prt := P.getD i p0
theorem pA_get {P : List Prt} {i : Nat} (h : i < P.length) : pA P i = P[i] := by
  rw [pA, List.getD_eq_getElem?_getD, List.getElem?_eq_getElem h]; rfl
theorem pC_get {P : List Prt} {i : Nat} (h : i < P.length) : g1 (P.map pC) i = some (.sl (pA P i).1 1 (pA P i).2.2.length (pA P i).2.1 (pA P i).2.2) := by
  rw [pA_get h]; simp [g1, h, pC]
theorem catP_succ {P : List Prt} {i : Nat} (h : i < P.length) : catP (P.take (i + 1)) = catP (P.take i) ++ (pA P i).2.2 := by
  rw [pA_get h, List.take_succ_eq_append_getElem h]; simp only [catP, List.map_append, List.map_cons, List.map_nil, List.flatten_append, List.flatten_cons, List.flatten_nil, List.append_nil]
theorem catP_len {P : List Prt} {i : Nat} (h : i < P.length) : (catP (P.take (i + 1))).length = (catP (P.take i)).length + (pA P i).2.2.length := by
  rw [catP_succ h, List.length_append]
theorem catP_le (P : List Prt) {i j : Nat} (h : i ≤ j) (hj : j ≤ P.length) : (catP (P.take i)).length ≤ (catP (P.take j)).length := by
  induction j with
  | zero => have : i = 0 := by omega
            subst this; exact Nat.le_refl _
  | succ j ih =>
    by_cases e : i = j + 1
    · subst e; exact Nat.le_refl _
    · rw [catP_len (by omega)]
      exact Nat.le_trans (ih (by omega) (by omega)) (Nat.le_add_right _ _)
theorem catP_nil : catP [] = [] := rfl
theorem catP_all (P : List Prt) : P.take P.length = P := List.take_of_length_le (Nat.le_refl _)
theorem isK_cat {P : List Prt} (hk : ∀ p ∈ P, isK .u8 p.2.2 = true) : isK .u8 (catP P) = true := by
  induction P with
  | nil => rfl
  | cons p P ih =>
    have : catP (p :: P) = p.2.2 ++ catP P := by simp [catP]
    rw [this, isK_app, hk p (by simp), ih fun q hq => hk q (by simp [hq])]; rfl
/-- a row with room -/
def roomy (cs : List AV) (N : Nat) : List AV := cs ++ List.replicate (N - cs.length) (iv .u8 0)
theorem roomy_len {cs : List AV} {N : Nat} (h : cs.length ≤ N) : (roomy cs N).length = N := by simp [roomy]; omega
theorem roomy_put {cs ds : List AV} {N : Nat} (h : cs.length + ds.length ≤ N) : setAt (roomy cs N) cs.length ds = roomy (cs ++ ds) N := by
  rw [setAt_put _ _ _ (by rw [roomy_len (by omega)]; exact h)]
  simp only [roomy, putL, List.length_append]
  rw [List.take_append_of_le_length (Nat.le_refl _), List.take_length, List.drop_append, List.drop_of_length_le (Nat.le_add_right _ _), List.nil_append, List.append_assoc]
  rw [List.drop_replicate, show N - cs.length - (cs.length + ds.length - cs.length) = N - (cs.length + ds.length) by omega]
  simp only [List.append_assoc]
theorem roomy_full (cs : List AV) : roomy cs cs.length = cs := by simp [roomy]
theorem roomy_nil (N : Nat) : roomy [] N = List.replicate N (iv .u8 0) := by simp [roomy]
theorem roomy_own {cs : List AV} (N : Nat) (h : isK .u8 cs = true) : (roomy cs N).any qb8 = false := by
  rw [roomy, List.any_append, isK_own h, isK_own (isK_repl .u8 _ 0)]; rfl
theorem g77 (d : Nat) (P : List Prt) (c : Option Nat) (hk : ∀ p ∈ P, isK .u8 p.2.2 = true) (h0 : 0 < (catP P).length) (hl : (catP P).length ≤ 549755813880) (hP : P.length ≤ 1000) : evFun E (d+2) 77 [.sl .snap 1 P.length c (P.map pC)] [] = some (.ref 0 [] 1 0 (catP P).length none, [some (catP P)]) := by
  refine evFun_body b77 ?_
  have hall := catP_all P
  (repeat' (first | simp (maxDischargeDepth := 8) only [go_sem, rr, reduceIte, reduceCtorEq, Nat.reduceEqDiff, Nat.reduceAdd, Nat.reduceMul, Nat.reduceSub, Nat.reduceBEq, Nat.reduceLeDiff, Int.reduceEq, Int.reduceLT, Int.reduceLE, Int.reduceGE, Int.reduceGT, Int.reduceBEq, Int.reduceBNe, Int.reduceToNat, Int.reduceNeg, Int.reduceSub, Int.reduceAdd, Int.reduceMul, Tryd.f77] | (with_reducible refine qg9 ?_ ?_; focus (first | (simp (maxDischargeDepth := 8) only [bb, kk]; done) | kernel_rfl)) | ((with_reducible first | refine qf7 ?_ ?_ | refine qf8 ?_ ?_ | refine qf9 ?_ ?_ | refine qg ?_ ?_ | refine qg0 ?_ ?_ | refine qg1 ?_ ?_ | refine qg2 ?_ ?_); focus (first | assumption | omega | (simp only [bz]; omega))) | ((with_reducible first | refine qg3 ?_ ?_ | refine qg4 ?_ ?_ | refine qg5 ?_ ?_); focus (first | assumption | omega | (simp only [bz]; omega))) | ((with_reducible first | refine g1_u8w ?_ ?_ | refine qg7 ?_ ?_); (focus ((repeat' (with_reducible apply And.intro)) <;> (first | assumption | omega | (simp only [bz]; omega) | (simp (maxDischargeDepth := 8) only [bb]; done)))); intro _)))
  refine loop_go (fun i => {T := tp [(0, .sl .snap 1 P.length c (P.map pC)), (3, vi (catP (P.take i)).length), (9, .sl .snap 1 P.length c (P.map pC)), (10, vi P.length), (11, vi i)], H := hp [], nx := 0}) P.length ?_ (lt_LF (by omega)) (fun i hi Kn hK => ?_) (fun Kn => ?_)
  · simp only [vv, ff, norm, Array.toList, List.map, Option.isSome_none, bne_self_eq_false, reduceIte, reduceCtorEq, Nat.reduceEqDiff, Nat.reduceAdd, Nat.reduceMul, Nat.reduceSub, Nat.reduceBEq, Nat.reduceLeDiff, Int.reduceEq, Int.reduceLT, Int.reduceLE, Int.reduceGE, Int.reduceGT, Int.reduceBEq, Int.reduceBNe, Int.reduceToNat, Int.reduceNeg, Int.reduceSub, Int.reduceAdd, Int.reduceMul, finish, qf0, resOf, resa, qf1, qf2, qf3, keep, qf4, qf5, qf6, qe9, qf, Int.natCast_zero, List.take_zero, catP_nil, List.length_nil]
  · have hg := pC_get hi
    have hs := catP_len hi
    have hle := catP_le P (show i + 1 ≤ P.length by omega) (Nat.le_refl _)
    rw [hall, hs] at hle
    (repeat' (first | simp (maxDischargeDepth := 8) only [go_sem, rr, reduceIte, reduceCtorEq, Nat.reduceEqDiff, Nat.reduceAdd, Nat.reduceMul, Nat.reduceSub, Nat.reduceBEq, Nat.reduceLeDiff, Int.reduceEq, Int.reduceLT, Int.reduceLE, Int.reduceGE, Int.reduceGT, Int.reduceBEq, Int.reduceBNe, Int.reduceToNat, Int.reduceNeg, Int.reduceSub, Int.reduceAdd, Int.reduceMul, hg] | (with_reducible refine qg9 ?_ ?_; focus (first | (simp (maxDischargeDepth := 8) only [bb, kk, hg]; done) | kernel_rfl)) | ((with_reducible first | refine qf7 ?_ ?_ | refine qf8 ?_ ?_ | refine qf9 ?_ ?_ | refine qg ?_ ?_ | refine qg0 ?_ ?_ | refine qg1 ?_ ?_ | refine qg2 ?_ ?_); focus (first | assumption | omega | (simp only [bz, hg]; omega))) | ((with_reducible first | refine qg3 ?_ ?_ | refine qg4 ?_ ?_ | refine qg5 ?_ ?_); focus (first | assumption | omega | (simp only [bz, hg]; omega))) | ((with_reducible first | refine g1_u8w ?_ ?_ | refine qg7 ?_ ?_); (focus ((repeat' (with_reducible apply And.intro)) <;> (first | assumption | omega | (simp only [bz, hg]; omega) | (simp (maxDischargeDepth := 8) only [bb, hg]; done)))); intro _)))
    refine hK _ ?_
    simp only [vv, ff, norm, Array.toList, List.map, Option.isSome_none, bne_self_eq_false, reduceIte, reduceCtorEq, Nat.reduceEqDiff, Nat.reduceAdd, Nat.reduceMul, Nat.reduceSub, Nat.reduceBEq, Nat.reduceLeDiff, Int.reduceEq, Int.reduceLT, Int.reduceLE, Int.reduceGE, Int.reduceGT, Int.reduceBEq, Int.reduceBNe, Int.reduceToNat, Int.reduceNeg, Int.reduceSub, Int.reduceAdd, Int.reduceMul, finish, qf0, resOf, resa, qf1, qf2, qf3, keep, qf4, qf5, qf6, qe9, qf, Int.natCast_add, cst1, hs]
  · (repeat' (first | simp (maxDischargeDepth := 8) only [go_sem, rr, reduceIte, reduceCtorEq, Nat.reduceEqDiff, Nat.reduceAdd, Nat.reduceMul, Nat.reduceSub, Nat.reduceBEq, Nat.reduceLeDiff, Int.reduceEq, Int.reduceLT, Int.reduceLE, Int.reduceGE, Int.reduceGT, Int.reduceBEq, Int.reduceBNe, Int.reduceToNat, Int.reduceNeg, Int.reduceSub, Int.reduceAdd, Int.reduceMul, hall] | (with_reducible refine qg9 ?_ ?_; focus (first | (simp (maxDischargeDepth := 8) only [bb, kk, hall]; done) | kernel_rfl)) | ((with_reducible first | refine qf7 ?_ ?_ | refine qf8 ?_ ?_ | refine qf9 ?_ ?_ | refine qg ?_ ?_ | refine qg0 ?_ ?_ | refine qg1 ?_ ?_ | refine qg2 ?_ ?_); focus (first | assumption | omega | (simp only [bz, hall]; omega))) | ((with_reducible first | refine qg3 ?_ ?_ | refine qg4 ?_ ?_ | refine qg5 ?_ ?_); focus (first | assumption | omega | (simp only [bz, hall]; omega))) | ((with_reducible first | refine g1_u8w ?_ ?_ | refine qg7 ?_ ?_); (focus ((repeat' (with_reducible apply And.intro)) <;> (first | assumption | omega | (simp only [bz, hall]; omega) | (simp (maxDischargeDepth := 8) only [bb, hall]; done)))); intro _) | (with_reducible apply call_elim; focus ((with_reducible first | apply g90) <;> (first | assumption | omega | (simp only [bz, hall]; omega) | (simp (maxDischargeDepth := 8) only [bb, hall]; done))))))
    refine loop_go (fun i => {T := tp [(6, .ref 0 [] 1 0 (catP (P.take i)).length none), (25, .sl .snap 1 P.length c (P.map pC)), (26, vi P.length), (27, vi i)], H := hp [some (roomy (catP (P.take i)) (catP P).length)], nx := 1}) P.length ?_ (lt_LF (by omega)) (fun i hi Kn hK => ?_) (fun Kn => ?_)
    · simp only [vv, ff, norm, Array.toList, List.map, Option.isSome_none, bne_self_eq_false, reduceIte, reduceCtorEq, Nat.reduceEqDiff, Nat.reduceAdd, Nat.reduceMul, Nat.reduceSub, Nat.reduceBEq, Nat.reduceLeDiff, Int.reduceEq, Int.reduceLT, Int.reduceLE, Int.reduceGE, Int.reduceGT, Int.reduceBEq, Int.reduceBNe, Int.reduceToNat, Int.reduceNeg, Int.reduceSub, Int.reduceAdd, Int.reduceMul, finish, qf0, resOf, resa, qf1, qf2, qf3, keep, qf4, qf5, qf6, qe9, qf, Int.natCast_zero, List.take_zero, catP_nil, List.length_nil, roomy_nil]
    · have hg := pC_get hi
      have hs := catP_len hi
      have hc := catP_succ hi
      have hle := catP_le P (show i + 1 ≤ P.length by omega) (Nat.le_refl _)
      rw [hall, hs] at hle
      have hkp : isK .u8 (pA P i).2.2 = true := by rw [pA_get hi]; exact hk _ (List.getElem_mem _)
      have hkc : isK .u8 (catP (P.take i)) = true := isK_cat fun p hp' => hk p (List.mem_of_mem_take hp')
      have hro := roomy_own (catP P).length hkc
      have hrl := roomy_len (cs := catP (P.take i)) (N := (catP P).length) (by omega)
      have hput := roomy_put (cs := catP (P.take i)) (ds := (pA P i).2.2) (N := (catP P).length) hle
      by_cases hm : (pA P i).2.2.length = 0
      · have he : (pA P i).2.2 = [] := List.eq_nil_of_length_eq_zero hm
        rw [he, List.append_nil] at hc
        rw [hm, Nat.add_zero] at hs
        by_cases hf : (catP (P.take i)).length = (catP P).length
        · (have fz := ga5 hg hrl hro he hf; repeat' (first | simp (maxDischargeDepth := 8) only [go_sem, rr, reduceIte, reduceCtorEq, Nat.reduceEqDiff, Nat.reduceAdd, Nat.reduceMul, Nat.reduceSub, Nat.reduceBEq, Nat.reduceLeDiff, Int.reduceEq, Int.reduceLT, Int.reduceLE, Int.reduceGE, Int.reduceGT, Int.reduceBEq, Int.reduceBNe, Int.reduceToNat, Int.reduceNeg, Int.reduceSub, Int.reduceAdd, Int.reduceMul, fz] | (with_reducible refine qg9 ?_ ?_; focus (first | (simp (maxDischargeDepth := 8) only [bb, kk, fz]; done) | kernel_rfl)) | ((with_reducible first | refine qf7 ?_ ?_ | refine qf8 ?_ ?_ | refine qf9 ?_ ?_ | refine qg ?_ ?_ | refine qg0 ?_ ?_ | refine qg1 ?_ ?_ | refine qg2 ?_ ?_); focus (first | assumption | omega | (simp only [bz, fz]; omega))) | ((with_reducible first | refine qg3 ?_ ?_ | refine qg4 ?_ ?_ | refine qg5 ?_ ?_); focus (first | assumption | omega | (simp only [bz, fz]; omega))) | ((with_reducible first | refine g1_u8w ?_ ?_ | refine qg7 ?_ ?_); (focus ((repeat' (with_reducible apply And.intro)) <;> (first | assumption | omega | (simp only [bz, fz]; omega) | (simp (maxDischargeDepth := 8) only [bb, fz]; done)))); intro _)))
          refine hK _ ?_
          simp only [vv, ff, norm, Array.toList, List.map, Option.isSome_none, bne_self_eq_false, reduceIte, reduceCtorEq, Nat.reduceEqDiff, Nat.reduceAdd, Nat.reduceMul, Nat.reduceSub, Nat.reduceBEq, Nat.reduceLeDiff, Int.reduceEq, Int.reduceLT, Int.reduceLE, Int.reduceGE, Int.reduceGT, Int.reduceBEq, Int.reduceBNe, Int.reduceToNat, Int.reduceNeg, Int.reduceSub, Int.reduceAdd, Int.reduceMul, finish, qf0, resOf, resa, qf1, qf2, qf3, keep, qf4, qf5, qf6, qe9, qf, Int.natCast_add, cst1, hs, hc, hf]
        · (have fz := ga4 hg hrl hro he; repeat' (first | simp (maxDischargeDepth := 8) only [go_sem, rr, reduceIte, reduceCtorEq, Nat.reduceEqDiff, Nat.reduceAdd, Nat.reduceMul, Nat.reduceSub, Nat.reduceBEq, Nat.reduceLeDiff, Int.reduceEq, Int.reduceLT, Int.reduceLE, Int.reduceGE, Int.reduceGT, Int.reduceBEq, Int.reduceBNe, Int.reduceToNat, Int.reduceNeg, Int.reduceSub, Int.reduceAdd, Int.reduceMul, fz] | (with_reducible refine qg9 ?_ ?_; focus (first | (simp (maxDischargeDepth := 8) only [bb, kk, fz]; done) | kernel_rfl)) | ((with_reducible first | refine qf7 ?_ ?_ | refine qf8 ?_ ?_ | refine qf9 ?_ ?_ | refine qg ?_ ?_ | refine qg0 ?_ ?_ | refine qg1 ?_ ?_ | refine qg2 ?_ ?_); focus (first | assumption | omega | (simp only [bz, fz]; omega))) | ((with_reducible first | refine qg3 ?_ ?_ | refine qg4 ?_ ?_ | refine qg5 ?_ ?_); focus (first | assumption | omega | (simp only [bz, fz]; omega))) | ((with_reducible first | refine g1_u8w ?_ ?_ | refine qg7 ?_ ?_); (focus ((repeat' (with_reducible apply And.intro)) <;> (first | assumption | omega | (simp only [bz, fz]; omega) | (simp (maxDischargeDepth := 8) only [bb, fz]; done)))); intro _)))
          refine hK _ ?_
          simp only [vv, ff, norm, Array.toList, List.map, Option.isSome_none, bne_self_eq_false, reduceIte, reduceCtorEq, Nat.reduceEqDiff, Nat.reduceAdd, Nat.reduceMul, Nat.reduceSub, Nat.reduceBEq, Nat.reduceLeDiff, Int.reduceEq, Int.reduceLT, Int.reduceLE, Int.reduceGE, Int.reduceGT, Int.reduceBEq, Int.reduceBNe, Int.reduceToNat, Int.reduceNeg, Int.reduceSub, Int.reduceAdd, Int.reduceMul, finish, qf0, resOf, resa, qf1, qf2, qf3, keep, qf4, qf5, qf6, qe9, qf, Int.natCast_add, cst1, hs, hc]
      · (have fz := ga5 hg hrl hro hkp hput; repeat' (first | simp (maxDischargeDepth := 8) only [go_sem, rr, reduceIte, reduceCtorEq, Nat.reduceEqDiff, Nat.reduceAdd, Nat.reduceMul, Nat.reduceSub, Nat.reduceBEq, Nat.reduceLeDiff, Int.reduceEq, Int.reduceLT, Int.reduceLE, Int.reduceGE, Int.reduceGT, Int.reduceBEq, Int.reduceBNe, Int.reduceToNat, Int.reduceNeg, Int.reduceSub, Int.reduceAdd, Int.reduceMul, fz] | (with_reducible refine qg9 ?_ ?_; focus (first | (simp (maxDischargeDepth := 8) only [bb, kk, fz]; done) | kernel_rfl)) | ((with_reducible first | refine qf7 ?_ ?_ | refine qf8 ?_ ?_ | refine qf9 ?_ ?_ | refine qg ?_ ?_ | refine qg0 ?_ ?_ | refine qg1 ?_ ?_ | refine qg2 ?_ ?_); focus (first | assumption | omega | (simp only [bz, fz]; omega))) | ((with_reducible first | refine qg3 ?_ ?_ | refine qg4 ?_ ?_ | refine qg5 ?_ ?_); focus (first | assumption | omega | (simp only [bz, fz]; omega))) | ((with_reducible first | refine g1_u8w ?_ ?_ | refine qg7 ?_ ?_); (focus ((repeat' (with_reducible apply And.intro)) <;> (first | assumption | omega | (simp only [bz, fz]; omega) | (simp (maxDischargeDepth := 8) only [bb, fz]; done)))); intro _)))
        refine hK _ ?_
        simp only [vv, ff, norm, Array.toList, List.map, Option.isSome_none, bne_self_eq_false, reduceIte, reduceCtorEq, Nat.reduceEqDiff, Nat.reduceAdd, Nat.reduceMul, Nat.reduceSub, Nat.reduceBEq, Nat.reduceLeDiff, Int.reduceEq, Int.reduceLT, Int.reduceLE, Int.reduceGE, Int.reduceGT, Int.reduceBEq, Int.reduceBNe, Int.reduceToNat, Int.reduceNeg, Int.reduceSub, Int.reduceAdd, Int.reduceMul, finish, qf0, resOf, resa, qf1, qf2, qf3, keep, qf4, qf5, qf6, qe9, qf, Int.natCast_add, cst1, hs, hc, List.length_append]
    · have hfu := roomy_full (catP P)
      have hsn := isK_snap (isK_cat hk)
      (have fz := ga3 hall hfu hsn; repeat' (first | simp (maxDischargeDepth := 8) only [go_sem, rr, reduceIte, reduceCtorEq, Nat.reduceEqDiff, Nat.reduceAdd, Nat.reduceMul, Nat.reduceSub, Nat.reduceBEq, Nat.reduceLeDiff, Int.reduceEq, Int.reduceLT, Int.reduceLE, Int.reduceGE, Int.reduceGT, Int.reduceBEq, Int.reduceBNe, Int.reduceToNat, Int.reduceNeg, Int.reduceSub, Int.reduceAdd, Int.reduceMul, fz] | (with_reducible refine qg9 ?_ ?_; focus (first | (simp (maxDischargeDepth := 8) only [bb, kk, fz]; done) | kernel_rfl)) | ((with_reducible first | refine qf7 ?_ ?_ | refine qf8 ?_ ?_ | refine qf9 ?_ ?_ | refine qg ?_ ?_ | refine qg0 ?_ ?_ | refine qg1 ?_ ?_ | refine qg2 ?_ ?_); focus (first | assumption | omega | (simp only [bz, fz]; omega))) | ((with_reducible first | refine qg3 ?_ ?_ | refine qg4 ?_ ?_ | refine qg5 ?_ ?_); focus (first | assumption | omega | (simp only [bz, fz]; omega))) | ((with_reducible first | refine g1_u8w ?_ ?_ | refine qg7 ?_ ?_); (focus ((repeat' (with_reducible apply And.intro)) <;> (first | assumption | omega | (simp only [bz, fz]; omega) | (simp (maxDischargeDepth := 8) only [bb, fz]; done)))); intro _)))
theorem c477 (d : Nat) (c : Option Nat) (t1 t2 t3 t4 : Tg) (n1 n2 n3 n4 : Nat) (c1 c2 c3 c4 : Option Nat) (x1 x2 x3 x4 : List AV) (e1 : x1.length = n1) (e2 : x2.length = n2) (e3 : x3.length = n3) (e4 : x4.length = n4) (k1 : isK .u8 x1 = true) (k2 : isK .u8 x2 = true) (k3 : isK .u8 x3 = true) (k4 : isK .u8 x4 = true) (h0 : 0 < n1) (hl : n1 + n2 + n3 + n4 ≤ 549755813880) : evFun E (d+2) 77 [.sl .snap 1 4 c [.sl t1 1 n1 c1 x1, .sl t2 1 n2 c2 x2, .sl t3 1 n3 c3 x3, .sl t4 1 n4 c4 x4]] [] = some (.ref 0 [] 1 0 (n1 + n2 + n3 + n4) none, [some (x1 ++ x2 ++ x3 ++ x4)]) := by
  subst e1; subst e2; subst e3; subst e4
  have he : catP [(t1, c1, x1), (t2, c2, x2), (t3, c3, x3), (t4, c4, x4)] = x1 ++ x2 ++ x3 ++ x4 := by simp [catP]
  have := g77 d [(t1, c1, x1), (t2, c2, x2), (t3, c3, x3), (t4, c4, x4)] c (by simp [k1, k2, k3, k4]) (by rw [he]; simp; omega) (by rw [he]; simp; omega) (by simp)
  rw [he] at this
  simpa [pC, Nat.add_assoc] using this
theorem isK_u8 : ∀ l : List UInt8, isK .u8 (l.map VH.u8) = true
  | [] => rfl
  | b :: l => by rw [List.map_cons, VH.u8, isK_int]; exact isK_u8 l
theorem nameOK_len {nm : List UInt8} (h : (nm == [] || nameOK nm) = true) : nm.length ≤ 8 := by
  rw [Bool.or_eq_true] at h
  rcases h with h | h
  · rw [beq_iff_eq] at h; subst h; simp
  · simp only [nameOK, Bool.and_eq_true, decide_eq_true_eq] at h; exact h.1.2
/-- the bytes of an ask -/
def askB (k : Int) (nm : List UInt8) (v : Int) (cs : List AV) : List AV := [iv .u8 k, iv .u8 nm.length] ++ nm.map VH.u8 ++ (eightL v).map (iv .u8) ++ cs
theorem askOk_parts {k v : Int} {nm : List UInt8} {n : Nat} (h : askOk k nm v n = true) : (1 ≤ k ∧ k ≤ 4) ∧ nm.length ≤ 8 ∧ (0 ≤ v ∧ v ≤ 1000000) ∧ n ≤ 540 := by
  simp only [askOk, Bool.and_eq_true, decide_eq_true_eq] at h
  obtain ⟨⟨⟨h1, h2⟩, h3⟩, h4⟩ := h
  refine ⟨h1, nameOK_len h2, h3, ?_⟩
  split at h4
  · simp only [Bool.and_eq_true, decide_eq_true_eq] at h4; exact h4.2
  · simp only [decide_eq_true_eq] at h4; omega
theorem eight8 (x : Int) : ((eightL x).map (iv .u8)).length = 8 := by simp [eightL]
theorem isK_askB {k v : Int} {nm : List UInt8} {cs : List AV} (hk : isK .u8 cs = true) : isK .u8 (askB k nm v cs) = true := by
  simp only [askB, isK_app, isK_u8, isK_map, hk, isK_int, isK_nil, Bool.and_true, Bool.and_self]
theorem e8 (d : Nat) (k v : Int) (nm : List UInt8) (n : Nat) (c : Option Nat) (cs : List AV) (hl : nm.length ≤ 549755813888) (hk : isK .u8 cs = true) (hn : cs.length = n) (hok : askOk k nm v n = true) : evFun E (d+7) 8 [.agg [vi k, vs nm, vi v, .sl .snap 1 n c cs]] [] = some (.tup [.ref 0 [] 1 0 (2 + nm.length + 8 + n) none, vb true], [some (askB k nm v cs)]) := by
  obtain ⟨h1, h2, h3, h4⟩ := askOk_parts hok
  have hp : evFun E (d+6) 35 [.agg [vi k, vs nm, vi v, .sl .snap 1 n c cs]] [] = some (.ref 0 [] 1 0 (2 + nm.length + 8 + n) none, [some (askB k nm v cs)]) := by
    refine evFun_body b35 ?_
    have hu := isK_u8 nm
    have h8 := isK_map .u8 (eightL v)
    have hl8 := eight8 v
    have hul : (nm.map VH.u8).length = nm.length := by simp
    have x1 : [AV.val (.int .u8 k), AV.val (.int .u8 nm.length)].length = 2 := rfl
    have x2 : isK .u8 [AV.val (.int .u8 k), AV.val (.int .u8 nm.length)] = true := rfl
    (have fz := ga6 hk hn hu h8 hl8 hul; repeat' (first | simp (maxDischargeDepth := 8) only [go_sem, rr, reduceIte, reduceCtorEq, Nat.reduceEqDiff, Nat.reduceAdd, Nat.reduceMul, Nat.reduceSub, Nat.reduceBEq, Nat.reduceLeDiff, Int.reduceEq, Int.reduceLT, Int.reduceLE, Int.reduceGE, Int.reduceGT, Int.reduceBEq, Int.reduceBNe, Int.reduceToNat, Int.reduceNeg, Int.reduceSub, Int.reduceAdd, Int.reduceMul, fz, askB, Tryd.f35] | (with_reducible refine qg9 ?_ ?_; focus (first | (simp (maxDischargeDepth := 8) only [bb, kk, fz, askB]; done) | kernel_rfl)) | ((with_reducible first | refine qf7 ?_ ?_ | refine qf8 ?_ ?_ | refine qf9 ?_ ?_ | refine qg ?_ ?_ | refine qg0 ?_ ?_ | refine qg1 ?_ ?_ | refine qg2 ?_ ?_); focus (first | assumption | omega | (simp only [bz, fz, askB]; omega))) | ((with_reducible first | refine qg3 ?_ ?_ | refine qg4 ?_ ?_ | refine qg5 ?_ ?_); focus (first | assumption | omega | (simp only [bz, fz, askB]; omega))) | ((with_reducible first | refine g1_u8w ?_ ?_ | refine qg7 ?_ ?_); (focus ((repeat' (with_reducible apply And.intro)) <;> (first | assumption | omega | (simp only [bz, fz, askB]; omega) | (simp (maxDischargeDepth := 8) only [bb, fz, askB]; done)))); intro _) | (with_reducible apply call_elim; focus ((with_reducible first | apply e78 | apply c477) <;> (first | assumption | omega | (simp only [bz, fz, askB]; omega) | (simp (maxDischargeDepth := 8) only [bb, fz, askB]; done))))))
  refine evFun_body b8 ?_
  have hs := isK_snap (isK_askB (k := k) (v := v) (nm := nm) hk)
  (have fz := ga2 hok hs; repeat' (first | simp (maxDischargeDepth := 8) only [go_sem, rr, reduceIte, reduceCtorEq, Nat.reduceEqDiff, Nat.reduceAdd, Nat.reduceMul, Nat.reduceSub, Nat.reduceBEq, Nat.reduceLeDiff, Int.reduceEq, Int.reduceLT, Int.reduceLE, Int.reduceGE, Int.reduceGT, Int.reduceBEq, Int.reduceBNe, Int.reduceToNat, Int.reduceNeg, Int.reduceSub, Int.reduceAdd, Int.reduceMul, fz, hp, Tryd.f8] | (with_reducible refine qg9 ?_ ?_; focus (first | (simp (maxDischargeDepth := 8) only [bb, kk, fz, hp]; done) | kernel_rfl)) | ((with_reducible first | refine qf7 ?_ ?_ | refine qf8 ?_ ?_ | refine qf9 ?_ ?_ | refine qg ?_ ?_ | refine qg0 ?_ ?_ | refine qg1 ?_ ?_ | refine qg2 ?_ ?_); focus (first | assumption | omega | (simp only [bz, fz, hp]; omega))) | ((with_reducible first | refine qg3 ?_ ?_ | refine qg4 ?_ ?_ | refine qg5 ?_ ?_); focus (first | assumption | omega | (simp only [bz, fz, hp]; omega))) | ((with_reducible first | refine g1_u8w ?_ ?_ | refine qg7 ?_ ?_); (focus ((repeat' (with_reducible apply And.intro)) <;> (first | assumption | omega | (simp only [bz, fz, hp]; omega) | (simp (maxDischargeDepth := 8) only [bb, fz, hp]; done)))); intro _) | (with_reducible apply call_elim; focus ((with_reducible first | apply e11) <;> (first | assumption | omega | (simp only [bz, fz, hp]; omega) | (simp (maxDischargeDepth := 8) only [bb, fz, hp]; done))))))
theorem e8f (d : Nat) (k v : Int) (nm : List UInt8) (n : Nat) (c : Option Nat) (cs : List AV) (hl : nm.length ≤ 549755813888) (hok : askOk k nm v n = false) : evFun E (d+7) 8 [.agg [vi k, vs nm, vi v, .sl .snap 1 n c cs]] [] = some (.tup [.val (.slice none 0 0), vb false], []) := by
  refine evFun_body b8 ?_
  (repeat' (first | simp (maxDischargeDepth := 8) only [go_sem, rr, reduceIte, reduceCtorEq, Nat.reduceEqDiff, Nat.reduceAdd, Nat.reduceMul, Nat.reduceSub, Nat.reduceBEq, Nat.reduceLeDiff, Int.reduceEq, Int.reduceLT, Int.reduceLE, Int.reduceGE, Int.reduceGT, Int.reduceBEq, Int.reduceBNe, Int.reduceToNat, Int.reduceNeg, Int.reduceSub, Int.reduceAdd, Int.reduceMul, hok, Tryd.f8] | (with_reducible refine qg9 ?_ ?_; focus (first | (simp (maxDischargeDepth := 8) only [bb, kk, hok]; done) | kernel_rfl)) | ((with_reducible first | refine qf7 ?_ ?_ | refine qf8 ?_ ?_ | refine qf9 ?_ ?_ | refine qg ?_ ?_ | refine qg0 ?_ ?_ | refine qg1 ?_ ?_ | refine qg2 ?_ ?_); focus (first | assumption | omega | (simp only [bz, hok]; omega))) | ((with_reducible first | refine qg3 ?_ ?_ | refine qg4 ?_ ?_ | refine qg5 ?_ ?_); focus (first | assumption | omega | (simp only [bz, hok]; omega))) | ((with_reducible first | refine g1_u8w ?_ ?_ | refine qg7 ?_ ?_); (focus ((repeat' (with_reducible apply And.intro)) <;> (first | assumption | omega | (simp only [bz, hok]; omega) | (simp (maxDischargeDepth := 8) only [bb, hok]; done)))); intro _) | (with_reducible apply call_elim; focus ((with_reducible first | apply e11) <;> (first | assumption | omega | (simp only [bz, hok]; omega) | (simp (maxDischargeDepth := 8) only [bb, hok]; done))))))
theorem e54 (d : Nat) (k v : Int) (nm : List UInt8) (n : Nat) (c : Option Nat) (cs : List AV) (hl : nm.length ≤ 549755813888) (hk : isK .u8 cs = true) (hn : cs.length = n) (hok : askOk k nm v n = true) : evFun E (d+4) 54 [.agg [vi k, vs nm, vi v, .sl .snap 1 n c cs]] [] = some (.tup [.ref 0 [] 1 0 (2 + nm.length + 8 + n) none, vb true], [some (askB k nm v cs)]) := by
  obtain ⟨h1, h2, h3, h4⟩ := askOk_parts hok
  refine evFun_body b54 ?_
  have hu := isK_u8 nm
  have h8 := isK_map .u8 (eightL v)
  have hl8 := eight8 v
  have hul : (nm.map VH.u8).length = nm.length := by simp
  have hs := isK_snap (isK_askB (k := k) (v := v) (nm := nm) hk)
  unfold askB at hs
  (have fz := ga8 hok hs hk hn hu h8 hl8 hul; repeat' (first | simp (maxDischargeDepth := 8) only [go_sem, rr, reduceIte, reduceCtorEq, Nat.reduceEqDiff, Nat.reduceAdd, Nat.reduceMul, Nat.reduceSub, Nat.reduceBEq, Nat.reduceLeDiff, Int.reduceEq, Int.reduceLT, Int.reduceLE, Int.reduceGE, Int.reduceGT, Int.reduceBEq, Int.reduceBNe, Int.reduceToNat, Int.reduceNeg, Int.reduceSub, Int.reduceAdd, Int.reduceMul, fz, askB, capK_pos (show 0 < 8 by decide), Tryd.f54] | (with_reducible refine qg9 ?_ ?_; focus (first | (simp (maxDischargeDepth := 8) only [bb, kk, fz, askB, capK_pos (show 0 < 8 by decide)]; done) | kernel_rfl)) | ((with_reducible first | refine qf7 ?_ ?_ | refine qf8 ?_ ?_ | refine qf9 ?_ ?_ | refine qg ?_ ?_ | refine qg0 ?_ ?_ | refine qg1 ?_ ?_ | refine qg2 ?_ ?_); focus (first | assumption | omega | (simp only [bz, fz, askB, capK_pos (show 0 < 8 by decide)]; omega))) | ((with_reducible first | refine qg3 ?_ ?_ | refine qg4 ?_ ?_ | refine qg5 ?_ ?_); focus (first | assumption | omega | (simp only [bz, fz, askB, capK_pos (show 0 < 8 by decide)]; omega))) | ((with_reducible first | refine g1_u8w ?_ ?_ | refine qg7 ?_ ?_); (focus ((repeat' (with_reducible apply And.intro)) <;> (first | assumption | omega | (simp only [bz, fz, askB, capK_pos (show 0 < 8 by decide)]; omega) | (simp (maxDischargeDepth := 8) only [bb, fz, askB, capK_pos (show 0 < 8 by decide)]; done)))); intro _) | (with_reducible apply call_elim; focus ((with_reducible first | apply e10 | apply e81) <;> (first | assumption | omega | (simp only [bz, fz, askB, capK_pos (show 0 < 8 by decide)]; omega) | (simp (maxDischargeDepth := 8) only [bb, fz, askB, capK_pos (show 0 < 8 by decide)]; done))))))
theorem e54f (d : Nat) (k v : Int) (nm : List UInt8) (n : Nat) (c : Option Nat) (cs : List AV) (hl : nm.length ≤ 549755813888) (hok : askOk k nm v n = false) : evFun E (d+4) 54 [.agg [vi k, vs nm, vi v, .sl .snap 1 n c cs]] [] = some (.tup [.ref 0 [] 1 0 0 (some 0), vb false], [some []]) := by
  refine evFun_body b54 ?_
  (repeat' (first | simp (maxDischargeDepth := 8) only [go_sem, rr, reduceIte, reduceCtorEq, Nat.reduceEqDiff, Nat.reduceAdd, Nat.reduceMul, Nat.reduceSub, Nat.reduceBEq, Nat.reduceLeDiff, Int.reduceEq, Int.reduceLT, Int.reduceLE, Int.reduceGE, Int.reduceGT, Int.reduceBEq, Int.reduceBNe, Int.reduceToNat, Int.reduceNeg, Int.reduceSub, Int.reduceAdd, Int.reduceMul, hok, Tryd.f54] | (with_reducible refine qg9 ?_ ?_; focus (first | (simp (maxDischargeDepth := 8) only [bb, kk, hok]; done) | kernel_rfl)) | ((with_reducible first | refine qf7 ?_ ?_ | refine qf8 ?_ ?_ | refine qf9 ?_ ?_ | refine qg ?_ ?_ | refine qg0 ?_ ?_ | refine qg1 ?_ ?_ | refine qg2 ?_ ?_); focus (first | assumption | omega | (simp only [bz, hok]; omega))) | ((with_reducible first | refine qg3 ?_ ?_ | refine qg4 ?_ ?_ | refine qg5 ?_ ?_); focus (first | assumption | omega | (simp only [bz, hok]; omega))) | ((with_reducible first | refine g1_u8w ?_ ?_ | refine qg7 ?_ ?_); (focus ((repeat' (with_reducible apply And.intro)) <;> (first | assumption | omega | (simp only [bz, hok]; omega) | (simp (maxDischargeDepth := 8) only [bb, hok]; done)))); intro _) | (with_reducible apply call_elim; focus ((with_reducible first | apply e10) <;> (first | assumption | omega | (simp only [bz, hok]; omega) | (simp (maxDischargeDepth := 8) only [bb, hok]; done))))))
end Go.Proofs.YtgdldmfkgijkaaaDoor.VH.S
end

section
namespace Go.Proofs.YtgdldmfkgijkaaaDoor.VH.S
open Go.Proofs
set_option maxRecDepth 100000
set_option maxHeartbeats 8000000
set_option linter.unusedSimpArgs false

/- Entries of a catalog. -/
structure Ent where
  nm : List UInt8
  v : Int
  s : Int
  r : Int
  deriving DecidableEq
def e0 : Ent := ⟨[], 0, 0, 0⟩
def eA (L : List Ent) (i : Nat) : Ent := L.getD i e0
end Go.Proofs.YtgdldmfkgijkaaaDoor.VH.S
end

section
namespace Go.Proofs.YtgdldmfkgijkaaaDoor.VH.S
open Go.Proofs
set_option maxRecDepth 100000
set_option maxHeartbeats 8000000
set_option linter.unusedSimpArgs false

def Names (L : List Ent) : Prop := ∀ i, (eA L i).nm.length ≤ 9223372036854775807
end Go.Proofs.YtgdldmfkgijkaaaDoor.VH.S
end

section
namespace Go.Proofs.YtgdldmfkgijkaaaDoor.VH.S
open Go.Proofs
set_option maxRecDepth 100000
set_option maxHeartbeats 8000000
set_option linter.unusedSimpArgs false

end Go.Proofs.YtgdldmfkgijkaaaDoor.VH.S
end

section
namespace Go.Proofs.YtgdldmfkgijkaaaDoor.VH.S
open Go.Proofs
set_option maxRecDepth 100000
set_option maxHeartbeats 8000000
set_option linter.unusedSimpArgs false

/- Asks are got. -/
def txB (l : List Int) : List UInt8 := l.map fun n => UInt8.ofNat n.toNat
theorem txB_len (l : List Int) : (txB l).length = l.length := by simp [txB]
def gaN (l : List Int) (q : Nat) : List UInt8 := txB ((l.drop 2).take q)
def gaV (l : List Int) (q : Nat) : Int := numB ((l.drop (2 + q)).take 8)
def gaOK (l : List Int) (q n : Nat) : Bool := decide (10 + q ≤ n) && askOk (at0 l 0) (gaN l q) (gaV l q) (n - (10 + q))
theorem gaV_nn {l : List Int} (h : B8 l) (q : Nat) : 0 ≤ gaV l q := numB_nn ((h.drop _).take _)
theorem gaV_lt {l : List Int} (h : B8 l) (q : Nat) : gaV l q < 18446744073709551616 := numB_take_lt (h.drop _) 8
theorem bytes_mid {cs : List AV} (h : isK .u8 cs = true) (q : Nat) : bytesOf ((cs.drop 2).take q) = some (gaN (un cs) q) := by
  rw [bytesOf_isK (isK_take _ (isK_drop _ h)), un_take, un_drop]; rfl
theorem gaN_len {l : List Int} {q n : Nat} (hn : l.length = n) (h : 10 + q ≤ n) : (gaN l q).length = q := by
  simp [gaN, txB_len]; omega
theorem cl37 (d : Nat) (tg : Tg) (cap : Option Nat) (n : Nat) (cs : List AV) (hk : isK .u8 cs = true) (hn : cs.length = n) (h0 : 0 < n) (hl : n ≤ 549755813888) : evFun E (d+1) 37 [.sl tg 1 n cap cs] [] = some (.ref 0 [] 1 0 n none, [some cs]) := by
  refine evFun_body b37 ?_
  have hs := isK_snap hk
  have e1 : decide (n = 0) = false := by simp; omega
  (have fz := ga4 hk hn hs e1; repeat' (first | simp (maxDischargeDepth := 8) only [go_sem, rr, reduceIte, reduceCtorEq, Nat.reduceEqDiff, Nat.reduceAdd, Nat.reduceMul, Nat.reduceSub, Nat.reduceBEq, Nat.reduceLeDiff, Int.reduceEq, Int.reduceLT, Int.reduceLE, Int.reduceGE, Int.reduceGT, Int.reduceBEq, Int.reduceBNe, Int.reduceToNat, Int.reduceNeg, Int.reduceSub, Int.reduceAdd, Int.reduceMul, fz, capK_pos h0, Tryd.f37] | (with_reducible refine qg9 ?_ ?_; focus (first | (simp (maxDischargeDepth := 8) only [bb, kk, fz, capK_pos h0]; done) | kernel_rfl)) | ((with_reducible first | refine qf7 ?_ ?_ | refine qf8 ?_ ?_ | refine qf9 ?_ ?_ | refine qg ?_ ?_ | refine qg0 ?_ ?_ | refine qg1 ?_ ?_ | refine qg2 ?_ ?_); focus (first | assumption | omega | (simp only [bz, fz, capK_pos h0]; omega))) | ((with_reducible first | refine qg3 ?_ ?_ | refine qg4 ?_ ?_ | refine qg5 ?_ ?_); focus (first | assumption | omega | (simp only [bz, fz, capK_pos h0]; omega))) | ((with_reducible first | refine g1_u8w ?_ ?_ | refine qg7 ?_ ?_); (focus ((repeat' (with_reducible apply And.intro)) <;> (first | assumption | omega | (simp only [bz, fz, capK_pos h0]; omega) | (simp (maxDischargeDepth := 8) only [bb, fz, capK_pos h0]; done)))); intro _)))
theorem cz37 (d : Nat) (tg : Tg) (cap : Option Nat) : evFun E (d+1) 37 [.sl tg 1 0 cap []] [] = some (.sl .fgn 1 0 (some 0) [], []) := by
  refine evFun_body b37 ?_
  (repeat' (first | simp (maxDischargeDepth := 8) only [go_sem, rr, reduceIte, reduceCtorEq, Nat.reduceEqDiff, Nat.reduceAdd, Nat.reduceMul, Nat.reduceSub, Nat.reduceBEq, Nat.reduceLeDiff, Int.reduceEq, Int.reduceLT, Int.reduceLE, Int.reduceGE, Int.reduceGT, Int.reduceBEq, Int.reduceBNe, Int.reduceToNat, Int.reduceNeg, Int.reduceSub, Int.reduceAdd, Int.reduceMul, Tryd.f37] | (with_reducible refine qg9 ?_ ?_; focus (first | (simp (maxDischargeDepth := 8) only [bb, kk]; done) | kernel_rfl)) | ((with_reducible first | refine qf7 ?_ ?_ | refine qf8 ?_ ?_ | refine qf9 ?_ ?_ | refine qg ?_ ?_ | refine qg0 ?_ ?_ | refine qg1 ?_ ?_ | refine qg2 ?_ ?_); focus (first | assumption | omega | (simp only [bz]; omega))) | ((with_reducible first | refine qg3 ?_ ?_ | refine qg4 ?_ ?_ | refine qg5 ?_ ?_); focus (first | assumption | omega | (simp only [bz]; omega))) | ((with_reducible first | refine g1_u8w ?_ ?_ | refine qg7 ?_ ?_); (focus ((repeat' (with_reducible apply And.intro)) <;> (first | assumption | omega | (simp only [bz]; omega) | (simp (maxDischargeDepth := 8) only [bb]; done)))); intro _)))
theorem z11 (d : Nat) (k v : Int) (nm : List UInt8) (n : Nat) (c : Option Nat) (cs : List AV) (hl : nm.length ≤ 549755813888) : evFun E (d+6) 11 [.agg [vi k, vs nm, vi v, .sl .fgn 1 n c cs]] [] = some (vb (askOk k nm v n), []) := by
  refine evFun_body b11 ?_
  by_cases k1 : k = 1
  · subst k1
    have e1 : (decide ((n : Int) ≥ 1) && decide ((n : Int) ≤ 540)) = (decide (1 ≤ n) && decide (n ≤ 540)) := by rw [Bool.eq_iff_iff]; simp; omega
    cases hn : (nm == [] || nameOK nm) with
    | false =>
      have hr : askOk 1 nm v n = false := by unfold askOk; rw [hn]; simp []
      (have fz := ga2 hr hn; repeat' (first | simp (maxDischargeDepth := 8) only [go_sem, rr, reduceIte, reduceCtorEq, Nat.reduceEqDiff, Nat.reduceAdd, Nat.reduceMul, Nat.reduceSub, Nat.reduceBEq, Nat.reduceLeDiff, Int.reduceEq, Int.reduceLT, Int.reduceLE, Int.reduceGE, Int.reduceGT, Int.reduceBEq, Int.reduceBNe, Int.reduceToNat, Int.reduceNeg, Int.reduceSub, Int.reduceAdd, Int.reduceMul, fz, Tryd.f11] | (with_reducible refine qg9 ?_ ?_; focus (first | (simp (maxDischargeDepth := 8) only [bb, kk, fz]; done) | kernel_rfl)) | ((with_reducible first | refine qf7 ?_ ?_ | refine qf8 ?_ ?_ | refine qf9 ?_ ?_ | refine qg ?_ ?_ | refine qg0 ?_ ?_ | refine qg1 ?_ ?_ | refine qg2 ?_ ?_); focus (first | assumption | omega | (simp only [bz, fz]; omega))) | ((with_reducible first | refine qg3 ?_ ?_ | refine qg4 ?_ ?_ | refine qg5 ?_ ?_); focus (first | assumption | omega | (simp only [bz, fz]; omega))) | ((with_reducible first | refine g1_u8w ?_ ?_ | refine qg7 ?_ ?_); (focus ((repeat' (with_reducible apply And.intro)) <;> (first | assumption | omega | (simp only [bz, fz]; omega) | (simp (maxDischargeDepth := 8) only [bb, fz]; done)))); intro _) | (with_reducible apply call_elim; focus ((with_reducible first | apply e40 | apply e41) <;> (first | assumption | omega | (simp only [bz, fz]; omega) | (simp (maxDischargeDepth := 8) only [bb, fz]; done))))))
    | true =>
      by_cases hv : 0 ≤ v ∧ v ≤ 1000000
      · have hr : askOk 1 nm v n = (decide (1 ≤ n) && decide (n ≤ 540)) := by unfold askOk; rw [hn]; simp [hv]
        (have fz := ga3 hr hn e1; repeat' (first | simp (maxDischargeDepth := 8) only [go_sem, rr, reduceIte, reduceCtorEq, Nat.reduceEqDiff, Nat.reduceAdd, Nat.reduceMul, Nat.reduceSub, Nat.reduceBEq, Nat.reduceLeDiff, Int.reduceEq, Int.reduceLT, Int.reduceLE, Int.reduceGE, Int.reduceGT, Int.reduceBEq, Int.reduceBNe, Int.reduceToNat, Int.reduceNeg, Int.reduceSub, Int.reduceAdd, Int.reduceMul, fz, Tryd.f11] | (with_reducible refine qg9 ?_ ?_; focus (first | (simp (maxDischargeDepth := 8) only [bb, kk, fz]; done) | kernel_rfl)) | ((with_reducible first | refine qf7 ?_ ?_ | refine qf8 ?_ ?_ | refine qf9 ?_ ?_ | refine qg ?_ ?_ | refine qg0 ?_ ?_ | refine qg1 ?_ ?_ | refine qg2 ?_ ?_); focus (first | assumption | omega | (simp only [bz, fz]; omega))) | ((with_reducible first | refine qg3 ?_ ?_ | refine qg4 ?_ ?_ | refine qg5 ?_ ?_); focus (first | assumption | omega | (simp only [bz, fz]; omega))) | ((with_reducible first | refine g1_u8w ?_ ?_ | refine qg7 ?_ ?_); (focus ((repeat' (with_reducible apply And.intro)) <;> (first | assumption | omega | (simp only [bz, fz]; omega) | (simp (maxDischargeDepth := 8) only [bb, fz]; done)))); intro _) | (with_reducible apply call_elim; focus ((with_reducible first | apply e40 | apply e41 | apply e42) <;> (first | assumption | omega | (simp only [bz, fz]; omega) | (simp (maxDischargeDepth := 8) only [bb, fz]; done))))))
      · have hr : askOk 1 nm v n = false := by unfold askOk; rw [hn]; simp; omega
        (have fz := ga2 hr hn; repeat' (first | simp (maxDischargeDepth := 8) only [go_sem, rr, reduceIte, reduceCtorEq, Nat.reduceEqDiff, Nat.reduceAdd, Nat.reduceMul, Nat.reduceSub, Nat.reduceBEq, Nat.reduceLeDiff, Int.reduceEq, Int.reduceLT, Int.reduceLE, Int.reduceGE, Int.reduceGT, Int.reduceBEq, Int.reduceBNe, Int.reduceToNat, Int.reduceNeg, Int.reduceSub, Int.reduceAdd, Int.reduceMul, fz, Tryd.f11] | (with_reducible refine qg9 ?_ ?_; focus (first | (simp (maxDischargeDepth := 8) only [bb, kk, fz]; done) | kernel_rfl)) | ((with_reducible first | refine qf7 ?_ ?_ | refine qf8 ?_ ?_ | refine qf9 ?_ ?_ | refine qg ?_ ?_ | refine qg0 ?_ ?_ | refine qg1 ?_ ?_ | refine qg2 ?_ ?_); focus (first | assumption | omega | (simp only [bz, fz]; omega))) | ((with_reducible first | refine qg3 ?_ ?_ | refine qg4 ?_ ?_ | refine qg5 ?_ ?_); focus (first | assumption | omega | (simp only [bz, fz]; omega))) | ((with_reducible first | refine g1_u8w ?_ ?_ | refine qg7 ?_ ?_); (focus ((repeat' (with_reducible apply And.intro)) <;> (first | assumption | omega | (simp only [bz, fz]; omega) | (simp (maxDischargeDepth := 8) only [bb, fz]; done)))); intro _) | (with_reducible apply call_elim; focus ((with_reducible first | apply e40 | apply e41 | apply e42) <;> (first | assumption | omega | (simp only [bz, fz]; omega) | (simp (maxDischargeDepth := 8) only [bb, fz]; done))))))
  · by_cases hk : 1 ≤ k ∧ k ≤ 4
    · have e1 : ((n : Int) == 0) = decide (n = 0) := by rw [Bool.eq_iff_iff]; simp
      cases hn : (nm == [] || nameOK nm) with
      | false =>
        have hr : askOk k nm v n = false := by unfold askOk; rw [hn]; simp []
        (have fz := ga2 hr hn; repeat' (first | simp (maxDischargeDepth := 8) only [go_sem, rr, reduceIte, reduceCtorEq, Nat.reduceEqDiff, Nat.reduceAdd, Nat.reduceMul, Nat.reduceSub, Nat.reduceBEq, Nat.reduceLeDiff, Int.reduceEq, Int.reduceLT, Int.reduceLE, Int.reduceGE, Int.reduceGT, Int.reduceBEq, Int.reduceBNe, Int.reduceToNat, Int.reduceNeg, Int.reduceSub, Int.reduceAdd, Int.reduceMul, fz, Tryd.f11] | (with_reducible refine qg9 ?_ ?_; focus (first | (simp (maxDischargeDepth := 8) only [bb, kk, fz]; done) | kernel_rfl)) | ((with_reducible first | refine qf7 ?_ ?_ | refine qf8 ?_ ?_ | refine qf9 ?_ ?_ | refine qg ?_ ?_ | refine qg0 ?_ ?_ | refine qg1 ?_ ?_ | refine qg2 ?_ ?_); focus (first | assumption | omega | (simp only [bz, fz]; omega))) | ((with_reducible first | refine qg3 ?_ ?_ | refine qg4 ?_ ?_ | refine qg5 ?_ ?_); focus (first | assumption | omega | (simp only [bz, fz]; omega))) | ((with_reducible first | refine g1_u8w ?_ ?_ | refine qg7 ?_ ?_); (focus ((repeat' (with_reducible apply And.intro)) <;> (first | assumption | omega | (simp only [bz, fz]; omega) | (simp (maxDischargeDepth := 8) only [bb, fz]; done)))); intro _) | (with_reducible apply call_elim; focus ((with_reducible first | apply e40 | apply e41) <;> (first | assumption | omega | (simp only [bz, fz]; omega) | (simp (maxDischargeDepth := 8) only [bb, fz]; done))))))
      | true =>
        by_cases hv : 0 ≤ v ∧ v ≤ 1000000
        · have hr : askOk k nm v n = decide (n = 0) := by unfold askOk; rw [hn]; simp [hv, hk, k1]
          (have fz := ga3 hr hn e1; repeat' (first | simp (maxDischargeDepth := 8) only [go_sem, rr, reduceIte, reduceCtorEq, Nat.reduceEqDiff, Nat.reduceAdd, Nat.reduceMul, Nat.reduceSub, Nat.reduceBEq, Nat.reduceLeDiff, Int.reduceEq, Int.reduceLT, Int.reduceLE, Int.reduceGE, Int.reduceGT, Int.reduceBEq, Int.reduceBNe, Int.reduceToNat, Int.reduceNeg, Int.reduceSub, Int.reduceAdd, Int.reduceMul, fz, Tryd.f11] | (with_reducible refine qg9 ?_ ?_; focus (first | (simp (maxDischargeDepth := 8) only [bb, kk, fz]; done) | kernel_rfl)) | ((with_reducible first | refine qf7 ?_ ?_ | refine qf8 ?_ ?_ | refine qf9 ?_ ?_ | refine qg ?_ ?_ | refine qg0 ?_ ?_ | refine qg1 ?_ ?_ | refine qg2 ?_ ?_); focus (first | assumption | omega | (simp only [bz, fz]; omega))) | ((with_reducible first | refine qg3 ?_ ?_ | refine qg4 ?_ ?_ | refine qg5 ?_ ?_); focus (first | assumption | omega | (simp only [bz, fz]; omega))) | ((with_reducible first | refine g1_u8w ?_ ?_ | refine qg7 ?_ ?_); (focus ((repeat' (with_reducible apply And.intro)) <;> (first | assumption | omega | (simp only [bz, fz]; omega) | (simp (maxDischargeDepth := 8) only [bb, fz]; done)))); intro _) | (with_reducible apply call_elim; focus ((with_reducible first | apply e40 | apply e41 | apply e42) <;> (first | assumption | omega | (simp only [bz, fz]; omega) | (simp (maxDischargeDepth := 8) only [bb, fz]; done))))))
        · have hr : askOk k nm v n = false := by unfold askOk; rw [hn]; simp; omega
          (have fz := ga2 hr hn; repeat' (first | simp (maxDischargeDepth := 8) only [go_sem, rr, reduceIte, reduceCtorEq, Nat.reduceEqDiff, Nat.reduceAdd, Nat.reduceMul, Nat.reduceSub, Nat.reduceBEq, Nat.reduceLeDiff, Int.reduceEq, Int.reduceLT, Int.reduceLE, Int.reduceGE, Int.reduceGT, Int.reduceBEq, Int.reduceBNe, Int.reduceToNat, Int.reduceNeg, Int.reduceSub, Int.reduceAdd, Int.reduceMul, fz, Tryd.f11] | (with_reducible refine qg9 ?_ ?_; focus (first | (simp (maxDischargeDepth := 8) only [bb, kk, fz]; done) | kernel_rfl)) | ((with_reducible first | refine qf7 ?_ ?_ | refine qf8 ?_ ?_ | refine qf9 ?_ ?_ | refine qg ?_ ?_ | refine qg0 ?_ ?_ | refine qg1 ?_ ?_ | refine qg2 ?_ ?_); focus (first | assumption | omega | (simp only [bz, fz]; omega))) | ((with_reducible first | refine qg3 ?_ ?_ | refine qg4 ?_ ?_ | refine qg5 ?_ ?_); focus (first | assumption | omega | (simp only [bz, fz]; omega))) | ((with_reducible first | refine g1_u8w ?_ ?_ | refine qg7 ?_ ?_); (focus ((repeat' (with_reducible apply And.intro)) <;> (first | assumption | omega | (simp only [bz, fz]; omega) | (simp (maxDischargeDepth := 8) only [bb, fz]; done)))); intro _) | (with_reducible apply call_elim; focus ((with_reducible first | apply e40 | apply e41 | apply e42) <;> (first | assumption | omega | (simp only [bz, fz]; omega) | (simp (maxDischargeDepth := 8) only [bb, fz]; done))))))
    · have hr : askOk k nm v n = false := by
        have : (decide (1 ≤ k) && decide (k ≤ 4)) = false := by simp; omega
        simp [askOk, this]
      (repeat' (first | simp (maxDischargeDepth := 8) only [go_sem, rr, reduceIte, reduceCtorEq, Nat.reduceEqDiff, Nat.reduceAdd, Nat.reduceMul, Nat.reduceSub, Nat.reduceBEq, Nat.reduceLeDiff, Int.reduceEq, Int.reduceLT, Int.reduceLE, Int.reduceGE, Int.reduceGT, Int.reduceBEq, Int.reduceBNe, Int.reduceToNat, Int.reduceNeg, Int.reduceSub, Int.reduceAdd, Int.reduceMul, hr, Tryd.f11] | (with_reducible refine qg9 ?_ ?_; focus (first | (simp (maxDischargeDepth := 8) only [bb, kk, hr]; done) | kernel_rfl)) | ((with_reducible first | refine qf7 ?_ ?_ | refine qf8 ?_ ?_ | refine qf9 ?_ ?_ | refine qg ?_ ?_ | refine qg0 ?_ ?_ | refine qg1 ?_ ?_ | refine qg2 ?_ ?_); focus (first | assumption | omega | (simp only [bz, hr]; omega))) | ((with_reducible first | refine qg3 ?_ ?_ | refine qg4 ?_ ?_ | refine qg5 ?_ ?_); focus (first | assumption | omega | (simp only [bz, hr]; omega))) | ((with_reducible first | refine g1_u8w ?_ ?_ | refine qg7 ?_ ?_); (focus ((repeat' (with_reducible apply And.intro)) <;> (first | assumption | omega | (simp only [bz, hr]; omega) | (simp (maxDischargeDepth := 8) only [bb, hr]; done)))); intro _) | (with_reducible apply call_elim; focus ((with_reducible first | apply e40 | apply e41 | apply e42) <;> (first | assumption | omega | (simp only [bz, hr]; omega) | (simp (maxDischargeDepth := 8) only [bb, hr]; done))))))
theorem e9 (d : Nat) (tg : Tg) (cap : Option Nat) (n q : Nat) (cs : List AV) (hk : isK .u8 cs = true) (hn : cs.length = n) (hb : B8 (un cs)) (hl : n ≤ 1048576) (h2 : 2 ≤ n) (hq : at0 (un cs) 1 = (q : Int)) (hok : gaOK (un cs) q n = true) (hp' : 0 < n - (10 + q)) : evFun E (d+7) 9 [.sl tg 1 n cap cs] [] = some (.tup [.agg [vi (at0 (un cs) 0), vs (gaN (un cs) q), vi (gaV (un cs) q), .ref 0 [3] 1 0 (n - (10 + q)) none], vb true], [some [vi (at0 (un cs) 0), vs (gaN (un cs) q), vi (gaV (un cs) q), .sl .own 1 (n - (10 + q)) none (cs.drop (10 + q))]]) := by
  refine evFun_body b9 ?_
  simp only [gaOK, Bool.and_eq_true, decide_eq_true_eq] at hok
  obtain ⟨hfit, hok⟩ := hok
  have hln := gaN_len (by rw [un_len]; exact hn) hfit
  obtain ⟨_, _, hv, _⟩ := askOk_parts hok
  have hk0 : 0 ≤ at0 (un cs) 0 ∧ at0 (un cs) 0 < 256 := hb.at0 0
  have hm := bytes_mid hk q
  have hu : un ((cs.drop (2 + q)).take 8) = (((un cs).drop (2 + q)).take 8) := by rw [un_take, un_drop]
  have h8 : ((cs.drop (2 + q)).take 8).length = 8 := by simp; omega
  have hk8 : isK .u8 ((cs.drop (2 + q)).take 8) = true := isK_take _ (isK_drop _ hk)
  have hb8 : B8 (un ((cs.drop (2 + q)).take 8)) := by rw [hu]; exact (hb.drop _).take _
  have hN : ∀ d t c, evFun E (d+1) 36 [.sl t 1 8 c ((cs.drop (2 + q)).take 8)] [] = some (u64 (gaV (un cs) q), []) := fun d t c => by
    have := q36 d t c _ 8 hk8 h8 (by decide) hb8
    rw [hu] at this; simpa [gaV] using this
  have hkd : isK .u8 (cs.drop (10 + q)) = true := isK_drop _ hk
  have hld : (cs.drop (10 + q)).length = n - (10 + q) := by simp; omega
  have t1 : ((2 : Int) + q).toNat = 2 + q := by omega
  have t2 : ((2 : Int) + q + 8).toNat = 10 + q := by omega
  have t3 : ((2 : Int) + q + 8 - (2 + q)).toNat = 8 := by omega
  have t4 : ((2 : Int) + q - 2).toNat = q := by omega
  have t5 : ((n : Int) - (2 + q + 8)).toNat = n - (10 + q) := by omega
  have hml : ((cs.drop 2).take q).length = q := by simp; omega
  have hC : ∀ d t c, evFun E (d+1) 37 [.sl t 1 (n - (10 + q)) c (cs.drop (10 + q))] [] = some (.ref 0 [] 1 0 (n - (10 + q)) none, [some (cs.drop (10 + q))]) := fun d t c => cl37 d t c _ _ hkd hld hp' (by omega)
  (have fz := ga16 hml hk hn hb hq hm t1 t2 t3 t4 t5 hN hkd hld hC hok; repeat' (first | simp (maxDischargeDepth := 8) only [go_sem, rr, reduceIte, reduceCtorEq, Nat.reduceEqDiff, Nat.reduceAdd, Nat.reduceMul, Nat.reduceSub, Nat.reduceBEq, Nat.reduceLeDiff, Int.reduceEq, Int.reduceLT, Int.reduceLE, Int.reduceGE, Int.reduceGT, Int.reduceBEq, Int.reduceBNe, Int.reduceToNat, Int.reduceNeg, Int.reduceSub, Int.reduceAdd, Int.reduceMul, fz, sB_empty, cellsIn, List.take_take, Nat.min_self, Tryd.f9] | (with_reducible refine qg9 ?_ ?_; focus (first | (simp (maxDischargeDepth := 8) only [bb, kk, fz, sB_empty, cellsIn, List.take_take, Nat.min_self]; done) | kernel_rfl)) | ((with_reducible first | refine qf7 ?_ ?_ | refine qf8 ?_ ?_ | refine qf9 ?_ ?_ | refine qg ?_ ?_ | refine qg0 ?_ ?_ | refine qg1 ?_ ?_ | refine qg2 ?_ ?_); focus (first | assumption | omega | (simp only [bz, fz, sB_empty, cellsIn, List.take_take, Nat.min_self]; omega))) | ((with_reducible first | refine qg3 ?_ ?_ | refine qg4 ?_ ?_ | refine qg5 ?_ ?_); focus (first | assumption | omega | (simp only [bz, fz, sB_empty, cellsIn, List.take_take, Nat.min_self]; omega))) | ((with_reducible first | refine g1_u8w ?_ ?_ | refine qg7 ?_ ?_); (focus ((repeat' (with_reducible apply And.intro)) <;> (first | assumption | omega | (simp only [bz, fz, sB_empty, cellsIn, List.take_take, Nat.min_self]; omega) | (simp (maxDischargeDepth := 8) only [bb, fz, sB_empty, cellsIn, List.take_take, Nat.min_self]; done)))); intro _) | (with_reducible apply call_elim; focus ((with_reducible first | apply e11) <;> (first | assumption | omega | (simp only [bz, fz, sB_empty, cellsIn, List.take_take, Nat.min_self]; omega) | (simp (maxDischargeDepth := 8) only [bb, fz, sB_empty, cellsIn, List.take_take, Nat.min_self]; done))))))
theorem e9z (d : Nat) (tg : Tg) (cap : Option Nat) (n q : Nat) (cs : List AV) (hk : isK .u8 cs = true) (hn : cs.length = n) (hb : B8 (un cs)) (hl : n ≤ 1048576) (h2 : 2 ≤ n) (hq : at0 (un cs) 1 = (q : Int)) (hok : gaOK (un cs) q n = true) (hp' : n - (10 + q) = 0) : evFun E (d+7) 9 [.sl tg 1 n cap cs] [] = some (.tup [.agg [vi (at0 (un cs) 0), vs (gaN (un cs) q), vi (gaV (un cs) q), .sl .fgn 1 0 (some 0) []], vb true], []) := by
  refine evFun_body b9 ?_
  simp only [gaOK, Bool.and_eq_true, decide_eq_true_eq] at hok
  obtain ⟨hfit, hok⟩ := hok
  have hln := gaN_len (by rw [un_len]; exact hn) hfit
  obtain ⟨_, _, hv, _⟩ := askOk_parts hok
  have hk0 : 0 ≤ at0 (un cs) 0 ∧ at0 (un cs) 0 < 256 := hb.at0 0
  have hm := bytes_mid hk q
  have hu : un ((cs.drop (2 + q)).take 8) = (((un cs).drop (2 + q)).take 8) := by rw [un_take, un_drop]
  have h8 : ((cs.drop (2 + q)).take 8).length = 8 := by simp; omega
  have hk8 : isK .u8 ((cs.drop (2 + q)).take 8) = true := isK_take _ (isK_drop _ hk)
  have hb8 : B8 (un ((cs.drop (2 + q)).take 8)) := by rw [hu]; exact (hb.drop _).take _
  have hN : ∀ d t c, evFun E (d+1) 36 [.sl t 1 8 c ((cs.drop (2 + q)).take 8)] [] = some (u64 (gaV (un cs) q), []) := fun d t c => by
    have := q36 d t c _ 8 hk8 h8 (by decide) hb8
    rw [hu] at this; simpa [gaV] using this
  have hkd : isK .u8 (cs.drop (10 + q)) = true := isK_drop _ hk
  have hld : (cs.drop (10 + q)).length = n - (10 + q) := by simp; omega
  have t1 : ((2 : Int) + q).toNat = 2 + q := by omega
  have t2 : ((2 : Int) + q + 8).toNat = 10 + q := by omega
  have t3 : ((2 : Int) + q + 8 - (2 + q)).toNat = 8 := by omega
  have t4 : ((2 : Int) + q - 2).toNat = q := by omega
  have t5 : ((n : Int) - (2 + q + 8)).toNat = n - (10 + q) := by omega
  have hml : ((cs.drop 2).take q).length = q := by simp; omega
  have hnil : cs.drop (10 + q) = [] := List.eq_nil_of_length_eq_zero (by omega)
  rw [hp'] at hok t5
  (have fz := ga15 hml hk hn hb hq hm t1 t2 t3 t4 t5 hN cz37 hnil hok; repeat' (first | simp (maxDischargeDepth := 8) only [go_sem, rr, reduceIte, reduceCtorEq, Nat.reduceEqDiff, Nat.reduceAdd, Nat.reduceMul, Nat.reduceSub, Nat.reduceBEq, Nat.reduceLeDiff, Int.reduceEq, Int.reduceLT, Int.reduceLE, Int.reduceGE, Int.reduceGT, Int.reduceBEq, Int.reduceBNe, Int.reduceToNat, Int.reduceNeg, Int.reduceSub, Int.reduceAdd, Int.reduceMul, fz, sB_empty, cellsIn, List.take_take, Nat.min_self, Tryd.f9] | (with_reducible refine qg9 ?_ ?_; focus (first | (simp (maxDischargeDepth := 8) only [bb, kk, fz, sB_empty, cellsIn, List.take_take, Nat.min_self]; done) | kernel_rfl)) | ((with_reducible first | refine qf7 ?_ ?_ | refine qf8 ?_ ?_ | refine qf9 ?_ ?_ | refine qg ?_ ?_ | refine qg0 ?_ ?_ | refine qg1 ?_ ?_ | refine qg2 ?_ ?_); focus (first | assumption | omega | (simp only [bz, fz, sB_empty, cellsIn, List.take_take, Nat.min_self]; omega))) | ((with_reducible first | refine qg3 ?_ ?_ | refine qg4 ?_ ?_ | refine qg5 ?_ ?_); focus (first | assumption | omega | (simp only [bz, fz, sB_empty, cellsIn, List.take_take, Nat.min_self]; omega))) | ((with_reducible first | refine g1_u8w ?_ ?_ | refine qg7 ?_ ?_); (focus ((repeat' (with_reducible apply And.intro)) <;> (first | assumption | omega | (simp only [bz, fz, sB_empty, cellsIn, List.take_take, Nat.min_self]; omega) | (simp (maxDischargeDepth := 8) only [bb, fz, sB_empty, cellsIn, List.take_take, Nat.min_self]; done)))); intro _) | (with_reducible apply call_elim; focus ((with_reducible first | apply z11) <;> (first | assumption | omega | (simp only [bz, fz, sB_empty, cellsIn, List.take_take, Nat.min_self]; omega) | (simp (maxDischargeDepth := 8) only [bb, fz, sB_empty, cellsIn, List.take_take, Nat.min_self]; done))))))
theorem e9s (d : Nat) (tg : Tg) (cap : Option Nat) (n : Nat) (cs : List AV) (h : n < 2) : evFun E (d+7) 9 [.sl tg 1 n cap cs] [] = some (.tup [.agg [vi 0, vs [], vi 0, .val (.slice none 0 0)], vb false], []) := by
  refine evFun_body b9 ?_
  (repeat' (first | simp (maxDischargeDepth := 8) only [go_sem, rr, reduceIte, reduceCtorEq, Nat.reduceEqDiff, Nat.reduceAdd, Nat.reduceMul, Nat.reduceSub, Nat.reduceBEq, Nat.reduceLeDiff, Int.reduceEq, Int.reduceLT, Int.reduceLE, Int.reduceGE, Int.reduceGT, Int.reduceBEq, Int.reduceBNe, Int.reduceToNat, Int.reduceNeg, Int.reduceSub, Int.reduceAdd, Int.reduceMul, sB_empty, Tryd.f9] | (with_reducible refine qg9 ?_ ?_; focus (first | (simp (maxDischargeDepth := 8) only [bb, kk, sB_empty]; done) | kernel_rfl)) | ((with_reducible first | refine qf7 ?_ ?_ | refine qf8 ?_ ?_ | refine qf9 ?_ ?_ | refine qg ?_ ?_ | refine qg0 ?_ ?_ | refine qg1 ?_ ?_ | refine qg2 ?_ ?_); focus (first | assumption | omega | (simp only [bz, sB_empty]; omega))) | ((with_reducible first | refine qg3 ?_ ?_ | refine qg4 ?_ ?_ | refine qg5 ?_ ?_); focus (first | assumption | omega | (simp only [bz, sB_empty]; omega))) | ((with_reducible first | refine g1_u8w ?_ ?_ | refine qg7 ?_ ?_); (focus ((repeat' (with_reducible apply And.intro)) <;> (first | assumption | omega | (simp only [bz, sB_empty]; omega) | (simp (maxDischargeDepth := 8) only [bb, sB_empty]; done)))); intro _)))
theorem e9f (d : Nat) (tg : Tg) (cap : Option Nat) (n q : Nat) (cs : List AV) (hk : isK .u8 cs = true) (hn : cs.length = n) (hb : B8 (un cs)) (hl : n ≤ 1048576) (h2 : 2 ≤ n) (hq : at0 (un cs) 1 = (q : Int)) (hok : gaOK (un cs) q n = false) : evFun E (d+7) 9 [.sl tg 1 n cap cs] [] = some (.tup [.agg [vi 0, vs [], vi 0, .val (.slice none 0 0)], vb false], []) := by
  refine evFun_body b9 ?_
  by_cases hfit : 10 + q ≤ n
  · have hok : askOk (at0 (un cs) 0) (gaN (un cs) q) (gaV (un cs) q) (n - (10 + q)) = false := by
      simp only [gaOK, hfit, decide_true, Bool.true_and] at hok; exact hok
    have hln := gaN_len (by rw [un_len]; exact hn) hfit
    have hv0 := gaV_nn hb q
    have hv1 := gaV_lt hb q
    have hk0 : 0 ≤ at0 (un cs) 0 ∧ at0 (un cs) 0 < 256 := hb.at0 0
    have hm := bytes_mid hk q
    have hu : un ((cs.drop (2 + q)).take 8) = (((un cs).drop (2 + q)).take 8) := by rw [un_take, un_drop]
    have h8 : ((cs.drop (2 + q)).take 8).length = 8 := by simp; omega
    have hk8 : isK .u8 ((cs.drop (2 + q)).take 8) = true := isK_take _ (isK_drop _ hk)
    have hb8 : B8 (un ((cs.drop (2 + q)).take 8)) := by rw [hu]; exact (hb.drop _).take _
    have hN : ∀ d t c, evFun E (d+1) 36 [.sl t 1 8 c ((cs.drop (2 + q)).take 8)] [] = some (u64 (gaV (un cs) q), []) := fun d t c => by
      have := q36 d t c _ 8 hk8 h8 (by decide) hb8
      rw [hu] at this; simpa [gaV] using this
    have hkd : isK .u8 (cs.drop (10 + q)) = true := isK_drop _ hk
    have hld : (cs.drop (10 + q)).length = n - (10 + q) := by simp; omega
    have t1 : ((2 : Int) + q).toNat = 2 + q := by omega
    have t2 : ((2 : Int) + q + 8).toNat = 10 + q := by omega
    have t3 : ((2 : Int) + q + 8 - (2 + q)).toNat = 8 := by omega
    have t4 : ((2 : Int) + q - 2).toNat = q := by omega
    have t5 : ((n : Int) - (2 + q + 8)).toNat = n - (10 + q) := by omega
    have hml : ((cs.drop 2).take q).length = q := by simp; omega
    rcases Nat.eq_zero_or_pos (n - (10 + q)) with hp' | hp'
    · have hnil : cs.drop (10 + q) = [] := List.eq_nil_of_length_eq_zero (by omega)
      rw [hp'] at hok t5
      by_cases hv : gaV (un cs) q ≤ 1000000
      · (have fz := ga15 hml hk hn hb hq hm t1 t2 t3 t4 t5 hN cz37 hnil hok; repeat' (first | simp (maxDischargeDepth := 8) only [go_sem, rr, reduceIte, reduceCtorEq, Nat.reduceEqDiff, Nat.reduceAdd, Nat.reduceMul, Nat.reduceSub, Nat.reduceBEq, Nat.reduceLeDiff, Int.reduceEq, Int.reduceLT, Int.reduceLE, Int.reduceGE, Int.reduceGT, Int.reduceBEq, Int.reduceBNe, Int.reduceToNat, Int.reduceNeg, Int.reduceSub, Int.reduceAdd, Int.reduceMul, fz, sB_empty, cellsIn, List.take_take, Nat.min_self, Tryd.f9] | (with_reducible refine qg9 ?_ ?_; focus (first | (simp (maxDischargeDepth := 8) only [bb, kk, fz, sB_empty, cellsIn, List.take_take, Nat.min_self]; done) | kernel_rfl)) | ((with_reducible first | refine qf7 ?_ ?_ | refine qf8 ?_ ?_ | refine qf9 ?_ ?_ | refine qg ?_ ?_ | refine qg0 ?_ ?_ | refine qg1 ?_ ?_ | refine qg2 ?_ ?_); focus (first | assumption | omega | (simp only [bz, fz, sB_empty, cellsIn, List.take_take, Nat.min_self]; omega))) | ((with_reducible first | refine qg3 ?_ ?_ | refine qg4 ?_ ?_ | refine qg5 ?_ ?_); focus (first | assumption | omega | (simp only [bz, fz, sB_empty, cellsIn, List.take_take, Nat.min_self]; omega))) | ((with_reducible first | refine g1_u8w ?_ ?_ | refine qg7 ?_ ?_); (focus ((repeat' (with_reducible apply And.intro)) <;> (first | assumption | omega | (simp only [bz, fz, sB_empty, cellsIn, List.take_take, Nat.min_self]; omega) | (simp (maxDischargeDepth := 8) only [bb, fz, sB_empty, cellsIn, List.take_take, Nat.min_self]; done)))); intro _) | (with_reducible apply call_elim; focus ((with_reducible first | apply z11) <;> (first | assumption | omega | (simp only [bz, fz, sB_empty, cellsIn, List.take_take, Nat.min_self]; omega) | (simp (maxDischargeDepth := 8) only [bb, fz, sB_empty, cellsIn, List.take_take, Nat.min_self]; done))))))
      · (have fz := ga15 hml hk hn hb hq hm t1 t2 t3 t4 t5 hN cz37 hnil hok; repeat' (first | simp (maxDischargeDepth := 8) only [go_sem, rr, reduceIte, reduceCtorEq, Nat.reduceEqDiff, Nat.reduceAdd, Nat.reduceMul, Nat.reduceSub, Nat.reduceBEq, Nat.reduceLeDiff, Int.reduceEq, Int.reduceLT, Int.reduceLE, Int.reduceGE, Int.reduceGT, Int.reduceBEq, Int.reduceBNe, Int.reduceToNat, Int.reduceNeg, Int.reduceSub, Int.reduceAdd, Int.reduceMul, fz, sB_empty, cellsIn, List.take_take, Nat.min_self, Tryd.f9] | (with_reducible refine qg9 ?_ ?_; focus (first | (simp (maxDischargeDepth := 8) only [bb, kk, fz, sB_empty, cellsIn, List.take_take, Nat.min_self]; done) | kernel_rfl)) | ((with_reducible first | refine qf7 ?_ ?_ | refine qf8 ?_ ?_ | refine qf9 ?_ ?_ | refine qg ?_ ?_ | refine qg0 ?_ ?_ | refine qg1 ?_ ?_ | refine qg2 ?_ ?_); focus (first | assumption | omega | (simp only [bz, fz, sB_empty, cellsIn, List.take_take, Nat.min_self]; omega))) | ((with_reducible first | refine qg3 ?_ ?_ | refine qg4 ?_ ?_ | refine qg5 ?_ ?_); focus (first | assumption | omega | (simp only [bz, fz, sB_empty, cellsIn, List.take_take, Nat.min_self]; omega))) | ((with_reducible first | refine g1_u8w ?_ ?_ | refine qg7 ?_ ?_); (focus ((repeat' (with_reducible apply And.intro)) <;> (first | assumption | omega | (simp only [bz, fz, sB_empty, cellsIn, List.take_take, Nat.min_self]; omega) | (simp (maxDischargeDepth := 8) only [bb, fz, sB_empty, cellsIn, List.take_take, Nat.min_self]; done)))); intro _) | (with_reducible apply call_elim; focus ((with_reducible first | apply z11) <;> (first | assumption | omega | (simp only [bz, fz, sB_empty, cellsIn, List.take_take, Nat.min_self]; omega) | (simp (maxDischargeDepth := 8) only [bb, fz, sB_empty, cellsIn, List.take_take, Nat.min_self]; done)))) | (with_reducible refine wrapM_raw ?_)))
    · have hC : ∀ d t c, evFun E (d+1) 37 [.sl t 1 (n - (10 + q)) c (cs.drop (10 + q))] [] = some (.ref 0 [] 1 0 (n - (10 + q)) none, [some (cs.drop (10 + q))]) := fun d t c => cl37 d t c _ _ hkd hld hp' (by omega)
      by_cases hv : gaV (un cs) q ≤ 1000000
      · (have fz := ga16 hml hk hn hb hq hm t1 t2 t3 t4 t5 hN hkd hld hC hok; repeat' (first | simp (maxDischargeDepth := 8) only [go_sem, rr, reduceIte, reduceCtorEq, Nat.reduceEqDiff, Nat.reduceAdd, Nat.reduceMul, Nat.reduceSub, Nat.reduceBEq, Nat.reduceLeDiff, Int.reduceEq, Int.reduceLT, Int.reduceLE, Int.reduceGE, Int.reduceGT, Int.reduceBEq, Int.reduceBNe, Int.reduceToNat, Int.reduceNeg, Int.reduceSub, Int.reduceAdd, Int.reduceMul, fz, sB_empty, cellsIn, List.take_take, Nat.min_self, Tryd.f9] | (with_reducible refine qg9 ?_ ?_; focus (first | (simp (maxDischargeDepth := 8) only [bb, kk, fz, sB_empty, cellsIn, List.take_take, Nat.min_self]; done) | kernel_rfl)) | ((with_reducible first | refine qf7 ?_ ?_ | refine qf8 ?_ ?_ | refine qf9 ?_ ?_ | refine qg ?_ ?_ | refine qg0 ?_ ?_ | refine qg1 ?_ ?_ | refine qg2 ?_ ?_); focus (first | assumption | omega | (simp only [bz, fz, sB_empty, cellsIn, List.take_take, Nat.min_self]; omega))) | ((with_reducible first | refine qg3 ?_ ?_ | refine qg4 ?_ ?_ | refine qg5 ?_ ?_); focus (first | assumption | omega | (simp only [bz, fz, sB_empty, cellsIn, List.take_take, Nat.min_self]; omega))) | ((with_reducible first | refine g1_u8w ?_ ?_ | refine qg7 ?_ ?_); (focus ((repeat' (with_reducible apply And.intro)) <;> (first | assumption | omega | (simp only [bz, fz, sB_empty, cellsIn, List.take_take, Nat.min_self]; omega) | (simp (maxDischargeDepth := 8) only [bb, fz, sB_empty, cellsIn, List.take_take, Nat.min_self]; done)))); intro _) | (with_reducible apply call_elim; focus ((with_reducible first | apply e11) <;> (first | assumption | omega | (simp only [bz, fz, sB_empty, cellsIn, List.take_take, Nat.min_self]; omega) | (simp (maxDischargeDepth := 8) only [bb, fz, sB_empty, cellsIn, List.take_take, Nat.min_self]; done))))))
      · (have fz := ga16 hml hk hn hb hq hm t1 t2 t3 t4 t5 hN hkd hld hC hok; repeat' (first | simp (maxDischargeDepth := 8) only [go_sem, rr, reduceIte, reduceCtorEq, Nat.reduceEqDiff, Nat.reduceAdd, Nat.reduceMul, Nat.reduceSub, Nat.reduceBEq, Nat.reduceLeDiff, Int.reduceEq, Int.reduceLT, Int.reduceLE, Int.reduceGE, Int.reduceGT, Int.reduceBEq, Int.reduceBNe, Int.reduceToNat, Int.reduceNeg, Int.reduceSub, Int.reduceAdd, Int.reduceMul, fz, sB_empty, cellsIn, List.take_take, Nat.min_self, Tryd.f9] | (with_reducible refine qg9 ?_ ?_; focus (first | (simp (maxDischargeDepth := 8) only [bb, kk, fz, sB_empty, cellsIn, List.take_take, Nat.min_self]; done) | kernel_rfl)) | ((with_reducible first | refine qf7 ?_ ?_ | refine qf8 ?_ ?_ | refine qf9 ?_ ?_ | refine qg ?_ ?_ | refine qg0 ?_ ?_ | refine qg1 ?_ ?_ | refine qg2 ?_ ?_); focus (first | assumption | omega | (simp only [bz, fz, sB_empty, cellsIn, List.take_take, Nat.min_self]; omega))) | ((with_reducible first | refine qg3 ?_ ?_ | refine qg4 ?_ ?_ | refine qg5 ?_ ?_); focus (first | assumption | omega | (simp only [bz, fz, sB_empty, cellsIn, List.take_take, Nat.min_self]; omega))) | ((with_reducible first | refine g1_u8w ?_ ?_ | refine qg7 ?_ ?_); (focus ((repeat' (with_reducible apply And.intro)) <;> (first | assumption | omega | (simp only [bz, fz, sB_empty, cellsIn, List.take_take, Nat.min_self]; omega) | (simp (maxDischargeDepth := 8) only [bb, fz, sB_empty, cellsIn, List.take_take, Nat.min_self]; done)))); intro _) | (with_reducible apply call_elim; focus ((with_reducible first | apply e11) <;> (first | assumption | omega | (simp only [bz, fz, sB_empty, cellsIn, List.take_take, Nat.min_self]; omega) | (simp (maxDischargeDepth := 8) only [bb, fz, sB_empty, cellsIn, List.take_take, Nat.min_self]; done)))) | (with_reducible refine wrapM_raw ?_)))
  · (have fz := ga4 hk hn hb hq; repeat' (first | simp (maxDischargeDepth := 8) only [go_sem, rr, reduceIte, reduceCtorEq, Nat.reduceEqDiff, Nat.reduceAdd, Nat.reduceMul, Nat.reduceSub, Nat.reduceBEq, Nat.reduceLeDiff, Int.reduceEq, Int.reduceLT, Int.reduceLE, Int.reduceGE, Int.reduceGT, Int.reduceBEq, Int.reduceBNe, Int.reduceToNat, Int.reduceNeg, Int.reduceSub, Int.reduceAdd, Int.reduceMul, fz, sB_empty, Tryd.f9] | (with_reducible refine qg9 ?_ ?_; focus (first | (simp (maxDischargeDepth := 8) only [bb, kk, fz, sB_empty]; done) | kernel_rfl)) | ((with_reducible first | refine qf7 ?_ ?_ | refine qf8 ?_ ?_ | refine qf9 ?_ ?_ | refine qg ?_ ?_ | refine qg0 ?_ ?_ | refine qg1 ?_ ?_ | refine qg2 ?_ ?_); focus (first | assumption | omega | (simp only [bz, fz, sB_empty]; omega))) | ((with_reducible first | refine qg3 ?_ ?_ | refine qg4 ?_ ?_ | refine qg5 ?_ ?_); focus (first | assumption | omega | (simp only [bz, fz, sB_empty]; omega))) | ((with_reducible first | refine g1_u8w ?_ ?_ | refine qg7 ?_ ?_); (focus ((repeat' (with_reducible apply And.intro)) <;> (first | assumption | omega | (simp only [bz, fz, sB_empty]; omega) | (simp (maxDischargeDepth := 8) only [bb, fz, sB_empty]; done)))); intro _)))
end Go.Proofs.YtgdldmfkgijkaaaDoor.VH.S
end

section
namespace Go.Proofs.YtgdldmfkgijkaaaDoor.VH.S
open Go.Proofs
set_option maxRecDepth 100000
set_option maxHeartbeats 4000000
set_option linter.unusedSimpArgs false

def cOf (l : List Int) : Int := numB (l.take 8)
def rOf (l : List Int) : Int := numB ((l.drop 8).take 8)
def inS (l : List Int) : Bool := decide (cOf l ≤ 1000000) && decide (rOf l ≤ 1152921504606846975)
def rdOK (l : List Int) : Bool := inS l && decide (slotL (cOf l) (rOf l) = l)
end Go.Proofs.YtgdldmfkgijkaaaDoor.VH.S
end

section
namespace Go.Proofs.YtgdldmfkgijkaaaDoor.VH.S
open Go.Proofs
set_option maxRecDepth 100000
set_option maxHeartbeats 4000000
set_option linter.unusedSimpArgs false

def rdV (l : List Int) : Int × Int × Int :=
  if l.length = 40 then
    if rdOK (l.take 20) = true ∧ (rdOK (l.drop 20) = false ∨ cOf (l.take 20) ≥ cOf (l.drop 20)) then (cOf (l.take 20), rOf (l.take 20), 0)
    else if rdOK (l.drop 20) = true then (cOf (l.drop 20), rOf (l.drop 20), 1) else (0, 0, -1)
  else (0, 0, -1)
end Go.Proofs.YtgdldmfkgijkaaaDoor.VH.S
end

section
namespace Go.Proofs.YtgdldmfkgijkaaaDoor.VH.S
open Go.Proofs
set_option maxRecDepth 100000
set_option maxHeartbeats 4000000
set_option linter.unusedSimpArgs false

end Go.Proofs.YtgdldmfkgijkaaaDoor.VH.S
end

section
namespace Go.Proofs.YtgdldmfkgijkaaaDoor.VH.S
open Go.Proofs
set_option maxRecDepth 100000
set_option maxHeartbeats 4000000
set_option linter.unusedSimpArgs false

def wrOK (l : List Int) (c r t : Int) : Bool := decide (l.length = 40) && okS c r && (decide (t ≥ 0) && decide (t ≤ 20)) && !(decide ((rdV l).2.2 ≥ 0) && decide (c ≤ (rdV l).1))
def wrAt (l : List Int) : Nat := if (rdV l).2.2 == 0 then 20 else 0
def wrC (cs : List AV) (c r t : Int) : List AV := if wrOK (un cs) c r t = true then putL cs (wrAt (un cs)) (((slotL c r).take t.toNat).map (iv .u8)) else cs
def wrV (l : List Int) (c r t : Int) : List Int := if wrOK l c r t = true then putL l (wrAt l) ((slotL c r).take t.toNat) else l
theorem un_wrC (cs : List AV) (c r t : Int) : un (wrC cs c r t) = wrV (un cs) c r t := by
  unfold wrC wrV
  split
  · rw [un_put, un_map]
  · rfl
theorem isK_wrC {cs : List AV} (h : isK .u8 cs = true) (c r t : Int) : isK .u8 (wrC cs c r t) = true := by
  unfold wrC
  split
  · exact isK_put h (isK_map _ _)
  · exact h
theorem B8.wrV {l : List Int} (h : B8 l) (c r t : Int) : B8 (wrV l c r t) := by
  unfold S.wrV
  split
  · exact h.put ((B8.slot _ _).take _)
  · exact h
theorem wrC_len {cs : List AV} (c r t : Int) : (wrC cs c r t).length = cs.length := by
  unfold wrC
  split
  · rename_i h
    simp only [wrOK, Bool.and_eq_true, decide_eq_true_eq, un_len] at h
    refine putL_len _ _ _ ?_
    rw [List.length_map, List.length_take, slot_len]
    unfold wrAt
    split <;> omega
  · rfl
end Go.Proofs.YtgdldmfkgijkaaaDoor.VH.S
end

section
namespace Go.Proofs.YtgdldmfkgijkaaaDoor.VH.S
open Go.Proofs
set_option maxRecDepth 100000
set_option maxHeartbeats 8000000
set_option linter.unusedSimpArgs false

theorem e72 (d : Nat) (b : List Int) (s : Nat × Int) (hb : b.length ≤ 2 ^ 39) : evFun E (d+1) 72 [.ptr 0 [] 0] [curC b s] = some (vi (by1 b s).1, [some (curC b (by1 b s).2)]) := by
  refine evFun_body b72 ?_
  obtain ⟨i, h⟩ := s
  by_cases hi : i < b.length
  · have hg : b[i]?.getD 0 = b[i] := by rw [List.getElem?_eq_getElem hi]; rfl
    simp (maxDischargeDepth := 8) only [vv, cc, bb, qa, qa0, clash, meets, execOp, evBox, opnd, qa1, bin, convHM, qa2, qa3, qa4, qa5, qa6, qa7, zOK, qa8, qa9, borL, isSl, qb, qb0, qb1, qb2, qb3, qb4, cellsOf, TD.agg, qb5, qb6, qb7, qb8, qb9, qc, qc0, qc1, setAt, qc2, qc3, qc4, getR, qc5, qc6, qc7, qc8, qc9, Array.toList, List.map, Option.isSome_none, bne_self_eq_false, reduceIte, reduceCtorEq, Nat.reduceEqDiff, Nat.reduceAdd, Nat.reduceMul, Nat.reduceSub, Nat.reduceBEq, Nat.reduceLeDiff, Int.reduceEq, Int.reduceLT, Int.reduceLE, Int.reduceGE, Int.reduceGT, Int.reduceBEq, Int.reduceBNe, Int.reduceToNat, Int.reduceNeg, Int.reduceSub, Int.reduceAdd, Int.reduceMul, qd, qd0, qd1, qd2, qd3, qd4, qd5, qd6, qd7, qd8, qd9, qe, qe0, qe1, qe2, qe3, qe4, qe5, qe6, qe7, qe8, qe9, qf, rr, Tryd.f72, curC, bin_xorI, bin_andI, lt_ok hi, map_get hi, wrap_succ hi hb]
    repeat' ((with_reducible refine qg9 ?_ ?_); (focus kernel_rfl); try simp (maxDischargeDepth := 8) only [vv, cc, bb, qa, qa0, clash, meets, execOp, evBox, opnd, qa1, bin, convHM, qa2, qa3, qa4, qa5, qa6, qa7, zOK, qa8, qa9, borL, isSl, qb, qb0, qb1, qb2, qb3, qb4, cellsOf, TD.agg, qb5, qb6, qb7, qb8, qb9, qc, qc0, qc1, setAt, qc2, qc3, qc4, getR, qc5, qc6, qc7, qc8, qc9, Array.toList, List.map, Option.isSome_none, bne_self_eq_false, reduceIte, reduceCtorEq, Nat.reduceEqDiff, Nat.reduceAdd, Nat.reduceMul, Nat.reduceSub, Nat.reduceBEq, Nat.reduceLeDiff, Int.reduceEq, Int.reduceLT, Int.reduceLE, Int.reduceGE, Int.reduceGT, Int.reduceBEq, Int.reduceBNe, Int.reduceToNat, Int.reduceNeg, Int.reduceSub, Int.reduceAdd, Int.reduceMul, qd, qd0, qd1, qd2, qd3, qd4, qd5, qd6, qd7, qd8, qd9, qe, qe0, qe1, qe2, qe3, qe4, qe5, qe6, qe7, qe8, qe9, qf, rr, bin_xorI, bin_andI, lt_ok hi, map_get hi, wrap_succ hi hb])
    simp only [vv, ff, qa, qa0, clash, meets, execOp, evBox, opnd, qa1, bin, convHM, qa2, qa3, qa4, qa5, qa6, qa7, zOK, qa8, qa9, borL, isSl, qb, qb0, qb1, qb2, qb3, qb4, cellsOf, TD.agg, qb5, qb6, qb7, qb8, qb9, qc, qc0, qc1, setAt, qc2, qc3, qc4, getR, qc5, qc6, qc7, qc8, qc9, Array.toList, List.map, Option.isSome_none, bne_self_eq_false, reduceIte, reduceCtorEq, Nat.reduceEqDiff, Nat.reduceAdd, Nat.reduceMul, Nat.reduceSub, Nat.reduceBEq, Nat.reduceLeDiff, Int.reduceEq, Int.reduceLT, Int.reduceLE, Int.reduceGE, Int.reduceGT, Int.reduceBEq, Int.reduceBNe, Int.reduceToNat, Int.reduceNeg, Int.reduceSub, Int.reduceAdd, Int.reduceMul, finish, qf0, resOf, resa, qf1, qf2, qf3, keep, qf4, qf5, qf6, qe9, qf, rr, by1, curC, if_pos hi, hg, xr, nh]
  · have hd : decide ((i : Int) < (b.length : Int)) = false := by simp; omega
    simp (maxDischargeDepth := 8) only [vv, cc, bb, qa, qa0, clash, meets, execOp, evBox, opnd, qa1, bin, convHM, qa2, qa3, qa4, qa5, qa6, qa7, zOK, qa8, qa9, borL, isSl, qb, qb0, qb1, qb2, qb3, qb4, cellsOf, TD.agg, qb5, qb6, qb7, qb8, qb9, qc, qc0, qc1, setAt, qc2, qc3, qc4, getR, qc5, qc6, qc7, qc8, qc9, Array.toList, List.map, Option.isSome_none, bne_self_eq_false, reduceIte, reduceCtorEq, Nat.reduceEqDiff, Nat.reduceAdd, Nat.reduceMul, Nat.reduceSub, Nat.reduceBEq, Nat.reduceLeDiff, Int.reduceEq, Int.reduceLT, Int.reduceLE, Int.reduceGE, Int.reduceGT, Int.reduceBEq, Int.reduceBNe, Int.reduceToNat, Int.reduceNeg, Int.reduceSub, Int.reduceAdd, Int.reduceMul, qd, qd0, qd1, qd2, qd3, qd4, qd5, qd6, qd7, qd8, qd9, qe, qe0, qe1, qe2, qe3, qe4, qe5, qe6, qe7, qe8, qe9, qf, rr, Tryd.f72, curC, bin_xorI, bin_andI, hd]
    repeat' ((with_reducible refine qg9 ?_ ?_); (focus kernel_rfl); try simp (maxDischargeDepth := 8) only [vv, cc, bb, qa, qa0, clash, meets, execOp, evBox, opnd, qa1, bin, convHM, qa2, qa3, qa4, qa5, qa6, qa7, zOK, qa8, qa9, borL, isSl, qb, qb0, qb1, qb2, qb3, qb4, cellsOf, TD.agg, qb5, qb6, qb7, qb8, qb9, qc, qc0, qc1, setAt, qc2, qc3, qc4, getR, qc5, qc6, qc7, qc8, qc9, Array.toList, List.map, Option.isSome_none, bne_self_eq_false, reduceIte, reduceCtorEq, Nat.reduceEqDiff, Nat.reduceAdd, Nat.reduceMul, Nat.reduceSub, Nat.reduceBEq, Nat.reduceLeDiff, Int.reduceEq, Int.reduceLT, Int.reduceLE, Int.reduceGE, Int.reduceGT, Int.reduceBEq, Int.reduceBNe, Int.reduceToNat, Int.reduceNeg, Int.reduceSub, Int.reduceAdd, Int.reduceMul, qd, qd0, qd1, qd2, qd3, qd4, qd5, qd6, qd7, qd8, qd9, qe, qe0, qe1, qe2, qe3, qe4, qe5, qe6, qe7, qe8, qe9, qf, rr, bin_xorI, bin_andI, hd])
    simp only [vv, ff, qa, qa0, clash, meets, execOp, evBox, opnd, qa1, bin, convHM, qa2, qa3, qa4, qa5, qa6, qa7, zOK, qa8, qa9, borL, isSl, qb, qb0, qb1, qb2, qb3, qb4, cellsOf, TD.agg, qb5, qb6, qb7, qb8, qb9, qc, qc0, qc1, setAt, qc2, qc3, qc4, getR, qc5, qc6, qc7, qc8, qc9, Array.toList, List.map, Option.isSome_none, bne_self_eq_false, reduceIte, reduceCtorEq, Nat.reduceEqDiff, Nat.reduceAdd, Nat.reduceMul, Nat.reduceSub, Nat.reduceBEq, Nat.reduceLeDiff, Int.reduceEq, Int.reduceLT, Int.reduceLE, Int.reduceGE, Int.reduceGT, Int.reduceBEq, Int.reduceBNe, Int.reduceToNat, Int.reduceNeg, Int.reduceSub, Int.reduceAdd, Int.reduceMul, finish, qf0, resOf, resa, qf1, qf2, qf3, keep, qf4, qf5, qf6, qe9, qf, rr, by1, curC, if_neg hi, xr, nh]
theorem e53 (d : Nat) (b : List Int) (n : Int) (s : Nat × Int) (hb : b.length ≤ 2 ^ 39) (hn : 0 < n) : evFun E (d+2) 53 [.ptr 0 [] 0, vi n] [curC b s] = some (vi (bel b n s).1, [some (curC b (bel b n s).2)]) := by
  refine evFun_body b53 ?_
  have h0 : decide (n ≤ 0) = false := by simp; omega
  have hz : decide (n = 0) = false := by simp; omega
  have hkl : ∀ s, (curC b s).any qb8 = false := fun s => rfl
  have hsn : ∀ s, qf2 (curC b s) = true := fun s => rfl
  cases hc : decide (n ≤ 256) with
  | true =>
    have hc' := of_decide_eq_true hc
    simp (maxDischargeDepth := 8) only [vv, cc, bb, qa, qa0, clash, meets, execOp, evBox, opnd, qa1, bin, convHM, qa2, qa3, qa4, qa5, qa6, qa7, zOK, qa8, qa9, borL, isSl, qb, qb0, qb1, qb2, qb3, qb4, cellsOf, TD.agg, qb5, qb6, qb7, qb8, qb9, qc, qc0, qc1, setAt, qc2, qc3, qc4, getR, qc5, qc6, qc7, qc8, qc9, Array.toList, List.map, Option.isSome_none, bne_self_eq_false, reduceIte, reduceCtorEq, Nat.reduceEqDiff, Nat.reduceAdd, Nat.reduceMul, Nat.reduceSub, Nat.reduceBEq, Nat.reduceLeDiff, Int.reduceEq, Int.reduceLT, Int.reduceLE, Int.reduceGE, Int.reduceGT, Int.reduceBEq, Int.reduceBNe, Int.reduceToNat, Int.reduceNeg, Int.reduceSub, Int.reduceAdd, Int.reduceMul, qd, qd0, qd1, qd2, qd3, qd4, qd5, qd6, qd7, qd8, qd9, qe, qe0, qe1, qe2, qe3, qe4, qe5, qe6, qe7, qe8, qe9, qf, rr, Tryd.f53, h0, hz, hc, e72 _ _ _ hb, hkl]
    simp only [vv, ff, qa, qa0, clash, meets, execOp, evBox, opnd, qa1, bin, convHM, qa2, qa3, qa4, qa5, qa6, qa7, zOK, qa8, qa9, borL, isSl, qb, qb0, qb1, qb2, qb3, qb4, cellsOf, TD.agg, qb5, qb6, qb7, qb8, qb9, qc, qc0, qc1, setAt, qc2, qc3, qc4, getR, qc5, qc6, qc7, qc8, qc9, Array.toList, List.map, Option.isSome_none, bne_self_eq_false, reduceIte, reduceCtorEq, Nat.reduceEqDiff, Nat.reduceAdd, Nat.reduceMul, Nat.reduceSub, Nat.reduceBEq, Nat.reduceLeDiff, Int.reduceEq, Int.reduceLT, Int.reduceLE, Int.reduceGE, Int.reduceGT, Int.reduceBEq, Int.reduceBNe, Int.reduceToNat, Int.reduceNeg, Int.reduceSub, Int.reduceAdd, Int.reduceMul, finish, qf0, resOf, resa, qf1, qf2, qf3, keep, qf4, qf5, qf6, qe9, qf, rr, hsn, bel, if_neg (show ¬ n ≤ 0 by omega), if_pos hc']
  | false =>
    have hc' := of_decide_eq_false hc
    have b1 := by1_b b s
    have b2 := by1_b b (by1 b s).2
    have b3 := by1_b b (by1 b (by1 b s).2).2
    have b4 := by1_b b (by1 b (by1 b (by1 b s).2).2).2
    have w1 : IntKind.i64.wrap ((by1 b s).1 * 16777216) = (by1 b s).1 * 16777216 := wrap64 (by omega) (by omega)
    have w2 : IntKind.i64.wrap ((by1 b (by1 b s).2).1 * 65536) = (by1 b (by1 b s).2).1 * 65536 := wrap64 (by omega) (by omega)
    have w3 : IntKind.i64.wrap ((by1 b s).1 * 16777216 + (by1 b (by1 b s).2).1 * 65536) = (by1 b s).1 * 16777216 + (by1 b (by1 b s).2).1 * 65536 := wrap64 (by omega) (by omega)
    have w4 : IntKind.i64.wrap ((by1 b (by1 b (by1 b s).2).2).1 * 256) = (by1 b (by1 b (by1 b s).2).2).1 * 256 := wrap64 (by omega) (by omega)
    have w5 : IntKind.i64.wrap ((by1 b s).1 * 16777216 + (by1 b (by1 b s).2).1 * 65536 + (by1 b (by1 b (by1 b s).2).2).1 * 256) = (by1 b s).1 * 16777216 + (by1 b (by1 b s).2).1 * 65536 + (by1 b (by1 b (by1 b s).2).2).1 * 256 := wrap64 (by omega) (by omega)
    have w6 : IntKind.i64.wrap ((by1 b s).1 * 16777216 + (by1 b (by1 b s).2).1 * 65536 + (by1 b (by1 b (by1 b s).2).2).1 * 256 + (by1 b (by1 b (by1 b (by1 b s).2).2).2).1) = (by1 b s).1 * 16777216 + (by1 b (by1 b s).2).1 * 65536 + (by1 b (by1 b (by1 b s).2).2).1 * 256 + (by1 b (by1 b (by1 b (by1 b s).2).2).2).1 := wrap64 (by omega) (by omega)
    simp (maxDischargeDepth := 8) only [vv, cc, bb, qa, qa0, clash, meets, execOp, evBox, opnd, qa1, bin, convHM, qa2, qa3, qa4, qa5, qa6, qa7, zOK, qa8, qa9, borL, isSl, qb, qb0, qb1, qb2, qb3, qb4, cellsOf, TD.agg, qb5, qb6, qb7, qb8, qb9, qc, qc0, qc1, setAt, qc2, qc3, qc4, getR, qc5, qc6, qc7, qc8, qc9, Array.toList, List.map, Option.isSome_none, bne_self_eq_false, reduceIte, reduceCtorEq, Nat.reduceEqDiff, Nat.reduceAdd, Nat.reduceMul, Nat.reduceSub, Nat.reduceBEq, Nat.reduceLeDiff, Int.reduceEq, Int.reduceLT, Int.reduceLE, Int.reduceGE, Int.reduceGT, Int.reduceBEq, Int.reduceBNe, Int.reduceToNat, Int.reduceNeg, Int.reduceSub, Int.reduceAdd, Int.reduceMul, qd, qd0, qd1, qd2, qd3, qd4, qd5, qd6, qd7, qd8, qd9, qe, qe0, qe1, qe2, qe3, qe4, qe5, qe6, qe7, qe8, qe9, qf, rr, Tryd.f53, h0, hz, hc, e72 _ _ _ hb, hkl, w1, w2, w3, w4, w5, w6]
    simp only [vv, ff, qa, qa0, clash, meets, execOp, evBox, opnd, qa1, bin, convHM, qa2, qa3, qa4, qa5, qa6, qa7, zOK, qa8, qa9, borL, isSl, qb, qb0, qb1, qb2, qb3, qb4, cellsOf, TD.agg, qb5, qb6, qb7, qb8, qb9, qc, qc0, qc1, setAt, qc2, qc3, qc4, getR, qc5, qc6, qc7, qc8, qc9, Array.toList, List.map, Option.isSome_none, bne_self_eq_false, reduceIte, reduceCtorEq, Nat.reduceEqDiff, Nat.reduceAdd, Nat.reduceMul, Nat.reduceSub, Nat.reduceBEq, Nat.reduceLeDiff, Int.reduceEq, Int.reduceLT, Int.reduceLE, Int.reduceGE, Int.reduceGT, Int.reduceBEq, Int.reduceBNe, Int.reduceToNat, Int.reduceNeg, Int.reduceSub, Int.reduceAdd, Int.reduceMul, finish, qf0, resOf, resa, qf1, qf2, qf3, keep, qf4, qf5, qf6, qe9, qf, rr, hsn, bel, if_neg (show ¬ n ≤ 0 by omega), if_neg hc']
theorem e51 (d : Nat) (b : List Int) (n : Int) (s : Nat × Int) (hb : b.length ≤ 2 ^ 39) (hn : 0 < n) : evFun E (d+3) 51 [.ptr 0 [] 0, vi n] [curC b s] = some (vb ((bel b n s).1 == 0), [some (curC b (bel b n s).2)]) := by
  refine evFun_body b51 ?_
  have hkl : ∀ s, (curC b s).any qb8 = false := fun s => rfl
  have hsn : ∀ s, qf2 (curC b s) = true := fun s => rfl
  simp (maxDischargeDepth := 8) only [vv, cc, bb, qa, qa0, clash, meets, execOp, evBox, opnd, qa1, bin, convHM, qa2, qa3, qa4, qa5, qa6, qa7, zOK, qa8, qa9, borL, isSl, qb, qb0, qb1, qb2, qb3, qb4, cellsOf, TD.agg, qb5, qb6, qb7, qb8, qb9, qc, qc0, qc1, setAt, qc2, qc3, qc4, getR, qc5, qc6, qc7, qc8, qc9, Array.toList, List.map, Option.isSome_none, bne_self_eq_false, reduceIte, reduceCtorEq, Nat.reduceEqDiff, Nat.reduceAdd, Nat.reduceMul, Nat.reduceSub, Nat.reduceBEq, Nat.reduceLeDiff, Int.reduceEq, Int.reduceLT, Int.reduceLE, Int.reduceGE, Int.reduceGT, Int.reduceBEq, Int.reduceBNe, Int.reduceToNat, Int.reduceNeg, Int.reduceSub, Int.reduceAdd, Int.reduceMul, qd, qd0, qd1, qd2, qd3, qd4, qd5, qd6, qd7, qd8, qd9, qe, qe0, qe1, qe2, qe3, qe4, qe5, qe6, qe7, qe8, qe9, qf, rr, Tryd.f51, e53 _ _ _ _ hb hn, hkl]
  simp only [vv, ff, qa, qa0, clash, meets, execOp, evBox, opnd, qa1, bin, convHM, qa2, qa3, qa4, qa5, qa6, qa7, zOK, qa8, qa9, borL, isSl, qb, qb0, qb1, qb2, qb3, qb4, cellsOf, TD.agg, qb5, qb6, qb7, qb8, qb9, qc, qc0, qc1, setAt, qc2, qc3, qc4, getR, qc5, qc6, qc7, qc8, qc9, Array.toList, List.map, Option.isSome_none, bne_self_eq_false, reduceIte, reduceCtorEq, Nat.reduceEqDiff, Nat.reduceAdd, Nat.reduceMul, Nat.reduceSub, Nat.reduceBEq, Nat.reduceLeDiff, Int.reduceEq, Int.reduceLT, Int.reduceLE, Int.reduceGE, Int.reduceGT, Int.reduceBEq, Int.reduceBNe, Int.reduceToNat, Int.reduceNeg, Int.reduceSub, Int.reduceAdd, Int.reduceMul, finish, qf0, resOf, resa, qf1, qf2, qf3, keep, qf4, qf5, qf6, qe9, qf, rr, hsn]
def newH (b : List Int) : Nat → Int
  | 0 => IntKind.i64.wrap (88088 + (b.length : Int))
  | i + 1 => andI (IntKind.i64.wrap (IntKind.i64.wrap (IntKind.i64.wrap (newH b i * 131) + IntKind.i64.wrap (b.getD i 0)) + 7)) 1073741823
def newN (b : List Int) : Nat := if b.length ≤ 4000 then b.length else 4000
theorem e34 (d : Nat) (b : List Int) (hb : b.length ≤ 2 ^ 39) : evFun E (d+1) 34 [.sl .fgn 1 b.length none (b.map (iv .u8))] [] = some (.ptr 0 [] 0, [some (curC b (0, newH b (newN b)))]) := by
  refine evFun_body b34 ?_
  simp only [vv, qa, qa0, clash, meets, execOp, evBox, opnd, qa1, bin, convHM, qa2, qa3, qa4, qa5, qa6, qa7, zOK, qa8, qa9, borL, isSl, qb, qb0, qb1, qb2, qb3, qb4, cellsOf, TD.agg, qb5, qb6, qb7, qb8, qb9, qc, qc0, qc1, setAt, qc2, qc3, qc4, getR, qc5, qc6, qc7, qc8, qc9, Array.toList, List.map, Option.isSome_none, bne_self_eq_false, reduceIte, reduceCtorEq, Nat.reduceEqDiff, Nat.reduceAdd, Nat.reduceMul, Nat.reduceSub, Nat.reduceBEq, Nat.reduceLeDiff, Int.reduceEq, Int.reduceLT, Int.reduceLE, Int.reduceGE, Int.reduceGT, Int.reduceBEq, Int.reduceBNe, Int.reduceToNat, Int.reduceNeg, Int.reduceSub, Int.reduceAdd, Int.reduceMul, rr, Tryd.f34]
  have hnn : newN b ≤ b.length ∧ newN b ≤ 4000 := by unfold newN; split <;> omega
  refine loop_go (fun i => {T := tp [(0, .sl .fgn 1 b.length none (b.map (iv .u8))), (3, vi (newH b i)), (4, vi (i : Int))], H := hp [], nx := 0}) (newN b) ?_ (lt_LF (by omega)) (fun i hi Kn hK => ?_) (fun Kn => ?_)
  · simp only [vv, ff, norm, Array.toList, List.map, Option.isSome_none, bne_self_eq_false, reduceIte, reduceCtorEq, Nat.reduceEqDiff, Nat.reduceAdd, Nat.reduceMul, Nat.reduceSub, Nat.reduceBEq, Nat.reduceLeDiff, Int.reduceEq, Int.reduceLT, Int.reduceLE, Int.reduceGE, Int.reduceGT, Int.reduceBEq, Int.reduceBNe, Int.reduceToNat, Int.reduceNeg, Int.reduceSub, Int.reduceAdd, Int.reduceMul, finish, qf0, resOf, resa, qf1, qf2, qf3, keep, qf4, qf5, qf6, qe9, qf, Int.natCast_zero, newH]
  · have hi1 : i < b.length := by omega
    have hi2 : decide ((i : Int) < 4000) = true := by simp; omega
    have hg : b[i]?.getD 0 = b[i] := by rw [List.getElem?_eq_getElem hi1]; rfl
    simp only [vv, qa, qa0, clash, meets, execOp, evBox, opnd, qa1, bin, convHM, qa2, qa3, qa4, qa5, qa6, qa7, zOK, qa8, qa9, borL, isSl, qb, qb0, qb1, qb2, qb3, qb4, cellsOf, TD.agg, qb5, qb6, qb7, qb8, qb9, qc, qc0, qc1, setAt, qc2, qc3, qc4, getR, qc5, qc6, qc7, qc8, qc9, Array.toList, List.map, Option.isSome_none, bne_self_eq_false, reduceIte, reduceCtorEq, Nat.reduceEqDiff, Nat.reduceAdd, Nat.reduceMul, Nat.reduceSub, Nat.reduceBEq, Nat.reduceLeDiff, Int.reduceEq, Int.reduceLT, Int.reduceLE, Int.reduceGE, Int.reduceGT, Int.reduceBEq, Int.reduceBNe, Int.reduceToNat, Int.reduceNeg, Int.reduceSub, Int.reduceAdd, Int.reduceMul, rr, lt_ok hi1, hi2, map_get hi1, wrap_succ hi1 hb, bin_andI]
    refine hK _ ?_
    simp only [vv, ff, norm, Array.toList, List.map, Option.isSome_none, bne_self_eq_false, reduceIte, reduceCtorEq, Nat.reduceEqDiff, Nat.reduceAdd, Nat.reduceMul, Nat.reduceSub, Nat.reduceBEq, Nat.reduceLeDiff, Int.reduceEq, Int.reduceLT, Int.reduceLE, Int.reduceGE, Int.reduceGT, Int.reduceBEq, Int.reduceBNe, Int.reduceToNat, Int.reduceNeg, Int.reduceSub, Int.reduceAdd, Int.reduceMul, finish, qf0, resOf, resa, qf1, qf2, qf3, keep, qf4, qf5, qf6, qe9, qf, newH, hg]
  · by_cases hl : b.length ≤ 4000
    · have e : newN b = b.length := by unfold newN; rw [if_pos hl]
      rw [e]
      simp only [vv, qa, qa0, clash, meets, execOp, evBox, opnd, qa1, bin, convHM, qa2, qa3, qa4, qa5, qa6, qa7, zOK, qa8, qa9, borL, isSl, qb, qb0, qb1, qb2, qb3, qb4, cellsOf, TD.agg, qb5, qb6, qb7, qb8, qb9, qc, qc0, qc1, setAt, qc2, qc3, qc4, getR, qc5, qc6, qc7, qc8, qc9, Array.toList, List.map, Option.isSome_none, bne_self_eq_false, reduceIte, reduceCtorEq, Nat.reduceEqDiff, Nat.reduceAdd, Nat.reduceMul, Nat.reduceSub, Nat.reduceBEq, Nat.reduceLeDiff, Int.reduceEq, Int.reduceLT, Int.reduceLE, Int.reduceGE, Int.reduceGT, Int.reduceBEq, Int.reduceBNe, Int.reduceToNat, Int.reduceNeg, Int.reduceSub, Int.reduceAdd, Int.reduceMul, rr, lt_no]
      simp only [vv, ff, qa, qa0, clash, meets, execOp, evBox, opnd, qa1, bin, convHM, qa2, qa3, qa4, qa5, qa6, qa7, zOK, qa8, qa9, borL, isSl, qb, qb0, qb1, qb2, qb3, qb4, cellsOf, TD.agg, qb5, qb6, qb7, qb8, qb9, qc, qc0, qc1, setAt, qc2, qc3, qc4, getR, qc5, qc6, qc7, qc8, qc9, Array.toList, List.map, Option.isSome_none, bne_self_eq_false, reduceIte, reduceCtorEq, Nat.reduceEqDiff, Nat.reduceAdd, Nat.reduceMul, Nat.reduceSub, Nat.reduceBEq, Nat.reduceLeDiff, Int.reduceEq, Int.reduceLT, Int.reduceLE, Int.reduceGE, Int.reduceGT, Int.reduceBEq, Int.reduceBNe, Int.reduceToNat, Int.reduceNeg, Int.reduceSub, Int.reduceAdd, Int.reduceMul, finish, qf0, resOf, resa, qf1, qf2, qf3, keep, qf4, qf5, qf6, qe9, qf, rr, curC]
    · have e : newN b = 4000 := by unfold newN; rw [if_neg hl]
      rw [e]
      have h1 : decide (((4000 : Nat) : Int) < (b.length : Int)) = true := by simp; omega
      have h2 : decide (((4000 : Nat) : Int) < 4000) = false := by decide
      simp only [vv, qa, qa0, clash, meets, execOp, evBox, opnd, qa1, bin, convHM, qa2, qa3, qa4, qa5, qa6, qa7, zOK, qa8, qa9, borL, isSl, qb, qb0, qb1, qb2, qb3, qb4, cellsOf, TD.agg, qb5, qb6, qb7, qb8, qb9, qc, qc0, qc1, setAt, qc2, qc3, qc4, getR, qc5, qc6, qc7, qc8, qc9, Array.toList, List.map, Option.isSome_none, bne_self_eq_false, reduceIte, reduceCtorEq, Nat.reduceEqDiff, Nat.reduceAdd, Nat.reduceMul, Nat.reduceSub, Nat.reduceBEq, Nat.reduceLeDiff, Int.reduceEq, Int.reduceLT, Int.reduceLE, Int.reduceGE, Int.reduceGT, Int.reduceBEq, Int.reduceBNe, Int.reduceToNat, Int.reduceNeg, Int.reduceSub, Int.reduceAdd, Int.reduceMul, rr, h1, h2]
      simp only [vv, ff, qa, qa0, clash, meets, execOp, evBox, opnd, qa1, bin, convHM, qa2, qa3, qa4, qa5, qa6, qa7, zOK, qa8, qa9, borL, isSl, qb, qb0, qb1, qb2, qb3, qb4, cellsOf, TD.agg, qb5, qb6, qb7, qb8, qb9, qc, qc0, qc1, setAt, qc2, qc3, qc4, getR, qc5, qc6, qc7, qc8, qc9, Array.toList, List.map, Option.isSome_none, bne_self_eq_false, reduceIte, reduceCtorEq, Nat.reduceEqDiff, Nat.reduceAdd, Nat.reduceMul, Nat.reduceSub, Nat.reduceBEq, Nat.reduceLeDiff, Int.reduceEq, Int.reduceLT, Int.reduceLE, Int.reduceGE, Int.reduceGT, Int.reduceBEq, Int.reduceBNe, Int.reduceToNat, Int.reduceNeg, Int.reduceSub, Int.reduceAdd, Int.reduceMul, finish, qf0, resOf, resa, qf1, qf2, qf3, keep, qf4, qf5, qf6, qe9, qf, rr, curC]

structure DInv0 (cs : List AV) : Prop where
  k : isK .u8 cs = true
  len : cs.length = 40
  b8 : B8 (un cs)
theorem DInv0.step {cs : List AV} (h : DInv0 cs) (c r t : Int) : DInv0 (wrC cs c r t) := ⟨isK_wrC h.k _ _ _, by rw [wrC_len]; exact h.len, by rw [un_wrC]; exact S.B8.wrV h.b8 _ _ _⟩
end Go.Proofs.YtgdldmfkgijkaaaDoor.VH.S
end

section
namespace Go.Proofs.YtgdldmfkgijkaaaDoor.VH.S
open Go.Proofs
set_option maxRecDepth 100000
set_option maxHeartbeats 8000000
set_option linter.unusedSimpArgs false

/- Bytes of the code. -/
def atV (b : List Int) (k : Nat) : Int := if k < b.length then b.getD k 0 else ((k * 7 + b.length : Nat) : Int).tmod 256
theorem atV_b {b : List Int} (hb : B8 b) (k : Nat) : 0 ≤ atV b k ∧ atV b k < 256 := by
  unfold atV
  split
  · rename_i h
    rw [List.getD_eq_getElem?_getD, List.getElem?_eq_getElem h]
    exact hb _ (List.getElem_mem _)
  · exact ⟨Int.tmod_nonneg _ (by omega), Int.tmod_lt_of_pos _ (by decide)⟩
theorem e20 (d : Nat) (b : List Int) (k : Nat) (hk : k ≤ 1000) (hl : b.length ≤ 2 ^ 39) (hb : B8 b) : evFun E (d+1) 20 [.sl .fgn 1 b.length none (b.map (iv .u8)), vi k] [] = some (vi (atV b k), []) := by
  refine evFun_body b20 ?_
  by_cases h : k < b.length
  · have hx := hb _ (List.getElem_mem h)
    have hw : IntKind.i64.wrap b[k] = b[k] := wrap64 (by omega) (by omega)
    have hg : b[k]?.getD 0 = b[k] := by rw [List.getElem?_eq_getElem h]; rfl
    simp only [vv, qa, qa0, clash, meets, execOp, evBox, opnd, qa1, bin, convHM, qa2, qa3, qa4, qa5, qa6, qa7, zOK, qa8, qa9, borL, isSl, qb, qb0, qb1, qb2, qb3, qb4, cellsOf, TD.agg, qb5, qb6, qb7, qb8, qb9, qc, qc0, qc1, setAt, qc2, qc3, qc4, getR, qc5, qc6, qc7, qc8, qc9, Array.toList, List.map, Option.isSome_none, bne_self_eq_false, reduceIte, reduceCtorEq, Nat.reduceEqDiff, Nat.reduceAdd, Nat.reduceMul, Nat.reduceSub, Nat.reduceBEq, Nat.reduceLeDiff, Int.reduceEq, Int.reduceLT, Int.reduceLE, Int.reduceGE, Int.reduceGT, Int.reduceBEq, Int.reduceBNe, Int.reduceToNat, Int.reduceNeg, Int.reduceSub, Int.reduceAdd, Int.reduceMul, rr, Tryd.f20, lt_ok h, map_get h, hw]
    simp only [vv, ff, qa, qa0, clash, meets, execOp, evBox, opnd, qa1, bin, convHM, qa2, qa3, qa4, qa5, qa6, qa7, zOK, qa8, qa9, borL, isSl, qb, qb0, qb1, qb2, qb3, qb4, cellsOf, TD.agg, qb5, qb6, qb7, qb8, qb9, qc, qc0, qc1, setAt, qc2, qc3, qc4, getR, qc5, qc6, qc7, qc8, qc9, Array.toList, List.map, Option.isSome_none, bne_self_eq_false, reduceIte, reduceCtorEq, Nat.reduceEqDiff, Nat.reduceAdd, Nat.reduceMul, Nat.reduceSub, Nat.reduceBEq, Nat.reduceLeDiff, Int.reduceEq, Int.reduceLT, Int.reduceLE, Int.reduceGE, Int.reduceGT, Int.reduceBEq, Int.reduceBNe, Int.reduceToNat, Int.reduceNeg, Int.reduceSub, Int.reduceAdd, Int.reduceMul, finish, qf0, resOf, resa, qf1, qf2, qf3, keep, qf4, qf5, qf6, qe9, qf, rr, atV, if_pos h, hg]
  · have hd : decide ((k : Int) < (b.length : Int)) = false := by simp; omega
    have w1 : IntKind.i64.wrap ((k : Int) * 7) = (k : Int) * 7 := wrap64 (by omega) (by omega)
    have w2 : IntKind.i64.wrap ((k : Int) * 7 + (b.length : Int)) = ((k * 7 + b.length : Nat) : Int) := by rw [wrap64 (by omega) (by omega)]; omega
    simp only [vv, qa, qa0, clash, meets, execOp, evBox, opnd, qa1, bin, convHM, qa2, qa3, qa4, qa5, qa6, qa7, zOK, qa8, qa9, borL, isSl, qb, qb0, qb1, qb2, qb3, qb4, cellsOf, TD.agg, qb5, qb6, qb7, qb8, qb9, qc, qc0, qc1, setAt, qc2, qc3, qc4, getR, qc5, qc6, qc7, qc8, qc9, Array.toList, List.map, Option.isSome_none, bne_self_eq_false, reduceIte, reduceCtorEq, Nat.reduceEqDiff, Nat.reduceAdd, Nat.reduceMul, Nat.reduceSub, Nat.reduceBEq, Nat.reduceLeDiff, Int.reduceEq, Int.reduceLT, Int.reduceLE, Int.reduceGE, Int.reduceGT, Int.reduceBEq, Int.reduceBNe, Int.reduceToNat, Int.reduceNeg, Int.reduceSub, Int.reduceAdd, Int.reduceMul, rr, Tryd.f20, hd, w1, w2]
    simp only [vv, ff, qa, qa0, clash, meets, execOp, evBox, opnd, qa1, bin, convHM, qa2, qa3, qa4, qa5, qa6, qa7, zOK, qa8, qa9, borL, isSl, qb, qb0, qb1, qb2, qb3, qb4, cellsOf, TD.agg, qb5, qb6, qb7, qb8, qb9, qc, qc0, qc1, setAt, qc2, qc3, qc4, getR, qc5, qc6, qc7, qc8, qc9, Array.toList, List.map, Option.isSome_none, bne_self_eq_false, reduceIte, reduceCtorEq, Nat.reduceEqDiff, Nat.reduceAdd, Nat.reduceMul, Nat.reduceSub, Nat.reduceBEq, Nat.reduceLeDiff, Int.reduceEq, Int.reduceLT, Int.reduceLE, Int.reduceGE, Int.reduceGT, Int.reduceBEq, Int.reduceBNe, Int.reduceToNat, Int.reduceNeg, Int.reduceSub, Int.reduceAdd, Int.reduceMul, finish, qf0, resOf, resa, qf1, qf2, qf3, keep, qf4, qf5, qf6, qe9, qf, rr, atV, if_neg h]
theorem e6 (d : Nat) (tg : Tg) (cap : Option Nat) (n : Nat) (cs : List AV) : evFun E (d+1) 6 [.sl tg 1 n cap cs] [] = some (vb (decide ((n : Int) > 1048576)), []) := by
  refine evFun_body b6 ?_
  simp only [vv, qa, qa0, clash, meets, execOp, evBox, opnd, qa1, bin, convHM, qa2, qa3, qa4, qa5, qa6, qa7, zOK, qa8, qa9, borL, isSl, qb, qb0, qb1, qb2, qb3, qb4, cellsOf, TD.agg, qb5, qb6, qb7, qb8, qb9, qc, qc0, qc1, setAt, qc2, qc3, qc4, getR, qc5, qc6, qc7, qc8, qc9, Array.toList, List.map, Option.isSome_none, bne_self_eq_false, reduceIte, reduceCtorEq, Nat.reduceEqDiff, Nat.reduceAdd, Nat.reduceMul, Nat.reduceSub, Nat.reduceBEq, Nat.reduceLeDiff, Int.reduceEq, Int.reduceLT, Int.reduceLE, Int.reduceGE, Int.reduceGT, Int.reduceBEq, Int.reduceBNe, Int.reduceToNat, Int.reduceNeg, Int.reduceSub, Int.reduceAdd, Int.reduceMul, rr, Tryd.f6]
  simp only [vv, ff, qa, qa0, clash, meets, execOp, evBox, opnd, qa1, bin, convHM, qa2, qa3, qa4, qa5, qa6, qa7, zOK, qa8, qa9, borL, isSl, qb, qb0, qb1, qb2, qb3, qb4, cellsOf, TD.agg, qb5, qb6, qb7, qb8, qb9, qc, qc0, qc1, setAt, qc2, qc3, qc4, getR, qc5, qc6, qc7, qc8, qc9, Array.toList, List.map, Option.isSome_none, bne_self_eq_false, reduceIte, reduceCtorEq, Nat.reduceEqDiff, Nat.reduceAdd, Nat.reduceMul, Nat.reduceSub, Nat.reduceBEq, Nat.reduceLeDiff, Int.reduceEq, Int.reduceLT, Int.reduceLE, Int.reduceGE, Int.reduceGT, Int.reduceBEq, Int.reduceBNe, Int.reduceToNat, Int.reduceNeg, Int.reduceSub, Int.reduceAdd, Int.reduceMul, finish, qf0, resOf, resa, qf1, qf2, qf3, keep, qf4, qf5, qf6, qe9, qf, rr]
end Go.Proofs.YtgdldmfkgijkaaaDoor.VH.S
end

section
namespace Go.Proofs.YtgdldmfkgijkaaaDoor.VH.S
open Go.Proofs
set_option maxRecDepth 100000
set_option maxHeartbeats 8000000
set_option linter.unusedSimpArgs false

/- Drawn data, texts, numbers. -/
theorem cur_own (b : List Int) (s : Nat × Int) : (curC b s).any qb8 = false := rfl
theorem cur_snap (b : List Int) (s : Nat × Int) : qf2 (curC b s) = true := rfl
def ddS (b : List Int) (s : Nat × Int) : Nat → List Int × (Nat × Int)
  | 0 => ([], s)
  | i + 1 => ((ddS b s i).1 ++ [(by1 b (ddS b s i).2).1], (by1 b (ddS b s i).2).2)
theorem ddS_len (b : List Int) (s : Nat × Int) : ∀ i, (ddS b s i).1.length = i
  | 0 => rfl
  | i + 1 => by simp [ddS, ddS_len b s i]
theorem ddS_b8 (b : List Int) (s : Nat × Int) : ∀ i, B8 (ddS b s i).1
  | 0 => fun x h => by simp [ddS] at h
  | i + 1 => by
    intro x h
    simp only [ddS, List.mem_append, List.mem_singleton] at h
    rcases h with h | rfl
    · exact ddS_b8 b s i x h
    · exact by1_b b _
def capD (i : Nat) : Option Nat := if i = 0 then some 0 else none
theorem capD_zero : capD 0 = some 0 := rfl
theorem capD_succ (i : Nat) : capD (i + 1) = none := rfl
theorem capD_one (i : Nat) : capK (capD i) 1 = none := capK_pos Nat.one_pos
theorem e74 (d : Nat) (b : List Int) (n : Int) (s : Nat × Int) (hb : b.length ≤ 2 ^ 39) (hn : 0 < n) (hn2 : n ≤ 256) : evFun E (d+3) 74 [.ptr 0 [] 0, vi n] [curC b s] = some (.ref 1 [] 1 0 (bel b n s).1.toNat (capD (bel b n s).1.toNat), [some (curC b (ddS b (bel b n s).2 (bel b n s).1.toNat).2), some ((ddS b (bel b n s).2 (bel b n s).1.toNat).1.map (iv .u8))]) := by
  have hB := e53 d b n s hb hn
  obtain ⟨k0, k1⟩ := bel_b b hn s
  generalize (bel b n s).2 = s0 at hB
  generalize (bel b n s).1 = k at hB k0 k1
  refine evFun_body b74 ?_
  (repeat' (first | simp (maxDischargeDepth := 8) only [go_sem, rr, reduceIte, reduceCtorEq, Nat.reduceEqDiff, Nat.reduceAdd, Nat.reduceMul, Nat.reduceSub, Nat.reduceBEq, Nat.reduceLeDiff, Int.reduceEq, Int.reduceLT, Int.reduceLE, Int.reduceGE, Int.reduceGT, Int.reduceBEq, Int.reduceBNe, Int.reduceToNat, Int.reduceNeg, Int.reduceSub, Int.reduceAdd, Int.reduceMul, hB, cur_own, Tryd.f74] | (with_reducible refine qg9 ?_ ?_; focus (first | (simp (maxDischargeDepth := 8) only [bb, kk, hB, cur_own]; done) | kernel_rfl)) | ((with_reducible first | refine qf7 ?_ ?_ | refine qf8 ?_ ?_ | refine qf9 ?_ ?_ | refine qg ?_ ?_ | refine qg0 ?_ ?_ | refine qg1 ?_ ?_ | refine qg2 ?_ ?_); focus (first | assumption | omega | (simp only [bz, hB, cur_own]; omega))) | ((with_reducible first | refine qg3 ?_ ?_ | refine qg4 ?_ ?_ | refine qg5 ?_ ?_); focus (first | assumption | omega | (simp only [bz, hB, cur_own]; omega))) | ((with_reducible first | refine g1_u8w ?_ ?_ | refine qg7 ?_ ?_); (focus ((repeat' (with_reducible apply And.intro)) <;> (first | assumption | omega | (simp only [bz, hB, cur_own]; omega) | (simp (maxDischargeDepth := 8) only [bb, hB, cur_own]; done)))); intro _) | ((with_reducible refine g1_64w ?_ ?_); (focus ((repeat' (with_reducible apply And.intro)) <;> (first | assumption | omega | (simp only [bz, hB, cur_own]; omega) | (simp (maxDischargeDepth := 8) only [bb, hB, cur_own]; done)))); intro _)))
  refine loop_go (fun i => {T := tp [(0, .ptr 0 [] 0), (5, .ref 1 [] 1 0 i (capD i)), (6, vi (k - i))], H := hp [some (curC b (ddS b s0 i).2), some ((ddS b s0 i).1.map (iv .u8))], nx := 2}) k.toNat ?_ (lt_LF (by omega)) (fun i hi Kn hK => ?_) (fun Kn => ?_)
  · simp only [vv, ff, norm, Array.toList, List.map, Option.isSome_none, bne_self_eq_false, reduceIte, reduceCtorEq, Nat.reduceEqDiff, Nat.reduceAdd, Nat.reduceMul, Nat.reduceSub, Nat.reduceBEq, Nat.reduceLeDiff, Int.reduceEq, Int.reduceLT, Int.reduceLE, Int.reduceGE, Int.reduceGT, Int.reduceBEq, Int.reduceBNe, Int.reduceToNat, Int.reduceNeg, Int.reduceSub, Int.reduceAdd, Int.reduceMul, finish, qf0, resOf, resa, qf1, qf2, qf3, keep, qf4, qf5, qf6, qe9, qf, Int.natCast_zero, Int.sub_zero, capD_zero, ddS, List.map_nil]
  · have hl := ddS_len b s0 i
    have hy := by1_b b (ddS b s0 i).2
    (repeat' (first | simp (maxDischargeDepth := 8) only [go_sem, rr, reduceIte, reduceCtorEq, Nat.reduceEqDiff, Nat.reduceAdd, Nat.reduceMul, Nat.reduceSub, Nat.reduceBEq, Nat.reduceLeDiff, Int.reduceEq, Int.reduceLT, Int.reduceLE, Int.reduceGE, Int.reduceGT, Int.reduceBEq, Int.reduceBNe, Int.reduceToNat, Int.reduceNeg, Int.reduceSub, Int.reduceAdd, Int.reduceMul, hl, cur_own] | (with_reducible refine qg9 ?_ ?_; focus (first | (simp (maxDischargeDepth := 8) only [bb, kk, hl, cur_own]; done) | kernel_rfl)) | ((with_reducible first | refine qf7 ?_ ?_ | refine qf8 ?_ ?_ | refine qf9 ?_ ?_ | refine qg ?_ ?_ | refine qg0 ?_ ?_ | refine qg1 ?_ ?_ | refine qg2 ?_ ?_); focus (first | assumption | omega | (simp only [bz, hl, cur_own]; omega))) | ((with_reducible first | refine qg3 ?_ ?_ | refine qg4 ?_ ?_ | refine qg5 ?_ ?_); focus (first | assumption | omega | (simp only [bz, hl, cur_own]; omega))) | ((with_reducible first | refine g1_u8w ?_ ?_ | refine qg7 ?_ ?_); (focus ((repeat' (with_reducible apply And.intro)) <;> (first | assumption | omega | (simp only [bz, hl, cur_own]; omega) | (simp (maxDischargeDepth := 8) only [bb, hl, cur_own]; done)))); intro _) | ((with_reducible refine g1_64w ?_ ?_); (focus ((repeat' (with_reducible apply And.intro)) <;> (first | assumption | omega | (simp only [bz, hl, cur_own]; omega) | (simp (maxDischargeDepth := 8) only [bb, hl, cur_own]; done)))); intro _) | (with_reducible apply call_elim; focus ((with_reducible first | apply e72) <;> (first | assumption | omega | (simp only [bz, hl, cur_own]; omega) | (simp (maxDischargeDepth := 8) only [bb, hl, cur_own]; done))))))
    refine hK _ ?_
    simp only [vv, ff, norm, Array.toList, List.map, Option.isSome_none, bne_self_eq_false, reduceIte, reduceCtorEq, Nat.reduceEqDiff, Nat.reduceAdd, Nat.reduceMul, Nat.reduceSub, Nat.reduceBEq, Nat.reduceLeDiff, Int.reduceEq, Int.reduceLT, Int.reduceLE, Int.reduceGE, Int.reduceGT, Int.reduceBEq, Int.reduceBNe, Int.reduceToNat, Int.reduceNeg, Int.reduceSub, Int.reduceAdd, Int.reduceMul, finish, qf0, resOf, resa, qf1, qf2, qf3, keep, qf4, qf5, qf6, qe9, qf, Int.natCast_add, cst1, capD_one, capD_succ, ddS, List.map_append, Int.sub_sub]
  · have hl := ddS_len b s0 k.toNat
    (repeat' (first | simp (maxDischargeDepth := 8) only [go_sem, rr, reduceIte, reduceCtorEq, Nat.reduceEqDiff, Nat.reduceAdd, Nat.reduceMul, Nat.reduceSub, Nat.reduceBEq, Nat.reduceLeDiff, Int.reduceEq, Int.reduceLT, Int.reduceLE, Int.reduceGE, Int.reduceGT, Int.reduceBEq, Int.reduceBNe, Int.reduceToNat, Int.reduceNeg, Int.reduceSub, Int.reduceAdd, Int.reduceMul, hl, cur_own, cur_snap] | (with_reducible refine qg9 ?_ ?_; focus (first | (simp (maxDischargeDepth := 8) only [bb, kk, hl, cur_own, cur_snap]; done) | kernel_rfl)) | ((with_reducible first | refine qf7 ?_ ?_ | refine qf8 ?_ ?_ | refine qf9 ?_ ?_ | refine qg ?_ ?_ | refine qg0 ?_ ?_ | refine qg1 ?_ ?_ | refine qg2 ?_ ?_); focus (first | assumption | omega | (simp only [bz, hl, cur_own, cur_snap]; omega))) | ((with_reducible first | refine qg3 ?_ ?_ | refine qg4 ?_ ?_ | refine qg5 ?_ ?_); focus (first | assumption | omega | (simp only [bz, hl, cur_own, cur_snap]; omega))) | ((with_reducible first | refine g1_u8w ?_ ?_ | refine qg7 ?_ ?_); (focus ((repeat' (with_reducible apply And.intro)) <;> (first | assumption | omega | (simp only [bz, hl, cur_own, cur_snap]; omega) | (simp (maxDischargeDepth := 8) only [bb, hl, cur_own, cur_snap]; done)))); intro _) | ((with_reducible refine g1_64w ?_ ?_); (focus ((repeat' (with_reducible apply And.intro)) <;> (first | assumption | omega | (simp only [bz, hl, cur_own, cur_snap]; omega) | (simp (maxDischargeDepth := 8) only [bb, hl, cur_own, cur_snap]; done)))); intro _)))
theorem e76 (d : Nat) (b : List Int) (s : Nat × Int) (hb : b.length ≤ 2 ^ 39) (tg : Tg) (cap : Option Nat) (n : Nat) (L : List (List UInt8)) (hL : L.length = n) (h0 : 0 < n) : evFun E (d+3) 76 [.ptr 0 [] 0, .sl tg 1 n cap (L.map vs)] [curC b s] = some (vs (L.getD (bel b n s).1.toNat []), [some (curC b (bel b n s).2)]) := by
  have hB := e53 d b n s hb (by omega)
  obtain ⟨k0, k1⟩ := bel_b b (n := (n : Int)) (by omega) s
  generalize (bel b n s).2 = s0 at hB ⊢
  generalize (bel b n s).1 = k at hB k0 k1 ⊢
  have hg : g1 (L.map vs) k.toNat = some (vs (L.getD k.toNat [])) := by
    rw [g1, List.getElem?_map, List.getD_eq_getElem?_getD, List.getElem?_eq_getElem (by omega)]; rfl
  refine evFun_body b76 ?_
  (have fz := ga2 hB hg; repeat' (first | simp (maxDischargeDepth := 8) only [go_sem, rr, reduceIte, reduceCtorEq, Nat.reduceEqDiff, Nat.reduceAdd, Nat.reduceMul, Nat.reduceSub, Nat.reduceBEq, Nat.reduceLeDiff, Int.reduceEq, Int.reduceLT, Int.reduceLE, Int.reduceGE, Int.reduceGT, Int.reduceBEq, Int.reduceBNe, Int.reduceToNat, Int.reduceNeg, Int.reduceSub, Int.reduceAdd, Int.reduceMul, fz, cur_own, cur_snap, Tryd.f76] | (with_reducible refine qg9 ?_ ?_; focus (first | (simp (maxDischargeDepth := 8) only [bb, kk, fz, cur_own, cur_snap]; done) | kernel_rfl)) | ((with_reducible first | refine qf7 ?_ ?_ | refine qf8 ?_ ?_ | refine qf9 ?_ ?_ | refine qg ?_ ?_ | refine qg0 ?_ ?_ | refine qg1 ?_ ?_ | refine qg2 ?_ ?_); focus (first | assumption | omega | (simp only [bz, fz, cur_own, cur_snap]; omega))) | ((with_reducible first | refine qg3 ?_ ?_ | refine qg4 ?_ ?_ | refine qg5 ?_ ?_); focus (first | assumption | omega | (simp only [bz, fz, cur_own, cur_snap]; omega))) | ((with_reducible first | refine g1_u8w ?_ ?_ | refine qg7 ?_ ?_); (focus ((repeat' (with_reducible apply And.intro)) <;> (first | assumption | omega | (simp only [bz, fz, cur_own, cur_snap]; omega) | (simp (maxDischargeDepth := 8) only [bb, fz, cur_own, cur_snap]; done)))); intro _) | ((with_reducible refine g1_64w ?_ ?_); (focus ((repeat' (with_reducible apply And.intro)) <;> (first | assumption | omega | (simp only [bz, fz, cur_own, cur_snap]; omega) | (simp (maxDischargeDepth := 8) only [bb, fz, cur_own, cur_snap]; done)))); intro _)))
theorem e75g (d : Nat) (b : List Int) (s : Nat × Int) (hb : b.length ≤ 2 ^ 39) (tg : Tg) (cap : Option Nat) (n : Nat) (L : List Int) (hL : L.length = n) (h0 : 0 < n) : evFun E (d+3) 75 [.ptr 0 [] 0, .sl tg 1 n cap (L.map (iv .i64))] [curC b s] = some (vi (L.getD (bel b n s).1.toNat 0), [some (curC b (bel b n s).2)]) := by
  have hB := e53 d b n s hb (by omega)
  obtain ⟨k0, k1⟩ := bel_b b (n := (n : Int)) (by omega) s
  generalize (bel b n s).2 = s0 at hB ⊢
  generalize (bel b n s).1 = k at hB k0 k1 ⊢
  have hg : g1 (L.map (iv .i64)) k.toNat = some (vi (L.getD k.toNat 0)) := by
    rw [g1, List.getElem?_map, List.getD_eq_getElem?_getD, List.getElem?_eq_getElem (by omega)]; rfl
  refine evFun_body b75 ?_
  (have fz := ga2 hB hg; repeat' (first | simp (maxDischargeDepth := 8) only [go_sem, rr, reduceIte, reduceCtorEq, Nat.reduceEqDiff, Nat.reduceAdd, Nat.reduceMul, Nat.reduceSub, Nat.reduceBEq, Nat.reduceLeDiff, Int.reduceEq, Int.reduceLT, Int.reduceLE, Int.reduceGE, Int.reduceGT, Int.reduceBEq, Int.reduceBNe, Int.reduceToNat, Int.reduceNeg, Int.reduceSub, Int.reduceAdd, Int.reduceMul, fz, cur_own, cur_snap, Tryd.f75] | (with_reducible refine qg9 ?_ ?_; focus (first | (simp (maxDischargeDepth := 8) only [bb, kk, fz, cur_own, cur_snap]; done) | kernel_rfl)) | ((with_reducible first | refine qf7 ?_ ?_ | refine qf8 ?_ ?_ | refine qf9 ?_ ?_ | refine qg ?_ ?_ | refine qg0 ?_ ?_ | refine qg1 ?_ ?_ | refine qg2 ?_ ?_); focus (first | assumption | omega | (simp only [bz, fz, cur_own, cur_snap]; omega))) | ((with_reducible first | refine qg3 ?_ ?_ | refine qg4 ?_ ?_ | refine qg5 ?_ ?_); focus (first | assumption | omega | (simp only [bz, fz, cur_own, cur_snap]; omega))) | ((with_reducible first | refine g1_u8w ?_ ?_ | refine qg7 ?_ ?_); (focus ((repeat' (with_reducible apply And.intro)) <;> (first | assumption | omega | (simp only [bz, fz, cur_own, cur_snap]; omega) | (simp (maxDischargeDepth := 8) only [bb, fz, cur_own, cur_snap]; done)))); intro _) | ((with_reducible refine g1_64w ?_ ?_); (focus ((repeat' (with_reducible apply And.intro)) <;> (first | assumption | omega | (simp only [bz, fz, cur_own, cur_snap]; omega) | (simp (maxDischargeDepth := 8) only [bb, fz, cur_own, cur_snap]; done)))); intro _)))
def dNames : List (List UInt8) := [[97], [98], [99, 97, 116], [100, 45, 49], [], [97, 98, 99, 100, 101, 102, 103, 104]]
theorem e73 (d : Nat) (b : List Int) (s : Nat × Int) (hb : b.length ≤ 2 ^ 39) : evFun E (d+4) 73 [.ptr 0 [] 0] [curC b s] = some (vs (dNames.getD (bel b 6 s).1.toNat []), [some (curC b (bel b 6 s).2)]) := by
  have hp : evFun E (d+3) 76 [.ptr 0 [] 0, .sl .snap 1 6 none [vs [97], vs [98], vs [99, 97, 116], vs [100, 45, 49], vs [], vs [97, 98, 99, 100, 101, 102, 103, 104]]] [curC b s] = some (vs (dNames.getD (bel b 6 s).1.toNat []), [some (curC b (bel b 6 s).2)]) := e76 d b s hb .snap none 6 dNames rfl (by decide)
  refine evFun_body b73 ?_
  (repeat' (first | simp (maxDischargeDepth := 8) only [go_sem, rr, reduceIte, reduceCtorEq, Nat.reduceEqDiff, Nat.reduceAdd, Nat.reduceMul, Nat.reduceSub, Nat.reduceBEq, Nat.reduceLeDiff, Int.reduceEq, Int.reduceLT, Int.reduceLE, Int.reduceGE, Int.reduceGT, Int.reduceBEq, Int.reduceBNe, Int.reduceToNat, Int.reduceNeg, Int.reduceSub, Int.reduceAdd, Int.reduceMul, hp, cur_own, cur_snap, Tryd.f73] | (with_reducible refine qg9 ?_ ?_; focus (first | (simp (maxDischargeDepth := 8) only [bb, kk, hp, cur_own, cur_snap]; done) | kernel_rfl)) | ((with_reducible first | refine qf7 ?_ ?_ | refine qf8 ?_ ?_ | refine qf9 ?_ ?_ | refine qg ?_ ?_ | refine qg0 ?_ ?_ | refine qg1 ?_ ?_ | refine qg2 ?_ ?_); focus (first | assumption | omega | (simp only [bz, hp, cur_own, cur_snap]; omega))) | ((with_reducible first | refine qg3 ?_ ?_ | refine qg4 ?_ ?_ | refine qg5 ?_ ?_); focus (first | assumption | omega | (simp only [bz, hp, cur_own, cur_snap]; omega))) | ((with_reducible first | refine g1_u8w ?_ ?_ | refine qg7 ?_ ?_); (focus ((repeat' (with_reducible apply And.intro)) <;> (first | assumption | omega | (simp only [bz, hp, cur_own, cur_snap]; omega) | (simp (maxDischargeDepth := 8) only [bb, hp, cur_own, cur_snap]; done)))); intro _) | ((with_reducible refine g1_64w ?_ ?_); (focus ((repeat' (with_reducible apply And.intro)) <;> (first | assumption | omega | (simp only [bz, hp, cur_own, cur_snap]; omega) | (simp (maxDischargeDepth := 8) only [bb, hp, cur_own, cur_snap]; done)))); intro _)))
theorem dNames_len (i : Nat) : (dNames.getD i []).length ≤ 8 := by
  match i with
  | 0 | 1 | 2 | 3 | 4 | 5 => decide
  | i + 6 => simp [dNames]
end Go.Proofs.YtgdldmfkgijkaaaDoor.VH.S
end

section
namespace Go.Proofs.YtgdldmfkgijkaaaDoor.VH.S
open Go.Proofs
set_option maxRecDepth 100000
set_option maxHeartbeats 8000000
set_option linter.unusedSimpArgs false

/- Drawn asks. -/
def askX (k : Int) (nm : List UInt8) (v : Int) (key : Nat) : Option (List Int) → AV
  | none => .agg [vi k, vs nm, vi v, .val (.slice none 0 0)]
  | some l => .agg [vi k, vs nm, vi v, .ref key [3] 1 0 l.length none]
def askR (k : Int) (nm : List UInt8) (v : Int) : Option (List Int) → List (Option (List AV))
  | none => []
  | some l => [some [vi k, vs nm, vi v, .sl .own 1 l.length none (l.map (iv .u8))]]
def dBad : List (List UInt8) := [[65], [97, 98, 99, 100, 101, 102, 103, 104, 105], [97, 32, 98], [255]]
theorem dBad_len (i : Nat) : (dBad.getD i []).length ≤ 9 := by
  match i with
  | 0 | 1 | 2 | 3 => decide
  | i + 4 => simp [dBad]
theorem pick0_b (i : Nat) : 0 ≤ [(0 : Int), 1, 540, 541][i]?.getD 0 ∧ [(0 : Int), 1, 540, 541][i]?.getD 0 ≤ 541 := by
  match i with
  | 0 | 1 | 2 | 3 => decide
  | i + 4 => simp
theorem B8.zeros (n : Nat) : B8 (List.replicate n 0) := fun x h => by rw [List.eq_of_mem_replicate h]; decide
theorem zeros8 (n : Nat) : List.replicate n (AV.val (.int .u8 0)) = (List.replicate n (0 : Int)).map (iv .u8) := by simp
theorem x33 (d : Nat) (b : List Int) (s : Nat × Int) (hb : b.length ≤ 2 ^ 39) : ∃ k nm v o s', evFun E (d+5) 33 [.ptr 0 [] 0] [curC b s] = some (askX k nm v 1 o, some (curC b s') :: askR k nm v o) ∧ nm.length ≤ 9 ∧ ∀ l, o = some l → B8 l ∧ l.length ≤ 541 := by
  obtain ⟨p0, p1⟩ := bel_b b (n := 4) (by decide) s
  have hn8 := dNames_len (bel b 6 (bel b 4 s).2).1.toNat
  have hpi : ∀ d s, evFun E (d+3) 75 [.ptr 0 [] 0, .sl .snap 1 3 none [vi 0, vi 5, vi 261]] [curC b s] = _ := fun d s => e75g d b s hb .snap none 3 [0, 5, 261] rfl (by decide)
  have hp2 : ∀ d s, evFun E (d+3) 75 [.ptr 0 [] 0, .sl .snap 1 3 none [vi (-1), vi 1000000, vi 1000001]] [curC b s] = _ := fun d s => e75g d b s hb .snap none 3 [-1, 1000000, 1000001] rfl (by decide)
  have hp3 : ∀ d s, evFun E (d+3) 75 [.ptr 0 [] 0, .sl .snap 1 4 none [vi 0, vi 1, vi 540, vi 541]] [curC b s] = _ := fun d s => e75g d b s hb .snap none 4 [0, 1, 540, 541] rfl (by decide)
  have hpn : ∀ d s, evFun E (d+3) 76 [.ptr 0 [] 0, .sl .snap 1 4 none [vs [65], vs [97, 98, 99, 100, 101, 102, 103, 104, 105], vs [97, 32, 98], vs [255]]] [curC b s] = _ := fun d s => e76 d b s hb .snap none 4 dBad rfl (by decide)
  by_cases hk : (bel b 4 s).1 = 0
  · obtain ⟨q0, q1⟩ := bel_b b (n := 9) (by decide) (bel b 300 (bel b 6 (bel b 4 s).2).2).2
    have hdl := ddS_len b (bel b 9 (bel b 300 (bel b 6 (bel b 4 s).2).2).2).2 (bel b 9 (bel b 300 (bel b 6 (bel b 4 s).2).2).2).1.toNat
    have hd8 := ddS_b8 b (bel b 9 (bel b 300 (bel b 6 (bel b 4 s).2).2).2).2 (bel b 9 (bel b 300 (bel b 6 (bel b 4 s).2).2).2).1.toNat
    generalize hT : ddS b (bel b 9 (bel b 300 (bel b 6 (bel b 4 s).2).2).2).2 (bel b 9 (bel b 300 (bel b 6 (bel b 4 s).2).2).2).1.toNat = T at hdl hd8
    obtain ⟨w0, w1⟩ := bel_b b (n := 30) (by decide) T.2
    have h7 : B8 (T.1 ++ [7]) ∧ (T.1 ++ [7]).length ≤ 541 := ⟨hd8.app (fun x h => by simp only [List.mem_singleton] at h; subst h; decide), by rw [List.length_append, hdl]; simp only [List.length_cons, List.length_nil]; omega⟩
    have c : (bel b 30 T.2).1 = 0 ∨ (bel b 30 T.2).1 = 1 ∨ (bel b 30 T.2).1 = 2 ∨ (bel b 30 T.2).1 = 3 ∨ 4 ≤ (bel b 30 T.2).1 := by omega
    rcases c with c | c | c | c | c
    · refine ⟨[0, 5, 261].getD (bel b 3 (bel b 30 T.2).2).1.toNat 0, dNames.getD (bel b 6 (bel b 4 s).2).1.toNat [], (bel b 300 (bel b 6 (bel b 4 s).2).2).1, some (T.1 ++ [7]), (bel b 3 (bel b 30 T.2).2).2, evFun_body b33 ?_, Nat.le_succ_of_le hn8, fun l h => by injection h with h; subst h; exact h7⟩
      (have fz := ga4 hT hdl hpi hpn; repeat' (first | simp (maxDischargeDepth := 8) only [go_sem, rr, reduceIte, reduceCtorEq, Nat.reduceEqDiff, Nat.reduceAdd, Nat.reduceMul, Nat.reduceSub, Nat.reduceBEq, Nat.reduceLeDiff, Int.reduceEq, Int.reduceLT, Int.reduceLE, Int.reduceGE, Int.reduceGT, Int.reduceBEq, Int.reduceBNe, Int.reduceToNat, Int.reduceNeg, Int.reduceSub, Int.reduceAdd, Int.reduceMul, fz, hp2, hp3, cur_own, cur_snap, capD_one, askX, askR, List.map_append, List.length_append, zeros_one, List.replicate_zero, List.map_nil, zeros8, List.length_replicate, Tryd.f33] | (with_reducible refine qg9 ?_ ?_; focus (first | (simp (maxDischargeDepth := 8) only [bb, kk, fz, hp2, hp3, cur_own, cur_snap, capD_one, askX, askR, List.map_append, List.length_append, zeros_one, List.replicate_zero, List.map_nil, zeros8, List.length_replicate]; done) | kernel_rfl)) | ((with_reducible first | refine qf7 ?_ ?_ | refine qf8 ?_ ?_ | refine qf9 ?_ ?_ | refine qg ?_ ?_ | refine qg0 ?_ ?_ | refine qg1 ?_ ?_ | refine qg2 ?_ ?_); focus (first | assumption | omega | (simp only [bz, fz, hp2, hp3, cur_own, cur_snap, capD_one, askX, askR, List.map_append, List.length_append, zeros_one, List.replicate_zero, List.map_nil, zeros8, List.length_replicate]; omega))) | ((with_reducible first | refine qg3 ?_ ?_ | refine qg4 ?_ ?_ | refine qg5 ?_ ?_); focus (first | assumption | omega | (simp only [bz, fz, hp2, hp3, cur_own, cur_snap, capD_one, askX, askR, List.map_append, List.length_append, zeros_one, List.replicate_zero, List.map_nil, zeros8, List.length_replicate]; omega))) | ((with_reducible first | refine g1_u8w ?_ ?_ | refine qg7 ?_ ?_); (focus ((repeat' (with_reducible apply And.intro)) <;> (first | assumption | omega | (simp only [bz, fz, hp2, hp3, cur_own, cur_snap, capD_one, askX, askR, List.map_append, List.length_append, zeros_one, List.replicate_zero, List.map_nil, zeros8, List.length_replicate]; omega) | (simp (maxDischargeDepth := 8) only [bb, fz, hp2, hp3, cur_own, cur_snap, capD_one, askX, askR, List.map_append, List.length_append, zeros_one, List.replicate_zero, List.map_nil, zeros8, List.length_replicate]; done)))); intro _) | (with_reducible apply call_elim; focus ((with_reducible first | apply e53 | apply e73 | apply e74) <;> (first | assumption | omega | (simp only [bz, fz, hp2, hp3, cur_own, cur_snap, capD_one, askX, askR, List.map_append, List.length_append, zeros_one, List.replicate_zero, List.map_nil, zeros8, List.length_replicate]; omega) | (simp (maxDischargeDepth := 8) only [bb, fz, hp2, hp3, cur_own, cur_snap, capD_one, askX, askR, List.map_append, List.length_append, zeros_one, List.replicate_zero, List.map_nil, zeros8, List.length_replicate]; done))))))
    · refine ⟨1 + (bel b 4 s).1, dBad.getD (bel b 4 (bel b 30 T.2).2).1.toNat [], (bel b 300 (bel b 6 (bel b 4 s).2).2).1, some (T.1 ++ [7]), (bel b 4 (bel b 30 T.2).2).2, evFun_body b33 ?_, dBad_len _, fun l h => by injection h with h; subst h; exact h7⟩
      (have fz := ga4 hT hdl hpi hpn; repeat' (first | simp (maxDischargeDepth := 8) only [go_sem, rr, reduceIte, reduceCtorEq, Nat.reduceEqDiff, Nat.reduceAdd, Nat.reduceMul, Nat.reduceSub, Nat.reduceBEq, Nat.reduceLeDiff, Int.reduceEq, Int.reduceLT, Int.reduceLE, Int.reduceGE, Int.reduceGT, Int.reduceBEq, Int.reduceBNe, Int.reduceToNat, Int.reduceNeg, Int.reduceSub, Int.reduceAdd, Int.reduceMul, fz, hp2, hp3, cur_own, cur_snap, capD_one, askX, askR, List.map_append, List.length_append, zeros_one, List.replicate_zero, List.map_nil, zeros8, List.length_replicate, Tryd.f33] | (with_reducible refine qg9 ?_ ?_; focus (first | (simp (maxDischargeDepth := 8) only [bb, kk, fz, hp2, hp3, cur_own, cur_snap, capD_one, askX, askR, List.map_append, List.length_append, zeros_one, List.replicate_zero, List.map_nil, zeros8, List.length_replicate]; done) | kernel_rfl)) | ((with_reducible first | refine qf7 ?_ ?_ | refine qf8 ?_ ?_ | refine qf9 ?_ ?_ | refine qg ?_ ?_ | refine qg0 ?_ ?_ | refine qg1 ?_ ?_ | refine qg2 ?_ ?_); focus (first | assumption | omega | (simp only [bz, fz, hp2, hp3, cur_own, cur_snap, capD_one, askX, askR, List.map_append, List.length_append, zeros_one, List.replicate_zero, List.map_nil, zeros8, List.length_replicate]; omega))) | ((with_reducible first | refine qg3 ?_ ?_ | refine qg4 ?_ ?_ | refine qg5 ?_ ?_); focus (first | assumption | omega | (simp only [bz, fz, hp2, hp3, cur_own, cur_snap, capD_one, askX, askR, List.map_append, List.length_append, zeros_one, List.replicate_zero, List.map_nil, zeros8, List.length_replicate]; omega))) | ((with_reducible first | refine g1_u8w ?_ ?_ | refine qg7 ?_ ?_); (focus ((repeat' (with_reducible apply And.intro)) <;> (first | assumption | omega | (simp only [bz, fz, hp2, hp3, cur_own, cur_snap, capD_one, askX, askR, List.map_append, List.length_append, zeros_one, List.replicate_zero, List.map_nil, zeros8, List.length_replicate]; omega) | (simp (maxDischargeDepth := 8) only [bb, fz, hp2, hp3, cur_own, cur_snap, capD_one, askX, askR, List.map_append, List.length_append, zeros_one, List.replicate_zero, List.map_nil, zeros8, List.length_replicate]; done)))); intro _) | (with_reducible apply call_elim; focus ((with_reducible first | apply e53 | apply e73 | apply e74) <;> (first | assumption | omega | (simp only [bz, fz, hp2, hp3, cur_own, cur_snap, capD_one, askX, askR, List.map_append, List.length_append, zeros_one, List.replicate_zero, List.map_nil, zeros8, List.length_replicate]; omega) | (simp (maxDischargeDepth := 8) only [bb, fz, hp2, hp3, cur_own, cur_snap, capD_one, askX, askR, List.map_append, List.length_append, zeros_one, List.replicate_zero, List.map_nil, zeros8, List.length_replicate]; done))))))
    · refine ⟨1 + (bel b 4 s).1, dNames.getD (bel b 6 (bel b 4 s).2).1.toNat [], [-1, 1000000, 1000001].getD (bel b 3 (bel b 30 T.2).2).1.toNat 0, some (T.1 ++ [7]), (bel b 3 (bel b 30 T.2).2).2, evFun_body b33 ?_, Nat.le_succ_of_le hn8, fun l h => by injection h with h; subst h; exact h7⟩
      (have fz := ga4 hT hdl hpi hpn; repeat' (first | simp (maxDischargeDepth := 8) only [go_sem, rr, reduceIte, reduceCtorEq, Nat.reduceEqDiff, Nat.reduceAdd, Nat.reduceMul, Nat.reduceSub, Nat.reduceBEq, Nat.reduceLeDiff, Int.reduceEq, Int.reduceLT, Int.reduceLE, Int.reduceGE, Int.reduceGT, Int.reduceBEq, Int.reduceBNe, Int.reduceToNat, Int.reduceNeg, Int.reduceSub, Int.reduceAdd, Int.reduceMul, fz, hp2, hp3, cur_own, cur_snap, capD_one, askX, askR, List.map_append, List.length_append, zeros_one, List.replicate_zero, List.map_nil, zeros8, List.length_replicate, Tryd.f33] | (with_reducible refine qg9 ?_ ?_; focus (first | (simp (maxDischargeDepth := 8) only [bb, kk, fz, hp2, hp3, cur_own, cur_snap, capD_one, askX, askR, List.map_append, List.length_append, zeros_one, List.replicate_zero, List.map_nil, zeros8, List.length_replicate]; done) | kernel_rfl)) | ((with_reducible first | refine qf7 ?_ ?_ | refine qf8 ?_ ?_ | refine qf9 ?_ ?_ | refine qg ?_ ?_ | refine qg0 ?_ ?_ | refine qg1 ?_ ?_ | refine qg2 ?_ ?_); focus (first | assumption | omega | (simp only [bz, fz, hp2, hp3, cur_own, cur_snap, capD_one, askX, askR, List.map_append, List.length_append, zeros_one, List.replicate_zero, List.map_nil, zeros8, List.length_replicate]; omega))) | ((with_reducible first | refine qg3 ?_ ?_ | refine qg4 ?_ ?_ | refine qg5 ?_ ?_); focus (first | assumption | omega | (simp only [bz, fz, hp2, hp3, cur_own, cur_snap, capD_one, askX, askR, List.map_append, List.length_append, zeros_one, List.replicate_zero, List.map_nil, zeros8, List.length_replicate]; omega))) | ((with_reducible first | refine g1_u8w ?_ ?_ | refine qg7 ?_ ?_); (focus ((repeat' (with_reducible apply And.intro)) <;> (first | assumption | omega | (simp only [bz, fz, hp2, hp3, cur_own, cur_snap, capD_one, askX, askR, List.map_append, List.length_append, zeros_one, List.replicate_zero, List.map_nil, zeros8, List.length_replicate]; omega) | (simp (maxDischargeDepth := 8) only [bb, fz, hp2, hp3, cur_own, cur_snap, capD_one, askX, askR, List.map_append, List.length_append, zeros_one, List.replicate_zero, List.map_nil, zeros8, List.length_replicate]; done)))); intro _) | (with_reducible apply call_elim; focus ((with_reducible first | apply e53 | apply e73 | apply e74) <;> (first | assumption | omega | (simp only [bz, fz, hp2, hp3, cur_own, cur_snap, capD_one, askX, askR, List.map_append, List.length_append, zeros_one, List.replicate_zero, List.map_nil, zeros8, List.length_replicate]; omega) | (simp (maxDischargeDepth := 8) only [bb, fz, hp2, hp3, cur_own, cur_snap, capD_one, askX, askR, List.map_append, List.length_append, zeros_one, List.replicate_zero, List.map_nil, zeros8, List.length_replicate]; done))))))
    · have z := pick0_b (bel b 4 (bel b 30 T.2).2).1.toNat
      refine ⟨1 + (bel b 4 s).1, dNames.getD (bel b 6 (bel b 4 s).2).1.toNat [], (bel b 300 (bel b 6 (bel b 4 s).2).2).1, some (List.replicate (([0, 1, 540, 541] : List Int)[(bel b 4 (bel b 30 T.2).2).1.toNat]?.getD 0).toNat 0), (bel b 4 (bel b 30 T.2).2).2, evFun_body b33 ?_, Nat.le_succ_of_le hn8, fun l h => by injection h with h; subst h; exact ⟨B8.zeros _, by rw [List.length_replicate]; omega⟩⟩
      (have fz := ga4 hT hdl hpi hpn; repeat' (first | simp (maxDischargeDepth := 8) only [go_sem, rr, reduceIte, reduceCtorEq, Nat.reduceEqDiff, Nat.reduceAdd, Nat.reduceMul, Nat.reduceSub, Nat.reduceBEq, Nat.reduceLeDiff, Int.reduceEq, Int.reduceLT, Int.reduceLE, Int.reduceGE, Int.reduceGT, Int.reduceBEq, Int.reduceBNe, Int.reduceToNat, Int.reduceNeg, Int.reduceSub, Int.reduceAdd, Int.reduceMul, fz, hp2, hp3, cur_own, cur_snap, capD_one, askX, askR, List.map_append, List.length_append, zeros_one, List.replicate_zero, List.map_nil, zeros8, List.length_replicate, Tryd.f33] | (with_reducible refine qg9 ?_ ?_; focus (first | (simp (maxDischargeDepth := 8) only [bb, kk, fz, hp2, hp3, cur_own, cur_snap, capD_one, askX, askR, List.map_append, List.length_append, zeros_one, List.replicate_zero, List.map_nil, zeros8, List.length_replicate]; done) | kernel_rfl)) | ((with_reducible first | refine qf7 ?_ ?_ | refine qf8 ?_ ?_ | refine qf9 ?_ ?_ | refine qg ?_ ?_ | refine qg0 ?_ ?_ | refine qg1 ?_ ?_ | refine qg2 ?_ ?_); focus (first | assumption | omega | (simp only [bz, fz, hp2, hp3, cur_own, cur_snap, capD_one, askX, askR, List.map_append, List.length_append, zeros_one, List.replicate_zero, List.map_nil, zeros8, List.length_replicate]; omega))) | ((with_reducible first | refine qg3 ?_ ?_ | refine qg4 ?_ ?_ | refine qg5 ?_ ?_); focus (first | assumption | omega | (simp only [bz, fz, hp2, hp3, cur_own, cur_snap, capD_one, askX, askR, List.map_append, List.length_append, zeros_one, List.replicate_zero, List.map_nil, zeros8, List.length_replicate]; omega))) | ((with_reducible first | refine g1_u8w ?_ ?_ | refine qg7 ?_ ?_); (focus ((repeat' (with_reducible apply And.intro)) <;> (first | assumption | omega | (simp only [bz, fz, hp2, hp3, cur_own, cur_snap, capD_one, askX, askR, List.map_append, List.length_append, zeros_one, List.replicate_zero, List.map_nil, zeros8, List.length_replicate]; omega) | (simp (maxDischargeDepth := 8) only [bb, fz, hp2, hp3, cur_own, cur_snap, capD_one, askX, askR, List.map_append, List.length_append, zeros_one, List.replicate_zero, List.map_nil, zeros8, List.length_replicate]; done)))); intro _) | (with_reducible apply call_elim; focus ((with_reducible first | apply e53 | apply e73 | apply e74) <;> (first | assumption | omega | (simp only [bz, fz, hp2, hp3, cur_own, cur_snap, capD_one, askX, askR, List.map_append, List.length_append, zeros_one, List.replicate_zero, List.map_nil, zeros8, List.length_replicate]; omega) | (simp (maxDischargeDepth := 8) only [bb, fz, hp2, hp3, cur_own, cur_snap, capD_one, askX, askR, List.map_append, List.length_append, zeros_one, List.replicate_zero, List.map_nil, zeros8, List.length_replicate]; done))))))
    · refine ⟨1 + (bel b 4 s).1, dNames.getD (bel b 6 (bel b 4 s).2).1.toNat [], (bel b 300 (bel b 6 (bel b 4 s).2).2).1, some (T.1 ++ [7]), (bel b 30 T.2).2, evFun_body b33 ?_, Nat.le_succ_of_le hn8, fun l h => by injection h with h; subst h; exact h7⟩
      (have fz := ga4 hT hdl hpi hpn; repeat' (first | simp (maxDischargeDepth := 8) only [go_sem, rr, reduceIte, reduceCtorEq, Nat.reduceEqDiff, Nat.reduceAdd, Nat.reduceMul, Nat.reduceSub, Nat.reduceBEq, Nat.reduceLeDiff, Int.reduceEq, Int.reduceLT, Int.reduceLE, Int.reduceGE, Int.reduceGT, Int.reduceBEq, Int.reduceBNe, Int.reduceToNat, Int.reduceNeg, Int.reduceSub, Int.reduceAdd, Int.reduceMul, fz, hp2, hp3, cur_own, cur_snap, capD_one, askX, askR, List.map_append, List.length_append, zeros_one, List.replicate_zero, List.map_nil, zeros8, List.length_replicate, Tryd.f33] | (with_reducible refine qg9 ?_ ?_; focus (first | (simp (maxDischargeDepth := 8) only [bb, kk, fz, hp2, hp3, cur_own, cur_snap, capD_one, askX, askR, List.map_append, List.length_append, zeros_one, List.replicate_zero, List.map_nil, zeros8, List.length_replicate]; done) | kernel_rfl)) | ((with_reducible first | refine qf7 ?_ ?_ | refine qf8 ?_ ?_ | refine qf9 ?_ ?_ | refine qg ?_ ?_ | refine qg0 ?_ ?_ | refine qg1 ?_ ?_ | refine qg2 ?_ ?_); focus (first | assumption | omega | (simp only [bz, fz, hp2, hp3, cur_own, cur_snap, capD_one, askX, askR, List.map_append, List.length_append, zeros_one, List.replicate_zero, List.map_nil, zeros8, List.length_replicate]; omega))) | ((with_reducible first | refine qg3 ?_ ?_ | refine qg4 ?_ ?_ | refine qg5 ?_ ?_); focus (first | assumption | omega | (simp only [bz, fz, hp2, hp3, cur_own, cur_snap, capD_one, askX, askR, List.map_append, List.length_append, zeros_one, List.replicate_zero, List.map_nil, zeros8, List.length_replicate]; omega))) | ((with_reducible first | refine g1_u8w ?_ ?_ | refine qg7 ?_ ?_); (focus ((repeat' (with_reducible apply And.intro)) <;> (first | assumption | omega | (simp only [bz, fz, hp2, hp3, cur_own, cur_snap, capD_one, askX, askR, List.map_append, List.length_append, zeros_one, List.replicate_zero, List.map_nil, zeros8, List.length_replicate]; omega) | (simp (maxDischargeDepth := 8) only [bb, fz, hp2, hp3, cur_own, cur_snap, capD_one, askX, askR, List.map_append, List.length_append, zeros_one, List.replicate_zero, List.map_nil, zeros8, List.length_replicate]; done)))); intro _) | (with_reducible apply call_elim; focus ((with_reducible first | apply e53 | apply e73 | apply e74) <;> (first | assumption | omega | (simp only [bz, fz, hp2, hp3, cur_own, cur_snap, capD_one, askX, askR, List.map_append, List.length_append, zeros_one, List.replicate_zero, List.map_nil, zeros8, List.length_replicate]; omega) | (simp (maxDischargeDepth := 8) only [bb, fz, hp2, hp3, cur_own, cur_snap, capD_one, askX, askR, List.map_append, List.length_append, zeros_one, List.replicate_zero, List.map_nil, zeros8, List.length_replicate]; done))))))
  · obtain ⟨w0, w1⟩ := bel_b b (n := 30) (by decide) (bel b 300 (bel b 6 (bel b 4 s).2).2).2
    have c : (bel b 30 (bel b 300 (bel b 6 (bel b 4 s).2).2).2).1 = 0 ∨ (bel b 30 (bel b 300 (bel b 6 (bel b 4 s).2).2).2).1 = 1 ∨ (bel b 30 (bel b 300 (bel b 6 (bel b 4 s).2).2).2).1 = 2 ∨ (bel b 30 (bel b 300 (bel b 6 (bel b 4 s).2).2).2).1 = 3 ∨ 4 ≤ (bel b 30 (bel b 300 (bel b 6 (bel b 4 s).2).2).2).1 := by omega
    rcases c with c | c | c | c | c
    · refine ⟨[0, 5, 261].getD (bel b 3 (bel b 30 (bel b 300 (bel b 6 (bel b 4 s).2).2).2).2).1.toNat 0, dNames.getD (bel b 6 (bel b 4 s).2).1.toNat [], (bel b 300 (bel b 6 (bel b 4 s).2).2).1, none, (bel b 3 (bel b 30 (bel b 300 (bel b 6 (bel b 4 s).2).2).2).2).2, evFun_body b33 ?_, Nat.le_succ_of_le hn8, fun l h => by cases h⟩
      (have fz := ga2 hpi hpn; repeat' (first | simp (maxDischargeDepth := 8) only [go_sem, rr, reduceIte, reduceCtorEq, Nat.reduceEqDiff, Nat.reduceAdd, Nat.reduceMul, Nat.reduceSub, Nat.reduceBEq, Nat.reduceLeDiff, Int.reduceEq, Int.reduceLT, Int.reduceLE, Int.reduceGE, Int.reduceGT, Int.reduceBEq, Int.reduceBNe, Int.reduceToNat, Int.reduceNeg, Int.reduceSub, Int.reduceAdd, Int.reduceMul, fz, hp2, hp3, cur_own, cur_snap, askX, askR, zeros_one, List.replicate_zero, List.map_nil, zeros8, List.length_replicate, Tryd.f33] | (with_reducible refine qg9 ?_ ?_; focus (first | (simp (maxDischargeDepth := 8) only [bb, kk, fz, hp2, hp3, cur_own, cur_snap, askX, askR, zeros_one, List.replicate_zero, List.map_nil, zeros8, List.length_replicate]; done) | kernel_rfl)) | ((with_reducible first | refine qf7 ?_ ?_ | refine qf8 ?_ ?_ | refine qf9 ?_ ?_ | refine qg ?_ ?_ | refine qg0 ?_ ?_ | refine qg1 ?_ ?_ | refine qg2 ?_ ?_); focus (first | assumption | omega | (simp only [bz, fz, hp2, hp3, cur_own, cur_snap, askX, askR, zeros_one, List.replicate_zero, List.map_nil, zeros8, List.length_replicate]; omega))) | ((with_reducible first | refine qg3 ?_ ?_ | refine qg4 ?_ ?_ | refine qg5 ?_ ?_); focus (first | assumption | omega | (simp only [bz, fz, hp2, hp3, cur_own, cur_snap, askX, askR, zeros_one, List.replicate_zero, List.map_nil, zeros8, List.length_replicate]; omega))) | ((with_reducible first | refine g1_u8w ?_ ?_ | refine qg7 ?_ ?_); (focus ((repeat' (with_reducible apply And.intro)) <;> (first | assumption | omega | (simp only [bz, fz, hp2, hp3, cur_own, cur_snap, askX, askR, zeros_one, List.replicate_zero, List.map_nil, zeros8, List.length_replicate]; omega) | (simp (maxDischargeDepth := 8) only [bb, fz, hp2, hp3, cur_own, cur_snap, askX, askR, zeros_one, List.replicate_zero, List.map_nil, zeros8, List.length_replicate]; done)))); intro _) | (with_reducible apply call_elim; focus ((with_reducible first | apply e53 | apply e73) <;> (first | assumption | omega | (simp only [bz, fz, hp2, hp3, cur_own, cur_snap, askX, askR, zeros_one, List.replicate_zero, List.map_nil, zeros8, List.length_replicate]; omega) | (simp (maxDischargeDepth := 8) only [bb, fz, hp2, hp3, cur_own, cur_snap, askX, askR, zeros_one, List.replicate_zero, List.map_nil, zeros8, List.length_replicate]; done))))))
    · refine ⟨1 + (bel b 4 s).1, dBad.getD (bel b 4 (bel b 30 (bel b 300 (bel b 6 (bel b 4 s).2).2).2).2).1.toNat [], (bel b 300 (bel b 6 (bel b 4 s).2).2).1, none, (bel b 4 (bel b 30 (bel b 300 (bel b 6 (bel b 4 s).2).2).2).2).2, evFun_body b33 ?_, dBad_len _, fun l h => by cases h⟩
      (have fz := ga2 hpi hpn; repeat' (first | simp (maxDischargeDepth := 8) only [go_sem, rr, reduceIte, reduceCtorEq, Nat.reduceEqDiff, Nat.reduceAdd, Nat.reduceMul, Nat.reduceSub, Nat.reduceBEq, Nat.reduceLeDiff, Int.reduceEq, Int.reduceLT, Int.reduceLE, Int.reduceGE, Int.reduceGT, Int.reduceBEq, Int.reduceBNe, Int.reduceToNat, Int.reduceNeg, Int.reduceSub, Int.reduceAdd, Int.reduceMul, fz, hp2, hp3, cur_own, cur_snap, askX, askR, zeros_one, List.replicate_zero, List.map_nil, zeros8, List.length_replicate, Tryd.f33] | (with_reducible refine qg9 ?_ ?_; focus (first | (simp (maxDischargeDepth := 8) only [bb, kk, fz, hp2, hp3, cur_own, cur_snap, askX, askR, zeros_one, List.replicate_zero, List.map_nil, zeros8, List.length_replicate]; done) | kernel_rfl)) | ((with_reducible first | refine qf7 ?_ ?_ | refine qf8 ?_ ?_ | refine qf9 ?_ ?_ | refine qg ?_ ?_ | refine qg0 ?_ ?_ | refine qg1 ?_ ?_ | refine qg2 ?_ ?_); focus (first | assumption | omega | (simp only [bz, fz, hp2, hp3, cur_own, cur_snap, askX, askR, zeros_one, List.replicate_zero, List.map_nil, zeros8, List.length_replicate]; omega))) | ((with_reducible first | refine qg3 ?_ ?_ | refine qg4 ?_ ?_ | refine qg5 ?_ ?_); focus (first | assumption | omega | (simp only [bz, fz, hp2, hp3, cur_own, cur_snap, askX, askR, zeros_one, List.replicate_zero, List.map_nil, zeros8, List.length_replicate]; omega))) | ((with_reducible first | refine g1_u8w ?_ ?_ | refine qg7 ?_ ?_); (focus ((repeat' (with_reducible apply And.intro)) <;> (first | assumption | omega | (simp only [bz, fz, hp2, hp3, cur_own, cur_snap, askX, askR, zeros_one, List.replicate_zero, List.map_nil, zeros8, List.length_replicate]; omega) | (simp (maxDischargeDepth := 8) only [bb, fz, hp2, hp3, cur_own, cur_snap, askX, askR, zeros_one, List.replicate_zero, List.map_nil, zeros8, List.length_replicate]; done)))); intro _) | (with_reducible apply call_elim; focus ((with_reducible first | apply e53 | apply e73) <;> (first | assumption | omega | (simp only [bz, fz, hp2, hp3, cur_own, cur_snap, askX, askR, zeros_one, List.replicate_zero, List.map_nil, zeros8, List.length_replicate]; omega) | (simp (maxDischargeDepth := 8) only [bb, fz, hp2, hp3, cur_own, cur_snap, askX, askR, zeros_one, List.replicate_zero, List.map_nil, zeros8, List.length_replicate]; done))))))
    · refine ⟨1 + (bel b 4 s).1, dNames.getD (bel b 6 (bel b 4 s).2).1.toNat [], [-1, 1000000, 1000001].getD (bel b 3 (bel b 30 (bel b 300 (bel b 6 (bel b 4 s).2).2).2).2).1.toNat 0, none, (bel b 3 (bel b 30 (bel b 300 (bel b 6 (bel b 4 s).2).2).2).2).2, evFun_body b33 ?_, Nat.le_succ_of_le hn8, fun l h => by cases h⟩
      (have fz := ga2 hpi hpn; repeat' (first | simp (maxDischargeDepth := 8) only [go_sem, rr, reduceIte, reduceCtorEq, Nat.reduceEqDiff, Nat.reduceAdd, Nat.reduceMul, Nat.reduceSub, Nat.reduceBEq, Nat.reduceLeDiff, Int.reduceEq, Int.reduceLT, Int.reduceLE, Int.reduceGE, Int.reduceGT, Int.reduceBEq, Int.reduceBNe, Int.reduceToNat, Int.reduceNeg, Int.reduceSub, Int.reduceAdd, Int.reduceMul, fz, hp2, hp3, cur_own, cur_snap, askX, askR, zeros_one, List.replicate_zero, List.map_nil, zeros8, List.length_replicate, Tryd.f33] | (with_reducible refine qg9 ?_ ?_; focus (first | (simp (maxDischargeDepth := 8) only [bb, kk, fz, hp2, hp3, cur_own, cur_snap, askX, askR, zeros_one, List.replicate_zero, List.map_nil, zeros8, List.length_replicate]; done) | kernel_rfl)) | ((with_reducible first | refine qf7 ?_ ?_ | refine qf8 ?_ ?_ | refine qf9 ?_ ?_ | refine qg ?_ ?_ | refine qg0 ?_ ?_ | refine qg1 ?_ ?_ | refine qg2 ?_ ?_); focus (first | assumption | omega | (simp only [bz, fz, hp2, hp3, cur_own, cur_snap, askX, askR, zeros_one, List.replicate_zero, List.map_nil, zeros8, List.length_replicate]; omega))) | ((with_reducible first | refine qg3 ?_ ?_ | refine qg4 ?_ ?_ | refine qg5 ?_ ?_); focus (first | assumption | omega | (simp only [bz, fz, hp2, hp3, cur_own, cur_snap, askX, askR, zeros_one, List.replicate_zero, List.map_nil, zeros8, List.length_replicate]; omega))) | ((with_reducible first | refine g1_u8w ?_ ?_ | refine qg7 ?_ ?_); (focus ((repeat' (with_reducible apply And.intro)) <;> (first | assumption | omega | (simp only [bz, fz, hp2, hp3, cur_own, cur_snap, askX, askR, zeros_one, List.replicate_zero, List.map_nil, zeros8, List.length_replicate]; omega) | (simp (maxDischargeDepth := 8) only [bb, fz, hp2, hp3, cur_own, cur_snap, askX, askR, zeros_one, List.replicate_zero, List.map_nil, zeros8, List.length_replicate]; done)))); intro _) | (with_reducible apply call_elim; focus ((with_reducible first | apply e53 | apply e73) <;> (first | assumption | omega | (simp only [bz, fz, hp2, hp3, cur_own, cur_snap, askX, askR, zeros_one, List.replicate_zero, List.map_nil, zeros8, List.length_replicate]; omega) | (simp (maxDischargeDepth := 8) only [bb, fz, hp2, hp3, cur_own, cur_snap, askX, askR, zeros_one, List.replicate_zero, List.map_nil, zeros8, List.length_replicate]; done))))))
    · have z := pick0_b (bel b 4 (bel b 30 (bel b 300 (bel b 6 (bel b 4 s).2).2).2).2).1.toNat
      refine ⟨1 + (bel b 4 s).1, dNames.getD (bel b 6 (bel b 4 s).2).1.toNat [], (bel b 300 (bel b 6 (bel b 4 s).2).2).1, some (List.replicate (([0, 1, 540, 541] : List Int)[(bel b 4 (bel b 30 (bel b 300 (bel b 6 (bel b 4 s).2).2).2).2).1.toNat]?.getD 0).toNat 0), (bel b 4 (bel b 30 (bel b 300 (bel b 6 (bel b 4 s).2).2).2).2).2, evFun_body b33 ?_, Nat.le_succ_of_le hn8, fun l h => by injection h with h; subst h; exact ⟨B8.zeros _, by rw [List.length_replicate]; omega⟩⟩
      (have fz := ga2 hpi hpn; repeat' (first | simp (maxDischargeDepth := 8) only [go_sem, rr, reduceIte, reduceCtorEq, Nat.reduceEqDiff, Nat.reduceAdd, Nat.reduceMul, Nat.reduceSub, Nat.reduceBEq, Nat.reduceLeDiff, Int.reduceEq, Int.reduceLT, Int.reduceLE, Int.reduceGE, Int.reduceGT, Int.reduceBEq, Int.reduceBNe, Int.reduceToNat, Int.reduceNeg, Int.reduceSub, Int.reduceAdd, Int.reduceMul, fz, hp2, hp3, cur_own, cur_snap, askX, askR, zeros_one, List.replicate_zero, List.map_nil, zeros8, List.length_replicate, Tryd.f33] | (with_reducible refine qg9 ?_ ?_; focus (first | (simp (maxDischargeDepth := 8) only [bb, kk, fz, hp2, hp3, cur_own, cur_snap, askX, askR, zeros_one, List.replicate_zero, List.map_nil, zeros8, List.length_replicate]; done) | kernel_rfl)) | ((with_reducible first | refine qf7 ?_ ?_ | refine qf8 ?_ ?_ | refine qf9 ?_ ?_ | refine qg ?_ ?_ | refine qg0 ?_ ?_ | refine qg1 ?_ ?_ | refine qg2 ?_ ?_); focus (first | assumption | omega | (simp only [bz, fz, hp2, hp3, cur_own, cur_snap, askX, askR, zeros_one, List.replicate_zero, List.map_nil, zeros8, List.length_replicate]; omega))) | ((with_reducible first | refine qg3 ?_ ?_ | refine qg4 ?_ ?_ | refine qg5 ?_ ?_); focus (first | assumption | omega | (simp only [bz, fz, hp2, hp3, cur_own, cur_snap, askX, askR, zeros_one, List.replicate_zero, List.map_nil, zeros8, List.length_replicate]; omega))) | ((with_reducible first | refine g1_u8w ?_ ?_ | refine qg7 ?_ ?_); (focus ((repeat' (with_reducible apply And.intro)) <;> (first | assumption | omega | (simp only [bz, fz, hp2, hp3, cur_own, cur_snap, askX, askR, zeros_one, List.replicate_zero, List.map_nil, zeros8, List.length_replicate]; omega) | (simp (maxDischargeDepth := 8) only [bb, fz, hp2, hp3, cur_own, cur_snap, askX, askR, zeros_one, List.replicate_zero, List.map_nil, zeros8, List.length_replicate]; done)))); intro _) | (with_reducible apply call_elim; focus ((with_reducible first | apply e53 | apply e73) <;> (first | assumption | omega | (simp only [bz, fz, hp2, hp3, cur_own, cur_snap, askX, askR, zeros_one, List.replicate_zero, List.map_nil, zeros8, List.length_replicate]; omega) | (simp (maxDischargeDepth := 8) only [bb, fz, hp2, hp3, cur_own, cur_snap, askX, askR, zeros_one, List.replicate_zero, List.map_nil, zeros8, List.length_replicate]; done))))))
    · refine ⟨1 + (bel b 4 s).1, dNames.getD (bel b 6 (bel b 4 s).2).1.toNat [], (bel b 300 (bel b 6 (bel b 4 s).2).2).1, none, (bel b 30 (bel b 300 (bel b 6 (bel b 4 s).2).2).2).2, evFun_body b33 ?_, Nat.le_succ_of_le hn8, fun l h => by cases h⟩
      (have fz := ga2 hpi hpn; repeat' (first | simp (maxDischargeDepth := 8) only [go_sem, rr, reduceIte, reduceCtorEq, Nat.reduceEqDiff, Nat.reduceAdd, Nat.reduceMul, Nat.reduceSub, Nat.reduceBEq, Nat.reduceLeDiff, Int.reduceEq, Int.reduceLT, Int.reduceLE, Int.reduceGE, Int.reduceGT, Int.reduceBEq, Int.reduceBNe, Int.reduceToNat, Int.reduceNeg, Int.reduceSub, Int.reduceAdd, Int.reduceMul, fz, hp2, hp3, cur_own, cur_snap, askX, askR, zeros_one, List.replicate_zero, List.map_nil, zeros8, List.length_replicate, Tryd.f33] | (with_reducible refine qg9 ?_ ?_; focus (first | (simp (maxDischargeDepth := 8) only [bb, kk, fz, hp2, hp3, cur_own, cur_snap, askX, askR, zeros_one, List.replicate_zero, List.map_nil, zeros8, List.length_replicate]; done) | kernel_rfl)) | ((with_reducible first | refine qf7 ?_ ?_ | refine qf8 ?_ ?_ | refine qf9 ?_ ?_ | refine qg ?_ ?_ | refine qg0 ?_ ?_ | refine qg1 ?_ ?_ | refine qg2 ?_ ?_); focus (first | assumption | omega | (simp only [bz, fz, hp2, hp3, cur_own, cur_snap, askX, askR, zeros_one, List.replicate_zero, List.map_nil, zeros8, List.length_replicate]; omega))) | ((with_reducible first | refine qg3 ?_ ?_ | refine qg4 ?_ ?_ | refine qg5 ?_ ?_); focus (first | assumption | omega | (simp only [bz, fz, hp2, hp3, cur_own, cur_snap, askX, askR, zeros_one, List.replicate_zero, List.map_nil, zeros8, List.length_replicate]; omega))) | ((with_reducible first | refine g1_u8w ?_ ?_ | refine qg7 ?_ ?_); (focus ((repeat' (with_reducible apply And.intro)) <;> (first | assumption | omega | (simp only [bz, fz, hp2, hp3, cur_own, cur_snap, askX, askR, zeros_one, List.replicate_zero, List.map_nil, zeros8, List.length_replicate]; omega) | (simp (maxDischargeDepth := 8) only [bb, fz, hp2, hp3, cur_own, cur_snap, askX, askR, zeros_one, List.replicate_zero, List.map_nil, zeros8, List.length_replicate]; done)))); intro _) | (with_reducible apply call_elim; focus ((with_reducible first | apply e53 | apply e73) <;> (first | assumption | omega | (simp only [bz, fz, hp2, hp3, cur_own, cur_snap, askX, askR, zeros_one, List.replicate_zero, List.map_nil, zeros8, List.length_replicate]; omega) | (simp (maxDischargeDepth := 8) only [bb, fz, hp2, hp3, cur_own, cur_snap, askX, askR, zeros_one, List.replicate_zero, List.map_nil, zeros8, List.length_replicate]; done))))))
theorem x7 (d : Nat) (b : List Int) (hb : b.length ≤ 2 ^ 39) : ∃ k nm v o, evFun E (d+6) 7 [.sl .fgn 1 b.length none (b.map (iv .u8))] [] = some (askX k nm v 0 o, askR k nm v o) ∧ nm.length ≤ 9 ∧ ∀ l, o = some l → B8 l ∧ l.length ≤ 541 := by
  obtain ⟨k, nm, v, o, s', h, h1, h2⟩ := x33 d b (0, newH b (newN b)) hb
  refine ⟨k, nm, v, o, evFun_body b7 ?_, h1, h2⟩
  cases o with
  | none =>
    simp only [askX, askR] at h
    (repeat' (first | simp (maxDischargeDepth := 8) only [go_sem, rr, reduceIte, reduceCtorEq, Nat.reduceEqDiff, Nat.reduceAdd, Nat.reduceMul, Nat.reduceSub, Nat.reduceBEq, Nat.reduceLeDiff, Int.reduceEq, Int.reduceLT, Int.reduceLE, Int.reduceGE, Int.reduceGT, Int.reduceBEq, Int.reduceBNe, Int.reduceToNat, Int.reduceNeg, Int.reduceSub, Int.reduceAdd, Int.reduceMul, h, askX, askR, cur_own, cur_snap, Tryd.f7] | (with_reducible refine qg9 ?_ ?_; focus (first | (simp (maxDischargeDepth := 8) only [bb, kk, h, askX, askR, cur_own, cur_snap]; done) | kernel_rfl)) | ((with_reducible first | refine qf7 ?_ ?_ | refine qf8 ?_ ?_ | refine qf9 ?_ ?_ | refine qg ?_ ?_ | refine qg0 ?_ ?_ | refine qg1 ?_ ?_ | refine qg2 ?_ ?_); focus (first | assumption | omega | (simp only [bz, h, askX, askR, cur_own, cur_snap]; omega))) | ((with_reducible first | refine qg3 ?_ ?_ | refine qg4 ?_ ?_ | refine qg5 ?_ ?_); focus (first | assumption | omega | (simp only [bz, h, askX, askR, cur_own, cur_snap]; omega))) | ((with_reducible first | refine g1_u8w ?_ ?_ | refine qg7 ?_ ?_); (focus ((repeat' (with_reducible apply And.intro)) <;> (first | assumption | omega | (simp only [bz, h, askX, askR, cur_own, cur_snap]; omega) | (simp (maxDischargeDepth := 8) only [bb, h, askX, askR, cur_own, cur_snap]; done)))); intro _) | (with_reducible apply call_elim; focus ((with_reducible first | apply e34) <;> (first | assumption | omega | (simp only [bz, h, askX, askR, cur_own, cur_snap]; omega) | (simp (maxDischargeDepth := 8) only [bb, h, askX, askR, cur_own, cur_snap]; done))))))
  | some l =>
    simp only [askX, askR] at h
    have h3 := anyOwn_iv .u8 l
    (repeat' (first | simp (maxDischargeDepth := 8) only [go_sem, rr, reduceIte, reduceCtorEq, Nat.reduceEqDiff, Nat.reduceAdd, Nat.reduceMul, Nat.reduceSub, Nat.reduceBEq, Nat.reduceLeDiff, Int.reduceEq, Int.reduceLT, Int.reduceLE, Int.reduceGE, Int.reduceGT, Int.reduceBEq, Int.reduceBNe, Int.reduceToNat, Int.reduceNeg, Int.reduceSub, Int.reduceAdd, Int.reduceMul, h, askX, askR, cur_own, cur_snap, Tryd.f7] | (with_reducible refine qg9 ?_ ?_; focus (first | (simp (maxDischargeDepth := 8) only [bb, kk, h, askX, askR, cur_own, cur_snap]; done) | kernel_rfl)) | ((with_reducible first | refine qf7 ?_ ?_ | refine qf8 ?_ ?_ | refine qf9 ?_ ?_ | refine qg ?_ ?_ | refine qg0 ?_ ?_ | refine qg1 ?_ ?_ | refine qg2 ?_ ?_); focus (first | assumption | omega | (simp only [bz, h, askX, askR, cur_own, cur_snap]; omega))) | ((with_reducible first | refine qg3 ?_ ?_ | refine qg4 ?_ ?_ | refine qg5 ?_ ?_); focus (first | assumption | omega | (simp only [bz, h, askX, askR, cur_own, cur_snap]; omega))) | ((with_reducible first | refine g1_u8w ?_ ?_ | refine qg7 ?_ ?_); (focus ((repeat' (with_reducible apply And.intro)) <;> (first | assumption | omega | (simp only [bz, h, askX, askR, cur_own, cur_snap]; omega) | (simp (maxDischargeDepth := 8) only [bb, h, askX, askR, cur_own, cur_snap]; done)))); intro _) | (with_reducible apply call_elim; focus ((with_reducible first | apply e34) <;> (first | assumption | omega | (simp only [bz, h, askX, askR, cur_own, cur_snap]; omega) | (simp (maxDischargeDepth := 8) only [bb, h, askX, askR, cur_own, cur_snap]; done))))))
end Go.Proofs.YtgdldmfkgijkaaaDoor.VH.S
end

section
namespace Go.Proofs.YtgdldmfkgijkaaaDoor.VH.S
open Go.Proofs
set_option maxRecDepth 100000
set_option maxHeartbeats 8000000
set_option linter.unusedSimpArgs false

/- Drawn says. -/
def slX (key i : Nat) : Option (List Int) → AV
  | none => .val (.slice none 0 0)
  | some l => .ref key [i] 1 0 l.length none
def slC (k : IntKind) : Option (List Int) → AV
  | none => .val (.slice none 0 0)
  | some l => .sl .own 1 l.length none (l.map (iv k))
def sayX (k v : Int) (S : Option (List Int)) (m a : Int) (P : Option (List Int)) (key : Nat) : AV := .agg [vi k, vi v, slX key 2 S, vi m, vi a, slX key 5 P]
def sayC (k v : Int) (S : Option (List Int)) (m a : Int) (P : Option (List Int)) : List AV := [vi k, vi v, slC .u8 S, vi m, vi a, slC .i64 P]
def sayR (k v : Int) (S : Option (List Int)) (m a : Int) (P : Option (List Int)) : List (Option (List AV)) := match S with
  | none => []
  | some _ => [some (sayC k v S m a P)]
def dpS (b : List Int) (s : Nat × Int) : Nat → List Int × (Nat × Int)
  | 0 => ([], s)
  | i + 1 => ((dpS b s i).1 ++ [(bel b 60000 (dpS b s i).2).1 * (bel b 60000 (bel b 60000 (dpS b s i).2).2).1], (bel b 60000 (bel b 60000 (dpS b s i).2).2).2)
theorem dpS_len (b : List Int) (s : Nat × Int) : ∀ i, (dpS b s i).1.length = i
  | 0 => rfl
  | i + 1 => by simp [dpS, dpS_len b s i]
def paE (l : List Int) (i : Nat) : AV := if i = 0 then .val (.slice none 0 0) else .sl .own 1 i none (l.map (iv .i64))
theorem paE_zero (l : List Int) : paE l 0 = .val (.slice none 0 0) := rfl
theorem paE_succ (l : List Int) (i : Nat) : paE l (i + 1) = .sl .own 1 (i + 1) none (l.map (iv .i64)) := rfl
structure DSay where
  k : Int
  v : Int
  S : Option (List Int)
  m : Int
  a : Int
  P : Option (List Int)
  s : Nat × Int
def nvL : List Int := [-1, 1000000, 1000001]
def nmL : List Int := [0, 8, 9]
def npL : List Int := [-1, 1152921504606846975, 1152921504606846976, 0]
def nsL : List Int := [0, 200, 201]
theorem nsL_b (i : Nat) : 0 ≤ nsL[i]?.getD 0 ∧ nsL[i]?.getD 0 ≤ 201 := by
  match i with
  | 0 | 1 | 2 => decide
  | i + 3 => simp [nsL]
def qP (P : List Int) : Option (List Int) := if P = [] then none else some P
def dSayE (b : List Int) (v : Int) (S : List Int) (m a : Int) (P : List Int) (sw : Int × (Nat × Int)) : DSay :=
  if sw.1 < 3 then ⟨(bel b 5 sw.2).1, 0, none, 0, 0, none, (bel b 5 sw.2).2⟩
  else if sw.1 = 3 then ⟨2, nvL[(bel b 3 sw.2).1.toNat]?.getD 0, some S, m, a, qP P, (bel b 3 sw.2).2⟩
  else if sw.1 = 4 then ⟨2, v, some S, nmL[(bel b 3 sw.2).1.toNat]?.getD 0, a, qP P, (bel b 3 sw.2).2⟩
  else if sw.1 = 5 then ⟨2, v, some S, m, a, some (P ++ [npL[(bel b 4 sw.2).1.toNat]?.getD 0]), (bel b 4 sw.2).2⟩
  else if sw.1 = 6 then ⟨2, v, some S, m, a, some (List.replicate (4 + (bel b 2 sw.2).1).toNat 0), (bel b 2 sw.2).2⟩
  else if sw.1 = 7 then ⟨2, v, some (List.replicate (nsL[(bel b 3 sw.2).1.toNat]?.getD 0).toNat 0), m, a, qP P, (bel b 3 sw.2).2⟩
  else ⟨2, v, some S, m, a, qP P, sw.2⟩
def dSayB (b : List Int) (s : Nat × Int) : DSay :=
  let D := bel b 6 (bel b 300 s).2
  let T := ddS b D.2 D.1.toNat
  let N := bel b 4 (bel b (1 + (bel b 6 T.2).1) (bel b 6 T.2).2).2
  let p := dpS b N.2 N.1.toNat
  dSayE b (bel b 300 s).1 (T.1 ++ [1]) (1 + (bel b 6 T.2).1) (bel b (1 + (bel b 6 T.2).1) (bel b 6 T.2).2).1 p.1 (bel b 20 p.2)
def DSay.X (x : DSay) (key : Nat) : AV := sayX x.k x.v x.S x.m x.a x.P key
def DSay.R (x : DSay) : List (Option (List AV)) := sayR x.k x.v x.S x.m x.a x.P
theorem zeros64 (n : Nat) : List.replicate n (AV.val (.int .i64 0)) = (List.replicate n (0 : Int)).map (iv .i64) := by simp
theorem e43 (d : Nat) (b : List Int) (s : Nat × Int) (hb : b.length ≤ 2 ^ 39) : evFun E (d+5) 43 [.ptr 0 [] 0] [curC b s] = some ((dSayB b s).X 1, some (curC b (dSayB b s).s) :: (dSayB b s).R) := by
  unfold dSayB
  obtain ⟨q0, q1⟩ := bel_b b (n := 6) (by decide) (bel b 300 s).2
  have hdl := ddS_len b (bel b 6 (bel b 300 s).2).2 (bel b 6 (bel b 300 s).2).1.toNat
  simp only []
  generalize hT : ddS b (bel b 6 (bel b 300 s).2).2 (bel b 6 (bel b 300 s).2).1.toNat = T at hdl ⊢
  obtain ⟨m0, m1⟩ := bel_b b (n := 6) (by decide) T.2
  obtain ⟨a0, a1⟩ := bel_b b (n := 1 + (bel b 6 T.2).1) (by omega) (bel b 6 T.2).2
  obtain ⟨n0, n1⟩ := bel_b b (n := 4) (by decide) (bel b (1 + (bel b 6 T.2).1) (bel b 6 T.2).2).2
  generalize hN : bel b 4 (bel b (1 + (bel b 6 T.2).1) (bel b 6 T.2).2).2 = N at n0 n1 ⊢
  refine evFun_body b43 ?_
  (have fz := ga3 hT hN hdl; repeat' (first | simp (maxDischargeDepth := 8) only [go_sem, rr, reduceIte, reduceCtorEq, Nat.reduceEqDiff, Nat.reduceAdd, Nat.reduceMul, Nat.reduceSub, Nat.reduceBEq, Nat.reduceLeDiff, Int.reduceEq, Int.reduceLT, Int.reduceLE, Int.reduceGE, Int.reduceGT, Int.reduceBEq, Int.reduceBNe, Int.reduceToNat, Int.reduceNeg, Int.reduceSub, Int.reduceAdd, Int.reduceMul, fz, cur_own, cur_snap, capD_one, List.map_append, List.length_append, Tryd.f43] | (with_reducible refine qg9 ?_ ?_; focus (first | (simp (maxDischargeDepth := 8) only [bb, kk, fz, cur_own, cur_snap, capD_one, List.map_append, List.length_append]; done) | kernel_rfl)) | ((with_reducible first | refine qf7 ?_ ?_ | refine qf8 ?_ ?_ | refine qf9 ?_ ?_ | refine qg ?_ ?_ | refine qg0 ?_ ?_ | refine qg1 ?_ ?_ | refine qg2 ?_ ?_); focus (first | assumption | omega | (simp only [bz, fz, cur_own, cur_snap, capD_one, List.map_append, List.length_append]; omega))) | ((with_reducible first | refine qg3 ?_ ?_ | refine qg4 ?_ ?_ | refine qg5 ?_ ?_); focus (first | assumption | omega | (simp only [bz, fz, cur_own, cur_snap, capD_one, List.map_append, List.length_append]; omega))) | ((with_reducible first | refine g1_u8w ?_ ?_ | refine qg7 ?_ ?_); (focus ((repeat' (with_reducible apply And.intro)) <;> (first | assumption | omega | (simp only [bz, fz, cur_own, cur_snap, capD_one, List.map_append, List.length_append]; omega) | (simp (maxDischargeDepth := 8) only [bb, fz, cur_own, cur_snap, capD_one, List.map_append, List.length_append]; done)))); intro _) | ((with_reducible refine g1_64w ?_ ?_); (focus ((repeat' (with_reducible apply And.intro)) <;> (first | assumption | omega | (simp only [bz, fz, cur_own, cur_snap, capD_one, List.map_append, List.length_append]; omega) | (simp (maxDischargeDepth := 8) only [bb, fz, cur_own, cur_snap, capD_one, List.map_append, List.length_append]; done)))); intro _) | (with_reducible apply call_elim; focus ((with_reducible first | apply e53 | apply e74) <;> (first | assumption | omega | (simp only [bz, fz, cur_own, cur_snap, capD_one, List.map_append, List.length_append]; omega) | (simp (maxDischargeDepth := 8) only [bb, fz, cur_own, cur_snap, capD_one, List.map_append, List.length_append]; done))))))
  refine loop_go (fun i => {T := tp [(0, .ptr 0 [] 0), (2, .ptr 1 [] 0), (3, .ptr 2 [] 0), (4, vi (N.1 - i))], H := hp [some (curC b (dpS b N.2 i).2), some [vi 0, vi 0, .val (.slice none 0 0), vi 0, vi 0, .val (.slice none 0 0)], some [vi 2, vi (bel b 300 s).1, .sl .own 1 ((bel b 6 (bel b 300 s).2).1.toNat + 1) none ((T.1 ++ [1]).map (iv .u8)), vi (1 + (bel b 6 T.2).1), vi (bel b (1 + (bel b 6 T.2).1) (bel b 6 T.2).2).1, paE (dpS b N.2 i).1 i]], nx := 3}) N.1.toNat ?_ (lt_LF (by omega)) (fun i hi Kn hK => ?_) (fun Kn => ?_)
  · simp only [vv, ff, norm, Array.toList, List.map, Option.isSome_none, bne_self_eq_false, reduceIte, reduceCtorEq, Nat.reduceEqDiff, Nat.reduceAdd, Nat.reduceMul, Nat.reduceSub, Nat.reduceBEq, Nat.reduceLeDiff, Int.reduceEq, Int.reduceLT, Int.reduceLE, Int.reduceGE, Int.reduceGT, Int.reduceBEq, Int.reduceBNe, Int.reduceToNat, Int.reduceNeg, Int.reduceSub, Int.reduceAdd, Int.reduceMul, finish, qf0, resOf, resa, qf1, qf2, qf3, keep, qf4, qf5, qf6, qe9, qf, qc2, Int.natCast_zero, Int.sub_zero, dpS, paE_zero, List.map_append]
  · have hl := dpS_len b N.2 i
    obtain ⟨x0, x1⟩ := bel_b b (n := 60000) (by decide) (dpS b N.2 i).2
    obtain ⟨y0, y1⟩ := bel_b b (n := 60000) (by decide) (bel b 60000 (dpS b N.2 i).2).2
    have hxy : 0 ≤ (bel b 60000 (dpS b N.2 i).2).1 * (bel b 60000 (bel b 60000 (dpS b N.2 i).2).2).1 ∧ (bel b 60000 (dpS b N.2 i).2).1 * (bel b 60000 (bel b 60000 (dpS b N.2 i).2).2).1 ≤ 3600000000 := ⟨Int.mul_nonneg x0 y0, Int.le_trans (Int.mul_le_mul (by omega : _ ≤ (60000 : Int)) (by omega : _ ≤ (60000 : Int)) y0 (by decide)) (by decide)⟩
    generalize hX1 : bel b 60000 (dpS b N.2 i).2 = X1 at x0 x1 y0 y1 hxy
    generalize hX2 : bel b 60000 X1.2 = X2 at y0 y1 hxy
    have hd : dpS b N.2 (i + 1) = ((dpS b N.2 i).1 ++ [X1.1 * X2.1], X2.2) := by rw [dpS, hX1, hX2]
    rcases Nat.eq_zero_or_pos i with h0 | h0
    · subst h0
      have hl0 : (dpS b N.2 0).1 = [] := rfl
      (have fz := ga3 hX1 hX2 hl; repeat' (first | simp (maxDischargeDepth := 8) only [go_sem, rr, reduceIte, reduceCtorEq, Nat.reduceEqDiff, Nat.reduceAdd, Nat.reduceMul, Nat.reduceSub, Nat.reduceBEq, Nat.reduceLeDiff, Int.reduceEq, Int.reduceLT, Int.reduceLE, Int.reduceGE, Int.reduceGT, Int.reduceBEq, Int.reduceBNe, Int.reduceToNat, Int.reduceNeg, Int.reduceSub, Int.reduceAdd, Int.reduceMul, fz, paE_zero, cur_own] | (with_reducible refine qg9 ?_ ?_; focus (first | (simp (maxDischargeDepth := 8) only [bb, kk, fz, paE_zero, cur_own]; done) | kernel_rfl)) | ((with_reducible first | refine qf7 ?_ ?_ | refine qf8 ?_ ?_ | refine qf9 ?_ ?_ | refine qg ?_ ?_ | refine qg0 ?_ ?_ | refine qg1 ?_ ?_ | refine qg2 ?_ ?_); focus (first | assumption | omega | (simp only [bz, fz, paE_zero, cur_own]; omega))) | ((with_reducible first | refine qg3 ?_ ?_ | refine qg4 ?_ ?_ | refine qg5 ?_ ?_); focus (first | assumption | omega | (simp only [bz, fz, paE_zero, cur_own]; omega))) | ((with_reducible first | refine g1_u8w ?_ ?_ | refine qg7 ?_ ?_); (focus ((repeat' (with_reducible apply And.intro)) <;> (first | assumption | omega | (simp only [bz, fz, paE_zero, cur_own]; omega) | (simp (maxDischargeDepth := 8) only [bb, fz, paE_zero, cur_own]; done)))); intro _) | ((with_reducible refine g1_64w ?_ ?_); (focus ((repeat' (with_reducible apply And.intro)) <;> (first | assumption | omega | (simp only [bz, fz, paE_zero, cur_own]; omega) | (simp (maxDischargeDepth := 8) only [bb, fz, paE_zero, cur_own]; done)))); intro _) | (with_reducible apply call_elim; focus ((with_reducible first | apply e53) <;> (first | assumption | omega | (simp only [bz, fz, paE_zero, cur_own]; omega) | (simp (maxDischargeDepth := 8) only [bb, fz, paE_zero, cur_own]; done))))))
      refine hK _ ?_
      simp only [vv, ff, norm, Array.toList, List.map, Option.isSome_none, bne_self_eq_false, reduceIte, reduceCtorEq, Nat.reduceEqDiff, Nat.reduceAdd, Nat.reduceMul, Nat.reduceSub, Nat.reduceBEq, Nat.reduceLeDiff, Int.reduceEq, Int.reduceLT, Int.reduceLE, Int.reduceGE, Int.reduceGT, Int.reduceBEq, Int.reduceBNe, Int.reduceToNat, Int.reduceNeg, Int.reduceSub, Int.reduceAdd, Int.reduceMul, finish, qf0, resOf, resa, qf1, qf2, qf3, keep, qf4, qf5, qf6, qe9, qf, qc2, Int.natCast_add, cst1, paE_succ, hd, hl0, List.map_append, List.nil_append, Int.sub_sub]
    · obtain ⟨j, rfl⟩ : ∃ j, i = j + 1 := ⟨i - 1, by omega⟩
      have ho := anyOwn_iv .i64 (dpS b N.2 (j + 1)).1
      (have fz := ga4 hX1 hX2 hl ho; repeat' (first | simp (maxDischargeDepth := 8) only [go_sem, rr, reduceIte, reduceCtorEq, Nat.reduceEqDiff, Nat.reduceAdd, Nat.reduceMul, Nat.reduceSub, Nat.reduceBEq, Nat.reduceLeDiff, Int.reduceEq, Int.reduceLT, Int.reduceLE, Int.reduceGE, Int.reduceGT, Int.reduceBEq, Int.reduceBNe, Int.reduceToNat, Int.reduceNeg, Int.reduceSub, Int.reduceAdd, Int.reduceMul, fz, paE_succ, cur_own] | (with_reducible refine qg9 ?_ ?_; focus (first | (simp (maxDischargeDepth := 8) only [bb, kk, fz, paE_succ, cur_own]; done) | kernel_rfl)) | ((with_reducible first | refine qf7 ?_ ?_ | refine qf8 ?_ ?_ | refine qf9 ?_ ?_ | refine qg ?_ ?_ | refine qg0 ?_ ?_ | refine qg1 ?_ ?_ | refine qg2 ?_ ?_); focus (first | assumption | omega | (simp only [bz, fz, paE_succ, cur_own]; omega))) | ((with_reducible first | refine qg3 ?_ ?_ | refine qg4 ?_ ?_ | refine qg5 ?_ ?_); focus (first | assumption | omega | (simp only [bz, fz, paE_succ, cur_own]; omega))) | ((with_reducible first | refine g1_u8w ?_ ?_ | refine qg7 ?_ ?_); (focus ((repeat' (with_reducible apply And.intro)) <;> (first | assumption | omega | (simp only [bz, fz, paE_succ, cur_own]; omega) | (simp (maxDischargeDepth := 8) only [bb, fz, paE_succ, cur_own]; done)))); intro _) | ((with_reducible refine g1_64w ?_ ?_); (focus ((repeat' (with_reducible apply And.intro)) <;> (first | assumption | omega | (simp only [bz, fz, paE_succ, cur_own]; omega) | (simp (maxDischargeDepth := 8) only [bb, fz, paE_succ, cur_own]; done)))); intro _) | (with_reducible apply call_elim; focus ((with_reducible first | apply e53) <;> (first | assumption | omega | (simp only [bz, fz, paE_succ, cur_own]; omega) | (simp (maxDischargeDepth := 8) only [bb, fz, paE_succ, cur_own]; done))))))
      refine hK _ ?_
      simp only [vv, ff, norm, Array.toList, List.map, Option.isSome_none, bne_self_eq_false, reduceIte, reduceCtorEq, Nat.reduceEqDiff, Nat.reduceAdd, Nat.reduceMul, Nat.reduceSub, Nat.reduceBEq, Nat.reduceLeDiff, Int.reduceEq, Int.reduceLT, Int.reduceLE, Int.reduceGE, Int.reduceGT, Int.reduceBEq, Int.reduceBNe, Int.reduceToNat, Int.reduceNeg, Int.reduceSub, Int.reduceAdd, Int.reduceMul, finish, qf0, resOf, resa, qf1, qf2, qf3, keep, qf4, qf5, qf6, qe9, qf, qc2, Int.natCast_add, cst1, paE_succ, hd, List.map_append, Int.sub_sub]
  · have hl := dpS_len b N.2 N.1.toNat
    generalize hp' : dpS b N.2 N.1.toNat = p at hl ⊢
    obtain ⟨w0, w1⟩ := bel_b b (n := 20) (by decide) p.2
    generalize hsw : bel b 20 p.2 = sw at w0 w1 ⊢
    have hoS := anyOwn_iv .u8 (T.1 ++ [1])
    have htk : (T.1.map (iv .u8) ++ [iv .u8 1]).take ((bel b 6 (bel b 300 s).2).1.toNat + 1) = T.1.map (iv .u8) ++ [iv .u8 1] := List.take_of_length_le (by simp only [List.length_append, List.length_map, hdl]; exact Nat.le_refl _)
    have ho := anyOwn_iv .i64 p.1
    have hpv : ∀ d s, evFun E (d+3) 75 [.ptr 0 [] 0, .sl .snap 1 3 none [vi (-1), vi 1000000, vi 1000001]] [curC b s] = _ := fun d s => e75g d b s hb .snap none 3 nvL rfl (by decide)
    have hpm : ∀ d s, evFun E (d+3) 75 [.ptr 0 [] 0, .sl .snap 1 3 none [vi 0, vi 8, vi 9]] [curC b s] = _ := fun d s => e75g d b s hb .snap none 3 nmL rfl (by decide)
    have hpp : ∀ d s, evFun E (d+3) 75 [.ptr 0 [] 0, .sl .snap 1 4 none [vi (-1), vi 1152921504606846975, vi 1152921504606846976, vi 0]] [curC b s] = _ := fun d s => e75g d b s hb .snap none 4 npL rfl (by decide)
    have hps : ∀ d s, evFun E (d+3) 75 [.ptr 0 [] 0, .sl .snap 1 3 none [vi 0, vi 200, vi 201]] [curC b s] = _ := fun d s => e75g d b s hb .snap none 3 nsL rfl (by decide)
    have hsz := nsL_b (bel b 3 sw.2).1.toNat
    obtain ⟨z0, z1⟩ := bel_b b (n := 2) (by decide) sw.2
    have c : (sw.1 = 0 ∨ sw.1 = 1 ∨ sw.1 = 2) ∨ sw.1 = 3 ∨ sw.1 = 4 ∨ sw.1 = 5 ∨ sw.1 = 6 ∨ sw.1 = 7 ∨ 8 ≤ sw.1 := by omega
    rcases Nat.eq_zero_or_pos N.1.toNat with h0 | h0
    · have hpe : p.1 = [] := List.eq_nil_of_length_eq_zero (by omega)
      have hq : qP [] = none := rfl
      rw [h0, paE_zero, hpe]
      rcases c with (c | c | c) | c | c | c | c | c | c
      all_goals
        generalize hD : dSayE b (bel b 300 s).1 (T.1 ++ [1]) (1 + (bel b 6 T.2).1) (bel b (1 + (bel b 6 T.2).1) (bel b 6 T.2).2).1 [] sw = D
        unfold dSayE at hD
        first
        | rw [if_pos (show sw.1 < 3 by omega)] at hD
        | rw [if_neg (show ¬ sw.1 < 3 by omega), if_pos (show sw.1 = 3 by omega)] at hD
        | rw [if_neg (show ¬ sw.1 < 3 by omega), if_neg (show ¬ sw.1 = 3 by omega), if_pos (show sw.1 = 4 by omega)] at hD
        | rw [if_neg (show ¬ sw.1 < 3 by omega), if_neg (show ¬ sw.1 = 3 by omega), if_neg (show ¬ sw.1 = 4 by omega), if_pos (show sw.1 = 5 by omega)] at hD
        | rw [if_neg (show ¬ sw.1 < 3 by omega), if_neg (show ¬ sw.1 = 3 by omega), if_neg (show ¬ sw.1 = 4 by omega), if_neg (show ¬ sw.1 = 5 by omega), if_pos (show sw.1 = 6 by omega)] at hD
        | rw [if_neg (show ¬ sw.1 < 3 by omega), if_neg (show ¬ sw.1 = 3 by omega), if_neg (show ¬ sw.1 = 4 by omega), if_neg (show ¬ sw.1 = 5 by omega), if_neg (show ¬ sw.1 = 6 by omega), if_pos (show sw.1 = 7 by omega)] at hD
        | rw [if_neg (show ¬ sw.1 < 3 by omega), if_neg (show ¬ sw.1 = 3 by omega), if_neg (show ¬ sw.1 = 4 by omega), if_neg (show ¬ sw.1 = 5 by omega), if_neg (show ¬ sw.1 = 6 by omega), if_neg (show ¬ sw.1 = 7 by omega)] at hD
        subst hD
        (have fz := ga11 hsw hl hdl htk ho hoS hpv hpm hpp hps hq; repeat' (first | simp (maxDischargeDepth := 8) only [go_sem, rr, reduceIte, reduceCtorEq, Nat.reduceEqDiff, Nat.reduceAdd, Nat.reduceMul, Nat.reduceSub, Nat.reduceBEq, Nat.reduceLeDiff, Int.reduceEq, Int.reduceLT, Int.reduceLE, Int.reduceGE, Int.reduceGT, Int.reduceBEq, Int.reduceBNe, Int.reduceToNat, Int.reduceNeg, Int.reduceSub, Int.reduceAdd, Int.reduceMul, fz, DSay.X, DSay.R, sayX, sayR, sayC, slX, slC, qc2, zeros_one, zeros64, zeros8, List.replicate_zero, List.map_nil, List.map_append, List.length_append, List.length_replicate, cur_own, cur_snap] | (with_reducible refine qg9 ?_ ?_; focus (first | (simp (maxDischargeDepth := 8) only [bb, kk, fz, DSay.X, DSay.R, sayX, sayR, sayC, slX, slC, qc2, zeros_one, zeros64, zeros8, List.replicate_zero, List.map_nil, List.map_append, List.length_append, List.length_replicate, cur_own, cur_snap]; done) | kernel_rfl)) | ((with_reducible first | refine qf7 ?_ ?_ | refine qf8 ?_ ?_ | refine qf9 ?_ ?_ | refine qg ?_ ?_ | refine qg0 ?_ ?_ | refine qg1 ?_ ?_ | refine qg2 ?_ ?_); focus (first | assumption | omega | (simp only [bz, fz, DSay.X, DSay.R, sayX, sayR, sayC, slX, slC, qc2, zeros_one, zeros64, zeros8, List.replicate_zero, List.map_nil, List.map_append, List.length_append, List.length_replicate, cur_own, cur_snap]; omega))) | ((with_reducible first | refine qg3 ?_ ?_ | refine qg4 ?_ ?_ | refine qg5 ?_ ?_); focus (first | assumption | omega | (simp only [bz, fz, DSay.X, DSay.R, sayX, sayR, sayC, slX, slC, qc2, zeros_one, zeros64, zeros8, List.replicate_zero, List.map_nil, List.map_append, List.length_append, List.length_replicate, cur_own, cur_snap]; omega))) | ((with_reducible first | refine g1_u8w ?_ ?_ | refine qg7 ?_ ?_); (focus ((repeat' (with_reducible apply And.intro)) <;> (first | assumption | omega | (simp only [bz, fz, DSay.X, DSay.R, sayX, sayR, sayC, slX, slC, qc2, zeros_one, zeros64, zeros8, List.replicate_zero, List.map_nil, List.map_append, List.length_append, List.length_replicate, cur_own, cur_snap]; omega) | (simp (maxDischargeDepth := 8) only [bb, fz, DSay.X, DSay.R, sayX, sayR, sayC, slX, slC, qc2, zeros_one, zeros64, zeros8, List.replicate_zero, List.map_nil, List.map_append, List.length_append, List.length_replicate, cur_own, cur_snap]; done)))); intro _) | ((with_reducible refine g1_64w ?_ ?_); (focus ((repeat' (with_reducible apply And.intro)) <;> (first | assumption | omega | (simp only [bz, fz, DSay.X, DSay.R, sayX, sayR, sayC, slX, slC, qc2, zeros_one, zeros64, zeros8, List.replicate_zero, List.map_nil, List.map_append, List.length_append, List.length_replicate, cur_own, cur_snap]; omega) | (simp (maxDischargeDepth := 8) only [bb, fz, DSay.X, DSay.R, sayX, sayR, sayC, slX, slC, qc2, zeros_one, zeros64, zeros8, List.replicate_zero, List.map_nil, List.map_append, List.length_append, List.length_replicate, cur_own, cur_snap]; done)))); intro _) | (with_reducible apply call_elim; focus ((with_reducible first | apply e53) <;> (first | assumption | omega | (simp only [bz, fz, DSay.X, DSay.R, sayX, sayR, sayC, slX, slC, qc2, zeros_one, zeros64, zeros8, List.replicate_zero, List.map_nil, List.map_append, List.length_append, List.length_replicate, cur_own, cur_snap]; omega) | (simp (maxDischargeDepth := 8) only [bb, fz, DSay.X, DSay.R, sayX, sayR, sayC, slX, slC, qc2, zeros_one, zeros64, zeros8, List.replicate_zero, List.map_nil, List.map_append, List.length_append, List.length_replicate, cur_own, cur_snap]; done))))))
    · obtain ⟨j, hj⟩ : ∃ j, N.1.toNat = j + 1 := ⟨N.1.toNat - 1, by omega⟩
      have hpe : p.1 ≠ [] := fun h => by rw [h] at hl; simp at hl; omega
      have hq : qP p.1 = some p.1 := if_neg hpe
      rw [hj] at hl
      rw [hj, paE_succ]
      rcases c with (c | c | c) | c | c | c | c | c | c
      all_goals
        generalize hD : dSayE b (bel b 300 s).1 (T.1 ++ [1]) (1 + (bel b 6 T.2).1) (bel b (1 + (bel b 6 T.2).1) (bel b 6 T.2).2).1 p.1 sw = D
        unfold dSayE at hD
        first
        | rw [if_pos (show sw.1 < 3 by omega)] at hD
        | rw [if_neg (show ¬ sw.1 < 3 by omega), if_pos (show sw.1 = 3 by omega)] at hD
        | rw [if_neg (show ¬ sw.1 < 3 by omega), if_neg (show ¬ sw.1 = 3 by omega), if_pos (show sw.1 = 4 by omega)] at hD
        | rw [if_neg (show ¬ sw.1 < 3 by omega), if_neg (show ¬ sw.1 = 3 by omega), if_neg (show ¬ sw.1 = 4 by omega), if_pos (show sw.1 = 5 by omega)] at hD
        | rw [if_neg (show ¬ sw.1 < 3 by omega), if_neg (show ¬ sw.1 = 3 by omega), if_neg (show ¬ sw.1 = 4 by omega), if_neg (show ¬ sw.1 = 5 by omega), if_pos (show sw.1 = 6 by omega)] at hD
        | rw [if_neg (show ¬ sw.1 < 3 by omega), if_neg (show ¬ sw.1 = 3 by omega), if_neg (show ¬ sw.1 = 4 by omega), if_neg (show ¬ sw.1 = 5 by omega), if_neg (show ¬ sw.1 = 6 by omega), if_pos (show sw.1 = 7 by omega)] at hD
        | rw [if_neg (show ¬ sw.1 < 3 by omega), if_neg (show ¬ sw.1 = 3 by omega), if_neg (show ¬ sw.1 = 4 by omega), if_neg (show ¬ sw.1 = 5 by omega), if_neg (show ¬ sw.1 = 6 by omega), if_neg (show ¬ sw.1 = 7 by omega)] at hD
        subst hD
        (have fz := ga11 hsw hl hdl htk ho hoS hpv hpm hpp hps hq; repeat' (first | simp (maxDischargeDepth := 8) only [go_sem, rr, reduceIte, reduceCtorEq, Nat.reduceEqDiff, Nat.reduceAdd, Nat.reduceMul, Nat.reduceSub, Nat.reduceBEq, Nat.reduceLeDiff, Int.reduceEq, Int.reduceLT, Int.reduceLE, Int.reduceGE, Int.reduceGT, Int.reduceBEq, Int.reduceBNe, Int.reduceToNat, Int.reduceNeg, Int.reduceSub, Int.reduceAdd, Int.reduceMul, fz, DSay.X, DSay.R, sayX, sayR, sayC, slX, slC, qc2, zeros_one, zeros64, zeros8, List.replicate_zero, List.map_nil, List.map_append, List.length_append, List.length_replicate, cur_own, cur_snap] | (with_reducible refine qg9 ?_ ?_; focus (first | (simp (maxDischargeDepth := 8) only [bb, kk, fz, DSay.X, DSay.R, sayX, sayR, sayC, slX, slC, qc2, zeros_one, zeros64, zeros8, List.replicate_zero, List.map_nil, List.map_append, List.length_append, List.length_replicate, cur_own, cur_snap]; done) | kernel_rfl)) | ((with_reducible first | refine qf7 ?_ ?_ | refine qf8 ?_ ?_ | refine qf9 ?_ ?_ | refine qg ?_ ?_ | refine qg0 ?_ ?_ | refine qg1 ?_ ?_ | refine qg2 ?_ ?_); focus (first | assumption | omega | (simp only [bz, fz, DSay.X, DSay.R, sayX, sayR, sayC, slX, slC, qc2, zeros_one, zeros64, zeros8, List.replicate_zero, List.map_nil, List.map_append, List.length_append, List.length_replicate, cur_own, cur_snap]; omega))) | ((with_reducible first | refine qg3 ?_ ?_ | refine qg4 ?_ ?_ | refine qg5 ?_ ?_); focus (first | assumption | omega | (simp only [bz, fz, DSay.X, DSay.R, sayX, sayR, sayC, slX, slC, qc2, zeros_one, zeros64, zeros8, List.replicate_zero, List.map_nil, List.map_append, List.length_append, List.length_replicate, cur_own, cur_snap]; omega))) | ((with_reducible first | refine g1_u8w ?_ ?_ | refine qg7 ?_ ?_); (focus ((repeat' (with_reducible apply And.intro)) <;> (first | assumption | omega | (simp only [bz, fz, DSay.X, DSay.R, sayX, sayR, sayC, slX, slC, qc2, zeros_one, zeros64, zeros8, List.replicate_zero, List.map_nil, List.map_append, List.length_append, List.length_replicate, cur_own, cur_snap]; omega) | (simp (maxDischargeDepth := 8) only [bb, fz, DSay.X, DSay.R, sayX, sayR, sayC, slX, slC, qc2, zeros_one, zeros64, zeros8, List.replicate_zero, List.map_nil, List.map_append, List.length_append, List.length_replicate, cur_own, cur_snap]; done)))); intro _) | ((with_reducible refine g1_64w ?_ ?_); (focus ((repeat' (with_reducible apply And.intro)) <;> (first | assumption | omega | (simp only [bz, fz, DSay.X, DSay.R, sayX, sayR, sayC, slX, slC, qc2, zeros_one, zeros64, zeros8, List.replicate_zero, List.map_nil, List.map_append, List.length_append, List.length_replicate, cur_own, cur_snap]; omega) | (simp (maxDischargeDepth := 8) only [bb, fz, DSay.X, DSay.R, sayX, sayR, sayC, slX, slC, qc2, zeros_one, zeros64, zeros8, List.replicate_zero, List.map_nil, List.map_append, List.length_append, List.length_replicate, cur_own, cur_snap]; done)))); intro _) | (with_reducible apply call_elim; focus ((with_reducible first | apply e53) <;> (first | assumption | omega | (simp only [bz, fz, DSay.X, DSay.R, sayX, sayR, sayC, slX, slC, qc2, zeros_one, zeros64, zeros8, List.replicate_zero, List.map_nil, List.map_append, List.length_append, List.length_replicate, cur_own, cur_snap]; omega) | (simp (maxDischargeDepth := 8) only [bb, fz, DSay.X, DSay.R, sayX, sayR, sayC, slX, slC, qc2, zeros_one, zeros64, zeros8, List.replicate_zero, List.map_nil, List.map_append, List.length_append, List.length_replicate, cur_own, cur_snap]; done))))))
end Go.Proofs.YtgdldmfkgijkaaaDoor.VH.S
end

section
namespace Go.Proofs.YtgdldmfkgijkaaaDoor.VH.S
open Go.Proofs
set_option maxRecDepth 100000
set_option maxHeartbeats 8000000
set_option linter.unusedSimpArgs false

theorem isK_set1 {cs : List AV} (h : isK .u8 cs = true) (i : Nat) (y : Int) : isK .u8 (cs.set i (iv .u8 y)) = true := by
  rw [isK_get h, ← List.map_set]; exact isK_map _ _
theorem B8_set1 {cs : List AV} (h : isK .u8 cs = true) (h8 : B8 (un cs)) (i : Nat) {y : Int} (hy : 0 ≤ y ∧ y < 256) : B8 (un (cs.set i (iv .u8 y))) := by
  rw [isK_get h, ← List.map_set, un_map]
  intro x hx
  rcases List.mem_or_eq_of_mem_set hx with hx | hx
  · exact h8 x hx
  · rw [hx]; exact hy
theorem B8_snoc {cs : List AV} (h : isK .u8 cs = true) (h8 : B8 (un cs)) {y : Int} (hy : 0 ≤ y ∧ y < 256) : B8 (un (cs ++ [iv .u8 y])) := by
  have e : cs ++ [iv .u8 y] = (un cs ++ [y]).map (iv .u8) := by rw [List.map_append, ← isK_get h]; rfl
  rw [e, un_map]
  exact h8.app (fun x hx => by rw [List.mem_singleton.mp hx]; exact hy)
/-- what is drawn as bytes: a row, and how much of it -/
def Byt (cs : List AV) (n : Nat) (m : Nat) : Prop := isK .u8 cs = true ∧ B8 (un cs) ∧ n ≤ cs.length ∧ cs.length ≤ m
/-- a room that is not known, or none to speak of -/
def Cap1 (c : Option Nat) : Prop := ∀ q, c = some q → q ≤ 1
theorem Cap1.none : Cap1 none := fun _ h => by cases h
theorem Cap1.sub0 {c : Option Nat} (h : Cap1 c) : Cap1 (c.map fun c => c - 0) := by
  cases c with
  | none => exact h
  | some q => exact fun r e => by injection e with e; subst e; exact h q rfl
theorem x50 (d : Nat) (b : List Int) (s : Nat × Int) (n M : Nat) (cap : Option Nat) (cs : List AV) (hb : b.length ≤ 2 ^ 39) (hk : isK .u8 cs = true) (h8 : B8 (un cs)) (hn : cs.length = n) (hM : n ≤ M) (hM2 : M ≤ 1000000) :
    ∃ k cs' n' cap' s', evFun E (d+3) 50 [.ptr 0 [] 0, .ref 1 [] 1 0 n cap] [curC b s, cs] = some (.ref k [] 1 0 n' cap', if k = 1 then [some (curC b s'), some cs'] else [some (curC b s'), none, some cs']) ∧ (k = 1 ∨ k = 2) ∧ Byt cs' n' (M + 1) ∧ (Cap1 cap → Cap1 cap') := by
  have ho := isK_own hk
  have hs := isK_snap hk
  by_cases h0 : n = 0
  · subst h0
    refine ⟨1, cs, 0, cap, s, evFun_body b50 ?_, .inl rfl, ⟨hk, h8, by omega, by omega⟩, _root_.id⟩
    (have fz := ga3 hn ho hs; repeat' (first | simp (maxDischargeDepth := 8) only [go_sem, rr, reduceIte, reduceCtorEq, Nat.reduceEqDiff, Nat.reduceAdd, Nat.reduceMul, Nat.reduceSub, Nat.reduceBEq, Nat.reduceLeDiff, Int.reduceEq, Int.reduceLT, Int.reduceLE, Int.reduceGE, Int.reduceGT, Int.reduceBEq, Int.reduceBNe, Int.reduceToNat, Int.reduceNeg, Int.reduceSub, Int.reduceAdd, Int.reduceMul, fz, cur_own, cur_snap, reduceIte, Tryd.f50] | (with_reducible refine qg9 ?_ ?_; focus (first | (simp (maxDischargeDepth := 8) only [bb, kk, fz, cur_own, cur_snap, reduceIte]; done) | kernel_rfl)) | ((with_reducible first | refine qf7 ?_ ?_ | refine qf8 ?_ ?_ | refine qf9 ?_ ?_ | refine qg ?_ ?_ | refine qg0 ?_ ?_ | refine qg1 ?_ ?_ | refine qg2 ?_ ?_); focus (first | assumption | omega | (simp only [bz, fz, cur_own, cur_snap, reduceIte]; omega))) | ((with_reducible first | refine qg3 ?_ ?_ | refine qg4 ?_ ?_ | refine qg5 ?_ ?_); focus (first | assumption | omega | (simp only [bz, fz, cur_own, cur_snap, reduceIte]; omega))) | ((with_reducible first | refine g1_u8w ?_ ?_ | refine qg7 ?_ ?_); (focus ((repeat' (with_reducible apply And.intro)) <;> (first | assumption | omega | (simp only [bz, fz, cur_own, cur_snap, reduceIte]; omega) | (simp (maxDischargeDepth := 8) only [bb, fz, cur_own, cur_snap, reduceIte]; done)))); intro _) | ((with_reducible refine g1_64w ?_ ?_); (focus ((repeat' (with_reducible apply And.intro)) <;> (first | assumption | omega | (simp only [bz, fz, cur_own, cur_snap, reduceIte]; omega) | (simp (maxDischargeDepth := 8) only [bb, fz, cur_own, cur_snap, reduceIte]; done)))); intro _)))
  · obtain ⟨w0, w1⟩ := bel_b b (n := 5) (by decide) s
    have c : (bel b 5 s).1 = 0 ∨ (bel b 5 s).1 = 1 ∨ (bel b 5 s).1 = 2 ∨ 3 ≤ (bel b 5 s).1 := by omega
    have hnp : (0 : Int) < n := by omega
    rcases c with c | c | c | c
    · obtain ⟨k0, k1⟩ := bel_b b hnp (bel b 5 s).2
      refine ⟨1, cs, (bel b n (bel b 5 s).2).1.toNat, cap.map fun c => c - 0, (bel b n (bel b 5 s).2).2, evFun_body b50 ?_, .inl rfl, ⟨hk, h8, by omega, by omega⟩, Cap1.sub0⟩
      (have fz := ga3 hn ho hs; repeat' (first | simp (maxDischargeDepth := 8) only [go_sem, rr, reduceIte, reduceCtorEq, Nat.reduceEqDiff, Nat.reduceAdd, Nat.reduceMul, Nat.reduceSub, Nat.reduceBEq, Nat.reduceLeDiff, Int.reduceEq, Int.reduceLT, Int.reduceLE, Int.reduceGE, Int.reduceGT, Int.reduceBEq, Int.reduceBNe, Int.reduceToNat, Int.reduceNeg, Int.reduceSub, Int.reduceAdd, Int.reduceMul, fz, cur_own, cur_snap, Int.sub_zero, Tryd.f50] | (with_reducible refine qg9 ?_ ?_; focus (first | (simp (maxDischargeDepth := 8) only [bb, kk, fz, cur_own, cur_snap, Int.sub_zero]; done) | kernel_rfl)) | ((with_reducible first | refine qf7 ?_ ?_ | refine qf8 ?_ ?_ | refine qf9 ?_ ?_ | refine qg ?_ ?_ | refine qg0 ?_ ?_ | refine qg1 ?_ ?_ | refine qg2 ?_ ?_); focus (first | assumption | omega | (simp only [bz, fz, cur_own, cur_snap, Int.sub_zero]; omega))) | ((with_reducible first | refine qg3 ?_ ?_ | refine qg4 ?_ ?_ | refine qg5 ?_ ?_); focus (first | assumption | omega | (simp only [bz, fz, cur_own, cur_snap, Int.sub_zero]; omega))) | ((with_reducible first | refine g1_u8w ?_ ?_ | refine qg7 ?_ ?_); (focus ((repeat' (with_reducible apply And.intro)) <;> (first | assumption | omega | (simp only [bz, fz, cur_own, cur_snap, Int.sub_zero]; omega) | (simp (maxDischargeDepth := 8) only [bb, fz, cur_own, cur_snap, Int.sub_zero]; done)))); intro _) | ((with_reducible refine g1_64w ?_ ?_); (focus ((repeat' (with_reducible apply And.intro)) <;> (first | assumption | omega | (simp only [bz, fz, cur_own, cur_snap, Int.sub_zero]; omega) | (simp (maxDischargeDepth := 8) only [bb, fz, cur_own, cur_snap, Int.sub_zero]; done)))); intro _) | (with_reducible apply call_elim; focus ((with_reducible first | apply e53) <;> (first | assumption | omega | (simp only [bz, fz, cur_own, cur_snap, Int.sub_zero]; omega) | (simp (maxDischargeDepth := 8) only [bb, fz, cur_own, cur_snap, Int.sub_zero]; done))))))
    · obtain ⟨k0, k1⟩ := bel_b b hnp (bel b 5 s).2
      have hy := by1_b b (bel b n (bel b 5 s).2).2
      have hx : isK .u8 (cs.set (bel b n (bel b 5 s).2).1.toNat (iv .u8 (by1 b (bel b n (bel b 5 s).2).2).1)) = true := isK_set1 hk _ _
      have hs2 := isK_snap hx
      refine ⟨1, cs.set (bel b n (bel b 5 s).2).1.toNat (iv .u8 (by1 b (bel b n (bel b 5 s).2).2).1), n, cap, (by1 b (bel b n (bel b 5 s).2).2).2, evFun_body b50 ?_, .inl rfl, ⟨hx, B8_set1 hk h8 _ hy, by rw [List.length_set]; omega, by rw [List.length_set]; omega⟩, _root_.id⟩
      (have fz := ga4 hn ho hs hs2; repeat' (first | simp (maxDischargeDepth := 8) only [go_sem, rr, reduceIte, reduceCtorEq, Nat.reduceEqDiff, Nat.reduceAdd, Nat.reduceMul, Nat.reduceSub, Nat.reduceBEq, Nat.reduceLeDiff, Int.reduceEq, Int.reduceLT, Int.reduceLE, Int.reduceGE, Int.reduceGT, Int.reduceBEq, Int.reduceBNe, Int.reduceToNat, Int.reduceNeg, Int.reduceSub, Int.reduceAdd, Int.reduceMul, fz, cur_own, cur_snap, setAt_one, Tryd.f50] | (with_reducible refine qg9 ?_ ?_; focus (first | (simp (maxDischargeDepth := 8) only [bb, kk, fz, cur_own, cur_snap, setAt_one]; done) | kernel_rfl)) | ((with_reducible first | refine qf7 ?_ ?_ | refine qf8 ?_ ?_ | refine qf9 ?_ ?_ | refine qg ?_ ?_ | refine qg0 ?_ ?_ | refine qg1 ?_ ?_ | refine qg2 ?_ ?_); focus (first | assumption | omega | (simp only [bz, fz, cur_own, cur_snap, setAt_one]; omega))) | ((with_reducible first | refine qg3 ?_ ?_ | refine qg4 ?_ ?_ | refine qg5 ?_ ?_); focus (first | assumption | omega | (simp only [bz, fz, cur_own, cur_snap, setAt_one]; omega))) | ((with_reducible first | refine g1_u8w ?_ ?_ | refine qg7 ?_ ?_); (focus ((repeat' (with_reducible apply And.intro)) <;> (first | assumption | omega | (simp only [bz, fz, cur_own, cur_snap, setAt_one]; omega) | (simp (maxDischargeDepth := 8) only [bb, fz, cur_own, cur_snap, setAt_one]; done)))); intro _) | ((with_reducible refine g1_64w ?_ ?_); (focus ((repeat' (with_reducible apply And.intro)) <;> (first | assumption | omega | (simp only [bz, fz, cur_own, cur_snap, setAt_one]; omega) | (simp (maxDischargeDepth := 8) only [bb, fz, cur_own, cur_snap, setAt_one]; done)))); intro _) | (with_reducible apply call_elim; focus ((with_reducible first | apply e53 | apply e72) <;> (first | assumption | omega | (simp only [bz, fz, cur_own, cur_snap, setAt_one]; omega) | (simp (maxDischargeDepth := 8) only [bb, fz, cur_own, cur_snap, setAt_one]; done))))))
    · have hy := by1_b b (bel b 5 s).2
      have hx : isK .u8 (cs ++ [iv .u8 (by1 b (bel b 5 s).2).1]) = true := by rw [isK_app, hk]; rfl
      have hs2 := isK_snap hx
      refine ⟨2, cs ++ [iv .u8 (by1 b (bel b 5 s).2).1], n + 1, none, (by1 b (bel b 5 s).2).2, evFun_body b50 ?_, .inr rfl, ⟨hx, B8_snoc hk h8 hy, by rw [List.length_append, hn]; exact Nat.le_refl _, by rw [List.length_append, hn]; simp only [List.length_cons, List.length_nil]; omega⟩, fun _ => Cap1.none⟩
      (have fz := ga4 hn ho hs hs2; repeat' (first | simp (maxDischargeDepth := 8) only [go_sem, rr, reduceIte, reduceCtorEq, Nat.reduceEqDiff, Nat.reduceAdd, Nat.reduceMul, Nat.reduceSub, Nat.reduceBEq, Nat.reduceLeDiff, Int.reduceEq, Int.reduceLT, Int.reduceLE, Int.reduceGE, Int.reduceGT, Int.reduceBEq, Int.reduceBNe, Int.reduceToNat, Int.reduceNeg, Int.reduceSub, Int.reduceAdd, Int.reduceMul, fz, cur_own, cur_snap, capK_pos Nat.one_pos, Tryd.f50] | (with_reducible refine qg9 ?_ ?_; focus (first | (simp (maxDischargeDepth := 8) only [bb, kk, fz, cur_own, cur_snap, capK_pos Nat.one_pos]; done) | kernel_rfl)) | ((with_reducible first | refine qf7 ?_ ?_ | refine qf8 ?_ ?_ | refine qf9 ?_ ?_ | refine qg ?_ ?_ | refine qg0 ?_ ?_ | refine qg1 ?_ ?_ | refine qg2 ?_ ?_); focus (first | assumption | omega | (simp only [bz, fz, cur_own, cur_snap, capK_pos Nat.one_pos]; omega))) | ((with_reducible first | refine qg3 ?_ ?_ | refine qg4 ?_ ?_ | refine qg5 ?_ ?_); focus (first | assumption | omega | (simp only [bz, fz, cur_own, cur_snap, capK_pos Nat.one_pos]; omega))) | ((with_reducible first | refine g1_u8w ?_ ?_ | refine qg7 ?_ ?_); (focus ((repeat' (with_reducible apply And.intro)) <;> (first | assumption | omega | (simp only [bz, fz, cur_own, cur_snap, capK_pos Nat.one_pos]; omega) | (simp (maxDischargeDepth := 8) only [bb, fz, cur_own, cur_snap, capK_pos Nat.one_pos]; done)))); intro _) | ((with_reducible refine g1_64w ?_ ?_); (focus ((repeat' (with_reducible apply And.intro)) <;> (first | assumption | omega | (simp only [bz, fz, cur_own, cur_snap, capK_pos Nat.one_pos]; omega) | (simp (maxDischargeDepth := 8) only [bb, fz, cur_own, cur_snap, capK_pos Nat.one_pos]; done)))); intro _) | (with_reducible apply call_elim; focus ((with_reducible first | apply e53 | apply e72) <;> (first | assumption | omega | (simp only [bz, fz, cur_own, cur_snap, capK_pos Nat.one_pos]; omega) | (simp (maxDischargeDepth := 8) only [bb, fz, cur_own, cur_snap, capK_pos Nat.one_pos]; done))))))
    · refine ⟨1, cs, n, cap, (bel b 5 s).2, evFun_body b50 ?_, .inl rfl, ⟨hk, h8, by omega, by omega⟩, _root_.id⟩
      (have fz := ga3 hn ho hs; repeat' (first | simp (maxDischargeDepth := 8) only [go_sem, rr, reduceIte, reduceCtorEq, Nat.reduceEqDiff, Nat.reduceAdd, Nat.reduceMul, Nat.reduceSub, Nat.reduceBEq, Nat.reduceLeDiff, Int.reduceEq, Int.reduceLT, Int.reduceLE, Int.reduceGE, Int.reduceGT, Int.reduceBEq, Int.reduceBNe, Int.reduceToNat, Int.reduceNeg, Int.reduceSub, Int.reduceAdd, Int.reduceMul, fz, cur_own, cur_snap, Tryd.f50] | (with_reducible refine qg9 ?_ ?_; focus (first | (simp (maxDischargeDepth := 8) only [bb, kk, fz, cur_own, cur_snap]; done) | kernel_rfl)) | ((with_reducible first | refine qf7 ?_ ?_ | refine qf8 ?_ ?_ | refine qf9 ?_ ?_ | refine qg ?_ ?_ | refine qg0 ?_ ?_ | refine qg1 ?_ ?_ | refine qg2 ?_ ?_); focus (first | assumption | omega | (simp only [bz, fz, cur_own, cur_snap]; omega))) | ((with_reducible first | refine qg3 ?_ ?_ | refine qg4 ?_ ?_ | refine qg5 ?_ ?_); focus (first | assumption | omega | (simp only [bz, fz, cur_own, cur_snap]; omega))) | ((with_reducible first | refine g1_u8w ?_ ?_ | refine qg7 ?_ ?_); (focus ((repeat' (with_reducible apply And.intro)) <;> (first | assumption | omega | (simp only [bz, fz, cur_own, cur_snap]; omega) | (simp (maxDischargeDepth := 8) only [bb, fz, cur_own, cur_snap]; done)))); intro _) | ((with_reducible refine g1_64w ?_ ?_); (focus ((repeat' (with_reducible apply And.intro)) <;> (first | assumption | omega | (simp only [bz, fz, cur_own, cur_snap]; omega) | (simp (maxDischargeDepth := 8) only [bb, fz, cur_own, cur_snap]; done)))); intro _) | (with_reducible apply call_elim; focus ((with_reducible first | apply e53) <;> (first | assumption | omega | (simp only [bz, fz, cur_own, cur_snap]; omega) | (simp (maxDischargeDepth := 8) only [bb, fz, cur_own, cur_snap]; done))))))
theorem dSayB_b (b : List Int) (s : Nat × Int) : (∀ l, (dSayB b s).S = some l → B8 l ∧ l.length ≤ 201) ∧ (∀ p, (dSayB b s).P = some p → p.length ≤ 5 ∧ p ≠ []) ∧ ((dSayB b s).S = none → (dSayB b s).P = none) := by
  unfold dSayB
  simp only []
  obtain ⟨q0, q1⟩ := bel_b b (n := 6) (by decide) (bel b 300 s).2
  have hdl := ddS_len b (bel b 6 (bel b 300 s).2).2 (bel b 6 (bel b 300 s).2).1.toNat
  have hd8 := ddS_b8 b (bel b 6 (bel b 300 s).2).2 (bel b 6 (bel b 300 s).2).1.toNat
  generalize ddS b (bel b 6 (bel b 300 s).2).2 (bel b 6 (bel b 300 s).2).1.toNat = T at hdl hd8 ⊢
  have h7 : B8 (T.1 ++ [1]) ∧ (T.1 ++ [1]).length ≤ 201 := ⟨hd8.app (fun x h => by rw [List.mem_singleton.mp h]; decide), by rw [List.length_append, hdl]; simp only [List.length_cons, List.length_nil]; omega⟩
  obtain ⟨n0, n1⟩ := bel_b b (n := 4) (by decide) (bel b (1 + (bel b 6 T.2).1) (bel b 6 T.2).2).2
  generalize bel b 4 (bel b (1 + (bel b 6 T.2).1) (bel b 6 T.2).2).2 = N at n0 n1 ⊢
  have hl := dpS_len b N.2 N.1.toNat
  generalize dpS b N.2 N.1.toNat = p at hl ⊢
  generalize bel b 20 p.2 = sw
  have hq : ∀ x, qP p.1 = some x → x.length ≤ 5 ∧ x ≠ [] := by
    intro x hx
    unfold qP at hx
    split at hx
    · cases hx
    · rename_i h; injection hx with hx; subst hx; exact ⟨by omega, h⟩
  have hs1 : ∀ l, some (T.1 ++ [1]) = some l → B8 l ∧ l.length ≤ 201 := fun l h => by injection h with h; subst h; exact h7
  unfold dSayE
  split
  · exact ⟨fun l h => by simp at h, fun x h => by simp at h, fun _ => rfl⟩
  split
  · exact ⟨hs1, hq, fun h => by simp at h⟩
  split
  · exact ⟨hs1, hq, fun h => by simp at h⟩
  split
  · refine ⟨hs1, fun x h => ?_, fun h => by simp at h⟩
    injection h with h; subst h
    exact ⟨by rw [List.length_append, hl]; simp only [List.length_cons, List.length_nil]; omega, by simp⟩
  split
  · obtain ⟨z0, z1⟩ := bel_b b (n := 2) (by decide) sw.2
    refine ⟨hs1, fun x h => ?_, fun h => by simp at h⟩
    injection h with h; subst h
    refine ⟨by rw [List.length_replicate]; omega, fun h => ?_⟩
    have := congrArg List.length h
    rw [List.length_replicate] at this; simp at this; omega
  split
  · have hsz := nsL_b (bel b 3 sw.2).1.toNat
    refine ⟨fun l h => ?_, hq, fun h => by simp at h⟩
    injection h with h; subst h
    exact ⟨B8.zeros _, by rw [List.length_replicate]; omega⟩
  · exact ⟨hs1, hq, fun h => by simp at h⟩
theorem x12 (d : Nat) (b : List Int) (hb : b.length ≤ 2 ^ 39) : ∃ k v S m a P, evFun E (d+6) 12 [.sl .fgn 1 b.length none (b.map (iv .u8))] [] = some (sayX k v S m a P 0, sayR k v S m a P) ∧ (∀ l, S = some l → B8 l ∧ l.length ≤ 201) ∧ (∀ p, P = some p → p.length ≤ 5 ∧ p ≠ []) ∧ (S = none → P = none) := by
  have h := e43 d b (0, newH b (newN b)) hb
  obtain ⟨b1, b2, b3⟩ := dSayB_b b (0, newH b (newN b))
  generalize dSayB b (0, newH b (newN b)) = x at h b1 b2 b3
  obtain ⟨k, v, S, m, a, P, s'⟩ := x
  refine ⟨k, v, S, m, a, P, evFun_body b12 ?_, b1, b2, b3⟩
  simp only [DSay.X, DSay.R] at h
  cases S with
  | none =>
    have hP : P = none := b3 rfl
    subst hP
    simp only [sayX, sayR, slX] at h
    (repeat' (first | simp (maxDischargeDepth := 8) only [go_sem, rr, reduceIte, reduceCtorEq, Nat.reduceEqDiff, Nat.reduceAdd, Nat.reduceMul, Nat.reduceSub, Nat.reduceBEq, Nat.reduceLeDiff, Int.reduceEq, Int.reduceLT, Int.reduceLE, Int.reduceGE, Int.reduceGT, Int.reduceBEq, Int.reduceBNe, Int.reduceToNat, Int.reduceNeg, Int.reduceSub, Int.reduceAdd, Int.reduceMul, h, sayX, sayR, slX, cur_own, cur_snap, Tryd.f12] | (with_reducible refine qg9 ?_ ?_; focus (first | (simp (maxDischargeDepth := 8) only [bb, kk, h, sayX, sayR, slX, cur_own, cur_snap]; done) | kernel_rfl)) | ((with_reducible first | refine qf7 ?_ ?_ | refine qf8 ?_ ?_ | refine qf9 ?_ ?_ | refine qg ?_ ?_ | refine qg0 ?_ ?_ | refine qg1 ?_ ?_ | refine qg2 ?_ ?_); focus (first | assumption | omega | (simp only [bz, h, sayX, sayR, slX, cur_own, cur_snap]; omega))) | ((with_reducible first | refine qg3 ?_ ?_ | refine qg4 ?_ ?_ | refine qg5 ?_ ?_); focus (first | assumption | omega | (simp only [bz, h, sayX, sayR, slX, cur_own, cur_snap]; omega))) | ((with_reducible first | refine g1_u8w ?_ ?_ | refine qg7 ?_ ?_); (focus ((repeat' (with_reducible apply And.intro)) <;> (first | assumption | omega | (simp only [bz, h, sayX, sayR, slX, cur_own, cur_snap]; omega) | (simp (maxDischargeDepth := 8) only [bb, h, sayX, sayR, slX, cur_own, cur_snap]; done)))); intro _) | ((with_reducible refine g1_64w ?_ ?_); (focus ((repeat' (with_reducible apply And.intro)) <;> (first | assumption | omega | (simp only [bz, h, sayX, sayR, slX, cur_own, cur_snap]; omega) | (simp (maxDischargeDepth := 8) only [bb, h, sayX, sayR, slX, cur_own, cur_snap]; done)))); intro _) | (with_reducible apply call_elim; focus ((with_reducible first | apply e34) <;> (first | assumption | omega | (simp only [bz, h, sayX, sayR, slX, cur_own, cur_snap]; omega) | (simp (maxDischargeDepth := 8) only [bb, h, sayX, sayR, slX, cur_own, cur_snap]; done))))))
  | some l =>
    have ho := anyOwn_iv .u8 l
    cases P with
    | none =>
      simp only [sayX, sayR, slX, sayC, slC] at h
      (have fz := ga2 h ho; repeat' (first | simp (maxDischargeDepth := 8) only [go_sem, rr, reduceIte, reduceCtorEq, Nat.reduceEqDiff, Nat.reduceAdd, Nat.reduceMul, Nat.reduceSub, Nat.reduceBEq, Nat.reduceLeDiff, Int.reduceEq, Int.reduceLT, Int.reduceLE, Int.reduceGE, Int.reduceGT, Int.reduceBEq, Int.reduceBNe, Int.reduceToNat, Int.reduceNeg, Int.reduceSub, Int.reduceAdd, Int.reduceMul, fz, sayX, sayR, slX, sayC, slC, cur_own, cur_snap, Tryd.f12] | (with_reducible refine qg9 ?_ ?_; focus (first | (simp (maxDischargeDepth := 8) only [bb, kk, fz, sayX, sayR, slX, sayC, slC, cur_own, cur_snap]; done) | kernel_rfl)) | ((with_reducible first | refine qf7 ?_ ?_ | refine qf8 ?_ ?_ | refine qf9 ?_ ?_ | refine qg ?_ ?_ | refine qg0 ?_ ?_ | refine qg1 ?_ ?_ | refine qg2 ?_ ?_); focus (first | assumption | omega | (simp only [bz, fz, sayX, sayR, slX, sayC, slC, cur_own, cur_snap]; omega))) | ((with_reducible first | refine qg3 ?_ ?_ | refine qg4 ?_ ?_ | refine qg5 ?_ ?_); focus (first | assumption | omega | (simp only [bz, fz, sayX, sayR, slX, sayC, slC, cur_own, cur_snap]; omega))) | ((with_reducible first | refine g1_u8w ?_ ?_ | refine qg7 ?_ ?_); (focus ((repeat' (with_reducible apply And.intro)) <;> (first | assumption | omega | (simp only [bz, fz, sayX, sayR, slX, sayC, slC, cur_own, cur_snap]; omega) | (simp (maxDischargeDepth := 8) only [bb, fz, sayX, sayR, slX, sayC, slC, cur_own, cur_snap]; done)))); intro _) | ((with_reducible refine g1_64w ?_ ?_); (focus ((repeat' (with_reducible apply And.intro)) <;> (first | assumption | omega | (simp only [bz, fz, sayX, sayR, slX, sayC, slC, cur_own, cur_snap]; omega) | (simp (maxDischargeDepth := 8) only [bb, fz, sayX, sayR, slX, sayC, slC, cur_own, cur_snap]; done)))); intro _) | (with_reducible apply call_elim; focus ((with_reducible first | apply e34) <;> (first | assumption | omega | (simp only [bz, fz, sayX, sayR, slX, sayC, slC, cur_own, cur_snap]; omega) | (simp (maxDischargeDepth := 8) only [bb, fz, sayX, sayR, slX, sayC, slC, cur_own, cur_snap]; done))))))
    | some p =>
      have ho2 := anyOwn_iv .i64 p
      simp only [sayX, sayR, slX, sayC, slC] at h
      (have fz := ga3 h ho ho2; repeat' (first | simp (maxDischargeDepth := 8) only [go_sem, rr, reduceIte, reduceCtorEq, Nat.reduceEqDiff, Nat.reduceAdd, Nat.reduceMul, Nat.reduceSub, Nat.reduceBEq, Nat.reduceLeDiff, Int.reduceEq, Int.reduceLT, Int.reduceLE, Int.reduceGE, Int.reduceGT, Int.reduceBEq, Int.reduceBNe, Int.reduceToNat, Int.reduceNeg, Int.reduceSub, Int.reduceAdd, Int.reduceMul, fz, sayX, sayR, slX, sayC, slC, cur_own, cur_snap, Tryd.f12] | (with_reducible refine qg9 ?_ ?_; focus (first | (simp (maxDischargeDepth := 8) only [bb, kk, fz, sayX, sayR, slX, sayC, slC, cur_own, cur_snap]; done) | kernel_rfl)) | ((with_reducible first | refine qf7 ?_ ?_ | refine qf8 ?_ ?_ | refine qf9 ?_ ?_ | refine qg ?_ ?_ | refine qg0 ?_ ?_ | refine qg1 ?_ ?_ | refine qg2 ?_ ?_); focus (first | assumption | omega | (simp only [bz, fz, sayX, sayR, slX, sayC, slC, cur_own, cur_snap]; omega))) | ((with_reducible first | refine qg3 ?_ ?_ | refine qg4 ?_ ?_ | refine qg5 ?_ ?_); focus (first | assumption | omega | (simp only [bz, fz, sayX, sayR, slX, sayC, slC, cur_own, cur_snap]; omega))) | ((with_reducible first | refine g1_u8w ?_ ?_ | refine qg7 ?_ ?_); (focus ((repeat' (with_reducible apply And.intro)) <;> (first | assumption | omega | (simp only [bz, fz, sayX, sayR, slX, sayC, slC, cur_own, cur_snap]; omega) | (simp (maxDischargeDepth := 8) only [bb, fz, sayX, sayR, slX, sayC, slC, cur_own, cur_snap]; done)))); intro _) | ((with_reducible refine g1_64w ?_ ?_); (focus ((repeat' (with_reducible apply And.intro)) <;> (first | assumption | omega | (simp only [bz, fz, sayX, sayR, slX, sayC, slC, cur_own, cur_snap]; omega) | (simp (maxDischargeDepth := 8) only [bb, fz, sayX, sayR, slX, sayC, slC, cur_own, cur_snap]; done)))); intro _) | (with_reducible apply call_elim; focus ((with_reducible first | apply e34) <;> (first | assumption | omega | (simp only [bz, fz, sayX, sayR, slX, sayC, slC, cur_own, cur_snap]; omega) | (simp (maxDischargeDepth := 8) only [bb, fz, sayX, sayR, slX, sayC, slC, cur_own, cur_snap]; done))))))
end Go.Proofs.YtgdldmfkgijkaaaDoor.VH.S
end

section
namespace Go.Proofs.YtgdldmfkgijkaaaDoor.VH.S
open Go.Proofs
set_option maxRecDepth 100000
set_option maxHeartbeats 8000000
set_option linter.unusedSimpArgs false

/- The wire's plain laws: asks. -/
def askL (k : Int) (nm : List UInt8) (v : Int) (l : List Int) : List Int := [k, (nm.length : Int)] ++ nm.map (fun b => (b.toNat : Int)) ++ eightL v ++ l
theorem askB_askL (k : Int) (nm : List UInt8) (v : Int) (l : List Int) : askB k nm v (l.map (iv .u8)) = (askL k nm v l).map (iv .u8) := by
  simp [askB, askL, VH.u8, iv, Function.comp_def]
theorem askL_b8 {k v : Int} {nm : List UInt8} {l : List Int} (hk : 1 ≤ k ∧ k ≤ 4) (hn : nm.length ≤ 8) (hl : B8 l) : B8 (askL k nm v l) := by
  refine ((B8.app ?_ ?_).app (B8.eight v)).app hl
  · intro x hx
    simp only [List.mem_cons, List.not_mem_nil, or_false] at hx
    rcases hx with rfl | rfl <;> omega
  · intro x hx
    obtain ⟨b, _, rfl⟩ := List.mem_map.mp hx
    have : b.toNat < 256 := UInt8.toNat_lt b
    omega
theorem askL_len (k : Int) (nm : List UInt8) (v : Int) (l : List Int) : (askL k nm v l).length = 10 + nm.length + l.length := by simp [askL, eightL]; omega
theorem tx_nm (nm : List UInt8) : txB (nm.map fun b => (b.toNat : Int)) = nm := by
  simp [txB, Function.comp_def]
theorem gaN_askL (k : Int) (nm : List UInt8) (v : Int) (l : List Int) : gaN (askL k nm v l) nm.length = nm := by
  have e : ((askL k nm v l).drop 2).take nm.length = nm.map fun b => (b.toNat : Int) := by
    simp [askL, List.take_append]
  rw [gaN, e, tx_nm]
theorem gaV_askL {k v : Int} {nm : List UInt8} {l : List Int} (h0 : 0 ≤ v) (h1 : v ≤ 1000000) : gaV (askL k nm v l) nm.length = v := by
  have e : ((askL k nm v l).drop (2 + nm.length)).take 8 = eightL v := by
    have e1 : askL k nm v l = ([k, (nm.length : Int)] ++ nm.map (fun b => (b.toNat : Int))) ++ (eightL v ++ l) := by simp [askL]
    rw [e1, List.drop_append_of_le_length (by simp; omega), List.drop_of_length_le (by simp; omega), List.nil_append, List.take_append_of_le_length (by simp [eightL])]
    exact List.take_of_length_le (by simp [eightL])
  rw [gaV, e, numB_eight h0 (by omega)]
theorem gaOK_askL {k v : Int} {nm : List UInt8} {l : List Int} (h : askOk k nm v l.length = true) : gaOK (askL k nm v l) nm.length (10 + nm.length + l.length) = true := by
  obtain ⟨h1, h2, h3, h4⟩ := askOk_parts h
  rw [gaOK, gaN_askL, gaV_askL h3.1 h3.2]
  have e : at0 (askL k nm v l) 0 = k := rfl
  rw [e, show 10 + nm.length + l.length - (10 + nm.length) = l.length by omega, h]
  simp
theorem drop_askL (k : Int) (nm : List UInt8) (v : Int) (l : List Int) : (askL k nm v l).drop (10 + nm.length) = l := by
  have e1 : askL k nm v l = ([k, (nm.length : Int)] ++ nm.map (fun b => (b.toNat : Int)) ++ eightL v) ++ l := rfl
  rw [e1, List.drop_append_of_le_length (by simp [eightL]; omega), List.drop_of_length_le (by simp [eightL]; omega), List.nil_append]
theorem numB_inj : ∀ (n : Nat) (a b : List Int), a.length = n → b.length = n → B8 a → B8 b → numB a = numB b → a = b
  | 0, a, b, ha, hb, _, _, _ => by rw [List.eq_nil_of_length_eq_zero ha, List.eq_nil_of_length_eq_zero hb]
  | n + 1, a, b, ha, hb, h1, h2, h => by
    have na : a ≠ [] := fun e => by rw [e] at ha; simp at ha
    have nb : b ≠ [] := fun e => by rw [e] at hb; simp at hb
    have ea := List.dropLast_concat_getLast na
    have eb := List.dropLast_concat_getLast nb
    have x1 := h1 _ (List.getLast_mem na)
    have x2 := h2 _ (List.getLast_mem nb)
    rw [← ea, ← eb, numB_snoc, numB_snoc] at h
    have hx : a.getLast na = b.getLast nb := by omega
    have hd := numB_inj n a.dropLast b.dropLast (by rw [List.length_dropLast]; omega) (by rw [List.length_dropLast]; omega) (fun x hx => h1 x (List.dropLast_subset _ hx)) (fun x hx => h2 x (List.dropLast_subset _ hx)) (by omega)
    rw [← ea, ← eb, hd, hx]
theorem eight_num {l : List Int} (h : B8 l) (hl : l.length = 8) (hn : numB l < 4611686018427387904) : eightL (numB l) = l :=
  numB_inj 8 _ _ (by simp [eightL]) hl (B8.eight _) h (numB_eight (numB_nn h) (by omega))
theorem nm_tx {l : List Int} (h : B8 l) : (txB l).map (fun b => (b.toNat : Int)) = l := by
  unfold txB
  rw [List.map_map]
  refine (List.map_congr_left fun x hx => ?_).trans (List.map_id l)
  obtain ⟨h1, h2⟩ := h x hx
  simp only [Function.comp_apply, id]
  have hx : (UInt8.ofNat x.toNat).toNat = x.toNat := by rw [UInt8.toNat_ofNat']; exact Nat.mod_eq_of_lt (by omega)
  rw [hx]; omega
/-- bytes that are read well are what is put -/
theorem askL_back {l : List Int} {q n : Nat} (h8 : B8 l) (hn : l.length = n) (hq : at0 l 1 = (q : Int)) (h : gaOK l q n = true) : askL (at0 l 0) (gaN l q) (gaV l q) (l.drop (10 + q)) = l := by
  simp only [gaOK, Bool.and_eq_true, decide_eq_true_eq] at h
  obtain ⟨hfit, hok⟩ := h
  obtain ⟨_, h2, h3, _⟩ := askOk_parts hok
  have hl := gaN_len hn hfit
  have e8 : eightL (gaV l q) = (l.drop (2 + q)).take 8 := eight_num ((h8.drop _).take _) (by rw [List.length_take, List.length_drop]; omega) (by unfold gaV at h3; omega)
  have en : (gaN l q).map (fun b => (b.toNat : Int)) = (l.drop 2).take q := nm_tx ((h8.drop _).take _)
  rw [askL, hl, en, e8, ← hq]
  have e1 : [at0 l 0, at0 l 1] = l.take 2 := by
    match l, hn with
    | [], h => simp at h; omega
    | [_], h => simp at h; omega
    | _ :: _ :: _, _ => rfl
  have e2 : l.take 2 ++ (l.drop 2).take q = l.take (2 + q) := List.take_add.symm
  have e3 : l.take (2 + q) ++ (l.drop (2 + q)).take 8 = l.take (2 + q + 8) := List.take_add.symm
  rw [e1, e2, e3, show 10 + q = 2 + q + 8 by omega, List.take_append_drop]
end Go.Proofs.YtgdldmfkgijkaaaDoor.VH.S
end

section
namespace Go.Proofs.YtgdldmfkgijkaaaDoor.VH.S
open Go.Proofs
set_option maxRecDepth 100000
set_option maxHeartbeats 4000000
set_option linter.unusedSimpArgs false

end Go.Proofs.YtgdldmfkgijkaaaDoor.VH.S
end

section
namespace Go.Proofs.YtgdldmfkgijkaaaDoor.VH.S
open Go.Proofs
set_option maxRecDepth 100000
set_option maxHeartbeats 4000000
set_option linter.unusedSimpArgs false

theorem dself (n : Nat) : decide (n = n) = true := decide_eq_true rfl
end Go.Proofs.YtgdldmfkgijkaaaDoor.VH.S
end

section
namespace Go.Proofs.YtgdldmfkgijkaaaDoor.VH.S
open Go.Proofs
set_option maxRecDepth 100000
set_option maxHeartbeats 4000000
set_option linter.unusedSimpArgs false

abbrev hdC (v : Int) (n : Nat) (m a : Int) : List AV := [iv .u8 2] ++ (eightL v).map (iv .u8) ++ [iv .u8 (w8 m), iv .u8 (w8 a), iv .u8 (w8 n)]
def paC (p : List Int) (i : Nat) : List AV := ((p.take i).flatMap eightL).map (iv .u8)
def pyC (k v m a : Int) (sh p : List Int) : List AV := if k = 2 then hdC v p.length m a ++ paC p p.length ++ sh.map (iv .u8) else [iv .u8 (w8 k)]
def pyN (k : Int) (n1 n2 : Nat) : Nat := if k = 2 then 12 + 8 * n2 + n1 else 1
theorem u2 : IntKind.u8.wrap 2 = 2 := by decide
theorem eight_len (x : Int) : (eightL x).length = 8 := rfl
theorem tk8 (v : Int) : ((eightL v).map (iv .u8)).take 8 = (eightL v).map (iv .u8) := List.take_of_length_le (by simp [eightL])
theorem paC_zero (p : List Int) : paC p 0 = [] := rfl
theorem paC_succ (p : List Int) {i : Nat} (h : i < p.length) : paC p i ++ (eightL p[i]).map (iv .u8) = paC p (i + 1) := by
  unfold paC
  rw [← List.map_append, ← List.take_append_getElem h, List.flatMap_append]; simp
theorem paC_len (p : List Int) {i : Nat} (h : i ≤ p.length) : (paC p i).length = 8 * i := by
  have : ∀ q : List Int, (q.flatMap eightL).length = 8 * q.length := by
    intro q
    induction q with
    | nil => rfl
    | cons x xs ih => simp only [List.flatMap_cons, List.length_append, ih, List.length_cons]; simp [eightL]; omega
  unfold paC
  rw [List.length_map, this, List.length_take]; omega
def buf (v m a : Int) (p : List Int) (i : Nat) : List AV := hdC v p.length m a ++ paC p i
theorem buf_zero (v m a : Int) (p : List Int) : buf v m a p 0 = [iv .u8 2] ++ (eightL v).map (iv .u8) ++ [iv .u8 (w8 m), iv .u8 (w8 a), iv .u8 (w8 p.length)] := by rw [buf, paC_zero, List.append_nil]
theorem buf_len {v m a : Int} (p : List Int) {i : Nat} (h : i ≤ p.length) : (buf v m a p i).length = 12 + 8 * i := by rw [buf, List.length_append, paC_len p h]; rfl
theorem buf_succ {v m a : Int} (p : List Int) {i : Nat} (h : i < p.length) : buf v m a p i ++ (eightL p[i]).map (iv .u8) = buf v m a p (i + 1) := by rw [buf, List.append_assoc, paC_succ p h]; rfl
theorem tk_full (k : IntKind) (l : List Int) : (l.map (iv k)).take l.length = l.map (iv k) := List.take_of_length_le (by simp)
def pyL (k v m a : Int) (sh p : List Int) : List Int := if k = 2 then [2] ++ eightL v ++ [w8 m, w8 a, w8 p.length] ++ p.flatMap eightL ++ sh else [w8 k]
theorem py_map2 (v m a : Int) (sh p : List Int) : hdC v p.length m a ++ paC p p.length ++ sh.map (iv .u8) = (pyL 2 v m a sh p).map (iv .u8) := by
  simp [pyL, hdC, paC]
theorem pyC_map (k v m a : Int) (sh p : List Int) : pyC k v m a sh p = (pyL k v m a sh p).map (iv .u8) := by
  unfold pyC
  split
  · rename_i h; subst h; exact py_map2 ..
  · rename_i h; simp [pyL, h]
theorem pyL_len (k v m a : Int) (sh p : List Int) : (pyL k v m a sh p).length = pyN k sh.length p.length := by
  have h := congrArg List.length (pyC_map k v m a sh p)
  rw [List.length_map] at h
  rw [← h]
  unfold pyC pyN
  split
  · rw [List.length_append, List.length_append, paC_len _ (Nat.le_refl _), List.length_map]; rfl
  · rfl
theorem e49 (d : Nat) (k v m a : Int) (sh p : List Int) (c1 c2 : Option Nat) (hl : sh.length ≤ 1048576) (hl2 : p.length ≤ 1048576) (ho : sayOk k v sh.length m a p = true) : evFun E (d+3) 49 [sayV .snap k v sh c1 m a p c2] [] = some (.tup [.ref 0 [] 1 0 (pyN k sh.length p.length) (if k = 2 then none else some 1), vb true], [some (pyC k v m a sh p)]) := by
  refine evFun_body b49 ?_
  have hl3 : p.length ≤ 2 ^ 39 := by omega
  by_cases hk : k = 2
  · subst hk
    simp only [sayOk, reduceIte, Bool.and_eq_true, decide_eq_true_eq, Bool.not_eq_true'] at ho
    have hv : 0 ≤ v := by omega
    have hso : sayOk 2 v sh.length m a p = true := by simp [sayOk]; simp_all
    simp only [vv, cc, qa, qa0, clash, meets, execOp, evBox, opnd, qa1, bin, convHM, qa2, qa3, qa4, qa5, qa6, qa7, zOK, qa8, qa9, borL, isSl, qb, qb0, qb1, qb2, qb3, qb4, cellsOf, TD.agg, qb5, qb6, qb7, qb8, qb9, qc, qc0, qc1, setAt, qc2, qc3, qc4, getR, qc5, qc6, qc7, qc8, qc9, Array.toList, List.map, Option.isSome_none, bne_self_eq_false, reduceIte, reduceCtorEq, Nat.reduceEqDiff, Nat.reduceAdd, Nat.reduceMul, Nat.reduceSub, Nat.reduceBEq, Nat.reduceLeDiff, Int.reduceEq, Int.reduceLT, Int.reduceLE, Int.reduceGE, Int.reduceGT, Int.reduceBEq, Int.reduceBNe, Int.reduceToNat, Int.reduceNeg, Int.reduceSub, Int.reduceAdd, Int.reduceMul, qd, qd0, qd1, qd2, qd3, qd4, qd5, qd6, qd7, qd8, qd9, qe, qe0, qe1, qe2, qe3, qe4, qe5, qe6, qe7, qe8, qe9, qf, rr, Tryd.f49, e15 _ _ _ _ _ _ _ _ _ hl3, hso, e81 _ v hv, u2, tk8, eight_len, List.length_append, List.length_map, List.length_cons, List.length_nil, anyOwn_iv, dself]
    refine loop_go (fun i => {T := tp [(1, .ptr 0 [] 0), (4, .ref 1 [] 1 0 (12 + 8 * i) none), (5, vi i)], H := hp [some [vi 2, vi v, .sl .snap 1 sh.length c1 (sh.map (iv .u8)), vi m, vi a, .sl .snap 1 p.length c2 (p.map (iv .i64))], some (buf v m a p i)], nx := 2}) p.length ?_ (lt_LF hl3) (fun i hi Kn hK => ?_) (fun Kn => ?_)
    · simp only [vv, ff, norm, Array.toList, List.map, Option.isSome_none, bne_self_eq_false, reduceIte, reduceCtorEq, Nat.reduceEqDiff, Nat.reduceAdd, Nat.reduceMul, Nat.reduceSub, Nat.reduceBEq, Nat.reduceLeDiff, Int.reduceEq, Int.reduceLT, Int.reduceLE, Int.reduceGE, Int.reduceGT, Int.reduceBEq, Int.reduceBNe, Int.reduceToNat, Int.reduceNeg, Int.reduceSub, Int.reduceAdd, Int.reduceMul, finish, qf0, resOf, resa, qf1, qf2, qf3, keep, qf4, qf5, qf6, qe9, qf, Int.natCast_zero, buf_zero, Nat.mul_zero, Nat.add_zero]
    · have hL1 : 12 + 8 * i + 8 ≤ 549755813888 := by omega
      have hpi : 0 ≤ p[i] := by
        have := List.any_eq_false.mp ho.2 p[i] (List.getElem_mem _)
        simp [bad] at this; omega
      simp only [vv, cc, qa, qa0, clash, meets, execOp, evBox, opnd, qa1, bin, convHM, qa2, qa3, qa4, qa5, qa6, qa7, zOK, qa8, qa9, borL, isSl, qb, qb0, qb1, qb2, qb3, qb4, cellsOf, TD.agg, qb5, qb6, qb7, qb8, qb9, qc, qc0, qc1, setAt, qc2, qc3, qc4, getR, qc5, qc6, qc7, qc8, qc9, Array.toList, List.map, Option.isSome_none, bne_self_eq_false, reduceIte, reduceCtorEq, Nat.reduceEqDiff, Nat.reduceAdd, Nat.reduceMul, Nat.reduceSub, Nat.reduceBEq, Nat.reduceLeDiff, Int.reduceEq, Int.reduceLT, Int.reduceLE, Int.reduceGE, Int.reduceGT, Int.reduceBEq, Int.reduceBNe, Int.reduceToNat, Int.reduceNeg, Int.reduceSub, Int.reduceAdd, Int.reduceMul, qd, qd0, qd1, qd2, qd3, qd4, qd5, qd6, qd7, qd8, qd9, qe, qe0, qe1, qe2, qe3, qe4, qe5, qe6, qe7, qe8, qe9, qf, rr, lt_ok hi, map_get hi, e81 _ _ hpi, tk8, eight_len, List.length_map, anyOwn_iv, dself, buf_len p (Nat.le_of_lt hi), buf_succ p hi, wrap_succ hi hl3, limN hL1]
      refine hK _ ?_
      simp only [vv, ff, norm, Array.toList, List.map, Option.isSome_none, bne_self_eq_false, reduceIte, reduceCtorEq, Nat.reduceEqDiff, Nat.reduceAdd, Nat.reduceMul, Nat.reduceSub, Nat.reduceBEq, Nat.reduceLeDiff, Int.reduceEq, Int.reduceLT, Int.reduceLE, Int.reduceGE, Int.reduceGT, Int.reduceBEq, Int.reduceBNe, Int.reduceToNat, Int.reduceNeg, Int.reduceSub, Int.reduceAdd, Int.reduceMul, finish, qf0, resOf, resa, qf1, qf2, qf3, keep, qf4, qf5, qf6, qe9, qf, Nat.mul_succ, Nat.add_assoc]
    · have hL2 : 12 + 8 * p.length + sh.length ≤ 549755813888 := by omega
      simp only [vv, cc, qa, qa0, clash, meets, execOp, evBox, opnd, qa1, bin, convHM, qa2, qa3, qa4, qa5, qa6, qa7, zOK, qa8, qa9, borL, isSl, qb, qb0, qb1, qb2, qb3, qb4, cellsOf, TD.agg, qb5, qb6, qb7, qb8, qb9, qc, qc0, qc1, setAt, qc2, qc3, qc4, getR, qc5, qc6, qc7, qc8, qc9, Array.toList, List.map, Option.isSome_none, bne_self_eq_false, reduceIte, reduceCtorEq, Nat.reduceEqDiff, Nat.reduceAdd, Nat.reduceMul, Nat.reduceSub, Nat.reduceBEq, Nat.reduceLeDiff, Int.reduceEq, Int.reduceLT, Int.reduceLE, Int.reduceGE, Int.reduceGT, Int.reduceBEq, Int.reduceBNe, Int.reduceToNat, Int.reduceNeg, Int.reduceSub, Int.reduceAdd, Int.reduceMul, qd, qd0, qd1, qd2, qd3, qd4, qd5, qd6, qd7, qd8, qd9, qe, qe0, qe1, qe2, qe3, qe4, qe5, qe6, qe7, qe8, qe9, qf, rr, lt_no, limN hL2, buf_len p (Nat.le_refl _), dself, anyOwn_iv, tk_full]
      simp only [vv, ff, qa, qa0, clash, meets, execOp, evBox, opnd, qa1, bin, convHM, qa2, qa3, qa4, qa5, qa6, qa7, zOK, qa8, qa9, borL, isSl, qb, qb0, qb1, qb2, qb3, qb4, cellsOf, TD.agg, qb5, qb6, qb7, qb8, qb9, qc, qc0, qc1, setAt, qc2, qc3, qc4, getR, qc5, qc6, qc7, qc8, qc9, Array.toList, List.map, Option.isSome_none, bne_self_eq_false, reduceIte, reduceCtorEq, Nat.reduceEqDiff, Nat.reduceAdd, Nat.reduceMul, Nat.reduceSub, Nat.reduceBEq, Nat.reduceLeDiff, Int.reduceEq, Int.reduceLT, Int.reduceLE, Int.reduceGE, Int.reduceGT, Int.reduceBEq, Int.reduceBNe, Int.reduceToNat, Int.reduceNeg, Int.reduceSub, Int.reduceAdd, Int.reduceMul, finish, qf0, resOf, resa, qf1, qf2, qf3, keep, qf4, qf5, qf6, qe9, qf, rr, pyC, pyN, reduceIte, buf, anySl_iv, py_map2, noSnapL_iv]
  · have hne : (k != 2) = true := by simpa using hk
    simp only [vv, cc, qa, qa0, clash, meets, execOp, evBox, opnd, qa1, bin, convHM, qa2, qa3, qa4, qa5, qa6, qa7, zOK, qa8, qa9, borL, isSl, qb, qb0, qb1, qb2, qb3, qb4, cellsOf, TD.agg, qb5, qb6, qb7, qb8, qb9, qc, qc0, qc1, setAt, qc2, qc3, qc4, getR, qc5, qc6, qc7, qc8, qc9, Array.toList, List.map, Option.isSome_none, bne_self_eq_false, reduceIte, reduceCtorEq, Nat.reduceEqDiff, Nat.reduceAdd, Nat.reduceMul, Nat.reduceSub, Nat.reduceBEq, Nat.reduceLeDiff, Int.reduceEq, Int.reduceLT, Int.reduceLE, Int.reduceGE, Int.reduceGT, Int.reduceBEq, Int.reduceBNe, Int.reduceToNat, Int.reduceNeg, Int.reduceSub, Int.reduceAdd, Int.reduceMul, qd, qd0, qd1, qd2, qd3, qd4, qd5, qd6, qd7, qd8, qd9, qe, qe0, qe1, qe2, qe3, qe4, qe5, qe6, qe7, qe8, qe9, qf, rr, Tryd.f49, e15 _ _ _ _ _ _ _ _ _ hl3, ho, hne]
    simp only [vv, ff, qa, qa0, clash, meets, execOp, evBox, opnd, qa1, bin, convHM, qa2, qa3, qa4, qa5, qa6, qa7, zOK, qa8, qa9, borL, isSl, qb, qb0, qb1, qb2, qb3, qb4, cellsOf, TD.agg, qb5, qb6, qb7, qb8, qb9, qc, qc0, qc1, setAt, qc2, qc3, qc4, getR, qc5, qc6, qc7, qc8, qc9, Array.toList, List.map, Option.isSome_none, bne_self_eq_false, reduceIte, reduceCtorEq, Nat.reduceEqDiff, Nat.reduceAdd, Nat.reduceMul, Nat.reduceSub, Nat.reduceBEq, Nat.reduceLeDiff, Int.reduceEq, Int.reduceLT, Int.reduceLE, Int.reduceGE, Int.reduceGT, Int.reduceBEq, Int.reduceBNe, Int.reduceToNat, Int.reduceNeg, Int.reduceSub, Int.reduceAdd, Int.reduceMul, finish, qf0, resOf, resa, qf1, qf2, qf3, keep, qf4, qf5, qf6, qe9, qf, rr, pyC, pyN, if_neg hk, w8]
theorem e49n (d : Nat) (k v m a : Int) (sh p : List Int) (c1 c2 : Option Nat) (hl2 : p.length ≤ 1048576) (ho : sayOk k v sh.length m a p = false) : evFun E (d+3) 49 [sayV .snap k v sh c1 m a p c2] [] = some (.tup [.ref 0 [] 1 0 0 (some 0), vb false], [some []]) := by
  refine evFun_body b49 ?_
  have hl3 : p.length ≤ 2 ^ 39 := by omega
  simp only [vv, cc, qa, qa0, clash, meets, execOp, evBox, opnd, qa1, bin, convHM, qa2, qa3, qa4, qa5, qa6, qa7, zOK, qa8, qa9, borL, isSl, qb, qb0, qb1, qb2, qb3, qb4, cellsOf, TD.agg, qb5, qb6, qb7, qb8, qb9, qc, qc0, qc1, setAt, qc2, qc3, qc4, getR, qc5, qc6, qc7, qc8, qc9, Array.toList, List.map, Option.isSome_none, bne_self_eq_false, reduceIte, reduceCtorEq, Nat.reduceEqDiff, Nat.reduceAdd, Nat.reduceMul, Nat.reduceSub, Nat.reduceBEq, Nat.reduceLeDiff, Int.reduceEq, Int.reduceLT, Int.reduceLE, Int.reduceGE, Int.reduceGT, Int.reduceBEq, Int.reduceBNe, Int.reduceToNat, Int.reduceNeg, Int.reduceSub, Int.reduceAdd, Int.reduceMul, qd, qd0, qd1, qd2, qd3, qd4, qd5, qd6, qd7, qd8, qd9, qe, qe0, qe1, qe2, qe3, qe4, qe5, qe6, qe7, qe8, qe9, qf, rr, Tryd.f49, e15 _ _ _ _ _ _ _ _ _ hl3, ho]
  simp only [vv, ff, qa, qa0, clash, meets, execOp, evBox, opnd, qa1, bin, convHM, qa2, qa3, qa4, qa5, qa6, qa7, zOK, qa8, qa9, borL, isSl, qb, qb0, qb1, qb2, qb3, qb4, cellsOf, TD.agg, qb5, qb6, qb7, qb8, qb9, qc, qc0, qc1, setAt, qc2, qc3, qc4, getR, qc5, qc6, qc7, qc8, qc9, Array.toList, List.map, Option.isSome_none, bne_self_eq_false, reduceIte, reduceCtorEq, Nat.reduceEqDiff, Nat.reduceAdd, Nat.reduceMul, Nat.reduceSub, Nat.reduceBEq, Nat.reduceLeDiff, Int.reduceEq, Int.reduceLT, Int.reduceLE, Int.reduceGE, Int.reduceGT, Int.reduceBEq, Int.reduceBNe, Int.reduceToNat, Int.reduceNeg, Int.reduceSub, Int.reduceAdd, Int.reduceMul, finish, qf0, resOf, resa, qf1, qf2, qf3, keep, qf4, qf5, qf6, qe9, qf, rr]
theorem e90t (d : Nat) : evFun E (d+1) 90 [.val (.slice none 0 0), vi 12] [] = some (.ref 0 [] 1 0 0 none, [some (List.replicate 12 (iv .u8 0))]) := by
  refine evFun_body b90 ?_
  simp only [vv, cc, ff, uu, norm, qa, qa0, clash, meets, execOp, evBox, opnd, qa1, bin, convHM, qa2, qa3, qa4, qa5, qa6, qa7, zOK, qa8, qa9, borL, isSl, qb, qb0, qb1, qb2, qb3, qb4, cellsOf, TD.agg, qb5, qb6, qb7, qb8, qb9, qc, qc0, qc1, setAt, qc2, qc3, qc4, getR, qc5, qc6, qc7, qc8, qc9, Array.toList, List.map, Option.isSome_none, bne_self_eq_false, reduceIte, reduceCtorEq, Nat.reduceEqDiff, Nat.reduceAdd, Nat.reduceMul, Nat.reduceSub, Nat.reduceBEq, Nat.reduceLeDiff, Int.reduceEq, Int.reduceLT, Int.reduceLE, Int.reduceGE, Int.reduceGT, Int.reduceBEq, Int.reduceBNe, Int.reduceToNat, Int.reduceNeg, Int.reduceSub, Int.reduceAdd, Int.reduceMul, qd, qd0, qd1, qd2, qd3, qd4, qd5, qd6, qd7, qd8, qd9, qe, qe0, qe1, qe2, qe3, qe4, qe5, qe6, qe7, qe8, qe9, qf, finish, qf0, resOf, resa, qf1, qf2, qf3, keep, qf4, qf5, qf6, rr, Tryd.f90]
theorem e77t (d : Nat) (tg0 tg1 tg2 : Tg) (c c0 c1 c2 : Option Nat) (x a0 a1 a2 a3 a4 a5 a6 a7 b0 b1 b2 : Int) : evFun E (d+2) 77 [.sl .snap 1 3 c [.sl tg0 1 1 c0 [iv .u8 x], .sl tg1 1 8 c1 [iv .u8 a0, iv .u8 a1, iv .u8 a2, iv .u8 a3, iv .u8 a4, iv .u8 a5, iv .u8 a6, iv .u8 a7], .sl tg2 1 3 c2 [iv .u8 b0, iv .u8 b1, iv .u8 b2]]] [] = some (.ref 0 [] 1 0 12 none, [some [iv .u8 x, iv .u8 a0, iv .u8 a1, iv .u8 a2, iv .u8 a3, iv .u8 a4, iv .u8 a5, iv .u8 a6, iv .u8 a7, iv .u8 b0, iv .u8 b1, iv .u8 b2]]) := by
  refine evFun_body b77 ?_
  simp only [vv, cc, ff, uu, norm, qa, qa0, clash, meets, execOp, evBox, opnd, qa1, bin, convHM, qa2, qa3, qa4, qa5, qa6, qa7, zOK, qa8, qa9, borL, isSl, qb, qb0, qb1, qb2, qb3, qb4, cellsOf, TD.agg, qb5, qb6, qb7, qb8, qb9, qc, qc0, qc1, setAt, qc2, qc3, qc4, getR, qc5, qc6, qc7, qc8, qc9, Array.toList, List.map, Option.isSome_none, bne_self_eq_false, reduceIte, reduceCtorEq, Nat.reduceEqDiff, Nat.reduceAdd, Nat.reduceMul, Nat.reduceSub, Nat.reduceBEq, Nat.reduceLeDiff, Int.reduceEq, Int.reduceLT, Int.reduceLE, Int.reduceGE, Int.reduceGT, Int.reduceBEq, Int.reduceBNe, Int.reduceToNat, Int.reduceNeg, Int.reduceSub, Int.reduceAdd, Int.reduceMul, qd, qd0, qd1, qd2, qd3, qd4, qd5, qd6, qd7, qd8, qd9, qe, qe0, qe1, qe2, qe3, qe4, qe5, qe6, qe7, qe8, qe9, qf, finish, qf0, resOf, resa, qf1, qf2, qf3, keep, qf4, qf5, qf6, rr, Tryd.f77, e90t, Nat.reduceLT]
theorem buf_exp (v m a : Int) (p : List Int) : buf v m a p 0 = [iv .u8 2, iv .u8 (w8 (shrI v 56)), iv .u8 (w8 (shrI v 48)), iv .u8 (w8 (shrI v 40)), iv .u8 (w8 (shrI v 32)), iv .u8 (w8 (shrI v 24)), iv .u8 (w8 (shrI v 16)), iv .u8 (w8 (shrI v 8)), iv .u8 (w8 v), iv .u8 (w8 m), iv .u8 (w8 a), iv .u8 (w8 p.length)] := rfl
theorem e44 (d : Nat) (k v m a : Int) (sh p : List Int) (c1 c2 : Option Nat) (hl : sh.length ≤ 1048576) (hl2 : p.length ≤ 1048576) (ho : sayOk k v sh.length m a p = true) : evFun E (d+3) 44 [sayV .snap k v sh c1 m a p c2] [] = some (.ref 0 [] 1 0 (pyN k sh.length p.length) (if k = 2 then none else some 1), [some (pyC k v m a sh p)]) := by
  refine evFun_body b44 ?_
  have hl3 : p.length ≤ 2 ^ 39 := by omega
  by_cases hk : k = 2
  · subst hk
    simp only [sayOk, reduceIte, Bool.and_eq_true, decide_eq_true_eq, Bool.not_eq_true'] at ho
    have hv : 0 ≤ v := by omega
    simp only [vv, cc, qa, qa0, clash, meets, execOp, evBox, opnd, qa1, bin, convHM, qa2, qa3, qa4, qa5, qa6, qa7, zOK, qa8, qa9, borL, isSl, qb, qb0, qb1, qb2, qb3, qb4, cellsOf, TD.agg, qb5, qb6, qb7, qb8, qb9, qc, qc0, qc1, setAt, qc2, qc3, qc4, getR, qc5, qc6, qc7, qc8, qc9, Array.toList, List.map, Option.isSome_none, bne_self_eq_false, reduceIte, reduceCtorEq, Nat.reduceEqDiff, Nat.reduceAdd, Nat.reduceMul, Nat.reduceSub, Nat.reduceBEq, Nat.reduceLeDiff, Int.reduceEq, Int.reduceLT, Int.reduceLE, Int.reduceGE, Int.reduceGT, Int.reduceBEq, Int.reduceBNe, Int.reduceToNat, Int.reduceNeg, Int.reduceSub, Int.reduceAdd, Int.reduceMul, qd, qd0, qd1, qd2, qd3, qd4, qd5, qd6, qd7, qd8, qd9, qe, qe0, qe1, qe2, qe3, qe4, qe5, qe6, qe7, qe8, qe9, qf, rr, Tryd.f44, e78 _ v hv, eightL, e77t]
    repeat' ((with_reducible refine qg9 ?_ ?_); (focus kernel_rfl); try simp (maxDischargeDepth := 8) only [vv, cc, bb, qa, qa0, clash, meets, execOp, evBox, opnd, qa1, bin, convHM, qa2, qa3, qa4, qa5, qa6, qa7, zOK, qa8, qa9, borL, isSl, qb, qb0, qb1, qb2, qb3, qb4, cellsOf, TD.agg, qb5, qb6, qb7, qb8, qb9, qc, qc0, qc1, setAt, qc2, qc3, qc4, getR, qc5, qc6, qc7, qc8, qc9, Array.toList, List.map, Option.isSome_none, bne_self_eq_false, reduceIte, reduceCtorEq, Nat.reduceEqDiff, Nat.reduceAdd, Nat.reduceMul, Nat.reduceSub, Nat.reduceBEq, Nat.reduceLeDiff, Int.reduceEq, Int.reduceLT, Int.reduceLE, Int.reduceGE, Int.reduceGT, Int.reduceBEq, Int.reduceBNe, Int.reduceToNat, Int.reduceNeg, Int.reduceSub, Int.reduceAdd, Int.reduceMul, qd, qd0, qd1, qd2, qd3, qd4, qd5, qd6, qd7, qd8, qd9, qe, qe0, qe1, qe2, qe3, qe4, qe5, qe6, qe7, qe8, qe9, qf, rr, e78 _ v hv, eightL, e77t])
    refine loop_go (fun i => {T := tp [(1, .ptr 0 [] 0), (3, .ref 1 [] 1 0 (12 + 8 * i) none), (31, .sl .snap 1 p.length c2 (p.map (iv .i64))), (32, vi p.length), (33, vi i)], H := hp [some [vi 2, vi v, .sl .snap 1 sh.length c1 (sh.map (iv .u8)), vi m, vi a, .sl .snap 1 p.length c2 (p.map (iv .i64))], some (buf v m a p i)], nx := 2}) p.length ?_ (lt_LF hl3) (fun i hi Kn hK => ?_) (fun Kn => ?_)
    · simp only [vv, ff, norm, Array.toList, List.map, Option.isSome_none, bne_self_eq_false, reduceIte, reduceCtorEq, Nat.reduceEqDiff, Nat.reduceAdd, Nat.reduceMul, Nat.reduceSub, Nat.reduceBEq, Nat.reduceLeDiff, Int.reduceEq, Int.reduceLT, Int.reduceLE, Int.reduceGE, Int.reduceGT, Int.reduceBEq, Int.reduceBNe, Int.reduceToNat, Int.reduceNeg, Int.reduceSub, Int.reduceAdd, Int.reduceMul, finish, qf0, resOf, resa, qf1, qf2, qf3, keep, qf4, qf5, qf6, qe9, qf, Int.natCast_zero, buf_exp, Nat.mul_zero, Nat.add_zero]
    · have hL1 : 12 + 8 * i + 8 ≤ 549755813888 := by omega
      have hpi : 0 ≤ p[i] := by
        have := List.any_eq_false.mp ho.2 p[i] (List.getElem_mem _)
        simp [bad] at this; omega
      simp only [vv, cc, qa, qa0, clash, meets, execOp, evBox, opnd, qa1, bin, convHM, qa2, qa3, qa4, qa5, qa6, qa7, zOK, qa8, qa9, borL, isSl, qb, qb0, qb1, qb2, qb3, qb4, cellsOf, TD.agg, qb5, qb6, qb7, qb8, qb9, qc, qc0, qc1, setAt, qc2, qc3, qc4, getR, qc5, qc6, qc7, qc8, qc9, Array.toList, List.map, Option.isSome_none, bne_self_eq_false, reduceIte, reduceCtorEq, Nat.reduceEqDiff, Nat.reduceAdd, Nat.reduceMul, Nat.reduceSub, Nat.reduceBEq, Nat.reduceLeDiff, Int.reduceEq, Int.reduceLT, Int.reduceLE, Int.reduceGE, Int.reduceGT, Int.reduceBEq, Int.reduceBNe, Int.reduceToNat, Int.reduceNeg, Int.reduceSub, Int.reduceAdd, Int.reduceMul, qd, qd0, qd1, qd2, qd3, qd4, qd5, qd6, qd7, qd8, qd9, qe, qe0, qe1, qe2, qe3, qe4, qe5, qe6, qe7, qe8, qe9, qf, rr, lt_ok hi, map_get hi, e78 _ _ hpi, tk8, eight_len, List.length_map, anyOwn_iv, dself, buf_len p (Nat.le_of_lt hi), buf_succ p hi, wrap_succ hi hl3, limN hL1]
      refine hK _ ?_
      simp only [vv, ff, norm, Array.toList, List.map, Option.isSome_none, bne_self_eq_false, reduceIte, reduceCtorEq, Nat.reduceEqDiff, Nat.reduceAdd, Nat.reduceMul, Nat.reduceSub, Nat.reduceBEq, Nat.reduceLeDiff, Int.reduceEq, Int.reduceLT, Int.reduceLE, Int.reduceGE, Int.reduceGT, Int.reduceBEq, Int.reduceBNe, Int.reduceToNat, Int.reduceNeg, Int.reduceSub, Int.reduceAdd, Int.reduceMul, finish, qf0, resOf, resa, qf1, qf2, qf3, keep, qf4, qf5, qf6, qe9, qf, Nat.mul_succ, Nat.add_assoc]
    · have hL2 : 12 + 8 * p.length + sh.length ≤ 549755813888 := by omega
      simp only [vv, cc, qa, qa0, clash, meets, execOp, evBox, opnd, qa1, bin, convHM, qa2, qa3, qa4, qa5, qa6, qa7, zOK, qa8, qa9, borL, isSl, qb, qb0, qb1, qb2, qb3, qb4, cellsOf, TD.agg, qb5, qb6, qb7, qb8, qb9, qc, qc0, qc1, setAt, qc2, qc3, qc4, getR, qc5, qc6, qc7, qc8, qc9, Array.toList, List.map, Option.isSome_none, bne_self_eq_false, reduceIte, reduceCtorEq, Nat.reduceEqDiff, Nat.reduceAdd, Nat.reduceMul, Nat.reduceSub, Nat.reduceBEq, Nat.reduceLeDiff, Int.reduceEq, Int.reduceLT, Int.reduceLE, Int.reduceGE, Int.reduceGT, Int.reduceBEq, Int.reduceBNe, Int.reduceToNat, Int.reduceNeg, Int.reduceSub, Int.reduceAdd, Int.reduceMul, qd, qd0, qd1, qd2, qd3, qd4, qd5, qd6, qd7, qd8, qd9, qe, qe0, qe1, qe2, qe3, qe4, qe5, qe6, qe7, qe8, qe9, qf, rr, lt_no, limN hL2, buf_len p (Nat.le_refl _), dself, anyOwn_iv, tk_full]
      simp only [vv, ff, qa, qa0, clash, meets, execOp, evBox, opnd, qa1, bin, convHM, qa2, qa3, qa4, qa5, qa6, qa7, zOK, qa8, qa9, borL, isSl, qb, qb0, qb1, qb2, qb3, qb4, cellsOf, TD.agg, qb5, qb6, qb7, qb8, qb9, qc, qc0, qc1, setAt, qc2, qc3, qc4, getR, qc5, qc6, qc7, qc8, qc9, Array.toList, List.map, Option.isSome_none, bne_self_eq_false, reduceIte, reduceCtorEq, Nat.reduceEqDiff, Nat.reduceAdd, Nat.reduceMul, Nat.reduceSub, Nat.reduceBEq, Nat.reduceLeDiff, Int.reduceEq, Int.reduceLT, Int.reduceLE, Int.reduceGE, Int.reduceGT, Int.reduceBEq, Int.reduceBNe, Int.reduceToNat, Int.reduceNeg, Int.reduceSub, Int.reduceAdd, Int.reduceMul, finish, qf0, resOf, resa, qf1, qf2, qf3, keep, qf4, qf5, qf6, qe9, qf, rr, pyC, pyN, reduceIte, buf, anySl_iv, py_map2, noSnapL_iv]
  · have hne : (k != 2) = true := by simpa using hk
    simp only [vv, cc, qa, qa0, clash, meets, execOp, evBox, opnd, qa1, bin, convHM, qa2, qa3, qa4, qa5, qa6, qa7, zOK, qa8, qa9, borL, isSl, qb, qb0, qb1, qb2, qb3, qb4, cellsOf, TD.agg, qb5, qb6, qb7, qb8, qb9, qc, qc0, qc1, setAt, qc2, qc3, qc4, getR, qc5, qc6, qc7, qc8, qc9, Array.toList, List.map, Option.isSome_none, bne_self_eq_false, reduceIte, reduceCtorEq, Nat.reduceEqDiff, Nat.reduceAdd, Nat.reduceMul, Nat.reduceSub, Nat.reduceBEq, Nat.reduceLeDiff, Int.reduceEq, Int.reduceLT, Int.reduceLE, Int.reduceGE, Int.reduceGT, Int.reduceBEq, Int.reduceBNe, Int.reduceToNat, Int.reduceNeg, Int.reduceSub, Int.reduceAdd, Int.reduceMul, qd, qd0, qd1, qd2, qd3, qd4, qd5, qd6, qd7, qd8, qd9, qe, qe0, qe1, qe2, qe3, qe4, qe5, qe6, qe7, qe8, qe9, qf, rr, Tryd.f44, hne]
    simp only [vv, ff, qa, qa0, clash, meets, execOp, evBox, opnd, qa1, bin, convHM, qa2, qa3, qa4, qa5, qa6, qa7, zOK, qa8, qa9, borL, isSl, qb, qb0, qb1, qb2, qb3, qb4, cellsOf, TD.agg, qb5, qb6, qb7, qb8, qb9, qc, qc0, qc1, setAt, qc2, qc3, qc4, getR, qc5, qc6, qc7, qc8, qc9, Array.toList, List.map, Option.isSome_none, bne_self_eq_false, reduceIte, reduceCtorEq, Nat.reduceEqDiff, Nat.reduceAdd, Nat.reduceMul, Nat.reduceSub, Nat.reduceBEq, Nat.reduceLeDiff, Int.reduceEq, Int.reduceLT, Int.reduceLE, Int.reduceGE, Int.reduceGT, Int.reduceBEq, Int.reduceBNe, Int.reduceToNat, Int.reduceNeg, Int.reduceSub, Int.reduceAdd, Int.reduceMul, finish, qf0, resOf, resa, qf1, qf2, qf3, keep, qf4, qf5, qf6, qe9, qf, rr, pyC, pyN, if_neg hk, w8]
theorem e13 (d : Nat) (k v m a : Int) (sh p : List Int) (c1 c2 : Option Nat) (hl : sh.length ≤ 1048576) (hl2 : p.length ≤ 1048576) (ho : sayOk k v sh.length m a p = true) : evFun E (d+7) 13 [sayV .snap k v sh c1 m a p c2] [] = some (.tup [.ref 0 [] 1 0 (pyN k sh.length p.length) (if k = 2 then none else some 1), vb true], [some (pyC k v m a sh p)]) := by
  refine evFun_body b13 ?_
  have hl3 : p.length ≤ 2 ^ 39 := by omega
  simp only [vv, cc, qa, qa0, clash, meets, execOp, evBox, opnd, qa1, bin, convHM, qa2, qa3, qa4, qa5, qa6, qa7, zOK, qa8, qa9, borL, isSl, qb, qb0, qb1, qb2, qb3, qb4, cellsOf, TD.agg, qb5, qb6, qb7, qb8, qb9, qc, qc0, qc1, setAt, qc2, qc3, qc4, getR, qc5, qc6, qc7, qc8, qc9, Array.toList, List.map, Option.isSome_none, bne_self_eq_false, reduceIte, reduceCtorEq, Nat.reduceEqDiff, Nat.reduceAdd, Nat.reduceMul, Nat.reduceSub, Nat.reduceBEq, Nat.reduceLeDiff, Int.reduceEq, Int.reduceLT, Int.reduceLE, Int.reduceGE, Int.reduceGT, Int.reduceBEq, Int.reduceBNe, Int.reduceToNat, Int.reduceNeg, Int.reduceSub, Int.reduceAdd, Int.reduceMul, qd, qd0, qd1, qd2, qd3, qd4, qd5, qd6, qd7, qd8, qd9, qe, qe0, qe1, qe2, qe3, qe4, qe5, qe6, qe7, qe8, qe9, qf, rr, Tryd.f13, e16 _ _ _ _ _ _ _ _ _ hl3, ho, e44 _ _ _ _ _ _ _ _ _ hl hl2 ho]
  simp only [vv, ff, qa, qa0, clash, meets, execOp, evBox, opnd, qa1, bin, convHM, qa2, qa3, qa4, qa5, qa6, qa7, zOK, qa8, qa9, borL, isSl, qb, qb0, qb1, qb2, qb3, qb4, cellsOf, TD.agg, qb5, qb6, qb7, qb8, qb9, qc, qc0, qc1, setAt, qc2, qc3, qc4, getR, qc5, qc6, qc7, qc8, qc9, Array.toList, List.map, Option.isSome_none, bne_self_eq_false, reduceIte, reduceCtorEq, Nat.reduceEqDiff, Nat.reduceAdd, Nat.reduceMul, Nat.reduceSub, Nat.reduceBEq, Nat.reduceLeDiff, Int.reduceEq, Int.reduceLT, Int.reduceLE, Int.reduceGE, Int.reduceGT, Int.reduceBEq, Int.reduceBNe, Int.reduceToNat, Int.reduceNeg, Int.reduceSub, Int.reduceAdd, Int.reduceMul, finish, qf0, resOf, resa, qf1, qf2, qf3, keep, qf4, qf5, qf6, qe9, qf, rr, pyC_map, noSnapL_iv]
theorem e13n (d : Nat) (k v m a : Int) (sh p : List Int) (c1 c2 : Option Nat) (hl2 : p.length ≤ 1048576) (ho : sayOk k v sh.length m a p = false) : evFun E (d+7) 13 [sayV .snap k v sh c1 m a p c2] [] = some (.tup [.val qc6, vb false], []) := by
  refine evFun_body b13 ?_
  have hl3 : p.length ≤ 2 ^ 39 := by omega
  simp only [vv, cc, qa, qa0, clash, meets, execOp, evBox, opnd, qa1, bin, convHM, qa2, qa3, qa4, qa5, qa6, qa7, zOK, qa8, qa9, borL, isSl, qb, qb0, qb1, qb2, qb3, qb4, cellsOf, TD.agg, qb5, qb6, qb7, qb8, qb9, qc, qc0, qc1, setAt, qc2, qc3, qc4, getR, qc5, qc6, qc7, qc8, qc9, Array.toList, List.map, Option.isSome_none, bne_self_eq_false, reduceIte, reduceCtorEq, Nat.reduceEqDiff, Nat.reduceAdd, Nat.reduceMul, Nat.reduceSub, Nat.reduceBEq, Nat.reduceLeDiff, Int.reduceEq, Int.reduceLT, Int.reduceLE, Int.reduceGE, Int.reduceGT, Int.reduceBEq, Int.reduceBNe, Int.reduceToNat, Int.reduceNeg, Int.reduceSub, Int.reduceAdd, Int.reduceMul, qd, qd0, qd1, qd2, qd3, qd4, qd5, qd6, qd7, qd8, qd9, qe, qe0, qe1, qe2, qe3, qe4, qe5, qe6, qe7, qe8, qe9, qf, rr, Tryd.f13, e16 _ _ _ _ _ _ _ _ _ hl3, ho]
  simp only [vv, ff, qa, qa0, clash, meets, execOp, evBox, opnd, qa1, bin, convHM, qa2, qa3, qa4, qa5, qa6, qa7, zOK, qa8, qa9, borL, isSl, qb, qb0, qb1, qb2, qb3, qb4, cellsOf, TD.agg, qb5, qb6, qb7, qb8, qb9, qc, qc0, qc1, setAt, qc2, qc3, qc4, getR, qc5, qc6, qc7, qc8, qc9, Array.toList, List.map, Option.isSome_none, bne_self_eq_false, reduceIte, reduceCtorEq, Nat.reduceEqDiff, Nat.reduceAdd, Nat.reduceMul, Nat.reduceSub, Nat.reduceBEq, Nat.reduceLeDiff, Int.reduceEq, Int.reduceLT, Int.reduceLE, Int.reduceGE, Int.reduceGT, Int.reduceBEq, Int.reduceBNe, Int.reduceToNat, Int.reduceNeg, Int.reduceSub, Int.reduceAdd, Int.reduceMul, finish, qf0, resOf, resa, qf1, qf2, qf3, keep, qf4, qf5, qf6, qe9, qf, rr, qc6]
theorem pyN_pos (k : Int) {n1 n2 : Nat} : 0 < pyN k n1 n2 := by
  unfold pyN; split <;> omega
end Go.Proofs.YtgdldmfkgijkaaaDoor.VH.S
end

section
namespace Go.Proofs.YtgdldmfkgijkaaaDoor.VH.S
open Go.Proofs
set_option maxRecDepth 100000
set_option maxHeartbeats 4000000
set_option linter.unusedSimpArgs false

def fgL (k v m a : Int) (sh p : List Int) (x y : Int) : List Int := (pyL k v m a sh p).set (x.toNat % pyN k sh.length p.length) y
def fgC (k v m a : Int) (sh p : List Int) (x y : Int) : List AV := (fgL k v m a sh p x y).map (iv .u8)
theorem set_map (l : List Int) (i : Nat) (y : Int) : (l.map (iv .u8)).set i (iv .u8 y) = (l.set i y).map (iv .u8) := by rw [List.map_set]
theorem fg_at {x : Int} {N : Nat} (hx : 0 ≤ x) : x.tmod (N : Int) = ((x.toNat % N : Nat) : Int) := by
  rw [Int.tmod_eq_emod_of_nonneg hx]
  conv => lhs; rw [← Int.toNat_of_nonneg hx]
  norm_cast
theorem fgC_len (k v m a : Int) (sh p : List Int) (x y : Int) : (fgC k v m a sh p x y).length = pyN k sh.length p.length := by
  rw [fgC, List.length_map, fgL, List.length_set, pyL_len]
theorem e19 (d : Nat) (k v m a : Int) (sh p : List Int) (c1 c2 : Option Nat) (x y : Int) (hl : sh.length ≤ 1048576) (hl2 : p.length ≤ 1048576) (ho : sayOk k v sh.length m a p = true) (hx : 0 ≤ x) : evFun E (d+7) 19 [sayV .snap k v sh c1 m a p c2, vi x, .val (.int .u8 y)] [] = some (.tup [.ref 0 [] 1 0 (pyN k sh.length p.length) (if k = 2 then none else some 1), vb true], [some (fgC k v m a sh p x y)]) := by
  refine evFun_body b19 ?_
  have hl3 : p.length ≤ 2 ^ 39 := by omega
  have d1 : decide (x < 0) = false := by simp; omega
  have hp0 : 0 < pyN k sh.length p.length := pyN_pos k
  have d2 : decide (((pyN k sh.length p.length : Nat) : Int) = 0) = false := by simp; omega
  have hlt : x.toNat % pyN k sh.length p.length < pyN k sh.length p.length := Nat.mod_lt _ hp0
  have hcl : (pyC k v m a sh p).length = pyN k sh.length p.length := by rw [pyC_map, List.length_map, pyL_len]
  have d3 : decide (x.toNat % pyN k sh.length p.length + 1 ≤ (pyC k v m a sh p).length) = true := by rw [hcl]; exact decide_eq_true hlt
  have hset : (pyC k v m a sh p).set (x.toNat % pyN k sh.length p.length) (.val (.int .u8 y)) = fgC k v m a sh p x y := by
    rw [pyC_map]; exact set_map _ _ _
  simp only [vv, cc, qa, qa0, clash, meets, execOp, evBox, opnd, qa1, bin, convHM, qa2, qa3, qa4, qa5, qa6, qa7, zOK, qa8, qa9, borL, isSl, qb, qb0, qb1, qb2, qb3, qb4, cellsOf, TD.agg, qb5, qb6, qb7, qb8, qb9, qc, qc0, qc1, setAt, qc2, qc3, qc4, getR, qc5, qc6, qc7, qc8, qc9, Array.toList, List.map, Option.isSome_none, bne_self_eq_false, reduceIte, reduceCtorEq, Nat.reduceEqDiff, Nat.reduceAdd, Nat.reduceMul, Nat.reduceSub, Nat.reduceBEq, Nat.reduceLeDiff, Int.reduceEq, Int.reduceLT, Int.reduceLE, Int.reduceGE, Int.reduceGT, Int.reduceBEq, Int.reduceBNe, Int.reduceToNat, Int.reduceNeg, Int.reduceSub, Int.reduceAdd, Int.reduceMul, qd, qd0, qd1, qd2, qd3, qd4, qd5, qd6, qd7, qd8, qd9, qe, qe0, qe1, qe2, qe3, qe4, qe5, qe6, qe7, qe8, qe9, qf, rr, Tryd.f19, e16 _ _ _ _ _ _ _ _ _ hl3, ho, e44 _ _ _ _ _ _ _ _ _ hl hl2 ho, d1, d2, fg_at hx, lt_ok hlt, d3, hset]
  simp only [vv, ff, qa, qa0, clash, meets, execOp, evBox, opnd, qa1, bin, convHM, qa2, qa3, qa4, qa5, qa6, qa7, zOK, qa8, qa9, borL, isSl, qb, qb0, qb1, qb2, qb3, qb4, cellsOf, TD.agg, qb5, qb6, qb7, qb8, qb9, qc, qc0, qc1, setAt, qc2, qc3, qc4, getR, qc5, qc6, qc7, qc8, qc9, Array.toList, List.map, Option.isSome_none, bne_self_eq_false, reduceIte, reduceCtorEq, Nat.reduceEqDiff, Nat.reduceAdd, Nat.reduceMul, Nat.reduceSub, Nat.reduceBEq, Nat.reduceLeDiff, Int.reduceEq, Int.reduceLT, Int.reduceLE, Int.reduceGE, Int.reduceGT, Int.reduceBEq, Int.reduceBNe, Int.reduceToNat, Int.reduceNeg, Int.reduceSub, Int.reduceAdd, Int.reduceMul, finish, qf0, resOf, resa, qf1, qf2, qf3, keep, qf4, qf5, qf6, qe9, qf, rr, fgC, noSnapL_iv]
theorem e19n (d : Nat) (k v m a : Int) (sh p : List Int) (c1 c2 : Option Nat) (x y : Int) (hl2 : p.length ≤ 1048576) (ho : sayOk k v sh.length m a p = false ∨ x < 0) : evFun E (d+7) 19 [sayV .snap k v sh c1 m a p c2, vi x, .val (.int .u8 y)] [] = some (.tup [.val qc6, vb false], []) := by
  refine evFun_body b19 ?_
  have hl3 : p.length ≤ 2 ^ 39 := by omega
  cases hs : sayOk k v sh.length m a p with
  | false =>
    simp only [vv, cc, qa, qa0, clash, meets, execOp, evBox, opnd, qa1, bin, convHM, qa2, qa3, qa4, qa5, qa6, qa7, zOK, qa8, qa9, borL, isSl, qb, qb0, qb1, qb2, qb3, qb4, cellsOf, TD.agg, qb5, qb6, qb7, qb8, qb9, qc, qc0, qc1, setAt, qc2, qc3, qc4, getR, qc5, qc6, qc7, qc8, qc9, Array.toList, List.map, Option.isSome_none, bne_self_eq_false, reduceIte, reduceCtorEq, Nat.reduceEqDiff, Nat.reduceAdd, Nat.reduceMul, Nat.reduceSub, Nat.reduceBEq, Nat.reduceLeDiff, Int.reduceEq, Int.reduceLT, Int.reduceLE, Int.reduceGE, Int.reduceGT, Int.reduceBEq, Int.reduceBNe, Int.reduceToNat, Int.reduceNeg, Int.reduceSub, Int.reduceAdd, Int.reduceMul, qd, qd0, qd1, qd2, qd3, qd4, qd5, qd6, qd7, qd8, qd9, qe, qe0, qe1, qe2, qe3, qe4, qe5, qe6, qe7, qe8, qe9, qf, rr, Tryd.f19, e16 _ _ _ _ _ _ _ _ _ hl3, hs]
    simp only [vv, ff, qa, qa0, clash, meets, execOp, evBox, opnd, qa1, bin, convHM, qa2, qa3, qa4, qa5, qa6, qa7, zOK, qa8, qa9, borL, isSl, qb, qb0, qb1, qb2, qb3, qb4, cellsOf, TD.agg, qb5, qb6, qb7, qb8, qb9, qc, qc0, qc1, setAt, qc2, qc3, qc4, getR, qc5, qc6, qc7, qc8, qc9, Array.toList, List.map, Option.isSome_none, bne_self_eq_false, reduceIte, reduceCtorEq, Nat.reduceEqDiff, Nat.reduceAdd, Nat.reduceMul, Nat.reduceSub, Nat.reduceBEq, Nat.reduceLeDiff, Int.reduceEq, Int.reduceLT, Int.reduceLE, Int.reduceGE, Int.reduceGT, Int.reduceBEq, Int.reduceBNe, Int.reduceToNat, Int.reduceNeg, Int.reduceSub, Int.reduceAdd, Int.reduceMul, finish, qf0, resOf, resa, qf1, qf2, qf3, keep, qf4, qf5, qf6, qe9, qf, rr, qc6]
  | true =>
    have d1 : decide (x < 0) = true := by
      rcases ho with h | h
      · rw [hs] at h; exact absurd h (by simp)
      · exact decide_eq_true h
    simp only [vv, cc, qa, qa0, clash, meets, execOp, evBox, opnd, qa1, bin, convHM, qa2, qa3, qa4, qa5, qa6, qa7, zOK, qa8, qa9, borL, isSl, qb, qb0, qb1, qb2, qb3, qb4, cellsOf, TD.agg, qb5, qb6, qb7, qb8, qb9, qc, qc0, qc1, setAt, qc2, qc3, qc4, getR, qc5, qc6, qc7, qc8, qc9, Array.toList, List.map, Option.isSome_none, bne_self_eq_false, reduceIte, reduceCtorEq, Nat.reduceEqDiff, Nat.reduceAdd, Nat.reduceMul, Nat.reduceSub, Nat.reduceBEq, Nat.reduceLeDiff, Int.reduceEq, Int.reduceLT, Int.reduceLE, Int.reduceGE, Int.reduceGT, Int.reduceBEq, Int.reduceBNe, Int.reduceToNat, Int.reduceNeg, Int.reduceSub, Int.reduceAdd, Int.reduceMul, qd, qd0, qd1, qd2, qd3, qd4, qd5, qd6, qd7, qd8, qd9, qe, qe0, qe1, qe2, qe3, qe4, qe5, qe6, qe7, qe8, qe9, qf, rr, Tryd.f19, e16 _ _ _ _ _ _ _ _ _ hl3, hs, d1]
    simp only [vv, ff, qa, qa0, clash, meets, execOp, evBox, opnd, qa1, bin, convHM, qa2, qa3, qa4, qa5, qa6, qa7, zOK, qa8, qa9, borL, isSl, qb, qb0, qb1, qb2, qb3, qb4, cellsOf, TD.agg, qb5, qb6, qb7, qb8, qb9, qc, qc0, qc1, setAt, qc2, qc3, qc4, getR, qc5, qc6, qc7, qc8, qc9, Array.toList, List.map, Option.isSome_none, bne_self_eq_false, reduceIte, reduceCtorEq, Nat.reduceEqDiff, Nat.reduceAdd, Nat.reduceMul, Nat.reduceSub, Nat.reduceBEq, Nat.reduceLeDiff, Int.reduceEq, Int.reduceLT, Int.reduceLE, Int.reduceGE, Int.reduceGT, Int.reduceBEq, Int.reduceBNe, Int.reduceToNat, Int.reduceNeg, Int.reduceSub, Int.reduceAdd, Int.reduceMul, finish, qf0, resOf, resa, qf1, qf2, qf3, keep, qf4, qf5, qf6, qe9, qf, rr, qc6]
end Go.Proofs.YtgdldmfkgijkaaaDoor.VH.S
end

section
namespace Go.Proofs.YtgdldmfkgijkaaaDoor.VH.S
open Go.Proofs
set_option maxRecDepth 100000
set_option maxHeartbeats 4000000
set_option linter.unusedSimpArgs false

end Go.Proofs.YtgdldmfkgijkaaaDoor.VH.S
end

section
namespace Go.Proofs.YtgdldmfkgijkaaaDoor.VH.S
open Go.Proofs
set_option maxRecDepth 100000
set_option maxHeartbeats 4000000
set_option linter.unusedSimpArgs false

def pX (l : List Int) (i : Nat) : Int := numB ((l.drop (12 + 8 * i)).take 8)
def pB (l : List Int) (n : Nat) : Bool := (List.range n).any fun i => decide (1152921504606846976 ≤ pX l i)
def gV (l : List Int) : Int := numB ((l.drop 1).take 8)
inductive GO where
  | err (c : Int)
  | kind (k : Int)
  | say (v m a : Int) (sh : List AV) (p : List Int)
def g4 (l : List Int) : Bool := decide (1000000 < gV l) || !(decide (at0 l 9 ≥ 1) && decide (at0 l 9 ≤ 8)) || decide (at0 l 10 ≥ at0 l 9) || decide (at0 l 11 > 4)
def gsO (cs : List AV) : GO :=
  if cs.length = 0 then .err 1 else if cs.length > 600 then .err 5 else if at0 (un cs) 0 > 3 then .err 2 else
  if at0 (un cs) 0 ≠ 2 then (if cs.length > 1 then .err 5 else .kind (at0 (un cs) 0)) else
  if (cs.length : Int) < 13 then .err 3 else if (cs.length : Int) < 13 + 8 * at0 (un cs) 11 then .err 3 else
  if g4 (un cs) = true then .err 4 else if pB (un cs) (at0 (un cs) 11).toNat = true then .err 4 else
  if cs.length - (12 + 8 * (at0 (un cs) 11).toNat) > 200 then .err 5 else
  .say (gV (un cs)) (at0 (un cs) 9) (at0 (un cs) 10) (cs.drop (12 + 8 * (at0 (un cs) 11).toNat)) ((List.range (at0 (un cs) 11).toNat).map (pX (un cs)))
abbrev z6 : List AV := [vi 0, vi 0, .val qc6, vi 0, vi 0, .val qc6]
def gsA : GO → AV
  | .err c => .tup [.agg z6, vi c]
  | .kind k => .tup [.agg [vi k, vi 0, .val qc6, vi 0, vi 0, .val qc6], vi 0]
  | .say v m a sh p => .tup [.agg [vi 2, vi v, .ref 0 [2] 1 0 sh.length none, vi m, vi a, if p.length = 0 then .val qc6 else .ref 0 [5] 1 0 p.length none], vi 0]
def gsC : GO → List (Option (List AV))
  | .err _ => []
  | .kind _ => []
  | .say v m a sh p => [some [vi 2, vi v, .sl .own 1 sh.length none sh, vi m, vi a, if p.length = 0 then .val qc6 else .sl .own 1 p.length none (p.map (iv .i64))]]
def pathC (l : List Int) (i : Nat) : List AV := ((List.range i).map (pX l)).map (iv .i64)
theorem pathC_len (l : List Int) (i : Nat) : (pathC l i).length = i := by simp [pathC]
theorem pathC_take (l : List Int) (i : Nat) : (pathC l i).take i = pathC l i := List.take_of_length_le (by rw [pathC_len]; exact Nat.le_refl _)
theorem pathC_own (l : List Int) (i : Nat) : (pathC l i).any qb8 = false := anyOwn_iv _ _
end Go.Proofs.YtgdldmfkgijkaaaDoor.VH.S
end

