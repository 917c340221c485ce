/- Part of a proof about the given program: a verified evaluator, and what it tells of the functions (VhJFDg, VhJFDh, VhJFCrN, VhJFDi). Conditions: none beyond the hypotheses that each theorem states. -/
import Derived.Test.YtgdldmfkgijkaaaDoorG5
set_option linter.unusedSimpArgs false
set_option linter.unusedVariables false
set_option linter.defProp false
section
namespace Go.Proofs.YtgdldmfkgijkaaaDoor.VH.S
open Go.Proofs
set_option maxRecDepth 100000
set_option maxHeartbeats 8000000
set_option linter.unusedSimpArgs false

/- Right catalogs drawn, and drawn bytes of catalogs. -/
/- reducible -/
theorem x26 (d : Nat) (b : List Int) (hb : b.length ≤ 2 ^ 39) : ∃ L c, evFun E (d+8) 26 [.sl .fgn 1 b.length none (b.map (iv .u8))] [] = some (.ref 0 [] 4 0 L.length c, [some (flat encE L)]) ∧ catOK L = true ∧ Nms L := by
  have hD := e64 d b (0, newH b (newN b)) hb
  have g1 := dcS_ok b (bel b 8 (0, newH b (newN b))).2 (bel b 8 (0, newH b (newN b))).1.toNat
  have g2 := dcS_nms b (bel b 8 (0, newH b (newN b))).2 (bel b 8 (0, newH b (newN b))).1.toNat
  generalize (dcS b (bel b 8 (0, newH b (newN b))).2 (bel b 8 (0, newH b (newN b))).1.toNat).1 = L at hD g1 g2
  generalize dcC b (bel b 8 (0, newH b (newN b))).2 (bel b 8 (0, newH b (newN b))).1.toNat = c at hD
  refine ⟨L, c, evFun_body b26 ?_, g1, g2⟩
  have hlen := fE_len L
  have hown := anyOwn_encE L
  have hsn := noSnapL_encE L
  (have fz := ga4 hD hlen hown hsn; repeat' (first | simp (maxDischargeDepth := 8) only [go_sem, rr, reduceIte, reduceCtorEq, Nat.reduceEqDiff, Nat.reduceAdd, Nat.reduceMul, Nat.reduceSub, Nat.reduceBEq, Nat.reduceLeDiff, Int.reduceEq, Int.reduceLT, Int.reduceLE, Int.reduceGE, Int.reduceGT, Int.reduceBEq, Int.reduceBNe, Int.reduceToNat, Int.reduceNeg, Int.reduceSub, Int.reduceAdd, Int.reduceMul, fz, cur_own, cur_snap, Tryd.f26] | (with_reducible refine qg9 ?_ ?_; focus (first | (simp (maxDischargeDepth := 8) only [bb, kk, fz, cur_own, cur_snap]; done) | kernel_rfl)) | ((with_reducible first | refine qf7 ?_ ?_ | refine qf8 ?_ ?_ | refine qf9 ?_ ?_ | refine qg ?_ ?_ | refine qg0 ?_ ?_ | refine qg1 ?_ ?_ | refine qg2 ?_ ?_); focus (first | with_reducible assumption | omega | (simp only [bz, fz, cur_own, cur_snap]; omega))) | ((with_reducible first | refine qg3 ?_ ?_ | refine qg4 ?_ ?_ | refine qg5 ?_ ?_); focus (first | with_reducible assumption | omega | (simp only [bz, fz, cur_own, cur_snap]; omega))) | ((with_reducible first | refine g1_u8w ?_ ?_ | refine qg7 ?_ ?_); (focus ((repeat' (with_reducible apply And.intro)) <;> (first | with_reducible assumption | omega | (simp only [bz, fz, cur_own, cur_snap]; omega) | (simp (maxDischargeDepth := 8) only [bb, fz, cur_own, cur_snap]; done)))); intro _) | (with_reducible apply call_elim; focus ((with_reducible first | apply e34) <;> (first | with_reducible assumption | omega | (simp only [bz, fz, cur_own, cur_snap]; omega) | (simp (maxDischargeDepth := 8) only [bb, fz, cur_own, cur_snap]; done))))))
theorem isK_setD {cs : List AV} (h : isK .u8 cs = true) (i : Nat) (y : Int) : isK .u8 (cs.set i (iv .u8 y)) = true := by
  rw [isK_get h, ← List.map_set]; exact isK_map _ _
theorem B8_setD {cs : List AV} (h : isK .u8 cs = true) (h8 : B8 (un cs)) (i : Nat) {y : Int} (hy : 0 ≤ y ∧ y < 256) : B8 (un (cs.set i (iv .u8 y))) := by
  rw [isK_get h, ← List.map_set, un_map]
  intro x hx
  rcases List.mem_or_eq_of_mem_set hx with hx | hx
  · exact h8 x hx
  · rw [hx]; exact hy
theorem x32 (d : Nat) (b : List Int) (hb : b.length ≤ 2 ^ 39) : ∃ cs n, evFun E (d+8) 32 [.sl .fgn 1 b.length none (b.map (iv .u8))] [] = some (.ref 0 [] 1 0 n none, [some cs]) ∧ isK .u8 cs = true ∧ B8 (un cs) ∧ n ≤ 106 ∧ cs.length = 106 := by
  have hD := e64 d b (0, newH b (newN b)) hb
  have g1 := dcS_ok b (bel b 8 (0, newH b (newN b))).2 (bel b 8 (0, newH b (newN b))).1.toNat
  have g2 := dcS_small b (bel b 8 (0, newH b (newN b))).2 (bel b 8 (0, newH b (newN b))).1.toNat
  generalize (dcS b (bel b 8 (0, newH b (newN b))).2 (bel b 8 (0, newH b (newN b))).1.toNat).1 = L at hD g1 g2
  generalize (dcS b (bel b 8 (0, newH b (newN b))).2 (bel b 8 (0, newH b (newN b))).1.toNat).2 = s at hD
  generalize dcC b (bel b 8 (0, newH b (newN b))).2 (bel b 8 (0, newH b (newN b))).1.toNat = c0 at hD
  have hlen := fE_len L
  have hown := anyOwn_encE L
  have hsn := noSnapL_encE L
  have hC : ∀ d tg c, evFun E (d+5) 71 [.sl tg 4 L.length c (flat encE L)] [] = _ := fun d tg c => e71 d L tg c g2 g1
  have hk := isK_catB L
  have h8 := b8_catB g1
  have hn := catB_len g1
  generalize catB L = cs at hC hk h8 hn
  have ho := isK_own hk
  have hs := isK_snap hk
  obtain ⟨w0, w1⟩ := bel_b b (n := 6) (by decide) s
  have c : (bel b 6 s).1 = 0 ∨ (bel b 6 s).1 = 1 ∨ (bel b 6 s).1 = 2 ∨ (bel b 6 s).1 = 3 ∨ 4 ≤ (bel b 6 s).1 := by omega
  rcases c with c | c | c | c | c
  · obtain ⟨k0, k1⟩ := bel_b b (n := 106) (by decide) (bel b 6 s).2
    have hy := by1_b b (bel b 106 (bel b 6 s).2).2
    have hx := isK_setD hk (bel b 106 (bel b 6 s).2).1.toNat (by1 b (bel b 106 (bel b 6 s).2).2).1
    have hs2 := isK_snap hx
    have ho2 := isK_own hx
    refine ⟨_, 106, evFun_body b32 ?_, hx, B8_setD hk h8 _ hy, Nat.le_refl _, by rw [List.length_set]; exact hn⟩
    (have fz := ga10 hD hC hn ho hs ho2 hs2 hlen hown hsn; repeat' (first | simp (maxDischargeDepth := 8) only [go_sem, rr, reduceIte, reduceCtorEq, Nat.reduceEqDiff, Nat.reduceAdd, Nat.reduceMul, Nat.reduceSub, Nat.reduceBEq, Nat.reduceLeDiff, Int.reduceEq, Int.reduceLT, Int.reduceLE, Int.reduceGE, Int.reduceGT, Int.reduceBEq, Int.reduceBNe, Int.reduceToNat, Int.reduceNeg, Int.reduceSub, Int.reduceAdd, Int.reduceMul, fz, cur_own, cur_snap, setAt_one, Int.sub_zero, Tryd.f32] | (with_reducible refine qg9 ?_ ?_; focus (first | (simp (maxDischargeDepth := 8) only [bb, kk, fz, cur_own, cur_snap, setAt_one, Int.sub_zero]; done) | kernel_rfl)) | ((with_reducible first | refine qf7 ?_ ?_ | refine qf8 ?_ ?_ | refine qf9 ?_ ?_ | refine qg ?_ ?_ | refine qg0 ?_ ?_ | refine qg1 ?_ ?_ | refine qg2 ?_ ?_); focus (first | with_reducible assumption | omega | (simp only [bz, fz, cur_own, cur_snap, setAt_one, Int.sub_zero]; omega))) | ((with_reducible first | refine qg3 ?_ ?_ | refine qg4 ?_ ?_ | refine qg5 ?_ ?_); focus (first | with_reducible assumption | omega | (simp only [bz, fz, cur_own, cur_snap, setAt_one, Int.sub_zero]; omega))) | ((with_reducible first | refine g1_u8w ?_ ?_ | refine qg7 ?_ ?_); (focus ((repeat' (with_reducible apply And.intro)) <;> (first | with_reducible assumption | omega | (simp only [bz, fz, cur_own, cur_snap, setAt_one, Int.sub_zero]; omega) | (simp (maxDischargeDepth := 8) only [bb, fz, cur_own, cur_snap, setAt_one, Int.sub_zero]; done)))); intro _) | (with_reducible apply call_elim; focus ((with_reducible first | apply e34 | apply e53 | apply e72) <;> (first | with_reducible assumption | omega | (simp only [bz, fz, cur_own, cur_snap, setAt_one, Int.sub_zero]; omega) | (simp (maxDischargeDepth := 8) only [bb, fz, cur_own, cur_snap, setAt_one, Int.sub_zero]; done))))))
  · obtain ⟨k0, k1⟩ := bel_b b (n := 8) (by decide) (bel b 6 s).2
    have hx := isK_setD hk 0 (bel b 8 (bel b 6 s).2).1
    have hs2 := isK_snap hx
    have ho2 := isK_own hx
    refine ⟨_, 106, evFun_body b32 ?_, hx, B8_setD hk h8 _ ⟨k0, by omega⟩, Nat.le_refl _, by rw [List.length_set]; exact hn⟩
    (have fz := ga10 hD hC hn ho hs ho2 hs2 hlen hown hsn; repeat' (first | simp (maxDischargeDepth := 8) only [go_sem, rr, reduceIte, reduceCtorEq, Nat.reduceEqDiff, Nat.reduceAdd, Nat.reduceMul, Nat.reduceSub, Nat.reduceBEq, Nat.reduceLeDiff, Int.reduceEq, Int.reduceLT, Int.reduceLE, Int.reduceGE, Int.reduceGT, Int.reduceBEq, Int.reduceBNe, Int.reduceToNat, Int.reduceNeg, Int.reduceSub, Int.reduceAdd, Int.reduceMul, fz, cur_own, cur_snap, setAt_one, Int.sub_zero, Tryd.f32] | (with_reducible refine qg9 ?_ ?_; focus (first | (simp (maxDischargeDepth := 8) only [bb, kk, fz, cur_own, cur_snap, setAt_one, Int.sub_zero]; done) | kernel_rfl)) | ((with_reducible first | refine qf7 ?_ ?_ | refine qf8 ?_ ?_ | refine qf9 ?_ ?_ | refine qg ?_ ?_ | refine qg0 ?_ ?_ | refine qg1 ?_ ?_ | refine qg2 ?_ ?_); focus (first | with_reducible assumption | omega | (simp only [bz, fz, cur_own, cur_snap, setAt_one, Int.sub_zero]; omega))) | ((with_reducible first | refine qg3 ?_ ?_ | refine qg4 ?_ ?_ | refine qg5 ?_ ?_); focus (first | with_reducible assumption | omega | (simp only [bz, fz, cur_own, cur_snap, setAt_one, Int.sub_zero]; omega))) | ((with_reducible first | refine g1_u8w ?_ ?_ | refine qg7 ?_ ?_); (focus ((repeat' (with_reducible apply And.intro)) <;> (first | with_reducible assumption | omega | (simp only [bz, fz, cur_own, cur_snap, setAt_one, Int.sub_zero]; omega) | (simp (maxDischargeDepth := 8) only [bb, fz, cur_own, cur_snap, setAt_one, Int.sub_zero]; done)))); intro _) | (with_reducible apply call_elim; focus ((with_reducible first | apply e34 | apply e53 | apply e72) <;> (first | with_reducible assumption | omega | (simp only [bz, fz, cur_own, cur_snap, setAt_one, Int.sub_zero]; omega) | (simp (maxDischargeDepth := 8) only [bb, fz, cur_own, cur_snap, setAt_one, Int.sub_zero]; done))))))
  · obtain ⟨k0, k1⟩ := bel_b b (n := 106) (by decide) (bel b 6 s).2
    refine ⟨cs, (bel b 106 (bel b 6 s).2).1.toNat, evFun_body b32 ?_, hk, h8, by omega, hn⟩
    (have fz := ga8 hD hC hn ho hs hlen hown hsn; repeat' (first | simp (maxDischargeDepth := 8) only [go_sem, rr, reduceIte, reduceCtorEq, Nat.reduceEqDiff, Nat.reduceAdd, Nat.reduceMul, Nat.reduceSub, Nat.reduceBEq, Nat.reduceLeDiff, Int.reduceEq, Int.reduceLT, Int.reduceLE, Int.reduceGE, Int.reduceGT, Int.reduceBEq, Int.reduceBNe, Int.reduceToNat, Int.reduceNeg, Int.reduceSub, Int.reduceAdd, Int.reduceMul, fz, cur_own, cur_snap, setAt_one, Int.sub_zero, Tryd.f32] | (with_reducible refine qg9 ?_ ?_; focus (first | (simp (maxDischargeDepth := 8) only [bb, kk, fz, cur_own, cur_snap, setAt_one, Int.sub_zero]; done) | kernel_rfl)) | ((with_reducible first | refine qf7 ?_ ?_ | refine qf8 ?_ ?_ | refine qf9 ?_ ?_ | refine qg ?_ ?_ | refine qg0 ?_ ?_ | refine qg1 ?_ ?_ | refine qg2 ?_ ?_); focus (first | with_reducible assumption | omega | (simp only [bz, fz, cur_own, cur_snap, setAt_one, Int.sub_zero]; omega))) | ((with_reducible first | refine qg3 ?_ ?_ | refine qg4 ?_ ?_ | refine qg5 ?_ ?_); focus (first | with_reducible assumption | omega | (simp only [bz, fz, cur_own, cur_snap, setAt_one, Int.sub_zero]; omega))) | ((with_reducible first | refine g1_u8w ?_ ?_ | refine qg7 ?_ ?_); (focus ((repeat' (with_reducible apply And.intro)) <;> (first | with_reducible assumption | omega | (simp only [bz, fz, cur_own, cur_snap, setAt_one, Int.sub_zero]; omega) | (simp (maxDischargeDepth := 8) only [bb, fz, cur_own, cur_snap, setAt_one, Int.sub_zero]; done)))); intro _) | (with_reducible apply call_elim; focus ((with_reducible first | apply e34 | apply e53 | apply e72) <;> (first | with_reducible assumption | omega | (simp only [bz, fz, cur_own, cur_snap, setAt_one, Int.sub_zero]; omega) | (simp (maxDischargeDepth := 8) only [bb, fz, cur_own, cur_snap, setAt_one, Int.sub_zero]; done))))))
  · obtain ⟨k0, k1⟩ := bel_b b (n := 12) (by decide) (bel b 6 s).2
    have hx := isK_setD hk 1 (bel b 12 (bel b 6 s).2).1
    have hs2 := isK_snap hx
    have ho2 := isK_own hx
    refine ⟨_, 106, evFun_body b32 ?_, hx, B8_setD hk h8 _ ⟨k0, by omega⟩, Nat.le_refl _, by rw [List.length_set]; exact hn⟩
    (have fz := ga10 hD hC hn ho hs ho2 hs2 hlen hown hsn; repeat' (first | simp (maxDischargeDepth := 8) only [go_sem, rr, reduceIte, reduceCtorEq, Nat.reduceEqDiff, Nat.reduceAdd, Nat.reduceMul, Nat.reduceSub, Nat.reduceBEq, Nat.reduceLeDiff, Int.reduceEq, Int.reduceLT, Int.reduceLE, Int.reduceGE, Int.reduceGT, Int.reduceBEq, Int.reduceBNe, Int.reduceToNat, Int.reduceNeg, Int.reduceSub, Int.reduceAdd, Int.reduceMul, fz, cur_own, cur_snap, setAt_one, Int.sub_zero, Tryd.f32] | (with_reducible refine qg9 ?_ ?_; focus (first | (simp (maxDischargeDepth := 8) only [bb, kk, fz, cur_own, cur_snap, setAt_one, Int.sub_zero]; done) | kernel_rfl)) | ((with_reducible first | refine qf7 ?_ ?_ | refine qf8 ?_ ?_ | refine qf9 ?_ ?_ | refine qg ?_ ?_ | refine qg0 ?_ ?_ | refine qg1 ?_ ?_ | refine qg2 ?_ ?_); focus (first | with_reducible assumption | omega | (simp only [bz, fz, cur_own, cur_snap, setAt_one, Int.sub_zero]; omega))) | ((with_reducible first | refine qg3 ?_ ?_ | refine qg4 ?_ ?_ | refine qg5 ?_ ?_); focus (first | with_reducible assumption | omega | (simp only [bz, fz, cur_own, cur_snap, setAt_one, Int.sub_zero]; omega))) | ((with_reducible first | refine g1_u8w ?_ ?_ | refine qg7 ?_ ?_); (focus ((repeat' (with_reducible apply And.intro)) <;> (first | with_reducible assumption | omega | (simp only [bz, fz, cur_own, cur_snap, setAt_one, Int.sub_zero]; omega) | (simp (maxDischargeDepth := 8) only [bb, fz, cur_own, cur_snap, setAt_one, Int.sub_zero]; done)))); intro _) | (with_reducible apply call_elim; focus ((with_reducible first | apply e34 | apply e53 | apply e72) <;> (first | with_reducible assumption | omega | (simp only [bz, fz, cur_own, cur_snap, setAt_one, Int.sub_zero]; omega) | (simp (maxDischargeDepth := 8) only [bb, fz, cur_own, cur_snap, setAt_one, Int.sub_zero]; done))))))
  · refine ⟨cs, 106, evFun_body b32 ?_, hk, h8, Nat.le_refl _, hn⟩
    (have fz := ga8 hD hC hn ho hs hlen hown hsn; repeat' (first | simp (maxDischargeDepth := 8) only [go_sem, rr, reduceIte, reduceCtorEq, Nat.reduceEqDiff, Nat.reduceAdd, Nat.reduceMul, Nat.reduceSub, Nat.reduceBEq, Nat.reduceLeDiff, Int.reduceEq, Int.reduceLT, Int.reduceLE, Int.reduceGE, Int.reduceGT, Int.reduceBEq, Int.reduceBNe, Int.reduceToNat, Int.reduceNeg, Int.reduceSub, Int.reduceAdd, Int.reduceMul, fz, cur_own, cur_snap, setAt_one, Int.sub_zero, Tryd.f32] | (with_reducible refine qg9 ?_ ?_; focus (first | (simp (maxDischargeDepth := 8) only [bb, kk, fz, cur_own, cur_snap, setAt_one, Int.sub_zero]; done) | kernel_rfl)) | ((with_reducible first | refine qf7 ?_ ?_ | refine qf8 ?_ ?_ | refine qf9 ?_ ?_ | refine qg ?_ ?_ | refine qg0 ?_ ?_ | refine qg1 ?_ ?_ | refine qg2 ?_ ?_); focus (first | with_reducible assumption | omega | (simp only [bz, fz, cur_own, cur_snap, setAt_one, Int.sub_zero]; omega))) | ((with_reducible first | refine qg3 ?_ ?_ | refine qg4 ?_ ?_ | refine qg5 ?_ ?_); focus (first | with_reducible assumption | omega | (simp only [bz, fz, cur_own, cur_snap, setAt_one, Int.sub_zero]; omega))) | ((with_reducible first | refine g1_u8w ?_ ?_ | refine qg7 ?_ ?_); (focus ((repeat' (with_reducible apply And.intro)) <;> (first | with_reducible assumption | omega | (simp only [bz, fz, cur_own, cur_snap, setAt_one, Int.sub_zero]; omega) | (simp (maxDischargeDepth := 8) only [bb, fz, cur_own, cur_snap, setAt_one, Int.sub_zero]; done)))); intro _) | (with_reducible apply call_elim; focus ((with_reducible first | apply e34 | apply e53 | apply e72) <;> (first | with_reducible assumption | omega | (simp only [bz, fz, cur_own, cur_snap, setAt_one, Int.sub_zero]; omega) | (simp (maxDischargeDepth := 8) only [bb, fz, cur_own, cur_snap, setAt_one, Int.sub_zero]; done))))))
end Go.Proofs.YtgdldmfkgijkaaaDoor.VH.S
end

section
namespace Go.Proofs.YtgdldmfkgijkaaaDoor.VH.S
open Go.Proofs
set_option maxRecDepth 100000
set_option maxHeartbeats 8000000
set_option linter.unusedSimpArgs false

/- One more entry put into a right catalog, sought and dropped. -/
theorem lb_nil (t : List UInt8) : lb [] t = 0 := rfl
theorem putAny (d : Nat) (L : List Ent) (e : Ent) (tg : Tg) (c : Option Nat) (hS : Small L) (he : e.nm.length ≤ 549755813888) (hc : catOK L = true) (hk : entOK e = true) : evFun E (d+7) 29 [.sl tg 4 L.length c (flat encE L), .agg [vs e.nm, vi e.v, vi e.s, vi e.r]] [] = some (.tup [.ref 0 [] 4 0 (cpL L e).length none, vb (cpB L e)], [some (flat encE (cpL L e))]) := by
  cases L with
  | cons x L => exact e29 d (x :: L) e tg c hS he (by simp)
  | nil =>
    have h0 : cpOK [] e = true := by simp only [cpOK, hk, hc, Bool.and_self]
    have h1 : cpL [] e = [e] := by
      simp only [cpL, h0, if_true, hasE_nil, Bool.false_eq_true, if_false, lb_nil, insE_nil, List.length_nil, reduceIte, Nat.reduceEqDiff, show ¬ ((0 : Nat) = 5) by decide]
    have h2 : cpB [] e = true := by simp [cpB, h0]
    rw [h1, h2]
    exact e29z d e tg c he hk
theorem x29mm (L : List Ent) (e : Ent) (hc : catOK L = true) (hn : Nms L) (hk : entOK e = true) (he : e.nm = [109, 109]) : ∃ (M : List Ent) (p : Bool) (f : Ent) (X : List Ent),
    (∀ d tg c, evFun E (d+7) 29 [.sl tg 4 L.length c (flat encE L), .agg [vs [109, 109], vi e.v, vi e.s, vi e.r]] [] = some (.tup [.ref 0 [] 4 0 M.length none, vb p], [some (flat encE M)])) ∧
    (∀ d tg c, evFun E (d+7) 25 [.sl tg 4 M.length c (flat encE M), vs [109, 109]] [] = some (.tup [.agg (encE f), vb p], [])) ∧
    (∀ d tg c, evFun E (d+7) 30 [.sl tg 4 M.length c (flat encE M), vs [109, 109]] [] = some (.tup [.ref 0 [] 4 0 L.length none, vb p], [some (flat encE (L ++ X))])) ∧
    p = decide (L.length < 5) ∧ (p = true → f = e ∧ M.length = L.length + 1) ∧ M.length ≤ 6 := by
  have h5 := (cat_parts hc).1
  have hs := sorted_of hc
  have hS : Small L := small_nm hn (by omega)
  have hno : hasE L e.nm = false := no_mem fun x hx => by rw [he]; exact (hn x hx).2
  have hcp : cpOK L e = true := by simp only [cpOK, hc, hk, Bool.and_self]
  have hPut := fun d tg c => putAny d L e tg c hS (by rw [he]; decide) hc hk
  rw [← he]
  by_cases hl : L.length = 5
  · have h1 : cpL L e = L := by simp only [cpL, hcp, hno, hl, if_true, Bool.false_eq_true, if_false]
    have h2 : cpB L e = false := by simp [cpB, hcp, hno, hl]
    rw [h1, h2] at hPut
    refine ⟨L, false, e0, [], hPut, fun d tg c => ?_, fun d tg c => ?_, (decide_eq_false (by omega)).symm, fun h => by simp at h, by omega⟩
    · have h := e25 d L e.nm tg c hS
      rw [cfE, hno, hc] at h
      exact h
    · rw [List.append_nil]
      exact e30f d L e.nm tg c hS (by omega) (by simp only [cdOK, hno, Bool.and_false])
  · have h1 : cpL L e = insE L (lb L e.nm) e := by simp only [cpL, hcp, hno, hl, if_true, Bool.false_eq_true, if_false]
    have h2 : cpB L e = true := by simp [cpB, hcp, hl]
    have hlen := insE_len (lb_le L e.nm) e
    rw [h1, h2] at hPut
    have hcM : catOK (insE L (lb L e.nm) e) = true := by rw [← h1]; exact cpL_ok hc
    have hSM : Small (insE L (lb L e.nm) e) := by
      refine ⟨by omega, fun i => ?_⟩
      by_cases hi : i < (insE L (lb L e.nm) e).length
      · have hm := List.getElem_mem hi
        rw [← eA_get hi] at hm
        rcases ins_mem hm with hm | hm
        · have := (hn _ hm).1; omega
        · rw [hm, he]; decide
      · have : eA (insE L (lb L e.nm) e) i = e0 := by rw [eA, List.getD_eq_getElem?_getD, List.getElem?_eq_none (by omega)]; rfl
        rw [this]; decide
    have hm : e ∈ insE L (lb L e.nm) e := by simp [insE]
    obtain ⟨g1, g2⟩ := has_mem (sorted_of hcM) hm
    refine ⟨insE L (lb L e.nm) e, true, e, [e0], hPut, fun d tg c => ?_, fun d tg c => ?_, (decide_eq_true (by omega)).symm, fun _ => ⟨rfl, hlen⟩, by omega⟩
    · have h := e25 d (insE L (lb L e.nm) e) e.nm tg c hSM
      rw [cfE, g1, hcM, g2] at h
      exact h
    · have h := e30 d (insE L (lb L e.nm) e) e.nm tg c hSM (by simp only [cdOK, g1, hcM, Bool.and_self])
      rw [lb_ins hs hno, drop_ins (lb_le L e.nm) e, hlen, Nat.add_sub_cancel] at h
      rw [hlen]
      exact h
end Go.Proofs.YtgdldmfkgijkaaaDoor.VH.S
end

section
namespace Go.Proofs.YtgdldmfkgijkaaaDoor.VH.S
open Go.Proofs
set_option maxRecDepth 100000
set_option maxHeartbeats 8000000
set_option linter.unusedSimpArgs false

/- Bytes of a catalog read, of a slice whose room is not known. -/
theorem n66 (d : Nat) (o m n q : Nat) (cs : List AV) (hk : isK .u8 cs = true) (hn : cs.length = n) (hb : B8 (un cs)) (hl : n ≤ 1048576) (hm : o + m = n) (h0 : 0 < m) (hq : at0 (un cs) o = (q : Int)) (hok : reOK (un cs) o q n = true) : evFun E (d+2) 66 [.ref 0 [] 1 o m none] [cs] = some (.tup [.agg (encE (enAt (un cs) o q)), .ref 0 [] 1 (o + (1 + q) + 12) (m - (1 + q) - 12) none, vb true], [some cs]) := by
  refine evFun_body b66 ?_
  simp only [reOK, Bool.and_eq_true, decide_eq_true_eq] at hok
  obtain ⟨hfit, hr⟩ := hok
  have n3 := seg_num hk hb (o + (1 + q)) 3 n hn (by omega) (by decide)
  have n8 := seg_num hk hb (o + (1 + q) + 4) 8 n hn (by omega) (by decide)
  have b3 : 0 ≤ numB (((un cs).drop (o + (1 + q))).take 3) ∧ numB (((un cs).drop (o + (1 + q))).take 3) < 16777216 := ⟨numB_nn ((hb.drop _).take _), numB_take_lt (hb.drop _) 3⟩
  have b8 : 0 ≤ rtB (un cs) o q := numB_nn ((hb.drop _).take _)
  have hm' := bytes_seg hk (o + 1) q
  have hml : (if q ≤ n - (o + 1) then q else n - (o + 1)) = q := if_pos (by omega)
  have he : encE (enAt (un cs) o q) = [vs (txL (((un cs).drop (o + 1)).take q)), vi (numB (((un cs).drop (o + (1 + q))).take 3)), vi (at0 (un cs) (o + (1 + q) + 3)), vi (rtB (un cs) o q)] := rfl
  have hrt : numB (((un cs).drop (o + (1 + q) + 4)).take 8) = rtB (un cs) o q := rfl
  rw [hrt] at n8
  have t1 : ((1 : Int) + q).toNat = 1 + q := by omega
  have t2 : ((1 : Int) + q - 1).toNat = q := by omega
  have t3 : ((m : Int) - (1 + q)).toNat = m - (1 + q) := by omega
  have hsn := isK_snap hk
  (have fz := ga12 hk hn hb hq n3 hm' hml he t1 t2 t3 hsn; repeat' (first | simp (maxDischargeDepth := 8) only [go_sem, rr, reduceIte, reduceCtorEq, Nat.reduceEqDiff, Nat.reduceAdd, Nat.reduceMul, Nat.reduceSub, Nat.reduceBEq, Nat.reduceLeDiff, Int.reduceEq, Int.reduceLT, Int.reduceLE, Int.reduceGE, Int.reduceGT, Int.reduceBEq, Int.reduceBNe, Int.reduceToNat, Int.reduceNeg, Int.reduceSub, Int.reduceAdd, Int.reduceMul, fz, cellsIn, List.take_take, Nat.min_self, sB_empty, n8, decide_eq_true hr, Tryd.f66] | (with_reducible refine qg9 ?_ ?_; focus (first | (simp (maxDischargeDepth := 8) only [bb, kk, fz, cellsIn, List.take_take, Nat.min_self, sB_empty, n8, decide_eq_true hr]; done) | kernel_rfl)) | ((with_reducible first | refine qf7 ?_ ?_ | refine qf8 ?_ ?_ | refine qf9 ?_ ?_ | refine qg ?_ ?_ | refine qg0 ?_ ?_ | refine qg1 ?_ ?_ | refine qg2 ?_ ?_); focus (first | assumption | omega | (simp only [bz, fz, cellsIn, List.take_take, Nat.min_self, sB_empty, n8, decide_eq_true hr]; omega))) | ((with_reducible first | refine qg3 ?_ ?_ | refine qg4 ?_ ?_ | refine qg5 ?_ ?_); focus (first | assumption | omega | (simp only [bz, fz, cellsIn, List.take_take, Nat.min_self, sB_empty, n8, decide_eq_true hr]; omega))) | ((with_reducible first | refine g1_u8w ?_ ?_ | refine qg7 ?_ ?_); (focus ((repeat' (with_reducible apply And.intro)) <;> (first | assumption | omega | (simp only [bz, fz, cellsIn, List.take_take, Nat.min_self, sB_empty, n8, decide_eq_true hr]; omega) | (simp (maxDischargeDepth := 8) only [bb, fz, cellsIn, List.take_take, Nat.min_self, sB_empty, n8, decide_eq_true hr]; done)))); intro _) | ((with_reducible refine g1_64w ?_ ?_); (focus ((repeat' (with_reducible apply And.intro)) <;> (first | assumption | omega | (simp only [bz, fz, cellsIn, List.take_take, Nat.min_self, sB_empty, n8, decide_eq_true hr]; omega) | (simp (maxDischargeDepth := 8) only [bb, fz, cellsIn, List.take_take, Nat.min_self, sB_empty, n8, decide_eq_true hr]; done)))); intro _)))
theorem n66f (d : Nat) (o m n q : Nat) (cs : List AV) (hk : isK .u8 cs = true) (hn : cs.length = n) (hb : B8 (un cs)) (hl : n ≤ 1048576) (hm : o + m = n) (h0 : 0 < m) (hq : at0 (un cs) o = (q : Int)) (hfit : o + (1 + q) + 12 ≤ n) (hr : ¬ rtB (un cs) o q < 1152921504606846976) : evFun E (d+2) 66 [.ref 0 [] 1 o m none] [cs] = some (.tup [.agg [vs (txL (((un cs).drop (o + 1)).take q)), vi (numB (((un cs).drop (o + (1 + q))).take 3)), vi (at0 (un cs) (o + (1 + q) + 3)), vi (IntKind.i64.wrap (rtB (un cs) o q))], .ref 0 [] 1 (o + (1 + q) + 12) (m - (1 + q) - 12) none, vb false], [some cs]) := by
  refine evFun_body b66 ?_
  have n3 := seg_num hk hb (o + (1 + q)) 3 n hn (by omega) (by decide)
  have n8 := seg_num hk hb (o + (1 + q) + 4) 8 n hn (by omega) (by decide)
  have b3 : 0 ≤ numB (((un cs).drop (o + (1 + q))).take 3) ∧ numB (((un cs).drop (o + (1 + q))).take 3) < 16777216 := ⟨numB_nn ((hb.drop _).take _), numB_take_lt (hb.drop _) 3⟩
  have b8 : 0 ≤ rtB (un cs) o q := numB_nn ((hb.drop _).take _)
  have hm' := bytes_seg hk (o + 1) q
  have hml : (if q ≤ n - (o + 1) then q else n - (o + 1)) = q := if_pos (by omega)
  have hrt : numB (((un cs).drop (o + (1 + q) + 4)).take 8) = rtB (un cs) o q := rfl
  rw [hrt] at n8
  have t1 : ((1 : Int) + q).toNat = 1 + q := by omega
  have t2 : ((1 : Int) + q - 1).toNat = q := by omega
  have t3 : ((m : Int) - (1 + q)).toNat = m - (1 + q) := by omega
  have hsn := isK_snap hk
  (have fz := ga11 hk hn hb hq n3 hm' hml t1 t2 t3 hsn; repeat' (first | simp (maxDischargeDepth := 8) only [go_sem, rr, reduceIte, reduceCtorEq, Nat.reduceEqDiff, Nat.reduceAdd, Nat.reduceMul, Nat.reduceSub, Nat.reduceBEq, Nat.reduceLeDiff, Int.reduceEq, Int.reduceLT, Int.reduceLE, Int.reduceGE, Int.reduceGT, Int.reduceBEq, Int.reduceBNe, Int.reduceToNat, Int.reduceNeg, Int.reduceSub, Int.reduceAdd, Int.reduceMul, fz, cellsIn, List.take_take, Nat.min_self, sB_empty, n8, decide_eq_false hr, Tryd.f66] | (with_reducible refine qg9 ?_ ?_; focus (first | (simp (maxDischargeDepth := 8) only [bb, kk, fz, cellsIn, List.take_take, Nat.min_self, sB_empty, n8, decide_eq_false hr]; done) | kernel_rfl)) | ((with_reducible first | refine qf7 ?_ ?_ | refine qf8 ?_ ?_ | refine qf9 ?_ ?_ | refine qg ?_ ?_ | refine qg0 ?_ ?_ | refine qg1 ?_ ?_ | refine qg2 ?_ ?_); focus (first | assumption | omega | (simp only [bz, fz, cellsIn, List.take_take, Nat.min_self, sB_empty, n8, decide_eq_false hr]; omega))) | ((with_reducible first | refine qg3 ?_ ?_ | refine qg4 ?_ ?_ | refine qg5 ?_ ?_); focus (first | assumption | omega | (simp only [bz, fz, cellsIn, List.take_take, Nat.min_self, sB_empty, n8, decide_eq_false hr]; omega))) | ((with_reducible first | refine g1_u8w ?_ ?_ | refine qg7 ?_ ?_); (focus ((repeat' (with_reducible apply And.intro)) <;> (first | assumption | omega | (simp only [bz, fz, cellsIn, List.take_take, Nat.min_self, sB_empty, n8, decide_eq_false hr]; omega) | (simp (maxDischargeDepth := 8) only [bb, fz, cellsIn, List.take_take, Nat.min_self, sB_empty, n8, decide_eq_false hr]; done)))); intro _) | ((with_reducible refine g1_64w ?_ ?_); (focus ((repeat' (with_reducible apply And.intro)) <;> (first | assumption | omega | (simp only [bz, fz, cellsIn, List.take_take, Nat.min_self, sB_empty, n8, decide_eq_false hr]; omega) | (simp (maxDischargeDepth := 8) only [bb, fz, cellsIn, List.take_take, Nat.min_self, sB_empty, n8, decide_eq_false hr]; done)))); intro _) | (with_reducible refine wrapM_raw ?_)))
theorem n66s (d : Nat) (o m n : Nat) (cs : List AV) (hk : isK .u8 cs = true) (hn : cs.length = n) (hb : B8 (un cs)) (hl : n ≤ 1048576) (hm : o + m = n) (h0 : m = 0 ∨ ¬ (o + (1 + (at0 (un cs) o).toNat) + 12 ≤ n)) : evFun E (d+2) 66 [.ref 0 [] 1 o m none] [cs] = some (.tup [.agg (encE e0), .val (.slice none 0 0), vb false], [some cs]) := by
  refine evFun_body b66 ?_
  have he : encE e0 = [vs [], vi 0, vi 0, vi 0] := rfl
  have hsn := isK_snap hk
  by_cases hm0 : m = 0
  · (have fz := ga2 he hsn; repeat' (first | simp (maxDischargeDepth := 8) only [go_sem, rr, reduceIte, reduceCtorEq, Nat.reduceEqDiff, Nat.reduceAdd, Nat.reduceMul, Nat.reduceSub, Nat.reduceBEq, Nat.reduceLeDiff, Int.reduceEq, Int.reduceLT, Int.reduceLE, Int.reduceGE, Int.reduceGT, Int.reduceBEq, Int.reduceBNe, Int.reduceToNat, Int.reduceNeg, Int.reduceSub, Int.reduceAdd, Int.reduceMul, fz, sB_empty, Tryd.f66] | (with_reducible refine qg9 ?_ ?_; focus (first | (simp (maxDischargeDepth := 8) only [bb, kk, fz, sB_empty]; done) | kernel_rfl)) | ((with_reducible first | refine qf7 ?_ ?_ | refine qf8 ?_ ?_ | refine qf9 ?_ ?_ | refine qg ?_ ?_ | refine qg0 ?_ ?_ | refine qg1 ?_ ?_ | refine qg2 ?_ ?_); focus (first | assumption | omega | (simp only [bz, fz, sB_empty]; omega))) | ((with_reducible first | refine qg3 ?_ ?_ | refine qg4 ?_ ?_ | refine qg5 ?_ ?_); focus (first | assumption | omega | (simp only [bz, fz, sB_empty]; omega))) | ((with_reducible first | refine g1_u8w ?_ ?_ | refine qg7 ?_ ?_); (focus ((repeat' (with_reducible apply And.intro)) <;> (first | assumption | omega | (simp only [bz, fz, sB_empty]; omega) | (simp (maxDischargeDepth := 8) only [bb, fz, sB_empty]; done)))); intro _) | ((with_reducible refine g1_64w ?_ ?_); (focus ((repeat' (with_reducible apply And.intro)) <;> (first | assumption | omega | (simp only [bz, fz, sB_empty]; omega) | (simp (maxDischargeDepth := 8) only [bb, fz, sB_empty]; done)))); intro _)))
  · obtain ⟨g0, g256⟩ := hb.at0 o
    obtain ⟨q, hq⟩ := Int.eq_ofNat_of_zero_le g0
    rw [hq] at h0
    (have fz := ga6 he hk hn hb hq hsn; repeat' (first | simp (maxDischargeDepth := 8) only [go_sem, rr, reduceIte, reduceCtorEq, Nat.reduceEqDiff, Nat.reduceAdd, Nat.reduceMul, Nat.reduceSub, Nat.reduceBEq, Nat.reduceLeDiff, Int.reduceEq, Int.reduceLT, Int.reduceLE, Int.reduceGE, Int.reduceGT, Int.reduceBEq, Int.reduceBNe, Int.reduceToNat, Int.reduceNeg, Int.reduceSub, Int.reduceAdd, Int.reduceMul, fz, sB_empty, Tryd.f66] | (with_reducible refine qg9 ?_ ?_; focus (first | (simp (maxDischargeDepth := 8) only [bb, kk, fz, sB_empty]; done) | kernel_rfl)) | ((with_reducible first | refine qf7 ?_ ?_ | refine qf8 ?_ ?_ | refine qf9 ?_ ?_ | refine qg ?_ ?_ | refine qg0 ?_ ?_ | refine qg1 ?_ ?_ | refine qg2 ?_ ?_); focus (first | assumption | omega | (simp only [bz, fz, sB_empty]; omega))) | ((with_reducible first | refine qg3 ?_ ?_ | refine qg4 ?_ ?_ | refine qg5 ?_ ?_); focus (first | assumption | omega | (simp only [bz, fz, sB_empty]; omega))) | ((with_reducible first | refine g1_u8w ?_ ?_ | refine qg7 ?_ ?_); (focus ((repeat' (with_reducible apply And.intro)) <;> (first | assumption | omega | (simp only [bz, fz, sB_empty]; omega) | (simp (maxDischargeDepth := 8) only [bb, fz, sB_empty]; done)))); intro _) | ((with_reducible refine g1_64w ?_ ?_); (focus ((repeat' (with_reducible apply And.intro)) <;> (first | assumption | omega | (simp only [bz, fz, sB_empty]; omega) | (simp (maxDischargeDepth := 8) only [bb, fz, sB_empty]; done)))); intro _)))
theorem n28 (d : Nat) (cs : List AV) (hk : isK .u8 cs = true) (hn : cs.length = 106) (hb : B8 (un cs)) (hok : crOK (un cs) = true) : evFun E (d+7) 28 [.ref 0 [] 1 0 106 none] [cs] = some (.tup [.ref 1 [] 4 0 (crN (un cs)) (capE (crN (un cs))), vb true], [some cs, some (flat encE (rdL (un cs) (crN (un cs))))]) := by
  refine evFun_body b28 ?_
  have hl : (un cs).length = 106 := by rw [un_len]; exact hn
  obtain ⟨g0, g256⟩ := hb.at0 0
  have hsn := isK_snap hk
  have hown := isK_own hk
  have hN : at0 (un cs) 0 = ((crN (un cs) : Nat) : Int) := by unfold crN; omega
  have hre := fun j hj => cr_re hb hl hok j hj
  have hro := fun {j} hj => cr_reOK (j := j) hb hl hok hj
  have hparts := hok
  simp only [crOK, Bool.and_eq_true, decide_eq_true_eq] at hparts
  obtain ⟨h5, hcat, heq⟩ := hparts
  have hn5 : crN (un cs) ≤ 5 := by omega
  generalize hNN : crN (un cs) = N at *
  (have fz := ga4 hk hn hb hN; repeat' (first | simp (maxDischargeDepth := 8) only [go_sem, rr, reduceIte, reduceCtorEq, Nat.reduceEqDiff, Nat.reduceAdd, Nat.reduceMul, Nat.reduceSub, Nat.reduceBEq, Nat.reduceLeDiff, Int.reduceEq, Int.reduceLT, Int.reduceLE, Int.reduceGE, Int.reduceGT, Int.reduceBEq, Int.reduceBNe, Int.reduceToNat, Int.reduceNeg, Int.reduceSub, Int.reduceAdd, Int.reduceMul, fz, Tryd.f28] | (with_reducible refine qg9 ?_ ?_; focus (first | (simp (maxDischargeDepth := 8) only [bb, kk, fz]; done) | kernel_rfl)) | ((with_reducible first | refine qf7 ?_ ?_ | refine qf8 ?_ ?_ | refine qf9 ?_ ?_ | refine qg ?_ ?_ | refine qg0 ?_ ?_ | refine qg1 ?_ ?_ | refine qg2 ?_ ?_); focus (first | assumption | omega | (simp only [bz, fz]; omega))) | ((with_reducible first | refine qg3 ?_ ?_ | refine qg4 ?_ ?_ | refine qg5 ?_ ?_); focus (first | assumption | omega | (simp only [bz, fz]; omega))) | ((with_reducible first | refine g1_u8w ?_ ?_ | refine qg7 ?_ ?_); (focus ((repeat' (with_reducible apply And.intro)) <;> (first | assumption | omega | (simp only [bz, fz]; omega) | (simp (maxDischargeDepth := 8) only [bb, fz]; done)))); intro _) | ((with_reducible refine g1_64w ?_ ?_); (focus ((repeat' (with_reducible apply And.intro)) <;> (first | assumption | omega | (simp only [bz, fz]; omega) | (simp (maxDischargeDepth := 8) only [bb, fz]; done)))); intro _)))
  refine loop_go (fun i => {T := tp [(0, .ref 0 [] 1 0 106 none), (4, .ref 1 [] 4 0 i (capE i)), (5, .ref 0 [] 1 (rdAt (un cs) i) (106 - rdAt (un cs) i) none), (23, iv .u8 N), (24, iv .u8 i)], H := hp [some cs, some (flat encE (rdL (un cs) i))], nx := 2}) N ?_ (lt_LF (by omega)) (fun i hi Kn hK => ?_) (fun Kn => ?_)
  · simp only [vv, ff, norm, Array.toList, List.map, Option.isSome_none, bne_self_eq_false, reduceIte, reduceCtorEq, Nat.reduceEqDiff, Nat.reduceAdd, Nat.reduceMul, Nat.reduceSub, Nat.reduceBEq, Nat.reduceLeDiff, Int.reduceEq, Int.reduceLT, Int.reduceLE, Int.reduceGE, Int.reduceGT, Int.reduceBEq, Int.reduceBNe, Int.reduceToNat, Int.reduceNeg, Int.reduceSub, Int.reduceAdd, Int.reduceMul, finish, qf0, resOf, resa, qf1, qf2, qf3, keep, qf4, qf5, qf6, qe9, qf, Int.natCast_zero, capE_zero, rdL_zero, rdAt, flat]
  · have hr := hre i hi
    have hr2 := hro hi
    have hqi : at0 (un cs) (rdAt (un cs) i) = ((rdQ (un cs) i : Nat) : Int) := by have := (hb.at0 (rdAt (un cs) i)).1; unfold rdQ; omega
    have hE := n66 (d+4) (rdAt (un cs) i) (106 - rdAt (un cs) i) 106 (rdQ (un cs) i) cs hk hn hb (by decide) (by omega) (by omega) hqi hr2
    have hE0 : encE (enAt (un cs) (rdAt (un cs) i) (rdQ (un cs) i)) = encE (rdE (un cs) i) := rfl
    rw [hE0] at hE
    have hs := rdF_succ (un cs) i
    have hln := rdF_len (un cs) i
    have ho := anyOwn_encE (rdL (un cs) i)
    have hat : rdAt (un cs) (i + 1) = rdAt (un cs) i + (1 + rdQ (un cs) i) + 12 := rfl
    have hat2 : 106 - rdAt (un cs) i - (1 + rdQ (un cs) i) - 12 = 106 - rdAt (un cs) (i + 1) := by omega
    rw [← hat, hat2] at hE
    (have fz := ga5 hE hs hln ho hown; repeat' (first | simp (maxDischargeDepth := 8) only [go_sem, rr, reduceIte, reduceCtorEq, Nat.reduceEqDiff, Nat.reduceAdd, Nat.reduceMul, Nat.reduceSub, Nat.reduceBEq, Nat.reduceLeDiff, Int.reduceEq, Int.reduceLT, Int.reduceLE, Int.reduceGE, Int.reduceGT, Int.reduceBEq, Int.reduceBNe, Int.reduceToNat, Int.reduceNeg, Int.reduceSub, Int.reduceAdd, Int.reduceMul, fz] | (with_reducible refine qg9 ?_ ?_; focus (first | (simp (maxDischargeDepth := 8) only [bb, kk, fz]; done) | kernel_rfl)) | ((with_reducible first | refine qf7 ?_ ?_ | refine qf8 ?_ ?_ | refine qf9 ?_ ?_ | refine qg ?_ ?_ | refine qg0 ?_ ?_ | refine qg1 ?_ ?_ | refine qg2 ?_ ?_); focus (first | assumption | omega | (simp only [bz, fz]; omega))) | ((with_reducible first | refine qg3 ?_ ?_ | refine qg4 ?_ ?_ | refine qg5 ?_ ?_); focus (first | assumption | omega | (simp only [bz, fz]; omega))) | ((with_reducible first | refine g1_u8w ?_ ?_ | refine qg7 ?_ ?_); (focus ((repeat' (with_reducible apply And.intro)) <;> (first | assumption | omega | (simp only [bz, fz]; omega) | (simp (maxDischargeDepth := 8) only [bb, fz]; done)))); intro _) | ((with_reducible refine g1_64w ?_ ?_); (focus ((repeat' (with_reducible apply And.intro)) <;> (first | assumption | omega | (simp only [bz, fz]; omega) | (simp (maxDischargeDepth := 8) only [bb, fz]; done)))); intro _)))
    refine hK _ ?_
    simp only [vv, ff, norm, Array.toList, List.map, Option.isSome_none, bne_self_eq_false, reduceIte, reduceCtorEq, Nat.reduceEqDiff, Nat.reduceAdd, Nat.reduceMul, Nat.reduceSub, Nat.reduceBEq, Nat.reduceLeDiff, Int.reduceEq, Int.reduceLT, Int.reduceLE, Int.reduceGE, Int.reduceGT, Int.reduceBEq, Int.reduceBNe, Int.reduceToNat, Int.reduceNeg, Int.reduceSub, Int.reduceAdd, Int.reduceMul, finish, qf0, resOf, resa, qf1, qf2, qf3, keep, qf4, qf5, qf6, qe9, qf, Int.natCast_add, cst1, capE_succ, capK_pos Nat.one_pos, capK_pos Nat.one_pos]
  · have hS := rdL_small (l := un cs) (by omega) (show N ≤ 1048576 by omega)
    have hlen := rdL_len (un cs) N
    have hC := fun d tg c => e24 d (rdL (un cs) N) tg c hS
    have hB := fun d tg c => e65 d (rdL (un cs) N) tg c hcat
    rw [hlen] at hC hB
    have hkB := isK_catB (rdL (un cs) N)
    have hlB := catB_len hcat
    have hbB : B8 (un (catB (rdL (un cs) N))) := by rw [heq]; exact hb
    have hdec : decide (un (catB (rdL (un cs) N)) = un cs) = true := decide_eq_true heq
    have hln := rdF_len (un cs) N
    have ho := anyOwn_encE (rdL (un cs) N)
    have hsn2 := noSnapL_encE (rdL (un cs) N)
    have hoB := isK_own hkB
    (have fz := ga16 hC hB hcat hkB hlB hbB hdec hln ho hsn2 hsn hk hn hb hoB hown; repeat' (first | simp (maxDischargeDepth := 8) only [go_sem, rr, reduceIte, reduceCtorEq, Nat.reduceEqDiff, Nat.reduceAdd, Nat.reduceMul, Nat.reduceSub, Nat.reduceBEq, Nat.reduceLeDiff, Int.reduceEq, Int.reduceLT, Int.reduceLE, Int.reduceGE, Int.reduceGT, Int.reduceBEq, Int.reduceBNe, Int.reduceToNat, Int.reduceNeg, Int.reduceSub, Int.reduceAdd, Int.reduceMul, fz] | (with_reducible refine qg9 ?_ ?_; focus (first | (simp (maxDischargeDepth := 8) only [bb, kk, fz]; done) | kernel_rfl)) | ((with_reducible first | refine qf7 ?_ ?_ | refine qf8 ?_ ?_ | refine qf9 ?_ ?_ | refine qg ?_ ?_ | refine qg0 ?_ ?_ | refine qg1 ?_ ?_ | refine qg2 ?_ ?_); focus (first | assumption | omega | (simp only [bz, fz]; omega))) | ((with_reducible first | refine qg3 ?_ ?_ | refine qg4 ?_ ?_ | refine qg5 ?_ ?_); focus (first | assumption | omega | (simp only [bz, fz]; omega))) | ((with_reducible first | refine g1_u8w ?_ ?_ | refine qg7 ?_ ?_); (focus ((repeat' (with_reducible apply And.intro)) <;> (first | assumption | omega | (simp only [bz, fz]; omega) | (simp (maxDischargeDepth := 8) only [bb, fz]; done)))); intro _) | ((with_reducible refine g1_64w ?_ ?_); (focus ((repeat' (with_reducible apply And.intro)) <;> (first | assumption | omega | (simp only [bz, fz]; omega) | (simp (maxDischargeDepth := 8) only [bb, fz]; done)))); intro _) | (with_reducible apply call_elim; focus ((with_reducible first | apply q67) <;> (first | assumption | omega | (simp only [bz, fz]; omega) | (simp (maxDischargeDepth := 8) only [bb, fz]; done))))))
theorem n28f (d : Nat) (n : Nat) (c : Option Nat) (cs : List AV) (hk : isK .u8 cs = true) (hn : cs.length = n) (hb : B8 (un cs)) (hl : n ≤ 1048576) (hok : n = 106 → crOK (un cs) = false) : evFun E (d+7) 28 [.ref 0 [] 1 0 n none] [cs] = some (.tup [.val (.slice none 0 0), vb false], [some cs]) := by
  refine evFun_body b28 ?_
  have hsn := isK_snap hk
  by_cases h106 : n = 106
  · subst h106
    have hok := hok rfl
    obtain ⟨g0, g256⟩ := hb.at0 0
    have hown := isK_own hk
    have hlu : (un cs).length = 106 := by rw [un_len]; exact hn
    have hN : at0 (un cs) 0 = ((crN (un cs) : Nat) : Int) := by unfold crN; omega
    by_cases h5 : at0 (un cs) 0 ≤ 5
    · have hpart : (catOK (rdL (un cs) (crN (un cs))) && decide (un (catB (rdL (un cs) (crN (un cs)))) = un cs)) = false := by
        simp only [crOK, h5, decide_true, Bool.true_and] at hok; exact hok
      have hn5 : crN (un cs) ≤ 5 := by omega
      generalize hNN : crN (un cs) = N at *
      (have fz := ga4 hk hn hb hN; repeat' (first | simp (maxDischargeDepth := 8) only [go_sem, rr, reduceIte, reduceCtorEq, Nat.reduceEqDiff, Nat.reduceAdd, Nat.reduceMul, Nat.reduceSub, Nat.reduceBEq, Nat.reduceLeDiff, Int.reduceEq, Int.reduceLT, Int.reduceLE, Int.reduceGE, Int.reduceGT, Int.reduceBEq, Int.reduceBNe, Int.reduceToNat, Int.reduceNeg, Int.reduceSub, Int.reduceAdd, Int.reduceMul, fz, Tryd.f28] | (with_reducible refine qg9 ?_ ?_; focus (first | (simp (maxDischargeDepth := 8) only [bb, kk, fz]; done) | kernel_rfl)) | ((with_reducible first | refine qf7 ?_ ?_ | refine qf8 ?_ ?_ | refine qf9 ?_ ?_ | refine qg ?_ ?_ | refine qg0 ?_ ?_ | refine qg1 ?_ ?_ | refine qg2 ?_ ?_); focus (first | assumption | omega | (simp only [bz, fz]; omega))) | ((with_reducible first | refine qg3 ?_ ?_ | refine qg4 ?_ ?_ | refine qg5 ?_ ?_); focus (first | assumption | omega | (simp only [bz, fz]; omega))) | ((with_reducible first | refine g1_u8w ?_ ?_ | refine qg7 ?_ ?_); (focus ((repeat' (with_reducible apply And.intro)) <;> (first | assumption | omega | (simp only [bz, fz]; omega) | (simp (maxDischargeDepth := 8) only [bb, fz]; done)))); intro _) | ((with_reducible refine g1_64w ?_ ?_); (focus ((repeat' (with_reducible apply And.intro)) <;> (first | assumption | omega | (simp only [bz, fz]; omega) | (simp (maxDischargeDepth := 8) only [bb, fz]; done)))); intro _)))
      refine loop_inv (fun i => rdAt (un cs) i ≤ 106) (fun i => {T := tp [(0, .ref 0 [] 1 0 106 none), (4, .ref 1 [] 4 0 i (capE i)), (5, .ref 0 [] 1 (rdAt (un cs) i) (106 - rdAt (un cs) i) none), (23, iv .u8 N), (24, iv .u8 i)], H := hp [some cs, some (flat encE (rdL (un cs) i))], nx := 2}) N ?_ (by simp [rdAt]) (lt_LF (by omega)) (fun i hi hI Kn hK => ?_) (fun hI Kn => ?_)
      · simp only [vv, ff, norm, Array.toList, List.map, Option.isSome_none, bne_self_eq_false, reduceIte, reduceCtorEq, Nat.reduceEqDiff, Nat.reduceAdd, Nat.reduceMul, Nat.reduceSub, Nat.reduceBEq, Nat.reduceLeDiff, Int.reduceEq, Int.reduceLT, Int.reduceLE, Int.reduceGE, Int.reduceGT, Int.reduceBEq, Int.reduceBNe, Int.reduceToNat, Int.reduceNeg, Int.reduceSub, Int.reduceAdd, Int.reduceMul, finish, qf0, resOf, resa, qf1, qf2, qf3, keep, qf4, qf5, qf6, qe9, qf, Int.natCast_zero, capE_zero, rdL_zero, rdAt, flat]
      · have hqi : at0 (un cs) (rdAt (un cs) i) = ((rdQ (un cs) i : Nat) : Int) := by have := (hb.at0 (rdAt (un cs) i)).1; unfold rdQ; omega
        have hat : rdAt (un cs) (i + 1) = rdAt (un cs) i + (1 + rdQ (un cs) i) + 12 := rfl
        by_cases hfit : 106 - rdAt (un cs) i ≠ 0 ∧ rdAt (un cs) i + (1 + rdQ (un cs) i) + 12 ≤ 106
        · by_cases hr : rtB (un cs) (rdAt (un cs) i) (rdQ (un cs) i) < 1152921504606846976
          · have hr2 : reOK (un cs) (rdAt (un cs) i) (rdQ (un cs) i) 106 = true := by
              simp only [reOK, Bool.and_eq_true, decide_eq_true_eq]; exact ⟨hfit.2, hr⟩
            have hE := n66 (d+4) (rdAt (un cs) i) (106 - rdAt (un cs) i) 106 (rdQ (un cs) i) cs hk hn hb (by decide) (by omega) (by omega) hqi hr2
            have hE0 : encE (enAt (un cs) (rdAt (un cs) i) (rdQ (un cs) i)) = encE (rdE (un cs) i) := rfl
            rw [hE0] at hE
            have hs := rdF_succ (un cs) i
            have hln := rdF_len (un cs) i
            have ho := anyOwn_encE (rdL (un cs) i)
            have hat2 : 106 - rdAt (un cs) i - (1 + rdQ (un cs) i) - 12 = 106 - rdAt (un cs) (i + 1) := by omega
            rw [← hat, hat2] at hE
            (have fz := ga5 hE hs hln ho hown; repeat' (first | simp (maxDischargeDepth := 8) only [go_sem, rr, reduceIte, reduceCtorEq, Nat.reduceEqDiff, Nat.reduceAdd, Nat.reduceMul, Nat.reduceSub, Nat.reduceBEq, Nat.reduceLeDiff, Int.reduceEq, Int.reduceLT, Int.reduceLE, Int.reduceGE, Int.reduceGT, Int.reduceBEq, Int.reduceBNe, Int.reduceToNat, Int.reduceNeg, Int.reduceSub, Int.reduceAdd, Int.reduceMul, fz] | (with_reducible refine qg9 ?_ ?_; focus (first | (simp (maxDischargeDepth := 8) only [bb, kk, fz]; done) | kernel_rfl)) | ((with_reducible first | refine qf7 ?_ ?_ | refine qf8 ?_ ?_ | refine qf9 ?_ ?_ | refine qg ?_ ?_ | refine qg0 ?_ ?_ | refine qg1 ?_ ?_ | refine qg2 ?_ ?_); focus (first | assumption | omega | (simp only [bz, fz]; omega))) | ((with_reducible first | refine qg3 ?_ ?_ | refine qg4 ?_ ?_ | refine qg5 ?_ ?_); focus (first | assumption | omega | (simp only [bz, fz]; omega))) | ((with_reducible first | refine g1_u8w ?_ ?_ | refine qg7 ?_ ?_); (focus ((repeat' (with_reducible apply And.intro)) <;> (first | assumption | omega | (simp only [bz, fz]; omega) | (simp (maxDischargeDepth := 8) only [bb, fz]; done)))); intro _) | ((with_reducible refine g1_64w ?_ ?_); (focus ((repeat' (with_reducible apply And.intro)) <;> (first | assumption | omega | (simp only [bz, fz]; omega) | (simp (maxDischargeDepth := 8) only [bb, fz]; done)))); intro _)))
            refine hK (by rw [hat]; exact hfit.2) _ ?_
            simp only [vv, ff, norm, Array.toList, List.map, Option.isSome_none, bne_self_eq_false, reduceIte, reduceCtorEq, Nat.reduceEqDiff, Nat.reduceAdd, Nat.reduceMul, Nat.reduceSub, Nat.reduceBEq, Nat.reduceLeDiff, Int.reduceEq, Int.reduceLT, Int.reduceLE, Int.reduceGE, Int.reduceGT, Int.reduceBEq, Int.reduceBNe, Int.reduceToNat, Int.reduceNeg, Int.reduceSub, Int.reduceAdd, Int.reduceMul, finish, qf0, resOf, resa, qf1, qf2, qf3, keep, qf4, qf5, qf6, qe9, qf, Int.natCast_add, cst1, capE_succ, capK_pos Nat.one_pos, capK_pos Nat.one_pos]
          · have hE := n66f (d+4) (rdAt (un cs) i) (106 - rdAt (un cs) i) 106 (rdQ (un cs) i) cs hk hn hb (by decide) (by omega) (by omega) hqi hfit.2 hr
            (have fz := ga3 hE hown hsn; repeat' (first | simp (maxDischargeDepth := 8) only [go_sem, rr, reduceIte, reduceCtorEq, Nat.reduceEqDiff, Nat.reduceAdd, Nat.reduceMul, Nat.reduceSub, Nat.reduceBEq, Nat.reduceLeDiff, Int.reduceEq, Int.reduceLT, Int.reduceLE, Int.reduceGE, Int.reduceGT, Int.reduceBEq, Int.reduceBNe, Int.reduceToNat, Int.reduceNeg, Int.reduceSub, Int.reduceAdd, Int.reduceMul, fz] | (with_reducible refine qg9 ?_ ?_; focus (first | (simp (maxDischargeDepth := 8) only [bb, kk, fz]; done) | kernel_rfl)) | ((with_reducible first | refine qf7 ?_ ?_ | refine qf8 ?_ ?_ | refine qf9 ?_ ?_ | refine qg ?_ ?_ | refine qg0 ?_ ?_ | refine qg1 ?_ ?_ | refine qg2 ?_ ?_); focus (first | assumption | omega | (simp only [bz, fz]; omega))) | ((with_reducible first | refine qg3 ?_ ?_ | refine qg4 ?_ ?_ | refine qg5 ?_ ?_); focus (first | assumption | omega | (simp only [bz, fz]; omega))) | ((with_reducible first | refine g1_u8w ?_ ?_ | refine qg7 ?_ ?_); (focus ((repeat' (with_reducible apply And.intro)) <;> (first | assumption | omega | (simp only [bz, fz]; omega) | (simp (maxDischargeDepth := 8) only [bb, fz]; done)))); intro _) | ((with_reducible refine g1_64w ?_ ?_); (focus ((repeat' (with_reducible apply And.intro)) <;> (first | assumption | omega | (simp only [bz, fz]; omega) | (simp (maxDischargeDepth := 8) only [bb, fz]; done)))); intro _)))
        · have hE := n66s (d+4) (rdAt (un cs) i) (106 - rdAt (un cs) i) 106 cs hk hn hb (by decide) (by omega) (by
            by_cases h0 : 106 - rdAt (un cs) i = 0
            · exact .inl h0
            · right; intro hh; exact hfit ⟨h0, hh⟩)
          have he : encE e0 = [vs [], vi 0, vi 0, vi 0] := rfl
          rw [he] at hE
          (have fz := ga3 hE hown hsn; repeat' (first | simp (maxDischargeDepth := 8) only [go_sem, rr, reduceIte, reduceCtorEq, Nat.reduceEqDiff, Nat.reduceAdd, Nat.reduceMul, Nat.reduceSub, Nat.reduceBEq, Nat.reduceLeDiff, Int.reduceEq, Int.reduceLT, Int.reduceLE, Int.reduceGE, Int.reduceGT, Int.reduceBEq, Int.reduceBNe, Int.reduceToNat, Int.reduceNeg, Int.reduceSub, Int.reduceAdd, Int.reduceMul, fz] | (with_reducible refine qg9 ?_ ?_; focus (first | (simp (maxDischargeDepth := 8) only [bb, kk, fz]; done) | kernel_rfl)) | ((with_reducible first | refine qf7 ?_ ?_ | refine qf8 ?_ ?_ | refine qf9 ?_ ?_ | refine qg ?_ ?_ | refine qg0 ?_ ?_ | refine qg1 ?_ ?_ | refine qg2 ?_ ?_); focus (first | assumption | omega | (simp only [bz, fz]; omega))) | ((with_reducible first | refine qg3 ?_ ?_ | refine qg4 ?_ ?_ | refine qg5 ?_ ?_); focus (first | assumption | omega | (simp only [bz, fz]; omega))) | ((with_reducible first | refine g1_u8w ?_ ?_ | refine qg7 ?_ ?_); (focus ((repeat' (with_reducible apply And.intro)) <;> (first | assumption | omega | (simp only [bz, fz]; omega) | (simp (maxDischargeDepth := 8) only [bb, fz]; done)))); intro _) | ((with_reducible refine g1_64w ?_ ?_); (focus ((repeat' (with_reducible apply And.intro)) <;> (first | assumption | omega | (simp only [bz, fz]; omega) | (simp (maxDischargeDepth := 8) only [bb, fz]; done)))); intro _)))
      · have hS := rdL_small (l := un cs) (by omega) (show N ≤ 1048576 by omega)
        have hlen := rdL_len (un cs) N
        have hC := fun d tg c => e24 d (rdL (un cs) N) tg c hS
        have hln := rdF_len (un cs) N
        have ho := anyOwn_encE (rdL (un cs) N)
        have hsn2 := noSnapL_encE (rdL (un cs) N)
        cases hcat : catOK (rdL (un cs) N) with
        | false =>
          rw [hlen] at hC
          (have fz := ga10 hC hcat hln ho hsn2 hsn hk hn hb hown; repeat' (first | simp (maxDischargeDepth := 8) only [go_sem, rr, reduceIte, reduceCtorEq, Nat.reduceEqDiff, Nat.reduceAdd, Nat.reduceMul, Nat.reduceSub, Nat.reduceBEq, Nat.reduceLeDiff, Int.reduceEq, Int.reduceLT, Int.reduceLE, Int.reduceGE, Int.reduceGT, Int.reduceBEq, Int.reduceBNe, Int.reduceToNat, Int.reduceNeg, Int.reduceSub, Int.reduceAdd, Int.reduceMul, fz] | (with_reducible refine qg9 ?_ ?_; focus (first | (simp (maxDischargeDepth := 8) only [bb, kk, fz]; done) | kernel_rfl)) | ((with_reducible first | refine qf7 ?_ ?_ | refine qf8 ?_ ?_ | refine qf9 ?_ ?_ | refine qg ?_ ?_ | refine qg0 ?_ ?_ | refine qg1 ?_ ?_ | refine qg2 ?_ ?_); focus (first | assumption | omega | (simp only [bz, fz]; omega))) | ((with_reducible first | refine qg3 ?_ ?_ | refine qg4 ?_ ?_ | refine qg5 ?_ ?_); focus (first | assumption | omega | (simp only [bz, fz]; omega))) | ((with_reducible first | refine g1_u8w ?_ ?_ | refine qg7 ?_ ?_); (focus ((repeat' (with_reducible apply And.intro)) <;> (first | assumption | omega | (simp only [bz, fz]; omega) | (simp (maxDischargeDepth := 8) only [bb, fz]; done)))); intro _) | ((with_reducible refine g1_64w ?_ ?_); (focus ((repeat' (with_reducible apply And.intro)) <;> (first | assumption | omega | (simp only [bz, fz]; omega) | (simp (maxDischargeDepth := 8) only [bb, fz]; done)))); intro _)))
        | true =>
          have hB := fun d tg c => e65 d (rdL (un cs) N) tg c hcat
          rw [hlen] at hC hB
          have hdec : decide (un (catB (rdL (un cs) N)) = un cs) = false := by rw [hcat] at hpart; simpa using hpart
          have hkB := isK_catB (rdL (un cs) N)
          have hlB := catB_len hcat
          have hbB : B8 (un (catB (rdL (un cs) N))) := b8_catB hcat
          have hoB := isK_own hkB
          (have fz := ga16 hC hB hcat hkB hlB hbB hdec hln ho hsn2 hsn hk hn hb hoB hown; repeat' (first | simp (maxDischargeDepth := 8) only [go_sem, rr, reduceIte, reduceCtorEq, Nat.reduceEqDiff, Nat.reduceAdd, Nat.reduceMul, Nat.reduceSub, Nat.reduceBEq, Nat.reduceLeDiff, Int.reduceEq, Int.reduceLT, Int.reduceLE, Int.reduceGE, Int.reduceGT, Int.reduceBEq, Int.reduceBNe, Int.reduceToNat, Int.reduceNeg, Int.reduceSub, Int.reduceAdd, Int.reduceMul, fz] | (with_reducible refine qg9 ?_ ?_; focus (first | (simp (maxDischargeDepth := 8) only [bb, kk, fz]; done) | kernel_rfl)) | ((with_reducible first | refine qf7 ?_ ?_ | refine qf8 ?_ ?_ | refine qf9 ?_ ?_ | refine qg ?_ ?_ | refine qg0 ?_ ?_ | refine qg1 ?_ ?_ | refine qg2 ?_ ?_); focus (first | assumption | omega | (simp only [bz, fz]; omega))) | ((with_reducible first | refine qg3 ?_ ?_ | refine qg4 ?_ ?_ | refine qg5 ?_ ?_); focus (first | assumption | omega | (simp only [bz, fz]; omega))) | ((with_reducible first | refine g1_u8w ?_ ?_ | refine qg7 ?_ ?_); (focus ((repeat' (with_reducible apply And.intro)) <;> (first | assumption | omega | (simp only [bz, fz]; omega) | (simp (maxDischargeDepth := 8) only [bb, fz]; done)))); intro _) | ((with_reducible refine g1_64w ?_ ?_); (focus ((repeat' (with_reducible apply And.intro)) <;> (first | assumption | omega | (simp only [bz, fz]; omega) | (simp (maxDischargeDepth := 8) only [bb, fz]; done)))); intro _) | (with_reducible apply call_elim; focus ((with_reducible first | apply q67) <;> (first | assumption | omega | (simp only [bz, fz]; omega) | (simp (maxDischargeDepth := 8) only [bb, fz]; done))))))
    · (have fz := ga4 hk hn hb hsn; repeat' (first | simp (maxDischargeDepth := 8) only [go_sem, rr, reduceIte, reduceCtorEq, Nat.reduceEqDiff, Nat.reduceAdd, Nat.reduceMul, Nat.reduceSub, Nat.reduceBEq, Nat.reduceLeDiff, Int.reduceEq, Int.reduceLT, Int.reduceLE, Int.reduceGE, Int.reduceGT, Int.reduceBEq, Int.reduceBNe, Int.reduceToNat, Int.reduceNeg, Int.reduceSub, Int.reduceAdd, Int.reduceMul, fz, Tryd.f28] | (with_reducible refine qg9 ?_ ?_; focus (first | (simp (maxDischargeDepth := 8) only [bb, kk, fz]; done) | kernel_rfl)) | ((with_reducible first | refine qf7 ?_ ?_ | refine qf8 ?_ ?_ | refine qf9 ?_ ?_ | refine qg ?_ ?_ | refine qg0 ?_ ?_ | refine qg1 ?_ ?_ | refine qg2 ?_ ?_); focus (first | assumption | omega | (simp only [bz, fz]; omega))) | ((with_reducible first | refine qg3 ?_ ?_ | refine qg4 ?_ ?_ | refine qg5 ?_ ?_); focus (first | assumption | omega | (simp only [bz, fz]; omega))) | ((with_reducible first | refine g1_u8w ?_ ?_ | refine qg7 ?_ ?_); (focus ((repeat' (with_reducible apply And.intro)) <;> (first | assumption | omega | (simp only [bz, fz]; omega) | (simp (maxDischargeDepth := 8) only [bb, fz]; done)))); intro _) | ((with_reducible refine g1_64w ?_ ?_); (focus ((repeat' (with_reducible apply And.intro)) <;> (first | assumption | omega | (simp only [bz, fz]; omega) | (simp (maxDischargeDepth := 8) only [bb, fz]; done)))); intro _)))
  · (have fz := ga4 hk hn hb hsn; repeat' (first | simp (maxDischargeDepth := 8) only [go_sem, rr, reduceIte, reduceCtorEq, Nat.reduceEqDiff, Nat.reduceAdd, Nat.reduceMul, Nat.reduceSub, Nat.reduceBEq, Nat.reduceLeDiff, Int.reduceEq, Int.reduceLT, Int.reduceLE, Int.reduceGE, Int.reduceGT, Int.reduceBEq, Int.reduceBNe, Int.reduceToNat, Int.reduceNeg, Int.reduceSub, Int.reduceAdd, Int.reduceMul, fz, Tryd.f28] | (with_reducible refine qg9 ?_ ?_; focus (first | (simp (maxDischargeDepth := 8) only [bb, kk, fz]; done) | kernel_rfl)) | ((with_reducible first | refine qf7 ?_ ?_ | refine qf8 ?_ ?_ | refine qf9 ?_ ?_ | refine qg ?_ ?_ | refine qg0 ?_ ?_ | refine qg1 ?_ ?_ | refine qg2 ?_ ?_); focus (first | assumption | omega | (simp only [bz, fz]; omega))) | ((with_reducible first | refine qg3 ?_ ?_ | refine qg4 ?_ ?_ | refine qg5 ?_ ?_); focus (first | assumption | omega | (simp only [bz, fz]; omega))) | ((with_reducible first | refine g1_u8w ?_ ?_ | refine qg7 ?_ ?_); (focus ((repeat' (with_reducible apply And.intro)) <;> (first | assumption | omega | (simp only [bz, fz]; omega) | (simp (maxDischargeDepth := 8) only [bb, fz]; done)))); intro _) | ((with_reducible refine g1_64w ?_ ?_); (focus ((repeat' (with_reducible apply And.intro)) <;> (first | assumption | omega | (simp only [bz, fz]; omega) | (simp (maxDischargeDepth := 8) only [bb, fz]; done)))); intro _)))
end Go.Proofs.YtgdldmfkgijkaaaDoor.VH.S
end

section
namespace Go.Proofs.YtgdldmfkgijkaaaDoor.VH.S
open Go.Proofs
set_option maxRecDepth 100000
set_option maxHeartbeats 8000000
set_option linter.unusedSimpArgs false

/- The law of a catalog. -/
/- reducible -/
theorem evC_assoc {R : Type} {E : Env} {C : Oracle} {L f : Nat} (a b c : Code) (S : St) (K : Ex → St → Option R) : evC E C L f (.seq a (.seq b c)) S K = evC E C L f (.seq (.seq a b) c) S K := by
  simp only [evC_seq]
  congr 1
  funext e S1
  cases e with
  | normal =>
    simp only [kSeq_normal, qa, evC_seq]
    cases E.cutf f with
    | false => rfl
    | true => cases E.cut f (qa b) <;> simp only [kCut, evC_seq]
  | exit i => rfl
  | ret => rfl
theorem m28 (d : Nat) (n : Nat) (cs : List AV) (hk : isK .u8 cs = true) (h : n ≠ 106) (hn : n ≤ cs.length) : evFun E (d+7) 28 [.ref 0 [] 1 0 n none] [cs] = some (.tup [.val (.slice none 0 0), vb false], [some cs]) := by
  refine evFun_body b28 ?_
  have hsn := isK_snap hk
  have hown := isK_own hk
  (have fz := ga2 hsn hown; repeat' (first | simp (maxDischargeDepth := 8) only [go_sem, rr, reduceIte, reduceCtorEq, Nat.reduceEqDiff, Nat.reduceAdd, Nat.reduceMul, Nat.reduceSub, Nat.reduceBEq, Nat.reduceLeDiff, Int.reduceEq, Int.reduceLT, Int.reduceLE, Int.reduceGE, Int.reduceGT, Int.reduceBEq, Int.reduceBNe, Int.reduceToNat, Int.reduceNeg, Int.reduceSub, Int.reduceAdd, Int.reduceMul, fz, Tryd.f28] | (with_reducible refine qg9 ?_ ?_; focus (first | (simp (maxDischargeDepth := 8) only [bb, kk, fz]; done) | kernel_rfl)) | ((with_reducible first | refine qf7 ?_ ?_ | refine qf8 ?_ ?_ | refine qf9 ?_ ?_ | refine qg ?_ ?_ | refine qg0 ?_ ?_ | refine qg1 ?_ ?_ | refine qg2 ?_ ?_); focus (first | with_reducible assumption | omega | (simp only [bz, fz]; omega))) | ((with_reducible first | refine qg3 ?_ ?_ | refine qg4 ?_ ?_ | refine qg5 ?_ ?_); focus (first | with_reducible assumption | omega | (simp only [bz, fz]; omega))) | ((with_reducible first | refine g1_u8w ?_ ?_ | refine qg7 ?_ ?_); (focus ((repeat' (with_reducible apply And.intro)) <;> (first | with_reducible assumption | omega | (simp only [bz, fz]; omega) | (simp (maxDischargeDepth := 8) only [bb, fz]; done)))); intro _) | ((with_reducible refine g1_64w ?_ ?_); (focus ((repeat' (with_reducible apply And.intro)) <;> (first | with_reducible assumption | omega | (simp only [bz, fz]; omega) | (simp (maxDischargeDepth := 8) only [bb, fz]; done)))); intro _)))
theorem e5 (d : Nat) (a : List Int) (hb : B8 a) : evFun E (d+12) 5 [.sl .fgn 1 a.length none (a.map (iv .u8))] [] = some (vb true, []) := by
  by_cases hbig : (a.length : Int) > 1048576
  · refine evFun_body b5 ?_
    have hbg : ∀ d, evFun E (d+1) 6 [.sl .fgn 1 a.length none (a.map (iv .u8))] [] = some (vb true, []) := fun d => by rw [e6, decide_eq_true hbig]
    (repeat' (first | simp (maxDischargeDepth := 8) only [go_sem, rr, reduceIte, reduceCtorEq, Nat.reduceEqDiff, Nat.reduceAdd, Nat.reduceMul, Nat.reduceSub, Nat.reduceBEq, Nat.reduceLeDiff, Int.reduceEq, Int.reduceLT, Int.reduceLE, Int.reduceGE, Int.reduceGT, Int.reduceBEq, Int.reduceBNe, Int.reduceToNat, Int.reduceNeg, Int.reduceSub, Int.reduceAdd, Int.reduceMul, hbg, kCut_none, Tryd.f5] | (with_reducible refine qg9 ?_ ?_; focus (first | (simp (maxDischargeDepth := 8) only [bb, kk, hbg, kCut_none]; done) | kernel_rfl)) | ((with_reducible first | refine qf7 ?_ ?_ | refine qf8 ?_ ?_ | refine qf9 ?_ ?_ | refine qg ?_ ?_ | refine qg0 ?_ ?_ | refine qg1 ?_ ?_ | refine qg2 ?_ ?_); focus (first | with_reducible assumption | omega | (simp only [bz, hbg, kCut_none]; omega))) | ((with_reducible first | refine qg3 ?_ ?_ | refine qg4 ?_ ?_ | refine qg5 ?_ ?_); focus (first | with_reducible assumption | omega | (simp only [bz, hbg, kCut_none]; omega))) | ((with_reducible first | refine g1_u8w ?_ ?_ | refine qg7 ?_ ?_); (focus ((repeat' (with_reducible apply And.intro)) <;> (first | with_reducible assumption | omega | (simp only [bz, hbg, kCut_none]; omega) | (simp (maxDischargeDepth := 8) only [bb, hbg, kCut_none]; done)))); intro _) | ((with_reducible refine g1_64w ?_ ?_); (focus ((repeat' (with_reducible apply And.intro)) <;> (first | with_reducible assumption | omega | (simp only [bz, hbg, kCut_none]; omega) | (simp (maxDischargeDepth := 8) only [bb, hbg, kCut_none]; done)))); intro _)))
  have hl : a.length ≤ 2 ^ 39 := by omega
  have hbg : ∀ d, evFun E (d+1) 6 [.sl .fgn 1 a.length none (a.map (iv .u8))] [] = some (vb false, []) := fun d => by rw [e6, decide_eq_false hbig]
  obtain ⟨L, cL, hD, hc, hn⟩ := x26 (d+3) a hl
  obtain ⟨cs, n, hR, hk, h8, hn6, hlc⟩ := x32 (d+3) a hl
  have h5 := (cat_parts hc).1
  have hsL := sorted_of hc
  have hS : Small L := small_nm hn (by omega)
  have hlL := fE_len L
  have hoL := anyOwn_encE L
  have hnL := noSnapL_encE L
  refine evFun_body b5 ?_
  simp only [Tryd.f5, List.length_nil, List.map_nil, Option.getD_some]
  iterate 4 rw [evC_assoc]
  rw [evC_seq]
  refine seq_cut {T := tp [(0, .sl .fgn 1 a.length none (a.map (iv .u8))), (3, .ref 0 [] 4 0 L.length cL), (4, .ref 1 [] 1 0 106 none), (5, vb true), (6, .ref 2 [] 4 0 L.length (capE L.length)), (7, vb true)], H := hp [some (flat encE L), some (catB L), some (flat encE L)], nx := 3} cf5 ct5_6 (fun K1 hK => ?_) ?_
  · have hCB : ∀ d tg c, evFun E (d+7) 27 [.sl tg 4 L.length c (flat encE L)] [] = _ := fun d tg c => e27 d L tg c hS hc
    have hb8 := b8_catB hc
    have hbn := catB_len hc
    have hbk := isK_catB L
    have hCR : ∀ d, evFun E (d+7) 28 [.ref 0 [] 1 0 106 none] [catB L] = some (.tup [.ref 1 [] 4 0 L.length (capE L.length), vb true], [some (catB L), some (flat encE L)]) := fun d => by
      have h := n28 d (catB L) hbk hbn hb8 (crOK_cat hc)
      rw [crN_cat hc, crL_cat hc] at h
      exact h
    generalize catB L = bs at *
    have hob := isK_own hbk
    have hsb := isK_snap hbk
    (have fz := ga10 hbg hD hlL hoL hnL hCB hCR hbn hob hsb; repeat' (first | simp (maxDischargeDepth := 8) only [go_sem, rr, reduceIte, reduceCtorEq, Nat.reduceEqDiff, Nat.reduceAdd, Nat.reduceMul, Nat.reduceSub, Nat.reduceBEq, Nat.reduceLeDiff, Int.reduceEq, Int.reduceLT, Int.reduceLE, Int.reduceGE, Int.reduceGT, Int.reduceBEq, Int.reduceBNe, Int.reduceToNat, Int.reduceNeg, Int.reduceSub, Int.reduceAdd, Int.reduceMul, fz, kCut_none] | (with_reducible refine qg9 ?_ ?_; focus (first | (simp (maxDischargeDepth := 8) only [bb, kk, fz, kCut_none]; done) | kernel_rfl)) | ((with_reducible first | refine qf7 ?_ ?_ | refine qf8 ?_ ?_ | refine qf9 ?_ ?_ | refine qg ?_ ?_ | refine qg0 ?_ ?_ | refine qg1 ?_ ?_ | refine qg2 ?_ ?_); focus (first | with_reducible assumption | omega | (simp only [bz, fz, kCut_none]; omega))) | ((with_reducible first | refine qg3 ?_ ?_ | refine qg4 ?_ ?_ | refine qg5 ?_ ?_); focus (first | with_reducible assumption | omega | (simp only [bz, fz, kCut_none]; omega))) | ((with_reducible first | refine g1_u8w ?_ ?_ | refine qg7 ?_ ?_); (focus ((repeat' (with_reducible apply And.intro)) <;> (first | with_reducible assumption | omega | (simp only [bz, fz, kCut_none]; omega) | (simp (maxDischargeDepth := 8) only [bb, fz, kCut_none]; done)))); intro _) | ((with_reducible refine g1_64w ?_ ?_); (focus ((repeat' (with_reducible apply And.intro)) <;> (first | with_reducible assumption | omega | (simp only [bz, fz, kCut_none]; omega) | (simp (maxDischargeDepth := 8) only [bb, fz, kCut_none]; done)))); intro _)))
    refine hK _ ?_
    simp only [vv, ff, norm, Array.toList, List.map, Option.isSome_none, bne_self_eq_false, reduceIte, reduceCtorEq, Nat.reduceEqDiff, Nat.reduceAdd, Nat.reduceMul, Nat.reduceSub, Nat.reduceBEq, Nat.reduceLeDiff, Int.reduceEq, Int.reduceLT, Int.reduceLE, Int.reduceGE, Int.reduceGT, Int.reduceBEq, Int.reduceBNe, Int.reduceToNat, Int.reduceNeg, Int.reduceSub, Int.reduceAdd, Int.reduceMul, finish, qf0, resOf, resa, qf1, qf2, qf3, keep, qf4, qf5, qf6, qe9, qf, qc2]
  rw [evC_seq]
  refine seq_cut {T := tp [(0, .sl .fgn 1 a.length none (a.map (iv .u8))), (3, .ref 0 [] 4 0 L.length cL), (6, .ref 1 [] 4 0 L.length (capE L.length))], H := hp [some (flat encE L), some (flat encE L)], nx := 2} cf5 ct5_8 (fun K1 hK => ?_) ?_
  · have hbn := catB_len hc
    have hok : ∀ d tg c, evFun E (d+6) 24 [.sl tg 4 L.length c (flat encE L)] [] = some (vb true, []) := fun d tg c => by rw [e24 d L tg c hS, hc]
    have hob := isK_own (isK_catB L)
    generalize catB L = bs at *
    (have fz := ga6 hlL hoL hnL hbn hob hok; repeat' (first | simp (maxDischargeDepth := 8) only [go_sem, rr, reduceIte, reduceCtorEq, Nat.reduceEqDiff, Nat.reduceAdd, Nat.reduceMul, Nat.reduceSub, Nat.reduceBEq, Nat.reduceLeDiff, Int.reduceEq, Int.reduceLT, Int.reduceLE, Int.reduceGE, Int.reduceGT, Int.reduceBEq, Int.reduceBNe, Int.reduceToNat, Int.reduceNeg, Int.reduceSub, Int.reduceAdd, Int.reduceMul, fz, kCut_none] | (with_reducible refine qg9 ?_ ?_; focus (first | (simp (maxDischargeDepth := 8) only [bb, kk, fz, kCut_none]; done) | kernel_rfl)) | ((with_reducible first | refine qf7 ?_ ?_ | refine qf8 ?_ ?_ | refine qf9 ?_ ?_ | refine qg ?_ ?_ | refine qg0 ?_ ?_ | refine qg1 ?_ ?_ | refine qg2 ?_ ?_); focus (first | with_reducible assumption | omega | (simp only [bz, fz, kCut_none]; omega))) | ((with_reducible first | refine qg3 ?_ ?_ | refine qg4 ?_ ?_ | refine qg5 ?_ ?_); focus (first | with_reducible assumption | omega | (simp only [bz, fz, kCut_none]; omega))) | ((with_reducible first | refine g1_u8w ?_ ?_ | refine qg7 ?_ ?_); (focus ((repeat' (with_reducible apply And.intro)) <;> (first | with_reducible assumption | omega | (simp only [bz, fz, kCut_none]; omega) | (simp (maxDischargeDepth := 8) only [bb, fz, kCut_none]; done)))); intro _) | ((with_reducible refine g1_64w ?_ ?_); (focus ((repeat' (with_reducible apply And.intro)) <;> (first | with_reducible assumption | omega | (simp only [bz, fz, kCut_none]; omega) | (simp (maxDischargeDepth := 8) only [bb, fz, kCut_none]; done)))); intro _)))
    refine hK _ ?_
    simp only [vv, ff, norm, Array.toList, List.map, Option.isSome_none, bne_self_eq_false, reduceIte, reduceCtorEq, Nat.reduceEqDiff, Nat.reduceAdd, Nat.reduceMul, Nat.reduceSub, Nat.reduceBEq, Nat.reduceLeDiff, Int.reduceEq, Int.reduceLT, Int.reduceLE, Int.reduceGE, Int.reduceGT, Int.reduceBEq, Int.reduceBNe, Int.reduceToNat, Int.reduceNeg, Int.reduceSub, Int.reduceAdd, Int.reduceMul, finish, qf0, resOf, resa, qf1, qf2, qf3, keep, qf4, qf5, qf6, qe9, qf, qc2]
  rw [evC_seq]
  refine seq_cut {T := tp [(0, .sl .fgn 1 a.length none (a.map (iv .u8))), (3, .ref 0 [] 4 0 L.length cL)], H := hp [some (flat encE L)], nx := 1} cf5 ct5_14 (fun K1 hK => ?_) ?_
  · (have fz := ga3 hlL hoL hnL; repeat' (first | simp (maxDischargeDepth := 8) only [go_sem, rr, reduceIte, reduceCtorEq, Nat.reduceEqDiff, Nat.reduceAdd, Nat.reduceMul, Nat.reduceSub, Nat.reduceBEq, Nat.reduceLeDiff, Int.reduceEq, Int.reduceLT, Int.reduceLE, Int.reduceGE, Int.reduceGT, Int.reduceBEq, Int.reduceBNe, Int.reduceToNat, Int.reduceNeg, Int.reduceSub, Int.reduceAdd, Int.reduceMul, fz, kCut_none] | (with_reducible refine qg9 ?_ ?_; focus (first | (simp (maxDischargeDepth := 8) only [bb, kk, fz, kCut_none]; done) | kernel_rfl)) | ((with_reducible first | refine qf7 ?_ ?_ | refine qf8 ?_ ?_ | refine qf9 ?_ ?_ | refine qg ?_ ?_ | refine qg0 ?_ ?_ | refine qg1 ?_ ?_ | refine qg2 ?_ ?_); focus (first | with_reducible assumption | omega | (simp only [bz, fz, kCut_none]; omega))) | ((with_reducible first | refine qg3 ?_ ?_ | refine qg4 ?_ ?_ | refine qg5 ?_ ?_); focus (first | with_reducible assumption | omega | (simp only [bz, fz, kCut_none]; omega))) | ((with_reducible first | refine g1_u8w ?_ ?_ | refine qg7 ?_ ?_); (focus ((repeat' (with_reducible apply And.intro)) <;> (first | with_reducible assumption | omega | (simp only [bz, fz, kCut_none]; omega) | (simp (maxDischargeDepth := 8) only [bb, fz, kCut_none]; done)))); intro _) | ((with_reducible refine g1_64w ?_ ?_); (focus ((repeat' (with_reducible apply And.intro)) <;> (first | with_reducible assumption | omega | (simp only [bz, fz, kCut_none]; omega) | (simp (maxDischargeDepth := 8) only [bb, fz, kCut_none]; done)))); intro _)))
    refine loop_go (fun i => {T := tp [(0, .sl .fgn 1 a.length none (a.map (iv .u8))), (3, .ref 0 [] 4 0 L.length cL), (6, .ref 1 [] 4 0 L.length (capE L.length)), (8, vi i)], H := hp [some (flat encE L), some (flat encE L)], nx := 2}) L.length ?_ (lt_LF (by omega)) (fun i hi Kn hL => ?_) (fun Kn => ?_)
    · simp only [vv, ff, norm, Array.toList, List.map, Option.isSome_none, bne_self_eq_false, reduceIte, reduceCtorEq, Nat.reduceEqDiff, Nat.reduceAdd, Nat.reduceMul, Nat.reduceSub, Nat.reduceBEq, Nat.reduceLeDiff, Int.reduceEq, Int.reduceLT, Int.reduceLE, Int.reduceGE, Int.reduceGT, Int.reduceBEq, Int.reduceBNe, Int.reduceToNat, Int.reduceNeg, Int.reduceSub, Int.reduceAdd, Int.reduceMul, finish, qf0, resOf, resa, qf1, qf2, qf3, keep, qf4, qf5, qf6, qe9, qf, Int.natCast_zero]
    · have hF : ∀ d tg c, evFun E (d+7) 25 [.sl tg 4 L.length c (flat encE L), vs (eA L i).nm] [] = some (.tup [.agg [vs (eA L i).nm, vi (eA L i).v, vi (eA L i).s, vi (eA L i).r], vb true], []) := fun d tg c => by
        have hm := List.getElem_mem hi
        rw [← eA_get hi] at hm
        obtain ⟨g1, g2⟩ := has_mem hsL hm
        have h := e25 d L (eA L i).nm tg c hS
        rw [cfE, g1, hc, g2] at h
        exact h
      have hg := fE_getR L hi
      have hg0 := fE_get0 L hi
      have he := eqE (eA L i) (eA L i)
      have hd : decide (eA L i = eA L i) = true := decide_eq_true rfl
      generalize eA L i = x at *
      (have fz := ga8 hlL hoL hnL hF hg hg0 he hd; repeat' (first | simp (maxDischargeDepth := 8) only [go_sem, rr, reduceIte, reduceCtorEq, Nat.reduceEqDiff, Nat.reduceAdd, Nat.reduceMul, Nat.reduceSub, Nat.reduceBEq, Nat.reduceLeDiff, Int.reduceEq, Int.reduceLT, Int.reduceLE, Int.reduceGE, Int.reduceGT, Int.reduceBEq, Int.reduceBNe, Int.reduceToNat, Int.reduceNeg, Int.reduceSub, Int.reduceAdd, Int.reduceMul, fz, aggBin, kCut_none] | (with_reducible refine qg9 ?_ ?_; focus (first | (simp (maxDischargeDepth := 8) only [bb, kk, fz, aggBin, kCut_none]; done) | kernel_rfl)) | ((with_reducible first | refine qf7 ?_ ?_ | refine qf8 ?_ ?_ | refine qf9 ?_ ?_ | refine qg ?_ ?_ | refine qg0 ?_ ?_ | refine qg1 ?_ ?_ | refine qg2 ?_ ?_); focus (first | with_reducible assumption | omega | (simp only [bz, fz, aggBin, kCut_none]; omega))) | ((with_reducible first | refine qg3 ?_ ?_ | refine qg4 ?_ ?_ | refine qg5 ?_ ?_); focus (first | with_reducible assumption | omega | (simp only [bz, fz, aggBin, kCut_none]; omega))) | ((with_reducible first | refine g1_u8w ?_ ?_ | refine qg7 ?_ ?_); (focus ((repeat' (with_reducible apply And.intro)) <;> (first | with_reducible assumption | omega | (simp only [bz, fz, aggBin, kCut_none]; omega) | (simp (maxDischargeDepth := 8) only [bb, fz, aggBin, kCut_none]; done)))); intro _) | ((with_reducible refine g1_64w ?_ ?_); (focus ((repeat' (with_reducible apply And.intro)) <;> (first | with_reducible assumption | omega | (simp only [bz, fz, aggBin, kCut_none]; omega) | (simp (maxDischargeDepth := 8) only [bb, fz, aggBin, kCut_none]; done)))); intro _)))
      refine hL _ ?_
      simp only [vv, ff, norm, Array.toList, List.map, Option.isSome_none, bne_self_eq_false, reduceIte, reduceCtorEq, Nat.reduceEqDiff, Nat.reduceAdd, Nat.reduceMul, Nat.reduceSub, Nat.reduceBEq, Nat.reduceLeDiff, Int.reduceEq, Int.reduceLT, Int.reduceLE, Int.reduceGE, Int.reduceGT, Int.reduceBEq, Int.reduceBNe, Int.reduceToNat, Int.reduceNeg, Int.reduceSub, Int.reduceAdd, Int.reduceMul, finish, qf0, resOf, resa, qf1, qf2, qf3, keep, qf4, qf5, qf6, qe9, qf, Int.natCast_add, cst1]
    · (have fz := ga3 hlL hoL hnL; repeat' (first | simp (maxDischargeDepth := 8) only [go_sem, rr, reduceIte, reduceCtorEq, Nat.reduceEqDiff, Nat.reduceAdd, Nat.reduceMul, Nat.reduceSub, Nat.reduceBEq, Nat.reduceLeDiff, Int.reduceEq, Int.reduceLT, Int.reduceLE, Int.reduceGE, Int.reduceGT, Int.reduceBEq, Int.reduceBNe, Int.reduceToNat, Int.reduceNeg, Int.reduceSub, Int.reduceAdd, Int.reduceMul, fz, kCut_none] | (with_reducible refine qg9 ?_ ?_; focus (first | (simp (maxDischargeDepth := 8) only [bb, kk, fz, kCut_none]; done) | kernel_rfl)) | ((with_reducible first | refine qf7 ?_ ?_ | refine qf8 ?_ ?_ | refine qf9 ?_ ?_ | refine qg ?_ ?_ | refine qg0 ?_ ?_ | refine qg1 ?_ ?_ | refine qg2 ?_ ?_); focus (first | with_reducible assumption | omega | (simp only [bz, fz, kCut_none]; omega))) | ((with_reducible first | refine qg3 ?_ ?_ | refine qg4 ?_ ?_ | refine qg5 ?_ ?_); focus (first | with_reducible assumption | omega | (simp only [bz, fz, kCut_none]; omega))) | ((with_reducible first | refine g1_u8w ?_ ?_ | refine qg7 ?_ ?_); (focus ((repeat' (with_reducible apply And.intro)) <;> (first | with_reducible assumption | omega | (simp only [bz, fz, kCut_none]; omega) | (simp (maxDischargeDepth := 8) only [bb, fz, kCut_none]; done)))); intro _) | ((with_reducible refine g1_64w ?_ ?_); (focus ((repeat' (with_reducible apply And.intro)) <;> (first | with_reducible assumption | omega | (simp only [bz, fz, kCut_none]; omega) | (simp (maxDischargeDepth := 8) only [bb, fz, kCut_none]; done)))); intro _)))
      refine hK _ ?_
      simp only [vv, ff, norm, Array.toList, List.map, Option.isSome_none, bne_self_eq_false, reduceIte, reduceCtorEq, Nat.reduceEqDiff, Nat.reduceAdd, Nat.reduceMul, Nat.reduceSub, Nat.reduceBEq, Nat.reduceLeDiff, Int.reduceEq, Int.reduceLT, Int.reduceLE, Int.reduceGE, Int.reduceGT, Int.reduceBEq, Int.reduceBNe, Int.reduceToNat, Int.reduceNeg, Int.reduceSub, Int.reduceAdd, Int.reduceMul, finish, qf0, resOf, resa, qf1, qf2, qf3, keep, qf4, qf5, qf6, qe9, qf, qc2]
  obtain ⟨v0, v1⟩ := atV_b hb 1
  obtain ⟨s0, s1⟩ := atV_b hb 2
  obtain ⟨r0, r1⟩ := atV_b hb 3
  have hA1 : ∀ d, evFun E (d+1) 20 [.sl .fgn 1 a.length none (a.map (iv .u8)), vi 1] [] = some (vi (atV a 1), []) := fun d => e20 d a 1 (by decide) hl hb
  have hA2 : ∀ d, evFun E (d+1) 20 [.sl .fgn 1 a.length none (a.map (iv .u8)), vi 2] [] = some (vi (atV a 2), []) := fun d => e20 d a 2 (by decide) hl hb
  have hA3 : ∀ d, evFun E (d+1) 20 [.sl .fgn 1 a.length none (a.map (iv .u8)), vi 3] [] = some (vi (atV a 3), []) := fun d => e20 d a 3 (by decide) hl hb
  have hkE : entOK ⟨[109, 109], 1 + atV a 1, (atV a 2).tmod 100, atV a 3⟩ = true := by
    have t0 := Int.tmod_nonneg 100 s0
    have t1 := Int.tmod_lt_of_pos (atV a 2) (show (0 : Int) < 100 by decide)
    have hnm : nameOK [109, 109] = true := by decide
    simp only [entOK, hnm, Bool.true_and, Bool.and_eq_true, decide_eq_true_eq]
    omega
  obtain ⟨M1, p, f, X, hP, hF, hDr, hp1, hp2, hM6⟩ := x29mm L ⟨[109, 109], 1 + atV a 1, (atV a 2).tmod 100, atV a 3⟩ hc hn hkE rfl
  have hlM := fE_len M1
  have hoM := anyOwn_encE M1
  have hnM := noSnapL_encE M1
  iterate 3 rw [evC_assoc]
  rw [evC_seq]
  refine seq_cut {T := tp [(0, .sl .fgn 1 a.length none (a.map (iv .u8))), (3, .ref 0 [] 4 0 L.length cL), (12, .ref 1 [] 4 0 M1.length none), (13, vb p)], H := hp [some (flat encE L), some (flat encE M1)], nx := 2} cf5 ct5_19 (fun K1 hK => ?_) ?_
  · have he : eqCells [.string ByteArray.empty, .int .i64 0, .int .i64 0, .int .i64 0] [vs [109, 109], vi (1 + atV a 1), vi ((atV a 2).tmod 100), vi (atV a 3)] [vs [109, 109], vi (1 + atV a 1), vi ((atV a 2).tmod 100), vi (atV a 3)] = some true := by
      have h := eqE ⟨[109, 109], 1 + atV a 1, (atV a 2).tmod 100, atV a 3⟩ ⟨[109, 109], 1 + atV a 1, (atV a 2).tmod 100, atV a 3⟩
      rw [decide_eq_true rfl] at h
      exact h
    cases p with
    | true =>
      obtain ⟨rfl, hml⟩ := hp2 rfl
      have hlt : L.length < 5 := of_decide_eq_true hp1.symm
      have hdec : decide ((L.length : Int) < 5) = true := decide_eq_true (by omega)
      (have fz := ga13 hlL hoL hnL hlM hoM hnM hA1 hA2 hA3 hP hF he hdec; repeat' (first | simp (maxDischargeDepth := 8) only [go_sem, rr, reduceIte, reduceCtorEq, Nat.reduceEqDiff, Nat.reduceAdd, Nat.reduceMul, Nat.reduceSub, Nat.reduceBEq, Nat.reduceLeDiff, Int.reduceEq, Int.reduceLT, Int.reduceLE, Int.reduceGE, Int.reduceGT, Int.reduceBEq, Int.reduceBNe, Int.reduceToNat, Int.reduceNeg, Int.reduceSub, Int.reduceAdd, Int.reduceMul, fz, aggBin, kCut_none] | (with_reducible refine qg9 ?_ ?_; focus (first | (simp (maxDischargeDepth := 8) only [bb, kk, fz, aggBin, kCut_none]; done) | kernel_rfl)) | ((with_reducible first | refine qf7 ?_ ?_ | refine qf8 ?_ ?_ | refine qf9 ?_ ?_ | refine qg ?_ ?_ | refine qg0 ?_ ?_ | refine qg1 ?_ ?_ | refine qg2 ?_ ?_); focus (first | with_reducible assumption | omega | (simp only [bz, fz, aggBin, kCut_none]; omega))) | ((with_reducible first | refine qg3 ?_ ?_ | refine qg4 ?_ ?_ | refine qg5 ?_ ?_); focus (first | with_reducible assumption | omega | (simp only [bz, fz, aggBin, kCut_none]; omega))) | ((with_reducible first | refine g1_u8w ?_ ?_ | refine qg7 ?_ ?_); (focus ((repeat' (with_reducible apply And.intro)) <;> (first | with_reducible assumption | omega | (simp only [bz, fz, aggBin, kCut_none]; omega) | (simp (maxDischargeDepth := 8) only [bb, fz, aggBin, kCut_none]; done)))); intro _) | ((with_reducible refine g1_64w ?_ ?_); (focus ((repeat' (with_reducible apply And.intro)) <;> (first | with_reducible assumption | omega | (simp only [bz, fz, aggBin, kCut_none]; omega) | (simp (maxDischargeDepth := 8) only [bb, fz, aggBin, kCut_none]; done)))); intro _)))
      refine hK _ ?_
      simp only [vv, ff, norm, Array.toList, List.map, Option.isSome_none, bne_self_eq_false, reduceIte, reduceCtorEq, Nat.reduceEqDiff, Nat.reduceAdd, Nat.reduceMul, Nat.reduceSub, Nat.reduceBEq, Nat.reduceLeDiff, Int.reduceEq, Int.reduceLT, Int.reduceLE, Int.reduceGE, Int.reduceGT, Int.reduceBEq, Int.reduceBNe, Int.reduceToNat, Int.reduceNeg, Int.reduceSub, Int.reduceAdd, Int.reduceMul, finish, qf0, resOf, resa, qf1, qf2, qf3, keep, qf4, qf5, qf6, qe9, qf, qc2]
    | false =>
      have hlt : ¬ L.length < 5 := of_decide_eq_false hp1.symm
      have hdec : decide ((L.length : Int) < 5) = false := decide_eq_false (by omega)
      (have fz := ga13 hlL hoL hnL hlM hoM hnM hA1 hA2 hA3 hP hF he hdec; repeat' (first | simp (maxDischargeDepth := 8) only [go_sem, rr, reduceIte, reduceCtorEq, Nat.reduceEqDiff, Nat.reduceAdd, Nat.reduceMul, Nat.reduceSub, Nat.reduceBEq, Nat.reduceLeDiff, Int.reduceEq, Int.reduceLT, Int.reduceLE, Int.reduceGE, Int.reduceGT, Int.reduceBEq, Int.reduceBNe, Int.reduceToNat, Int.reduceNeg, Int.reduceSub, Int.reduceAdd, Int.reduceMul, fz, aggBin, kCut_none] | (with_reducible refine qg9 ?_ ?_; focus (first | (simp (maxDischargeDepth := 8) only [bb, kk, fz, aggBin, kCut_none]; done) | kernel_rfl)) | ((with_reducible first | refine qf7 ?_ ?_ | refine qf8 ?_ ?_ | refine qf9 ?_ ?_ | refine qg ?_ ?_ | refine qg0 ?_ ?_ | refine qg1 ?_ ?_ | refine qg2 ?_ ?_); focus (first | with_reducible assumption | omega | (simp only [bz, fz, aggBin, kCut_none]; omega))) | ((with_reducible first | refine qg3 ?_ ?_ | refine qg4 ?_ ?_ | refine qg5 ?_ ?_); focus (first | with_reducible assumption | omega | (simp only [bz, fz, aggBin, kCut_none]; omega))) | ((with_reducible first | refine g1_u8w ?_ ?_ | refine qg7 ?_ ?_); (focus ((repeat' (with_reducible apply And.intro)) <;> (first | with_reducible assumption | omega | (simp only [bz, fz, aggBin, kCut_none]; omega) | (simp (maxDischargeDepth := 8) only [bb, fz, aggBin, kCut_none]; done)))); intro _) | ((with_reducible refine g1_64w ?_ ?_); (focus ((repeat' (with_reducible apply And.intro)) <;> (first | with_reducible assumption | omega | (simp only [bz, fz, aggBin, kCut_none]; omega) | (simp (maxDischargeDepth := 8) only [bb, fz, aggBin, kCut_none]; done)))); intro _)))
      refine hK _ ?_
      simp only [vv, ff, norm, Array.toList, List.map, Option.isSome_none, bne_self_eq_false, reduceIte, reduceCtorEq, Nat.reduceEqDiff, Nat.reduceAdd, Nat.reduceMul, Nat.reduceSub, Nat.reduceBEq, Nat.reduceLeDiff, Int.reduceEq, Int.reduceLT, Int.reduceLE, Int.reduceGE, Int.reduceGT, Int.reduceBEq, Int.reduceBNe, Int.reduceToNat, Int.reduceNeg, Int.reduceSub, Int.reduceAdd, Int.reduceMul, finish, qf0, resOf, resa, qf1, qf2, qf3, keep, qf4, qf5, qf6, qe9, qf, qc2]
  iterate 1 rw [evC_assoc]
  rw [evC_seq]
  refine seq_cut {T := tp [(0, .sl .fgn 1 a.length none (a.map (iv .u8)))], H := hp [], nx := 0} cf5 ct5_22 (fun K1 hK => ?_) ?_
  · have hlX := fE_len (L ++ X)
    have hoX := anyOwn_encE (L ++ X)
    have hnX := noSnapL_encE (L ++ X)
    have hXl : L.length ≤ (L ++ X).length := by simp
    have htk := flat_tkA L X L.length rfl
    have hNm : ∀ d tg c, evFun E (d+7) 31 [.sl tg 4 L.length c (flat encE L)] [] = _ := fun d tg c => e31t d L tg c hS hc
    have tnn := txt_len (nmsE L)
    have onn := txt_own (nmsE L)
    have snn := txt_snap (nmsE L)
    have hnl := nmsE_len L
    generalize L ++ X = LX at *
    cases p with
    | true =>
      (have fz := ga16 hlL hoL hnL hlM hoM hnM hlX hoX hnX hDr hNm htk tnn onn snn hnl; repeat' (first | simp (maxDischargeDepth := 8) only [go_sem, rr, reduceIte, reduceCtorEq, Nat.reduceEqDiff, Nat.reduceAdd, Nat.reduceMul, Nat.reduceSub, Nat.reduceBEq, Nat.reduceLeDiff, Int.reduceEq, Int.reduceLT, Int.reduceLE, Int.reduceGE, Int.reduceGT, Int.reduceBEq, Int.reduceBNe, Int.reduceToNat, Int.reduceNeg, Int.reduceSub, Int.reduceAdd, Int.reduceMul, fz, kCut_none] | (with_reducible refine qg9 ?_ ?_; focus (first | (simp (maxDischargeDepth := 8) only [bb, kk, fz, kCut_none]; done) | kernel_rfl)) | ((with_reducible first | refine qf7 ?_ ?_ | refine qf8 ?_ ?_ | refine qf9 ?_ ?_ | refine qg ?_ ?_ | refine qg0 ?_ ?_ | refine qg1 ?_ ?_ | refine qg2 ?_ ?_); focus (first | with_reducible assumption | omega | (simp only [bz, fz, kCut_none]; omega))) | ((with_reducible first | refine qg3 ?_ ?_ | refine qg4 ?_ ?_ | refine qg5 ?_ ?_); focus (first | with_reducible assumption | omega | (simp only [bz, fz, kCut_none]; omega))) | ((with_reducible first | refine g1_u8w ?_ ?_ | refine qg7 ?_ ?_); (focus ((repeat' (with_reducible apply And.intro)) <;> (first | with_reducible assumption | omega | (simp only [bz, fz, kCut_none]; omega) | (simp (maxDischargeDepth := 8) only [bb, fz, kCut_none]; done)))); intro _) | ((with_reducible refine g1_64w ?_ ?_); (focus ((repeat' (with_reducible apply And.intro)) <;> (first | with_reducible assumption | omega | (simp only [bz, fz, kCut_none]; omega) | (simp (maxDischargeDepth := 8) only [bb, fz, kCut_none]; done)))); intro _)))
      refine hK _ ?_
      simp only [vv, ff, norm, Array.toList, List.map, Option.isSome_none, bne_self_eq_false, reduceIte, reduceCtorEq, Nat.reduceEqDiff, Nat.reduceAdd, Nat.reduceMul, Nat.reduceSub, Nat.reduceBEq, Nat.reduceLeDiff, Int.reduceEq, Int.reduceLT, Int.reduceLE, Int.reduceGE, Int.reduceGT, Int.reduceBEq, Int.reduceBNe, Int.reduceToNat, Int.reduceNeg, Int.reduceSub, Int.reduceAdd, Int.reduceMul, finish, qf0, resOf, resa, qf1, qf2, qf3, keep, qf4, qf5, qf6, qe9, qf, qc2]
    | false =>
      (have fz := ga16 hlL hoL hnL hlM hoM hnM hlX hoX hnX hDr hNm htk tnn onn snn hnl; repeat' (first | simp (maxDischargeDepth := 8) only [go_sem, rr, reduceIte, reduceCtorEq, Nat.reduceEqDiff, Nat.reduceAdd, Nat.reduceMul, Nat.reduceSub, Nat.reduceBEq, Nat.reduceLeDiff, Int.reduceEq, Int.reduceLT, Int.reduceLE, Int.reduceGE, Int.reduceGT, Int.reduceBEq, Int.reduceBNe, Int.reduceToNat, Int.reduceNeg, Int.reduceSub, Int.reduceAdd, Int.reduceMul, fz, kCut_none] | (with_reducible refine qg9 ?_ ?_; focus (first | (simp (maxDischargeDepth := 8) only [bb, kk, fz, kCut_none]; done) | kernel_rfl)) | ((with_reducible first | refine qf7 ?_ ?_ | refine qf8 ?_ ?_ | refine qf9 ?_ ?_ | refine qg ?_ ?_ | refine qg0 ?_ ?_ | refine qg1 ?_ ?_ | refine qg2 ?_ ?_); focus (first | with_reducible assumption | omega | (simp only [bz, fz, kCut_none]; omega))) | ((with_reducible first | refine qg3 ?_ ?_ | refine qg4 ?_ ?_ | refine qg5 ?_ ?_); focus (first | with_reducible assumption | omega | (simp only [bz, fz, kCut_none]; omega))) | ((with_reducible first | refine g1_u8w ?_ ?_ | refine qg7 ?_ ?_); (focus ((repeat' (with_reducible apply And.intro)) <;> (first | with_reducible assumption | omega | (simp only [bz, fz, kCut_none]; omega) | (simp (maxDischargeDepth := 8) only [bb, fz, kCut_none]; done)))); intro _) | ((with_reducible refine g1_64w ?_ ?_); (focus ((repeat' (with_reducible apply And.intro)) <;> (first | with_reducible assumption | omega | (simp only [bz, fz, kCut_none]; omega) | (simp (maxDischargeDepth := 8) only [bb, fz, kCut_none]; done)))); intro _)))
      refine hK _ ?_
      simp only [vv, ff, norm, Array.toList, List.map, Option.isSome_none, bne_self_eq_false, reduceIte, reduceCtorEq, Nat.reduceEqDiff, Nat.reduceAdd, Nat.reduceMul, Nat.reduceSub, Nat.reduceBEq, Nat.reduceLeDiff, Int.reduceEq, Int.reduceLT, Int.reduceLE, Int.reduceGE, Int.reduceGT, Int.reduceBEq, Int.reduceBNe, Int.reduceToNat, Int.reduceNeg, Int.reduceSub, Int.reduceAdd, Int.reduceMul, finish, qf0, resOf, resa, qf1, qf2, qf3, keep, qf4, qf5, qf6, qe9, qf, qc2]
  have ho := isK_own hk
  have hs := isK_snap hk
  by_cases hq : n = 106 ∧ crOK (un (cs.take n)) = true
  · obtain ⟨rfl, hq⟩ := hq
    rw [List.take_of_length_le (by omega)] at hq
    have hCR : ∀ d, evFun E (d+7) 28 [.ref 0 [] 1 0 106 none] [cs] = _ := fun d => n28 d cs hk hlc h8 hq
    obtain ⟨⟨w5, w1⟩, w2⟩ : (at0 (un cs) 0 ≤ 5 ∧ catOK (rdL (un cs) (crN (un cs))) = true) ∧ un (catB (rdL (un cs) (crN (un cs)))) = un cs := by
      simp only [crOK, Bool.and_eq_true, decide_eq_true_eq] at hq
      exact ⟨⟨hq.1, hq.2.1⟩, hq.2.2⟩
    have w3 : catB (rdL (un cs) (crN (un cs))) = cs := by
      rw [isK_get (isK_catB (rdL (un cs) (crN (un cs)))), w2]
      exact (isK_get hk).symm
    have hrl := rdL_len (un cs) (crN (un cs))
    have hSR : Small (rdL (un cs) (crN (un cs))) := rdL_small (by rw [un_len]; omega) (by have := (cat_parts w1).1; omega)
    have hCB := fun d tg c => e27 d (rdL (un cs) (crN (un cs))) tg c hSR w1
    rw [w3] at hCB
    simp only [hrl] at hCB
    generalize rdL (un cs) (crN (un cs)) = R at *
    generalize crN (un cs) = q at *
    have hlR := fE_len R
    have hoR := anyOwn_encE R
    have hnR := noSnapL_encE R
    have hby : bytesOf cs = _ := bytesOf_isK hk
    rw [hrl] at hlR
    (have fz := ga10 hR hCR hCB ho hs hlR hoR hnR hlc hby; repeat' (first | simp (maxDischargeDepth := 8) only [go_sem, rr, reduceIte, reduceCtorEq, Nat.reduceEqDiff, Nat.reduceAdd, Nat.reduceMul, Nat.reduceSub, Nat.reduceBEq, Nat.reduceLeDiff, Int.reduceEq, Int.reduceLT, Int.reduceLE, Int.reduceGE, Int.reduceGT, Int.reduceBEq, Int.reduceBNe, Int.reduceToNat, Int.reduceNeg, Int.reduceSub, Int.reduceAdd, Int.reduceMul, fz, cellsIn, kCut_none] | (with_reducible refine qg9 ?_ ?_; focus (first | (simp (maxDischargeDepth := 8) only [bb, kk, fz, cellsIn, kCut_none]; done) | kernel_rfl)) | ((with_reducible first | refine qf7 ?_ ?_ | refine qf8 ?_ ?_ | refine qf9 ?_ ?_ | refine qg ?_ ?_ | refine qg0 ?_ ?_ | refine qg1 ?_ ?_ | refine qg2 ?_ ?_); focus (first | with_reducible assumption | omega | (simp only [bz, fz, cellsIn, kCut_none]; omega))) | ((with_reducible first | refine qg3 ?_ ?_ | refine qg4 ?_ ?_ | refine qg5 ?_ ?_); focus (first | with_reducible assumption | omega | (simp only [bz, fz, cellsIn, kCut_none]; omega))) | ((with_reducible first | refine g1_u8w ?_ ?_ | refine qg7 ?_ ?_); (focus ((repeat' (with_reducible apply And.intro)) <;> (first | with_reducible assumption | omega | (simp only [bz, fz, cellsIn, kCut_none]; omega) | (simp (maxDischargeDepth := 8) only [bb, fz, cellsIn, kCut_none]; done)))); intro _) | ((with_reducible refine g1_64w ?_ ?_); (focus ((repeat' (with_reducible apply And.intro)) <;> (first | with_reducible assumption | omega | (simp only [bz, fz, cellsIn, kCut_none]; omega) | (simp (maxDischargeDepth := 8) only [bb, fz, cellsIn, kCut_none]; done)))); intro _)))
  · have hCR : ∀ d, evFun E (d+7) 28 [.ref 0 [] 1 0 n none] [cs] = some (.tup [.val (.slice none 0 0), vb false], [some cs]) := fun d => by
      by_cases h106 : n = 106
      · subst h106
        rw [List.take_of_length_le (by omega)] at hq
        exact n28f d 106 none cs hk hlc h8 (by omega) (fun _ => by
          cases hh : crOK (un cs) with
          | false => rfl
          | true => exact absurd ⟨rfl, hh⟩ hq)
      · exact m28 d n cs hk h106 (by omega)
    (have fz := ga5 hR hCR ho hs hlc; repeat' (first | simp (maxDischargeDepth := 8) only [go_sem, rr, reduceIte, reduceCtorEq, Nat.reduceEqDiff, Nat.reduceAdd, Nat.reduceMul, Nat.reduceSub, Nat.reduceBEq, Nat.reduceLeDiff, Int.reduceEq, Int.reduceLT, Int.reduceLE, Int.reduceGE, Int.reduceGT, Int.reduceBEq, Int.reduceBNe, Int.reduceToNat, Int.reduceNeg, Int.reduceSub, Int.reduceAdd, Int.reduceMul, fz, kCut_none] | (with_reducible refine qg9 ?_ ?_; focus (first | (simp (maxDischargeDepth := 8) only [bb, kk, fz, kCut_none]; done) | kernel_rfl)) | ((with_reducible first | refine qf7 ?_ ?_ | refine qf8 ?_ ?_ | refine qf9 ?_ ?_ | refine qg ?_ ?_ | refine qg0 ?_ ?_ | refine qg1 ?_ ?_ | refine qg2 ?_ ?_); focus (first | with_reducible assumption | omega | (simp only [bz, fz, kCut_none]; omega))) | ((with_reducible first | refine qg3 ?_ ?_ | refine qg4 ?_ ?_ | refine qg5 ?_ ?_); focus (first | with_reducible assumption | omega | (simp only [bz, fz, kCut_none]; omega))) | ((with_reducible first | refine g1_u8w ?_ ?_ | refine qg7 ?_ ?_); (focus ((repeat' (with_reducible apply And.intro)) <;> (first | with_reducible assumption | omega | (simp only [bz, fz, kCut_none]; omega) | (simp (maxDischargeDepth := 8) only [bb, fz, kCut_none]; done)))); intro _) | ((with_reducible refine g1_64w ?_ ?_); (focus ((repeat' (with_reducible apply And.intro)) <;> (first | with_reducible assumption | omega | (simp only [bz, fz, kCut_none]; omega) | (simp (maxDischargeDepth := 8) only [bb, fz, kCut_none]; done)))); intro _)))
end Go.Proofs.YtgdldmfkgijkaaaDoor.VH.S
end

