/- Part of a proof about the given program: a verified evaluator, and what it tells of the functions (VhBFP, VhBFV, VhBFDk, VhBFWr, VhBFWs). Conditions: none beyond the hypotheses that each theorem states. -/
import Derived.Test.YtjkkndgbhcmphaaG5
section
namespace Go.Proofs.Ytjkkndgbhcmphaa.VH.S
open Go.Proofs
set_option maxRecDepth 100000
set_option maxHeartbeats 8000000
set_option linter.unusedSimpArgs false

theorem e79 (d : Nat) (b : List Int) (s : Nat × Int) (hb : b.length ≤ 2 ^ 39) : evFun E (d+1) 79 [.ptr 0 [] 0] [curC b s] = some (vi (by1 b s).1, [some (curC b (by1 b s).2)]) := by
  refine evFun_body b79 ?_
  obtain ⟨i, h⟩ := s
  by_cases hi : i < b.length
  · have hg : b[i]?.getD 0 = b[i] := by rw [List.getElem?_eq_getElem hi]; rfl
    simp (maxDischargeDepth := 8) only [vv, cc, bb, firstRegion, apartAll, clash, meets, execOp, opnd, builtinHM, bin, convHM, fillP, fieldsPlace, solid, inOrd, sliceHM, bound, zOK, appendHM, srcCells, borL, isSl, slLen, storeHM, loadHM, look1, idxAddr, arrAddr, cellsOf, TD.agg, loadedL, loaded, borrowed, isOwn, fieldR, partHM, absorbL, absorb1, setAt, killAV, killL, leafV, getR, isNil, nilV, Array.toList, List.map, bne_self_eq_false, reduceIte, reduceCtorEq, Nat.reduceEqDiff, Nat.reduceAdd, Nat.reduceMul, Nat.reduceSub, Nat.reduceBEq, Nat.reduceLeDiff, Int.reduceLT, Int.reduceLE, Int.reduceGE, Int.reduceGT, Int.reduceBEq, Int.reduceBNe, Int.reduceToNat, Int.reduceNeg, Int.reduceSub, Int.reduceAdd, Int.reduceMul, callHM, packA, packL, pack1, lentOk, getLent, putBack, backK, renAV, renL, rr, Try.f79, curC, bin_xorI, bin_andI, lt_ok hi, map_get hi, wrap_succ hi hb]
    repeat' ((with_reducible refine condT ?_ ?_); (focus kernel_rfl); try simp (maxDischargeDepth := 8) only [vv, cc, bb, firstRegion, apartAll, clash, meets, execOp, opnd, builtinHM, bin, convHM, fillP, fieldsPlace, solid, inOrd, sliceHM, bound, zOK, appendHM, srcCells, borL, isSl, slLen, storeHM, loadHM, look1, idxAddr, arrAddr, cellsOf, TD.agg, loadedL, loaded, borrowed, isOwn, fieldR, partHM, absorbL, absorb1, setAt, killAV, killL, leafV, getR, isNil, nilV, Array.toList, List.map, bne_self_eq_false, reduceIte, reduceCtorEq, Nat.reduceEqDiff, Nat.reduceAdd, Nat.reduceMul, Nat.reduceSub, Nat.reduceBEq, Nat.reduceLeDiff, Int.reduceLT, Int.reduceLE, Int.reduceGE, Int.reduceGT, Int.reduceBEq, Int.reduceBNe, Int.reduceToNat, Int.reduceNeg, Int.reduceSub, Int.reduceAdd, Int.reduceMul, callHM, packA, packL, pack1, lentOk, getLent, putBack, backK, renAV, renL, rr, bin_xorI, bin_andI, lt_ok hi, map_get hi, wrap_succ hi hb])
    simp only [vv, ff, firstRegion, apartAll, clash, meets, execOp, opnd, builtinHM, bin, convHM, fillP, fieldsPlace, solid, inOrd, sliceHM, bound, zOK, appendHM, srcCells, borL, isSl, slLen, storeHM, loadHM, look1, idxAddr, arrAddr, cellsOf, TD.agg, loadedL, loaded, borrowed, isOwn, fieldR, partHM, absorbL, absorb1, setAt, killAV, killL, leafV, getR, isNil, nilV, Array.toList, List.map, bne_self_eq_false, reduceIte, reduceCtorEq, Nat.reduceEqDiff, Nat.reduceAdd, Nat.reduceMul, Nat.reduceSub, Nat.reduceBEq, Nat.reduceLeDiff, Int.reduceLT, Int.reduceLE, Int.reduceGE, Int.reduceGT, Int.reduceBEq, Int.reduceBNe, Int.reduceToNat, Int.reduceNeg, Int.reduceSub, Int.reduceAdd, Int.reduceMul, finish, wkAV, resOf, resa, noSnap, noSnapL, noSnapO, keep, liveKeys, keysL, keysAV, renAV, renL, rr, by1, curC, if_pos hi, hg, xr, nh]
  · have hd : decide ((i : Int) < (b.length : Int)) = false := by simp; omega
    simp (maxDischargeDepth := 8) only [vv, cc, bb, firstRegion, apartAll, clash, meets, execOp, opnd, builtinHM, bin, convHM, fillP, fieldsPlace, solid, inOrd, sliceHM, bound, zOK, appendHM, srcCells, borL, isSl, slLen, storeHM, loadHM, look1, idxAddr, arrAddr, cellsOf, TD.agg, loadedL, loaded, borrowed, isOwn, fieldR, partHM, absorbL, absorb1, setAt, killAV, killL, leafV, getR, isNil, nilV, Array.toList, List.map, bne_self_eq_false, reduceIte, reduceCtorEq, Nat.reduceEqDiff, Nat.reduceAdd, Nat.reduceMul, Nat.reduceSub, Nat.reduceBEq, Nat.reduceLeDiff, Int.reduceLT, Int.reduceLE, Int.reduceGE, Int.reduceGT, Int.reduceBEq, Int.reduceBNe, Int.reduceToNat, Int.reduceNeg, Int.reduceSub, Int.reduceAdd, Int.reduceMul, callHM, packA, packL, pack1, lentOk, getLent, putBack, backK, renAV, renL, rr, Try.f79, curC, bin_xorI, bin_andI, hd]
    repeat' ((with_reducible refine condT ?_ ?_); (focus kernel_rfl); try simp (maxDischargeDepth := 8) only [vv, cc, bb, firstRegion, apartAll, clash, meets, execOp, opnd, builtinHM, bin, convHM, fillP, fieldsPlace, solid, inOrd, sliceHM, bound, zOK, appendHM, srcCells, borL, isSl, slLen, storeHM, loadHM, look1, idxAddr, arrAddr, cellsOf, TD.agg, loadedL, loaded, borrowed, isOwn, fieldR, partHM, absorbL, absorb1, setAt, killAV, killL, leafV, getR, isNil, nilV, Array.toList, List.map, bne_self_eq_false, reduceIte, reduceCtorEq, Nat.reduceEqDiff, Nat.reduceAdd, Nat.reduceMul, Nat.reduceSub, Nat.reduceBEq, Nat.reduceLeDiff, Int.reduceLT, Int.reduceLE, Int.reduceGE, Int.reduceGT, Int.reduceBEq, Int.reduceBNe, Int.reduceToNat, Int.reduceNeg, Int.reduceSub, Int.reduceAdd, Int.reduceMul, callHM, packA, packL, pack1, lentOk, getLent, putBack, backK, renAV, renL, rr, bin_xorI, bin_andI, hd])
    simp only [vv, ff, firstRegion, apartAll, clash, meets, execOp, opnd, builtinHM, bin, convHM, fillP, fieldsPlace, solid, inOrd, sliceHM, bound, zOK, appendHM, srcCells, borL, isSl, slLen, storeHM, loadHM, look1, idxAddr, arrAddr, cellsOf, TD.agg, loadedL, loaded, borrowed, isOwn, fieldR, partHM, absorbL, absorb1, setAt, killAV, killL, leafV, getR, isNil, nilV, Array.toList, List.map, bne_self_eq_false, reduceIte, reduceCtorEq, Nat.reduceEqDiff, Nat.reduceAdd, Nat.reduceMul, Nat.reduceSub, Nat.reduceBEq, Nat.reduceLeDiff, Int.reduceLT, Int.reduceLE, Int.reduceGE, Int.reduceGT, Int.reduceBEq, Int.reduceBNe, Int.reduceToNat, Int.reduceNeg, Int.reduceSub, Int.reduceAdd, Int.reduceMul, finish, wkAV, resOf, resa, noSnap, noSnapL, noSnapO, keep, liveKeys, keysL, keysAV, renAV, renL, rr, by1, curC, if_neg hi, xr, nh]
theorem e65 (d : Nat) (b : List Int) (n : Int) (s : Nat × Int) (hb : b.length ≤ 2 ^ 39) (hn : 0 < n) : evFun E (d+2) 65 [.ptr 0 [] 0, vi n] [curC b s] = some (vi (bel b n s).1, [some (curC b (bel b n s).2)]) := by
  refine evFun_body b65 ?_
  have h0 : decide (n ≤ 0) = false := by simp; omega
  have hz : decide (n = 0) = false := by simp; omega
  have hkl : ∀ s, (curC b s).any isOwn = false := fun s => rfl
  have hsn : ∀ s, noSnapL (curC b s) = true := fun s => rfl
  cases hc : decide (n ≤ 256) with
  | true =>
    have hc' := of_decide_eq_true hc
    simp (maxDischargeDepth := 8) only [vv, cc, bb, firstRegion, apartAll, clash, meets, execOp, opnd, builtinHM, bin, convHM, fillP, fieldsPlace, solid, inOrd, sliceHM, bound, zOK, appendHM, srcCells, borL, isSl, slLen, storeHM, loadHM, look1, idxAddr, arrAddr, cellsOf, TD.agg, loadedL, loaded, borrowed, isOwn, fieldR, partHM, absorbL, absorb1, setAt, killAV, killL, leafV, getR, isNil, nilV, Array.toList, List.map, bne_self_eq_false, reduceIte, reduceCtorEq, Nat.reduceEqDiff, Nat.reduceAdd, Nat.reduceMul, Nat.reduceSub, Nat.reduceBEq, Nat.reduceLeDiff, Int.reduceLT, Int.reduceLE, Int.reduceGE, Int.reduceGT, Int.reduceBEq, Int.reduceBNe, Int.reduceToNat, Int.reduceNeg, Int.reduceSub, Int.reduceAdd, Int.reduceMul, callHM, packA, packL, pack1, lentOk, getLent, putBack, backK, renAV, renL, rr, Try.f65, h0, hz, hc, e79 _ _ _ hb, hkl]
    simp only [vv, ff, firstRegion, apartAll, clash, meets, execOp, opnd, builtinHM, bin, convHM, fillP, fieldsPlace, solid, inOrd, sliceHM, bound, zOK, appendHM, srcCells, borL, isSl, slLen, storeHM, loadHM, look1, idxAddr, arrAddr, cellsOf, TD.agg, loadedL, loaded, borrowed, isOwn, fieldR, partHM, absorbL, absorb1, setAt, killAV, killL, leafV, getR, isNil, nilV, Array.toList, List.map, bne_self_eq_false, reduceIte, reduceCtorEq, Nat.reduceEqDiff, Nat.reduceAdd, Nat.reduceMul, Nat.reduceSub, Nat.reduceBEq, Nat.reduceLeDiff, Int.reduceLT, Int.reduceLE, Int.reduceGE, Int.reduceGT, Int.reduceBEq, Int.reduceBNe, Int.reduceToNat, Int.reduceNeg, Int.reduceSub, Int.reduceAdd, Int.reduceMul, finish, wkAV, resOf, resa, noSnap, noSnapL, noSnapO, keep, liveKeys, keysL, keysAV, renAV, renL, rr, hsn, bel, if_neg (show ¬ n ≤ 0 by omega), if_pos hc']
  | false =>
    have hc' := of_decide_eq_false hc
    have b1 := by1_b b s
    have b2 := by1_b b (by1 b s).2
    have b3 := by1_b b (by1 b (by1 b s).2).2
    have b4 := by1_b b (by1 b (by1 b (by1 b s).2).2).2
    have w1 : IntKind.i64.wrap ((by1 b s).1 * 16777216) = (by1 b s).1 * 16777216 := wrap64 (by omega) (by omega)
    have w2 : IntKind.i64.wrap ((by1 b (by1 b s).2).1 * 65536) = (by1 b (by1 b s).2).1 * 65536 := wrap64 (by omega) (by omega)
    have w3 : IntKind.i64.wrap ((by1 b s).1 * 16777216 + (by1 b (by1 b s).2).1 * 65536) = (by1 b s).1 * 16777216 + (by1 b (by1 b s).2).1 * 65536 := wrap64 (by omega) (by omega)
    have w4 : IntKind.i64.wrap ((by1 b (by1 b (by1 b s).2).2).1 * 256) = (by1 b (by1 b (by1 b s).2).2).1 * 256 := wrap64 (by omega) (by omega)
    have w5 : IntKind.i64.wrap ((by1 b s).1 * 16777216 + (by1 b (by1 b s).2).1 * 65536 + (by1 b (by1 b (by1 b s).2).2).1 * 256) = (by1 b s).1 * 16777216 + (by1 b (by1 b s).2).1 * 65536 + (by1 b (by1 b (by1 b s).2).2).1 * 256 := wrap64 (by omega) (by omega)
    have w6 : IntKind.i64.wrap ((by1 b s).1 * 16777216 + (by1 b (by1 b s).2).1 * 65536 + (by1 b (by1 b (by1 b s).2).2).1 * 256 + (by1 b (by1 b (by1 b (by1 b s).2).2).2).1) = (by1 b s).1 * 16777216 + (by1 b (by1 b s).2).1 * 65536 + (by1 b (by1 b (by1 b s).2).2).1 * 256 + (by1 b (by1 b (by1 b (by1 b s).2).2).2).1 := wrap64 (by omega) (by omega)
    simp (maxDischargeDepth := 8) only [vv, cc, bb, firstRegion, apartAll, clash, meets, execOp, opnd, builtinHM, bin, convHM, fillP, fieldsPlace, solid, inOrd, sliceHM, bound, zOK, appendHM, srcCells, borL, isSl, slLen, storeHM, loadHM, look1, idxAddr, arrAddr, cellsOf, TD.agg, loadedL, loaded, borrowed, isOwn, fieldR, partHM, absorbL, absorb1, setAt, killAV, killL, leafV, getR, isNil, nilV, Array.toList, List.map, bne_self_eq_false, reduceIte, reduceCtorEq, Nat.reduceEqDiff, Nat.reduceAdd, Nat.reduceMul, Nat.reduceSub, Nat.reduceBEq, Nat.reduceLeDiff, Int.reduceLT, Int.reduceLE, Int.reduceGE, Int.reduceGT, Int.reduceBEq, Int.reduceBNe, Int.reduceToNat, Int.reduceNeg, Int.reduceSub, Int.reduceAdd, Int.reduceMul, callHM, packA, packL, pack1, lentOk, getLent, putBack, backK, renAV, renL, rr, Try.f65, h0, hz, hc, e79 _ _ _ hb, hkl, w1, w2, w3, w4, w5, w6]
    simp only [vv, ff, firstRegion, apartAll, clash, meets, execOp, opnd, builtinHM, bin, convHM, fillP, fieldsPlace, solid, inOrd, sliceHM, bound, zOK, appendHM, srcCells, borL, isSl, slLen, storeHM, loadHM, look1, idxAddr, arrAddr, cellsOf, TD.agg, loadedL, loaded, borrowed, isOwn, fieldR, partHM, absorbL, absorb1, setAt, killAV, killL, leafV, getR, isNil, nilV, Array.toList, List.map, bne_self_eq_false, reduceIte, reduceCtorEq, Nat.reduceEqDiff, Nat.reduceAdd, Nat.reduceMul, Nat.reduceSub, Nat.reduceBEq, Nat.reduceLeDiff, Int.reduceLT, Int.reduceLE, Int.reduceGE, Int.reduceGT, Int.reduceBEq, Int.reduceBNe, Int.reduceToNat, Int.reduceNeg, Int.reduceSub, Int.reduceAdd, Int.reduceMul, finish, wkAV, resOf, resa, noSnap, noSnapL, noSnapO, keep, liveKeys, keysL, keysAV, renAV, renL, rr, hsn, bel, if_neg (show ¬ n ≤ 0 by omega), if_neg hc']
theorem e64 (d : Nat) (b : List Int) (n : Int) (s : Nat × Int) (hb : b.length ≤ 2 ^ 39) (hn : 0 < n) : evFun E (d+3) 64 [.ptr 0 [] 0, vi n] [curC b s] = some (vb ((bel b n s).1 == 0), [some (curC b (bel b n s).2)]) := by
  refine evFun_body b64 ?_
  have hkl : ∀ s, (curC b s).any isOwn = false := fun s => rfl
  have hsn : ∀ s, noSnapL (curC b s) = true := fun s => rfl
  simp (maxDischargeDepth := 8) only [vv, cc, bb, firstRegion, apartAll, clash, meets, execOp, opnd, builtinHM, bin, convHM, fillP, fieldsPlace, solid, inOrd, sliceHM, bound, zOK, appendHM, srcCells, borL, isSl, slLen, storeHM, loadHM, look1, idxAddr, arrAddr, cellsOf, TD.agg, loadedL, loaded, borrowed, isOwn, fieldR, partHM, absorbL, absorb1, setAt, killAV, killL, leafV, getR, isNil, nilV, Array.toList, List.map, bne_self_eq_false, reduceIte, reduceCtorEq, Nat.reduceEqDiff, Nat.reduceAdd, Nat.reduceMul, Nat.reduceSub, Nat.reduceBEq, Nat.reduceLeDiff, Int.reduceLT, Int.reduceLE, Int.reduceGE, Int.reduceGT, Int.reduceBEq, Int.reduceBNe, Int.reduceToNat, Int.reduceNeg, Int.reduceSub, Int.reduceAdd, Int.reduceMul, callHM, packA, packL, pack1, lentOk, getLent, putBack, backK, renAV, renL, rr, Try.f64, e65 _ _ _ _ hb hn, hkl]
  simp only [vv, ff, firstRegion, apartAll, clash, meets, execOp, opnd, builtinHM, bin, convHM, fillP, fieldsPlace, solid, inOrd, sliceHM, bound, zOK, appendHM, srcCells, borL, isSl, slLen, storeHM, loadHM, look1, idxAddr, arrAddr, cellsOf, TD.agg, loadedL, loaded, borrowed, isOwn, fieldR, partHM, absorbL, absorb1, setAt, killAV, killL, leafV, getR, isNil, nilV, Array.toList, List.map, bne_self_eq_false, reduceIte, reduceCtorEq, Nat.reduceEqDiff, Nat.reduceAdd, Nat.reduceMul, Nat.reduceSub, Nat.reduceBEq, Nat.reduceLeDiff, Int.reduceLT, Int.reduceLE, Int.reduceGE, Int.reduceGT, Int.reduceBEq, Int.reduceBNe, Int.reduceToNat, Int.reduceNeg, Int.reduceSub, Int.reduceAdd, Int.reduceMul, finish, wkAV, resOf, resa, noSnap, noSnapL, noSnapO, keep, liveKeys, keysL, keysAV, renAV, renL, rr, hsn]
def newH (b : List Int) : Nat → Int
  | 0 => IntKind.i64.wrap (88088 + (b.length : Int))
  | i + 1 => andI (IntKind.i64.wrap (IntKind.i64.wrap (IntKind.i64.wrap (newH b i * 131) + IntKind.i64.wrap (b.getD i 0)) + 7)) 1073741823
def newN (b : List Int) : Nat := if b.length ≤ 4000 then b.length else 4000
theorem e54 (d : Nat) (b : List Int) (hb : b.length ≤ 2 ^ 39) : evFun E (d+1) 54 [.sl .fgn 1 b.length none (b.map (iv .u8))] [] = some (.ptr 0 [] 0, [some (curC b (0, newH b (newN b)))]) := by
  refine evFun_body b54 ?_
  simp only [vv, firstRegion, apartAll, clash, meets, execOp, opnd, builtinHM, bin, convHM, fillP, fieldsPlace, solid, inOrd, sliceHM, bound, zOK, appendHM, srcCells, borL, isSl, slLen, storeHM, loadHM, look1, idxAddr, arrAddr, cellsOf, TD.agg, loadedL, loaded, borrowed, isOwn, fieldR, partHM, absorbL, absorb1, setAt, killAV, killL, leafV, getR, isNil, nilV, Array.toList, List.map, bne_self_eq_false, reduceIte, reduceCtorEq, Nat.reduceEqDiff, Nat.reduceAdd, Nat.reduceMul, Nat.reduceSub, Nat.reduceBEq, Nat.reduceLeDiff, Int.reduceLT, Int.reduceLE, Int.reduceGE, Int.reduceGT, Int.reduceBEq, Int.reduceBNe, Int.reduceToNat, Int.reduceNeg, Int.reduceSub, Int.reduceAdd, Int.reduceMul, rr, Try.f54]
  have hnn : newN b ≤ b.length ∧ newN b ≤ 4000 := by unfold newN; split <;> omega
  refine loop_go (fun i => {T := tp [(0, .sl .fgn 1 b.length none (b.map (iv .u8))), (3, vi (newH b i)), (4, vi (i : Int))], H := hp [], nx := 0}) (newN b) ?_ (lt_LF (by omega)) (fun i hi Kn hK => ?_) (fun Kn => ?_)
  · simp only [vv, ff, norm, Array.toList, List.map, bne_self_eq_false, reduceIte, reduceCtorEq, Nat.reduceEqDiff, Nat.reduceAdd, Nat.reduceMul, Nat.reduceSub, Nat.reduceBEq, Nat.reduceLeDiff, Int.reduceLT, Int.reduceLE, Int.reduceGE, Int.reduceGT, Int.reduceBEq, Int.reduceBNe, Int.reduceToNat, Int.reduceNeg, Int.reduceSub, Int.reduceAdd, Int.reduceMul, finish, wkAV, resOf, resa, noSnap, noSnapL, noSnapO, keep, liveKeys, keysL, keysAV, renAV, renL, Int.natCast_zero, newH]
  · have hi1 : i < b.length := by omega
    have hi2 : decide ((i : Int) < 4000) = true := by simp; omega
    have hg : b[i]?.getD 0 = b[i] := by rw [List.getElem?_eq_getElem hi1]; rfl
    simp only [vv, firstRegion, apartAll, clash, meets, execOp, opnd, builtinHM, bin, convHM, fillP, fieldsPlace, solid, inOrd, sliceHM, bound, zOK, appendHM, srcCells, borL, isSl, slLen, storeHM, loadHM, look1, idxAddr, arrAddr, cellsOf, TD.agg, loadedL, loaded, borrowed, isOwn, fieldR, partHM, absorbL, absorb1, setAt, killAV, killL, leafV, getR, isNil, nilV, Array.toList, List.map, bne_self_eq_false, reduceIte, reduceCtorEq, Nat.reduceEqDiff, Nat.reduceAdd, Nat.reduceMul, Nat.reduceSub, Nat.reduceBEq, Nat.reduceLeDiff, Int.reduceLT, Int.reduceLE, Int.reduceGE, Int.reduceGT, Int.reduceBEq, Int.reduceBNe, Int.reduceToNat, Int.reduceNeg, Int.reduceSub, Int.reduceAdd, Int.reduceMul, rr, lt_ok hi1, hi2, map_get hi1, wrap_succ hi1 hb, bin_andI]
    refine hK _ ?_
    simp only [vv, ff, norm, Array.toList, List.map, bne_self_eq_false, reduceIte, reduceCtorEq, Nat.reduceEqDiff, Nat.reduceAdd, Nat.reduceMul, Nat.reduceSub, Nat.reduceBEq, Nat.reduceLeDiff, Int.reduceLT, Int.reduceLE, Int.reduceGE, Int.reduceGT, Int.reduceBEq, Int.reduceBNe, Int.reduceToNat, Int.reduceNeg, Int.reduceSub, Int.reduceAdd, Int.reduceMul, finish, wkAV, resOf, resa, noSnap, noSnapL, noSnapO, keep, liveKeys, keysL, keysAV, renAV, renL, newH, hg]
  · by_cases hl : b.length ≤ 4000
    · have e : newN b = b.length := by unfold newN; rw [if_pos hl]
      rw [e]
      simp only [vv, firstRegion, apartAll, clash, meets, execOp, opnd, builtinHM, bin, convHM, fillP, fieldsPlace, solid, inOrd, sliceHM, bound, zOK, appendHM, srcCells, borL, isSl, slLen, storeHM, loadHM, look1, idxAddr, arrAddr, cellsOf, TD.agg, loadedL, loaded, borrowed, isOwn, fieldR, partHM, absorbL, absorb1, setAt, killAV, killL, leafV, getR, isNil, nilV, Array.toList, List.map, bne_self_eq_false, reduceIte, reduceCtorEq, Nat.reduceEqDiff, Nat.reduceAdd, Nat.reduceMul, Nat.reduceSub, Nat.reduceBEq, Nat.reduceLeDiff, Int.reduceLT, Int.reduceLE, Int.reduceGE, Int.reduceGT, Int.reduceBEq, Int.reduceBNe, Int.reduceToNat, Int.reduceNeg, Int.reduceSub, Int.reduceAdd, Int.reduceMul, rr, lt_no]
      simp only [vv, ff, firstRegion, apartAll, clash, meets, execOp, opnd, builtinHM, bin, convHM, fillP, fieldsPlace, solid, inOrd, sliceHM, bound, zOK, appendHM, srcCells, borL, isSl, slLen, storeHM, loadHM, look1, idxAddr, arrAddr, cellsOf, TD.agg, loadedL, loaded, borrowed, isOwn, fieldR, partHM, absorbL, absorb1, setAt, killAV, killL, leafV, getR, isNil, nilV, Array.toList, List.map, bne_self_eq_false, reduceIte, reduceCtorEq, Nat.reduceEqDiff, Nat.reduceAdd, Nat.reduceMul, Nat.reduceSub, Nat.reduceBEq, Nat.reduceLeDiff, Int.reduceLT, Int.reduceLE, Int.reduceGE, Int.reduceGT, Int.reduceBEq, Int.reduceBNe, Int.reduceToNat, Int.reduceNeg, Int.reduceSub, Int.reduceAdd, Int.reduceMul, finish, wkAV, resOf, resa, noSnap, noSnapL, noSnapO, keep, liveKeys, keysL, keysAV, renAV, renL, rr, curC]
    · have e : newN b = 4000 := by unfold newN; rw [if_neg hl]
      rw [e]
      have h1 : decide (((4000 : Nat) : Int) < (b.length : Int)) = true := by simp; omega
      have h2 : decide (((4000 : Nat) : Int) < 4000) = false := by decide
      simp only [vv, firstRegion, apartAll, clash, meets, execOp, opnd, builtinHM, bin, convHM, fillP, fieldsPlace, solid, inOrd, sliceHM, bound, zOK, appendHM, srcCells, borL, isSl, slLen, storeHM, loadHM, look1, idxAddr, arrAddr, cellsOf, TD.agg, loadedL, loaded, borrowed, isOwn, fieldR, partHM, absorbL, absorb1, setAt, killAV, killL, leafV, getR, isNil, nilV, Array.toList, List.map, bne_self_eq_false, reduceIte, reduceCtorEq, Nat.reduceEqDiff, Nat.reduceAdd, Nat.reduceMul, Nat.reduceSub, Nat.reduceBEq, Nat.reduceLeDiff, Int.reduceLT, Int.reduceLE, Int.reduceGE, Int.reduceGT, Int.reduceBEq, Int.reduceBNe, Int.reduceToNat, Int.reduceNeg, Int.reduceSub, Int.reduceAdd, Int.reduceMul, rr, h1, h2]
      simp only [vv, ff, firstRegion, apartAll, clash, meets, execOp, opnd, builtinHM, bin, convHM, fillP, fieldsPlace, solid, inOrd, sliceHM, bound, zOK, appendHM, srcCells, borL, isSl, slLen, storeHM, loadHM, look1, idxAddr, arrAddr, cellsOf, TD.agg, loadedL, loaded, borrowed, isOwn, fieldR, partHM, absorbL, absorb1, setAt, killAV, killL, leafV, getR, isNil, nilV, Array.toList, List.map, bne_self_eq_false, reduceIte, reduceCtorEq, Nat.reduceEqDiff, Nat.reduceAdd, Nat.reduceMul, Nat.reduceSub, Nat.reduceBEq, Nat.reduceLeDiff, Int.reduceLT, Int.reduceLE, Int.reduceGE, Int.reduceGT, Int.reduceBEq, Int.reduceBNe, Int.reduceToNat, Int.reduceNeg, Int.reduceSub, Int.reduceAdd, Int.reduceMul, finish, wkAV, resOf, resa, noSnap, noSnapL, noSnapO, keep, liveKeys, keysL, keysAV, renAV, renL, rr, curC]

/-- what the drawing of a disk comes to -/
structure DS where
  cs : List AV
  s : Nat × Int
def dStep (b : List Int) (x : DS) : DS :=
  let o := bel b 3 x.s
  let t : Int × (Nat × Int) := if (o.1 == 0) = true then bel b 21 o.2 else (20, o.2)
  let k := bel b 3 t.2
  let p := bel b 60000 k.2
  let q := bel b 60000 p.2
  ⟨wrC x.cs ((rdV (un x.cs)).1 + 1 + k.1) (p.1 * q.1) t.1, q.2⟩
def dAll (b : List Int) (x : DS) : Nat → DS
  | 0 => x
  | i + 1 => dStep b (dAll b x i)
theorem rdV_b {l : List Int} (hb : B8 l) : 0 ≤ (rdV l).1 ∧ (rdV l).1 ≤ 1000000 := by
  unfold rdV
  have c1 := cOf_nn (hb.take 20)
  have c2 := cOf_nn (hb.drop 20)
  split
  · split
    · rename_i h
      have := inS_of h.1
      simp only [inS, Bool.and_eq_true, decide_eq_true_eq] at this
      exact ⟨c1, this.1⟩
    · split
      · rename_i h
        have := inS_of h
        simp only [inS, Bool.and_eq_true, decide_eq_true_eq] at this
        exact ⟨c2, this.1⟩
      · exact ⟨by decide, by decide⟩
  · exact ⟨by decide, by decide⟩
structure DInv0 (cs : List AV) : Prop where
  k : isK .u8 cs = true
  len : cs.length = 40
  b8 : B8 (un cs)
theorem DInv0.step {cs : List AV} (h : DInv0 cs) (c r t : Int) : DInv0 (wrC cs c r t) := ⟨isK_wrC h.k _ _ _, by rw [wrC_len]; exact h.len, by rw [un_wrC]; exact S.B8.wrV h.b8 _ _ _⟩
theorem dAll_inv (b : List Int) {x : DS} (h : DInv0 x.cs) : ∀ i, DInv0 (dAll b x i).cs
  | 0 => h
  | i + 1 => (dAll_inv b h i).step _ _ _
theorem newD_b8 : B8 (un newD) := by
  rw [newD, un_app, un_map, un_repl]
  exact (B8.slot _ _).app fun n hn => by
    have := List.eq_of_mem_replicate hn
    omega
def dN (b : List Int) (s : Nat × Int) : Nat := (bel b 5 s).1.toNat
theorem e53 (d : Nat) (b : List Int) (s : Nat × Int) (hb : b.length ≤ 2 ^ 39) : evFun E (d+11) 53 [.ptr 0 [] 0] [curC b s] =
    some (.ref 1 [] 1 0 40 none, [some (curC b (dAll b ⟨newD, (bel b 5 s).2⟩ (dN b s)).s), some (dAll b ⟨newD, (bel b 5 s).2⟩ (dN b s)).cs]) := by
  refine evFun_body b53 ?_
  have hkl : ∀ s, (curC b s).any isOwn = false := fun s => rfl
  have hsn : ∀ s, noSnapL (curC b s) = true := fun s => rfl
  have h5 := bel_b b (n := 5) (by decide) s
  obtain ⟨m, hm⟩ : ∃ m : Nat, (bel b 5 s).1 = m := ⟨_, (Int.toNat_of_nonneg h5.1).symm⟩
  have hmN : dN b s = m := by unfold dN; omega
  have hm4 : m ≤ 4 := by omega
  rw [hmN]
  simp (maxDischargeDepth := 8) only [vv, cc, bb, firstRegion, apartAll, clash, meets, execOp, opnd, builtinHM, bin, convHM, fillP, fieldsPlace, solid, inOrd, sliceHM, bound, zOK, appendHM, srcCells, borL, isSl, slLen, storeHM, loadHM, look1, idxAddr, arrAddr, cellsOf, TD.agg, loadedL, loaded, borrowed, isOwn, fieldR, partHM, absorbL, absorb1, setAt, killAV, killL, leafV, getR, isNil, nilV, Array.toList, List.map, bne_self_eq_false, reduceIte, reduceCtorEq, Nat.reduceEqDiff, Nat.reduceAdd, Nat.reduceMul, Nat.reduceSub, Nat.reduceBEq, Nat.reduceLeDiff, Int.reduceLT, Int.reduceLE, Int.reduceGE, Int.reduceGT, Int.reduceBEq, Int.reduceBNe, Int.reduceToNat, Int.reduceNeg, Int.reduceSub, Int.reduceAdd, Int.reduceMul, callHM, packA, packL, pack1, lentOk, getLent, putBack, backK, renAV, renL, rr, Try.f53, e74, e65 _ _ _ _ hb (by decide : (0 : Int) < 5), hkl, hm]
  refine loop_go (fun i => {T := tp [(0, .ptr 0 [] 0), (3, .ref 1 [] 1 0 40 none), (4, vi ((m : Int) - i))], H := hp [some (curC b (dAll b ⟨newD, (bel b 5 s).2⟩ i).s), some (dAll b ⟨newD, (bel b 5 s).2⟩ i).cs], nx := 2}) m ?_ (lt_LF (by omega)) (fun i hi Kn hK => ?_) (fun Kn => ?_)
  · simp only [vv, ff, norm, Array.toList, List.map, bne_self_eq_false, reduceIte, reduceCtorEq, Nat.reduceEqDiff, Nat.reduceAdd, Nat.reduceMul, Nat.reduceSub, Nat.reduceBEq, Nat.reduceLeDiff, Int.reduceLT, Int.reduceLE, Int.reduceGE, Int.reduceGT, Int.reduceBEq, Int.reduceBNe, Int.reduceToNat, Int.reduceNeg, Int.reduceSub, Int.reduceAdd, Int.reduceMul, finish, wkAV, resOf, resa, noSnap, noSnapL, noSnapO, keep, liveKeys, keysL, keysAV, renAV, renL, Int.natCast_zero, Int.sub_zero, dAll]
  · have hI := dAll_inv b (x := ⟨newD, (bel b 5 s).2⟩) ⟨newD_k, newD_len, newD_b8⟩ i
    have hst : dAll b ⟨newD, (bel b 5 s).2⟩ (i + 1) = dStep b (dAll b ⟨newD, (bel b 5 s).2⟩ i) := rfl
    rw [hst] at hK
    generalize dAll b ⟨newD, (bel b 5 s).2⟩ i = x at *
    obtain ⟨cs, s'⟩ := x
    simp only at hI ⊢
    have hk := hI.k
    have hn := hI.len
    have hbu := hI.b8
    have g1 : decide ((m : Int) - i > 0) = true := by simp; omega
    have g2 : IntKind.i64.wrap ((m : Int) - i - 1) = (m : Int) - ((i + 1 : Nat) : Int) := by rw [wrap64 (by omega) (by omega)]; omega
    have hr := rdV_b hbu
    have w1 : IntKind.i64.wrap ((rdV (un cs)).1 + 1) = (rdV (un cs)).1 + 1 := wrap64 (by omega) (by omega)
    have ws : ∀ s, IntKind.i64.wrap ((rdV (un cs)).1 + 1 + (bel b 3 s).1) = (rdV (un cs)).1 + 1 + (bel b 3 s).1 := fun s => by
      have := bel_b b (n := 3) (by decide) s
      exact wrap64 (by omega) (by omega)
    have wm : ∀ s s', IntKind.i64.wrap ((bel b 60000 s).1 * (bel b 60000 s').1) = (bel b 60000 s).1 * (bel b 60000 s').1 := fun s s' => by
      have h1 := bel_b b (n := 60000) (by decide) s
      have h2 := bel_b b (n := 60000) (by decide) s'
      have h3 : 0 ≤ (bel b 60000 s).1 * (bel b 60000 s').1 := Int.mul_nonneg h1.1 h2.1
      have h4 : (bel b 60000 s).1 * (bel b 60000 s').1 ≤ 60000 * 60000 := Int.mul_le_mul (by omega) (by omega) h2.1 (by decide)
      exact wrap64 (by omega) (by omega)
    cases ho : ((bel b 3 s').1 == 0) with
    | true =>
      simp (maxDischargeDepth := 8) only [vv, cc, bb, firstRegion, apartAll, clash, meets, execOp, opnd, builtinHM, bin, convHM, fillP, fieldsPlace, solid, inOrd, sliceHM, bound, zOK, appendHM, srcCells, borL, isSl, slLen, storeHM, loadHM, look1, idxAddr, arrAddr, cellsOf, TD.agg, loadedL, loaded, borrowed, isOwn, fieldR, partHM, absorbL, absorb1, setAt, killAV, killL, leafV, getR, isNil, nilV, Array.toList, List.map, bne_self_eq_false, reduceIte, reduceCtorEq, Nat.reduceEqDiff, Nat.reduceAdd, Nat.reduceMul, Nat.reduceSub, Nat.reduceBEq, Nat.reduceLeDiff, Int.reduceLT, Int.reduceLE, Int.reduceGE, Int.reduceGT, Int.reduceBEq, Int.reduceBNe, Int.reduceToNat, Int.reduceNeg, Int.reduceSub, Int.reduceAdd, Int.reduceMul, callHM, packA, packL, pack1, lentOk, getLent, putBack, backK, renAV, renL, rr, g1, g2, hk, hn, hbu, w1, ws, wm, ho, hkl, e49, e64 _ _ _ _ hb (by decide : (0 : Int) < 3), e65 _ _ _ _ hb (by decide : (0 : Int) < 21), e65 _ _ _ _ hb (by decide : (0 : Int) < 3), e65 _ _ _ _ hb (by decide : (0 : Int) < 60000), e20]
      refine hK _ ?_
      simp only [vv, ff, norm, Array.toList, List.map, bne_self_eq_false, reduceIte, reduceCtorEq, Nat.reduceEqDiff, Nat.reduceAdd, Nat.reduceMul, Nat.reduceSub, Nat.reduceBEq, Nat.reduceLeDiff, Int.reduceLT, Int.reduceLE, Int.reduceGE, Int.reduceGT, Int.reduceBEq, Int.reduceBNe, Int.reduceToNat, Int.reduceNeg, Int.reduceSub, Int.reduceAdd, Int.reduceMul, finish, wkAV, resOf, resa, noSnap, noSnapL, noSnapO, keep, liveKeys, keysL, keysAV, renAV, renL, dStep, ho]
    | false =>
      simp (maxDischargeDepth := 8) only [vv, cc, bb, firstRegion, apartAll, clash, meets, execOp, opnd, builtinHM, bin, convHM, fillP, fieldsPlace, solid, inOrd, sliceHM, bound, zOK, appendHM, srcCells, borL, isSl, slLen, storeHM, loadHM, look1, idxAddr, arrAddr, cellsOf, TD.agg, loadedL, loaded, borrowed, isOwn, fieldR, partHM, absorbL, absorb1, setAt, killAV, killL, leafV, getR, isNil, nilV, Array.toList, List.map, bne_self_eq_false, reduceIte, reduceCtorEq, Nat.reduceEqDiff, Nat.reduceAdd, Nat.reduceMul, Nat.reduceSub, Nat.reduceBEq, Nat.reduceLeDiff, Int.reduceLT, Int.reduceLE, Int.reduceGE, Int.reduceGT, Int.reduceBEq, Int.reduceBNe, Int.reduceToNat, Int.reduceNeg, Int.reduceSub, Int.reduceAdd, Int.reduceMul, callHM, packA, packL, pack1, lentOk, getLent, putBack, backK, renAV, renL, rr, g1, g2, hk, hn, hbu, w1, ws, wm, ho, hkl, e49, e64 _ _ _ _ hb (by decide : (0 : Int) < 3), e65 _ _ _ _ hb (by decide : (0 : Int) < 21), e65 _ _ _ _ hb (by decide : (0 : Int) < 3), e65 _ _ _ _ hb (by decide : (0 : Int) < 60000), e20]
      refine hK _ ?_
      simp only [vv, ff, norm, Array.toList, List.map, bne_self_eq_false, reduceIte, reduceCtorEq, Nat.reduceEqDiff, Nat.reduceAdd, Nat.reduceMul, Nat.reduceSub, Nat.reduceBEq, Nat.reduceLeDiff, Int.reduceLT, Int.reduceLE, Int.reduceGE, Int.reduceGT, Int.reduceBEq, Int.reduceBNe, Int.reduceToNat, Int.reduceNeg, Int.reduceSub, Int.reduceAdd, Int.reduceMul, finish, wkAV, resOf, resa, noSnap, noSnapL, noSnapO, keep, liveKeys, keysL, keysAV, renAV, renL, dStep, ho, Bool.false_eq_true, if_false]
  · have g1 : decide ((m : Int) - m > 0) = false := by simp
    simp only [vv, firstRegion, apartAll, clash, meets, execOp, opnd, builtinHM, bin, convHM, fillP, fieldsPlace, solid, inOrd, sliceHM, bound, zOK, appendHM, srcCells, borL, isSl, slLen, storeHM, loadHM, look1, idxAddr, arrAddr, cellsOf, TD.agg, loadedL, loaded, borrowed, isOwn, fieldR, partHM, absorbL, absorb1, setAt, killAV, killL, leafV, getR, isNil, nilV, Array.toList, List.map, bne_self_eq_false, reduceIte, reduceCtorEq, Nat.reduceEqDiff, Nat.reduceAdd, Nat.reduceMul, Nat.reduceSub, Nat.reduceBEq, Nat.reduceLeDiff, Int.reduceLT, Int.reduceLE, Int.reduceGE, Int.reduceGT, Int.reduceBEq, Int.reduceBNe, Int.reduceToNat, Int.reduceNeg, Int.reduceSub, Int.reduceAdd, Int.reduceMul, rr, g1]
    have s1 := isK_snap (dAll_inv b (x := ⟨newD, (bel b 5 s).2⟩) ⟨newD_k, newD_len, newD_b8⟩ m).k
    simp only [vv, ff, firstRegion, apartAll, clash, meets, execOp, opnd, builtinHM, bin, convHM, fillP, fieldsPlace, solid, inOrd, sliceHM, bound, zOK, appendHM, srcCells, borL, isSl, slLen, storeHM, loadHM, look1, idxAddr, arrAddr, cellsOf, TD.agg, loadedL, loaded, borrowed, isOwn, fieldR, partHM, absorbL, absorb1, setAt, killAV, killL, leafV, getR, isNil, nilV, Array.toList, List.map, bne_self_eq_false, reduceIte, reduceCtorEq, Nat.reduceEqDiff, Nat.reduceAdd, Nat.reduceMul, Nat.reduceSub, Nat.reduceBEq, Nat.reduceLeDiff, Int.reduceLT, Int.reduceLE, Int.reduceGE, Int.reduceGT, Int.reduceBEq, Int.reduceBNe, Int.reduceToNat, Int.reduceNeg, Int.reduceSub, Int.reduceAdd, Int.reduceMul, finish, wkAV, resOf, resa, noSnap, noSnapL, noSnapO, keep, liveKeys, keysL, keysAV, renAV, renL, rr, s1, hsn]
theorem e24 (d : Nat) (b : List Int) (hb : b.length ≤ 2 ^ 39) : evFun E (d+12) 24 [.sl .fgn 1 b.length none (b.map (iv .u8))] [] =
    some (.ref 0 [] 1 0 40 none, [some (dAll b ⟨newD, (bel b 5 (0, newH b (newN b))).2⟩ (dN b (0, newH b (newN b)))).cs]) := by
  refine evFun_body b24 ?_
  have hkl : ∀ s, (curC b s).any isOwn = false := fun s => rfl
  simp (maxDischargeDepth := 8) only [vv, cc, bb, firstRegion, apartAll, clash, meets, execOp, opnd, builtinHM, bin, convHM, fillP, fieldsPlace, solid, inOrd, sliceHM, bound, zOK, appendHM, srcCells, borL, isSl, slLen, storeHM, loadHM, look1, idxAddr, arrAddr, cellsOf, TD.agg, loadedL, loaded, borrowed, isOwn, fieldR, partHM, absorbL, absorb1, setAt, killAV, killL, leafV, getR, isNil, nilV, Array.toList, List.map, bne_self_eq_false, reduceIte, reduceCtorEq, Nat.reduceEqDiff, Nat.reduceAdd, Nat.reduceMul, Nat.reduceSub, Nat.reduceBEq, Nat.reduceLeDiff, Int.reduceLT, Int.reduceLE, Int.reduceGE, Int.reduceGT, Int.reduceBEq, Int.reduceBNe, Int.reduceToNat, Int.reduceNeg, Int.reduceSub, Int.reduceAdd, Int.reduceMul, callHM, packA, packL, pack1, lentOk, getLent, putBack, backK, renAV, renL, rr, Try.f24, e54 _ _ hb, e53 _ _ _ hb, hkl]
  have s1 := isK_snap (dAll_inv b (x := ⟨newD, (bel b 5 (0, newH b (newN b))).2⟩) ⟨newD_k, newD_len, newD_b8⟩ (dN b (0, newH b (newN b)))).k
  simp only [vv, ff, firstRegion, apartAll, clash, meets, execOp, opnd, builtinHM, bin, convHM, fillP, fieldsPlace, solid, inOrd, sliceHM, bound, zOK, appendHM, srcCells, borL, isSl, slLen, storeHM, loadHM, look1, idxAddr, arrAddr, cellsOf, TD.agg, loadedL, loaded, borrowed, isOwn, fieldR, partHM, absorbL, absorb1, setAt, killAV, killL, leafV, getR, isNil, nilV, Array.toList, List.map, bne_self_eq_false, reduceIte, reduceCtorEq, Nat.reduceEqDiff, Nat.reduceAdd, Nat.reduceMul, Nat.reduceSub, Nat.reduceBEq, Nat.reduceLeDiff, Int.reduceLT, Int.reduceLE, Int.reduceGE, Int.reduceGT, Int.reduceBEq, Int.reduceBNe, Int.reduceToNat, Int.reduceNeg, Int.reduceSub, Int.reduceAdd, Int.reduceMul, finish, wkAV, resOf, resa, noSnap, noSnapL, noSnapO, keep, liveKeys, keysL, keysAV, renAV, renL, rr, s1]
end Go.Proofs.Ytjkkndgbhcmphaa.VH.S
end

section
namespace Go.Proofs.Ytjkkndgbhcmphaa.VH.S
open Go.Proofs
set_option maxRecDepth 100000
set_option maxHeartbeats 8000000
set_option linter.unusedSimpArgs false

/- Disks. -/
theorem cOf_slot {c r : Int} (h : okS c r = true) : cOf (slotL c r) = c := by
  simp only [okS, Bool.and_eq_true, decide_eq_true_eq] at h
  have : (slotL c r).take 8 = eightL c := rfl
  rw [cOf, this, numB_eight h.1.1 (by omega)]
theorem rOf_slot {c r : Int} (h : okS c r = true) : rOf (slotL c r) = r := by
  simp only [okS, Bool.and_eq_true, decide_eq_true_eq] at h
  have : ((slotL c r).drop 8).take 8 = eightL r := rfl
  rw [rOf, this, numB_eight h.2.1 (by omega)]
theorem rdOK_slot {c r : Int} (h : okS c r = true) : rdOK (slotL c r) = true := by
  have h' := h
  simp only [okS, Bool.and_eq_true, decide_eq_true_eq] at h
  rw [rdOK, inS, cOf_slot h', rOf_slot h']
  simp [h.1.2, h.2.2]
theorem rdV_cases {l : List Int} (hl : l.length = 40) :
    (rdV l = (cOf (l.take 20), rOf (l.take 20), 0) ∧ rdOK (l.take 20) = true ∧ (rdOK (l.drop 20) = false ∨ cOf (l.take 20) ≥ cOf (l.drop 20))) ∨
    (rdV l = (cOf (l.drop 20), rOf (l.drop 20), 1) ∧ rdOK (l.drop 20) = true ∧ (rdOK (l.take 20) = false ∨ cOf (l.take 20) < cOf (l.drop 20))) ∨
    (rdV l = (0, 0, -1) ∧ rdOK (l.take 20) = false ∧ rdOK (l.drop 20) = false) := by
  unfold rdV
  rw [if_pos hl]
  by_cases h : rdOK (l.take 20) = true ∧ (rdOK (l.drop 20) = false ∨ cOf (l.take 20) ≥ cOf (l.drop 20))
  · rw [if_pos h]; exact .inl ⟨rfl, h.1, h.2⟩
  · rw [if_neg h]
    cases hb : rdOK (l.drop 20) with
    | true =>
      rw [if_pos rfl]
      refine .inr (.inl ⟨rfl, rfl, ?_⟩)
      cases ha : rdOK (l.take 20) with
      | false => exact .inl rfl
      | true =>
        right
        refine Classical.byContradiction fun hh => h ⟨ha, .inr (by omega)⟩
    | false =>
      rw [if_neg (by simp)]
      refine .inr (.inr ⟨rfl, ?_, rfl⟩)
      cases ha : rdOK (l.take 20) with
      | false => rfl
      | true => exact absurd ⟨ha, .inl hb⟩ h
theorem rdV_pos {l : List Int} (hl : l.length = 40) (h : rdOK (l.take 20) = true ∨ rdOK (l.drop 20) = true) : (rdV l).2.2 ≥ 0 := by
  rcases rdV_cases hl with ⟨e, _⟩ | ⟨e, _⟩ | ⟨_, e1, e2⟩
  · rw [e]; show (0 : Int) ≥ 0; decide
  · rw [e]; show (1 : Int) ≥ 0; decide
  · rw [e1, e2] at h; simp at h
theorem put20_take {l s : List Int} (hl : l.length = 40) : (putL l 20 s).take 20 = l.take 20 := by
  rw [putL, List.append_assoc, List.take_append_of_le_length (by simp; omega), List.take_take, Nat.min_self]
theorem put20_drop {l s : List Int} (hl : l.length = 40) : (putL l 20 s).drop 20 = s ++ l.drop (20 + s.length) := by
  rw [putL, List.append_assoc, List.drop_append_of_le_length (by simp; omega), List.drop_of_length_le (by simp; omega), List.nil_append]
theorem put0_take {l s : List Int} (hs : s.length ≤ 20) : (putL l 0 s).take 20 = s ++ (l.take 20).drop s.length := by
  rw [putL, List.take_zero, List.nil_append, Nat.zero_add, List.take_append, List.take_of_length_le hs, List.drop_take]
theorem put0_drop {l s : List Int} (hs : s.length ≤ 20) : (putL l 0 s).drop 20 = l.drop 20 := by
  rw [putL, List.take_zero, List.nil_append, Nat.zero_add, List.drop_append, List.drop_of_length_le hs, List.nil_append, List.drop_drop]
  congr 1; omega
/-- a slot whose counter is small -/
def Small (m : Int) (s : List Int) : Prop := ∃ c, 0 ≤ c ∧ c ≤ m ∧ s.take 8 = eightL c
theorem eight_small {c : Int} (h0 : 0 ≤ c) (h1 : c < 256) : eightL c = [0, 0, 0, 0, 0, 0, 0, c] := by
  have s : ∀ k : Nat, 8 ≤ k → k ≤ 64 → shrI c (k : Int) = 0 := fun k hk hk' => by
    rw [shrI, Int.toNat_natCast, Nat.min_eq_left hk', Int.fdiv_eq_ediv_of_nonneg _ (Int.le_of_lt (Int.pow_pos (by decide)))]
    refine Int.ediv_eq_zero_of_lt h0 ?_
    have e : (2 : Int) ^ k = ((2 ^ k : Nat) : Int) := by simp
    have := Nat.pow_le_pow_right (n := 2) (by decide) hk
    rw [e]; omega
  have s8 := s 8 (by decide) (by decide); have s16 := s 16 (by decide) (by decide); have s24 := s 24 (by decide) (by decide); have s32 := s 32 (by decide) (by decide)
  have s40 := s 40 (by decide) (by decide); have s48 := s 48 (by decide) (by decide); have s56 := s 56 (by decide) (by decide)
  simp only [Int.cast_ofNat_Int] at s8 s16 s24 s32 s40 s48 s56
  simp only [eightL, w8, IntKind.wrap_u8, s8, s16, s24, s32, s40, s48, s56]
  have : c % 256 = c := by omega
  simp [this]
theorem small_mix {m c r : Int} {s : List Int} (hm : m < 256) (hc0 : 0 ≤ c) (hc : c ≤ m) (hs : Small m s) (t : Nat) (ht : t ≤ 20) (hl : s.length = 20) : Small m ((slotL c r).take t ++ s.drop t) := by
  obtain ⟨c', h0, h1, h2⟩ := hs
  by_cases h8 : 8 ≤ t
  · refine ⟨c, hc0, hc, ?_⟩
    rw [List.take_append_of_le_length (by rw [List.length_take, slot_len]; omega), List.take_take, Nat.min_eq_left h8]; rfl
  · refine ⟨c', h0, h1, ?_⟩
    have e1 : (slotL c r).take t = (eightL c).take t := by
      have : (slotL c r).take 8 = eightL c := rfl
      rw [← this, List.take_take, Nat.min_eq_left (by omega)]
    have e2 : s = s.take 8 ++ s.drop 8 := (List.take_append_drop 8 s).symm
    rw [e1, e2, h2, eight_small hc0 (by omega), eight_small h0 (by omega)]
    have : t = 0 ∨ t = 1 ∨ t = 2 ∨ t = 3 ∨ t = 4 ∨ t = 5 ∨ t = 6 ∨ t = 7 := by omega
    rcases this with rfl | rfl | rfl | rfl | rfl | rfl | rfl | rfl <;> simp
theorem Small.cOf {m : Int} {s : List Int} (h : Small m s) (hm : m < 256) : cOf s ≤ m := by
  obtain ⟨c, h0, h1, h2⟩ := h
  rw [S.cOf, h2, numB_eight h0 (by omega)]; exact h1
theorem Small.mono {m m' : Int} {s : List Int} (h : Small m s) (hm : m ≤ m') : Small m' s := by
  obtain ⟨c, h0, h1, h2⟩ := h
  exact ⟨c, h0, by omega, h2⟩
structure DInv (m : Int) (l : List Int) : Prop where
  len : l.length = 40
  b8 : B8 l
  a : Small m (l.take 20)
  b : Small m (l.drop 20)
  pos : (rdV l).2.2 ≥ 0
theorem DInv.n {m : Int} {l : List Int} (h : DInv m l) (hm : m < 256) (h0 : 0 ≤ m) : 0 ≤ (rdV l).1 ∧ (rdV l).1 ≤ m := by
  refine ⟨(rdV_b h.b8).1, ?_⟩
  rcases rdV_cases h.len with ⟨e, _⟩ | ⟨e, _⟩ | ⟨e, _, _⟩
  · rw [e]; exact h.a.cOf hm
  · rw [e]; exact h.b.cOf hm
  · rw [e]; exact h0
theorem DInv.step {m : Int} {l : List Int} (h : DInv m l) (hm0 : 0 ≤ m) (hm : m < 250) {c r t : Int} (hc : c ≤ m + 3) : DInv (m + 3) (wrV l c r t) := by
  have a' := h.a.mono (show m ≤ m + 3 by omega)
  have b' := h.b.mono (show m ≤ m + 3 by omega)
  unfold wrV
  by_cases hw : wrOK l c r t = true
  · rw [if_pos hw]
    simp only [wrOK, Bool.and_eq_true, decide_eq_true_eq] at hw
    obtain ⟨⟨⟨hl, ho⟩, ht⟩, _⟩ := hw
    have ho' := ho
    simp only [okS, Bool.and_eq_true, decide_eq_true_eq] at ho'
    have hsl : ((slotL c r).take t.toNat).length = t.toNat := by rw [List.length_take, slot_len]; omega
    have hb8 : B8 (putL l (wrAt l) ((slotL c r).take t.toNat)) := h.b8.put ((B8.slot _ _).take _)
    rcases rdV_cases h.len with ⟨e, e1, e2⟩ | ⟨e, e1, e2⟩ | ⟨e, _, _⟩
    · have hat : wrAt l = 20 := by unfold wrAt; rw [e]; rfl
      rw [hat] at hb8 ⊢
      have hlen : (putL l 20 ((slotL c r).take t.toNat)).length = 40 := by rw [putL_len _ _ _ (by rw [hsl]; omega), hl]
      refine ⟨hlen, hb8, by rw [put20_take hl]; exact a', ?_, rdV_pos hlen (.inl (by rw [put20_take hl]; exact e1))⟩
      rw [put20_drop hl, hsl, ← List.drop_drop]
      exact small_mix (by omega) ho'.1.1 hc b' _ (by omega) (by rw [List.length_drop, hl])
    · have hat : wrAt l = 0 := by unfold wrAt; rw [e]; rfl
      rw [hat] at hb8 ⊢
      have hlen : (putL l 0 ((slotL c r).take t.toNat)).length = 40 := by rw [putL_len _ _ _ (by rw [hsl]; omega), hl]
      refine ⟨hlen, hb8, ?_, by rw [put0_drop (by rw [hsl]; omega)]; exact b', rdV_pos hlen (.inr (by rw [put0_drop (by rw [hsl]; omega)]; exact e1))⟩
      rw [put0_take (by rw [hsl]; omega), hsl]
      exact small_mix (by omega) ho'.1.1 hc a' _ (by omega) (by rw [List.length_take, hl]; rfl)
    · have := h.pos; rw [e] at this; exact absurd this (by decide)
  · rw [if_neg hw]; exact ⟨h.len, h.b8, a', b', h.pos⟩
theorem newD_inv : DInv 0 (un newD) := by
  have e : un newD = slotL 0 0 ++ List.replicate 20 0 := by rw [newD, un_app, un_map, un_repl]
  have hl : (un newD).length = 40 := by rw [un_len, newD_len]
  have ht : (un newD).take 20 = slotL 0 0 := by rw [e]; exact List.take_left' (slot_len 0 0)
  have hd : (un newD).drop 20 = List.replicate 20 0 := by rw [e]; exact List.drop_left' (slot_len 0 0)
  refine ⟨hl, newD_b8, ?_, ?_, rdV_pos hl (.inl (by rw [ht]; exact rdOK_slot ok00))⟩
  · rw [ht]; exact ⟨0, by decide, by decide, rfl⟩
  · rw [hd]; exact ⟨0, by decide, by decide, by decide⟩
theorem newD_rd : rdV (un newD) = (0, 0, 0) := by
  have e : un newD = slotL 0 0 ++ List.replicate 20 0 := by rw [newD, un_app, un_map, un_repl]
  have hl : (un newD).length = 40 := by rw [un_len, newD_len]
  have ht : (un newD).take 20 = slotL 0 0 := by rw [e]; exact List.take_left' (slot_len 0 0)
  have hd : (un newD).drop 20 = List.replicate 20 0 := by rw [e]; exact List.drop_left' (slot_len 0 0)
  have c0 : cOf (slotL 0 0) = 0 := cOf_slot ok00
  have r0 : rOf (slotL 0 0) = 0 := rOf_slot ok00
  have cz : cOf (List.replicate 20 0) = 0 := by decide
  rcases rdV_cases hl with ⟨h, _⟩ | ⟨h, _, h2⟩ | ⟨_, h1, _⟩
  · rw [h, ht, c0, r0]
  · rw [ht, hd, c0, cz, rdOK_slot ok00] at h2; simp at h2
  · rw [ht, rdOK_slot ok00] at h1; simp at h1
theorem dAll_DInv (b : List Int) (s : Nat × Int) : ∀ i : Nat, i ≤ 40 → DInv (3 * (i : Int)) (un (dAll b ⟨newD, s⟩ i).cs)
  | 0, _ => newD_inv
  | i + 1, hi => by
    have h := dAll_DInv b s i (by omega)
    have hn := h.n (by omega) (by omega)
    have e : (3 * ((i + 1 : Nat) : Int)) = 3 * (i : Int) + 3 := by omega
    rw [e]
    show DInv _ (un (dStep b (dAll b ⟨newD, s⟩ i)).cs)
    simp only [dStep, un_wrC]
    refine h.step (by omega) (by omega) ?_
    have := (bel_b b (n := 3) (by decide) (if (((bel b 3 (dAll b ⟨newD, s⟩ i).s).1 == 0) = true) then bel b 21 (bel b 3 (dAll b ⟨newD, s⟩ i).s).2 else (20, (bel b 3 (dAll b ⟨newD, s⟩ i).s).2)).2)
    omega
def atV (b : List Int) (k : Nat) : Int := if k < b.length then b.getD k 0 else ((k * 7 + b.length : Nat) : Int).tmod 256
theorem atV_b {b : List Int} (hb : B8 b) (k : Nat) : 0 ≤ atV b k ∧ atV b k < 256 := by
  unfold atV
  split
  · rename_i h
    rw [List.getD_eq_getElem?_getD, List.getElem?_eq_getElem h]
    exact hb _ (List.getElem_mem _)
  · exact ⟨Int.tmod_nonneg _ (by omega), Int.tmod_lt_of_pos _ (by decide)⟩
theorem e27 (d : Nat) (b : List Int) (k : Nat) (hk : k ≤ 1000) (hl : b.length ≤ 2 ^ 39) (hb : B8 b) : evFun E (d+1) 27 [.sl .fgn 1 b.length none (b.map (iv .u8)), vi k] [] = some (vi (atV b k), []) := by
  refine evFun_body b27 ?_
  by_cases h : k < b.length
  · have hx := hb _ (List.getElem_mem h)
    have hw : IntKind.i64.wrap b[k] = b[k] := wrap64 (by omega) (by omega)
    have hg : b[k]?.getD 0 = b[k] := by rw [List.getElem?_eq_getElem h]; rfl
    simp only [vv, firstRegion, apartAll, clash, meets, execOp, opnd, builtinHM, bin, convHM, fillP, fieldsPlace, solid, inOrd, sliceHM, bound, zOK, appendHM, srcCells, borL, isSl, slLen, storeHM, loadHM, look1, idxAddr, arrAddr, cellsOf, TD.agg, loadedL, loaded, borrowed, isOwn, fieldR, partHM, absorbL, absorb1, setAt, killAV, killL, leafV, getR, isNil, nilV, Array.toList, List.map, bne_self_eq_false, reduceIte, reduceCtorEq, Nat.reduceEqDiff, Nat.reduceAdd, Nat.reduceMul, Nat.reduceSub, Nat.reduceBEq, Nat.reduceLeDiff, Int.reduceEq, Int.reduceLT, Int.reduceLE, Int.reduceGE, Int.reduceGT, Int.reduceBEq, Int.reduceBNe, Int.reduceToNat, Int.reduceNeg, Int.reduceSub, Int.reduceAdd, Int.reduceMul, rr, Try.f27, lt_ok h, map_get h, hw]
    simp only [vv, ff, firstRegion, apartAll, clash, meets, execOp, opnd, builtinHM, bin, convHM, fillP, fieldsPlace, solid, inOrd, sliceHM, bound, zOK, appendHM, srcCells, borL, isSl, slLen, storeHM, loadHM, look1, idxAddr, arrAddr, cellsOf, TD.agg, loadedL, loaded, borrowed, isOwn, fieldR, partHM, absorbL, absorb1, setAt, killAV, killL, leafV, getR, isNil, nilV, Array.toList, List.map, bne_self_eq_false, reduceIte, reduceCtorEq, Nat.reduceEqDiff, Nat.reduceAdd, Nat.reduceMul, Nat.reduceSub, Nat.reduceBEq, Nat.reduceLeDiff, Int.reduceEq, Int.reduceLT, Int.reduceLE, Int.reduceGE, Int.reduceGT, Int.reduceBEq, Int.reduceBNe, Int.reduceToNat, Int.reduceNeg, Int.reduceSub, Int.reduceAdd, Int.reduceMul, finish, wkAV, resOf, resa, noSnap, noSnapL, noSnapO, keep, liveKeys, keysL, keysAV, renAV, renL, rr, atV, if_pos h, hg]
  · have hd : decide ((k : Int) < (b.length : Int)) = false := by simp; omega
    have w1 : IntKind.i64.wrap ((k : Int) * 7) = (k : Int) * 7 := wrap64 (by omega) (by omega)
    have w2 : IntKind.i64.wrap ((k : Int) * 7 + (b.length : Int)) = ((k * 7 + b.length : Nat) : Int) := by rw [wrap64 (by omega) (by omega)]; omega
    simp only [vv, firstRegion, apartAll, clash, meets, execOp, opnd, builtinHM, bin, convHM, fillP, fieldsPlace, solid, inOrd, sliceHM, bound, zOK, appendHM, srcCells, borL, isSl, slLen, storeHM, loadHM, look1, idxAddr, arrAddr, cellsOf, TD.agg, loadedL, loaded, borrowed, isOwn, fieldR, partHM, absorbL, absorb1, setAt, killAV, killL, leafV, getR, isNil, nilV, Array.toList, List.map, bne_self_eq_false, reduceIte, reduceCtorEq, Nat.reduceEqDiff, Nat.reduceAdd, Nat.reduceMul, Nat.reduceSub, Nat.reduceBEq, Nat.reduceLeDiff, Int.reduceEq, Int.reduceLT, Int.reduceLE, Int.reduceGE, Int.reduceGT, Int.reduceBEq, Int.reduceBNe, Int.reduceToNat, Int.reduceNeg, Int.reduceSub, Int.reduceAdd, Int.reduceMul, rr, Try.f27, hd, w1, w2]
    simp only [vv, ff, firstRegion, apartAll, clash, meets, execOp, opnd, builtinHM, bin, convHM, fillP, fieldsPlace, solid, inOrd, sliceHM, bound, zOK, appendHM, srcCells, borL, isSl, slLen, storeHM, loadHM, look1, idxAddr, arrAddr, cellsOf, TD.agg, loadedL, loaded, borrowed, isOwn, fieldR, partHM, absorbL, absorb1, setAt, killAV, killL, leafV, getR, isNil, nilV, Array.toList, List.map, bne_self_eq_false, reduceIte, reduceCtorEq, Nat.reduceEqDiff, Nat.reduceAdd, Nat.reduceMul, Nat.reduceSub, Nat.reduceBEq, Nat.reduceLeDiff, Int.reduceEq, Int.reduceLT, Int.reduceLE, Int.reduceGE, Int.reduceGT, Int.reduceBEq, Int.reduceBNe, Int.reduceToNat, Int.reduceNeg, Int.reduceSub, Int.reduceAdd, Int.reduceMul, finish, wkAV, resOf, resa, noSnap, noSnapL, noSnapO, keep, liveKeys, keysL, keysAV, renAV, renL, rr, atV, if_neg h]
theorem e23 (d : Nat) (tg : Tg) (cap : Option Nat) (n : Nat) (cs : List AV) : evFun E (d+1) 23 [.sl tg 1 n cap cs] [] = some (vb (decide ((n : Int) > 1048576)), []) := by
  refine evFun_body b23 ?_
  simp only [vv, firstRegion, apartAll, clash, meets, execOp, opnd, builtinHM, bin, convHM, fillP, fieldsPlace, solid, inOrd, sliceHM, bound, zOK, appendHM, srcCells, borL, isSl, slLen, storeHM, loadHM, look1, idxAddr, arrAddr, cellsOf, TD.agg, loadedL, loaded, borrowed, isOwn, fieldR, partHM, absorbL, absorb1, setAt, killAV, killL, leafV, getR, isNil, nilV, Array.toList, List.map, bne_self_eq_false, reduceIte, reduceCtorEq, Nat.reduceEqDiff, Nat.reduceAdd, Nat.reduceMul, Nat.reduceSub, Nat.reduceBEq, Nat.reduceLeDiff, Int.reduceEq, Int.reduceLT, Int.reduceLE, Int.reduceGE, Int.reduceGT, Int.reduceBEq, Int.reduceBNe, Int.reduceToNat, Int.reduceNeg, Int.reduceSub, Int.reduceAdd, Int.reduceMul, rr, Try.f23]
  simp only [vv, ff, firstRegion, apartAll, clash, meets, execOp, opnd, builtinHM, bin, convHM, fillP, fieldsPlace, solid, inOrd, sliceHM, bound, zOK, appendHM, srcCells, borL, isSl, slLen, storeHM, loadHM, look1, idxAddr, arrAddr, cellsOf, TD.agg, loadedL, loaded, borrowed, isOwn, fieldR, partHM, absorbL, absorb1, setAt, killAV, killL, leafV, getR, isNil, nilV, Array.toList, List.map, bne_self_eq_false, reduceIte, reduceCtorEq, Nat.reduceEqDiff, Nat.reduceAdd, Nat.reduceMul, Nat.reduceSub, Nat.reduceBEq, Nat.reduceLeDiff, Int.reduceEq, Int.reduceLT, Int.reduceLE, Int.reduceGE, Int.reduceGT, Int.reduceBEq, Int.reduceBNe, Int.reduceToNat, Int.reduceNeg, Int.reduceSub, Int.reduceAdd, Int.reduceMul, finish, wkAV, resOf, resa, noSnap, noSnapL, noSnapO, keep, liveKeys, keysL, keysAV, renAV, renL, rr]
theorem strCmp (a b : List Int) (ha : B8 a) (hb : B8 b) : ((ByteArray.mk (a.map fun n => UInt8.ofNat n.toNat).toArray).toList == (ByteArray.mk (b.map fun n => UInt8.ofNat n.toNat).toArray).toList) = decide (a = b) := strOf_eq ha hb
theorem whole20 (c r : Int) : (slotL c r).take (20 : Int).toNat = slotL c r := List.take_of_length_le (by rw [slot_len]; decide)
/-- a write on a disk whose first slot is told -/
theorem told0 {m : Int} {l : List Int} (h : DInv m l) (hm0 : 0 ≤ m) (hm : m < 250) {n r : Int} (e : rdV l = (n, r, 0)) {x : Int} (hx : 0 ≤ x ∧ x ≤ 300000) :
    n ≤ m ∧ 0 ≤ n ∧ okS n r = true ∧ slotL n r = l.take 20 ∧ wrOK l n x 20 = false ∧ (∀ t : Int, 0 ≤ t → t ≤ 20 → wrOK l (n + 1) x t = true ∧ (wrV l (n + 1) x t).take 20 = l.take 20 ∧ (rdV (wrV l (n + 1) x t)).2.2 ≥ 0) ∧ rdV (wrV l (n + 1) x 20) = (n + 1, x, 1) := by
  have hn := h.n (by omega) hm0
  rw [e] at hn
  simp only at hn
  rcases rdV_cases h.len with ⟨e', e1, e2⟩ | ⟨e', _⟩ | ⟨e', _⟩
  · rw [e] at e'
    simp only [Prod.mk.injEq, and_true] at e'
    have e1' := e1
    simp only [rdOK, inS, Bool.and_eq_true, decide_eq_true_eq, ← e'.1, ← e'.2] at e1'
    have hrn := rOf_nn (h.b8.take 20)
    rw [← e'.2] at hrn
    have hok : okS n r = true := by simp [okS, hn.1, hrn, e1'.1.1, e1'.1.2]
    have hok1 : okS (n + 1) x = true := by simp only [okS, Bool.and_eq_true, decide_eq_true_eq]; omega
    have hat : wrAt l = 20 := by unfold wrAt; rw [e]; rfl
    have hwr : ∀ t : Int, 0 ≤ t → t ≤ 20 → wrOK l (n + 1) x t = true := fun t h0 h1 => by
      simp only [wrOK, e, h.len, hok1, Bool.and_eq_true, Bool.not_eq_true', decide_eq_true_eq, Bool.and_eq_false_imp]
      refine ⟨⟨⟨trivial, trivial⟩, h0, h1⟩, fun _ => ?_⟩
      simp; omega
    have hlen : ∀ t : Int, 0 ≤ t → t ≤ 20 → ((slotL (n + 1) x).take t.toNat).length = t.toNat := fun t h0 h1 => by rw [List.length_take, slot_len]; omega
    have hpl : ∀ t : Int, 0 ≤ t → t ≤ 20 → (putL l 20 ((slotL (n + 1) x).take t.toNat)).length = 40 := fun t h0 h1 => by rw [putL_len _ _ _ (by rw [hlen t h0 h1, h.len]; omega), h.len]
    refine ⟨hn.2, hn.1, hok, e1'.2, ?_, fun t h0 h1 => ⟨hwr t h0 h1, ?_, ?_⟩, ?_⟩
    · simp [wrOK, e]
    · rw [wrV, if_pos (hwr t h0 h1), hat, put20_take h.len]
    · rw [wrV, if_pos (hwr t h0 h1), hat]
      exact rdV_pos (hpl t h0 h1) (.inl (by rw [put20_take h.len]; exact e1))
    · rw [wrV, if_pos (hwr 20 (by decide) (by decide)), hat]
      have hp := hpl 20 (by decide) (by decide)
      have ht := put20_take (s := (slotL (n + 1) x).take (20 : Int).toNat) h.len
      have hd := put20_drop (s := (slotL (n + 1) x).take (20 : Int).toNat) h.len
      rw [whole20] at hp ht hd ⊢
      rw [slot_len, show l.drop (20 + 20) = [] from List.drop_of_length_le (by rw [h.len]; decide), List.append_nil] at hd
      rcases rdV_cases hp with ⟨q, q1, q2⟩ | ⟨q, q1, q2⟩ | ⟨q, q1, q2⟩
      · rw [ht, hd, rdOK_slot hok1, cOf_slot hok1, ← e'.1] at q2
        rcases q2 with q2 | q2
        · simp at q2
        · omega
      · rw [q, hd, cOf_slot hok1, rOf_slot hok1]
      · rw [hd, rdOK_slot hok1] at q2; simp at q2
  · rw [e] at e'; simp at e'
  · rw [e] at e'; simp at e'
theorem told1 {m : Int} {l : List Int} (h : DInv m l) (hm0 : 0 ≤ m) (hm : m < 250) {n r : Int} (e : rdV l = (n, r, 1)) {x : Int} (hx : 0 ≤ x ∧ x ≤ 300000) :
    n ≤ m ∧ 0 ≤ n ∧ okS n r = true ∧ slotL n r = l.drop 20 ∧ wrOK l n x 20 = false ∧ (∀ t : Int, 0 ≤ t → t ≤ 20 → wrOK l (n + 1) x t = true ∧ (wrV l (n + 1) x t).drop 20 = l.drop 20 ∧ (rdV (wrV l (n + 1) x t)).2.2 ≥ 0) ∧ rdV (wrV l (n + 1) x 20) = (n + 1, x, 0) := by
  have hn := h.n (by omega) hm0
  rw [e] at hn
  simp only at hn
  rcases rdV_cases h.len with ⟨e', _⟩ | ⟨e', e1, e2⟩ | ⟨e', _⟩
  · rw [e] at e'; simp at e'
  · rw [e] at e'
    simp only [Prod.mk.injEq, and_true] at e'
    have e1' := e1
    simp only [rdOK, inS, Bool.and_eq_true, decide_eq_true_eq, ← e'.1, ← e'.2] at e1'
    have hrn := rOf_nn (h.b8.drop 20)
    rw [← e'.2] at hrn
    have hok : okS n r = true := by simp [okS, hn.1, hrn, e1'.1.1, e1'.1.2]
    have hok1 : okS (n + 1) x = true := by simp only [okS, Bool.and_eq_true, decide_eq_true_eq]; omega
    have hat : wrAt l = 0 := by unfold wrAt; rw [e]; rfl
    have hwr : ∀ t : Int, 0 ≤ t → t ≤ 20 → wrOK l (n + 1) x t = true := fun t h0 h1 => by
      simp only [wrOK, e, h.len, hok1, Bool.and_eq_true, Bool.not_eq_true', decide_eq_true_eq, Bool.and_eq_false_imp]
      refine ⟨⟨⟨trivial, trivial⟩, h0, h1⟩, fun _ => ?_⟩
      simp; omega
    have hlen : ∀ t : Int, 0 ≤ t → t ≤ 20 → ((slotL (n + 1) x).take t.toNat).length ≤ 20 := fun t h0 h1 => by rw [List.length_take, slot_len]; omega
    have hpl : ∀ t : Int, 0 ≤ t → t ≤ 20 → (putL l 0 ((slotL (n + 1) x).take t.toNat)).length = 40 := fun t h0 h1 => by rw [putL_len _ _ _ (by have := hlen t h0 h1; rw [h.len]; omega), h.len]
    refine ⟨hn.2, hn.1, hok, e1'.2, ?_, fun t h0 h1 => ⟨hwr t h0 h1, ?_, ?_⟩, ?_⟩
    · simp [wrOK, e]
    · rw [wrV, if_pos (hwr t h0 h1), hat, put0_drop (hlen t h0 h1)]
    · rw [wrV, if_pos (hwr t h0 h1), hat]
      exact rdV_pos (hpl t h0 h1) (.inr (by rw [put0_drop (hlen t h0 h1)]; exact e1))
    · rw [wrV, if_pos (hwr 20 (by decide) (by decide)), hat]
      have hp := hpl 20 (by decide) (by decide)
      have hd := put0_drop (l := l) (hlen 20 (by decide) (by decide))
      have ht := put0_take (l := l) (hlen 20 (by decide) (by decide))
      rw [whole20] at hp ht hd ⊢
      rw [slot_len, show (l.take 20).drop 20 = [] from List.drop_of_length_le (by rw [List.length_take, h.len]; decide), List.append_nil] at ht
      rcases rdV_cases hp with ⟨q, q1, q2⟩ | ⟨q, q1, q2⟩ | ⟨q, q1, q2⟩
      · rw [q, ht, cOf_slot hok1, rOf_slot hok1]
      · rw [ht, hd, rdOK_slot hok1, cOf_slot hok1, ← e'.1] at q2
        rcases q2 with q2 | q2
        · simp at q2
        · omega
      · rw [ht, rdOK_slot hok1] at q1; simp at q1
  · rw [e] at e'; simp at e'
end Go.Proofs.Ytjkkndgbhcmphaa.VH.S
end

section
namespace Go.Proofs.Ytjkkndgbhcmphaa.VH.S
open Go.Proofs
set_option maxRecDepth 100000
set_option maxHeartbeats 16000000
set_option linter.unusedSimpArgs false

theorem e6 (d : Nat) (b : List Int) (hb : B8 b) : evFun E (d+13) 6 [.sl .fgn 1 b.length none (b.map (iv .u8))] [] = some (vb true, []) := by
  refine evFun_body b6 ?_
  by_cases hl : b.length ≤ 1048576
  · have hbig : decide ((b.length : Int) > 1048576) = false := by simp; omega
    have hbl : b.length ≤ 2 ^ 39 := by omega
    have hD := e24 d b hbl
    have hI := dAll_DInv b (bel b 5 (0, newH b (newN b))).2 (dN b (0, newH b (newN b))) (by
      have := bel_b b (n := 5) (by decide) (0, newH b (newN b))
      unfold dN; omega)
    have hI0 := dAll_inv b (x := ⟨newD, (bel b 5 (0, newH b (newN b))).2⟩) ⟨newD_k, newD_len, newD_b8⟩ (dN b (0, newH b (newN b)))
    have hm : (0 : Int) ≤ 3 * ((dN b (0, newH b (newN b)) : Nat) : Int) ∧ 3 * ((dN b (0, newH b (newN b)) : Nat) : Int) ≤ 12 := by
      have := bel_b b (n := 5) (by decide) (0, newH b (newN b))
      unfold dN; omega
    generalize 3 * ((dN b (0, newH b (newN b)) : Nat) : Int) = m at hI hm
    generalize (dAll b ⟨newD, (bel b 5 (0, newH b (newN b))).2⟩ (dN b (0, newH b (newN b)))).cs = D at hD hI hI0
    have hk := hI0.k
    have hn := hI0.len
    have hbu := hI0.b8
    have a1 := e27 (d+11) b 1 (by decide) hbl hb
    have a2 := e27 (d+11) b 2 (by decide) hbl hb
    have b1 := atV_b hb 1
    have b2 := atV_b hb 2
    simp only [cst1, cst2] at a1 a2
    generalize atV b 1 = x0 at a1 b1
    generalize atV b 2 = y0 at a2 b2
    have wx : IntKind.i64.wrap (x0 * 1000) = x0 * 1000 := wrap64 (by omega) (by omega)
    have hx : 0 ≤ x0 * 1000 ∧ x0 * 1000 ≤ 300000 := by omega
    have hy0 : 0 ≤ y0.tmod 21 := Int.tmod_nonneg _ b2.1
    have hy1 : y0.tmod 21 ≤ 20 := by have := Int.tmod_lt_of_pos y0 (b := 21) (by decide); omega
    rcases rdV_cases hI.len with ⟨e, _⟩ | ⟨e, _⟩ | ⟨e, _⟩
    · obtain ⟨t1, t2, t3, t4, t5, t6, t7⟩ := told0 hI hm.1 (by omega) e hx
      obtain ⟨u1, u2, u3⟩ := t6 _ hy0 hy1
      have v1 := (t6 20 (by decide) (by decide)).1
      generalize cOf ((un D).take 20) = n at *
      generalize rOf ((un D).take 20) = r at *
      have w1 : IntKind.i64.wrap (n + 1) = n + 1 := wrap64 (by omega) (by omega)
      have u4 : decide ((rdV (wrV (un D) (n + 1) (x0 * 1000) (y0.tmod 21))).2.2 ≥ 0) = true := decide_eq_true u3
      have p0 : (0 : Nat) < 40 := by decide
      have hko : ∀ c r t, isK .u8 (wrC D c r t) = true := fun c r t => isK_wrC hk c r t
      simp (maxDischargeDepth := 8) only [vv, cc, bb, firstRegion, apartAll, clash, meets, execOp, opnd, builtinHM, bin, convHM, fillP, fieldsPlace, solid, inOrd, sliceHM, bound, zOK, appendHM, srcCells, borL, isSl, slLen, storeHM, loadHM, look1, idxAddr, arrAddr, cellsOf, TD.agg, loadedL, loaded, borrowed, isOwn, fieldR, partHM, absorbL, absorb1, setAt, killAV, killL, leafV, getR, isNil, nilV, Array.toList, List.map, bne_self_eq_false, reduceIte, reduceCtorEq, Nat.reduceEqDiff, Nat.reduceAdd, Nat.reduceMul, Nat.reduceSub, Nat.reduceBEq, Nat.reduceLeDiff, Int.reduceEq, Int.reduceLT, Int.reduceLE, Int.reduceGE, Int.reduceGT, Int.reduceBEq, Int.reduceBNe, Int.reduceToNat, Int.reduceNeg, Int.reduceSub, Int.reduceAdd, Int.reduceMul, callHM, packA, packL, pack1, lentOk, getLent, putBack, backK, renAV, renL, rr, Try.f6, e23, hbig, hD, hk, hn, hbu, hko, wrC_len, p0, e, a1, a2, wx, w1, t3, t5, t7, u1, u2, u4, v1, e25, e26, e22, e28 _ _ _ t3, e29, newD_k, newD_len, newD_b8, newD_rd, cellsIn, strBin, bytesOf_isK, t4, S.B8.wrV, un_wrC, wrap64]
      repeat' ((with_reducible refine condT ?_ ?_); (focus kernel_rfl); try simp (maxDischargeDepth := 8) only [vv, cc, bb, firstRegion, apartAll, clash, meets, execOp, opnd, builtinHM, bin, convHM, fillP, fieldsPlace, solid, inOrd, sliceHM, bound, zOK, appendHM, srcCells, borL, isSl, slLen, storeHM, loadHM, look1, idxAddr, arrAddr, cellsOf, TD.agg, loadedL, loaded, borrowed, isOwn, fieldR, partHM, absorbL, absorb1, setAt, killAV, killL, leafV, getR, isNil, nilV, Array.toList, List.map, bne_self_eq_false, reduceIte, reduceCtorEq, Nat.reduceEqDiff, Nat.reduceAdd, Nat.reduceMul, Nat.reduceSub, Nat.reduceBEq, Nat.reduceLeDiff, Int.reduceEq, Int.reduceLT, Int.reduceLE, Int.reduceGE, Int.reduceGT, Int.reduceBEq, Int.reduceBNe, Int.reduceToNat, Int.reduceNeg, Int.reduceSub, Int.reduceAdd, Int.reduceMul, callHM, packA, packL, pack1, lentOk, getLent, putBack, backK, renAV, renL, rr, hk, hn, hbu, hko, wrC_len, p0, e, t3, t5, t7, u1, u2, u4, v1, e25, e26, e22, e28 _ _ _ t3, e29, newD_k, newD_len, newD_b8, newD_rd, cellsIn, strBin, bytesOf_isK, t4, S.B8.wrV, un_wrC, wrap64])
      simp only [vv, ff, firstRegion, apartAll, clash, meets, execOp, opnd, builtinHM, bin, convHM, fillP, fieldsPlace, solid, inOrd, sliceHM, bound, zOK, appendHM, srcCells, borL, isSl, slLen, storeHM, loadHM, look1, idxAddr, arrAddr, cellsOf, TD.agg, loadedL, loaded, borrowed, isOwn, fieldR, partHM, absorbL, absorb1, setAt, killAV, killL, leafV, getR, isNil, nilV, Array.toList, List.map, bne_self_eq_false, reduceIte, reduceCtorEq, Nat.reduceEqDiff, Nat.reduceAdd, Nat.reduceMul, Nat.reduceSub, Nat.reduceBEq, Nat.reduceLeDiff, Int.reduceEq, Int.reduceLT, Int.reduceLE, Int.reduceGE, Int.reduceGT, Int.reduceBEq, Int.reduceBNe, Int.reduceToNat, Int.reduceNeg, Int.reduceSub, Int.reduceAdd, Int.reduceMul, finish, wkAV, resOf, resa, noSnap, noSnapL, noSnapO, keep, liveKeys, keysL, keysAV, renAV, renL, rr]
    · obtain ⟨t1, t2, t3, t4, t5, t6, t7⟩ := told1 hI hm.1 (by omega) e hx
      obtain ⟨u1, u2, u3⟩ := t6 _ hy0 hy1
      have v1 := (t6 20 (by decide) (by decide)).1
      generalize cOf ((un D).drop 20) = n at *
      generalize rOf ((un D).drop 20) = r at *
      have w1 : IntKind.i64.wrap (n + 1) = n + 1 := wrap64 (by omega) (by omega)
      have u4 : decide ((rdV (wrV (un D) (n + 1) (x0 * 1000) (y0.tmod 21))).2.2 ≥ 0) = true := decide_eq_true u3
      have p0 : (0 : Nat) < 40 := by decide
      have hko : ∀ c r t, isK .u8 (wrC D c r t) = true := fun c r t => isK_wrC hk c r t
      simp (maxDischargeDepth := 8) only [vv, cc, bb, firstRegion, apartAll, clash, meets, execOp, opnd, builtinHM, bin, convHM, fillP, fieldsPlace, solid, inOrd, sliceHM, bound, zOK, appendHM, srcCells, borL, isSl, slLen, storeHM, loadHM, look1, idxAddr, arrAddr, cellsOf, TD.agg, loadedL, loaded, borrowed, isOwn, fieldR, partHM, absorbL, absorb1, setAt, killAV, killL, leafV, getR, isNil, nilV, Array.toList, List.map, bne_self_eq_false, reduceIte, reduceCtorEq, Nat.reduceEqDiff, Nat.reduceAdd, Nat.reduceMul, Nat.reduceSub, Nat.reduceBEq, Nat.reduceLeDiff, Int.reduceEq, Int.reduceLT, Int.reduceLE, Int.reduceGE, Int.reduceGT, Int.reduceBEq, Int.reduceBNe, Int.reduceToNat, Int.reduceNeg, Int.reduceSub, Int.reduceAdd, Int.reduceMul, callHM, packA, packL, pack1, lentOk, getLent, putBack, backK, renAV, renL, rr, Try.f6, e23, hbig, hD, hk, hn, hbu, hko, wrC_len, p0, e, a1, a2, wx, w1, t3, t5, t7, u1, u2, u4, v1, e25, e26, e22, e28 _ _ _ t3, e29, newD_k, newD_len, newD_b8, newD_rd, cellsIn, strBin, bytesOf_isK, t4, S.B8.wrV, un_wrC, wrap64]
      repeat' ((with_reducible refine condT ?_ ?_); (focus kernel_rfl); try simp (maxDischargeDepth := 8) only [vv, cc, bb, firstRegion, apartAll, clash, meets, execOp, opnd, builtinHM, bin, convHM, fillP, fieldsPlace, solid, inOrd, sliceHM, bound, zOK, appendHM, srcCells, borL, isSl, slLen, storeHM, loadHM, look1, idxAddr, arrAddr, cellsOf, TD.agg, loadedL, loaded, borrowed, isOwn, fieldR, partHM, absorbL, absorb1, setAt, killAV, killL, leafV, getR, isNil, nilV, Array.toList, List.map, bne_self_eq_false, reduceIte, reduceCtorEq, Nat.reduceEqDiff, Nat.reduceAdd, Nat.reduceMul, Nat.reduceSub, Nat.reduceBEq, Nat.reduceLeDiff, Int.reduceEq, Int.reduceLT, Int.reduceLE, Int.reduceGE, Int.reduceGT, Int.reduceBEq, Int.reduceBNe, Int.reduceToNat, Int.reduceNeg, Int.reduceSub, Int.reduceAdd, Int.reduceMul, callHM, packA, packL, pack1, lentOk, getLent, putBack, backK, renAV, renL, rr, hk, hn, hbu, hko, wrC_len, p0, e, t3, t5, t7, u1, u2, u4, v1, e25, e26, e22, e28 _ _ _ t3, e29, newD_k, newD_len, newD_b8, newD_rd, cellsIn, strBin, bytesOf_isK, t4, S.B8.wrV, un_wrC, wrap64])
      simp only [vv, ff, firstRegion, apartAll, clash, meets, execOp, opnd, builtinHM, bin, convHM, fillP, fieldsPlace, solid, inOrd, sliceHM, bound, zOK, appendHM, srcCells, borL, isSl, slLen, storeHM, loadHM, look1, idxAddr, arrAddr, cellsOf, TD.agg, loadedL, loaded, borrowed, isOwn, fieldR, partHM, absorbL, absorb1, setAt, killAV, killL, leafV, getR, isNil, nilV, Array.toList, List.map, bne_self_eq_false, reduceIte, reduceCtorEq, Nat.reduceEqDiff, Nat.reduceAdd, Nat.reduceMul, Nat.reduceSub, Nat.reduceBEq, Nat.reduceLeDiff, Int.reduceEq, Int.reduceLT, Int.reduceLE, Int.reduceGE, Int.reduceGT, Int.reduceBEq, Int.reduceBNe, Int.reduceToNat, Int.reduceNeg, Int.reduceSub, Int.reduceAdd, Int.reduceMul, finish, wkAV, resOf, resa, noSnap, noSnapL, noSnapO, keep, liveKeys, keysL, keysAV, renAV, renL, rr]
    · have := hI.pos
      rw [e] at this
      exact absurd this (by decide)
  · have hbig : decide ((b.length : Int) > 1048576) = true := by simp; omega
    simp (maxDischargeDepth := 8) only [vv, cc, bb, firstRegion, apartAll, clash, meets, execOp, opnd, builtinHM, bin, convHM, fillP, fieldsPlace, solid, inOrd, sliceHM, bound, zOK, appendHM, srcCells, borL, isSl, slLen, storeHM, loadHM, look1, idxAddr, arrAddr, cellsOf, TD.agg, loadedL, loaded, borrowed, isOwn, fieldR, partHM, absorbL, absorb1, setAt, killAV, killL, leafV, getR, isNil, nilV, Array.toList, List.map, bne_self_eq_false, reduceIte, reduceCtorEq, Nat.reduceEqDiff, Nat.reduceAdd, Nat.reduceMul, Nat.reduceSub, Nat.reduceBEq, Nat.reduceLeDiff, Int.reduceEq, Int.reduceLT, Int.reduceLE, Int.reduceGE, Int.reduceGT, Int.reduceBEq, Int.reduceBNe, Int.reduceToNat, Int.reduceNeg, Int.reduceSub, Int.reduceAdd, Int.reduceMul, callHM, packA, packL, pack1, lentOk, getLent, putBack, backK, renAV, renL, rr, Try.f6, e23, hbig]
    simp only [vv, ff, firstRegion, apartAll, clash, meets, execOp, opnd, builtinHM, bin, convHM, fillP, fieldsPlace, solid, inOrd, sliceHM, bound, zOK, appendHM, srcCells, borL, isSl, slLen, storeHM, loadHM, look1, idxAddr, arrAddr, cellsOf, TD.agg, loadedL, loaded, borrowed, isOwn, fieldR, partHM, absorbL, absorb1, setAt, killAV, killL, leafV, getR, isNil, nilV, Array.toList, List.map, bne_self_eq_false, reduceIte, reduceCtorEq, Nat.reduceEqDiff, Nat.reduceAdd, Nat.reduceMul, Nat.reduceSub, Nat.reduceBEq, Nat.reduceLeDiff, Int.reduceEq, Int.reduceLT, Int.reduceLE, Int.reduceGE, Int.reduceGT, Int.reduceBEq, Int.reduceBNe, Int.reduceToNat, Int.reduceNeg, Int.reduceSub, Int.reduceAdd, Int.reduceMul, finish, wkAV, resOf, resa, noSnap, noSnapL, noSnapO, keep, liveKeys, keysL, keysAV, renAV, renL, rr]
end Go.Proofs.Ytjkkndgbhcmphaa.VH.S
end

section
namespace Go.Proofs.Ytjkkndgbhcmphaa.VH.S
open Go.Proofs
set_option maxRecDepth 100000
set_option maxHeartbeats 16000000
set_option linter.unusedSimpArgs false

theorem ok3 (y : Int) (h : 0 ≤ y ∧ y < 9) : okS 3 y = true := by simp only [okS, Bool.and_eq_true, decide_eq_true_eq]; omega
theorem e62 (d : Nat) (b : List Int) (s : Nat × Int) (hb : b.length ≤ 2 ^ 39) : ∃ n cs s', evFun E (d+12) 62 [.ptr 0 [] 0] [curC b s] = some (.ref 1 [] 1 0 n none, [some (curC b s'), some cs]) ∧ isK .u8 cs = true ∧ n ≤ cs.length := by
  have hkl : ∀ s, (curC b s).any isOwn = false := fun s => rfl
  have hsn : ∀ s, noSnapL (curC b s) = true := fun s => rfl
  have hD := e53 d b s hb
  have hI := dAll_inv b (x := ⟨newD, (bel b 5 s).2⟩) ⟨newD_k, newD_len, newD_b8⟩ (dN b s)
  generalize dAll b ⟨newD, (bel b 5 s).2⟩ (dN b s) = x at hD hI
  obtain ⟨D, s1⟩ := x
  simp only at hD hI
  have hk := hI.k
  have hn := hI.len
  have e2 := isK_snap hk
  have e3 := isK_own hk
  have h8 := e65 (d+9) b 8 s1 hb (by decide)
  obtain ⟨k0, k1⟩ := bel_b b (n := 8) (by decide) s1
  generalize (bel b 8 s1).2 = s2 at h8
  generalize (bel b 8 s1).1 = k at h8 k0 k1
  have h40 := e65 (d+9) b 40 s2 hb (by decide)
  obtain ⟨j0, j1⟩ := bel_b b (n := 40) (by decide) s2
  generalize hs3 : (bel b 40 s2).2 = s3 at h40
  generalize (bel b 40 s2).1 = jj at h40 j0 j1
  obtain ⟨j, rfl⟩ := Int.eq_ofNat_of_zero_le j0
  have hj40 : decide ((j : Int) < 40) = true := by simp; omega
  have hj40' : decide ((j : Int) ≤ 40) = true := by simp; omega
  have hj41 : decide (j ≤ 39) = true := by simp; omega
  have c : k = 0 ∨ k = 1 ∨ k = 2 ∨ k = 3 ∨ k = 4 ∨ (k ≠ 0 ∧ k ≠ 1 ∧ k ≠ 2 ∧ k ≠ 3 ∧ k ≠ 4) := by omega
  rcases c with rfl | rfl | rfl | rfl | rfl | ⟨c0, c1, c2, c3, c4⟩
  · have q1 : isK .u8 (D.set j (iv .u8 (w8 (by1 b s3).1))) = true := by
      rw [isK_get hk, ← List.map_set]; exact isK_map _ _
    refine ⟨40, _, (by1 b s3).2, evFun_body b62 ?_, q1, by rw [List.length_set, hn]; decide⟩
    have q2 := isK_snap q1
    simp (maxDischargeDepth := 8) only [vv, cc, bb, firstRegion, apartAll, clash, meets, execOp, opnd, builtinHM, bin, convHM, fillP, fieldsPlace, solid, inOrd, sliceHM, bound, zOK, appendHM, srcCells, borL, isSl, slLen, storeHM, loadHM, look1, idxAddr, arrAddr, cellsOf, TD.agg, loadedL, loaded, borrowed, isOwn, fieldR, partHM, absorbL, absorb1, setAt, killAV, killL, leafV, getR, isNil, nilV, Array.toList, List.map, bne_self_eq_false, reduceIte, reduceCtorEq, Nat.reduceEqDiff, Nat.reduceAdd, Nat.reduceMul, Nat.reduceSub, Nat.reduceBEq, Nat.reduceLeDiff, Int.reduceEq, Int.reduceLT, Int.reduceLE, Int.reduceGE, Int.reduceGT, Int.reduceBEq, Int.reduceBNe, Int.reduceToNat, Int.reduceNeg, Int.reduceSub, Int.reduceAdd, Int.reduceMul, callHM, packA, packL, pack1, lentOk, getLent, putBack, backK, renAV, renL, rr, Try.f62, hD, h8, h40, hkl, hn, e79 _ _ _ hb, hj40, hj41]
    simp only [vv, ff, firstRegion, apartAll, clash, meets, execOp, opnd, builtinHM, bin, convHM, fillP, fieldsPlace, solid, inOrd, sliceHM, bound, zOK, appendHM, srcCells, borL, isSl, slLen, storeHM, loadHM, look1, idxAddr, arrAddr, cellsOf, TD.agg, loadedL, loaded, borrowed, isOwn, fieldR, partHM, absorbL, absorb1, setAt, killAV, killL, leafV, getR, isNil, nilV, Array.toList, List.map, bne_self_eq_false, reduceIte, reduceCtorEq, Nat.reduceEqDiff, Nat.reduceAdd, Nat.reduceMul, Nat.reduceSub, Nat.reduceBEq, Nat.reduceLeDiff, Int.reduceEq, Int.reduceLT, Int.reduceLE, Int.reduceGE, Int.reduceGT, Int.reduceBEq, Int.reduceBNe, Int.reduceToNat, Int.reduceNeg, Int.reduceSub, Int.reduceAdd, Int.reduceMul, finish, wkAV, resOf, resa, noSnap, noSnapL, noSnapO, keep, liveKeys, keysL, keysAV, renAV, renL, rr, hsn, q2]
  · refine ⟨j, D, s3, evFun_body b62 ?_, hk, by omega⟩
    simp (maxDischargeDepth := 8) only [vv, cc, bb, firstRegion, apartAll, clash, meets, execOp, opnd, builtinHM, bin, convHM, fillP, fieldsPlace, solid, inOrd, sliceHM, bound, zOK, appendHM, srcCells, borL, isSl, slLen, storeHM, loadHM, look1, idxAddr, arrAddr, cellsOf, TD.agg, loadedL, loaded, borrowed, isOwn, fieldR, partHM, absorbL, absorb1, setAt, killAV, killL, leafV, getR, isNil, nilV, Array.toList, List.map, bne_self_eq_false, reduceIte, reduceCtorEq, Nat.reduceEqDiff, Nat.reduceAdd, Nat.reduceMul, Nat.reduceSub, Nat.reduceBEq, Nat.reduceLeDiff, Int.reduceEq, Int.reduceLT, Int.reduceLE, Int.reduceGE, Int.reduceGT, Int.reduceBEq, Int.reduceBNe, Int.reduceToNat, Int.reduceNeg, Int.reduceSub, Int.reduceAdd, Int.reduceMul, callHM, packA, packL, pack1, lentOk, getLent, putBack, backK, renAV, renL, rr, Try.f62, hD, h8, h40, hkl, hn, hj40', Int.sub_zero]
    simp only [vv, ff, firstRegion, apartAll, clash, meets, execOp, opnd, builtinHM, bin, convHM, fillP, fieldsPlace, solid, inOrd, sliceHM, bound, zOK, appendHM, srcCells, borL, isSl, slLen, storeHM, loadHM, look1, idxAddr, arrAddr, cellsOf, TD.agg, loadedL, loaded, borrowed, isOwn, fieldR, partHM, absorbL, absorb1, setAt, killAV, killL, leafV, getR, isNil, nilV, Array.toList, List.map, bne_self_eq_false, reduceIte, reduceCtorEq, Nat.reduceEqDiff, Nat.reduceAdd, Nat.reduceMul, Nat.reduceSub, Nat.reduceBEq, Nat.reduceLeDiff, Int.reduceEq, Int.reduceLT, Int.reduceLE, Int.reduceGE, Int.reduceGT, Int.reduceBEq, Int.reduceBNe, Int.reduceToNat, Int.reduceNeg, Int.reduceSub, Int.reduceAdd, Int.reduceMul, finish, wkAV, resOf, resa, noSnap, noSnapL, noSnapO, keep, liveKeys, keysL, keysAV, renAV, renL, rr, hsn, e2]
  · have q1 : isK .u8 (D ++ [iv .u8 1]) = true := by rw [isK_app, hk]; rfl
    refine ⟨41, _, s2, evFun_body b62 ?_, q1, by rw [List.length_append, hn]; decide⟩
    have q2 := isK_snap q1
    simp (maxDischargeDepth := 8) only [vv, cc, bb, firstRegion, apartAll, clash, meets, execOp, opnd, builtinHM, bin, convHM, fillP, fieldsPlace, solid, inOrd, sliceHM, bound, zOK, appendHM, srcCells, borL, isSl, slLen, storeHM, loadHM, look1, idxAddr, arrAddr, cellsOf, TD.agg, loadedL, loaded, borrowed, isOwn, fieldR, partHM, absorbL, absorb1, setAt, killAV, killL, leafV, getR, isNil, nilV, Array.toList, List.map, bne_self_eq_false, reduceIte, reduceCtorEq, Nat.reduceEqDiff, Nat.reduceAdd, Nat.reduceMul, Nat.reduceSub, Nat.reduceBEq, Nat.reduceLeDiff, Int.reduceEq, Int.reduceLT, Int.reduceLE, Int.reduceGE, Int.reduceGT, Int.reduceBEq, Int.reduceBNe, Int.reduceToNat, Int.reduceNeg, Int.reduceSub, Int.reduceAdd, Int.reduceMul, callHM, packA, packL, pack1, lentOk, getLent, putBack, backK, renAV, renL, rr, Try.f62, hD, h8, hkl, hn]
    simp only [vv, ff, firstRegion, apartAll, clash, meets, execOp, opnd, builtinHM, bin, convHM, fillP, fieldsPlace, solid, inOrd, sliceHM, bound, zOK, appendHM, srcCells, borL, isSl, slLen, storeHM, loadHM, look1, idxAddr, arrAddr, cellsOf, TD.agg, loadedL, loaded, borrowed, isOwn, fieldR, partHM, absorbL, absorb1, setAt, killAV, killL, leafV, getR, isNil, nilV, Array.toList, List.map, bne_self_eq_false, reduceIte, reduceCtorEq, Nat.reduceEqDiff, Nat.reduceAdd, Nat.reduceMul, Nat.reduceSub, Nat.reduceBEq, Nat.reduceLeDiff, Int.reduceEq, Int.reduceLT, Int.reduceLE, Int.reduceGE, Int.reduceGT, Int.reduceBEq, Int.reduceBNe, Int.reduceToNat, Int.reduceNeg, Int.reduceSub, Int.reduceAdd, Int.reduceMul, finish, wkAV, resOf, resa, noSnap, noSnapL, noSnapO, keep, liveKeys, keysL, keysAV, renAV, renL, rr, hsn, q2]
  · have h9 := e65 (d+9) b 9 s2 hb (by decide)
    have hy := bel_b b (n := 9) (by decide) s2
    have o1 := ok3 _ hy
    have o2 := ok3 7 (by decide)
    have q1 : isK .u8 ((slotL 3 (bel b 9 s2).1).map (iv .u8) ++ (slotL 3 7).map (iv .u8)) = true := by rw [isK_app, isK_map, isK_map]; rfl
    refine ⟨40, _, (bel b 9 s2).2, evFun_body b62 ?_, q1, by simp [slot_len]⟩
    have q2 := isK_snap q1
    simp (maxDischargeDepth := 8) only [vv, cc, bb, firstRegion, apartAll, clash, meets, execOp, opnd, builtinHM, bin, convHM, fillP, fieldsPlace, solid, inOrd, sliceHM, bound, zOK, appendHM, srcCells, borL, isSl, slLen, storeHM, loadHM, look1, idxAddr, arrAddr, cellsOf, TD.agg, loadedL, loaded, borrowed, isOwn, fieldR, partHM, absorbL, absorb1, setAt, killAV, killL, leafV, getR, isNil, nilV, Array.toList, List.map, bne_self_eq_false, reduceIte, reduceCtorEq, Nat.reduceEqDiff, Nat.reduceAdd, Nat.reduceMul, Nat.reduceSub, Nat.reduceBEq, Nat.reduceLeDiff, Int.reduceEq, Int.reduceLT, Int.reduceLE, Int.reduceGE, Int.reduceGT, Int.reduceBEq, Int.reduceBNe, Int.reduceToNat, Int.reduceNeg, Int.reduceSub, Int.reduceAdd, Int.reduceMul, callHM, packA, packL, pack1, lentOk, getLent, putBack, backK, renAV, renL, rr, Try.f62, hD, h8, h9, hkl, hn, e48 _ _ _ o1, e48 _ _ _ o2, slot_len, q47, anyOwn_iv]
    simp only [vv, ff, firstRegion, apartAll, clash, meets, execOp, opnd, builtinHM, bin, convHM, fillP, fieldsPlace, solid, inOrd, sliceHM, bound, zOK, appendHM, srcCells, borL, isSl, slLen, storeHM, loadHM, look1, idxAddr, arrAddr, cellsOf, TD.agg, loadedL, loaded, borrowed, isOwn, fieldR, partHM, absorbL, absorb1, setAt, killAV, killL, leafV, getR, isNil, nilV, Array.toList, List.map, bne_self_eq_false, reduceIte, reduceCtorEq, Nat.reduceEqDiff, Nat.reduceAdd, Nat.reduceMul, Nat.reduceSub, Nat.reduceBEq, Nat.reduceLeDiff, Int.reduceEq, Int.reduceLT, Int.reduceLE, Int.reduceGE, Int.reduceGT, Int.reduceBEq, Int.reduceBNe, Int.reduceToNat, Int.reduceNeg, Int.reduceSub, Int.reduceAdd, Int.reduceMul, finish, wkAV, resOf, resa, noSnap, noSnapL, noSnapO, keep, liveKeys, keysL, keysAV, renAV, renL, rr, hsn, q2]
  · have q1 : isK .u8 ((D.set 2 (iv .u8 9)).set 22 (iv .u8 9)) = true := by
      rw [isK_get hk, ← List.map_set, ← List.map_set]; exact isK_map _ _
    refine ⟨40, _, s2, evFun_body b62 ?_, q1, by rw [List.length_set, List.length_set, hn]; decide⟩
    have q2 := isK_snap q1
    simp (maxDischargeDepth := 8) only [vv, cc, bb, firstRegion, apartAll, clash, meets, execOp, opnd, builtinHM, bin, convHM, fillP, fieldsPlace, solid, inOrd, sliceHM, bound, zOK, appendHM, srcCells, borL, isSl, slLen, storeHM, loadHM, look1, idxAddr, arrAddr, cellsOf, TD.agg, loadedL, loaded, borrowed, isOwn, fieldR, partHM, absorbL, absorb1, setAt, killAV, killL, leafV, getR, isNil, nilV, Array.toList, List.map, bne_self_eq_false, reduceIte, reduceCtorEq, Nat.reduceEqDiff, Nat.reduceAdd, Nat.reduceMul, Nat.reduceSub, Nat.reduceBEq, Nat.reduceLeDiff, Int.reduceEq, Int.reduceLT, Int.reduceLE, Int.reduceGE, Int.reduceGT, Int.reduceBEq, Int.reduceBNe, Int.reduceToNat, Int.reduceNeg, Int.reduceSub, Int.reduceAdd, Int.reduceMul, callHM, packA, packL, pack1, lentOk, getLent, putBack, backK, renAV, renL, rr, Try.f62, hD, h8, hkl, hn, List.length_set]
    simp only [vv, ff, firstRegion, apartAll, clash, meets, execOp, opnd, builtinHM, bin, convHM, fillP, fieldsPlace, solid, inOrd, sliceHM, bound, zOK, appendHM, srcCells, borL, isSl, slLen, storeHM, loadHM, look1, idxAddr, arrAddr, cellsOf, TD.agg, loadedL, loaded, borrowed, isOwn, fieldR, partHM, absorbL, absorb1, setAt, killAV, killL, leafV, getR, isNil, nilV, Array.toList, List.map, bne_self_eq_false, reduceIte, reduceCtorEq, Nat.reduceEqDiff, Nat.reduceAdd, Nat.reduceMul, Nat.reduceSub, Nat.reduceBEq, Nat.reduceLeDiff, Int.reduceEq, Int.reduceLT, Int.reduceLE, Int.reduceGE, Int.reduceGT, Int.reduceBEq, Int.reduceBNe, Int.reduceToNat, Int.reduceNeg, Int.reduceSub, Int.reduceAdd, Int.reduceMul, finish, wkAV, resOf, resa, noSnap, noSnapL, noSnapO, keep, liveKeys, keysL, keysAV, renAV, renL, rr, hsn, q2]
  · have d0 : (k == 0) = false := by simp [c0]
    have d1 : (k == 1) = false := by simp [c1]
    have d2 : (k == 2) = false := by simp [c2]
    have d3 : (k == 3) = false := by simp [c3]
    have d4 : (k == 4) = false := by simp [c4]
    refine ⟨40, D, s2, evFun_body b62 ?_, hk, by rw [hn]; decide⟩
    simp (maxDischargeDepth := 8) only [vv, cc, bb, firstRegion, apartAll, clash, meets, execOp, opnd, builtinHM, bin, convHM, fillP, fieldsPlace, solid, inOrd, sliceHM, bound, zOK, appendHM, srcCells, borL, isSl, slLen, storeHM, loadHM, look1, idxAddr, arrAddr, cellsOf, TD.agg, loadedL, loaded, borrowed, isOwn, fieldR, partHM, absorbL, absorb1, setAt, killAV, killL, leafV, getR, isNil, nilV, Array.toList, List.map, bne_self_eq_false, reduceIte, reduceCtorEq, Nat.reduceEqDiff, Nat.reduceAdd, Nat.reduceMul, Nat.reduceSub, Nat.reduceBEq, Nat.reduceLeDiff, Int.reduceEq, Int.reduceLT, Int.reduceLE, Int.reduceGE, Int.reduceGT, Int.reduceBEq, Int.reduceBNe, Int.reduceToNat, Int.reduceNeg, Int.reduceSub, Int.reduceAdd, Int.reduceMul, callHM, packA, packL, pack1, lentOk, getLent, putBack, backK, renAV, renL, rr, Try.f62, hD, h8, hkl, hn, d0, d1, d2, d3, d4]
    simp only [vv, ff, firstRegion, apartAll, clash, meets, execOp, opnd, builtinHM, bin, convHM, fillP, fieldsPlace, solid, inOrd, sliceHM, bound, zOK, appendHM, srcCells, borL, isSl, slLen, storeHM, loadHM, look1, idxAddr, arrAddr, cellsOf, TD.agg, loadedL, loaded, borrowed, isOwn, fieldR, partHM, absorbL, absorb1, setAt, killAV, killL, leafV, getR, isNil, nilV, Array.toList, List.map, bne_self_eq_false, reduceIte, reduceCtorEq, Nat.reduceEqDiff, Nat.reduceAdd, Nat.reduceMul, Nat.reduceSub, Nat.reduceBEq, Nat.reduceLeDiff, Int.reduceEq, Int.reduceLT, Int.reduceLE, Int.reduceGE, Int.reduceGT, Int.reduceBEq, Int.reduceBNe, Int.reduceToNat, Int.reduceNeg, Int.reduceSub, Int.reduceAdd, Int.reduceMul, finish, wkAV, resOf, resa, noSnap, noSnapL, noSnapO, keep, liveKeys, keysL, keysAV, renAV, renL, rr, hsn, e2]
def pick8 (k : Nat) : Int := [20, 20, 20, 5, 0, 16, 18, 21].getD k 0
theorem e80 (d : Nat) (b : List Int) (s : Nat × Int) (hb : b.length ≤ 2 ^ 39) (tg : Tg) (cap : Option Nat) : evFun E (d+3) 80 [.ptr 0 [] 0, .sl tg 1 8 cap [vi 20, vi 20, vi 20, vi 5, vi 0, vi 16, vi 18, vi 21]] [curC b s] = some (vi (pick8 (bel b 8 s).1.toNat), [some (curC b (bel b 8 s).2)]) := by
  refine evFun_body b80 ?_
  have hkl : ∀ s, (curC b s).any isOwn = false := fun s => rfl
  have hsn : ∀ s, noSnapL (curC b s) = true := fun s => rfl
  have h8 := e65 d b 8 s hb (by decide)
  obtain ⟨k0, k1⟩ := bel_b b (n := 8) (by decide) s
  generalize (bel b 8 s).2 = s2 at h8 ⊢
  generalize (bel b 8 s).1 = k at h8 k0 k1 ⊢
  have c : k = 0 ∨ k = 1 ∨ k = 2 ∨ k = 3 ∨ k = 4 ∨ k = 5 ∨ k = 6 ∨ k = 7 := by omega
  rcases c with rfl | rfl | rfl | rfl | rfl | rfl | rfl | rfl
  all_goals
    simp (maxDischargeDepth := 8) only [vv, cc, bb, firstRegion, apartAll, clash, meets, execOp, opnd, builtinHM, bin, convHM, fillP, fieldsPlace, solid, inOrd, sliceHM, bound, zOK, appendHM, srcCells, borL, isSl, slLen, storeHM, loadHM, look1, idxAddr, arrAddr, cellsOf, TD.agg, loadedL, loaded, borrowed, isOwn, fieldR, partHM, absorbL, absorb1, setAt, killAV, killL, leafV, getR, isNil, nilV, Array.toList, List.map, bne_self_eq_false, reduceIte, reduceCtorEq, Nat.reduceEqDiff, Nat.reduceAdd, Nat.reduceMul, Nat.reduceSub, Nat.reduceBEq, Nat.reduceLeDiff, Int.reduceEq, Int.reduceLT, Int.reduceLE, Int.reduceGE, Int.reduceGT, Int.reduceBEq, Int.reduceBNe, Int.reduceToNat, Int.reduceNeg, Int.reduceSub, Int.reduceAdd, Int.reduceMul, callHM, packA, packL, pack1, lentOk, getLent, putBack, backK, renAV, renL, rr, Try.f80, h8, hkl]
    simp only [vv, ff, firstRegion, apartAll, clash, meets, execOp, opnd, builtinHM, bin, convHM, fillP, fieldsPlace, solid, inOrd, sliceHM, bound, zOK, appendHM, srcCells, borL, isSl, slLen, storeHM, loadHM, look1, idxAddr, arrAddr, cellsOf, TD.agg, loadedL, loaded, borrowed, isOwn, fieldR, partHM, absorbL, absorb1, setAt, killAV, killL, leafV, getR, isNil, nilV, Array.toList, List.map, bne_self_eq_false, reduceIte, reduceCtorEq, Nat.reduceEqDiff, Nat.reduceAdd, Nat.reduceMul, Nat.reduceSub, Nat.reduceBEq, Nat.reduceLeDiff, Int.reduceEq, Int.reduceLT, Int.reduceLE, Int.reduceGE, Int.reduceGT, Int.reduceBEq, Int.reduceBNe, Int.reduceToNat, Int.reduceNeg, Int.reduceSub, Int.reduceAdd, Int.reduceMul, finish, wkAV, resOf, resa, noSnap, noSnapL, noSnapO, keep, liveKeys, keysL, keysAV, renAV, renL, rr, hsn, pick8]
theorem td7 {x : Int} (h : 0 ≤ x ∧ x < 8) : 0 ≤ x.tdiv 7 ∧ x.tdiv 7 ≤ 1 := by
  rw [Int.tdiv_eq_ediv_of_nonneg h.1]; omega
structure WS where
  ws : List Wt
  n : Int
  s : Nat × Int
def wStep (b : List Int) (x : WS) : WS :=
  let p := bel b 2 x.s
  let q := bel b 8 p.2
  let n := x.n + 1 + p.1 - q.1.tdiv 7 * 2
  let r := bel b 60000 q.2
  let t := bel b 8 r.2
  ⟨x.ws ++ [(n, r.1, pick8 t.1.toNat)], n, t.2⟩
def wAll (b : List Int) (x : WS) : Nat → WS
  | 0 => x
  | i + 1 => wStep b (wAll b x i)
theorem wAll_b (b : List Int) {x : WS} (hx : x.ws = []) (h0 : -10 ≤ x.n) (h1 : x.n ≤ 10) : ∀ i : Nat, (wAll b x i).ws.length = i ∧ -10 - 2 * (i : Int) ≤ (wAll b x i).n ∧ (wAll b x i).n ≤ 10 + 2 * (i : Int)
  | 0 => ⟨by simp [wAll, hx], by simp only [wAll]; omega, by simp only [wAll]; omega⟩
  | i + 1 => by
    obtain ⟨a1, a2, a3⟩ := wAll_b b hx h0 h1 i
    have p := bel_b b (n := 2) (by decide) (wAll b x i).s
    have q := td7 (bel_b b (n := 8) (by decide) (bel b 2 (wAll b x i).s).2)
    simp only [wAll, wStep]
    refine ⟨by rw [List.length_append, a1]; rfl, ?_, ?_⟩ <;> omega
theorem e63 (d : Nat) (b : List Int) (s : Nat × Int) (hb : b.length ≤ 2 ^ 39) : ∃ ws s', evFun E (d+4) 63 [.ptr 0 [] 0] [curC b s] = some (.ref 1 [] 3 0 ws.length (capT ws.length), [some (curC b s'), some (flat encW ws)]) ∧ ws.length ≤ 8 := by
  have hkl : ∀ s, (curC b s).any isOwn = false := fun s => rfl
  have hsn : ∀ s, noSnapL (curC b s) = true := fun s => rfl
  have h3 := e65 (d+1) b 3 s hb (by decide)
  obtain ⟨k0, k1⟩ := bel_b b (n := 3) (by decide) s
  generalize (bel b 3 s).2 = s1 at h3
  generalize (bel b 3 s).1 = n0 at h3 k0 k1
  have h9 := e65 (d+1) b 9 s1 hb (by decide)
  obtain ⟨m0, m1⟩ := bel_b b (n := 9) (by decide) s1
  generalize (bel b 9 s1).2 = s2 at h9
  generalize (bel b 9 s1).1 = mm at h9 m0 m1
  obtain ⟨m, rfl⟩ := Int.eq_ofNat_of_zero_le m0
  have hw := wAll_b b (x := ⟨[], n0, s2⟩) rfl (by show -10 ≤ n0; omega) (by show n0 ≤ 10; omega)
  refine ⟨(wAll b ⟨[], n0, s2⟩ m).ws, (wAll b ⟨[], n0, s2⟩ m).s, evFun_body b63 ?_, by rw [(hw m).1]; omega⟩
  rw [(hw m).1]
  simp (maxDischargeDepth := 8) only [vv, cc, bb, firstRegion, apartAll, clash, meets, execOp, opnd, builtinHM, bin, convHM, fillP, fieldsPlace, solid, inOrd, sliceHM, bound, zOK, appendHM, srcCells, borL, isSl, slLen, storeHM, loadHM, look1, idxAddr, arrAddr, cellsOf, TD.agg, loadedL, loaded, borrowed, isOwn, fieldR, partHM, absorbL, absorb1, setAt, killAV, killL, leafV, getR, isNil, nilV, Array.toList, List.map, bne_self_eq_false, reduceIte, reduceCtorEq, Nat.reduceEqDiff, Nat.reduceAdd, Nat.reduceMul, Nat.reduceSub, Nat.reduceBEq, Nat.reduceLeDiff, Int.reduceEq, Int.reduceLT, Int.reduceLE, Int.reduceGE, Int.reduceGT, Int.reduceBEq, Int.reduceBNe, Int.reduceToNat, Int.reduceNeg, Int.reduceSub, Int.reduceAdd, Int.reduceMul, callHM, packA, packL, pack1, lentOk, getLent, putBack, backK, renAV, renL, rr, Try.f63, h3, h9, hkl]
  refine loop_go (fun i => {T := tp [(0, .ptr 0 [] 0), (3, .ref 1 [] 3 0 i (capT i)), (4, vi (wAll b ⟨[], n0, s2⟩ i).n), (5, vi ((m : Int) - i))], H := hp [some (curC b (wAll b ⟨[], n0, s2⟩ i).s), some (flat encW (wAll b ⟨[], n0, s2⟩ i).ws)], nx := 2}) m ?_ (lt_LF (by omega)) (fun i hi Kn hK => ?_) (fun Kn => ?_)
  · simp only [vv, ff, norm, Array.toList, List.map, bne_self_eq_false, reduceIte, reduceCtorEq, Nat.reduceEqDiff, Nat.reduceAdd, Nat.reduceMul, Nat.reduceSub, Nat.reduceBEq, Nat.reduceLeDiff, Int.reduceEq, Int.reduceLT, Int.reduceLE, Int.reduceGE, Int.reduceGT, Int.reduceBEq, Int.reduceBNe, Int.reduceToNat, Int.reduceNeg, Int.reduceSub, Int.reduceAdd, Int.reduceMul, finish, wkAV, resOf, resa, noSnap, noSnapL, noSnapO, keep, liveKeys, keysL, keysAV, renAV, renL, Int.natCast_zero, Int.sub_zero, wAll, flat, capT]
  · obtain ⟨a1, a2, a3⟩ := hw i
    have hst : wAll b ⟨[], n0, s2⟩ (i + 1) = wStep b (wAll b ⟨[], n0, s2⟩ i) := rfl
    rw [hst] at hK
    generalize wAll b ⟨[], n0, s2⟩ i = x at *
    obtain ⟨ws, n, s'⟩ := x
    simp only at a1 a2 a3 hK ⊢
    have g1 : decide ((m : Int) - i > 0) = true := by simp; omega
    have g2 : IntKind.i64.wrap ((m : Int) - i - 1) = (m : Int) - ((i + 1 : Nat) : Int) := by rw [wrap64 (by omega) (by omega)]; omega
    have w1 : IntKind.i64.wrap (n + 1) = n + 1 := wrap64 (by omega) (by omega)
    have w2 : ∀ s, IntKind.i64.wrap (n + 1 + (bel b 2 s).1) = n + 1 + (bel b 2 s).1 := fun s => by
      have := bel_b b (n := 2) (by decide) s
      exact wrap64 (by omega) (by omega)
    have w3 : ∀ s, IntKind.i64.wrap ((bel b 8 s).1.tdiv 7) = (bel b 8 s).1.tdiv 7 := fun s => by
      have := td7 (bel_b b (n := 8) (by decide) s)
      exact wrap64 (by omega) (by omega)
    have w4 : ∀ s, IntKind.i64.wrap ((bel b 8 s).1.tdiv 7 * 2) = (bel b 8 s).1.tdiv 7 * 2 := fun s => by
      have := td7 (bel_b b (n := 8) (by decide) s)
      exact wrap64 (by omega) (by omega)
    have w5 : ∀ s s', IntKind.i64.wrap (n + 1 + (bel b 2 s).1 - (bel b 8 s').1.tdiv 7 * 2) = n + 1 + (bel b 2 s).1 - (bel b 8 s').1.tdiv 7 * 2 := fun s s' => by
      have h1 := bel_b b (n := 2) (by decide) s
      have h2 := td7 (bel_b b (n := 8) (by decide) s')
      exact wrap64 (by omega) (by omega)
    have fl : (flat encW ws).length = i * 3 := by rw [flat_len encW_len, a1]
    have fa : ∀ a b c : Int, flat encW ws ++ [vi a, vi b, vi c] = flat encW (ws ++ [(a, b, c)]) := fun a b c => by rw [flat_app]; rfl
    have l1 : i + 1 ≤ 549755813888 := by omega
    simp (maxDischargeDepth := 8) only [vv, cc, bb, firstRegion, apartAll, clash, meets, execOp, opnd, builtinHM, bin, convHM, fillP, fieldsPlace, solid, inOrd, sliceHM, bound, zOK, appendHM, srcCells, borL, isSl, slLen, storeHM, loadHM, look1, idxAddr, arrAddr, cellsOf, TD.agg, loadedL, loaded, borrowed, isOwn, fieldR, partHM, absorbL, absorb1, setAt, killAV, killL, leafV, getR, isNil, nilV, Array.toList, List.map, bne_self_eq_false, reduceIte, reduceCtorEq, Nat.reduceEqDiff, Nat.reduceAdd, Nat.reduceMul, Nat.reduceSub, Nat.reduceBEq, Nat.reduceLeDiff, Int.reduceEq, Int.reduceLT, Int.reduceLE, Int.reduceGE, Int.reduceGT, Int.reduceBEq, Int.reduceBNe, Int.reduceToNat, Int.reduceNeg, Int.reduceSub, Int.reduceAdd, Int.reduceMul, callHM, packA, packL, pack1, lentOk, getLent, putBack, backK, renAV, renL, rr, g1, g2, w1, w2, w3, w4, w5, fl, fa, l1, hkl, e65 _ _ _ _ hb (by decide : (0 : Int) < 2), e65 _ _ _ _ hb (by decide : (0 : Int) < 8), e65 _ _ _ _ hb (by decide : (0 : Int) < 60000), e80 _ _ _ hb]
    refine hK _ ?_
    simp only [vv, ff, norm, Array.toList, List.map, bne_self_eq_false, reduceIte, reduceCtorEq, Nat.reduceEqDiff, Nat.reduceAdd, Nat.reduceMul, Nat.reduceSub, Nat.reduceBEq, Nat.reduceLeDiff, Int.reduceEq, Int.reduceLT, Int.reduceLE, Int.reduceGE, Int.reduceGT, Int.reduceBEq, Int.reduceBNe, Int.reduceToNat, Int.reduceNeg, Int.reduceSub, Int.reduceAdd, Int.reduceMul, finish, wkAV, resOf, resa, noSnap, noSnapL, noSnapO, keep, liveKeys, keysL, keysAV, renAV, renL, wStep, capT]
  · have g1 : decide ((m : Int) - m > 0) = false := by simp
    simp only [vv, firstRegion, apartAll, clash, meets, execOp, opnd, builtinHM, bin, convHM, fillP, fieldsPlace, solid, inOrd, sliceHM, bound, zOK, appendHM, srcCells, borL, isSl, slLen, storeHM, loadHM, look1, idxAddr, arrAddr, cellsOf, TD.agg, loadedL, loaded, borrowed, isOwn, fieldR, partHM, absorbL, absorb1, setAt, killAV, killL, leafV, getR, isNil, nilV, Array.toList, List.map, bne_self_eq_false, reduceIte, reduceCtorEq, Nat.reduceEqDiff, Nat.reduceAdd, Nat.reduceMul, Nat.reduceSub, Nat.reduceBEq, Nat.reduceLeDiff, Int.reduceEq, Int.reduceLT, Int.reduceLE, Int.reduceGE, Int.reduceGT, Int.reduceBEq, Int.reduceBNe, Int.reduceToNat, Int.reduceNeg, Int.reduceSub, Int.reduceAdd, Int.reduceMul, rr, g1]
    simp only [vv, ff, firstRegion, apartAll, clash, meets, execOp, opnd, builtinHM, bin, convHM, fillP, fieldsPlace, solid, inOrd, sliceHM, bound, zOK, appendHM, srcCells, borL, isSl, slLen, storeHM, loadHM, look1, idxAddr, arrAddr, cellsOf, TD.agg, loadedL, loaded, borrowed, isOwn, fieldR, partHM, absorbL, absorb1, setAt, killAV, killL, leafV, getR, isNil, nilV, Array.toList, List.map, bne_self_eq_false, reduceIte, reduceCtorEq, Nat.reduceEqDiff, Nat.reduceAdd, Nat.reduceMul, Nat.reduceSub, Nat.reduceBEq, Nat.reduceLeDiff, Int.reduceEq, Int.reduceLT, Int.reduceLE, Int.reduceGE, Int.reduceGT, Int.reduceBEq, Int.reduceBNe, Int.reduceToNat, Int.reduceNeg, Int.reduceSub, Int.reduceAdd, Int.reduceMul, finish, wkAV, resOf, resa, noSnap, noSnapL, noSnapO, keep, liveKeys, keysL, keysAV, renAV, renL, rr, hsn, encW_snap]
theorem e30 (d : Nat) (b : List Int) (hb : b.length ≤ 2 ^ 39) : ∃ n cs ws cap, evFun E (d+13) 30 [.sl .fgn 1 b.length none (b.map (iv .u8))] [] = some (.tup [.ref 0 [] 1 0 n none, .ref 1 [] 3 0 ws.length cap], [some cs, some (flat encW ws)]) ∧ ws.length ≤ 61 := by
  have hkl : ∀ s, (curC b s).any isOwn = false := fun s => rfl
  have hN := e54 (d+11) b hb
  generalize (0, newH b (newN b)) = s0 at hN
  obtain ⟨n, cs, s1, hA, k1, k2⟩ := e62 d b s0 hb
  obtain ⟨ws, s2, hW, k3⟩ := e63 (d+8) b s1 hb
  have e1 := isK_snap k1
  have hO := e64 (d+9) b 60 s2 hb (by decide)
  cases ho : ((bel b 60 s2).1 == 0) with
  | false =>
    rw [ho] at hO
    refine ⟨n, cs, ws, capT ws.length, evFun_body b30 ?_, by omega⟩
    simp (maxDischargeDepth := 8) only [vv, cc, bb, firstRegion, apartAll, clash, meets, execOp, opnd, builtinHM, bin, convHM, fillP, fieldsPlace, solid, inOrd, sliceHM, bound, zOK, appendHM, srcCells, borL, isSl, slLen, storeHM, loadHM, look1, idxAddr, arrAddr, cellsOf, TD.agg, loadedL, loaded, borrowed, isOwn, fieldR, partHM, absorbL, absorb1, setAt, killAV, killL, leafV, getR, isNil, nilV, Array.toList, List.map, bne_self_eq_false, reduceIte, reduceCtorEq, Nat.reduceEqDiff, Nat.reduceAdd, Nat.reduceMul, Nat.reduceSub, Nat.reduceBEq, Nat.reduceLeDiff, Int.reduceEq, Int.reduceLT, Int.reduceLE, Int.reduceGE, Int.reduceGT, Int.reduceBEq, Int.reduceBNe, Int.reduceToNat, Int.reduceNeg, Int.reduceSub, Int.reduceAdd, Int.reduceMul, callHM, packA, packL, pack1, lentOk, getLent, putBack, backK, renAV, renL, rr, Try.f30, hN, hA, hW, hO, hkl]
    simp only [vv, ff, firstRegion, apartAll, clash, meets, execOp, opnd, builtinHM, bin, convHM, fillP, fieldsPlace, solid, inOrd, sliceHM, bound, zOK, appendHM, srcCells, borL, isSl, slLen, storeHM, loadHM, look1, idxAddr, arrAddr, cellsOf, TD.agg, loadedL, loaded, borrowed, isOwn, fieldR, partHM, absorbL, absorb1, setAt, killAV, killL, leafV, getR, isNil, nilV, Array.toList, List.map, bne_self_eq_false, reduceIte, reduceCtorEq, Nat.reduceEqDiff, Nat.reduceAdd, Nat.reduceMul, Nat.reduceSub, Nat.reduceBEq, Nat.reduceLeDiff, Int.reduceEq, Int.reduceLT, Int.reduceLE, Int.reduceGE, Int.reduceGT, Int.reduceBEq, Int.reduceBNe, Int.reduceToNat, Int.reduceNeg, Int.reduceSub, Int.reduceAdd, Int.reduceMul, finish, wkAV, resOf, resa, noSnap, noSnapL, noSnapO, keep, liveKeys, keysL, keysAV, renAV, renL, rr, e1, encW_snap]
  | true =>
    rw [ho] at hO
    generalize (bel b 60 s2).2 = s3 at hO
    have hB := e65 (d+10) b 2 s3 hb (by decide)
    obtain ⟨m0, m1⟩ := bel_b b (n := 2) (by decide) s3
    generalize (bel b 2 s3).2 = s4 at hB
    generalize (bel b 2 s3).1 = mm at hB m0 m1
    have hz : ∀ k, zeros ⟨.struct [(0, 3), (1, 3), (2, 3)], 3, 24, [.int .i64 0, .int .i64 0, .int .i64 0], false⟩ k = flat encW (List.replicate k (0, 0, 0)) := fun k => by rw [flat_repl]; rfl
    have c : mm = 0 ∨ mm = 1 := by omega
    rcases c with rfl | rfl
    · refine ⟨n, cs, List.replicate 60 (0, 0, 0), some 60, evFun_body b30 ?_, by simp⟩
      rw [List.length_replicate]
      simp (maxDischargeDepth := 8) only [vv, cc, bb, firstRegion, apartAll, clash, meets, execOp, opnd, builtinHM, bin, convHM, fillP, fieldsPlace, solid, inOrd, sliceHM, bound, zOK, appendHM, srcCells, borL, isSl, slLen, storeHM, loadHM, look1, idxAddr, arrAddr, cellsOf, TD.agg, loadedL, loaded, borrowed, isOwn, fieldR, partHM, absorbL, absorb1, setAt, killAV, killL, leafV, getR, isNil, nilV, Array.toList, List.map, bne_self_eq_false, reduceIte, reduceCtorEq, Nat.reduceEqDiff, Nat.reduceAdd, Nat.reduceMul, Nat.reduceSub, Nat.reduceBEq, Nat.reduceLeDiff, Int.reduceEq, Int.reduceLT, Int.reduceLE, Int.reduceGE, Int.reduceGT, Int.reduceBEq, Int.reduceBNe, Int.reduceToNat, Int.reduceNeg, Int.reduceSub, Int.reduceAdd, Int.reduceMul, callHM, packA, packL, pack1, lentOk, getLent, putBack, backK, renAV, renL, rr, Try.f30, hN, hA, hW, hO, hB, hkl, wrap64, limI, hz]
      simp only [vv, ff, firstRegion, apartAll, clash, meets, execOp, opnd, builtinHM, bin, convHM, fillP, fieldsPlace, solid, inOrd, sliceHM, bound, zOK, appendHM, srcCells, borL, isSl, slLen, storeHM, loadHM, look1, idxAddr, arrAddr, cellsOf, TD.agg, loadedL, loaded, borrowed, isOwn, fieldR, partHM, absorbL, absorb1, setAt, killAV, killL, leafV, getR, isNil, nilV, Array.toList, List.map, bne_self_eq_false, reduceIte, reduceCtorEq, Nat.reduceEqDiff, Nat.reduceAdd, Nat.reduceMul, Nat.reduceSub, Nat.reduceBEq, Nat.reduceLeDiff, Int.reduceEq, Int.reduceLT, Int.reduceLE, Int.reduceGE, Int.reduceGT, Int.reduceBEq, Int.reduceBNe, Int.reduceToNat, Int.reduceNeg, Int.reduceSub, Int.reduceAdd, Int.reduceMul, finish, wkAV, resOf, resa, noSnap, noSnapL, noSnapO, keep, liveKeys, keysL, keysAV, renAV, renL, rr, e1, encW_snap]
    · refine ⟨n, cs, List.replicate 61 (0, 0, 0), some 61, evFun_body b30 ?_, by simp⟩
      rw [List.length_replicate]
      simp (maxDischargeDepth := 8) only [vv, cc, bb, firstRegion, apartAll, clash, meets, execOp, opnd, builtinHM, bin, convHM, fillP, fieldsPlace, solid, inOrd, sliceHM, bound, zOK, appendHM, srcCells, borL, isSl, slLen, storeHM, loadHM, look1, idxAddr, arrAddr, cellsOf, TD.agg, loadedL, loaded, borrowed, isOwn, fieldR, partHM, absorbL, absorb1, setAt, killAV, killL, leafV, getR, isNil, nilV, Array.toList, List.map, bne_self_eq_false, reduceIte, reduceCtorEq, Nat.reduceEqDiff, Nat.reduceAdd, Nat.reduceMul, Nat.reduceSub, Nat.reduceBEq, Nat.reduceLeDiff, Int.reduceEq, Int.reduceLT, Int.reduceLE, Int.reduceGE, Int.reduceGT, Int.reduceBEq, Int.reduceBNe, Int.reduceToNat, Int.reduceNeg, Int.reduceSub, Int.reduceAdd, Int.reduceMul, callHM, packA, packL, pack1, lentOk, getLent, putBack, backK, renAV, renL, rr, Try.f30, hN, hA, hW, hO, hB, hkl, wrap64, limI, hz]
      simp only [vv, ff, firstRegion, apartAll, clash, meets, execOp, opnd, builtinHM, bin, convHM, fillP, fieldsPlace, solid, inOrd, sliceHM, bound, zOK, appendHM, srcCells, borL, isSl, slLen, storeHM, loadHM, look1, idxAddr, arrAddr, cellsOf, TD.agg, loadedL, loaded, borrowed, isOwn, fieldR, partHM, absorbL, absorb1, setAt, killAV, killL, leafV, getR, isNil, nilV, Array.toList, List.map, bne_self_eq_false, reduceIte, reduceCtorEq, Nat.reduceEqDiff, Nat.reduceAdd, Nat.reduceMul, Nat.reduceSub, Nat.reduceBEq, Nat.reduceLeDiff, Int.reduceEq, Int.reduceLT, Int.reduceLE, Int.reduceGE, Int.reduceGT, Int.reduceBEq, Int.reduceBNe, Int.reduceToNat, Int.reduceNeg, Int.reduceSub, Int.reduceAdd, Int.reduceMul, finish, wkAV, resOf, resa, noSnap, noSnapL, noSnapO, keep, liveKeys, keysL, keysAV, renAV, renL, rr, e1, encW_snap]
theorem wr_mono {l : List Int} (hl : l.length = 40) (hp : (rdV l).2.2 ≥ 0) (c r t : Int) : (wrV l c r t).length = 40 ∧ (rdV (wrV l c r t)).2.2 ≥ 0 ∧ (rdV l).1 ≤ (rdV (wrV l c r t)).1 := by
  unfold wrV
  by_cases hw : wrOK l c r t = true
  · rw [if_pos hw]
    simp only [wrOK, Bool.and_eq_true, decide_eq_true_eq] at hw
    obtain ⟨⟨⟨_, _⟩, ht⟩, _⟩ := hw
    have hsl : ((slotL c r).take t.toNat).length ≤ 20 := by rw [List.length_take, slot_len]; omega
    have hlen : ∀ f, f = 0 ∨ f = 20 → (putL l f ((slotL c r).take t.toNat)).length = 40 := fun f hf => by rw [putL_len _ _ _ (by omega), hl]
    rcases rdV_cases hl with ⟨e, e1, _⟩ | ⟨e, e1, _⟩ | ⟨e, _, _⟩
    · have hat : wrAt l = 20 := by unfold wrAt; rw [e]; rfl
      rw [hat]
      have hk := hlen 20 (.inr rfl)
      have ht := put20_take (s := (slotL c r).take t.toNat) hl
      refine ⟨hk, rdV_pos hk (.inl (by rw [ht]; exact e1)), ?_⟩
      rw [e]
      rcases rdV_cases hk with ⟨q, _⟩ | ⟨q, _, q2⟩ | ⟨q, q1, _⟩
      · rw [q, ht]; exact Int.le_refl _
      · rw [q]
        rcases q2 with q2 | q2
        · rw [ht, e1] at q2; simp at q2
        · rw [ht] at q2; exact Int.le_of_lt q2
      · rw [ht, e1] at q1; simp at q1
    · have hat : wrAt l = 0 := by unfold wrAt; rw [e]; rfl
      rw [hat]
      have hk := hlen 0 (.inl rfl)
      have hd := put0_drop (l := l) hsl
      refine ⟨hk, rdV_pos hk (.inr (by rw [hd]; exact e1)), ?_⟩
      rw [e]
      rcases rdV_cases hk with ⟨q, _, q2⟩ | ⟨q, _⟩ | ⟨q, _, q1⟩
      · rw [q]
        rcases q2 with q2 | q2
        · rw [hd, e1] at q2; simp at q2
        · rw [hd] at q2; exact q2
      · rw [q, hd]; exact Int.le_refl _
      · rw [hd, e1] at q1; simp at q1
    · rw [e] at hp; exact absurd hp (by decide)
  · rw [if_neg hw]; exact ⟨hl, hp, Int.le_refl _⟩
theorem run_mono {D : List AV} (hl : (un D).length = 40) (hp : (rdV (un D)).2.2 ≥ 0) (ws : List Wt) : ∀ i, (un (runC D ws i)).length = 40 ∧ (rdV (un (runC D ws i))).2.2 ≥ 0
  | 0 => ⟨hl, hp⟩
  | i + 1 => by
    obtain ⟨h1, h2⟩ := run_mono hl hp ws i
    have := wr_mono h1 h2 (ws.getD i (0, 0, 0)).1 (ws.getD i (0, 0, 0)).2.1 (ws.getD i (0, 0, 0)).2.2
    simp only [runC, un_wrC]
    exact ⟨this.1, this.2.1⟩
theorem run_le {D : List AV} (hl : (un D).length = 40) (hp : (rdV (un D)).2.2 ≥ 0) (ws : List Wt) (i : Nat) : (rdV (un (runC D ws i))).1 ≤ (rdV (un (runC D ws (i + 1)))).1 := by
  obtain ⟨h1, h2⟩ := run_mono hl hp ws i
  simp only [runC, un_wrC]
  exact (wr_mono h1 h2 _ _ _).2.2
theorem runT_get (D : List AV) (ws : List Wt) : ∀ (m i : Nat), i < m → (runT D ws m)[i]? = some (tellV (un (runC D ws (i + 1))))
  | m + 1, i, h => by
    rw [runT]
    by_cases e : i < m
    · rw [List.getElem?_append_left (by rw [runT_len]; exact e)]
      exact runT_get D ws m i e
    · have : i = m := by omega
      subst this
      rw [List.getElem?_append_right (by rw [runT_len]; exact Nat.le_refl _), runT_len, Nat.sub_self]; rfl
end Go.Proofs.Ytjkkndgbhcmphaa.VH.S
end

section
namespace Go.Proofs.Ytjkkndgbhcmphaa.VH.S
open Go.Proofs
set_option maxRecDepth 100000
set_option maxHeartbeats 16000000
set_option linter.unusedSimpArgs false

theorem e7 (d : Nat) (b : List Int) (hb : B8 b) : evFun E (d+14) 7 [.sl .fgn 1 b.length none (b.map (iv .u8))] [] = some (vb true, []) := by
  refine evFun_body b7 ?_
  by_cases hl : b.length ≤ 1048576
  · have hbig : decide ((b.length : Int) > 1048576) = false := by simp; omega
    have hbl : b.length ≤ 2 ^ 39 := by omega
    have hD := e24 (d+1) b hbl
    have hI := dAll_DInv b (bel b 5 (0, newH b (newN b))).2 (dN b (0, newH b (newN b))) (by
      have := bel_b b (n := 5) (by decide) (0, newH b (newN b))
      unfold dN; omega)
    have hI0 := dAll_inv b (x := ⟨newD, (bel b 5 (0, newH b (newN b))).2⟩) ⟨newD_k, newD_len, newD_b8⟩ (dN b (0, newH b (newN b)))
    generalize (dAll b ⟨newD, (bel b 5 (0, newH b (newN b))).2⟩ (dN b (0, newH b (newN b)))).cs = D at hD hI hI0
    have hk := hI0.k
    have hn := hI0.len
    have hbu := hI0.b8
    obtain ⟨n0, cs0, ws, cap, hR, hw61⟩ := e30 d b hbl
    have hWk : isK .i64 (flat encW ws) = true := flat_isK encW_isK ws
    have hWl : (flat encW ws).length = ws.length * 3 := flat_len encW_len ws
    have t3 : (flat encW ws).take (ws.length * 3) = flat encW ws := List.take_of_length_le (by rw [hWl]; exact Nat.le_refl _)
    have d3 : decide (ws.length * 3 ≤ (flat encW ws).length) = true := by rw [hWl]; simp
    have p0 : (0 : Nat) < 40 := by decide
    by_cases h60 : ws.length ≤ 60
    · have hd : decide ((ws.length : Int) > 60) = false := by simp; omega
      have hw' : ws.length ≤ 2 ^ 39 := by omega
      have e1 := runC_isK hk ws ws.length
      have e2 := runC_len D ws ws.length
      have e3 := runC_B8 hbu ws ws.length
      have e4 := run_mono hI.len hI.pos ws ws.length
      have e5 := decide_eq_true e4.2
      simp (maxDischargeDepth := 8) only [vv, cc, bb, firstRegion, apartAll, clash, meets, execOp, opnd, builtinHM, bin, convHM, fillP, fieldsPlace, solid, inOrd, sliceHM, bound, zOK, appendHM, srcCells, borL, isSl, slLen, storeHM, loadHM, look1, idxAddr, arrAddr, cellsOf, TD.agg, loadedL, loaded, borrowed, isOwn, fieldR, partHM, absorbL, absorb1, setAt, killAV, killL, leafV, getR, isNil, nilV, Array.toList, List.map, bne_self_eq_false, reduceIte, reduceCtorEq, Nat.reduceEqDiff, Nat.reduceAdd, Nat.reduceMul, Nat.reduceSub, Nat.reduceBEq, Nat.reduceLeDiff, Int.reduceEq, Int.reduceLT, Int.reduceLE, Int.reduceGE, Int.reduceGT, Int.reduceBEq, Int.reduceBNe, Int.reduceToNat, Int.reduceNeg, Int.reduceSub, Int.reduceAdd, Int.reduceMul, callHM, packA, packL, pack1, lentOk, getLent, putBack, backK, renAV, renL, rr, Try.f7, e23, hbig, hD, hR, hk, hn, hbu, t3, d3, hWk, hWl, p0, h60, hd, e31, e25]
      refine loop_go (fun i => {T := tp [(5, .ref 0 [] 3 0 ws.length cap), (6, .ref 1 [] 1 0 40 none), (7, .ref 2 [] 1 0 ws.length (capT ws.length)), (8, vi (rdV (un (runC D ws i))).1), (11, .ref 3 [] 1 0 40 none), (12, vi i)], H := hp [some (flat encW ws), some (runC D ws ws.length), some ((runT D ws ws.length).map (iv .i64)), some (runC D ws i)], nx := 4}) ws.length ?_ (lt_LF hw') (fun i hi Kn hK => ?_) (fun Kn => ?_)
      · simp only [vv, ff, norm, Array.toList, List.map, bne_self_eq_false, reduceIte, reduceCtorEq, Nat.reduceEqDiff, Nat.reduceAdd, Nat.reduceMul, Nat.reduceSub, Nat.reduceBEq, Nat.reduceLeDiff, Int.reduceEq, Int.reduceLT, Int.reduceLE, Int.reduceGE, Int.reduceGT, Int.reduceBEq, Int.reduceBNe, Int.reduceToNat, Int.reduceNeg, Int.reduceSub, Int.reduceAdd, Int.reduceMul, finish, wkAV, resOf, resa, noSnap, noSnapL, noSnapO, keep, liveKeys, keysL, keysAV, renAV, renL, Int.natCast_zero, runC]
      · have h0 := flt_get encW_len ws i hi 0 (by decide)
        have h1 := flt_get encW_len ws i hi 1 (by decide)
        have h2 := flt_get encW_len ws i hi 2 (by decide)
        simp only [encW, List.getElem?_cons_zero, List.getElem?_cons_succ, Nat.add_zero] at h0 h1 h2
        have f1 := runC_isK hk ws i
        have f2 := runC_len D ws i
        have f3 := runC_B8 hbu ws i
        have f4 := runC_succ D hi
        have g1 := runC_isK hk ws (i + 1)
        have g2 := runC_len D ws (i + 1)
        have g3 := runC_B8 hbu ws (i + 1)
        have wsu := wrap_succ hi hw'
        have pl := (run_mono hI.len hI.pos ws (i + 1)).2
        have q1 : decide ((rdV (un (runC D ws (i + 1)))).2.2 < 0) = false := by simp; omega
        have q2 : ((runT D ws ws.length).map (iv .i64))[i]? = some (vi (rdV (un (runC D ws (i + 1)))).1) := by
          rw [List.getElem?_map, runT_get D ws ws.length i hi]
          simp [tellV]; omega
        have q3 : decide ((rdV (un (runC D ws (i + 1)))).1 < (rdV (un (runC D ws i))).1) = false := by
          have := run_le hI.len hI.pos ws i
          simp; omega
        simp (maxDischargeDepth := 8) only [vv, cc, bb, firstRegion, apartAll, clash, meets, execOp, opnd, builtinHM, bin, convHM, fillP, fieldsPlace, solid, inOrd, sliceHM, bound, zOK, appendHM, srcCells, borL, isSl, slLen, storeHM, loadHM, look1, idxAddr, arrAddr, cellsOf, TD.agg, loadedL, loaded, borrowed, isOwn, fieldR, partHM, absorbL, absorb1, setAt, killAV, killL, leafV, getR, isNil, nilV, Array.toList, List.map, bne_self_eq_false, reduceIte, reduceCtorEq, Nat.reduceEqDiff, Nat.reduceAdd, Nat.reduceMul, Nat.reduceSub, Nat.reduceBEq, Nat.reduceLeDiff, Int.reduceEq, Int.reduceLT, Int.reduceLE, Int.reduceGE, Int.reduceGT, Int.reduceBEq, Int.reduceBNe, Int.reduceToNat, Int.reduceNeg, Int.reduceSub, Int.reduceAdd, Int.reduceMul, callHM, packA, packL, pack1, lentOk, getLent, putBack, backK, renAV, renL, rr, lt_ok hi, h0, h1, h2, f1, f2, f3, f4, g1, g2, g3, hn, p0, q1, q2, q3, wsu, e22, e25]
        repeat' ((with_reducible refine condT ?_ ?_); (focus kernel_rfl); try simp (maxDischargeDepth := 8) only [vv, cc, bb, firstRegion, apartAll, clash, meets, execOp, opnd, builtinHM, bin, convHM, fillP, fieldsPlace, solid, inOrd, sliceHM, bound, zOK, appendHM, srcCells, borL, isSl, slLen, storeHM, loadHM, look1, idxAddr, arrAddr, cellsOf, TD.agg, loadedL, loaded, borrowed, isOwn, fieldR, partHM, absorbL, absorb1, setAt, killAV, killL, leafV, getR, isNil, nilV, Array.toList, List.map, bne_self_eq_false, reduceIte, reduceCtorEq, Nat.reduceEqDiff, Nat.reduceAdd, Nat.reduceMul, Nat.reduceSub, Nat.reduceBEq, Nat.reduceLeDiff, Int.reduceEq, Int.reduceLT, Int.reduceLE, Int.reduceGE, Int.reduceGT, Int.reduceBEq, Int.reduceBNe, Int.reduceToNat, Int.reduceNeg, Int.reduceSub, Int.reduceAdd, Int.reduceMul, callHM, packA, packL, pack1, lentOk, getLent, putBack, backK, renAV, renL, rr, lt_ok hi, h0, h1, h2, f1, f2, f3, f4, g1, g2, g3, hn, p0, q1, q2, q3, wsu, e22, e25])
        refine hK _ ?_
        simp only [vv, ff, norm, Array.toList, List.map, bne_self_eq_false, reduceIte, reduceCtorEq, Nat.reduceEqDiff, Nat.reduceAdd, Nat.reduceMul, Nat.reduceSub, Nat.reduceBEq, Nat.reduceLeDiff, Int.reduceEq, Int.reduceLT, Int.reduceLE, Int.reduceGE, Int.reduceGT, Int.reduceBEq, Int.reduceBNe, Int.reduceToNat, Int.reduceNeg, Int.reduceSub, Int.reduceAdd, Int.reduceMul, finish, wkAV, resOf, resa, noSnap, noSnapL, noSnapO, keep, liveKeys, keysL, keysAV, renAV, renL, wsu]
      · simp (maxDischargeDepth := 8) only [vv, cc, bb, firstRegion, apartAll, clash, meets, execOp, opnd, builtinHM, bin, convHM, fillP, fieldsPlace, solid, inOrd, sliceHM, bound, zOK, appendHM, srcCells, borL, isSl, slLen, storeHM, loadHM, look1, idxAddr, arrAddr, cellsOf, TD.agg, loadedL, loaded, borrowed, isOwn, fieldR, partHM, absorbL, absorb1, setAt, killAV, killL, leafV, getR, isNil, nilV, Array.toList, List.map, bne_self_eq_false, reduceIte, reduceCtorEq, Nat.reduceEqDiff, Nat.reduceAdd, Nat.reduceMul, Nat.reduceSub, Nat.reduceBEq, Nat.reduceLeDiff, Int.reduceEq, Int.reduceLT, Int.reduceLE, Int.reduceGE, Int.reduceGT, Int.reduceBEq, Int.reduceBNe, Int.reduceToNat, Int.reduceNeg, Int.reduceSub, Int.reduceAdd, Int.reduceMul, callHM, packA, packL, pack1, lentOk, getLent, putBack, backK, renAV, renL, rr, lt_no, e1, e2, e3, e5, hn, cellsIn, strBin, bytesOf_isK, e26]
        simp only [vv, ff, firstRegion, apartAll, clash, meets, execOp, opnd, builtinHM, bin, convHM, fillP, fieldsPlace, solid, inOrd, sliceHM, bound, zOK, appendHM, srcCells, borL, isSl, slLen, storeHM, loadHM, look1, idxAddr, arrAddr, cellsOf, TD.agg, loadedL, loaded, borrowed, isOwn, fieldR, partHM, absorbL, absorb1, setAt, killAV, killL, leafV, getR, isNil, nilV, Array.toList, List.map, bne_self_eq_false, reduceIte, reduceCtorEq, Nat.reduceEqDiff, Nat.reduceAdd, Nat.reduceMul, Nat.reduceSub, Nat.reduceBEq, Nat.reduceLeDiff, Int.reduceEq, Int.reduceLT, Int.reduceLE, Int.reduceGE, Int.reduceGT, Int.reduceBEq, Int.reduceBNe, Int.reduceToNat, Int.reduceNeg, Int.reduceSub, Int.reduceAdd, Int.reduceMul, finish, wkAV, resOf, resa, noSnap, noSnapL, noSnapO, keep, liveKeys, keysL, keysAV, renAV, renL, rr]
    · have h60' : 60 < ws.length := by omega
      have hd : decide ((ws.length : Int) > 60) = true := by simp; omega
      simp (maxDischargeDepth := 8) only [vv, cc, bb, firstRegion, apartAll, clash, meets, execOp, opnd, builtinHM, bin, convHM, fillP, fieldsPlace, solid, inOrd, sliceHM, bound, zOK, appendHM, srcCells, borL, isSl, slLen, storeHM, loadHM, look1, idxAddr, arrAddr, cellsOf, TD.agg, loadedL, loaded, borrowed, isOwn, fieldR, partHM, absorbL, absorb1, setAt, killAV, killL, leafV, getR, isNil, nilV, Array.toList, List.map, bne_self_eq_false, reduceIte, reduceCtorEq, Nat.reduceEqDiff, Nat.reduceAdd, Nat.reduceMul, Nat.reduceSub, Nat.reduceBEq, Nat.reduceLeDiff, Int.reduceEq, Int.reduceLT, Int.reduceLE, Int.reduceGE, Int.reduceGT, Int.reduceBEq, Int.reduceBNe, Int.reduceToNat, Int.reduceNeg, Int.reduceSub, Int.reduceAdd, Int.reduceMul, callHM, packA, packL, pack1, lentOk, getLent, putBack, backK, renAV, renL, rr, Try.f7, e23, hbig, hD, hR, hk, hn, hbu, t3, d3, hWk, hWl, p0, h60', hd, m31, cellsIn, strBin, bytesOf_isK]
      simp only [vv, ff, firstRegion, apartAll, clash, meets, execOp, opnd, builtinHM, bin, convHM, fillP, fieldsPlace, solid, inOrd, sliceHM, bound, zOK, appendHM, srcCells, borL, isSl, slLen, storeHM, loadHM, look1, idxAddr, arrAddr, cellsOf, TD.agg, loadedL, loaded, borrowed, isOwn, fieldR, partHM, absorbL, absorb1, setAt, killAV, killL, leafV, getR, isNil, nilV, Array.toList, List.map, bne_self_eq_false, reduceIte, reduceCtorEq, Nat.reduceEqDiff, Nat.reduceAdd, Nat.reduceMul, Nat.reduceSub, Nat.reduceBEq, Nat.reduceLeDiff, Int.reduceEq, Int.reduceLT, Int.reduceLE, Int.reduceGE, Int.reduceGT, Int.reduceBEq, Int.reduceBNe, Int.reduceToNat, Int.reduceNeg, Int.reduceSub, Int.reduceAdd, Int.reduceMul, finish, wkAV, resOf, resa, noSnap, noSnapL, noSnapO, keep, liveKeys, keysL, keysAV, renAV, renL, rr]
  · have hbig : decide ((b.length : Int) > 1048576) = true := by simp; omega
    simp (maxDischargeDepth := 8) only [vv, cc, bb, firstRegion, apartAll, clash, meets, execOp, opnd, builtinHM, bin, convHM, fillP, fieldsPlace, solid, inOrd, sliceHM, bound, zOK, appendHM, srcCells, borL, isSl, slLen, storeHM, loadHM, look1, idxAddr, arrAddr, cellsOf, TD.agg, loadedL, loaded, borrowed, isOwn, fieldR, partHM, absorbL, absorb1, setAt, killAV, killL, leafV, getR, isNil, nilV, Array.toList, List.map, bne_self_eq_false, reduceIte, reduceCtorEq, Nat.reduceEqDiff, Nat.reduceAdd, Nat.reduceMul, Nat.reduceSub, Nat.reduceBEq, Nat.reduceLeDiff, Int.reduceEq, Int.reduceLT, Int.reduceLE, Int.reduceGE, Int.reduceGT, Int.reduceBEq, Int.reduceBNe, Int.reduceToNat, Int.reduceNeg, Int.reduceSub, Int.reduceAdd, Int.reduceMul, callHM, packA, packL, pack1, lentOk, getLent, putBack, backK, renAV, renL, rr, Try.f7, e23, hbig]
    simp only [vv, ff, firstRegion, apartAll, clash, meets, execOp, opnd, builtinHM, bin, convHM, fillP, fieldsPlace, solid, inOrd, sliceHM, bound, zOK, appendHM, srcCells, borL, isSl, slLen, storeHM, loadHM, look1, idxAddr, arrAddr, cellsOf, TD.agg, loadedL, loaded, borrowed, isOwn, fieldR, partHM, absorbL, absorb1, setAt, killAV, killL, leafV, getR, isNil, nilV, Array.toList, List.map, bne_self_eq_false, reduceIte, reduceCtorEq, Nat.reduceEqDiff, Nat.reduceAdd, Nat.reduceMul, Nat.reduceSub, Nat.reduceBEq, Nat.reduceLeDiff, Int.reduceEq, Int.reduceLT, Int.reduceLE, Int.reduceGE, Int.reduceGT, Int.reduceBEq, Int.reduceBNe, Int.reduceToNat, Int.reduceNeg, Int.reduceSub, Int.reduceAdd, Int.reduceMul, finish, wkAV, resOf, resa, noSnap, noSnapL, noSnapO, keep, liveKeys, keysL, keysAV, renAV, renL, rr]
end Go.Proofs.Ytjkkndgbhcmphaa.VH.S
end

