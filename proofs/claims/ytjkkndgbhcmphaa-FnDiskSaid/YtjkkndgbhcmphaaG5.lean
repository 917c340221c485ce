/- Part of a proof about the given program: a verified evaluator, and what it tells of the functions (VhBFQ, VhBFR, VhBFT, VhBFN, VhPut, VhBFW, VhBFP, VhBFV, VhBFDk). Conditions: none beyond the hypotheses that each theorem states. -/
import Derived.Test.YtjkkndgbhcmphaaG4
import Derived.Test.YtjkkndgbhcmphaaG3
section
namespace Go.Proofs.Ytjkkndgbhcmphaa.VH.S
open Go.Proofs
set_option maxRecDepth 100000
set_option maxHeartbeats 4000000
set_option linter.unusedSimpArgs false

/- What is known, for rows written in any way. -/
theorem q21 (d : Nat) (tg : Tg) (cap : Option Nat) (n : Nat) (cs : List AV) (hb : isK .u8 cs = true) (hn : cs.length = n) (hl : n ≤ 549755813888) : evFun E (d+1) 21 [.sl tg 1 n cap cs] [] = some (.ref 0 [] 1 0 n (some n), [some cs]) := by
  subst hn
  have := e21 d tg cap (un cs) (by rw [un_len]; exact hl)
  rw [un_len, ← isK_get hb] at this; exact this
theorem q13 (d : Nat) (tg tg' : Tg) (cap cap' : Option Nat) (n m : Nat) (a b : List AV) (ha : isK .u8 a = true) (hb : isK .u8 b = true) (hn : a.length = n) (hm : b.length = m) (hl : n ≤ 549755813888) : evFun E (d+1) 13 [.sl tg 1 n cap a, .sl tg' 1 m cap' b] [] = some (vb (decide (un a = un b)), []) := by
  subst hn; subst hm
  have := e13 d tg tg' cap cap' (un a) (un b) (by rw [un_len]; exact hl)
  rw [un_len, un_len, ← isK_get ha, ← isK_get hb] at this; exact this
theorem q16 (d : Nat) (n : Nat) (cs : List AV) (cap : Option Nat) (hb : isK .u8 cs = true) (hn : cs.length = n) (hl : n ≤ 549755813887) : evFun E (d+1) 16 [.ref 0 [] 1 0 n cap, vi 1] [cs] = some (vi (1 + n), [some ((marks .u8 1 n).map (iv .u8))]) := by
  subst hn
  have := e16 d (un cs) cap 1 (by decide) (by rw [un_len]; omega)
  rw [un_len, ← isK_get hb] at this; exact this
theorem q17 (d : Nat) (tg : Tg) (cap : Option Nat) (n : Nat) (cs : List AV) (hc : cs = (marks .u8 1 n).map (iv .u8)) (hl : n ≤ 549755813887) : evFun E (d+1) 17 [.sl tg 1 n cap cs, vi 1] [] = some (vi (1 + n), []) := by
  subst hc
  exact e17 d tg cap n 1 (by decide) (by omega)

theorem e75 (d : Nat) (tg : Tg) (cap : Option Nat) (l : List Int) (hl : l.length ≤ 8) (hb : B8 l) : evFun E (d+1) 75 [.sl tg 1 l.length cap (l.map (iv .u8))] [] = some (u64 (numB l), []) := by
  refine evFun_body b75 ?_
  have hl' : l.length ≤ 2 ^ 39 := by omega
  simp only [vv, firstRegion, apartAll, clash, meets, execOp, opnd, builtinHM, bin, convHM, fillP, fieldsPlace, solid, inOrd, sliceHM, bound, zOK, appendHM, srcCells, borL, isSl, slLen, storeHM, loadHM, look1, idxAddr, arrAddr, cellsOf, TD.agg, loadedL, loaded, borrowed, isOwn, fieldR, partHM, absorbL, absorb1, setAt, killAV, killL, leafV, getR, isNil, nilV, Array.toList, List.map, reduceIte, reduceCtorEq, Nat.reduceEqDiff, Nat.reduceAdd, Nat.reduceMul, Nat.reduceSub, Nat.reduceBEq, Nat.reduceLeDiff, Int.reduceLT, Int.reduceLE, Int.reduceGE, Int.reduceGT, Int.reduceBEq, Int.reduceBNe, Int.reduceToNat, Int.reduceNeg, Int.reduceSub, Int.reduceAdd, Int.reduceMul, rr, Try.f75]
  refine loop_go (fun i => {T := tp [(3, u64 (numB (l.take i))), (6, .sl tg 1 l.length cap (l.map (iv .u8))), (7, vi l.length), (8, vi i)], H := hp [], nx := 0}) l.length ?_ (lt_LF hl') (fun i hi Kn hK => ?_) (fun Kn => ?_)
  · simp only [vv, ff, norm, Array.toList, List.map, reduceIte, reduceCtorEq, Nat.reduceEqDiff, Nat.reduceAdd, Nat.reduceMul, Nat.reduceSub, Nat.reduceBEq, Nat.reduceLeDiff, Int.reduceLT, Int.reduceLE, Int.reduceGE, Int.reduceGT, Int.reduceBEq, Int.reduceBNe, Int.reduceToNat, Int.reduceNeg, Int.reduceSub, Int.reduceAdd, Int.reduceMul, finish, wkAV, resOf, resa, noSnap, noSnapL, noSnapO, keep, liveKeys, keysL, keysAV, renAV, renL, Int.natCast_zero, List.take_zero, numB, List.foldl_nil]
  · have h7 : numB (l.take i) < 72057594037927936 := by
      have h1 := numB_mono hb (show i ≤ l.length - 1 by omega) (by omega)
      have h2 := numB_take_lt hb (l.length - 1)
      have h3 : (256 : Int) ^ (l.length - 1) ≤ 256 ^ 7 := by
        have e : ∀ n : Nat, (256 : Int) ^ n = ((256 ^ n : Nat) : Int) := fun n => by simp
        have := Nat.pow_le_pow_right (n := 256) (by decide) (show l.length - 1 ≤ 7 by omega)
        rw [e, e]; omega
      have h4 : (256 : Int) ^ 7 = 72057594037927936 := by decide
      omega
    simp only [vv, firstRegion, apartAll, clash, meets, execOp, opnd, builtinHM, bin, convHM, fillP, fieldsPlace, solid, inOrd, sliceHM, bound, zOK, appendHM, srcCells, borL, isSl, slLen, storeHM, loadHM, look1, idxAddr, arrAddr, cellsOf, TD.agg, loadedL, loaded, borrowed, isOwn, fieldR, partHM, absorbL, absorb1, setAt, killAV, killL, leafV, getR, isNil, nilV, Array.toList, List.map, reduceIte, reduceCtorEq, Nat.reduceEqDiff, Nat.reduceAdd, Nat.reduceMul, Nat.reduceSub, Nat.reduceBEq, Nat.reduceLeDiff, Int.reduceLT, Int.reduceLE, Int.reduceGE, Int.reduceGT, Int.reduceBEq, Int.reduceBNe, Int.reduceToNat, Int.reduceNeg, Int.reduceSub, Int.reduceAdd, Int.reduceMul, rr, lt_ok hi, map_get hi, orU_shl (numB_nn (hb.take i)) h7 (hb _ (List.getElem_mem hi)), wrap_succ hi hl', ← numB_take hi]
    refine hK _ ?_
    simp only [vv, ff, norm, Array.toList, List.map, reduceIte, reduceCtorEq, Nat.reduceEqDiff, Nat.reduceAdd, Nat.reduceMul, Nat.reduceSub, Nat.reduceBEq, Nat.reduceLeDiff, Int.reduceLT, Int.reduceLE, Int.reduceGE, Int.reduceGT, Int.reduceBEq, Int.reduceBNe, Int.reduceToNat, Int.reduceNeg, Int.reduceSub, Int.reduceAdd, Int.reduceMul, finish, wkAV, resOf, resa, noSnap, noSnapL, noSnapO, keep, liveKeys, keysL, keysAV, renAV, renL]
  · simp only [vv, firstRegion, apartAll, clash, meets, execOp, opnd, builtinHM, bin, convHM, fillP, fieldsPlace, solid, inOrd, sliceHM, bound, zOK, appendHM, srcCells, borL, isSl, slLen, storeHM, loadHM, look1, idxAddr, arrAddr, cellsOf, TD.agg, loadedL, loaded, borrowed, isOwn, fieldR, partHM, absorbL, absorb1, setAt, killAV, killL, leafV, getR, isNil, nilV, Array.toList, List.map, reduceIte, reduceCtorEq, Nat.reduceEqDiff, Nat.reduceAdd, Nat.reduceMul, Nat.reduceSub, Nat.reduceBEq, Nat.reduceLeDiff, Int.reduceLT, Int.reduceLE, Int.reduceGE, Int.reduceGT, Int.reduceBEq, Int.reduceBNe, Int.reduceToNat, Int.reduceNeg, Int.reduceSub, Int.reduceAdd, Int.reduceMul, rr, lt_no]
    simp only [vv, ff, firstRegion, apartAll, clash, meets, execOp, opnd, builtinHM, bin, convHM, fillP, fieldsPlace, solid, inOrd, sliceHM, bound, zOK, appendHM, srcCells, borL, isSl, slLen, storeHM, loadHM, look1, idxAddr, arrAddr, cellsOf, TD.agg, loadedL, loaded, borrowed, isOwn, fieldR, partHM, absorbL, absorb1, setAt, killAV, killL, leafV, getR, isNil, nilV, Array.toList, List.map, reduceIte, reduceCtorEq, Nat.reduceEqDiff, Nat.reduceAdd, Nat.reduceMul, Nat.reduceSub, Nat.reduceBEq, Nat.reduceLeDiff, Int.reduceLT, Int.reduceLE, Int.reduceGE, Int.reduceGT, Int.reduceBEq, Int.reduceBNe, Int.reduceToNat, Int.reduceNeg, Int.reduceSub, Int.reduceAdd, Int.reduceMul, finish, wkAV, resOf, resa, noSnap, noSnapL, noSnapO, keep, liveKeys, keysL, keysAV, renAV, renL, rr, List.take_length]
theorem q75 (d : Nat) (tg : Tg) (cap : Option Nat) (cs : List AV) (n : Nat) (hk : isK .u8 cs = true) (hn : cs.length = n) (h8 : n ≤ 8) (hb : B8 (un cs)) : evFun E (d+1) 75 [.sl tg 1 n cap cs] [] = some (u64 (numB (un cs)), []) := by
  subst hn
  have := e75 d tg cap (un cs) (by rw [un_len]; exact h8) hb
  rw [un_len, ← isK_get hk] at this; exact this
def num7 (l : List Int) : Bool := decide (numB (l.take 7) < 18014398509481984)
theorem e84 (d : Nat) (tg : Tg) (cap : Option Nat) (l : List Int) (hl : l.length = 8) (hb : B8 l) : evFun E (d+1) 84 [.sl tg 1 8 cap (l.map (iv .u8))] [] = some (.tup [vi (if num7 l = true then numB l else 0), vb (num7 l)], []) := by
  refine evFun_body b84 ?_
  simp only [vv, firstRegion, apartAll, clash, meets, execOp, opnd, builtinHM, bin, convHM, fillP, fieldsPlace, solid, inOrd, sliceHM, bound, zOK, appendHM, srcCells, borL, isSl, slLen, storeHM, loadHM, look1, idxAddr, arrAddr, cellsOf, TD.agg, loadedL, loaded, borrowed, isOwn, fieldR, partHM, absorbL, absorb1, setAt, killAV, killL, leafV, getR, isNil, nilV, Array.toList, List.map, reduceIte, reduceCtorEq, Nat.reduceEqDiff, Nat.reduceAdd, Nat.reduceMul, Nat.reduceSub, Nat.reduceBEq, Nat.reduceLeDiff, Int.reduceLT, Int.reduceLE, Int.reduceGE, Int.reduceGT, Int.reduceBEq, Int.reduceBNe, Int.reduceToNat, Int.reduceNeg, Int.reduceSub, Int.reduceAdd, Int.reduceMul, rr, Try.f84]
  refine loop_inv (fun i => ∀ j, j < i → numB (l.take j) < 18014398509481984) (fun i => {T := tp [(0, .sl tg 1 8 cap (l.map (iv .u8))), (4, vi (numB (l.take i))), (5, vi i)], H := hp [], nx := 0}) 8 ?_ (fun j h => by omega) (lt_LF (by decide)) (fun i hi hI Kn hK => ?_) (fun hI Kn => ?_)
  · simp only [vv, ff, norm, Array.toList, List.map, reduceIte, reduceCtorEq, Nat.reduceEqDiff, Nat.reduceAdd, Nat.reduceMul, Nat.reduceSub, Nat.reduceBEq, Nat.reduceLeDiff, Int.reduceLT, Int.reduceLE, Int.reduceGE, Int.reduceGT, Int.reduceBEq, Int.reduceBNe, Int.reduceToNat, Int.reduceNeg, Int.reduceSub, Int.reduceAdd, Int.reduceMul, finish, wkAV, resOf, resa, noSnap, noSnapL, noSnapO, keep, liveKeys, keysL, keysAV, renAV, renL, Int.natCast_zero, List.take_zero, numB, List.foldl_nil]
  · have hil : i < l.length := by omega
    have q5 : decide ((i : Int) < 8) = true := by simp; omega
    have q6 : (decide (0 ≤ (i : Int)) && decide ((i : Int) < ((8 : Nat) : Int))) = true := by simp; omega
    simp only [vv, firstRegion, apartAll, clash, meets, execOp, opnd, builtinHM, bin, convHM, fillP, fieldsPlace, solid, inOrd, sliceHM, bound, zOK, appendHM, srcCells, borL, isSl, slLen, storeHM, loadHM, look1, idxAddr, arrAddr, cellsOf, TD.agg, loadedL, loaded, borrowed, isOwn, fieldR, partHM, absorbL, absorb1, setAt, killAV, killL, leafV, getR, isNil, nilV, Array.toList, List.map, reduceIte, reduceCtorEq, Nat.reduceEqDiff, Nat.reduceAdd, Nat.reduceMul, Nat.reduceSub, Nat.reduceBEq, Nat.reduceLeDiff, Int.reduceLT, Int.reduceLE, Int.reduceGE, Int.reduceGT, Int.reduceBEq, Int.reduceBNe, Int.reduceToNat, Int.reduceNeg, Int.reduceSub, Int.reduceAdd, Int.reduceMul, rr, q5]
    refine evIf_elim (fun h => ?_) (fun h => ?_)
    · simp only [vv, firstRegion, apartAll, clash, meets, execOp, opnd, builtinHM, bin, convHM, fillP, fieldsPlace, solid, inOrd, sliceHM, bound, zOK, appendHM, srcCells, borL, isSl, slLen, storeHM, loadHM, look1, idxAddr, arrAddr, cellsOf, TD.agg, loadedL, loaded, borrowed, isOwn, fieldR, partHM, absorbL, absorb1, setAt, killAV, killL, leafV, getR, isNil, nilV, Array.toList, List.map, reduceIte, reduceCtorEq, Nat.reduceEqDiff, Nat.reduceAdd, Nat.reduceMul, Nat.reduceSub, Nat.reduceBEq, Nat.reduceLeDiff, Int.reduceLT, Int.reduceLE, Int.reduceGE, Int.reduceGT, Int.reduceBEq, Int.reduceBNe, Int.reduceToNat, Int.reduceNeg, Int.reduceSub, Int.reduceAdd, Int.reduceMul, rr]
      simp only [vv, ff, firstRegion, apartAll, clash, meets, execOp, opnd, builtinHM, bin, convHM, fillP, fieldsPlace, solid, inOrd, sliceHM, bound, zOK, appendHM, srcCells, borL, isSl, slLen, storeHM, loadHM, look1, idxAddr, arrAddr, cellsOf, TD.agg, loadedL, loaded, borrowed, isOwn, fieldR, partHM, absorbL, absorb1, setAt, killAV, killL, leafV, getR, isNil, nilV, Array.toList, List.map, reduceIte, reduceCtorEq, Nat.reduceEqDiff, Nat.reduceAdd, Nat.reduceMul, Nat.reduceSub, Nat.reduceBEq, Nat.reduceLeDiff, Int.reduceLT, Int.reduceLE, Int.reduceGE, Int.reduceGT, Int.reduceBEq, Int.reduceBNe, Int.reduceToNat, Int.reduceNeg, Int.reduceSub, Int.reduceAdd, Int.reduceMul, finish, wkAV, resOf, resa, noSnap, noSnapL, noSnapO, keep, liveKeys, keysL, keysAV, renAV, renL, rr]
      have h1 := of_decide_eq_true h
      have h2 := numB_mono hb (show i ≤ 7 by omega) (by omega)
      have h3 : num7 l = false := by simp only [num7, decide_eq_false_iff_not]; omega
      rw [h3]; simp
    · have h1 := of_decide_eq_false h
      simp only [vv, firstRegion, apartAll, clash, meets, execOp, opnd, builtinHM, bin, convHM, fillP, fieldsPlace, solid, inOrd, sliceHM, bound, zOK, appendHM, srcCells, borL, isSl, slLen, storeHM, loadHM, look1, idxAddr, arrAddr, cellsOf, TD.agg, loadedL, loaded, borrowed, isOwn, fieldR, partHM, absorbL, absorb1, setAt, killAV, killL, leafV, getR, isNil, nilV, Array.toList, List.map, reduceIte, reduceCtorEq, Nat.reduceEqDiff, Nat.reduceAdd, Nat.reduceMul, Nat.reduceSub, Nat.reduceBEq, Nat.reduceLeDiff, Int.reduceLT, Int.reduceLE, Int.reduceGE, Int.reduceGT, Int.reduceBEq, Int.reduceBNe, Int.reduceToNat, Int.reduceNeg, Int.reduceSub, Int.reduceAdd, Int.reduceMul, rr, q5, q6, map_get hil, addI_shl (numB_nn (hb.take i)) (by omega) (hb _ (List.getElem_mem hil)), wrap_succ hi (show 8 ≤ 2 ^ 39 by decide), ← numB_take hil]
      refine hK (fun j hj => ?_) _ ?_
      · by_cases e : j = i
        · subst e; omega
        · exact hI j (by omega)
      · simp only [vv, ff, norm, Array.toList, List.map, reduceIte, reduceCtorEq, Nat.reduceEqDiff, Nat.reduceAdd, Nat.reduceMul, Nat.reduceSub, Nat.reduceBEq, Nat.reduceLeDiff, Int.reduceLT, Int.reduceLE, Int.reduceGE, Int.reduceGT, Int.reduceBEq, Int.reduceBNe, Int.reduceToNat, Int.reduceNeg, Int.reduceSub, Int.reduceAdd, Int.reduceMul, finish, wkAV, resOf, resa, noSnap, noSnapL, noSnapO, keep, liveKeys, keysL, keysAV, renAV, renL]
  · have q5 : decide (((8 : Nat) : Int) < 8) = false := by decide
    have q7 : num7 l = true := by simp only [num7, decide_eq_true_eq]; exact hI 7 (by decide)
    have q8 : l.take 8 = l := by rw [← hl, List.take_length]
    simp only [vv, firstRegion, apartAll, clash, meets, execOp, opnd, builtinHM, bin, convHM, fillP, fieldsPlace, solid, inOrd, sliceHM, bound, zOK, appendHM, srcCells, borL, isSl, slLen, storeHM, loadHM, look1, idxAddr, arrAddr, cellsOf, TD.agg, loadedL, loaded, borrowed, isOwn, fieldR, partHM, absorbL, absorb1, setAt, killAV, killL, leafV, getR, isNil, nilV, Array.toList, List.map, reduceIte, reduceCtorEq, Nat.reduceEqDiff, Nat.reduceAdd, Nat.reduceMul, Nat.reduceSub, Nat.reduceBEq, Nat.reduceLeDiff, Int.reduceLT, Int.reduceLE, Int.reduceGE, Int.reduceGT, Int.reduceBEq, Int.reduceBNe, Int.reduceToNat, Int.reduceNeg, Int.reduceSub, Int.reduceAdd, Int.reduceMul, rr, q5]
    simp only [vv, ff, firstRegion, apartAll, clash, meets, execOp, opnd, builtinHM, bin, convHM, fillP, fieldsPlace, solid, inOrd, sliceHM, bound, zOK, appendHM, srcCells, borL, isSl, slLen, storeHM, loadHM, look1, idxAddr, arrAddr, cellsOf, TD.agg, loadedL, loaded, borrowed, isOwn, fieldR, partHM, absorbL, absorb1, setAt, killAV, killL, leafV, getR, isNil, nilV, Array.toList, List.map, reduceIte, reduceCtorEq, Nat.reduceEqDiff, Nat.reduceAdd, Nat.reduceMul, Nat.reduceSub, Nat.reduceBEq, Nat.reduceLeDiff, Int.reduceLT, Int.reduceLE, Int.reduceGE, Int.reduceGT, Int.reduceBEq, Int.reduceBNe, Int.reduceToNat, Int.reduceNeg, Int.reduceSub, Int.reduceAdd, Int.reduceMul, finish, wkAV, resOf, resa, noSnap, noSnapL, noSnapO, keep, liveKeys, keysL, keysAV, renAV, renL, rr, q7, q8]
theorem q84 (d : Nat) (tg : Tg) (cap : Option Nat) (cs : List AV) (hk : isK .u8 cs = true) (hn : cs.length = 8) (hb : B8 (un cs)) : evFun E (d+1) 84 [.sl tg 1 8 cap cs] [] = some (.tup [vi (if num7 (un cs) = true then numB (un cs) else 0), vb (num7 (un cs))], []) := by
  have := e84 d tg cap (un cs) (by rw [un_len]; exact hn) hb
  rw [← isK_get hk] at this; exact this
theorem q76 (d : Nat) (tg tg' : Tg) (cap cap' : Option Nat) (n m : Nat) (a b : List AV) (ha : isK .u8 a = true) (hb : isK .u8 b = true) (hn : a.length = n) (hm : b.length = m) (h1 : B8 (un a)) (h2 : B8 (un b)) : evFun E (d+1) 76 [.sl tg 1 n cap a, .sl tg' 1 m cap' b] [] = some (vb (decide (un a = un b)), []) := by
  subst hn; subst hm
  refine evFun_body b76 ?_
  have e1 := bytesOf_isK ha
  have e2 := bytesOf_isK hb
  have hs := strOf_eq h1 h2
  simp only [vv, firstRegion, apartAll, clash, meets, execOp, opnd, builtinHM, bin, convHM, fillP, fieldsPlace, solid, inOrd, sliceHM, bound, zOK, appendHM, srcCells, borL, isSl, slLen, storeHM, loadHM, look1, idxAddr, arrAddr, cellsOf, TD.agg, loadedL, loaded, borrowed, isOwn, fieldR, partHM, absorbL, absorb1, setAt, killAV, killL, leafV, getR, isNil, nilV, Array.toList, List.map, reduceIte, reduceCtorEq, Nat.reduceEqDiff, Nat.reduceAdd, Nat.reduceMul, Nat.reduceSub, Nat.reduceBEq, Nat.reduceLeDiff, Int.reduceLT, Int.reduceLE, Int.reduceGE, Int.reduceGT, Int.reduceBEq, Int.reduceBNe, Int.reduceToNat, Int.reduceNeg, Int.reduceSub, Int.reduceAdd, Int.reduceMul, rr, Try.f76, cellsIn, List.take_length, e1, e2, strBin]
  simp only [vv, ff, firstRegion, apartAll, clash, meets, execOp, opnd, builtinHM, bin, convHM, fillP, fieldsPlace, solid, inOrd, sliceHM, bound, zOK, appendHM, srcCells, borL, isSl, slLen, storeHM, loadHM, look1, idxAddr, arrAddr, cellsOf, TD.agg, loadedL, loaded, borrowed, isOwn, fieldR, partHM, absorbL, absorb1, setAt, killAV, killL, leafV, getR, isNil, nilV, Array.toList, List.map, reduceIte, reduceCtorEq, Nat.reduceEqDiff, Nat.reduceAdd, Nat.reduceMul, Nat.reduceSub, Nat.reduceBEq, Nat.reduceLeDiff, Int.reduceLT, Int.reduceLE, Int.reduceGE, Int.reduceGT, Int.reduceBEq, Int.reduceBNe, Int.reduceToNat, Int.reduceNeg, Int.reduceSub, Int.reduceAdd, Int.reduceMul, finish, wkAV, resOf, resa, noSnap, noSnapL, noSnapO, keep, liveKeys, keysL, keysAV, renAV, renL, rr]
  simpa [strOf] using hs
theorem q85 (d : Nat) (tg tg' : Tg) (cap cap' : Option Nat) (n m : Nat) (a b : List AV) (ha : isK .u8 a = true) (hb : isK .u8 b = true) (hn : a.length = n) (hm : b.length = m) (h1 : B8 (un a)) (h2 : B8 (un b)) : evFun E (d+1) 85 [.sl tg 1 n cap a, .sl tg' 1 m cap' b] [] = some (vb (decide (un a = un b)), []) := by
  subst hn; subst hm
  refine evFun_body b85 ?_
  have e1 := bytesOf_isK ha
  have e2 := bytesOf_isK hb
  have hs := strOf_eq h1 h2
  simp only [vv, firstRegion, apartAll, clash, meets, execOp, opnd, builtinHM, bin, convHM, fillP, fieldsPlace, solid, inOrd, sliceHM, bound, zOK, appendHM, srcCells, borL, isSl, slLen, storeHM, loadHM, look1, idxAddr, arrAddr, cellsOf, TD.agg, loadedL, loaded, borrowed, isOwn, fieldR, partHM, absorbL, absorb1, setAt, killAV, killL, leafV, getR, isNil, nilV, Array.toList, List.map, reduceIte, reduceCtorEq, Nat.reduceEqDiff, Nat.reduceAdd, Nat.reduceMul, Nat.reduceSub, Nat.reduceBEq, Nat.reduceLeDiff, Int.reduceLT, Int.reduceLE, Int.reduceGE, Int.reduceGT, Int.reduceBEq, Int.reduceBNe, Int.reduceToNat, Int.reduceNeg, Int.reduceSub, Int.reduceAdd, Int.reduceMul, rr, Try.f85, cellsIn, List.take_length, e1, e2, strBin]
  simp only [vv, ff, firstRegion, apartAll, clash, meets, execOp, opnd, builtinHM, bin, convHM, fillP, fieldsPlace, solid, inOrd, sliceHM, bound, zOK, appendHM, srcCells, borL, isSl, slLen, storeHM, loadHM, look1, idxAddr, arrAddr, cellsOf, TD.agg, loadedL, loaded, borrowed, isOwn, fieldR, partHM, absorbL, absorb1, setAt, killAV, killL, leafV, getR, isNil, nilV, Array.toList, List.map, reduceIte, reduceCtorEq, Nat.reduceEqDiff, Nat.reduceAdd, Nat.reduceMul, Nat.reduceSub, Nat.reduceBEq, Nat.reduceLeDiff, Int.reduceLT, Int.reduceLE, Int.reduceGE, Int.reduceGT, Int.reduceBEq, Int.reduceBNe, Int.reduceToNat, Int.reduceNeg, Int.reduceSub, Int.reduceAdd, Int.reduceMul, finish, wkAV, resOf, resa, noSnap, noSnapL, noSnapO, keep, liveKeys, keysL, keysAV, renAV, renL, rr]
  simpa [strOf] using hs
theorem q47 (d : Nat) (tg : Tg) (cap : Option Nat) (n : Nat) (cs : List AV) (hk : isK .u8 cs = true) (hn : cs.length = n) (hl : n ≤ 549755813888) : evFun E (d+1) 47 [.sl tg 1 n cap cs] [] = some (.ref 0 [] 1 0 n none, [some cs]) := by
  subst hn
  refine evFun_body b47 ?_
  have e1 : cs.any isSl = false := by rw [isK_get hk]; exact anySl_iv _ _
  simp only [vv, cc, firstRegion, apartAll, clash, meets, execOp, opnd, builtinHM, bin, convHM, fillP, fieldsPlace, solid, inOrd, sliceHM, bound, zOK, appendHM, srcCells, borL, isSl, slLen, storeHM, loadHM, look1, idxAddr, arrAddr, cellsOf, TD.agg, loadedL, loaded, borrowed, isOwn, fieldR, partHM, absorbL, absorb1, setAt, killAV, killL, leafV, getR, isNil, nilV, Array.toList, List.map, reduceIte, reduceCtorEq, Nat.reduceEqDiff, Nat.reduceAdd, Nat.reduceMul, Nat.reduceSub, Nat.reduceBEq, Nat.reduceLeDiff, Int.reduceLT, Int.reduceLE, Int.reduceGE, Int.reduceGT, Int.reduceBEq, Int.reduceBNe, Int.reduceToNat, Int.reduceNeg, Int.reduceSub, Int.reduceAdd, Int.reduceMul, callHM, packA, packL, pack1, lentOk, getLent, putBack, backK, renAV, renL, rr, Try.f47, e1, limN hl]
  have e2 : noSnapL cs = true := by rw [isK_get hk]; exact noSnapL_iv _ _
  simp only [vv, ff, firstRegion, apartAll, clash, meets, execOp, opnd, builtinHM, bin, convHM, fillP, fieldsPlace, solid, inOrd, sliceHM, bound, zOK, appendHM, srcCells, borL, isSl, slLen, storeHM, loadHM, look1, idxAddr, arrAddr, cellsOf, TD.agg, loadedL, loaded, borrowed, isOwn, fieldR, partHM, absorbL, absorb1, setAt, killAV, killL, leafV, getR, isNil, nilV, Array.toList, List.map, reduceIte, reduceCtorEq, Nat.reduceEqDiff, Nat.reduceAdd, Nat.reduceMul, Nat.reduceSub, Nat.reduceBEq, Nat.reduceLeDiff, Int.reduceLT, Int.reduceLE, Int.reduceGE, Int.reduceGT, Int.reduceBEq, Int.reduceBNe, Int.reduceToNat, Int.reduceNeg, Int.reduceSub, Int.reduceAdd, Int.reduceMul, finish, wkAV, resOf, resa, noSnap, noSnapL, noSnapO, keep, liveKeys, keysL, keysAV, renAV, renL, rr, e2]
end Go.Proofs.Ytjkkndgbhcmphaa.VH.S
end

section
namespace Go.Proofs.Ytjkkndgbhcmphaa.VH.S
open Go.Proofs
set_option maxRecDepth 100000
set_option maxHeartbeats 4000000
set_option linter.unusedSimpArgs false

def cOf (l : List Int) : Int := numB (l.take 8)
def rOf (l : List Int) : Int := numB ((l.drop 8).take 8)
def inS (l : List Int) : Bool := decide (cOf l ≤ 1000000) && decide (rOf l ≤ 1152921504606846975)
def rdOK (l : List Int) : Bool := inS l && decide (slotL (cOf l) (rOf l) = l)
theorem cOf_nn {l : List Int} (h : B8 l) : 0 ≤ cOf l := numB_nn (h.take 8)
theorem rOf_nn {l : List Int} (h : B8 l) : 0 ≤ rOf l := numB_nn ((h.drop 8).take 8)
theorem c_lt {l : List Int} (h : B8 l) : cOf l < 18446744073709551616 := numB_take_lt h 8
theorem r_lt {l : List Int} (h : B8 l) : rOf l < 18446744073709551616 := numB_take_lt (h.drop 8) 8
theorem e55 (d : Nat) (tg : Tg) (cap : Option Nat) (cs : List AV) (hk : isK .u8 cs = true) (hn : cs.length = 20) (hb : B8 (un cs)) : evFun E (d+8) 55 [.sl tg 1 20 cap cs] [] = some (.tup [vi (if inS (un cs) = true then cOf (un cs) else 0), vi (if inS (un cs) = true then rOf (un cs) else 0), vb (rdOK (un cs))], []) := by
  refine evFun_body b55 ?_
  have hC : numB ((un cs).take 8) = cOf (un cs) := rfl
  have hR : numB (((un cs).drop 8).take 8) = rOf (un cs) := rfl
  simp (maxDischargeDepth := 8) only [vv, cc, bb, firstRegion, apartAll, clash, meets, execOp, opnd, builtinHM, bin, convHM, fillP, fieldsPlace, solid, inOrd, sliceHM, bound, zOK, appendHM, srcCells, borL, isSl, slLen, storeHM, loadHM, look1, idxAddr, arrAddr, cellsOf, TD.agg, loadedL, loaded, borrowed, isOwn, fieldR, partHM, absorbL, absorb1, setAt, killAV, killL, leafV, getR, isNil, nilV, Array.toList, List.map, reduceIte, reduceCtorEq, Nat.reduceEqDiff, Nat.reduceAdd, Nat.reduceMul, Nat.reduceSub, Nat.reduceBEq, Nat.reduceLeDiff, Int.reduceLT, Int.reduceLE, Int.reduceGE, Int.reduceGT, Int.reduceBEq, Int.reduceBNe, Int.reduceToNat, Int.reduceNeg, Int.reduceSub, Int.reduceAdd, Int.reduceMul, callHM, packA, packL, pack1, lentOk, getLent, putBack, backK, renAV, renL, rr, Try.f55, hk, hn, hb, q75, hC, hR]
  repeat' ((with_reducible refine condT ?_ ?_); (focus kernel_rfl); try simp (maxDischargeDepth := 8) only [vv, cc, bb, firstRegion, apartAll, clash, meets, execOp, opnd, builtinHM, bin, convHM, fillP, fieldsPlace, solid, inOrd, sliceHM, bound, zOK, appendHM, srcCells, borL, isSl, slLen, storeHM, loadHM, look1, idxAddr, arrAddr, cellsOf, TD.agg, loadedL, loaded, borrowed, isOwn, fieldR, partHM, absorbL, absorb1, setAt, killAV, killL, leafV, getR, isNil, nilV, Array.toList, List.map, reduceIte, reduceCtorEq, Nat.reduceEqDiff, Nat.reduceAdd, Nat.reduceMul, Nat.reduceSub, Nat.reduceBEq, Nat.reduceLeDiff, Int.reduceLT, Int.reduceLE, Int.reduceGE, Int.reduceGT, Int.reduceBEq, Int.reduceBNe, Int.reduceToNat, Int.reduceNeg, Int.reduceSub, Int.reduceAdd, Int.reduceMul, callHM, packA, packL, pack1, lentOk, getLent, putBack, backK, renAV, renL, rr, hk, hn, hb, q75, hC, hR])
  have c0 := cOf_nn hb
  have r0 := rOf_nn hb
  by_cases h1 : cOf (un cs) ≤ 1000000
  · by_cases h2 : rOf (un cs) ≤ 1152921504606846975
    · have hs : inS (un cs) = true := by simp [inS, h1, h2]
      have g1 : decide (cOf (un cs) > 1000000) = false := by simp; omega
      have g2 : decide (rOf (un cs) ≥ 1152921504606846976) = false := by simp; omega
      have ho : okS (cOf (un cs)) (rOf (un cs)) = true := by simp [okS, c0, r0, h1, h2]
      have w1 : IntKind.i64.wrap (cOf (un cs)) = cOf (un cs) := wrap64 (by omega) (by omega)
      have w2 : IntKind.i64.wrap (rOf (un cs)) = rOf (un cs) := wrap64 (by omega) (by omega)
      simp (maxDischargeDepth := 8) only [vv, cc, bb, firstRegion, apartAll, clash, meets, execOp, opnd, builtinHM, bin, convHM, fillP, fieldsPlace, solid, inOrd, sliceHM, bound, zOK, appendHM, srcCells, borL, isSl, slLen, storeHM, loadHM, look1, idxAddr, arrAddr, cellsOf, TD.agg, loadedL, loaded, borrowed, isOwn, fieldR, partHM, absorbL, absorb1, setAt, killAV, killL, leafV, getR, isNil, nilV, Array.toList, List.map, reduceIte, reduceCtorEq, Nat.reduceEqDiff, Nat.reduceAdd, Nat.reduceMul, Nat.reduceSub, Nat.reduceBEq, Nat.reduceLeDiff, Int.reduceLT, Int.reduceLE, Int.reduceGE, Int.reduceGT, Int.reduceBEq, Int.reduceBNe, Int.reduceToNat, Int.reduceNeg, Int.reduceSub, Int.reduceAdd, Int.reduceMul, callHM, packA, packL, pack1, lentOk, getLent, putBack, backK, renAV, renL, rr, g1, g2, w1, w2, e28 _ _ _ ho, slot_len, q76, hk, hn, hb]
      simp only [vv, ff, firstRegion, apartAll, clash, meets, execOp, opnd, builtinHM, bin, convHM, fillP, fieldsPlace, solid, inOrd, sliceHM, bound, zOK, appendHM, srcCells, borL, isSl, slLen, storeHM, loadHM, look1, idxAddr, arrAddr, cellsOf, TD.agg, loadedL, loaded, borrowed, isOwn, fieldR, partHM, absorbL, absorb1, setAt, killAV, killL, leafV, getR, isNil, nilV, Array.toList, List.map, reduceIte, reduceCtorEq, Nat.reduceEqDiff, Nat.reduceAdd, Nat.reduceMul, Nat.reduceSub, Nat.reduceBEq, Nat.reduceLeDiff, Int.reduceLT, Int.reduceLE, Int.reduceGE, Int.reduceGT, Int.reduceBEq, Int.reduceBNe, Int.reduceToNat, Int.reduceNeg, Int.reduceSub, Int.reduceAdd, Int.reduceMul, finish, wkAV, resOf, resa, noSnap, noSnapL, noSnapO, keep, liveKeys, keysL, keysAV, renAV, renL, rr, hs, rdOK]
    · have hs : inS (un cs) = false := by simp [inS, h2]
      have g1 : decide (cOf (un cs) > 1000000) = false := by simp; omega
      have g2 : decide (rOf (un cs) ≥ 1152921504606846976) = true := by simp; omega
      simp (maxDischargeDepth := 8) only [vv, cc, bb, firstRegion, apartAll, clash, meets, execOp, opnd, builtinHM, bin, convHM, fillP, fieldsPlace, solid, inOrd, sliceHM, bound, zOK, appendHM, srcCells, borL, isSl, slLen, storeHM, loadHM, look1, idxAddr, arrAddr, cellsOf, TD.agg, loadedL, loaded, borrowed, isOwn, fieldR, partHM, absorbL, absorb1, setAt, killAV, killL, leafV, getR, isNil, nilV, Array.toList, List.map, reduceIte, reduceCtorEq, Nat.reduceEqDiff, Nat.reduceAdd, Nat.reduceMul, Nat.reduceSub, Nat.reduceBEq, Nat.reduceLeDiff, Int.reduceLT, Int.reduceLE, Int.reduceGE, Int.reduceGT, Int.reduceBEq, Int.reduceBNe, Int.reduceToNat, Int.reduceNeg, Int.reduceSub, Int.reduceAdd, Int.reduceMul, callHM, packA, packL, pack1, lentOk, getLent, putBack, backK, renAV, renL, rr, g1, g2]
      simp only [vv, ff, firstRegion, apartAll, clash, meets, execOp, opnd, builtinHM, bin, convHM, fillP, fieldsPlace, solid, inOrd, sliceHM, bound, zOK, appendHM, srcCells, borL, isSl, slLen, storeHM, loadHM, look1, idxAddr, arrAddr, cellsOf, TD.agg, loadedL, loaded, borrowed, isOwn, fieldR, partHM, absorbL, absorb1, setAt, killAV, killL, leafV, getR, isNil, nilV, Array.toList, List.map, reduceIte, reduceCtorEq, Nat.reduceEqDiff, Nat.reduceAdd, Nat.reduceMul, Nat.reduceSub, Nat.reduceBEq, Nat.reduceLeDiff, Int.reduceLT, Int.reduceLE, Int.reduceGE, Int.reduceGT, Int.reduceBEq, Int.reduceBNe, Int.reduceToNat, Int.reduceNeg, Int.reduceSub, Int.reduceAdd, Int.reduceMul, finish, wkAV, resOf, resa, noSnap, noSnapL, noSnapO, keep, liveKeys, keysL, keysAV, renAV, renL, rr, hs, rdOK]
  · have hs : inS (un cs) = false := by simp [inS, h1]
    have g1 : decide (cOf (un cs) > 1000000) = true := by simp; omega
    simp (maxDischargeDepth := 8) only [vv, cc, bb, firstRegion, apartAll, clash, meets, execOp, opnd, builtinHM, bin, convHM, fillP, fieldsPlace, solid, inOrd, sliceHM, bound, zOK, appendHM, srcCells, borL, isSl, slLen, storeHM, loadHM, look1, idxAddr, arrAddr, cellsOf, TD.agg, loadedL, loaded, borrowed, isOwn, fieldR, partHM, absorbL, absorb1, setAt, killAV, killL, leafV, getR, isNil, nilV, Array.toList, List.map, reduceIte, reduceCtorEq, Nat.reduceEqDiff, Nat.reduceAdd, Nat.reduceMul, Nat.reduceSub, Nat.reduceBEq, Nat.reduceLeDiff, Int.reduceLT, Int.reduceLE, Int.reduceGE, Int.reduceGT, Int.reduceBEq, Int.reduceBNe, Int.reduceToNat, Int.reduceNeg, Int.reduceSub, Int.reduceAdd, Int.reduceMul, callHM, packA, packL, pack1, lentOk, getLent, putBack, backK, renAV, renL, rr, g1]
    simp only [vv, ff, firstRegion, apartAll, clash, meets, execOp, opnd, builtinHM, bin, convHM, fillP, fieldsPlace, solid, inOrd, sliceHM, bound, zOK, appendHM, srcCells, borL, isSl, slLen, storeHM, loadHM, look1, idxAddr, arrAddr, cellsOf, TD.agg, loadedL, loaded, borrowed, isOwn, fieldR, partHM, absorbL, absorb1, setAt, killAV, killL, leafV, getR, isNil, nilV, Array.toList, List.map, reduceIte, reduceCtorEq, Nat.reduceEqDiff, Nat.reduceAdd, Nat.reduceMul, Nat.reduceSub, Nat.reduceBEq, Nat.reduceLeDiff, Int.reduceLT, Int.reduceLE, Int.reduceGE, Int.reduceGT, Int.reduceBEq, Int.reduceBNe, Int.reduceToNat, Int.reduceNeg, Int.reduceSub, Int.reduceAdd, Int.reduceMul, finish, wkAV, resOf, resa, noSnap, noSnapL, noSnapO, keep, liveKeys, keysL, keysAV, renAV, renL, rr, hs, rdOK]
def ok2 (l : List Int) : Bool := num7 (l.take 8) && num7 ((l.drop 8).take 8)
theorem num7_of {l : List Int} (h : B8 l) (hl : l.length = 8) (hn : numB l < 4611686018427387904) : num7 l = true := by
  have e : l.take 8 = l := by rw [← hl, List.take_length]
  have := numB_take (l := l) (i := 7) (by omega)
  rw [e] at this
  have h7 := h l[7] (List.getElem_mem _)
  simp only [num7, decide_eq_true_eq]; omega
theorem ok2_of {l : List Int} (h : B8 l) (hl : l.length = 20) (ho : rdOK l = true) : ok2 l = true := by
  simp only [rdOK, inS, Bool.and_eq_true, decide_eq_true_eq] at ho
  obtain ⟨⟨h1, h2⟩, _⟩ := ho
  unfold cOf at h1
  unfold rOf at h2
  have e1 := num7_of (h.take 8) (by rw [List.length_take, hl]; rfl) (by omega)
  have e2 := num7_of ((h.drop 8).take 8) (by rw [List.length_take, List.length_drop, hl]; rfl) (by omega)
  rw [ok2, e1, e2]; rfl
theorem e73 (d : Nat) (tg : Tg) (cap : Option Nat) (cs : List AV) (hk : isK .u8 cs = true) (hn : cs.length = 20) (hb : B8 (un cs)) : evFun E (d+8) 73 [.sl tg 1 20 cap cs] [] = some (.tup [vi (if ok2 (un cs) = true then cOf (un cs) else 0), vi (if ok2 (un cs) = true then rOf (un cs) else 0), vb (rdOK (un cs))], []) := by
  refine evFun_body b73 ?_
  have hC : numB ((un cs).take 8) = cOf (un cs) := rfl
  have hR : numB (((un cs).drop 8).take 8) = rOf (un cs) := rfl
  have c0 := cOf_nn hb
  have r0 := rOf_nn hb
  have l1 : ((un cs).take 8).length = 8 := by rw [List.length_take, un_len, hn]; rfl
  have l2 : (((un cs).drop 8).take 8).length = 8 := by rw [List.length_take, List.length_drop, un_len, hn]; rfl
  cases h1 : num7 ((un cs).take 8) with
  | false =>
    have hin : rdOK (un cs) = false := by
      cases hr : inS (un cs) with
      | false => simp [rdOK, hr]
      | true =>
        simp only [inS, Bool.and_eq_true, decide_eq_true_eq] at hr
        have := num7_of (hb.take 8) l1 (by rw [hC]; omega)
        rw [h1] at this; simp at this
    have ho2 : ok2 (un cs) = false := by simp [ok2, h1]
    rw [hin, ho2]
    simp (maxDischargeDepth := 8) only [vv, cc, bb, firstRegion, apartAll, clash, meets, execOp, opnd, builtinHM, bin, convHM, fillP, fieldsPlace, solid, inOrd, sliceHM, bound, zOK, appendHM, srcCells, borL, isSl, slLen, storeHM, loadHM, look1, idxAddr, arrAddr, cellsOf, TD.agg, loadedL, loaded, borrowed, isOwn, fieldR, partHM, absorbL, absorb1, setAt, killAV, killL, leafV, getR, isNil, nilV, Array.toList, List.map, reduceIte, reduceCtorEq, Nat.reduceEqDiff, Nat.reduceAdd, Nat.reduceMul, Nat.reduceSub, Nat.reduceBEq, Nat.reduceLeDiff, Int.reduceLT, Int.reduceLE, Int.reduceGE, Int.reduceGT, Int.reduceBEq, Int.reduceBNe, Int.reduceToNat, Int.reduceNeg, Int.reduceSub, Int.reduceAdd, Int.reduceMul, callHM, packA, packL, pack1, lentOk, getLent, putBack, backK, renAV, renL, rr, Try.f73, hk, hn, hb, q84, h1]
    simp only [vv, ff, firstRegion, apartAll, clash, meets, execOp, opnd, builtinHM, bin, convHM, fillP, fieldsPlace, solid, inOrd, sliceHM, bound, zOK, appendHM, srcCells, borL, isSl, slLen, storeHM, loadHM, look1, idxAddr, arrAddr, cellsOf, TD.agg, loadedL, loaded, borrowed, isOwn, fieldR, partHM, absorbL, absorb1, setAt, killAV, killL, leafV, getR, isNil, nilV, Array.toList, List.map, reduceIte, reduceCtorEq, Nat.reduceEqDiff, Nat.reduceAdd, Nat.reduceMul, Nat.reduceSub, Nat.reduceBEq, Nat.reduceLeDiff, Int.reduceLT, Int.reduceLE, Int.reduceGE, Int.reduceGT, Int.reduceBEq, Int.reduceBNe, Int.reduceToNat, Int.reduceNeg, Int.reduceSub, Int.reduceAdd, Int.reduceMul, finish, wkAV, resOf, resa, noSnap, noSnapL, noSnapO, keep, liveKeys, keysL, keysAV, renAV, renL, rr]
  | true =>
    cases h2 : num7 (((un cs).drop 8).take 8) with
    | false =>
      have hin : rdOK (un cs) = false := by
        cases hr : inS (un cs) with
        | false => simp [rdOK, hr]
        | true =>
          simp only [inS, Bool.and_eq_true, decide_eq_true_eq] at hr
          have := num7_of ((hb.drop 8).take 8) l2 (by rw [hR]; omega)
          rw [h2] at this; simp at this
      have ho2 : ok2 (un cs) = false := by simp [ok2, h1, h2]
      rw [hin, ho2]
      simp (maxDischargeDepth := 8) only [vv, cc, bb, firstRegion, apartAll, clash, meets, execOp, opnd, builtinHM, bin, convHM, fillP, fieldsPlace, solid, inOrd, sliceHM, bound, zOK, appendHM, srcCells, borL, isSl, slLen, storeHM, loadHM, look1, idxAddr, arrAddr, cellsOf, TD.agg, loadedL, loaded, borrowed, isOwn, fieldR, partHM, absorbL, absorb1, setAt, killAV, killL, leafV, getR, isNil, nilV, Array.toList, List.map, reduceIte, reduceCtorEq, Nat.reduceEqDiff, Nat.reduceAdd, Nat.reduceMul, Nat.reduceSub, Nat.reduceBEq, Nat.reduceLeDiff, Int.reduceLT, Int.reduceLE, Int.reduceGE, Int.reduceGT, Int.reduceBEq, Int.reduceBNe, Int.reduceToNat, Int.reduceNeg, Int.reduceSub, Int.reduceAdd, Int.reduceMul, callHM, packA, packL, pack1, lentOk, getLent, putBack, backK, renAV, renL, rr, Try.f73, hk, hn, hb, q84, h1, h2]
      simp only [vv, ff, firstRegion, apartAll, clash, meets, execOp, opnd, builtinHM, bin, convHM, fillP, fieldsPlace, solid, inOrd, sliceHM, bound, zOK, appendHM, srcCells, borL, isSl, slLen, storeHM, loadHM, look1, idxAddr, arrAddr, cellsOf, TD.agg, loadedL, loaded, borrowed, isOwn, fieldR, partHM, absorbL, absorb1, setAt, killAV, killL, leafV, getR, isNil, nilV, Array.toList, List.map, reduceIte, reduceCtorEq, Nat.reduceEqDiff, Nat.reduceAdd, Nat.reduceMul, Nat.reduceSub, Nat.reduceBEq, Nat.reduceLeDiff, Int.reduceLT, Int.reduceLE, Int.reduceGE, Int.reduceGT, Int.reduceBEq, Int.reduceBNe, Int.reduceToNat, Int.reduceNeg, Int.reduceSub, Int.reduceAdd, Int.reduceMul, finish, wkAV, resOf, resa, noSnap, noSnapL, noSnapO, keep, liveKeys, keysL, keysAV, renAV, renL, rr]
    | true =>
      have ho2 : ok2 (un cs) = true := by simp [ok2, h1, h2]
      rw [ho2]
      cases h3 : inS (un cs) with
      | true =>
        have hs := h3
        simp only [inS, Bool.and_eq_true, decide_eq_true_eq] at hs
        have ho : okS (cOf (un cs)) (rOf (un cs)) = true := by simp [okS, c0, r0, hs.1, hs.2]
        simp (maxDischargeDepth := 8) only [vv, cc, bb, firstRegion, apartAll, clash, meets, execOp, opnd, builtinHM, bin, convHM, fillP, fieldsPlace, solid, inOrd, sliceHM, bound, zOK, appendHM, srcCells, borL, isSl, slLen, storeHM, loadHM, look1, idxAddr, arrAddr, cellsOf, TD.agg, loadedL, loaded, borrowed, isOwn, fieldR, partHM, absorbL, absorb1, setAt, killAV, killL, leafV, getR, isNil, nilV, Array.toList, List.map, reduceIte, reduceCtorEq, Nat.reduceEqDiff, Nat.reduceAdd, Nat.reduceMul, Nat.reduceSub, Nat.reduceBEq, Nat.reduceLeDiff, Int.reduceLT, Int.reduceLE, Int.reduceGE, Int.reduceGT, Int.reduceBEq, Int.reduceBNe, Int.reduceToNat, Int.reduceNeg, Int.reduceSub, Int.reduceAdd, Int.reduceMul, callHM, packA, packL, pack1, lentOk, getLent, putBack, backK, renAV, renL, rr, Try.f73, hk, hn, hb, q84, h1, h2, hC, hR, e48 _ _ _ ho, slot_len, q85]
        simp only [vv, ff, firstRegion, apartAll, clash, meets, execOp, opnd, builtinHM, bin, convHM, fillP, fieldsPlace, solid, inOrd, sliceHM, bound, zOK, appendHM, srcCells, borL, isSl, slLen, storeHM, loadHM, look1, idxAddr, arrAddr, cellsOf, TD.agg, loadedL, loaded, borrowed, isOwn, fieldR, partHM, absorbL, absorb1, setAt, killAV, killL, leafV, getR, isNil, nilV, Array.toList, List.map, reduceIte, reduceCtorEq, Nat.reduceEqDiff, Nat.reduceAdd, Nat.reduceMul, Nat.reduceSub, Nat.reduceBEq, Nat.reduceLeDiff, Int.reduceLT, Int.reduceLE, Int.reduceGE, Int.reduceGT, Int.reduceBEq, Int.reduceBNe, Int.reduceToNat, Int.reduceNeg, Int.reduceSub, Int.reduceAdd, Int.reduceMul, finish, wkAV, resOf, resa, noSnap, noSnapL, noSnapO, keep, liveKeys, keysL, keysAV, renAV, renL, rr, rdOK, h3]
      | false =>
        have ho : okS (cOf (un cs)) (rOf (un cs)) = false := by
          simp only [inS] at h3
          simp [okS, c0, r0]
          simp at h3
          exact h3
        simp (maxDischargeDepth := 8) only [vv, cc, bb, firstRegion, apartAll, clash, meets, execOp, opnd, builtinHM, bin, convHM, fillP, fieldsPlace, solid, inOrd, sliceHM, bound, zOK, appendHM, srcCells, borL, isSl, slLen, storeHM, loadHM, look1, idxAddr, arrAddr, cellsOf, TD.agg, loadedL, loaded, borrowed, isOwn, fieldR, partHM, absorbL, absorb1, setAt, killAV, killL, leafV, getR, isNil, nilV, Array.toList, List.map, reduceIte, reduceCtorEq, Nat.reduceEqDiff, Nat.reduceAdd, Nat.reduceMul, Nat.reduceSub, Nat.reduceBEq, Nat.reduceLeDiff, Int.reduceLT, Int.reduceLE, Int.reduceGE, Int.reduceGT, Int.reduceBEq, Int.reduceBNe, Int.reduceToNat, Int.reduceNeg, Int.reduceSub, Int.reduceAdd, Int.reduceMul, callHM, packA, packL, pack1, lentOk, getLent, putBack, backK, renAV, renL, rr, Try.f73, hk, hn, hb, q84, h1, h2, hC, hR, e48n _ _ _ ho]
        simp only [vv, ff, firstRegion, apartAll, clash, meets, execOp, opnd, builtinHM, bin, convHM, fillP, fieldsPlace, solid, inOrd, sliceHM, bound, zOK, appendHM, srcCells, borL, isSl, slLen, storeHM, loadHM, look1, idxAddr, arrAddr, cellsOf, TD.agg, loadedL, loaded, borrowed, isOwn, fieldR, partHM, absorbL, absorb1, setAt, killAV, killL, leafV, getR, isNil, nilV, Array.toList, List.map, reduceIte, reduceCtorEq, Nat.reduceEqDiff, Nat.reduceAdd, Nat.reduceMul, Nat.reduceSub, Nat.reduceBEq, Nat.reduceLeDiff, Int.reduceLT, Int.reduceLE, Int.reduceGE, Int.reduceGT, Int.reduceBEq, Int.reduceBNe, Int.reduceToNat, Int.reduceNeg, Int.reduceSub, Int.reduceAdd, Int.reduceMul, finish, wkAV, resOf, resa, noSnap, noSnapL, noSnapO, keep, liveKeys, keysL, keysAV, renAV, renL, rr, rdOK, h3]
end Go.Proofs.Ytjkkndgbhcmphaa.VH.S
end

section
namespace Go.Proofs.Ytjkkndgbhcmphaa.VH.S
open Go.Proofs
set_option maxRecDepth 100000
set_option maxHeartbeats 4000000
set_option linter.unusedSimpArgs false

def rdV (l : List Int) : Int × Int × Int :=
  if l.length = 40 then
    if rdOK (l.take 20) = true ∧ (rdOK (l.drop 20) = false ∨ cOf (l.take 20) ≥ cOf (l.drop 20)) then (cOf (l.take 20), rOf (l.take 20), 0)
    else if rdOK (l.drop 20) = true then (cOf (l.drop 20), rOf (l.drop 20), 1) else (0, 0, -1)
  else (0, 0, -1)
theorem inS_of {l : List Int} (h : rdOK l = true) : inS l = true := by simp only [rdOK, Bool.and_eq_true] at h; exact h.1
theorem e49 (d : Nat) (tg : Tg) (cap : Option Nat) (n : Nat) (cs : List AV) (hk : isK .u8 cs = true) (hn : cs.length = n) (hb : B8 (un cs)) : evFun E (d+9) 49 [.sl tg 1 n cap cs] [] = some (.tup [vi (rdV (un cs)).1, vi (rdV (un cs)).2.1, vi (rdV (un cs)).2.2], []) := by
  refine evFun_body b49 ?_
  by_cases h40 : n = 40
  · subst h40
    have hl : (un cs).length = 40 := by rw [un_len]; exact hn
    have o1 := ok2_of (hb.take 20) (by simp [hl])
    have o2 := ok2_of (hb.drop 20) (by simp [hl])
    simp only [rdV, hl, if_true]
    cases ha : rdOK ((un cs).take 20) <;> cases hbb : rdOK ((un cs).drop 20)
    · simp (maxDischargeDepth := 8) only [vv, cc, bb, firstRegion, apartAll, clash, meets, execOp, opnd, builtinHM, bin, convHM, fillP, fieldsPlace, solid, inOrd, sliceHM, bound, zOK, appendHM, srcCells, borL, isSl, slLen, storeHM, loadHM, look1, idxAddr, arrAddr, cellsOf, TD.agg, loadedL, loaded, borrowed, isOwn, fieldR, partHM, absorbL, absorb1, setAt, killAV, killL, leafV, getR, isNil, nilV, Array.toList, List.map, reduceIte, reduceCtorEq, Nat.reduceEqDiff, Nat.reduceAdd, Nat.reduceMul, Nat.reduceSub, Nat.reduceBEq, Nat.reduceLeDiff, Int.reduceLT, Int.reduceLE, Int.reduceGE, Int.reduceGT, Int.reduceBEq, Int.reduceBNe, Int.reduceToNat, Int.reduceNeg, Int.reduceSub, Int.reduceAdd, Int.reduceMul, callHM, packA, packL, pack1, lentOk, getLent, putBack, backK, renAV, renL, rr, Try.f49, hk, hn, hb, e73, ha, hbb]
      simp only [vv, ff, firstRegion, apartAll, clash, meets, execOp, opnd, builtinHM, bin, convHM, fillP, fieldsPlace, solid, inOrd, sliceHM, bound, zOK, appendHM, srcCells, borL, isSl, slLen, storeHM, loadHM, look1, idxAddr, arrAddr, cellsOf, TD.agg, loadedL, loaded, borrowed, isOwn, fieldR, partHM, absorbL, absorb1, setAt, killAV, killL, leafV, getR, isNil, nilV, Array.toList, List.map, reduceIte, reduceCtorEq, Nat.reduceEqDiff, Nat.reduceAdd, Nat.reduceMul, Nat.reduceSub, Nat.reduceBEq, Nat.reduceLeDiff, Int.reduceLT, Int.reduceLE, Int.reduceGE, Int.reduceGT, Int.reduceBEq, Int.reduceBNe, Int.reduceToNat, Int.reduceNeg, Int.reduceSub, Int.reduceAdd, Int.reduceMul, finish, wkAV, resOf, resa, noSnap, noSnapL, noSnapO, keep, liveKeys, keysL, keysAV, renAV, renL, rr]
      simp
    · have o2 := o2 hbb
      simp (maxDischargeDepth := 8) only [vv, cc, bb, firstRegion, apartAll, clash, meets, execOp, opnd, builtinHM, bin, convHM, fillP, fieldsPlace, solid, inOrd, sliceHM, bound, zOK, appendHM, srcCells, borL, isSl, slLen, storeHM, loadHM, look1, idxAddr, arrAddr, cellsOf, TD.agg, loadedL, loaded, borrowed, isOwn, fieldR, partHM, absorbL, absorb1, setAt, killAV, killL, leafV, getR, isNil, nilV, Array.toList, List.map, reduceIte, reduceCtorEq, Nat.reduceEqDiff, Nat.reduceAdd, Nat.reduceMul, Nat.reduceSub, Nat.reduceBEq, Nat.reduceLeDiff, Int.reduceLT, Int.reduceLE, Int.reduceGE, Int.reduceGT, Int.reduceBEq, Int.reduceBNe, Int.reduceToNat, Int.reduceNeg, Int.reduceSub, Int.reduceAdd, Int.reduceMul, callHM, packA, packL, pack1, lentOk, getLent, putBack, backK, renAV, renL, rr, Try.f49, hk, hn, hb, e73, ha, hbb, o2]
      simp only [vv, ff, firstRegion, apartAll, clash, meets, execOp, opnd, builtinHM, bin, convHM, fillP, fieldsPlace, solid, inOrd, sliceHM, bound, zOK, appendHM, srcCells, borL, isSl, slLen, storeHM, loadHM, look1, idxAddr, arrAddr, cellsOf, TD.agg, loadedL, loaded, borrowed, isOwn, fieldR, partHM, absorbL, absorb1, setAt, killAV, killL, leafV, getR, isNil, nilV, Array.toList, List.map, reduceIte, reduceCtorEq, Nat.reduceEqDiff, Nat.reduceAdd, Nat.reduceMul, Nat.reduceSub, Nat.reduceBEq, Nat.reduceLeDiff, Int.reduceLT, Int.reduceLE, Int.reduceGE, Int.reduceGT, Int.reduceBEq, Int.reduceBNe, Int.reduceToNat, Int.reduceNeg, Int.reduceSub, Int.reduceAdd, Int.reduceMul, finish, wkAV, resOf, resa, noSnap, noSnapL, noSnapO, keep, liveKeys, keysL, keysAV, renAV, renL, rr]
      simp
    · have o1 := o1 ha
      simp (maxDischargeDepth := 8) only [vv, cc, bb, firstRegion, apartAll, clash, meets, execOp, opnd, builtinHM, bin, convHM, fillP, fieldsPlace, solid, inOrd, sliceHM, bound, zOK, appendHM, srcCells, borL, isSl, slLen, storeHM, loadHM, look1, idxAddr, arrAddr, cellsOf, TD.agg, loadedL, loaded, borrowed, isOwn, fieldR, partHM, absorbL, absorb1, setAt, killAV, killL, leafV, getR, isNil, nilV, Array.toList, List.map, reduceIte, reduceCtorEq, Nat.reduceEqDiff, Nat.reduceAdd, Nat.reduceMul, Nat.reduceSub, Nat.reduceBEq, Nat.reduceLeDiff, Int.reduceLT, Int.reduceLE, Int.reduceGE, Int.reduceGT, Int.reduceBEq, Int.reduceBNe, Int.reduceToNat, Int.reduceNeg, Int.reduceSub, Int.reduceAdd, Int.reduceMul, callHM, packA, packL, pack1, lentOk, getLent, putBack, backK, renAV, renL, rr, Try.f49, hk, hn, hb, e73, ha, hbb, o1]
      simp only [vv, ff, firstRegion, apartAll, clash, meets, execOp, opnd, builtinHM, bin, convHM, fillP, fieldsPlace, solid, inOrd, sliceHM, bound, zOK, appendHM, srcCells, borL, isSl, slLen, storeHM, loadHM, look1, idxAddr, arrAddr, cellsOf, TD.agg, loadedL, loaded, borrowed, isOwn, fieldR, partHM, absorbL, absorb1, setAt, killAV, killL, leafV, getR, isNil, nilV, Array.toList, List.map, reduceIte, reduceCtorEq, Nat.reduceEqDiff, Nat.reduceAdd, Nat.reduceMul, Nat.reduceSub, Nat.reduceBEq, Nat.reduceLeDiff, Int.reduceLT, Int.reduceLE, Int.reduceGE, Int.reduceGT, Int.reduceBEq, Int.reduceBNe, Int.reduceToNat, Int.reduceNeg, Int.reduceSub, Int.reduceAdd, Int.reduceMul, finish, wkAV, resOf, resa, noSnap, noSnapL, noSnapO, keep, liveKeys, keysL, keysAV, renAV, renL, rr]
      simp
    · have o2 := o2 hbb
      have o1 := o1 ha
      by_cases hc : cOf ((un cs).take 20) ≥ cOf ((un cs).drop 20)
      · have hd := decide_eq_true hc
        simp (maxDischargeDepth := 8) only [vv, cc, bb, firstRegion, apartAll, clash, meets, execOp, opnd, builtinHM, bin, convHM, fillP, fieldsPlace, solid, inOrd, sliceHM, bound, zOK, appendHM, srcCells, borL, isSl, slLen, storeHM, loadHM, look1, idxAddr, arrAddr, cellsOf, TD.agg, loadedL, loaded, borrowed, isOwn, fieldR, partHM, absorbL, absorb1, setAt, killAV, killL, leafV, getR, isNil, nilV, Array.toList, List.map, reduceIte, reduceCtorEq, Nat.reduceEqDiff, Nat.reduceAdd, Nat.reduceMul, Nat.reduceSub, Nat.reduceBEq, Nat.reduceLeDiff, Int.reduceLT, Int.reduceLE, Int.reduceGE, Int.reduceGT, Int.reduceBEq, Int.reduceBNe, Int.reduceToNat, Int.reduceNeg, Int.reduceSub, Int.reduceAdd, Int.reduceMul, callHM, packA, packL, pack1, lentOk, getLent, putBack, backK, renAV, renL, rr, Try.f49, hk, hn, hb, e73, ha, hbb, o1, o2, hd]
        simp only [vv, ff, firstRegion, apartAll, clash, meets, execOp, opnd, builtinHM, bin, convHM, fillP, fieldsPlace, solid, inOrd, sliceHM, bound, zOK, appendHM, srcCells, borL, isSl, slLen, storeHM, loadHM, look1, idxAddr, arrAddr, cellsOf, TD.agg, loadedL, loaded, borrowed, isOwn, fieldR, partHM, absorbL, absorb1, setAt, killAV, killL, leafV, getR, isNil, nilV, Array.toList, List.map, reduceIte, reduceCtorEq, Nat.reduceEqDiff, Nat.reduceAdd, Nat.reduceMul, Nat.reduceSub, Nat.reduceBEq, Nat.reduceLeDiff, Int.reduceLT, Int.reduceLE, Int.reduceGE, Int.reduceGT, Int.reduceBEq, Int.reduceBNe, Int.reduceToNat, Int.reduceNeg, Int.reduceSub, Int.reduceAdd, Int.reduceMul, finish, wkAV, resOf, resa, noSnap, noSnapL, noSnapO, keep, liveKeys, keysL, keysAV, renAV, renL, rr]
        simp [hc]
      · have hd := decide_eq_false hc
        simp (maxDischargeDepth := 8) only [vv, cc, bb, firstRegion, apartAll, clash, meets, execOp, opnd, builtinHM, bin, convHM, fillP, fieldsPlace, solid, inOrd, sliceHM, bound, zOK, appendHM, srcCells, borL, isSl, slLen, storeHM, loadHM, look1, idxAddr, arrAddr, cellsOf, TD.agg, loadedL, loaded, borrowed, isOwn, fieldR, partHM, absorbL, absorb1, setAt, killAV, killL, leafV, getR, isNil, nilV, Array.toList, List.map, reduceIte, reduceCtorEq, Nat.reduceEqDiff, Nat.reduceAdd, Nat.reduceMul, Nat.reduceSub, Nat.reduceBEq, Nat.reduceLeDiff, Int.reduceLT, Int.reduceLE, Int.reduceGE, Int.reduceGT, Int.reduceBEq, Int.reduceBNe, Int.reduceToNat, Int.reduceNeg, Int.reduceSub, Int.reduceAdd, Int.reduceMul, callHM, packA, packL, pack1, lentOk, getLent, putBack, backK, renAV, renL, rr, Try.f49, hk, hn, hb, e73, ha, hbb, o1, o2, hd]
        simp only [vv, ff, firstRegion, apartAll, clash, meets, execOp, opnd, builtinHM, bin, convHM, fillP, fieldsPlace, solid, inOrd, sliceHM, bound, zOK, appendHM, srcCells, borL, isSl, slLen, storeHM, loadHM, look1, idxAddr, arrAddr, cellsOf, TD.agg, loadedL, loaded, borrowed, isOwn, fieldR, partHM, absorbL, absorb1, setAt, killAV, killL, leafV, getR, isNil, nilV, Array.toList, List.map, reduceIte, reduceCtorEq, Nat.reduceEqDiff, Nat.reduceAdd, Nat.reduceMul, Nat.reduceSub, Nat.reduceBEq, Nat.reduceLeDiff, Int.reduceLT, Int.reduceLE, Int.reduceGE, Int.reduceGT, Int.reduceBEq, Int.reduceBNe, Int.reduceToNat, Int.reduceNeg, Int.reduceSub, Int.reduceAdd, Int.reduceMul, finish, wkAV, resOf, resa, noSnap, noSnapL, noSnapO, keep, liveKeys, keysL, keysAV, renAV, renL, rr]
        simp [hc]
  · have hd : (((n : Nat) : Int) != 40) = true := by simp; omega
    have hl : (un cs).length ≠ 40 := by rw [un_len, hn]; exact h40
    simp (maxDischargeDepth := 8) only [vv, cc, bb, firstRegion, apartAll, clash, meets, execOp, opnd, builtinHM, bin, convHM, fillP, fieldsPlace, solid, inOrd, sliceHM, bound, zOK, appendHM, srcCells, borL, isSl, slLen, storeHM, loadHM, look1, idxAddr, arrAddr, cellsOf, TD.agg, loadedL, loaded, borrowed, isOwn, fieldR, partHM, absorbL, absorb1, setAt, killAV, killL, leafV, getR, isNil, nilV, Array.toList, List.map, reduceIte, reduceCtorEq, Nat.reduceEqDiff, Nat.reduceAdd, Nat.reduceMul, Nat.reduceSub, Nat.reduceBEq, Nat.reduceLeDiff, Int.reduceLT, Int.reduceLE, Int.reduceGE, Int.reduceGT, Int.reduceBEq, Int.reduceBNe, Int.reduceToNat, Int.reduceNeg, Int.reduceSub, Int.reduceAdd, Int.reduceMul, callHM, packA, packL, pack1, lentOk, getLent, putBack, backK, renAV, renL, rr, Try.f49, hd]
    simp only [vv, ff, firstRegion, apartAll, clash, meets, execOp, opnd, builtinHM, bin, convHM, fillP, fieldsPlace, solid, inOrd, sliceHM, bound, zOK, appendHM, srcCells, borL, isSl, slLen, storeHM, loadHM, look1, idxAddr, arrAddr, cellsOf, TD.agg, loadedL, loaded, borrowed, isOwn, fieldR, partHM, absorbL, absorb1, setAt, killAV, killL, leafV, getR, isNil, nilV, Array.toList, List.map, reduceIte, reduceCtorEq, Nat.reduceEqDiff, Nat.reduceAdd, Nat.reduceMul, Nat.reduceSub, Nat.reduceBEq, Nat.reduceLeDiff, Int.reduceLT, Int.reduceLE, Int.reduceGE, Int.reduceGT, Int.reduceBEq, Int.reduceBNe, Int.reduceToNat, Int.reduceNeg, Int.reduceSub, Int.reduceAdd, Int.reduceMul, finish, wkAV, resOf, resa, noSnap, noSnapL, noSnapO, keep, liveKeys, keysL, keysAV, renAV, renL, rr, rdV, if_neg hl]
theorem e25 (d : Nat) (tg : Tg) (cap : Option Nat) (n : Nat) (cs : List AV) (hk : isK .u8 cs = true) (hn : cs.length = n) (hb : B8 (un cs)) : evFun E (d+9) 25 [.sl tg 1 n cap cs] [] = some (.tup [vi (rdV (un cs)).1, vi (rdV (un cs)).2.1, vi (rdV (un cs)).2.2], []) := by
  refine evFun_body b25 ?_
  by_cases h40 : n = 40
  · subst h40
    have hl : (un cs).length = 40 := by rw [un_len]; exact hn
    have t20 : ((un cs).drop 20).take 20 = (un cs).drop 20 := List.take_of_length_le (by simp [hl])
    simp only [rdV, hl, if_true]
    cases ha : rdOK ((un cs).take 20) <;> cases hbb : rdOK ((un cs).drop 20)
    · simp only [vv, cc, ff, uu, norm, firstRegion, apartAll, clash, meets, execOp, opnd, builtinHM, bin, convHM, fillP, fieldsPlace, solid, inOrd, sliceHM, bound, zOK, appendHM, srcCells, borL, isSl, slLen, storeHM, loadHM, look1, idxAddr, arrAddr, cellsOf, TD.agg, loadedL, loaded, borrowed, isOwn, fieldR, partHM, absorbL, absorb1, setAt, killAV, killL, leafV, getR, isNil, nilV, Array.toList, List.map, reduceIte, reduceCtorEq, Nat.reduceEqDiff, Nat.reduceAdd, Nat.reduceMul, Nat.reduceSub, Nat.reduceBEq, Nat.reduceLeDiff, Int.reduceLT, Int.reduceLE, Int.reduceGE, Int.reduceGT, Int.reduceBEq, Int.reduceBNe, Int.reduceToNat, Int.reduceNeg, Int.reduceSub, Int.reduceAdd, Int.reduceMul, callHM, packA, packL, pack1, lentOk, getLent, putBack, backK, renAV, renL, finish, wkAV, resOf, resa, noSnap, noSnapL, noSnapO, keep, liveKeys, keysL, keysAV, rr, Try.f25, bb, hk, hn, hb, e55, ha, hbb, t20]
      simp
    · have o2 := inS_of hbb
      have d2 : decide ((-1 : Int) < 0) = true := by decide
      simp only [vv, cc, ff, uu, norm, firstRegion, apartAll, clash, meets, execOp, opnd, builtinHM, bin, convHM, fillP, fieldsPlace, solid, inOrd, sliceHM, bound, zOK, appendHM, srcCells, borL, isSl, slLen, storeHM, loadHM, look1, idxAddr, arrAddr, cellsOf, TD.agg, loadedL, loaded, borrowed, isOwn, fieldR, partHM, absorbL, absorb1, setAt, killAV, killL, leafV, getR, isNil, nilV, Array.toList, List.map, reduceIte, reduceCtorEq, Nat.reduceEqDiff, Nat.reduceAdd, Nat.reduceMul, Nat.reduceSub, Nat.reduceBEq, Nat.reduceLeDiff, Int.reduceLT, Int.reduceLE, Int.reduceGE, Int.reduceGT, Int.reduceBEq, Int.reduceBNe, Int.reduceToNat, Int.reduceNeg, Int.reduceSub, Int.reduceAdd, Int.reduceMul, callHM, packA, packL, pack1, lentOk, getLent, putBack, backK, renAV, renL, finish, wkAV, resOf, resa, noSnap, noSnapL, noSnapO, keep, liveKeys, keysL, keysAV, rr, Try.f25, bb, hk, hn, hb, e55, ha, hbb, t20, o2, d2]
      simp
    · have o1 := inS_of ha
      have d2 : decide ((-1 : Int) < 0) = true := by decide
      simp only [vv, cc, ff, uu, norm, firstRegion, apartAll, clash, meets, execOp, opnd, builtinHM, bin, convHM, fillP, fieldsPlace, solid, inOrd, sliceHM, bound, zOK, appendHM, srcCells, borL, isSl, slLen, storeHM, loadHM, look1, idxAddr, arrAddr, cellsOf, TD.agg, loadedL, loaded, borrowed, isOwn, fieldR, partHM, absorbL, absorb1, setAt, killAV, killL, leafV, getR, isNil, nilV, Array.toList, List.map, reduceIte, reduceCtorEq, Nat.reduceEqDiff, Nat.reduceAdd, Nat.reduceMul, Nat.reduceSub, Nat.reduceBEq, Nat.reduceLeDiff, Int.reduceLT, Int.reduceLE, Int.reduceGE, Int.reduceGT, Int.reduceBEq, Int.reduceBNe, Int.reduceToNat, Int.reduceNeg, Int.reduceSub, Int.reduceAdd, Int.reduceMul, callHM, packA, packL, pack1, lentOk, getLent, putBack, backK, renAV, renL, finish, wkAV, resOf, resa, noSnap, noSnapL, noSnapO, keep, liveKeys, keysL, keysAV, rr, Try.f25, bb, hk, hn, hb, e55, ha, hbb, t20, o1, d2]
      simp
    · have o1 := inS_of ha
      have o2 := inS_of hbb
      have d2 : decide ((-1 : Int) < 0) = true := by decide
      by_cases hc : cOf ((un cs).take 20) ≥ cOf ((un cs).drop 20)
      · have hd : decide (cOf ((un cs).drop 20) > cOf ((un cs).take 20)) = false := by simp; omega
        simp only [vv, cc, ff, uu, norm, firstRegion, apartAll, clash, meets, execOp, opnd, builtinHM, bin, convHM, fillP, fieldsPlace, solid, inOrd, sliceHM, bound, zOK, appendHM, srcCells, borL, isSl, slLen, storeHM, loadHM, look1, idxAddr, arrAddr, cellsOf, TD.agg, loadedL, loaded, borrowed, isOwn, fieldR, partHM, absorbL, absorb1, setAt, killAV, killL, leafV, getR, isNil, nilV, Array.toList, List.map, reduceIte, reduceCtorEq, Nat.reduceEqDiff, Nat.reduceAdd, Nat.reduceMul, Nat.reduceSub, Nat.reduceBEq, Nat.reduceLeDiff, Int.reduceLT, Int.reduceLE, Int.reduceGE, Int.reduceGT, Int.reduceBEq, Int.reduceBNe, Int.reduceToNat, Int.reduceNeg, Int.reduceSub, Int.reduceAdd, Int.reduceMul, callHM, packA, packL, pack1, lentOk, getLent, putBack, backK, renAV, renL, finish, wkAV, resOf, resa, noSnap, noSnapL, noSnapO, keep, liveKeys, keysL, keysAV, rr, Try.f25, bb, hk, hn, hb, e55, ha, hbb, t20, o1, o2, d2, hd]
        simp [hc]
      · have hd : decide (cOf ((un cs).drop 20) > cOf ((un cs).take 20)) = true := by simp; omega
        simp only [vv, cc, ff, uu, norm, firstRegion, apartAll, clash, meets, execOp, opnd, builtinHM, bin, convHM, fillP, fieldsPlace, solid, inOrd, sliceHM, bound, zOK, appendHM, srcCells, borL, isSl, slLen, storeHM, loadHM, look1, idxAddr, arrAddr, cellsOf, TD.agg, loadedL, loaded, borrowed, isOwn, fieldR, partHM, absorbL, absorb1, setAt, killAV, killL, leafV, getR, isNil, nilV, Array.toList, List.map, reduceIte, reduceCtorEq, Nat.reduceEqDiff, Nat.reduceAdd, Nat.reduceMul, Nat.reduceSub, Nat.reduceBEq, Nat.reduceLeDiff, Int.reduceLT, Int.reduceLE, Int.reduceGE, Int.reduceGT, Int.reduceBEq, Int.reduceBNe, Int.reduceToNat, Int.reduceNeg, Int.reduceSub, Int.reduceAdd, Int.reduceMul, callHM, packA, packL, pack1, lentOk, getLent, putBack, backK, renAV, renL, finish, wkAV, resOf, resa, noSnap, noSnapL, noSnapO, keep, liveKeys, keysL, keysAV, rr, Try.f25, bb, hk, hn, hb, e55, ha, hbb, t20, o1, o2, d2, hd]
        simp [hc]
  · have hd : (((n : Nat) : Int) != 40) = true := by simp; omega
    have hl : (un cs).length ≠ 40 := by rw [un_len, hn]; exact h40
    simp (maxDischargeDepth := 8) only [vv, cc, bb, firstRegion, apartAll, clash, meets, execOp, opnd, builtinHM, bin, convHM, fillP, fieldsPlace, solid, inOrd, sliceHM, bound, zOK, appendHM, srcCells, borL, isSl, slLen, storeHM, loadHM, look1, idxAddr, arrAddr, cellsOf, TD.agg, loadedL, loaded, borrowed, isOwn, fieldR, partHM, absorbL, absorb1, setAt, killAV, killL, leafV, getR, isNil, nilV, Array.toList, List.map, reduceIte, reduceCtorEq, Nat.reduceEqDiff, Nat.reduceAdd, Nat.reduceMul, Nat.reduceSub, Nat.reduceBEq, Nat.reduceLeDiff, Int.reduceLT, Int.reduceLE, Int.reduceGE, Int.reduceGT, Int.reduceBEq, Int.reduceBNe, Int.reduceToNat, Int.reduceNeg, Int.reduceSub, Int.reduceAdd, Int.reduceMul, callHM, packA, packL, pack1, lentOk, getLent, putBack, backK, renAV, renL, rr, Try.f25, hd]
    simp only [vv, ff, firstRegion, apartAll, clash, meets, execOp, opnd, builtinHM, bin, convHM, fillP, fieldsPlace, solid, inOrd, sliceHM, bound, zOK, appendHM, srcCells, borL, isSl, slLen, storeHM, loadHM, look1, idxAddr, arrAddr, cellsOf, TD.agg, loadedL, loaded, borrowed, isOwn, fieldR, partHM, absorbL, absorb1, setAt, killAV, killL, leafV, getR, isNil, nilV, Array.toList, List.map, reduceIte, reduceCtorEq, Nat.reduceEqDiff, Nat.reduceAdd, Nat.reduceMul, Nat.reduceSub, Nat.reduceBEq, Nat.reduceLeDiff, Int.reduceLT, Int.reduceLE, Int.reduceGE, Int.reduceGT, Int.reduceBEq, Int.reduceBNe, Int.reduceToNat, Int.reduceNeg, Int.reduceSub, Int.reduceAdd, Int.reduceMul, finish, wkAV, resOf, resa, noSnap, noSnapL, noSnapO, keep, liveKeys, keysL, keysAV, renAV, renL, rr, rdV, if_neg hl]
theorem e26 (d : Nat) (tg : Tg) (cap : Option Nat) (n : Nat) (cs : List AV) (hk : isK .u8 cs = true) (hn : cs.length = n) (hb : B8 (un cs)) : evFun E (d+10) 26 [.sl tg 1 n cap cs] [] = some (vb (decide ((rdV (un cs)).2.2 ≥ 0)), []) := by
  refine evFun_body b26 ?_
  simp (maxDischargeDepth := 8) only [vv, cc, bb, firstRegion, apartAll, clash, meets, execOp, opnd, builtinHM, bin, convHM, fillP, fieldsPlace, solid, inOrd, sliceHM, bound, zOK, appendHM, srcCells, borL, isSl, slLen, storeHM, loadHM, look1, idxAddr, arrAddr, cellsOf, TD.agg, loadedL, loaded, borrowed, isOwn, fieldR, partHM, absorbL, absorb1, setAt, killAV, killL, leafV, getR, isNil, nilV, Array.toList, List.map, reduceIte, reduceCtorEq, Nat.reduceEqDiff, Nat.reduceAdd, Nat.reduceMul, Nat.reduceSub, Nat.reduceBEq, Nat.reduceLeDiff, Int.reduceLT, Int.reduceLE, Int.reduceGE, Int.reduceGT, Int.reduceBEq, Int.reduceBNe, Int.reduceToNat, Int.reduceNeg, Int.reduceSub, Int.reduceAdd, Int.reduceMul, callHM, packA, packL, pack1, lentOk, getLent, putBack, backK, renAV, renL, rr, Try.f26, hk, hn, hb, e25]
  simp only [vv, ff, firstRegion, apartAll, clash, meets, execOp, opnd, builtinHM, bin, convHM, fillP, fieldsPlace, solid, inOrd, sliceHM, bound, zOK, appendHM, srcCells, borL, isSl, slLen, storeHM, loadHM, look1, idxAddr, arrAddr, cellsOf, TD.agg, loadedL, loaded, borrowed, isOwn, fieldR, partHM, absorbL, absorb1, setAt, killAV, killL, leafV, getR, isNil, nilV, Array.toList, List.map, reduceIte, reduceCtorEq, Nat.reduceEqDiff, Nat.reduceAdd, Nat.reduceMul, Nat.reduceSub, Nat.reduceBEq, Nat.reduceLeDiff, Int.reduceLT, Int.reduceLE, Int.reduceGE, Int.reduceGT, Int.reduceBEq, Int.reduceBNe, Int.reduceToNat, Int.reduceNeg, Int.reduceSub, Int.reduceAdd, Int.reduceMul, finish, wkAV, resOf, resa, noSnap, noSnapL, noSnapO, keep, liveKeys, keysL, keysAV, renAV, renL, rr]
end Go.Proofs.Ytjkkndgbhcmphaa.VH.S
end

section
namespace Go.Proofs.Ytjkkndgbhcmphaa.VH.S
open Go.Proofs
set_option maxRecDepth 100000
set_option maxHeartbeats 4000000
set_option linter.unusedSimpArgs false

theorem ok00 : okS 0 0 = true := by decide
def newD : List AV := (slotL 0 0).map (iv .u8) ++ List.replicate 20 (iv .u8 0)
theorem newD_len : newD.length = 40 := by simp [newD, slot_len]
theorem newD_k : isK .u8 newD = true := by rw [newD, isK_app, isK_map, isK_repl]; rfl
theorem newD_snap : noSnapL newD = true := by rw [isK_get newD_k]; exact noSnapL_iv _ _
theorem newD_own : newD.any isOwn = false := by rw [isK_get newD_k]; exact anyOwn_iv _ _
theorem newD_def : (slotL 0 0).map (iv .u8) ++ List.replicate 20 (AV.val (.int .u8 0)) = newD := rfl
theorem e74 (d : Nat) : evFun E (d+6) 74 [] [] = some (.ref 0 [] 1 0 40 none, [some newD]) := by
  refine evFun_body b74 ?_
  simp (maxDischargeDepth := 8) only [vv, cc, bb, firstRegion, apartAll, clash, meets, execOp, opnd, builtinHM, bin, convHM, fillP, fieldsPlace, solid, inOrd, sliceHM, bound, zOK, appendHM, srcCells, borL, isSl, slLen, storeHM, loadHM, look1, idxAddr, arrAddr, cellsOf, TD.agg, loadedL, loaded, borrowed, isOwn, fieldR, partHM, absorbL, absorb1, setAt, killAV, killL, leafV, getR, isNil, nilV, Array.toList, List.map, reduceIte, reduceCtorEq, Nat.reduceEqDiff, Nat.reduceAdd, Nat.reduceMul, Nat.reduceSub, Nat.reduceBEq, Nat.reduceLeDiff, Int.reduceLT, Int.reduceLE, Int.reduceGE, Int.reduceGT, Int.reduceBEq, Int.reduceBNe, Int.reduceToNat, Int.reduceNeg, Int.reduceSub, Int.reduceAdd, Int.reduceMul, callHM, packA, packL, pack1, lentOk, getLent, putBack, backK, renAV, renL, rr, Try.f74, e48 _ _ _ ok00, slot_len, limI, zeros_one, newD_def]
  simp only [vv, ff, firstRegion, apartAll, clash, meets, execOp, opnd, builtinHM, bin, convHM, fillP, fieldsPlace, solid, inOrd, sliceHM, bound, zOK, appendHM, srcCells, borL, isSl, slLen, storeHM, loadHM, look1, idxAddr, arrAddr, cellsOf, TD.agg, loadedL, loaded, borrowed, isOwn, fieldR, partHM, absorbL, absorb1, setAt, killAV, killL, leafV, getR, isNil, nilV, Array.toList, List.map, reduceIte, reduceCtorEq, Nat.reduceEqDiff, Nat.reduceAdd, Nat.reduceMul, Nat.reduceSub, Nat.reduceBEq, Nat.reduceLeDiff, Int.reduceLT, Int.reduceLE, Int.reduceGE, Int.reduceGT, Int.reduceBEq, Int.reduceBNe, Int.reduceToNat, Int.reduceNeg, Int.reduceSub, Int.reduceAdd, Int.reduceMul, finish, wkAV, resOf, resa, noSnap, noSnapL, noSnapO, keep, liveKeys, keysL, keysAV, renAV, renL, rr, newD_snap]
theorem e29 (d : Nat) : evFun E (d+8) 29 [] [] = some (.ref 0 [] 1 0 40 none, [some newD]) := by
  refine evFun_body b29 ?_
  simp (maxDischargeDepth := 8) only [vv, cc, bb, firstRegion, apartAll, clash, meets, execOp, opnd, builtinHM, bin, convHM, fillP, fieldsPlace, solid, inOrd, sliceHM, bound, zOK, appendHM, srcCells, borL, isSl, slLen, storeHM, loadHM, look1, idxAddr, arrAddr, cellsOf, TD.agg, loadedL, loaded, borrowed, isOwn, fieldR, partHM, absorbL, absorb1, setAt, killAV, killL, leafV, getR, isNil, nilV, Array.toList, List.map, reduceIte, reduceCtorEq, Nat.reduceEqDiff, Nat.reduceAdd, Nat.reduceMul, Nat.reduceSub, Nat.reduceBEq, Nat.reduceLeDiff, Int.reduceLT, Int.reduceLE, Int.reduceGE, Int.reduceGT, Int.reduceBEq, Int.reduceBNe, Int.reduceToNat, Int.reduceNeg, Int.reduceSub, Int.reduceAdd, Int.reduceMul, callHM, packA, packL, pack1, lentOk, getLent, putBack, backK, renAV, renL, rr, Try.f29, e28 _ _ _ ok00, slot_len, limI, zeros_one, newD_def]
  simp only [vv, ff, firstRegion, apartAll, clash, meets, execOp, opnd, builtinHM, bin, convHM, fillP, fieldsPlace, solid, inOrd, sliceHM, bound, zOK, appendHM, srcCells, borL, isSl, slLen, storeHM, loadHM, look1, idxAddr, arrAddr, cellsOf, TD.agg, loadedL, loaded, borrowed, isOwn, fieldR, partHM, absorbL, absorb1, setAt, killAV, killL, leafV, getR, isNil, nilV, Array.toList, List.map, reduceIte, reduceCtorEq, Nat.reduceEqDiff, Nat.reduceAdd, Nat.reduceMul, Nat.reduceSub, Nat.reduceBEq, Nat.reduceLeDiff, Int.reduceLT, Int.reduceLE, Int.reduceGE, Int.reduceGT, Int.reduceBEq, Int.reduceBNe, Int.reduceToNat, Int.reduceNeg, Int.reduceSub, Int.reduceAdd, Int.reduceMul, finish, wkAV, resOf, resa, noSnap, noSnapL, noSnapO, keep, liveKeys, keysL, keysAV, renAV, renL, rr, newD_snap]
end Go.Proofs.Ytjkkndgbhcmphaa.VH.S
end

section
namespace Go.Proofs.Ytjkkndgbhcmphaa.VH

/- A row, a part of it written anew. -/

def putL {α : Type} (l : List α) (f : Nat) (s : List α) : List α := l.take f ++ s ++ l.drop (f + s.length)

theorem putL_len {α : Type} (l : List α) (f : Nat) (s : List α) (h : f + s.length ≤ l.length) : (putL l f s).length = l.length := by
  simp only [putL, List.length_append, List.length_take, List.length_drop]; omega
theorem putL_nil {α : Type} (l : List α) (f : Nat) : putL l f [] = l := by simp [putL]
theorem putL_get {α : Type} (l : List α) (f : Nat) (s : List α) (h : f + s.length ≤ l.length) (j : Nat) : (putL l f s)[j]? = if f ≤ j ∧ j < f + s.length then s[j - f]? else l[j]? := by
  unfold putL
  by_cases h1 : j < f
  · rw [if_neg (by omega), List.append_assoc, List.getElem?_append_left (by simp; omega), List.getElem?_take, if_pos h1]
  · by_cases h2 : j < f + s.length
    · rw [if_pos (by omega), List.getElem?_append_left (by simp; omega), List.getElem?_append_right (by simp; omega)]
      congr 1; simp; omega
    · rw [if_neg (by omega), List.getElem?_append_right (by simp; omega), List.getElem?_drop]
      congr 1; simp; omega
theorem setAt_put (cs : List AV) (f : Nat) (s : List AV) (h : f + s.length ≤ cs.length) : setAt cs f s = putL cs f s := by
  apply List.ext_getElem?
  intro j
  rw [setAt_get h, putL_get _ _ _ h]
theorem putL_set {α : Type} (l : List α) (f : Nat) (s : List α) {i : Nat} (h : f + s.length ≤ l.length) (hi : i < s.length) : (putL l f (s.take i)).set (f + i) s[i] = putL l f (s.take (i + 1)) := by
  have hi' : (s.take i).length = i := by simp; omega
  have hi2 : (s.take (i + 1)).length = i + 1 := by simp; omega
  apply List.ext_getElem?
  intro j
  rw [putL_get _ _ _ (by omega)]
  by_cases e : f + i = j
  · subst e
    rw [List.getElem?_set_self (by rw [putL_len _ _ _ (by omega)]; omega), if_pos (by omega), List.getElem?_take, if_pos (by omega)]
    have : f + i - f = i := by omega
    rw [this, List.getElem?_eq_getElem hi]
  · rw [List.getElem?_set_ne e, putL_get _ _ _ (by omega)]
    by_cases c : f ≤ j ∧ j < f + i
    · rw [if_pos (by omega), if_pos (by omega), List.getElem?_take, List.getElem?_take, if_pos (by omega), if_pos (by omega)]
    · rw [if_neg (by omega), if_neg (by omega)]
theorem isK_put {k : IntKind} {l : List AV} {f : Nat} {s : List AV} (h1 : isK k l = true) (h2 : isK k s = true) : isK k (putL l f s) = true := by
  rw [putL, isK_app, isK_app, isK_take _ h1, h2, isK_drop _ h1]; rfl
theorem un_put (l : List AV) (f : Nat) (s : List AV) : un (putL l f s) = putL (un l) f (un s) := by
  rw [putL, un_app, un_app, un_take, un_drop, putL, un_len]
theorem B8.put {l : List Int} {f : Nat} {s : List Int} (h1 : B8 l) (h2 : B8 s) : B8 (putL l f s) := ((h1.take _).app h2).app (h1.drop _)
theorem isK_getR {k : IntKind} {cs : List AV} (h : isK k cs = true) {i : Nat} (hi : i < cs.length) : cs[i]? = some (iv k ((un cs)[i]'(by rw [un_len]; exact hi))) := by
  have e : cs[i]? = ((un cs).map (iv k))[i]? := by rw [← isK_get h]
  rw [e, map_get (by rw [un_len]; exact hi)]
theorem isK_own {k : IntKind} {cs : List AV} (h : isK k cs = true) : cs.any isOwn = false := by rw [isK_get h]; exact anyOwn_iv _ _
theorem isK_sl {k : IntKind} {cs : List AV} (h : isK k cs = true) : cs.any isSl = false := by rw [isK_get h]; exact anySl_iv _ _
theorem isK_snap {k : IntKind} {cs : List AV} (h : isK k cs = true) : noSnapL cs = true := by rw [isK_get h]; exact noSnapL_iv _ _

end Go.Proofs.Ytjkkndgbhcmphaa.VH
namespace Go.Proofs.Ytjkkndgbhcmphaa.VH
def xorI (x y : Int) : Int := IntKind.i64.wrap ((BitVec.ofInt 64 x ^^^ BitVec.ofInt 64 y).toNat : Int)
def andI (x y : Int) : Int := IntKind.i64.wrap ((BitVec.ofInt 64 x &&& BitVec.ofInt 64 y).toNat : Int)
def orI (x y : Int) : Int := IntKind.i64.wrap ((BitVec.ofInt 64 x ||| BitVec.ofInt 64 y).toNat : Int)
theorem bin_xorI (x y : Int) : intBin .xor .i64 x y = .ret (vi (xorI x y)) := _root_.id _root_.rfl
theorem bin_andI (x y : Int) : intBin .and .i64 x y = .ret (vi (andI x y)) := _root_.id _root_.rfl
theorem bin_orI (x y : Int) : intBin .or .i64 x y = .ret (vi (orI x y)) := _root_.id _root_.rfl
theorem andI_255 (x : Int) : 0 ≤ andI x 255 ∧ andI x 255 < 256 := by
  have h1 : (BitVec.ofInt 64 x &&& BitVec.ofInt 64 255).toNat ≤ 255 := by
    rw [BitVec.toNat_and]
    exact Nat.le_trans Nat.and_le_right (by decide)
  unfold andI
  rw [wrap64 (by omega) (by omega)]
  omega

/- Drawing: a cursor. -/
def curC (b : List Int) (s : Nat × Int) : List AV := [.sl .fgn 1 b.length none (b.map (iv .u8)), vi s.1, vi s.2]
def nh (h : Int) : Int := IntKind.i64.wrap (IntKind.i64.wrap (h * 6364136223846793005) + 1442695040888963407)
def xr (h : Int) : Int := andI (xorI (shrI h 33) (shrI h 45)) 255
def by1 (b : List Int) (s : Nat × Int) : Int × (Nat × Int) :=
  if s.1 < b.length then (andI (IntKind.i64.wrap (xr (nh s.2) + IntKind.i64.wrap (b.getD s.1 0))) 255, (s.1 + 1, nh s.2)) else (xr (nh s.2), (s.1, nh s.2))
theorem by1_b (b : List Int) (s : Nat × Int) : 0 ≤ (by1 b s).1 ∧ (by1 b s).1 < 256 := by
  unfold by1
  split
  · exact andI_255 _
  · exact andI_255 _
def bel (b : List Int) (n : Int) (s : Nat × Int) : Int × (Nat × Int) :=
  if n ≤ 0 then (0, s) else if n ≤ 256 then ((by1 b s).1.tmod n, (by1 b s).2)
  else (((by1 b s).1 * 16777216 + (by1 b (by1 b s).2).1 * 65536 + (by1 b (by1 b (by1 b s).2).2).1 * 256 + (by1 b (by1 b (by1 b (by1 b s).2).2).2).1).tmod n, (by1 b (by1 b (by1 b (by1 b s).2).2).2).2)
theorem bel_b (b : List Int) {n : Int} (hn : 0 < n) (s : Nat × Int) : 0 ≤ (bel b n s).1 ∧ (bel b n s).1 < n := by
  unfold bel
  rw [if_neg (by omega)]
  split
  · have h := by1_b b s
    exact ⟨Int.tmod_nonneg _ h.1, Int.tmod_lt_of_pos _ hn⟩
  · have h1 := by1_b b s
    have h2 := by1_b b (by1 b s).2
    have h3 := by1_b b (by1 b (by1 b s).2).2
    have h4 := by1_b b (by1 b (by1 b (by1 b s).2).2).2
    exact ⟨Int.tmod_nonneg _ (by omega), Int.tmod_lt_of_pos _ hn⟩
/-- a number out of eight bytes is what it was -/
theorem numB_eight {x : Int} (h0 : 0 ≤ x) (h1 : x < 9223372036854775808) : numB (eightL x) = x := by
  have s : ∀ k : Nat, k ≤ 64 → shrI x (k : Int) = x / 2 ^ k := fun k hk => by
    rw [shrI, Int.toNat_natCast, Nat.min_eq_left hk, Int.fdiv_eq_ediv_of_nonneg _ (Int.le_of_lt (Int.pow_pos (by decide)))]
  have s8 := s 8 (by decide); have s16 := s 16 (by decide); have s24 := s 24 (by decide); have s32 := s 32 (by decide)
  have s40 := s 40 (by decide); have s48 := s 48 (by decide); have s56 := s 56 (by decide)
  simp only [Int.cast_ofNat_Int] at s8 s16 s24 s32 s40 s48 s56
  simp only [eightL, numB, List.foldl_cons, List.foldl_nil, w8, IntKind.wrap_u8, s8, s16, s24, s32, s40, s48, s56]
  omega
end Go.Proofs.Ytjkkndgbhcmphaa.VH
end

section
namespace Go.Proofs.Ytjkkndgbhcmphaa.VH.S
open Go.Proofs
set_option maxRecDepth 100000
set_option maxHeartbeats 4000000
set_option linter.unusedSimpArgs false

theorem q51 (d : Nat) (tg : Tg) (cap : Option Nat) (n : Nat) (cs : List AV) (hk : isK .u8 cs = true) (hn : cs.length = n) (h0 : 0 < n) (hl : n ≤ 549755813888) : evFun E (d+1) 51 [.sl tg 1 n cap cs] [] = some (.ref 0 [] 1 0 n none, [some cs]) := by
  subst hn
  refine evFun_body b51 ?_
  have e1 := isK_sl hk
  have e2 := isK_snap hk
  have e3 : decide (0 < cs.length) = true := decide_eq_true h0
  have e4 : decide (cs.length = 0) = false := by simp; intro h; rw [h] at h0; simp at h0
  simp only [vv, cc, firstRegion, apartAll, clash, meets, execOp, opnd, builtinHM, bin, convHM, fillP, fieldsPlace, solid, inOrd, sliceHM, bound, zOK, appendHM, srcCells, borL, isSl, slLen, storeHM, loadHM, look1, idxAddr, arrAddr, cellsOf, TD.agg, loadedL, loaded, borrowed, isOwn, fieldR, partHM, absorbL, absorb1, setAt, killAV, killL, leafV, getR, isNil, nilV, Array.toList, List.map, reduceIte, reduceCtorEq, Nat.reduceEqDiff, Nat.reduceAdd, Nat.reduceMul, Nat.reduceSub, Nat.reduceBEq, Nat.reduceLeDiff, Int.reduceLT, Int.reduceLE, Int.reduceGE, Int.reduceGT, Int.reduceBEq, Int.reduceBNe, Int.reduceToNat, Int.reduceNeg, Int.reduceSub, Int.reduceAdd, Int.reduceMul, callHM, packA, packL, pack1, lentOk, getLent, putBack, backK, renAV, renL, rr, Try.f51, e1, limN hl, e3]
  simp only [vv, ff, firstRegion, apartAll, clash, meets, execOp, opnd, builtinHM, bin, convHM, fillP, fieldsPlace, solid, inOrd, sliceHM, bound, zOK, appendHM, srcCells, borL, isSl, slLen, storeHM, loadHM, look1, idxAddr, arrAddr, cellsOf, TD.agg, loadedL, loaded, borrowed, isOwn, fieldR, partHM, absorbL, absorb1, setAt, killAV, killL, leafV, getR, isNil, nilV, Array.toList, List.map, reduceIte, reduceCtorEq, Nat.reduceEqDiff, Nat.reduceAdd, Nat.reduceMul, Nat.reduceSub, Nat.reduceBEq, Nat.reduceLeDiff, Int.reduceLT, Int.reduceLE, Int.reduceGE, Int.reduceGT, Int.reduceBEq, Int.reduceBNe, Int.reduceToNat, Int.reduceNeg, Int.reduceSub, Int.reduceAdd, Int.reduceMul, finish, wkAV, resOf, resa, noSnap, noSnapL, noSnapO, keep, liveKeys, keysL, keysAV, renAV, renL, rr, e2, e4]
theorem z51 (d : Nat) (tg : Tg) (cap : Option Nat) : evFun E (d+1) 51 [.sl tg 1 0 cap []] [] = some (.sl .fgn 1 0 none [], []) := by
  refine evFun_body b51 ?_
  have e3 : decide ((0 : Nat) < 0) = false := by decide
  simp only [vv, cc, firstRegion, apartAll, clash, meets, execOp, opnd, builtinHM, bin, convHM, fillP, fieldsPlace, solid, inOrd, sliceHM, bound, zOK, appendHM, srcCells, borL, isSl, slLen, storeHM, loadHM, look1, idxAddr, arrAddr, cellsOf, TD.agg, loadedL, loaded, borrowed, isOwn, fieldR, partHM, absorbL, absorb1, setAt, killAV, killL, leafV, getR, isNil, nilV, Array.toList, List.map, reduceIte, reduceCtorEq, Nat.reduceEqDiff, Nat.reduceAdd, Nat.reduceMul, Nat.reduceSub, Nat.reduceBEq, Nat.reduceLeDiff, Int.reduceLT, Int.reduceLE, Int.reduceGE, Int.reduceGT, Int.reduceBEq, Int.reduceBNe, Int.reduceToNat, Int.reduceNeg, Int.reduceSub, Int.reduceAdd, Int.reduceMul, callHM, packA, packL, pack1, lentOk, getLent, putBack, backK, renAV, renL, rr, Try.f51, e3]
  simp only [vv, ff, firstRegion, apartAll, clash, meets, execOp, opnd, builtinHM, bin, convHM, fillP, fieldsPlace, solid, inOrd, sliceHM, bound, zOK, appendHM, srcCells, borL, isSl, slLen, storeHM, loadHM, look1, idxAddr, arrAddr, cellsOf, TD.agg, loadedL, loaded, borrowed, isOwn, fieldR, partHM, absorbL, absorb1, setAt, killAV, killL, leafV, getR, isNil, nilV, Array.toList, List.map, reduceIte, reduceCtorEq, Nat.reduceEqDiff, Nat.reduceAdd, Nat.reduceMul, Nat.reduceSub, Nat.reduceBEq, Nat.reduceLeDiff, Int.reduceLT, Int.reduceLE, Int.reduceGE, Int.reduceGT, Int.reduceBEq, Int.reduceBNe, Int.reduceToNat, Int.reduceNeg, Int.reduceSub, Int.reduceAdd, Int.reduceMul, finish, wkAV, resOf, resa, noSnap, noSnapL, noSnapO, keep, liveKeys, keysL, keysAV, renAV, renL, rr]

def wrOK (l : List Int) (c r t : Int) : Bool := decide (l.length = 40) && okS c r && (decide (t ≥ 0) && decide (t ≤ 20)) && !(decide ((rdV l).2.2 ≥ 0) && decide (c ≤ (rdV l).1))
def wrAt (l : List Int) : Nat := if (rdV l).2.2 == 0 then 20 else 0
def wrC (cs : List AV) (c r t : Int) : List AV := if wrOK (un cs) c r t = true then putL cs (wrAt (un cs)) (((slotL c r).take t.toNat).map (iv .u8)) else cs
def wrV (l : List Int) (c r t : Int) : List Int := if wrOK l c r t = true then putL l (wrAt l) ((slotL c r).take t.toNat) else l
theorem un_wrC (cs : List AV) (c r t : Int) : un (wrC cs c r t) = wrV (un cs) c r t := by
  unfold wrC wrV
  split
  · rw [un_put, un_map]
  · rfl
theorem isK_wrC {cs : List AV} (h : isK .u8 cs = true) (c r t : Int) : isK .u8 (wrC cs c r t) = true := by
  unfold wrC
  split
  · exact isK_put h (isK_map _ _)
  · exact h
theorem B8.wrV {l : List Int} (h : B8 l) (c r t : Int) : B8 (wrV l c r t) := by
  unfold S.wrV
  split
  · exact h.put ((B8.slot _ _).take _)
  · exact h
theorem wrC_len {cs : List AV} (c r t : Int) : (wrC cs c r t).length = cs.length := by
  unfold wrC
  split
  · rename_i h
    simp only [wrOK, Bool.and_eq_true, decide_eq_true_eq, un_len] at h
    refine putL_len _ _ _ ?_
    rw [List.length_map, List.length_take, slot_len]
    unfold wrAt
    split <;> omega
  · rfl
theorem wr_bad {l : List Int} {c r t : Int} {n : Nat} (hn : l.length = n) (h : (n ≠ 40) ∨ okS c r = false ∨ (decide (t ≥ 0) && decide (t ≤ 20)) = false ∨ (decide ((rdV l).2.2 ≥ 0) = true ∧ decide (c ≤ (rdV l).1) = true)) : wrOK l c r t = false := by
  unfold wrOK
  rcases h with h | h | h | h
  · rw [hn, decide_eq_false h]; rfl
  · rw [h]; simp
  · rw [h]; simp
  · rw [h.1, h.2]; simp
theorem e20 (d : Nat) (tg : Tg) (cap : Option Nat) (n : Nat) (cs : List AV) (c r t : Int) (hk : isK .u8 cs = true) (hn : cs.length = n) (hb : B8 (un cs)) (hl : n ≤ 549755813888) :
    evFun E (d+10) 20 [.sl tg 1 n cap cs, vi c, vi r, vi t] [] = some (.tup [.ref 0 [] 1 0 n none, vb (wrOK (un cs) c r t)], [some (wrC cs c r t)]) := by
  refine evFun_body b20 ?_
  have e2 := isK_snap hk
  have hul : (un cs).length = n := by rw [un_len]; exact hn
  by_cases h40 : n = 40
  · subst h40
    have g1 : (((40 : Nat) : Int) != 40) = false := by decide
    cases ho : okS c r with
    | false =>
      have hw := wr_bad (t := t) hul (.inr (.inl ho))
      simp (maxDischargeDepth := 8) only [vv, cc, bb, firstRegion, apartAll, clash, meets, execOp, opnd, builtinHM, bin, convHM, fillP, fieldsPlace, solid, inOrd, sliceHM, bound, zOK, appendHM, srcCells, borL, isSl, slLen, storeHM, loadHM, look1, idxAddr, arrAddr, cellsOf, TD.agg, loadedL, loaded, borrowed, isOwn, fieldR, partHM, absorbL, absorb1, setAt, killAV, killL, leafV, getR, isNil, nilV, Array.toList, List.map, reduceIte, reduceCtorEq, Nat.reduceEqDiff, Nat.reduceAdd, Nat.reduceMul, Nat.reduceSub, Nat.reduceBEq, Nat.reduceLeDiff, Int.reduceLT, Int.reduceLE, Int.reduceGE, Int.reduceGT, Int.reduceBEq, Int.reduceBNe, Int.reduceToNat, Int.reduceNeg, Int.reduceSub, Int.reduceAdd, Int.reduceMul, callHM, packA, packL, pack1, lentOk, getLent, putBack, backK, renAV, renL, rr, Try.f20, hk, hn, hb, q47, e48n _ _ _ ho, e49, g1]
      simp only [vv, ff, firstRegion, apartAll, clash, meets, execOp, opnd, builtinHM, bin, convHM, fillP, fieldsPlace, solid, inOrd, sliceHM, bound, zOK, appendHM, srcCells, borL, isSl, slLen, storeHM, loadHM, look1, idxAddr, arrAddr, cellsOf, TD.agg, loadedL, loaded, borrowed, isOwn, fieldR, partHM, absorbL, absorb1, setAt, killAV, killL, leafV, getR, isNil, nilV, Array.toList, List.map, reduceIte, reduceCtorEq, Nat.reduceEqDiff, Nat.reduceAdd, Nat.reduceMul, Nat.reduceSub, Nat.reduceBEq, Nat.reduceLeDiff, Int.reduceLT, Int.reduceLE, Int.reduceGE, Int.reduceGT, Int.reduceBEq, Int.reduceBNe, Int.reduceToNat, Int.reduceNeg, Int.reduceSub, Int.reduceAdd, Int.reduceMul, finish, wkAV, resOf, resa, noSnap, noSnapL, noSnapO, keep, liveKeys, keysL, keysAV, renAV, renL, rr, e2, hw, wrC]
    | true =>
      cases ht : (decide (t ≥ 0) && decide (t ≤ 20)) with
      | false =>
        have hw := wr_bad (c := c) (r := r) hul (.inr (.inr (.inl ht)))
        simp (maxDischargeDepth := 8) only [vv, cc, bb, firstRegion, apartAll, clash, meets, execOp, opnd, builtinHM, bin, convHM, fillP, fieldsPlace, solid, inOrd, sliceHM, bound, zOK, appendHM, srcCells, borL, isSl, slLen, storeHM, loadHM, look1, idxAddr, arrAddr, cellsOf, TD.agg, loadedL, loaded, borrowed, isOwn, fieldR, partHM, absorbL, absorb1, setAt, killAV, killL, leafV, getR, isNil, nilV, Array.toList, List.map, reduceIte, reduceCtorEq, Nat.reduceEqDiff, Nat.reduceAdd, Nat.reduceMul, Nat.reduceSub, Nat.reduceBEq, Nat.reduceLeDiff, Int.reduceLT, Int.reduceLE, Int.reduceGE, Int.reduceGT, Int.reduceBEq, Int.reduceBNe, Int.reduceToNat, Int.reduceNeg, Int.reduceSub, Int.reduceAdd, Int.reduceMul, callHM, packA, packL, pack1, lentOk, getLent, putBack, backK, renAV, renL, rr, Try.f20, hk, hn, hb, q47, e48 _ _ _ ho, e49, g1, e50, ht]
        simp only [vv, ff, firstRegion, apartAll, clash, meets, execOp, opnd, builtinHM, bin, convHM, fillP, fieldsPlace, solid, inOrd, sliceHM, bound, zOK, appendHM, srcCells, borL, isSl, slLen, storeHM, loadHM, look1, idxAddr, arrAddr, cellsOf, TD.agg, loadedL, loaded, borrowed, isOwn, fieldR, partHM, absorbL, absorb1, setAt, killAV, killL, leafV, getR, isNil, nilV, Array.toList, List.map, reduceIte, reduceCtorEq, Nat.reduceEqDiff, Nat.reduceAdd, Nat.reduceMul, Nat.reduceSub, Nat.reduceBEq, Nat.reduceLeDiff, Int.reduceLT, Int.reduceLE, Int.reduceGE, Int.reduceGT, Int.reduceBEq, Int.reduceBNe, Int.reduceToNat, Int.reduceNeg, Int.reduceSub, Int.reduceAdd, Int.reduceMul, finish, wkAV, resOf, resa, noSnap, noSnapL, noSnapO, keep, liveKeys, keysL, keysAV, renAV, renL, rr, e2, hw, wrC]
      | true =>
        have ht' := ht
        simp only [Bool.and_eq_true, decide_eq_true_eq] at ht'
        obtain ⟨tn, rfl⟩ := Int.eq_ofNat_of_zero_le ht'.1
        have htn : tn ≤ 20 := by omega
        have ht20 : decide ((tn : Int) ≤ 20) = true := by simp; omega
        have ht0 : decide ((tn : Int) ≥ 0) = true := by simp
        cases hP : decide ((rdV (un cs)).2.2 ≥ 0) <;> cases hQ : decide (c ≤ (rdV (un cs)).1)
        case true.true =>
          have hw := wr_bad (c := c) (r := r) (t := (tn : Int)) hul (.inr (.inr (.inr ⟨hP, hQ⟩)))
          simp (maxDischargeDepth := 8) only [vv, cc, bb, firstRegion, apartAll, clash, meets, execOp, opnd, builtinHM, bin, convHM, fillP, fieldsPlace, solid, inOrd, sliceHM, bound, zOK, appendHM, srcCells, borL, isSl, slLen, storeHM, loadHM, look1, idxAddr, arrAddr, cellsOf, TD.agg, loadedL, loaded, borrowed, isOwn, fieldR, partHM, absorbL, absorb1, setAt, killAV, killL, leafV, getR, isNil, nilV, Array.toList, List.map, reduceIte, reduceCtorEq, Nat.reduceEqDiff, Nat.reduceAdd, Nat.reduceMul, Nat.reduceSub, Nat.reduceBEq, Nat.reduceLeDiff, Int.reduceLT, Int.reduceLE, Int.reduceGE, Int.reduceGT, Int.reduceBEq, Int.reduceBNe, Int.reduceToNat, Int.reduceNeg, Int.reduceSub, Int.reduceAdd, Int.reduceMul, callHM, packA, packL, pack1, lentOk, getLent, putBack, backK, renAV, renL, rr, Try.f20, hk, hn, hb, q47, e48 _ _ _ ho, e49, g1, e50, ht, ht20, ht0, hP, hQ]
          simp only [vv, ff, firstRegion, apartAll, clash, meets, execOp, opnd, builtinHM, bin, convHM, fillP, fieldsPlace, solid, inOrd, sliceHM, bound, zOK, appendHM, srcCells, borL, isSl, slLen, storeHM, loadHM, look1, idxAddr, arrAddr, cellsOf, TD.agg, loadedL, loaded, borrowed, isOwn, fieldR, partHM, absorbL, absorb1, setAt, killAV, killL, leafV, getR, isNil, nilV, Array.toList, List.map, reduceIte, reduceCtorEq, Nat.reduceEqDiff, Nat.reduceAdd, Nat.reduceMul, Nat.reduceSub, Nat.reduceBEq, Nat.reduceLeDiff, Int.reduceLT, Int.reduceLE, Int.reduceGE, Int.reduceGT, Int.reduceBEq, Int.reduceBNe, Int.reduceToNat, Int.reduceNeg, Int.reduceSub, Int.reduceAdd, Int.reduceMul, finish, wkAV, resOf, resa, noSnap, noSnapL, noSnapO, keep, liveKeys, keysL, keysAV, renAV, renL, rr, e2, hw, wrC]
        all_goals
          have hw : wrOK (un cs) c r tn = true := by simp [wrOK, hul, ho, ht', hP, hQ]; try omega
        all_goals
          have eS : ∀ d, evFun E (d+5) 48 [vi c, vi r] [] = some (.tup [.ref 0 [] 1 0 20 none, vb true], [some ((slotL c r).map (iv .u8))]) := fun d => e48 d c r ho
          have hS' : ((slotL c r).map (iv .u8)).length = 20 := by rw [List.length_map, slot_len]
          generalize hSS : (slotL c r).map (iv .u8) = S' at eS hS'
          have hSn : noSnapL S' = true := by rw [← hSS]; exact noSnapL_iv _ _
          have hSg : ∀ i, i < 20 → ∃ x, S'[i]? = some (iv .u8 x) := fun i hi => ⟨_, by rw [← hSS]; exact map_get (by rw [slot_len]; exact hi)⟩
          cases hz : ((rdV (un cs)).2.2 == 0) with
          | true =>
            have hat : wrAt (un cs) = 20 := by simp only [wrAt, hz, if_true]
            simp (maxDischargeDepth := 8) only [vv, cc, bb, firstRegion, apartAll, clash, meets, execOp, opnd, builtinHM, bin, convHM, fillP, fieldsPlace, solid, inOrd, sliceHM, bound, zOK, appendHM, srcCells, borL, isSl, slLen, storeHM, loadHM, look1, idxAddr, arrAddr, cellsOf, TD.agg, loadedL, loaded, borrowed, isOwn, fieldR, partHM, absorbL, absorb1, setAt, killAV, killL, leafV, getR, isNil, nilV, Array.toList, List.map, reduceIte, reduceCtorEq, Nat.reduceEqDiff, Nat.reduceAdd, Nat.reduceMul, Nat.reduceSub, Nat.reduceBEq, Nat.reduceLeDiff, Int.reduceLT, Int.reduceLE, Int.reduceGE, Int.reduceGT, Int.reduceBEq, Int.reduceBNe, Int.reduceToNat, Int.reduceNeg, Int.reduceSub, Int.reduceAdd, Int.reduceMul, callHM, packA, packL, pack1, lentOk, getLent, putBack, backK, renAV, renL, rr, Try.f20, hk, hn, hb, q47, eS, e49, g1, e50, ht, ht20, ht0, hP, hQ, hz]
            refine loop_go (fun i => {T := tp [(3, vi (tn : Int)), (10, .ref 0 [] 1 0 40 none), (11, .ref 1 [] 1 0 20 none), (16, vi 20), (17, vi (i : Int))], H := hp [some (putL cs 20 (S'.take i)), some S'], nx := 2}) tn ?_ (lt_LF (by omega)) (fun i hi Kn hK => ?_) (fun Kn => ?_)
            · simp only [vv, ff, norm, Array.toList, List.map, reduceIte, reduceCtorEq, Nat.reduceEqDiff, Nat.reduceAdd, Nat.reduceMul, Nat.reduceSub, Nat.reduceBEq, Nat.reduceLeDiff, Int.reduceLT, Int.reduceLE, Int.reduceGE, Int.reduceGT, Int.reduceBEq, Int.reduceBNe, Int.reduceToNat, Int.reduceNeg, Int.reduceSub, Int.reduceAdd, Int.reduceMul, finish, wkAV, resOf, resa, noSnap, noSnapL, noSnapO, keep, liveKeys, keysL, keysAV, renAV, renL, Int.natCast_zero, List.take_zero, putL_nil]
            · have hi20 : i < 20 := by omega
              obtain ⟨x, hx⟩ := hSg i hi20
              have w1 : IntKind.i64.wrap (20 + (i : Int)) = ((20 + i : Nat) : Int) := by rw [wrap64 (by omega) (by omega)]; omega
              have q2 : decide ((i : Int) < ((20 : Nat) : Int)) = true := by simp; omega
              have q3 : decide (((20 + i : Nat) : Int) < ((40 : Nat) : Int)) = true := by simp; omega
              have hl1 : (putL cs 20 (S'.take i)).length = 40 := by rw [putL_len _ _ _ (by rw [List.length_take]; omega), hn]
              have q4 : decide (20 + i + 1 ≤ (putL cs 20 (S'.take i)).length) = true := by rw [hl1]; simp; omega
              have hxe : S'[i]'(by omega) = iv .u8 x := by rw [List.getElem?_eq_getElem (by omega)] at hx; exact Option.some.inj hx
              have q5 : (putL cs 20 (S'.take i)).set (20 + i) (iv .u8 x) = putL cs 20 (S'.take (i + 1)) := by rw [← hxe]; exact putL_set cs 20 S' (by omega) (by omega)
              simp only [vv, firstRegion, apartAll, clash, meets, execOp, opnd, builtinHM, bin, convHM, fillP, fieldsPlace, solid, inOrd, sliceHM, bound, zOK, appendHM, srcCells, borL, isSl, slLen, storeHM, loadHM, look1, idxAddr, arrAddr, cellsOf, TD.agg, loadedL, loaded, borrowed, isOwn, fieldR, partHM, absorbL, absorb1, setAt, killAV, killL, leafV, getR, isNil, nilV, Array.toList, List.map, reduceIte, reduceCtorEq, Nat.reduceEqDiff, Nat.reduceAdd, Nat.reduceMul, Nat.reduceSub, Nat.reduceBEq, Nat.reduceLeDiff, Int.reduceLT, Int.reduceLE, Int.reduceGE, Int.reduceGT, Int.reduceBEq, Int.reduceBNe, Int.reduceToNat, Int.reduceNeg, Int.reduceSub, Int.reduceAdd, Int.reduceMul, rr, lt_ok hi, w1, q2, q3, q4, q5, hx, wrap_succ hi (show tn ≤ 2 ^ 39 by omega)]
              refine hK _ ?_
              simp only [vv, ff, norm, Array.toList, List.map, reduceIte, reduceCtorEq, Nat.reduceEqDiff, Nat.reduceAdd, Nat.reduceMul, Nat.reduceSub, Nat.reduceBEq, Nat.reduceLeDiff, Int.reduceLT, Int.reduceLE, Int.reduceGE, Int.reduceGT, Int.reduceBEq, Int.reduceBNe, Int.reduceToNat, Int.reduceNeg, Int.reduceSub, Int.reduceAdd, Int.reduceMul, finish, wkAV, resOf, resa, noSnap, noSnapL, noSnapO, keep, liveKeys, keysL, keysAV, renAV, renL]
            · simp only [vv, firstRegion, apartAll, clash, meets, execOp, opnd, builtinHM, bin, convHM, fillP, fieldsPlace, solid, inOrd, sliceHM, bound, zOK, appendHM, srcCells, borL, isSl, slLen, storeHM, loadHM, look1, idxAddr, arrAddr, cellsOf, TD.agg, loadedL, loaded, borrowed, isOwn, fieldR, partHM, absorbL, absorb1, setAt, killAV, killL, leafV, getR, isNil, nilV, Array.toList, List.map, reduceIte, reduceCtorEq, Nat.reduceEqDiff, Nat.reduceAdd, Nat.reduceMul, Nat.reduceSub, Nat.reduceBEq, Nat.reduceLeDiff, Int.reduceLT, Int.reduceLE, Int.reduceGE, Int.reduceGT, Int.reduceBEq, Int.reduceBNe, Int.reduceToNat, Int.reduceNeg, Int.reduceSub, Int.reduceAdd, Int.reduceMul, rr, lt_no]
              have e3 : noSnapL (putL cs 20 (S'.take tn)) = true := by rw [← hSS, ← List.map_take]; exact isK_snap (isK_put hk (isK_map _ _))
              simp only [vv, ff, firstRegion, apartAll, clash, meets, execOp, opnd, builtinHM, bin, convHM, fillP, fieldsPlace, solid, inOrd, sliceHM, bound, zOK, appendHM, srcCells, borL, isSl, slLen, storeHM, loadHM, look1, idxAddr, arrAddr, cellsOf, TD.agg, loadedL, loaded, borrowed, isOwn, fieldR, partHM, absorbL, absorb1, setAt, killAV, killL, leafV, getR, isNil, nilV, Array.toList, List.map, reduceIte, reduceCtorEq, Nat.reduceEqDiff, Nat.reduceAdd, Nat.reduceMul, Nat.reduceSub, Nat.reduceBEq, Nat.reduceLeDiff, Int.reduceLT, Int.reduceLE, Int.reduceGE, Int.reduceGT, Int.reduceBEq, Int.reduceBNe, Int.reduceToNat, Int.reduceNeg, Int.reduceSub, Int.reduceAdd, Int.reduceMul, finish, wkAV, resOf, resa, noSnap, noSnapL, noSnapO, keep, liveKeys, keysL, keysAV, renAV, renL, rr, e3]
              simp [wrC, hw, hat, ← hSS, List.map_take]
          | false =>
            have hat : wrAt (un cs) = 0 := by simp only [wrAt, hz]; rfl
            simp (maxDischargeDepth := 8) only [vv, cc, bb, firstRegion, apartAll, clash, meets, execOp, opnd, builtinHM, bin, convHM, fillP, fieldsPlace, solid, inOrd, sliceHM, bound, zOK, appendHM, srcCells, borL, isSl, slLen, storeHM, loadHM, look1, idxAddr, arrAddr, cellsOf, TD.agg, loadedL, loaded, borrowed, isOwn, fieldR, partHM, absorbL, absorb1, setAt, killAV, killL, leafV, getR, isNil, nilV, Array.toList, List.map, reduceIte, reduceCtorEq, Nat.reduceEqDiff, Nat.reduceAdd, Nat.reduceMul, Nat.reduceSub, Nat.reduceBEq, Nat.reduceLeDiff, Int.reduceLT, Int.reduceLE, Int.reduceGE, Int.reduceGT, Int.reduceBEq, Int.reduceBNe, Int.reduceToNat, Int.reduceNeg, Int.reduceSub, Int.reduceAdd, Int.reduceMul, callHM, packA, packL, pack1, lentOk, getLent, putBack, backK, renAV, renL, rr, Try.f20, hk, hn, hb, q47, eS, e49, g1, e50, ht, ht20, ht0, hP, hQ, hz]
            refine loop_go (fun i => {T := tp [(3, vi (tn : Int)), (10, .ref 0 [] 1 0 40 none), (11, .ref 1 [] 1 0 20 none), (16, vi 0), (17, vi (i : Int))], H := hp [some (putL cs 0 (S'.take i)), some S'], nx := 2}) tn ?_ (lt_LF (by omega)) (fun i hi Kn hK => ?_) (fun Kn => ?_)
            · simp only [vv, ff, norm, Array.toList, List.map, reduceIte, reduceCtorEq, Nat.reduceEqDiff, Nat.reduceAdd, Nat.reduceMul, Nat.reduceSub, Nat.reduceBEq, Nat.reduceLeDiff, Int.reduceLT, Int.reduceLE, Int.reduceGE, Int.reduceGT, Int.reduceBEq, Int.reduceBNe, Int.reduceToNat, Int.reduceNeg, Int.reduceSub, Int.reduceAdd, Int.reduceMul, finish, wkAV, resOf, resa, noSnap, noSnapL, noSnapO, keep, liveKeys, keysL, keysAV, renAV, renL, Int.natCast_zero, List.take_zero, putL_nil]
            · have hi20 : i < 20 := by omega
              obtain ⟨x, hx⟩ := hSg i hi20
              have w1 : IntKind.i64.wrap (0 + (i : Int)) = ((i : Nat) : Int) := by rw [wrap64 (by omega) (by omega)]; omega
              have q2 : decide ((i : Int) < ((20 : Nat) : Int)) = true := by simp; omega
              have q3 : decide ((i : Int) < ((40 : Nat) : Int)) = true := by simp; omega
              have hl1 : (putL cs 0 (S'.take i)).length = 40 := by rw [putL_len _ _ _ (by rw [List.length_take]; omega), hn]
              have q4 : decide (i + 1 ≤ (putL cs 0 (S'.take i)).length) = true := by rw [hl1]; simp; omega
              have hxe : S'[i]'(by omega) = iv .u8 x := by rw [List.getElem?_eq_getElem (by omega)] at hx; exact Option.some.inj hx
              have q5 : (putL cs 0 (S'.take i)).set i (iv .u8 x) = putL cs 0 (S'.take (i + 1)) := by
                have := putL_set cs 0 S' (i := i) (by omega) (by omega)
                rw [Nat.zero_add, hxe] at this; exact this
              simp only [vv, firstRegion, apartAll, clash, meets, execOp, opnd, builtinHM, bin, convHM, fillP, fieldsPlace, solid, inOrd, sliceHM, bound, zOK, appendHM, srcCells, borL, isSl, slLen, storeHM, loadHM, look1, idxAddr, arrAddr, cellsOf, TD.agg, loadedL, loaded, borrowed, isOwn, fieldR, partHM, absorbL, absorb1, setAt, killAV, killL, leafV, getR, isNil, nilV, Array.toList, List.map, reduceIte, reduceCtorEq, Nat.reduceEqDiff, Nat.reduceAdd, Nat.reduceMul, Nat.reduceSub, Nat.reduceBEq, Nat.reduceLeDiff, Int.reduceLT, Int.reduceLE, Int.reduceGE, Int.reduceGT, Int.reduceBEq, Int.reduceBNe, Int.reduceToNat, Int.reduceNeg, Int.reduceSub, Int.reduceAdd, Int.reduceMul, rr, lt_ok hi, w1, q2, q3, q4, q5, hx, wrap_succ hi (show tn ≤ 2 ^ 39 by omega)]
              refine hK _ ?_
              simp only [vv, ff, norm, Array.toList, List.map, reduceIte, reduceCtorEq, Nat.reduceEqDiff, Nat.reduceAdd, Nat.reduceMul, Nat.reduceSub, Nat.reduceBEq, Nat.reduceLeDiff, Int.reduceLT, Int.reduceLE, Int.reduceGE, Int.reduceGT, Int.reduceBEq, Int.reduceBNe, Int.reduceToNat, Int.reduceNeg, Int.reduceSub, Int.reduceAdd, Int.reduceMul, finish, wkAV, resOf, resa, noSnap, noSnapL, noSnapO, keep, liveKeys, keysL, keysAV, renAV, renL]
            · simp only [vv, firstRegion, apartAll, clash, meets, execOp, opnd, builtinHM, bin, convHM, fillP, fieldsPlace, solid, inOrd, sliceHM, bound, zOK, appendHM, srcCells, borL, isSl, slLen, storeHM, loadHM, look1, idxAddr, arrAddr, cellsOf, TD.agg, loadedL, loaded, borrowed, isOwn, fieldR, partHM, absorbL, absorb1, setAt, killAV, killL, leafV, getR, isNil, nilV, Array.toList, List.map, reduceIte, reduceCtorEq, Nat.reduceEqDiff, Nat.reduceAdd, Nat.reduceMul, Nat.reduceSub, Nat.reduceBEq, Nat.reduceLeDiff, Int.reduceLT, Int.reduceLE, Int.reduceGE, Int.reduceGT, Int.reduceBEq, Int.reduceBNe, Int.reduceToNat, Int.reduceNeg, Int.reduceSub, Int.reduceAdd, Int.reduceMul, rr, lt_no]
              have e3 : noSnapL (putL cs 0 (S'.take tn)) = true := by rw [← hSS, ← List.map_take]; exact isK_snap (isK_put hk (isK_map _ _))
              simp only [vv, ff, firstRegion, apartAll, clash, meets, execOp, opnd, builtinHM, bin, convHM, fillP, fieldsPlace, solid, inOrd, sliceHM, bound, zOK, appendHM, srcCells, borL, isSl, slLen, storeHM, loadHM, look1, idxAddr, arrAddr, cellsOf, TD.agg, loadedL, loaded, borrowed, isOwn, fieldR, partHM, absorbL, absorb1, setAt, killAV, killL, leafV, getR, isNil, nilV, Array.toList, List.map, reduceIte, reduceCtorEq, Nat.reduceEqDiff, Nat.reduceAdd, Nat.reduceMul, Nat.reduceSub, Nat.reduceBEq, Nat.reduceLeDiff, Int.reduceLT, Int.reduceLE, Int.reduceGE, Int.reduceGT, Int.reduceBEq, Int.reduceBNe, Int.reduceToNat, Int.reduceNeg, Int.reduceSub, Int.reduceAdd, Int.reduceMul, finish, wkAV, resOf, resa, noSnap, noSnapL, noSnapO, keep, liveKeys, keysL, keysAV, renAV, renL, rr, e3]
              simp [wrC, hw, hat, ← hSS, List.map_take]
  · have g1 : (((n : Nat) : Int) != 40) = true := by simp; omega
    have hw := wr_bad (c := c) (r := r) (t := t) hul (.inl h40)
    cases ho : okS c r with
    | false =>
      simp (maxDischargeDepth := 8) only [vv, cc, bb, firstRegion, apartAll, clash, meets, execOp, opnd, builtinHM, bin, convHM, fillP, fieldsPlace, solid, inOrd, sliceHM, bound, zOK, appendHM, srcCells, borL, isSl, slLen, storeHM, loadHM, look1, idxAddr, arrAddr, cellsOf, TD.agg, loadedL, loaded, borrowed, isOwn, fieldR, partHM, absorbL, absorb1, setAt, killAV, killL, leafV, getR, isNil, nilV, Array.toList, List.map, reduceIte, reduceCtorEq, Nat.reduceEqDiff, Nat.reduceAdd, Nat.reduceMul, Nat.reduceSub, Nat.reduceBEq, Nat.reduceLeDiff, Int.reduceLT, Int.reduceLE, Int.reduceGE, Int.reduceGT, Int.reduceBEq, Int.reduceBNe, Int.reduceToNat, Int.reduceNeg, Int.reduceSub, Int.reduceAdd, Int.reduceMul, callHM, packA, packL, pack1, lentOk, getLent, putBack, backK, renAV, renL, rr, Try.f20, hk, hn, hb, hl, q47, e48n _ _ _ ho, e49, g1]
      simp only [vv, ff, firstRegion, apartAll, clash, meets, execOp, opnd, builtinHM, bin, convHM, fillP, fieldsPlace, solid, inOrd, sliceHM, bound, zOK, appendHM, srcCells, borL, isSl, slLen, storeHM, loadHM, look1, idxAddr, arrAddr, cellsOf, TD.agg, loadedL, loaded, borrowed, isOwn, fieldR, partHM, absorbL, absorb1, setAt, killAV, killL, leafV, getR, isNil, nilV, Array.toList, List.map, reduceIte, reduceCtorEq, Nat.reduceEqDiff, Nat.reduceAdd, Nat.reduceMul, Nat.reduceSub, Nat.reduceBEq, Nat.reduceLeDiff, Int.reduceLT, Int.reduceLE, Int.reduceGE, Int.reduceGT, Int.reduceBEq, Int.reduceBNe, Int.reduceToNat, Int.reduceNeg, Int.reduceSub, Int.reduceAdd, Int.reduceMul, finish, wkAV, resOf, resa, noSnap, noSnapL, noSnapO, keep, liveKeys, keysL, keysAV, renAV, renL, rr, e2, hw, wrC]
    | true =>
      simp (maxDischargeDepth := 8) only [vv, cc, bb, firstRegion, apartAll, clash, meets, execOp, opnd, builtinHM, bin, convHM, fillP, fieldsPlace, solid, inOrd, sliceHM, bound, zOK, appendHM, srcCells, borL, isSl, slLen, storeHM, loadHM, look1, idxAddr, arrAddr, cellsOf, TD.agg, loadedL, loaded, borrowed, isOwn, fieldR, partHM, absorbL, absorb1, setAt, killAV, killL, leafV, getR, isNil, nilV, Array.toList, List.map, reduceIte, reduceCtorEq, Nat.reduceEqDiff, Nat.reduceAdd, Nat.reduceMul, Nat.reduceSub, Nat.reduceBEq, Nat.reduceLeDiff, Int.reduceLT, Int.reduceLE, Int.reduceGE, Int.reduceGT, Int.reduceBEq, Int.reduceBNe, Int.reduceToNat, Int.reduceNeg, Int.reduceSub, Int.reduceAdd, Int.reduceMul, callHM, packA, packL, pack1, lentOk, getLent, putBack, backK, renAV, renL, rr, Try.f20, hk, hn, hb, hl, q47, e48 _ _ _ ho, e49, g1]
      simp only [vv, ff, firstRegion, apartAll, clash, meets, execOp, opnd, builtinHM, bin, convHM, fillP, fieldsPlace, solid, inOrd, sliceHM, bound, zOK, appendHM, srcCells, borL, isSl, slLen, storeHM, loadHM, look1, idxAddr, arrAddr, cellsOf, TD.agg, loadedL, loaded, borrowed, isOwn, fieldR, partHM, absorbL, absorb1, setAt, killAV, killL, leafV, getR, isNil, nilV, Array.toList, List.map, reduceIte, reduceCtorEq, Nat.reduceEqDiff, Nat.reduceAdd, Nat.reduceMul, Nat.reduceSub, Nat.reduceBEq, Nat.reduceLeDiff, Int.reduceLT, Int.reduceLE, Int.reduceGE, Int.reduceGT, Int.reduceBEq, Int.reduceBNe, Int.reduceToNat, Int.reduceNeg, Int.reduceSub, Int.reduceAdd, Int.reduceMul, finish, wkAV, resOf, resa, noSnap, noSnapL, noSnapO, keep, liveKeys, keysL, keysAV, renAV, renL, rr, e2, hw, wrC]
theorem e22 (d : Nat) (tg : Tg) (cap : Option Nat) (n : Nat) (cs : List AV) (c r t : Int) (hk : isK .u8 cs = true) (hn : cs.length = n) (hb : B8 (un cs)) (h0 : 0 < n) (hl : n ≤ 549755813888) :
    evFun E (d+10) 22 [.sl tg 1 n cap cs, vi c, vi r, vi t] [] = some (.tup [.ref 0 [] 1 0 n none, vb (wrOK (un cs) c r t)], [some (wrC cs c r t)]) := by
  refine evFun_body b22 ?_
  have e2 := isK_snap hk
  have hul : (un cs).length = n := by rw [un_len]; exact hn
  by_cases h40 : n = 40
  · subst h40
    have g1 : (((40 : Nat) : Int) != 40) = false := by decide
    cases ho : okS c r with
    | false =>
      have hw := wr_bad (t := t) hul (.inr (.inl ho))
      simp (maxDischargeDepth := 8) only [vv, cc, bb, firstRegion, apartAll, clash, meets, execOp, opnd, builtinHM, bin, convHM, fillP, fieldsPlace, solid, inOrd, sliceHM, bound, zOK, appendHM, srcCells, borL, isSl, slLen, storeHM, loadHM, look1, idxAddr, arrAddr, cellsOf, TD.agg, loadedL, loaded, borrowed, isOwn, fieldR, partHM, absorbL, absorb1, setAt, killAV, killL, leafV, getR, isNil, nilV, Array.toList, List.map, reduceIte, reduceCtorEq, Nat.reduceEqDiff, Nat.reduceAdd, Nat.reduceMul, Nat.reduceSub, Nat.reduceBEq, Nat.reduceLeDiff, Int.reduceLT, Int.reduceLE, Int.reduceGE, Int.reduceGT, Int.reduceBEq, Int.reduceBNe, Int.reduceToNat, Int.reduceNeg, Int.reduceSub, Int.reduceAdd, Int.reduceMul, callHM, packA, packL, pack1, lentOk, getLent, putBack, backK, renAV, renL, rr, Try.f22, hk, hn, hb, h0, q51, e28n _ _ _ ho, e25, g1]
      simp only [vv, ff, firstRegion, apartAll, clash, meets, execOp, opnd, builtinHM, bin, convHM, fillP, fieldsPlace, solid, inOrd, sliceHM, bound, zOK, appendHM, srcCells, borL, isSl, slLen, storeHM, loadHM, look1, idxAddr, arrAddr, cellsOf, TD.agg, loadedL, loaded, borrowed, isOwn, fieldR, partHM, absorbL, absorb1, setAt, killAV, killL, leafV, getR, isNil, nilV, Array.toList, List.map, reduceIte, reduceCtorEq, Nat.reduceEqDiff, Nat.reduceAdd, Nat.reduceMul, Nat.reduceSub, Nat.reduceBEq, Nat.reduceLeDiff, Int.reduceLT, Int.reduceLE, Int.reduceGE, Int.reduceGT, Int.reduceBEq, Int.reduceBNe, Int.reduceToNat, Int.reduceNeg, Int.reduceSub, Int.reduceAdd, Int.reduceMul, finish, wkAV, resOf, resa, noSnap, noSnapL, noSnapO, keep, liveKeys, keysL, keysAV, renAV, renL, rr, e2, hw, wrC]
    | true =>
      cases ht : (decide (t ≥ 0) && decide (t ≤ 20)) with
      | false =>
        have hw := wr_bad (c := c) (r := r) hul (.inr (.inr (.inl ht)))
        simp (maxDischargeDepth := 8) only [vv, cc, bb, firstRegion, apartAll, clash, meets, execOp, opnd, builtinHM, bin, convHM, fillP, fieldsPlace, solid, inOrd, sliceHM, bound, zOK, appendHM, srcCells, borL, isSl, slLen, storeHM, loadHM, look1, idxAddr, arrAddr, cellsOf, TD.agg, loadedL, loaded, borrowed, isOwn, fieldR, partHM, absorbL, absorb1, setAt, killAV, killL, leafV, getR, isNil, nilV, Array.toList, List.map, reduceIte, reduceCtorEq, Nat.reduceEqDiff, Nat.reduceAdd, Nat.reduceMul, Nat.reduceSub, Nat.reduceBEq, Nat.reduceLeDiff, Int.reduceLT, Int.reduceLE, Int.reduceGE, Int.reduceGT, Int.reduceBEq, Int.reduceBNe, Int.reduceToNat, Int.reduceNeg, Int.reduceSub, Int.reduceAdd, Int.reduceMul, callHM, packA, packL, pack1, lentOk, getLent, putBack, backK, renAV, renL, rr, Try.f22, hk, hn, hb, h0, q51, e28 _ _ _ ho, e25, g1, e52, ht]
        simp only [vv, ff, firstRegion, apartAll, clash, meets, execOp, opnd, builtinHM, bin, convHM, fillP, fieldsPlace, solid, inOrd, sliceHM, bound, zOK, appendHM, srcCells, borL, isSl, slLen, storeHM, loadHM, look1, idxAddr, arrAddr, cellsOf, TD.agg, loadedL, loaded, borrowed, isOwn, fieldR, partHM, absorbL, absorb1, setAt, killAV, killL, leafV, getR, isNil, nilV, Array.toList, List.map, reduceIte, reduceCtorEq, Nat.reduceEqDiff, Nat.reduceAdd, Nat.reduceMul, Nat.reduceSub, Nat.reduceBEq, Nat.reduceLeDiff, Int.reduceLT, Int.reduceLE, Int.reduceGE, Int.reduceGT, Int.reduceBEq, Int.reduceBNe, Int.reduceToNat, Int.reduceNeg, Int.reduceSub, Int.reduceAdd, Int.reduceMul, finish, wkAV, resOf, resa, noSnap, noSnapL, noSnapO, keep, liveKeys, keysL, keysAV, renAV, renL, rr, e2, hw, wrC]
      | true =>
        have ht' := ht
        simp only [Bool.and_eq_true, decide_eq_true_eq] at ht'
        obtain ⟨tn, rfl⟩ := Int.eq_ofNat_of_zero_le ht'.1
        have htn : tn ≤ 20 := by omega
        have ht20 : decide ((tn : Int) ≤ 20) = true := by simp; omega
        have ht0 : decide ((tn : Int) ≥ 0) = true := by simp
        cases hP : decide ((rdV (un cs)).2.2 ≥ 0) <;> cases hQ : decide (c ≤ (rdV (un cs)).1)
        case true.true =>
          have hw := wr_bad (c := c) (r := r) (t := (tn : Int)) hul (.inr (.inr (.inr ⟨hP, hQ⟩)))
          simp (maxDischargeDepth := 8) only [vv, cc, bb, firstRegion, apartAll, clash, meets, execOp, opnd, builtinHM, bin, convHM, fillP, fieldsPlace, solid, inOrd, sliceHM, bound, zOK, appendHM, srcCells, borL, isSl, slLen, storeHM, loadHM, look1, idxAddr, arrAddr, cellsOf, TD.agg, loadedL, loaded, borrowed, isOwn, fieldR, partHM, absorbL, absorb1, setAt, killAV, killL, leafV, getR, isNil, nilV, Array.toList, List.map, reduceIte, reduceCtorEq, Nat.reduceEqDiff, Nat.reduceAdd, Nat.reduceMul, Nat.reduceSub, Nat.reduceBEq, Nat.reduceLeDiff, Int.reduceLT, Int.reduceLE, Int.reduceGE, Int.reduceGT, Int.reduceBEq, Int.reduceBNe, Int.reduceToNat, Int.reduceNeg, Int.reduceSub, Int.reduceAdd, Int.reduceMul, callHM, packA, packL, pack1, lentOk, getLent, putBack, backK, renAV, renL, rr, Try.f22, hk, hn, hb, h0, q51, e28 _ _ _ ho, e25, g1, e52, ht, ht20, ht0, hP, hQ]
          simp only [vv, ff, firstRegion, apartAll, clash, meets, execOp, opnd, builtinHM, bin, convHM, fillP, fieldsPlace, solid, inOrd, sliceHM, bound, zOK, appendHM, srcCells, borL, isSl, slLen, storeHM, loadHM, look1, idxAddr, arrAddr, cellsOf, TD.agg, loadedL, loaded, borrowed, isOwn, fieldR, partHM, absorbL, absorb1, setAt, killAV, killL, leafV, getR, isNil, nilV, Array.toList, List.map, reduceIte, reduceCtorEq, Nat.reduceEqDiff, Nat.reduceAdd, Nat.reduceMul, Nat.reduceSub, Nat.reduceBEq, Nat.reduceLeDiff, Int.reduceLT, Int.reduceLE, Int.reduceGE, Int.reduceGT, Int.reduceBEq, Int.reduceBNe, Int.reduceToNat, Int.reduceNeg, Int.reduceSub, Int.reduceAdd, Int.reduceMul, finish, wkAV, resOf, resa, noSnap, noSnapL, noSnapO, keep, liveKeys, keysL, keysAV, renAV, renL, rr, e2, hw, wrC]
        all_goals
          have hw : wrOK (un cs) c r tn = true := by simp [wrOK, hul, ho, ht', hP, hQ]; try omega
        all_goals
          have eS : ∀ d, evFun E (d+7) 28 [vi c, vi r] [] = some (.tup [.ref 0 [] 1 0 20 none, vb true], [some ((slotL c r).map (iv .u8))]) := fun d => e28 d c r ho
          have hS' : ((slotL c r).map (iv .u8)).length = 20 := by rw [List.length_map, slot_len]
          generalize hSS : (slotL c r).map (iv .u8) = S' at eS hS'
          have hSn : noSnapL S' = true := by rw [← hSS]; exact noSnapL_iv _ _
          have hSo : (S'.take tn).any isOwn = false := by rw [← hSS, ← List.map_take]; exact anyOwn_iv _ _
          have hSl : (S'.take tn).length = tn := by rw [List.length_take]; omega
          have htn20 : decide (tn ≤ 20) = true := by simp; omega
          have htn40 : decide (tn ≤ 40) = true := by simp; omega
          cases hz : ((rdV (un cs)).2.2 == 0) with
          | true =>
            have hat : wrAt (un cs) = 20 := by simp only [wrAt, hz, if_true]
            by_cases h00 : tn = 0
            · subst h00
              simp (maxDischargeDepth := 8) only [vv, cc, bb, firstRegion, apartAll, clash, meets, execOp, opnd, builtinHM, bin, convHM, fillP, fieldsPlace, solid, inOrd, sliceHM, bound, zOK, appendHM, srcCells, borL, isSl, slLen, storeHM, loadHM, look1, idxAddr, arrAddr, cellsOf, TD.agg, loadedL, loaded, borrowed, isOwn, fieldR, partHM, absorbL, absorb1, setAt, killAV, killL, leafV, getR, isNil, nilV, Array.toList, List.map, reduceIte, reduceCtorEq, Nat.reduceEqDiff, Nat.reduceAdd, Nat.reduceMul, Nat.reduceSub, Nat.reduceBEq, Nat.reduceLeDiff, Int.reduceLT, Int.reduceLE, Int.reduceGE, Int.reduceGT, Int.reduceBEq, Int.reduceBNe, Int.reduceToNat, Int.reduceNeg, Int.reduceSub, Int.reduceAdd, Int.reduceMul, callHM, packA, packL, pack1, lentOk, getLent, putBack, backK, renAV, renL, rr, Try.f22, hk, hn, hb, h0, q51, eS, e25, g1, e52, ht, ht20, ht0, hP, hQ, hz, hS', copyHM]
              repeat' ((with_reducible refine condT ?_ ?_); (focus kernel_rfl); try simp (maxDischargeDepth := 8) only [vv, cc, bb, firstRegion, apartAll, clash, meets, execOp, opnd, builtinHM, bin, convHM, fillP, fieldsPlace, solid, inOrd, sliceHM, bound, zOK, appendHM, srcCells, borL, isSl, slLen, storeHM, loadHM, look1, idxAddr, arrAddr, cellsOf, TD.agg, loadedL, loaded, borrowed, isOwn, fieldR, partHM, absorbL, absorb1, setAt, killAV, killL, leafV, getR, isNil, nilV, Array.toList, List.map, reduceIte, reduceCtorEq, Nat.reduceEqDiff, Nat.reduceAdd, Nat.reduceMul, Nat.reduceSub, Nat.reduceBEq, Nat.reduceLeDiff, Int.reduceLT, Int.reduceLE, Int.reduceGE, Int.reduceGT, Int.reduceBEq, Int.reduceBNe, Int.reduceToNat, Int.reduceNeg, Int.reduceSub, Int.reduceAdd, Int.reduceMul, callHM, packA, packL, pack1, lentOk, getLent, putBack, backK, renAV, renL, rr, copyHM])
              simp only [vv, ff, firstRegion, apartAll, clash, meets, execOp, opnd, builtinHM, bin, convHM, fillP, fieldsPlace, solid, inOrd, sliceHM, bound, zOK, appendHM, srcCells, borL, isSl, slLen, storeHM, loadHM, look1, idxAddr, arrAddr, cellsOf, TD.agg, loadedL, loaded, borrowed, isOwn, fieldR, partHM, absorbL, absorb1, setAt, killAV, killL, leafV, getR, isNil, nilV, Array.toList, List.map, reduceIte, reduceCtorEq, Nat.reduceEqDiff, Nat.reduceAdd, Nat.reduceMul, Nat.reduceSub, Nat.reduceBEq, Nat.reduceLeDiff, Int.reduceLT, Int.reduceLE, Int.reduceGE, Int.reduceGT, Int.reduceBEq, Int.reduceBNe, Int.reduceToNat, Int.reduceNeg, Int.reduceSub, Int.reduceAdd, Int.reduceMul, finish, wkAV, resOf, resa, noSnap, noSnapL, noSnapO, keep, liveKeys, keysL, keysAV, renAV, renL, rr, e2]
              simp [wrC, show wrOK (un cs) c r 0 = true from hw, hat, putL_nil]
            · have e1 : decide (tn = 0) = false := by simp; exact h00
              have e5 : decide (0 < tn) = true := by simp; omega
              have e6 : decide (20 + tn ≤ 40) = true := by simp; omega
              have e7 : setAt cs 20 (S'.take tn) = putL cs 20 (S'.take tn) := setAt_put _ _ _ (by omega)
              have e3 : noSnapL (putL cs 20 (S'.take tn)) = true := by rw [← hSS, ← List.map_take]; exact isK_snap (isK_put hk (isK_map _ _))
              simp (maxDischargeDepth := 8) only [vv, cc, bb, firstRegion, apartAll, clash, meets, execOp, opnd, builtinHM, bin, convHM, fillP, fieldsPlace, solid, inOrd, sliceHM, bound, zOK, appendHM, srcCells, borL, isSl, slLen, storeHM, loadHM, look1, idxAddr, arrAddr, cellsOf, TD.agg, loadedL, loaded, borrowed, isOwn, fieldR, partHM, absorbL, absorb1, setAt, killAV, killL, leafV, getR, isNil, nilV, Array.toList, List.map, reduceIte, reduceCtorEq, Nat.reduceEqDiff, Nat.reduceAdd, Nat.reduceMul, Nat.reduceSub, Nat.reduceBEq, Nat.reduceLeDiff, Int.reduceLT, Int.reduceLE, Int.reduceGE, Int.reduceGT, Int.reduceBEq, Int.reduceBNe, Int.reduceToNat, Int.reduceNeg, Int.reduceSub, Int.reduceAdd, Int.reduceMul, callHM, packA, packL, pack1, lentOk, getLent, putBack, backK, renAV, renL, rr, Try.f22, hk, hn, hb, h0, q51, eS, e25, g1, e52, ht, ht20, ht0, hP, hQ, hz, hS', copyHM, Int.sub_zero, ht20, htn20, htn40, hSo, hSl, e1, e5, e6, e7]
              repeat' ((with_reducible refine condT ?_ ?_); (focus kernel_rfl); try simp (maxDischargeDepth := 8) only [vv, cc, bb, firstRegion, apartAll, clash, meets, execOp, opnd, builtinHM, bin, convHM, fillP, fieldsPlace, solid, inOrd, sliceHM, bound, zOK, appendHM, srcCells, borL, isSl, slLen, storeHM, loadHM, look1, idxAddr, arrAddr, cellsOf, TD.agg, loadedL, loaded, borrowed, isOwn, fieldR, partHM, absorbL, absorb1, setAt, killAV, killL, leafV, getR, isNil, nilV, Array.toList, List.map, reduceIte, reduceCtorEq, Nat.reduceEqDiff, Nat.reduceAdd, Nat.reduceMul, Nat.reduceSub, Nat.reduceBEq, Nat.reduceLeDiff, Int.reduceLT, Int.reduceLE, Int.reduceGE, Int.reduceGT, Int.reduceBEq, Int.reduceBNe, Int.reduceToNat, Int.reduceNeg, Int.reduceSub, Int.reduceAdd, Int.reduceMul, callHM, packA, packL, pack1, lentOk, getLent, putBack, backK, renAV, renL, rr, copyHM])
              simp only [vv, ff, firstRegion, apartAll, clash, meets, execOp, opnd, builtinHM, bin, convHM, fillP, fieldsPlace, solid, inOrd, sliceHM, bound, zOK, appendHM, srcCells, borL, isSl, slLen, storeHM, loadHM, look1, idxAddr, arrAddr, cellsOf, TD.agg, loadedL, loaded, borrowed, isOwn, fieldR, partHM, absorbL, absorb1, setAt, killAV, killL, leafV, getR, isNil, nilV, Array.toList, List.map, reduceIte, reduceCtorEq, Nat.reduceEqDiff, Nat.reduceAdd, Nat.reduceMul, Nat.reduceSub, Nat.reduceBEq, Nat.reduceLeDiff, Int.reduceLT, Int.reduceLE, Int.reduceGE, Int.reduceGT, Int.reduceBEq, Int.reduceBNe, Int.reduceToNat, Int.reduceNeg, Int.reduceSub, Int.reduceAdd, Int.reduceMul, finish, wkAV, resOf, resa, noSnap, noSnapL, noSnapO, keep, liveKeys, keysL, keysAV, renAV, renL, rr, e3]
              simp [wrC, hw, hat, ← hSS, List.map_take]
          | false =>
            have hat : wrAt (un cs) = 0 := by simp only [wrAt, hz]; rfl
            by_cases h00 : tn = 0
            · subst h00
              simp (maxDischargeDepth := 8) only [vv, cc, bb, firstRegion, apartAll, clash, meets, execOp, opnd, builtinHM, bin, convHM, fillP, fieldsPlace, solid, inOrd, sliceHM, bound, zOK, appendHM, srcCells, borL, isSl, slLen, storeHM, loadHM, look1, idxAddr, arrAddr, cellsOf, TD.agg, loadedL, loaded, borrowed, isOwn, fieldR, partHM, absorbL, absorb1, setAt, killAV, killL, leafV, getR, isNil, nilV, Array.toList, List.map, reduceIte, reduceCtorEq, Nat.reduceEqDiff, Nat.reduceAdd, Nat.reduceMul, Nat.reduceSub, Nat.reduceBEq, Nat.reduceLeDiff, Int.reduceLT, Int.reduceLE, Int.reduceGE, Int.reduceGT, Int.reduceBEq, Int.reduceBNe, Int.reduceToNat, Int.reduceNeg, Int.reduceSub, Int.reduceAdd, Int.reduceMul, callHM, packA, packL, pack1, lentOk, getLent, putBack, backK, renAV, renL, rr, Try.f22, hk, hn, hb, h0, q51, eS, e25, g1, e52, ht, ht20, ht0, hP, hQ, hz, hS', copyHM]
              repeat' ((with_reducible refine condT ?_ ?_); (focus kernel_rfl); try simp (maxDischargeDepth := 8) only [vv, cc, bb, firstRegion, apartAll, clash, meets, execOp, opnd, builtinHM, bin, convHM, fillP, fieldsPlace, solid, inOrd, sliceHM, bound, zOK, appendHM, srcCells, borL, isSl, slLen, storeHM, loadHM, look1, idxAddr, arrAddr, cellsOf, TD.agg, loadedL, loaded, borrowed, isOwn, fieldR, partHM, absorbL, absorb1, setAt, killAV, killL, leafV, getR, isNil, nilV, Array.toList, List.map, reduceIte, reduceCtorEq, Nat.reduceEqDiff, Nat.reduceAdd, Nat.reduceMul, Nat.reduceSub, Nat.reduceBEq, Nat.reduceLeDiff, Int.reduceLT, Int.reduceLE, Int.reduceGE, Int.reduceGT, Int.reduceBEq, Int.reduceBNe, Int.reduceToNat, Int.reduceNeg, Int.reduceSub, Int.reduceAdd, Int.reduceMul, callHM, packA, packL, pack1, lentOk, getLent, putBack, backK, renAV, renL, rr, copyHM])
              simp only [vv, ff, firstRegion, apartAll, clash, meets, execOp, opnd, builtinHM, bin, convHM, fillP, fieldsPlace, solid, inOrd, sliceHM, bound, zOK, appendHM, srcCells, borL, isSl, slLen, storeHM, loadHM, look1, idxAddr, arrAddr, cellsOf, TD.agg, loadedL, loaded, borrowed, isOwn, fieldR, partHM, absorbL, absorb1, setAt, killAV, killL, leafV, getR, isNil, nilV, Array.toList, List.map, reduceIte, reduceCtorEq, Nat.reduceEqDiff, Nat.reduceAdd, Nat.reduceMul, Nat.reduceSub, Nat.reduceBEq, Nat.reduceLeDiff, Int.reduceLT, Int.reduceLE, Int.reduceGE, Int.reduceGT, Int.reduceBEq, Int.reduceBNe, Int.reduceToNat, Int.reduceNeg, Int.reduceSub, Int.reduceAdd, Int.reduceMul, finish, wkAV, resOf, resa, noSnap, noSnapL, noSnapO, keep, liveKeys, keysL, keysAV, renAV, renL, rr, e2]
              simp [wrC, show wrOK (un cs) c r 0 = true from hw, hat, putL_nil]
            · have e1 : decide (tn = 0) = false := by simp; exact h00
              have e5 : decide (0 < tn) = true := by simp; omega
              have e7 : setAt cs 0 (S'.take tn) = putL cs 0 (S'.take tn) := setAt_put _ _ _ (by omega)
              have e3 : noSnapL (putL cs 0 (S'.take tn)) = true := by rw [← hSS, ← List.map_take]; exact isK_snap (isK_put hk (isK_map _ _))
              simp (maxDischargeDepth := 8) only [vv, cc, bb, firstRegion, apartAll, clash, meets, execOp, opnd, builtinHM, bin, convHM, fillP, fieldsPlace, solid, inOrd, sliceHM, bound, zOK, appendHM, srcCells, borL, isSl, slLen, storeHM, loadHM, look1, idxAddr, arrAddr, cellsOf, TD.agg, loadedL, loaded, borrowed, isOwn, fieldR, partHM, absorbL, absorb1, setAt, killAV, killL, leafV, getR, isNil, nilV, Array.toList, List.map, reduceIte, reduceCtorEq, Nat.reduceEqDiff, Nat.reduceAdd, Nat.reduceMul, Nat.reduceSub, Nat.reduceBEq, Nat.reduceLeDiff, Int.reduceLT, Int.reduceLE, Int.reduceGE, Int.reduceGT, Int.reduceBEq, Int.reduceBNe, Int.reduceToNat, Int.reduceNeg, Int.reduceSub, Int.reduceAdd, Int.reduceMul, callHM, packA, packL, pack1, lentOk, getLent, putBack, backK, renAV, renL, rr, Try.f22, hk, hn, hb, h0, q51, eS, e25, g1, e52, ht, ht20, ht0, hP, hQ, hz, hS', copyHM, Int.sub_zero, ht20, htn20, htn40, hSo, hSl, e1, e5, e7]
              repeat' ((with_reducible refine condT ?_ ?_); (focus kernel_rfl); try simp (maxDischargeDepth := 8) only [vv, cc, bb, firstRegion, apartAll, clash, meets, execOp, opnd, builtinHM, bin, convHM, fillP, fieldsPlace, solid, inOrd, sliceHM, bound, zOK, appendHM, srcCells, borL, isSl, slLen, storeHM, loadHM, look1, idxAddr, arrAddr, cellsOf, TD.agg, loadedL, loaded, borrowed, isOwn, fieldR, partHM, absorbL, absorb1, setAt, killAV, killL, leafV, getR, isNil, nilV, Array.toList, List.map, reduceIte, reduceCtorEq, Nat.reduceEqDiff, Nat.reduceAdd, Nat.reduceMul, Nat.reduceSub, Nat.reduceBEq, Nat.reduceLeDiff, Int.reduceLT, Int.reduceLE, Int.reduceGE, Int.reduceGT, Int.reduceBEq, Int.reduceBNe, Int.reduceToNat, Int.reduceNeg, Int.reduceSub, Int.reduceAdd, Int.reduceMul, callHM, packA, packL, pack1, lentOk, getLent, putBack, backK, renAV, renL, rr, copyHM])
              simp only [vv, ff, firstRegion, apartAll, clash, meets, execOp, opnd, builtinHM, bin, convHM, fillP, fieldsPlace, solid, inOrd, sliceHM, bound, zOK, appendHM, srcCells, borL, isSl, slLen, storeHM, loadHM, look1, idxAddr, arrAddr, cellsOf, TD.agg, loadedL, loaded, borrowed, isOwn, fieldR, partHM, absorbL, absorb1, setAt, killAV, killL, leafV, getR, isNil, nilV, Array.toList, List.map, reduceIte, reduceCtorEq, Nat.reduceEqDiff, Nat.reduceAdd, Nat.reduceMul, Nat.reduceSub, Nat.reduceBEq, Nat.reduceLeDiff, Int.reduceLT, Int.reduceLE, Int.reduceGE, Int.reduceGT, Int.reduceBEq, Int.reduceBNe, Int.reduceToNat, Int.reduceNeg, Int.reduceSub, Int.reduceAdd, Int.reduceMul, finish, wkAV, resOf, resa, noSnap, noSnapL, noSnapO, keep, liveKeys, keysL, keysAV, renAV, renL, rr, e3]
              simp [wrC, hw, hat, ← hSS, List.map_take]
  · have g1 : (((n : Nat) : Int) != 40) = true := by simp; omega
    have hw := wr_bad (c := c) (r := r) (t := t) hul (.inl h40)
    cases ho : okS c r with
    | false =>
      simp (maxDischargeDepth := 8) only [vv, cc, bb, firstRegion, apartAll, clash, meets, execOp, opnd, builtinHM, bin, convHM, fillP, fieldsPlace, solid, inOrd, sliceHM, bound, zOK, appendHM, srcCells, borL, isSl, slLen, storeHM, loadHM, look1, idxAddr, arrAddr, cellsOf, TD.agg, loadedL, loaded, borrowed, isOwn, fieldR, partHM, absorbL, absorb1, setAt, killAV, killL, leafV, getR, isNil, nilV, Array.toList, List.map, reduceIte, reduceCtorEq, Nat.reduceEqDiff, Nat.reduceAdd, Nat.reduceMul, Nat.reduceSub, Nat.reduceBEq, Nat.reduceLeDiff, Int.reduceLT, Int.reduceLE, Int.reduceGE, Int.reduceGT, Int.reduceBEq, Int.reduceBNe, Int.reduceToNat, Int.reduceNeg, Int.reduceSub, Int.reduceAdd, Int.reduceMul, callHM, packA, packL, pack1, lentOk, getLent, putBack, backK, renAV, renL, rr, Try.f22, hk, hn, hb, hl, h0, q51, e28n _ _ _ ho, e25, g1]
      simp only [vv, ff, firstRegion, apartAll, clash, meets, execOp, opnd, builtinHM, bin, convHM, fillP, fieldsPlace, solid, inOrd, sliceHM, bound, zOK, appendHM, srcCells, borL, isSl, slLen, storeHM, loadHM, look1, idxAddr, arrAddr, cellsOf, TD.agg, loadedL, loaded, borrowed, isOwn, fieldR, partHM, absorbL, absorb1, setAt, killAV, killL, leafV, getR, isNil, nilV, Array.toList, List.map, reduceIte, reduceCtorEq, Nat.reduceEqDiff, Nat.reduceAdd, Nat.reduceMul, Nat.reduceSub, Nat.reduceBEq, Nat.reduceLeDiff, Int.reduceLT, Int.reduceLE, Int.reduceGE, Int.reduceGT, Int.reduceBEq, Int.reduceBNe, Int.reduceToNat, Int.reduceNeg, Int.reduceSub, Int.reduceAdd, Int.reduceMul, finish, wkAV, resOf, resa, noSnap, noSnapL, noSnapO, keep, liveKeys, keysL, keysAV, renAV, renL, rr, e2, hw, wrC]
    | true =>
      simp (maxDischargeDepth := 8) only [vv, cc, bb, firstRegion, apartAll, clash, meets, execOp, opnd, builtinHM, bin, convHM, fillP, fieldsPlace, solid, inOrd, sliceHM, bound, zOK, appendHM, srcCells, borL, isSl, slLen, storeHM, loadHM, look1, idxAddr, arrAddr, cellsOf, TD.agg, loadedL, loaded, borrowed, isOwn, fieldR, partHM, absorbL, absorb1, setAt, killAV, killL, leafV, getR, isNil, nilV, Array.toList, List.map, reduceIte, reduceCtorEq, Nat.reduceEqDiff, Nat.reduceAdd, Nat.reduceMul, Nat.reduceSub, Nat.reduceBEq, Nat.reduceLeDiff, Int.reduceLT, Int.reduceLE, Int.reduceGE, Int.reduceGT, Int.reduceBEq, Int.reduceBNe, Int.reduceToNat, Int.reduceNeg, Int.reduceSub, Int.reduceAdd, Int.reduceMul, callHM, packA, packL, pack1, lentOk, getLent, putBack, backK, renAV, renL, rr, Try.f22, hk, hn, hb, hl, h0, q51, e28 _ _ _ ho, e25, g1]
      simp only [vv, ff, firstRegion, apartAll, clash, meets, execOp, opnd, builtinHM, bin, convHM, fillP, fieldsPlace, solid, inOrd, sliceHM, bound, zOK, appendHM, srcCells, borL, isSl, slLen, storeHM, loadHM, look1, idxAddr, arrAddr, cellsOf, TD.agg, loadedL, loaded, borrowed, isOwn, fieldR, partHM, absorbL, absorb1, setAt, killAV, killL, leafV, getR, isNil, nilV, Array.toList, List.map, reduceIte, reduceCtorEq, Nat.reduceEqDiff, Nat.reduceAdd, Nat.reduceMul, Nat.reduceSub, Nat.reduceBEq, Nat.reduceLeDiff, Int.reduceLT, Int.reduceLE, Int.reduceGE, Int.reduceGT, Int.reduceBEq, Int.reduceBNe, Int.reduceToNat, Int.reduceNeg, Int.reduceSub, Int.reduceAdd, Int.reduceMul, finish, wkAV, resOf, resa, noSnap, noSnapL, noSnapO, keep, liveKeys, keysL, keysAV, renAV, renL, rr, e2, hw, wrC]
theorem z22 (d : Nat) (tg : Tg) (cap : Option Nat) (c r t : Int) : evFun E (d+10) 22 [.sl tg 1 0 cap [], vi c, vi r, vi t] [] = some (.tup [.sl .fgn 1 0 none [], vb false], []) := by
  refine evFun_body b22 ?_
  have g1 : (((0 : Nat) : Int) != 40) = true := by decide
  cases ho : okS c r with
  | false =>
    simp (maxDischargeDepth := 8) only [vv, cc, bb, firstRegion, apartAll, clash, meets, execOp, opnd, builtinHM, bin, convHM, fillP, fieldsPlace, solid, inOrd, sliceHM, bound, zOK, appendHM, srcCells, borL, isSl, slLen, storeHM, loadHM, look1, idxAddr, arrAddr, cellsOf, TD.agg, loadedL, loaded, borrowed, isOwn, fieldR, partHM, absorbL, absorb1, setAt, killAV, killL, leafV, getR, isNil, nilV, Array.toList, List.map, reduceIte, reduceCtorEq, Nat.reduceEqDiff, Nat.reduceAdd, Nat.reduceMul, Nat.reduceSub, Nat.reduceBEq, Nat.reduceLeDiff, Int.reduceLT, Int.reduceLE, Int.reduceGE, Int.reduceGT, Int.reduceBEq, Int.reduceBNe, Int.reduceToNat, Int.reduceNeg, Int.reduceSub, Int.reduceAdd, Int.reduceMul, callHM, packA, packL, pack1, lentOk, getLent, putBack, backK, renAV, renL, rr, Try.f22, z51, e28n _ _ _ ho, e25, g1]
    simp only [vv, ff, firstRegion, apartAll, clash, meets, execOp, opnd, builtinHM, bin, convHM, fillP, fieldsPlace, solid, inOrd, sliceHM, bound, zOK, appendHM, srcCells, borL, isSl, slLen, storeHM, loadHM, look1, idxAddr, arrAddr, cellsOf, TD.agg, loadedL, loaded, borrowed, isOwn, fieldR, partHM, absorbL, absorb1, setAt, killAV, killL, leafV, getR, isNil, nilV, Array.toList, List.map, reduceIte, reduceCtorEq, Nat.reduceEqDiff, Nat.reduceAdd, Nat.reduceMul, Nat.reduceSub, Nat.reduceBEq, Nat.reduceLeDiff, Int.reduceLT, Int.reduceLE, Int.reduceGE, Int.reduceGT, Int.reduceBEq, Int.reduceBNe, Int.reduceToNat, Int.reduceNeg, Int.reduceSub, Int.reduceAdd, Int.reduceMul, finish, wkAV, resOf, resa, noSnap, noSnapL, noSnapO, keep, liveKeys, keysL, keysAV, renAV, renL, rr]
  | true =>
    simp (maxDischargeDepth := 8) only [vv, cc, bb, firstRegion, apartAll, clash, meets, execOp, opnd, builtinHM, bin, convHM, fillP, fieldsPlace, solid, inOrd, sliceHM, bound, zOK, appendHM, srcCells, borL, isSl, slLen, storeHM, loadHM, look1, idxAddr, arrAddr, cellsOf, TD.agg, loadedL, loaded, borrowed, isOwn, fieldR, partHM, absorbL, absorb1, setAt, killAV, killL, leafV, getR, isNil, nilV, Array.toList, List.map, reduceIte, reduceCtorEq, Nat.reduceEqDiff, Nat.reduceAdd, Nat.reduceMul, Nat.reduceSub, Nat.reduceBEq, Nat.reduceLeDiff, Int.reduceLT, Int.reduceLE, Int.reduceGE, Int.reduceGT, Int.reduceBEq, Int.reduceBNe, Int.reduceToNat, Int.reduceNeg, Int.reduceSub, Int.reduceAdd, Int.reduceMul, callHM, packA, packL, pack1, lentOk, getLent, putBack, backK, renAV, renL, rr, Try.f22, z51, e28 _ _ _ ho, e25, g1]
    simp only [vv, ff, firstRegion, apartAll, clash, meets, execOp, opnd, builtinHM, bin, convHM, fillP, fieldsPlace, solid, inOrd, sliceHM, bound, zOK, appendHM, srcCells, borL, isSl, slLen, storeHM, loadHM, look1, idxAddr, arrAddr, cellsOf, TD.agg, loadedL, loaded, borrowed, isOwn, fieldR, partHM, absorbL, absorb1, setAt, killAV, killL, leafV, getR, isNil, nilV, Array.toList, List.map, reduceIte, reduceCtorEq, Nat.reduceEqDiff, Nat.reduceAdd, Nat.reduceMul, Nat.reduceSub, Nat.reduceBEq, Nat.reduceLeDiff, Int.reduceLT, Int.reduceLE, Int.reduceGE, Int.reduceGT, Int.reduceBEq, Int.reduceBNe, Int.reduceToNat, Int.reduceNeg, Int.reduceSub, Int.reduceAdd, Int.reduceMul, finish, wkAV, resOf, resa, noSnap, noSnapL, noSnapO, keep, liveKeys, keysL, keysAV, renAV, renL, rr]
end Go.Proofs.Ytjkkndgbhcmphaa.VH.S
end

section
namespace Go.Proofs.Ytjkkndgbhcmphaa.VH.S
open Go.Proofs
set_option maxRecDepth 100000
set_option maxHeartbeats 8000000
set_option linter.unusedSimpArgs false

theorem e79 (d : Nat) (b : List Int) (s : Nat × Int) (hb : b.length ≤ 2 ^ 39) : evFun E (d+1) 79 [.ptr 0 [] 0] [curC b s] = some (vi (by1 b s).1, [some (curC b (by1 b s).2)]) := by
  refine evFun_body b79 ?_
  obtain ⟨i, h⟩ := s
  by_cases hi : i < b.length
  · have hg : b[i]?.getD 0 = b[i] := by rw [List.getElem?_eq_getElem hi]; rfl
    simp (maxDischargeDepth := 8) only [vv, cc, bb, firstRegion, apartAll, clash, meets, execOp, opnd, builtinHM, bin, convHM, fillP, fieldsPlace, solid, inOrd, sliceHM, bound, zOK, appendHM, srcCells, borL, isSl, slLen, storeHM, loadHM, look1, idxAddr, arrAddr, cellsOf, TD.agg, loadedL, loaded, borrowed, isOwn, fieldR, partHM, absorbL, absorb1, setAt, killAV, killL, leafV, getR, isNil, nilV, Array.toList, List.map, bne_self_eq_false, reduceIte, reduceCtorEq, Nat.reduceEqDiff, Nat.reduceAdd, Nat.reduceMul, Nat.reduceSub, Nat.reduceBEq, Nat.reduceLeDiff, Int.reduceLT, Int.reduceLE, Int.reduceGE, Int.reduceGT, Int.reduceBEq, Int.reduceBNe, Int.reduceToNat, Int.reduceNeg, Int.reduceSub, Int.reduceAdd, Int.reduceMul, callHM, packA, packL, pack1, lentOk, getLent, putBack, backK, renAV, renL, rr, Try.f79, curC, bin_xorI, bin_andI, lt_ok hi, map_get hi, wrap_succ hi hb]
    repeat' ((with_reducible refine condT ?_ ?_); (focus kernel_rfl); try simp (maxDischargeDepth := 8) only [vv, cc, bb, firstRegion, apartAll, clash, meets, execOp, opnd, builtinHM, bin, convHM, fillP, fieldsPlace, solid, inOrd, sliceHM, bound, zOK, appendHM, srcCells, borL, isSl, slLen, storeHM, loadHM, look1, idxAddr, arrAddr, cellsOf, TD.agg, loadedL, loaded, borrowed, isOwn, fieldR, partHM, absorbL, absorb1, setAt, killAV, killL, leafV, getR, isNil, nilV, Array.toList, List.map, bne_self_eq_false, reduceIte, reduceCtorEq, Nat.reduceEqDiff, Nat.reduceAdd, Nat.reduceMul, Nat.reduceSub, Nat.reduceBEq, Nat.reduceLeDiff, Int.reduceLT, Int.reduceLE, Int.reduceGE, Int.reduceGT, Int.reduceBEq, Int.reduceBNe, Int.reduceToNat, Int.reduceNeg, Int.reduceSub, Int.reduceAdd, Int.reduceMul, callHM, packA, packL, pack1, lentOk, getLent, putBack, backK, renAV, renL, rr, bin_xorI, bin_andI, lt_ok hi, map_get hi, wrap_succ hi hb])
    simp only [vv, ff, firstRegion, apartAll, clash, meets, execOp, opnd, builtinHM, bin, convHM, fillP, fieldsPlace, solid, inOrd, sliceHM, bound, zOK, appendHM, srcCells, borL, isSl, slLen, storeHM, loadHM, look1, idxAddr, arrAddr, cellsOf, TD.agg, loadedL, loaded, borrowed, isOwn, fieldR, partHM, absorbL, absorb1, setAt, killAV, killL, leafV, getR, isNil, nilV, Array.toList, List.map, bne_self_eq_false, reduceIte, reduceCtorEq, Nat.reduceEqDiff, Nat.reduceAdd, Nat.reduceMul, Nat.reduceSub, Nat.reduceBEq, Nat.reduceLeDiff, Int.reduceLT, Int.reduceLE, Int.reduceGE, Int.reduceGT, Int.reduceBEq, Int.reduceBNe, Int.reduceToNat, Int.reduceNeg, Int.reduceSub, Int.reduceAdd, Int.reduceMul, finish, wkAV, resOf, resa, noSnap, noSnapL, noSnapO, keep, liveKeys, keysL, keysAV, renAV, renL, rr, by1, curC, if_pos hi, hg, xr, nh]
  · have hd : decide ((i : Int) < (b.length : Int)) = false := by simp; omega
    simp (maxDischargeDepth := 8) only [vv, cc, bb, firstRegion, apartAll, clash, meets, execOp, opnd, builtinHM, bin, convHM, fillP, fieldsPlace, solid, inOrd, sliceHM, bound, zOK, appendHM, srcCells, borL, isSl, slLen, storeHM, loadHM, look1, idxAddr, arrAddr, cellsOf, TD.agg, loadedL, loaded, borrowed, isOwn, fieldR, partHM, absorbL, absorb1, setAt, killAV, killL, leafV, getR, isNil, nilV, Array.toList, List.map, bne_self_eq_false, reduceIte, reduceCtorEq, Nat.reduceEqDiff, Nat.reduceAdd, Nat.reduceMul, Nat.reduceSub, Nat.reduceBEq, Nat.reduceLeDiff, Int.reduceLT, Int.reduceLE, Int.reduceGE, Int.reduceGT, Int.reduceBEq, Int.reduceBNe, Int.reduceToNat, Int.reduceNeg, Int.reduceSub, Int.reduceAdd, Int.reduceMul, callHM, packA, packL, pack1, lentOk, getLent, putBack, backK, renAV, renL, rr, Try.f79, curC, bin_xorI, bin_andI, hd]
    repeat' ((with_reducible refine condT ?_ ?_); (focus kernel_rfl); try simp (maxDischargeDepth := 8) only [vv, cc, bb, firstRegion, apartAll, clash, meets, execOp, opnd, builtinHM, bin, convHM, fillP, fieldsPlace, solid, inOrd, sliceHM, bound, zOK, appendHM, srcCells, borL, isSl, slLen, storeHM, loadHM, look1, idxAddr, arrAddr, cellsOf, TD.agg, loadedL, loaded, borrowed, isOwn, fieldR, partHM, absorbL, absorb1, setAt, killAV, killL, leafV, getR, isNil, nilV, Array.toList, List.map, bne_self_eq_false, reduceIte, reduceCtorEq, Nat.reduceEqDiff, Nat.reduceAdd, Nat.reduceMul, Nat.reduceSub, Nat.reduceBEq, Nat.reduceLeDiff, Int.reduceLT, Int.reduceLE, Int.reduceGE, Int.reduceGT, Int.reduceBEq, Int.reduceBNe, Int.reduceToNat, Int.reduceNeg, Int.reduceSub, Int.reduceAdd, Int.reduceMul, callHM, packA, packL, pack1, lentOk, getLent, putBack, backK, renAV, renL, rr, bin_xorI, bin_andI, hd])
    simp only [vv, ff, firstRegion, apartAll, clash, meets, execOp, opnd, builtinHM, bin, convHM, fillP, fieldsPlace, solid, inOrd, sliceHM, bound, zOK, appendHM, srcCells, borL, isSl, slLen, storeHM, loadHM, look1, idxAddr, arrAddr, cellsOf, TD.agg, loadedL, loaded, borrowed, isOwn, fieldR, partHM, absorbL, absorb1, setAt, killAV, killL, leafV, getR, isNil, nilV, Array.toList, List.map, bne_self_eq_false, reduceIte, reduceCtorEq, Nat.reduceEqDiff, Nat.reduceAdd, Nat.reduceMul, Nat.reduceSub, Nat.reduceBEq, Nat.reduceLeDiff, Int.reduceLT, Int.reduceLE, Int.reduceGE, Int.reduceGT, Int.reduceBEq, Int.reduceBNe, Int.reduceToNat, Int.reduceNeg, Int.reduceSub, Int.reduceAdd, Int.reduceMul, finish, wkAV, resOf, resa, noSnap, noSnapL, noSnapO, keep, liveKeys, keysL, keysAV, renAV, renL, rr, by1, curC, if_neg hi, xr, nh]
theorem e65 (d : Nat) (b : List Int) (n : Int) (s : Nat × Int) (hb : b.length ≤ 2 ^ 39) (hn : 0 < n) : evFun E (d+2) 65 [.ptr 0 [] 0, vi n] [curC b s] = some (vi (bel b n s).1, [some (curC b (bel b n s).2)]) := by
  refine evFun_body b65 ?_
  have h0 : decide (n ≤ 0) = false := by simp; omega
  have hz : decide (n = 0) = false := by simp; omega
  have hkl : ∀ s, (curC b s).any isOwn = false := fun s => rfl
  have hsn : ∀ s, noSnapL (curC b s) = true := fun s => rfl
  cases hc : decide (n ≤ 256) with
  | true =>
    have hc' := of_decide_eq_true hc
    simp (maxDischargeDepth := 8) only [vv, cc, bb, firstRegion, apartAll, clash, meets, execOp, opnd, builtinHM, bin, convHM, fillP, fieldsPlace, solid, inOrd, sliceHM, bound, zOK, appendHM, srcCells, borL, isSl, slLen, storeHM, loadHM, look1, idxAddr, arrAddr, cellsOf, TD.agg, loadedL, loaded, borrowed, isOwn, fieldR, partHM, absorbL, absorb1, setAt, killAV, killL, leafV, getR, isNil, nilV, Array.toList, List.map, bne_self_eq_false, reduceIte, reduceCtorEq, Nat.reduceEqDiff, Nat.reduceAdd, Nat.reduceMul, Nat.reduceSub, Nat.reduceBEq, Nat.reduceLeDiff, Int.reduceLT, Int.reduceLE, Int.reduceGE, Int.reduceGT, Int.reduceBEq, Int.reduceBNe, Int.reduceToNat, Int.reduceNeg, Int.reduceSub, Int.reduceAdd, Int.reduceMul, callHM, packA, packL, pack1, lentOk, getLent, putBack, backK, renAV, renL, rr, Try.f65, h0, hz, hc, e79 _ _ _ hb, hkl]
    simp only [vv, ff, firstRegion, apartAll, clash, meets, execOp, opnd, builtinHM, bin, convHM, fillP, fieldsPlace, solid, inOrd, sliceHM, bound, zOK, appendHM, srcCells, borL, isSl, slLen, storeHM, loadHM, look1, idxAddr, arrAddr, cellsOf, TD.agg, loadedL, loaded, borrowed, isOwn, fieldR, partHM, absorbL, absorb1, setAt, killAV, killL, leafV, getR, isNil, nilV, Array.toList, List.map, bne_self_eq_false, reduceIte, reduceCtorEq, Nat.reduceEqDiff, Nat.reduceAdd, Nat.reduceMul, Nat.reduceSub, Nat.reduceBEq, Nat.reduceLeDiff, Int.reduceLT, Int.reduceLE, Int.reduceGE, Int.reduceGT, Int.reduceBEq, Int.reduceBNe, Int.reduceToNat, Int.reduceNeg, Int.reduceSub, Int.reduceAdd, Int.reduceMul, finish, wkAV, resOf, resa, noSnap, noSnapL, noSnapO, keep, liveKeys, keysL, keysAV, renAV, renL, rr, hsn, bel, if_neg (show ¬ n ≤ 0 by omega), if_pos hc']
  | false =>
    have hc' := of_decide_eq_false hc
    have b1 := by1_b b s
    have b2 := by1_b b (by1 b s).2
    have b3 := by1_b b (by1 b (by1 b s).2).2
    have b4 := by1_b b (by1 b (by1 b (by1 b s).2).2).2
    have w1 : IntKind.i64.wrap ((by1 b s).1 * 16777216) = (by1 b s).1 * 16777216 := wrap64 (by omega) (by omega)
    have w2 : IntKind.i64.wrap ((by1 b (by1 b s).2).1 * 65536) = (by1 b (by1 b s).2).1 * 65536 := wrap64 (by omega) (by omega)
    have w3 : IntKind.i64.wrap ((by1 b s).1 * 16777216 + (by1 b (by1 b s).2).1 * 65536) = (by1 b s).1 * 16777216 + (by1 b (by1 b s).2).1 * 65536 := wrap64 (by omega) (by omega)
    have w4 : IntKind.i64.wrap ((by1 b (by1 b (by1 b s).2).2).1 * 256) = (by1 b (by1 b (by1 b s).2).2).1 * 256 := wrap64 (by omega) (by omega)
    have w5 : IntKind.i64.wrap ((by1 b s).1 * 16777216 + (by1 b (by1 b s).2).1 * 65536 + (by1 b (by1 b (by1 b s).2).2).1 * 256) = (by1 b s).1 * 16777216 + (by1 b (by1 b s).2).1 * 65536 + (by1 b (by1 b (by1 b s).2).2).1 * 256 := wrap64 (by omega) (by omega)
    have w6 : IntKind.i64.wrap ((by1 b s).1 * 16777216 + (by1 b (by1 b s).2).1 * 65536 + (by1 b (by1 b (by1 b s).2).2).1 * 256 + (by1 b (by1 b (by1 b (by1 b s).2).2).2).1) = (by1 b s).1 * 16777216 + (by1 b (by1 b s).2).1 * 65536 + (by1 b (by1 b (by1 b s).2).2).1 * 256 + (by1 b (by1 b (by1 b (by1 b s).2).2).2).1 := wrap64 (by omega) (by omega)
    simp (maxDischargeDepth := 8) only [vv, cc, bb, firstRegion, apartAll, clash, meets, execOp, opnd, builtinHM, bin, convHM, fillP, fieldsPlace, solid, inOrd, sliceHM, bound, zOK, appendHM, srcCells, borL, isSl, slLen, storeHM, loadHM, look1, idxAddr, arrAddr, cellsOf, TD.agg, loadedL, loaded, borrowed, isOwn, fieldR, partHM, absorbL, absorb1, setAt, killAV, killL, leafV, getR, isNil, nilV, Array.toList, List.map, bne_self_eq_false, reduceIte, reduceCtorEq, Nat.reduceEqDiff, Nat.reduceAdd, Nat.reduceMul, Nat.reduceSub, Nat.reduceBEq, Nat.reduceLeDiff, Int.reduceLT, Int.reduceLE, Int.reduceGE, Int.reduceGT, Int.reduceBEq, Int.reduceBNe, Int.reduceToNat, Int.reduceNeg, Int.reduceSub, Int.reduceAdd, Int.reduceMul, callHM, packA, packL, pack1, lentOk, getLent, putBack, backK, renAV, renL, rr, Try.f65, h0, hz, hc, e79 _ _ _ hb, hkl, w1, w2, w3, w4, w5, w6]
    simp only [vv, ff, firstRegion, apartAll, clash, meets, execOp, opnd, builtinHM, bin, convHM, fillP, fieldsPlace, solid, inOrd, sliceHM, bound, zOK, appendHM, srcCells, borL, isSl, slLen, storeHM, loadHM, look1, idxAddr, arrAddr, cellsOf, TD.agg, loadedL, loaded, borrowed, isOwn, fieldR, partHM, absorbL, absorb1, setAt, killAV, killL, leafV, getR, isNil, nilV, Array.toList, List.map, bne_self_eq_false, reduceIte, reduceCtorEq, Nat.reduceEqDiff, Nat.reduceAdd, Nat.reduceMul, Nat.reduceSub, Nat.reduceBEq, Nat.reduceLeDiff, Int.reduceLT, Int.reduceLE, Int.reduceGE, Int.reduceGT, Int.reduceBEq, Int.reduceBNe, Int.reduceToNat, Int.reduceNeg, Int.reduceSub, Int.reduceAdd, Int.reduceMul, finish, wkAV, resOf, resa, noSnap, noSnapL, noSnapO, keep, liveKeys, keysL, keysAV, renAV, renL, rr, hsn, bel, if_neg (show ¬ n ≤ 0 by omega), if_neg hc']
theorem e64 (d : Nat) (b : List Int) (n : Int) (s : Nat × Int) (hb : b.length ≤ 2 ^ 39) (hn : 0 < n) : evFun E (d+3) 64 [.ptr 0 [] 0, vi n] [curC b s] = some (vb ((bel b n s).1 == 0), [some (curC b (bel b n s).2)]) := by
  refine evFun_body b64 ?_
  have hkl : ∀ s, (curC b s).any isOwn = false := fun s => rfl
  have hsn : ∀ s, noSnapL (curC b s) = true := fun s => rfl
  simp (maxDischargeDepth := 8) only [vv, cc, bb, firstRegion, apartAll, clash, meets, execOp, opnd, builtinHM, bin, convHM, fillP, fieldsPlace, solid, inOrd, sliceHM, bound, zOK, appendHM, srcCells, borL, isSl, slLen, storeHM, loadHM, look1, idxAddr, arrAddr, cellsOf, TD.agg, loadedL, loaded, borrowed, isOwn, fieldR, partHM, absorbL, absorb1, setAt, killAV, killL, leafV, getR, isNil, nilV, Array.toList, List.map, bne_self_eq_false, reduceIte, reduceCtorEq, Nat.reduceEqDiff, Nat.reduceAdd, Nat.reduceMul, Nat.reduceSub, Nat.reduceBEq, Nat.reduceLeDiff, Int.reduceLT, Int.reduceLE, Int.reduceGE, Int.reduceGT, Int.reduceBEq, Int.reduceBNe, Int.reduceToNat, Int.reduceNeg, Int.reduceSub, Int.reduceAdd, Int.reduceMul, callHM, packA, packL, pack1, lentOk, getLent, putBack, backK, renAV, renL, rr, Try.f64, e65 _ _ _ _ hb hn, hkl]
  simp only [vv, ff, firstRegion, apartAll, clash, meets, execOp, opnd, builtinHM, bin, convHM, fillP, fieldsPlace, solid, inOrd, sliceHM, bound, zOK, appendHM, srcCells, borL, isSl, slLen, storeHM, loadHM, look1, idxAddr, arrAddr, cellsOf, TD.agg, loadedL, loaded, borrowed, isOwn, fieldR, partHM, absorbL, absorb1, setAt, killAV, killL, leafV, getR, isNil, nilV, Array.toList, List.map, bne_self_eq_false, reduceIte, reduceCtorEq, Nat.reduceEqDiff, Nat.reduceAdd, Nat.reduceMul, Nat.reduceSub, Nat.reduceBEq, Nat.reduceLeDiff, Int.reduceLT, Int.reduceLE, Int.reduceGE, Int.reduceGT, Int.reduceBEq, Int.reduceBNe, Int.reduceToNat, Int.reduceNeg, Int.reduceSub, Int.reduceAdd, Int.reduceMul, finish, wkAV, resOf, resa, noSnap, noSnapL, noSnapO, keep, liveKeys, keysL, keysAV, renAV, renL, rr, hsn]
def newH (b : List Int) : Nat → Int
  | 0 => IntKind.i64.wrap (88088 + (b.length : Int))
  | i + 1 => andI (IntKind.i64.wrap (IntKind.i64.wrap (IntKind.i64.wrap (newH b i * 131) + IntKind.i64.wrap (b.getD i 0)) + 7)) 1073741823
def newN (b : List Int) : Nat := if b.length ≤ 4000 then b.length else 4000
theorem e54 (d : Nat) (b : List Int) (hb : b.length ≤ 2 ^ 39) : evFun E (d+1) 54 [.sl .fgn 1 b.length none (b.map (iv .u8))] [] = some (.ptr 0 [] 0, [some (curC b (0, newH b (newN b)))]) := by
  refine evFun_body b54 ?_
  simp only [vv, firstRegion, apartAll, clash, meets, execOp, opnd, builtinHM, bin, convHM, fillP, fieldsPlace, solid, inOrd, sliceHM, bound, zOK, appendHM, srcCells, borL, isSl, slLen, storeHM, loadHM, look1, idxAddr, arrAddr, cellsOf, TD.agg, loadedL, loaded, borrowed, isOwn, fieldR, partHM, absorbL, absorb1, setAt, killAV, killL, leafV, getR, isNil, nilV, Array.toList, List.map, bne_self_eq_false, reduceIte, reduceCtorEq, Nat.reduceEqDiff, Nat.reduceAdd, Nat.reduceMul, Nat.reduceSub, Nat.reduceBEq, Nat.reduceLeDiff, Int.reduceLT, Int.reduceLE, Int.reduceGE, Int.reduceGT, Int.reduceBEq, Int.reduceBNe, Int.reduceToNat, Int.reduceNeg, Int.reduceSub, Int.reduceAdd, Int.reduceMul, rr, Try.f54]
  have hnn : newN b ≤ b.length ∧ newN b ≤ 4000 := by unfold newN; split <;> omega
  refine loop_go (fun i => {T := tp [(0, .sl .fgn 1 b.length none (b.map (iv .u8))), (3, vi (newH b i)), (4, vi (i : Int))], H := hp [], nx := 0}) (newN b) ?_ (lt_LF (by omega)) (fun i hi Kn hK => ?_) (fun Kn => ?_)
  · simp only [vv, ff, norm, Array.toList, List.map, bne_self_eq_false, reduceIte, reduceCtorEq, Nat.reduceEqDiff, Nat.reduceAdd, Nat.reduceMul, Nat.reduceSub, Nat.reduceBEq, Nat.reduceLeDiff, Int.reduceLT, Int.reduceLE, Int.reduceGE, Int.reduceGT, Int.reduceBEq, Int.reduceBNe, Int.reduceToNat, Int.reduceNeg, Int.reduceSub, Int.reduceAdd, Int.reduceMul, finish, wkAV, resOf, resa, noSnap, noSnapL, noSnapO, keep, liveKeys, keysL, keysAV, renAV, renL, Int.natCast_zero, newH]
  · have hi1 : i < b.length := by omega
    have hi2 : decide ((i : Int) < 4000) = true := by simp; omega
    have hg : b[i]?.getD 0 = b[i] := by rw [List.getElem?_eq_getElem hi1]; rfl
    simp only [vv, firstRegion, apartAll, clash, meets, execOp, opnd, builtinHM, bin, convHM, fillP, fieldsPlace, solid, inOrd, sliceHM, bound, zOK, appendHM, srcCells, borL, isSl, slLen, storeHM, loadHM, look1, idxAddr, arrAddr, cellsOf, TD.agg, loadedL, loaded, borrowed, isOwn, fieldR, partHM, absorbL, absorb1, setAt, killAV, killL, leafV, getR, isNil, nilV, Array.toList, List.map, bne_self_eq_false, reduceIte, reduceCtorEq, Nat.reduceEqDiff, Nat.reduceAdd, Nat.reduceMul, Nat.reduceSub, Nat.reduceBEq, Nat.reduceLeDiff, Int.reduceLT, Int.reduceLE, Int.reduceGE, Int.reduceGT, Int.reduceBEq, Int.reduceBNe, Int.reduceToNat, Int.reduceNeg, Int.reduceSub, Int.reduceAdd, Int.reduceMul, rr, lt_ok hi1, hi2, map_get hi1, wrap_succ hi1 hb, bin_andI]
    refine hK _ ?_
    simp only [vv, ff, norm, Array.toList, List.map, bne_self_eq_false, reduceIte, reduceCtorEq, Nat.reduceEqDiff, Nat.reduceAdd, Nat.reduceMul, Nat.reduceSub, Nat.reduceBEq, Nat.reduceLeDiff, Int.reduceLT, Int.reduceLE, Int.reduceGE, Int.reduceGT, Int.reduceBEq, Int.reduceBNe, Int.reduceToNat, Int.reduceNeg, Int.reduceSub, Int.reduceAdd, Int.reduceMul, finish, wkAV, resOf, resa, noSnap, noSnapL, noSnapO, keep, liveKeys, keysL, keysAV, renAV, renL, newH, hg]
  · by_cases hl : b.length ≤ 4000
    · have e : newN b = b.length := by unfold newN; rw [if_pos hl]
      rw [e]
      simp only [vv, firstRegion, apartAll, clash, meets, execOp, opnd, builtinHM, bin, convHM, fillP, fieldsPlace, solid, inOrd, sliceHM, bound, zOK, appendHM, srcCells, borL, isSl, slLen, storeHM, loadHM, look1, idxAddr, arrAddr, cellsOf, TD.agg, loadedL, loaded, borrowed, isOwn, fieldR, partHM, absorbL, absorb1, setAt, killAV, killL, leafV, getR, isNil, nilV, Array.toList, List.map, bne_self_eq_false, reduceIte, reduceCtorEq, Nat.reduceEqDiff, Nat.reduceAdd, Nat.reduceMul, Nat.reduceSub, Nat.reduceBEq, Nat.reduceLeDiff, Int.reduceLT, Int.reduceLE, Int.reduceGE, Int.reduceGT, Int.reduceBEq, Int.reduceBNe, Int.reduceToNat, Int.reduceNeg, Int.reduceSub, Int.reduceAdd, Int.reduceMul, rr, lt_no]
      simp only [vv, ff, firstRegion, apartAll, clash, meets, execOp, opnd, builtinHM, bin, convHM, fillP, fieldsPlace, solid, inOrd, sliceHM, bound, zOK, appendHM, srcCells, borL, isSl, slLen, storeHM, loadHM, look1, idxAddr, arrAddr, cellsOf, TD.agg, loadedL, loaded, borrowed, isOwn, fieldR, partHM, absorbL, absorb1, setAt, killAV, killL, leafV, getR, isNil, nilV, Array.toList, List.map, bne_self_eq_false, reduceIte, reduceCtorEq, Nat.reduceEqDiff, Nat.reduceAdd, Nat.reduceMul, Nat.reduceSub, Nat.reduceBEq, Nat.reduceLeDiff, Int.reduceLT, Int.reduceLE, Int.reduceGE, Int.reduceGT, Int.reduceBEq, Int.reduceBNe, Int.reduceToNat, Int.reduceNeg, Int.reduceSub, Int.reduceAdd, Int.reduceMul, finish, wkAV, resOf, resa, noSnap, noSnapL, noSnapO, keep, liveKeys, keysL, keysAV, renAV, renL, rr, curC]
    · have e : newN b = 4000 := by unfold newN; rw [if_neg hl]
      rw [e]
      have h1 : decide (((4000 : Nat) : Int) < (b.length : Int)) = true := by simp; omega
      have h2 : decide (((4000 : Nat) : Int) < 4000) = false := by decide
      simp only [vv, firstRegion, apartAll, clash, meets, execOp, opnd, builtinHM, bin, convHM, fillP, fieldsPlace, solid, inOrd, sliceHM, bound, zOK, appendHM, srcCells, borL, isSl, slLen, storeHM, loadHM, look1, idxAddr, arrAddr, cellsOf, TD.agg, loadedL, loaded, borrowed, isOwn, fieldR, partHM, absorbL, absorb1, setAt, killAV, killL, leafV, getR, isNil, nilV, Array.toList, List.map, bne_self_eq_false, reduceIte, reduceCtorEq, Nat.reduceEqDiff, Nat.reduceAdd, Nat.reduceMul, Nat.reduceSub, Nat.reduceBEq, Nat.reduceLeDiff, Int.reduceLT, Int.reduceLE, Int.reduceGE, Int.reduceGT, Int.reduceBEq, Int.reduceBNe, Int.reduceToNat, Int.reduceNeg, Int.reduceSub, Int.reduceAdd, Int.reduceMul, rr, h1, h2]
      simp only [vv, ff, firstRegion, apartAll, clash, meets, execOp, opnd, builtinHM, bin, convHM, fillP, fieldsPlace, solid, inOrd, sliceHM, bound, zOK, appendHM, srcCells, borL, isSl, slLen, storeHM, loadHM, look1, idxAddr, arrAddr, cellsOf, TD.agg, loadedL, loaded, borrowed, isOwn, fieldR, partHM, absorbL, absorb1, setAt, killAV, killL, leafV, getR, isNil, nilV, Array.toList, List.map, bne_self_eq_false, reduceIte, reduceCtorEq, Nat.reduceEqDiff, Nat.reduceAdd, Nat.reduceMul, Nat.reduceSub, Nat.reduceBEq, Nat.reduceLeDiff, Int.reduceLT, Int.reduceLE, Int.reduceGE, Int.reduceGT, Int.reduceBEq, Int.reduceBNe, Int.reduceToNat, Int.reduceNeg, Int.reduceSub, Int.reduceAdd, Int.reduceMul, finish, wkAV, resOf, resa, noSnap, noSnapL, noSnapO, keep, liveKeys, keysL, keysAV, renAV, renL, rr, curC]

/-- what the drawing of a disk comes to -/
structure DS where
  cs : List AV
  s : Nat × Int
def dStep (b : List Int) (x : DS) : DS :=
  let o := bel b 3 x.s
  let t : Int × (Nat × Int) := if (o.1 == 0) = true then bel b 21 o.2 else (20, o.2)
  let k := bel b 3 t.2
  let p := bel b 60000 k.2
  let q := bel b 60000 p.2
  ⟨wrC x.cs ((rdV (un x.cs)).1 + 1 + k.1) (p.1 * q.1) t.1, q.2⟩
def dAll (b : List Int) (x : DS) : Nat → DS
  | 0 => x
  | i + 1 => dStep b (dAll b x i)
theorem rdV_b {l : List Int} (hb : B8 l) : 0 ≤ (rdV l).1 ∧ (rdV l).1 ≤ 1000000 := by
  unfold rdV
  have c1 := cOf_nn (hb.take 20)
  have c2 := cOf_nn (hb.drop 20)
  split
  · split
    · rename_i h
      have := inS_of h.1
      simp only [inS, Bool.and_eq_true, decide_eq_true_eq] at this
      exact ⟨c1, this.1⟩
    · split
      · rename_i h
        have := inS_of h
        simp only [inS, Bool.and_eq_true, decide_eq_true_eq] at this
        exact ⟨c2, this.1⟩
      · exact ⟨by decide, by decide⟩
  · exact ⟨by decide, by decide⟩
structure DInv0 (cs : List AV) : Prop where
  k : isK .u8 cs = true
  len : cs.length = 40
  b8 : B8 (un cs)
theorem DInv0.step {cs : List AV} (h : DInv0 cs) (c r t : Int) : DInv0 (wrC cs c r t) := ⟨isK_wrC h.k _ _ _, by rw [wrC_len]; exact h.len, by rw [un_wrC]; exact S.B8.wrV h.b8 _ _ _⟩
theorem dAll_inv (b : List Int) {x : DS} (h : DInv0 x.cs) : ∀ i, DInv0 (dAll b x i).cs
  | 0 => h
  | i + 1 => (dAll_inv b h i).step _ _ _
theorem newD_b8 : B8 (un newD) := by
  rw [newD, un_app, un_map, un_repl]
  exact (B8.slot _ _).app fun n hn => by
    have := List.eq_of_mem_replicate hn
    omega
def dN (b : List Int) (s : Nat × Int) : Nat := (bel b 5 s).1.toNat
theorem e53 (d : Nat) (b : List Int) (s : Nat × Int) (hb : b.length ≤ 2 ^ 39) : evFun E (d+11) 53 [.ptr 0 [] 0] [curC b s] =
    some (.ref 1 [] 1 0 40 none, [some (curC b (dAll b ⟨newD, (bel b 5 s).2⟩ (dN b s)).s), some (dAll b ⟨newD, (bel b 5 s).2⟩ (dN b s)).cs]) := by
  refine evFun_body b53 ?_
  have hkl : ∀ s, (curC b s).any isOwn = false := fun s => rfl
  have hsn : ∀ s, noSnapL (curC b s) = true := fun s => rfl
  have h5 := bel_b b (n := 5) (by decide) s
  obtain ⟨m, hm⟩ : ∃ m : Nat, (bel b 5 s).1 = m := ⟨_, (Int.toNat_of_nonneg h5.1).symm⟩
  have hmN : dN b s = m := by unfold dN; omega
  have hm4 : m ≤ 4 := by omega
  rw [hmN]
  simp (maxDischargeDepth := 8) only [vv, cc, bb, firstRegion, apartAll, clash, meets, execOp, opnd, builtinHM, bin, convHM, fillP, fieldsPlace, solid, inOrd, sliceHM, bound, zOK, appendHM, srcCells, borL, isSl, slLen, storeHM, loadHM, look1, idxAddr, arrAddr, cellsOf, TD.agg, loadedL, loaded, borrowed, isOwn, fieldR, partHM, absorbL, absorb1, setAt, killAV, killL, leafV, getR, isNil, nilV, Array.toList, List.map, bne_self_eq_false, reduceIte, reduceCtorEq, Nat.reduceEqDiff, Nat.reduceAdd, Nat.reduceMul, Nat.reduceSub, Nat.reduceBEq, Nat.reduceLeDiff, Int.reduceLT, Int.reduceLE, Int.reduceGE, Int.reduceGT, Int.reduceBEq, Int.reduceBNe, Int.reduceToNat, Int.reduceNeg, Int.reduceSub, Int.reduceAdd, Int.reduceMul, callHM, packA, packL, pack1, lentOk, getLent, putBack, backK, renAV, renL, rr, Try.f53, e74, e65 _ _ _ _ hb (by decide : (0 : Int) < 5), hkl, hm]
  refine loop_go (fun i => {T := tp [(0, .ptr 0 [] 0), (3, .ref 1 [] 1 0 40 none), (4, vi ((m : Int) - i))], H := hp [some (curC b (dAll b ⟨newD, (bel b 5 s).2⟩ i).s), some (dAll b ⟨newD, (bel b 5 s).2⟩ i).cs], nx := 2}) m ?_ (lt_LF (by omega)) (fun i hi Kn hK => ?_) (fun Kn => ?_)
  · simp only [vv, ff, norm, Array.toList, List.map, bne_self_eq_false, reduceIte, reduceCtorEq, Nat.reduceEqDiff, Nat.reduceAdd, Nat.reduceMul, Nat.reduceSub, Nat.reduceBEq, Nat.reduceLeDiff, Int.reduceLT, Int.reduceLE, Int.reduceGE, Int.reduceGT, Int.reduceBEq, Int.reduceBNe, Int.reduceToNat, Int.reduceNeg, Int.reduceSub, Int.reduceAdd, Int.reduceMul, finish, wkAV, resOf, resa, noSnap, noSnapL, noSnapO, keep, liveKeys, keysL, keysAV, renAV, renL, Int.natCast_zero, Int.sub_zero, dAll]
  · have hI := dAll_inv b (x := ⟨newD, (bel b 5 s).2⟩) ⟨newD_k, newD_len, newD_b8⟩ i
    have hst : dAll b ⟨newD, (bel b 5 s).2⟩ (i + 1) = dStep b (dAll b ⟨newD, (bel b 5 s).2⟩ i) := rfl
    rw [hst] at hK
    generalize dAll b ⟨newD, (bel b 5 s).2⟩ i = x at *
    obtain ⟨cs, s'⟩ := x
    simp only at hI ⊢
    have hk := hI.k
    have hn := hI.len
    have hbu := hI.b8
    have g1 : decide ((m : Int) - i > 0) = true := by simp; omega
    have g2 : IntKind.i64.wrap ((m : Int) - i - 1) = (m : Int) - ((i + 1 : Nat) : Int) := by rw [wrap64 (by omega) (by omega)]; omega
    have hr := rdV_b hbu
    have w1 : IntKind.i64.wrap ((rdV (un cs)).1 + 1) = (rdV (un cs)).1 + 1 := wrap64 (by omega) (by omega)
    have ws : ∀ s, IntKind.i64.wrap ((rdV (un cs)).1 + 1 + (bel b 3 s).1) = (rdV (un cs)).1 + 1 + (bel b 3 s).1 := fun s => by
      have := bel_b b (n := 3) (by decide) s
      exact wrap64 (by omega) (by omega)
    have wm : ∀ s s', IntKind.i64.wrap ((bel b 60000 s).1 * (bel b 60000 s').1) = (bel b 60000 s).1 * (bel b 60000 s').1 := fun s s' => by
      have h1 := bel_b b (n := 60000) (by decide) s
      have h2 := bel_b b (n := 60000) (by decide) s'
      have h3 : 0 ≤ (bel b 60000 s).1 * (bel b 60000 s').1 := Int.mul_nonneg h1.1 h2.1
      have h4 : (bel b 60000 s).1 * (bel b 60000 s').1 ≤ 60000 * 60000 := Int.mul_le_mul (by omega) (by omega) h2.1 (by decide)
      exact wrap64 (by omega) (by omega)
    cases ho : ((bel b 3 s').1 == 0) with
    | true =>
      simp (maxDischargeDepth := 8) only [vv, cc, bb, firstRegion, apartAll, clash, meets, execOp, opnd, builtinHM, bin, convHM, fillP, fieldsPlace, solid, inOrd, sliceHM, bound, zOK, appendHM, srcCells, borL, isSl, slLen, storeHM, loadHM, look1, idxAddr, arrAddr, cellsOf, TD.agg, loadedL, loaded, borrowed, isOwn, fieldR, partHM, absorbL, absorb1, setAt, killAV, killL, leafV, getR, isNil, nilV, Array.toList, List.map, bne_self_eq_false, reduceIte, reduceCtorEq, Nat.reduceEqDiff, Nat.reduceAdd, Nat.reduceMul, Nat.reduceSub, Nat.reduceBEq, Nat.reduceLeDiff, Int.reduceLT, Int.reduceLE, Int.reduceGE, Int.reduceGT, Int.reduceBEq, Int.reduceBNe, Int.reduceToNat, Int.reduceNeg, Int.reduceSub, Int.reduceAdd, Int.reduceMul, callHM, packA, packL, pack1, lentOk, getLent, putBack, backK, renAV, renL, rr, g1, g2, hk, hn, hbu, w1, ws, wm, ho, hkl, e49, e64 _ _ _ _ hb (by decide : (0 : Int) < 3), e65 _ _ _ _ hb (by decide : (0 : Int) < 21), e65 _ _ _ _ hb (by decide : (0 : Int) < 3), e65 _ _ _ _ hb (by decide : (0 : Int) < 60000), e20]
      refine hK _ ?_
      simp only [vv, ff, norm, Array.toList, List.map, bne_self_eq_false, reduceIte, reduceCtorEq, Nat.reduceEqDiff, Nat.reduceAdd, Nat.reduceMul, Nat.reduceSub, Nat.reduceBEq, Nat.reduceLeDiff, Int.reduceLT, Int.reduceLE, Int.reduceGE, Int.reduceGT, Int.reduceBEq, Int.reduceBNe, Int.reduceToNat, Int.reduceNeg, Int.reduceSub, Int.reduceAdd, Int.reduceMul, finish, wkAV, resOf, resa, noSnap, noSnapL, noSnapO, keep, liveKeys, keysL, keysAV, renAV, renL, dStep, ho]
    | false =>
      simp (maxDischargeDepth := 8) only [vv, cc, bb, firstRegion, apartAll, clash, meets, execOp, opnd, builtinHM, bin, convHM, fillP, fieldsPlace, solid, inOrd, sliceHM, bound, zOK, appendHM, srcCells, borL, isSl, slLen, storeHM, loadHM, look1, idxAddr, arrAddr, cellsOf, TD.agg, loadedL, loaded, borrowed, isOwn, fieldR, partHM, absorbL, absorb1, setAt, killAV, killL, leafV, getR, isNil, nilV, Array.toList, List.map, bne_self_eq_false, reduceIte, reduceCtorEq, Nat.reduceEqDiff, Nat.reduceAdd, Nat.reduceMul, Nat.reduceSub, Nat.reduceBEq, Nat.reduceLeDiff, Int.reduceLT, Int.reduceLE, Int.reduceGE, Int.reduceGT, Int.reduceBEq, Int.reduceBNe, Int.reduceToNat, Int.reduceNeg, Int.reduceSub, Int.reduceAdd, Int.reduceMul, callHM, packA, packL, pack1, lentOk, getLent, putBack, backK, renAV, renL, rr, g1, g2, hk, hn, hbu, w1, ws, wm, ho, hkl, e49, e64 _ _ _ _ hb (by decide : (0 : Int) < 3), e65 _ _ _ _ hb (by decide : (0 : Int) < 21), e65 _ _ _ _ hb (by decide : (0 : Int) < 3), e65 _ _ _ _ hb (by decide : (0 : Int) < 60000), e20]
      refine hK _ ?_
      simp only [vv, ff, norm, Array.toList, List.map, bne_self_eq_false, reduceIte, reduceCtorEq, Nat.reduceEqDiff, Nat.reduceAdd, Nat.reduceMul, Nat.reduceSub, Nat.reduceBEq, Nat.reduceLeDiff, Int.reduceLT, Int.reduceLE, Int.reduceGE, Int.reduceGT, Int.reduceBEq, Int.reduceBNe, Int.reduceToNat, Int.reduceNeg, Int.reduceSub, Int.reduceAdd, Int.reduceMul, finish, wkAV, resOf, resa, noSnap, noSnapL, noSnapO, keep, liveKeys, keysL, keysAV, renAV, renL, dStep, ho, Bool.false_eq_true, if_false]
  · have g1 : decide ((m : Int) - m > 0) = false := by simp
    simp only [vv, firstRegion, apartAll, clash, meets, execOp, opnd, builtinHM, bin, convHM, fillP, fieldsPlace, solid, inOrd, sliceHM, bound, zOK, appendHM, srcCells, borL, isSl, slLen, storeHM, loadHM, look1, idxAddr, arrAddr, cellsOf, TD.agg, loadedL, loaded, borrowed, isOwn, fieldR, partHM, absorbL, absorb1, setAt, killAV, killL, leafV, getR, isNil, nilV, Array.toList, List.map, bne_self_eq_false, reduceIte, reduceCtorEq, Nat.reduceEqDiff, Nat.reduceAdd, Nat.reduceMul, Nat.reduceSub, Nat.reduceBEq, Nat.reduceLeDiff, Int.reduceLT, Int.reduceLE, Int.reduceGE, Int.reduceGT, Int.reduceBEq, Int.reduceBNe, Int.reduceToNat, Int.reduceNeg, Int.reduceSub, Int.reduceAdd, Int.reduceMul, rr, g1]
    have s1 := isK_snap (dAll_inv b (x := ⟨newD, (bel b 5 s).2⟩) ⟨newD_k, newD_len, newD_b8⟩ m).k
    simp only [vv, ff, firstRegion, apartAll, clash, meets, execOp, opnd, builtinHM, bin, convHM, fillP, fieldsPlace, solid, inOrd, sliceHM, bound, zOK, appendHM, srcCells, borL, isSl, slLen, storeHM, loadHM, look1, idxAddr, arrAddr, cellsOf, TD.agg, loadedL, loaded, borrowed, isOwn, fieldR, partHM, absorbL, absorb1, setAt, killAV, killL, leafV, getR, isNil, nilV, Array.toList, List.map, bne_self_eq_false, reduceIte, reduceCtorEq, Nat.reduceEqDiff, Nat.reduceAdd, Nat.reduceMul, Nat.reduceSub, Nat.reduceBEq, Nat.reduceLeDiff, Int.reduceLT, Int.reduceLE, Int.reduceGE, Int.reduceGT, Int.reduceBEq, Int.reduceBNe, Int.reduceToNat, Int.reduceNeg, Int.reduceSub, Int.reduceAdd, Int.reduceMul, finish, wkAV, resOf, resa, noSnap, noSnapL, noSnapO, keep, liveKeys, keysL, keysAV, renAV, renL, rr, s1, hsn]
theorem e24 (d : Nat) (b : List Int) (hb : b.length ≤ 2 ^ 39) : evFun E (d+12) 24 [.sl .fgn 1 b.length none (b.map (iv .u8))] [] =
    some (.ref 0 [] 1 0 40 none, [some (dAll b ⟨newD, (bel b 5 (0, newH b (newN b))).2⟩ (dN b (0, newH b (newN b)))).cs]) := by
  refine evFun_body b24 ?_
  have hkl : ∀ s, (curC b s).any isOwn = false := fun s => rfl
  simp (maxDischargeDepth := 8) only [vv, cc, bb, firstRegion, apartAll, clash, meets, execOp, opnd, builtinHM, bin, convHM, fillP, fieldsPlace, solid, inOrd, sliceHM, bound, zOK, appendHM, srcCells, borL, isSl, slLen, storeHM, loadHM, look1, idxAddr, arrAddr, cellsOf, TD.agg, loadedL, loaded, borrowed, isOwn, fieldR, partHM, absorbL, absorb1, setAt, killAV, killL, leafV, getR, isNil, nilV, Array.toList, List.map, bne_self_eq_false, reduceIte, reduceCtorEq, Nat.reduceEqDiff, Nat.reduceAdd, Nat.reduceMul, Nat.reduceSub, Nat.reduceBEq, Nat.reduceLeDiff, Int.reduceLT, Int.reduceLE, Int.reduceGE, Int.reduceGT, Int.reduceBEq, Int.reduceBNe, Int.reduceToNat, Int.reduceNeg, Int.reduceSub, Int.reduceAdd, Int.reduceMul, callHM, packA, packL, pack1, lentOk, getLent, putBack, backK, renAV, renL, rr, Try.f24, e54 _ _ hb, e53 _ _ _ hb, hkl]
  have s1 := isK_snap (dAll_inv b (x := ⟨newD, (bel b 5 (0, newH b (newN b))).2⟩) ⟨newD_k, newD_len, newD_b8⟩ (dN b (0, newH b (newN b)))).k
  simp only [vv, ff, firstRegion, apartAll, clash, meets, execOp, opnd, builtinHM, bin, convHM, fillP, fieldsPlace, solid, inOrd, sliceHM, bound, zOK, appendHM, srcCells, borL, isSl, slLen, storeHM, loadHM, look1, idxAddr, arrAddr, cellsOf, TD.agg, loadedL, loaded, borrowed, isOwn, fieldR, partHM, absorbL, absorb1, setAt, killAV, killL, leafV, getR, isNil, nilV, Array.toList, List.map, bne_self_eq_false, reduceIte, reduceCtorEq, Nat.reduceEqDiff, Nat.reduceAdd, Nat.reduceMul, Nat.reduceSub, Nat.reduceBEq, Nat.reduceLeDiff, Int.reduceLT, Int.reduceLE, Int.reduceGE, Int.reduceGT, Int.reduceBEq, Int.reduceBNe, Int.reduceToNat, Int.reduceNeg, Int.reduceSub, Int.reduceAdd, Int.reduceMul, finish, wkAV, resOf, resa, noSnap, noSnapL, noSnapO, keep, liveKeys, keysL, keysAV, renAV, renL, rr, s1]
end Go.Proofs.Ytjkkndgbhcmphaa.VH.S
end

section
namespace Go.Proofs.Ytjkkndgbhcmphaa.VH.S
open Go.Proofs
set_option maxRecDepth 100000
set_option maxHeartbeats 8000000
set_option linter.unusedSimpArgs false

/- Disks. -/
theorem cOf_slot {c r : Int} (h : okS c r = true) : cOf (slotL c r) = c := by
  simp only [okS, Bool.and_eq_true, decide_eq_true_eq] at h
  have : (slotL c r).take 8 = eightL c := rfl
  rw [cOf, this, numB_eight h.1.1 (by omega)]
theorem rOf_slot {c r : Int} (h : okS c r = true) : rOf (slotL c r) = r := by
  simp only [okS, Bool.and_eq_true, decide_eq_true_eq] at h
  have : ((slotL c r).drop 8).take 8 = eightL r := rfl
  rw [rOf, this, numB_eight h.2.1 (by omega)]
theorem rdOK_slot {c r : Int} (h : okS c r = true) : rdOK (slotL c r) = true := by
  have h' := h
  simp only [okS, Bool.and_eq_true, decide_eq_true_eq] at h
  rw [rdOK, inS, cOf_slot h', rOf_slot h']
  simp [h.1.2, h.2.2]
theorem rdV_cases {l : List Int} (hl : l.length = 40) :
    (rdV l = (cOf (l.take 20), rOf (l.take 20), 0) ∧ rdOK (l.take 20) = true ∧ (rdOK (l.drop 20) = false ∨ cOf (l.take 20) ≥ cOf (l.drop 20))) ∨
    (rdV l = (cOf (l.drop 20), rOf (l.drop 20), 1) ∧ rdOK (l.drop 20) = true ∧ (rdOK (l.take 20) = false ∨ cOf (l.take 20) < cOf (l.drop 20))) ∨
    (rdV l = (0, 0, -1) ∧ rdOK (l.take 20) = false ∧ rdOK (l.drop 20) = false) := by
  unfold rdV
  rw [if_pos hl]
  by_cases h : rdOK (l.take 20) = true ∧ (rdOK (l.drop 20) = false ∨ cOf (l.take 20) ≥ cOf (l.drop 20))
  · rw [if_pos h]; exact .inl ⟨rfl, h.1, h.2⟩
  · rw [if_neg h]
    cases hb : rdOK (l.drop 20) with
    | true =>
      rw [if_pos rfl]
      refine .inr (.inl ⟨rfl, rfl, ?_⟩)
      cases ha : rdOK (l.take 20) with
      | false => exact .inl rfl
      | true =>
        right
        refine Classical.byContradiction fun hh => h ⟨ha, .inr (by omega)⟩
    | false =>
      rw [if_neg (by simp)]
      refine .inr (.inr ⟨rfl, ?_, rfl⟩)
      cases ha : rdOK (l.take 20) with
      | false => rfl
      | true => exact absurd ⟨ha, .inl hb⟩ h
theorem rdV_pos {l : List Int} (hl : l.length = 40) (h : rdOK (l.take 20) = true ∨ rdOK (l.drop 20) = true) : (rdV l).2.2 ≥ 0 := by
  rcases rdV_cases hl with ⟨e, _⟩ | ⟨e, _⟩ | ⟨_, e1, e2⟩
  · rw [e]; show (0 : Int) ≥ 0; decide
  · rw [e]; show (1 : Int) ≥ 0; decide
  · rw [e1, e2] at h; simp at h
theorem put20_take {l s : List Int} (hl : l.length = 40) : (putL l 20 s).take 20 = l.take 20 := by
  rw [putL, List.append_assoc, List.take_append_of_le_length (by simp; omega), List.take_take, Nat.min_self]
theorem put20_drop {l s : List Int} (hl : l.length = 40) : (putL l 20 s).drop 20 = s ++ l.drop (20 + s.length) := by
  rw [putL, List.append_assoc, List.drop_append_of_le_length (by simp; omega), List.drop_of_length_le (by simp; omega), List.nil_append]
theorem put0_take {l s : List Int} (hs : s.length ≤ 20) : (putL l 0 s).take 20 = s ++ (l.take 20).drop s.length := by
  rw [putL, List.take_zero, List.nil_append, Nat.zero_add, List.take_append, List.take_of_length_le hs, List.drop_take]
theorem put0_drop {l s : List Int} (hs : s.length ≤ 20) : (putL l 0 s).drop 20 = l.drop 20 := by
  rw [putL, List.take_zero, List.nil_append, Nat.zero_add, List.drop_append, List.drop_of_length_le hs, List.nil_append, List.drop_drop]
  congr 1; omega
/-- a slot whose counter is small -/
def Small (m : Int) (s : List Int) : Prop := ∃ c, 0 ≤ c ∧ c ≤ m ∧ s.take 8 = eightL c
theorem eight_small {c : Int} (h0 : 0 ≤ c) (h1 : c < 256) : eightL c = [0, 0, 0, 0, 0, 0, 0, c] := by
  have s : ∀ k : Nat, 8 ≤ k → k ≤ 64 → shrI c (k : Int) = 0 := fun k hk hk' => by
    rw [shrI, Int.toNat_natCast, Nat.min_eq_left hk', Int.fdiv_eq_ediv_of_nonneg _ (Int.le_of_lt (Int.pow_pos (by decide)))]
    refine Int.ediv_eq_zero_of_lt h0 ?_
    have e : (2 : Int) ^ k = ((2 ^ k : Nat) : Int) := by simp
    have := Nat.pow_le_pow_right (n := 2) (by decide) hk
    rw [e]; omega
  have s8 := s 8 (by decide) (by decide); have s16 := s 16 (by decide) (by decide); have s24 := s 24 (by decide) (by decide); have s32 := s 32 (by decide) (by decide)
  have s40 := s 40 (by decide) (by decide); have s48 := s 48 (by decide) (by decide); have s56 := s 56 (by decide) (by decide)
  simp only [Int.cast_ofNat_Int] at s8 s16 s24 s32 s40 s48 s56
  simp only [eightL, w8, IntKind.wrap_u8, s8, s16, s24, s32, s40, s48, s56]
  have : c % 256 = c := by omega
  simp [this]
theorem small_mix {m c r : Int} {s : List Int} (hm : m < 256) (hc0 : 0 ≤ c) (hc : c ≤ m) (hs : Small m s) (t : Nat) (ht : t ≤ 20) (hl : s.length = 20) : Small m ((slotL c r).take t ++ s.drop t) := by
  obtain ⟨c', h0, h1, h2⟩ := hs
  by_cases h8 : 8 ≤ t
  · refine ⟨c, hc0, hc, ?_⟩
    rw [List.take_append_of_le_length (by rw [List.length_take, slot_len]; omega), List.take_take, Nat.min_eq_left h8]; rfl
  · refine ⟨c', h0, h1, ?_⟩
    have e1 : (slotL c r).take t = (eightL c).take t := by
      have : (slotL c r).take 8 = eightL c := rfl
      rw [← this, List.take_take, Nat.min_eq_left (by omega)]
    have e2 : s = s.take 8 ++ s.drop 8 := (List.take_append_drop 8 s).symm
    rw [e1, e2, h2, eight_small hc0 (by omega), eight_small h0 (by omega)]
    have : t = 0 ∨ t = 1 ∨ t = 2 ∨ t = 3 ∨ t = 4 ∨ t = 5 ∨ t = 6 ∨ t = 7 := by omega
    rcases this with rfl | rfl | rfl | rfl | rfl | rfl | rfl | rfl <;> simp
theorem Small.cOf {m : Int} {s : List Int} (h : Small m s) (hm : m < 256) : cOf s ≤ m := by
  obtain ⟨c, h0, h1, h2⟩ := h
  rw [S.cOf, h2, numB_eight h0 (by omega)]; exact h1
theorem Small.mono {m m' : Int} {s : List Int} (h : Small m s) (hm : m ≤ m') : Small m' s := by
  obtain ⟨c, h0, h1, h2⟩ := h
  exact ⟨c, h0, by omega, h2⟩
structure DInv (m : Int) (l : List Int) : Prop where
  len : l.length = 40
  b8 : B8 l
  a : Small m (l.take 20)
  b : Small m (l.drop 20)
  pos : (rdV l).2.2 ≥ 0
theorem DInv.n {m : Int} {l : List Int} (h : DInv m l) (hm : m < 256) (h0 : 0 ≤ m) : 0 ≤ (rdV l).1 ∧ (rdV l).1 ≤ m := by
  refine ⟨(rdV_b h.b8).1, ?_⟩
  rcases rdV_cases h.len with ⟨e, _⟩ | ⟨e, _⟩ | ⟨e, _, _⟩
  · rw [e]; exact h.a.cOf hm
  · rw [e]; exact h.b.cOf hm
  · rw [e]; exact h0
theorem DInv.step {m : Int} {l : List Int} (h : DInv m l) (hm0 : 0 ≤ m) (hm : m < 250) {c r t : Int} (hc : c ≤ m + 3) : DInv (m + 3) (wrV l c r t) := by
  have a' := h.a.mono (show m ≤ m + 3 by omega)
  have b' := h.b.mono (show m ≤ m + 3 by omega)
  unfold wrV
  by_cases hw : wrOK l c r t = true
  · rw [if_pos hw]
    simp only [wrOK, Bool.and_eq_true, decide_eq_true_eq] at hw
    obtain ⟨⟨⟨hl, ho⟩, ht⟩, _⟩ := hw
    have ho' := ho
    simp only [okS, Bool.and_eq_true, decide_eq_true_eq] at ho'
    have hsl : ((slotL c r).take t.toNat).length = t.toNat := by rw [List.length_take, slot_len]; omega
    have hb8 : B8 (putL l (wrAt l) ((slotL c r).take t.toNat)) := h.b8.put ((B8.slot _ _).take _)
    rcases rdV_cases h.len with ⟨e, e1, e2⟩ | ⟨e, e1, e2⟩ | ⟨e, _, _⟩
    · have hat : wrAt l = 20 := by unfold wrAt; rw [e]; rfl
      rw [hat] at hb8 ⊢
      have hlen : (putL l 20 ((slotL c r).take t.toNat)).length = 40 := by rw [putL_len _ _ _ (by rw [hsl]; omega), hl]
      refine ⟨hlen, hb8, by rw [put20_take hl]; exact a', ?_, rdV_pos hlen (.inl (by rw [put20_take hl]; exact e1))⟩
      rw [put20_drop hl, hsl, ← List.drop_drop]
      exact small_mix (by omega) ho'.1.1 hc b' _ (by omega) (by rw [List.length_drop, hl])
    · have hat : wrAt l = 0 := by unfold wrAt; rw [e]; rfl
      rw [hat] at hb8 ⊢
      have hlen : (putL l 0 ((slotL c r).take t.toNat)).length = 40 := by rw [putL_len _ _ _ (by rw [hsl]; omega), hl]
      refine ⟨hlen, hb8, ?_, by rw [put0_drop (by rw [hsl]; omega)]; exact b', rdV_pos hlen (.inr (by rw [put0_drop (by rw [hsl]; omega)]; exact e1))⟩
      rw [put0_take (by rw [hsl]; omega), hsl]
      exact small_mix (by omega) ho'.1.1 hc a' _ (by omega) (by rw [List.length_take, hl]; rfl)
    · have := h.pos; rw [e] at this; exact absurd this (by decide)
  · rw [if_neg hw]; exact ⟨h.len, h.b8, a', b', h.pos⟩
theorem newD_inv : DInv 0 (un newD) := by
  have e : un newD = slotL 0 0 ++ List.replicate 20 0 := by rw [newD, un_app, un_map, un_repl]
  have hl : (un newD).length = 40 := by rw [un_len, newD_len]
  have ht : (un newD).take 20 = slotL 0 0 := by rw [e]; exact List.take_left' (slot_len 0 0)
  have hd : (un newD).drop 20 = List.replicate 20 0 := by rw [e]; exact List.drop_left' (slot_len 0 0)
  refine ⟨hl, newD_b8, ?_, ?_, rdV_pos hl (.inl (by rw [ht]; exact rdOK_slot ok00))⟩
  · rw [ht]; exact ⟨0, by decide, by decide, rfl⟩
  · rw [hd]; exact ⟨0, by decide, by decide, by decide⟩
theorem newD_rd : rdV (un newD) = (0, 0, 0) := by
  have e : un newD = slotL 0 0 ++ List.replicate 20 0 := by rw [newD, un_app, un_map, un_repl]
  have hl : (un newD).length = 40 := by rw [un_len, newD_len]
  have ht : (un newD).take 20 = slotL 0 0 := by rw [e]; exact List.take_left' (slot_len 0 0)
  have hd : (un newD).drop 20 = List.replicate 20 0 := by rw [e]; exact List.drop_left' (slot_len 0 0)
  have c0 : cOf (slotL 0 0) = 0 := cOf_slot ok00
  have r0 : rOf (slotL 0 0) = 0 := rOf_slot ok00
  have cz : cOf (List.replicate 20 0) = 0 := by decide
  rcases rdV_cases hl with ⟨h, _⟩ | ⟨h, _, h2⟩ | ⟨_, h1, _⟩
  · rw [h, ht, c0, r0]
  · rw [ht, hd, c0, cz, rdOK_slot ok00] at h2; simp at h2
  · rw [ht, rdOK_slot ok00] at h1; simp at h1
theorem dAll_DInv (b : List Int) (s : Nat × Int) : ∀ i : Nat, i ≤ 40 → DInv (3 * (i : Int)) (un (dAll b ⟨newD, s⟩ i).cs)
  | 0, _ => newD_inv
  | i + 1, hi => by
    have h := dAll_DInv b s i (by omega)
    have hn := h.n (by omega) (by omega)
    have e : (3 * ((i + 1 : Nat) : Int)) = 3 * (i : Int) + 3 := by omega
    rw [e]
    show DInv _ (un (dStep b (dAll b ⟨newD, s⟩ i)).cs)
    simp only [dStep, un_wrC]
    refine h.step (by omega) (by omega) ?_
    have := (bel_b b (n := 3) (by decide) (if (((bel b 3 (dAll b ⟨newD, s⟩ i).s).1 == 0) = true) then bel b 21 (bel b 3 (dAll b ⟨newD, s⟩ i).s).2 else (20, (bel b 3 (dAll b ⟨newD, s⟩ i).s).2)).2)
    omega
def atV (b : List Int) (k : Nat) : Int := if k < b.length then b.getD k 0 else ((k * 7 + b.length : Nat) : Int).tmod 256
theorem atV_b {b : List Int} (hb : B8 b) (k : Nat) : 0 ≤ atV b k ∧ atV b k < 256 := by
  unfold atV
  split
  · rename_i h
    rw [List.getD_eq_getElem?_getD, List.getElem?_eq_getElem h]
    exact hb _ (List.getElem_mem _)
  · exact ⟨Int.tmod_nonneg _ (by omega), Int.tmod_lt_of_pos _ (by decide)⟩
theorem e27 (d : Nat) (b : List Int) (k : Nat) (hk : k ≤ 1000) (hl : b.length ≤ 2 ^ 39) (hb : B8 b) : evFun E (d+1) 27 [.sl .fgn 1 b.length none (b.map (iv .u8)), vi k] [] = some (vi (atV b k), []) := by
  refine evFun_body b27 ?_
  by_cases h : k < b.length
  · have hx := hb _ (List.getElem_mem h)
    have hw : IntKind.i64.wrap b[k] = b[k] := wrap64 (by omega) (by omega)
    have hg : b[k]?.getD 0 = b[k] := by rw [List.getElem?_eq_getElem h]; rfl
    simp only [vv, firstRegion, apartAll, clash, meets, execOp, opnd, builtinHM, bin, convHM, fillP, fieldsPlace, solid, inOrd, sliceHM, bound, zOK, appendHM, srcCells, borL, isSl, slLen, storeHM, loadHM, look1, idxAddr, arrAddr, cellsOf, TD.agg, loadedL, loaded, borrowed, isOwn, fieldR, partHM, absorbL, absorb1, setAt, killAV, killL, leafV, getR, isNil, nilV, Array.toList, List.map, bne_self_eq_false, reduceIte, reduceCtorEq, Nat.reduceEqDiff, Nat.reduceAdd, Nat.reduceMul, Nat.reduceSub, Nat.reduceBEq, Nat.reduceLeDiff, Int.reduceEq, Int.reduceLT, Int.reduceLE, Int.reduceGE, Int.reduceGT, Int.reduceBEq, Int.reduceBNe, Int.reduceToNat, Int.reduceNeg, Int.reduceSub, Int.reduceAdd, Int.reduceMul, rr, Try.f27, lt_ok h, map_get h, hw]
    simp only [vv, ff, firstRegion, apartAll, clash, meets, execOp, opnd, builtinHM, bin, convHM, fillP, fieldsPlace, solid, inOrd, sliceHM, bound, zOK, appendHM, srcCells, borL, isSl, slLen, storeHM, loadHM, look1, idxAddr, arrAddr, cellsOf, TD.agg, loadedL, loaded, borrowed, isOwn, fieldR, partHM, absorbL, absorb1, setAt, killAV, killL, leafV, getR, isNil, nilV, Array.toList, List.map, bne_self_eq_false, reduceIte, reduceCtorEq, Nat.reduceEqDiff, Nat.reduceAdd, Nat.reduceMul, Nat.reduceSub, Nat.reduceBEq, Nat.reduceLeDiff, Int.reduceEq, Int.reduceLT, Int.reduceLE, Int.reduceGE, Int.reduceGT, Int.reduceBEq, Int.reduceBNe, Int.reduceToNat, Int.reduceNeg, Int.reduceSub, Int.reduceAdd, Int.reduceMul, finish, wkAV, resOf, resa, noSnap, noSnapL, noSnapO, keep, liveKeys, keysL, keysAV, renAV, renL, rr, atV, if_pos h, hg]
  · have hd : decide ((k : Int) < (b.length : Int)) = false := by simp; omega
    have w1 : IntKind.i64.wrap ((k : Int) * 7) = (k : Int) * 7 := wrap64 (by omega) (by omega)
    have w2 : IntKind.i64.wrap ((k : Int) * 7 + (b.length : Int)) = ((k * 7 + b.length : Nat) : Int) := by rw [wrap64 (by omega) (by omega)]; omega
    simp only [vv, firstRegion, apartAll, clash, meets, execOp, opnd, builtinHM, bin, convHM, fillP, fieldsPlace, solid, inOrd, sliceHM, bound, zOK, appendHM, srcCells, borL, isSl, slLen, storeHM, loadHM, look1, idxAddr, arrAddr, cellsOf, TD.agg, loadedL, loaded, borrowed, isOwn, fieldR, partHM, absorbL, absorb1, setAt, killAV, killL, leafV, getR, isNil, nilV, Array.toList, List.map, bne_self_eq_false, reduceIte, reduceCtorEq, Nat.reduceEqDiff, Nat.reduceAdd, Nat.reduceMul, Nat.reduceSub, Nat.reduceBEq, Nat.reduceLeDiff, Int.reduceEq, Int.reduceLT, Int.reduceLE, Int.reduceGE, Int.reduceGT, Int.reduceBEq, Int.reduceBNe, Int.reduceToNat, Int.reduceNeg, Int.reduceSub, Int.reduceAdd, Int.reduceMul, rr, Try.f27, hd, w1, w2]
    simp only [vv, ff, firstRegion, apartAll, clash, meets, execOp, opnd, builtinHM, bin, convHM, fillP, fieldsPlace, solid, inOrd, sliceHM, bound, zOK, appendHM, srcCells, borL, isSl, slLen, storeHM, loadHM, look1, idxAddr, arrAddr, cellsOf, TD.agg, loadedL, loaded, borrowed, isOwn, fieldR, partHM, absorbL, absorb1, setAt, killAV, killL, leafV, getR, isNil, nilV, Array.toList, List.map, bne_self_eq_false, reduceIte, reduceCtorEq, Nat.reduceEqDiff, Nat.reduceAdd, Nat.reduceMul, Nat.reduceSub, Nat.reduceBEq, Nat.reduceLeDiff, Int.reduceEq, Int.reduceLT, Int.reduceLE, Int.reduceGE, Int.reduceGT, Int.reduceBEq, Int.reduceBNe, Int.reduceToNat, Int.reduceNeg, Int.reduceSub, Int.reduceAdd, Int.reduceMul, finish, wkAV, resOf, resa, noSnap, noSnapL, noSnapO, keep, liveKeys, keysL, keysAV, renAV, renL, rr, atV, if_neg h]
theorem e23 (d : Nat) (tg : Tg) (cap : Option Nat) (n : Nat) (cs : List AV) : evFun E (d+1) 23 [.sl tg 1 n cap cs] [] = some (vb (decide ((n : Int) > 1048576)), []) := by
  refine evFun_body b23 ?_
  simp only [vv, firstRegion, apartAll, clash, meets, execOp, opnd, builtinHM, bin, convHM, fillP, fieldsPlace, solid, inOrd, sliceHM, bound, zOK, appendHM, srcCells, borL, isSl, slLen, storeHM, loadHM, look1, idxAddr, arrAddr, cellsOf, TD.agg, loadedL, loaded, borrowed, isOwn, fieldR, partHM, absorbL, absorb1, setAt, killAV, killL, leafV, getR, isNil, nilV, Array.toList, List.map, bne_self_eq_false, reduceIte, reduceCtorEq, Nat.reduceEqDiff, Nat.reduceAdd, Nat.reduceMul, Nat.reduceSub, Nat.reduceBEq, Nat.reduceLeDiff, Int.reduceEq, Int.reduceLT, Int.reduceLE, Int.reduceGE, Int.reduceGT, Int.reduceBEq, Int.reduceBNe, Int.reduceToNat, Int.reduceNeg, Int.reduceSub, Int.reduceAdd, Int.reduceMul, rr, Try.f23]
  simp only [vv, ff, firstRegion, apartAll, clash, meets, execOp, opnd, builtinHM, bin, convHM, fillP, fieldsPlace, solid, inOrd, sliceHM, bound, zOK, appendHM, srcCells, borL, isSl, slLen, storeHM, loadHM, look1, idxAddr, arrAddr, cellsOf, TD.agg, loadedL, loaded, borrowed, isOwn, fieldR, partHM, absorbL, absorb1, setAt, killAV, killL, leafV, getR, isNil, nilV, Array.toList, List.map, bne_self_eq_false, reduceIte, reduceCtorEq, Nat.reduceEqDiff, Nat.reduceAdd, Nat.reduceMul, Nat.reduceSub, Nat.reduceBEq, Nat.reduceLeDiff, Int.reduceEq, Int.reduceLT, Int.reduceLE, Int.reduceGE, Int.reduceGT, Int.reduceBEq, Int.reduceBNe, Int.reduceToNat, Int.reduceNeg, Int.reduceSub, Int.reduceAdd, Int.reduceMul, finish, wkAV, resOf, resa, noSnap, noSnapL, noSnapO, keep, liveKeys, keysL, keysAV, renAV, renL, rr]
theorem strCmp (a b : List Int) (ha : B8 a) (hb : B8 b) : ((ByteArray.mk (a.map fun n => UInt8.ofNat n.toNat).toArray).toList == (ByteArray.mk (b.map fun n => UInt8.ofNat n.toNat).toArray).toList) = decide (a = b) := strOf_eq ha hb
theorem whole20 (c r : Int) : (slotL c r).take (20 : Int).toNat = slotL c r := List.take_of_length_le (by rw [slot_len]; decide)
/-- a write on a disk whose first slot is told -/
theorem told0 {m : Int} {l : List Int} (h : DInv m l) (hm0 : 0 ≤ m) (hm : m < 250) {n r : Int} (e : rdV l = (n, r, 0)) {x : Int} (hx : 0 ≤ x ∧ x ≤ 300000) :
    n ≤ m ∧ 0 ≤ n ∧ okS n r = true ∧ slotL n r = l.take 20 ∧ wrOK l n x 20 = false ∧ (∀ t : Int, 0 ≤ t → t ≤ 20 → wrOK l (n + 1) x t = true ∧ (wrV l (n + 1) x t).take 20 = l.take 20 ∧ (rdV (wrV l (n + 1) x t)).2.2 ≥ 0) ∧ rdV (wrV l (n + 1) x 20) = (n + 1, x, 1) := by
  have hn := h.n (by omega) hm0
  rw [e] at hn
  simp only at hn
  rcases rdV_cases h.len with ⟨e', e1, e2⟩ | ⟨e', _⟩ | ⟨e', _⟩
  · rw [e] at e'
    simp only [Prod.mk.injEq, and_true] at e'
    have e1' := e1
    simp only [rdOK, inS, Bool.and_eq_true, decide_eq_true_eq, ← e'.1, ← e'.2] at e1'
    have hrn := rOf_nn (h.b8.take 20)
    rw [← e'.2] at hrn
    have hok : okS n r = true := by simp [okS, hn.1, hrn, e1'.1.1, e1'.1.2]
    have hok1 : okS (n + 1) x = true := by simp only [okS, Bool.and_eq_true, decide_eq_true_eq]; omega
    have hat : wrAt l = 20 := by unfold wrAt; rw [e]; rfl
    have hwr : ∀ t : Int, 0 ≤ t → t ≤ 20 → wrOK l (n + 1) x t = true := fun t h0 h1 => by
      simp only [wrOK, e, h.len, hok1, Bool.and_eq_true, Bool.not_eq_true', decide_eq_true_eq, Bool.and_eq_false_imp]
      refine ⟨⟨⟨trivial, trivial⟩, h0, h1⟩, fun _ => ?_⟩
      simp; omega
    have hlen : ∀ t : Int, 0 ≤ t → t ≤ 20 → ((slotL (n + 1) x).take t.toNat).length = t.toNat := fun t h0 h1 => by rw [List.length_take, slot_len]; omega
    have hpl : ∀ t : Int, 0 ≤ t → t ≤ 20 → (putL l 20 ((slotL (n + 1) x).take t.toNat)).length = 40 := fun t h0 h1 => by rw [putL_len _ _ _ (by rw [hlen t h0 h1, h.len]; omega), h.len]
    refine ⟨hn.2, hn.1, hok, e1'.2, ?_, fun t h0 h1 => ⟨hwr t h0 h1, ?_, ?_⟩, ?_⟩
    · simp [wrOK, e]
    · rw [wrV, if_pos (hwr t h0 h1), hat, put20_take h.len]
    · rw [wrV, if_pos (hwr t h0 h1), hat]
      exact rdV_pos (hpl t h0 h1) (.inl (by rw [put20_take h.len]; exact e1))
    · rw [wrV, if_pos (hwr 20 (by decide) (by decide)), hat]
      have hp := hpl 20 (by decide) (by decide)
      have ht := put20_take (s := (slotL (n + 1) x).take (20 : Int).toNat) h.len
      have hd := put20_drop (s := (slotL (n + 1) x).take (20 : Int).toNat) h.len
      rw [whole20] at hp ht hd ⊢
      rw [slot_len, show l.drop (20 + 20) = [] from List.drop_of_length_le (by rw [h.len]; decide), List.append_nil] at hd
      rcases rdV_cases hp with ⟨q, q1, q2⟩ | ⟨q, q1, q2⟩ | ⟨q, q1, q2⟩
      · rw [ht, hd, rdOK_slot hok1, cOf_slot hok1, ← e'.1] at q2
        rcases q2 with q2 | q2
        · simp at q2
        · omega
      · rw [q, hd, cOf_slot hok1, rOf_slot hok1]
      · rw [hd, rdOK_slot hok1] at q2; simp at q2
  · rw [e] at e'; simp at e'
  · rw [e] at e'; simp at e'
theorem told1 {m : Int} {l : List Int} (h : DInv m l) (hm0 : 0 ≤ m) (hm : m < 250) {n r : Int} (e : rdV l = (n, r, 1)) {x : Int} (hx : 0 ≤ x ∧ x ≤ 300000) :
    n ≤ m ∧ 0 ≤ n ∧ okS n r = true ∧ slotL n r = l.drop 20 ∧ wrOK l n x 20 = false ∧ (∀ t : Int, 0 ≤ t → t ≤ 20 → wrOK l (n + 1) x t = true ∧ (wrV l (n + 1) x t).drop 20 = l.drop 20 ∧ (rdV (wrV l (n + 1) x t)).2.2 ≥ 0) ∧ rdV (wrV l (n + 1) x 20) = (n + 1, x, 0) := by
  have hn := h.n (by omega) hm0
  rw [e] at hn
  simp only at hn
  rcases rdV_cases h.len with ⟨e', _⟩ | ⟨e', e1, e2⟩ | ⟨e', _⟩
  · rw [e] at e'; simp at e'
  · rw [e] at e'
    simp only [Prod.mk.injEq, and_true] at e'
    have e1' := e1
    simp only [rdOK, inS, Bool.and_eq_true, decide_eq_true_eq, ← e'.1, ← e'.2] at e1'
    have hrn := rOf_nn (h.b8.drop 20)
    rw [← e'.2] at hrn
    have hok : okS n r = true := by simp [okS, hn.1, hrn, e1'.1.1, e1'.1.2]
    have hok1 : okS (n + 1) x = true := by simp only [okS, Bool.and_eq_true, decide_eq_true_eq]; omega
    have hat : wrAt l = 0 := by unfold wrAt; rw [e]; rfl
    have hwr : ∀ t : Int, 0 ≤ t → t ≤ 20 → wrOK l (n + 1) x t = true := fun t h0 h1 => by
      simp only [wrOK, e, h.len, hok1, Bool.and_eq_true, Bool.not_eq_true', decide_eq_true_eq, Bool.and_eq_false_imp]
      refine ⟨⟨⟨trivial, trivial⟩, h0, h1⟩, fun _ => ?_⟩
      simp; omega
    have hlen : ∀ t : Int, 0 ≤ t → t ≤ 20 → ((slotL (n + 1) x).take t.toNat).length ≤ 20 := fun t h0 h1 => by rw [List.length_take, slot_len]; omega
    have hpl : ∀ t : Int, 0 ≤ t → t ≤ 20 → (putL l 0 ((slotL (n + 1) x).take t.toNat)).length = 40 := fun t h0 h1 => by rw [putL_len _ _ _ (by have := hlen t h0 h1; rw [h.len]; omega), h.len]
    refine ⟨hn.2, hn.1, hok, e1'.2, ?_, fun t h0 h1 => ⟨hwr t h0 h1, ?_, ?_⟩, ?_⟩
    · simp [wrOK, e]
    · rw [wrV, if_pos (hwr t h0 h1), hat, put0_drop (hlen t h0 h1)]
    · rw [wrV, if_pos (hwr t h0 h1), hat]
      exact rdV_pos (hpl t h0 h1) (.inr (by rw [put0_drop (hlen t h0 h1)]; exact e1))
    · rw [wrV, if_pos (hwr 20 (by decide) (by decide)), hat]
      have hp := hpl 20 (by decide) (by decide)
      have hd := put0_drop (l := l) (hlen 20 (by decide) (by decide))
      have ht := put0_take (l := l) (hlen 20 (by decide) (by decide))
      rw [whole20] at hp ht hd ⊢
      rw [slot_len, show (l.take 20).drop 20 = [] from List.drop_of_length_le (by rw [List.length_take, h.len]; decide), List.append_nil] at ht
      rcases rdV_cases hp with ⟨q, q1, q2⟩ | ⟨q, q1, q2⟩ | ⟨q, q1, q2⟩
      · rw [q, ht, cOf_slot hok1, rOf_slot hok1]
      · rw [ht, hd, rdOK_slot hok1, cOf_slot hok1, ← e'.1] at q2
        rcases q2 with q2 | q2
        · simp at q2
        · omega
      · rw [ht, rdOK_slot hok1] at q1; simp at q1
  · rw [e] at e'; simp at e'
end Go.Proofs.Ytjkkndgbhcmphaa.VH.S
end

section
namespace Go.Proofs.Ytjkkndgbhcmphaa.VH.S
open Go.Proofs
set_option maxRecDepth 100000
set_option maxHeartbeats 16000000
set_option linter.unusedSimpArgs false

theorem e6 (d : Nat) (b : List Int) (hb : B8 b) : evFun E (d+13) 6 [.sl .fgn 1 b.length none (b.map (iv .u8))] [] = some (vb true, []) := by
  refine evFun_body b6 ?_
  by_cases hl : b.length ≤ 1048576
  · have hbig : decide ((b.length : Int) > 1048576) = false := by simp; omega
    have hbl : b.length ≤ 2 ^ 39 := by omega
    have hD := e24 d b hbl
    have hI := dAll_DInv b (bel b 5 (0, newH b (newN b))).2 (dN b (0, newH b (newN b))) (by
      have := bel_b b (n := 5) (by decide) (0, newH b (newN b))
      unfold dN; omega)
    have hI0 := dAll_inv b (x := ⟨newD, (bel b 5 (0, newH b (newN b))).2⟩) ⟨newD_k, newD_len, newD_b8⟩ (dN b (0, newH b (newN b)))
    have hm : (0 : Int) ≤ 3 * ((dN b (0, newH b (newN b)) : Nat) : Int) ∧ 3 * ((dN b (0, newH b (newN b)) : Nat) : Int) ≤ 12 := by
      have := bel_b b (n := 5) (by decide) (0, newH b (newN b))
      unfold dN; omega
    generalize 3 * ((dN b (0, newH b (newN b)) : Nat) : Int) = m at hI hm
    generalize (dAll b ⟨newD, (bel b 5 (0, newH b (newN b))).2⟩ (dN b (0, newH b (newN b)))).cs = D at hD hI hI0
    have hk := hI0.k
    have hn := hI0.len
    have hbu := hI0.b8
    have a1 := e27 (d+11) b 1 (by decide) hbl hb
    have a2 := e27 (d+11) b 2 (by decide) hbl hb
    have b1 := atV_b hb 1
    have b2 := atV_b hb 2
    simp only [cst1, cst2] at a1 a2
    generalize atV b 1 = x0 at a1 b1
    generalize atV b 2 = y0 at a2 b2
    have wx : IntKind.i64.wrap (x0 * 1000) = x0 * 1000 := wrap64 (by omega) (by omega)
    have hx : 0 ≤ x0 * 1000 ∧ x0 * 1000 ≤ 300000 := by omega
    have hy0 : 0 ≤ y0.tmod 21 := Int.tmod_nonneg _ b2.1
    have hy1 : y0.tmod 21 ≤ 20 := by have := Int.tmod_lt_of_pos y0 (b := 21) (by decide); omega
    rcases rdV_cases hI.len with ⟨e, _⟩ | ⟨e, _⟩ | ⟨e, _⟩
    · obtain ⟨t1, t2, t3, t4, t5, t6, t7⟩ := told0 hI hm.1 (by omega) e hx
      obtain ⟨u1, u2, u3⟩ := t6 _ hy0 hy1
      have v1 := (t6 20 (by decide) (by decide)).1
      generalize cOf ((un D).take 20) = n at *
      generalize rOf ((un D).take 20) = r at *
      have w1 : IntKind.i64.wrap (n + 1) = n + 1 := wrap64 (by omega) (by omega)
      have u4 : decide ((rdV (wrV (un D) (n + 1) (x0 * 1000) (y0.tmod 21))).2.2 ≥ 0) = true := decide_eq_true u3
      have p0 : (0 : Nat) < 40 := by decide
      have hko : ∀ c r t, isK .u8 (wrC D c r t) = true := fun c r t => isK_wrC hk c r t
      simp (maxDischargeDepth := 8) only [vv, cc, bb, firstRegion, apartAll, clash, meets, execOp, opnd, builtinHM, bin, convHM, fillP, fieldsPlace, solid, inOrd, sliceHM, bound, zOK, appendHM, srcCells, borL, isSl, slLen, storeHM, loadHM, look1, idxAddr, arrAddr, cellsOf, TD.agg, loadedL, loaded, borrowed, isOwn, fieldR, partHM, absorbL, absorb1, setAt, killAV, killL, leafV, getR, isNil, nilV, Array.toList, List.map, bne_self_eq_false, reduceIte, reduceCtorEq, Nat.reduceEqDiff, Nat.reduceAdd, Nat.reduceMul, Nat.reduceSub, Nat.reduceBEq, Nat.reduceLeDiff, Int.reduceEq, Int.reduceLT, Int.reduceLE, Int.reduceGE, Int.reduceGT, Int.reduceBEq, Int.reduceBNe, Int.reduceToNat, Int.reduceNeg, Int.reduceSub, Int.reduceAdd, Int.reduceMul, callHM, packA, packL, pack1, lentOk, getLent, putBack, backK, renAV, renL, rr, Try.f6, e23, hbig, hD, hk, hn, hbu, hko, wrC_len, p0, e, a1, a2, wx, w1, t3, t5, t7, u1, u2, u4, v1, e25, e26, e22, e28 _ _ _ t3, e29, newD_k, newD_len, newD_b8, newD_rd, cellsIn, strBin, bytesOf_isK, t4, S.B8.wrV, un_wrC, wrap64]
      repeat' ((with_reducible refine condT ?_ ?_); (focus kernel_rfl); try simp (maxDischargeDepth := 8) only [vv, cc, bb, firstRegion, apartAll, clash, meets, execOp, opnd, builtinHM, bin, convHM, fillP, fieldsPlace, solid, inOrd, sliceHM, bound, zOK, appendHM, srcCells, borL, isSl, slLen, storeHM, loadHM, look1, idxAddr, arrAddr, cellsOf, TD.agg, loadedL, loaded, borrowed, isOwn, fieldR, partHM, absorbL, absorb1, setAt, killAV, killL, leafV, getR, isNil, nilV, Array.toList, List.map, bne_self_eq_false, reduceIte, reduceCtorEq, Nat.reduceEqDiff, Nat.reduceAdd, Nat.reduceMul, Nat.reduceSub, Nat.reduceBEq, Nat.reduceLeDiff, Int.reduceEq, Int.reduceLT, Int.reduceLE, Int.reduceGE, Int.reduceGT, Int.reduceBEq, Int.reduceBNe, Int.reduceToNat, Int.reduceNeg, Int.reduceSub, Int.reduceAdd, Int.reduceMul, callHM, packA, packL, pack1, lentOk, getLent, putBack, backK, renAV, renL, rr, hk, hn, hbu, hko, wrC_len, p0, e, t3, t5, t7, u1, u2, u4, v1, e25, e26, e22, e28 _ _ _ t3, e29, newD_k, newD_len, newD_b8, newD_rd, cellsIn, strBin, bytesOf_isK, t4, S.B8.wrV, un_wrC, wrap64])
      simp only [vv, ff, firstRegion, apartAll, clash, meets, execOp, opnd, builtinHM, bin, convHM, fillP, fieldsPlace, solid, inOrd, sliceHM, bound, zOK, appendHM, srcCells, borL, isSl, slLen, storeHM, loadHM, look1, idxAddr, arrAddr, cellsOf, TD.agg, loadedL, loaded, borrowed, isOwn, fieldR, partHM, absorbL, absorb1, setAt, killAV, killL, leafV, getR, isNil, nilV, Array.toList, List.map, bne_self_eq_false, reduceIte, reduceCtorEq, Nat.reduceEqDiff, Nat.reduceAdd, Nat.reduceMul, Nat.reduceSub, Nat.reduceBEq, Nat.reduceLeDiff, Int.reduceEq, Int.reduceLT, Int.reduceLE, Int.reduceGE, Int.reduceGT, Int.reduceBEq, Int.reduceBNe, Int.reduceToNat, Int.reduceNeg, Int.reduceSub, Int.reduceAdd, Int.reduceMul, finish, wkAV, resOf, resa, noSnap, noSnapL, noSnapO, keep, liveKeys, keysL, keysAV, renAV, renL, rr]
    · obtain ⟨t1, t2, t3, t4, t5, t6, t7⟩ := told1 hI hm.1 (by omega) e hx
      obtain ⟨u1, u2, u3⟩ := t6 _ hy0 hy1
      have v1 := (t6 20 (by decide) (by decide)).1
      generalize cOf ((un D).drop 20) = n at *
      generalize rOf ((un D).drop 20) = r at *
      have w1 : IntKind.i64.wrap (n + 1) = n + 1 := wrap64 (by omega) (by omega)
      have u4 : decide ((rdV (wrV (un D) (n + 1) (x0 * 1000) (y0.tmod 21))).2.2 ≥ 0) = true := decide_eq_true u3
      have p0 : (0 : Nat) < 40 := by decide
      have hko : ∀ c r t, isK .u8 (wrC D c r t) = true := fun c r t => isK_wrC hk c r t
      simp (maxDischargeDepth := 8) only [vv, cc, bb, firstRegion, apartAll, clash, meets, execOp, opnd, builtinHM, bin, convHM, fillP, fieldsPlace, solid, inOrd, sliceHM, bound, zOK, appendHM, srcCells, borL, isSl, slLen, storeHM, loadHM, look1, idxAddr, arrAddr, cellsOf, TD.agg, loadedL, loaded, borrowed, isOwn, fieldR, partHM, absorbL, absorb1, setAt, killAV, killL, leafV, getR, isNil, nilV, Array.toList, List.map, bne_self_eq_false, reduceIte, reduceCtorEq, Nat.reduceEqDiff, Nat.reduceAdd, Nat.reduceMul, Nat.reduceSub, Nat.reduceBEq, Nat.reduceLeDiff, Int.reduceEq, Int.reduceLT, Int.reduceLE, Int.reduceGE, Int.reduceGT, Int.reduceBEq, Int.reduceBNe, Int.reduceToNat, Int.reduceNeg, Int.reduceSub, Int.reduceAdd, Int.reduceMul, callHM, packA, packL, pack1, lentOk, getLent, putBack, backK, renAV, renL, rr, Try.f6, e23, hbig, hD, hk, hn, hbu, hko, wrC_len, p0, e, a1, a2, wx, w1, t3, t5, t7, u1, u2, u4, v1, e25, e26, e22, e28 _ _ _ t3, e29, newD_k, newD_len, newD_b8, newD_rd, cellsIn, strBin, bytesOf_isK, t4, S.B8.wrV, un_wrC, wrap64]
      repeat' ((with_reducible refine condT ?_ ?_); (focus kernel_rfl); try simp (maxDischargeDepth := 8) only [vv, cc, bb, firstRegion, apartAll, clash, meets, execOp, opnd, builtinHM, bin, convHM, fillP, fieldsPlace, solid, inOrd, sliceHM, bound, zOK, appendHM, srcCells, borL, isSl, slLen, storeHM, loadHM, look1, idxAddr, arrAddr, cellsOf, TD.agg, loadedL, loaded, borrowed, isOwn, fieldR, partHM, absorbL, absorb1, setAt, killAV, killL, leafV, getR, isNil, nilV, Array.toList, List.map, bne_self_eq_false, reduceIte, reduceCtorEq, Nat.reduceEqDiff, Nat.reduceAdd, Nat.reduceMul, Nat.reduceSub, Nat.reduceBEq, Nat.reduceLeDiff, Int.reduceEq, Int.reduceLT, Int.reduceLE, Int.reduceGE, Int.reduceGT, Int.reduceBEq, Int.reduceBNe, Int.reduceToNat, Int.reduceNeg, Int.reduceSub, Int.reduceAdd, Int.reduceMul, callHM, packA, packL, pack1, lentOk, getLent, putBack, backK, renAV, renL, rr, hk, hn, hbu, hko, wrC_len, p0, e, t3, t5, t7, u1, u2, u4, v1, e25, e26, e22, e28 _ _ _ t3, e29, newD_k, newD_len, newD_b8, newD_rd, cellsIn, strBin, bytesOf_isK, t4, S.B8.wrV, un_wrC, wrap64])
      simp only [vv, ff, firstRegion, apartAll, clash, meets, execOp, opnd, builtinHM, bin, convHM, fillP, fieldsPlace, solid, inOrd, sliceHM, bound, zOK, appendHM, srcCells, borL, isSl, slLen, storeHM, loadHM, look1, idxAddr, arrAddr, cellsOf, TD.agg, loadedL, loaded, borrowed, isOwn, fieldR, partHM, absorbL, absorb1, setAt, killAV, killL, leafV, getR, isNil, nilV, Array.toList, List.map, bne_self_eq_false, reduceIte, reduceCtorEq, Nat.reduceEqDiff, Nat.reduceAdd, Nat.reduceMul, Nat.reduceSub, Nat.reduceBEq, Nat.reduceLeDiff, Int.reduceEq, Int.reduceLT, Int.reduceLE, Int.reduceGE, Int.reduceGT, Int.reduceBEq, Int.reduceBNe, Int.reduceToNat, Int.reduceNeg, Int.reduceSub, Int.reduceAdd, Int.reduceMul, finish, wkAV, resOf, resa, noSnap, noSnapL, noSnapO, keep, liveKeys, keysL, keysAV, renAV, renL, rr]
    · have := hI.pos
      rw [e] at this
      exact absurd this (by decide)
  · have hbig : decide ((b.length : Int) > 1048576) = true := by simp; omega
    simp (maxDischargeDepth := 8) only [vv, cc, bb, firstRegion, apartAll, clash, meets, execOp, opnd, builtinHM, bin, convHM, fillP, fieldsPlace, solid, inOrd, sliceHM, bound, zOK, appendHM, srcCells, borL, isSl, slLen, storeHM, loadHM, look1, idxAddr, arrAddr, cellsOf, TD.agg, loadedL, loaded, borrowed, isOwn, fieldR, partHM, absorbL, absorb1, setAt, killAV, killL, leafV, getR, isNil, nilV, Array.toList, List.map, bne_self_eq_false, reduceIte, reduceCtorEq, Nat.reduceEqDiff, Nat.reduceAdd, Nat.reduceMul, Nat.reduceSub, Nat.reduceBEq, Nat.reduceLeDiff, Int.reduceEq, Int.reduceLT, Int.reduceLE, Int.reduceGE, Int.reduceGT, Int.reduceBEq, Int.reduceBNe, Int.reduceToNat, Int.reduceNeg, Int.reduceSub, Int.reduceAdd, Int.reduceMul, callHM, packA, packL, pack1, lentOk, getLent, putBack, backK, renAV, renL, rr, Try.f6, e23, hbig]
    simp only [vv, ff, firstRegion, apartAll, clash, meets, execOp, opnd, builtinHM, bin, convHM, fillP, fieldsPlace, solid, inOrd, sliceHM, bound, zOK, appendHM, srcCells, borL, isSl, slLen, storeHM, loadHM, look1, idxAddr, arrAddr, cellsOf, TD.agg, loadedL, loaded, borrowed, isOwn, fieldR, partHM, absorbL, absorb1, setAt, killAV, killL, leafV, getR, isNil, nilV, Array.toList, List.map, bne_self_eq_false, reduceIte, reduceCtorEq, Nat.reduceEqDiff, Nat.reduceAdd, Nat.reduceMul, Nat.reduceSub, Nat.reduceBEq, Nat.reduceLeDiff, Int.reduceEq, Int.reduceLT, Int.reduceLE, Int.reduceGE, Int.reduceGT, Int.reduceBEq, Int.reduceBNe, Int.reduceToNat, Int.reduceNeg, Int.reduceSub, Int.reduceAdd, Int.reduceMul, finish, wkAV, resOf, resa, noSnap, noSnapL, noSnapO, keep, liveKeys, keysL, keysAV, renAV, renL, rr]
end Go.Proofs.Ytjkkndgbhcmphaa.VH.S
end

