/- Part of a proof about the given program: a verified evaluator, and what it tells of the functions (VhBFQ, VhBFR, VhBFT, VhBFN, VhPut, VhBFW, VhBFY, VhFlat, VhBFI, VhBFU). Conditions: none beyond the hypotheses that each theorem states. -/
import Derived.Test.YtjkkndgbhcmphaaG4
import Derived.Test.YtjkkndgbhcmphaaG3
section
namespace Go.Proofs.Ytjkkndgbhcmphaa.VH.S
open Go.Proofs
set_option maxRecDepth 100000
set_option maxHeartbeats 4000000
set_option linter.unusedSimpArgs false

/- What is known, for rows written in any way. -/
theorem q21 (d : Nat) (tg : Tg) (cap : Option Nat) (n : Nat) (cs : List AV) (hb : isK .u8 cs = true) (hn : cs.length = n) (hl : n ≤ 549755813888) : evFun E (d+1) 21 [.sl tg 1 n cap cs] [] = some (.ref 0 [] 1 0 n (some n), [some cs]) := by
  subst hn
  have := e21 d tg cap (un cs) (by rw [un_len]; exact hl)
  rw [un_len, ← isK_get hb] at this; exact this
theorem q13 (d : Nat) (tg tg' : Tg) (cap cap' : Option Nat) (n m : Nat) (a b : List AV) (ha : isK .u8 a = true) (hb : isK .u8 b = true) (hn : a.length = n) (hm : b.length = m) (hl : n ≤ 549755813888) : evFun E (d+1) 13 [.sl tg 1 n cap a, .sl tg' 1 m cap' b] [] = some (vb (decide (un a = un b)), []) := by
  subst hn; subst hm
  have := e13 d tg tg' cap cap' (un a) (un b) (by rw [un_len]; exact hl)
  rw [un_len, un_len, ← isK_get ha, ← isK_get hb] at this; exact this
theorem q16 (d : Nat) (n : Nat) (cs : List AV) (cap : Option Nat) (hb : isK .u8 cs = true) (hn : cs.length = n) (hl : n ≤ 549755813887) : evFun E (d+1) 16 [.ref 0 [] 1 0 n cap, vi 1] [cs] = some (vi (1 + n), [some ((marks .u8 1 n).map (iv .u8))]) := by
  subst hn
  have := e16 d (un cs) cap 1 (by decide) (by rw [un_len]; omega)
  rw [un_len, ← isK_get hb] at this; exact this
theorem q17 (d : Nat) (tg : Tg) (cap : Option Nat) (n : Nat) (cs : List AV) (hc : cs = (marks .u8 1 n).map (iv .u8)) (hl : n ≤ 549755813887) : evFun E (d+1) 17 [.sl tg 1 n cap cs, vi 1] [] = some (vi (1 + n), []) := by
  subst hc
  exact e17 d tg cap n 1 (by decide) (by omega)

theorem e75 (d : Nat) (tg : Tg) (cap : Option Nat) (l : List Int) (hl : l.length ≤ 8) (hb : B8 l) : evFun E (d+1) 75 [.sl tg 1 l.length cap (l.map (iv .u8))] [] = some (u64 (numB l), []) := by
  refine evFun_body b75 ?_
  have hl' : l.length ≤ 2 ^ 39 := by omega
  simp only [vv, firstRegion, apartAll, clash, meets, execOp, opnd, builtinHM, bin, convHM, fillP, fieldsPlace, solid, inOrd, sliceHM, bound, zOK, appendHM, srcCells, borL, isSl, slLen, storeHM, loadHM, look1, idxAddr, arrAddr, cellsOf, TD.agg, loadedL, loaded, borrowed, isOwn, fieldR, partHM, absorbL, absorb1, setAt, killAV, killL, leafV, getR, isNil, nilV, Array.toList, List.map, reduceIte, reduceCtorEq, Nat.reduceEqDiff, Nat.reduceAdd, Nat.reduceMul, Nat.reduceSub, Nat.reduceBEq, Nat.reduceLeDiff, Int.reduceLT, Int.reduceLE, Int.reduceGE, Int.reduceGT, Int.reduceBEq, Int.reduceBNe, Int.reduceToNat, Int.reduceNeg, Int.reduceSub, Int.reduceAdd, Int.reduceMul, rr, Try.f75]
  refine loop_go (fun i => {T := tp [(3, u64 (numB (l.take i))), (6, .sl tg 1 l.length cap (l.map (iv .u8))), (7, vi l.length), (8, vi i)], H := hp [], nx := 0}) l.length ?_ (lt_LF hl') (fun i hi Kn hK => ?_) (fun Kn => ?_)
  · simp only [vv, ff, norm, Array.toList, List.map, reduceIte, reduceCtorEq, Nat.reduceEqDiff, Nat.reduceAdd, Nat.reduceMul, Nat.reduceSub, Nat.reduceBEq, Nat.reduceLeDiff, Int.reduceLT, Int.reduceLE, Int.reduceGE, Int.reduceGT, Int.reduceBEq, Int.reduceBNe, Int.reduceToNat, Int.reduceNeg, Int.reduceSub, Int.reduceAdd, Int.reduceMul, finish, wkAV, resOf, resa, noSnap, noSnapL, noSnapO, keep, liveKeys, keysL, keysAV, renAV, renL, Int.natCast_zero, List.take_zero, numB, List.foldl_nil]
  · have h7 : numB (l.take i) < 72057594037927936 := by
      have h1 := numB_mono hb (show i ≤ l.length - 1 by omega) (by omega)
      have h2 := numB_take_lt hb (l.length - 1)
      have h3 : (256 : Int) ^ (l.length - 1) ≤ 256 ^ 7 := by
        have e : ∀ n : Nat, (256 : Int) ^ n = ((256 ^ n : Nat) : Int) := fun n => by simp
        have := Nat.pow_le_pow_right (n := 256) (by decide) (show l.length - 1 ≤ 7 by omega)
        rw [e, e]; omega
      have h4 : (256 : Int) ^ 7 = 72057594037927936 := by decide
      omega
    simp only [vv, firstRegion, apartAll, clash, meets, execOp, opnd, builtinHM, bin, convHM, fillP, fieldsPlace, solid, inOrd, sliceHM, bound, zOK, appendHM, srcCells, borL, isSl, slLen, storeHM, loadHM, look1, idxAddr, arrAddr, cellsOf, TD.agg, loadedL, loaded, borrowed, isOwn, fieldR, partHM, absorbL, absorb1, setAt, killAV, killL, leafV, getR, isNil, nilV, Array.toList, List.map, reduceIte, reduceCtorEq, Nat.reduceEqDiff, Nat.reduceAdd, Nat.reduceMul, Nat.reduceSub, Nat.reduceBEq, Nat.reduceLeDiff, Int.reduceLT, Int.reduceLE, Int.reduceGE, Int.reduceGT, Int.reduceBEq, Int.reduceBNe, Int.reduceToNat, Int.reduceNeg, Int.reduceSub, Int.reduceAdd, Int.reduceMul, rr, lt_ok hi, map_get hi, orU_shl (numB_nn (hb.take i)) h7 (hb _ (List.getElem_mem hi)), wrap_succ hi hl', ← numB_take hi]
    refine hK _ ?_
    simp only [vv, ff, norm, Array.toList, List.map, reduceIte, reduceCtorEq, Nat.reduceEqDiff, Nat.reduceAdd, Nat.reduceMul, Nat.reduceSub, Nat.reduceBEq, Nat.reduceLeDiff, Int.reduceLT, Int.reduceLE, Int.reduceGE, Int.reduceGT, Int.reduceBEq, Int.reduceBNe, Int.reduceToNat, Int.reduceNeg, Int.reduceSub, Int.reduceAdd, Int.reduceMul, finish, wkAV, resOf, resa, noSnap, noSnapL, noSnapO, keep, liveKeys, keysL, keysAV, renAV, renL]
  · simp only [vv, firstRegion, apartAll, clash, meets, execOp, opnd, builtinHM, bin, convHM, fillP, fieldsPlace, solid, inOrd, sliceHM, bound, zOK, appendHM, srcCells, borL, isSl, slLen, storeHM, loadHM, look1, idxAddr, arrAddr, cellsOf, TD.agg, loadedL, loaded, borrowed, isOwn, fieldR, partHM, absorbL, absorb1, setAt, killAV, killL, leafV, getR, isNil, nilV, Array.toList, List.map, reduceIte, reduceCtorEq, Nat.reduceEqDiff, Nat.reduceAdd, Nat.reduceMul, Nat.reduceSub, Nat.reduceBEq, Nat.reduceLeDiff, Int.reduceLT, Int.reduceLE, Int.reduceGE, Int.reduceGT, Int.reduceBEq, Int.reduceBNe, Int.reduceToNat, Int.reduceNeg, Int.reduceSub, Int.reduceAdd, Int.reduceMul, rr, lt_no]
    simp only [vv, ff, firstRegion, apartAll, clash, meets, execOp, opnd, builtinHM, bin, convHM, fillP, fieldsPlace, solid, inOrd, sliceHM, bound, zOK, appendHM, srcCells, borL, isSl, slLen, storeHM, loadHM, look1, idxAddr, arrAddr, cellsOf, TD.agg, loadedL, loaded, borrowed, isOwn, fieldR, partHM, absorbL, absorb1, setAt, killAV, killL, leafV, getR, isNil, nilV, Array.toList, List.map, reduceIte, reduceCtorEq, Nat.reduceEqDiff, Nat.reduceAdd, Nat.reduceMul, Nat.reduceSub, Nat.reduceBEq, Nat.reduceLeDiff, Int.reduceLT, Int.reduceLE, Int.reduceGE, Int.reduceGT, Int.reduceBEq, Int.reduceBNe, Int.reduceToNat, Int.reduceNeg, Int.reduceSub, Int.reduceAdd, Int.reduceMul, finish, wkAV, resOf, resa, noSnap, noSnapL, noSnapO, keep, liveKeys, keysL, keysAV, renAV, renL, rr, List.take_length]
theorem q75 (d : Nat) (tg : Tg) (cap : Option Nat) (cs : List AV) (n : Nat) (hk : isK .u8 cs = true) (hn : cs.length = n) (h8 : n ≤ 8) (hb : B8 (un cs)) : evFun E (d+1) 75 [.sl tg 1 n cap cs] [] = some (u64 (numB (un cs)), []) := by
  subst hn
  have := e75 d tg cap (un cs) (by rw [un_len]; exact h8) hb
  rw [un_len, ← isK_get hk] at this; exact this
def num7 (l : List Int) : Bool := decide (numB (l.take 7) < 18014398509481984)
theorem e84 (d : Nat) (tg : Tg) (cap : Option Nat) (l : List Int) (hl : l.length = 8) (hb : B8 l) : evFun E (d+1) 84 [.sl tg 1 8 cap (l.map (iv .u8))] [] = some (.tup [vi (if num7 l = true then numB l else 0), vb (num7 l)], []) := by
  refine evFun_body b84 ?_
  simp only [vv, firstRegion, apartAll, clash, meets, execOp, opnd, builtinHM, bin, convHM, fillP, fieldsPlace, solid, inOrd, sliceHM, bound, zOK, appendHM, srcCells, borL, isSl, slLen, storeHM, loadHM, look1, idxAddr, arrAddr, cellsOf, TD.agg, loadedL, loaded, borrowed, isOwn, fieldR, partHM, absorbL, absorb1, setAt, killAV, killL, leafV, getR, isNil, nilV, Array.toList, List.map, reduceIte, reduceCtorEq, Nat.reduceEqDiff, Nat.reduceAdd, Nat.reduceMul, Nat.reduceSub, Nat.reduceBEq, Nat.reduceLeDiff, Int.reduceLT, Int.reduceLE, Int.reduceGE, Int.reduceGT, Int.reduceBEq, Int.reduceBNe, Int.reduceToNat, Int.reduceNeg, Int.reduceSub, Int.reduceAdd, Int.reduceMul, rr, Try.f84]
  refine loop_inv (fun i => ∀ j, j < i → numB (l.take j) < 18014398509481984) (fun i => {T := tp [(0, .sl tg 1 8 cap (l.map (iv .u8))), (4, vi (numB (l.take i))), (5, vi i)], H := hp [], nx := 0}) 8 ?_ (fun j h => by omega) (lt_LF (by decide)) (fun i hi hI Kn hK => ?_) (fun hI Kn => ?_)
  · simp only [vv, ff, norm, Array.toList, List.map, reduceIte, reduceCtorEq, Nat.reduceEqDiff, Nat.reduceAdd, Nat.reduceMul, Nat.reduceSub, Nat.reduceBEq, Nat.reduceLeDiff, Int.reduceLT, Int.reduceLE, Int.reduceGE, Int.reduceGT, Int.reduceBEq, Int.reduceBNe, Int.reduceToNat, Int.reduceNeg, Int.reduceSub, Int.reduceAdd, Int.reduceMul, finish, wkAV, resOf, resa, noSnap, noSnapL, noSnapO, keep, liveKeys, keysL, keysAV, renAV, renL, Int.natCast_zero, List.take_zero, numB, List.foldl_nil]
  · have hil : i < l.length := by omega
    have q5 : decide ((i : Int) < 8) = true := by simp; omega
    have q6 : (decide (0 ≤ (i : Int)) && decide ((i : Int) < ((8 : Nat) : Int))) = true := by simp; omega
    simp only [vv, firstRegion, apartAll, clash, meets, execOp, opnd, builtinHM, bin, convHM, fillP, fieldsPlace, solid, inOrd, sliceHM, bound, zOK, appendHM, srcCells, borL, isSl, slLen, storeHM, loadHM, look1, idxAddr, arrAddr, cellsOf, TD.agg, loadedL, loaded, borrowed, isOwn, fieldR, partHM, absorbL, absorb1, setAt, killAV, killL, leafV, getR, isNil, nilV, Array.toList, List.map, reduceIte, reduceCtorEq, Nat.reduceEqDiff, Nat.reduceAdd, Nat.reduceMul, Nat.reduceSub, Nat.reduceBEq, Nat.reduceLeDiff, Int.reduceLT, Int.reduceLE, Int.reduceGE, Int.reduceGT, Int.reduceBEq, Int.reduceBNe, Int.reduceToNat, Int.reduceNeg, Int.reduceSub, Int.reduceAdd, Int.reduceMul, rr, q5]
    refine evIf_elim (fun h => ?_) (fun h => ?_)
    · simp only [vv, firstRegion, apartAll, clash, meets, execOp, opnd, builtinHM, bin, convHM, fillP, fieldsPlace, solid, inOrd, sliceHM, bound, zOK, appendHM, srcCells, borL, isSl, slLen, storeHM, loadHM, look1, idxAddr, arrAddr, cellsOf, TD.agg, loadedL, loaded, borrowed, isOwn, fieldR, partHM, absorbL, absorb1, setAt, killAV, killL, leafV, getR, isNil, nilV, Array.toList, List.map, reduceIte, reduceCtorEq, Nat.reduceEqDiff, Nat.reduceAdd, Nat.reduceMul, Nat.reduceSub, Nat.reduceBEq, Nat.reduceLeDiff, Int.reduceLT, Int.reduceLE, Int.reduceGE, Int.reduceGT, Int.reduceBEq, Int.reduceBNe, Int.reduceToNat, Int.reduceNeg, Int.reduceSub, Int.reduceAdd, Int.reduceMul, rr]
      simp only [vv, ff, firstRegion, apartAll, clash, meets, execOp, opnd, builtinHM, bin, convHM, fillP, fieldsPlace, solid, inOrd, sliceHM, bound, zOK, appendHM, srcCells, borL, isSl, slLen, storeHM, loadHM, look1, idxAddr, arrAddr, cellsOf, TD.agg, loadedL, loaded, borrowed, isOwn, fieldR, partHM, absorbL, absorb1, setAt, killAV, killL, leafV, getR, isNil, nilV, Array.toList, List.map, reduceIte, reduceCtorEq, Nat.reduceEqDiff, Nat.reduceAdd, Nat.reduceMul, Nat.reduceSub, Nat.reduceBEq, Nat.reduceLeDiff, Int.reduceLT, Int.reduceLE, Int.reduceGE, Int.reduceGT, Int.reduceBEq, Int.reduceBNe, Int.reduceToNat, Int.reduceNeg, Int.reduceSub, Int.reduceAdd, Int.reduceMul, finish, wkAV, resOf, resa, noSnap, noSnapL, noSnapO, keep, liveKeys, keysL, keysAV, renAV, renL, rr]
      have h1 := of_decide_eq_true h
      have h2 := numB_mono hb (show i ≤ 7 by omega) (by omega)
      have h3 : num7 l = false := by simp only [num7, decide_eq_false_iff_not]; omega
      rw [h3]; simp
    · have h1 := of_decide_eq_false h
      simp only [vv, firstRegion, apartAll, clash, meets, execOp, opnd, builtinHM, bin, convHM, fillP, fieldsPlace, solid, inOrd, sliceHM, bound, zOK, appendHM, srcCells, borL, isSl, slLen, storeHM, loadHM, look1, idxAddr, arrAddr, cellsOf, TD.agg, loadedL, loaded, borrowed, isOwn, fieldR, partHM, absorbL, absorb1, setAt, killAV, killL, leafV, getR, isNil, nilV, Array.toList, List.map, reduceIte, reduceCtorEq, Nat.reduceEqDiff, Nat.reduceAdd, Nat.reduceMul, Nat.reduceSub, Nat.reduceBEq, Nat.reduceLeDiff, Int.reduceLT, Int.reduceLE, Int.reduceGE, Int.reduceGT, Int.reduceBEq, Int.reduceBNe, Int.reduceToNat, Int.reduceNeg, Int.reduceSub, Int.reduceAdd, Int.reduceMul, rr, q5, q6, map_get hil, addI_shl (numB_nn (hb.take i)) (by omega) (hb _ (List.getElem_mem hil)), wrap_succ hi (show 8 ≤ 2 ^ 39 by decide), ← numB_take hil]
      refine hK (fun j hj => ?_) _ ?_
      · by_cases e : j = i
        · subst e; omega
        · exact hI j (by omega)
      · simp only [vv, ff, norm, Array.toList, List.map, reduceIte, reduceCtorEq, Nat.reduceEqDiff, Nat.reduceAdd, Nat.reduceMul, Nat.reduceSub, Nat.reduceBEq, Nat.reduceLeDiff, Int.reduceLT, Int.reduceLE, Int.reduceGE, Int.reduceGT, Int.reduceBEq, Int.reduceBNe, Int.reduceToNat, Int.reduceNeg, Int.reduceSub, Int.reduceAdd, Int.reduceMul, finish, wkAV, resOf, resa, noSnap, noSnapL, noSnapO, keep, liveKeys, keysL, keysAV, renAV, renL]
  · have q5 : decide (((8 : Nat) : Int) < 8) = false := by decide
    have q7 : num7 l = true := by simp only [num7, decide_eq_true_eq]; exact hI 7 (by decide)
    have q8 : l.take 8 = l := by rw [← hl, List.take_length]
    simp only [vv, firstRegion, apartAll, clash, meets, execOp, opnd, builtinHM, bin, convHM, fillP, fieldsPlace, solid, inOrd, sliceHM, bound, zOK, appendHM, srcCells, borL, isSl, slLen, storeHM, loadHM, look1, idxAddr, arrAddr, cellsOf, TD.agg, loadedL, loaded, borrowed, isOwn, fieldR, partHM, absorbL, absorb1, setAt, killAV, killL, leafV, getR, isNil, nilV, Array.toList, List.map, reduceIte, reduceCtorEq, Nat.reduceEqDiff, Nat.reduceAdd, Nat.reduceMul, Nat.reduceSub, Nat.reduceBEq, Nat.reduceLeDiff, Int.reduceLT, Int.reduceLE, Int.reduceGE, Int.reduceGT, Int.reduceBEq, Int.reduceBNe, Int.reduceToNat, Int.reduceNeg, Int.reduceSub, Int.reduceAdd, Int.reduceMul, rr, q5]
    simp only [vv, ff, firstRegion, apartAll, clash, meets, execOp, opnd, builtinHM, bin, convHM, fillP, fieldsPlace, solid, inOrd, sliceHM, bound, zOK, appendHM, srcCells, borL, isSl, slLen, storeHM, loadHM, look1, idxAddr, arrAddr, cellsOf, TD.agg, loadedL, loaded, borrowed, isOwn, fieldR, partHM, absorbL, absorb1, setAt, killAV, killL, leafV, getR, isNil, nilV, Array.toList, List.map, reduceIte, reduceCtorEq, Nat.reduceEqDiff, Nat.reduceAdd, Nat.reduceMul, Nat.reduceSub, Nat.reduceBEq, Nat.reduceLeDiff, Int.reduceLT, Int.reduceLE, Int.reduceGE, Int.reduceGT, Int.reduceBEq, Int.reduceBNe, Int.reduceToNat, Int.reduceNeg, Int.reduceSub, Int.reduceAdd, Int.reduceMul, finish, wkAV, resOf, resa, noSnap, noSnapL, noSnapO, keep, liveKeys, keysL, keysAV, renAV, renL, rr, q7, q8]
theorem q84 (d : Nat) (tg : Tg) (cap : Option Nat) (cs : List AV) (hk : isK .u8 cs = true) (hn : cs.length = 8) (hb : B8 (un cs)) : evFun E (d+1) 84 [.sl tg 1 8 cap cs] [] = some (.tup [vi (if num7 (un cs) = true then numB (un cs) else 0), vb (num7 (un cs))], []) := by
  have := e84 d tg cap (un cs) (by rw [un_len]; exact hn) hb
  rw [← isK_get hk] at this; exact this
theorem q76 (d : Nat) (tg tg' : Tg) (cap cap' : Option Nat) (n m : Nat) (a b : List AV) (ha : isK .u8 a = true) (hb : isK .u8 b = true) (hn : a.length = n) (hm : b.length = m) (h1 : B8 (un a)) (h2 : B8 (un b)) : evFun E (d+1) 76 [.sl tg 1 n cap a, .sl tg' 1 m cap' b] [] = some (vb (decide (un a = un b)), []) := by
  subst hn; subst hm
  refine evFun_body b76 ?_
  have e1 := bytesOf_isK ha
  have e2 := bytesOf_isK hb
  have hs := strOf_eq h1 h2
  simp only [vv, firstRegion, apartAll, clash, meets, execOp, opnd, builtinHM, bin, convHM, fillP, fieldsPlace, solid, inOrd, sliceHM, bound, zOK, appendHM, srcCells, borL, isSl, slLen, storeHM, loadHM, look1, idxAddr, arrAddr, cellsOf, TD.agg, loadedL, loaded, borrowed, isOwn, fieldR, partHM, absorbL, absorb1, setAt, killAV, killL, leafV, getR, isNil, nilV, Array.toList, List.map, reduceIte, reduceCtorEq, Nat.reduceEqDiff, Nat.reduceAdd, Nat.reduceMul, Nat.reduceSub, Nat.reduceBEq, Nat.reduceLeDiff, Int.reduceLT, Int.reduceLE, Int.reduceGE, Int.reduceGT, Int.reduceBEq, Int.reduceBNe, Int.reduceToNat, Int.reduceNeg, Int.reduceSub, Int.reduceAdd, Int.reduceMul, rr, Try.f76, cellsIn, List.take_length, e1, e2, strBin]
  simp only [vv, ff, firstRegion, apartAll, clash, meets, execOp, opnd, builtinHM, bin, convHM, fillP, fieldsPlace, solid, inOrd, sliceHM, bound, zOK, appendHM, srcCells, borL, isSl, slLen, storeHM, loadHM, look1, idxAddr, arrAddr, cellsOf, TD.agg, loadedL, loaded, borrowed, isOwn, fieldR, partHM, absorbL, absorb1, setAt, killAV, killL, leafV, getR, isNil, nilV, Array.toList, List.map, reduceIte, reduceCtorEq, Nat.reduceEqDiff, Nat.reduceAdd, Nat.reduceMul, Nat.reduceSub, Nat.reduceBEq, Nat.reduceLeDiff, Int.reduceLT, Int.reduceLE, Int.reduceGE, Int.reduceGT, Int.reduceBEq, Int.reduceBNe, Int.reduceToNat, Int.reduceNeg, Int.reduceSub, Int.reduceAdd, Int.reduceMul, finish, wkAV, resOf, resa, noSnap, noSnapL, noSnapO, keep, liveKeys, keysL, keysAV, renAV, renL, rr]
  simpa [strOf] using hs
theorem q85 (d : Nat) (tg tg' : Tg) (cap cap' : Option Nat) (n m : Nat) (a b : List AV) (ha : isK .u8 a = true) (hb : isK .u8 b = true) (hn : a.length = n) (hm : b.length = m) (h1 : B8 (un a)) (h2 : B8 (un b)) : evFun E (d+1) 85 [.sl tg 1 n cap a, .sl tg' 1 m cap' b] [] = some (vb (decide (un a = un b)), []) := by
  subst hn; subst hm
  refine evFun_body b85 ?_
  have e1 := bytesOf_isK ha
  have e2 := bytesOf_isK hb
  have hs := strOf_eq h1 h2
  simp only [vv, firstRegion, apartAll, clash, meets, execOp, opnd, builtinHM, bin, convHM, fillP, fieldsPlace, solid, inOrd, sliceHM, bound, zOK, appendHM, srcCells, borL, isSl, slLen, storeHM, loadHM, look1, idxAddr, arrAddr, cellsOf, TD.agg, loadedL, loaded, borrowed, isOwn, fieldR, partHM, absorbL, absorb1, setAt, killAV, killL, leafV, getR, isNil, nilV, Array.toList, List.map, reduceIte, reduceCtorEq, Nat.reduceEqDiff, Nat.reduceAdd, Nat.reduceMul, Nat.reduceSub, Nat.reduceBEq, Nat.reduceLeDiff, Int.reduceLT, Int.reduceLE, Int.reduceGE, Int.reduceGT, Int.reduceBEq, Int.reduceBNe, Int.reduceToNat, Int.reduceNeg, Int.reduceSub, Int.reduceAdd, Int.reduceMul, rr, Try.f85, cellsIn, List.take_length, e1, e2, strBin]
  simp only [vv, ff, firstRegion, apartAll, clash, meets, execOp, opnd, builtinHM, bin, convHM, fillP, fieldsPlace, solid, inOrd, sliceHM, bound, zOK, appendHM, srcCells, borL, isSl, slLen, storeHM, loadHM, look1, idxAddr, arrAddr, cellsOf, TD.agg, loadedL, loaded, borrowed, isOwn, fieldR, partHM, absorbL, absorb1, setAt, killAV, killL, leafV, getR, isNil, nilV, Array.toList, List.map, reduceIte, reduceCtorEq, Nat.reduceEqDiff, Nat.reduceAdd, Nat.reduceMul, Nat.reduceSub, Nat.reduceBEq, Nat.reduceLeDiff, Int.reduceLT, Int.reduceLE, Int.reduceGE, Int.reduceGT, Int.reduceBEq, Int.reduceBNe, Int.reduceToNat, Int.reduceNeg, Int.reduceSub, Int.reduceAdd, Int.reduceMul, finish, wkAV, resOf, resa, noSnap, noSnapL, noSnapO, keep, liveKeys, keysL, keysAV, renAV, renL, rr]
  simpa [strOf] using hs
theorem q47 (d : Nat) (tg : Tg) (cap : Option Nat) (n : Nat) (cs : List AV) (hk : isK .u8 cs = true) (hn : cs.length = n) (hl : n ≤ 549755813888) : evFun E (d+1) 47 [.sl tg 1 n cap cs] [] = some (.ref 0 [] 1 0 n none, [some cs]) := by
  subst hn
  refine evFun_body b47 ?_
  have e1 : cs.any isSl = false := by rw [isK_get hk]; exact anySl_iv _ _
  simp only [vv, cc, firstRegion, apartAll, clash, meets, execOp, opnd, builtinHM, bin, convHM, fillP, fieldsPlace, solid, inOrd, sliceHM, bound, zOK, appendHM, srcCells, borL, isSl, slLen, storeHM, loadHM, look1, idxAddr, arrAddr, cellsOf, TD.agg, loadedL, loaded, borrowed, isOwn, fieldR, partHM, absorbL, absorb1, setAt, killAV, killL, leafV, getR, isNil, nilV, Array.toList, List.map, reduceIte, reduceCtorEq, Nat.reduceEqDiff, Nat.reduceAdd, Nat.reduceMul, Nat.reduceSub, Nat.reduceBEq, Nat.reduceLeDiff, Int.reduceLT, Int.reduceLE, Int.reduceGE, Int.reduceGT, Int.reduceBEq, Int.reduceBNe, Int.reduceToNat, Int.reduceNeg, Int.reduceSub, Int.reduceAdd, Int.reduceMul, callHM, packA, packL, pack1, lentOk, getLent, putBack, backK, renAV, renL, rr, Try.f47, e1, limN hl]
  have e2 : noSnapL cs = true := by rw [isK_get hk]; exact noSnapL_iv _ _
  simp only [vv, ff, firstRegion, apartAll, clash, meets, execOp, opnd, builtinHM, bin, convHM, fillP, fieldsPlace, solid, inOrd, sliceHM, bound, zOK, appendHM, srcCells, borL, isSl, slLen, storeHM, loadHM, look1, idxAddr, arrAddr, cellsOf, TD.agg, loadedL, loaded, borrowed, isOwn, fieldR, partHM, absorbL, absorb1, setAt, killAV, killL, leafV, getR, isNil, nilV, Array.toList, List.map, reduceIte, reduceCtorEq, Nat.reduceEqDiff, Nat.reduceAdd, Nat.reduceMul, Nat.reduceSub, Nat.reduceBEq, Nat.reduceLeDiff, Int.reduceLT, Int.reduceLE, Int.reduceGE, Int.reduceGT, Int.reduceBEq, Int.reduceBNe, Int.reduceToNat, Int.reduceNeg, Int.reduceSub, Int.reduceAdd, Int.reduceMul, finish, wkAV, resOf, resa, noSnap, noSnapL, noSnapO, keep, liveKeys, keysL, keysAV, renAV, renL, rr, e2]
end Go.Proofs.Ytjkkndgbhcmphaa.VH.S
end

section
namespace Go.Proofs.Ytjkkndgbhcmphaa.VH.S
open Go.Proofs
set_option maxRecDepth 100000
set_option maxHeartbeats 4000000
set_option linter.unusedSimpArgs false

def cOf (l : List Int) : Int := numB (l.take 8)
def rOf (l : List Int) : Int := numB ((l.drop 8).take 8)
def inS (l : List Int) : Bool := decide (cOf l ≤ 1000000) && decide (rOf l ≤ 1152921504606846975)
def rdOK (l : List Int) : Bool := inS l && decide (slotL (cOf l) (rOf l) = l)
theorem cOf_nn {l : List Int} (h : B8 l) : 0 ≤ cOf l := numB_nn (h.take 8)
theorem rOf_nn {l : List Int} (h : B8 l) : 0 ≤ rOf l := numB_nn ((h.drop 8).take 8)
theorem c_lt {l : List Int} (h : B8 l) : cOf l < 18446744073709551616 := numB_take_lt h 8
theorem r_lt {l : List Int} (h : B8 l) : rOf l < 18446744073709551616 := numB_take_lt (h.drop 8) 8
theorem e55 (d : Nat) (tg : Tg) (cap : Option Nat) (cs : List AV) (hk : isK .u8 cs = true) (hn : cs.length = 20) (hb : B8 (un cs)) : evFun E (d+8) 55 [.sl tg 1 20 cap cs] [] = some (.tup [vi (if inS (un cs) = true then cOf (un cs) else 0), vi (if inS (un cs) = true then rOf (un cs) else 0), vb (rdOK (un cs))], []) := by
  refine evFun_body b55 ?_
  have hC : numB ((un cs).take 8) = cOf (un cs) := rfl
  have hR : numB (((un cs).drop 8).take 8) = rOf (un cs) := rfl
  simp (maxDischargeDepth := 8) only [vv, cc, bb, firstRegion, apartAll, clash, meets, execOp, opnd, builtinHM, bin, convHM, fillP, fieldsPlace, solid, inOrd, sliceHM, bound, zOK, appendHM, srcCells, borL, isSl, slLen, storeHM, loadHM, look1, idxAddr, arrAddr, cellsOf, TD.agg, loadedL, loaded, borrowed, isOwn, fieldR, partHM, absorbL, absorb1, setAt, killAV, killL, leafV, getR, isNil, nilV, Array.toList, List.map, reduceIte, reduceCtorEq, Nat.reduceEqDiff, Nat.reduceAdd, Nat.reduceMul, Nat.reduceSub, Nat.reduceBEq, Nat.reduceLeDiff, Int.reduceLT, Int.reduceLE, Int.reduceGE, Int.reduceGT, Int.reduceBEq, Int.reduceBNe, Int.reduceToNat, Int.reduceNeg, Int.reduceSub, Int.reduceAdd, Int.reduceMul, callHM, packA, packL, pack1, lentOk, getLent, putBack, backK, renAV, renL, rr, Try.f55, hk, hn, hb, q75, hC, hR]
  repeat' ((with_reducible refine condT ?_ ?_); (focus kernel_rfl); try simp (maxDischargeDepth := 8) only [vv, cc, bb, firstRegion, apartAll, clash, meets, execOp, opnd, builtinHM, bin, convHM, fillP, fieldsPlace, solid, inOrd, sliceHM, bound, zOK, appendHM, srcCells, borL, isSl, slLen, storeHM, loadHM, look1, idxAddr, arrAddr, cellsOf, TD.agg, loadedL, loaded, borrowed, isOwn, fieldR, partHM, absorbL, absorb1, setAt, killAV, killL, leafV, getR, isNil, nilV, Array.toList, List.map, reduceIte, reduceCtorEq, Nat.reduceEqDiff, Nat.reduceAdd, Nat.reduceMul, Nat.reduceSub, Nat.reduceBEq, Nat.reduceLeDiff, Int.reduceLT, Int.reduceLE, Int.reduceGE, Int.reduceGT, Int.reduceBEq, Int.reduceBNe, Int.reduceToNat, Int.reduceNeg, Int.reduceSub, Int.reduceAdd, Int.reduceMul, callHM, packA, packL, pack1, lentOk, getLent, putBack, backK, renAV, renL, rr, hk, hn, hb, q75, hC, hR])
  have c0 := cOf_nn hb
  have r0 := rOf_nn hb
  by_cases h1 : cOf (un cs) ≤ 1000000
  · by_cases h2 : rOf (un cs) ≤ 1152921504606846975
    · have hs : inS (un cs) = true := by simp [inS, h1, h2]
      have g1 : decide (cOf (un cs) > 1000000) = false := by simp; omega
      have g2 : decide (rOf (un cs) ≥ 1152921504606846976) = false := by simp; omega
      have ho : okS (cOf (un cs)) (rOf (un cs)) = true := by simp [okS, c0, r0, h1, h2]
      have w1 : IntKind.i64.wrap (cOf (un cs)) = cOf (un cs) := wrap64 (by omega) (by omega)
      have w2 : IntKind.i64.wrap (rOf (un cs)) = rOf (un cs) := wrap64 (by omega) (by omega)
      simp (maxDischargeDepth := 8) only [vv, cc, bb, firstRegion, apartAll, clash, meets, execOp, opnd, builtinHM, bin, convHM, fillP, fieldsPlace, solid, inOrd, sliceHM, bound, zOK, appendHM, srcCells, borL, isSl, slLen, storeHM, loadHM, look1, idxAddr, arrAddr, cellsOf, TD.agg, loadedL, loaded, borrowed, isOwn, fieldR, partHM, absorbL, absorb1, setAt, killAV, killL, leafV, getR, isNil, nilV, Array.toList, List.map, reduceIte, reduceCtorEq, Nat.reduceEqDiff, Nat.reduceAdd, Nat.reduceMul, Nat.reduceSub, Nat.reduceBEq, Nat.reduceLeDiff, Int.reduceLT, Int.reduceLE, Int.reduceGE, Int.reduceGT, Int.reduceBEq, Int.reduceBNe, Int.reduceToNat, Int.reduceNeg, Int.reduceSub, Int.reduceAdd, Int.reduceMul, callHM, packA, packL, pack1, lentOk, getLent, putBack, backK, renAV, renL, rr, g1, g2, w1, w2, e28 _ _ _ ho, slot_len, q76, hk, hn, hb]
      simp only [vv, ff, firstRegion, apartAll, clash, meets, execOp, opnd, builtinHM, bin, convHM, fillP, fieldsPlace, solid, inOrd, sliceHM, bound, zOK, appendHM, srcCells, borL, isSl, slLen, storeHM, loadHM, look1, idxAddr, arrAddr, cellsOf, TD.agg, loadedL, loaded, borrowed, isOwn, fieldR, partHM, absorbL, absorb1, setAt, killAV, killL, leafV, getR, isNil, nilV, Array.toList, List.map, reduceIte, reduceCtorEq, Nat.reduceEqDiff, Nat.reduceAdd, Nat.reduceMul, Nat.reduceSub, Nat.reduceBEq, Nat.reduceLeDiff, Int.reduceLT, Int.reduceLE, Int.reduceGE, Int.reduceGT, Int.reduceBEq, Int.reduceBNe, Int.reduceToNat, Int.reduceNeg, Int.reduceSub, Int.reduceAdd, Int.reduceMul, finish, wkAV, resOf, resa, noSnap, noSnapL, noSnapO, keep, liveKeys, keysL, keysAV, renAV, renL, rr, hs, rdOK]
    · have hs : inS (un cs) = false := by simp [inS, h2]
      have g1 : decide (cOf (un cs) > 1000000) = false := by simp; omega
      have g2 : decide (rOf (un cs) ≥ 1152921504606846976) = true := by simp; omega
      simp (maxDischargeDepth := 8) only [vv, cc, bb, firstRegion, apartAll, clash, meets, execOp, opnd, builtinHM, bin, convHM, fillP, fieldsPlace, solid, inOrd, sliceHM, bound, zOK, appendHM, srcCells, borL, isSl, slLen, storeHM, loadHM, look1, idxAddr, arrAddr, cellsOf, TD.agg, loadedL, loaded, borrowed, isOwn, fieldR, partHM, absorbL, absorb1, setAt, killAV, killL, leafV, getR, isNil, nilV, Array.toList, List.map, reduceIte, reduceCtorEq, Nat.reduceEqDiff, Nat.reduceAdd, Nat.reduceMul, Nat.reduceSub, Nat.reduceBEq, Nat.reduceLeDiff, Int.reduceLT, Int.reduceLE, Int.reduceGE, Int.reduceGT, Int.reduceBEq, Int.reduceBNe, Int.reduceToNat, Int.reduceNeg, Int.reduceSub, Int.reduceAdd, Int.reduceMul, callHM, packA, packL, pack1, lentOk, getLent, putBack, backK, renAV, renL, rr, g1, g2]
      simp only [vv, ff, firstRegion, apartAll, clash, meets, execOp, opnd, builtinHM, bin, convHM, fillP, fieldsPlace, solid, inOrd, sliceHM, bound, zOK, appendHM, srcCells, borL, isSl, slLen, storeHM, loadHM, look1, idxAddr, arrAddr, cellsOf, TD.agg, loadedL, loaded, borrowed, isOwn, fieldR, partHM, absorbL, absorb1, setAt, killAV, killL, leafV, getR, isNil, nilV, Array.toList, List.map, reduceIte, reduceCtorEq, Nat.reduceEqDiff, Nat.reduceAdd, Nat.reduceMul, Nat.reduceSub, Nat.reduceBEq, Nat.reduceLeDiff, Int.reduceLT, Int.reduceLE, Int.reduceGE, Int.reduceGT, Int.reduceBEq, Int.reduceBNe, Int.reduceToNat, Int.reduceNeg, Int.reduceSub, Int.reduceAdd, Int.reduceMul, finish, wkAV, resOf, resa, noSnap, noSnapL, noSnapO, keep, liveKeys, keysL, keysAV, renAV, renL, rr, hs, rdOK]
  · have hs : inS (un cs) = false := by simp [inS, h1]
    have g1 : decide (cOf (un cs) > 1000000) = true := by simp; omega
    simp (maxDischargeDepth := 8) only [vv, cc, bb, firstRegion, apartAll, clash, meets, execOp, opnd, builtinHM, bin, convHM, fillP, fieldsPlace, solid, inOrd, sliceHM, bound, zOK, appendHM, srcCells, borL, isSl, slLen, storeHM, loadHM, look1, idxAddr, arrAddr, cellsOf, TD.agg, loadedL, loaded, borrowed, isOwn, fieldR, partHM, absorbL, absorb1, setAt, killAV, killL, leafV, getR, isNil, nilV, Array.toList, List.map, reduceIte, reduceCtorEq, Nat.reduceEqDiff, Nat.reduceAdd, Nat.reduceMul, Nat.reduceSub, Nat.reduceBEq, Nat.reduceLeDiff, Int.reduceLT, Int.reduceLE, Int.reduceGE, Int.reduceGT, Int.reduceBEq, Int.reduceBNe, Int.reduceToNat, Int.reduceNeg, Int.reduceSub, Int.reduceAdd, Int.reduceMul, callHM, packA, packL, pack1, lentOk, getLent, putBack, backK, renAV, renL, rr, g1]
    simp only [vv, ff, firstRegion, apartAll, clash, meets, execOp, opnd, builtinHM, bin, convHM, fillP, fieldsPlace, solid, inOrd, sliceHM, bound, zOK, appendHM, srcCells, borL, isSl, slLen, storeHM, loadHM, look1, idxAddr, arrAddr, cellsOf, TD.agg, loadedL, loaded, borrowed, isOwn, fieldR, partHM, absorbL, absorb1, setAt, killAV, killL, leafV, getR, isNil, nilV, Array.toList, List.map, reduceIte, reduceCtorEq, Nat.reduceEqDiff, Nat.reduceAdd, Nat.reduceMul, Nat.reduceSub, Nat.reduceBEq, Nat.reduceLeDiff, Int.reduceLT, Int.reduceLE, Int.reduceGE, Int.reduceGT, Int.reduceBEq, Int.reduceBNe, Int.reduceToNat, Int.reduceNeg, Int.reduceSub, Int.reduceAdd, Int.reduceMul, finish, wkAV, resOf, resa, noSnap, noSnapL, noSnapO, keep, liveKeys, keysL, keysAV, renAV, renL, rr, hs, rdOK]
def ok2 (l : List Int) : Bool := num7 (l.take 8) && num7 ((l.drop 8).take 8)
theorem num7_of {l : List Int} (h : B8 l) (hl : l.length = 8) (hn : numB l < 4611686018427387904) : num7 l = true := by
  have e : l.take 8 = l := by rw [← hl, List.take_length]
  have := numB_take (l := l) (i := 7) (by omega)
  rw [e] at this
  have h7 := h l[7] (List.getElem_mem _)
  simp only [num7, decide_eq_true_eq]; omega
theorem ok2_of {l : List Int} (h : B8 l) (hl : l.length = 20) (ho : rdOK l = true) : ok2 l = true := by
  simp only [rdOK, inS, Bool.and_eq_true, decide_eq_true_eq] at ho
  obtain ⟨⟨h1, h2⟩, _⟩ := ho
  unfold cOf at h1
  unfold rOf at h2
  have e1 := num7_of (h.take 8) (by rw [List.length_take, hl]; rfl) (by omega)
  have e2 := num7_of ((h.drop 8).take 8) (by rw [List.length_take, List.length_drop, hl]; rfl) (by omega)
  rw [ok2, e1, e2]; rfl
theorem e73 (d : Nat) (tg : Tg) (cap : Option Nat) (cs : List AV) (hk : isK .u8 cs = true) (hn : cs.length = 20) (hb : B8 (un cs)) : evFun E (d+8) 73 [.sl tg 1 20 cap cs] [] = some (.tup [vi (if ok2 (un cs) = true then cOf (un cs) else 0), vi (if ok2 (un cs) = true then rOf (un cs) else 0), vb (rdOK (un cs))], []) := by
  refine evFun_body b73 ?_
  have hC : numB ((un cs).take 8) = cOf (un cs) := rfl
  have hR : numB (((un cs).drop 8).take 8) = rOf (un cs) := rfl
  have c0 := cOf_nn hb
  have r0 := rOf_nn hb
  have l1 : ((un cs).take 8).length = 8 := by rw [List.length_take, un_len, hn]; rfl
  have l2 : (((un cs).drop 8).take 8).length = 8 := by rw [List.length_take, List.length_drop, un_len, hn]; rfl
  cases h1 : num7 ((un cs).take 8) with
  | false =>
    have hin : rdOK (un cs) = false := by
      cases hr : inS (un cs) with
      | false => simp [rdOK, hr]
      | true =>
        simp only [inS, Bool.and_eq_true, decide_eq_true_eq] at hr
        have := num7_of (hb.take 8) l1 (by rw [hC]; omega)
        rw [h1] at this; simp at this
    have ho2 : ok2 (un cs) = false := by simp [ok2, h1]
    rw [hin, ho2]
    simp (maxDischargeDepth := 8) only [vv, cc, bb, firstRegion, apartAll, clash, meets, execOp, opnd, builtinHM, bin, convHM, fillP, fieldsPlace, solid, inOrd, sliceHM, bound, zOK, appendHM, srcCells, borL, isSl, slLen, storeHM, loadHM, look1, idxAddr, arrAddr, cellsOf, TD.agg, loadedL, loaded, borrowed, isOwn, fieldR, partHM, absorbL, absorb1, setAt, killAV, killL, leafV, getR, isNil, nilV, Array.toList, List.map, reduceIte, reduceCtorEq, Nat.reduceEqDiff, Nat.reduceAdd, Nat.reduceMul, Nat.reduceSub, Nat.reduceBEq, Nat.reduceLeDiff, Int.reduceLT, Int.reduceLE, Int.reduceGE, Int.reduceGT, Int.reduceBEq, Int.reduceBNe, Int.reduceToNat, Int.reduceNeg, Int.reduceSub, Int.reduceAdd, Int.reduceMul, callHM, packA, packL, pack1, lentOk, getLent, putBack, backK, renAV, renL, rr, Try.f73, hk, hn, hb, q84, h1]
    simp only [vv, ff, firstRegion, apartAll, clash, meets, execOp, opnd, builtinHM, bin, convHM, fillP, fieldsPlace, solid, inOrd, sliceHM, bound, zOK, appendHM, srcCells, borL, isSl, slLen, storeHM, loadHM, look1, idxAddr, arrAddr, cellsOf, TD.agg, loadedL, loaded, borrowed, isOwn, fieldR, partHM, absorbL, absorb1, setAt, killAV, killL, leafV, getR, isNil, nilV, Array.toList, List.map, reduceIte, reduceCtorEq, Nat.reduceEqDiff, Nat.reduceAdd, Nat.reduceMul, Nat.reduceSub, Nat.reduceBEq, Nat.reduceLeDiff, Int.reduceLT, Int.reduceLE, Int.reduceGE, Int.reduceGT, Int.reduceBEq, Int.reduceBNe, Int.reduceToNat, Int.reduceNeg, Int.reduceSub, Int.reduceAdd, Int.reduceMul, finish, wkAV, resOf, resa, noSnap, noSnapL, noSnapO, keep, liveKeys, keysL, keysAV, renAV, renL, rr]
  | true =>
    cases h2 : num7 (((un cs).drop 8).take 8) with
    | false =>
      have hin : rdOK (un cs) = false := by
        cases hr : inS (un cs) with
        | false => simp [rdOK, hr]
        | true =>
          simp only [inS, Bool.and_eq_true, decide_eq_true_eq] at hr
          have := num7_of ((hb.drop 8).take 8) l2 (by rw [hR]; omega)
          rw [h2] at this; simp at this
      have ho2 : ok2 (un cs) = false := by simp [ok2, h1, h2]
      rw [hin, ho2]
      simp (maxDischargeDepth := 8) only [vv, cc, bb, firstRegion, apartAll, clash, meets, execOp, opnd, builtinHM, bin, convHM, fillP, fieldsPlace, solid, inOrd, sliceHM, bound, zOK, appendHM, srcCells, borL, isSl, slLen, storeHM, loadHM, look1, idxAddr, arrAddr, cellsOf, TD.agg, loadedL, loaded, borrowed, isOwn, fieldR, partHM, absorbL, absorb1, setAt, killAV, killL, leafV, getR, isNil, nilV, Array.toList, List.map, reduceIte, reduceCtorEq, Nat.reduceEqDiff, Nat.reduceAdd, Nat.reduceMul, Nat.reduceSub, Nat.reduceBEq, Nat.reduceLeDiff, Int.reduceLT, Int.reduceLE, Int.reduceGE, Int.reduceGT, Int.reduceBEq, Int.reduceBNe, Int.reduceToNat, Int.reduceNeg, Int.reduceSub, Int.reduceAdd, Int.reduceMul, callHM, packA, packL, pack1, lentOk, getLent, putBack, backK, renAV, renL, rr, Try.f73, hk, hn, hb, q84, h1, h2]
      simp only [vv, ff, firstRegion, apartAll, clash, meets, execOp, opnd, builtinHM, bin, convHM, fillP, fieldsPlace, solid, inOrd, sliceHM, bound, zOK, appendHM, srcCells, borL, isSl, slLen, storeHM, loadHM, look1, idxAddr, arrAddr, cellsOf, TD.agg, loadedL, loaded, borrowed, isOwn, fieldR, partHM, absorbL, absorb1, setAt, killAV, killL, leafV, getR, isNil, nilV, Array.toList, List.map, reduceIte, reduceCtorEq, Nat.reduceEqDiff, Nat.reduceAdd, Nat.reduceMul, Nat.reduceSub, Nat.reduceBEq, Nat.reduceLeDiff, Int.reduceLT, Int.reduceLE, Int.reduceGE, Int.reduceGT, Int.reduceBEq, Int.reduceBNe, Int.reduceToNat, Int.reduceNeg, Int.reduceSub, Int.reduceAdd, Int.reduceMul, finish, wkAV, resOf, resa, noSnap, noSnapL, noSnapO, keep, liveKeys, keysL, keysAV, renAV, renL, rr]
    | true =>
      have ho2 : ok2 (un cs) = true := by simp [ok2, h1, h2]
      rw [ho2]
      cases h3 : inS (un cs) with
      | true =>
        have hs := h3
        simp only [inS, Bool.and_eq_true, decide_eq_true_eq] at hs
        have ho : okS (cOf (un cs)) (rOf (un cs)) = true := by simp [okS, c0, r0, hs.1, hs.2]
        simp (maxDischargeDepth := 8) only [vv, cc, bb, firstRegion, apartAll, clash, meets, execOp, opnd, builtinHM, bin, convHM, fillP, fieldsPlace, solid, inOrd, sliceHM, bound, zOK, appendHM, srcCells, borL, isSl, slLen, storeHM, loadHM, look1, idxAddr, arrAddr, cellsOf, TD.agg, loadedL, loaded, borrowed, isOwn, fieldR, partHM, absorbL, absorb1, setAt, killAV, killL, leafV, getR, isNil, nilV, Array.toList, List.map, reduceIte, reduceCtorEq, Nat.reduceEqDiff, Nat.reduceAdd, Nat.reduceMul, Nat.reduceSub, Nat.reduceBEq, Nat.reduceLeDiff, Int.reduceLT, Int.reduceLE, Int.reduceGE, Int.reduceGT, Int.reduceBEq, Int.reduceBNe, Int.reduceToNat, Int.reduceNeg, Int.reduceSub, Int.reduceAdd, Int.reduceMul, callHM, packA, packL, pack1, lentOk, getLent, putBack, backK, renAV, renL, rr, Try.f73, hk, hn, hb, q84, h1, h2, hC, hR, e48 _ _ _ ho, slot_len, q85]
        simp only [vv, ff, firstRegion, apartAll, clash, meets, execOp, opnd, builtinHM, bin, convHM, fillP, fieldsPlace, solid, inOrd, sliceHM, bound, zOK, appendHM, srcCells, borL, isSl, slLen, storeHM, loadHM, look1, idxAddr, arrAddr, cellsOf, TD.agg, loadedL, loaded, borrowed, isOwn, fieldR, partHM, absorbL, absorb1, setAt, killAV, killL, leafV, getR, isNil, nilV, Array.toList, List.map, reduceIte, reduceCtorEq, Nat.reduceEqDiff, Nat.reduceAdd, Nat.reduceMul, Nat.reduceSub, Nat.reduceBEq, Nat.reduceLeDiff, Int.reduceLT, Int.reduceLE, Int.reduceGE, Int.reduceGT, Int.reduceBEq, Int.reduceBNe, Int.reduceToNat, Int.reduceNeg, Int.reduceSub, Int.reduceAdd, Int.reduceMul, finish, wkAV, resOf, resa, noSnap, noSnapL, noSnapO, keep, liveKeys, keysL, keysAV, renAV, renL, rr, rdOK, h3]
      | false =>
        have ho : okS (cOf (un cs)) (rOf (un cs)) = false := by
          simp only [inS] at h3
          simp [okS, c0, r0]
          simp at h3
          exact h3
        simp (maxDischargeDepth := 8) only [vv, cc, bb, firstRegion, apartAll, clash, meets, execOp, opnd, builtinHM, bin, convHM, fillP, fieldsPlace, solid, inOrd, sliceHM, bound, zOK, appendHM, srcCells, borL, isSl, slLen, storeHM, loadHM, look1, idxAddr, arrAddr, cellsOf, TD.agg, loadedL, loaded, borrowed, isOwn, fieldR, partHM, absorbL, absorb1, setAt, killAV, killL, leafV, getR, isNil, nilV, Array.toList, List.map, reduceIte, reduceCtorEq, Nat.reduceEqDiff, Nat.reduceAdd, Nat.reduceMul, Nat.reduceSub, Nat.reduceBEq, Nat.reduceLeDiff, Int.reduceLT, Int.reduceLE, Int.reduceGE, Int.reduceGT, Int.reduceBEq, Int.reduceBNe, Int.reduceToNat, Int.reduceNeg, Int.reduceSub, Int.reduceAdd, Int.reduceMul, callHM, packA, packL, pack1, lentOk, getLent, putBack, backK, renAV, renL, rr, Try.f73, hk, hn, hb, q84, h1, h2, hC, hR, e48n _ _ _ ho]
        simp only [vv, ff, firstRegion, apartAll, clash, meets, execOp, opnd, builtinHM, bin, convHM, fillP, fieldsPlace, solid, inOrd, sliceHM, bound, zOK, appendHM, srcCells, borL, isSl, slLen, storeHM, loadHM, look1, idxAddr, arrAddr, cellsOf, TD.agg, loadedL, loaded, borrowed, isOwn, fieldR, partHM, absorbL, absorb1, setAt, killAV, killL, leafV, getR, isNil, nilV, Array.toList, List.map, reduceIte, reduceCtorEq, Nat.reduceEqDiff, Nat.reduceAdd, Nat.reduceMul, Nat.reduceSub, Nat.reduceBEq, Nat.reduceLeDiff, Int.reduceLT, Int.reduceLE, Int.reduceGE, Int.reduceGT, Int.reduceBEq, Int.reduceBNe, Int.reduceToNat, Int.reduceNeg, Int.reduceSub, Int.reduceAdd, Int.reduceMul, finish, wkAV, resOf, resa, noSnap, noSnapL, noSnapO, keep, liveKeys, keysL, keysAV, renAV, renL, rr, rdOK, h3]
end Go.Proofs.Ytjkkndgbhcmphaa.VH.S
end

section
namespace Go.Proofs.Ytjkkndgbhcmphaa.VH.S
open Go.Proofs
set_option maxRecDepth 100000
set_option maxHeartbeats 4000000
set_option linter.unusedSimpArgs false

def rdV (l : List Int) : Int × Int × Int :=
  if l.length = 40 then
    if rdOK (l.take 20) = true ∧ (rdOK (l.drop 20) = false ∨ cOf (l.take 20) ≥ cOf (l.drop 20)) then (cOf (l.take 20), rOf (l.take 20), 0)
    else if rdOK (l.drop 20) = true then (cOf (l.drop 20), rOf (l.drop 20), 1) else (0, 0, -1)
  else (0, 0, -1)
theorem inS_of {l : List Int} (h : rdOK l = true) : inS l = true := by simp only [rdOK, Bool.and_eq_true] at h; exact h.1
theorem e49 (d : Nat) (tg : Tg) (cap : Option Nat) (n : Nat) (cs : List AV) (hk : isK .u8 cs = true) (hn : cs.length = n) (hb : B8 (un cs)) : evFun E (d+9) 49 [.sl tg 1 n cap cs] [] = some (.tup [vi (rdV (un cs)).1, vi (rdV (un cs)).2.1, vi (rdV (un cs)).2.2], []) := by
  refine evFun_body b49 ?_
  by_cases h40 : n = 40
  · subst h40
    have hl : (un cs).length = 40 := by rw [un_len]; exact hn
    have o1 := ok2_of (hb.take 20) (by simp [hl])
    have o2 := ok2_of (hb.drop 20) (by simp [hl])
    simp only [rdV, hl, if_true]
    cases ha : rdOK ((un cs).take 20) <;> cases hbb : rdOK ((un cs).drop 20)
    · simp (maxDischargeDepth := 8) only [vv, cc, bb, firstRegion, apartAll, clash, meets, execOp, opnd, builtinHM, bin, convHM, fillP, fieldsPlace, solid, inOrd, sliceHM, bound, zOK, appendHM, srcCells, borL, isSl, slLen, storeHM, loadHM, look1, idxAddr, arrAddr, cellsOf, TD.agg, loadedL, loaded, borrowed, isOwn, fieldR, partHM, absorbL, absorb1, setAt, killAV, killL, leafV, getR, isNil, nilV, Array.toList, List.map, reduceIte, reduceCtorEq, Nat.reduceEqDiff, Nat.reduceAdd, Nat.reduceMul, Nat.reduceSub, Nat.reduceBEq, Nat.reduceLeDiff, Int.reduceLT, Int.reduceLE, Int.reduceGE, Int.reduceGT, Int.reduceBEq, Int.reduceBNe, Int.reduceToNat, Int.reduceNeg, Int.reduceSub, Int.reduceAdd, Int.reduceMul, callHM, packA, packL, pack1, lentOk, getLent, putBack, backK, renAV, renL, rr, Try.f49, hk, hn, hb, e73, ha, hbb]
      simp only [vv, ff, firstRegion, apartAll, clash, meets, execOp, opnd, builtinHM, bin, convHM, fillP, fieldsPlace, solid, inOrd, sliceHM, bound, zOK, appendHM, srcCells, borL, isSl, slLen, storeHM, loadHM, look1, idxAddr, arrAddr, cellsOf, TD.agg, loadedL, loaded, borrowed, isOwn, fieldR, partHM, absorbL, absorb1, setAt, killAV, killL, leafV, getR, isNil, nilV, Array.toList, List.map, reduceIte, reduceCtorEq, Nat.reduceEqDiff, Nat.reduceAdd, Nat.reduceMul, Nat.reduceSub, Nat.reduceBEq, Nat.reduceLeDiff, Int.reduceLT, Int.reduceLE, Int.reduceGE, Int.reduceGT, Int.reduceBEq, Int.reduceBNe, Int.reduceToNat, Int.reduceNeg, Int.reduceSub, Int.reduceAdd, Int.reduceMul, finish, wkAV, resOf, resa, noSnap, noSnapL, noSnapO, keep, liveKeys, keysL, keysAV, renAV, renL, rr]
      simp
    · have o2 := o2 hbb
      simp (maxDischargeDepth := 8) only [vv, cc, bb, firstRegion, apartAll, clash, meets, execOp, opnd, builtinHM, bin, convHM, fillP, fieldsPlace, solid, inOrd, sliceHM, bound, zOK, appendHM, srcCells, borL, isSl, slLen, storeHM, loadHM, look1, idxAddr, arrAddr, cellsOf, TD.agg, loadedL, loaded, borrowed, isOwn, fieldR, partHM, absorbL, absorb1, setAt, killAV, killL, leafV, getR, isNil, nilV, Array.toList, List.map, reduceIte, reduceCtorEq, Nat.reduceEqDiff, Nat.reduceAdd, Nat.reduceMul, Nat.reduceSub, Nat.reduceBEq, Nat.reduceLeDiff, Int.reduceLT, Int.reduceLE, Int.reduceGE, Int.reduceGT, Int.reduceBEq, Int.reduceBNe, Int.reduceToNat, Int.reduceNeg, Int.reduceSub, Int.reduceAdd, Int.reduceMul, callHM, packA, packL, pack1, lentOk, getLent, putBack, backK, renAV, renL, rr, Try.f49, hk, hn, hb, e73, ha, hbb, o2]
      simp only [vv, ff, firstRegion, apartAll, clash, meets, execOp, opnd, builtinHM, bin, convHM, fillP, fieldsPlace, solid, inOrd, sliceHM, bound, zOK, appendHM, srcCells, borL, isSl, slLen, storeHM, loadHM, look1, idxAddr, arrAddr, cellsOf, TD.agg, loadedL, loaded, borrowed, isOwn, fieldR, partHM, absorbL, absorb1, setAt, killAV, killL, leafV, getR, isNil, nilV, Array.toList, List.map, reduceIte, reduceCtorEq, Nat.reduceEqDiff, Nat.reduceAdd, Nat.reduceMul, Nat.reduceSub, Nat.reduceBEq, Nat.reduceLeDiff, Int.reduceLT, Int.reduceLE, Int.reduceGE, Int.reduceGT, Int.reduceBEq, Int.reduceBNe, Int.reduceToNat, Int.reduceNeg, Int.reduceSub, Int.reduceAdd, Int.reduceMul, finish, wkAV, resOf, resa, noSnap, noSnapL, noSnapO, keep, liveKeys, keysL, keysAV, renAV, renL, rr]
      simp
    · have o1 := o1 ha
      simp (maxDischargeDepth := 8) only [vv, cc, bb, firstRegion, apartAll, clash, meets, execOp, opnd, builtinHM, bin, convHM, fillP, fieldsPlace, solid, inOrd, sliceHM, bound, zOK, appendHM, srcCells, borL, isSl, slLen, storeHM, loadHM, look1, idxAddr, arrAddr, cellsOf, TD.agg, loadedL, loaded, borrowed, isOwn, fieldR, partHM, absorbL, absorb1, setAt, killAV, killL, leafV, getR, isNil, nilV, Array.toList, List.map, reduceIte, reduceCtorEq, Nat.reduceEqDiff, Nat.reduceAdd, Nat.reduceMul, Nat.reduceSub, Nat.reduceBEq, Nat.reduceLeDiff, Int.reduceLT, Int.reduceLE, Int.reduceGE, Int.reduceGT, Int.reduceBEq, Int.reduceBNe, Int.reduceToNat, Int.reduceNeg, Int.reduceSub, Int.reduceAdd, Int.reduceMul, callHM, packA, packL, pack1, lentOk, getLent, putBack, backK, renAV, renL, rr, Try.f49, hk, hn, hb, e73, ha, hbb, o1]
      simp only [vv, ff, firstRegion, apartAll, clash, meets, execOp, opnd, builtinHM, bin, convHM, fillP, fieldsPlace, solid, inOrd, sliceHM, bound, zOK, appendHM, srcCells, borL, isSl, slLen, storeHM, loadHM, look1, idxAddr, arrAddr, cellsOf, TD.agg, loadedL, loaded, borrowed, isOwn, fieldR, partHM, absorbL, absorb1, setAt, killAV, killL, leafV, getR, isNil, nilV, Array.toList, List.map, reduceIte, reduceCtorEq, Nat.reduceEqDiff, Nat.reduceAdd, Nat.reduceMul, Nat.reduceSub, Nat.reduceBEq, Nat.reduceLeDiff, Int.reduceLT, Int.reduceLE, Int.reduceGE, Int.reduceGT, Int.reduceBEq, Int.reduceBNe, Int.reduceToNat, Int.reduceNeg, Int.reduceSub, Int.reduceAdd, Int.reduceMul, finish, wkAV, resOf, resa, noSnap, noSnapL, noSnapO, keep, liveKeys, keysL, keysAV, renAV, renL, rr]
      simp
    · have o2 := o2 hbb
      have o1 := o1 ha
      by_cases hc : cOf ((un cs).take 20) ≥ cOf ((un cs).drop 20)
      · have hd := decide_eq_true hc
        simp (maxDischargeDepth := 8) only [vv, cc, bb, firstRegion, apartAll, clash, meets, execOp, opnd, builtinHM, bin, convHM, fillP, fieldsPlace, solid, inOrd, sliceHM, bound, zOK, appendHM, srcCells, borL, isSl, slLen, storeHM, loadHM, look1, idxAddr, arrAddr, cellsOf, TD.agg, loadedL, loaded, borrowed, isOwn, fieldR, partHM, absorbL, absorb1, setAt, killAV, killL, leafV, getR, isNil, nilV, Array.toList, List.map, reduceIte, reduceCtorEq, Nat.reduceEqDiff, Nat.reduceAdd, Nat.reduceMul, Nat.reduceSub, Nat.reduceBEq, Nat.reduceLeDiff, Int.reduceLT, Int.reduceLE, Int.reduceGE, Int.reduceGT, Int.reduceBEq, Int.reduceBNe, Int.reduceToNat, Int.reduceNeg, Int.reduceSub, Int.reduceAdd, Int.reduceMul, callHM, packA, packL, pack1, lentOk, getLent, putBack, backK, renAV, renL, rr, Try.f49, hk, hn, hb, e73, ha, hbb, o1, o2, hd]
        simp only [vv, ff, firstRegion, apartAll, clash, meets, execOp, opnd, builtinHM, bin, convHM, fillP, fieldsPlace, solid, inOrd, sliceHM, bound, zOK, appendHM, srcCells, borL, isSl, slLen, storeHM, loadHM, look1, idxAddr, arrAddr, cellsOf, TD.agg, loadedL, loaded, borrowed, isOwn, fieldR, partHM, absorbL, absorb1, setAt, killAV, killL, leafV, getR, isNil, nilV, Array.toList, List.map, reduceIte, reduceCtorEq, Nat.reduceEqDiff, Nat.reduceAdd, Nat.reduceMul, Nat.reduceSub, Nat.reduceBEq, Nat.reduceLeDiff, Int.reduceLT, Int.reduceLE, Int.reduceGE, Int.reduceGT, Int.reduceBEq, Int.reduceBNe, Int.reduceToNat, Int.reduceNeg, Int.reduceSub, Int.reduceAdd, Int.reduceMul, finish, wkAV, resOf, resa, noSnap, noSnapL, noSnapO, keep, liveKeys, keysL, keysAV, renAV, renL, rr]
        simp [hc]
      · have hd := decide_eq_false hc
        simp (maxDischargeDepth := 8) only [vv, cc, bb, firstRegion, apartAll, clash, meets, execOp, opnd, builtinHM, bin, convHM, fillP, fieldsPlace, solid, inOrd, sliceHM, bound, zOK, appendHM, srcCells, borL, isSl, slLen, storeHM, loadHM, look1, idxAddr, arrAddr, cellsOf, TD.agg, loadedL, loaded, borrowed, isOwn, fieldR, partHM, absorbL, absorb1, setAt, killAV, killL, leafV, getR, isNil, nilV, Array.toList, List.map, reduceIte, reduceCtorEq, Nat.reduceEqDiff, Nat.reduceAdd, Nat.reduceMul, Nat.reduceSub, Nat.reduceBEq, Nat.reduceLeDiff, Int.reduceLT, Int.reduceLE, Int.reduceGE, Int.reduceGT, Int.reduceBEq, Int.reduceBNe, Int.reduceToNat, Int.reduceNeg, Int.reduceSub, Int.reduceAdd, Int.reduceMul, callHM, packA, packL, pack1, lentOk, getLent, putBack, backK, renAV, renL, rr, Try.f49, hk, hn, hb, e73, ha, hbb, o1, o2, hd]
        simp only [vv, ff, firstRegion, apartAll, clash, meets, execOp, opnd, builtinHM, bin, convHM, fillP, fieldsPlace, solid, inOrd, sliceHM, bound, zOK, appendHM, srcCells, borL, isSl, slLen, storeHM, loadHM, look1, idxAddr, arrAddr, cellsOf, TD.agg, loadedL, loaded, borrowed, isOwn, fieldR, partHM, absorbL, absorb1, setAt, killAV, killL, leafV, getR, isNil, nilV, Array.toList, List.map, reduceIte, reduceCtorEq, Nat.reduceEqDiff, Nat.reduceAdd, Nat.reduceMul, Nat.reduceSub, Nat.reduceBEq, Nat.reduceLeDiff, Int.reduceLT, Int.reduceLE, Int.reduceGE, Int.reduceGT, Int.reduceBEq, Int.reduceBNe, Int.reduceToNat, Int.reduceNeg, Int.reduceSub, Int.reduceAdd, Int.reduceMul, finish, wkAV, resOf, resa, noSnap, noSnapL, noSnapO, keep, liveKeys, keysL, keysAV, renAV, renL, rr]
        simp [hc]
  · have hd : (((n : Nat) : Int) != 40) = true := by simp; omega
    have hl : (un cs).length ≠ 40 := by rw [un_len, hn]; exact h40
    simp (maxDischargeDepth := 8) only [vv, cc, bb, firstRegion, apartAll, clash, meets, execOp, opnd, builtinHM, bin, convHM, fillP, fieldsPlace, solid, inOrd, sliceHM, bound, zOK, appendHM, srcCells, borL, isSl, slLen, storeHM, loadHM, look1, idxAddr, arrAddr, cellsOf, TD.agg, loadedL, loaded, borrowed, isOwn, fieldR, partHM, absorbL, absorb1, setAt, killAV, killL, leafV, getR, isNil, nilV, Array.toList, List.map, reduceIte, reduceCtorEq, Nat.reduceEqDiff, Nat.reduceAdd, Nat.reduceMul, Nat.reduceSub, Nat.reduceBEq, Nat.reduceLeDiff, Int.reduceLT, Int.reduceLE, Int.reduceGE, Int.reduceGT, Int.reduceBEq, Int.reduceBNe, Int.reduceToNat, Int.reduceNeg, Int.reduceSub, Int.reduceAdd, Int.reduceMul, callHM, packA, packL, pack1, lentOk, getLent, putBack, backK, renAV, renL, rr, Try.f49, hd]
    simp only [vv, ff, firstRegion, apartAll, clash, meets, execOp, opnd, builtinHM, bin, convHM, fillP, fieldsPlace, solid, inOrd, sliceHM, bound, zOK, appendHM, srcCells, borL, isSl, slLen, storeHM, loadHM, look1, idxAddr, arrAddr, cellsOf, TD.agg, loadedL, loaded, borrowed, isOwn, fieldR, partHM, absorbL, absorb1, setAt, killAV, killL, leafV, getR, isNil, nilV, Array.toList, List.map, reduceIte, reduceCtorEq, Nat.reduceEqDiff, Nat.reduceAdd, Nat.reduceMul, Nat.reduceSub, Nat.reduceBEq, Nat.reduceLeDiff, Int.reduceLT, Int.reduceLE, Int.reduceGE, Int.reduceGT, Int.reduceBEq, Int.reduceBNe, Int.reduceToNat, Int.reduceNeg, Int.reduceSub, Int.reduceAdd, Int.reduceMul, finish, wkAV, resOf, resa, noSnap, noSnapL, noSnapO, keep, liveKeys, keysL, keysAV, renAV, renL, rr, rdV, if_neg hl]
theorem e25 (d : Nat) (tg : Tg) (cap : Option Nat) (n : Nat) (cs : List AV) (hk : isK .u8 cs = true) (hn : cs.length = n) (hb : B8 (un cs)) : evFun E (d+9) 25 [.sl tg 1 n cap cs] [] = some (.tup [vi (rdV (un cs)).1, vi (rdV (un cs)).2.1, vi (rdV (un cs)).2.2], []) := by
  refine evFun_body b25 ?_
  by_cases h40 : n = 40
  · subst h40
    have hl : (un cs).length = 40 := by rw [un_len]; exact hn
    have t20 : ((un cs).drop 20).take 20 = (un cs).drop 20 := List.take_of_length_le (by simp [hl])
    simp only [rdV, hl, if_true]
    cases ha : rdOK ((un cs).take 20) <;> cases hbb : rdOK ((un cs).drop 20)
    · simp only [vv, cc, ff, uu, norm, firstRegion, apartAll, clash, meets, execOp, opnd, builtinHM, bin, convHM, fillP, fieldsPlace, solid, inOrd, sliceHM, bound, zOK, appendHM, srcCells, borL, isSl, slLen, storeHM, loadHM, look1, idxAddr, arrAddr, cellsOf, TD.agg, loadedL, loaded, borrowed, isOwn, fieldR, partHM, absorbL, absorb1, setAt, killAV, killL, leafV, getR, isNil, nilV, Array.toList, List.map, reduceIte, reduceCtorEq, Nat.reduceEqDiff, Nat.reduceAdd, Nat.reduceMul, Nat.reduceSub, Nat.reduceBEq, Nat.reduceLeDiff, Int.reduceLT, Int.reduceLE, Int.reduceGE, Int.reduceGT, Int.reduceBEq, Int.reduceBNe, Int.reduceToNat, Int.reduceNeg, Int.reduceSub, Int.reduceAdd, Int.reduceMul, callHM, packA, packL, pack1, lentOk, getLent, putBack, backK, renAV, renL, finish, wkAV, resOf, resa, noSnap, noSnapL, noSnapO, keep, liveKeys, keysL, keysAV, rr, Try.f25, bb, hk, hn, hb, e55, ha, hbb, t20]
      simp
    · have o2 := inS_of hbb
      have d2 : decide ((-1 : Int) < 0) = true := by decide
      simp only [vv, cc, ff, uu, norm, firstRegion, apartAll, clash, meets, execOp, opnd, builtinHM, bin, convHM, fillP, fieldsPlace, solid, inOrd, sliceHM, bound, zOK, appendHM, srcCells, borL, isSl, slLen, storeHM, loadHM, look1, idxAddr, arrAddr, cellsOf, TD.agg, loadedL, loaded, borrowed, isOwn, fieldR, partHM, absorbL, absorb1, setAt, killAV, killL, leafV, getR, isNil, nilV, Array.toList, List.map, reduceIte, reduceCtorEq, Nat.reduceEqDiff, Nat.reduceAdd, Nat.reduceMul, Nat.reduceSub, Nat.reduceBEq, Nat.reduceLeDiff, Int.reduceLT, Int.reduceLE, Int.reduceGE, Int.reduceGT, Int.reduceBEq, Int.reduceBNe, Int.reduceToNat, Int.reduceNeg, Int.reduceSub, Int.reduceAdd, Int.reduceMul, callHM, packA, packL, pack1, lentOk, getLent, putBack, backK, renAV, renL, finish, wkAV, resOf, resa, noSnap, noSnapL, noSnapO, keep, liveKeys, keysL, keysAV, rr, Try.f25, bb, hk, hn, hb, e55, ha, hbb, t20, o2, d2]
      simp
    · have o1 := inS_of ha
      have d2 : decide ((-1 : Int) < 0) = true := by decide
      simp only [vv, cc, ff, uu, norm, firstRegion, apartAll, clash, meets, execOp, opnd, builtinHM, bin, convHM, fillP, fieldsPlace, solid, inOrd, sliceHM, bound, zOK, appendHM, srcCells, borL, isSl, slLen, storeHM, loadHM, look1, idxAddr, arrAddr, cellsOf, TD.agg, loadedL, loaded, borrowed, isOwn, fieldR, partHM, absorbL, absorb1, setAt, killAV, killL, leafV, getR, isNil, nilV, Array.toList, List.map, reduceIte, reduceCtorEq, Nat.reduceEqDiff, Nat.reduceAdd, Nat.reduceMul, Nat.reduceSub, Nat.reduceBEq, Nat.reduceLeDiff, Int.reduceLT, Int.reduceLE, Int.reduceGE, Int.reduceGT, Int.reduceBEq, Int.reduceBNe, Int.reduceToNat, Int.reduceNeg, Int.reduceSub, Int.reduceAdd, Int.reduceMul, callHM, packA, packL, pack1, lentOk, getLent, putBack, backK, renAV, renL, finish, wkAV, resOf, resa, noSnap, noSnapL, noSnapO, keep, liveKeys, keysL, keysAV, rr, Try.f25, bb, hk, hn, hb, e55, ha, hbb, t20, o1, d2]
      simp
    · have o1 := inS_of ha
      have o2 := inS_of hbb
      have d2 : decide ((-1 : Int) < 0) = true := by decide
      by_cases hc : cOf ((un cs).take 20) ≥ cOf ((un cs).drop 20)
      · have hd : decide (cOf ((un cs).drop 20) > cOf ((un cs).take 20)) = false := by simp; omega
        simp only [vv, cc, ff, uu, norm, firstRegion, apartAll, clash, meets, execOp, opnd, builtinHM, bin, convHM, fillP, fieldsPlace, solid, inOrd, sliceHM, bound, zOK, appendHM, srcCells, borL, isSl, slLen, storeHM, loadHM, look1, idxAddr, arrAddr, cellsOf, TD.agg, loadedL, loaded, borrowed, isOwn, fieldR, partHM, absorbL, absorb1, setAt, killAV, killL, leafV, getR, isNil, nilV, Array.toList, List.map, reduceIte, reduceCtorEq, Nat.reduceEqDiff, Nat.reduceAdd, Nat.reduceMul, Nat.reduceSub, Nat.reduceBEq, Nat.reduceLeDiff, Int.reduceLT, Int.reduceLE, Int.reduceGE, Int.reduceGT, Int.reduceBEq, Int.reduceBNe, Int.reduceToNat, Int.reduceNeg, Int.reduceSub, Int.reduceAdd, Int.reduceMul, callHM, packA, packL, pack1, lentOk, getLent, putBack, backK, renAV, renL, finish, wkAV, resOf, resa, noSnap, noSnapL, noSnapO, keep, liveKeys, keysL, keysAV, rr, Try.f25, bb, hk, hn, hb, e55, ha, hbb, t20, o1, o2, d2, hd]
        simp [hc]
      · have hd : decide (cOf ((un cs).drop 20) > cOf ((un cs).take 20)) = true := by simp; omega
        simp only [vv, cc, ff, uu, norm, firstRegion, apartAll, clash, meets, execOp, opnd, builtinHM, bin, convHM, fillP, fieldsPlace, solid, inOrd, sliceHM, bound, zOK, appendHM, srcCells, borL, isSl, slLen, storeHM, loadHM, look1, idxAddr, arrAddr, cellsOf, TD.agg, loadedL, loaded, borrowed, isOwn, fieldR, partHM, absorbL, absorb1, setAt, killAV, killL, leafV, getR, isNil, nilV, Array.toList, List.map, reduceIte, reduceCtorEq, Nat.reduceEqDiff, Nat.reduceAdd, Nat.reduceMul, Nat.reduceSub, Nat.reduceBEq, Nat.reduceLeDiff, Int.reduceLT, Int.reduceLE, Int.reduceGE, Int.reduceGT, Int.reduceBEq, Int.reduceBNe, Int.reduceToNat, Int.reduceNeg, Int.reduceSub, Int.reduceAdd, Int.reduceMul, callHM, packA, packL, pack1, lentOk, getLent, putBack, backK, renAV, renL, finish, wkAV, resOf, resa, noSnap, noSnapL, noSnapO, keep, liveKeys, keysL, keysAV, rr, Try.f25, bb, hk, hn, hb, e55, ha, hbb, t20, o1, o2, d2, hd]
        simp [hc]
  · have hd : (((n : Nat) : Int) != 40) = true := by simp; omega
    have hl : (un cs).length ≠ 40 := by rw [un_len, hn]; exact h40
    simp (maxDischargeDepth := 8) only [vv, cc, bb, firstRegion, apartAll, clash, meets, execOp, opnd, builtinHM, bin, convHM, fillP, fieldsPlace, solid, inOrd, sliceHM, bound, zOK, appendHM, srcCells, borL, isSl, slLen, storeHM, loadHM, look1, idxAddr, arrAddr, cellsOf, TD.agg, loadedL, loaded, borrowed, isOwn, fieldR, partHM, absorbL, absorb1, setAt, killAV, killL, leafV, getR, isNil, nilV, Array.toList, List.map, reduceIte, reduceCtorEq, Nat.reduceEqDiff, Nat.reduceAdd, Nat.reduceMul, Nat.reduceSub, Nat.reduceBEq, Nat.reduceLeDiff, Int.reduceLT, Int.reduceLE, Int.reduceGE, Int.reduceGT, Int.reduceBEq, Int.reduceBNe, Int.reduceToNat, Int.reduceNeg, Int.reduceSub, Int.reduceAdd, Int.reduceMul, callHM, packA, packL, pack1, lentOk, getLent, putBack, backK, renAV, renL, rr, Try.f25, hd]
    simp only [vv, ff, firstRegion, apartAll, clash, meets, execOp, opnd, builtinHM, bin, convHM, fillP, fieldsPlace, solid, inOrd, sliceHM, bound, zOK, appendHM, srcCells, borL, isSl, slLen, storeHM, loadHM, look1, idxAddr, arrAddr, cellsOf, TD.agg, loadedL, loaded, borrowed, isOwn, fieldR, partHM, absorbL, absorb1, setAt, killAV, killL, leafV, getR, isNil, nilV, Array.toList, List.map, reduceIte, reduceCtorEq, Nat.reduceEqDiff, Nat.reduceAdd, Nat.reduceMul, Nat.reduceSub, Nat.reduceBEq, Nat.reduceLeDiff, Int.reduceLT, Int.reduceLE, Int.reduceGE, Int.reduceGT, Int.reduceBEq, Int.reduceBNe, Int.reduceToNat, Int.reduceNeg, Int.reduceSub, Int.reduceAdd, Int.reduceMul, finish, wkAV, resOf, resa, noSnap, noSnapL, noSnapO, keep, liveKeys, keysL, keysAV, renAV, renL, rr, rdV, if_neg hl]
theorem e26 (d : Nat) (tg : Tg) (cap : Option Nat) (n : Nat) (cs : List AV) (hk : isK .u8 cs = true) (hn : cs.length = n) (hb : B8 (un cs)) : evFun E (d+10) 26 [.sl tg 1 n cap cs] [] = some (vb (decide ((rdV (un cs)).2.2 ≥ 0)), []) := by
  refine evFun_body b26 ?_
  simp (maxDischargeDepth := 8) only [vv, cc, bb, firstRegion, apartAll, clash, meets, execOp, opnd, builtinHM, bin, convHM, fillP, fieldsPlace, solid, inOrd, sliceHM, bound, zOK, appendHM, srcCells, borL, isSl, slLen, storeHM, loadHM, look1, idxAddr, arrAddr, cellsOf, TD.agg, loadedL, loaded, borrowed, isOwn, fieldR, partHM, absorbL, absorb1, setAt, killAV, killL, leafV, getR, isNil, nilV, Array.toList, List.map, reduceIte, reduceCtorEq, Nat.reduceEqDiff, Nat.reduceAdd, Nat.reduceMul, Nat.reduceSub, Nat.reduceBEq, Nat.reduceLeDiff, Int.reduceLT, Int.reduceLE, Int.reduceGE, Int.reduceGT, Int.reduceBEq, Int.reduceBNe, Int.reduceToNat, Int.reduceNeg, Int.reduceSub, Int.reduceAdd, Int.reduceMul, callHM, packA, packL, pack1, lentOk, getLent, putBack, backK, renAV, renL, rr, Try.f26, hk, hn, hb, e25]
  simp only [vv, ff, firstRegion, apartAll, clash, meets, execOp, opnd, builtinHM, bin, convHM, fillP, fieldsPlace, solid, inOrd, sliceHM, bound, zOK, appendHM, srcCells, borL, isSl, slLen, storeHM, loadHM, look1, idxAddr, arrAddr, cellsOf, TD.agg, loadedL, loaded, borrowed, isOwn, fieldR, partHM, absorbL, absorb1, setAt, killAV, killL, leafV, getR, isNil, nilV, Array.toList, List.map, reduceIte, reduceCtorEq, Nat.reduceEqDiff, Nat.reduceAdd, Nat.reduceMul, Nat.reduceSub, Nat.reduceBEq, Nat.reduceLeDiff, Int.reduceLT, Int.reduceLE, Int.reduceGE, Int.reduceGT, Int.reduceBEq, Int.reduceBNe, Int.reduceToNat, Int.reduceNeg, Int.reduceSub, Int.reduceAdd, Int.reduceMul, finish, wkAV, resOf, resa, noSnap, noSnapL, noSnapO, keep, liveKeys, keysL, keysAV, renAV, renL, rr]
end Go.Proofs.Ytjkkndgbhcmphaa.VH.S
end

section
namespace Go.Proofs.Ytjkkndgbhcmphaa.VH.S
open Go.Proofs
set_option maxRecDepth 100000
set_option maxHeartbeats 4000000
set_option linter.unusedSimpArgs false

theorem ok00 : okS 0 0 = true := by decide
def newD : List AV := (slotL 0 0).map (iv .u8) ++ List.replicate 20 (iv .u8 0)
theorem newD_len : newD.length = 40 := by simp [newD, slot_len]
theorem newD_k : isK .u8 newD = true := by rw [newD, isK_app, isK_map, isK_repl]; rfl
theorem newD_snap : noSnapL newD = true := by rw [isK_get newD_k]; exact noSnapL_iv _ _
theorem newD_own : newD.any isOwn = false := by rw [isK_get newD_k]; exact anyOwn_iv _ _
theorem newD_def : (slotL 0 0).map (iv .u8) ++ List.replicate 20 (AV.val (.int .u8 0)) = newD := rfl
theorem e74 (d : Nat) : evFun E (d+6) 74 [] [] = some (.ref 0 [] 1 0 40 none, [some newD]) := by
  refine evFun_body b74 ?_
  simp (maxDischargeDepth := 8) only [vv, cc, bb, firstRegion, apartAll, clash, meets, execOp, opnd, builtinHM, bin, convHM, fillP, fieldsPlace, solid, inOrd, sliceHM, bound, zOK, appendHM, srcCells, borL, isSl, slLen, storeHM, loadHM, look1, idxAddr, arrAddr, cellsOf, TD.agg, loadedL, loaded, borrowed, isOwn, fieldR, partHM, absorbL, absorb1, setAt, killAV, killL, leafV, getR, isNil, nilV, Array.toList, List.map, reduceIte, reduceCtorEq, Nat.reduceEqDiff, Nat.reduceAdd, Nat.reduceMul, Nat.reduceSub, Nat.reduceBEq, Nat.reduceLeDiff, Int.reduceLT, Int.reduceLE, Int.reduceGE, Int.reduceGT, Int.reduceBEq, Int.reduceBNe, Int.reduceToNat, Int.reduceNeg, Int.reduceSub, Int.reduceAdd, Int.reduceMul, callHM, packA, packL, pack1, lentOk, getLent, putBack, backK, renAV, renL, rr, Try.f74, e48 _ _ _ ok00, slot_len, limI, zeros_one, newD_def]
  simp only [vv, ff, firstRegion, apartAll, clash, meets, execOp, opnd, builtinHM, bin, convHM, fillP, fieldsPlace, solid, inOrd, sliceHM, bound, zOK, appendHM, srcCells, borL, isSl, slLen, storeHM, loadHM, look1, idxAddr, arrAddr, cellsOf, TD.agg, loadedL, loaded, borrowed, isOwn, fieldR, partHM, absorbL, absorb1, setAt, killAV, killL, leafV, getR, isNil, nilV, Array.toList, List.map, reduceIte, reduceCtorEq, Nat.reduceEqDiff, Nat.reduceAdd, Nat.reduceMul, Nat.reduceSub, Nat.reduceBEq, Nat.reduceLeDiff, Int.reduceLT, Int.reduceLE, Int.reduceGE, Int.reduceGT, Int.reduceBEq, Int.reduceBNe, Int.reduceToNat, Int.reduceNeg, Int.reduceSub, Int.reduceAdd, Int.reduceMul, finish, wkAV, resOf, resa, noSnap, noSnapL, noSnapO, keep, liveKeys, keysL, keysAV, renAV, renL, rr, newD_snap]
theorem e29 (d : Nat) : evFun E (d+8) 29 [] [] = some (.ref 0 [] 1 0 40 none, [some newD]) := by
  refine evFun_body b29 ?_
  simp (maxDischargeDepth := 8) only [vv, cc, bb, firstRegion, apartAll, clash, meets, execOp, opnd, builtinHM, bin, convHM, fillP, fieldsPlace, solid, inOrd, sliceHM, bound, zOK, appendHM, srcCells, borL, isSl, slLen, storeHM, loadHM, look1, idxAddr, arrAddr, cellsOf, TD.agg, loadedL, loaded, borrowed, isOwn, fieldR, partHM, absorbL, absorb1, setAt, killAV, killL, leafV, getR, isNil, nilV, Array.toList, List.map, reduceIte, reduceCtorEq, Nat.reduceEqDiff, Nat.reduceAdd, Nat.reduceMul, Nat.reduceSub, Nat.reduceBEq, Nat.reduceLeDiff, Int.reduceLT, Int.reduceLE, Int.reduceGE, Int.reduceGT, Int.reduceBEq, Int.reduceBNe, Int.reduceToNat, Int.reduceNeg, Int.reduceSub, Int.reduceAdd, Int.reduceMul, callHM, packA, packL, pack1, lentOk, getLent, putBack, backK, renAV, renL, rr, Try.f29, e28 _ _ _ ok00, slot_len, limI, zeros_one, newD_def]
  simp only [vv, ff, firstRegion, apartAll, clash, meets, execOp, opnd, builtinHM, bin, convHM, fillP, fieldsPlace, solid, inOrd, sliceHM, bound, zOK, appendHM, srcCells, borL, isSl, slLen, storeHM, loadHM, look1, idxAddr, arrAddr, cellsOf, TD.agg, loadedL, loaded, borrowed, isOwn, fieldR, partHM, absorbL, absorb1, setAt, killAV, killL, leafV, getR, isNil, nilV, Array.toList, List.map, reduceIte, reduceCtorEq, Nat.reduceEqDiff, Nat.reduceAdd, Nat.reduceMul, Nat.reduceSub, Nat.reduceBEq, Nat.reduceLeDiff, Int.reduceLT, Int.reduceLE, Int.reduceGE, Int.reduceGT, Int.reduceBEq, Int.reduceBNe, Int.reduceToNat, Int.reduceNeg, Int.reduceSub, Int.reduceAdd, Int.reduceMul, finish, wkAV, resOf, resa, noSnap, noSnapL, noSnapO, keep, liveKeys, keysL, keysAV, renAV, renL, rr, newD_snap]
end Go.Proofs.Ytjkkndgbhcmphaa.VH.S
end

section
namespace Go.Proofs.Ytjkkndgbhcmphaa.VH

/- A row, a part of it written anew. -/

def putL {α : Type} (l : List α) (f : Nat) (s : List α) : List α := l.take f ++ s ++ l.drop (f + s.length)

theorem putL_len {α : Type} (l : List α) (f : Nat) (s : List α) (h : f + s.length ≤ l.length) : (putL l f s).length = l.length := by
  simp only [putL, List.length_append, List.length_take, List.length_drop]; omega
theorem putL_nil {α : Type} (l : List α) (f : Nat) : putL l f [] = l := by simp [putL]
theorem putL_get {α : Type} (l : List α) (f : Nat) (s : List α) (h : f + s.length ≤ l.length) (j : Nat) : (putL l f s)[j]? = if f ≤ j ∧ j < f + s.length then s[j - f]? else l[j]? := by
  unfold putL
  by_cases h1 : j < f
  · rw [if_neg (by omega), List.append_assoc, List.getElem?_append_left (by simp; omega), List.getElem?_take, if_pos h1]
  · by_cases h2 : j < f + s.length
    · rw [if_pos (by omega), List.getElem?_append_left (by simp; omega), List.getElem?_append_right (by simp; omega)]
      congr 1; simp; omega
    · rw [if_neg (by omega), List.getElem?_append_right (by simp; omega), List.getElem?_drop]
      congr 1; simp; omega
theorem setAt_put (cs : List AV) (f : Nat) (s : List AV) (h : f + s.length ≤ cs.length) : setAt cs f s = putL cs f s := by
  apply List.ext_getElem?
  intro j
  rw [setAt_get h, putL_get _ _ _ h]
theorem putL_set {α : Type} (l : List α) (f : Nat) (s : List α) {i : Nat} (h : f + s.length ≤ l.length) (hi : i < s.length) : (putL l f (s.take i)).set (f + i) s[i] = putL l f (s.take (i + 1)) := by
  have hi' : (s.take i).length = i := by simp; omega
  have hi2 : (s.take (i + 1)).length = i + 1 := by simp; omega
  apply List.ext_getElem?
  intro j
  rw [putL_get _ _ _ (by omega)]
  by_cases e : f + i = j
  · subst e
    rw [List.getElem?_set_self (by rw [putL_len _ _ _ (by omega)]; omega), if_pos (by omega), List.getElem?_take, if_pos (by omega)]
    have : f + i - f = i := by omega
    rw [this, List.getElem?_eq_getElem hi]
  · rw [List.getElem?_set_ne e, putL_get _ _ _ (by omega)]
    by_cases c : f ≤ j ∧ j < f + i
    · rw [if_pos (by omega), if_pos (by omega), List.getElem?_take, List.getElem?_take, if_pos (by omega), if_pos (by omega)]
    · rw [if_neg (by omega), if_neg (by omega)]
theorem isK_put {k : IntKind} {l : List AV} {f : Nat} {s : List AV} (h1 : isK k l = true) (h2 : isK k s = true) : isK k (putL l f s) = true := by
  rw [putL, isK_app, isK_app, isK_take _ h1, h2, isK_drop _ h1]; rfl
theorem un_put (l : List AV) (f : Nat) (s : List AV) : un (putL l f s) = putL (un l) f (un s) := by
  rw [putL, un_app, un_app, un_take, un_drop, putL, un_len]
theorem B8.put {l : List Int} {f : Nat} {s : List Int} (h1 : B8 l) (h2 : B8 s) : B8 (putL l f s) := ((h1.take _).app h2).app (h1.drop _)
theorem isK_getR {k : IntKind} {cs : List AV} (h : isK k cs = true) {i : Nat} (hi : i < cs.length) : cs[i]? = some (iv k ((un cs)[i]'(by rw [un_len]; exact hi))) := by
  have e : cs[i]? = ((un cs).map (iv k))[i]? := by rw [← isK_get h]
  rw [e, map_get (by rw [un_len]; exact hi)]
theorem isK_own {k : IntKind} {cs : List AV} (h : isK k cs = true) : cs.any isOwn = false := by rw [isK_get h]; exact anyOwn_iv _ _
theorem isK_sl {k : IntKind} {cs : List AV} (h : isK k cs = true) : cs.any isSl = false := by rw [isK_get h]; exact anySl_iv _ _
theorem isK_snap {k : IntKind} {cs : List AV} (h : isK k cs = true) : noSnapL cs = true := by rw [isK_get h]; exact noSnapL_iv _ _

end Go.Proofs.Ytjkkndgbhcmphaa.VH
namespace Go.Proofs.Ytjkkndgbhcmphaa.VH
def xorI (x y : Int) : Int := IntKind.i64.wrap ((BitVec.ofInt 64 x ^^^ BitVec.ofInt 64 y).toNat : Int)
def andI (x y : Int) : Int := IntKind.i64.wrap ((BitVec.ofInt 64 x &&& BitVec.ofInt 64 y).toNat : Int)
def orI (x y : Int) : Int := IntKind.i64.wrap ((BitVec.ofInt 64 x ||| BitVec.ofInt 64 y).toNat : Int)
theorem bin_xorI (x y : Int) : intBin .xor .i64 x y = .ret (vi (xorI x y)) := _root_.id _root_.rfl
theorem bin_andI (x y : Int) : intBin .and .i64 x y = .ret (vi (andI x y)) := _root_.id _root_.rfl
theorem bin_orI (x y : Int) : intBin .or .i64 x y = .ret (vi (orI x y)) := _root_.id _root_.rfl
theorem andI_255 (x : Int) : 0 ≤ andI x 255 ∧ andI x 255 < 256 := by
  have h1 : (BitVec.ofInt 64 x &&& BitVec.ofInt 64 255).toNat ≤ 255 := by
    rw [BitVec.toNat_and]
    exact Nat.le_trans Nat.and_le_right (by decide)
  unfold andI
  rw [wrap64 (by omega) (by omega)]
  omega

/- Drawing: a cursor. -/
def curC (b : List Int) (s : Nat × Int) : List AV := [.sl .fgn 1 b.length none (b.map (iv .u8)), vi s.1, vi s.2]
def nh (h : Int) : Int := IntKind.i64.wrap (IntKind.i64.wrap (h * 6364136223846793005) + 1442695040888963407)
def xr (h : Int) : Int := andI (xorI (shrI h 33) (shrI h 45)) 255
def by1 (b : List Int) (s : Nat × Int) : Int × (Nat × Int) :=
  if s.1 < b.length then (andI (IntKind.i64.wrap (xr (nh s.2) + IntKind.i64.wrap (b.getD s.1 0))) 255, (s.1 + 1, nh s.2)) else (xr (nh s.2), (s.1, nh s.2))
theorem by1_b (b : List Int) (s : Nat × Int) : 0 ≤ (by1 b s).1 ∧ (by1 b s).1 < 256 := by
  unfold by1
  split
  · exact andI_255 _
  · exact andI_255 _
def bel (b : List Int) (n : Int) (s : Nat × Int) : Int × (Nat × Int) :=
  if n ≤ 0 then (0, s) else if n ≤ 256 then ((by1 b s).1.tmod n, (by1 b s).2)
  else (((by1 b s).1 * 16777216 + (by1 b (by1 b s).2).1 * 65536 + (by1 b (by1 b (by1 b s).2).2).1 * 256 + (by1 b (by1 b (by1 b (by1 b s).2).2).2).1).tmod n, (by1 b (by1 b (by1 b (by1 b s).2).2).2).2)
theorem bel_b (b : List Int) {n : Int} (hn : 0 < n) (s : Nat × Int) : 0 ≤ (bel b n s).1 ∧ (bel b n s).1 < n := by
  unfold bel
  rw [if_neg (by omega)]
  split
  · have h := by1_b b s
    exact ⟨Int.tmod_nonneg _ h.1, Int.tmod_lt_of_pos _ hn⟩
  · have h1 := by1_b b s
    have h2 := by1_b b (by1 b s).2
    have h3 := by1_b b (by1 b (by1 b s).2).2
    have h4 := by1_b b (by1 b (by1 b (by1 b s).2).2).2
    exact ⟨Int.tmod_nonneg _ (by omega), Int.tmod_lt_of_pos _ hn⟩
/-- a number out of eight bytes is what it was -/
theorem numB_eight {x : Int} (h0 : 0 ≤ x) (h1 : x < 9223372036854775808) : numB (eightL x) = x := by
  have s : ∀ k : Nat, k ≤ 64 → shrI x (k : Int) = x / 2 ^ k := fun k hk => by
    rw [shrI, Int.toNat_natCast, Nat.min_eq_left hk, Int.fdiv_eq_ediv_of_nonneg _ (Int.le_of_lt (Int.pow_pos (by decide)))]
  have s8 := s 8 (by decide); have s16 := s 16 (by decide); have s24 := s 24 (by decide); have s32 := s 32 (by decide)
  have s40 := s 40 (by decide); have s48 := s 48 (by decide); have s56 := s 56 (by decide)
  simp only [Int.cast_ofNat_Int] at s8 s16 s24 s32 s40 s48 s56
  simp only [eightL, numB, List.foldl_cons, List.foldl_nil, w8, IntKind.wrap_u8, s8, s16, s24, s32, s40, s48, s56]
  omega
end Go.Proofs.Ytjkkndgbhcmphaa.VH
end

section
namespace Go.Proofs.Ytjkkndgbhcmphaa.VH.S
open Go.Proofs
set_option maxRecDepth 100000
set_option maxHeartbeats 4000000
set_option linter.unusedSimpArgs false

theorem q51 (d : Nat) (tg : Tg) (cap : Option Nat) (n : Nat) (cs : List AV) (hk : isK .u8 cs = true) (hn : cs.length = n) (h0 : 0 < n) (hl : n ≤ 549755813888) : evFun E (d+1) 51 [.sl tg 1 n cap cs] [] = some (.ref 0 [] 1 0 n none, [some cs]) := by
  subst hn
  refine evFun_body b51 ?_
  have e1 := isK_sl hk
  have e2 := isK_snap hk
  have e3 : decide (0 < cs.length) = true := decide_eq_true h0
  have e4 : decide (cs.length = 0) = false := by simp; intro h; rw [h] at h0; simp at h0
  simp only [vv, cc, firstRegion, apartAll, clash, meets, execOp, opnd, builtinHM, bin, convHM, fillP, fieldsPlace, solid, inOrd, sliceHM, bound, zOK, appendHM, srcCells, borL, isSl, slLen, storeHM, loadHM, look1, idxAddr, arrAddr, cellsOf, TD.agg, loadedL, loaded, borrowed, isOwn, fieldR, partHM, absorbL, absorb1, setAt, killAV, killL, leafV, getR, isNil, nilV, Array.toList, List.map, reduceIte, reduceCtorEq, Nat.reduceEqDiff, Nat.reduceAdd, Nat.reduceMul, Nat.reduceSub, Nat.reduceBEq, Nat.reduceLeDiff, Int.reduceLT, Int.reduceLE, Int.reduceGE, Int.reduceGT, Int.reduceBEq, Int.reduceBNe, Int.reduceToNat, Int.reduceNeg, Int.reduceSub, Int.reduceAdd, Int.reduceMul, callHM, packA, packL, pack1, lentOk, getLent, putBack, backK, renAV, renL, rr, Try.f51, e1, limN hl, e3]
  simp only [vv, ff, firstRegion, apartAll, clash, meets, execOp, opnd, builtinHM, bin, convHM, fillP, fieldsPlace, solid, inOrd, sliceHM, bound, zOK, appendHM, srcCells, borL, isSl, slLen, storeHM, loadHM, look1, idxAddr, arrAddr, cellsOf, TD.agg, loadedL, loaded, borrowed, isOwn, fieldR, partHM, absorbL, absorb1, setAt, killAV, killL, leafV, getR, isNil, nilV, Array.toList, List.map, reduceIte, reduceCtorEq, Nat.reduceEqDiff, Nat.reduceAdd, Nat.reduceMul, Nat.reduceSub, Nat.reduceBEq, Nat.reduceLeDiff, Int.reduceLT, Int.reduceLE, Int.reduceGE, Int.reduceGT, Int.reduceBEq, Int.reduceBNe, Int.reduceToNat, Int.reduceNeg, Int.reduceSub, Int.reduceAdd, Int.reduceMul, finish, wkAV, resOf, resa, noSnap, noSnapL, noSnapO, keep, liveKeys, keysL, keysAV, renAV, renL, rr, e2, e4]
theorem z51 (d : Nat) (tg : Tg) (cap : Option Nat) : evFun E (d+1) 51 [.sl tg 1 0 cap []] [] = some (.sl .fgn 1 0 none [], []) := by
  refine evFun_body b51 ?_
  have e3 : decide ((0 : Nat) < 0) = false := by decide
  simp only [vv, cc, firstRegion, apartAll, clash, meets, execOp, opnd, builtinHM, bin, convHM, fillP, fieldsPlace, solid, inOrd, sliceHM, bound, zOK, appendHM, srcCells, borL, isSl, slLen, storeHM, loadHM, look1, idxAddr, arrAddr, cellsOf, TD.agg, loadedL, loaded, borrowed, isOwn, fieldR, partHM, absorbL, absorb1, setAt, killAV, killL, leafV, getR, isNil, nilV, Array.toList, List.map, reduceIte, reduceCtorEq, Nat.reduceEqDiff, Nat.reduceAdd, Nat.reduceMul, Nat.reduceSub, Nat.reduceBEq, Nat.reduceLeDiff, Int.reduceLT, Int.reduceLE, Int.reduceGE, Int.reduceGT, Int.reduceBEq, Int.reduceBNe, Int.reduceToNat, Int.reduceNeg, Int.reduceSub, Int.reduceAdd, Int.reduceMul, callHM, packA, packL, pack1, lentOk, getLent, putBack, backK, renAV, renL, rr, Try.f51, e3]
  simp only [vv, ff, firstRegion, apartAll, clash, meets, execOp, opnd, builtinHM, bin, convHM, fillP, fieldsPlace, solid, inOrd, sliceHM, bound, zOK, appendHM, srcCells, borL, isSl, slLen, storeHM, loadHM, look1, idxAddr, arrAddr, cellsOf, TD.agg, loadedL, loaded, borrowed, isOwn, fieldR, partHM, absorbL, absorb1, setAt, killAV, killL, leafV, getR, isNil, nilV, Array.toList, List.map, reduceIte, reduceCtorEq, Nat.reduceEqDiff, Nat.reduceAdd, Nat.reduceMul, Nat.reduceSub, Nat.reduceBEq, Nat.reduceLeDiff, Int.reduceLT, Int.reduceLE, Int.reduceGE, Int.reduceGT, Int.reduceBEq, Int.reduceBNe, Int.reduceToNat, Int.reduceNeg, Int.reduceSub, Int.reduceAdd, Int.reduceMul, finish, wkAV, resOf, resa, noSnap, noSnapL, noSnapO, keep, liveKeys, keysL, keysAV, renAV, renL, rr]

def wrOK (l : List Int) (c r t : Int) : Bool := decide (l.length = 40) && okS c r && (decide (t ≥ 0) && decide (t ≤ 20)) && !(decide ((rdV l).2.2 ≥ 0) && decide (c ≤ (rdV l).1))
def wrAt (l : List Int) : Nat := if (rdV l).2.2 == 0 then 20 else 0
def wrC (cs : List AV) (c r t : Int) : List AV := if wrOK (un cs) c r t = true then putL cs (wrAt (un cs)) (((slotL c r).take t.toNat).map (iv .u8)) else cs
def wrV (l : List Int) (c r t : Int) : List Int := if wrOK l c r t = true then putL l (wrAt l) ((slotL c r).take t.toNat) else l
theorem un_wrC (cs : List AV) (c r t : Int) : un (wrC cs c r t) = wrV (un cs) c r t := by
  unfold wrC wrV
  split
  · rw [un_put, un_map]
  · rfl
theorem isK_wrC {cs : List AV} (h : isK .u8 cs = true) (c r t : Int) : isK .u8 (wrC cs c r t) = true := by
  unfold wrC
  split
  · exact isK_put h (isK_map _ _)
  · exact h
theorem B8.wrV {l : List Int} (h : B8 l) (c r t : Int) : B8 (wrV l c r t) := by
  unfold S.wrV
  split
  · exact h.put ((B8.slot _ _).take _)
  · exact h
theorem wrC_len {cs : List AV} (c r t : Int) : (wrC cs c r t).length = cs.length := by
  unfold wrC
  split
  · rename_i h
    simp only [wrOK, Bool.and_eq_true, decide_eq_true_eq, un_len] at h
    refine putL_len _ _ _ ?_
    rw [List.length_map, List.length_take, slot_len]
    unfold wrAt
    split <;> omega
  · rfl
theorem wr_bad {l : List Int} {c r t : Int} {n : Nat} (hn : l.length = n) (h : (n ≠ 40) ∨ okS c r = false ∨ (decide (t ≥ 0) && decide (t ≤ 20)) = false ∨ (decide ((rdV l).2.2 ≥ 0) = true ∧ decide (c ≤ (rdV l).1) = true)) : wrOK l c r t = false := by
  unfold wrOK
  rcases h with h | h | h | h
  · rw [hn, decide_eq_false h]; rfl
  · rw [h]; simp
  · rw [h]; simp
  · rw [h.1, h.2]; simp
theorem e20 (d : Nat) (tg : Tg) (cap : Option Nat) (n : Nat) (cs : List AV) (c r t : Int) (hk : isK .u8 cs = true) (hn : cs.length = n) (hb : B8 (un cs)) (hl : n ≤ 549755813888) :
    evFun E (d+10) 20 [.sl tg 1 n cap cs, vi c, vi r, vi t] [] = some (.tup [.ref 0 [] 1 0 n none, vb (wrOK (un cs) c r t)], [some (wrC cs c r t)]) := by
  refine evFun_body b20 ?_
  have e2 := isK_snap hk
  have hul : (un cs).length = n := by rw [un_len]; exact hn
  by_cases h40 : n = 40
  · subst h40
    have g1 : (((40 : Nat) : Int) != 40) = false := by decide
    cases ho : okS c r with
    | false =>
      have hw := wr_bad (t := t) hul (.inr (.inl ho))
      simp (maxDischargeDepth := 8) only [vv, cc, bb, firstRegion, apartAll, clash, meets, execOp, opnd, builtinHM, bin, convHM, fillP, fieldsPlace, solid, inOrd, sliceHM, bound, zOK, appendHM, srcCells, borL, isSl, slLen, storeHM, loadHM, look1, idxAddr, arrAddr, cellsOf, TD.agg, loadedL, loaded, borrowed, isOwn, fieldR, partHM, absorbL, absorb1, setAt, killAV, killL, leafV, getR, isNil, nilV, Array.toList, List.map, reduceIte, reduceCtorEq, Nat.reduceEqDiff, Nat.reduceAdd, Nat.reduceMul, Nat.reduceSub, Nat.reduceBEq, Nat.reduceLeDiff, Int.reduceLT, Int.reduceLE, Int.reduceGE, Int.reduceGT, Int.reduceBEq, Int.reduceBNe, Int.reduceToNat, Int.reduceNeg, Int.reduceSub, Int.reduceAdd, Int.reduceMul, callHM, packA, packL, pack1, lentOk, getLent, putBack, backK, renAV, renL, rr, Try.f20, hk, hn, hb, q47, e48n _ _ _ ho, e49, g1]
      simp only [vv, ff, firstRegion, apartAll, clash, meets, execOp, opnd, builtinHM, bin, convHM, fillP, fieldsPlace, solid, inOrd, sliceHM, bound, zOK, appendHM, srcCells, borL, isSl, slLen, storeHM, loadHM, look1, idxAddr, arrAddr, cellsOf, TD.agg, loadedL, loaded, borrowed, isOwn, fieldR, partHM, absorbL, absorb1, setAt, killAV, killL, leafV, getR, isNil, nilV, Array.toList, List.map, reduceIte, reduceCtorEq, Nat.reduceEqDiff, Nat.reduceAdd, Nat.reduceMul, Nat.reduceSub, Nat.reduceBEq, Nat.reduceLeDiff, Int.reduceLT, Int.reduceLE, Int.reduceGE, Int.reduceGT, Int.reduceBEq, Int.reduceBNe, Int.reduceToNat, Int.reduceNeg, Int.reduceSub, Int.reduceAdd, Int.reduceMul, finish, wkAV, resOf, resa, noSnap, noSnapL, noSnapO, keep, liveKeys, keysL, keysAV, renAV, renL, rr, e2, hw, wrC]
    | true =>
      cases ht : (decide (t ≥ 0) && decide (t ≤ 20)) with
      | false =>
        have hw := wr_bad (c := c) (r := r) hul (.inr (.inr (.inl ht)))
        simp (maxDischargeDepth := 8) only [vv, cc, bb, firstRegion, apartAll, clash, meets, execOp, opnd, builtinHM, bin, convHM, fillP, fieldsPlace, solid, inOrd, sliceHM, bound, zOK, appendHM, srcCells, borL, isSl, slLen, storeHM, loadHM, look1, idxAddr, arrAddr, cellsOf, TD.agg, loadedL, loaded, borrowed, isOwn, fieldR, partHM, absorbL, absorb1, setAt, killAV, killL, leafV, getR, isNil, nilV, Array.toList, List.map, reduceIte, reduceCtorEq, Nat.reduceEqDiff, Nat.reduceAdd, Nat.reduceMul, Nat.reduceSub, Nat.reduceBEq, Nat.reduceLeDiff, Int.reduceLT, Int.reduceLE, Int.reduceGE, Int.reduceGT, Int.reduceBEq, Int.reduceBNe, Int.reduceToNat, Int.reduceNeg, Int.reduceSub, Int.reduceAdd, Int.reduceMul, callHM, packA, packL, pack1, lentOk, getLent, putBack, backK, renAV, renL, rr, Try.f20, hk, hn, hb, q47, e48 _ _ _ ho, e49, g1, e50, ht]
        simp only [vv, ff, firstRegion, apartAll, clash, meets, execOp, opnd, builtinHM, bin, convHM, fillP, fieldsPlace, solid, inOrd, sliceHM, bound, zOK, appendHM, srcCells, borL, isSl, slLen, storeHM, loadHM, look1, idxAddr, arrAddr, cellsOf, TD.agg, loadedL, loaded, borrowed, isOwn, fieldR, partHM, absorbL, absorb1, setAt, killAV, killL, leafV, getR, isNil, nilV, Array.toList, List.map, reduceIte, reduceCtorEq, Nat.reduceEqDiff, Nat.reduceAdd, Nat.reduceMul, Nat.reduceSub, Nat.reduceBEq, Nat.reduceLeDiff, Int.reduceLT, Int.reduceLE, Int.reduceGE, Int.reduceGT, Int.reduceBEq, Int.reduceBNe, Int.reduceToNat, Int.reduceNeg, Int.reduceSub, Int.reduceAdd, Int.reduceMul, finish, wkAV, resOf, resa, noSnap, noSnapL, noSnapO, keep, liveKeys, keysL, keysAV, renAV, renL, rr, e2, hw, wrC]
      | true =>
        have ht' := ht
        simp only [Bool.and_eq_true, decide_eq_true_eq] at ht'
        obtain ⟨tn, rfl⟩ := Int.eq_ofNat_of_zero_le ht'.1
        have htn : tn ≤ 20 := by omega
        have ht20 : decide ((tn : Int) ≤ 20) = true := by simp; omega
        have ht0 : decide ((tn : Int) ≥ 0) = true := by simp
        cases hP : decide ((rdV (un cs)).2.2 ≥ 0) <;> cases hQ : decide (c ≤ (rdV (un cs)).1)
        case true.true =>
          have hw := wr_bad (c := c) (r := r) (t := (tn : Int)) hul (.inr (.inr (.inr ⟨hP, hQ⟩)))
          simp (maxDischargeDepth := 8) only [vv, cc, bb, firstRegion, apartAll, clash, meets, execOp, opnd, builtinHM, bin, convHM, fillP, fieldsPlace, solid, inOrd, sliceHM, bound, zOK, appendHM, srcCells, borL, isSl, slLen, storeHM, loadHM, look1, idxAddr, arrAddr, cellsOf, TD.agg, loadedL, loaded, borrowed, isOwn, fieldR, partHM, absorbL, absorb1, setAt, killAV, killL, leafV, getR, isNil, nilV, Array.toList, List.map, reduceIte, reduceCtorEq, Nat.reduceEqDiff, Nat.reduceAdd, Nat.reduceMul, Nat.reduceSub, Nat.reduceBEq, Nat.reduceLeDiff, Int.reduceLT, Int.reduceLE, Int.reduceGE, Int.reduceGT, Int.reduceBEq, Int.reduceBNe, Int.reduceToNat, Int.reduceNeg, Int.reduceSub, Int.reduceAdd, Int.reduceMul, callHM, packA, packL, pack1, lentOk, getLent, putBack, backK, renAV, renL, rr, Try.f20, hk, hn, hb, q47, e48 _ _ _ ho, e49, g1, e50, ht, ht20, ht0, hP, hQ]
          simp only [vv, ff, firstRegion, apartAll, clash, meets, execOp, opnd, builtinHM, bin, convHM, fillP, fieldsPlace, solid, inOrd, sliceHM, bound, zOK, appendHM, srcCells, borL, isSl, slLen, storeHM, loadHM, look1, idxAddr, arrAddr, cellsOf, TD.agg, loadedL, loaded, borrowed, isOwn, fieldR, partHM, absorbL, absorb1, setAt, killAV, killL, leafV, getR, isNil, nilV, Array.toList, List.map, reduceIte, reduceCtorEq, Nat.reduceEqDiff, Nat.reduceAdd, Nat.reduceMul, Nat.reduceSub, Nat.reduceBEq, Nat.reduceLeDiff, Int.reduceLT, Int.reduceLE, Int.reduceGE, Int.reduceGT, Int.reduceBEq, Int.reduceBNe, Int.reduceToNat, Int.reduceNeg, Int.reduceSub, Int.reduceAdd, Int.reduceMul, finish, wkAV, resOf, resa, noSnap, noSnapL, noSnapO, keep, liveKeys, keysL, keysAV, renAV, renL, rr, e2, hw, wrC]
        all_goals
          have hw : wrOK (un cs) c r tn = true := by simp [wrOK, hul, ho, ht', hP, hQ]; try omega
        all_goals
          have eS : ∀ d, evFun E (d+5) 48 [vi c, vi r] [] = some (.tup [.ref 0 [] 1 0 20 none, vb true], [some ((slotL c r).map (iv .u8))]) := fun d => e48 d c r ho
          have hS' : ((slotL c r).map (iv .u8)).length = 20 := by rw [List.length_map, slot_len]
          generalize hSS : (slotL c r).map (iv .u8) = S' at eS hS'
          have hSn : noSnapL S' = true := by rw [← hSS]; exact noSnapL_iv _ _
          have hSg : ∀ i, i < 20 → ∃ x, S'[i]? = some (iv .u8 x) := fun i hi => ⟨_, by rw [← hSS]; exact map_get (by rw [slot_len]; exact hi)⟩
          cases hz : ((rdV (un cs)).2.2 == 0) with
          | true =>
            have hat : wrAt (un cs) = 20 := by simp only [wrAt, hz, if_true]
            simp (maxDischargeDepth := 8) only [vv, cc, bb, firstRegion, apartAll, clash, meets, execOp, opnd, builtinHM, bin, convHM, fillP, fieldsPlace, solid, inOrd, sliceHM, bound, zOK, appendHM, srcCells, borL, isSl, slLen, storeHM, loadHM, look1, idxAddr, arrAddr, cellsOf, TD.agg, loadedL, loaded, borrowed, isOwn, fieldR, partHM, absorbL, absorb1, setAt, killAV, killL, leafV, getR, isNil, nilV, Array.toList, List.map, reduceIte, reduceCtorEq, Nat.reduceEqDiff, Nat.reduceAdd, Nat.reduceMul, Nat.reduceSub, Nat.reduceBEq, Nat.reduceLeDiff, Int.reduceLT, Int.reduceLE, Int.reduceGE, Int.reduceGT, Int.reduceBEq, Int.reduceBNe, Int.reduceToNat, Int.reduceNeg, Int.reduceSub, Int.reduceAdd, Int.reduceMul, callHM, packA, packL, pack1, lentOk, getLent, putBack, backK, renAV, renL, rr, Try.f20, hk, hn, hb, q47, eS, e49, g1, e50, ht, ht20, ht0, hP, hQ, hz]
            refine loop_go (fun i => {T := tp [(3, vi (tn : Int)), (10, .ref 0 [] 1 0 40 none), (11, .ref 1 [] 1 0 20 none), (16, vi 20), (17, vi (i : Int))], H := hp [some (putL cs 20 (S'.take i)), some S'], nx := 2}) tn ?_ (lt_LF (by omega)) (fun i hi Kn hK => ?_) (fun Kn => ?_)
            · simp only [vv, ff, norm, Array.toList, List.map, reduceIte, reduceCtorEq, Nat.reduceEqDiff, Nat.reduceAdd, Nat.reduceMul, Nat.reduceSub, Nat.reduceBEq, Nat.reduceLeDiff, Int.reduceLT, Int.reduceLE, Int.reduceGE, Int.reduceGT, Int.reduceBEq, Int.reduceBNe, Int.reduceToNat, Int.reduceNeg, Int.reduceSub, Int.reduceAdd, Int.reduceMul, finish, wkAV, resOf, resa, noSnap, noSnapL, noSnapO, keep, liveKeys, keysL, keysAV, renAV, renL, Int.natCast_zero, List.take_zero, putL_nil]
            · have hi20 : i < 20 := by omega
              obtain ⟨x, hx⟩ := hSg i hi20
              have w1 : IntKind.i64.wrap (20 + (i : Int)) = ((20 + i : Nat) : Int) := by rw [wrap64 (by omega) (by omega)]; omega
              have q2 : decide ((i : Int) < ((20 : Nat) : Int)) = true := by simp; omega
              have q3 : decide (((20 + i : Nat) : Int) < ((40 : Nat) : Int)) = true := by simp; omega
              have hl1 : (putL cs 20 (S'.take i)).length = 40 := by rw [putL_len _ _ _ (by rw [List.length_take]; omega), hn]
              have q4 : decide (20 + i + 1 ≤ (putL cs 20 (S'.take i)).length) = true := by rw [hl1]; simp; omega
              have hxe : S'[i]'(by omega) = iv .u8 x := by rw [List.getElem?_eq_getElem (by omega)] at hx; exact Option.some.inj hx
              have q5 : (putL cs 20 (S'.take i)).set (20 + i) (iv .u8 x) = putL cs 20 (S'.take (i + 1)) := by rw [← hxe]; exact putL_set cs 20 S' (by omega) (by omega)
              simp only [vv, firstRegion, apartAll, clash, meets, execOp, opnd, builtinHM, bin, convHM, fillP, fieldsPlace, solid, inOrd, sliceHM, bound, zOK, appendHM, srcCells, borL, isSl, slLen, storeHM, loadHM, look1, idxAddr, arrAddr, cellsOf, TD.agg, loadedL, loaded, borrowed, isOwn, fieldR, partHM, absorbL, absorb1, setAt, killAV, killL, leafV, getR, isNil, nilV, Array.toList, List.map, reduceIte, reduceCtorEq, Nat.reduceEqDiff, Nat.reduceAdd, Nat.reduceMul, Nat.reduceSub, Nat.reduceBEq, Nat.reduceLeDiff, Int.reduceLT, Int.reduceLE, Int.reduceGE, Int.reduceGT, Int.reduceBEq, Int.reduceBNe, Int.reduceToNat, Int.reduceNeg, Int.reduceSub, Int.reduceAdd, Int.reduceMul, rr, lt_ok hi, w1, q2, q3, q4, q5, hx, wrap_succ hi (show tn ≤ 2 ^ 39 by omega)]
              refine hK _ ?_
              simp only [vv, ff, norm, Array.toList, List.map, reduceIte, reduceCtorEq, Nat.reduceEqDiff, Nat.reduceAdd, Nat.reduceMul, Nat.reduceSub, Nat.reduceBEq, Nat.reduceLeDiff, Int.reduceLT, Int.reduceLE, Int.reduceGE, Int.reduceGT, Int.reduceBEq, Int.reduceBNe, Int.reduceToNat, Int.reduceNeg, Int.reduceSub, Int.reduceAdd, Int.reduceMul, finish, wkAV, resOf, resa, noSnap, noSnapL, noSnapO, keep, liveKeys, keysL, keysAV, renAV, renL]
            · simp only [vv, firstRegion, apartAll, clash, meets, execOp, opnd, builtinHM, bin, convHM, fillP, fieldsPlace, solid, inOrd, sliceHM, bound, zOK, appendHM, srcCells, borL, isSl, slLen, storeHM, loadHM, look1, idxAddr, arrAddr, cellsOf, TD.agg, loadedL, loaded, borrowed, isOwn, fieldR, partHM, absorbL, absorb1, setAt, killAV, killL, leafV, getR, isNil, nilV, Array.toList, List.map, reduceIte, reduceCtorEq, Nat.reduceEqDiff, Nat.reduceAdd, Nat.reduceMul, Nat.reduceSub, Nat.reduceBEq, Nat.reduceLeDiff, Int.reduceLT, Int.reduceLE, Int.reduceGE, Int.reduceGT, Int.reduceBEq, Int.reduceBNe, Int.reduceToNat, Int.reduceNeg, Int.reduceSub, Int.reduceAdd, Int.reduceMul, rr, lt_no]
              have e3 : noSnapL (putL cs 20 (S'.take tn)) = true := by rw [← hSS, ← List.map_take]; exact isK_snap (isK_put hk (isK_map _ _))
              simp only [vv, ff, firstRegion, apartAll, clash, meets, execOp, opnd, builtinHM, bin, convHM, fillP, fieldsPlace, solid, inOrd, sliceHM, bound, zOK, appendHM, srcCells, borL, isSl, slLen, storeHM, loadHM, look1, idxAddr, arrAddr, cellsOf, TD.agg, loadedL, loaded, borrowed, isOwn, fieldR, partHM, absorbL, absorb1, setAt, killAV, killL, leafV, getR, isNil, nilV, Array.toList, List.map, reduceIte, reduceCtorEq, Nat.reduceEqDiff, Nat.reduceAdd, Nat.reduceMul, Nat.reduceSub, Nat.reduceBEq, Nat.reduceLeDiff, Int.reduceLT, Int.reduceLE, Int.reduceGE, Int.reduceGT, Int.reduceBEq, Int.reduceBNe, Int.reduceToNat, Int.reduceNeg, Int.reduceSub, Int.reduceAdd, Int.reduceMul, finish, wkAV, resOf, resa, noSnap, noSnapL, noSnapO, keep, liveKeys, keysL, keysAV, renAV, renL, rr, e3]
              simp [wrC, hw, hat, ← hSS, List.map_take]
          | false =>
            have hat : wrAt (un cs) = 0 := by simp only [wrAt, hz]; rfl
            simp (maxDischargeDepth := 8) only [vv, cc, bb, firstRegion, apartAll, clash, meets, execOp, opnd, builtinHM, bin, convHM, fillP, fieldsPlace, solid, inOrd, sliceHM, bound, zOK, appendHM, srcCells, borL, isSl, slLen, storeHM, loadHM, look1, idxAddr, arrAddr, cellsOf, TD.agg, loadedL, loaded, borrowed, isOwn, fieldR, partHM, absorbL, absorb1, setAt, killAV, killL, leafV, getR, isNil, nilV, Array.toList, List.map, reduceIte, reduceCtorEq, Nat.reduceEqDiff, Nat.reduceAdd, Nat.reduceMul, Nat.reduceSub, Nat.reduceBEq, Nat.reduceLeDiff, Int.reduceLT, Int.reduceLE, Int.reduceGE, Int.reduceGT, Int.reduceBEq, Int.reduceBNe, Int.reduceToNat, Int.reduceNeg, Int.reduceSub, Int.reduceAdd, Int.reduceMul, callHM, packA, packL, pack1, lentOk, getLent, putBack, backK, renAV, renL, rr, Try.f20, hk, hn, hb, q47, eS, e49, g1, e50, ht, ht20, ht0, hP, hQ, hz]
            refine loop_go (fun i => {T := tp [(3, vi (tn : Int)), (10, .ref 0 [] 1 0 40 none), (11, .ref 1 [] 1 0 20 none), (16, vi 0), (17, vi (i : Int))], H := hp [some (putL cs 0 (S'.take i)), some S'], nx := 2}) tn ?_ (lt_LF (by omega)) (fun i hi Kn hK => ?_) (fun Kn => ?_)
            · simp only [vv, ff, norm, Array.toList, List.map, reduceIte, reduceCtorEq, Nat.reduceEqDiff, Nat.reduceAdd, Nat.reduceMul, Nat.reduceSub, Nat.reduceBEq, Nat.reduceLeDiff, Int.reduceLT, Int.reduceLE, Int.reduceGE, Int.reduceGT, Int.reduceBEq, Int.reduceBNe, Int.reduceToNat, Int.reduceNeg, Int.reduceSub, Int.reduceAdd, Int.reduceMul, finish, wkAV, resOf, resa, noSnap, noSnapL, noSnapO, keep, liveKeys, keysL, keysAV, renAV, renL, Int.natCast_zero, List.take_zero, putL_nil]
            · have hi20 : i < 20 := by omega
              obtain ⟨x, hx⟩ := hSg i hi20
              have w1 : IntKind.i64.wrap (0 + (i : Int)) = ((i : Nat) : Int) := by rw [wrap64 (by omega) (by omega)]; omega
              have q2 : decide ((i : Int) < ((20 : Nat) : Int)) = true := by simp; omega
              have q3 : decide ((i : Int) < ((40 : Nat) : Int)) = true := by simp; omega
              have hl1 : (putL cs 0 (S'.take i)).length = 40 := by rw [putL_len _ _ _ (by rw [List.length_take]; omega), hn]
              have q4 : decide (i + 1 ≤ (putL cs 0 (S'.take i)).length) = true := by rw [hl1]; simp; omega
              have hxe : S'[i]'(by omega) = iv .u8 x := by rw [List.getElem?_eq_getElem (by omega)] at hx; exact Option.some.inj hx
              have q5 : (putL cs 0 (S'.take i)).set i (iv .u8 x) = putL cs 0 (S'.take (i + 1)) := by
                have := putL_set cs 0 S' (i := i) (by omega) (by omega)
                rw [Nat.zero_add, hxe] at this; exact this
              simp only [vv, firstRegion, apartAll, clash, meets, execOp, opnd, builtinHM, bin, convHM, fillP, fieldsPlace, solid, inOrd, sliceHM, bound, zOK, appendHM, srcCells, borL, isSl, slLen, storeHM, loadHM, look1, idxAddr, arrAddr, cellsOf, TD.agg, loadedL, loaded, borrowed, isOwn, fieldR, partHM, absorbL, absorb1, setAt, killAV, killL, leafV, getR, isNil, nilV, Array.toList, List.map, reduceIte, reduceCtorEq, Nat.reduceEqDiff, Nat.reduceAdd, Nat.reduceMul, Nat.reduceSub, Nat.reduceBEq, Nat.reduceLeDiff, Int.reduceLT, Int.reduceLE, Int.reduceGE, Int.reduceGT, Int.reduceBEq, Int.reduceBNe, Int.reduceToNat, Int.reduceNeg, Int.reduceSub, Int.reduceAdd, Int.reduceMul, rr, lt_ok hi, w1, q2, q3, q4, q5, hx, wrap_succ hi (show tn ≤ 2 ^ 39 by omega)]
              refine hK _ ?_
              simp only [vv, ff, norm, Array.toList, List.map, reduceIte, reduceCtorEq, Nat.reduceEqDiff, Nat.reduceAdd, Nat.reduceMul, Nat.reduceSub, Nat.reduceBEq, Nat.reduceLeDiff, Int.reduceLT, Int.reduceLE, Int.reduceGE, Int.reduceGT, Int.reduceBEq, Int.reduceBNe, Int.reduceToNat, Int.reduceNeg, Int.reduceSub, Int.reduceAdd, Int.reduceMul, finish, wkAV, resOf, resa, noSnap, noSnapL, noSnapO, keep, liveKeys, keysL, keysAV, renAV, renL]
            · simp only [vv, firstRegion, apartAll, clash, meets, execOp, opnd, builtinHM, bin, convHM, fillP, fieldsPlace, solid, inOrd, sliceHM, bound, zOK, appendHM, srcCells, borL, isSl, slLen, storeHM, loadHM, look1, idxAddr, arrAddr, cellsOf, TD.agg, loadedL, loaded, borrowed, isOwn, fieldR, partHM, absorbL, absorb1, setAt, killAV, killL, leafV, getR, isNil, nilV, Array.toList, List.map, reduceIte, reduceCtorEq, Nat.reduceEqDiff, Nat.reduceAdd, Nat.reduceMul, Nat.reduceSub, Nat.reduceBEq, Nat.reduceLeDiff, Int.reduceLT, Int.reduceLE, Int.reduceGE, Int.reduceGT, Int.reduceBEq, Int.reduceBNe, Int.reduceToNat, Int.reduceNeg, Int.reduceSub, Int.reduceAdd, Int.reduceMul, rr, lt_no]
              have e3 : noSnapL (putL cs 0 (S'.take tn)) = true := by rw [← hSS, ← List.map_take]; exact isK_snap (isK_put hk (isK_map _ _))
              simp only [vv, ff, firstRegion, apartAll, clash, meets, execOp, opnd, builtinHM, bin, convHM, fillP, fieldsPlace, solid, inOrd, sliceHM, bound, zOK, appendHM, srcCells, borL, isSl, slLen, storeHM, loadHM, look1, idxAddr, arrAddr, cellsOf, TD.agg, loadedL, loaded, borrowed, isOwn, fieldR, partHM, absorbL, absorb1, setAt, killAV, killL, leafV, getR, isNil, nilV, Array.toList, List.map, reduceIte, reduceCtorEq, Nat.reduceEqDiff, Nat.reduceAdd, Nat.reduceMul, Nat.reduceSub, Nat.reduceBEq, Nat.reduceLeDiff, Int.reduceLT, Int.reduceLE, Int.reduceGE, Int.reduceGT, Int.reduceBEq, Int.reduceBNe, Int.reduceToNat, Int.reduceNeg, Int.reduceSub, Int.reduceAdd, Int.reduceMul, finish, wkAV, resOf, resa, noSnap, noSnapL, noSnapO, keep, liveKeys, keysL, keysAV, renAV, renL, rr, e3]
              simp [wrC, hw, hat, ← hSS, List.map_take]
  · have g1 : (((n : Nat) : Int) != 40) = true := by simp; omega
    have hw := wr_bad (c := c) (r := r) (t := t) hul (.inl h40)
    cases ho : okS c r with
    | false =>
      simp (maxDischargeDepth := 8) only [vv, cc, bb, firstRegion, apartAll, clash, meets, execOp, opnd, builtinHM, bin, convHM, fillP, fieldsPlace, solid, inOrd, sliceHM, bound, zOK, appendHM, srcCells, borL, isSl, slLen, storeHM, loadHM, look1, idxAddr, arrAddr, cellsOf, TD.agg, loadedL, loaded, borrowed, isOwn, fieldR, partHM, absorbL, absorb1, setAt, killAV, killL, leafV, getR, isNil, nilV, Array.toList, List.map, reduceIte, reduceCtorEq, Nat.reduceEqDiff, Nat.reduceAdd, Nat.reduceMul, Nat.reduceSub, Nat.reduceBEq, Nat.reduceLeDiff, Int.reduceLT, Int.reduceLE, Int.reduceGE, Int.reduceGT, Int.reduceBEq, Int.reduceBNe, Int.reduceToNat, Int.reduceNeg, Int.reduceSub, Int.reduceAdd, Int.reduceMul, callHM, packA, packL, pack1, lentOk, getLent, putBack, backK, renAV, renL, rr, Try.f20, hk, hn, hb, hl, q47, e48n _ _ _ ho, e49, g1]
      simp only [vv, ff, firstRegion, apartAll, clash, meets, execOp, opnd, builtinHM, bin, convHM, fillP, fieldsPlace, solid, inOrd, sliceHM, bound, zOK, appendHM, srcCells, borL, isSl, slLen, storeHM, loadHM, look1, idxAddr, arrAddr, cellsOf, TD.agg, loadedL, loaded, borrowed, isOwn, fieldR, partHM, absorbL, absorb1, setAt, killAV, killL, leafV, getR, isNil, nilV, Array.toList, List.map, reduceIte, reduceCtorEq, Nat.reduceEqDiff, Nat.reduceAdd, Nat.reduceMul, Nat.reduceSub, Nat.reduceBEq, Nat.reduceLeDiff, Int.reduceLT, Int.reduceLE, Int.reduceGE, Int.reduceGT, Int.reduceBEq, Int.reduceBNe, Int.reduceToNat, Int.reduceNeg, Int.reduceSub, Int.reduceAdd, Int.reduceMul, finish, wkAV, resOf, resa, noSnap, noSnapL, noSnapO, keep, liveKeys, keysL, keysAV, renAV, renL, rr, e2, hw, wrC]
    | true =>
      simp (maxDischargeDepth := 8) only [vv, cc, bb, firstRegion, apartAll, clash, meets, execOp, opnd, builtinHM, bin, convHM, fillP, fieldsPlace, solid, inOrd, sliceHM, bound, zOK, appendHM, srcCells, borL, isSl, slLen, storeHM, loadHM, look1, idxAddr, arrAddr, cellsOf, TD.agg, loadedL, loaded, borrowed, isOwn, fieldR, partHM, absorbL, absorb1, setAt, killAV, killL, leafV, getR, isNil, nilV, Array.toList, List.map, reduceIte, reduceCtorEq, Nat.reduceEqDiff, Nat.reduceAdd, Nat.reduceMul, Nat.reduceSub, Nat.reduceBEq, Nat.reduceLeDiff, Int.reduceLT, Int.reduceLE, Int.reduceGE, Int.reduceGT, Int.reduceBEq, Int.reduceBNe, Int.reduceToNat, Int.reduceNeg, Int.reduceSub, Int.reduceAdd, Int.reduceMul, callHM, packA, packL, pack1, lentOk, getLent, putBack, backK, renAV, renL, rr, Try.f20, hk, hn, hb, hl, q47, e48 _ _ _ ho, e49, g1]
      simp only [vv, ff, firstRegion, apartAll, clash, meets, execOp, opnd, builtinHM, bin, convHM, fillP, fieldsPlace, solid, inOrd, sliceHM, bound, zOK, appendHM, srcCells, borL, isSl, slLen, storeHM, loadHM, look1, idxAddr, arrAddr, cellsOf, TD.agg, loadedL, loaded, borrowed, isOwn, fieldR, partHM, absorbL, absorb1, setAt, killAV, killL, leafV, getR, isNil, nilV, Array.toList, List.map, reduceIte, reduceCtorEq, Nat.reduceEqDiff, Nat.reduceAdd, Nat.reduceMul, Nat.reduceSub, Nat.reduceBEq, Nat.reduceLeDiff, Int.reduceLT, Int.reduceLE, Int.reduceGE, Int.reduceGT, Int.reduceBEq, Int.reduceBNe, Int.reduceToNat, Int.reduceNeg, Int.reduceSub, Int.reduceAdd, Int.reduceMul, finish, wkAV, resOf, resa, noSnap, noSnapL, noSnapO, keep, liveKeys, keysL, keysAV, renAV, renL, rr, e2, hw, wrC]
theorem e22 (d : Nat) (tg : Tg) (cap : Option Nat) (n : Nat) (cs : List AV) (c r t : Int) (hk : isK .u8 cs = true) (hn : cs.length = n) (hb : B8 (un cs)) (h0 : 0 < n) (hl : n ≤ 549755813888) :
    evFun E (d+10) 22 [.sl tg 1 n cap cs, vi c, vi r, vi t] [] = some (.tup [.ref 0 [] 1 0 n none, vb (wrOK (un cs) c r t)], [some (wrC cs c r t)]) := by
  refine evFun_body b22 ?_
  have e2 := isK_snap hk
  have hul : (un cs).length = n := by rw [un_len]; exact hn
  by_cases h40 : n = 40
  · subst h40
    have g1 : (((40 : Nat) : Int) != 40) = false := by decide
    cases ho : okS c r with
    | false =>
      have hw := wr_bad (t := t) hul (.inr (.inl ho))
      simp (maxDischargeDepth := 8) only [vv, cc, bb, firstRegion, apartAll, clash, meets, execOp, opnd, builtinHM, bin, convHM, fillP, fieldsPlace, solid, inOrd, sliceHM, bound, zOK, appendHM, srcCells, borL, isSl, slLen, storeHM, loadHM, look1, idxAddr, arrAddr, cellsOf, TD.agg, loadedL, loaded, borrowed, isOwn, fieldR, partHM, absorbL, absorb1, setAt, killAV, killL, leafV, getR, isNil, nilV, Array.toList, List.map, reduceIte, reduceCtorEq, Nat.reduceEqDiff, Nat.reduceAdd, Nat.reduceMul, Nat.reduceSub, Nat.reduceBEq, Nat.reduceLeDiff, Int.reduceLT, Int.reduceLE, Int.reduceGE, Int.reduceGT, Int.reduceBEq, Int.reduceBNe, Int.reduceToNat, Int.reduceNeg, Int.reduceSub, Int.reduceAdd, Int.reduceMul, callHM, packA, packL, pack1, lentOk, getLent, putBack, backK, renAV, renL, rr, Try.f22, hk, hn, hb, h0, q51, e28n _ _ _ ho, e25, g1]
      simp only [vv, ff, firstRegion, apartAll, clash, meets, execOp, opnd, builtinHM, bin, convHM, fillP, fieldsPlace, solid, inOrd, sliceHM, bound, zOK, appendHM, srcCells, borL, isSl, slLen, storeHM, loadHM, look1, idxAddr, arrAddr, cellsOf, TD.agg, loadedL, loaded, borrowed, isOwn, fieldR, partHM, absorbL, absorb1, setAt, killAV, killL, leafV, getR, isNil, nilV, Array.toList, List.map, reduceIte, reduceCtorEq, Nat.reduceEqDiff, Nat.reduceAdd, Nat.reduceMul, Nat.reduceSub, Nat.reduceBEq, Nat.reduceLeDiff, Int.reduceLT, Int.reduceLE, Int.reduceGE, Int.reduceGT, Int.reduceBEq, Int.reduceBNe, Int.reduceToNat, Int.reduceNeg, Int.reduceSub, Int.reduceAdd, Int.reduceMul, finish, wkAV, resOf, resa, noSnap, noSnapL, noSnapO, keep, liveKeys, keysL, keysAV, renAV, renL, rr, e2, hw, wrC]
    | true =>
      cases ht : (decide (t ≥ 0) && decide (t ≤ 20)) with
      | false =>
        have hw := wr_bad (c := c) (r := r) hul (.inr (.inr (.inl ht)))
        simp (maxDischargeDepth := 8) only [vv, cc, bb, firstRegion, apartAll, clash, meets, execOp, opnd, builtinHM, bin, convHM, fillP, fieldsPlace, solid, inOrd, sliceHM, bound, zOK, appendHM, srcCells, borL, isSl, slLen, storeHM, loadHM, look1, idxAddr, arrAddr, cellsOf, TD.agg, loadedL, loaded, borrowed, isOwn, fieldR, partHM, absorbL, absorb1, setAt, killAV, killL, leafV, getR, isNil, nilV, Array.toList, List.map, reduceIte, reduceCtorEq, Nat.reduceEqDiff, Nat.reduceAdd, Nat.reduceMul, Nat.reduceSub, Nat.reduceBEq, Nat.reduceLeDiff, Int.reduceLT, Int.reduceLE, Int.reduceGE, Int.reduceGT, Int.reduceBEq, Int.reduceBNe, Int.reduceToNat, Int.reduceNeg, Int.reduceSub, Int.reduceAdd, Int.reduceMul, callHM, packA, packL, pack1, lentOk, getLent, putBack, backK, renAV, renL, rr, Try.f22, hk, hn, hb, h0, q51, e28 _ _ _ ho, e25, g1, e52, ht]
        simp only [vv, ff, firstRegion, apartAll, clash, meets, execOp, opnd, builtinHM, bin, convHM, fillP, fieldsPlace, solid, inOrd, sliceHM, bound, zOK, appendHM, srcCells, borL, isSl, slLen, storeHM, loadHM, look1, idxAddr, arrAddr, cellsOf, TD.agg, loadedL, loaded, borrowed, isOwn, fieldR, partHM, absorbL, absorb1, setAt, killAV, killL, leafV, getR, isNil, nilV, Array.toList, List.map, reduceIte, reduceCtorEq, Nat.reduceEqDiff, Nat.reduceAdd, Nat.reduceMul, Nat.reduceSub, Nat.reduceBEq, Nat.reduceLeDiff, Int.reduceLT, Int.reduceLE, Int.reduceGE, Int.reduceGT, Int.reduceBEq, Int.reduceBNe, Int.reduceToNat, Int.reduceNeg, Int.reduceSub, Int.reduceAdd, Int.reduceMul, finish, wkAV, resOf, resa, noSnap, noSnapL, noSnapO, keep, liveKeys, keysL, keysAV, renAV, renL, rr, e2, hw, wrC]
      | true =>
        have ht' := ht
        simp only [Bool.and_eq_true, decide_eq_true_eq] at ht'
        obtain ⟨tn, rfl⟩ := Int.eq_ofNat_of_zero_le ht'.1
        have htn : tn ≤ 20 := by omega
        have ht20 : decide ((tn : Int) ≤ 20) = true := by simp; omega
        have ht0 : decide ((tn : Int) ≥ 0) = true := by simp
        cases hP : decide ((rdV (un cs)).2.2 ≥ 0) <;> cases hQ : decide (c ≤ (rdV (un cs)).1)
        case true.true =>
          have hw := wr_bad (c := c) (r := r) (t := (tn : Int)) hul (.inr (.inr (.inr ⟨hP, hQ⟩)))
          simp (maxDischargeDepth := 8) only [vv, cc, bb, firstRegion, apartAll, clash, meets, execOp, opnd, builtinHM, bin, convHM, fillP, fieldsPlace, solid, inOrd, sliceHM, bound, zOK, appendHM, srcCells, borL, isSl, slLen, storeHM, loadHM, look1, idxAddr, arrAddr, cellsOf, TD.agg, loadedL, loaded, borrowed, isOwn, fieldR, partHM, absorbL, absorb1, setAt, killAV, killL, leafV, getR, isNil, nilV, Array.toList, List.map, reduceIte, reduceCtorEq, Nat.reduceEqDiff, Nat.reduceAdd, Nat.reduceMul, Nat.reduceSub, Nat.reduceBEq, Nat.reduceLeDiff, Int.reduceLT, Int.reduceLE, Int.reduceGE, Int.reduceGT, Int.reduceBEq, Int.reduceBNe, Int.reduceToNat, Int.reduceNeg, Int.reduceSub, Int.reduceAdd, Int.reduceMul, callHM, packA, packL, pack1, lentOk, getLent, putBack, backK, renAV, renL, rr, Try.f22, hk, hn, hb, h0, q51, e28 _ _ _ ho, e25, g1, e52, ht, ht20, ht0, hP, hQ]
          simp only [vv, ff, firstRegion, apartAll, clash, meets, execOp, opnd, builtinHM, bin, convHM, fillP, fieldsPlace, solid, inOrd, sliceHM, bound, zOK, appendHM, srcCells, borL, isSl, slLen, storeHM, loadHM, look1, idxAddr, arrAddr, cellsOf, TD.agg, loadedL, loaded, borrowed, isOwn, fieldR, partHM, absorbL, absorb1, setAt, killAV, killL, leafV, getR, isNil, nilV, Array.toList, List.map, reduceIte, reduceCtorEq, Nat.reduceEqDiff, Nat.reduceAdd, Nat.reduceMul, Nat.reduceSub, Nat.reduceBEq, Nat.reduceLeDiff, Int.reduceLT, Int.reduceLE, Int.reduceGE, Int.reduceGT, Int.reduceBEq, Int.reduceBNe, Int.reduceToNat, Int.reduceNeg, Int.reduceSub, Int.reduceAdd, Int.reduceMul, finish, wkAV, resOf, resa, noSnap, noSnapL, noSnapO, keep, liveKeys, keysL, keysAV, renAV, renL, rr, e2, hw, wrC]
        all_goals
          have hw : wrOK (un cs) c r tn = true := by simp [wrOK, hul, ho, ht', hP, hQ]; try omega
        all_goals
          have eS : ∀ d, evFun E (d+7) 28 [vi c, vi r] [] = some (.tup [.ref 0 [] 1 0 20 none, vb true], [some ((slotL c r).map (iv .u8))]) := fun d => e28 d c r ho
          have hS' : ((slotL c r).map (iv .u8)).length = 20 := by rw [List.length_map, slot_len]
          generalize hSS : (slotL c r).map (iv .u8) = S' at eS hS'
          have hSn : noSnapL S' = true := by rw [← hSS]; exact noSnapL_iv _ _
          have hSo : (S'.take tn).any isOwn = false := by rw [← hSS, ← List.map_take]; exact anyOwn_iv _ _
          have hSl : (S'.take tn).length = tn := by rw [List.length_take]; omega
          have htn20 : decide (tn ≤ 20) = true := by simp; omega
          have htn40 : decide (tn ≤ 40) = true := by simp; omega
          cases hz : ((rdV (un cs)).2.2 == 0) with
          | true =>
            have hat : wrAt (un cs) = 20 := by simp only [wrAt, hz, if_true]
            by_cases h00 : tn = 0
            · subst h00
              simp (maxDischargeDepth := 8) only [vv, cc, bb, firstRegion, apartAll, clash, meets, execOp, opnd, builtinHM, bin, convHM, fillP, fieldsPlace, solid, inOrd, sliceHM, bound, zOK, appendHM, srcCells, borL, isSl, slLen, storeHM, loadHM, look1, idxAddr, arrAddr, cellsOf, TD.agg, loadedL, loaded, borrowed, isOwn, fieldR, partHM, absorbL, absorb1, setAt, killAV, killL, leafV, getR, isNil, nilV, Array.toList, List.map, reduceIte, reduceCtorEq, Nat.reduceEqDiff, Nat.reduceAdd, Nat.reduceMul, Nat.reduceSub, Nat.reduceBEq, Nat.reduceLeDiff, Int.reduceLT, Int.reduceLE, Int.reduceGE, Int.reduceGT, Int.reduceBEq, Int.reduceBNe, Int.reduceToNat, Int.reduceNeg, Int.reduceSub, Int.reduceAdd, Int.reduceMul, callHM, packA, packL, pack1, lentOk, getLent, putBack, backK, renAV, renL, rr, Try.f22, hk, hn, hb, h0, q51, eS, e25, g1, e52, ht, ht20, ht0, hP, hQ, hz, hS', copyHM]
              repeat' ((with_reducible refine condT ?_ ?_); (focus kernel_rfl); try simp (maxDischargeDepth := 8) only [vv, cc, bb, firstRegion, apartAll, clash, meets, execOp, opnd, builtinHM, bin, convHM, fillP, fieldsPlace, solid, inOrd, sliceHM, bound, zOK, appendHM, srcCells, borL, isSl, slLen, storeHM, loadHM, look1, idxAddr, arrAddr, cellsOf, TD.agg, loadedL, loaded, borrowed, isOwn, fieldR, partHM, absorbL, absorb1, setAt, killAV, killL, leafV, getR, isNil, nilV, Array.toList, List.map, reduceIte, reduceCtorEq, Nat.reduceEqDiff, Nat.reduceAdd, Nat.reduceMul, Nat.reduceSub, Nat.reduceBEq, Nat.reduceLeDiff, Int.reduceLT, Int.reduceLE, Int.reduceGE, Int.reduceGT, Int.reduceBEq, Int.reduceBNe, Int.reduceToNat, Int.reduceNeg, Int.reduceSub, Int.reduceAdd, Int.reduceMul, callHM, packA, packL, pack1, lentOk, getLent, putBack, backK, renAV, renL, rr, copyHM])
              simp only [vv, ff, firstRegion, apartAll, clash, meets, execOp, opnd, builtinHM, bin, convHM, fillP, fieldsPlace, solid, inOrd, sliceHM, bound, zOK, appendHM, srcCells, borL, isSl, slLen, storeHM, loadHM, look1, idxAddr, arrAddr, cellsOf, TD.agg, loadedL, loaded, borrowed, isOwn, fieldR, partHM, absorbL, absorb1, setAt, killAV, killL, leafV, getR, isNil, nilV, Array.toList, List.map, reduceIte, reduceCtorEq, Nat.reduceEqDiff, Nat.reduceAdd, Nat.reduceMul, Nat.reduceSub, Nat.reduceBEq, Nat.reduceLeDiff, Int.reduceLT, Int.reduceLE, Int.reduceGE, Int.reduceGT, Int.reduceBEq, Int.reduceBNe, Int.reduceToNat, Int.reduceNeg, Int.reduceSub, Int.reduceAdd, Int.reduceMul, finish, wkAV, resOf, resa, noSnap, noSnapL, noSnapO, keep, liveKeys, keysL, keysAV, renAV, renL, rr, e2]
              simp [wrC, show wrOK (un cs) c r 0 = true from hw, hat, putL_nil]
            · have e1 : decide (tn = 0) = false := by simp; exact h00
              have e5 : decide (0 < tn) = true := by simp; omega
              have e6 : decide (20 + tn ≤ 40) = true := by simp; omega
              have e7 : setAt cs 20 (S'.take tn) = putL cs 20 (S'.take tn) := setAt_put _ _ _ (by omega)
              have e3 : noSnapL (putL cs 20 (S'.take tn)) = true := by rw [← hSS, ← List.map_take]; exact isK_snap (isK_put hk (isK_map _ _))
              simp (maxDischargeDepth := 8) only [vv, cc, bb, firstRegion, apartAll, clash, meets, execOp, opnd, builtinHM, bin, convHM, fillP, fieldsPlace, solid, inOrd, sliceHM, bound, zOK, appendHM, srcCells, borL, isSl, slLen, storeHM, loadHM, look1, idxAddr, arrAddr, cellsOf, TD.agg, loadedL, loaded, borrowed, isOwn, fieldR, partHM, absorbL, absorb1, setAt, killAV, killL, leafV, getR, isNil, nilV, Array.toList, List.map, reduceIte, reduceCtorEq, Nat.reduceEqDiff, Nat.reduceAdd, Nat.reduceMul, Nat.reduceSub, Nat.reduceBEq, Nat.reduceLeDiff, Int.reduceLT, Int.reduceLE, Int.reduceGE, Int.reduceGT, Int.reduceBEq, Int.reduceBNe, Int.reduceToNat, Int.reduceNeg, Int.reduceSub, Int.reduceAdd, Int.reduceMul, callHM, packA, packL, pack1, lentOk, getLent, putBack, backK, renAV, renL, rr, Try.f22, hk, hn, hb, h0, q51, eS, e25, g1, e52, ht, ht20, ht0, hP, hQ, hz, hS', copyHM, Int.sub_zero, ht20, htn20, htn40, hSo, hSl, e1, e5, e6, e7]
              repeat' ((with_reducible refine condT ?_ ?_); (focus kernel_rfl); try simp (maxDischargeDepth := 8) only [vv, cc, bb, firstRegion, apartAll, clash, meets, execOp, opnd, builtinHM, bin, convHM, fillP, fieldsPlace, solid, inOrd, sliceHM, bound, zOK, appendHM, srcCells, borL, isSl, slLen, storeHM, loadHM, look1, idxAddr, arrAddr, cellsOf, TD.agg, loadedL, loaded, borrowed, isOwn, fieldR, partHM, absorbL, absorb1, setAt, killAV, killL, leafV, getR, isNil, nilV, Array.toList, List.map, reduceIte, reduceCtorEq, Nat.reduceEqDiff, Nat.reduceAdd, Nat.reduceMul, Nat.reduceSub, Nat.reduceBEq, Nat.reduceLeDiff, Int.reduceLT, Int.reduceLE, Int.reduceGE, Int.reduceGT, Int.reduceBEq, Int.reduceBNe, Int.reduceToNat, Int.reduceNeg, Int.reduceSub, Int.reduceAdd, Int.reduceMul, callHM, packA, packL, pack1, lentOk, getLent, putBack, backK, renAV, renL, rr, copyHM])
              simp only [vv, ff, firstRegion, apartAll, clash, meets, execOp, opnd, builtinHM, bin, convHM, fillP, fieldsPlace, solid, inOrd, sliceHM, bound, zOK, appendHM, srcCells, borL, isSl, slLen, storeHM, loadHM, look1, idxAddr, arrAddr, cellsOf, TD.agg, loadedL, loaded, borrowed, isOwn, fieldR, partHM, absorbL, absorb1, setAt, killAV, killL, leafV, getR, isNil, nilV, Array.toList, List.map, reduceIte, reduceCtorEq, Nat.reduceEqDiff, Nat.reduceAdd, Nat.reduceMul, Nat.reduceSub, Nat.reduceBEq, Nat.reduceLeDiff, Int.reduceLT, Int.reduceLE, Int.reduceGE, Int.reduceGT, Int.reduceBEq, Int.reduceBNe, Int.reduceToNat, Int.reduceNeg, Int.reduceSub, Int.reduceAdd, Int.reduceMul, finish, wkAV, resOf, resa, noSnap, noSnapL, noSnapO, keep, liveKeys, keysL, keysAV, renAV, renL, rr, e3]
              simp [wrC, hw, hat, ← hSS, List.map_take]
          | false =>
            have hat : wrAt (un cs) = 0 := by simp only [wrAt, hz]; rfl
            by_cases h00 : tn = 0
            · subst h00
              simp (maxDischargeDepth := 8) only [vv, cc, bb, firstRegion, apartAll, clash, meets, execOp, opnd, builtinHM, bin, convHM, fillP, fieldsPlace, solid, inOrd, sliceHM, bound, zOK, appendHM, srcCells, borL, isSl, slLen, storeHM, loadHM, look1, idxAddr, arrAddr, cellsOf, TD.agg, loadedL, loaded, borrowed, isOwn, fieldR, partHM, absorbL, absorb1, setAt, killAV, killL, leafV, getR, isNil, nilV, Array.toList, List.map, reduceIte, reduceCtorEq, Nat.reduceEqDiff, Nat.reduceAdd, Nat.reduceMul, Nat.reduceSub, Nat.reduceBEq, Nat.reduceLeDiff, Int.reduceLT, Int.reduceLE, Int.reduceGE, Int.reduceGT, Int.reduceBEq, Int.reduceBNe, Int.reduceToNat, Int.reduceNeg, Int.reduceSub, Int.reduceAdd, Int.reduceMul, callHM, packA, packL, pack1, lentOk, getLent, putBack, backK, renAV, renL, rr, Try.f22, hk, hn, hb, h0, q51, eS, e25, g1, e52, ht, ht20, ht0, hP, hQ, hz, hS', copyHM]
              repeat' ((with_reducible refine condT ?_ ?_); (focus kernel_rfl); try simp (maxDischargeDepth := 8) only [vv, cc, bb, firstRegion, apartAll, clash, meets, execOp, opnd, builtinHM, bin, convHM, fillP, fieldsPlace, solid, inOrd, sliceHM, bound, zOK, appendHM, srcCells, borL, isSl, slLen, storeHM, loadHM, look1, idxAddr, arrAddr, cellsOf, TD.agg, loadedL, loaded, borrowed, isOwn, fieldR, partHM, absorbL, absorb1, setAt, killAV, killL, leafV, getR, isNil, nilV, Array.toList, List.map, reduceIte, reduceCtorEq, Nat.reduceEqDiff, Nat.reduceAdd, Nat.reduceMul, Nat.reduceSub, Nat.reduceBEq, Nat.reduceLeDiff, Int.reduceLT, Int.reduceLE, Int.reduceGE, Int.reduceGT, Int.reduceBEq, Int.reduceBNe, Int.reduceToNat, Int.reduceNeg, Int.reduceSub, Int.reduceAdd, Int.reduceMul, callHM, packA, packL, pack1, lentOk, getLent, putBack, backK, renAV, renL, rr, copyHM])
              simp only [vv, ff, firstRegion, apartAll, clash, meets, execOp, opnd, builtinHM, bin, convHM, fillP, fieldsPlace, solid, inOrd, sliceHM, bound, zOK, appendHM, srcCells, borL, isSl, slLen, storeHM, loadHM, look1, idxAddr, arrAddr, cellsOf, TD.agg, loadedL, loaded, borrowed, isOwn, fieldR, partHM, absorbL, absorb1, setAt, killAV, killL, leafV, getR, isNil, nilV, Array.toList, List.map, reduceIte, reduceCtorEq, Nat.reduceEqDiff, Nat.reduceAdd, Nat.reduceMul, Nat.reduceSub, Nat.reduceBEq, Nat.reduceLeDiff, Int.reduceLT, Int.reduceLE, Int.reduceGE, Int.reduceGT, Int.reduceBEq, Int.reduceBNe, Int.reduceToNat, Int.reduceNeg, Int.reduceSub, Int.reduceAdd, Int.reduceMul, finish, wkAV, resOf, resa, noSnap, noSnapL, noSnapO, keep, liveKeys, keysL, keysAV, renAV, renL, rr, e2]
              simp [wrC, show wrOK (un cs) c r 0 = true from hw, hat, putL_nil]
            · have e1 : decide (tn = 0) = false := by simp; exact h00
              have e5 : decide (0 < tn) = true := by simp; omega
              have e7 : setAt cs 0 (S'.take tn) = putL cs 0 (S'.take tn) := setAt_put _ _ _ (by omega)
              have e3 : noSnapL (putL cs 0 (S'.take tn)) = true := by rw [← hSS, ← List.map_take]; exact isK_snap (isK_put hk (isK_map _ _))
              simp (maxDischargeDepth := 8) only [vv, cc, bb, firstRegion, apartAll, clash, meets, execOp, opnd, builtinHM, bin, convHM, fillP, fieldsPlace, solid, inOrd, sliceHM, bound, zOK, appendHM, srcCells, borL, isSl, slLen, storeHM, loadHM, look1, idxAddr, arrAddr, cellsOf, TD.agg, loadedL, loaded, borrowed, isOwn, fieldR, partHM, absorbL, absorb1, setAt, killAV, killL, leafV, getR, isNil, nilV, Array.toList, List.map, reduceIte, reduceCtorEq, Nat.reduceEqDiff, Nat.reduceAdd, Nat.reduceMul, Nat.reduceSub, Nat.reduceBEq, Nat.reduceLeDiff, Int.reduceLT, Int.reduceLE, Int.reduceGE, Int.reduceGT, Int.reduceBEq, Int.reduceBNe, Int.reduceToNat, Int.reduceNeg, Int.reduceSub, Int.reduceAdd, Int.reduceMul, callHM, packA, packL, pack1, lentOk, getLent, putBack, backK, renAV, renL, rr, Try.f22, hk, hn, hb, h0, q51, eS, e25, g1, e52, ht, ht20, ht0, hP, hQ, hz, hS', copyHM, Int.sub_zero, ht20, htn20, htn40, hSo, hSl, e1, e5, e7]
              repeat' ((with_reducible refine condT ?_ ?_); (focus kernel_rfl); try simp (maxDischargeDepth := 8) only [vv, cc, bb, firstRegion, apartAll, clash, meets, execOp, opnd, builtinHM, bin, convHM, fillP, fieldsPlace, solid, inOrd, sliceHM, bound, zOK, appendHM, srcCells, borL, isSl, slLen, storeHM, loadHM, look1, idxAddr, arrAddr, cellsOf, TD.agg, loadedL, loaded, borrowed, isOwn, fieldR, partHM, absorbL, absorb1, setAt, killAV, killL, leafV, getR, isNil, nilV, Array.toList, List.map, reduceIte, reduceCtorEq, Nat.reduceEqDiff, Nat.reduceAdd, Nat.reduceMul, Nat.reduceSub, Nat.reduceBEq, Nat.reduceLeDiff, Int.reduceLT, Int.reduceLE, Int.reduceGE, Int.reduceGT, Int.reduceBEq, Int.reduceBNe, Int.reduceToNat, Int.reduceNeg, Int.reduceSub, Int.reduceAdd, Int.reduceMul, callHM, packA, packL, pack1, lentOk, getLent, putBack, backK, renAV, renL, rr, copyHM])
              simp only [vv, ff, firstRegion, apartAll, clash, meets, execOp, opnd, builtinHM, bin, convHM, fillP, fieldsPlace, solid, inOrd, sliceHM, bound, zOK, appendHM, srcCells, borL, isSl, slLen, storeHM, loadHM, look1, idxAddr, arrAddr, cellsOf, TD.agg, loadedL, loaded, borrowed, isOwn, fieldR, partHM, absorbL, absorb1, setAt, killAV, killL, leafV, getR, isNil, nilV, Array.toList, List.map, reduceIte, reduceCtorEq, Nat.reduceEqDiff, Nat.reduceAdd, Nat.reduceMul, Nat.reduceSub, Nat.reduceBEq, Nat.reduceLeDiff, Int.reduceLT, Int.reduceLE, Int.reduceGE, Int.reduceGT, Int.reduceBEq, Int.reduceBNe, Int.reduceToNat, Int.reduceNeg, Int.reduceSub, Int.reduceAdd, Int.reduceMul, finish, wkAV, resOf, resa, noSnap, noSnapL, noSnapO, keep, liveKeys, keysL, keysAV, renAV, renL, rr, e3]
              simp [wrC, hw, hat, ← hSS, List.map_take]
  · have g1 : (((n : Nat) : Int) != 40) = true := by simp; omega
    have hw := wr_bad (c := c) (r := r) (t := t) hul (.inl h40)
    cases ho : okS c r with
    | false =>
      simp (maxDischargeDepth := 8) only [vv, cc, bb, firstRegion, apartAll, clash, meets, execOp, opnd, builtinHM, bin, convHM, fillP, fieldsPlace, solid, inOrd, sliceHM, bound, zOK, appendHM, srcCells, borL, isSl, slLen, storeHM, loadHM, look1, idxAddr, arrAddr, cellsOf, TD.agg, loadedL, loaded, borrowed, isOwn, fieldR, partHM, absorbL, absorb1, setAt, killAV, killL, leafV, getR, isNil, nilV, Array.toList, List.map, reduceIte, reduceCtorEq, Nat.reduceEqDiff, Nat.reduceAdd, Nat.reduceMul, Nat.reduceSub, Nat.reduceBEq, Nat.reduceLeDiff, Int.reduceLT, Int.reduceLE, Int.reduceGE, Int.reduceGT, Int.reduceBEq, Int.reduceBNe, Int.reduceToNat, Int.reduceNeg, Int.reduceSub, Int.reduceAdd, Int.reduceMul, callHM, packA, packL, pack1, lentOk, getLent, putBack, backK, renAV, renL, rr, Try.f22, hk, hn, hb, hl, h0, q51, e28n _ _ _ ho, e25, g1]
      simp only [vv, ff, firstRegion, apartAll, clash, meets, execOp, opnd, builtinHM, bin, convHM, fillP, fieldsPlace, solid, inOrd, sliceHM, bound, zOK, appendHM, srcCells, borL, isSl, slLen, storeHM, loadHM, look1, idxAddr, arrAddr, cellsOf, TD.agg, loadedL, loaded, borrowed, isOwn, fieldR, partHM, absorbL, absorb1, setAt, killAV, killL, leafV, getR, isNil, nilV, Array.toList, List.map, reduceIte, reduceCtorEq, Nat.reduceEqDiff, Nat.reduceAdd, Nat.reduceMul, Nat.reduceSub, Nat.reduceBEq, Nat.reduceLeDiff, Int.reduceLT, Int.reduceLE, Int.reduceGE, Int.reduceGT, Int.reduceBEq, Int.reduceBNe, Int.reduceToNat, Int.reduceNeg, Int.reduceSub, Int.reduceAdd, Int.reduceMul, finish, wkAV, resOf, resa, noSnap, noSnapL, noSnapO, keep, liveKeys, keysL, keysAV, renAV, renL, rr, e2, hw, wrC]
    | true =>
      simp (maxDischargeDepth := 8) only [vv, cc, bb, firstRegion, apartAll, clash, meets, execOp, opnd, builtinHM, bin, convHM, fillP, fieldsPlace, solid, inOrd, sliceHM, bound, zOK, appendHM, srcCells, borL, isSl, slLen, storeHM, loadHM, look1, idxAddr, arrAddr, cellsOf, TD.agg, loadedL, loaded, borrowed, isOwn, fieldR, partHM, absorbL, absorb1, setAt, killAV, killL, leafV, getR, isNil, nilV, Array.toList, List.map, reduceIte, reduceCtorEq, Nat.reduceEqDiff, Nat.reduceAdd, Nat.reduceMul, Nat.reduceSub, Nat.reduceBEq, Nat.reduceLeDiff, Int.reduceLT, Int.reduceLE, Int.reduceGE, Int.reduceGT, Int.reduceBEq, Int.reduceBNe, Int.reduceToNat, Int.reduceNeg, Int.reduceSub, Int.reduceAdd, Int.reduceMul, callHM, packA, packL, pack1, lentOk, getLent, putBack, backK, renAV, renL, rr, Try.f22, hk, hn, hb, hl, h0, q51, e28 _ _ _ ho, e25, g1]
      simp only [vv, ff, firstRegion, apartAll, clash, meets, execOp, opnd, builtinHM, bin, convHM, fillP, fieldsPlace, solid, inOrd, sliceHM, bound, zOK, appendHM, srcCells, borL, isSl, slLen, storeHM, loadHM, look1, idxAddr, arrAddr, cellsOf, TD.agg, loadedL, loaded, borrowed, isOwn, fieldR, partHM, absorbL, absorb1, setAt, killAV, killL, leafV, getR, isNil, nilV, Array.toList, List.map, reduceIte, reduceCtorEq, Nat.reduceEqDiff, Nat.reduceAdd, Nat.reduceMul, Nat.reduceSub, Nat.reduceBEq, Nat.reduceLeDiff, Int.reduceLT, Int.reduceLE, Int.reduceGE, Int.reduceGT, Int.reduceBEq, Int.reduceBNe, Int.reduceToNat, Int.reduceNeg, Int.reduceSub, Int.reduceAdd, Int.reduceMul, finish, wkAV, resOf, resa, noSnap, noSnapL, noSnapO, keep, liveKeys, keysL, keysAV, renAV, renL, rr, e2, hw, wrC]
theorem z22 (d : Nat) (tg : Tg) (cap : Option Nat) (c r t : Int) : evFun E (d+10) 22 [.sl tg 1 0 cap [], vi c, vi r, vi t] [] = some (.tup [.sl .fgn 1 0 none [], vb false], []) := by
  refine evFun_body b22 ?_
  have g1 : (((0 : Nat) : Int) != 40) = true := by decide
  cases ho : okS c r with
  | false =>
    simp (maxDischargeDepth := 8) only [vv, cc, bb, firstRegion, apartAll, clash, meets, execOp, opnd, builtinHM, bin, convHM, fillP, fieldsPlace, solid, inOrd, sliceHM, bound, zOK, appendHM, srcCells, borL, isSl, slLen, storeHM, loadHM, look1, idxAddr, arrAddr, cellsOf, TD.agg, loadedL, loaded, borrowed, isOwn, fieldR, partHM, absorbL, absorb1, setAt, killAV, killL, leafV, getR, isNil, nilV, Array.toList, List.map, reduceIte, reduceCtorEq, Nat.reduceEqDiff, Nat.reduceAdd, Nat.reduceMul, Nat.reduceSub, Nat.reduceBEq, Nat.reduceLeDiff, Int.reduceLT, Int.reduceLE, Int.reduceGE, Int.reduceGT, Int.reduceBEq, Int.reduceBNe, Int.reduceToNat, Int.reduceNeg, Int.reduceSub, Int.reduceAdd, Int.reduceMul, callHM, packA, packL, pack1, lentOk, getLent, putBack, backK, renAV, renL, rr, Try.f22, z51, e28n _ _ _ ho, e25, g1]
    simp only [vv, ff, firstRegion, apartAll, clash, meets, execOp, opnd, builtinHM, bin, convHM, fillP, fieldsPlace, solid, inOrd, sliceHM, bound, zOK, appendHM, srcCells, borL, isSl, slLen, storeHM, loadHM, look1, idxAddr, arrAddr, cellsOf, TD.agg, loadedL, loaded, borrowed, isOwn, fieldR, partHM, absorbL, absorb1, setAt, killAV, killL, leafV, getR, isNil, nilV, Array.toList, List.map, reduceIte, reduceCtorEq, Nat.reduceEqDiff, Nat.reduceAdd, Nat.reduceMul, Nat.reduceSub, Nat.reduceBEq, Nat.reduceLeDiff, Int.reduceLT, Int.reduceLE, Int.reduceGE, Int.reduceGT, Int.reduceBEq, Int.reduceBNe, Int.reduceToNat, Int.reduceNeg, Int.reduceSub, Int.reduceAdd, Int.reduceMul, finish, wkAV, resOf, resa, noSnap, noSnapL, noSnapO, keep, liveKeys, keysL, keysAV, renAV, renL, rr]
  | true =>
    simp (maxDischargeDepth := 8) only [vv, cc, bb, firstRegion, apartAll, clash, meets, execOp, opnd, builtinHM, bin, convHM, fillP, fieldsPlace, solid, inOrd, sliceHM, bound, zOK, appendHM, srcCells, borL, isSl, slLen, storeHM, loadHM, look1, idxAddr, arrAddr, cellsOf, TD.agg, loadedL, loaded, borrowed, isOwn, fieldR, partHM, absorbL, absorb1, setAt, killAV, killL, leafV, getR, isNil, nilV, Array.toList, List.map, reduceIte, reduceCtorEq, Nat.reduceEqDiff, Nat.reduceAdd, Nat.reduceMul, Nat.reduceSub, Nat.reduceBEq, Nat.reduceLeDiff, Int.reduceLT, Int.reduceLE, Int.reduceGE, Int.reduceGT, Int.reduceBEq, Int.reduceBNe, Int.reduceToNat, Int.reduceNeg, Int.reduceSub, Int.reduceAdd, Int.reduceMul, callHM, packA, packL, pack1, lentOk, getLent, putBack, backK, renAV, renL, rr, Try.f22, z51, e28 _ _ _ ho, e25, g1]
    simp only [vv, ff, firstRegion, apartAll, clash, meets, execOp, opnd, builtinHM, bin, convHM, fillP, fieldsPlace, solid, inOrd, sliceHM, bound, zOK, appendHM, srcCells, borL, isSl, slLen, storeHM, loadHM, look1, idxAddr, arrAddr, cellsOf, TD.agg, loadedL, loaded, borrowed, isOwn, fieldR, partHM, absorbL, absorb1, setAt, killAV, killL, leafV, getR, isNil, nilV, Array.toList, List.map, reduceIte, reduceCtorEq, Nat.reduceEqDiff, Nat.reduceAdd, Nat.reduceMul, Nat.reduceSub, Nat.reduceBEq, Nat.reduceLeDiff, Int.reduceLT, Int.reduceLE, Int.reduceGE, Int.reduceGT, Int.reduceBEq, Int.reduceBNe, Int.reduceToNat, Int.reduceNeg, Int.reduceSub, Int.reduceAdd, Int.reduceMul, finish, wkAV, resOf, resa, noSnap, noSnapL, noSnapO, keep, liveKeys, keysL, keysAV, renAV, renL, rr]
end Go.Proofs.Ytjkkndgbhcmphaa.VH.S
end

section
namespace Go.Proofs.Ytjkkndgbhcmphaa.VH.S
open Go.Proofs
set_option maxRecDepth 100000
set_option maxHeartbeats 4000000
set_option linter.unusedSimpArgs false

theorem z16 (d : Nat) (tg : Tg) (cap : Option Nat) (k : Int) : evFun E (d+1) 16 [.sl tg 1 0 cap [], vi k] [] = some (vi k, []) := by
  refine evFun_body b16 ?_
  simp only [vv, cc, ff, uu, norm, firstRegion, apartAll, clash, meets, execOp, opnd, builtinHM, bin, convHM, fillP, fieldsPlace, solid, inOrd, sliceHM, bound, zOK, appendHM, srcCells, borL, isSl, slLen, storeHM, loadHM, look1, idxAddr, arrAddr, cellsOf, TD.agg, loadedL, loaded, borrowed, isOwn, fieldR, partHM, absorbL, absorb1, setAt, killAV, killL, leafV, getR, isNil, nilV, Array.toList, List.map, reduceIte, reduceCtorEq, Nat.reduceEqDiff, Nat.reduceAdd, Nat.reduceMul, Nat.reduceSub, Nat.reduceBEq, Nat.reduceLeDiff, Int.reduceLT, Int.reduceLE, Int.reduceGE, Int.reduceGT, Int.reduceBEq, Int.reduceBNe, Int.reduceToNat, Int.reduceNeg, Int.reduceSub, Int.reduceAdd, Int.reduceMul, callHM, packA, packL, pack1, lentOk, getLent, putBack, backK, renAV, renL, finish, wkAV, resOf, resa, noSnap, noSnapL, noSnapO, keep, liveKeys, keysL, keysAV, rr, Try.f16]
theorem z17 (d : Nat) (tg : Tg) (cap : Option Nat) (k : Int) : evFun E (d+1) 17 [.sl tg 1 0 cap [], vi k] [] = some (vi k, []) := by
  refine evFun_body b17 ?_
  simp only [vv, cc, ff, uu, norm, firstRegion, apartAll, clash, meets, execOp, opnd, builtinHM, bin, convHM, fillP, fieldsPlace, solid, inOrd, sliceHM, bound, zOK, appendHM, srcCells, borL, isSl, slLen, storeHM, loadHM, look1, idxAddr, arrAddr, cellsOf, TD.agg, loadedL, loaded, borrowed, isOwn, fieldR, partHM, absorbL, absorb1, setAt, killAV, killL, leafV, getR, isNil, nilV, Array.toList, List.map, reduceIte, reduceCtorEq, Nat.reduceEqDiff, Nat.reduceAdd, Nat.reduceMul, Nat.reduceSub, Nat.reduceBEq, Nat.reduceLeDiff, Int.reduceLT, Int.reduceLE, Int.reduceGE, Int.reduceGT, Int.reduceBEq, Int.reduceBNe, Int.reduceToNat, Int.reduceNeg, Int.reduceSub, Int.reduceAdd, Int.reduceMul, callHM, packA, packL, pack1, lentOk, getLent, putBack, backK, renAV, renL, finish, wkAV, resOf, resa, noSnap, noSnapL, noSnapO, keep, liveKeys, keysL, keysAV, rr, Try.f17]
theorem e5 (d : Nat) (a : List Int) (c r t : Int) (hb : B8 a) : evFun E (d+11) 5 [.sl .fgn 1 a.length none (a.map (iv .u8)), vi c, vi r, vi t] [] = some (vb true, []) := by
  refine evFun_body b5 ?_
  by_cases hl : a.length ≤ 1048576
  · have hd : decide ((a.length : Int) > 1048576) = false := by simp; omega
    have hl' : a.length ≤ 549755813888 := by omega
    have hl2 : a.length ≤ 549755813887 := by omega
    obtain ⟨cs, hcs⟩ : ∃ cs, cs = a.map (iv .u8) := ⟨_, rfl⟩
    have hk : isK .u8 cs = true := by rw [hcs]; exact isK_map _ _
    have hbu : B8 (un cs) := by rw [hcs, un_map]; exact hb
    have hn : cs.length = a.length := by rw [hcs, List.length_map]
    rw [← hcs]
    generalize a.length = n at *
    have ho1 := isK_own hk
    have hlt : decide (1 + (n : Int) < 0) = false := by simp; omega
    have hbe : ((1 + (n : Int)) != 1 + (n : Int)) = false := by simp
    have ho2 := isK_own (isK_wrC hk c r t)
    have hm1 : ((marks .u8 1 n).map (iv .u8)).any isOwn = false := anyOwn_iv _ _
    rcases Nat.eq_zero_or_pos n with h0 | h0
    · subst h0
      have : cs = [] := List.eq_nil_of_length_eq_zero hn
      subst this
      have hw : wrOK [] c r t = false := wr_bad (l := []) rfl (.inl (by decide))
      simp (maxDischargeDepth := 8) only [vv, cc, bb, firstRegion, apartAll, clash, meets, execOp, opnd, builtinHM, bin, convHM, fillP, fieldsPlace, solid, inOrd, sliceHM, bound, zOK, appendHM, srcCells, borL, isSl, slLen, storeHM, loadHM, look1, idxAddr, arrAddr, cellsOf, TD.agg, loadedL, loaded, borrowed, isOwn, fieldR, partHM, absorbL, absorb1, setAt, killAV, killL, leafV, getR, isNil, nilV, Array.toList, List.map, reduceIte, reduceCtorEq, Nat.reduceEqDiff, Nat.reduceAdd, Nat.reduceMul, Nat.reduceSub, Nat.reduceBEq, Nat.reduceLeDiff, Int.reduceLT, Int.reduceLE, Int.reduceGE, Int.reduceGT, Int.reduceBEq, Int.reduceBNe, Int.reduceToNat, Int.reduceNeg, Int.reduceSub, Int.reduceAdd, Int.reduceMul, callHM, packA, packL, pack1, lentOk, getLent, putBack, backK, renAV, renL, rr, Try.f5, hd, hbu, q21, e20, z22, hw, wrC, q13, q16, marks_len, anyOwn_iv, z16, z17]
      simp only [vv, ff, firstRegion, apartAll, clash, meets, execOp, opnd, builtinHM, bin, convHM, fillP, fieldsPlace, solid, inOrd, sliceHM, bound, zOK, appendHM, srcCells, borL, isSl, slLen, storeHM, loadHM, look1, idxAddr, arrAddr, cellsOf, TD.agg, loadedL, loaded, borrowed, isOwn, fieldR, partHM, absorbL, absorb1, setAt, killAV, killL, leafV, getR, isNil, nilV, Array.toList, List.map, reduceIte, reduceCtorEq, Nat.reduceEqDiff, Nat.reduceAdd, Nat.reduceMul, Nat.reduceSub, Nat.reduceBEq, Nat.reduceLeDiff, Int.reduceLT, Int.reduceLE, Int.reduceGE, Int.reduceGT, Int.reduceBEq, Int.reduceBNe, Int.reduceToNat, Int.reduceNeg, Int.reduceSub, Int.reduceAdd, Int.reduceMul, finish, wkAV, resOf, resa, noSnap, noSnapL, noSnapO, keep, liveKeys, keysL, keysAV, renAV, renL, rr]
    · simp (maxDischargeDepth := 8) only [vv, cc, bb, firstRegion, apartAll, clash, meets, execOp, opnd, builtinHM, bin, convHM, fillP, fieldsPlace, solid, inOrd, sliceHM, bound, zOK, appendHM, srcCells, borL, isSl, slLen, storeHM, loadHM, look1, idxAddr, arrAddr, cellsOf, TD.agg, loadedL, loaded, borrowed, isOwn, fieldR, partHM, absorbL, absorb1, setAt, killAV, killL, leafV, getR, isNil, nilV, Array.toList, List.map, reduceIte, reduceCtorEq, Nat.reduceEqDiff, Nat.reduceAdd, Nat.reduceMul, Nat.reduceSub, Nat.reduceBEq, Nat.reduceLeDiff, Int.reduceLT, Int.reduceLE, Int.reduceGE, Int.reduceGT, Int.reduceBEq, Int.reduceBNe, Int.reduceToNat, Int.reduceNeg, Int.reduceSub, Int.reduceAdd, Int.reduceMul, callHM, packA, packL, pack1, lentOk, getLent, putBack, backK, renAV, renL, rr, Try.f5, hd, hk, hn, hl', hl2, hbu, h0, q21, e20, e22, isK_wrC, wrC_len, q13, q16, q17, marks_len, ho1, ho2, hm1, hlt, hbe]
      simp only [vv, ff, firstRegion, apartAll, clash, meets, execOp, opnd, builtinHM, bin, convHM, fillP, fieldsPlace, solid, inOrd, sliceHM, bound, zOK, appendHM, srcCells, borL, isSl, slLen, storeHM, loadHM, look1, idxAddr, arrAddr, cellsOf, TD.agg, loadedL, loaded, borrowed, isOwn, fieldR, partHM, absorbL, absorb1, setAt, killAV, killL, leafV, getR, isNil, nilV, Array.toList, List.map, reduceIte, reduceCtorEq, Nat.reduceEqDiff, Nat.reduceAdd, Nat.reduceMul, Nat.reduceSub, Nat.reduceBEq, Nat.reduceLeDiff, Int.reduceLT, Int.reduceLE, Int.reduceGE, Int.reduceGT, Int.reduceBEq, Int.reduceBNe, Int.reduceToNat, Int.reduceNeg, Int.reduceSub, Int.reduceAdd, Int.reduceMul, finish, wkAV, resOf, resa, noSnap, noSnapL, noSnapO, keep, liveKeys, keysL, keysAV, renAV, renL, rr]
  · have hd : decide ((a.length : Int) > 1048576) = true := by simp; omega
    simp (maxDischargeDepth := 8) only [vv, cc, bb, firstRegion, apartAll, clash, meets, execOp, opnd, builtinHM, bin, convHM, fillP, fieldsPlace, solid, inOrd, sliceHM, bound, zOK, appendHM, srcCells, borL, isSl, slLen, storeHM, loadHM, look1, idxAddr, arrAddr, cellsOf, TD.agg, loadedL, loaded, borrowed, isOwn, fieldR, partHM, absorbL, absorb1, setAt, killAV, killL, leafV, getR, isNil, nilV, Array.toList, List.map, reduceIte, reduceCtorEq, Nat.reduceEqDiff, Nat.reduceAdd, Nat.reduceMul, Nat.reduceSub, Nat.reduceBEq, Nat.reduceLeDiff, Int.reduceLT, Int.reduceLE, Int.reduceGE, Int.reduceGT, Int.reduceBEq, Int.reduceBNe, Int.reduceToNat, Int.reduceNeg, Int.reduceSub, Int.reduceAdd, Int.reduceMul, callHM, packA, packL, pack1, lentOk, getLent, putBack, backK, renAV, renL, rr, Try.f5, hd]
    simp only [vv, ff, firstRegion, apartAll, clash, meets, execOp, opnd, builtinHM, bin, convHM, fillP, fieldsPlace, solid, inOrd, sliceHM, bound, zOK, appendHM, srcCells, borL, isSl, slLen, storeHM, loadHM, look1, idxAddr, arrAddr, cellsOf, TD.agg, loadedL, loaded, borrowed, isOwn, fieldR, partHM, absorbL, absorb1, setAt, killAV, killL, leafV, getR, isNil, nilV, Array.toList, List.map, reduceIte, reduceCtorEq, Nat.reduceEqDiff, Nat.reduceAdd, Nat.reduceMul, Nat.reduceSub, Nat.reduceBEq, Nat.reduceLeDiff, Int.reduceLT, Int.reduceLE, Int.reduceGE, Int.reduceGT, Int.reduceBEq, Int.reduceBNe, Int.reduceToNat, Int.reduceNeg, Int.reduceSub, Int.reduceAdd, Int.reduceMul, finish, wkAV, resOf, resa, noSnap, noSnapL, noSnapO, keep, liveKeys, keysL, keysAV, renAV, renL, rr]
end Go.Proofs.Ytjkkndgbhcmphaa.VH.S
end

section
namespace Go.Proofs.Ytjkkndgbhcmphaa.VH

/- Rows of rows: each element takes so many cells. -/

def flat {α : Type} (enc : α → List AV) : List α → List AV
  | [] => []
  | a :: l => enc a ++ flat enc l

section
variable {α : Type} {enc : α → List AV} {z : Nat}

theorem flat_len (hz : ∀ a, (enc a).length = z) : ∀ l : List α, (flat enc l).length = l.length * z
  | [] => by simp [flat]
  | a :: l => by simp only [flat, List.length_append, hz, flat_len hz l, List.length_cons, Nat.add_mul]; omega
theorem flat_app : ∀ l m : List α, flat enc (l ++ m) = flat enc l ++ flat enc m
  | [], m => rfl
  | a :: l, m => by simp only [List.cons_append, flat, flat_app l m, List.append_assoc]
theorem flt_get (hz : ∀ a, (enc a).length = z) : ∀ (l : List α) (i : Nat) (h : i < l.length) (j : Nat), j < z → (flat enc l)[i * z + j]? = (enc l[i])[j]?
  | a :: l, 0, _, j, hj => by
    simp only [flat, Nat.zero_mul, Nat.zero_add, List.getElem_cons_zero]
    rw [List.getElem?_append_left (by rw [hz]; exact hj)]
  | a :: l, i + 1, h, j, hj => by
    simp only [flat, List.getElem_cons_succ]
    rw [List.getElem?_append_right (by rw [hz, Nat.add_mul]; omega), hz, ← flt_get hz l i (by simpa using h) j hj]
    congr 1; rw [Nat.add_mul]; omega
theorem getR_of {cs : List AV} : ∀ {n o : Nat} {xs : List AV}, xs.length = n → (∀ j (h : j < xs.length), cs[o + j]? = some xs[j]) → getR cs o n = some xs
  | 0, o, [], _, _ => rfl
  | n + 1, o, x :: xs, hl, h => by
    have h0 := h 0 (by simp)
    simp only [Nat.add_zero, List.getElem_cons_zero] at h0
    have ih := getR_of (cs := cs) (n := n) (o := o + 1) (xs := xs) (by simpa using hl) fun j hj => by
      have := h (j + 1) (by simpa using hj)
      simp only [List.getElem_cons_succ] at this
      rw [← this]; congr 1; omega
    simp only [getR, h0, ih]
  | 0, _, _ :: _, hl, _ => by simp at hl
  | _ + 1, _, [], hl, _ => by simp at hl
theorem flt_getR (hz : ∀ a, (enc a).length = z) (l : List α) {i : Nat} (h : i < l.length) : getR (flat enc l) (i * z) z = some (enc l[i]) :=
  getR_of (hz _) fun j hj => by rw [flt_get hz l i h j (by rw [← hz l[i]]; exact hj), List.getElem?_eq_getElem hj]
theorem flat_setAt (hz : ∀ a, (enc a).length = z) (l : List α) {i : Nat} (h : i < l.length) (a : α) : setAt (flat enc l) (i * z) (enc a) = flat enc (l.set i a) := by
  have hl := flat_len hz l
  have hfit : i * z + (enc a).length ≤ (flat enc l).length := by
    rw [hz, hl]
    have : (i + 1) * z ≤ l.length * z := Nat.mul_le_mul_right _ h
    rw [Nat.add_mul] at this; omega
  have key : ∀ (l : List α) (i : Nat), i < l.length → flat enc (l.set i a) = (flat enc l).take (i * z) ++ enc a ++ (flat enc l).drop (i * z + z) := by
    intro l
    induction l with
    | nil => intro i h; simp at h
    | cons x l ih =>
      intro i h
      cases i with
      | zero =>
        simp only [List.set_cons_zero, flat, Nat.zero_mul, Nat.zero_add, List.take_zero, List.nil_append]
        rw [List.drop_append_of_le_length (by rw [hz]; exact Nat.le_refl _), List.drop_of_length_le (by rw [hz]; exact Nat.le_refl _), List.nil_append]
      | succ i =>
        simp only [List.set_cons_succ, flat]
        rw [ih i (by simpa using h)]
        have e1 : (i + 1) * z = z + i * z := by rw [Nat.add_mul]; omega
        rw [e1, List.take_append, hz, show (enc x).take (z + i * z) = enc x from List.take_of_length_le (by rw [hz]; omega), show z + i * z - z = i * z by omega, List.drop_append, hz,
          show (enc x).drop (z + i * z + z) = [] from List.drop_of_length_le (by rw [hz]; omega), show z + i * z + z - z = i * z + z by omega]
        simp only [List.nil_append, List.append_assoc]
  rw [setAt_put _ _ _ hfit, key l i h, putL, hz]

/-- a row that is filled from the front -/
def partL (l : List α) (a0 : α) (i : Nat) : List α := l.take i ++ List.replicate (l.length - i) a0
theorem partL_len (l : List α) (a0 : α) {i : Nat} (h : i ≤ l.length) : (partL l a0 i).length = l.length := by simp [partL]; omega
theorem partL_zero (l : List α) (a0 : α) : partL l a0 0 = List.replicate l.length a0 := by simp [partL]
theorem partL_full (l : List α) (a0 : α) : partL l a0 l.length = l := by simp [partL]
theorem partL_set (l : List α) (a0 : α) {i : Nat} (h : i < l.length) : (partL l a0 i).set i l[i] = partL l a0 (i + 1) := by
  have e : l.length - i = (l.length - (i + 1)) + 1 := by omega
  rw [partL, partL, e, List.replicate_succ, List.set_append_right _ _ (by simp; omega)]
  have h1 : i - (l.take i).length = 0 := by simp; omega
  rw [h1, List.set_cons_zero, List.take_succ_eq_append_getElem h, List.append_assoc]; rfl
theorem flat_repl (a0 : α) : ∀ n : Nat, flat enc (List.replicate n a0) = (List.replicate n (enc a0)).flatten
  | 0 => rfl
  | n + 1 => by rw [List.replicate_succ, flat, flat_repl a0 n, List.replicate_succ, List.flatten_cons]
end

/-- shapes that hold numbers of one kind alone -/
def Sh.allK (k : IntKind) : Sh → Bool
  | .int k' => k' == k
  | .st s => s.allK k
  | .unit => true
  | .pair a b => a.allK k && b.allK k
  | _ => false
theorem fits_isK {k : IntKind} : ∀ {s : Sh} {cs : List AV}, s.allK k = true → Fits s cs → isK k cs = true
  | .int k', cs, h, ⟨n, e, _⟩ => by
    simp only [Sh.allK, beq_iff_eq] at h
    subst h; rw [e, isK_int]; rfl
  | .st s, cs, h, hf => fits_isK (s := s) h hf
  | .unit, cs, _, hf => by rw [show cs = [] from hf]; rfl
  | .pair a b, cs, h, ⟨xs, ys, e, h1, h2⟩ => by
    simp only [Sh.allK, Bool.and_eq_true] at h
    rw [e, isK_app, fits_isK h.1 h1, fits_isK h.2 h2]; rfl
  | .bool, _, h, _ => by simp [Sh.allK] at h
  | .str, _, h, _ => by simp [Sh.allK] at h
  | .sl _, _, h, _ => by simp [Sh.allK] at h
theorem fits_sl_st {s : Sh} {cs : List AV} (h : Fits (.sl s) cs) : ∃ rows : List (List AV), (∀ r, r ∈ rows → Fits s r) ∧ rows.length ≤ 9223372036854775807 ∧ cs = [.sl .fgn s.size rows.length none rows.flatten] := h
theorem fitsA_sl {s : Sh} {x : AV} (h : FitsA (.sl s) x) : ∃ rows : List (List AV), rows.length ≤ 9223372036854775807 ∧ (∀ r, r ∈ rows → Fits s r) ∧ x = .sl .fgn s.size rows.length none rows.flatten := by
  obtain ⟨rows, h1, h2, h3⟩ := fits_sl_st (cs := [x]) h
  exact ⟨rows, h2, h1, by simpa using h3⟩
theorem rows_enc {α : Type} {enc : α → List AV} {Q : List AV → Prop} (hq : ∀ r, Q r → ∃ a, r = enc a) : ∀ rows : List (List AV), (∀ r, r ∈ rows → Q r) → ∃ l : List α, l.length = rows.length ∧ rows.flatten = flat enc l
  | [], _ => ⟨[], rfl, rfl⟩
  | r :: rs, h => by
    obtain ⟨a, ha⟩ := hq r (h r (by simp))
    obtain ⟨l, h1, h2⟩ := rows_enc hq rs fun r hr => h r (by simp [hr])
    exact ⟨a :: l, by simp [h1], by rw [List.flatten_cons, h2, ha]; rfl⟩

end Go.Proofs.Ytjkkndgbhcmphaa.VH
namespace Go.Proofs.Ytjkkndgbhcmphaa.VH
theorem flat_isK {α : Type} {enc : α → List AV} {k : IntKind} (h : ∀ a, isK k (enc a) = true) : ∀ l : List α, isK k (flat enc l) = true
  | [] => rfl
  | a :: l => by rw [flat, isK_app, h a, flat_isK h l]; rfl
theorem flat_inj {α : Type} {enc : α → List AV} {z : Nat} (hz : ∀ a, (enc a).length = z) (hi : ∀ a b, enc a = enc b → a = b) : ∀ l m : List α, l.length = m.length → flat enc l = flat enc m → l = m
  | [], [], _, _ => rfl
  | a :: l, b :: m, hl, h => by
    simp only [flat] at h
    have := List.append_inj h (by rw [hz, hz])
    rw [hi a b this.1, flat_inj hz hi l m (by simpa using hl) this.2]
  | [], _ :: _, hl, _ => by simp at hl
  | _ :: _, [], hl, _ => by simp at hl
end Go.Proofs.Ytjkkndgbhcmphaa.VH
end

section
namespace Go.Proofs.Ytjkkndgbhcmphaa.VH.S
open Go.Proofs
set_option maxRecDepth 100000
set_option maxHeartbeats 4000000
set_option linter.unusedSimpArgs false

theorem wrapM {k : Int} {i n : Nat} (h : i < n) (h1 : 0 ≤ k) (h2 : k + n ≤ 549755813888) : IntKind.i64.wrap (k + (i : Int)) = k + (i : Int) := wrap64 (by omega) (by omega)
theorem e38 (d : Nat) (l : List Int) (cap : Option Nat) (k : Int) (hk : 0 ≤ k) (hl : k + l.length ≤ 549755813888) : evFun E (d+1) 38 [.ref 0 [] 1 0 l.length cap, vi k] [l.map (iv .i64)] = some (vi (k + l.length), [some ((marks .i64 k l.length).map (iv .i64))]) := by
  refine evFun_body b38 ?_
  simp only [vv, firstRegion, apartAll, clash, meets, execOp, opnd, builtinHM, bin, convHM, fillP, fieldsPlace, solid, inOrd, sliceHM, bound, zOK, appendHM, srcCells, borL, isSl, slLen, storeHM, loadHM, look1, idxAddr, arrAddr, cellsOf, TD.agg, loadedL, loaded, borrowed, isOwn, fieldR, partHM, absorbL, absorb1, setAt, killAV, killL, leafV, getR, isNil, nilV, Array.toList, List.map, reduceIte, reduceCtorEq, Nat.reduceEqDiff, Nat.reduceAdd, Nat.reduceMul, Nat.reduceSub, Nat.reduceBEq, Nat.reduceLeDiff, Int.reduceLT, Int.reduceLE, Int.reduceGE, Int.reduceGT, Int.reduceBEq, Int.reduceBNe, Int.reduceToNat, Int.reduceNeg, Int.reduceSub, Int.reduceAdd, Int.reduceMul, rr, Try.f38]
  refine loop_go (fun i => {T := tp [(0, .ref 0 [] 1 0 l.length cap), (1, vi (k + (i : Int))), (5, vi i)], H := hp [some (markP .i64 k l i)], nx := 1}) l.length ?_ (lt_LF (by omega)) (fun i hi Kn hK => ?_) (fun Kn => ?_)
  · simp only [vv, ff, norm, Array.toList, List.map, reduceIte, reduceCtorEq, Nat.reduceEqDiff, Nat.reduceAdd, Nat.reduceMul, Nat.reduceSub, Nat.reduceBEq, Nat.reduceLeDiff, Int.reduceLT, Int.reduceLE, Int.reduceGE, Int.reduceGT, Int.reduceBEq, Int.reduceBNe, Int.reduceToNat, Int.reduceNeg, Int.reduceSub, Int.reduceAdd, Int.reduceMul, finish, wkAV, resOf, resa, noSnap, noSnapL, noSnapO, keep, liveKeys, keysL, keysAV, renAV, renL, Int.natCast_zero, Int.add_zero, markP_zero]
  · have hm := markP_set .i64 k l hi
    rw [wrapM hi hk hl] at hm
    simp only [vv, firstRegion, apartAll, clash, meets, execOp, opnd, builtinHM, bin, convHM, fillP, fieldsPlace, solid, inOrd, sliceHM, bound, zOK, appendHM, srcCells, borL, isSl, slLen, storeHM, loadHM, look1, idxAddr, arrAddr, cellsOf, TD.agg, loadedL, loaded, borrowed, isOwn, fieldR, partHM, absorbL, absorb1, setAt, killAV, killL, leafV, getR, isNil, nilV, Array.toList, List.map, reduceIte, reduceCtorEq, Nat.reduceEqDiff, Nat.reduceAdd, Nat.reduceMul, Nat.reduceSub, Nat.reduceBEq, Nat.reduceLeDiff, Int.reduceLT, Int.reduceLE, Int.reduceGE, Int.reduceGT, Int.reduceBEq, Int.reduceBNe, Int.reduceToNat, Int.reduceNeg, Int.reduceSub, Int.reduceAdd, Int.reduceMul, rr, lt_ok hi, markP_lt _ _ _ hi, hm, wrap_succ hi (show l.length ≤ 2 ^ 39 by omega), wrapS hi hk hl]
    refine hK _ ?_
    simp only [vv, ff, norm, Array.toList, List.map, reduceIte, reduceCtorEq, Nat.reduceEqDiff, Nat.reduceAdd, Nat.reduceMul, Nat.reduceSub, Nat.reduceBEq, Nat.reduceLeDiff, Int.reduceLT, Int.reduceLE, Int.reduceGE, Int.reduceGT, Int.reduceBEq, Int.reduceBNe, Int.reduceToNat, Int.reduceNeg, Int.reduceSub, Int.reduceAdd, Int.reduceMul, finish, wkAV, resOf, resa, noSnap, noSnapL, noSnapO, keep, liveKeys, keysL, keysAV, renAV, renL]
  · simp only [vv, firstRegion, apartAll, clash, meets, execOp, opnd, builtinHM, bin, convHM, fillP, fieldsPlace, solid, inOrd, sliceHM, bound, zOK, appendHM, srcCells, borL, isSl, slLen, storeHM, loadHM, look1, idxAddr, arrAddr, cellsOf, TD.agg, loadedL, loaded, borrowed, isOwn, fieldR, partHM, absorbL, absorb1, setAt, killAV, killL, leafV, getR, isNil, nilV, Array.toList, List.map, reduceIte, reduceCtorEq, Nat.reduceEqDiff, Nat.reduceAdd, Nat.reduceMul, Nat.reduceSub, Nat.reduceBEq, Nat.reduceLeDiff, Int.reduceLT, Int.reduceLE, Int.reduceGE, Int.reduceGT, Int.reduceBEq, Int.reduceBNe, Int.reduceToNat, Int.reduceNeg, Int.reduceSub, Int.reduceAdd, Int.reduceMul, rr, lt_no]
    simp only [vv, ff, firstRegion, apartAll, clash, meets, execOp, opnd, builtinHM, bin, convHM, fillP, fieldsPlace, solid, inOrd, sliceHM, bound, zOK, appendHM, srcCells, borL, isSl, slLen, storeHM, loadHM, look1, idxAddr, arrAddr, cellsOf, TD.agg, loadedL, loaded, borrowed, isOwn, fieldR, partHM, absorbL, absorb1, setAt, killAV, killL, leafV, getR, isNil, nilV, Array.toList, List.map, reduceIte, reduceCtorEq, Nat.reduceEqDiff, Nat.reduceAdd, Nat.reduceMul, Nat.reduceSub, Nat.reduceBEq, Nat.reduceLeDiff, Int.reduceLT, Int.reduceLE, Int.reduceGE, Int.reduceGT, Int.reduceBEq, Int.reduceBNe, Int.reduceToNat, Int.reduceNeg, Int.reduceSub, Int.reduceAdd, Int.reduceMul, finish, wkAV, resOf, resa, noSnap, noSnapL, noSnapO, keep, liveKeys, keysL, keysAV, renAV, renL, rr, markP_full]
theorem e39 (d : Nat) (tg : Tg) (cap : Option Nat) (n : Nat) (k : Int) (hk : 0 ≤ k) (hl : k + n ≤ 549755813888) : evFun E (d+1) 39 [.sl tg 1 n cap ((marks .i64 k n).map (iv .i64)), vi k] [] = some (vi (k + n), []) := by
  refine evFun_body b39 ?_
  simp only [vv, firstRegion, apartAll, clash, meets, execOp, opnd, builtinHM, bin, convHM, fillP, fieldsPlace, solid, inOrd, sliceHM, bound, zOK, appendHM, srcCells, borL, isSl, slLen, storeHM, loadHM, look1, idxAddr, arrAddr, cellsOf, TD.agg, loadedL, loaded, borrowed, isOwn, fieldR, partHM, absorbL, absorb1, setAt, killAV, killL, leafV, getR, isNil, nilV, Array.toList, List.map, reduceIte, reduceCtorEq, Nat.reduceEqDiff, Nat.reduceAdd, Nat.reduceMul, Nat.reduceSub, Nat.reduceBEq, Nat.reduceLeDiff, Int.reduceLT, Int.reduceLE, Int.reduceGE, Int.reduceGT, Int.reduceBEq, Int.reduceBNe, Int.reduceToNat, Int.reduceNeg, Int.reduceSub, Int.reduceAdd, Int.reduceMul, rr, Try.f39]
  refine loop_go (fun i => {T := tp [(0, .sl tg 1 n cap ((marks .i64 k n).map (iv .i64))), (1, vi (k + (i : Int))), (5, vi i)], H := hp [], nx := 0}) n ?_ (lt_LF (by omega)) (fun i hi Kn hK => ?_) (fun Kn => ?_)
  · simp only [vv, ff, norm, Array.toList, List.map, reduceIte, reduceCtorEq, Nat.reduceEqDiff, Nat.reduceAdd, Nat.reduceMul, Nat.reduceSub, Nat.reduceBEq, Nat.reduceLeDiff, Int.reduceLT, Int.reduceLE, Int.reduceGE, Int.reduceGT, Int.reduceBEq, Int.reduceBNe, Int.reduceToNat, Int.reduceNeg, Int.reduceSub, Int.reduceAdd, Int.reduceMul, finish, wkAV, resOf, resa, noSnap, noSnapL, noSnapO, keep, liveKeys, keysL, keysAV, renAV, renL, Int.natCast_zero, Int.add_zero]
  · have hm := marks_get .i64 k hi
    rw [wrapM hi hk hl] at hm
    simp only [vv, firstRegion, apartAll, clash, meets, execOp, opnd, builtinHM, bin, convHM, fillP, fieldsPlace, solid, inOrd, sliceHM, bound, zOK, appendHM, srcCells, borL, isSl, slLen, storeHM, loadHM, look1, idxAddr, arrAddr, cellsOf, TD.agg, loadedL, loaded, borrowed, isOwn, fieldR, partHM, absorbL, absorb1, setAt, killAV, killL, leafV, getR, isNil, nilV, Array.toList, List.map, reduceIte, reduceCtorEq, Nat.reduceEqDiff, Nat.reduceAdd, Nat.reduceMul, Nat.reduceSub, Nat.reduceBEq, Nat.reduceLeDiff, Int.reduceLT, Int.reduceLE, Int.reduceGE, Int.reduceGT, Int.reduceBEq, Int.reduceBNe, Int.reduceToNat, Int.reduceNeg, Int.reduceSub, Int.reduceAdd, Int.reduceMul, rr, lt_ok hi, hm, bne_self_eq_false, wrap_succ hi (show n ≤ 2 ^ 39 by omega), wrapS hi hk hl]
    refine hK _ ?_
    simp only [vv, ff, norm, Array.toList, List.map, reduceIte, reduceCtorEq, Nat.reduceEqDiff, Nat.reduceAdd, Nat.reduceMul, Nat.reduceSub, Nat.reduceBEq, Nat.reduceLeDiff, Int.reduceLT, Int.reduceLE, Int.reduceGE, Int.reduceGT, Int.reduceBEq, Int.reduceBNe, Int.reduceToNat, Int.reduceNeg, Int.reduceSub, Int.reduceAdd, Int.reduceMul, finish, wkAV, resOf, resa, noSnap, noSnapL, noSnapO, keep, liveKeys, keysL, keysAV, renAV, renL]
  · simp only [vv, firstRegion, apartAll, clash, meets, execOp, opnd, builtinHM, bin, convHM, fillP, fieldsPlace, solid, inOrd, sliceHM, bound, zOK, appendHM, srcCells, borL, isSl, slLen, storeHM, loadHM, look1, idxAddr, arrAddr, cellsOf, TD.agg, loadedL, loaded, borrowed, isOwn, fieldR, partHM, absorbL, absorb1, setAt, killAV, killL, leafV, getR, isNil, nilV, Array.toList, List.map, reduceIte, reduceCtorEq, Nat.reduceEqDiff, Nat.reduceAdd, Nat.reduceMul, Nat.reduceSub, Nat.reduceBEq, Nat.reduceLeDiff, Int.reduceLT, Int.reduceLE, Int.reduceGE, Int.reduceGT, Int.reduceBEq, Int.reduceBNe, Int.reduceToNat, Int.reduceNeg, Int.reduceSub, Int.reduceAdd, Int.reduceMul, rr, lt_no]
    simp only [vv, ff, firstRegion, apartAll, clash, meets, execOp, opnd, builtinHM, bin, convHM, fillP, fieldsPlace, solid, inOrd, sliceHM, bound, zOK, appendHM, srcCells, borL, isSl, slLen, storeHM, loadHM, look1, idxAddr, arrAddr, cellsOf, TD.agg, loadedL, loaded, borrowed, isOwn, fieldR, partHM, absorbL, absorb1, setAt, killAV, killL, leafV, getR, isNil, nilV, Array.toList, List.map, reduceIte, reduceCtorEq, Nat.reduceEqDiff, Nat.reduceAdd, Nat.reduceMul, Nat.reduceSub, Nat.reduceBEq, Nat.reduceLeDiff, Int.reduceLT, Int.reduceLE, Int.reduceGE, Int.reduceGT, Int.reduceBEq, Int.reduceBNe, Int.reduceToNat, Int.reduceNeg, Int.reduceSub, Int.reduceAdd, Int.reduceMul, finish, wkAV, resOf, resa, noSnap, noSnapL, noSnapO, keep, liveKeys, keysL, keysAV, renAV, renL, rr]
theorem q38 (d : Nat) (n : Nat) (cs : List AV) (cap : Option Nat) (k : Int) (hb : isK .i64 cs = true) (hn : cs.length = n) (hk : 0 ≤ k) (hl : k + n ≤ 549755813888) : evFun E (d+1) 38 [.ref 0 [] 1 0 n cap, vi k] [cs] = some (vi (k + n), [some ((marks .i64 k n).map (iv .i64))]) := by
  subst hn
  have := e38 d (un cs) cap k hk (by rw [un_len]; exact hl)
  rw [un_len, ← isK_get hb] at this; exact this
theorem q35 (d : Nat) (tg tg' : Tg) (cap cap' : Option Nat) (n m : Nat) (a b : List AV) (ha : isK .i64 a = true) (hb : isK .i64 b = true) (hn : a.length = n) (hm : b.length = m) (hl : n ≤ 549755813888) : evFun E (d+1) 35 [.sl tg 1 n cap a, .sl tg' 1 m cap' b] [] = some (vb (decide (un a = un b)), []) := by
  subst hn; subst hm
  have := e35 d tg tg' cap cap' (un a) (un b) (by rw [un_len]; exact hl)
  rw [un_len, un_len, ← isK_get ha, ← isK_get hb] at this; exact this
theorem n35 (d : Nat) (tg : Tg) (cap : Option Nat) : evFun E (d+1) 35 [.val (.slice none 0 0), .sl tg 1 0 cap []] [] = some (vb true, []) := by
  refine evFun_body b35 ?_
  simp only [vv, cc, ff, uu, norm, firstRegion, apartAll, clash, meets, execOp, opnd, builtinHM, bin, convHM, fillP, fieldsPlace, solid, inOrd, sliceHM, bound, zOK, appendHM, srcCells, borL, isSl, slLen, storeHM, loadHM, look1, idxAddr, arrAddr, cellsOf, TD.agg, loadedL, loaded, borrowed, isOwn, fieldR, partHM, absorbL, absorb1, setAt, killAV, killL, leafV, getR, isNil, nilV, Array.toList, List.map, reduceIte, reduceCtorEq, Nat.reduceEqDiff, Nat.reduceAdd, Nat.reduceMul, Nat.reduceSub, Nat.reduceBEq, Nat.reduceLeDiff, Int.reduceLT, Int.reduceLE, Int.reduceGE, Int.reduceGT, Int.reduceBEq, Int.reduceBNe, Int.reduceToNat, Int.reduceNeg, Int.reduceSub, Int.reduceAdd, Int.reduceMul, callHM, packA, packL, pack1, lentOk, getLent, putBack, backK, renAV, renL, finish, wkAV, resOf, resa, noSnap, noSnapL, noSnapO, keep, liveKeys, keysL, keysAV, rr, Try.f35]
theorem n38 (d : Nat) (k : Int) : evFun E (d+1) 38 [.val (.slice none 0 0), vi k] [] = some (vi k, []) := by
  refine evFun_body b38 ?_
  simp only [vv, cc, ff, uu, norm, firstRegion, apartAll, clash, meets, execOp, opnd, builtinHM, bin, convHM, fillP, fieldsPlace, solid, inOrd, sliceHM, bound, zOK, appendHM, srcCells, borL, isSl, slLen, storeHM, loadHM, look1, idxAddr, arrAddr, cellsOf, TD.agg, loadedL, loaded, borrowed, isOwn, fieldR, partHM, absorbL, absorb1, setAt, killAV, killL, leafV, getR, isNil, nilV, Array.toList, List.map, reduceIte, reduceCtorEq, Nat.reduceEqDiff, Nat.reduceAdd, Nat.reduceMul, Nat.reduceSub, Nat.reduceBEq, Nat.reduceLeDiff, Int.reduceLT, Int.reduceLE, Int.reduceGE, Int.reduceGT, Int.reduceBEq, Int.reduceBNe, Int.reduceToNat, Int.reduceNeg, Int.reduceSub, Int.reduceAdd, Int.reduceMul, callHM, packA, packL, pack1, lentOk, getLent, putBack, backK, renAV, renL, finish, wkAV, resOf, resa, noSnap, noSnapL, noSnapO, keep, liveKeys, keysL, keysAV, rr, Try.f38]
theorem n39 (d : Nat) (k : Int) : evFun E (d+1) 39 [.val (.slice none 0 0), vi k] [] = some (vi k, []) := by
  refine evFun_body b39 ?_
  simp only [vv, cc, ff, uu, norm, firstRegion, apartAll, clash, meets, execOp, opnd, builtinHM, bin, convHM, fillP, fieldsPlace, solid, inOrd, sliceHM, bound, zOK, appendHM, srcCells, borL, isSl, slLen, storeHM, loadHM, look1, idxAddr, arrAddr, cellsOf, TD.agg, loadedL, loaded, borrowed, isOwn, fieldR, partHM, absorbL, absorb1, setAt, killAV, killL, leafV, getR, isNil, nilV, Array.toList, List.map, reduceIte, reduceCtorEq, Nat.reduceEqDiff, Nat.reduceAdd, Nat.reduceMul, Nat.reduceSub, Nat.reduceBEq, Nat.reduceLeDiff, Int.reduceLT, Int.reduceLE, Int.reduceGE, Int.reduceGT, Int.reduceBEq, Int.reduceBNe, Int.reduceToNat, Int.reduceNeg, Int.reduceSub, Int.reduceAdd, Int.reduceMul, callHM, packA, packL, pack1, lentOk, getLent, putBack, backK, renAV, renL, finish, wkAV, resOf, resa, noSnap, noSnapL, noSnapO, keep, liveKeys, keysL, keysAV, rr, Try.f39]

abbrev Wt := Int × Int × Int
def encW (w : Wt) : List AV := [vi w.1, vi w.2.1, vi w.2.2]
theorem encW_len (w : Wt) : (encW w).length = 3 := rfl
theorem encW_isK (w : Wt) : isK .i64 (encW w) = true := rfl
theorem encW_snap (l : List Wt) : noSnapL (flat encW l) = true := isK_snap (flat_isK encW_isK l)
theorem e66 (d : Nat) (a b c : Int) : evFun E (d+1) 66 [.agg [vi a, vi b, vi c]] [] = some (.agg [vi a, vi b, vi c], []) := by
  refine evFun_body b66 ?_
  simp only [vv, cc, firstRegion, apartAll, clash, meets, execOp, opnd, builtinHM, bin, convHM, fillP, fieldsPlace, solid, inOrd, sliceHM, bound, zOK, appendHM, srcCells, borL, isSl, slLen, storeHM, loadHM, look1, idxAddr, arrAddr, cellsOf, TD.agg, loadedL, loaded, borrowed, isOwn, fieldR, partHM, absorbL, absorb1, setAt, killAV, killL, leafV, getR, isNil, nilV, Array.toList, List.map, reduceIte, reduceCtorEq, Nat.reduceEqDiff, Nat.reduceAdd, Nat.reduceMul, Nat.reduceSub, Nat.reduceBEq, Nat.reduceLeDiff, Int.reduceLT, Int.reduceLE, Int.reduceGE, Int.reduceGT, Int.reduceBEq, Int.reduceBNe, Int.reduceToNat, Int.reduceNeg, Int.reduceSub, Int.reduceAdd, Int.reduceMul, callHM, packA, packL, pack1, lentOk, getLent, putBack, backK, renAV, renL, rr, Try.f66]
  simp only [vv, ff, firstRegion, apartAll, clash, meets, execOp, opnd, builtinHM, bin, convHM, fillP, fieldsPlace, solid, inOrd, sliceHM, bound, zOK, appendHM, srcCells, borL, isSl, slLen, storeHM, loadHM, look1, idxAddr, arrAddr, cellsOf, TD.agg, loadedL, loaded, borrowed, isOwn, fieldR, partHM, absorbL, absorb1, setAt, killAV, killL, leafV, getR, isNil, nilV, Array.toList, List.map, reduceIte, reduceCtorEq, Nat.reduceEqDiff, Nat.reduceAdd, Nat.reduceMul, Nat.reduceSub, Nat.reduceBEq, Nat.reduceLeDiff, Int.reduceLT, Int.reduceLE, Int.reduceGE, Int.reduceGT, Int.reduceBEq, Int.reduceBNe, Int.reduceToNat, Int.reduceNeg, Int.reduceSub, Int.reduceAdd, Int.reduceMul, finish, wkAV, resOf, resa, noSnap, noSnapL, noSnapO, keep, liveKeys, keysL, keysAV, renAV, renL, rr]
theorem e34 (d : Nat) (tg : Tg) (cap : Option Nat) (l : List Wt) (hl : l.length ≤ 2 ^ 39) : evFun E (d+2) 34 [.sl tg 3 l.length cap (flat encW l)] [] = some (.ref 0 [] 3 0 l.length (some l.length), [some (flat encW l)]) := by
  refine evFun_body b34 ?_
  simp only [vv, firstRegion, apartAll, clash, meets, execOp, opnd, builtinHM, bin, convHM, fillP, fieldsPlace, solid, inOrd, sliceHM, bound, zOK, appendHM, srcCells, borL, isSl, slLen, storeHM, loadHM, look1, idxAddr, arrAddr, cellsOf, TD.agg, loadedL, loaded, borrowed, isOwn, fieldR, partHM, absorbL, absorb1, setAt, killAV, killL, leafV, getR, isNil, nilV, Array.toList, List.map, reduceIte, reduceCtorEq, Nat.reduceEqDiff, Nat.reduceAdd, Nat.reduceMul, Nat.reduceSub, Nat.reduceBEq, Nat.reduceLeDiff, Int.reduceLT, Int.reduceLE, Int.reduceGE, Int.reduceGT, Int.reduceBEq, Int.reduceBNe, Int.reduceToNat, Int.reduceNeg, Int.reduceSub, Int.reduceAdd, Int.reduceMul, rr, Try.f34, lim_le hl]
  refine loop_go (fun i => {T := tp [(0, .sl tg 3 l.length cap (flat encW l)), (3, .ref 0 [] 3 0 l.length (some l.length)), (4, vi i)], H := hp [some (flat encW (partL l (0, 0, 0) i))], nx := 1}) l.length ?_ (lt_LF hl) (fun i hi Kn hK => ?_) (fun Kn => ?_)
  · have hz0 : zeros ⟨.struct [(0, 3), (1, 3), (2, 3)], 3, 24, [.int .i64 0, .int .i64 0, .int .i64 0], false⟩ l.length = flat encW (List.replicate l.length (0, 0, 0)) := by rw [flat_repl]; rfl
    simp only [vv, ff, norm, Array.toList, List.map, reduceIte, reduceCtorEq, Nat.reduceEqDiff, Nat.reduceAdd, Nat.reduceMul, Nat.reduceSub, Nat.reduceBEq, Nat.reduceLeDiff, Int.reduceLT, Int.reduceLE, Int.reduceGE, Int.reduceGT, Int.reduceBEq, Int.reduceBNe, Int.reduceToNat, Int.reduceNeg, Int.reduceSub, Int.reduceAdd, Int.reduceMul, finish, wkAV, resOf, resa, noSnap, noSnapL, noSnapO, keep, liveKeys, keysL, keysAV, renAV, renL, Int.natCast_zero, partL_zero, hz0]
  · have hg := flt_getR encW_len l hi
    have hs := flat_setAt encW_len (partL l (0, 0, 0) i) (i := i) (by rw [partL_len _ _ (by omega)]; exact hi) l[i]
    rw [partL_set _ _ hi] at hs
    simp only [encW] at hg hs
    have hf : decide (i * 3 + 3 ≤ (flat encW (partL l (0, 0, 0) i)).length) = true := by rw [flat_len encW_len, partL_len _ _ (by omega)]; simp; omega
    simp only [vv, cc, firstRegion, apartAll, clash, meets, execOp, opnd, builtinHM, bin, convHM, fillP, fieldsPlace, solid, inOrd, sliceHM, bound, zOK, appendHM, srcCells, borL, isSl, slLen, storeHM, loadHM, look1, idxAddr, arrAddr, cellsOf, TD.agg, loadedL, loaded, borrowed, isOwn, fieldR, partHM, absorbL, absorb1, killAV, killL, leafV, isNil, nilV, Array.toList, List.map, reduceIte, reduceCtorEq, Nat.reduceEqDiff, Nat.reduceAdd, Nat.reduceMul, Nat.reduceSub, Nat.reduceBEq, Nat.reduceLeDiff, Int.reduceLT, Int.reduceLE, Int.reduceGE, Int.reduceGT, Int.reduceBEq, Int.reduceBNe, Int.reduceToNat, Int.reduceNeg, Int.reduceSub, Int.reduceAdd, Int.reduceMul, callHM, packA, packL, pack1, lentOk, getLent, putBack, backK, renAV, renL, rr, lt_ok hi, hg, hs, hf, e66, wrap_succ hi hl]
    refine hK _ ?_
    simp only [vv, ff, norm, Array.toList, List.map, reduceIte, reduceCtorEq, Nat.reduceEqDiff, Nat.reduceAdd, Nat.reduceMul, Nat.reduceSub, Nat.reduceBEq, Nat.reduceLeDiff, Int.reduceLT, Int.reduceLE, Int.reduceGE, Int.reduceGT, Int.reduceBEq, Int.reduceBNe, Int.reduceToNat, Int.reduceNeg, Int.reduceSub, Int.reduceAdd, Int.reduceMul, finish, wkAV, resOf, resa, noSnap, noSnapL, noSnapO, keep, liveKeys, keysL, keysAV, renAV, renL]
  · simp only [vv, firstRegion, apartAll, clash, meets, execOp, opnd, builtinHM, bin, convHM, fillP, fieldsPlace, solid, inOrd, sliceHM, bound, zOK, appendHM, srcCells, borL, isSl, slLen, storeHM, loadHM, look1, idxAddr, arrAddr, cellsOf, TD.agg, loadedL, loaded, borrowed, isOwn, fieldR, partHM, absorbL, absorb1, setAt, killAV, killL, leafV, getR, isNil, nilV, Array.toList, List.map, reduceIte, reduceCtorEq, Nat.reduceEqDiff, Nat.reduceAdd, Nat.reduceMul, Nat.reduceSub, Nat.reduceBEq, Nat.reduceLeDiff, Int.reduceLT, Int.reduceLE, Int.reduceGE, Int.reduceGT, Int.reduceBEq, Int.reduceBNe, Int.reduceToNat, Int.reduceNeg, Int.reduceSub, Int.reduceAdd, Int.reduceMul, rr, lt_no]
    simp only [vv, ff, firstRegion, apartAll, clash, meets, execOp, opnd, builtinHM, bin, convHM, fillP, fieldsPlace, solid, inOrd, sliceHM, bound, zOK, appendHM, srcCells, borL, isSl, slLen, storeHM, loadHM, look1, idxAddr, arrAddr, cellsOf, TD.agg, loadedL, loaded, borrowed, isOwn, fieldR, partHM, absorbL, absorb1, setAt, killAV, killL, leafV, getR, isNil, nilV, Array.toList, List.map, reduceIte, reduceCtorEq, Nat.reduceEqDiff, Nat.reduceAdd, Nat.reduceMul, Nat.reduceSub, Nat.reduceBEq, Nat.reduceLeDiff, Int.reduceLT, Int.reduceLE, Int.reduceGE, Int.reduceGT, Int.reduceBEq, Int.reduceBNe, Int.reduceToNat, Int.reduceNeg, Int.reduceSub, Int.reduceAdd, Int.reduceMul, finish, wkAV, resOf, resa, noSnap, noSnapL, noSnapO, keep, liveKeys, keysL, keysAV, renAV, renL, rr, partL_full, encW_snap]
theorem e67 (d : Nat) (a b c a' b' c' : Int) : evFun E (d+1) 67 [.agg [vi a, vi b, vi c], .agg [vi a', vi b', vi c']] [] = some (vb (a == a' && (b == b' && c == c')), []) := by
  refine evFun_body b67 ?_
  simp only [vv, cc, firstRegion, apartAll, clash, meets, execOp, opnd, builtinHM, bin, convHM, fillP, fieldsPlace, solid, inOrd, sliceHM, bound, zOK, appendHM, srcCells, borL, isSl, slLen, storeHM, loadHM, look1, idxAddr, arrAddr, cellsOf, TD.agg, loadedL, loaded, borrowed, isOwn, fieldR, partHM, absorbL, absorb1, setAt, killAV, killL, leafV, getR, isNil, nilV, Array.toList, List.map, reduceIte, reduceCtorEq, Nat.reduceEqDiff, Nat.reduceAdd, Nat.reduceMul, Nat.reduceSub, Nat.reduceBEq, Nat.reduceLeDiff, Int.reduceLT, Int.reduceLE, Int.reduceGE, Int.reduceGT, Int.reduceBEq, Int.reduceBNe, Int.reduceToNat, Int.reduceNeg, Int.reduceSub, Int.reduceAdd, Int.reduceMul, callHM, packA, packL, pack1, lentOk, getLent, putBack, backK, renAV, renL, rr, Try.f67]
  cases h1 : a == a' <;> cases h2 : b == b' <;> cases h3 : c == c' <;> simp only [vv, cc, firstRegion, apartAll, clash, meets, execOp, opnd, builtinHM, bin, convHM, fillP, fieldsPlace, solid, inOrd, sliceHM, bound, zOK, appendHM, srcCells, borL, isSl, slLen, storeHM, loadHM, look1, idxAddr, arrAddr, cellsOf, TD.agg, loadedL, loaded, borrowed, isOwn, fieldR, partHM, absorbL, absorb1, setAt, killAV, killL, leafV, getR, isNil, nilV, Array.toList, List.map, reduceIte, reduceCtorEq, Nat.reduceEqDiff, Nat.reduceAdd, Nat.reduceMul, Nat.reduceSub, Nat.reduceBEq, Nat.reduceLeDiff, Int.reduceLT, Int.reduceLE, Int.reduceGE, Int.reduceGT, Int.reduceBEq, Int.reduceBNe, Int.reduceToNat, Int.reduceNeg, Int.reduceSub, Int.reduceAdd, Int.reduceMul, callHM, packA, packL, pack1, lentOk, getLent, putBack, backK, renAV, renL, rr, bne, h1, h2, h3] <;> simp only [vv, ff, firstRegion, apartAll, clash, meets, execOp, opnd, builtinHM, bin, convHM, fillP, fieldsPlace, solid, inOrd, sliceHM, bound, zOK, appendHM, srcCells, borL, isSl, slLen, storeHM, loadHM, look1, idxAddr, arrAddr, cellsOf, TD.agg, loadedL, loaded, borrowed, isOwn, fieldR, partHM, absorbL, absorb1, setAt, killAV, killL, leafV, getR, isNil, nilV, Array.toList, List.map, reduceIte, reduceCtorEq, Nat.reduceEqDiff, Nat.reduceAdd, Nat.reduceMul, Nat.reduceSub, Nat.reduceBEq, Nat.reduceLeDiff, Int.reduceLT, Int.reduceLE, Int.reduceGE, Int.reduceGT, Int.reduceBEq, Int.reduceBNe, Int.reduceToNat, Int.reduceNeg, Int.reduceSub, Int.reduceAdd, Int.reduceMul, finish, wkAV, resOf, resa, noSnap, noSnapL, noSnapO, keep, liveKeys, keysL, keysAV, renAV, renL, rr]
theorem e36 (d : Nat) (tg tg' : Tg) (cap cap' : Option Nat) (l : List Wt) (hl : l.length ≤ 2 ^ 39) : evFun E (d+2) 36 [.sl tg 3 l.length cap (flat encW l), .sl tg' 3 l.length cap' (flat encW l)] [] = some (vb true, []) := by
  refine evFun_body b36 ?_
  simp only [vv, firstRegion, apartAll, clash, meets, execOp, opnd, builtinHM, bin, convHM, fillP, fieldsPlace, solid, inOrd, sliceHM, bound, zOK, appendHM, srcCells, borL, isSl, slLen, storeHM, loadHM, look1, idxAddr, arrAddr, cellsOf, TD.agg, loadedL, loaded, borrowed, isOwn, fieldR, partHM, absorbL, absorb1, setAt, killAV, killL, leafV, getR, isNil, nilV, Array.toList, List.map, reduceIte, reduceCtorEq, Nat.reduceEqDiff, Nat.reduceAdd, Nat.reduceMul, Nat.reduceSub, Nat.reduceBEq, Nat.reduceLeDiff, Int.reduceLT, Int.reduceLE, Int.reduceGE, Int.reduceGT, Int.reduceBEq, Int.reduceBNe, Int.reduceToNat, Int.reduceNeg, Int.reduceSub, Int.reduceAdd, Int.reduceMul, rr, Try.f36, bne_self_eq_false]
  refine loop_go (fun i => {T := tp [(0, .sl tg 3 l.length cap (flat encW l)), (1, .sl tg' 3 l.length cap' (flat encW l)), (5, vi i)], H := hp [], nx := 0}) l.length ?_ (lt_LF hl) (fun i hi Kn hK => ?_) (fun Kn => ?_)
  · simp only [vv, ff, norm, Array.toList, List.map, reduceIte, reduceCtorEq, Nat.reduceEqDiff, Nat.reduceAdd, Nat.reduceMul, Nat.reduceSub, Nat.reduceBEq, Nat.reduceLeDiff, Int.reduceLT, Int.reduceLE, Int.reduceGE, Int.reduceGT, Int.reduceBEq, Int.reduceBNe, Int.reduceToNat, Int.reduceNeg, Int.reduceSub, Int.reduceAdd, Int.reduceMul, finish, wkAV, resOf, resa, noSnap, noSnapL, noSnapO, keep, liveKeys, keysL, keysAV, renAV, renL, Int.natCast_zero]
  · have hg := flt_getR encW_len l hi
    simp only [encW] at hg
    simp only [vv, cc, firstRegion, apartAll, clash, meets, execOp, opnd, builtinHM, bin, convHM, fillP, fieldsPlace, solid, inOrd, sliceHM, bound, zOK, appendHM, srcCells, borL, isSl, slLen, storeHM, loadHM, look1, idxAddr, arrAddr, cellsOf, TD.agg, loadedL, loaded, borrowed, isOwn, fieldR, partHM, absorbL, absorb1, setAt, killAV, killL, leafV, isNil, nilV, Array.toList, List.map, reduceIte, reduceCtorEq, Nat.reduceEqDiff, Nat.reduceAdd, Nat.reduceMul, Nat.reduceSub, Nat.reduceBEq, Nat.reduceLeDiff, Int.reduceLT, Int.reduceLE, Int.reduceGE, Int.reduceGT, Int.reduceBEq, Int.reduceBNe, Int.reduceToNat, Int.reduceNeg, Int.reduceSub, Int.reduceAdd, Int.reduceMul, callHM, packA, packL, pack1, lentOk, getLent, putBack, backK, renAV, renL, rr, lt_ok hi, hg, e67]
    repeat' ((with_reducible refine condT ?_ ?_); (focus kernel_rfl); try simp (maxDischargeDepth := 8) only [vv, cc, bb, firstRegion, apartAll, clash, meets, execOp, opnd, builtinHM, bin, convHM, fillP, fieldsPlace, solid, inOrd, sliceHM, bound, zOK, appendHM, srcCells, borL, isSl, slLen, storeHM, loadHM, look1, idxAddr, arrAddr, cellsOf, TD.agg, loadedL, loaded, borrowed, isOwn, fieldR, partHM, absorbL, absorb1, setAt, killAV, killL, leafV, isNil, nilV, Array.toList, List.map, reduceIte, reduceCtorEq, Nat.reduceEqDiff, Nat.reduceAdd, Nat.reduceMul, Nat.reduceSub, Nat.reduceBEq, Nat.reduceLeDiff, Int.reduceLT, Int.reduceLE, Int.reduceGE, Int.reduceGT, Int.reduceBEq, Int.reduceBNe, Int.reduceToNat, Int.reduceNeg, Int.reduceSub, Int.reduceAdd, Int.reduceMul, callHM, packA, packL, pack1, lentOk, getLent, putBack, backK, renAV, renL, rr, lt_ok hi, hg, e67, wrap_succ hi hl])
    refine hK _ ?_
    simp only [vv, ff, norm, Array.toList, List.map, reduceIte, reduceCtorEq, Nat.reduceEqDiff, Nat.reduceAdd, Nat.reduceMul, Nat.reduceSub, Nat.reduceBEq, Nat.reduceLeDiff, Int.reduceLT, Int.reduceLE, Int.reduceGE, Int.reduceGT, Int.reduceBEq, Int.reduceBNe, Int.reduceToNat, Int.reduceNeg, Int.reduceSub, Int.reduceAdd, Int.reduceMul, finish, wkAV, resOf, resa, noSnap, noSnapL, noSnapO, keep, liveKeys, keysL, keysAV, renAV, renL, wrap_succ hi hl]
  · simp only [vv, firstRegion, apartAll, clash, meets, execOp, opnd, builtinHM, bin, convHM, fillP, fieldsPlace, solid, inOrd, sliceHM, bound, zOK, appendHM, srcCells, borL, isSl, slLen, storeHM, loadHM, look1, idxAddr, arrAddr, cellsOf, TD.agg, loadedL, loaded, borrowed, isOwn, fieldR, partHM, absorbL, absorb1, setAt, killAV, killL, leafV, getR, isNil, nilV, Array.toList, List.map, reduceIte, reduceCtorEq, Nat.reduceEqDiff, Nat.reduceAdd, Nat.reduceMul, Nat.reduceSub, Nat.reduceBEq, Nat.reduceLeDiff, Int.reduceLT, Int.reduceLE, Int.reduceGE, Int.reduceGT, Int.reduceBEq, Int.reduceBNe, Int.reduceToNat, Int.reduceNeg, Int.reduceSub, Int.reduceAdd, Int.reduceMul, rr, lt_no]
    simp only [vv, ff, firstRegion, apartAll, clash, meets, execOp, opnd, builtinHM, bin, convHM, fillP, fieldsPlace, solid, inOrd, sliceHM, bound, zOK, appendHM, srcCells, borL, isSl, slLen, storeHM, loadHM, look1, idxAddr, arrAddr, cellsOf, TD.agg, loadedL, loaded, borrowed, isOwn, fieldR, partHM, absorbL, absorb1, setAt, killAV, killL, leafV, getR, isNil, nilV, Array.toList, List.map, reduceIte, reduceCtorEq, Nat.reduceEqDiff, Nat.reduceAdd, Nat.reduceMul, Nat.reduceSub, Nat.reduceBEq, Nat.reduceLeDiff, Int.reduceLT, Int.reduceLE, Int.reduceGE, Int.reduceGT, Int.reduceBEq, Int.reduceBNe, Int.reduceToNat, Int.reduceNeg, Int.reduceSub, Int.reduceAdd, Int.reduceMul, finish, wkAV, resOf, resa, noSnap, noSnapL, noSnapO, keep, liveKeys, keysL, keysAV, renAV, renL, rr]
theorem e32 (d : Nat) (tg : Tg) (cap : Option Nat) (n : Nat) (cs : List AV) (hn : n ≤ 9223372036854775807) : evFun E (d+1) 32 [.sl tg 3 n cap cs, vi 1048576] [] = some (vi (if n ≤ 1048576 then 1048576 - n else -1), []) := by
  refine evFun_body b32 ?_
  have hw : IntKind.i64.wrap (1048576 - (n : Int)) = 1048576 - n := wrap64 (by omega) (by omega)
  by_cases h : n ≤ 1048576
  · have hd : decide (1048576 - (n : Int) < 0) = false := by simp; omega
    simp only [vv, firstRegion, apartAll, clash, meets, execOp, opnd, builtinHM, bin, convHM, fillP, fieldsPlace, solid, inOrd, sliceHM, bound, zOK, appendHM, srcCells, borL, isSl, slLen, storeHM, loadHM, look1, idxAddr, arrAddr, cellsOf, TD.agg, loadedL, loaded, borrowed, isOwn, fieldR, partHM, absorbL, absorb1, setAt, killAV, killL, leafV, getR, isNil, nilV, Array.toList, List.map, reduceIte, reduceCtorEq, Nat.reduceEqDiff, Nat.reduceAdd, Nat.reduceMul, Nat.reduceSub, Nat.reduceBEq, Nat.reduceLeDiff, Int.reduceLT, Int.reduceLE, Int.reduceGE, Int.reduceGT, Int.reduceBEq, Int.reduceBNe, Int.reduceToNat, Int.reduceNeg, Int.reduceSub, Int.reduceAdd, Int.reduceMul, rr, Try.f32, hw, hd]
    simp only [vv, ff, firstRegion, apartAll, clash, meets, execOp, opnd, builtinHM, bin, convHM, fillP, fieldsPlace, solid, inOrd, sliceHM, bound, zOK, appendHM, srcCells, borL, isSl, slLen, storeHM, loadHM, look1, idxAddr, arrAddr, cellsOf, TD.agg, loadedL, loaded, borrowed, isOwn, fieldR, partHM, absorbL, absorb1, setAt, killAV, killL, leafV, getR, isNil, nilV, Array.toList, List.map, reduceIte, reduceCtorEq, Nat.reduceEqDiff, Nat.reduceAdd, Nat.reduceMul, Nat.reduceSub, Nat.reduceBEq, Nat.reduceLeDiff, Int.reduceLT, Int.reduceLE, Int.reduceGE, Int.reduceGT, Int.reduceBEq, Int.reduceBNe, Int.reduceToNat, Int.reduceNeg, Int.reduceSub, Int.reduceAdd, Int.reduceMul, finish, wkAV, resOf, resa, noSnap, noSnapL, noSnapO, keep, liveKeys, keysL, keysAV, renAV, renL, rr, if_pos h]
  · have hd : decide (1048576 - (n : Int) < 0) = true := by simp; omega
    simp only [vv, firstRegion, apartAll, clash, meets, execOp, opnd, builtinHM, bin, convHM, fillP, fieldsPlace, solid, inOrd, sliceHM, bound, zOK, appendHM, srcCells, borL, isSl, slLen, storeHM, loadHM, look1, idxAddr, arrAddr, cellsOf, TD.agg, loadedL, loaded, borrowed, isOwn, fieldR, partHM, absorbL, absorb1, setAt, killAV, killL, leafV, getR, isNil, nilV, Array.toList, List.map, reduceIte, reduceCtorEq, Nat.reduceEqDiff, Nat.reduceAdd, Nat.reduceMul, Nat.reduceSub, Nat.reduceBEq, Nat.reduceLeDiff, Int.reduceLT, Int.reduceLE, Int.reduceGE, Int.reduceGT, Int.reduceBEq, Int.reduceBNe, Int.reduceToNat, Int.reduceNeg, Int.reduceSub, Int.reduceAdd, Int.reduceMul, rr, Try.f32, hw, hd]
    simp only [vv, ff, firstRegion, apartAll, clash, meets, execOp, opnd, builtinHM, bin, convHM, fillP, fieldsPlace, solid, inOrd, sliceHM, bound, zOK, appendHM, srcCells, borL, isSl, slLen, storeHM, loadHM, look1, idxAddr, arrAddr, cellsOf, TD.agg, loadedL, loaded, borrowed, isOwn, fieldR, partHM, absorbL, absorb1, setAt, killAV, killL, leafV, getR, isNil, nilV, Array.toList, List.map, reduceIte, reduceCtorEq, Nat.reduceEqDiff, Nat.reduceAdd, Nat.reduceMul, Nat.reduceSub, Nat.reduceBEq, Nat.reduceLeDiff, Int.reduceLT, Int.reduceLE, Int.reduceGE, Int.reduceGT, Int.reduceBEq, Int.reduceBNe, Int.reduceToNat, Int.reduceNeg, Int.reduceSub, Int.reduceAdd, Int.reduceMul, finish, wkAV, resOf, resa, noSnap, noSnapL, noSnapO, keep, liveKeys, keysL, keysAV, renAV, renL, rr, if_neg h]
theorem e37 (d : Nat) (l : List Int) (n : Nat) (cap : Option Nat) (k : Int) (hn : l.length = n * 3) (hk : 0 ≤ k) (hl : k + l.length ≤ 549755813888) : evFun E (d+1) 37 [.ref 0 [] 3 0 n cap, vi k] [l.map (iv .i64)] = some (vi (k + (n * 3 : Nat)), [some ((marks .i64 k (n * 3)).map (iv .i64))]) := by
  refine evFun_body b37 ?_
  simp only [vv, firstRegion, apartAll, clash, meets, execOp, opnd, builtinHM, bin, convHM, fillP, fieldsPlace, solid, inOrd, sliceHM, bound, zOK, appendHM, srcCells, borL, isSl, slLen, storeHM, loadHM, look1, idxAddr, arrAddr, cellsOf, TD.agg, loadedL, loaded, borrowed, isOwn, fieldR, partHM, absorbL, absorb1, setAt, killAV, killL, leafV, getR, isNil, nilV, Array.toList, List.map, reduceIte, reduceCtorEq, Nat.reduceEqDiff, Nat.reduceAdd, Nat.reduceMul, Nat.reduceSub, Nat.reduceBEq, Nat.reduceLeDiff, Int.reduceLT, Int.reduceLE, Int.reduceGE, Int.reduceGT, Int.reduceBEq, Int.reduceBNe, Int.reduceToNat, Int.reduceNeg, Int.reduceSub, Int.reduceAdd, Int.reduceMul, rr, Try.f37]
  refine loop_go (fun i => {T := tp [(0, .ref 0 [] 3 0 n cap), (1, vi (k + ((i * 3 : Nat) : Int))), (5, vi i)], H := hp [some (markP .i64 k l (i * 3))], nx := 1}) n ?_ (lt_LF (by omega)) (fun i hi Kn hK => ?_) (fun Kn => ?_)
  · simp only [vv, ff, norm, Array.toList, List.map, reduceIte, reduceCtorEq, Nat.reduceEqDiff, Nat.reduceAdd, Nat.reduceMul, Nat.reduceSub, Nat.reduceBEq, Nat.reduceLeDiff, Int.reduceLT, Int.reduceLE, Int.reduceGE, Int.reduceGT, Int.reduceBEq, Int.reduceBNe, Int.reduceToNat, Int.reduceNeg, Int.reduceSub, Int.reduceAdd, Int.reduceMul, finish, wkAV, resOf, resa, noSnap, noSnapL, noSnapO, keep, liveKeys, keysL, keysAV, renAV, renL, Int.natCast_zero, Int.add_zero, markP_zero]
  · have h0 : i * 3 < l.length := by omega
    have h1 : i * 3 + 1 < l.length := by omega
    have h2 : i * 3 + 2 < l.length := by omega
    have m0 := markP_set .i64 k l h0
    have m1 := markP_set .i64 k l h1
    have m2 := markP_set .i64 k l h2
    rw [wrapM h0 hk hl] at m0
    rw [wrapM h1 hk hl] at m1
    rw [wrapM h2 hk hl] at m2
    have w0 := wrapS h0 hk hl
    have w1 := wrapS h1 hk hl
    have w2 := wrapS h2 hk hl
    have p0 := markP_lt .i64 k l h0
    have p1 := markP_lt .i64 k l h1
    have p2 := markP_lt .i64 k l h2
    have e3 : i * 3 + 2 + 1 = (i + 1) * 3 := by omega
    have e3' : i * 3 + 1 + 1 = i * 3 + 2 := by omega
    rw [e3] at m2 w2
    rw [e3'] at m1 w1
    simp only [vv, firstRegion, apartAll, clash, meets, execOp, opnd, builtinHM, bin, convHM, fillP, fieldsPlace, solid, inOrd, sliceHM, bound, zOK, appendHM, srcCells, borL, isSl, slLen, storeHM, loadHM, look1, idxAddr, arrAddr, cellsOf, TD.agg, loadedL, loaded, borrowed, isOwn, fieldR, partHM, absorbL, absorb1, setAt, killAV, killL, leafV, getR, isNil, nilV, Array.toList, List.map, reduceIte, reduceCtorEq, Nat.reduceEqDiff, Nat.reduceAdd, Nat.reduceMul, Nat.reduceSub, Nat.reduceBEq, Nat.reduceLeDiff, Int.reduceLT, Int.reduceLE, Int.reduceGE, Int.reduceGT, Int.reduceBEq, Int.reduceBNe, Int.reduceToNat, Int.reduceNeg, Int.reduceSub, Int.reduceAdd, Int.reduceMul, rr, lt_ok hi, p0, p1, p2, m0, m1, m2, w0, w1, w2, wrap_succ hi (show n ≤ 2 ^ 39 by omega)]
    refine hK _ ?_
    simp only [vv, ff, norm, Array.toList, List.map, reduceIte, reduceCtorEq, Nat.reduceEqDiff, Nat.reduceAdd, Nat.reduceMul, Nat.reduceSub, Nat.reduceBEq, Nat.reduceLeDiff, Int.reduceLT, Int.reduceLE, Int.reduceGE, Int.reduceGT, Int.reduceBEq, Int.reduceBNe, Int.reduceToNat, Int.reduceNeg, Int.reduceSub, Int.reduceAdd, Int.reduceMul, finish, wkAV, resOf, resa, noSnap, noSnapL, noSnapO, keep, liveKeys, keysL, keysAV, renAV, renL]
  · simp only [vv, firstRegion, apartAll, clash, meets, execOp, opnd, builtinHM, bin, convHM, fillP, fieldsPlace, solid, inOrd, sliceHM, bound, zOK, appendHM, srcCells, borL, isSl, slLen, storeHM, loadHM, look1, idxAddr, arrAddr, cellsOf, TD.agg, loadedL, loaded, borrowed, isOwn, fieldR, partHM, absorbL, absorb1, setAt, killAV, killL, leafV, getR, isNil, nilV, Array.toList, List.map, reduceIte, reduceCtorEq, Nat.reduceEqDiff, Nat.reduceAdd, Nat.reduceMul, Nat.reduceSub, Nat.reduceBEq, Nat.reduceLeDiff, Int.reduceLT, Int.reduceLE, Int.reduceGE, Int.reduceGT, Int.reduceBEq, Int.reduceBNe, Int.reduceToNat, Int.reduceNeg, Int.reduceSub, Int.reduceAdd, Int.reduceMul, rr, lt_no]
    have hm := markP_full .i64 k l
    rw [hn] at hm
    simp only [vv, ff, firstRegion, apartAll, clash, meets, execOp, opnd, builtinHM, bin, convHM, fillP, fieldsPlace, solid, inOrd, sliceHM, bound, zOK, appendHM, srcCells, borL, isSl, slLen, storeHM, loadHM, look1, idxAddr, arrAddr, cellsOf, TD.agg, loadedL, loaded, borrowed, isOwn, fieldR, partHM, absorbL, absorb1, setAt, killAV, killL, leafV, getR, isNil, nilV, Array.toList, List.map, reduceIte, reduceCtorEq, Nat.reduceEqDiff, Nat.reduceAdd, Nat.reduceMul, Nat.reduceSub, Nat.reduceBEq, Nat.reduceLeDiff, Int.reduceLT, Int.reduceLE, Int.reduceGE, Int.reduceGT, Int.reduceBEq, Int.reduceBNe, Int.reduceToNat, Int.reduceNeg, Int.reduceSub, Int.reduceAdd, Int.reduceMul, finish, wkAV, resOf, resa, noSnap, noSnapL, noSnapO, keep, liveKeys, keysL, keysAV, renAV, renL, rr, hm]
theorem q37 (d : Nat) (n : Nat) (cs : List AV) (cap : Option Nat) (k : Int) (hb : isK .i64 cs = true) (hn : cs.length = n * 3) (hk : 0 ≤ k) (hl : k + (n * 3 : Nat) ≤ 549755813888) : evFun E (d+1) 37 [.ref 0 [] 3 0 n cap, vi k] [cs] = some (vi (k + (n * 3 : Nat)), [some ((marks .i64 k (n * 3)).map (iv .i64))]) := by
  have := e37 d (un cs) n cap k (by rw [un_len]; exact hn) hk (by rw [un_len, hn]; exact hl)
  rw [← isK_get hb] at this; exact this
end Go.Proofs.Ytjkkndgbhcmphaa.VH.S
end

section
namespace Go.Proofs.Ytjkkndgbhcmphaa.VH.S
open Go.Proofs
set_option maxRecDepth 100000
set_option maxHeartbeats 4000000
set_option linter.unusedSimpArgs false

def tellV (l : List Int) : Int := if decide ((rdV l).2.2 < 0) = true then -1 else (rdV l).1
def runC (cs : List AV) (ws : List Wt) : Nat → List AV
  | 0 => cs
  | i + 1 => wrC (runC cs ws i) (ws.getD i (0, 0, 0)).1 (ws.getD i (0, 0, 0)).2.1 (ws.getD i (0, 0, 0)).2.2
def runT (cs : List AV) (ws : List Wt) : Nat → List Int
  | 0 => []
  | i + 1 => runT cs ws i ++ [tellV (un (runC cs ws (i + 1)))]
def capT : Nat → Option Nat
  | 0 => some 0
  | _ + 1 => none
theorem runC_isK {cs : List AV} (h : isK .u8 cs = true) (ws : List Wt) : ∀ i, isK .u8 (runC cs ws i) = true
  | 0 => h
  | i + 1 => isK_wrC (runC_isK h ws i) _ _ _
theorem runC_len (cs : List AV) (ws : List Wt) : ∀ i, (runC cs ws i).length = cs.length
  | 0 => rfl
  | i + 1 => by rw [runC, wrC_len, runC_len cs ws i]
theorem runC_B8 {cs : List AV} (h : B8 (un cs)) (ws : List Wt) : ∀ i, B8 (un (runC cs ws i))
  | 0 => h
  | i + 1 => by rw [runC, un_wrC]; exact S.B8.wrV (runC_B8 h ws i) _ _ _
theorem runT_len (cs : List AV) (ws : List Wt) : ∀ i, (runT cs ws i).length = i
  | 0 => rfl
  | i + 1 => by simp [runT, runT_len cs ws i]
theorem runC_succ (cs : List AV) {ws : List Wt} {i : Nat} (h : i < ws.length) : wrC (runC cs ws i) ws[i].1 ws[i].2.1 ws[i].2.2 = runC cs ws (i + 1) := by
  rw [runC, List.getD_eq_getElem?_getD, List.getElem?_eq_getElem h]; rfl
theorem runT_succ (cs : List AV) (ws : List Wt) (i : Nat) : (runT cs ws i).map (iv .i64) ++ [vi (tellV (un (runC cs ws (i + 1))))] = (runT cs ws (i + 1)).map (iv .i64) := by
  simp [runT]
theorem e31 (d : Nat) (tg tg' : Tg) (cap cap' : Option Nat) (n : Nat) (cs : List AV) (ws : List Wt) (hk : isK .u8 cs = true) (hn : cs.length = n) (hb : B8 (un cs)) (h0 : 0 < n) (hl : n ≤ 549755813888) (hw : ws.length ≤ 60) :
    evFun E (d+11) 31 [.sl tg 1 n cap cs, .sl tg' 3 ws.length cap' (flat encW ws)] [] = some (.tup [.ref 0 [] 1 0 n none, .ref 1 [] 1 0 ws.length (capT ws.length)], [some (runC cs ws ws.length), some ((runT cs ws ws.length).map (iv .i64))]) := by
  refine evFun_body b31 ?_
  have hd : decide ((ws.length : Int) > 60) = false := by simp; omega
  have hw' : ws.length ≤ 2 ^ 39 := by omega
  simp (maxDischargeDepth := 8) only [vv, cc, bb, firstRegion, apartAll, clash, meets, execOp, opnd, builtinHM, bin, convHM, fillP, fieldsPlace, solid, inOrd, sliceHM, bound, zOK, appendHM, srcCells, borL, isSl, slLen, storeHM, loadHM, look1, idxAddr, arrAddr, cellsOf, TD.agg, loadedL, loaded, borrowed, isOwn, fieldR, partHM, absorbL, absorb1, setAt, killAV, killL, leafV, getR, isNil, nilV, Array.toList, List.map, reduceIte, reduceCtorEq, Nat.reduceEqDiff, Nat.reduceAdd, Nat.reduceMul, Nat.reduceSub, Nat.reduceBEq, Nat.reduceLeDiff, Int.reduceLT, Int.reduceLE, Int.reduceGE, Int.reduceGT, Int.reduceBEq, Int.reduceBNe, Int.reduceToNat, Int.reduceNeg, Int.reduceSub, Int.reduceAdd, Int.reduceMul, callHM, packA, packL, pack1, lentOk, getLent, putBack, backK, renAV, renL, rr, Try.f31, hk, hn, hl, h0, q51, hd]
  repeat' ((with_reducible refine condT ?_ ?_); (focus kernel_rfl); try simp (maxDischargeDepth := 8) only [vv, cc, bb, firstRegion, apartAll, clash, meets, execOp, opnd, builtinHM, bin, convHM, fillP, fieldsPlace, solid, inOrd, sliceHM, bound, zOK, appendHM, srcCells, borL, isSl, slLen, storeHM, loadHM, look1, idxAddr, arrAddr, cellsOf, TD.agg, loadedL, loaded, borrowed, isOwn, fieldR, partHM, absorbL, absorb1, setAt, killAV, killL, leafV, getR, isNil, nilV, Array.toList, List.map, reduceIte, reduceCtorEq, Nat.reduceEqDiff, Nat.reduceAdd, Nat.reduceMul, Nat.reduceSub, Nat.reduceBEq, Nat.reduceLeDiff, Int.reduceLT, Int.reduceLE, Int.reduceGE, Int.reduceGT, Int.reduceBEq, Int.reduceBNe, Int.reduceToNat, Int.reduceNeg, Int.reduceSub, Int.reduceAdd, Int.reduceMul, callHM, packA, packL, pack1, lentOk, getLent, putBack, backK, renAV, renL, rr, hk, hn, hl, h0, q51, hd])
  refine loop_go (fun i => {T := tp [(6, .ref 0 [] 1 0 n none), (7, .ref 1 [] 1 0 i (capT i)), (20, .sl tg' 3 ws.length cap' (flat encW ws)), (21, vi ws.length), (22, vi i)], H := hp [some (runC cs ws i), some ((runT cs ws i).map (iv .i64))], nx := 2}) ws.length ?_ (lt_LF hw') (fun i hi Kn hK => ?_) (fun Kn => ?_)
  · simp only [vv, ff, norm, Array.toList, List.map, reduceIte, reduceCtorEq, Nat.reduceEqDiff, Nat.reduceAdd, Nat.reduceMul, Nat.reduceSub, Nat.reduceBEq, Nat.reduceLeDiff, Int.reduceLT, Int.reduceLE, Int.reduceGE, Int.reduceGT, Int.reduceBEq, Int.reduceBNe, Int.reduceToNat, Int.reduceNeg, Int.reduceSub, Int.reduceAdd, Int.reduceMul, finish, wkAV, resOf, resa, noSnap, noSnapL, noSnapO, keep, liveKeys, keysL, keysAV, renAV, renL, Int.natCast_zero, runC, runT, capT]
  · have hg := flt_getR encW_len ws hi
    simp only [encW] at hg
    have f1 := runC_isK hk ws i
    have f2 := runC_len cs ws i
    have f3 := runC_B8 hb ws i
    have f4 := runC_succ cs hi
    have f5 := runT_succ cs ws i
    have f6 := runT_len cs ws i
    have g1 := runC_isK hk ws (i + 1)
    have g2 := runC_len cs ws (i + 1)
    have g3 := runC_B8 hb ws (i + 1)
    have l1 : i + 1 ≤ 549755813888 := by omega
    cases ht : decide ((rdV (un (runC cs ws (i + 1)))).2.2 < 0) with
    | true =>
      have ev : tellV (un (runC cs ws (i + 1))) = -1 := by simp only [tellV, ht, if_true]
      rw [ev] at f5
      simp (maxDischargeDepth := 8) only [vv, cc, bb, firstRegion, apartAll, clash, meets, execOp, opnd, builtinHM, bin, convHM, fillP, fieldsPlace, solid, inOrd, sliceHM, bound, zOK, appendHM, srcCells, borL, isSl, slLen, storeHM, loadHM, look1, idxAddr, arrAddr, cellsOf, TD.agg, loadedL, loaded, borrowed, isOwn, fieldR, partHM, absorbL, absorb1, setAt, killAV, killL, leafV, isNil, nilV, Array.toList, List.map, reduceIte, reduceCtorEq, Nat.reduceEqDiff, Nat.reduceAdd, Nat.reduceMul, Nat.reduceSub, Nat.reduceBEq, Nat.reduceLeDiff, Int.reduceLT, Int.reduceLE, Int.reduceGE, Int.reduceGT, Int.reduceBEq, Int.reduceBNe, Int.reduceToNat, Int.reduceNeg, Int.reduceSub, Int.reduceAdd, Int.reduceMul, callHM, packA, packL, pack1, lentOk, getLent, putBack, backK, renAV, renL, rr, lt_ok hi, hg]
      have wsu := wrap_succ hi hw'
      simp (maxDischargeDepth := 8) only [vv, cc, bb, firstRegion, apartAll, clash, meets, execOp, opnd, builtinHM, bin, convHM, fillP, fieldsPlace, solid, inOrd, sliceHM, bound, zOK, appendHM, srcCells, borL, isSl, slLen, storeHM, loadHM, look1, idxAddr, arrAddr, cellsOf, TD.agg, loadedL, loaded, borrowed, isOwn, fieldR, partHM, absorbL, absorb1, setAt, killAV, killL, leafV, getR, isNil, nilV, Array.toList, List.map, reduceIte, reduceCtorEq, Nat.reduceEqDiff, Nat.reduceAdd, Nat.reduceMul, Nat.reduceSub, Nat.reduceBEq, Nat.reduceLeDiff, Int.reduceLT, Int.reduceLE, Int.reduceGE, Int.reduceGT, Int.reduceBEq, Int.reduceBNe, Int.reduceToNat, Int.reduceNeg, Int.reduceSub, Int.reduceAdd, Int.reduceMul, callHM, packA, packL, pack1, lentOk, getLent, putBack, backK, renAV, renL, rr, f1, f2, f3, f4, f5, f6, g1, g2, g3, hn, h0, hl, ht, l1, e22, e25, wsu]
      refine hK _ ?_
      simp only [vv, ff, norm, Array.toList, List.map, reduceIte, reduceCtorEq, Nat.reduceEqDiff, Nat.reduceAdd, Nat.reduceMul, Nat.reduceSub, Nat.reduceBEq, Nat.reduceLeDiff, Int.reduceLT, Int.reduceLE, Int.reduceGE, Int.reduceGT, Int.reduceBEq, Int.reduceBNe, Int.reduceToNat, Int.reduceNeg, Int.reduceSub, Int.reduceAdd, Int.reduceMul, finish, wkAV, resOf, resa, noSnap, noSnapL, noSnapO, keep, liveKeys, keysL, keysAV, renAV, renL, wsu, capT]
    | false =>
      have ev : tellV (un (runC cs ws (i + 1))) = (rdV (un (runC cs ws (i + 1)))).1 := by simp only [tellV, ht]; rfl
      rw [ev] at f5
      simp (maxDischargeDepth := 8) only [vv, cc, bb, firstRegion, apartAll, clash, meets, execOp, opnd, builtinHM, bin, convHM, fillP, fieldsPlace, solid, inOrd, sliceHM, bound, zOK, appendHM, srcCells, borL, isSl, slLen, storeHM, loadHM, look1, idxAddr, arrAddr, cellsOf, TD.agg, loadedL, loaded, borrowed, isOwn, fieldR, partHM, absorbL, absorb1, setAt, killAV, killL, leafV, isNil, nilV, Array.toList, List.map, reduceIte, reduceCtorEq, Nat.reduceEqDiff, Nat.reduceAdd, Nat.reduceMul, Nat.reduceSub, Nat.reduceBEq, Nat.reduceLeDiff, Int.reduceLT, Int.reduceLE, Int.reduceGE, Int.reduceGT, Int.reduceBEq, Int.reduceBNe, Int.reduceToNat, Int.reduceNeg, Int.reduceSub, Int.reduceAdd, Int.reduceMul, callHM, packA, packL, pack1, lentOk, getLent, putBack, backK, renAV, renL, rr, lt_ok hi, hg]
      have wsu := wrap_succ hi hw'
      simp (maxDischargeDepth := 8) only [vv, cc, bb, firstRegion, apartAll, clash, meets, execOp, opnd, builtinHM, bin, convHM, fillP, fieldsPlace, solid, inOrd, sliceHM, bound, zOK, appendHM, srcCells, borL, isSl, slLen, storeHM, loadHM, look1, idxAddr, arrAddr, cellsOf, TD.agg, loadedL, loaded, borrowed, isOwn, fieldR, partHM, absorbL, absorb1, setAt, killAV, killL, leafV, getR, isNil, nilV, Array.toList, List.map, reduceIte, reduceCtorEq, Nat.reduceEqDiff, Nat.reduceAdd, Nat.reduceMul, Nat.reduceSub, Nat.reduceBEq, Nat.reduceLeDiff, Int.reduceLT, Int.reduceLE, Int.reduceGE, Int.reduceGT, Int.reduceBEq, Int.reduceBNe, Int.reduceToNat, Int.reduceNeg, Int.reduceSub, Int.reduceAdd, Int.reduceMul, callHM, packA, packL, pack1, lentOk, getLent, putBack, backK, renAV, renL, rr, f1, f2, f3, f4, f5, f6, g1, g2, g3, hn, h0, hl, ht, l1, e22, e25, wsu]
      refine hK _ ?_
      simp only [vv, ff, norm, Array.toList, List.map, reduceIte, reduceCtorEq, Nat.reduceEqDiff, Nat.reduceAdd, Nat.reduceMul, Nat.reduceSub, Nat.reduceBEq, Nat.reduceLeDiff, Int.reduceLT, Int.reduceLE, Int.reduceGE, Int.reduceGT, Int.reduceBEq, Int.reduceBNe, Int.reduceToNat, Int.reduceNeg, Int.reduceSub, Int.reduceAdd, Int.reduceMul, finish, wkAV, resOf, resa, noSnap, noSnapL, noSnapO, keep, liveKeys, keysL, keysAV, renAV, renL, wsu, capT]
  · simp only [vv, firstRegion, apartAll, clash, meets, execOp, opnd, builtinHM, bin, convHM, fillP, fieldsPlace, solid, inOrd, sliceHM, bound, zOK, appendHM, srcCells, borL, isSl, slLen, storeHM, loadHM, look1, idxAddr, arrAddr, cellsOf, TD.agg, loadedL, loaded, borrowed, isOwn, fieldR, partHM, absorbL, absorb1, setAt, killAV, killL, leafV, getR, isNil, nilV, Array.toList, List.map, reduceIte, reduceCtorEq, Nat.reduceEqDiff, Nat.reduceAdd, Nat.reduceMul, Nat.reduceSub, Nat.reduceBEq, Nat.reduceLeDiff, Int.reduceLT, Int.reduceLE, Int.reduceGE, Int.reduceGT, Int.reduceBEq, Int.reduceBNe, Int.reduceToNat, Int.reduceNeg, Int.reduceSub, Int.reduceAdd, Int.reduceMul, rr, lt_no]
    have s1 := isK_snap (runC_isK hk ws ws.length)
    simp only [vv, ff, firstRegion, apartAll, clash, meets, execOp, opnd, builtinHM, bin, convHM, fillP, fieldsPlace, solid, inOrd, sliceHM, bound, zOK, appendHM, srcCells, borL, isSl, slLen, storeHM, loadHM, look1, idxAddr, arrAddr, cellsOf, TD.agg, loadedL, loaded, borrowed, isOwn, fieldR, partHM, absorbL, absorb1, setAt, killAV, killL, leafV, getR, isNil, nilV, Array.toList, List.map, reduceIte, reduceCtorEq, Nat.reduceEqDiff, Nat.reduceAdd, Nat.reduceMul, Nat.reduceSub, Nat.reduceBEq, Nat.reduceLeDiff, Int.reduceLT, Int.reduceLE, Int.reduceGE, Int.reduceGT, Int.reduceBEq, Int.reduceBNe, Int.reduceToNat, Int.reduceNeg, Int.reduceSub, Int.reduceAdd, Int.reduceMul, finish, wkAV, resOf, resa, noSnap, noSnapL, noSnapO, keep, liveKeys, keysL, keysAV, renAV, renL, rr, s1]
theorem e33 (d : Nat) (tg tg' : Tg) (cap cap' : Option Nat) (n : Nat) (cs : List AV) (ws : List Wt) (hk : isK .u8 cs = true) (hn : cs.length = n) (hb : B8 (un cs)) (hl : n ≤ 549755813888) (hw : ws.length ≤ 60) :
    evFun E (d+11) 33 [.sl tg 1 n cap cs, .sl tg' 3 ws.length cap' (flat encW ws)] [] = some (.tup [.ref 0 [] 1 0 n none, .ref 1 [] 1 0 ws.length (capT ws.length)], [some (runC cs ws ws.length), some ((runT cs ws ws.length).map (iv .i64))]) := by
  refine evFun_body b33 ?_
  have hd : decide ((ws.length : Int) ≤ 60) = true := by simp; omega
  have hw' : ws.length ≤ 2 ^ 39 := by omega
  simp (maxDischargeDepth := 8) only [vv, cc, bb, firstRegion, apartAll, clash, meets, execOp, opnd, builtinHM, bin, convHM, fillP, fieldsPlace, solid, inOrd, sliceHM, bound, zOK, appendHM, srcCells, borL, isSl, slLen, storeHM, loadHM, look1, idxAddr, arrAddr, cellsOf, TD.agg, loadedL, loaded, borrowed, isOwn, fieldR, partHM, absorbL, absorb1, setAt, killAV, killL, leafV, getR, isNil, nilV, Array.toList, List.map, reduceIte, reduceCtorEq, Nat.reduceEqDiff, Nat.reduceAdd, Nat.reduceMul, Nat.reduceSub, Nat.reduceBEq, Nat.reduceLeDiff, Int.reduceLT, Int.reduceLE, Int.reduceGE, Int.reduceGT, Int.reduceBEq, Int.reduceBNe, Int.reduceToNat, Int.reduceNeg, Int.reduceSub, Int.reduceAdd, Int.reduceMul, callHM, packA, packL, pack1, lentOk, getLent, putBack, backK, renAV, renL, rr, Try.f33, hk, hn, hl, q47]
  refine loop_go (fun i => {T := tp [(1, .sl tg' 3 ws.length cap' (flat encW ws)), (6, .ref 0 [] 1 0 n none), (7, .ref 1 [] 1 0 i (capT i)), (8, vi i)], H := hp [some (runC cs ws i), some ((runT cs ws i).map (iv .i64))], nx := 2}) ws.length ?_ (lt_LF hw') (fun i hi Kn hK => ?_) (fun Kn => ?_)
  · simp only [vv, ff, norm, Array.toList, List.map, reduceIte, reduceCtorEq, Nat.reduceEqDiff, Nat.reduceAdd, Nat.reduceMul, Nat.reduceSub, Nat.reduceBEq, Nat.reduceLeDiff, Int.reduceLT, Int.reduceLE, Int.reduceGE, Int.reduceGT, Int.reduceBEq, Int.reduceBNe, Int.reduceToNat, Int.reduceNeg, Int.reduceSub, Int.reduceAdd, Int.reduceMul, finish, wkAV, resOf, resa, noSnap, noSnapL, noSnapO, keep, liveKeys, keysL, keysAV, renAV, renL, Int.natCast_zero, runC, runT, capT]
  · have h0 := flt_get encW_len ws i hi 0 (by decide)
    have h1 := flt_get encW_len ws i hi 1 (by decide)
    have h2 := flt_get encW_len ws i hi 2 (by decide)
    simp only [encW, List.getElem?_cons_zero, List.getElem?_cons_succ, Nat.add_zero] at h0 h1 h2
    have f1 := runC_isK hk ws i
    have f2 := runC_len cs ws i
    have f3 := runC_B8 hb ws i
    have f4 := runC_succ cs hi
    have f5 := runT_succ cs ws i
    have f6 := runT_len cs ws i
    have g1 := runC_isK hk ws (i + 1)
    have g2 := runC_len cs ws (i + 1)
    have g3 := runC_B8 hb ws (i + 1)
    have l1 : i + 1 ≤ 549755813888 := by omega
    have wsu := wrap_succ hi hw'
    cases ht : decide ((rdV (un (runC cs ws (i + 1)))).2.2 < 0) with
    | true =>
      have ev : tellV (un (runC cs ws (i + 1))) = -1 := by simp only [tellV, ht, if_true]
      rw [ev] at f5
      simp (maxDischargeDepth := 8) only [vv, cc, bb, firstRegion, apartAll, clash, meets, execOp, opnd, builtinHM, bin, convHM, fillP, fieldsPlace, solid, inOrd, sliceHM, bound, zOK, appendHM, srcCells, borL, isSl, slLen, storeHM, loadHM, look1, idxAddr, arrAddr, cellsOf, TD.agg, loadedL, loaded, borrowed, isOwn, fieldR, partHM, absorbL, absorb1, setAt, killAV, killL, leafV, getR, isNil, nilV, Array.toList, List.map, reduceIte, reduceCtorEq, Nat.reduceEqDiff, Nat.reduceAdd, Nat.reduceMul, Nat.reduceSub, Nat.reduceBEq, Nat.reduceLeDiff, Int.reduceLT, Int.reduceLE, Int.reduceGE, Int.reduceGT, Int.reduceBEq, Int.reduceBNe, Int.reduceToNat, Int.reduceNeg, Int.reduceSub, Int.reduceAdd, Int.reduceMul, callHM, packA, packL, pack1, lentOk, getLent, putBack, backK, renAV, renL, rr, lt_ok hi, hd, h0, h1, h2, f1, f2, f3, f4, f5, f6, g1, g2, g3, hn, hl, ht, l1, e20, e49, wsu]
      repeat' ((with_reducible refine condT ?_ ?_); (focus kernel_rfl); try simp (maxDischargeDepth := 8) only [vv, cc, bb, firstRegion, apartAll, clash, meets, execOp, opnd, builtinHM, bin, convHM, fillP, fieldsPlace, solid, inOrd, sliceHM, bound, zOK, appendHM, srcCells, borL, isSl, slLen, storeHM, loadHM, look1, idxAddr, arrAddr, cellsOf, TD.agg, loadedL, loaded, borrowed, isOwn, fieldR, partHM, absorbL, absorb1, setAt, killAV, killL, leafV, getR, isNil, nilV, Array.toList, List.map, reduceIte, reduceCtorEq, Nat.reduceEqDiff, Nat.reduceAdd, Nat.reduceMul, Nat.reduceSub, Nat.reduceBEq, Nat.reduceLeDiff, Int.reduceLT, Int.reduceLE, Int.reduceGE, Int.reduceGT, Int.reduceBEq, Int.reduceBNe, Int.reduceToNat, Int.reduceNeg, Int.reduceSub, Int.reduceAdd, Int.reduceMul, callHM, packA, packL, pack1, lentOk, getLent, putBack, backK, renAV, renL, rr, lt_ok hi, hd, h0, h1, h2, f1, f2, f3, f4, f5, f6, g1, g2, g3, hn, hl, ht, l1, e20, e49, wsu])
      refine hK _ ?_
      simp only [vv, ff, norm, Array.toList, List.map, reduceIte, reduceCtorEq, Nat.reduceEqDiff, Nat.reduceAdd, Nat.reduceMul, Nat.reduceSub, Nat.reduceBEq, Nat.reduceLeDiff, Int.reduceLT, Int.reduceLE, Int.reduceGE, Int.reduceGT, Int.reduceBEq, Int.reduceBNe, Int.reduceToNat, Int.reduceNeg, Int.reduceSub, Int.reduceAdd, Int.reduceMul, finish, wkAV, resOf, resa, noSnap, noSnapL, noSnapO, keep, liveKeys, keysL, keysAV, renAV, renL, wsu, capT]
    | false =>
      have ev : tellV (un (runC cs ws (i + 1))) = (rdV (un (runC cs ws (i + 1)))).1 := by simp only [tellV, ht]; rfl
      rw [ev] at f5
      simp (maxDischargeDepth := 8) only [vv, cc, bb, firstRegion, apartAll, clash, meets, execOp, opnd, builtinHM, bin, convHM, fillP, fieldsPlace, solid, inOrd, sliceHM, bound, zOK, appendHM, srcCells, borL, isSl, slLen, storeHM, loadHM, look1, idxAddr, arrAddr, cellsOf, TD.agg, loadedL, loaded, borrowed, isOwn, fieldR, partHM, absorbL, absorb1, setAt, killAV, killL, leafV, getR, isNil, nilV, Array.toList, List.map, reduceIte, reduceCtorEq, Nat.reduceEqDiff, Nat.reduceAdd, Nat.reduceMul, Nat.reduceSub, Nat.reduceBEq, Nat.reduceLeDiff, Int.reduceLT, Int.reduceLE, Int.reduceGE, Int.reduceGT, Int.reduceBEq, Int.reduceBNe, Int.reduceToNat, Int.reduceNeg, Int.reduceSub, Int.reduceAdd, Int.reduceMul, callHM, packA, packL, pack1, lentOk, getLent, putBack, backK, renAV, renL, rr, lt_ok hi, hd, h0, h1, h2, f1, f2, f3, f4, f5, f6, g1, g2, g3, hn, hl, ht, l1, e20, e49, wsu]
      repeat' ((with_reducible refine condT ?_ ?_); (focus kernel_rfl); try simp (maxDischargeDepth := 8) only [vv, cc, bb, firstRegion, apartAll, clash, meets, execOp, opnd, builtinHM, bin, convHM, fillP, fieldsPlace, solid, inOrd, sliceHM, bound, zOK, appendHM, srcCells, borL, isSl, slLen, storeHM, loadHM, look1, idxAddr, arrAddr, cellsOf, TD.agg, loadedL, loaded, borrowed, isOwn, fieldR, partHM, absorbL, absorb1, setAt, killAV, killL, leafV, getR, isNil, nilV, Array.toList, List.map, reduceIte, reduceCtorEq, Nat.reduceEqDiff, Nat.reduceAdd, Nat.reduceMul, Nat.reduceSub, Nat.reduceBEq, Nat.reduceLeDiff, Int.reduceLT, Int.reduceLE, Int.reduceGE, Int.reduceGT, Int.reduceBEq, Int.reduceBNe, Int.reduceToNat, Int.reduceNeg, Int.reduceSub, Int.reduceAdd, Int.reduceMul, callHM, packA, packL, pack1, lentOk, getLent, putBack, backK, renAV, renL, rr, lt_ok hi, hd, h0, h1, h2, f1, f2, f3, f4, f5, f6, g1, g2, g3, hn, hl, ht, l1, e20, e49, wsu])
      refine hK _ ?_
      simp only [vv, ff, norm, Array.toList, List.map, reduceIte, reduceCtorEq, Nat.reduceEqDiff, Nat.reduceAdd, Nat.reduceMul, Nat.reduceSub, Nat.reduceBEq, Nat.reduceLeDiff, Int.reduceLT, Int.reduceLE, Int.reduceGE, Int.reduceGT, Int.reduceBEq, Int.reduceBNe, Int.reduceToNat, Int.reduceNeg, Int.reduceSub, Int.reduceAdd, Int.reduceMul, finish, wkAV, resOf, resa, noSnap, noSnapL, noSnapO, keep, liveKeys, keysL, keysAV, renAV, renL, wsu, capT]
  · simp only [vv, firstRegion, apartAll, clash, meets, execOp, opnd, builtinHM, bin, convHM, fillP, fieldsPlace, solid, inOrd, sliceHM, bound, zOK, appendHM, srcCells, borL, isSl, slLen, storeHM, loadHM, look1, idxAddr, arrAddr, cellsOf, TD.agg, loadedL, loaded, borrowed, isOwn, fieldR, partHM, absorbL, absorb1, setAt, killAV, killL, leafV, getR, isNil, nilV, Array.toList, List.map, reduceIte, reduceCtorEq, Nat.reduceEqDiff, Nat.reduceAdd, Nat.reduceMul, Nat.reduceSub, Nat.reduceBEq, Nat.reduceLeDiff, Int.reduceLT, Int.reduceLE, Int.reduceGE, Int.reduceGT, Int.reduceBEq, Int.reduceBNe, Int.reduceToNat, Int.reduceNeg, Int.reduceSub, Int.reduceAdd, Int.reduceMul, rr, lt_no]
    have s1 := isK_snap (runC_isK hk ws ws.length)
    simp only [vv, ff, firstRegion, apartAll, clash, meets, execOp, opnd, builtinHM, bin, convHM, fillP, fieldsPlace, solid, inOrd, sliceHM, bound, zOK, appendHM, srcCells, borL, isSl, slLen, storeHM, loadHM, look1, idxAddr, arrAddr, cellsOf, TD.agg, loadedL, loaded, borrowed, isOwn, fieldR, partHM, absorbL, absorb1, setAt, killAV, killL, leafV, getR, isNil, nilV, Array.toList, List.map, reduceIte, reduceCtorEq, Nat.reduceEqDiff, Nat.reduceAdd, Nat.reduceMul, Nat.reduceSub, Nat.reduceBEq, Nat.reduceLeDiff, Int.reduceLT, Int.reduceLE, Int.reduceGE, Int.reduceGT, Int.reduceBEq, Int.reduceBNe, Int.reduceToNat, Int.reduceNeg, Int.reduceSub, Int.reduceAdd, Int.reduceMul, finish, wkAV, resOf, resa, noSnap, noSnapL, noSnapO, keep, liveKeys, keysL, keysAV, renAV, renL, rr, s1]
theorem m33 (d : Nat) (tg tg' : Tg) (cap cap' : Option Nat) (n : Nat) (cs : List AV) (m : Nat) (W : List AV) (hk : isK .u8 cs = true) (hn : cs.length = n) (hl : n ≤ 549755813888) (hw : 60 < m) :
    evFun E (d+11) 33 [.sl tg 1 n cap cs, .sl tg' 3 m cap' W] [] = some (.tup [.ref 0 [] 1 0 n none, .ref 1 [] 1 0 0 (some 0)], [some cs, some []]) := by
  refine evFun_body b33 ?_
  have hd : decide ((m : Int) ≤ 60) = false := by simp; omega
  have hd0 : decide ((0 : Int) < (m : Int)) = true := by simp; omega
  have e2 := isK_snap hk
  simp only [vv, cc, ff, uu, norm, firstRegion, apartAll, clash, meets, execOp, opnd, builtinHM, bin, convHM, fillP, fieldsPlace, solid, inOrd, sliceHM, bound, zOK, appendHM, srcCells, borL, isSl, slLen, storeHM, loadHM, look1, idxAddr, arrAddr, cellsOf, TD.agg, loadedL, loaded, borrowed, isOwn, fieldR, partHM, absorbL, absorb1, setAt, killAV, killL, leafV, getR, isNil, nilV, Array.toList, List.map, reduceIte, reduceCtorEq, Nat.reduceEqDiff, Nat.reduceAdd, Nat.reduceMul, Nat.reduceSub, Nat.reduceBEq, Nat.reduceLeDiff, Int.reduceLT, Int.reduceLE, Int.reduceGE, Int.reduceGT, Int.reduceBEq, Int.reduceBNe, Int.reduceToNat, Int.reduceNeg, Int.reduceSub, Int.reduceAdd, Int.reduceMul, callHM, packA, packL, pack1, lentOk, getLent, putBack, backK, renAV, renL, finish, wkAV, resOf, resa, noSnap, noSnapL, noSnapO, keep, liveKeys, keysL, keysAV, rr, bb, Try.f33, hk, hn, hl, q47, hd, hd0, e2]
theorem m31 (d : Nat) (tg tg' : Tg) (cap cap' : Option Nat) (n : Nat) (cs : List AV) (m : Nat) (W : List AV) (hk : isK .u8 cs = true) (hn : cs.length = n) (h0 : 0 < n) (hl : n ≤ 549755813888) (hw : 60 < m) :
    evFun E (d+11) 31 [.sl tg 1 n cap cs, .sl tg' 3 m cap' W] [] = some (.tup [.ref 0 [] 1 0 n none, .val nilV], [some cs]) := by
  refine evFun_body b31 ?_
  have hd : decide ((m : Int) > 60) = true := by simp; omega
  have e2 := isK_snap hk
  simp (maxDischargeDepth := 8) only [vv, cc, bb, firstRegion, apartAll, clash, meets, execOp, opnd, builtinHM, bin, convHM, fillP, fieldsPlace, solid, inOrd, sliceHM, bound, zOK, appendHM, srcCells, borL, isSl, slLen, storeHM, loadHM, look1, idxAddr, arrAddr, cellsOf, TD.agg, loadedL, loaded, borrowed, isOwn, fieldR, partHM, absorbL, absorb1, setAt, killAV, killL, leafV, getR, isNil, nilV, Array.toList, List.map, reduceIte, reduceCtorEq, Nat.reduceEqDiff, Nat.reduceAdd, Nat.reduceMul, Nat.reduceSub, Nat.reduceBEq, Nat.reduceLeDiff, Int.reduceLT, Int.reduceLE, Int.reduceGE, Int.reduceGT, Int.reduceBEq, Int.reduceBNe, Int.reduceToNat, Int.reduceNeg, Int.reduceSub, Int.reduceAdd, Int.reduceMul, callHM, packA, packL, pack1, lentOk, getLent, putBack, backK, renAV, renL, rr, Try.f31, hk, hn, hl, h0, q51, hd]
  repeat' ((with_reducible refine condT ?_ ?_); (focus kernel_rfl); try simp (maxDischargeDepth := 8) only [vv, cc, bb, firstRegion, apartAll, clash, meets, execOp, opnd, builtinHM, bin, convHM, fillP, fieldsPlace, solid, inOrd, sliceHM, bound, zOK, appendHM, srcCells, borL, isSl, slLen, storeHM, loadHM, look1, idxAddr, arrAddr, cellsOf, TD.agg, loadedL, loaded, borrowed, isOwn, fieldR, partHM, absorbL, absorb1, setAt, killAV, killL, leafV, getR, isNil, nilV, Array.toList, List.map, reduceIte, reduceCtorEq, Nat.reduceEqDiff, Nat.reduceAdd, Nat.reduceMul, Nat.reduceSub, Nat.reduceBEq, Nat.reduceLeDiff, Int.reduceLT, Int.reduceLE, Int.reduceGE, Int.reduceGT, Int.reduceBEq, Int.reduceBNe, Int.reduceToNat, Int.reduceNeg, Int.reduceSub, Int.reduceAdd, Int.reduceMul, callHM, packA, packL, pack1, lentOk, getLent, putBack, backK, renAV, renL, rr, hk, hn, hl, h0, q51, hd])
  simp only [vv, ff, firstRegion, apartAll, clash, meets, execOp, opnd, builtinHM, bin, convHM, fillP, fieldsPlace, solid, inOrd, sliceHM, bound, zOK, appendHM, srcCells, borL, isSl, slLen, storeHM, loadHM, look1, idxAddr, arrAddr, cellsOf, TD.agg, loadedL, loaded, borrowed, isOwn, fieldR, partHM, absorbL, absorb1, setAt, killAV, killL, leafV, getR, isNil, nilV, Array.toList, List.map, reduceIte, reduceCtorEq, Nat.reduceEqDiff, Nat.reduceAdd, Nat.reduceMul, Nat.reduceSub, Nat.reduceBEq, Nat.reduceLeDiff, Int.reduceLT, Int.reduceLE, Int.reduceGE, Int.reduceGT, Int.reduceBEq, Int.reduceBNe, Int.reduceToNat, Int.reduceNeg, Int.reduceSub, Int.reduceAdd, Int.reduceMul, finish, wkAV, resOf, resa, noSnap, noSnapL, noSnapO, keep, liveKeys, keysL, keysAV, renAV, renL, rr, e2, nilV]
theorem k31 (d : Nat) (tg tg' : Tg) (cap cap' : Option Nat) (m : Nat) (W : List AV) (hw : 60 < m) :
    evFun E (d+11) 31 [.sl tg 1 0 cap [], .sl tg' 3 m cap' W] [] = some (.tup [.sl .fgn 1 0 none [], .val nilV], []) := by
  refine evFun_body b31 ?_
  have hd : decide ((m : Int) > 60) = true := by simp; omega
  simp (maxDischargeDepth := 8) only [vv, cc, bb, firstRegion, apartAll, clash, meets, execOp, opnd, builtinHM, bin, convHM, fillP, fieldsPlace, solid, inOrd, sliceHM, bound, zOK, appendHM, srcCells, borL, isSl, slLen, storeHM, loadHM, look1, idxAddr, arrAddr, cellsOf, TD.agg, loadedL, loaded, borrowed, isOwn, fieldR, partHM, absorbL, absorb1, setAt, killAV, killL, leafV, getR, isNil, nilV, Array.toList, List.map, reduceIte, reduceCtorEq, Nat.reduceEqDiff, Nat.reduceAdd, Nat.reduceMul, Nat.reduceSub, Nat.reduceBEq, Nat.reduceLeDiff, Int.reduceLT, Int.reduceLE, Int.reduceGE, Int.reduceGT, Int.reduceBEq, Int.reduceBNe, Int.reduceToNat, Int.reduceNeg, Int.reduceSub, Int.reduceAdd, Int.reduceMul, callHM, packA, packL, pack1, lentOk, getLent, putBack, backK, renAV, renL, rr, Try.f31, z51, hd]
  repeat' ((with_reducible refine condT ?_ ?_); (focus kernel_rfl); try simp (maxDischargeDepth := 8) only [vv, cc, bb, firstRegion, apartAll, clash, meets, execOp, opnd, builtinHM, bin, convHM, fillP, fieldsPlace, solid, inOrd, sliceHM, bound, zOK, appendHM, srcCells, borL, isSl, slLen, storeHM, loadHM, look1, idxAddr, arrAddr, cellsOf, TD.agg, loadedL, loaded, borrowed, isOwn, fieldR, partHM, absorbL, absorb1, setAt, killAV, killL, leafV, getR, isNil, nilV, Array.toList, List.map, reduceIte, reduceCtorEq, Nat.reduceEqDiff, Nat.reduceAdd, Nat.reduceMul, Nat.reduceSub, Nat.reduceBEq, Nat.reduceLeDiff, Int.reduceLT, Int.reduceLE, Int.reduceGE, Int.reduceGT, Int.reduceBEq, Int.reduceBNe, Int.reduceToNat, Int.reduceNeg, Int.reduceSub, Int.reduceAdd, Int.reduceMul, callHM, packA, packL, pack1, lentOk, getLent, putBack, backK, renAV, renL, rr, z51, hd])
  simp only [vv, ff, firstRegion, apartAll, clash, meets, execOp, opnd, builtinHM, bin, convHM, fillP, fieldsPlace, solid, inOrd, sliceHM, bound, zOK, appendHM, srcCells, borL, isSl, slLen, storeHM, loadHM, look1, idxAddr, arrAddr, cellsOf, TD.agg, loadedL, loaded, borrowed, isOwn, fieldR, partHM, absorbL, absorb1, setAt, killAV, killL, leafV, getR, isNil, nilV, Array.toList, List.map, reduceIte, reduceCtorEq, Nat.reduceEqDiff, Nat.reduceAdd, Nat.reduceMul, Nat.reduceSub, Nat.reduceBEq, Nat.reduceLeDiff, Int.reduceLT, Int.reduceLE, Int.reduceGE, Int.reduceGT, Int.reduceBEq, Int.reduceBNe, Int.reduceToNat, Int.reduceNeg, Int.reduceSub, Int.reduceAdd, Int.reduceMul, finish, wkAV, resOf, resa, noSnap, noSnapL, noSnapO, keep, liveKeys, keysL, keysAV, renAV, renL, rr, nilV]
theorem runC_nil (ws : List Wt) : ∀ i, runC [] ws i = []
  | 0 => rfl
  | i + 1 => by
    have := runC_len [] ws (i + 1)
    exact List.eq_nil_of_length_eq_zero this
theorem z31 (d : Nat) (tg tg' : Tg) (cap cap' : Option Nat) (ws : List Wt) (hw : ws.length ≤ 60) :
    evFun E (d+11) 31 [.sl tg 1 0 cap [], .sl tg' 3 ws.length cap' (flat encW ws)] [] = some (.tup [.sl .fgn 1 0 none [], .ref 0 [] 1 0 ws.length (capT ws.length)], [some ((runT [] ws ws.length).map (iv .i64))]) := by
  refine evFun_body b31 ?_
  have hd : decide ((ws.length : Int) > 60) = false := by simp; omega
  have hw' : ws.length ≤ 2 ^ 39 := by omega
  simp (maxDischargeDepth := 8) only [vv, cc, bb, firstRegion, apartAll, clash, meets, execOp, opnd, builtinHM, bin, convHM, fillP, fieldsPlace, solid, inOrd, sliceHM, bound, zOK, appendHM, srcCells, borL, isSl, slLen, storeHM, loadHM, look1, idxAddr, arrAddr, cellsOf, TD.agg, loadedL, loaded, borrowed, isOwn, fieldR, partHM, absorbL, absorb1, setAt, killAV, killL, leafV, getR, isNil, nilV, Array.toList, List.map, reduceIte, reduceCtorEq, Nat.reduceEqDiff, Nat.reduceAdd, Nat.reduceMul, Nat.reduceSub, Nat.reduceBEq, Nat.reduceLeDiff, Int.reduceLT, Int.reduceLE, Int.reduceGE, Int.reduceGT, Int.reduceBEq, Int.reduceBNe, Int.reduceToNat, Int.reduceNeg, Int.reduceSub, Int.reduceAdd, Int.reduceMul, callHM, packA, packL, pack1, lentOk, getLent, putBack, backK, renAV, renL, rr, Try.f31, z51, hd]
  repeat' ((with_reducible refine condT ?_ ?_); (focus kernel_rfl); try simp (maxDischargeDepth := 8) only [vv, cc, bb, firstRegion, apartAll, clash, meets, execOp, opnd, builtinHM, bin, convHM, fillP, fieldsPlace, solid, inOrd, sliceHM, bound, zOK, appendHM, srcCells, borL, isSl, slLen, storeHM, loadHM, look1, idxAddr, arrAddr, cellsOf, TD.agg, loadedL, loaded, borrowed, isOwn, fieldR, partHM, absorbL, absorb1, setAt, killAV, killL, leafV, getR, isNil, nilV, Array.toList, List.map, reduceIte, reduceCtorEq, Nat.reduceEqDiff, Nat.reduceAdd, Nat.reduceMul, Nat.reduceSub, Nat.reduceBEq, Nat.reduceLeDiff, Int.reduceLT, Int.reduceLE, Int.reduceGE, Int.reduceGT, Int.reduceBEq, Int.reduceBNe, Int.reduceToNat, Int.reduceNeg, Int.reduceSub, Int.reduceAdd, Int.reduceMul, callHM, packA, packL, pack1, lentOk, getLent, putBack, backK, renAV, renL, rr, z51, hd])
  refine loop_go (fun i => {T := tp [(6, .sl .fgn 1 0 none []), (7, .ref 0 [] 1 0 i (capT i)), (20, .sl tg' 3 ws.length cap' (flat encW ws)), (21, vi ws.length), (22, vi i)], H := hp [some ((runT [] ws i).map (iv .i64))], nx := 1}) ws.length ?_ (lt_LF hw') (fun i hi Kn hK => ?_) (fun Kn => ?_)
  · simp only [vv, ff, norm, Array.toList, List.map, reduceIte, reduceCtorEq, Nat.reduceEqDiff, Nat.reduceAdd, Nat.reduceMul, Nat.reduceSub, Nat.reduceBEq, Nat.reduceLeDiff, Int.reduceLT, Int.reduceLE, Int.reduceGE, Int.reduceGT, Int.reduceBEq, Int.reduceBNe, Int.reduceToNat, Int.reduceNeg, Int.reduceSub, Int.reduceAdd, Int.reduceMul, finish, wkAV, resOf, resa, noSnap, noSnapL, noSnapO, keep, liveKeys, keysL, keysAV, renAV, renL, Int.natCast_zero, runC, runT, capT]
  · have hg := flt_getR encW_len ws hi
    simp only [encW] at hg
    have f5 := runT_succ [] ws i
    have f6 := runT_len [] ws i
    have l1 : i + 1 ≤ 549755813888 := by omega
    have ev : tellV (un (runC [] ws (i + 1))) = -1 := by rw [runC_nil]; rfl
    have er : rdV [] = (0, 0, -1) := rfl
    rw [ev] at f5
    simp (maxDischargeDepth := 8) only [vv, cc, bb, firstRegion, apartAll, clash, meets, execOp, opnd, builtinHM, bin, convHM, fillP, fieldsPlace, solid, inOrd, sliceHM, bound, zOK, appendHM, srcCells, borL, isSl, slLen, storeHM, loadHM, look1, idxAddr, arrAddr, cellsOf, TD.agg, loadedL, loaded, borrowed, isOwn, fieldR, partHM, absorbL, absorb1, setAt, killAV, killL, leafV, isNil, nilV, Array.toList, List.map, reduceIte, reduceCtorEq, Nat.reduceEqDiff, Nat.reduceAdd, Nat.reduceMul, Nat.reduceSub, Nat.reduceBEq, Nat.reduceLeDiff, Int.reduceLT, Int.reduceLE, Int.reduceGE, Int.reduceGT, Int.reduceBEq, Int.reduceBNe, Int.reduceToNat, Int.reduceNeg, Int.reduceSub, Int.reduceAdd, Int.reduceMul, callHM, packA, packL, pack1, lentOk, getLent, putBack, backK, renAV, renL, rr, lt_ok hi, hg]
    have wsu := wrap_succ hi hw'
    simp (maxDischargeDepth := 8) only [vv, cc, bb, firstRegion, apartAll, clash, meets, execOp, opnd, builtinHM, bin, convHM, fillP, fieldsPlace, solid, inOrd, sliceHM, bound, zOK, appendHM, srcCells, borL, isSl, slLen, storeHM, loadHM, look1, idxAddr, arrAddr, cellsOf, TD.agg, loadedL, loaded, borrowed, isOwn, fieldR, partHM, absorbL, absorb1, setAt, killAV, killL, leafV, getR, isNil, nilV, Array.toList, List.map, reduceIte, reduceCtorEq, Nat.reduceEqDiff, Nat.reduceAdd, Nat.reduceMul, Nat.reduceSub, Nat.reduceBEq, Nat.reduceLeDiff, Int.reduceLT, Int.reduceLE, Int.reduceGE, Int.reduceGT, Int.reduceBEq, Int.reduceBNe, Int.reduceToNat, Int.reduceNeg, Int.reduceSub, Int.reduceAdd, Int.reduceMul, callHM, packA, packL, pack1, lentOk, getLent, putBack, backK, renAV, renL, rr, f5, f6, er, l1, z22, e25, wsu]
    refine hK _ ?_
    simp only [vv, ff, norm, Array.toList, List.map, reduceIte, reduceCtorEq, Nat.reduceEqDiff, Nat.reduceAdd, Nat.reduceMul, Nat.reduceSub, Nat.reduceBEq, Nat.reduceLeDiff, Int.reduceLT, Int.reduceLE, Int.reduceGE, Int.reduceGT, Int.reduceBEq, Int.reduceBNe, Int.reduceToNat, Int.reduceNeg, Int.reduceSub, Int.reduceAdd, Int.reduceMul, finish, wkAV, resOf, resa, noSnap, noSnapL, noSnapO, keep, liveKeys, keysL, keysAV, renAV, renL, wsu, capT]
  · simp only [vv, firstRegion, apartAll, clash, meets, execOp, opnd, builtinHM, bin, convHM, fillP, fieldsPlace, solid, inOrd, sliceHM, bound, zOK, appendHM, srcCells, borL, isSl, slLen, storeHM, loadHM, look1, idxAddr, arrAddr, cellsOf, TD.agg, loadedL, loaded, borrowed, isOwn, fieldR, partHM, absorbL, absorb1, setAt, killAV, killL, leafV, getR, isNil, nilV, Array.toList, List.map, reduceIte, reduceCtorEq, Nat.reduceEqDiff, Nat.reduceAdd, Nat.reduceMul, Nat.reduceSub, Nat.reduceBEq, Nat.reduceLeDiff, Int.reduceLT, Int.reduceLE, Int.reduceGE, Int.reduceGT, Int.reduceBEq, Int.reduceBNe, Int.reduceToNat, Int.reduceNeg, Int.reduceSub, Int.reduceAdd, Int.reduceMul, rr, lt_no]
    simp only [vv, ff, firstRegion, apartAll, clash, meets, execOp, opnd, builtinHM, bin, convHM, fillP, fieldsPlace, solid, inOrd, sliceHM, bound, zOK, appendHM, srcCells, borL, isSl, slLen, storeHM, loadHM, look1, idxAddr, arrAddr, cellsOf, TD.agg, loadedL, loaded, borrowed, isOwn, fieldR, partHM, absorbL, absorb1, setAt, killAV, killL, leafV, getR, isNil, nilV, Array.toList, List.map, reduceIte, reduceCtorEq, Nat.reduceEqDiff, Nat.reduceAdd, Nat.reduceMul, Nat.reduceSub, Nat.reduceBEq, Nat.reduceLeDiff, Int.reduceLT, Int.reduceLE, Int.reduceGE, Int.reduceGT, Int.reduceBEq, Int.reduceBNe, Int.reduceToNat, Int.reduceNeg, Int.reduceSub, Int.reduceAdd, Int.reduceMul, finish, wkAV, resOf, resa, noSnap, noSnapL, noSnapO, keep, liveKeys, keysL, keysAV, renAV, renL, rr]
end Go.Proofs.Ytjkkndgbhcmphaa.VH.S
end

