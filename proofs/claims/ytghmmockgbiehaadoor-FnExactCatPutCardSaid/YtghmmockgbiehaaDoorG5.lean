/- Part of a proof about the given program: a verified evaluator, and what it tells of the functions (VhGFCg, VhGFMk, VhGFCx, VhGFIn, VhGFCu). Conditions: none beyond the hypotheses that each theorem states. -/
import Derived.Test.YtghmmockgbiehaaDoorG4
import Derived.Test.YtghmmockgbiehaaDoorG3
set_option linter.unusedSimpArgs false
set_option linter.unusedVariables false
set_option linter.defProp false
section
namespace Go.Proofs.YtghmmockgbiehaaDoor.VH.S
open Go.Proofs
set_option maxRecDepth 100000
set_option maxHeartbeats 8000000
set_option linter.unusedSimpArgs false

theorem e37 (d : Nat) (L : List Ent) (t : List UInt8) (tg : Tg) (c : Option Nat) (hl : L.length ≤ 549755813888) (hs : Sorted L) : evFun E (d+6) 37 [.sl tg 4 L.length c (flat encE L), vs t] [] = some (.tup [vi (lb L t), vb (hasE L t)], []) := by
  refine evFun_body b37 ?_
  (repeat' (first | simp (maxDischargeDepth := 8) only [go_sem, rr, reduceIte, reduceCtorEq, Nat.reduceEqDiff, Nat.reduceAdd, Nat.reduceMul, Nat.reduceSub, Nat.reduceBEq, Nat.reduceLeDiff, Int.reduceEq, Int.reduceLT, Int.reduceLE, Int.reduceGE, Int.reduceGT, Int.reduceBEq, Int.reduceBNe, Int.reduceToNat, Int.reduceNeg, Int.reduceSub, Int.reduceAdd, Int.reduceMul, Tryd.f37] | (with_reducible refine qg6 ?_ ?_; focus (first | (simp (maxDischargeDepth := 8) only [bb, kk]; done) | kernel_rfl)) | ((with_reducible first | refine qf4 ?_ ?_ | refine qf5 ?_ ?_ | refine qf6 ?_ ?_ | refine qf7 ?_ ?_ | refine qf8 ?_ ?_ | refine qf9 ?_ ?_ | refine qg ?_ ?_); focus (first | assumption | omega | (simp only [bz]; omega))) | ((with_reducible first | refine qg0 ?_ ?_ | refine qg1 ?_ ?_ | refine qg2 ?_ ?_); focus (first | assumption | omega | (simp only [bz]; omega))) | ((with_reducible first | refine g1_u8w ?_ ?_ | refine qg4 ?_ ?_); (focus ((repeat' (with_reducible apply And.intro)) <;> (first | assumption | omega | (simp only [bz]; omega) | (simp (maxDischargeDepth := 8) only [bb]; done)))); intro _) | (with_reducible apply call_elim; focus ((with_reducible first | apply e51) <;> (first | assumption | omega | (simp only [bz]; omega) | (simp (maxDischargeDepth := 8) only [bb]; done))))))
def fi (L : List Ent) (t : List UInt8) : Nat := ((List.range L.length).takeWhile fun i => !((eA L i).nm == t)).length
theorem fi_le (L : List Ent) (t : List UInt8) : fi L t ≤ L.length := by
  have := takeWhile_le (fun i => !((eA L i).nm == t)) (List.range L.length)
  simpa [fi] using this
theorem fi_lt {L : List Ent} {t : List UInt8} {i : Nat} (h : i < fi L t) : ((eA L i).nm == t) = false := by
  obtain ⟨h1, h2⟩ := takeWhile_lt (fun i => !((eA L i).nm == t)) (List.range L.length) i h
  rw [List.getElem_range] at h2
  simpa using h2
theorem fi_at {L : List Ent} {t : List UInt8} (h : fi L t < L.length) : ((eA L (fi L t)).nm == t) = true := by
  have := takeWhile_at (fun i => !((eA L i).nm == t)) (List.range L.length) (by rw [List.length_range]; exact h)
  rw [List.getElem_range] at this
  simpa [fi] using this
theorem fi_has {L : List Ent} (hs : Sorted L) (t : List UInt8) : (hasE L t = true → fi L t = lb L t ∧ fi L t < L.length) ∧ (hasE L t = false → fi L t = L.length) := by
  have hle := fi_le L t
  constructor
  · intro h
    simp only [hasE, Bool.and_eq_true, decide_eq_true_eq, beq_iff_eq] at h
    have h1 : fi L t ≤ lb L t := by
      refine Classical.byContradiction fun hh => ?_
      have := fi_lt (L := L) (t := t) (show lb L t < fi L t by omega)
      rw [h.2] at this; simp at this
    have h2 : fi L t < L.length := by omega
    have h3 : lb L t ≤ fi L t := by
      refine Classical.byContradiction fun hh => ?_
      have := lb_lt (L := L) (t := t) (show fi L t < lb L t by omega)
      have h4 := fi_at h2
      rw [beq_iff_eq] at h4
      rw [h4, ltB_irrefl] at this; simp at this
    exact ⟨by omega, h2⟩
  · intro h
    refine Classical.byContradiction fun hh => ?_
    have h2 : fi L t < L.length := by omega
    have h4 := fi_at h2
    rw [beq_iff_eq] at h4
    have h5 : lb L t = fi L t := by
      refine Classical.byContradiction fun hne => ?_
      rcases Nat.lt_or_gt_of_ne hne with hlt | hgt
      · have h6 := lb_at (L := L) (t := t) (by omega)
        have := hs _ _ hlt h2
        rw [h4, h6] at this; simp at this
      · have := lb_lt (L := L) (t := t) hgt
        rw [h4, ltB_irrefl] at this; simp at this
    simp [hasE, h5, h2, h4] at h
theorem e33 (d : Nat) (L : List Ent) (t : List UInt8) (tg : Tg) (c : Option Nat) (hl : L.length ≤ 549755813888) : evFun E (d+1) 33 [.sl tg 4 L.length c (flat encE L), vs t] [] = some (vi (if fi L t < L.length then (fi L t : Int) else -1), []) := by
  refine evFun_body b33 ?_
  have hle := fi_le L t
  (repeat' (first | simp (maxDischargeDepth := 8) only [go_sem, rr, reduceIte, reduceCtorEq, Nat.reduceEqDiff, Nat.reduceAdd, Nat.reduceMul, Nat.reduceSub, Nat.reduceBEq, Nat.reduceLeDiff, Int.reduceEq, Int.reduceLT, Int.reduceLE, Int.reduceGE, Int.reduceGT, Int.reduceBEq, Int.reduceBNe, Int.reduceToNat, Int.reduceNeg, Int.reduceSub, Int.reduceAdd, Int.reduceMul, Tryd.f33] | (with_reducible refine qg6 ?_ ?_; focus (first | (simp (maxDischargeDepth := 8) only [bb, kk]; done) | kernel_rfl)) | ((with_reducible first | refine qf4 ?_ ?_ | refine qf5 ?_ ?_ | refine qf6 ?_ ?_ | refine qf7 ?_ ?_ | refine qf8 ?_ ?_ | refine qf9 ?_ ?_ | refine qg ?_ ?_); focus (first | assumption | omega | (simp only [bz]; omega))) | ((with_reducible first | refine qg0 ?_ ?_ | refine qg1 ?_ ?_ | refine qg2 ?_ ?_); focus (first | assumption | omega | (simp only [bz]; omega))) | ((with_reducible first | refine g1_u8w ?_ ?_ | refine qg4 ?_ ?_); (focus ((repeat' (with_reducible apply And.intro)) <;> (first | assumption | omega | (simp only [bz]; omega) | (simp (maxDischargeDepth := 8) only [bb]; done)))); intro _)))
  refine loop_go (fun i => {T := tp [(0, .sl tg 4 L.length c (flat encE L)), (1, vs t), (5, vi i)], H := hp [], nx := 0}) (fi L t) ?_ (lt_LF (by omega)) (fun i hi Kn hK => ?_) (fun Kn => ?_)
  · simp only [vv, ff, norm, Array.toList, List.map, Option.isSome_none, bne_self_eq_false, reduceIte, reduceCtorEq, Nat.reduceEqDiff, Nat.reduceAdd, Nat.reduceMul, Nat.reduceSub, Nat.reduceBEq, Nat.reduceLeDiff, Int.reduceEq, Int.reduceLT, Int.reduceLE, Int.reduceGE, Int.reduceGT, Int.reduceBEq, Int.reduceBNe, Int.reduceToNat, Int.reduceNeg, Int.reduceSub, Int.reduceAdd, Int.reduceMul, finish, qe8, resOf, resa, qe9, qf, qf0, keep, qf1, qf2, qf3, qe6, qe7, Int.natCast_zero]
  · have h0 := fE_get0 L (show i < L.length by omega)
    have h1 := fi_lt hi
    (have fz := ga2 h0 h1; repeat' (first | simp (maxDischargeDepth := 8) only [go_sem, rr, reduceIte, reduceCtorEq, Nat.reduceEqDiff, Nat.reduceAdd, Nat.reduceMul, Nat.reduceSub, Nat.reduceBEq, Nat.reduceLeDiff, Int.reduceEq, Int.reduceLT, Int.reduceLE, Int.reduceGE, Int.reduceGT, Int.reduceBEq, Int.reduceBNe, Int.reduceToNat, Int.reduceNeg, Int.reduceSub, Int.reduceAdd, Int.reduceMul, fz] | (with_reducible refine qg6 ?_ ?_; focus (first | (simp (maxDischargeDepth := 8) only [bb, kk, fz]; done) | kernel_rfl)) | ((with_reducible first | refine qf4 ?_ ?_ | refine qf5 ?_ ?_ | refine qf6 ?_ ?_ | refine qf7 ?_ ?_ | refine qf8 ?_ ?_ | refine qf9 ?_ ?_ | refine qg ?_ ?_); focus (first | assumption | omega | (simp only [bz, fz]; omega))) | ((with_reducible first | refine qg0 ?_ ?_ | refine qg1 ?_ ?_ | refine qg2 ?_ ?_); focus (first | assumption | omega | (simp only [bz, fz]; omega))) | ((with_reducible first | refine g1_u8w ?_ ?_ | refine qg4 ?_ ?_); (focus ((repeat' (with_reducible apply And.intro)) <;> (first | assumption | omega | (simp only [bz, fz]; omega) | (simp (maxDischargeDepth := 8) only [bb, fz]; done)))); intro _)))
    refine hK _ ?_
    simp only [vv, ff, norm, Array.toList, List.map, Option.isSome_none, bne_self_eq_false, reduceIte, reduceCtorEq, Nat.reduceEqDiff, Nat.reduceAdd, Nat.reduceMul, Nat.reduceSub, Nat.reduceBEq, Nat.reduceLeDiff, Int.reduceEq, Int.reduceLT, Int.reduceLE, Int.reduceGE, Int.reduceGT, Int.reduceBEq, Int.reduceBNe, Int.reduceToNat, Int.reduceNeg, Int.reduceSub, Int.reduceAdd, Int.reduceMul, finish, qe8, resOf, resa, qe9, qf, qf0, keep, qf1, qf2, qf3, qe6, qe7, Int.natCast_add, cst1]
  · by_cases h : fi L t < L.length
    · have h0 := fE_get0 L h
      have h1 := fi_at h
      (have fz := ga2 h0 h1; repeat' (first | simp (maxDischargeDepth := 8) only [go_sem, rr, reduceIte, reduceCtorEq, Nat.reduceEqDiff, Nat.reduceAdd, Nat.reduceMul, Nat.reduceSub, Nat.reduceBEq, Nat.reduceLeDiff, Int.reduceEq, Int.reduceLT, Int.reduceLE, Int.reduceGE, Int.reduceGT, Int.reduceBEq, Int.reduceBNe, Int.reduceToNat, Int.reduceNeg, Int.reduceSub, Int.reduceAdd, Int.reduceMul, fz, if_pos h] | (with_reducible refine qg6 ?_ ?_; focus (first | (simp (maxDischargeDepth := 8) only [bb, kk, fz, if_pos h]; done) | kernel_rfl)) | ((with_reducible first | refine qf4 ?_ ?_ | refine qf5 ?_ ?_ | refine qf6 ?_ ?_ | refine qf7 ?_ ?_ | refine qf8 ?_ ?_ | refine qf9 ?_ ?_ | refine qg ?_ ?_); focus (first | assumption | omega | (simp only [bz, fz, if_pos h]; omega))) | ((with_reducible first | refine qg0 ?_ ?_ | refine qg1 ?_ ?_ | refine qg2 ?_ ?_); focus (first | assumption | omega | (simp only [bz, fz, if_pos h]; omega))) | ((with_reducible first | refine g1_u8w ?_ ?_ | refine qg4 ?_ ?_); (focus ((repeat' (with_reducible apply And.intro)) <;> (first | assumption | omega | (simp only [bz, fz, if_pos h]; omega) | (simp (maxDischargeDepth := 8) only [bb, fz, if_pos h]; done)))); intro _)))
    · (repeat' (first | simp (maxDischargeDepth := 8) only [go_sem, rr, reduceIte, reduceCtorEq, Nat.reduceEqDiff, Nat.reduceAdd, Nat.reduceMul, Nat.reduceSub, Nat.reduceBEq, Nat.reduceLeDiff, Int.reduceEq, Int.reduceLT, Int.reduceLE, Int.reduceGE, Int.reduceGT, Int.reduceBEq, Int.reduceBNe, Int.reduceToNat, Int.reduceNeg, Int.reduceSub, Int.reduceAdd, Int.reduceMul, if_neg h] | (with_reducible refine qg6 ?_ ?_; focus (first | (simp (maxDischargeDepth := 8) only [bb, kk, if_neg h]; done) | kernel_rfl)) | ((with_reducible first | refine qf4 ?_ ?_ | refine qf5 ?_ ?_ | refine qf6 ?_ ?_ | refine qf7 ?_ ?_ | refine qf8 ?_ ?_ | refine qf9 ?_ ?_ | refine qg ?_ ?_); focus (first | assumption | omega | (simp only [bz, if_neg h]; omega))) | ((with_reducible first | refine qg0 ?_ ?_ | refine qg1 ?_ ?_ | refine qg2 ?_ ?_); focus (first | assumption | omega | (simp only [bz, if_neg h]; omega))) | ((with_reducible first | refine g1_u8w ?_ ?_ | refine qg4 ?_ ?_); (focus ((repeat' (with_reducible apply And.intro)) <;> (first | assumption | omega | (simp only [bz, if_neg h]; omega) | (simp (maxDischargeDepth := 8) only [bb, if_neg h]; done)))); intro _)))
end Go.Proofs.YtghmmockgbiehaaDoor.VH.S
end

section
namespace Go.Proofs.YtghmmockgbiehaaDoor.VH.S
open Go.Proofs
set_option maxRecDepth 100000
set_option maxHeartbeats 8000000
set_option linter.unusedSimpArgs false

/- Marks that are texts. -/
theorem e28 (d : Nat) (k : Nat) (h0 : 0 < k) (hk : k ≤ 549755813880) : evFun E (d+1) 28 [vi k] [] = some (vs (mT k), []) := by
  refine evFun_body b28 ?_
  (repeat' (first | simp (maxDischargeDepth := 8) only [go_sem, rr, reduceIte, reduceCtorEq, Nat.reduceEqDiff, Nat.reduceAdd, Nat.reduceMul, Nat.reduceSub, Nat.reduceBEq, Nat.reduceLeDiff, Int.reduceEq, Int.reduceLT, Int.reduceLE, Int.reduceGE, Int.reduceGT, Int.reduceBEq, Int.reduceBNe, Int.reduceToNat, Int.reduceNeg, Int.reduceSub, Int.reduceAdd, Int.reduceMul, Tryd.f28] | (with_reducible refine qg6 ?_ ?_; focus (first | (simp (maxDischargeDepth := 8) only [bb, kk]; done) | kernel_rfl)) | ((with_reducible first | refine qf4 ?_ ?_ | refine qf5 ?_ ?_ | refine qf6 ?_ ?_ | refine qf7 ?_ ?_ | refine qf8 ?_ ?_ | refine qf9 ?_ ?_ | refine qg ?_ ?_); focus (first | assumption | omega | (simp only [bz]; omega))) | ((with_reducible first | refine qg0 ?_ ?_ | refine qg1 ?_ ?_ | refine qg2 ?_ ?_); focus (first | assumption | omega | (simp only [bz]; omega))) | ((with_reducible first | refine g1_u8w ?_ ?_ | refine qg4 ?_ ?_); (focus ((repeat' (with_reducible apply And.intro)) <;> (first | assumption | omega | (simp only [bz]; omega) | (simp (maxDischargeDepth := 8) only [bb]; done)))); intro _) | ((with_reducible refine g1_64w ?_ ?_); (focus ((repeat' (with_reducible apply And.intro)) <;> (first | assumption | omega | (simp only [bz]; omega) | (simp (maxDischargeDepth := 8) only [bb]; done)))); intro _)))
  refine loop_wf (α := Nat × List UInt8) (fun a => {T := tp [(0, vi a.1), (3, vs a.2)], H := hp [], nx := 0}) (fun a => digs a.1 ++ a.2 = digs k ∧ a.1 ≤ k) (fun a => a.1) ?_ (k, []) ?_ ⟨by simp, Nat.le_refl _⟩ (lt_LF (by simp only; omega))
  · rintro ⟨m, out⟩ ⟨h1, h2⟩ Kn hK
    simp only at h1 h2
    have hlen : (digs m).length + out.length ≤ 549755813880 := by
      have := digs_len k
      rw [← h1, List.length_append] at this; omega
    by_cases hm : m = 0
    · subst hm
      rw [digs_zero, List.nil_append] at h1
      have hdl : (digs k).length ≤ 549755813880 := by rw [← h1]; omega
      (repeat' (first | simp (maxDischargeDepth := 8) only [go_sem, rr, reduceIte, reduceCtorEq, Nat.reduceEqDiff, Nat.reduceAdd, Nat.reduceMul, Nat.reduceSub, Nat.reduceBEq, Nat.reduceLeDiff, Int.reduceEq, Int.reduceLT, Int.reduceLE, Int.reduceGE, Int.reduceGT, Int.reduceBEq, Int.reduceBNe, Int.reduceToNat, Int.reduceNeg, Int.reduceSub, Int.reduceAdd, Int.reduceMul, h1, mT] | (with_reducible refine qg6 ?_ ?_; focus (first | (simp (maxDischargeDepth := 8) only [bb, kk, h1, mT]; done) | kernel_rfl)) | ((with_reducible first | refine qf4 ?_ ?_ | refine qf5 ?_ ?_ | refine qf6 ?_ ?_ | refine qf7 ?_ ?_ | refine qf8 ?_ ?_ | refine qf9 ?_ ?_ | refine qg ?_ ?_); focus (first | assumption | omega | (simp only [bz, h1, mT]; omega))) | ((with_reducible first | refine qg0 ?_ ?_ | refine qg1 ?_ ?_ | refine qg2 ?_ ?_); focus (first | assumption | omega | (simp only [bz, h1, mT]; omega))) | ((with_reducible first | refine g1_u8w ?_ ?_ | refine qg4 ?_ ?_); (focus ((repeat' (with_reducible apply And.intro)) <;> (first | assumption | omega | (simp only [bz, h1, mT]; omega) | (simp (maxDischargeDepth := 8) only [bb, h1, mT]; done)))); intro _) | ((with_reducible refine g1_64w ?_ ?_); (focus ((repeat' (with_reducible apply And.intro)) <;> (first | assumption | omega | (simp only [bz, h1, mT]; omega) | (simp (maxDischargeDepth := 8) only [bb, h1, mT]; done)))); intro _)))
    · have t1 : (m : Int).tmod 10 = ((m % 10 : Nat) : Int) := rfl
      have t2 : (m : Int).tdiv 10 = ((m / 10 : Nat) : Int) := rfl
      have t3 : IntKind.i64.wrap ((m / 10 : Nat) : Int) = ((m / 10 : Nat) : Int) := wrap64 (by omega) (by omega)
      have hol : out.length + 1 ≤ 549755813880 := by
        rw [digs_pos (by omega), List.length_append] at hlen
        simp at hlen; omega
      have t4 : (48 + ((m % 10 : Nat) : Int)).toNat = 48 + m % 10 := by omega
      (have fz := ga4 t1 t2 t3 t4; repeat' (first | simp (maxDischargeDepth := 8) only [go_sem, rr, reduceIte, reduceCtorEq, Nat.reduceEqDiff, Nat.reduceAdd, Nat.reduceMul, Nat.reduceSub, Nat.reduceBEq, Nat.reduceLeDiff, Int.reduceEq, Int.reduceLT, Int.reduceLE, Int.reduceGE, Int.reduceGT, Int.reduceBEq, Int.reduceBNe, Int.reduceToNat, Int.reduceNeg, Int.reduceSub, Int.reduceAdd, Int.reduceMul, fz, bytesOf, byteOf, cellsIn] | (with_reducible refine qg6 ?_ ?_; focus (first | (simp (maxDischargeDepth := 8) only [bb, kk, fz, bytesOf, byteOf, cellsIn]; done) | kernel_rfl)) | ((with_reducible first | refine qf4 ?_ ?_ | refine qf5 ?_ ?_ | refine qf6 ?_ ?_ | refine qf7 ?_ ?_ | refine qf8 ?_ ?_ | refine qf9 ?_ ?_ | refine qg ?_ ?_); focus (first | assumption | omega | (simp only [bz, fz, bytesOf, byteOf, cellsIn]; omega))) | ((with_reducible first | refine qg0 ?_ ?_ | refine qg1 ?_ ?_ | refine qg2 ?_ ?_); focus (first | assumption | omega | (simp only [bz, fz, bytesOf, byteOf, cellsIn]; omega))) | ((with_reducible first | refine g1_u8w ?_ ?_ | refine qg4 ?_ ?_); (focus ((repeat' (with_reducible apply And.intro)) <;> (first | assumption | omega | (simp only [bz, fz, bytesOf, byteOf, cellsIn]; omega) | (simp (maxDischargeDepth := 8) only [bb, fz, bytesOf, byteOf, cellsIn]; done)))); intro _) | ((with_reducible refine g1_64w ?_ ?_); (focus ((repeat' (with_reducible apply And.intro)) <;> (first | assumption | omega | (simp only [bz, fz, bytesOf, byteOf, cellsIn]; omega) | (simp (maxDischargeDepth := 8) only [bb, fz, bytesOf, byteOf, cellsIn]; done)))); intro _)))
      refine hK (m / 10, UInt8.ofNat (48 + m % 10) :: out) ⟨?_, by simp only; omega⟩ (by simp only; omega) _ ?_
      · simp only
        rw [← h1, digs_pos (show 0 < m by omega), List.append_assoc]; rfl
      · simp only [vv, ff, norm, Array.toList, List.map, Option.isSome_none, bne_self_eq_false, reduceIte, reduceCtorEq, Nat.reduceEqDiff, Nat.reduceAdd, Nat.reduceMul, Nat.reduceSub, Nat.reduceBEq, Nat.reduceLeDiff, Int.reduceEq, Int.reduceLT, Int.reduceLE, Int.reduceGE, Int.reduceGT, Int.reduceBEq, Int.reduceBNe, Int.reduceToNat, Int.reduceNeg, Int.reduceSub, Int.reduceAdd, Int.reduceMul, finish, qe8, resOf, resa, qe9, qf, qf0, keep, qf1, qf2, qf3, qe6, qe7]
  · simp only [vv, ff, norm, Array.toList, List.map, Option.isSome_none, bne_self_eq_false, reduceIte, reduceCtorEq, Nat.reduceEqDiff, Nat.reduceAdd, Nat.reduceMul, Nat.reduceSub, Nat.reduceBEq, Nat.reduceLeDiff, Int.reduceEq, Int.reduceLT, Int.reduceLE, Int.reduceGE, Int.reduceGT, Int.reduceBEq, Int.reduceBNe, Int.reduceToNat, Int.reduceNeg, Int.reduceSub, Int.reduceAdd, Int.reduceMul, finish, qe8, resOf, resa, qe9, qf, qf0, keep, qf1, qf2, qf3, qe6, qe7]
def tA (l : List (List UInt8)) (i : Nat) : List UInt8 := l.getD i []
/- Marks of entries. -/
def mE (k i : Nat) : Ent := ⟨mT (k + 4 * i), k + 4 * i + 1, k + 4 * i + 2, k + 4 * i + 3⟩
def mkE (k n : Nat) : List Ent := (List.range n).map (mE k)
theorem mkE_len (k n : Nat) : (mkE k n).length = n := by simp [mkE]
theorem mkE_at (k : Nat) {n i : Nat} (h : i < n) : eA (mkE k n) i = mE k i := by rw [eA_get (by rw [mkE_len]; exact h)]; simp [mkE]
def mkQ (k : Nat) (l : List Ent) (i : Nat) : List Ent := mkE k i ++ l.drop i
theorem mkQ_len (k : Nat) (l : List Ent) {i : Nat} (h : i ≤ l.length) : (mkQ k l i).length = l.length := by simp [mkQ, mkE_len]; omega
theorem mkQ_zero (k : Nat) (l : List Ent) : mkQ k l 0 = l := by simp [mkQ, mkE]
theorem mkQ_full (k : Nat) (l : List Ent) : mkQ k l l.length = mkE k l.length := by simp [mkQ]
theorem mkQ_set (k : Nat) (l : List Ent) {i : Nat} (h : i < l.length) : (mkQ k l i).set i (mE k i) = mkQ k l (i + 1) := by
  have hd : l.drop i = l[i] :: l.drop (i + 1) := List.drop_eq_getElem_cons h
  have hm : mkE k (i + 1) = mkE k i ++ [mE k i] := by simp [mkE, List.range_succ]
  rw [mkQ, mkQ, hd, hm, List.set_append_right _ _ (by simp [mkE_len])]
  simp only [mkE_len, Nat.sub_self, List.set_cons_zero, List.append_assoc, List.cons_append, List.nil_append]
theorem fE_set0 (M : List Ent) {i : Nat} (h : i < M.length) (t : List UInt8) (v s r : Int) : (flat encE (M.set i ⟨(eA M i).nm, v, s, r⟩)).set (i * 4) (vs t) = flat encE (M.set i ⟨t, v, s, r⟩) := by
  have := flt_set encE_len (M.set i ⟨(eA M i).nm, v, s, r⟩) i (by simpa using h) 0 (by decide) (vs t) ⟨t, v, s, r⟩ (by simp)
  simpa using this
theorem fE_set1 (M : List Ent) {i : Nat} (h : i < M.length) (t : List UInt8) (v s r x : Int) : (flat encE (M.set i ⟨t, v, s, r⟩)).set (i * 4 + 1) (vi x) = flat encE (M.set i ⟨t, x, s, r⟩) := by
  have := flt_set encE_len (M.set i ⟨t, v, s, r⟩) i (by simpa using h) 1 (by decide) (vi x) ⟨t, x, s, r⟩ (by simp)
  simpa using this
theorem fE_set2 (M : List Ent) {i : Nat} (h : i < M.length) (t : List UInt8) (v s r x : Int) : (flat encE (M.set i ⟨t, v, s, r⟩)).set (i * 4 + 2) (vi x) = flat encE (M.set i ⟨t, v, x, r⟩) := by
  have := flt_set encE_len (M.set i ⟨t, v, s, r⟩) i (by simpa using h) 2 (by decide) (vi x) ⟨t, v, x, r⟩ (by simp)
  simpa using this
theorem fE_set3 (M : List Ent) {i : Nat} (h : i < M.length) (t : List UInt8) (v s r x : Int) : (flat encE (M.set i ⟨t, v, s, r⟩)).set (i * 4 + 3) (vi x) = flat encE (M.set i ⟨t, v, s, x⟩) := by
  have := flt_set encE_len (M.set i ⟨t, v, s, r⟩) i (by simpa using h) 3 (by decide) (vi x) ⟨t, v, s, x⟩ (by simp)
  simpa using this
theorem fE_get (L : List Ent) {i : Nat} (h : i < L.length) : g1 (flat encE L) (i * 4) = some (vs (eA L i).nm) ∧ g1 (flat encE L) (i * 4 + 1) = some (vi (eA L i).v) ∧ g1 (flat encE L) (i * 4 + 2) = some (vi (eA L i).s) ∧ g1 (flat encE L) (i * 4 + 3) = some (vi (eA L i).r) := by
  have h0 := flt_get encE_len L i h 0 (by decide)
  have h1 := flt_get encE_len L i h 1 (by decide)
  have h2 := flt_get encE_len L i h 2 (by decide)
  have h3 := flt_get encE_len L i h 3 (by decide)
  rw [eA_get h]
  exact ⟨h0, h1, h2, h3⟩
theorem e21 (d : Nat) (L : List Ent) (c : Option Nat) (k : Nat) (h0 : 0 < k) (hk : k + 4 * L.length ≤ 549755813880) : evFun E (d+2) 21 [.ref 0 [] 4 0 L.length c, vi k] [flat encE L] = some (vi (k + 4 * (L.length : Int)), [some (flat encE (mkE k L.length))]) := by
  refine evFun_body b21 ?_
  (repeat' (first | simp (maxDischargeDepth := 8) only [go_sem, rr, reduceIte, reduceCtorEq, Nat.reduceEqDiff, Nat.reduceAdd, Nat.reduceMul, Nat.reduceSub, Nat.reduceBEq, Nat.reduceLeDiff, Int.reduceEq, Int.reduceLT, Int.reduceLE, Int.reduceGE, Int.reduceGT, Int.reduceBEq, Int.reduceBNe, Int.reduceToNat, Int.reduceNeg, Int.reduceSub, Int.reduceAdd, Int.reduceMul, Tryd.f21] | (with_reducible refine qg6 ?_ ?_; focus (first | (simp (maxDischargeDepth := 8) only [bb, kk]; done) | kernel_rfl)) | ((with_reducible first | refine qf4 ?_ ?_ | refine qf5 ?_ ?_ | refine qf6 ?_ ?_ | refine qf7 ?_ ?_ | refine qf8 ?_ ?_ | refine qf9 ?_ ?_ | refine qg ?_ ?_); focus (first | assumption | omega | (simp only [bz]; omega))) | ((with_reducible first | refine qg0 ?_ ?_ | refine qg1 ?_ ?_ | refine qg2 ?_ ?_); focus (first | assumption | omega | (simp only [bz]; omega))) | ((with_reducible first | refine g1_u8w ?_ ?_ | refine qg4 ?_ ?_); (focus ((repeat' (with_reducible apply And.intro)) <;> (first | assumption | omega | (simp only [bz]; omega) | (simp (maxDischargeDepth := 8) only [bb]; done)))); intro _) | ((with_reducible refine g1_64w ?_ ?_); (focus ((repeat' (with_reducible apply And.intro)) <;> (first | assumption | omega | (simp only [bz]; omega) | (simp (maxDischargeDepth := 8) only [bb]; done)))); intro _)))
  refine loop_go (fun i => {T := tp [(0, .ref 0 [] 4 0 L.length c), (1, vi (k + 4 * (i : Int))), (5, vi i)], H := hp [some (flat encE (mkQ k L i))], nx := 1}) L.length ?_ (lt_LF (by omega)) (fun i hi Kn hK => ?_) (fun Kn => ?_)
  · simp only [vv, ff, norm, Array.toList, List.map, Option.isSome_none, bne_self_eq_false, reduceIte, reduceCtorEq, Nat.reduceEqDiff, Nat.reduceAdd, Nat.reduceMul, Nat.reduceSub, Nat.reduceBEq, Nat.reduceLeDiff, Int.reduceEq, Int.reduceLT, Int.reduceLE, Int.reduceGE, Int.reduceGT, Int.reduceBEq, Int.reduceBNe, Int.reduceToNat, Int.reduceNeg, Int.reduceSub, Int.reduceAdd, Int.reduceMul, finish, qe8, resOf, resa, qe9, qf, qf0, keep, qf1, qf2, qf3, qe6, qe7, Int.natCast_zero, Int.add_zero, mkQ_zero, Int.mul_zero]
  · have hM : i < (mkQ k L i).length := by rw [mkQ_len _ _ (by omega)]; exact hi
    have hlen : ∀ e, (flat encE ((mkQ k L i).set i e)).length = L.length * 4 := fun e => by rw [fE_len, List.length_set, mkQ_len _ _ (by omega)]
    have hlen0 : (flat encE (mkQ k L i)).length = L.length * 4 := by rw [fE_len, mkQ_len _ _ (by omega)]
    have s0 := fE_set0 (mkQ k L i) hM (mT (k + 4 * i)) (eA (mkQ k L i) i).v (eA (mkQ k L i) i).s (eA (mkQ k L i) i).r
    have hself : (mkQ k L i).set i ⟨(eA (mkQ k L i) i).nm, (eA (mkQ k L i) i).v, (eA (mkQ k L i) i).s, (eA (mkQ k L i) i).r⟩ = mkQ k L i := by
      rw [eA_get hM]; exact List.set_getElem_self hM
    rw [hself] at s0
    have s1 := fE_set1 (mkQ k L i) hM (mT (k + 4 * i)) (eA (mkQ k L i) i).v (eA (mkQ k L i) i).s (eA (mkQ k L i) i).r (k + 4 * (i : Int) + 1)
    have s2 := fE_set2 (mkQ k L i) hM (mT (k + 4 * i)) (k + 4 * (i : Int) + 1) (eA (mkQ k L i) i).s (eA (mkQ k L i) i).r (k + 4 * (i : Int) + 2)
    have s3 := fE_set3 (mkQ k L i) hM (mT (k + 4 * i)) (k + 4 * (i : Int) + 1) (k + 4 * (i : Int) + 2) (eA (mkQ k L i) i).r (k + 4 * (i : Int) + 3)
    have s4 : (mkQ k L i).set i ⟨mT (k + 4 * i), k + 4 * (i : Int) + 1, k + 4 * (i : Int) + 2, k + 4 * (i : Int) + 3⟩ = mkQ k L (i + 1) := mkQ_set k L hi
    have hc : (k : Int) + 4 * i = ((k + 4 * i : Nat) : Int) := by omega
    have hT : evFun E (d+1) 28 [vi ((k : Int) + 4 * i)] [] = some (vs (mT (k + 4 * i)), []) := by rw [hc]; exact e28 d (k + 4 * i) (by omega) (by omega)
    have a1 : (k : Int) + 4 * i + 1 + 1 = k + 4 * i + 2 := by omega
    have a2 : (k : Int) + 4 * i + 2 + 1 = k + 4 * i + 3 := by omega
    have a3 : (k : Int) + 4 * i + 3 + 1 = k + 4 * ((i + 1 : Nat) : Int) := by omega
    (have fz := ga11 hlen hlen0 s0 s1 s2 s3 s4 hT a1 a2 a3; repeat' (first | simp (maxDischargeDepth := 8) only [go_sem, rr, reduceIte, reduceCtorEq, Nat.reduceEqDiff, Nat.reduceAdd, Nat.reduceMul, Nat.reduceSub, Nat.reduceBEq, Nat.reduceLeDiff, Int.reduceEq, Int.reduceLT, Int.reduceLE, Int.reduceGE, Int.reduceGT, Int.reduceBEq, Int.reduceBNe, Int.reduceToNat, Int.reduceNeg, Int.reduceSub, Int.reduceAdd, Int.reduceMul, fz] | (with_reducible refine qg6 ?_ ?_; focus (first | (simp (maxDischargeDepth := 8) only [bb, kk, fz]; done) | kernel_rfl)) | ((with_reducible first | refine qf4 ?_ ?_ | refine qf5 ?_ ?_ | refine qf6 ?_ ?_ | refine qf7 ?_ ?_ | refine qf8 ?_ ?_ | refine qf9 ?_ ?_ | refine qg ?_ ?_); focus (first | assumption | omega | (simp only [bz, fz]; omega))) | ((with_reducible first | refine qg0 ?_ ?_ | refine qg1 ?_ ?_ | refine qg2 ?_ ?_); focus (first | assumption | omega | (simp only [bz, fz]; omega))) | ((with_reducible first | refine g1_u8w ?_ ?_ | refine qg4 ?_ ?_); (focus ((repeat' (with_reducible apply And.intro)) <;> (first | assumption | omega | (simp only [bz, fz]; omega) | (simp (maxDischargeDepth := 8) only [bb, fz]; done)))); intro _) | ((with_reducible refine g1_64w ?_ ?_); (focus ((repeat' (with_reducible apply And.intro)) <;> (first | assumption | omega | (simp only [bz, fz]; omega) | (simp (maxDischargeDepth := 8) only [bb, fz]; done)))); intro _)))
    refine hK _ ?_
    simp only [vv, ff, norm, Array.toList, List.map, Option.isSome_none, bne_self_eq_false, reduceIte, reduceCtorEq, Nat.reduceEqDiff, Nat.reduceAdd, Nat.reduceMul, Nat.reduceSub, Nat.reduceBEq, Nat.reduceLeDiff, Int.reduceEq, Int.reduceLT, Int.reduceLE, Int.reduceGE, Int.reduceGT, Int.reduceBEq, Int.reduceBNe, Int.reduceToNat, Int.reduceNeg, Int.reduceSub, Int.reduceAdd, Int.reduceMul, finish, qe8, resOf, resa, qe9, qf, qf0, keep, qf1, qf2, qf3, qe6, qe7, Int.natCast_add, cst1]
  · have hsn := noSnapL_encE (mkE k L.length)
    (repeat' (first | simp (maxDischargeDepth := 8) only [go_sem, rr, reduceIte, reduceCtorEq, Nat.reduceEqDiff, Nat.reduceAdd, Nat.reduceMul, Nat.reduceSub, Nat.reduceBEq, Nat.reduceLeDiff, Int.reduceEq, Int.reduceLT, Int.reduceLE, Int.reduceGE, Int.reduceGT, Int.reduceBEq, Int.reduceBNe, Int.reduceToNat, Int.reduceNeg, Int.reduceSub, Int.reduceAdd, Int.reduceMul, mkQ_full, hsn] | (with_reducible refine qg6 ?_ ?_; focus (first | (simp (maxDischargeDepth := 8) only [bb, kk, mkQ_full, hsn]; done) | kernel_rfl)) | ((with_reducible first | refine qf4 ?_ ?_ | refine qf5 ?_ ?_ | refine qf6 ?_ ?_ | refine qf7 ?_ ?_ | refine qf8 ?_ ?_ | refine qf9 ?_ ?_ | refine qg ?_ ?_); focus (first | assumption | omega | (simp only [bz, mkQ_full, hsn]; omega))) | ((with_reducible first | refine qg0 ?_ ?_ | refine qg1 ?_ ?_ | refine qg2 ?_ ?_); focus (first | assumption | omega | (simp only [bz, mkQ_full, hsn]; omega))) | ((with_reducible first | refine g1_u8w ?_ ?_ | refine qg4 ?_ ?_); (focus ((repeat' (with_reducible apply And.intro)) <;> (first | assumption | omega | (simp only [bz, mkQ_full, hsn]; omega) | (simp (maxDischargeDepth := 8) only [bb, mkQ_full, hsn]; done)))); intro _) | ((with_reducible refine g1_64w ?_ ?_); (focus ((repeat' (with_reducible apply And.intro)) <;> (first | assumption | omega | (simp only [bz, mkQ_full, hsn]; omega) | (simp (maxDischargeDepth := 8) only [bb, mkQ_full, hsn]; done)))); intro _)))
end Go.Proofs.YtghmmockgbiehaaDoor.VH.S
end

section
namespace Go.Proofs.YtghmmockgbiehaaDoor.VH.S
open Go.Proofs
set_option maxRecDepth 100000
set_option maxHeartbeats 8000000
set_option linter.unusedSimpArgs false

/- An entry is dropped. -/
theorem eC34 (d : Nat) (tg : Tg) (c : Option Nat) (L : List Ent) (h0 : 0 < L.length) (hl : L.length ≤ 549755813888) : evFun E (d+1) 34 [.sl tg 4 L.length c (flat encE L)] [] = some (.ref 0 [] 4 0 L.length none, [some (flat encE L)]) := by
  refine evFun_body b34 ?_
  have hs := noSnapL_encE L
  have hsl := anySl_encE L
  have e1 : decide (L.length = 0) = false := decide_eq_false (by omega)
  (have fz := ga3 hs hsl e1; repeat' (first | simp (maxDischargeDepth := 8) only [go_sem, rr, reduceIte, reduceCtorEq, Nat.reduceEqDiff, Nat.reduceAdd, Nat.reduceMul, Nat.reduceSub, Nat.reduceBEq, Nat.reduceLeDiff, Int.reduceEq, Int.reduceLT, Int.reduceLE, Int.reduceGE, Int.reduceGT, Int.reduceBEq, Int.reduceBNe, Int.reduceToNat, Int.reduceNeg, Int.reduceSub, Int.reduceAdd, Int.reduceMul, fz, capK_pos h0, Tryd.f34] | (with_reducible refine qg6 ?_ ?_; focus (first | (simp (maxDischargeDepth := 8) only [bb, kk, fz, capK_pos h0]; done) | kernel_rfl)) | ((with_reducible first | refine qf4 ?_ ?_ | refine qf5 ?_ ?_ | refine qf6 ?_ ?_ | refine qf7 ?_ ?_ | refine qf8 ?_ ?_ | refine qf9 ?_ ?_ | refine qg ?_ ?_); focus (first | assumption | omega | (simp only [bz, fz, capK_pos h0]; omega))) | ((with_reducible first | refine qg0 ?_ ?_ | refine qg1 ?_ ?_ | refine qg2 ?_ ?_); focus (first | assumption | omega | (simp only [bz, fz, capK_pos h0]; omega))) | ((with_reducible first | refine g1_u8w ?_ ?_ | refine qg4 ?_ ?_); (focus ((repeat' (with_reducible apply And.intro)) <;> (first | assumption | omega | (simp only [bz, fz, capK_pos h0]; omega) | (simp (maxDischargeDepth := 8) only [bb, fz, capK_pos h0]; done)))); intro _) | ((with_reducible refine g1_64w ?_ ?_); (focus ((repeat' (with_reducible apply And.intro)) <;> (first | assumption | omega | (simp only [bz, fz, capK_pos h0]; omega) | (simp (maxDischargeDepth := 8) only [bb, fz, capK_pos h0]; done)))); intro _)))
theorem eZ34 (d : Nat) (tg : Tg) (c : Option Nat) : evFun E (d+1) 34 [.sl tg 4 0 c []] [] = some (.sl .fgn 4 0 (some 0) [], []) := by
  refine evFun_body b34 ?_
  (repeat' (first | simp (maxDischargeDepth := 8) only [go_sem, rr, reduceIte, reduceCtorEq, Nat.reduceEqDiff, Nat.reduceAdd, Nat.reduceMul, Nat.reduceSub, Nat.reduceBEq, Nat.reduceLeDiff, Int.reduceEq, Int.reduceLT, Int.reduceLE, Int.reduceGE, Int.reduceGT, Int.reduceBEq, Int.reduceBNe, Int.reduceToNat, Int.reduceNeg, Int.reduceSub, Int.reduceAdd, Int.reduceMul, Tryd.f34] | (with_reducible refine qg6 ?_ ?_; focus (first | (simp (maxDischargeDepth := 8) only [bb, kk]; done) | kernel_rfl)) | ((with_reducible first | refine qf4 ?_ ?_ | refine qf5 ?_ ?_ | refine qf6 ?_ ?_ | refine qf7 ?_ ?_ | refine qf8 ?_ ?_ | refine qf9 ?_ ?_ | refine qg ?_ ?_); focus (first | assumption | omega | (simp only [bz]; omega))) | ((with_reducible first | refine qg0 ?_ ?_ | refine qg1 ?_ ?_ | refine qg2 ?_ ?_); focus (first | assumption | omega | (simp only [bz]; omega))) | ((with_reducible first | refine g1_u8w ?_ ?_ | refine qg4 ?_ ?_); (focus ((repeat' (with_reducible apply And.intro)) <;> (first | assumption | omega | (simp only [bz]; omega) | (simp (maxDischargeDepth := 8) only [bb]; done)))); intro _) | ((with_reducible refine g1_64w ?_ ?_); (focus ((repeat' (with_reducible apply And.intro)) <;> (first | assumption | omega | (simp only [bz]; omega) | (simp (maxDischargeDepth := 8) only [bb]; done)))); intro _)))
theorem e30 (d : Nat) (tg : Tg) (c : Option Nat) (L : List Ent) (hl : L.length ≤ 549755813888) : evFun E (d+1) 30 [.sl tg 4 L.length c (flat encE L)] [] = some (.ref 0 [] 4 0 L.length (capK (some 0) L.length), [some (flat encE L)]) := by
  refine evFun_body b30 ?_
  have hs := noSnapL_encE L
  have hsl := anySl_encE L
  (have fz := ga2 hs hsl; repeat' (first | simp (maxDischargeDepth := 8) only [go_sem, rr, reduceIte, reduceCtorEq, Nat.reduceEqDiff, Nat.reduceAdd, Nat.reduceMul, Nat.reduceSub, Nat.reduceBEq, Nat.reduceLeDiff, Int.reduceEq, Int.reduceLT, Int.reduceLE, Int.reduceGE, Int.reduceGT, Int.reduceBEq, Int.reduceBNe, Int.reduceToNat, Int.reduceNeg, Int.reduceSub, Int.reduceAdd, Int.reduceMul, fz, Tryd.f30] | (with_reducible refine qg6 ?_ ?_; focus (first | (simp (maxDischargeDepth := 8) only [bb, kk, fz]; done) | kernel_rfl)) | ((with_reducible first | refine qf4 ?_ ?_ | refine qf5 ?_ ?_ | refine qf6 ?_ ?_ | refine qf7 ?_ ?_ | refine qf8 ?_ ?_ | refine qf9 ?_ ?_ | refine qg ?_ ?_); focus (first | assumption | omega | (simp only [bz, fz]; omega))) | ((with_reducible first | refine qg0 ?_ ?_ | refine qg1 ?_ ?_ | refine qg2 ?_ ?_); focus (first | assumption | omega | (simp only [bz, fz]; omega))) | ((with_reducible first | refine g1_u8w ?_ ?_ | refine qg4 ?_ ?_); (focus ((repeat' (with_reducible apply And.intro)) <;> (first | assumption | omega | (simp only [bz, fz]; omega) | (simp (maxDischargeDepth := 8) only [bb, fz]; done)))); intro _) | ((with_reducible refine g1_64w ?_ ?_); (focus ((repeat' (with_reducible apply And.intro)) <;> (first | assumption | omega | (simp only [bz, fz]; omega) | (simp (maxDischargeDepth := 8) only [bb, fz]; done)))); intro _)))
/-- a catalog without the entry at a place -/
def dropE (L : List Ent) (k : Nat) : List Ent := L.take k ++ L.drop (k + 1)
theorem flat_tk (L : List Ent) (k : Nat) : (flat encE L).take (k * 4) = flat encE (L.take k) := by
  induction L generalizing k with
  | nil => simp [flat]
  | cons e L ih =>
    cases k with
    | zero => simp [flat]
    | succ k =>
      rw [flat, List.take_succ_cons, flat, ← ih k, show (k + 1) * 4 = (encE e).length + k * 4 by rw [encE_len]; omega, List.take_length_add_append]
theorem flat_dr (L : List Ent) (k : Nat) : (flat encE L).drop (k * 4) = flat encE (L.drop k) := by
  induction L generalizing k with
  | nil => simp [flat]
  | cons e L ih =>
    cases k with
    | zero => simp [flat]
    | succ k =>
      rw [flat, List.drop_succ_cons, ← ih k, show (k + 1) * 4 = (encE e).length + k * 4 by rw [encE_len]; omega, List.drop_length_add_append]
theorem shift (L : List Ent) {k : Nat} (h : k < L.length) : setAt (flat encE L) (k * 4) (flat encE (L.drop (k + 1))) = flat encE (dropE L k ++ L.drop (L.length - 1)) := by
  rw [setAt_put _ _ _ (by rw [fE_len, fE_len, List.length_drop]; omega), putL, flat_tk, fE_len, List.length_drop, ← Nat.add_mul, flat_dr, ← flat_app, ← flat_app]
  rw [dropE, show k + (L.length - (k + 1)) = L.length - 1 by omega]
theorem hx22 (d : Nat) (n : Nat) (tg : Tg) (c : Option Nat) (k : Nat) (h0 : 0 < k) (hk : k + 4 * n ≤ 549755813880) : evFun E (d+2) 22 [.sl tg 4 n c (flat encE (mkE k n)), vi k] [] = some (vi (k + 4 * (n : Int)), []) := by
  refine evFun_body b22 ?_
  (repeat' (first | simp (maxDischargeDepth := 8) only [go_sem, rr, reduceIte, reduceCtorEq, Nat.reduceEqDiff, Nat.reduceAdd, Nat.reduceMul, Nat.reduceSub, Nat.reduceBEq, Nat.reduceLeDiff, Int.reduceEq, Int.reduceLT, Int.reduceLE, Int.reduceGE, Int.reduceGT, Int.reduceBEq, Int.reduceBNe, Int.reduceToNat, Int.reduceNeg, Int.reduceSub, Int.reduceAdd, Int.reduceMul, Tryd.f22] | (with_reducible refine qg6 ?_ ?_; focus (first | (simp (maxDischargeDepth := 8) only [bb, kk]; done) | kernel_rfl)) | ((with_reducible first | refine qf4 ?_ ?_ | refine qf5 ?_ ?_ | refine qf6 ?_ ?_ | refine qf7 ?_ ?_ | refine qf8 ?_ ?_ | refine qf9 ?_ ?_ | refine qg ?_ ?_); focus (first | assumption | omega | (simp only [bz]; omega))) | ((with_reducible first | refine qg0 ?_ ?_ | refine qg1 ?_ ?_ | refine qg2 ?_ ?_); focus (first | assumption | omega | (simp only [bz]; omega))) | ((with_reducible first | refine g1_u8w ?_ ?_ | refine qg4 ?_ ?_); (focus ((repeat' (with_reducible apply And.intro)) <;> (first | assumption | omega | (simp only [bz]; omega) | (simp (maxDischargeDepth := 8) only [bb]; done)))); intro _) | ((with_reducible refine g1_64w ?_ ?_); (focus ((repeat' (with_reducible apply And.intro)) <;> (first | assumption | omega | (simp only [bz]; omega) | (simp (maxDischargeDepth := 8) only [bb]; done)))); intro _)))
  refine loop_go (fun i => {T := tp [(0, .sl tg 4 n c (flat encE (mkE k n))), (1, vi (k + 4 * (i : Int))), (5, vi i)], H := hp [], nx := 0}) n ?_ (lt_LF (by omega)) (fun i hi Kn hK => ?_) (fun Kn => ?_)
  · simp only [vv, ff, norm, Array.toList, List.map, Option.isSome_none, bne_self_eq_false, reduceIte, reduceCtorEq, Nat.reduceEqDiff, Nat.reduceAdd, Nat.reduceMul, Nat.reduceSub, Nat.reduceBEq, Nat.reduceLeDiff, Int.reduceEq, Int.reduceLT, Int.reduceLE, Int.reduceGE, Int.reduceGT, Int.reduceBEq, Int.reduceBNe, Int.reduceToNat, Int.reduceNeg, Int.reduceSub, Int.reduceAdd, Int.reduceMul, finish, qe8, resOf, resa, qe9, qf, qf0, keep, qf1, qf2, qf3, qe6, qe7, Int.natCast_zero, Int.add_zero, Int.mul_zero]
  · obtain ⟨g0, g1, g2, g3⟩ := fE_get (mkE k n) (i := i) (by rw [mkE_len]; exact hi)
    rw [mkE_at k hi] at g0 g1 g2 g3
    simp only [mE] at g0 g1 g2 g3
    have hc : (k : Int) + 4 * i = ((k + 4 * i : Nat) : Int) := by omega
    have hT : evFun E (d+1) 28 [vi ((k : Int) + 4 * i)] [] = some (vs (mT (k + 4 * i)), []) := by rw [hc]; exact e28 d (k + 4 * i) (by omega) (by omega)
    have he : (mT (k + 4 * i) == mT (k + 4 * i)) = true := by simp
    have a1 : (k : Int) + 4 * i + 1 + 1 = k + 4 * i + 2 := by omega
    have a2 : (k : Int) + 4 * i + 2 + 1 = k + 4 * i + 3 := by omega
    have a3 : (k : Int) + 4 * i + 3 + 1 = k + 4 * ((i + 1 : Nat) : Int) := by omega
    (have fz := ga8 g0 g2 g3 hT he a1 a2 a3; repeat' (first | simp (maxDischargeDepth := 8) only [go_sem, rr, reduceIte, reduceCtorEq, Nat.reduceEqDiff, Nat.reduceAdd, Nat.reduceMul, Nat.reduceSub, Nat.reduceBEq, Nat.reduceLeDiff, Int.reduceEq, Int.reduceLT, Int.reduceLE, Int.reduceGE, Int.reduceGT, Int.reduceBEq, Int.reduceBNe, Int.reduceToNat, Int.reduceNeg, Int.reduceSub, Int.reduceAdd, Int.reduceMul, fz, g1, bne_self_eq_false] | (with_reducible refine qg6 ?_ ?_; focus (first | (simp (maxDischargeDepth := 8) only [bb, kk, fz, g1, bne_self_eq_false]; done) | kernel_rfl)) | ((with_reducible first | refine qf4 ?_ ?_ | refine qf5 ?_ ?_ | refine qf6 ?_ ?_ | refine qf7 ?_ ?_ | refine qf8 ?_ ?_ | refine qf9 ?_ ?_ | refine qg ?_ ?_); focus (first | assumption | omega | (simp only [bz, fz, g1, bne_self_eq_false]; omega))) | ((with_reducible first | refine qg0 ?_ ?_ | refine qg1 ?_ ?_ | refine qg2 ?_ ?_); focus (first | assumption | omega | (simp only [bz, fz, g1, bne_self_eq_false]; omega))) | ((with_reducible first | refine g1_u8w ?_ ?_ | refine qg4 ?_ ?_); (focus ((repeat' (with_reducible apply And.intro)) <;> (first | assumption | omega | (simp only [bz, fz, g1, bne_self_eq_false]; omega) | (simp (maxDischargeDepth := 8) only [bb, fz, g1, bne_self_eq_false]; done)))); intro _) | ((with_reducible refine g1_64w ?_ ?_); (focus ((repeat' (with_reducible apply And.intro)) <;> (first | assumption | omega | (simp only [bz, fz, g1, bne_self_eq_false]; omega) | (simp (maxDischargeDepth := 8) only [bb, fz, g1, bne_self_eq_false]; done)))); intro _)))
    refine hK _ ?_
    simp only [vv, ff, norm, Array.toList, List.map, Option.isSome_none, bne_self_eq_false, reduceIte, reduceCtorEq, Nat.reduceEqDiff, Nat.reduceAdd, Nat.reduceMul, Nat.reduceSub, Nat.reduceBEq, Nat.reduceLeDiff, Int.reduceEq, Int.reduceLT, Int.reduceLE, Int.reduceGE, Int.reduceGT, Int.reduceBEq, Int.reduceBNe, Int.reduceToNat, Int.reduceNeg, Int.reduceSub, Int.reduceAdd, Int.reduceMul, finish, qe8, resOf, resa, qe9, qf, qf0, keep, qf1, qf2, qf3, qe6, qe7, Int.natCast_add, cst1]
  · (repeat' (first | simp (maxDischargeDepth := 8) only [go_sem, rr, reduceIte, reduceCtorEq, Nat.reduceEqDiff, Nat.reduceAdd, Nat.reduceMul, Nat.reduceSub, Nat.reduceBEq, Nat.reduceLeDiff, Int.reduceEq, Int.reduceLT, Int.reduceLE, Int.reduceGE, Int.reduceGT, Int.reduceBEq, Int.reduceBNe, Int.reduceToNat, Int.reduceNeg, Int.reduceSub, Int.reduceAdd, Int.reduceMul] | (with_reducible refine qg6 ?_ ?_; focus (first | (simp (maxDischargeDepth := 8) only [bb, kk]; done) | kernel_rfl)) | ((with_reducible first | refine qf4 ?_ ?_ | refine qf5 ?_ ?_ | refine qf6 ?_ ?_ | refine qf7 ?_ ?_ | refine qf8 ?_ ?_ | refine qf9 ?_ ?_ | refine qg ?_ ?_); focus (first | assumption | omega | (simp only [bz]; omega))) | ((with_reducible first | refine qg0 ?_ ?_ | refine qg1 ?_ ?_ | refine qg2 ?_ ?_); focus (first | assumption | omega | (simp only [bz]; omega))) | ((with_reducible first | refine g1_u8w ?_ ?_ | refine qg4 ?_ ?_); (focus ((repeat' (with_reducible apply And.intro)) <;> (first | assumption | omega | (simp only [bz]; omega) | (simp (maxDischargeDepth := 8) only [bb]; done)))); intro _) | ((with_reducible refine g1_64w ?_ ?_); (focus ((repeat' (with_reducible apply And.intro)) <;> (first | assumption | omega | (simp only [bz]; omega) | (simp (maxDischargeDepth := 8) only [bb]; done)))); intro _)))
theorem held1X (d : Nat) (n : Nat) (tg : Tg) (c : Option Nat) (hl : n ≤ 1048576) : evFun E (d+2) 22 [.sl tg 4 n c (flat encE (mkE 1 n)), vi 1] [] = some (vi (1 + 4 * (n : Int)), []) := hx22 d n tg c 1 (by decide) (by omega)
theorem mark0X (d : Nat) (c : Option Nat) : evFun E (d+2) 21 [.sl .fgn 4 0 c [], vi 1] [] = some (vi 1, []) := by
  refine evFun_body b21 ?_
  simp only [vv, cc, ff, uu, norm, qa, qa0, clash, meets, execOp, evBox, opnd, qa1, bin, convHM, qa2, qa3, qa4, qa5, qa6, qa7, zOK, qa8, qa9, borL, isSl, qb, qb0, qb1, qb2, qb3, qb4, cellsOf, TD.agg, qb5, qb6, qb7, qb8, qb9, qc, qc0, qc1, setAt, qc2, qc3, qc4, getR, qc5, qc6, qc7, qc8, qc9, Array.toList, List.map, Option.isSome_none, bne_self_eq_false, reduceIte, reduceCtorEq, Nat.reduceEqDiff, Nat.reduceAdd, Nat.reduceMul, Nat.reduceSub, Nat.reduceBEq, Nat.reduceLeDiff, Int.reduceEq, Int.reduceLT, Int.reduceLE, Int.reduceGE, Int.reduceGT, Int.reduceBEq, Int.reduceBNe, Int.reduceToNat, Int.reduceNeg, Int.reduceSub, Int.reduceAdd, Int.reduceMul, qd, qd0, qd1, qd2, qd3, qd4, qd5, qd6, qd7, qd8, qd9, qe, qe0, qe1, qe2, qe3, qe4, qe5, qe6, qe7, finish, qe8, resOf, resa, qe9, qf, qf0, keep, qf1, qf2, qf3, rr, Tryd.f21]
end Go.Proofs.YtghmmockgbiehaaDoor.VH.S
end

section
namespace Go.Proofs.YtghmmockgbiehaaDoor.VH.S
open Go.Proofs
set_option maxRecDepth 100000
set_option maxHeartbeats 8000000
set_option linter.unusedSimpArgs false

/- An entry put among entries. -/
theorem map_val_own (l : List Value) : (l.map AV.val).any qb8 = false := List.any_eq_false.mpr fun x h => by
  obtain ⟨v, _, rfl⟩ := List.mem_map.mp h
  simp [qb8]
theorem map_val_snap : ∀ l : List Value, qf (l.map AV.val) = true
  | [] => rfl
  | v :: l => by simp only [List.map_cons, qf, qe9, map_val_snap l, Bool.and_self]
theorem snap_app (a b : List AV) : qf (a ++ b) = (qf a && qf b) := by
  induction a with
  | nil => rfl
  | cons x a ih => simp only [List.cons_append, qf, ih, Bool.and_assoc]
theorem snap_take {a : List AV} (h : qf a = true) (n : Nat) : qf (a.take n) = true := by
  have := h
  rw [← List.take_append_drop n a, snap_app, Bool.and_eq_true] at this
  exact this.1
theorem snap_drop {a : List AV} (h : qf a = true) (n : Nat) : qf (a.drop n) = true := by
  have := h
  rw [← List.take_append_drop n a, snap_app, Bool.and_eq_true] at this
  exact this.2
theorem setAt_eq (cs : List AV) (o : Nat) (ys : List AV) (h : o + ys.length ≤ cs.length) : setAt cs o ys = cs.take o ++ ys ++ cs.drop (o + ys.length) := by
  apply List.ext_getElem?
  intro j
  rw [setAt_get h, List.getElem?_append, List.getElem?_append, List.length_append, List.length_take]
  by_cases h1 : j < o
  · rw [if_neg (by omega), if_pos (by omega), if_pos (by omega), List.getElem?_take_of_lt h1]
  · by_cases h2 : j < o + ys.length
    · rw [if_pos (by omega), if_pos (by omega), if_neg (by omega), show j - min o cs.length = j - o by omega]
    · rw [if_neg (by omega), if_neg (by omega), List.getElem?_drop]; congr 1; omega
theorem snap_setAt {cs ys : List AV} {o : Nat} (h : o + ys.length ≤ cs.length) (h1 : qf cs = true) (h2 : qf ys = true) : qf (setAt cs o ys) = true := by
  rw [setAt_eq cs o ys h, snap_app, snap_app, snap_take h1, snap_drop h1, h2]; rfl
theorem own_take {a : List AV} (h : a.any qb8 = false) (n : Nat) : (a.take n).any qb8 = false := List.any_eq_false.mpr fun x hx => List.any_eq_false.mp h x (List.mem_of_mem_take hx)
theorem own_drop {a : List AV} (h : a.any qb8 = false) (n : Nat) : (a.drop n).any qb8 = false := List.any_eq_false.mpr fun x hx => List.any_eq_false.mp h x (List.mem_of_mem_drop hx)
theorem zeros_own (r : Row) (n : Nat) : (zeros r n).any qb8 = false := by
  refine List.any_eq_false.mpr fun x hx => ?_
  simp only [zeros, List.mem_flatten, List.mem_replicate] at hx
  obtain ⟨l, ⟨_, rfl⟩, hx⟩ := hx
  obtain ⟨v, _, rfl⟩ := List.mem_map.mp hx
  simp [qb8]
theorem ins_grow {z n i : Nat} (V es : List AV) (hi : i < n) (hl : V.length = n * z) (he : es.length = z) (r : Row) (hr : r.zero.length = z) :
    setAt (setAt (V.take (i * z) ++ zeros r (n + 1 - i)) (i * z) es) ((i + 1) * z) (V.drop (i * z)) = V.take (i * z) ++ es ++ V.drop (i * z) := by
  have h1 : i * z ≤ n * z := Nat.mul_le_mul_right _ (by omega)
  have h2 : (i + 1) * z = i * z + z := Nat.succ_mul i z
  have h3 : (zeros r (n + 1 - i)).length = n * z + z - i * z := by rw [zeros_len, hr, Nat.sub_mul, Nat.succ_mul]
  have hlt : (V.take (i * z)).length = i * z := by rw [List.length_take]; omega
  generalize hZ : zeros r (n + 1 - i) = Z at h3
  have q1 : (V.take (i * z) ++ Z).take (i * z) = V.take (i * z) := by rw [List.take_append_of_le_length (by omega), List.take_take, Nat.min_self]
  have q2 : (V.take (i * z) ++ Z).drop (i * z + es.length) = Z.drop z := by rw [List.drop_append, hlt, he, List.drop_of_length_le (by omega), List.nil_append]; congr 1; omega
  have e1 : setAt (V.take (i * z) ++ Z) (i * z) es = V.take (i * z) ++ es ++ Z.drop z := by
    rw [setAt_eq _ _ _ (by rw [List.length_append, hlt, h3]; omega), q1, q2]
  have hl1 : (V.take (i * z) ++ es).length = (i + 1) * z := by rw [List.length_append, hlt, he, h2]
  have q3 : (V.take (i * z) ++ es ++ Z.drop z).take ((i + 1) * z) = V.take (i * z) ++ es := by rw [List.take_append_of_le_length (by omega), List.take_of_length_le (by omega)]
  have q4 : (V.take (i * z) ++ es ++ Z.drop z).drop ((i + 1) * z + (V.drop (i * z)).length) = [] := List.drop_of_length_le (by rw [List.length_append, hl1, List.length_drop, List.length_drop, h3, hl]; omega)
  rw [e1, setAt_eq _ _ _ (by rw [List.length_append, hl1, List.length_drop, List.length_drop, h3, hl]; omega), q3, q4, List.append_nil]
theorem ins_room {z n i c : Nat} (V es : List AV) (hi : i < n) (hc : n < c) (hl : V.length = c * z) (he : es.length = z) :
    setAt (setAt V ((i + 1) * z) ((V.drop (i * z)).take ((n - i) * z))) (i * z) es = V.take (i * z) ++ es ++ (V.drop (i * z)).take ((n - i) * z) ++ V.drop ((n + 1) * z) := by
  have h1 : i * z ≤ n * z := Nat.mul_le_mul_right _ (by omega)
  have h1' : (n + 1) * z ≤ c * z := Nat.mul_le_mul_right _ (by omega)
  have h2 : (i + 1) * z = i * z + z := Nat.succ_mul i z
  have h2' : (n + 1) * z = n * z + z := Nat.succ_mul n z
  have h3 : (n - i) * z = n * z - i * z := Nat.sub_mul n i z
  have hlt : ((V.drop (i * z)).take ((n - i) * z)).length = n * z - i * z := by rw [List.length_take, List.length_drop]; omega
  have e1 : setAt V ((i + 1) * z) ((V.drop (i * z)).take ((n - i) * z)) = V.take ((i + 1) * z) ++ (V.drop (i * z)).take ((n - i) * z) ++ V.drop ((n + 1) * z) := by
    rw [setAt_eq _ _ _ (by rw [hlt]; omega), hlt]; congr 2; omega
  have hla : (V.take ((i + 1) * z)).length = i * z + z := by rw [List.length_take]; omega
  rw [e1, setAt_eq _ _ _ (by rw [he]; simp only [List.length_append, hlt, hla, List.length_drop]; omega), he, List.append_assoc (V.take ((i + 1) * z)), List.take_append_of_le_length (by omega), List.take_take, Nat.min_eq_left (by omega), List.drop_append_of_le_length (by omega), List.drop_of_length_le (by omega), List.nil_append, List.append_assoc, List.append_assoc, List.append_assoc]
theorem e381 (d n c : Nat) (V es : List AV) (hc : n = c) (hn : n ≤ 1000000) (hl : V.length = c * 4) (ho : V.any qb8 = false) (hs : qf V = true) (he : es.length = 4) (hes : es.any qb8 = false) (hel : es.any isSl = false) (hen : qf es = true) :
    evFun E (d+2) 38 [.ref 0 [] 4 0 n (some c), vi n, .sl .snap 4 1 none es] [V] = some (.ref 1 [] 4 0 (n + 1) none, [none, some (V ++ es)]) := by
  refine evFun_body b38 ?_
  subst hc
  have htk : V.take (n * 4) = V := List.take_of_length_le (by omega)
  have hsn : qf (V ++ es) = true := by rw [snap_app, hs, hen]; rfl
  (have fz := ga9 ho hl hs he hes hel hen htk hsn; repeat' (first | simp (maxDischargeDepth := 8) only [go_sem, rr, reduceIte, reduceCtorEq, Nat.reduceEqDiff, Nat.reduceAdd, Nat.reduceMul, Nat.reduceSub, Nat.reduceBEq, Nat.reduceLeDiff, Int.reduceEq, Int.reduceLT, Int.reduceLE, Int.reduceGE, Int.reduceGT, Int.reduceBEq, Int.reduceBNe, Int.reduceToNat, Int.reduceNeg, Int.reduceSub, Int.reduceAdd, Int.reduceMul, fz, Tryd.f38] | (with_reducible refine qg6 ?_ ?_; focus (first | (simp (maxDischargeDepth := 8) only [bb, kk, fz]; done) | kernel_rfl)) | ((with_reducible first | refine qf4 ?_ ?_ | refine qf5 ?_ ?_ | refine qf6 ?_ ?_ | refine qf7 ?_ ?_ | refine qf8 ?_ ?_ | refine qf9 ?_ ?_ | refine qg ?_ ?_); focus (first | assumption | omega | (simp only [bz, fz]; omega))) | ((with_reducible first | refine qg0 ?_ ?_ | refine qg1 ?_ ?_ | refine qg2 ?_ ?_); focus (first | assumption | omega | (simp only [bz, fz]; omega))) | ((with_reducible first | refine g1_u8w ?_ ?_ | refine qg4 ?_ ?_); (focus ((repeat' (with_reducible apply And.intro)) <;> (first | assumption | omega | (simp only [bz, fz]; omega) | (simp (maxDischargeDepth := 8) only [bb, fz]; done)))); intro _)))
theorem e382 (d n c : Nat) (V es : List AV) (hc : n < c) (hn : n ≤ 1000000) (hl : V.length = c * 4) (ho : V.any qb8 = false) (hs : qf V = true) (he : es.length = 4) (hes : es.any qb8 = false) (hel : es.any isSl = false) (hen : qf es = true) :
    evFun E (d+2) 38 [.ref 0 [] 4 0 n (some c), vi n, .sl .snap 4 1 none es] [V] = some (.ref 0 [] 4 0 (n + 1) (some c), [some (setAt V (n * 4) es)]) := by
  refine evFun_body b38 ?_
  have hsn : qf (setAt V (n * 4) es) = true := snap_setAt (by omega) hs hen
  (have fz := ga8 ho hl hs he hes hel hen hsn; repeat' (first | simp (maxDischargeDepth := 8) only [go_sem, rr, reduceIte, reduceCtorEq, Nat.reduceEqDiff, Nat.reduceAdd, Nat.reduceMul, Nat.reduceSub, Nat.reduceBEq, Nat.reduceLeDiff, Int.reduceEq, Int.reduceLT, Int.reduceLE, Int.reduceGE, Int.reduceGT, Int.reduceBEq, Int.reduceBNe, Int.reduceToNat, Int.reduceNeg, Int.reduceSub, Int.reduceAdd, Int.reduceMul, fz, Tryd.f38] | (with_reducible refine qg6 ?_ ?_; focus (first | (simp (maxDischargeDepth := 8) only [bb, kk, fz]; done) | kernel_rfl)) | ((with_reducible first | refine qf4 ?_ ?_ | refine qf5 ?_ ?_ | refine qf6 ?_ ?_ | refine qf7 ?_ ?_ | refine qf8 ?_ ?_ | refine qf9 ?_ ?_ | refine qg ?_ ?_); focus (first | assumption | omega | (simp only [bz, fz]; omega))) | ((with_reducible first | refine qg0 ?_ ?_ | refine qg1 ?_ ?_ | refine qg2 ?_ ?_); focus (first | assumption | omega | (simp only [bz, fz]; omega))) | ((with_reducible first | refine g1_u8w ?_ ?_ | refine qg4 ?_ ?_); (focus ((repeat' (with_reducible apply And.intro)) <;> (first | assumption | omega | (simp only [bz, fz]; omega) | (simp (maxDischargeDepth := 8) only [bb, fz]; done)))); intro _)))
theorem e383 (d n c i : Nat) (V es : List AV) (hi : i < n) (hc : n = c) (hn : n ≤ 1000000) (hl : V.length = c * 4) (ho : V.any qb8 = false) (hs : qf V = true) (he : es.length = 4) (hes : es.any qb8 = false) (hel : es.any isSl = false) (hen : qf es = true) :
    evFun E (d+2) 38 [.ref 0 [] 4 0 n (some c), vi i, .sl .snap 4 1 none es] [V] = some (.ref 1 [] 4 0 (n + 1) none, [some V, some (V.take (i * 4) ++ es ++ V.drop (i * 4))]) := by
  refine evFun_body b38 ?_
  subst hc
  have hto := own_take ho (i * 4)
  have htd := own_take (own_drop ho (i * 4)) ((n - i) * 4)
  have ht1 : ((n : Int) + 1 - (i : Int)).toNat = n + 1 - i := by omega
  have hif : (if i * 4 ≤ n * 4 then i * 4 else n * 4) = i * 4 := if_pos (by omega)
  have hod := own_drop ho (i * 4)
  have ht3 : (((n + 1 : Nat) : Int) - ((i : Int) + 1)).toNat = n - i := by omega
  have hii : i + (n + 1 - i) = n + 1 := by omega
  have hdt : (V.drop (i * 4)).take ((n - i) * 4) = V.drop (i * 4) := List.take_of_length_le (by rw [List.length_drop]; omega)
  have hgr : ∀ r : Row, r.zero.length = 4 → setAt (setAt (V.take (i * 4) ++ zeros r (n + 1 - i)) (i * 4) es) ((i + 1) * 4) (V.drop (i * 4)) = V.take (i * 4) ++ es ++ V.drop (i * 4) := ins_grow V es hi hl he
  have hsn : qf (V.take (i * 4) ++ es ++ V.drop (i * 4)) = true := by rw [snap_app, snap_app, snap_take hs, snap_drop hs, hen]; rfl
  (have fz := ga17 ho hl hs he hes hel hen hto htd hod ht1 ht3 hii hsn hif hdt hgr; repeat' (first | simp (maxDischargeDepth := 8) only [go_sem, rr, reduceIte, reduceCtorEq, Nat.reduceEqDiff, Nat.reduceAdd, Nat.reduceMul, Nat.reduceSub, Nat.reduceBEq, Nat.reduceLeDiff, Int.reduceEq, Int.reduceLT, Int.reduceLE, Int.reduceGE, Int.reduceGT, Int.reduceBEq, Int.reduceBNe, Int.reduceToNat, Int.reduceNeg, Int.reduceSub, Int.reduceAdd, Int.reduceMul, fz, setAt_len, copyHM, Nat.sub_zero, Int.sub_zero, zeros_own, zeros_len, Tryd.f38] | (with_reducible refine qg6 ?_ ?_; focus (first | (simp (maxDischargeDepth := 8) only [bb, kk, fz, setAt_len, copyHM, Nat.sub_zero, Int.sub_zero, zeros_own, zeros_len]; done) | kernel_rfl)) | ((with_reducible first | refine qf4 ?_ ?_ | refine qf5 ?_ ?_ | refine qf6 ?_ ?_ | refine qf7 ?_ ?_ | refine qf8 ?_ ?_ | refine qf9 ?_ ?_ | refine qg ?_ ?_); focus (first | assumption | omega | (simp only [bz, fz, setAt_len, copyHM, Nat.sub_zero, Int.sub_zero, zeros_own, zeros_len]; omega))) | ((with_reducible first | refine qg0 ?_ ?_ | refine qg1 ?_ ?_ | refine qg2 ?_ ?_); focus (first | assumption | omega | (simp only [bz, fz, setAt_len, copyHM, Nat.sub_zero, Int.sub_zero, zeros_own, zeros_len]; omega))) | ((with_reducible first | refine g1_u8w ?_ ?_ | refine qg4 ?_ ?_); (focus ((repeat' (with_reducible apply And.intro)) <;> (first | assumption | omega | (simp only [bz, fz, setAt_len, copyHM, Nat.sub_zero, Int.sub_zero, zeros_own, zeros_len]; omega) | (simp (maxDischargeDepth := 8) only [bb, fz, setAt_len, copyHM, Nat.sub_zero, Int.sub_zero, zeros_own, zeros_len]; done)))); intro _)))
theorem e384 (d n c i : Nat) (V es : List AV) (hi : i < n) (hc : n < c) (hn : n ≤ 1000000) (hl : V.length = c * 4) (ho : V.any qb8 = false) (hs : qf V = true) (he : es.length = 4) (hes : es.any qb8 = false) (hel : es.any isSl = false) (hen : qf es = true) :
    evFun E (d+2) 38 [.ref 0 [] 4 0 n (some c), vi i, .sl .snap 4 1 none es] [V] = some (.ref 0 [] 4 0 (n + 1) (some c), [some (V.take (i * 4) ++ es ++ (V.drop (i * 4)).take ((n - i) * 4) ++ V.drop ((n + 1) * 4))]) := by
  refine evFun_body b38 ?_
  have htd := own_take (own_drop ho (i * 4)) ((n + 1 - i) * 4)
  have ht1 : ((n : Int) + 1).toNat = n + 1 := by omega
  have ht2 : (((n + 1 : Nat) : Int) - ((i : Int) + 1)).toNat = n - i := by omega
  have hif : (if (n + 1 - i) * 4 ≤ c * 4 - i * 4 then (n + 1 - i) * 4 else c * 4 - i * 4) = (n + 1 - i) * 4 := if_pos (by omega)
  have htt : ((V.drop (i * 4)).take ((n + 1 - i) * 4)).take ((n - i) * 4) = (V.drop (i * 4)).take ((n - i) * 4) := by rw [List.take_take, Nat.min_eq_left (by omega)]
  have hgr := ins_room V es hi hc hl he
  have hsn : qf (V.take (i * 4) ++ es ++ (V.drop (i * 4)).take ((n - i) * 4) ++ V.drop ((n + 1) * 4)) = true := by rw [snap_app, snap_app, snap_app, snap_take hs, snap_take (snap_drop hs _), snap_drop hs, hen]; rfl
  (have fz := ga14 ho hl hs he hes hel hen htd ht1 ht2 hif htt hgr hsn; repeat' (first | simp (maxDischargeDepth := 8) only [go_sem, rr, reduceIte, reduceCtorEq, Nat.reduceEqDiff, Nat.reduceAdd, Nat.reduceMul, Nat.reduceSub, Nat.reduceBEq, Nat.reduceLeDiff, Int.reduceEq, Int.reduceLT, Int.reduceLE, Int.reduceGE, Int.reduceGT, Int.reduceBEq, Int.reduceBNe, Int.reduceToNat, Int.reduceNeg, Int.reduceSub, Int.reduceAdd, Int.reduceMul, fz, setAt_len, copyHM, Nat.sub_zero, Int.sub_zero, Tryd.f38] | (with_reducible refine qg6 ?_ ?_; focus (first | (simp (maxDischargeDepth := 8) only [bb, kk, fz, setAt_len, copyHM, Nat.sub_zero, Int.sub_zero]; done) | kernel_rfl)) | ((with_reducible first | refine qf4 ?_ ?_ | refine qf5 ?_ ?_ | refine qf6 ?_ ?_ | refine qf7 ?_ ?_ | refine qf8 ?_ ?_ | refine qf9 ?_ ?_ | refine qg ?_ ?_); focus (first | assumption | omega | (simp only [bz, fz, setAt_len, copyHM, Nat.sub_zero, Int.sub_zero]; omega))) | ((with_reducible first | refine qg0 ?_ ?_ | refine qg1 ?_ ?_ | refine qg2 ?_ ?_); focus (first | assumption | omega | (simp only [bz, fz, setAt_len, copyHM, Nat.sub_zero, Int.sub_zero]; omega))) | ((with_reducible first | refine g1_u8w ?_ ?_ | refine qg4 ?_ ?_); (focus ((repeat' (with_reducible apply And.intro)) <;> (first | assumption | omega | (simp only [bz, fz, setAt_len, copyHM, Nat.sub_zero, Int.sub_zero]; omega) | (simp (maxDischargeDepth := 8) only [bb, fz, setAt_len, copyHM, Nat.sub_zero, Int.sub_zero]; done)))); intro _) | (with_reducible apply call_elim; focus ((with_reducible first | apply eovl54) <;> (first | assumption | omega | (simp only [bz, fz, setAt_len, copyHM, Nat.sub_zero, Int.sub_zero]; omega) | (simp (maxDischargeDepth := 8) only [bb, fz, setAt_len, copyHM, Nat.sub_zero, Int.sub_zero]; done))))))
theorem plain_own : ∀ {l : List AV}, qd8 l = true → l.any qb8 = false ∧ l.any isSl = false ∧ qf l = true
  | [], _ => ⟨rfl, rfl, rfl⟩
  | .val v :: l, h => by
    simp only [qd8, Bool.and_eq_true] at h
    obtain ⟨h1, h2, h3⟩ := plain_own h.2
    exact ⟨by simp [qb8, h1], by simp [isSl, h2], by simp [qf, qe9, h3]⟩
  | .und :: _, h | .sl .. :: _, h | .ref .. :: _, h | .ptr .. :: _, h | .rp .. :: _, h | .agg _ :: _, h | .tup _ :: _, h | .fn .. :: _, h | .bx _ :: _, h => by simp [qd8] at h
theorem iOK4 (d n i : Nat) (es : List AV) (hi : i ≤ n) (hn : n ≤ 1000000) (hp : qd8 es = true) (he : es.length = 4) : InsOK (evFun E (d+2)) 38 4 n i es := by
  obtain ⟨h1, h2, h3⟩ := plain_own hp
  intro c vals hc hl hf
  have ho := map_val_own vals
  have hs := map_val_snap vals
  have hlen : (vals.map AV.val).length = c * 4 := by rw [List.length_map]; exact hl
  by_cases hin : i = n
  · subst hin
    have hm : (vals.take (i * 4)).drop (i * 4) = [] := List.drop_of_length_le (by rw [List.length_take]; omega)
    by_cases hnc : i = c
    · have ht : vals.take (i * 4) = vals := List.take_of_length_le (by omega)
      exact ⟨1, _, _, [], e381 d i c _ es hnc hn hlen ho hs he h1 h2 h3, by rw [hm, ht]; simp⟩
    · refine ⟨0, _, _, (vals.map AV.val).drop (i * 4 + 4), e382 d i c _ es (by omega) hn hlen ho hs he h1 h2 h3, ?_⟩
      rw [hm, setAt_eq _ _ _ (by rw [hlen, he]; omega), he, List.map_take]; simp
  · by_cases hnc : n = c
    · have ht : vals.take (n * 4) = vals := List.take_of_length_le (by omega)
      exact ⟨1, _, _, [], e383 d n c i _ es (by omega) hnc hn hlen ho hs he h1 h2 h3, by rw [ht, List.map_take, List.map_drop]; simp⟩
    · refine ⟨0, _, _, (vals.map AV.val).drop ((n + 1) * 4), e384 d n c i _ es (by omega) (by omega) hn hlen ho hs he h1 h2 h3, ?_⟩
      rw [List.drop_take, ← Nat.sub_mul, List.map_take, List.map_take, List.map_drop]; simp
end Go.Proofs.YtghmmockgbiehaaDoor.VH.S
end

section
namespace Go.Proofs.YtghmmockgbiehaaDoor.VH.S
open Go.Proofs
set_option maxRecDepth 100000
set_option maxHeartbeats 8000000
set_option linter.unusedSimpArgs false

/- An entry is put. -/
theorem guardP_t {α : Type} {p : Prop} (h : p) (m : HM α) : guardP p m = m := if_pos h
def insE (L : List Ent) (k : Nat) (e : Ent) : List Ent := L.take k ++ [e] ++ L.drop k
theorem insE_len {L : List Ent} {k : Nat} (h : k ≤ L.length) (e : Ent) : (insE L k e).length = L.length + 1 := by simp [insE]; omega
theorem insE_flat (L : List Ent) (k : Nat) (e : Ent) : (flat encE L).take (k * 4) ++ encE e ++ (flat encE L).drop (k * 4) = flat encE (insE L k e) := by
  rw [flat_tk, flat_dr, insE, flat_app, flat_app]; simp [flat]
theorem fE_setE (L : List Ent) {k : Nat} (h : k < L.length) (e : Ent) : setAt (flat encE L) (k * 4) (encE e) = flat encE (L.set k e) := by
  rw [setAt_put _ _ _ (by rw [fE_len, encE_len]; omega), putL, flat_tk, encE_len, show k * 4 + 4 = (k + 1) * 4 by omega, flat_dr, List.set_eq_take_append_cons_drop, if_pos h, flat_app]
  simp [flat]
def cpOK (L : List Ent) (e : Ent) : Bool := catOK L && entOK e
def cpL (L : List Ent) (e : Ent) : List Ent := if cpOK L e then (if hasE L e.nm then L.set (lb L e.nm) e else if L.length = 5 then L else insE L (lb L e.nm) e) else L
def cpB (L : List Ent) (e : Ent) : Bool := cpOK L e && (hasE L e.nm || decide (L.length ≠ 5))
theorem e19 (d : Nat) (L : List Ent) (e : Ent) (tg : Tg) (c : Option Nat) (hS : Small L) (he : e.nm.length ≤ 549755813888) (h0 : 0 < L.length) : evFun E (d+7) 19 [.sl tg 4 L.length c (flat encE L), .agg [vs e.nm, vi e.v, vi e.s, vi e.r]] [] = some (.tup [.ref 0 [] 4 0 (cpL L e).length none, vb (cpB L e)], [some (flat encE (cpL L e))]) := by
  refine evFun_body b19 ?_
  have hl := hS.1
  have hlen := fE_len L
  have hown := anyOwn_encE L
  have hcl := fun d tg c => eC34 d tg c L h0 hl
  have hsn := noSnapL_encE L
  have hle := lb_le L e.nm
  cases hc : catOK L with
  | false =>
    have e1 : cpL L e = L := by simp [cpL, cpOK, hc]
    have e2 : cpB L e = false := by simp [cpB, cpOK, hc]
    rw [e1, e2]
    (have fz := ga4 hc hlen hcl hsn; repeat' (first | simp (maxDischargeDepth := 8) only [go_sem, rr, reduceIte, reduceCtorEq, Nat.reduceEqDiff, Nat.reduceAdd, Nat.reduceMul, Nat.reduceSub, Nat.reduceBEq, Nat.reduceLeDiff, Int.reduceEq, Int.reduceLT, Int.reduceLE, Int.reduceGE, Int.reduceGT, Int.reduceBEq, Int.reduceBNe, Int.reduceToNat, Int.reduceNeg, Int.reduceSub, Int.reduceAdd, Int.reduceMul, fz, Tryd.f19] | (with_reducible refine qg6 ?_ ?_; focus (first | (simp (maxDischargeDepth := 8) only [bb, kk, fz]; done) | kernel_rfl)) | ((with_reducible first | refine qf4 ?_ ?_ | refine qf5 ?_ ?_ | refine qf6 ?_ ?_ | refine qf7 ?_ ?_ | refine qf8 ?_ ?_ | refine qf9 ?_ ?_ | refine qg ?_ ?_); focus (first | assumption | omega | (simp only [bz, fz]; omega))) | ((with_reducible first | refine qg0 ?_ ?_ | refine qg1 ?_ ?_ | refine qg2 ?_ ?_); focus (first | assumption | omega | (simp only [bz, fz]; omega))) | ((with_reducible first | refine g1_u8w ?_ ?_ | refine qg4 ?_ ?_); (focus ((repeat' (with_reducible apply And.intro)) <;> (first | assumption | omega | (simp only [bz, fz]; omega) | (simp (maxDischargeDepth := 8) only [bb, fz]; done)))); intro _) | (with_reducible apply call_elim; focus ((with_reducible first | apply e35) <;> (first | assumption | omega | (simp only [bz, fz]; omega) | (simp (maxDischargeDepth := 8) only [bb, fz]; done))))))
  | true =>
    have hs := sorted_of hc
    have h5 : L.length ≤ 5 := by simp only [catOK, Bool.and_eq_true, decide_eq_true_eq] at hc; exact hc.2
    cases hk : entOK e with
    | false =>
      have e1 : cpL L e = L := by simp [cpL, cpOK, hk]
      have e2 : cpB L e = false := by simp [cpB, cpOK, hk]
      rw [e1, e2]
      (have fz := ga5 hc hk hlen hcl hsn; repeat' (first | simp (maxDischargeDepth := 8) only [go_sem, rr, reduceIte, reduceCtorEq, Nat.reduceEqDiff, Nat.reduceAdd, Nat.reduceMul, Nat.reduceSub, Nat.reduceBEq, Nat.reduceLeDiff, Int.reduceEq, Int.reduceLT, Int.reduceLE, Int.reduceGE, Int.reduceGT, Int.reduceBEq, Int.reduceBNe, Int.reduceToNat, Int.reduceNeg, Int.reduceSub, Int.reduceAdd, Int.reduceMul, fz, Tryd.f19] | (with_reducible refine qg6 ?_ ?_; focus (first | (simp (maxDischargeDepth := 8) only [bb, kk, fz]; done) | kernel_rfl)) | ((with_reducible first | refine qf4 ?_ ?_ | refine qf5 ?_ ?_ | refine qf6 ?_ ?_ | refine qf7 ?_ ?_ | refine qf8 ?_ ?_ | refine qf9 ?_ ?_ | refine qg ?_ ?_); focus (first | assumption | omega | (simp only [bz, fz]; omega))) | ((with_reducible first | refine qg0 ?_ ?_ | refine qg1 ?_ ?_ | refine qg2 ?_ ?_); focus (first | assumption | omega | (simp only [bz, fz]; omega))) | ((with_reducible first | refine g1_u8w ?_ ?_ | refine qg4 ?_ ?_); (focus ((repeat' (with_reducible apply And.intro)) <;> (first | assumption | omega | (simp only [bz, fz]; omega) | (simp (maxDischargeDepth := 8) only [bb, fz]; done)))); intro _) | (with_reducible apply call_elim; focus ((with_reducible first | apply e35 | apply e36) <;> (first | assumption | omega | (simp only [bz, fz]; omega) | (simp (maxDischargeDepth := 8) only [bb, fz]; done))))))
    | true =>
      cases hh : hasE L e.nm with
      | true =>
        have hlt : lb L e.nm < L.length := by simp only [hasE, Bool.and_eq_true, decide_eq_true_eq] at hh; exact hh.1
        have e1 : cpL L e = L.set (lb L e.nm) e := by simp [cpL, cpOK, hc, hk, hh]
        have e2 : cpB L e = true := by simp [cpB, cpOK, hc, hk, hh]
        have hst := fE_setE L hlt e
        have hsn2 := noSnapL_encE (L.set (lb L e.nm) e)
        have hls : (L.set (lb L e.nm) e).length = L.length := List.length_set
        simp only [encE] at hst
        rw [e1, e2]
        (have fz := ga9 hc hk hh hlen hcl hsn hst hsn2 hls; repeat' (first | simp (maxDischargeDepth := 8) only [go_sem, rr, reduceIte, reduceCtorEq, Nat.reduceEqDiff, Nat.reduceAdd, Nat.reduceMul, Nat.reduceSub, Nat.reduceBEq, Nat.reduceLeDiff, Int.reduceEq, Int.reduceLT, Int.reduceLE, Int.reduceGE, Int.reduceGT, Int.reduceBEq, Int.reduceBNe, Int.reduceToNat, Int.reduceNeg, Int.reduceSub, Int.reduceAdd, Int.reduceMul, fz, Tryd.f19] | (with_reducible refine qg6 ?_ ?_; focus (first | (simp (maxDischargeDepth := 8) only [bb, kk, fz]; done) | kernel_rfl)) | ((with_reducible first | refine qf4 ?_ ?_ | refine qf5 ?_ ?_ | refine qf6 ?_ ?_ | refine qf7 ?_ ?_ | refine qf8 ?_ ?_ | refine qf9 ?_ ?_ | refine qg ?_ ?_); focus (first | assumption | omega | (simp only [bz, fz]; omega))) | ((with_reducible first | refine qg0 ?_ ?_ | refine qg1 ?_ ?_ | refine qg2 ?_ ?_); focus (first | assumption | omega | (simp only [bz, fz]; omega))) | ((with_reducible first | refine g1_u8w ?_ ?_ | refine qg4 ?_ ?_); (focus ((repeat' (with_reducible apply And.intro)) <;> (first | assumption | omega | (simp only [bz, fz]; omega) | (simp (maxDischargeDepth := 8) only [bb, fz]; done)))); intro _) | (with_reducible apply call_elim; focus ((with_reducible first | apply e35 | apply e36 | apply e37) <;> (first | assumption | omega | (simp only [bz, fz]; omega) | (simp (maxDischargeDepth := 8) only [bb, fz]; done))))))
      | false =>
        by_cases hn : L.length = 5
        · have e1 : cpL L e = L := by simp [cpL, cpOK, hc, hk, hh, hn]
          have e2 : cpB L e = false := by simp [cpB, cpOK, hc, hk, hh, hn]
          rw [e1, e2]
          (have fz := ga6 hc hk hh hlen hcl hsn; repeat' (first | simp (maxDischargeDepth := 8) only [go_sem, rr, reduceIte, reduceCtorEq, Nat.reduceEqDiff, Nat.reduceAdd, Nat.reduceMul, Nat.reduceSub, Nat.reduceBEq, Nat.reduceLeDiff, Int.reduceEq, Int.reduceLT, Int.reduceLE, Int.reduceGE, Int.reduceGT, Int.reduceBEq, Int.reduceBNe, Int.reduceToNat, Int.reduceNeg, Int.reduceSub, Int.reduceAdd, Int.reduceMul, fz, Tryd.f19] | (with_reducible refine qg6 ?_ ?_; focus (first | (simp (maxDischargeDepth := 8) only [bb, kk, fz]; done) | kernel_rfl)) | ((with_reducible first | refine qf4 ?_ ?_ | refine qf5 ?_ ?_ | refine qf6 ?_ ?_ | refine qf7 ?_ ?_ | refine qf8 ?_ ?_ | refine qf9 ?_ ?_ | refine qg ?_ ?_); focus (first | assumption | omega | (simp only [bz, fz]; omega))) | ((with_reducible first | refine qg0 ?_ ?_ | refine qg1 ?_ ?_ | refine qg2 ?_ ?_); focus (first | assumption | omega | (simp only [bz, fz]; omega))) | ((with_reducible first | refine g1_u8w ?_ ?_ | refine qg4 ?_ ?_); (focus ((repeat' (with_reducible apply And.intro)) <;> (first | assumption | omega | (simp only [bz, fz]; omega) | (simp (maxDischargeDepth := 8) only [bb, fz]; done)))); intro _) | (with_reducible apply call_elim; focus ((with_reducible first | apply e35 | apply e36 | apply e37) <;> (first | assumption | omega | (simp only [bz, fz]; omega) | (simp (maxDischargeDepth := 8) only [bb, fz]; done))))))
        · have e1 : cpL L e = insE L (lb L e.nm) e := by simp [cpL, cpOK, hc, hk, hh, hn]
          have e2 : cpB L e = true := by simp [cpB, cpOK, hc, hk, hh, hn]
          have hIns : InsOK (evFun E (d+6)) 38 4 L.length (lb L e.nm) [vs e.nm, vi e.v, vi e.s, vi e.r] := iOK4 (d+4) _ _ _ hle (by omega) rfl rfl
          have hG := fun (m : HM AV) => guardP_t hIns m
          have hfl := insE_flat L (lb L e.nm) e
          have hsn2 := noSnapL_encE (insE L (lb L e.nm) e)
          have hil := insE_len hle e
          simp only [encE] at hfl
          rw [e1, e2]
          (have fz := ga10 hc hk hh hlen hcl hsn hG hfl hsn2 hil; repeat' (first | simp (maxDischargeDepth := 8) only [go_sem, rr, reduceIte, reduceCtorEq, Nat.reduceEqDiff, Nat.reduceAdd, Nat.reduceMul, Nat.reduceSub, Nat.reduceBEq, Nat.reduceLeDiff, Int.reduceEq, Int.reduceLT, Int.reduceLE, Int.reduceGE, Int.reduceGT, Int.reduceBEq, Int.reduceBNe, Int.reduceToNat, Int.reduceNeg, Int.reduceSub, Int.reduceAdd, Int.reduceMul, fz, insArgs, insHM, Tryd.f19] | (with_reducible refine qg6 ?_ ?_; focus (first | (simp (maxDischargeDepth := 8) only [bb, kk, fz, insArgs, insHM]; done) | kernel_rfl)) | ((with_reducible first | refine qf4 ?_ ?_ | refine qf5 ?_ ?_ | refine qf6 ?_ ?_ | refine qf7 ?_ ?_ | refine qf8 ?_ ?_ | refine qf9 ?_ ?_ | refine qg ?_ ?_); focus (first | assumption | omega | (simp only [bz, fz, insArgs, insHM]; omega))) | ((with_reducible first | refine qg0 ?_ ?_ | refine qg1 ?_ ?_ | refine qg2 ?_ ?_); focus (first | assumption | omega | (simp only [bz, fz, insArgs, insHM]; omega))) | ((with_reducible first | refine g1_u8w ?_ ?_ | refine qg4 ?_ ?_); (focus ((repeat' (with_reducible apply And.intro)) <;> (first | assumption | omega | (simp only [bz, fz, insArgs, insHM]; omega) | (simp (maxDischargeDepth := 8) only [bb, fz, insArgs, insHM]; done)))); intro _) | (with_reducible apply call_elim; focus ((with_reducible first | apply e35 | apply e36 | apply e37) <;> (first | assumption | omega | (simp only [bz, fz, insArgs, insHM]; omega) | (simp (maxDischargeDepth := 8) only [bb, fz, insArgs, insHM]; done))))))
theorem eZ38 (d : Nat) (cc : Option Nat) (es : List AV) (he : es.length = 4) (hp : qd8 es = true) : evFun E (d+2) 38 [.sl .fgn 4 0 (some 0) [], vi 0, .sl .snap 4 1 cc es] [] = some (.ref 0 [] 4 0 1 none, [some es]) := by
  obtain ⟨h1, h2, h3⟩ := plain_own hp
  refine evFun_body b38 ?_
  (have fz := ga3 he h1 h2; repeat' (first | simp (maxDischargeDepth := 8) only [go_sem, rr, reduceIte, reduceCtorEq, Nat.reduceEqDiff, Nat.reduceAdd, Nat.reduceMul, Nat.reduceSub, Nat.reduceBEq, Nat.reduceLeDiff, Int.reduceEq, Int.reduceLT, Int.reduceLE, Int.reduceGE, Int.reduceGT, Int.reduceBEq, Int.reduceBNe, Int.reduceToNat, Int.reduceNeg, Int.reduceSub, Int.reduceAdd, Int.reduceMul, fz, h3, Tryd.f38] | (with_reducible refine qg6 ?_ ?_; focus (first | (simp (maxDischargeDepth := 8) only [bb, kk, fz, h3]; done) | kernel_rfl)) | ((with_reducible first | refine qf4 ?_ ?_ | refine qf5 ?_ ?_ | refine qf6 ?_ ?_ | refine qf7 ?_ ?_ | refine qf8 ?_ ?_ | refine qf9 ?_ ?_ | refine qg ?_ ?_); focus (first | assumption | omega | (simp only [bz, fz, h3]; omega))) | ((with_reducible first | refine qg0 ?_ ?_ | refine qg1 ?_ ?_ | refine qg2 ?_ ?_); focus (first | assumption | omega | (simp only [bz, fz, h3]; omega))) | ((with_reducible first | refine g1_u8w ?_ ?_ | refine qg4 ?_ ?_); (focus ((repeat' (with_reducible apply And.intro)) <;> (first | assumption | omega | (simp only [bz, fz, h3]; omega) | (simp (maxDischargeDepth := 8) only [bb, fz, h3]; done)))); intro _)))
theorem e19z (d : Nat) (e : Ent) (tg : Tg) (c : Option Nat) (he : e.nm.length ≤ 549755813888) (hk : entOK e = true) : evFun E (d+7) 19 [.sl tg 4 0 c [], .agg [vs e.nm, vi e.v, vi e.s, vi e.r]] [] = some (.tup [.ref 0 [] 4 0 1 none, vb true], [some [vs e.nm, vi e.v, vi e.s, vi e.r]]) := by
  refine evFun_body b19 ?_
  have hS : Small [] := ⟨by decide, fun i => by simp [eA, e0]⟩
  have hO := fun d tg c => e35 d [] tg c hS
  have hE := fun d tg c => e37 d [] e.nm tg c (by decide) (fun a b _ hb => by simp at hb)
  have h1 : catOK [] = true := rfl
  have h2 : hasE [] e.nm = false := by simp [hasE]
  have h3 : lb [] e.nm = 0 := rfl
  have hI := fun d cc => eZ38 d cc [vs e.nm, vi e.v, vi e.s, vi e.r] rfl rfl
  simp only [List.length_nil, flat, h1, h2, h3] at hO hE
  (have fz := ga5 hO hE hI hk eZ34; repeat' (first | simp (maxDischargeDepth := 8) only [go_sem, rr, reduceIte, reduceCtorEq, Nat.reduceEqDiff, Nat.reduceAdd, Nat.reduceMul, Nat.reduceSub, Nat.reduceBEq, Nat.reduceLeDiff, Int.reduceEq, Int.reduceLT, Int.reduceLE, Int.reduceGE, Int.reduceGT, Int.reduceBEq, Int.reduceBNe, Int.reduceToNat, Int.reduceNeg, Int.reduceSub, Int.reduceAdd, Int.reduceMul, fz, insArgs, Tryd.f19] | (with_reducible refine qg6 ?_ ?_; focus (first | (simp (maxDischargeDepth := 8) only [bb, kk, fz, insArgs]; done) | kernel_rfl)) | ((with_reducible first | refine qf4 ?_ ?_ | refine qf5 ?_ ?_ | refine qf6 ?_ ?_ | refine qf7 ?_ ?_ | refine qf8 ?_ ?_ | refine qf9 ?_ ?_ | refine qg ?_ ?_); focus (first | assumption | omega | (simp only [bz, fz, insArgs]; omega))) | ((with_reducible first | refine qg0 ?_ ?_ | refine qg1 ?_ ?_ | refine qg2 ?_ ?_); focus (first | assumption | omega | (simp only [bz, fz, insArgs]; omega))) | ((with_reducible first | refine g1_u8w ?_ ?_ | refine qg4 ?_ ?_); (focus ((repeat' (with_reducible apply And.intro)) <;> (first | assumption | omega | (simp only [bz, fz, insArgs]; omega) | (simp (maxDischargeDepth := 8) only [bb, fz, insArgs]; done)))); intro _) | (with_reducible apply call_elim; focus ((with_reducible first | apply e36) <;> (first | assumption | omega | (simp only [bz, fz, insArgs]; omega) | (simp (maxDischargeDepth := 8) only [bb, fz, insArgs]; done))))))
theorem e19y (d : Nat) (e : Ent) (tg : Tg) (c : Option Nat) (he : e.nm.length ≤ 549755813888) (hk : entOK e = false) : evFun E (d+7) 19 [.sl tg 4 0 c [], .agg [vs e.nm, vi e.v, vi e.s, vi e.r]] [] = some (.tup [.sl .fgn 4 0 (some 0) [], vb false], []) := by
  refine evFun_body b19 ?_
  have hS : Small [] := ⟨by decide, fun i => by simp [eA, e0]⟩
  have hO := fun d tg c => e35 d [] tg c hS
  have h1 : catOK [] = true := rfl
  simp only [List.length_nil, flat, h1] at hO
  (have fz := ga3 hO hk eZ34; repeat' (first | simp (maxDischargeDepth := 8) only [go_sem, rr, reduceIte, reduceCtorEq, Nat.reduceEqDiff, Nat.reduceAdd, Nat.reduceMul, Nat.reduceSub, Nat.reduceBEq, Nat.reduceLeDiff, Int.reduceEq, Int.reduceLT, Int.reduceLE, Int.reduceGE, Int.reduceGT, Int.reduceBEq, Int.reduceBNe, Int.reduceToNat, Int.reduceNeg, Int.reduceSub, Int.reduceAdd, Int.reduceMul, fz, Tryd.f19] | (with_reducible refine qg6 ?_ ?_; focus (first | (simp (maxDischargeDepth := 8) only [bb, kk, fz]; done) | kernel_rfl)) | ((with_reducible first | refine qf4 ?_ ?_ | refine qf5 ?_ ?_ | refine qf6 ?_ ?_ | refine qf7 ?_ ?_ | refine qf8 ?_ ?_ | refine qf9 ?_ ?_ | refine qg ?_ ?_); focus (first | assumption | omega | (simp only [bz, fz]; omega))) | ((with_reducible first | refine qg0 ?_ ?_ | refine qg1 ?_ ?_ | refine qg2 ?_ ?_); focus (first | assumption | omega | (simp only [bz, fz]; omega))) | ((with_reducible first | refine g1_u8w ?_ ?_ | refine qg4 ?_ ?_); (focus ((repeat' (with_reducible apply And.intro)) <;> (first | assumption | omega | (simp only [bz, fz]; omega) | (simp (maxDischargeDepth := 8) only [bb, fz]; done)))); intro _) | (with_reducible apply call_elim; focus ((with_reducible first | apply e36) <;> (first | assumption | omega | (simp only [bz, fz]; omega) | (simp (maxDischargeDepth := 8) only [bb, fz]; done))))))
def cpC (L : List Ent) (e : Ent) : Option Nat := if cpOK L e && !hasE L e.nm && decide (L.length ≠ 5) then none else capK (some 0) L.length
theorem e16 (d : Nat) (L : List Ent) (e : Ent) (tg : Tg) (c : Option Nat) (hS : Small L) (he : e.nm.length ≤ 549755813888) : evFun E (d+6) 16 [.sl tg 4 L.length c (flat encE L), .agg [vs e.nm, vi e.v, vi e.s, vi e.r]] [] = some (.tup [.ref 0 [] 4 0 (cpL L e).length (cpC L e), vb (cpB L e)], [some (flat encE (cpL L e))]) := by
  refine evFun_body b16 ?_
  have hl := hS.1
  have hlen := fE_len L
  have hown := anyOwn_encE L
  have hsn := noSnapL_encE L
  have hle := lb_le L e.nm
  have hfl := fi_le L e.nm
  have hcp := fun d tg c => e30 d tg c L hl
  cases hc : catOK L with
  | false =>
    have e1 : cpL L e = L := by simp [cpL, cpOK, hc]
    have e2 : cpB L e = false := by simp [cpB, cpOK, hc]
    have e3 : cpC L e = capK (some 0) L.length := by simp [cpC, cpOK, hc]
    rw [e1, e2, e3]
    generalize capK (some 0) L.length = cq at hcp
    (have fz := ga4 hc hlen hcp hsn; repeat' (first | simp (maxDischargeDepth := 8) only [go_sem, rr, reduceIte, reduceCtorEq, Nat.reduceEqDiff, Nat.reduceAdd, Nat.reduceMul, Nat.reduceSub, Nat.reduceBEq, Nat.reduceLeDiff, Int.reduceEq, Int.reduceLT, Int.reduceLE, Int.reduceGE, Int.reduceGT, Int.reduceBEq, Int.reduceBNe, Int.reduceToNat, Int.reduceNeg, Int.reduceSub, Int.reduceAdd, Int.reduceMul, fz, Tryd.f16] | (with_reducible refine qg6 ?_ ?_; focus (first | (simp (maxDischargeDepth := 8) only [bb, kk, fz]; done) | kernel_rfl)) | ((with_reducible first | refine qf4 ?_ ?_ | refine qf5 ?_ ?_ | refine qf6 ?_ ?_ | refine qf7 ?_ ?_ | refine qf8 ?_ ?_ | refine qf9 ?_ ?_ | refine qg ?_ ?_); focus (first | assumption | omega | (simp only [bz, fz]; omega))) | ((with_reducible first | refine qg0 ?_ ?_ | refine qg1 ?_ ?_ | refine qg2 ?_ ?_); focus (first | assumption | omega | (simp only [bz, fz]; omega))) | ((with_reducible first | refine g1_u8w ?_ ?_ | refine qg4 ?_ ?_); (focus ((repeat' (with_reducible apply And.intro)) <;> (first | assumption | omega | (simp only [bz, fz]; omega) | (simp (maxDischargeDepth := 8) only [bb, fz]; done)))); intro _) | (with_reducible apply call_elim; focus ((with_reducible first | apply e31) <;> (first | assumption | omega | (simp only [bz, fz]; omega) | (simp (maxDischargeDepth := 8) only [bb, fz]; done))))))
  | true =>
    have hs := sorted_of hc
    have h5 : L.length ≤ 5 := by simp only [catOK, Bool.and_eq_true, decide_eq_true_eq] at hc; exact hc.2
    cases hk : entOK e with
    | false =>
      have e1 : cpL L e = L := by simp [cpL, cpOK, hk]
      have e2 : cpB L e = false := by simp [cpB, cpOK, hk]
      have e3 : cpC L e = capK (some 0) L.length := by simp [cpC, cpOK, hk]
      rw [e1, e2, e3]
      generalize capK (some 0) L.length = cq at hcp
      (have fz := ga5 hc hk hlen hcp hsn; repeat' (first | simp (maxDischargeDepth := 8) only [go_sem, rr, reduceIte, reduceCtorEq, Nat.reduceEqDiff, Nat.reduceAdd, Nat.reduceMul, Nat.reduceSub, Nat.reduceBEq, Nat.reduceLeDiff, Int.reduceEq, Int.reduceLT, Int.reduceLE, Int.reduceGE, Int.reduceGT, Int.reduceBEq, Int.reduceBNe, Int.reduceToNat, Int.reduceNeg, Int.reduceSub, Int.reduceAdd, Int.reduceMul, fz, Tryd.f16] | (with_reducible refine qg6 ?_ ?_; focus (first | (simp (maxDischargeDepth := 8) only [bb, kk, fz]; done) | kernel_rfl)) | ((with_reducible first | refine qf4 ?_ ?_ | refine qf5 ?_ ?_ | refine qf6 ?_ ?_ | refine qf7 ?_ ?_ | refine qf8 ?_ ?_ | refine qf9 ?_ ?_ | refine qg ?_ ?_); focus (first | assumption | omega | (simp only [bz, fz]; omega))) | ((with_reducible first | refine qg0 ?_ ?_ | refine qg1 ?_ ?_ | refine qg2 ?_ ?_); focus (first | assumption | omega | (simp only [bz, fz]; omega))) | ((with_reducible first | refine g1_u8w ?_ ?_ | refine qg4 ?_ ?_); (focus ((repeat' (with_reducible apply And.intro)) <;> (first | assumption | omega | (simp only [bz, fz]; omega) | (simp (maxDischargeDepth := 8) only [bb, fz]; done)))); intro _) | (with_reducible apply call_elim; focus ((with_reducible first | apply e31 | apply e32) <;> (first | assumption | omega | (simp only [bz, fz]; omega) | (simp (maxDischargeDepth := 8) only [bb, fz]; done))))))
    | true =>
      cases hh : hasE L e.nm with
      | true =>
        have hlt : lb L e.nm < L.length := by simp only [hasE, Bool.and_eq_true, decide_eq_true_eq] at hh; exact hh.1
        obtain ⟨hfi, hft⟩ := (fi_has hs e.nm).1 hh
        have e1 : cpL L e = L.set (lb L e.nm) e := by simp [cpL, cpOK, hc, hk, hh]
        have e2 : cpB L e = true := by simp [cpB, cpOK, hc, hk, hh]
        have e3 : cpC L e = capK (some 0) L.length := by simp [cpC, hh]
        have hst := fE_setE L hlt e
        have hsn2 := noSnapL_encE (L.set (lb L e.nm) e)
        have hls : (L.set (lb L e.nm) e).length = L.length := List.length_set
        simp only [encE] at hst
        rw [e1, e2, e3]
        generalize capK (some 0) L.length = cq at hcp
        (have fz := ga9 hc hk hlen hcp hsn hst hsn2 hls hfi; repeat' (first | simp (maxDischargeDepth := 8) only [go_sem, rr, reduceIte, reduceCtorEq, Nat.reduceEqDiff, Nat.reduceAdd, Nat.reduceMul, Nat.reduceSub, Nat.reduceBEq, Nat.reduceLeDiff, Int.reduceEq, Int.reduceLT, Int.reduceLE, Int.reduceGE, Int.reduceGT, Int.reduceBEq, Int.reduceBNe, Int.reduceToNat, Int.reduceNeg, Int.reduceSub, Int.reduceAdd, Int.reduceMul, fz, if_pos hlt, Tryd.f16] | (with_reducible refine qg6 ?_ ?_; focus (first | (simp (maxDischargeDepth := 8) only [bb, kk, fz, if_pos hlt]; done) | kernel_rfl)) | ((with_reducible first | refine qf4 ?_ ?_ | refine qf5 ?_ ?_ | refine qf6 ?_ ?_ | refine qf7 ?_ ?_ | refine qf8 ?_ ?_ | refine qf9 ?_ ?_ | refine qg ?_ ?_); focus (first | assumption | omega | (simp only [bz, fz, if_pos hlt]; omega))) | ((with_reducible first | refine qg0 ?_ ?_ | refine qg1 ?_ ?_ | refine qg2 ?_ ?_); focus (first | assumption | omega | (simp only [bz, fz, if_pos hlt]; omega))) | ((with_reducible first | refine g1_u8w ?_ ?_ | refine qg4 ?_ ?_); (focus ((repeat' (with_reducible apply And.intro)) <;> (first | assumption | omega | (simp only [bz, fz, if_pos hlt]; omega) | (simp (maxDischargeDepth := 8) only [bb, fz, if_pos hlt]; done)))); intro _) | (with_reducible apply call_elim; focus ((with_reducible first | apply e31 | apply e32 | apply e33) <;> (first | assumption | omega | (simp only [bz, fz, if_pos hlt]; omega) | (simp (maxDischargeDepth := 8) only [bb, fz, if_pos hlt]; done))))))
      | false =>
        have hfn := (fi_has hs e.nm).2 hh
        have hlt : ¬ fi L e.nm < L.length := by omega
        by_cases hn : L.length = 5
        · have e1 : cpL L e = L := by simp [cpL, cpOK, hc, hk, hh, hn]
          have e2 : cpB L e = false := by simp [cpB, cpOK, hc, hk, hh, hn]
          have e3 : cpC L e = capK (some 0) L.length := by simp [cpC, hn]
          rw [e1, e2, e3]
          generalize capK (some 0) L.length = cq at hcp
          (have fz := ga5 hc hk hlen hcp hsn; repeat' (first | simp (maxDischargeDepth := 8) only [go_sem, rr, reduceIte, reduceCtorEq, Nat.reduceEqDiff, Nat.reduceAdd, Nat.reduceMul, Nat.reduceSub, Nat.reduceBEq, Nat.reduceLeDiff, Int.reduceEq, Int.reduceLT, Int.reduceLE, Int.reduceGE, Int.reduceGT, Int.reduceBEq, Int.reduceBNe, Int.reduceToNat, Int.reduceNeg, Int.reduceSub, Int.reduceAdd, Int.reduceMul, fz, if_neg hlt, Tryd.f16] | (with_reducible refine qg6 ?_ ?_; focus (first | (simp (maxDischargeDepth := 8) only [bb, kk, fz, if_neg hlt]; done) | kernel_rfl)) | ((with_reducible first | refine qf4 ?_ ?_ | refine qf5 ?_ ?_ | refine qf6 ?_ ?_ | refine qf7 ?_ ?_ | refine qf8 ?_ ?_ | refine qf9 ?_ ?_ | refine qg ?_ ?_); focus (first | assumption | omega | (simp only [bz, fz, if_neg hlt]; omega))) | ((with_reducible first | refine qg0 ?_ ?_ | refine qg1 ?_ ?_ | refine qg2 ?_ ?_); focus (first | assumption | omega | (simp only [bz, fz, if_neg hlt]; omega))) | ((with_reducible first | refine g1_u8w ?_ ?_ | refine qg4 ?_ ?_); (focus ((repeat' (with_reducible apply And.intro)) <;> (first | assumption | omega | (simp only [bz, fz, if_neg hlt]; omega) | (simp (maxDischargeDepth := 8) only [bb, fz, if_neg hlt]; done)))); intro _) | (with_reducible apply call_elim; focus ((with_reducible first | apply e31 | apply e32 | apply e33) <;> (first | assumption | omega | (simp only [bz, fz, if_neg hlt]; omega) | (simp (maxDischargeDepth := 8) only [bb, fz, if_neg hlt]; done))))))
        · have e1 : cpL L e = insE L (lb L e.nm) e := by simp [cpL, cpOK, hc, hk, hh, hn]
          have e2 : cpB L e = true := by simp [cpB, cpOK, hc, hk, hh, hn]
          have e3 : cpC L e = none := by simp [cpC, cpOK, hc, hk, hh, hn]
          have hsn2 := noSnapL_encE (insE L (lb L e.nm) e)
          have hil := insE_len hle e
          rw [e1, e2, e3]
          generalize capK (some 0) L.length = cq at hcp
          (have fz := ga5 hc hk hlen hcp hsn; repeat' (first | simp (maxDischargeDepth := 8) only [go_sem, rr, reduceIte, reduceCtorEq, Nat.reduceEqDiff, Nat.reduceAdd, Nat.reduceMul, Nat.reduceSub, Nat.reduceBEq, Nat.reduceLeDiff, Int.reduceEq, Int.reduceLT, Int.reduceLE, Int.reduceGE, Int.reduceGT, Int.reduceBEq, Int.reduceBNe, Int.reduceToNat, Int.reduceNeg, Int.reduceSub, Int.reduceAdd, Int.reduceMul, fz, if_neg hlt, Tryd.f16] | (with_reducible refine qg6 ?_ ?_; focus (first | (simp (maxDischargeDepth := 8) only [bb, kk, fz, if_neg hlt]; done) | kernel_rfl)) | ((with_reducible first | refine qf4 ?_ ?_ | refine qf5 ?_ ?_ | refine qf6 ?_ ?_ | refine qf7 ?_ ?_ | refine qf8 ?_ ?_ | refine qf9 ?_ ?_ | refine qg ?_ ?_); focus (first | assumption | omega | (simp only [bz, fz, if_neg hlt]; omega))) | ((with_reducible first | refine qg0 ?_ ?_ | refine qg1 ?_ ?_ | refine qg2 ?_ ?_); focus (first | assumption | omega | (simp only [bz, fz, if_neg hlt]; omega))) | ((with_reducible first | refine g1_u8w ?_ ?_ | refine qg4 ?_ ?_); (focus ((repeat' (with_reducible apply And.intro)) <;> (first | assumption | omega | (simp only [bz, fz, if_neg hlt]; omega) | (simp (maxDischargeDepth := 8) only [bb, fz, if_neg hlt]; done)))); intro _) | (with_reducible apply call_elim; focus ((with_reducible first | apply e31 | apply e32 | apply e33) <;> (first | assumption | omega | (simp only [bz, fz, if_neg hlt]; omega) | (simp (maxDischargeDepth := 8) only [bb, fz, if_neg hlt]; done))))))
          refine loop_go (fun i => {T := tp [(3, .ptr 0 [] 0), (6, .ref 1 [] 4 0 L.length cq), (8, vi i)], H := hp [some [vs e.nm, vi e.v, vi e.s, vi e.r], some (flat encE L)], nx := 2}) (lb L e.nm) ?_ (lt_LF (by omega)) (fun i hi Kn hK => ?_) (fun Kn => ?_)
          · simp only [vv, ff, norm, Array.toList, List.map, Option.isSome_none, bne_self_eq_false, reduceIte, reduceCtorEq, Nat.reduceEqDiff, Nat.reduceAdd, Nat.reduceMul, Nat.reduceSub, Nat.reduceBEq, Nat.reduceLeDiff, Int.reduceEq, Int.reduceLT, Int.reduceLE, Int.reduceGE, Int.reduceGT, Int.reduceBEq, Int.reduceBNe, Int.reduceToNat, Int.reduceNeg, Int.reduceSub, Int.reduceAdd, Int.reduceMul, finish, qe8, resOf, resa, qe9, qf, qf0, keep, qf1, qf2, qf3, qe6, qe7, Int.natCast_zero]
          · have h0 := fE_get0 L (show i < L.length by omega)
            have h1 := lb_lt hi
            (have fz := ga3 h0 h1 hlen; repeat' (first | simp (maxDischargeDepth := 8) only [go_sem, rr, reduceIte, reduceCtorEq, Nat.reduceEqDiff, Nat.reduceAdd, Nat.reduceMul, Nat.reduceSub, Nat.reduceBEq, Nat.reduceLeDiff, Int.reduceEq, Int.reduceLT, Int.reduceLE, Int.reduceGE, Int.reduceGT, Int.reduceBEq, Int.reduceBNe, Int.reduceToNat, Int.reduceNeg, Int.reduceSub, Int.reduceAdd, Int.reduceMul, fz] | (with_reducible refine qg6 ?_ ?_; focus (first | (simp (maxDischargeDepth := 8) only [bb, kk, fz]; done) | kernel_rfl)) | ((with_reducible first | refine qf4 ?_ ?_ | refine qf5 ?_ ?_ | refine qf6 ?_ ?_ | refine qf7 ?_ ?_ | refine qf8 ?_ ?_ | refine qf9 ?_ ?_ | refine qg ?_ ?_); focus (first | assumption | omega | (simp only [bz, fz]; omega))) | ((with_reducible first | refine qg0 ?_ ?_ | refine qg1 ?_ ?_ | refine qg2 ?_ ?_); focus (first | assumption | omega | (simp only [bz, fz]; omega))) | ((with_reducible first | refine g1_u8w ?_ ?_ | refine qg4 ?_ ?_); (focus ((repeat' (with_reducible apply And.intro)) <;> (first | assumption | omega | (simp only [bz, fz]; omega) | (simp (maxDischargeDepth := 8) only [bb, fz]; done)))); intro _)))
            refine hK _ ?_
            simp only [vv, ff, norm, Array.toList, List.map, Option.isSome_none, bne_self_eq_false, reduceIte, reduceCtorEq, Nat.reduceEqDiff, Nat.reduceAdd, Nat.reduceMul, Nat.reduceSub, Nat.reduceBEq, Nat.reduceLeDiff, Int.reduceEq, Int.reduceLT, Int.reduceLE, Int.reduceGE, Int.reduceGT, Int.reduceBEq, Int.reduceBNe, Int.reduceToNat, Int.reduceNeg, Int.reduceSub, Int.reduceAdd, Int.reduceMul, finish, qe8, resOf, resa, qe9, qf, qf0, keep, qf1, qf2, qf3, qe6, qe7, Int.natCast_add, cst1]
          · generalize hkk : lb L e.nm = k at hle hil hsn2
            have hdr : ((flat encE L).drop (k * 4)).take ((L.length - k) * 4) = flat encE (L.drop k) := by rw [flat_dr]; exact List.take_of_length_le (by rw [fE_len, List.length_drop]; exact Nat.le_refl _)
            have htk := flat_tk L k
            have od := anyOwn_encE (L.drop k)
            have ot := anyOwn_encE (L.take k)
            have ld : (flat encE (L.drop k)).length = (L.length - k) * 4 := by rw [fE_len, List.length_drop]
            have lt : (flat encE (L.take k)).length = k * 4 := by rw [fE_len, List.length_take, Nat.min_eq_left hle]
            have hfin : flat encE (L.take k) ++ vs e.nm :: vi e.v :: vi e.s :: vi e.r :: flat encE (L.drop k) = flat encE (insE L k e) := by rw [insE, flat_app, flat_app]; simp [flat, encE]
            have hck : ∀ X, capK X (1 + (L.length - k)) = none := fun X => capK_pos (by omega)
            have ha : k + (1 + (L.length - k)) = L.length + 1 := by omega
            have htk2 : (vs e.nm :: vi e.v :: vi e.s :: vi e.r :: flat encE (L.drop k)).take ((1 + (L.length - k)) * 4) = vs e.nm :: vi e.v :: vi e.s :: vi e.r :: flat encE (L.drop k) := List.take_of_length_le (by simp only [List.length_cons, ld]; omega)
            by_cases hkl : k < L.length
            · have h0 := fE_get0 L hkl
              have h1 : ltB (eA L k).nm e.nm = false := by rw [← hkk] at hkl ⊢; exact lb_at hkl
              (have fz := ga16 h0 h1 hlen hown hdr htk od ot ld lt hfin hck ha htk2 hsn2 hil; repeat' (first | simp (maxDischargeDepth := 8) only [go_sem, rr, reduceIte, reduceCtorEq, Nat.reduceEqDiff, Nat.reduceAdd, Nat.reduceMul, Nat.reduceSub, Nat.reduceBEq, Nat.reduceLeDiff, Int.reduceEq, Int.reduceLT, Int.reduceLE, Int.reduceGE, Int.reduceGT, Int.reduceBEq, Int.reduceBNe, Int.reduceToNat, Int.reduceNeg, Int.reduceSub, Int.reduceAdd, Int.reduceMul, fz, Nat.sub_zero] | (with_reducible refine qg6 ?_ ?_; focus (first | (simp (maxDischargeDepth := 8) only [bb, kk, fz, Nat.sub_zero]; done) | kernel_rfl)) | ((with_reducible first | refine qf4 ?_ ?_ | refine qf5 ?_ ?_ | refine qf6 ?_ ?_ | refine qf7 ?_ ?_ | refine qf8 ?_ ?_ | refine qf9 ?_ ?_ | refine qg ?_ ?_); focus (first | assumption | omega | (simp only [bz, fz, Nat.sub_zero]; omega))) | ((with_reducible first | refine qg0 ?_ ?_ | refine qg1 ?_ ?_ | refine qg2 ?_ ?_); focus (first | assumption | omega | (simp only [bz, fz, Nat.sub_zero]; omega))) | ((with_reducible first | refine g1_u8w ?_ ?_ | refine qg4 ?_ ?_); (focus ((repeat' (with_reducible apply And.intro)) <;> (first | assumption | omega | (simp only [bz, fz, Nat.sub_zero]; omega) | (simp (maxDischargeDepth := 8) only [bb, fz, Nat.sub_zero]; done)))); intro _)))
            · (have fz := ga14 hlen hown hdr htk od ot ld lt hfin hck ha htk2 hsn2 hil; repeat' (first | simp (maxDischargeDepth := 8) only [go_sem, rr, reduceIte, reduceCtorEq, Nat.reduceEqDiff, Nat.reduceAdd, Nat.reduceMul, Nat.reduceSub, Nat.reduceBEq, Nat.reduceLeDiff, Int.reduceEq, Int.reduceLT, Int.reduceLE, Int.reduceGE, Int.reduceGT, Int.reduceBEq, Int.reduceBNe, Int.reduceToNat, Int.reduceNeg, Int.reduceSub, Int.reduceAdd, Int.reduceMul, fz, Nat.sub_zero] | (with_reducible refine qg6 ?_ ?_; focus (first | (simp (maxDischargeDepth := 8) only [bb, kk, fz, Nat.sub_zero]; done) | kernel_rfl)) | ((with_reducible first | refine qf4 ?_ ?_ | refine qf5 ?_ ?_ | refine qf6 ?_ ?_ | refine qf7 ?_ ?_ | refine qf8 ?_ ?_ | refine qf9 ?_ ?_ | refine qg ?_ ?_); focus (first | assumption | omega | (simp only [bz, fz, Nat.sub_zero]; omega))) | ((with_reducible first | refine qg0 ?_ ?_ | refine qg1 ?_ ?_ | refine qg2 ?_ ?_); focus (first | assumption | omega | (simp only [bz, fz, Nat.sub_zero]; omega))) | ((with_reducible first | refine g1_u8w ?_ ?_ | refine qg4 ?_ ?_); (focus ((repeat' (with_reducible apply And.intro)) <;> (first | assumption | omega | (simp only [bz, fz, Nat.sub_zero]; omega) | (simp (maxDischargeDepth := 8) only [bb, fz, Nat.sub_zero]; done)))); intro _)))
theorem cpL_le (L : List Ent) (e : Ent) : (cpL L e).length ≤ L.length + 1 := by
  have := lb_le L e.nm
  unfold cpL
  split
  · split
    · rw [List.length_set]; omega
    · split
      · omega
      · rw [insE_len this]; omega
  · omega
theorem e4 (d : Nat) (L : List Ent) (e : Ent) (hL : L.length ≤ 9223372036854775807) (hN : Names L) (hE : e.nm.length ≤ 9223372036854775807) : evFun E (d+8) 4 [.sl .fgn 4 L.length none (flat encE L), .agg [vs e.nm, vi e.v, vi e.s, vi e.r]] [] = some (vb true, []) := by
  refine evFun_body b4 ?_
  by_cases h : (totN L : Int) ≤ 1048576
  · by_cases ht : (e.nm.length : Int) ≤ 1048576 - totN L
    · have hS : Small L := small_of (by omega)
      have hl := hS.1
      have hl2 : L.length ≤ 1048576 := by unfold totN at h; omega
      have he : e.nm.length ≤ 549755813888 := by omega
      have hlen := fE_len L
      have hown := anyOwn_encE L
      have hown2 := anyOwn_encE (mkE 1 L.length)
      have hlen2 : (flat encE (mkE 1 L.length)).length = L.length * 4 := by rw [fE_len, mkE_len]
      have hm1 : ∀ d c, evFun E (d+2) 21 [.ref 0 [] 4 0 L.length c, vi 1] [flat encE L] = some (vi (1 + 4 * (L.length : Int)), [some (flat encE (mkE 1 L.length))]) := fun d c => e21 d L c 1 (by decide) (by omega)
      have hs := fun d tg c => e16 d L e tg c hS he
      have hML := cpL_le L e
      rcases Nat.eq_zero_or_pos L.length with h0 | h0
      · have hnil : L = [] := List.eq_nil_of_length_eq_zero h0
        subst hnil
        have hto := fun d tg c => e17 d [] tg c (by decide)
        have hsz := fun d tg c => e14 d [] tg c 1048576 (by decide) hN (by decide) (by decide)
        rw [if_pos h] at hsz
        have hmk : (flat encE (mkE 1 0)) = [] := rfl
        have hto0 : totN [] = 0 := rfl
        have hq : ∀ d tg tg' c c', evFun E (d+2) 20 [.sl tg 4 0 c [], .sl tg' 4 0 c' []] [] = some (vb true, []) := fun d tg tg' c c' => e20 d [] tg tg' c c' (by decide)
        have hh : ∀ d c, evFun E (d+2) 22 [.sl .fgn 4 0 c [], vi 1] [] = some (vi 1, []) := fun d c => held1X d 0 .fgn c (by decide)
        simp only [hto0, Int.natCast_zero, Int.sub_zero] at ht hsz
        have hse := fun d => e15 d e 1048576 hE (by decide) (by decide)
        simp only [if_pos ht] at hse
        cases hk : entOK e with
        | false =>
          have e1 : cpL [] e = [] := by simp [cpL, cpOK, hk]
          have e2 : cpB [] e = false := by simp [cpB, cpOK, hk]
          have hi := fun d tg c => e19y d e tg c he hk
          generalize cpC [] e = cq at hs
          simp only [e1, e2, List.length_nil, flat, hmk, Int.natCast_zero, Int.mul_zero, Int.add_zero] at hs hto hm1 hsz
          (have fz := ga8 hs hi hm1 hq hh hto hsz hse; repeat' (first | simp (maxDischargeDepth := 8) only [go_sem, rr, reduceIte, reduceCtorEq, Nat.reduceEqDiff, Nat.reduceAdd, Nat.reduceMul, Nat.reduceSub, Nat.reduceBEq, Nat.reduceLeDiff, Int.reduceEq, Int.reduceLT, Int.reduceLE, Int.reduceGE, Int.reduceGT, Int.reduceBEq, Int.reduceBNe, Int.reduceToNat, Int.reduceNeg, Int.reduceSub, Int.reduceAdd, Int.reduceMul, fz, flat, mark0X, bne_self_eq_false, Tryd.f4] | (with_reducible refine qg6 ?_ ?_; focus (first | (simp (maxDischargeDepth := 8) only [bb, kk, fz, flat, mark0X, bne_self_eq_false]; done) | kernel_rfl)) | ((with_reducible first | refine qf4 ?_ ?_ | refine qf5 ?_ ?_ | refine qf6 ?_ ?_ | refine qf7 ?_ ?_ | refine qf8 ?_ ?_ | refine qf9 ?_ ?_ | refine qg ?_ ?_); focus (first | assumption | omega | (simp only [bz, fz, flat, mark0X, bne_self_eq_false]; omega))) | ((with_reducible first | refine qg0 ?_ ?_ | refine qg1 ?_ ?_ | refine qg2 ?_ ?_); focus (first | assumption | omega | (simp only [bz, fz, flat, mark0X, bne_self_eq_false]; omega))) | ((with_reducible first | refine g1_u8w ?_ ?_ | refine qg4 ?_ ?_); (focus ((repeat' (with_reducible apply And.intro)) <;> (first | assumption | omega | (simp only [bz, fz, flat, mark0X, bne_self_eq_false]; omega) | (simp (maxDischargeDepth := 8) only [bb, fz, flat, mark0X, bne_self_eq_false]; done)))); intro _) | (with_reducible apply call_elim; focus ((with_reducible first | apply e18) <;> (first | assumption | omega | (simp only [bz, fz, flat, mark0X, bne_self_eq_false]; omega) | (simp (maxDischargeDepth := 8) only [bb, fz, flat, mark0X, bne_self_eq_false]; done))))))
          done
        | true =>
          have e1 : cpL [] e = [e] := by simp [cpL, cpOK, hk, hasE, insE, catOK]
          have e2 : cpB [] e = true := by simp [cpB, cpOK, hk, hasE, catOK]
          have hi := fun d tg c => e19z d e tg c he hk
          generalize cpC [] e = cq at hs
          have hm2 : ∀ d c, evFun E (d+2) 21 [.ref 0 [] 4 0 1 c, vi 1] [[vs e.nm, vi e.v, vi e.s, vi e.r]] = some (vi 5, [some (flat encE (mkE 1 1))]) := fun d c => e21 d [e] c 1 (by decide) (by simp)
          have hq2 : ∀ d tg tg' c c', evFun E (d+2) 20 [.sl tg 4 1 c [vs e.nm, vi e.v, vi e.s, vi e.r], .sl tg' 4 1 c' [vs e.nm, vi e.v, vi e.s, vi e.r]] [] = some (vb true, []) := fun d tg tg' c c' => e20 d [e] tg tg' c c' (by simp)
          have hh2 : ∀ d tg c, evFun E (d+2) 22 [.sl tg 4 1 c (flat encE (mkE 1 1)), vi 1] [] = some (vi 5, []) := fun d tg c => held1X d 1 tg c (by decide)
          have ho3 := anyOwn_encE (mkE 1 1)
          have hl3 : (flat encE (mkE 1 1)).length = 4 := by rw [fE_len, mkE_len]
          simp only [e1, e2, List.length_nil, List.length_cons, flat, encE, List.append_nil, hmk, Int.natCast_zero, Int.mul_zero, Int.add_zero] at hs hto hm1 hsz
          generalize flat encE (mkE 1 1) = MK at hm2 hh2 ho3 hl3
          (have fz := ga13 hs hi hm1 hm2 hq hq2 hh hh2 hto hsz hse ho3 hl3; repeat' (first | simp (maxDischargeDepth := 8) only [go_sem, rr, reduceIte, reduceCtorEq, Nat.reduceEqDiff, Nat.reduceAdd, Nat.reduceMul, Nat.reduceSub, Nat.reduceBEq, Nat.reduceLeDiff, Int.reduceEq, Int.reduceLT, Int.reduceLE, Int.reduceGE, Int.reduceGT, Int.reduceBEq, Int.reduceBNe, Int.reduceToNat, Int.reduceNeg, Int.reduceSub, Int.reduceAdd, Int.reduceMul, fz, flat, mark0X, bne_self_eq_false, Tryd.f4] | (with_reducible refine qg6 ?_ ?_; focus (first | (simp (maxDischargeDepth := 8) only [bb, kk, fz, flat, mark0X, bne_self_eq_false]; done) | kernel_rfl)) | ((with_reducible first | refine qf4 ?_ ?_ | refine qf5 ?_ ?_ | refine qf6 ?_ ?_ | refine qf7 ?_ ?_ | refine qf8 ?_ ?_ | refine qf9 ?_ ?_ | refine qg ?_ ?_); focus (first | assumption | omega | (simp only [bz, fz, flat, mark0X, bne_self_eq_false]; omega))) | ((with_reducible first | refine qg0 ?_ ?_ | refine qg1 ?_ ?_ | refine qg2 ?_ ?_); focus (first | assumption | omega | (simp only [bz, fz, flat, mark0X, bne_self_eq_false]; omega))) | ((with_reducible first | refine g1_u8w ?_ ?_ | refine qg4 ?_ ?_); (focus ((repeat' (with_reducible apply And.intro)) <;> (first | assumption | omega | (simp only [bz, fz, flat, mark0X, bne_self_eq_false]; omega) | (simp (maxDischargeDepth := 8) only [bb, fz, flat, mark0X, bne_self_eq_false]; done)))); intro _) | (with_reducible apply call_elim; focus ((with_reducible first | apply e18) <;> (first | assumption | omega | (simp only [bz, fz, flat, mark0X, bne_self_eq_false]; omega) | (simp (maxDischargeDepth := 8) only [bb, fz, flat, mark0X, bne_self_eq_false]; done))))))
          done
      · have hi := fun d tg c => e19 d L e tg c hS he h0
        generalize cpL L e = M at hs hi hML
        generalize cpC L e = cq at hs
        generalize cpB L e = bb0 at hs hi
        have hlM := fE_len M
        have hoM := anyOwn_encE M
        have hoM2 := anyOwn_encE (mkE 1 M.length)
        have hlM2 : (flat encE (mkE 1 M.length)).length = M.length * 4 := by rw [fE_len, mkE_len]
        have hmM : ∀ d c, evFun E (d+2) 21 [.ref 0 [] 4 0 M.length c, vi 1] [flat encE M] = some (vi (1 + 4 * (M.length : Int)), [some (flat encE (mkE 1 M.length))]) := fun d c => e21 d M c 1 (by decide) (by omega)
        have hhM : ∀ d tg c, evFun E (d+2) 22 [.sl tg 4 M.length c (flat encE (mkE 1 M.length)), vi 1] [] = some (vi (1 + 4 * (M.length : Int)), []) := fun d tg c => hx22 d M.length tg c 1 (by decide) (by omega)
        have hse := fun d => e15 d e (1048576 - totN L) hE (by omega) (by omega)
        simp only [if_pos ht] at hse
        (have fz := ga14 hs hi hm1 hmM hhM hse hlen hown hlen2 hown2 hlM hoM hlM2 hoM2; repeat' (first | simp (maxDischargeDepth := 8) only [go_sem, rr, reduceIte, reduceCtorEq, Nat.reduceEqDiff, Nat.reduceAdd, Nat.reduceMul, Nat.reduceSub, Nat.reduceBEq, Nat.reduceLeDiff, Int.reduceEq, Int.reduceLT, Int.reduceLE, Int.reduceGE, Int.reduceGT, Int.reduceBEq, Int.reduceBNe, Int.reduceToNat, Int.reduceNeg, Int.reduceSub, Int.reduceAdd, Int.reduceMul, fz, if_pos h, bne_self_eq_false, Tryd.f4] | (with_reducible refine qg6 ?_ ?_; focus (first | (simp (maxDischargeDepth := 8) only [bb, kk, fz, if_pos h, bne_self_eq_false]; done) | kernel_rfl)) | ((with_reducible first | refine qf4 ?_ ?_ | refine qf5 ?_ ?_ | refine qf6 ?_ ?_ | refine qf7 ?_ ?_ | refine qf8 ?_ ?_ | refine qf9 ?_ ?_ | refine qg ?_ ?_); focus (first | assumption | omega | (simp only [bz, fz, if_pos h, bne_self_eq_false]; omega))) | ((with_reducible first | refine qg0 ?_ ?_ | refine qg1 ?_ ?_ | refine qg2 ?_ ?_); focus (first | assumption | omega | (simp only [bz, fz, if_pos h, bne_self_eq_false]; omega))) | ((with_reducible first | refine g1_u8w ?_ ?_ | refine qg4 ?_ ?_); (focus ((repeat' (with_reducible apply And.intro)) <;> (first | assumption | omega | (simp only [bz, fz, if_pos h, bne_self_eq_false]; omega) | (simp (maxDischargeDepth := 8) only [bb, fz, if_pos h, bne_self_eq_false]; done)))); intro _) | (with_reducible apply call_elim; focus ((with_reducible first | apply e14 | apply e17 | apply e18 | apply e20 | apply held1X) <;> (first | assumption | omega | (simp only [bz, fz, if_pos h, bne_self_eq_false]; omega) | (simp (maxDischargeDepth := 8) only [bb, fz, if_pos h, bne_self_eq_false]; done))))))
        done
    · (repeat' (first | simp (maxDischargeDepth := 8) only [go_sem, rr, reduceIte, reduceCtorEq, Nat.reduceEqDiff, Nat.reduceAdd, Nat.reduceMul, Nat.reduceSub, Nat.reduceBEq, Nat.reduceLeDiff, Int.reduceEq, Int.reduceLT, Int.reduceLE, Int.reduceGE, Int.reduceGT, Int.reduceBEq, Int.reduceBNe, Int.reduceToNat, Int.reduceNeg, Int.reduceSub, Int.reduceAdd, Int.reduceMul, if_pos h, if_neg ht, Tryd.f4] | (with_reducible refine qg6 ?_ ?_; focus (first | (simp (maxDischargeDepth := 8) only [bb, kk, if_pos h, if_neg ht]; done) | kernel_rfl)) | ((with_reducible first | refine qf4 ?_ ?_ | refine qf5 ?_ ?_ | refine qf6 ?_ ?_ | refine qf7 ?_ ?_ | refine qf8 ?_ ?_ | refine qf9 ?_ ?_ | refine qg ?_ ?_); focus (first | assumption | omega | (simp only [bz, if_pos h, if_neg ht]; omega))) | ((with_reducible first | refine qg0 ?_ ?_ | refine qg1 ?_ ?_ | refine qg2 ?_ ?_); focus (first | assumption | omega | (simp only [bz, if_pos h, if_neg ht]; omega))) | ((with_reducible first | refine g1_u8w ?_ ?_ | refine qg4 ?_ ?_); (focus ((repeat' (with_reducible apply And.intro)) <;> (first | assumption | omega | (simp only [bz, if_pos h, if_neg ht]; omega) | (simp (maxDischargeDepth := 8) only [bb, if_pos h, if_neg ht]; done)))); intro _) | (with_reducible apply call_elim; focus ((with_reducible first | apply e14 | apply e15) <;> (first | assumption | omega | (simp only [bz, if_pos h, if_neg ht]; omega) | (simp (maxDischargeDepth := 8) only [bb, if_pos h, if_neg ht]; done))))))
  · (repeat' (first | simp (maxDischargeDepth := 8) only [go_sem, rr, reduceIte, reduceCtorEq, Nat.reduceEqDiff, Nat.reduceAdd, Nat.reduceMul, Nat.reduceSub, Nat.reduceBEq, Nat.reduceLeDiff, Int.reduceEq, Int.reduceLT, Int.reduceLE, Int.reduceGE, Int.reduceGT, Int.reduceBEq, Int.reduceBNe, Int.reduceToNat, Int.reduceNeg, Int.reduceSub, Int.reduceAdd, Int.reduceMul, if_neg h, Tryd.f4] | (with_reducible refine qg6 ?_ ?_; focus (first | (simp (maxDischargeDepth := 8) only [bb, kk, if_neg h]; done) | kernel_rfl)) | ((with_reducible first | refine qf4 ?_ ?_ | refine qf5 ?_ ?_ | refine qf6 ?_ ?_ | refine qf7 ?_ ?_ | refine qf8 ?_ ?_ | refine qf9 ?_ ?_ | refine qg ?_ ?_); focus (first | assumption | omega | (simp only [bz, if_neg h]; omega))) | ((with_reducible first | refine qg0 ?_ ?_ | refine qg1 ?_ ?_ | refine qg2 ?_ ?_); focus (first | assumption | omega | (simp only [bz, if_neg h]; omega))) | ((with_reducible first | refine g1_u8w ?_ ?_ | refine qg4 ?_ ?_); (focus ((repeat' (with_reducible apply And.intro)) <;> (first | assumption | omega | (simp only [bz, if_neg h]; omega) | (simp (maxDischargeDepth := 8) only [bb, if_neg h]; done)))); intro _) | (with_reducible apply call_elim; focus ((with_reducible first | apply e14) <;> (first | assumption | omega | (simp only [bz, if_neg h]; omega) | (simp (maxDischargeDepth := 8) only [bb, if_neg h]; done))))))
end Go.Proofs.YtghmmockgbiehaaDoor.VH.S
end

