/- Part of a proof about the given program: a verified evaluator, and what it tells of the functions (VhKFGu, VhKFGv, VhKFGw, VhKFGx, VhKFGy, VhKFGn, VhKFGg). Conditions: none beyond the hypotheses that each theorem states. -/
import Derived.Test.YthgopooldcheeaaG5
set_option linter.unusedSimpArgs false
set_option linter.unusedVariables false
set_option linter.defProp false
section
namespace Go.Proofs.Ythgopooldcheeaa.VH.S
open Go.Proofs
set_option maxRecDepth 100000

/- Rows of bytes that are handed in. -/
theorem fits_rows : ∀ {rows : List (List AV)}, (∀ r, r ∈ rows → Fits (.sl (.int .u8)) r) → ∃ S : List (List Int), S.length = rows.length ∧ rows.flatten = rF S ∧ ∀ y, y ∈ S → y.length ≤ 9223372036854775807 ∧ B8 y
  | [], _ => ⟨[], rfl, rfl, fun y h => by simp at h⟩
  | r :: rs, h => by
    obtain ⟨l, rfl, l1, l2⟩ := fits_sl_int (h r (by simp))
    obtain ⟨S, h1, h2, h3⟩ := fits_rows (rows := rs) fun r hr => h r (by simp [hr])
    exact ⟨l :: S, by simp [h1], by rw [List.flatten_cons, h2]; rfl, fun y hy => by
      rcases List.mem_cons.mp hy with e | e
      · rw [e]; exact ⟨l1, B8.wf l2⟩
      · exact h3 y e⟩
end Go.Proofs.Ythgopooldcheeaa.VH.S
end

section
namespace Go.Proofs.Ythgopooldcheeaa.VH.S
open Go.Proofs
set_option maxRecDepth 100000
set_option maxHeartbeats 8000000
set_option linter.unusedSimpArgs false

/- Shards of data. -/
/- reducible -/
def fpL (i : Nat) : List Int := (List.range i).map fun j : Nat => (j : Int)
theorem fpL_len (i : Nat) : (fpL i).length = i := by simp [fpL]
theorem fpL_succ (i : Nat) : (fpL i).map (iv .u8) ++ [iv .u8 (i : Int)] = (fpL (i + 1)).map (iv .u8) := by simp [fpL, List.range_succ]
theorem fpL_at {k i : Nat} (h : i < k) : at0 (fpL k) i = i := by
  rw [at0_get (by rw [fpL_len]; exact h)]; simp [fpL]
theorem fpL_b8 {k : Nat} (hk : k ≤ 8) : B8 (fpL k) := fun v hv => by
  simp only [fpL, List.mem_map, List.mem_range] at hv
  obtain ⟨j, hj, rfl⟩ := hv
  omega
theorem e45 (d : Nat) (k : Nat) (hk : k ≤ 8) : evFun E (d+1) 45 [vi k] [] = some (.ref 0 [] 1 0 k (capG k), [some ((fpL k).map (iv .u8))]) := by
  refine evFun_body b45 ?_
  (repeat' (first | simp (maxDischargeDepth := 8) only [go_sem, rr, reduceIte, reduceCtorEq, Nat.reduceEqDiff, Nat.reduceAdd, Nat.reduceMul, Nat.reduceSub, Nat.reduceBEq, Nat.reduceLeDiff, Int.reduceEq, Int.reduceLT, Int.reduceLE, Int.reduceGE, Int.reduceGT, Int.reduceBEq, Int.reduceBNe, Int.reduceToNat, Int.reduceNeg, Int.reduceSub, Int.reduceAdd, Int.reduceMul, Try.f45] | (with_reducible refine qg9 ?_ ?_; focus (first | (simp (maxDischargeDepth := 8) only [bb, kk]; done) | kernel_rfl)) | ((with_reducible first | refine qf7 ?_ ?_ | refine qf8 ?_ ?_ | refine qf9 ?_ ?_ | refine qg ?_ ?_ | refine qg0 ?_ ?_ | refine qg1 ?_ ?_ | refine qg2 ?_ ?_); focus (first | with_reducible assumption | omega | (simp only [bz]; omega))) | ((with_reducible first | refine qg3 ?_ ?_ | refine qg4 ?_ ?_ | refine qg5 ?_ ?_); focus (first | with_reducible assumption | omega | (simp only [bz]; omega))) | ((with_reducible first | refine g1_u8w ?_ ?_ | refine qg7 ?_ ?_); (focus ((repeat' (with_reducible apply And.intro)) <;> (first | with_reducible assumption | omega | (simp only [bz]; omega) | (simp (maxDischargeDepth := 8) only [bb]; done)))); intro _)))
  refine loop_go (fun i => {T := tp [(3, .ref 0 [] 1 0 i (capG i)), (6, vi k), (7, vi i)], H := hp [some ((fpL i).map (iv .u8))], nx := 1}) k ?_ (lt_LF (by omega)) (fun i hi Kn hK => ?_) (fun Kn => ?_)
  · simp only [vv, ff, norm, Array.toList, List.map, Option.isSome_none, bne_self_eq_false, reduceIte, reduceCtorEq, Nat.reduceEqDiff, Nat.reduceAdd, Nat.reduceMul, Nat.reduceSub, Nat.reduceBEq, Nat.reduceLeDiff, Int.reduceEq, Int.reduceLT, Int.reduceLE, Int.reduceGE, Int.reduceGT, Int.reduceBEq, Int.reduceBNe, Int.reduceToNat, Int.reduceNeg, Int.reduceSub, Int.reduceAdd, Int.reduceMul, finish, qf0, resOf, resa, qf1, qf2, qf3, keep, qf4, qf5, qf6, qe9, qf, Int.natCast_zero, capG_zero, fpL, List.range_zero, List.map_nil]
  · have hsu := fpL_succ i
    have hln : ((fpL i).map (iv .u8)).length = i := by rw [List.length_map, fpL_len]
    have how := anyOwn_iv .u8 (fpL i)
    generalize (fpL i).map (iv .u8) = A at *
    generalize (fpL (i + 1)).map (iv .u8) = B at *
    (have fz := ga3 hsu hln how; repeat' (first | simp (maxDischargeDepth := 8) only [go_sem, rr, reduceIte, reduceCtorEq, Nat.reduceEqDiff, Nat.reduceAdd, Nat.reduceMul, Nat.reduceSub, Nat.reduceBEq, Nat.reduceLeDiff, Int.reduceEq, Int.reduceLT, Int.reduceLE, Int.reduceGE, Int.reduceGT, Int.reduceBEq, Int.reduceBNe, Int.reduceToNat, Int.reduceNeg, Int.reduceSub, Int.reduceAdd, Int.reduceMul, fz] | (with_reducible refine qg9 ?_ ?_; focus (first | (simp (maxDischargeDepth := 8) only [bb, kk, fz]; done) | kernel_rfl)) | ((with_reducible first | refine qf7 ?_ ?_ | refine qf8 ?_ ?_ | refine qf9 ?_ ?_ | refine qg ?_ ?_ | refine qg0 ?_ ?_ | refine qg1 ?_ ?_ | refine qg2 ?_ ?_); focus (first | with_reducible assumption | omega | (simp only [bz, fz]; omega))) | ((with_reducible first | refine qg3 ?_ ?_ | refine qg4 ?_ ?_ | refine qg5 ?_ ?_); focus (first | with_reducible assumption | omega | (simp only [bz, fz]; omega))) | ((with_reducible first | refine g1_u8w ?_ ?_ | refine qg7 ?_ ?_); (focus ((repeat' (with_reducible apply And.intro)) <;> (first | with_reducible assumption | omega | (simp only [bz, fz]; omega) | (simp (maxDischargeDepth := 8) only [bb, fz]; done)))); intro _)))
    refine hK _ ?_
    simp only [vv, ff, norm, Array.toList, List.map, Option.isSome_none, bne_self_eq_false, reduceIte, reduceCtorEq, Nat.reduceEqDiff, Nat.reduceAdd, Nat.reduceMul, Nat.reduceSub, Nat.reduceBEq, Nat.reduceLeDiff, Int.reduceEq, Int.reduceLT, Int.reduceLE, Int.reduceGE, Int.reduceGT, Int.reduceBEq, Int.reduceBNe, Int.reduceToNat, Int.reduceNeg, Int.reduceSub, Int.reduceAdd, Int.reduceMul, finish, qf0, resOf, resa, qf1, qf2, qf3, keep, qf4, qf5, qf6, qe9, qf, Int.natCast_add, cst1, capG_one, capG_succ]
  · have how := noSnapL_iv .u8 (fpL k)
    (repeat' (first | simp (maxDischargeDepth := 8) only [go_sem, rr, reduceIte, reduceCtorEq, Nat.reduceEqDiff, Nat.reduceAdd, Nat.reduceMul, Nat.reduceSub, Nat.reduceBEq, Nat.reduceLeDiff, Int.reduceEq, Int.reduceLT, Int.reduceLE, Int.reduceGE, Int.reduceGT, Int.reduceBEq, Int.reduceBNe, Int.reduceToNat, Int.reduceNeg, Int.reduceSub, Int.reduceAdd, Int.reduceMul, how] | (with_reducible refine qg9 ?_ ?_; focus (first | (simp (maxDischargeDepth := 8) only [bb, kk, how]; done) | kernel_rfl)) | ((with_reducible first | refine qf7 ?_ ?_ | refine qf8 ?_ ?_ | refine qf9 ?_ ?_ | refine qg ?_ ?_ | refine qg0 ?_ ?_ | refine qg1 ?_ ?_ | refine qg2 ?_ ?_); focus (first | with_reducible assumption | omega | (simp only [bz, how]; omega))) | ((with_reducible first | refine qg3 ?_ ?_ | refine qg4 ?_ ?_ | refine qg5 ?_ ?_); focus (first | with_reducible assumption | omega | (simp only [bz, how]; omega))) | ((with_reducible first | refine g1_u8w ?_ ?_ | refine qg7 ?_ ?_); (focus ((repeat' (with_reducible apply And.intro)) <;> (first | with_reducible assumption | omega | (simp only [bz, how]; omega) | (simp (maxDischargeDepth := 8) only [bb, how]; done)))); intro _)))
/-- the data and what fills them up -/
def enW (D : List Int) (k lo : Nat) : List Int := D ++ List.replicate (k * lo - D.length) 0
theorem enW_len {D : List Int} {k lo : Nat} (h : D.length ≤ k * lo) : (enW D k lo).length = k * lo := by simp [enW]; omega
theorem enW_b8 {D : List Int} (hD : B8 D) (k lo : Nat) : B8 (enW D k lo) := hD.app fun v hv => by rw [List.eq_of_mem_replicate hv]; decide
def enS (D : List Int) (k lo i : Nat) : List Int := ((enW D k lo).drop (i * lo)).take lo
theorem enS_len {D : List Int} {k lo i : Nat} (h : D.length ≤ k * lo) (hi : i < k) : (enS D k lo i).length = lo := by
  have : (i + 1) * lo ≤ k * lo := Nat.mul_le_mul_right lo (by omega)
  rw [Nat.succ_mul] at this
  rw [enS, List.length_take, List.length_drop, enW_len h]; omega
theorem enS_b8 {D : List Int} (hD : B8 D) (k lo i : Nat) : B8 (enS D k lo i) := ((enW_b8 hD k lo).drop _).take _
/-- the first shards -/
def en0 (D : List Int) (k lo : Nat) : List (List Int) := (List.range k).map (enS D k lo)
theorem en0_rows {D : List Int} {k lo : Nat} (hD : B8 D) (h : D.length ≤ k * lo) : Rows8 (en0 D k lo) k lo := by
  refine ⟨by simp [en0], fun i hi => ?_⟩
  have e : sA (en0 D k lo) i = enS D k lo i := by rw [sA_get (by simp [en0]; exact hi)]; simp [en0]
  rw [e]; exact ⟨enS_len h hi, enS_b8 hD k lo i⟩
def enR (D : List Int) (k lo i : Nat) : List Int := if i < k then enS D k lo i else lgR (en0 D k lo) (fpL k) k (i : Int) lo
def enL (D : List Int) (k lo i : Nat) : List (List Int) := (List.range i).map (enR D k lo)
theorem enL_len (D : List Int) (k lo i : Nat) : (enL D k lo i).length = i := by simp [enL]
theorem enL_succ (D : List Int) (k lo i : Nat) : enL D k lo (i + 1) = enL D k lo i ++ [enR D k lo i] := by simp [enL, List.range_succ]
theorem enL_k (D : List Int) (k lo : Nat) : enL D k lo k = en0 D k lo := by
  refine List.map_congr_left fun i hi => ?_
  rw [enR, if_pos (List.mem_range.mp hi)]
theorem enL_take {D : List Int} {k lo i : Nat} (h : k ≤ i) : (enL D k lo i).take k = en0 D k lo := by
  rw [← enL_k, enL, enL, ← List.map_take, List.take_range]
  rw [Nat.min_eq_left h]
theorem enR_lt {D : List Int} {k lo i : Nat} (h : i < k) : enR D k lo i = enS D k lo i := if_pos h
theorem enR_ge {D : List Int} {k lo i : Nat} (h : ¬ i < k) : enR D k lo i = lgR (en0 D k lo) (fpL k) k (i : Int) lo := if_neg h
theorem enR_len {D : List Int} {k lo i : Nat} (h : D.length ≤ k * lo) : (enR D k lo i).length = lo := by
  by_cases hi : i < k
  · rw [enR_lt hi, enS_len h hi]
  · rw [enR_ge hi, lgR_len]
theorem enL_at {D : List Int} {k lo n i : Nat} (h : i < n) : sA (enL D k lo n) i = enR D k lo i := by
  rw [sA_get (by rw [enL_len]; exact h)]; simp [enL]
theorem rB_snoc (S : List (List Int)) (x : List Int) : rB S ++ [.sl .own 1 x.length none (x.map (iv .u8))] = rB (S ++ [x]) := by simp [rB]
theorem rB_own : ∀ {S : List (List Int)}, 0 < S.length → (rB S).any qb8 = true
  | x :: S, _ => rfl
end Go.Proofs.Ythgopooldcheeaa.VH.S
end

section
namespace Go.Proofs.Ythgopooldcheeaa.VH.S
open Go.Proofs
set_option maxRecDepth 100000
set_option maxHeartbeats 8000000
set_option linter.unusedSimpArgs false

/- encode. -/
/- reducible -/
theorem c44 (d : Nat) (tg : Tg) (cap : Option Nat) (cs : List AV) (n : Nat) (hk : isK .u8 cs = true) (hn : cs.length = n) (h0 : 0 < n) (hl : n ≤ 549755813888) : evFun E (d+1) 44 [.sl tg 1 n cap cs] [] = some (.ref 0 [] 1 0 n none, [some cs]) := by
  refine evFun_body b44 ?_
  have e2 := isK_snap hk
  have e3 : decide (0 < n) = true := decide_eq_true h0
  have e4 : decide (n = 0) = false := decide_eq_false (by omega)
  have e5 := isK_sl hk
  (have fz := ga4 e5 e2 e4 hn; repeat' (first | simp (maxDischargeDepth := 8) only [go_sem, rr, reduceIte, reduceCtorEq, Nat.reduceEqDiff, Nat.reduceAdd, Nat.reduceMul, Nat.reduceSub, Nat.reduceBEq, Nat.reduceLeDiff, Int.reduceEq, Int.reduceLT, Int.reduceLE, Int.reduceGE, Int.reduceGT, Int.reduceBEq, Int.reduceBNe, Int.reduceToNat, Int.reduceNeg, Int.reduceSub, Int.reduceAdd, Int.reduceMul, fz, e3, capK_pos h0, Try.f44] | (with_reducible refine qg9 ?_ ?_; focus (first | (simp (maxDischargeDepth := 8) only [bb, kk, fz, e3, capK_pos h0]; done) | kernel_rfl)) | ((with_reducible first | refine qf7 ?_ ?_ | refine qf8 ?_ ?_ | refine qf9 ?_ ?_ | refine qg ?_ ?_ | refine qg0 ?_ ?_ | refine qg1 ?_ ?_ | refine qg2 ?_ ?_); focus (first | with_reducible assumption | omega | (simp only [bz, fz, e3, capK_pos h0]; omega))) | ((with_reducible first | refine qg3 ?_ ?_ | refine qg4 ?_ ?_ | refine qg5 ?_ ?_); focus (first | with_reducible assumption | omega | (simp only [bz, fz, e3, capK_pos h0]; omega))) | ((with_reducible first | refine g1_u8w ?_ ?_ | refine qg7 ?_ ?_); (focus ((repeat' (with_reducible apply And.intro)) <;> (first | with_reducible assumption | omega | (simp only [bz, fz, e3, capK_pos h0]; omega) | (simp (maxDischargeDepth := 8) only [bb, fz, e3, capK_pos h0]; done)))); intro _)))
theorem z44 (d : Nat) (tg : Tg) (cap : Option Nat) : evFun E (d+1) 44 [.sl tg 1 0 cap []] [] = some (.sl .fgn 1 0 (some 0) [], []) := by
  refine evFun_body b44 ?_
  (repeat' (first | simp (maxDischargeDepth := 8) only [go_sem, rr, reduceIte, reduceCtorEq, Nat.reduceEqDiff, Nat.reduceAdd, Nat.reduceMul, Nat.reduceSub, Nat.reduceBEq, Nat.reduceLeDiff, Int.reduceEq, Int.reduceLT, Int.reduceLE, Int.reduceGE, Int.reduceGT, Int.reduceBEq, Int.reduceBNe, Int.reduceToNat, Int.reduceNeg, Int.reduceSub, Int.reduceAdd, Int.reduceMul, Try.f44] | (with_reducible refine qg9 ?_ ?_; focus (first | (simp (maxDischargeDepth := 8) only [bb, kk]; done) | kernel_rfl)) | ((with_reducible first | refine qf7 ?_ ?_ | refine qf8 ?_ ?_ | refine qf9 ?_ ?_ | refine qg ?_ ?_ | refine qg0 ?_ ?_ | refine qg1 ?_ ?_ | refine qg2 ?_ ?_); focus (first | with_reducible assumption | omega | (simp only [bz]; omega))) | ((with_reducible first | refine qg3 ?_ ?_ | refine qg4 ?_ ?_ | refine qg5 ?_ ?_); focus (first | with_reducible assumption | omega | (simp only [bz]; omega))) | ((with_reducible first | refine g1_u8w ?_ ?_ | refine qg7 ?_ ?_); (focus ((repeat' (with_reducible apply And.intro)) <;> (first | with_reducible assumption | omega | (simp only [bz]; omega) | (simp (maxDischargeDepth := 8) only [bb]; done)))); intro _)))
theorem seg_map (W : List Int) (o q : Nat) : ((W.map (iv .u8)).drop o).take q = ((W.drop o).take q).map (iv .u8) := by rw [← List.map_drop, ← List.map_take]
theorem e33 (d : Nat) (tg : Tg) (c : Option Nat) (k n s : Nat) (cs : List AV) (hk : isK .u8 cs = true) (hn : cs.length = s) (hb : B8 (un cs)) (hkn : 1 ≤ k ∧ k ≤ n ∧ n ≤ 8) (hs : s ≤ 120) : evFun E (d+6) 33 [vi k, vi n, .sl tg 1 s c cs] [] = some (.ref 0 [] 1 0 n none, [some (rB (enL (un cs) k (loN k s) n))]) := by
  refine evFun_body b33 ?_
  have hL := fun d => e41 d k s (by omega) hs
  have hlo := loN_le (k := k) (s := s) (by omega) hs
  have hlp := loN_pos k s
  have hlm := loN_mul (k := k) (s := s) (by omega)
  generalize loN k s = lo at *
  have hmb : k * lo ≤ 8 * 120 := Nat.mul_le_mul (by omega) hlo
  have hmc : (k : Int) * (lo : Int) = ((k * lo : Nat) : Int) := (Int.natCast_mul k lo).symm
  have hDl : (un cs).length = s := by rw [un_len, hn]
  have hDk : (un cs).length ≤ k * lo := by omega
  have hcs := isK_get hk
  have hz : ∀ td a b, cs ++ zeros ⟨td, 1, a, [.int .u8 0], b⟩ (k * lo - s) = (enW (un cs) k lo).map (iv .u8) := fun _ _ _ => by
    rw [enW, List.map_append, ← hcs, hDl]; simp [zeros]
  have hWl : ((enW (un cs) k lo).map (iv .u8)).length = k * lo := by rw [List.length_map, enW_len hDk]
  have hWk : isK .u8 ((enW (un cs) k lo).map (iv .u8)) = true := isK_map _ _
  have hWo := isK_own hWk
  have hWs := isK_snap hWk
  have hsub : (((k * lo : Nat) : Int) - (s : Int)).toNat = k * lo - s := by omega
  have hRl : ∀ i, (enR (un cs) k lo i).length = lo := fun i => enR_len hDk
  have hSl : ∀ i, i < k → (enS (un cs) k lo i).length = lo := fun i hi => enS_len hDk hi
  have hRw := en0_rows hb hDk
  have hkl8 : ∀ i, i < k → i * lo + lo ≤ k * lo := fun i hi => by
    have := Nat.mul_le_mul_right lo (show i + 1 ≤ k by omega)
    rw [Nat.succ_mul] at this; exact this
  generalize hkl : k * lo = kl at *
  by_cases hs0 : s = 0
  have hce : cs = [] := List.eq_nil_of_length_eq_zero (by omega)
  have hC : ∀ d tg c, evFun E (d+1) 44 [.sl tg 1 s c cs] [] = some (.sl .fgn 1 0 (some 0) [], []) := fun d tg c => by rw [hce, hs0]; exact z44 d tg c
  have hz0 : ∀ td a b, zeros ⟨td, 1, a, [.int .u8 0], b⟩ (kl - s) = (enW (un cs) k lo).map (iv .u8) := fun td a b => by
    have h := hz td a b
    have e : cs ++ zeros ⟨td, 1, a, [.int .u8 0], b⟩ (kl - s) = zeros ⟨td, 1, a, [.int .u8 0], b⟩ (kl - s) := by rw [hce]; rfl
    rw [e] at h; exact h
  have hadd : 0 + (kl - s) = kl := by omega
  (have fz := ga6 hL hC hmc hsub hz0 hadd; repeat' (first | simp (maxDischargeDepth := 8) only [go_sem, rr, reduceIte, reduceCtorEq, Nat.reduceEqDiff, Nat.reduceAdd, Nat.reduceMul, Nat.reduceSub, Nat.reduceBEq, Nat.reduceLeDiff, Int.reduceEq, Int.reduceLT, Int.reduceLE, Int.reduceGE, Int.reduceGT, Int.reduceBEq, Int.reduceBNe, Int.reduceToNat, Int.reduceNeg, Int.reduceSub, Int.reduceAdd, Int.reduceMul, fz, Try.f33] | (with_reducible refine qg9 ?_ ?_; focus (first | (simp (maxDischargeDepth := 8) only [bb, kk, fz]; done) | kernel_rfl)) | ((with_reducible first | refine qf7 ?_ ?_ | refine qf8 ?_ ?_ | refine qf9 ?_ ?_ | refine qg ?_ ?_ | refine qg0 ?_ ?_ | refine qg1 ?_ ?_ | refine qg2 ?_ ?_); focus (first | with_reducible assumption | omega | (simp only [bz, fz]; omega))) | ((with_reducible first | refine qg3 ?_ ?_ | refine qg4 ?_ ?_ | refine qg5 ?_ ?_); focus (first | with_reducible assumption | omega | (simp only [bz, fz]; omega))) | ((with_reducible first | refine g1_u8w ?_ ?_ | refine qg7 ?_ ?_); (focus ((repeat' (with_reducible apply And.intro)) <;> (first | with_reducible assumption | omega | (simp only [bz, fz]; omega) | (simp (maxDischargeDepth := 8) only [bb, fz]; done)))); intro _)))
  rotate_left
  have hC := fun d tg c => c44 d tg c cs s hk hn (by omega) (by omega)
  have ho := isK_own hk
  have hsn := isK_snap hk
  have hadd : s + (kl - s) = kl := by omega
  (have fz := ga9 hL hC hmc hsub hz hn ho hsn hadd; repeat' (first | simp (maxDischargeDepth := 8) only [go_sem, rr, reduceIte, reduceCtorEq, Nat.reduceEqDiff, Nat.reduceAdd, Nat.reduceMul, Nat.reduceSub, Nat.reduceBEq, Nat.reduceLeDiff, Int.reduceEq, Int.reduceLT, Int.reduceLE, Int.reduceGE, Int.reduceGT, Int.reduceBEq, Int.reduceBNe, Int.reduceToNat, Int.reduceNeg, Int.reduceSub, Int.reduceAdd, Int.reduceMul, fz, Try.f33] | (with_reducible refine qg9 ?_ ?_; focus (first | (simp (maxDischargeDepth := 8) only [bb, kk, fz]; done) | kernel_rfl)) | ((with_reducible first | refine qf7 ?_ ?_ | refine qf8 ?_ ?_ | refine qf9 ?_ ?_ | refine qg ?_ ?_ | refine qg0 ?_ ?_ | refine qg1 ?_ ?_ | refine qg2 ?_ ?_); focus (first | with_reducible assumption | omega | (simp only [bz, fz]; omega))) | ((with_reducible first | refine qg3 ?_ ?_ | refine qg4 ?_ ?_ | refine qg5 ?_ ?_); focus (first | with_reducible assumption | omega | (simp only [bz, fz]; omega))) | ((with_reducible first | refine g1_u8w ?_ ?_ | refine qg7 ?_ ?_); (focus ((repeat' (with_reducible apply And.intro)) <;> (first | with_reducible assumption | omega | (simp only [bz, fz]; omega) | (simp (maxDischargeDepth := 8) only [bb, fz]; done)))); intro _)))
  all_goals
    refine loop_go (fun i => {T := tp [(0, vi k), (7, vi lo), (8, .ref 0 [] 1 0 kl none), (9, .ref 1 [] 1 0 i (capG i)), (25, vi n), (26, vi i)], H := hp [some ((enW (un cs) k lo).map (iv .u8)), some (rB (enL (un cs) k lo i))], nx := 2}) n ?_ (lt_LF (by omega)) (fun i hi Kn hK => ?_) (fun Kn => ?_)
    · simp only [vv, ff, norm, Array.toList, List.map, Option.isSome_none, bne_self_eq_false, reduceIte, reduceCtorEq, Nat.reduceEqDiff, Nat.reduceAdd, Nat.reduceMul, Nat.reduceSub, Nat.reduceBEq, Nat.reduceLeDiff, Int.reduceEq, Int.reduceLT, Int.reduceLE, Int.reduceGE, Int.reduceGT, Int.reduceBEq, Int.reduceBNe, Int.reduceToNat, Int.reduceNeg, Int.reduceSub, Int.reduceAdd, Int.reduceMul, finish, qf0, resOf, resa, qf1, qf2, qf3, keep, qf4, qf5, qf6, qe9, qf, Int.natCast_zero, capG_zero, enL, List.range_zero, List.map_nil, rB]
    · have hrl : (rB (enL (un cs) k lo i)).length = i := by rw [rB_len, enL_len]
      have hrs := rB_snap (enL (un cs) k lo i)
      have hsu := rB_snoc (enL (un cs) k lo i) (enR (un cs) k lo i)
      rw [← enL_succ, hRl] at hsu
      by_cases hik : i < k
      · rw [enR_lt hik] at hsu
        have hm1 : (i : Int) * (lo : Int) = ((i * lo : Nat) : Int) := (Int.natCast_mul i lo).symm
        have hm2 : ((i : Int) + 1) * (lo : Int) = ((i * lo + lo : Nat) : Int) := by
          rw [Int.add_mul, Int.one_mul, hm1]; omega
        have hmk := hkl8 i hik
        have hseg : (((enW (un cs) k lo).map (iv .u8)).drop (i * lo)).take lo = (enS (un cs) k lo i).map (iv .u8) := seg_map _ _ _
        have hC2 := fun d tg c => c44 d tg c ((enS (un cs) k lo i).map (iv .u8)) lo (isK_map _ _) (by rw [List.length_map]; exact hSl i hik) hlp (by omega)
        have hSm : ((enS (un cs) k lo i).map (iv .u8)).length = lo := by rw [List.length_map]; exact hSl i hik
        have hSo := anyOwn_iv .u8 (enS (un cs) k lo i)
        have hSs := noSnapL_iv .u8 (enS (un cs) k lo i)
        have hta : (enS (un cs) k lo i).map (iv .u8) = ((enS (un cs) k lo i).map (iv .u8)).take lo := (List.take_of_length_le (by omega)).symm
        generalize i * lo = il at *
        have hd1 : il + lo - il = lo := by omega
        have hd2 : (((il + lo : Nat) : Int) - (il : Int)).toNat = lo := by omega
        generalize (enS (un cs) k lo i).map (iv .u8) = Z at *
        generalize (enW (un cs) k lo).map (iv .u8) = W at *
        generalize rB (enL (un cs) k lo i) = R1 at *
        generalize rB (enL (un cs) k lo (i + 1)) = R2 at *
        have hZt : Z.take lo = Z := List.take_of_length_le (by omega)
        (have fz := ga15 hm1 hm2 hd1 hd2 hseg hC2 hSm hSo hSs hZt hWl hWo hWs hrl hsu; repeat' (first | simp (maxDischargeDepth := 8) only [go_sem, rr, reduceIte, reduceCtorEq, Nat.reduceEqDiff, Nat.reduceAdd, Nat.reduceMul, Nat.reduceSub, Nat.reduceBEq, Nat.reduceLeDiff, Int.reduceEq, Int.reduceLT, Int.reduceLE, Int.reduceGE, Int.reduceGT, Int.reduceBEq, Int.reduceBNe, Int.reduceToNat, Int.reduceNeg, Int.reduceSub, Int.reduceAdd, Int.reduceMul, fz, List.drop_zero] | (with_reducible refine qg9 ?_ ?_; focus (first | (simp (maxDischargeDepth := 8) only [bb, kk, fz, List.drop_zero]; done) | kernel_rfl)) | ((with_reducible first | refine qf7 ?_ ?_ | refine qf8 ?_ ?_ | refine qf9 ?_ ?_ | refine qg ?_ ?_ | refine qg0 ?_ ?_ | refine qg1 ?_ ?_ | refine qg2 ?_ ?_); focus (first | with_reducible assumption | omega | (simp only [bz, fz, List.drop_zero]; omega))) | ((with_reducible first | refine qg3 ?_ ?_ | refine qg4 ?_ ?_ | refine qg5 ?_ ?_); focus (first | with_reducible assumption | omega | (simp only [bz, fz, List.drop_zero]; omega))) | ((with_reducible first | refine g1_u8w ?_ ?_ | refine qg7 ?_ ?_); (focus ((repeat' (with_reducible apply And.intro)) <;> (first | with_reducible assumption | omega | (simp only [bz, fz, List.drop_zero]; omega) | (simp (maxDischargeDepth := 8) only [bb, fz, List.drop_zero]; done)))); intro _)))
        refine hK _ ?_
        simp only [vv, ff, norm, Array.toList, List.map, Option.isSome_none, bne_self_eq_false, reduceIte, reduceCtorEq, Nat.reduceEqDiff, Nat.reduceAdd, Nat.reduceMul, Nat.reduceSub, Nat.reduceBEq, Nat.reduceLeDiff, Int.reduceEq, Int.reduceLT, Int.reduceLE, Int.reduceGE, Int.reduceGT, Int.reduceBEq, Int.reduceBNe, Int.reduceToNat, Int.reduceNeg, Int.reduceSub, Int.reduceAdd, Int.reduceMul, finish, qf0, resOf, resa, qf1, qf2, qf3, keep, qf4, qf5, qf6, qe9, qf, Int.natCast_add, cst1, capG_one, capG_succ]
      · rw [enR_ge hik] at hsu
        have hrt : (rB (enL (un cs) k lo i)).take k = rB (en0 (un cs) k lo) := by rw [rB_take, enL_take (by omega)]
        have hF := fun d => e45 d k (by omega)
        have hB := fun d tg c c' => e42 d tg c c' ((fpL k).map (iv .u8)) k k lo (en0 (un cs) k lo) (i : Int) (isK_map _ _) (by rw [List.length_map, fpL_len]) (by rw [un_map]; exact fpL_b8 (by omega)) hRw (by omega) (Nat.le_refl k) (by omega) hlp (by omega) (by omega)
        simp only [un_map, bp_row (fpL_b8 (show k ≤ 8 by omega)) hRw] at hB
        have hfl : ((fpL k).map (iv .u8)).length = k := by rw [List.length_map, fpL_len]
        have hfo := anyOwn_iv .u8 (fpL k)
        have hfs := noSnapL_iv .u8 (fpL k)
        have hSm : ((lgR (en0 (un cs) k lo) (fpL k) k (i : Int) lo).map (iv .u8)).length = lo := by rw [List.length_map, lgR_len]
        have hSo := anyOwn_iv .u8 (lgR (en0 (un cs) k lo) (fpL k) k (i : Int) lo)
        have hSs := noSnapL_iv .u8 (lgR (en0 (un cs) k lo) (fpL k) k (i : Int) lo)
        generalize (lgR (en0 (un cs) k lo) (fpL k) k (i : Int) lo).map (iv .u8) = Z at *
        generalize (fpL k).map (iv .u8) = FP at *
        generalize (enW (un cs) k lo).map (iv .u8) = W at *
        generalize rB (en0 (un cs) k lo) = R0 at *
        generalize rB (enL (un cs) k lo i) = R1 at *
        generalize rB (enL (un cs) k lo (i + 1)) = R2 at *
        have hZt : Z.take lo = Z := List.take_of_length_le (by omega)
        (have fz := ga15 hrt hF hB hfl hfo hfs hSm hSo hSs hZt hWl hWo hWs hrl hsu; repeat' (first | simp (maxDischargeDepth := 8) only [go_sem, rr, reduceIte, reduceCtorEq, Nat.reduceEqDiff, Nat.reduceAdd, Nat.reduceMul, Nat.reduceSub, Nat.reduceBEq, Nat.reduceLeDiff, Int.reduceEq, Int.reduceLT, Int.reduceLE, Int.reduceGE, Int.reduceGT, Int.reduceBEq, Int.reduceBNe, Int.reduceToNat, Int.reduceNeg, Int.reduceSub, Int.reduceAdd, Int.reduceMul, fz, List.drop_zero, Nat.sub_zero] | (with_reducible refine qg9 ?_ ?_; focus (first | (simp (maxDischargeDepth := 8) only [bb, kk, fz, List.drop_zero, Nat.sub_zero]; done) | kernel_rfl)) | ((with_reducible first | refine qf7 ?_ ?_ | refine qf8 ?_ ?_ | refine qf9 ?_ ?_ | refine qg ?_ ?_ | refine qg0 ?_ ?_ | refine qg1 ?_ ?_ | refine qg2 ?_ ?_); focus (first | with_reducible assumption | omega | (simp only [bz, fz, List.drop_zero, Nat.sub_zero]; omega))) | ((with_reducible first | refine qg3 ?_ ?_ | refine qg4 ?_ ?_ | refine qg5 ?_ ?_); focus (first | with_reducible assumption | omega | (simp only [bz, fz, List.drop_zero, Nat.sub_zero]; omega))) | ((with_reducible first | refine g1_u8w ?_ ?_ | refine qg7 ?_ ?_); (focus ((repeat' (with_reducible apply And.intro)) <;> (first | with_reducible assumption | omega | (simp only [bz, fz, List.drop_zero, Nat.sub_zero]; omega) | (simp (maxDischargeDepth := 8) only [bb, fz, List.drop_zero, Nat.sub_zero]; done)))); intro _)))
        refine hK _ ?_
        simp only [vv, ff, norm, Array.toList, List.map, Option.isSome_none, bne_self_eq_false, reduceIte, reduceCtorEq, Nat.reduceEqDiff, Nat.reduceAdd, Nat.reduceMul, Nat.reduceSub, Nat.reduceBEq, Nat.reduceLeDiff, Int.reduceEq, Int.reduceLT, Int.reduceLE, Int.reduceGE, Int.reduceGT, Int.reduceBEq, Int.reduceBNe, Int.reduceToNat, Int.reduceNeg, Int.reduceSub, Int.reduceAdd, Int.reduceMul, finish, qf0, resOf, resa, qf1, qf2, qf3, keep, qf4, qf5, qf6, qe9, qf, Int.natCast_add, cst1, capG_one, capG_succ]
    · have hrs := rB_snap (enL (un cs) k lo n)
      have hcn : capG n = none := capG_pos (by omega)
      rw [hcn]
      (have fz := ga4 hrs hWl hWo hWs; repeat' (first | simp (maxDischargeDepth := 8) only [go_sem, rr, reduceIte, reduceCtorEq, Nat.reduceEqDiff, Nat.reduceAdd, Nat.reduceMul, Nat.reduceSub, Nat.reduceBEq, Nat.reduceLeDiff, Int.reduceEq, Int.reduceLT, Int.reduceLE, Int.reduceGE, Int.reduceGT, Int.reduceBEq, Int.reduceBNe, Int.reduceToNat, Int.reduceNeg, Int.reduceSub, Int.reduceAdd, Int.reduceMul, fz] | (with_reducible refine qg9 ?_ ?_; focus (first | (simp (maxDischargeDepth := 8) only [bb, kk, fz]; done) | kernel_rfl)) | ((with_reducible first | refine qf7 ?_ ?_ | refine qf8 ?_ ?_ | refine qf9 ?_ ?_ | refine qg ?_ ?_ | refine qg0 ?_ ?_ | refine qg1 ?_ ?_ | refine qg2 ?_ ?_); focus (first | with_reducible assumption | omega | (simp only [bz, fz]; omega))) | ((with_reducible first | refine qg3 ?_ ?_ | refine qg4 ?_ ?_ | refine qg5 ?_ ?_); focus (first | with_reducible assumption | omega | (simp only [bz, fz]; omega))) | ((with_reducible first | refine g1_u8w ?_ ?_ | refine qg7 ?_ ?_); (focus ((repeat' (with_reducible apply And.intro)) <;> (first | with_reducible assumption | omega | (simp only [bz, fz]; omega) | (simp (maxDischargeDepth := 8) only [bb, fz]; done)))); intro _)))
end Go.Proofs.Ythgopooldcheeaa.VH.S
end

section
namespace Go.Proofs.Ythgopooldcheeaa.VH.S
open Go.Proofs
set_option maxRecDepth 100000
set_option maxHeartbeats 8000000
set_option linter.unusedSimpArgs false

/- Encode as the specification has it. -/
/- reducible -/
theorem lgR_one (S : List (List Int)) (X : List Int) (k : Nat) (x : Int) (p : Nat) : (lgR S X k x p).map (iv .u8) ++ [iv .u8 (lgV X (colL S p k) x k)] = (lgR S X k x (p + 1)).map (iv .u8) := by
  simp [lgR, List.range_succ]
theorem e31 (d : Nat) (tg : Tg) (c : Option Nat) (k n s : Nat) (cs : List AV) (hk : isK .u8 cs = true) (hn : cs.length = s) (hb : B8 (un cs)) (hkn : 1 ≤ k ∧ k ≤ n ∧ n ≤ 8) (hs : s ≤ 120) : evFun E (d+6) 31 [vi k, vi n, .sl tg 1 s c cs] [] = some (.tup [.ref 0 [] 1 0 n none, vb true], [some (rB (enL (un cs) k (loN k s) n))]) := by
  refine evFun_body b31 ?_
  have hNm := fun d => e20 d k n s
  have hok : okN k n s = true := by simp only [okN, Bool.and_eq_true, decide_eq_true_eq]; omega
  rw [hok] at hNm
  have hL := fun d => e22 d k s (by omega) hs
  have hlo := loN_le (k := k) (s := s) (by omega) hs
  have hlp := loN_pos k s
  have hlm := loN_mul (k := k) (s := s) (by omega)
  generalize loN k s = lo at *
  have hmb : k * lo ≤ 8 * 120 := Nat.mul_le_mul (by omega) hlo
  have hmc : (k : Int) * (lo : Int) = ((k * lo : Nat) : Int) := (Int.natCast_mul k lo).symm
  have hDl : (un cs).length = s := by rw [un_len, hn]
  have hDk : (un cs).length ≤ k * lo := by omega
  have hcs := isK_get hk
  have hz : ∀ td a b, cs ++ zeros ⟨td, 1, a, [.int .u8 0], b⟩ (k * lo - s) = (enW (un cs) k lo).map (iv .u8) := fun _ _ _ => by
    rw [enW, List.map_append, ← hcs, hDl]; simp [zeros]
  have hWl : ((enW (un cs) k lo).map (iv .u8)).length = k * lo := by rw [List.length_map, enW_len hDk]
  have hWk : isK .u8 ((enW (un cs) k lo).map (iv .u8)) = true := isK_map _ _
  have hWo := isK_own hWk
  have hWs := isK_snap hWk
  have hsub : (((k * lo : Nat) : Int) - (s : Int)).toNat = k * lo - s := by omega
  have hRl : ∀ i, (enR (un cs) k lo i).length = lo := fun i => enR_len hDk
  have hSl : ∀ i, i < k → (enS (un cs) k lo i).length = lo := fun i hi => enS_len hDk hi
  have hRw := en0_rows hb hDk
  have hkl8 : ∀ i, i < k → i * lo + lo ≤ k * lo := fun i hi => by
    have := Nat.mul_le_mul_right lo (show i + 1 ≤ k by omega)
    rw [Nat.succ_mul] at this; exact this
  have hklp : 0 < k * lo := Nat.mul_pos (by omega) hlp
  have hcap : capK (capK (some 0) s) (k * lo - s) = none := by
    by_cases h : s = 0
    · rw [h]; exact capK_pos (by omega)
    · have e : capK (some 0) s = none := capK_pos (by omega)
      rw [e]; rfl
  have ho := isK_own hk
  have hsn := isK_snap hk
  have hB1 := fun d tg c => q43 d tg c s cs hk hn (by omega)
  have hadd : s + (k * lo - s) = k * lo := by omega
  generalize capK (some 0) s = cq at hcap hB1
  generalize hkl : k * lo = kl at *
  (have fz := ga11 hNm hL hB1 hmc hsub hz hn ho hsn hadd hcap; repeat' (first | simp (maxDischargeDepth := 8) only [go_sem, rr, reduceIte, reduceCtorEq, Nat.reduceEqDiff, Nat.reduceAdd, Nat.reduceMul, Nat.reduceSub, Nat.reduceBEq, Nat.reduceLeDiff, Int.reduceEq, Int.reduceLT, Int.reduceLE, Int.reduceGE, Int.reduceGT, Int.reduceBEq, Int.reduceBNe, Int.reduceToNat, Int.reduceNeg, Int.reduceSub, Int.reduceAdd, Int.reduceMul, fz, Try.f31] | (with_reducible refine qg9 ?_ ?_; focus (first | (simp (maxDischargeDepth := 8) only [bb, kk, fz]; done) | kernel_rfl)) | ((with_reducible first | refine qf7 ?_ ?_ | refine qf8 ?_ ?_ | refine qf9 ?_ ?_ | refine qg ?_ ?_ | refine qg0 ?_ ?_ | refine qg1 ?_ ?_ | refine qg2 ?_ ?_); focus (first | with_reducible assumption | omega | (simp only [bz, fz]; omega))) | ((with_reducible first | refine qg3 ?_ ?_ | refine qg4 ?_ ?_ | refine qg5 ?_ ?_); focus (first | with_reducible assumption | omega | (simp only [bz, fz]; omega))) | ((with_reducible first | refine g1_u8w ?_ ?_ | refine qg7 ?_ ?_); (focus ((repeat' (with_reducible apply And.intro)) <;> (first | with_reducible assumption | omega | (simp only [bz, fz]; omega) | (simp (maxDischargeDepth := 8) only [bb, fz]; done)))); intro _)))
  refine loop_go (fun i => {T := tp [(0, vi k), (1, vi n), (8, vi lo), (9, .ref 0 [] 1 0 kl none), (10, .ref 1 [] 1 0 i (capG i)), (11, .ref 2 [] 1 0 i (capG i)), (12, vi i)], H := hp [some ((enW (un cs) k lo).map (iv .u8)), some (rB (enL (un cs) k lo i)), some ((fpL i).map (iv .u8))], nx := 3}) k ?_ (lt_LF (by omega)) (fun i hi Kn hK => ?_) (fun Kn => ?_)
  · simp only [vv, ff, norm, Array.toList, List.map, Option.isSome_none, bne_self_eq_false, reduceIte, reduceCtorEq, Nat.reduceEqDiff, Nat.reduceAdd, Nat.reduceMul, Nat.reduceSub, Nat.reduceBEq, Nat.reduceLeDiff, Int.reduceEq, Int.reduceLT, Int.reduceLE, Int.reduceGE, Int.reduceGT, Int.reduceBEq, Int.reduceBNe, Int.reduceToNat, Int.reduceNeg, Int.reduceSub, Int.reduceAdd, Int.reduceMul, finish, qf0, resOf, resa, qf1, qf2, qf3, keep, qf4, qf5, qf6, qe9, qf, Int.natCast_zero, capG_zero, enL, fpL, List.range_zero, List.map_nil, rB]
  · have hrl : (rB (enL (un cs) k lo i)).length = i := by rw [rB_len, enL_len]
    have hrs := rB_snap (enL (un cs) k lo i)
    have hsu := rB_snoc (enL (un cs) k lo i) (enR (un cs) k lo i)
    rw [← enL_succ, hRl, enR_lt hi] at hsu
    have hfu := fpL_succ i
    have hfl : ((fpL i).map (iv .u8)).length = i := by rw [List.length_map, fpL_len]
    have hfo := anyOwn_iv .u8 (fpL i)
    have hm1 : (i : Int) * (lo : Int) = ((i * lo : Nat) : Int) := (Int.natCast_mul i lo).symm
    have hm2 : ((i * lo : Nat) : Int) + (lo : Int) = ((i * lo + lo : Nat) : Int) := by omega
    have hmk := hkl8 i hi
    have hseg : (((enW (un cs) k lo).map (iv .u8)).drop (i * lo)).take lo = (enS (un cs) k lo i).map (iv .u8) := seg_map _ _ _
    have hSm : ((enS (un cs) k lo i).map (iv .u8)).length = lo := by rw [List.length_map]; exact hSl i hi
    have hC2 := fun d tg c => q43 d tg c lo ((enS (un cs) k lo i).map (iv .u8)) (isK_map _ _) hSm (by omega)
    rw [capK_pos hlp] at hC2
    have hSo := anyOwn_iv .u8 (enS (un cs) k lo i)
    have hSs := noSnapL_iv .u8 (enS (un cs) k lo i)
    generalize i * lo = il at *
    have hd1 : il + lo - il = lo := by omega
    have hd2 : (((il + lo : Nat) : Int) - (il : Int)).toNat = lo := by omega
    generalize (enS (un cs) k lo i).map (iv .u8) = Z at *
    generalize (enW (un cs) k lo).map (iv .u8) = W at *
    generalize rB (enL (un cs) k lo i) = R1 at *
    generalize rB (enL (un cs) k lo (i + 1)) = R2 at *
    generalize (fpL i).map (iv .u8) = F1 at *
    generalize (fpL (i + 1)).map (iv .u8) = F2 at *
    have hZt : Z.take lo = Z := List.take_of_length_le (by omega)
    (have fz := ga18 hm1 hm2 hd1 hd2 hseg hC2 hSm hSo hSs hZt hWl hWo hWs hrl hsu hfu hfl hfo; repeat' (first | simp (maxDischargeDepth := 8) only [go_sem, rr, reduceIte, reduceCtorEq, Nat.reduceEqDiff, Nat.reduceAdd, Nat.reduceMul, Nat.reduceSub, Nat.reduceBEq, Nat.reduceLeDiff, Int.reduceEq, Int.reduceLT, Int.reduceLE, Int.reduceGE, Int.reduceGT, Int.reduceBEq, Int.reduceBNe, Int.reduceToNat, Int.reduceNeg, Int.reduceSub, Int.reduceAdd, Int.reduceMul, fz, List.drop_zero] | (with_reducible refine qg9 ?_ ?_; focus (first | (simp (maxDischargeDepth := 8) only [bb, kk, fz, List.drop_zero]; done) | kernel_rfl)) | ((with_reducible first | refine qf7 ?_ ?_ | refine qf8 ?_ ?_ | refine qf9 ?_ ?_ | refine qg ?_ ?_ | refine qg0 ?_ ?_ | refine qg1 ?_ ?_ | refine qg2 ?_ ?_); focus (first | with_reducible assumption | omega | (simp only [bz, fz, List.drop_zero]; omega))) | ((with_reducible first | refine qg3 ?_ ?_ | refine qg4 ?_ ?_ | refine qg5 ?_ ?_); focus (first | with_reducible assumption | omega | (simp only [bz, fz, List.drop_zero]; omega))) | ((with_reducible first | refine g1_u8w ?_ ?_ | refine qg7 ?_ ?_); (focus ((repeat' (with_reducible apply And.intro)) <;> (first | with_reducible assumption | omega | (simp only [bz, fz, List.drop_zero]; omega) | (simp (maxDischargeDepth := 8) only [bb, fz, List.drop_zero]; done)))); intro _)))
    refine hK _ ?_
    simp only [vv, ff, norm, Array.toList, List.map, Option.isSome_none, bne_self_eq_false, reduceIte, reduceCtorEq, Nat.reduceEqDiff, Nat.reduceAdd, Nat.reduceMul, Nat.reduceSub, Nat.reduceBEq, Nat.reduceLeDiff, Int.reduceEq, Int.reduceLT, Int.reduceLE, Int.reduceGE, Int.reduceGT, Int.reduceBEq, Int.reduceBNe, Int.reduceToNat, Int.reduceNeg, Int.reduceSub, Int.reduceAdd, Int.reduceMul, finish, qf0, resOf, resa, qf1, qf2, qf3, keep, qf4, qf5, qf6, qe9, qf, Int.natCast_add, cst1, capG_one, capG_succ]
  · have hkX : isK .u8 ((fpL k).map (iv .u8)) = true := isK_map _ _
    have hnX : ((fpL k).map (iv .u8)).length = k := by rw [List.length_map, fpL_len]
    have hbX : B8 (un ((fpL k).map (iv .u8))) := by rw [un_map]; exact fpL_b8 (by omega)
    have hdX : ∀ i k', i < k → k' < k → k' ≠ i → at0 (un ((fpL k).map (iv .u8))) k' ≠ at0 (un ((fpL k).map (iv .u8))) i := fun i k' h1 h2 h3 => by
      rw [un_map, fpL_at h1, fpL_at h2]; omega
    have howX := isK_own hkX
    have hswX := isK_snap hkX
    rw [capG_pos (show 0 < k by omega)]
    (have fz := ga3 hWl hWo hWs; repeat' (first | simp (maxDischargeDepth := 8) only [go_sem, rr, reduceIte, reduceCtorEq, Nat.reduceEqDiff, Nat.reduceAdd, Nat.reduceMul, Nat.reduceSub, Nat.reduceBEq, Nat.reduceLeDiff, Int.reduceEq, Int.reduceLT, Int.reduceLE, Int.reduceGE, Int.reduceGT, Int.reduceBEq, Int.reduceBNe, Int.reduceToNat, Int.reduceNeg, Int.reduceSub, Int.reduceAdd, Int.reduceMul, fz] | (with_reducible refine qg9 ?_ ?_; focus (first | (simp (maxDischargeDepth := 8) only [bb, kk, fz]; done) | kernel_rfl)) | ((with_reducible first | refine qf7 ?_ ?_ | refine qf8 ?_ ?_ | refine qf9 ?_ ?_ | refine qg ?_ ?_ | refine qg0 ?_ ?_ | refine qg1 ?_ ?_ | refine qg2 ?_ ?_); focus (first | with_reducible assumption | omega | (simp only [bz, fz]; omega))) | ((with_reducible first | refine qg3 ?_ ?_ | refine qg4 ?_ ?_ | refine qg5 ?_ ?_); focus (first | with_reducible assumption | omega | (simp only [bz, fz]; omega))) | ((with_reducible first | refine g1_u8w ?_ ?_ | refine qg7 ?_ ?_); (focus ((repeat' (with_reducible apply And.intro)) <;> (first | with_reducible assumption | omega | (simp only [bz, fz]; omega) | (simp (maxDischargeDepth := 8) only [bb, fz]; done)))); intro _)))
    refine loop_go (fun t => {T := tp [(0, vi k), (1, vi n), (8, vi lo), (10, .ref 0 [] 1 0 (k + t) none), (11, .ref 1 [] 1 0 k none), (13, vi (k + t : Nat))], H := hp [some (rB (enL (un cs) k lo (k + t))), some ((fpL k).map (iv .u8))], nx := 2}) (n - k) ?_ (lt_LF (by omega)) (fun t ht Kn hK => ?_) (fun Kn => ?_)
    · simp only [vv, ff, norm, Array.toList, List.map, Option.isSome_none, bne_self_eq_false, reduceIte, reduceCtorEq, Nat.reduceEqDiff, Nat.reduceAdd, Nat.reduceMul, Nat.reduceSub, Nat.reduceBEq, Nat.reduceLeDiff, Int.reduceEq, Int.reduceLT, Int.reduceLE, Int.reduceGE, Int.reduceGT, Int.reduceBEq, Int.reduceBNe, Int.reduceToNat, Int.reduceNeg, Int.reduceSub, Int.reduceAdd, Int.reduceMul, finish, qf0, resOf, resa, qf1, qf2, qf3, keep, qf4, qf5, qf6, qe9, qf, Int.natCast_zero, Nat.add_zero]
    · have hrl : (rB (enL (un cs) k lo (k + t))).length = k + t := by rw [rB_len, enL_len]
      have hrs := rB_snap (enL (un cs) k lo (k + t))
      have hsu := rB_snoc (enL (un cs) k lo (k + t)) (enR (un cs) k lo (k + t))
      rw [← enL_succ, hRl, enR_ge (by omega)] at hsu
      have hrt : (rB (enL (un cs) k lo (k + t))).take k = rB (en0 (un cs) k lo) := by rw [rB_take, enL_take (by omega)]
      rw [← Nat.add_assoc] at hK
      generalize hi : k + t = i at *
      have hik : k ≤ i := by omega
      have hin : i < n := by omega
      generalize rB (enL (un cs) k lo i) = R1 at *
      generalize rB (enL (un cs) k lo (i + 1)) = R2 at *
      (repeat' (first | simp (maxDischargeDepth := 8) only [go_sem, rr, reduceIte, reduceCtorEq, Nat.reduceEqDiff, Nat.reduceAdd, Nat.reduceMul, Nat.reduceSub, Nat.reduceBEq, Nat.reduceLeDiff, Int.reduceEq, Int.reduceLT, Int.reduceLE, Int.reduceGE, Int.reduceGT, Int.reduceBEq, Int.reduceBNe, Int.reduceToNat, Int.reduceNeg, Int.reduceSub, Int.reduceAdd, Int.reduceMul] | (with_reducible refine qg9 ?_ ?_; focus (first | (simp (maxDischargeDepth := 8) only [bb, kk]; done) | kernel_rfl)) | ((with_reducible first | refine qf7 ?_ ?_ | refine qf8 ?_ ?_ | refine qf9 ?_ ?_ | refine qg ?_ ?_ | refine qg0 ?_ ?_ | refine qg1 ?_ ?_ | refine qg2 ?_ ?_); focus (first | with_reducible assumption | omega | (simp only [bz]; omega))) | ((with_reducible first | refine qg3 ?_ ?_ | refine qg4 ?_ ?_ | refine qg5 ?_ ?_); focus (first | with_reducible assumption | omega | (simp only [bz]; omega))) | ((with_reducible first | refine g1_u8w ?_ ?_ | refine qg7 ?_ ?_); (focus ((repeat' (with_reducible apply And.intro)) <;> (first | with_reducible assumption | omega | (simp only [bz]; omega) | (simp (maxDischargeDepth := 8) only [bb]; done)))); intro _)))
      refine loop_go (fun p => {T := tp [(0, vi k), (1, vi n), (8, vi lo), (10, .ref 0 [] 1 0 i none), (11, .ref 1 [] 1 0 k none), (13, vi i), (14, .ref 2 [] 1 0 p (capG p)), (15, vi p)], H := hp [some R1, some ((fpL k).map (iv .u8)), some ((lgR (en0 (un cs) k lo) (fpL k) k (i : Int) p).map (iv .u8))], nx := 3}) lo ?_ (lt_LF (by omega)) (fun p hpl Kn2 hK2 => ?_) (fun Kn2 => ?_)
      · simp only [vv, ff, norm, Array.toList, List.map, Option.isSome_none, bne_self_eq_false, reduceIte, reduceCtorEq, Nat.reduceEqDiff, Nat.reduceAdd, Nat.reduceMul, Nat.reduceSub, Nat.reduceBEq, Nat.reduceLeDiff, Int.reduceEq, Int.reduceLT, Int.reduceLE, Int.reduceGE, Int.reduceGT, Int.reduceBEq, Int.reduceBNe, Int.reduceToNat, Int.reduceNeg, Int.reduceSub, Int.reduceAdd, Int.reduceMul, finish, qf0, resOf, resa, qf1, qf2, qf3, keep, qf4, qf5, qf6, qe9, qf, Int.natCast_zero, capG_zero, lgR, List.range_zero, List.map_nil]
      · have hC := fun d c => e24 d c k lo p (en0 (un cs) k lo) hRw (by omega) hpl (by omega)
        rw [capG_pos (show 0 < k by omega)] at hC
        have hkC : isK .u8 ((colL (en0 (un cs) k lo) p k).map (iv .u8)) = true := isK_map _ _
        have hnC : ((colL (en0 (un cs) k lo) p k).map (iv .u8)).length = k := by rw [List.length_map, colL_len]
        have hbC : B8 (un ((colL (en0 (un cs) k lo) p k).map (iv .u8))) := by rw [un_map]; exact colL_b8 hRw p (Nat.le_refl k)
        have howC := isK_own hkC
        have hswC := isK_snap hkC
        have hG := fun d tg tg' c c' => e23 d tg tg' c c' ((fpL k).map (iv .u8)) ((colL (en0 (un cs) k lo) p k).map (iv .u8)) k (i : Int) hkX hnX hbX hkC hnC hbC (by omega) (by omega) (by omega) hdX
        simp only [un_map] at hG
        have hsu2 := lgR_one (en0 (un cs) k lo) (fpL k) k (i : Int) p
        have hln : ((lgR (en0 (un cs) k lo) (fpL k) k (i : Int) p).map (iv .u8)).length = p := by rw [List.length_map, lgR_len]
        have how := anyOwn_iv .u8 (lgR (en0 (un cs) k lo) (fpL k) k (i : Int) p)
        generalize lgV (fpL k) (colL (en0 (un cs) k lo) p k) (i : Int) k = v at *
        generalize (colL (en0 (un cs) k lo) p k).map (iv .u8) = C at *
        generalize (lgR (en0 (un cs) k lo) (fpL k) k (i : Int) p).map (iv .u8) = W1 at *
        generalize (lgR (en0 (un cs) k lo) (fpL k) k (i : Int) (p + 1)).map (iv .u8) = W2 at *
        generalize rB (en0 (un cs) k lo) = R0 at *
        generalize (fpL k).map (iv .u8) = FP at *
        (have fz := ga13 hrt hrl hC hG hnX howX hswX hnC howC hswC hsu2 hln how; repeat' (first | simp (maxDischargeDepth := 8) only [go_sem, rr, reduceIte, reduceCtorEq, Nat.reduceEqDiff, Nat.reduceAdd, Nat.reduceMul, Nat.reduceSub, Nat.reduceBEq, Nat.reduceLeDiff, Int.reduceEq, Int.reduceLT, Int.reduceLE, Int.reduceGE, Int.reduceGT, Int.reduceBEq, Int.reduceBNe, Int.reduceToNat, Int.reduceNeg, Int.reduceSub, Int.reduceAdd, Int.reduceMul, fz, Nat.sub_zero] | (with_reducible refine qg9 ?_ ?_; focus (first | (simp (maxDischargeDepth := 8) only [bb, kk, fz, Nat.sub_zero]; done) | kernel_rfl)) | ((with_reducible first | refine qf7 ?_ ?_ | refine qf8 ?_ ?_ | refine qf9 ?_ ?_ | refine qg ?_ ?_ | refine qg0 ?_ ?_ | refine qg1 ?_ ?_ | refine qg2 ?_ ?_); focus (first | with_reducible assumption | omega | (simp only [bz, fz, Nat.sub_zero]; omega))) | ((with_reducible first | refine qg3 ?_ ?_ | refine qg4 ?_ ?_ | refine qg5 ?_ ?_); focus (first | with_reducible assumption | omega | (simp only [bz, fz, Nat.sub_zero]; omega))) | ((with_reducible first | refine g1_u8w ?_ ?_ | refine qg7 ?_ ?_); (focus ((repeat' (with_reducible apply And.intro)) <;> (first | with_reducible assumption | omega | (simp only [bz, fz, Nat.sub_zero]; omega) | (simp (maxDischargeDepth := 8) only [bb, fz, Nat.sub_zero]; done)))); intro _)))
        refine hK2 _ ?_
        simp only [vv, ff, norm, Array.toList, List.map, Option.isSome_none, bne_self_eq_false, reduceIte, reduceCtorEq, Nat.reduceEqDiff, Nat.reduceAdd, Nat.reduceMul, Nat.reduceSub, Nat.reduceBEq, Nat.reduceLeDiff, Int.reduceEq, Int.reduceLT, Int.reduceLE, Int.reduceGE, Int.reduceGT, Int.reduceBEq, Int.reduceBNe, Int.reduceToNat, Int.reduceNeg, Int.reduceSub, Int.reduceAdd, Int.reduceMul, finish, qf0, resOf, resa, qf1, qf2, qf3, keep, qf4, qf5, qf6, qe9, qf, Int.natCast_add, cst1, capG_one, capG_succ]
      · have hSm : ((lgR (en0 (un cs) k lo) (fpL k) k (i : Int) lo).map (iv .u8)).length = lo := by rw [List.length_map, lgR_len]
        have hSo := anyOwn_iv .u8 (lgR (en0 (un cs) k lo) (fpL k) k (i : Int) lo)
        have hSs := noSnapL_iv .u8 (lgR (en0 (un cs) k lo) (fpL k) k (i : Int) lo)
        generalize (lgR (en0 (un cs) k lo) (fpL k) k (i : Int) lo).map (iv .u8) = Z at *
        have hZt : Z.take lo = Z := List.take_of_length_le (by omega)
        (have fz := ga6 hrl hsu hSm hSo hSs hZt; repeat' (first | simp (maxDischargeDepth := 8) only [go_sem, rr, reduceIte, reduceCtorEq, Nat.reduceEqDiff, Nat.reduceAdd, Nat.reduceMul, Nat.reduceSub, Nat.reduceBEq, Nat.reduceLeDiff, Int.reduceEq, Int.reduceLT, Int.reduceLE, Int.reduceGE, Int.reduceGT, Int.reduceBEq, Int.reduceBNe, Int.reduceToNat, Int.reduceNeg, Int.reduceSub, Int.reduceAdd, Int.reduceMul, fz, List.drop_zero] | (with_reducible refine qg9 ?_ ?_; focus (first | (simp (maxDischargeDepth := 8) only [bb, kk, fz, List.drop_zero]; done) | kernel_rfl)) | ((with_reducible first | refine qf7 ?_ ?_ | refine qf8 ?_ ?_ | refine qf9 ?_ ?_ | refine qg ?_ ?_ | refine qg0 ?_ ?_ | refine qg1 ?_ ?_ | refine qg2 ?_ ?_); focus (first | with_reducible assumption | omega | (simp only [bz, fz, List.drop_zero]; omega))) | ((with_reducible first | refine qg3 ?_ ?_ | refine qg4 ?_ ?_ | refine qg5 ?_ ?_); focus (first | with_reducible assumption | omega | (simp only [bz, fz, List.drop_zero]; omega))) | ((with_reducible first | refine g1_u8w ?_ ?_ | refine qg7 ?_ ?_); (focus ((repeat' (with_reducible apply And.intro)) <;> (first | with_reducible assumption | omega | (simp only [bz, fz, List.drop_zero]; omega) | (simp (maxDischargeDepth := 8) only [bb, fz, List.drop_zero]; done)))); intro _)))
        refine hK _ ?_
        simp only [vv, ff, norm, Array.toList, List.map, Option.isSome_none, bne_self_eq_false, reduceIte, reduceCtorEq, Nat.reduceEqDiff, Nat.reduceAdd, Nat.reduceMul, Nat.reduceSub, Nat.reduceBEq, Nat.reduceLeDiff, Int.reduceEq, Int.reduceLT, Int.reduceLE, Int.reduceGE, Int.reduceGT, Int.reduceBEq, Int.reduceBNe, Int.reduceToNat, Int.reduceNeg, Int.reduceSub, Int.reduceAdd, Int.reduceMul, finish, qf0, resOf, resa, qf1, qf2, qf3, keep, qf4, qf5, qf6, qe9, qf, Int.natCast_add, cst1]
    · have hkn2 : k + (n - k) = n := by omega
      have hrs := rB_snap (enL (un cs) k lo n)
      rw [hkn2]
      (have fz := ga4 hrs howX hswX hnX; repeat' (first | simp (maxDischargeDepth := 8) only [go_sem, rr, reduceIte, reduceCtorEq, Nat.reduceEqDiff, Nat.reduceAdd, Nat.reduceMul, Nat.reduceSub, Nat.reduceBEq, Nat.reduceLeDiff, Int.reduceEq, Int.reduceLT, Int.reduceLE, Int.reduceGE, Int.reduceGT, Int.reduceBEq, Int.reduceBNe, Int.reduceToNat, Int.reduceNeg, Int.reduceSub, Int.reduceAdd, Int.reduceMul, fz] | (with_reducible refine qg9 ?_ ?_; focus (first | (simp (maxDischargeDepth := 8) only [bb, kk, fz]; done) | kernel_rfl)) | ((with_reducible first | refine qf7 ?_ ?_ | refine qf8 ?_ ?_ | refine qf9 ?_ ?_ | refine qg ?_ ?_ | refine qg0 ?_ ?_ | refine qg1 ?_ ?_ | refine qg2 ?_ ?_); focus (first | with_reducible assumption | omega | (simp only [bz, fz]; omega))) | ((with_reducible first | refine qg3 ?_ ?_ | refine qg4 ?_ ?_ | refine qg5 ?_ ?_); focus (first | with_reducible assumption | omega | (simp only [bz, fz]; omega))) | ((with_reducible first | refine g1_u8w ?_ ?_ | refine qg7 ?_ ?_); (focus ((repeat' (with_reducible apply And.intro)) <;> (first | with_reducible assumption | omega | (simp only [bz, fz]; omega) | (simp (maxDischargeDepth := 8) only [bb, fz]; done)))); intro _)))
end Go.Proofs.Ythgopooldcheeaa.VH.S
end

section
namespace Go.Proofs.Ythgopooldcheeaa.VH.S
open Go.Proofs
set_option maxRecDepth 100000
set_option maxHeartbeats 8000000
set_option linter.unusedSimpArgs false

/- Missing, both. -/
/- reducible -/
theorem f18 (d : Nat) (tg : Tg) (c c' : Option Nat) (k n s w : Int) (m q : Nat) (LL R : List AV) (hD : ∀ d tg c c', evFun E (d+7) 9 [vi k, vi n, vi s, .sl tg 1 m c LL, .sl .snap 1 q c' R] [] = some (.tup [.val (.slice none 0 0), vb false], [])) : evFun E (d+8) 18 [vi k, vi n, vi s, .sl tg 1 m c LL, .sl .snap 1 q c' R, vi w] [] = some (.tup [.val (.slice none 0 0), vb false], []) := by
  refine evFun_body b18 ?_
  (repeat' (first | simp (maxDischargeDepth := 8) only [go_sem, rr, reduceIte, reduceCtorEq, Nat.reduceEqDiff, Nat.reduceAdd, Nat.reduceMul, Nat.reduceSub, Nat.reduceBEq, Nat.reduceLeDiff, Int.reduceEq, Int.reduceLT, Int.reduceLE, Int.reduceGE, Int.reduceGT, Int.reduceBEq, Int.reduceBNe, Int.reduceToNat, Int.reduceNeg, Int.reduceSub, Int.reduceAdd, Int.reduceMul, hD, Try.f18] | (with_reducible refine qg9 ?_ ?_; focus (first | (simp (maxDischargeDepth := 8) only [bb, kk, hD]; done) | kernel_rfl)) | ((with_reducible first | refine qf7 ?_ ?_ | refine qf8 ?_ ?_ | refine qf9 ?_ ?_ | refine qg ?_ ?_ | refine qg0 ?_ ?_ | refine qg1 ?_ ?_ | refine qg2 ?_ ?_); focus (first | with_reducible assumption | omega | (simp only [bz, hD]; omega))) | ((with_reducible first | refine qg3 ?_ ?_ | refine qg4 ?_ ?_ | refine qg5 ?_ ?_); focus (first | with_reducible assumption | omega | (simp only [bz, hD]; omega))) | ((with_reducible first | refine g1_u8w ?_ ?_ | refine qg7 ?_ ?_); (focus ((repeat' (with_reducible apply And.intro)) <;> (first | with_reducible assumption | omega | (simp only [bz, hD]; omega) | (simp (maxDischargeDepth := 8) only [bb, hD]; done)))); intro _)))
theorem v18 (d : Nat) (tg : Tg) (c c' : Option Nat) (k n s : Nat) (w : Int) (m q : Nat) (LL R O : List AV) (hkO : isK .u8 O = true) (hn : n ≤ 8) (hw : ¬ (0 ≤ w ∧ w ≤ (n : Int) - 1)) (hD : ∀ d tg c c', evFun E (d+7) 9 [vi k, vi n, vi s, .sl tg 1 m c LL, .sl .snap 1 q c' R] [] = some (.tup [.ref 0 [] 1 0 s none, vb true], [some O])) : evFun E (d+8) 18 [vi k, vi n, vi s, .sl tg 1 m c LL, .sl .snap 1 q c' R, vi w] [] = some (.tup [.val (.slice none 0 0), vb false], []) := by
  refine evFun_body b18 ?_
  have ho := isK_own hkO
  have hs := isK_snap hkO
  (have fz := ga3 hD ho hs; repeat' (first | simp (maxDischargeDepth := 8) only [go_sem, rr, reduceIte, reduceCtorEq, Nat.reduceEqDiff, Nat.reduceAdd, Nat.reduceMul, Nat.reduceSub, Nat.reduceBEq, Nat.reduceLeDiff, Int.reduceEq, Int.reduceLT, Int.reduceLE, Int.reduceGE, Int.reduceGT, Int.reduceBEq, Int.reduceBNe, Int.reduceToNat, Int.reduceNeg, Int.reduceSub, Int.reduceAdd, Int.reduceMul, fz, Try.f18] | (with_reducible refine qg9 ?_ ?_; focus (first | (simp (maxDischargeDepth := 8) only [bb, kk, fz]; done) | kernel_rfl)) | ((with_reducible first | refine qf7 ?_ ?_ | refine qf8 ?_ ?_ | refine qf9 ?_ ?_ | refine qg ?_ ?_ | refine qg0 ?_ ?_ | refine qg1 ?_ ?_ | refine qg2 ?_ ?_); focus (first | with_reducible assumption | omega | (simp only [bz, fz]; omega))) | ((with_reducible first | refine qg3 ?_ ?_ | refine qg4 ?_ ?_ | refine qg5 ?_ ?_); focus (first | with_reducible assumption | omega | (simp only [bz, fz]; omega))) | ((with_reducible first | refine g1_u8w ?_ ?_ | refine qg7 ?_ ?_); (focus ((repeat' (with_reducible apply And.intro)) <;> (first | with_reducible assumption | omega | (simp only [bz, fz]; omega) | (simp (maxDischargeDepth := 8) only [bb, fz]; done)))); intro _) | (with_reducible apply call_elim; focus (first | ((with_reducible first | apply inT) <;> (first | with_reducible assumption | omega | (simp only [bz, fz]; omega) | (simp (maxDischargeDepth := 8) only [bb, fz]; done))) | ((with_reducible first | apply inF) <;> (first | with_reducible assumption | omega | (simp only [bz, fz]; omega) | (simp (maxDischargeDepth := 8) only [bb, fz]; done)))))))
theorem e18 (d : Nat) (tg : Tg) (c c' : Option Nat) (k n s w : Nat) (m q : Nat) (LL R O : List AV) (hkO : isK .u8 O = true) (hlO : s ≤ O.length) (hO8 : B8 (un (O.take s))) (hkn : 1 ≤ k ∧ k ≤ n ∧ n ≤ 8) (hs120 : s ≤ 120) (hw : w < n) (hD : ∀ d tg c c', evFun E (d+7) 9 [vi k, vi n, vi s, .sl tg 1 m c LL, .sl .snap 1 q c' R] [] = some (.tup [.ref 0 [] 1 0 s none, vb true], [some O])) : evFun E (d+8) 18 [vi k, vi n, vi s, .sl tg 1 m c LL, .sl .snap 1 q c' R, vi w] [] = some (.tup [.ref 0 [w] 1 0 (loN k s) none, vb true], [some (rB (enL (un (O.take s)) k (loN k s) n))]) := by
  refine evFun_body b18 ?_
  have ho := isK_own hkO
  have hs := isK_snap hkO
  have hlT : (O.take s).length = s := by rw [List.length_take]; omega
  have hE := fun d tg c => e33 d tg c k n s (O.take s) (isK_take s hkO) hlT hO8 hkn hs120
  have hDk : (un (O.take s)).length ≤ k * loN k s := by rw [un_len, hlT]; exact loN_mul (by omega)
  have hg := rB_g1 (enL (un (O.take s)) k (loN k s) n) (i := w) (by rw [enL_len]; exact hw)
  rw [enL_at hw, enR_len hDk] at hg
  have hrl : (rB (enL (un (O.take s)) k (loN k s) n)).length = n := by rw [rB_len, enL_len]
  have hrs := rB_snap (enL (un (O.take s)) k (loN k s) n)
  generalize rB (enL (un (O.take s)) k (loN k s) n) = RR at *
  generalize (enR (un (O.take s)) k (loN k s) w).map (iv .u8) = Z at *
  generalize loN k s = lo at *
  (have fz := ga8 hD hE hg hrl hrs ho hs hlT; repeat' (first | simp (maxDischargeDepth := 8) only [go_sem, rr, reduceIte, reduceCtorEq, Nat.reduceEqDiff, Nat.reduceAdd, Nat.reduceMul, Nat.reduceSub, Nat.reduceBEq, Nat.reduceLeDiff, Int.reduceEq, Int.reduceLT, Int.reduceLE, Int.reduceGE, Int.reduceGT, Int.reduceBEq, Int.reduceBNe, Int.reduceToNat, Int.reduceNeg, Int.reduceSub, Int.reduceAdd, Int.reduceMul, fz, Try.f18] | (with_reducible refine qg9 ?_ ?_; focus (first | (simp (maxDischargeDepth := 8) only [bb, kk, fz]; done) | kernel_rfl)) | ((with_reducible first | refine qf7 ?_ ?_ | refine qf8 ?_ ?_ | refine qf9 ?_ ?_ | refine qg ?_ ?_ | refine qg0 ?_ ?_ | refine qg1 ?_ ?_ | refine qg2 ?_ ?_); focus (first | with_reducible assumption | omega | (simp only [bz, fz]; omega))) | ((with_reducible first | refine qg3 ?_ ?_ | refine qg4 ?_ ?_ | refine qg5 ?_ ?_); focus (first | with_reducible assumption | omega | (simp only [bz, fz]; omega))) | ((with_reducible first | refine g1_u8w ?_ ?_ | refine qg7 ?_ ?_); (focus ((repeat' (with_reducible apply And.intro)) <;> (first | with_reducible assumption | omega | (simp only [bz, fz]; omega) | (simp (maxDischargeDepth := 8) only [bb, fz]; done)))); intro _) | (with_reducible apply call_elim; focus (first | ((with_reducible first | apply inT) <;> (first | with_reducible assumption | omega | (simp only [bz, fz]; omega) | (simp (maxDischargeDepth := 8) only [bb, fz]; done))) | ((with_reducible first | apply inF) <;> (first | with_reducible assumption | omega | (simp only [bz, fz]; omega) | (simp (maxDischargeDepth := 8) only [bb, fz]; done)))))))
theorem f17 (d : Nat) (tg : Tg) (c c' : Option Nat) (k n s w : Int) (m q : Nat) (LL R : List AV) (hD : ∀ d tg c c', evFun E (d+6) 6 [vi k, vi n, vi s, .sl tg 1 m c LL, .sl .snap 1 q c' R] [] = some (.tup [.ref 0 [] 1 0 0 (some 0), vb false], [some []])) : evFun E (d+7) 17 [vi k, vi n, vi s, .sl tg 1 m c LL, .sl .snap 1 q c' R, vi w] [] = some (.tup [.ref 0 [] 1 0 0 (some 0), vb false], [some []]) := by
  refine evFun_body b17 ?_
  (repeat' (first | simp (maxDischargeDepth := 8) only [go_sem, rr, reduceIte, reduceCtorEq, Nat.reduceEqDiff, Nat.reduceAdd, Nat.reduceMul, Nat.reduceSub, Nat.reduceBEq, Nat.reduceLeDiff, Int.reduceEq, Int.reduceLT, Int.reduceLE, Int.reduceGE, Int.reduceGT, Int.reduceBEq, Int.reduceBNe, Int.reduceToNat, Int.reduceNeg, Int.reduceSub, Int.reduceAdd, Int.reduceMul, hD, Try.f17] | (with_reducible refine qg9 ?_ ?_; focus (first | (simp (maxDischargeDepth := 8) only [bb, kk, hD]; done) | kernel_rfl)) | ((with_reducible first | refine qf7 ?_ ?_ | refine qf8 ?_ ?_ | refine qf9 ?_ ?_ | refine qg ?_ ?_ | refine qg0 ?_ ?_ | refine qg1 ?_ ?_ | refine qg2 ?_ ?_); focus (first | with_reducible assumption | omega | (simp only [bz, hD]; omega))) | ((with_reducible first | refine qg3 ?_ ?_ | refine qg4 ?_ ?_ | refine qg5 ?_ ?_); focus (first | with_reducible assumption | omega | (simp only [bz, hD]; omega))) | ((with_reducible first | refine g1_u8w ?_ ?_ | refine qg7 ?_ ?_); (focus ((repeat' (with_reducible apply And.intro)) <;> (first | with_reducible assumption | omega | (simp only [bz, hD]; omega) | (simp (maxDischargeDepth := 8) only [bb, hD]; done)))); intro _)))
theorem v17 (d : Nat) (tg : Tg) (c c' : Option Nat) (k n s : Nat) (w : Int) (m q : Nat) (LL R O : List AV) (hkO : isK .u8 O = true) (hn : n ≤ 8) (hw : ¬ (0 ≤ w ∧ w ≤ (n : Int) - 1)) (hD : ∀ d tg c c', evFun E (d+6) 6 [vi k, vi n, vi s, .sl tg 1 m c LL, .sl .snap 1 q c' R] [] = some (.tup [.ref 0 [] 1 0 s none, vb true], [some O])) : evFun E (d+7) 17 [vi k, vi n, vi s, .sl tg 1 m c LL, .sl .snap 1 q c' R, vi w] [] = some (.tup [.ref 0 [] 1 0 0 (some 0), vb false], [some []]) := by
  refine evFun_body b17 ?_
  have ho := isK_own hkO
  have hs := isK_snap hkO
  (have fz := ga3 hD ho hs; repeat' (first | simp (maxDischargeDepth := 8) only [go_sem, rr, reduceIte, reduceCtorEq, Nat.reduceEqDiff, Nat.reduceAdd, Nat.reduceMul, Nat.reduceSub, Nat.reduceBEq, Nat.reduceLeDiff, Int.reduceEq, Int.reduceLT, Int.reduceLE, Int.reduceGE, Int.reduceGT, Int.reduceBEq, Int.reduceBNe, Int.reduceToNat, Int.reduceNeg, Int.reduceSub, Int.reduceAdd, Int.reduceMul, fz, Try.f17] | (with_reducible refine qg9 ?_ ?_; focus (first | (simp (maxDischargeDepth := 8) only [bb, kk, fz]; done) | kernel_rfl)) | ((with_reducible first | refine qf7 ?_ ?_ | refine qf8 ?_ ?_ | refine qf9 ?_ ?_ | refine qg ?_ ?_ | refine qg0 ?_ ?_ | refine qg1 ?_ ?_ | refine qg2 ?_ ?_); focus (first | with_reducible assumption | omega | (simp only [bz, fz]; omega))) | ((with_reducible first | refine qg3 ?_ ?_ | refine qg4 ?_ ?_ | refine qg5 ?_ ?_); focus (first | with_reducible assumption | omega | (simp only [bz, fz]; omega))) | ((with_reducible first | refine g1_u8w ?_ ?_ | refine qg7 ?_ ?_); (focus ((repeat' (with_reducible apply And.intro)) <;> (first | with_reducible assumption | omega | (simp only [bz, fz]; omega) | (simp (maxDischargeDepth := 8) only [bb, fz]; done)))); intro _) | (with_reducible apply call_elim; focus (first | ((with_reducible first | apply liT) <;> (first | with_reducible assumption | omega | (simp only [bz, fz]; omega) | (simp (maxDischargeDepth := 8) only [bb, fz]; done))) | ((with_reducible first | apply liF) <;> (first | with_reducible assumption | omega | (simp only [bz, fz]; omega) | (simp (maxDischargeDepth := 8) only [bb, fz]; done)))))))
theorem e17 (d : Nat) (tg : Tg) (c c' : Option Nat) (k n s w : Nat) (m q : Nat) (LL R O : List AV) (hkO : isK .u8 O = true) (hlO : s ≤ O.length) (hO8 : B8 (un (O.take s))) (hkn : 1 ≤ k ∧ k ≤ n ∧ n ≤ 8) (hs120 : s ≤ 120) (hw : w < n) (hD : ∀ d tg c c', evFun E (d+6) 6 [vi k, vi n, vi s, .sl tg 1 m c LL, .sl .snap 1 q c' R] [] = some (.tup [.ref 0 [] 1 0 s none, vb true], [some O])) : evFun E (d+7) 17 [vi k, vi n, vi s, .sl tg 1 m c LL, .sl .snap 1 q c' R, vi w] [] = some (.tup [.ref 0 [w] 1 0 (loN k s) none, vb true], [some (rB (enL (un (O.take s)) k (loN k s) n))]) := by
  refine evFun_body b17 ?_
  have ho := isK_own hkO
  have hs := isK_snap hkO
  have hlT : (O.take s).length = s := by rw [List.length_take]; omega
  have hE := fun d tg c => e31 d tg c k n s (O.take s) (isK_take s hkO) hlT hO8 hkn hs120
  have hDk : (un (O.take s)).length ≤ k * loN k s := by rw [un_len, hlT]; exact loN_mul (by omega)
  have hg := rB_g1 (enL (un (O.take s)) k (loN k s) n) (i := w) (by rw [enL_len]; exact hw)
  rw [enL_at hw, enR_len hDk] at hg
  have hrl : (rB (enL (un (O.take s)) k (loN k s) n)).length = n := by rw [rB_len, enL_len]
  have hrs := rB_snap (enL (un (O.take s)) k (loN k s) n)
  generalize rB (enL (un (O.take s)) k (loN k s) n) = RR at *
  generalize (enR (un (O.take s)) k (loN k s) w).map (iv .u8) = Z at *
  generalize loN k s = lo at *
  (have fz := ga8 hD hE hg hrl hrs ho hs hlT; repeat' (first | simp (maxDischargeDepth := 8) only [go_sem, rr, reduceIte, reduceCtorEq, Nat.reduceEqDiff, Nat.reduceAdd, Nat.reduceMul, Nat.reduceSub, Nat.reduceBEq, Nat.reduceLeDiff, Int.reduceEq, Int.reduceLT, Int.reduceLE, Int.reduceGE, Int.reduceGT, Int.reduceBEq, Int.reduceBNe, Int.reduceToNat, Int.reduceNeg, Int.reduceSub, Int.reduceAdd, Int.reduceMul, fz, Try.f17] | (with_reducible refine qg9 ?_ ?_; focus (first | (simp (maxDischargeDepth := 8) only [bb, kk, fz]; done) | kernel_rfl)) | ((with_reducible first | refine qf7 ?_ ?_ | refine qf8 ?_ ?_ | refine qf9 ?_ ?_ | refine qg ?_ ?_ | refine qg0 ?_ ?_ | refine qg1 ?_ ?_ | refine qg2 ?_ ?_); focus (first | with_reducible assumption | omega | (simp only [bz, fz]; omega))) | ((with_reducible first | refine qg3 ?_ ?_ | refine qg4 ?_ ?_ | refine qg5 ?_ ?_); focus (first | with_reducible assumption | omega | (simp only [bz, fz]; omega))) | ((with_reducible first | refine g1_u8w ?_ ?_ | refine qg7 ?_ ?_); (focus ((repeat' (with_reducible apply And.intro)) <;> (first | with_reducible assumption | omega | (simp only [bz, fz]; omega) | (simp (maxDischargeDepth := 8) only [bb, fz]; done)))); intro _) | (with_reducible apply call_elim; focus (first | ((with_reducible first | apply liT) <;> (first | with_reducible assumption | omega | (simp only [bz, fz]; omega) | (simp (maxDischargeDepth := 8) only [bb, fz]; done))) | ((with_reducible first | apply liF) <;> (first | with_reducible assumption | omega | (simp only [bz, fz]; omega) | (simp (maxDischargeDepth := 8) only [bb, fz]; done)))))))
end Go.Proofs.Ythgopooldcheeaa.VH.S
end

section
namespace Go.Proofs.Ythgopooldcheeaa.VH.S
open Go.Proofs
set_option maxRecDepth 100000
set_option maxHeartbeats 8000000
set_option linter.unusedSimpArgs false

/- The law of Missing. -/
/- reducible -/
theorem lawMF (d : Nat) (k n s w : Int) (L : List Int) (S : List (List Int)) (hl : L.length ≤ 1048576) (hS : S.length ≤ 9223372036854775807) (hSy : ∀ y, y ∈ S → y.length ≤ 9223372036854775807 ∧ B8 y) (hsz : (totS lnS S : Int) ≤ 1048576)
    (hI : ∀ d tg c c', evFun E (d+8) 18 [vi k, vi n, vi s, .sl tg 1 L.length c (L.map (iv .i64)), .sl .snap 1 S.length c' (rB S), vi w] [] = some (.tup [.val (.slice none 0 0), vb false], []))
    (hW : ∀ d tg c c', evFun E (d+7) 17 [vi k, vi n, vi s, .sl tg 1 L.length c (L.map (iv .i64)), .sl .snap 1 S.length c' (rB S), vi w] [] = some (.tup [.ref 0 [] 1 0 0 (some 0), vb false], [some []])) : evFun E (d+10) 4 [vi k, vi n, vi s, .sl .fgn 1 L.length none (L.map (iv .i64)), .sl .fgn 1 S.length none (rF S), vi w] [] = some (vb true, []) := by
  refine evFun_body b4 ?_
  have hq : S.length ≤ 1048576 := by have := totS_len lnS S; omega
  have hts : totS lnS S ≤ 1048576 := by omega
  have hsz1 := fun d => p5 d S 1048576 hS (fun y hy => (hSy y hy).1) (by decide) (by decide) hsz
  have hTI : ∀ d, evFun E (d+1) 7 [.sl .fgn 1 L.length none (L.map (iv .i64))] [] = some (.ref 0 [] 1 0 L.length (some L.length), [some (L.map (iv .i64))]) := fun d => e7 d .fgn none L (by omega)
  have hTB := fun d => t8 d S hts
  have hEI : ∀ d tg tg' c c', evFun E (d+1) 11 [.sl tg 1 L.length c (L.map (iv .i64)), .sl tg' 1 L.length c' (L.map (iv .i64))] [] = some (vb true, []) := fun d tg tg' c c' => by
    rw [e11 d tg tg' c c' L L (by omega), decide_eq_true rfl]
  have hEB := fun d c c2 => q12 d S .snap .snap c c2 rfl rfl hts
  have hMI := fun d c => m13 d L c L.length rfl hl
  have hMB : ∀ d c, evFun E (d+2) 14 [.ref 0 [] 1 0 S.length c, vi (1 + L.length)] [rB S] = some (vi (KS (1 + L.length) S S.length : Nat), [some (rB (mkS (1 + L.length) S))]) := fun d c => by
    have h := m14 d S c S.length (1 + L.length) rfl (by omega)
    have e : ((1 + L.length : Nat) : Int) = 1 + (L.length : Int) := by omega
    rw [e] at h
    exact h
  have hLl : (L.map (iv .i64)).length = L.length := List.length_map _
  have hrl := rB_len S
  have hrs := rB_snap S
  have oI := anyOwn_iv .i64 L
  have sI := noSnapL_iv .i64 L
  have oM := anyOwn_iv .i64 (marks .i64 1 L.length)
  have sM := noSnapL_iv .i64 (marks .i64 1 L.length)
  have lM : ((marks .i64 1 L.length).map (iv .i64)).length = L.length := by simp [marks]
  have rl2 : (rB (mkS (1 + L.length) S)).length = S.length := by rw [rB_len, mkS_len]
  have rs2 := rB_snap (mkS (1 + L.length) S)
  generalize rB (mkS (1 + L.length) S) = R2 at *
  generalize rB S = R at *
  generalize L.map (iv .i64) = LL at *
  generalize (marks .i64 1 L.length).map (iv .i64) = MM at *
  cases hR2 : R2.any qb8
  all_goals (have fz := ga20 hsz1 hTI hTB hEI hEB hMI hMB hLl hrl hrs oI sI oM sM lM rl2 rs2 hI hW hR2; repeat' (first | simp (maxDischargeDepth := 8) only [go_sem, rr, reduceIte, reduceCtorEq, Nat.reduceEqDiff, Nat.reduceAdd, Nat.reduceMul, Nat.reduceSub, Nat.reduceBEq, Nat.reduceLeDiff, Int.reduceEq, Int.reduceLT, Int.reduceLE, Int.reduceGE, Int.reduceGT, Int.reduceBEq, Int.reduceBNe, Int.reduceToNat, Int.reduceNeg, Int.reduceSub, Int.reduceAdd, Int.reduceMul, fz, qc2, qc3, pathL, bne_self_eq_false, e10n, e15n, e16n, Try.f4] | (with_reducible refine qg9 ?_ ?_; focus (first | (simp (maxDischargeDepth := 8) only [bb, kk, fz, qc2, qc3, pathL, bne_self_eq_false, e10n, e15n, e16n]; done) | kernel_rfl)) | ((with_reducible first | refine qf7 ?_ ?_ | refine qf8 ?_ ?_ | refine qf9 ?_ ?_ | refine qg ?_ ?_ | refine qg0 ?_ ?_ | refine qg1 ?_ ?_ | refine qg2 ?_ ?_); focus (first | with_reducible assumption | omega | (simp only [bz, fz, qc2, qc3, pathL, bne_self_eq_false, e10n, e15n, e16n]; omega))) | ((with_reducible first | refine qg3 ?_ ?_ | refine qg4 ?_ ?_ | refine qg5 ?_ ?_); focus (first | with_reducible assumption | omega | (simp only [bz, fz, qc2, qc3, pathL, bne_self_eq_false, e10n, e15n, e16n]; omega))) | ((with_reducible first | refine g1_u8w ?_ ?_ | refine qg7 ?_ ?_); (focus ((repeat' (with_reducible apply And.intro)) <;> (first | with_reducible assumption | omega | (simp only [bz, fz, qc2, qc3, pathL, bne_self_eq_false, e10n, e15n, e16n]; omega) | (simp (maxDischargeDepth := 8) only [bb, fz, qc2, qc3, pathL, bne_self_eq_false, e10n, e15n, e16n]; done)))); intro _) | ((with_reducible refine g1_64w ?_ ?_); (focus ((repeat' (with_reducible apply And.intro)) <;> (first | with_reducible assumption | omega | (simp only [bz, fz, qc2, qc3, pathL, bne_self_eq_false, e10n, e15n, e16n]; omega) | (simp (maxDischargeDepth := 8) only [bb, fz, qc2, qc3, pathL, bne_self_eq_false, e10n, e15n, e16n]; done)))); intro _)))
theorem lawMT (d : Nat) (k n s w : Int) (L : List Int) (S : List (List Int)) (hl : L.length ≤ 1048576) (hS : S.length ≤ 9223372036854775807) (hSy : ∀ y, y ∈ S → y.length ≤ 9223372036854775807 ∧ B8 y) (hsz : (totS lnS S : Int) ≤ 1048576) (hS0 : 0 < S.length) (u lo nn : Nat) (RR : List AV) (x : List Int) (hx : x.length = lo) (hlo : lo ≤ 120) (hlp : 0 < lo) (hRn : RR.length = nn) (hun : u < nn) (hRs : qf2 RR = true) (hRx : RR[u]? = some (.sl .own 1 lo none (x.map (iv .u8))))
    (hRs2 : qf2 (RR.set u (.sl .own 1 lo none ((marks .u8 1 lo).map (iv .u8)))) = true)
    (hI : ∀ d tg c c', evFun E (d+8) 18 [vi k, vi n, vi s, .sl tg 1 L.length c (L.map (iv .i64)), .sl .snap 1 S.length c' (rB S), vi w] [] = some (.tup [.ref 0 [u] 1 0 lo none, vb true], [some RR]))
    (hW : ∀ d tg c c', evFun E (d+7) 17 [vi k, vi n, vi s, .sl tg 1 L.length c (L.map (iv .i64)), .sl .snap 1 S.length c' (rB S), vi w] [] = some (.tup [.ref 0 [u] 1 0 lo none, vb true], [some RR])) : evFun E (d+10) 4 [vi k, vi n, vi s, .sl .fgn 1 L.length none (L.map (iv .i64)), .sl .fgn 1 S.length none (rF S), vi w] [] = some (vb true, []) := by
  refine evFun_body b4 ?_
  have hq : S.length ≤ 1048576 := by have := totS_len lnS S; omega
  have hts : totS lnS S ≤ 1048576 := by omega
  have hsz1 := fun d => p5 d S 1048576 hS (fun y hy => (hSy y hy).1) (by decide) (by decide) hsz
  have hTI : ∀ d, evFun E (d+1) 7 [.sl .fgn 1 L.length none (L.map (iv .i64))] [] = some (.ref 0 [] 1 0 L.length (some L.length), [some (L.map (iv .i64))]) := fun d => e7 d .fgn none L (by omega)
  have hTB := fun d => t8 d S hts
  have hEI : ∀ d tg tg' c c', evFun E (d+1) 11 [.sl tg 1 L.length c (L.map (iv .i64)), .sl tg' 1 L.length c' (L.map (iv .i64))] [] = some (vb true, []) := fun d tg tg' c c' => by
    rw [e11 d tg tg' c c' L L (by omega), decide_eq_true rfl]
  have hEB := fun d c c2 => q12 d S .snap .snap c c2 rfl rfl hts
  have hMI := fun d c => m13 d L c L.length rfl hl
  have hMB : ∀ d c, evFun E (d+2) 14 [.ref 0 [] 1 0 S.length c, vi (1 + L.length)] [rB S] = some (vi (KS (1 + L.length) S S.length : Nat), [some (rB (mkS (1 + L.length) S))]) := fun d c => by
    have h := m14 d S c S.length (1 + L.length) rfl (by omega)
    have e : ((1 + L.length : Nat) : Int) = 1 + (L.length : Int) := by omega
    rw [e] at h
    exact h
  have hLl : (L.map (iv .i64)).length = L.length := List.length_map _
  have hrl := rB_len S
  have hrs := rB_snap S
  have oI := anyOwn_iv .i64 L
  have sI := noSnapL_iv .i64 L
  have oM := anyOwn_iv .i64 (marks .i64 1 L.length)
  have sM := noSnapL_iv .i64 (marks .i64 1 L.length)
  have lM : ((marks .i64 1 L.length).map (iv .i64)).length = L.length := by simp [marks]
  have rl2 : (rB (mkS (1 + L.length) S)).length = S.length := by rw [rB_len, mkS_len]
  have rs2 := rB_snap (mkS (1 + L.length) S)
  have hR2 : (rB (mkS (1 + L.length) S)).any qb8 = true := rB_own (by rw [mkS_len]; exact hS0)
  have hZl : (x.map (iv .u8)).length = lo := by rw [List.length_map, hx]
  have hZk := isK_map .u8 x
  have hEO : ∀ d tg tg' c c', evFun E (d+1) 10 [.sl tg 1 lo c (x.map (iv .u8)), .sl tg' 1 lo c' (x.map (iv .u8))] [] = some (vb true, []) := fun d tg tg' c c' => by
    rw [q10 d tg tg' c c' lo lo _ _ hZk hZk hZl hZl (by omega), decide_eq_true rfl]
  have hMO : ∀ d c, evFun E (d+1) 15 [.ref 0 [] 1 0 lo c, vi 1] [x.map (iv .u8)] = some (vi (1 + lo), [some ((marks .u8 1 lo).map (iv .u8))]) := fun d c => by
    have h := e15 d x c 1 (by decide) (by omega)
    rw [hx] at h
    exact h
  have hHO : ∀ d tg c, evFun E (d+1) 16 [.sl tg 1 lo c ((marks .u8 1 lo).map (iv .u8)), vi 1] [] = some (vi (1 + lo), []) := fun d tg c => e16 d tg c lo 1 (by decide) (by omega)
  have e4 : ∀ ds, modp [u] (fun _ => ds) RR = RR.set u (.sl .own 1 lo none ds) := fun ds => by rw [modp_cons hRx, modp_nil]
  have g5 : (RR.set u (.sl .own 1 lo none ((marks .u8 1 lo).map (iv .u8))))[u]? = some (.sl .own 1 lo none ((marks .u8 1 lo).map (iv .u8))) := List.getElem?_set_self (by omega)
  have hl5 : (RR.set u (.sl .own 1 lo none ((marks .u8 1 lo).map (iv .u8)))).length = nn := by rw [List.length_set, hRn]
  have p1 := plain8 x
  have q1 : (x.map (iv .u8)).isEmpty = false := by
    cases hq : x with
    | nil => rw [hq] at hx; simp at hx; omega
    | cons => rfl
  have hQl : ((marks .u8 1 lo).map (iv .u8)).length = lo := by rw [List.length_map, marksL8]
  have hQo := anyOwn_iv .u8 (marks .u8 1 lo)
  have hZt : (x.map (iv .u8)).take lo = x.map (iv .u8) := List.take_of_length_le (by omega)
  have hQt : ((marks .u8 1 lo).map (iv .u8)).take lo = (marks .u8 1 lo).map (iv .u8) := List.take_of_length_le (by omega)
  generalize hQQ : (marks .u8 1 lo).map (iv .u8) = Q at *
  generalize hgg : RR.set u (.sl .own 1 lo none Q) = RR2 at *
  generalize x.map (iv .u8) = Z at *
  generalize rB (mkS (1 + L.length) S) = R2 at *
  generalize rB S = R at *
  generalize L.map (iv .i64) = LL at *
  generalize (marks .i64 1 L.length).map (iv .i64) = MM at *
  (repeat' (first | simp (maxDischargeDepth := 8) only [go_sem, rr, reduceIte, reduceCtorEq, Nat.reduceEqDiff, Nat.reduceAdd, Nat.reduceMul, Nat.reduceSub, Nat.reduceBEq, Nat.reduceLeDiff, Int.reduceEq, Int.reduceLT, Int.reduceLE, Int.reduceGE, Int.reduceGT, Int.reduceBEq, Int.reduceBNe, Int.reduceToNat, Int.reduceNeg, Int.reduceSub, Int.reduceAdd, Int.reduceMul, hsz1, hTI, hTB, hEI, hEB, hMI, hMB, hLl, hrl, hrs, oI, sI, oM, sM, lM, rl2, rs2, hI, hW, hR2, qc2, qc3, pathL, bne_self_eq_false, hRn, hRs, hRx, hRs2, hZl, hEO, hMO, hHO, e4, g5, hl5, p1, q1, hQl, hQo, hZt, hQt, hgg, List.drop_zero, Try.f4] | (with_reducible refine qg9 ?_ ?_; focus (first | (simp (maxDischargeDepth := 8) only [bb, kk, hsz1, hTI, hTB, hEI, hEB, hMI, hMB, hLl, hrl, hrs, oI, sI, oM, sM, lM, rl2, rs2, hI, hW, hR2, qc2, qc3, pathL, bne_self_eq_false, hRn, hRs, hRx, hRs2, hZl, hEO, hMO, hHO, e4, g5, hl5, p1, q1, hQl, hQo, hZt, hQt, hgg, List.drop_zero]; done) | kernel_rfl)) | ((with_reducible first | refine qf7 ?_ ?_ | refine qf8 ?_ ?_ | refine qf9 ?_ ?_ | refine qg ?_ ?_ | refine qg0 ?_ ?_ | refine qg1 ?_ ?_ | refine qg2 ?_ ?_); focus (first | with_reducible assumption | omega | (simp only [bz, hsz1, hTI, hTB, hEI, hEB, hMI, hMB, hLl, hrl, hrs, oI, sI, oM, sM, lM, rl2, rs2, hI, hW, hR2, qc2, qc3, pathL, bne_self_eq_false, hRn, hRs, hRx, hRs2, hZl, hEO, hMO, hHO, e4, g5, hl5, p1, q1, hQl, hQo, hZt, hQt, hgg, List.drop_zero]; omega))) | ((with_reducible first | refine qg3 ?_ ?_ | refine qg4 ?_ ?_ | refine qg5 ?_ ?_); focus (first | with_reducible assumption | omega | (simp only [bz, hsz1, hTI, hTB, hEI, hEB, hMI, hMB, hLl, hrl, hrs, oI, sI, oM, sM, lM, rl2, rs2, hI, hW, hR2, qc2, qc3, pathL, bne_self_eq_false, hRn, hRs, hRx, hRs2, hZl, hEO, hMO, hHO, e4, g5, hl5, p1, q1, hQl, hQo, hZt, hQt, hgg, List.drop_zero]; omega))) | ((with_reducible first | refine g1_u8w ?_ ?_ | refine qg7 ?_ ?_); (focus ((repeat' (with_reducible apply And.intro)) <;> (first | with_reducible assumption | omega | (simp only [bz, hsz1, hTI, hTB, hEI, hEB, hMI, hMB, hLl, hrl, hrs, oI, sI, oM, sM, lM, rl2, rs2, hI, hW, hR2, qc2, qc3, pathL, bne_self_eq_false, hRn, hRs, hRx, hRs2, hZl, hEO, hMO, hHO, e4, g5, hl5, p1, q1, hQl, hQo, hZt, hQt, hgg, List.drop_zero]; omega) | (simp (maxDischargeDepth := 8) only [bb, hsz1, hTI, hTB, hEI, hEB, hMI, hMB, hLl, hrl, hrs, oI, sI, oM, sM, lM, rl2, rs2, hI, hW, hR2, qc2, qc3, pathL, bne_self_eq_false, hRn, hRs, hRx, hRs2, hZl, hEO, hMO, hHO, e4, g5, hl5, p1, q1, hQl, hQo, hZt, hQt, hgg, List.drop_zero]; done)))); intro _) | ((with_reducible refine g1_64w ?_ ?_); (focus ((repeat' (with_reducible apply And.intro)) <;> (first | with_reducible assumption | omega | (simp only [bz, hsz1, hTI, hTB, hEI, hEB, hMI, hMB, hLl, hrl, hrs, oI, sI, oM, sM, lM, rl2, rs2, hI, hW, hR2, qc2, qc3, pathL, bne_self_eq_false, hRn, hRs, hRx, hRs2, hZl, hEO, hMO, hHO, e4, g5, hl5, p1, q1, hQl, hQo, hZt, hQt, hgg, List.drop_zero]; omega) | (simp (maxDischargeDepth := 8) only [bb, hsz1, hTI, hTB, hEI, hEB, hMI, hMB, hLl, hrl, hrs, oI, sI, oM, sM, lM, rl2, rs2, hI, hW, hR2, qc2, qc3, pathL, bne_self_eq_false, hRn, hRs, hRx, hRs2, hZl, hEO, hMO, hHO, e4, g5, hl5, p1, q1, hQl, hQo, hZt, hQt, hgg, List.drop_zero]; done)))); intro _)))
end Go.Proofs.Ythgopooldcheeaa.VH.S
end

section
namespace Go.Proofs.Ythgopooldcheeaa.VH.S
open Go.Proofs
set_option maxRecDepth 100000
set_option maxHeartbeats 8000000
set_option linter.unusedSimpArgs false

/- The law of Missing, whole. -/
/- reducible -/
theorem e4 (d : Nat) (k n s w : Int) (L : List Int) (S : List (List Int)) (hL : L.length ≤ 9223372036854775807) (hS : S.length ≤ 9223372036854775807) (hSy : ∀ y, y ∈ S → y.length ≤ 9223372036854775807 ∧ B8 y) : evFun E (d+10) 4 [vi k, vi n, vi s, .sl .fgn 1 L.length none (L.map (iv .i64)), .sl .fgn 1 S.length none (rF S), vi w] [] = some (vb true, []) := by
  by_cases hbig : (L.length : Int) > 1048576
  · refine evFun_body b4 ?_
    (repeat' (first | simp (maxDischargeDepth := 8) only [go_sem, rr, reduceIte, reduceCtorEq, Nat.reduceEqDiff, Nat.reduceAdd, Nat.reduceMul, Nat.reduceSub, Nat.reduceBEq, Nat.reduceLeDiff, Int.reduceEq, Int.reduceLT, Int.reduceLE, Int.reduceGE, Int.reduceGT, Int.reduceBEq, Int.reduceBNe, Int.reduceToNat, Int.reduceNeg, Int.reduceSub, Int.reduceAdd, Int.reduceMul, Try.f4] | (with_reducible refine qg9 ?_ ?_; focus (first | (simp (maxDischargeDepth := 8) only [bb, kk]; done) | kernel_rfl)) | ((with_reducible first | refine qf7 ?_ ?_ | refine qf8 ?_ ?_ | refine qf9 ?_ ?_ | refine qg ?_ ?_ | refine qg0 ?_ ?_ | refine qg1 ?_ ?_ | refine qg2 ?_ ?_); focus (first | with_reducible assumption | omega | (simp only [bz]; omega))) | ((with_reducible first | refine qg3 ?_ ?_ | refine qg4 ?_ ?_ | refine qg5 ?_ ?_); focus (first | with_reducible assumption | omega | (simp only [bz]; omega))) | ((with_reducible first | refine g1_u8w ?_ ?_ | refine qg7 ?_ ?_); (focus ((repeat' (with_reducible apply And.intro)) <;> (first | with_reducible assumption | omega | (simp only [bz]; omega) | (simp (maxDischargeDepth := 8) only [bb]; done)))); intro _) | ((with_reducible refine g1_64w ?_ ?_); (focus ((repeat' (with_reducible apply And.intro)) <;> (first | with_reducible assumption | omega | (simp only [bz]; omega) | (simp (maxDischargeDepth := 8) only [bb]; done)))); intro _)))
  by_cases hsz : (totS lnS S : Int) ≤ 1048576
  · have hl : L.length ≤ 1048576 := by omega
    have hq : S.length ≤ 1048576 := by have := totS_len lnS S; omega
    have h8 : ∀ i, i < S.length → B8 (sA S i) := fun i hi => by rw [sA_get hi]; exact (hSy _ (List.getElem_mem hi)).2
    cases hok : shOK k n s L L.length S.length with
    | false =>
      exact lawMF d k n s w L S hl hS hSy hsz
        (fun d tg c c' => f18 d tg c c' k n s w L.length S.length _ _ fun d tg c c' => e9f d tg c c' k n s L L.length S S.length rfl (by omega) (by omega) hok)
        (fun d tg c c' => f17 d tg c c' k n s w L.length S.length _ _ fun d tg c c' => e6f d tg c c' k n s L L.length S S.length rfl (by omega) (by omega) hok)
    | true =>
      obtain ⟨o1, o2, o3, o4, o5⟩ := shOK_of hok
      obtain ⟨k, rfl⟩ := Int.eq_ofNat_of_zero_le (show 0 ≤ k by omega)
      obtain ⟨n, rfl⟩ := Int.eq_ofNat_of_zero_le (show 0 ≤ n by omega)
      obtain ⟨s, rfl⟩ := Int.eq_ofNat_of_zero_le (show 0 ≤ s by omega)
      have hW := fun d tg c c' => e6a d tg c c' k n s L L.length S S.length rfl rfl (by omega) (by omega) hok h8
      cases hb : (List.range S.length).any (badN S (loN k s)) with
      | true =>
        simp only [hb, if_true] at hW
        exact lawMF d k n s w L S hl hS hSy hsz
          (fun d tg c c' => f18 d tg c c' k n s w L.length S.length _ _ fun d tg c c' => e9g d tg c c' k n s L L.length S S.length rfl rfl (by omega) (by omega) hok hb)
          (fun d tg c c' => f17 d tg c c' k n s w L.length S.length _ _ hW)
      | false =>
        simp only [hb, Bool.false_eq_true, if_false] at hW
        have hI := fun d tg c c' => e9 d tg c c' k n s L L.length S S.length rfl rfl (by omega) (by omega) hok hb h8
        have hR := badN_rows rfl hb h8
        have hRt := hR.take (show k ≤ S.length by omega)
        have hlm := loN_mul (k := k) (s := s) (by omega)
        have hlo := loN_le (k := k) (s := s) (by omega) (by omega)
        have hlp := loN_pos k s
        have hO8 : B8 (dcO (S.take k) (L.take k) k (loN k s) k) := dcO_b8 hRt _ _
        have hkO : isK .u8 ((dcO (S.take k) (L.take k) k (loN k s) k).map (iv .u8)) = true := isK_map _ _
        have hlO : s ≤ ((dcO (S.take k) (L.take k) k (loN k s) k).map (iv .u8)).length := by rw [List.length_map, dcO_len]; exact hlm
        have hOt : B8 (un (((dcO (S.take k) (L.take k) k (loN k s) k).map (iv .u8)).take s)) := by rw [un_take, un_map]; exact hO8.take s
        generalize (dcO (S.take k) (L.take k) k (loN k s) k).map (iv .u8) = O at *
        by_cases hw : 0 ≤ w ∧ w ≤ (n : Int) - 1
        · obtain ⟨w, rfl⟩ := Int.eq_ofNat_of_zero_le hw.1
          have hT : (un (O.take s)).length = s := by rw [un_len, List.length_take]; omega
          have hDk : (un (O.take s)).length ≤ k * loN k s := by rw [hT]; exact hlm
          have hwn : w < (enL (un (O.take s)) k (loN k s) n).length := by rw [enL_len]; omega
          have hxl : (enR (un (O.take s)) k (loN k s) w).length = loN k s := enR_len hDk
          have hq1 := rB_getq (enL (un (O.take s)) k (loN k s) n) hwn
          rw [← sA_get hwn, enL_at (by omega), hxl] at hq1
          have hset := rB_set (enL (un (O.take s)) k (loN k s) n) w (marks .u8 1 (loN k s))
          rw [marksL8] at hset
          refine lawMT d k n s w L S hl hS hSy hsz (by omega) w (loN k s) n (rB (enL (un (O.take s)) k (loN k s) n)) (enR (un (O.take s)) k (loN k s) w) hxl hlo hlp (by rw [rB_len, enL_len]) (by omega) (rB_snap _) hq1 (by rw [hset]; exact rB_snap _) ?_ ?_
          · exact fun d tg c c' => e18 d tg c c' k n s w L.length S.length _ _ O hkO hlO hOt (by omega) (by omega) (by omega) hI
          · exact fun d tg c c' => e17 d tg c c' k n s w L.length S.length _ _ O hkO hlO hOt (by omega) (by omega) (by omega) hW
        · exact lawMF d k n s w L S hl hS hSy hsz
            (fun d tg c c' => v18 d tg c c' k n s w L.length S.length _ _ O hkO (by omega) hw hI)
            (fun d tg c c' => v17 d tg c c' k n s w L.length S.length _ _ O hkO (by omega) hw hW)
  · refine evFun_body b4 ?_
    have hsz1 := fun d => n5 d S 1048576 hS (fun y hy => (hSy y hy).1) (by decide) (by decide) hsz
    (repeat' (first | simp (maxDischargeDepth := 8) only [go_sem, rr, reduceIte, reduceCtorEq, Nat.reduceEqDiff, Nat.reduceAdd, Nat.reduceMul, Nat.reduceSub, Nat.reduceBEq, Nat.reduceLeDiff, Int.reduceEq, Int.reduceLT, Int.reduceLE, Int.reduceGE, Int.reduceGT, Int.reduceBEq, Int.reduceBNe, Int.reduceToNat, Int.reduceNeg, Int.reduceSub, Int.reduceAdd, Int.reduceMul, hsz1, Try.f4] | (with_reducible refine qg9 ?_ ?_; focus (first | (simp (maxDischargeDepth := 8) only [bb, kk, hsz1]; done) | kernel_rfl)) | ((with_reducible first | refine qf7 ?_ ?_ | refine qf8 ?_ ?_ | refine qf9 ?_ ?_ | refine qg ?_ ?_ | refine qg0 ?_ ?_ | refine qg1 ?_ ?_ | refine qg2 ?_ ?_); focus (first | with_reducible assumption | omega | (simp only [bz, hsz1]; omega))) | ((with_reducible first | refine qg3 ?_ ?_ | refine qg4 ?_ ?_ | refine qg5 ?_ ?_); focus (first | with_reducible assumption | omega | (simp only [bz, hsz1]; omega))) | ((with_reducible first | refine g1_u8w ?_ ?_ | refine qg7 ?_ ?_); (focus ((repeat' (with_reducible apply And.intro)) <;> (first | with_reducible assumption | omega | (simp only [bz, hsz1]; omega) | (simp (maxDischargeDepth := 8) only [bb, hsz1]; done)))); intro _) | ((with_reducible refine g1_64w ?_ ?_); (focus ((repeat' (with_reducible apply And.intro)) <;> (first | with_reducible assumption | omega | (simp only [bz, hsz1]; omega) | (simp (maxDischargeDepth := 8) only [bb, hsz1]; done)))); intro _)))
end Go.Proofs.Ythgopooldcheeaa.VH.S
end

