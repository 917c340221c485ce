/- Part of a proof about the given program: the verified evaluator and what it tells of the functions (VhStep). Conditions: none beyond the hypotheses that each theorem states. -/
import Derived.Test.YtlmifbpihlcabaaVhRen
import Derived.Orders
namespace Go.Proofs.Ytlmifbpihlcabaa.VH

/- From the evaluator's steps to the program's. -/

def UU (nx : Nat) (D : Nat → Prop) (k : Nat) : Prop := k < nx ∨ ∃ i, D i ∧ nx + 8 * i ≤ k ∧ k < nx + 8 * i + 8

/-- one operation is told rightly -/
def ExecSound (P : Program) (E : Env) (C : Oracle) : Prop :=
  ∀ (R : Type) (X : Cx) (μ : Nat → Option (Nat × Nat)) (F : Nat → Nat → Prop) (H : Heap) (w : World) (U : Nat → Prop) (fr : Nat) (T : Nat → AV) (a : Act) (o : Oper) (K : AV → Heap → Tr → Option R) (r : R)
    (next : Act → World → Prop) (Q : Exit → Act → World → Prop), X.WF → Rel X μ F H w (fun _ => False) → (∀ t, RV X μ H w (T t) (a.tmps.getD t undef)) → (∀ t k, k ∈ keysAV (T t) → U k) →
    (∀ k, U k → ¬ (fr ≤ k ∧ k < fr + 8)) → (∀ k, fr ≤ k ∧ k < fr + 8 → H k = none) → (execOp E C o.op (opnd T) fr).run H {} K = some r →
    (∀ v w', OP X U fr μ H w K r v w' → next (a.put o.dst v) w') → o.wp P a w next Q

structure SR (X : Cx) (μ : Nat → Option (Nat × Nat)) (F : Nat → Nat → Prop) (H : Heap) (w : World) (N nx : Nat) (D : Nat → Prop) (T : Nat → AV) (a : Act) : Prop where
  rel : Rel X μ F H w (fun _ => False)
  slots : ∀ t, RV X μ H w (T t) (a.tmps.getD t undef)
  keys : ∀ t k, k ∈ keysAV (T t) → UU nx D k
  fresh : ∀ k, ¬ UU nx D k → H k = none
  defers : a.defers = []
  size : N ≤ a.tmps.size

theorem put_getD (a : Act) (N : Nat) (hN : N ≤ a.tmps.size) (d : Option Tmp) (hd : ∀ x, d = some x → x < N) (v : Value) (t : Nat) : (a.put d v).tmps.getD t undef = match d with | some d => if t = d then v else a.tmps.getD t undef | none => a.tmps.getD t undef := by
  cases d with
  | none => rfl
  | some d =>
    have := hd d rfl
    simp only [Act.put, Array.getD_eq_getD_getElem?, Array.getElem?_setIfInBounds]
    by_cases h : t = d
    · subst h
      have h2 : t < a.tmps.size := Nat.lt_of_lt_of_le this hN
      simp [h2]
    · rw [if_neg (fun e => h e.symm), if_neg h]

theorem killT_eq (ks : List Nat) (T : Nat → AV) (t : Nat) : killT ks T t = killAV ks (T t) := by
  cases ks with
  | nil => simp [killT, killAV_nil]
  | cons => rfl

mutual
theorem killAV_keys (ks : List Nat) : ∀ (x : AV) (k : Nat), k ∈ keysAV (killAV ks x) → k ∈ keysAV x
  | .und, k, h | .val _, k, h | .sl .., k, h | .rp .., k, h | .bx _, k, h => by simpa [killAV] using h
  | .ref j p z off n cap, k, h => by
    simp only [killAV] at h
    cases hb : (!p.isEmpty && ks.contains j) with
    | true => rw [hb] at h; simp [keysAV] at h
    | false => rw [hb] at h; exact h
  | .ptr j p off, k, h => by
    simp only [killAV] at h
    cases hb : (!p.isEmpty && ks.contains j) with
    | true => rw [hb] at h; simp [keysAV] at h
    | false => rw [hb] at h; exact h
  | .agg xs, k, h => by simp only [killAV, keysAV] at h ⊢; exact killL_keys ks xs k h
  | .tup xs, k, h => by simp only [killAV, keysAV] at h ⊢; exact killL_keys ks xs k h
  | .fn f xs, k, h => by simp only [killAV, keysAV] at h ⊢; exact killL_keys ks xs k h
theorem killL_keys (ks : List Nat) : ∀ (xs : List AV) (k : Nat), k ∈ keysL (killL ks xs) → k ∈ keysL xs
  | [], k, h => by simpa [killL] using h
  | x :: xs, k, h => by
    simp only [killL, keysL, List.mem_append] at h ⊢
    exact h.imp (killAV_keys ks x k) (killL_keys ks xs k)
end

/-- the state behind an operation -/
theorem SR.put {R : Type} {X : Cx} {μ : Nat → Option (Nat × Nat)} {F : Nat → Nat → Prop} {H : Heap} {w : World} {N nx : Nat} {D : Nat → Prop} {T : Nat → AV} {a : Act} (h : SR X μ F H w N nx D T a) {i : Nat}
    {K : AV → Heap → Tr → Option R} {r : R} {v : Value} {w' : World} {d : Option Tmp} (hd : ∀ x, d = some x → x < N) (ho : OP X (UU nx D) (nx + 8 * i) μ H w K r v w') :
    ∃ (x : AV) (μ' : Nat → Option (Nat × Nat)) (F' : Nat → Nat → Prop) (H' : Heap) (t' : Tr), K x H' t' = some r ∧ Keep (UU nx D) t'.kl μ H w μ' H' w' ∧ SR X μ' F' H' w' N nx (fun j => D j ∨ j = i) (putT (killT t'.kl T) d x) (a.put d v) := by
  obtain ⟨x, μ', F', H', t', hk, hrel, hkeep, hv, hkeys, hfresh⟩ := ho
  have hmono : ∀ k, UU nx D k → UU nx (fun j => D j ∨ j = i) k := fun k hk => hk.imp id fun ⟨j, hj, h⟩ => ⟨j, .inl hj, h⟩
  refine ⟨x, μ', F', H', t', hk, hkeep, hrel, fun t => ?_, fun t k hk => ?_, fun k hk => ?_, ?_, ?_⟩
  · rw [put_getD a N h.size d hd]
    cases d with
    | none => simp only [putT, killT_eq]; exact (h.slots t).keep hkeep (h.keys t)
    | some d =>
      simp only [putT, killT_eq]
      split
      · exact hv
      · exact (h.slots t).keep hkeep (h.keys t)
  · have hx : ∀ k, k ∈ keysAV x → UU nx (fun j => D j ∨ j = i) k := fun k hk => (hkeys k hk).elim (hmono k) fun hh => .inr ⟨i, .inr rfl, hh⟩
    have ht : ∀ t k, k ∈ keysAV (killT t'.kl T t) → UU nx (fun j => D j ∨ j = i) k := fun t k hk => by
      rw [killT_eq] at hk
      exact hmono k (h.keys t k (killAV_keys _ _ _ hk))
    cases d with
    | none => exact ht t k hk
    | some d =>
      simp only [putT] at hk
      split at hk
      · exact hx k hk
      · exact ht t k hk
  · refine hfresh k (h.fresh k fun hh => hk (hmono k hh)) fun hh => hk (.inr ⟨i, .inr rfl, hh⟩)
  · cases d <;> exact h.defers
  · cases d with
    | none => exact h.size
    | some d => simp only [Act.put, Array.size_setIfInBounds]; exact h.size

theorem SR.skip {X : Cx} {μ : Nat → Option (Nat × Nat)} {F : Nat → Nat → Prop} {H : Heap} {w : World} {N nx : Nat} {D : Nat → Prop} {T : Nat → AV} {a : Act} (h : SR X μ F H w N nx D T a) {i : Nat} {d : Option Tmp} (hd : ∀ x, d = some x → x < N) :
    SR X μ F H w N nx (fun j => D j ∨ j = i) (putT T d .und) (a.put d undef) := by
  have hmono : ∀ k, UU nx D k → UU nx (fun j => D j ∨ j = i) k := fun k hk => hk.imp id fun ⟨j, hj, h⟩ => ⟨j, .inl hj, h⟩
  refine ⟨h.rel, fun t => ?_, fun t k hk => ?_, fun k hk => h.fresh k fun hh => hk (hmono k hh), ?_, ?_⟩
  · rw [put_getD a N h.size d hd]
    cases d with
    | none => exact h.slots t
    | some d =>
      simp only [putT]
      split
      · exact .und _
      · exact h.slots t
  · cases d with
    | none => exact hmono k (h.keys t k hk)
    | some d =>
      simp only [putT] at hk
      split at hk
      · simp [keysAV] at hk
      · exact hmono k (h.keys t k hk)
  · cases d <;> exact h.defers
  · cases d with
    | none => exact h.size
    | some d => simp only [Act.put, Array.size_setIfInBounds]; exact h.size

theorem SR.congrD {X : Cx} {μ : Nat → Option (Nat × Nat)} {F : Nat → Nat → Prop} {H : Heap} {w : World} {N nx : Nat} {D D' : Nat → Prop} {T : Nat → AV} {a : Act} (h : SR X μ F H w N nx D T a) (e : ∀ j, D j ↔ D' j) : SR X μ F H w N nx D' T a := by
  have : D = D' := funext fun j => propext (e j)
  subst this; exact h

/-- one operation of a region, wanted or not -/
theorem stepOp_sound {R : Type} {P : Program} {E : Env} {C : Oracle} (hC : ExecSound P E C) {X : Cx} (hX : X.WF) {μ : Nat → Option (Nat × Nat)} {F : Nat → Nat → Prop} {w : World} {N : Nat} {D : Nat → Prop} {S : St} {a : Act}
    (hS : SR X μ F S.H w N S.nx D S.T a) {ops : Array Oper} {i : Nat} {o : Oper} (ho : ops[i]? = some o) (hi : ¬ D i) (hd : ∀ x, o.dst = some x → x < N) {K : St → Tr → Option R} {r : R} (h : stepOp E C ops i o S K = some r)
    {Q : Exit → Act → World → Prop} {next : Act → World → Prop}
    (hK : ∀ S' t' a' w' μ' F', K S' t' = some r → S'.nx = S.nx → SR X μ' F' S'.H w' N S.nx (fun j => D j ∨ j = i) S'.T a' → Keep (UU S.nx D) t'.kl μ S.H w μ' S'.H w' → next a' w') :
    wpOp P ops Q i next a w := by
  have hne : ∀ k, UU S.nx D k → ¬ (S.nx + 8 * i ≤ k ∧ k < S.nx + 8 * i + 8) := by
    rintro k (hk | ⟨j, hj, hk⟩) hh
    · omega
    · by_cases e : j = i
      · subst e; exact hi hj
      · omega
  have run : (execOp E C o.op (opnd S.T) (S.nx + 8 * i)).run S.H {} (fun v H' t => K { S with T := putT (killT t.kl S.T) o.dst v, H := H' } t) = some r → o.wp P a w next Q := fun h =>
    hC R X μ F S.H w (UU S.nx D) (S.nx + 8 * i) S.T a o _ r next Q hX hS.rel hS.slots hS.keys hne (fun k hk => hS.fresh k fun hh => hne k hh hk) h fun v w' hop => by
      obtain ⟨x, μ', F', H', t', h1, h2, h3⟩ := hS.put hd hop
      exact hK _ t' _ _ μ' F' h1 rfl h3 h2
  unfold wpOp
  simp only [ho]
  unfold stepOp at h
  cases hg : o.guard with
  | none =>
    simp only [hg] at h
    have hw : Region.wanted o (yielded ops a.tmps) = true := by simp [Region.wanted, hg]
    rw [if_pos hw]
    exact .inl (run h)
  | some g =>
    obtain ⟨j, want⟩ := g
    simp only [hg] at h
    cases hj : (ops[j]?).bind (·.dst) with
    | none => simp [hj] at h
    | some t =>
      simp only [hj] at h
      cases hT : S.T t with
      | val u =>
        cases u with
        | bool b =>
          simp only [hT] at h
          have hv : a.tmps.getD t undef = .bool b := by
            have := hS.slots t
            rw [hT] at this
            generalize hu : a.tmps.getD t undef = u at this
            cases this; rfl
          have hy : yielded ops a.tmps j = some b := by
            have : a.tmps[t]? = some (.bool b) := by
              rw [Array.getD_eq_getD_getElem?] at hv
              cases hx : a.tmps[t]? with
              | none => rw [hx] at hv; exact absurd hv (by simp [undef])
              | some u => rw [hx] at hv; exact congrArg some hv
            simp [yielded, hj, this]
          cases hb : (b == want) with
          | true =>
            simp only [hb, cond_true] at h
            have : b = want := by simpa using hb
            subst this
            have hw : Region.wanted o (yielded ops a.tmps) = true := by simp [Region.wanted, hg, hy]
            rw [if_pos hw]
            exact .inl (run h)
          | false =>
            simp only [hb, cond_false] at h
            have hw : ¬ Region.wanted o (yielded ops a.tmps) = true := by
              simp only [Region.wanted, hg, hy]
              simpa using hb
            rw [if_neg hw]
            exact hK _ _ _ _ μ F h rfl (hS.skip hd) (Keep.refl _ _ _ _)
        | _ => simp [hT] at h
      | _ => simp [hT] at h

/-- the operations of a region, in the order of the text -/
theorem runOps_sound {R : Type} {P : Program} {E : Env} {C : Oracle} (hC : ExecSound P E C) {X : Cx} (hX : X.WF) {N : Nat} {ops : Array Oper} {r : R} {Q : Exit → Act → World → Prop} {K : St → Option R} (hd : ∀ (i : Nat) (o : Oper), ops[i]? = some o → ∀ x, o.dst = some x → x < N) :
    ∀ (os : List Oper) (i : Nat) (S : St) (μ : Nat → Option (Nat × Nat)) (F : Nat → Nat → Prop) (w : World) (a : Act), (∀ j, os[j]? = ops[i + j]?) → SR X μ F S.H w N S.nx (fun j => j < i) S.T a → runOps E C ops i os S K = some r →
      (∀ S' a' w' μ' F' ks, K S' = some r → S'.nx = S.nx → SR X μ' F' S'.H w' N S.nx (fun j => j < i + os.length) S'.T a' → Keep (fun k => k < S.nx) ks μ S.H w μ' S'.H w' → Q .normal a' w') →
      wpOps P ops Q (List.range' i os.length) a w := by
  intro os
  induction os with
  | nil => intro i S μ F w a _ hS h hK; exact hK S a w μ F [] h rfl hS (Keep.refl _ _ _ _)
  | cons o os ih =>
    intro i S μ F w a hos hS h hK
    simp only [runOps] at h
    have ho : ops[i]? = some o := by have := hos 0; simpa using this.symm
    simp only [List.length_cons, List.range'_succ]
    rw [wpOps_cons]
    refine stepOp_sound hC hX hS ho (by omega) (hd i o ho) h fun S' t' a' w' μ' F' hk hnx hS' hkeep => ?_
    refine ih (i + 1) S' μ' F' w' a' (fun j => by have := hos (j + 1); rw [List.getElem?_cons_succ] at this; rw [this]; congr 1; omega) ?_ hk fun S2 a2 w2 μ2 F2 ks hk2 hnx2 hS2 hkeep2 => ?_
    · rw [hnx]; exact hS'.congrD fun j => by omega
    · refine hK S2 a2 w2 μ2 F2 (ks ++ t'.kl) hk2 (hnx2.trans hnx) ?_ ?_
      · rw [← hnx]; exact hS2.congrD fun j => by simp only [List.length_cons]; omega
      · rw [hnx] at hkeep2
        exact (hkeep.mono (fun k hk => .inl hk) fun _ h => h).trans hkeep2

end Go.Proofs.Ytlmifbpihlcabaa.VH
