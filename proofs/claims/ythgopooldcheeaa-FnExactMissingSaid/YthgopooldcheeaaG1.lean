/- Part of a proof about the given program: a verified evaluator, and what it tells of the functions (VhDraw, VhCtx, VhEv, VhFun, VhCall, VhFill, VhOps7, VhOps8, VhOps9, VhSrc, VhApp, VhApp2, VhApp3). Conditions: none beyond the hypotheses that each theorem states. -/
import Derived.Test.YthgopooldcheeaaG0
import Derived.Deep.LoopGhost
import Derived.Laws.BitsLemmas
import Derived.Laws.IdiomStrings
set_option linter.unusedSimpArgs false
set_option linter.unusedVariables false
set_option linter.defProp false
section
namespace Go.Proofs.Ythgopooldcheeaa.VH

/- Regions whose order is drawn. -/

def HM.exec {α : Type} : HM α → Heap → Tr → Option (α × Heap × Tr)
  | .ret a, H, t => some (a, H, t)
  | .fail, _, _ => none
  | .look k f, H, t => match H k with
    | some cs => (f cs).exec H { t with rd := k :: t.rd }
    | none => none
  | .put k c m, H, t => m.exec (upd H k c) { t with wr := k :: t.wr }
  | .kill k m, H, t => m.exec H { t with kl := k :: t.kl }

theorem HM.run_exec {α R : Type} (m : HM α) : ∀ (H : Heap) (t : Tr) (K : α → Heap → Tr → Option R), m.run H t K = (m.exec H t).bind fun (a, H', t') => K a H' t' := by
  induction m with
  | ret a => intro H t K; rfl
  | fail => intro H t K; rfl
  | look k f ih =>
    intro H t K
    simp only [HM.run, HM.exec]
    cases H k with
    | none => rfl
    | some cs => exact ih cs _ _ _
  | put k c m ih => intro H t K; exact ih _ _ _
  | kill k m ih => intro H t K; exact ih _ _ _

theorem HM.exec_local {α : Type} (m : HM α) : ∀ (H : Heap) (t : Tr) (a : α) (H' : Heap) (t' : Tr), m.exec H t = some (a, H', t') →
    (∀ k, k ∈ t.rd → k ∈ t'.rd) ∧ (∀ k, k ∈ t.wr → k ∈ t'.wr) ∧ (∀ k, k ∉ t'.wr → H' k = H k) ∧
    ∀ H1 : Heap, (∀ k, k ∈ t'.rd ∨ k ∈ t.wr → H1 k = H k) → ∃ H1', m.exec H1 t = some (a, H1', t') ∧ (∀ k, k ∈ t'.wr → H1' k = H' k) ∧ ∀ k, k ∉ t'.wr → H1' k = H1 k := by
  induction m with
  | ret a =>
    intro H t a' H' t' h
    simp only [HM.exec, Option.some.injEq, Prod.mk.injEq] at h
    obtain ⟨rfl, rfl, rfl⟩ := h
    exact ⟨fun _ h => h, fun _ h => h, fun _ _ => rfl, fun H1 hH => ⟨H1, rfl, fun k hk => hH k (.inr hk), fun _ _ => rfl⟩⟩
  | fail => intro H t a' H' t' h; simp [HM.exec] at h
  | look k f ih =>
    intro H t a' H' t' h
    simp only [HM.exec] at h
    cases hk : H k with
    | none => simp [hk] at h
    | some cs =>
      simp only [hk] at h
      obtain ⟨h1, h2, h3, h4⟩ := ih cs H _ a' H' t' h
      refine ⟨fun j hj => h1 j (List.mem_cons_of_mem _ hj), h2, h3, fun H1 hH => ?_⟩
      obtain ⟨H1', g1, g2, g3⟩ := h4 H1 hH
      refine ⟨H1', ?_, g2, g3⟩
      simp only [HM.exec, hH k (.inl (h1 k (by simp))), hk]
      exact g1
  | put k c m ih =>
    intro H t a' H' t' h
    simp only [HM.exec] at h
    obtain ⟨h1, h2, h3, h4⟩ := ih _ _ a' H' t' h
    refine ⟨h1, fun j hj => h2 j (List.mem_cons_of_mem _ hj), fun j hj => ?_, fun H1 hH => ?_⟩
    · rw [h3 j hj]
      have : j ≠ k := fun e => hj (h2 j (by rw [e]; simp))
      simp [upd, this]
    · obtain ⟨H1', g1, g2, g3⟩ := h4 (upd H1 k c) fun j hj => by
        simp only [upd]
        by_cases e : j = k
        · rw [if_pos e, if_pos e]
        · rw [if_neg e, if_neg e]
          refine hH j (hj.imp id fun hh => ?_)
          rcases List.mem_cons.mp hh with hh | hh
          · exact absurd hh e
          · exact hh
      refine ⟨H1', g1, g2, fun j hj => ?_⟩
      rw [g3 j hj]
      have : j ≠ k := fun e => hj (h2 j (by rw [e]; simp))
      simp [upd, this]
  | kill k m ih =>
    intro H t a' H' t' h
    exact ih H _ a' H' t' h

/-- an operation by itself -/
noncomputable def stepX (E : Env) (C : Oracle) (ops : Array Oper) (i : Nat) (o : Oper) (S : St) : Option (St × Tr) := stepOp E C ops i o S fun S' t => some (S', t)
/-- the same with its note -/
noncomputable def stepN (nb : Bool) (E : Env) (C : Oracle) (ops : Array Oper) (i : Nat) (o : Oper) (S : St) : Option (St × Tr) := (stepX E C ops i o S).map fun x => (x.1, noted nb ops o S.T x.1.T x.2)

theorem stepX_eq {R : Type} (E : Env) (C : Oracle) (ops : Array Oper) (i : Nat) (o : Oper) (S : St) (K : St → Tr → Option R) : stepOp E C ops i o S K = (stepX E C ops i o S).bind fun (S', t) => K S' t := by
  have run : (execOp E C o.op (opnd S.T) (S.nx + 8 * i)).run S.H {} (fun v H' t => K { S with T := putT (killT t.kl S.T) o.dst v, H := H' } t) =
      ((execOp E C o.op (opnd S.T) (S.nx + 8 * i)).run S.H {} (fun v H' t => some (({ S with T := putT (killT t.kl S.T) o.dst v, H := H' } : St), t))).bind fun (S', t) => K S' t := by
    rw [HM.run_exec, HM.run_exec]
    cases (execOp E C o.op (opnd S.T) (S.nx + 8 * i)).exec S.H {} with
    | none => rfl
    | some x => rfl
  unfold stepX stepOp
  cases o.guard with
  | none => exact run
  | some g =>
    obtain ⟨j, want⟩ := g
    simp only
    cases (ops[j]?).bind (·.dst) with
    | none => rfl
    | some t =>
      simp only
      cases S.T t with
      | val u =>
        cases u with
        | bool b =>
          simp only
          cases (b == want) with
          | true => exact run
          | false => rfl
        | _ => rfl
      | _ => rfl

theorem execOp_congrA {E : Env} {C : Oracle} {op : Op} {ev ev' : Operand → AV} {fr : Nat} (h : ∀ x ∈ op.operands, ev x = ev' x) : VH.execOp E C op ev fr = VH.execOp E C op ev' fr := by
  have pairs : ∀ ps : List (Nat × Operand), (∀ x ∈ ps.map (·.2), ev x = ev' x) → (ps.map fun (i, x) => (i, ev x)) = (ps.map fun (i, x) => (i, ev' x)) := fun ps hp =>
    List.map_congr_left fun p hm => by
      obtain ⟨i, x⟩ := p
      simp only [hp x (List.mem_map.2 ⟨(i, x), hm, rfl⟩)]
  have pairs' : ∀ ps : List (Nat × Operand), (∀ x ∈ ps.map (·.2), ev x = ev' x) → (ps.map fun (i, x) => (i, cellsOf (ev x))) = (ps.map fun (i, x) => (i, cellsOf (ev' x))) := fun ps hp =>
    List.map_congr_left fun p hm => by
      obtain ⟨i, x⟩ := p
      simp only [hp x (List.mem_map.2 ⟨(i, x), hm, rfl⟩)]
  have gen : ∀ l : List (Nat × Operand), (∀ p ∈ l, ev p.2 = ev' p.2) → (l.flatMap fun p => cellsOf (ev p.2)) = (l.flatMap fun p => cellsOf (ev' p.2)) ∧ (∀ z, (l.all fun p => qa4 (ev p.2) && decide ((cellsOf (ev p.2)).length = z)) = l.all fun p => qa4 (ev' p.2) && decide ((cellsOf (ev' p.2)).length = z)) ∧ (l.all fun p => qa4 (ev p.2)) = l.all fun p => qa4 (ev' p.2) := by
    intro l
    induction l with
    | nil => exact fun _ => ⟨rfl, fun _ => rfl, rfl⟩
    | cons p l ih =>
      intro hl
      obtain ⟨i1, i2, i3⟩ := ih fun q hq => hl q (List.mem_cons_of_mem _ hq)
      have hp := hl p (List.mem_cons_self ..)
      exact ⟨by simp only [List.flatMap_cons, hp, i1], fun z => by simp only [List.all_cons, hp, i2 z], by simp only [List.all_cons, hp, i3]⟩
  cases op <;> simp only [Op.operands] at h <;> simp only [VH.execOp]
  case build t ps =>
    have hps : ∀ p ∈ ps.toList, ev p.2 = ev' p.2 := fun p hp => h p.2 (by simp only [List.mem_toArray, List.mem_map]; exact ⟨p, hp, rfl⟩)
    rw [pairs' ps.toList fun x hx => h x (by simpa using hx), (gen ps.toList hps).2.2]
  case buildSlice t n ps =>
    have hps : ∀ p ∈ ps.toList, ev p.2 = ev' p.2 := fun p hp => h p.2 (by simp only [List.mem_toArray, List.mem_map]; exact ⟨p, hp, rfl⟩)
    obtain ⟨e1, e2, _⟩ := gen ps.toList hps
    simp only [e1, e2]
  case makeFunc fn first captured =>
    have := List.map_congr_left (l := captured.toList) (f := ev) (g := ev') fun x hx => h x (by simp at hx; simp [hx])
    cases fn <;> simp only [this]
  case call c =>
    have hargs : c.args.toList.map ev = c.args.toList.map ev' := List.map_congr_left fun x hx => h x (by simp at hx; simp [Call.operands, hx])
    obtain ⟨callee, args, argTypes⟩ := c
    cases callee with
    | value f => have hf : ev f = ev' f := h f (by simp [Call.operands]); simp only [hf]; rw [hargs]
    | invoke r m => rfl
    | builtin b => simp only []; rw [hargs]
  case slice t x lo hi mx => cases lo <;> cases hi <;> cases mx <;> simp_all
  all_goals (first | rfl | (simp_all; done))

theorem opnd_congr {T T' : Nat → AV} {ops : Array Oper} {o : Oper} (h : ∀ x, x ∈ o.looksAt ops → T x = T' x) : ∀ x ∈ o.op.operands, opnd T x = opnd T' x := by
  intro x hx
  cases x with
  | tmp t =>
    exact h t (List.mem_append_left _ (List.mem_filterMap.2 ⟨.tmp t, by simpa using hx, rfl⟩))
  | const v => cases v <;> rfl
  | _ => rfl

/-- what a step does, looked at from outside -/
theorem stepX_inv {E : Env} {C : Oracle} {ops : Array Oper} {i : Nat} {o : Oper} {S S' : St} {t : Tr} (h : stepX E C ops i o S = some (S', t)) :
    ∃ v : AV, S'.T = putT (killT t.kl S.T) o.dst v ∧ S'.nx = S.nx ∧ (∀ k, k ∉ t.wr → S'.H k = S.H k) ∧
      ∀ S1 : St, S1.nx = S.nx → (∀ x, x ∈ o.looksAt ops → S1.T x = S.T x) → (∀ k, k ∈ t.rd → S1.H k = S.H k) →
        ∃ S1', stepX E C ops i o S1 = some (S1', t) ∧ S1'.T = putT (killT t.kl S1.T) o.dst v ∧ S1'.nx = S1.nx ∧ (∀ k, k ∈ t.wr → S1'.H k = S'.H k) ∧ ∀ k, k ∉ t.wr → S1'.H k = S1.H k := by
  have core : ∀ (S' : St), ((VH.execOp E C o.op (opnd S.T) (S.nx + 8 * i)).run S.H {} fun v H' t => some (({ S with T := putT (killT t.kl S.T) o.dst v, H := H' } : St), t)) = some (S', t) →
      ∃ v : AV, S'.T = putT (killT t.kl S.T) o.dst v ∧ S'.nx = S.nx ∧ (∀ k, k ∉ t.wr → S'.H k = S.H k) ∧
      ∀ S1 : St, S1.nx = S.nx → (∀ x, x ∈ o.looksAt ops → S1.T x = S.T x) → (∀ k, k ∈ t.rd → S1.H k = S.H k) →
        ∃ S1' : St, ((VH.execOp E C o.op (opnd S1.T) (S1.nx + 8 * i)).run S1.H {} fun v H' t => some (({ S1 with T := putT (killT t.kl S1.T) o.dst v, H := H' } : St), t)) = some (S1', t) ∧
          S1'.T = putT (killT t.kl S1.T) o.dst v ∧ S1'.nx = S1.nx ∧ (∀ k, k ∈ t.wr → S1'.H k = S'.H k) ∧ ∀ k, k ∉ t.wr → S1'.H k = S1.H k := by
    intro S' h
    rw [HM.run_exec] at h
    cases he : (VH.execOp E C o.op (opnd S.T) (S.nx + 8 * i)).exec S.H {} with
    | none => simp [he] at h
    | some x =>
      obtain ⟨v, H', t'⟩ := x
      simp only [he, Option.bind_some, Option.some.injEq, Prod.mk.injEq] at h
      obtain ⟨rfl, rfl⟩ := h
      obtain ⟨_, _, h3, h4⟩ := HM.exec_local _ _ _ _ _ _ he
      refine ⟨v, rfl, rfl, h3, fun S1 hn hT hH => ?_⟩
      obtain ⟨H1', g1, g2, g3⟩ := h4 S1.H fun k hk => hk.elim (hH k) fun hk => by simp at hk
      refine ⟨{ S1 with T := putT (killT t'.kl S1.T) o.dst v, H := H1' }, ?_, rfl, rfl, g2, g3⟩
      rw [HM.run_exec, hn, execOp_congrA (opnd_congr hT), g1]
      rfl
  unfold stepX stepOp at h
  cases hg : o.guard with
  | none =>
    simp only [hg] at h
    obtain ⟨v, h1, h2, h3, h4⟩ := core S' h
    refine ⟨v, h1, h2, h3, fun S1 a b c => ?_⟩
    unfold stepX stepOp
    simp only [hg]
    exact h4 S1 a b c
  | some g =>
    obtain ⟨j, want⟩ := g
    simp only [hg] at h
    cases hj : (ops[j]?).bind (·.dst) with
    | none => simp [hj] at h
    | some x =>
      simp only [hj] at h
      have hx : x ∈ o.looksAt ops := by simp [Oper.looksAt, hg, hj]
      cases hT : S.T x with
      | val u =>
        cases u with
        | bool b =>
          simp only [hT] at h
          cases hb : (b == want) with
          | true =>
            simp only [hb, cond_true] at h
            obtain ⟨v, h1, h2, h3, h4⟩ := core S' h
            refine ⟨v, h1, h2, h3, fun S1 a b' c => ?_⟩
            unfold stepX stepOp
            simp only [hg, hj, b' x hx, hT, hb, cond_true]
            exact h4 S1 a b' c
          | false =>
            simp only [hb, cond_false, Option.some.injEq, Prod.mk.injEq] at h
            obtain ⟨rfl, rfl⟩ := h
            refine ⟨skipV, rfl, rfl, fun _ _ => rfl, fun S1 a b' c => ⟨{ S1 with T := putT S1.T o.dst skipV }, ?_, rfl, rfl, fun k hk => by simp at hk, fun _ _ => rfl⟩⟩
            unfold stepX stepOp
            simp only [hg, hj, b' x hx, hT, hb, cond_false]
        | tuple us =>
          simp only [hT, Option.some.injEq, Prod.mk.injEq] at h
          obtain ⟨rfl, rfl⟩ := h
          refine ⟨skipV, rfl, rfl, fun _ _ => rfl, fun S1 a b' c => ⟨{ S1 with T := putT S1.T o.dst skipV }, ?_, rfl, rfl, fun k hk => by simp at hk, fun _ _ => rfl⟩⟩
          unfold stepX stepOp
          simp only [hg, hj, b' x hx, hT]
        | _ => simp [hT] at h
      | _ => simp [hT] at h

theorem clash_spec {a b : Tr} (h : clash a b = false) : (∀ k, k ∈ a.wr → k ∉ b.wr) ∧ (∀ k, k ∈ a.wr → k ∉ b.rd) ∧ (∀ k, k ∈ a.rd → k ∉ b.wr) ∧ (a.kl = [] ∨ b.kl = []) ∧ klA a b = false ∧ klB a b = false := by
  simp only [clash, meets, Bool.or_eq_false_iff, Bool.and_eq_false_iff, Bool.not_eq_false', List.isEmpty_iff] at h
  obtain ⟨⟨⟨⟨⟨h1, h2⟩, h3⟩, h4⟩, h5⟩, h6⟩ := h
  have k : ∀ {l m : List Nat}, (l.any fun x => m.contains x) = false → ∀ k, k ∈ l → k ∉ m := by
    intro l m h k hk hm
    have := List.any_eq_false.mp h k hk
    simp [hm] at this
  exact ⟨k h1, k h2, k h3, h4, h5, h6⟩

mutual
theorem killAV_idP (ks : List Nat) : ∀ (x : AV), (∀ k, k ∈ pathAV x → k ∉ ks) → qc2 ks x = x
  | .und, _ | .val _, _ | .sl .., _ | .rp .., _ => by simp [qc2]
  | .bx xs, h => by simp only [qc2]; rw [killL_idP ks xs (by simpa [pathAV] using h)]
  | .ref j p z off n cap, h => by
    simp only [qc2]
    cases hp : p.isEmpty with
    | true => rfl
    | false =>
      have := h j (by simp [pathAV, hp])
      simp [this]
  | .ptr j p off, h => by
    simp only [qc2]
    cases hp : p.isEmpty with
    | true => rfl
    | false =>
      have := h j (by simp [pathAV, hp])
      simp [this]
  | .agg xs, h => by simp only [qc2]; rw [killL_idP ks xs (by simpa [pathAV] using h)]
  | .tup xs, h => by simp only [qc2]; rw [killL_idP ks xs (by simpa [pathAV] using h)]
  | .fn f xs, h => by simp only [qc2]; rw [killL_idP ks xs (by simpa [pathAV] using h)]
theorem killL_idP (ks : List Nat) : ∀ (xs : List AV), (∀ k, k ∈ pathL xs → k ∉ ks) → qc3 ks xs = xs
  | [], _ => by simp [qc3]
  | x :: xs, h => by
    simp only [qc3]
    rw [killAV_idP ks x fun k hk => h k (by simp [pathL, hk]), killL_idP ks xs fun k hk => h k (by simp [pathL, hk])]
end
mutual
theorem killAV_idU (ks : List Nat) : ∀ (x : AV), undAV (qc2 ks x) = false → qc2 ks x = x
  | .und, _ | .val _, _ | .sl .., _ | .rp .., _ => by simp [qc2]
  | .bx xs, h => by simp only [qc2, undAV] at h ⊢; rw [killL_idU ks xs h]
  | .ref j p z off n cap, h => by
    simp only [qc2] at h ⊢
    cases hb : (!p.isEmpty && ks.contains j) with
    | true => rw [hb] at h; simp [undAV] at h
    | false => rfl
  | .ptr j p off, h => by
    simp only [qc2] at h ⊢
    cases hb : (!p.isEmpty && ks.contains j) with
    | true => rw [hb] at h; simp [undAV] at h
    | false => rfl
  | .agg xs, h => by simp only [qc2, undAV] at h ⊢; rw [killL_idU ks xs h]
  | .tup xs, h => by simp only [qc2, undAV] at h ⊢; rw [killL_idU ks xs h]
  | .fn f xs, h => by simp only [qc2, undAV] at h ⊢; rw [killL_idU ks xs h]
theorem killL_idU (ks : List Nat) : ∀ (xs : List AV), undL (qc3 ks xs) = false → qc3 ks xs = xs
  | [], _ => by simp [qc3]
  | x :: xs, h => by
    simp only [qc3, undL, Bool.or_eq_false_iff] at h ⊢
    rw [killAV_idU ks x h.1, killL_idU ks xs h.2]
end

theorem putT_comm {T : Nat → AV} {x y : Option Tmp} {v u : AV} (h : ∀ d, x = some d → y ≠ some d) : putT (putT T x v) y u = putT (putT T y u) x v := by
  cases x with
  | none => rfl
  | some d =>
    cases y with
    | none => rfl
    | some e =>
      have hne : d ≠ e := fun he => h d rfl (he ▸ rfl)
      funext t
      simp only [putT]
      by_cases h1 : t = d
      · subst h1; simp [hne]
      · by_cases h2 : t = e
        · subst h2; simp [h1]
        · simp [h1, h2]

theorem putT_other {T : Nat → AV} {d : Option Tmp} {v : AV} {x : Nat} (h : d ≠ some x) : putT T d v x = T x := by
  cases d with
  | none => rfl
  | some d =>
    simp only [putT]
    rw [if_neg]
    intro e; subst e; exact h rfl

theorem meets_no {l m : List Nat} (h : meets l m = false) : ∀ k, k ∈ l → k ∉ m := by
  intro k hk hm
  have := List.any_eq_false.mp h k hk
  simp [hm] at this
theorem klA_spec {a b : Tr} (h : klA a b = false) : b.kl = [] ∨ ∃ p u, a.nt = some (p, u) ∧ ∀ k, k ∈ p → k ∉ b.kl := by
  simp only [klA, Bool.and_eq_false_iff, Bool.not_eq_false', List.isEmpty_iff] at h
  rcases h with h | h
  · exact .inl h
  · cases hn : a.nt with
    | none => simp [hn] at h
    | some x =>
      obtain ⟨p, u⟩ := x
      simp only [hn] at h
      exact .inr ⟨p, u, rfl, fun k hk hb => meets_no h k hb hk⟩
theorem klB_spec {a b : Tr} (h : klB a b = false) : a.kl = [] ∨ ∃ p, b.nt = some (p, false) ∧ ∀ k, k ∈ p → k ∉ a.kl := by
  simp only [klB, Bool.and_eq_false_iff, Bool.not_eq_false', List.isEmpty_iff] at h
  rcases h with h | h
  · exact .inl h
  · cases hn : b.nt with
    | none => simp [hn] at h
    | some x =>
      obtain ⟨p, u⟩ := x
      simp only [hn, Bool.or_eq_false_iff] at h
      obtain ⟨rfl, h⟩ := h
      exact .inr ⟨p, rfl, fun k hk hb => meets_no h k hb hk⟩
theorem killT_put {ks : List Nat} {T : Nat → AV} {d : Option Tmp} {v : AV} (h : ∀ x, d = some x → qc2 ks v = v) : killT ks (putT T d v) = putT (killT ks T) d v := by
  funext t
  rw [killT_eq]
  cases d with
  | none => simp only [putT, killT_eq]
  | some d =>
    simp only [putT]
    split
    · exact h d rfl
    · rw [killT_eq]
theorem killT_nil' (T : Nat → AV) : killT [] T = T := rfl
theorem noteT_congr {ops : Array Oper} {o : Oper} {T T1 T' T1' : Nat → AV} (h : ∀ x, x ∈ o.looksAt ops → T x = T1 x) (h' : ∀ d, o.dst = some d → T' d = T1' d) : noteT ops o T T' = noteT ops o T1 T1' := by
  have e1 : (o.looksAt ops).flatMap (fun x => pathAV (T x)) = (o.looksAt ops).flatMap (fun x => pathAV (T1 x)) := by
    generalize o.looksAt ops = l at h
    induction l with
    | nil => rfl
    | cons x l ih => simp only [List.flatMap_cons]; rw [h x (by simp), ih fun y hy => h y (by simp [hy])]
  have e2 : ((o.looksAt ops).any fun x => undAV (T x)) = (o.looksAt ops).any fun x => undAV (T1 x) := by
    generalize o.looksAt ops = l at h
    induction l with
    | nil => rfl
    | cons x l ih => simp only [List.any_cons]; rw [h x (by simp), ih fun y hy => h y (by simp [hy])]
  unfold noteT
  rw [e1, e2]
  cases hd : o.dst with
  | none => rfl
  | some d => simp only; rw [h' d hd]
theorem putT_dst {T : Nat → AV} {o : Oper} {d : Nat} {v : AV} (h : o.dst = some d) : putT T o.dst v d = v := by rw [h]; simp [putT]

/-- two operations that touch nothing in common change places -/
theorem stepN_comm {nb : Bool} {E : Env} {C : Oracle} {ops : Array Oper} {i j : Nat} {oi oj : Oper} {S S1 S2 : St} {ti tj : Tr} (h1 : stepN nb E C ops i oi S = some (S1, ti)) (h2 : stepN nb E C ops j oj S1 = some (S2, tj)) (hc : clash ti tj = false) (ha : oi.apart ops oj = true) :
    ∃ S1', stepN nb E C ops j oj S = some (S1', tj) ∧ stepN nb E C ops i oi S1' = some (S2, ti) := by
  obtain ⟨⟨Sa, ti0⟩, q1, e⟩ := Option.map_eq_some_iff.mp h1
  simp only [Prod.mk.injEq] at e
  obtain ⟨rfl, rfl⟩ := e
  obtain ⟨⟨Sb, tj0⟩, q2, e⟩ := Option.map_eq_some_iff.mp h2
  simp only [Prod.mk.injEq] at e
  obtain ⟨rfl, rfl⟩ := e
  obtain ⟨c1, c2, c3, k1, k2, k3⟩ := clash_spec hc
  obtain ⟨a1, a2, a3⟩ := Oper.apart_spec ha
  obtain ⟨v, e1, e2, e3, e4⟩ := stepX_inv q1
  obtain ⟨u, f1, f2, f3, f4⟩ := stepX_inv q2
  have hnt : ∀ {o : Oper} {T T' : Nat → AV} {t : Tr} {p : List Nat} {b : Bool}, (noted nb ops o T T' t).nt = some (p, b) → p = (noteT ops o T T').1 ∧ b = (noteT ops o T T').2 := by
    intro o T T' t p b h
    cases nb with
    | false => simp [noted] at h
    | true =>
      simp only [noted, cond_true, Option.some.injEq] at h
      rw [h]; exact ⟨rfl, rfl⟩
  have look : ∀ {o : Oper} {T T' : Nat → AV} {x : Nat}, x ∈ o.looksAt ops → ∀ k, k ∈ pathAV (T x) → k ∈ (noteT ops o T T').1 := fun hx k hk => List.mem_append_left _ (List.mem_flatMap.mpr ⟨_, hx, hk⟩)
  have left : ∀ {o : Oper} {T T' : Nat → AV} {d : Nat}, o.dst = some d → ∀ k, k ∈ pathAV (T' d) → k ∈ (noteT ops o T T').1 := fun {o T T' d} hd k hk => List.mem_append_right _ (by simp only [hd]; exact hk)
  have A : ∀ x, x ∈ oj.looksAt ops → S.T x = Sa.T x := fun x hx => by
    have e0 : Sa.T x = qc2 ti0.kl (S.T x) := by rw [e1, putT_other (fun hd => a1 x hd hx), killT_eq]
    rcases klB_spec k3 with hk | ⟨p, hp, hq⟩
    · have hk : ti0.kl = [] := hk
      rw [e0, hk, killAV_nil]
    · have := (hnt hp).2
      have hu : undAV (Sa.T x) = false := by
        have := List.any_eq_false.mp this.symm x hx
        simpa using this
      rw [e0] at hu ⊢
      exact (killAV_idU _ _ hu).symm
  obtain ⟨Sj, g1, g2, g3, g4, g5⟩ := f4 S e2.symm A (fun k hk => (e3 k fun hw => c2 k hw hk).symm)
  have B : ∀ x, x ∈ oi.looksAt ops → Sj.T x = S.T x := fun x hx => by
    rw [g2, putT_other (fun hd => a3 x hd hx), killT_eq]
    rcases klA_spec k2 with hk | ⟨p, b, hp, hq⟩
    · have hk : tj0.kl = [] := hk
      rw [hk, killAV_nil]
    · have := (hnt hp).1
      subst this
      exact killAV_idP _ _ fun k hk => hq k (look hx k hk)
  obtain ⟨Si, p1, p2, p3, p4, p5⟩ := e4 Sj g3 B (fun k hk => g5 k (c3 k hk))
  have va : ∀ d, oi.dst = some d → Sa.T d = v := fun d hd => by rw [e1, putT_dst hd]
  have vb : ∀ d, oj.dst = some d → Sb.T d = u := fun d hd => by rw [f1, putT_dst hd]
  have hT : Si.T = Sb.T := by
    rw [p2, g2, f1, e1]
    rcases k1 with k1 | k1
    · have k1 : ti0.kl = [] := k1
      rw [k1, killT_nil', killT_nil', killT_put (T := S.T) fun d hd => ?_]
      · exact putT_comm fun d hd hd' => a2 d hd' hd
      · rcases klA_spec k2 with hk | ⟨p, b, hp, hq⟩
        · have hk : tj0.kl = [] := hk
          rw [hk, killAV_nil]
        · have := (hnt hp).1
          subst this
          exact killAV_idP _ _ fun k hk => hq k (left hd k (by rw [va d hd]; exact hk))
    · have k1 : tj0.kl = [] := k1
      rw [k1, killT_nil', killT_nil', killT_put (T := S.T) fun d hd => ?_]
      · exact putT_comm fun d hd hd' => a2 d hd' hd
      · rcases klB_spec k3 with hk | ⟨p, hp, hq⟩
        · have hk : ti0.kl = [] := hk
          rw [hk, killAV_nil]
        · have := (hnt hp).1
          subst this
          exact killAV_idP _ _ fun k hk => hq k (left hd k (by rw [vb d hd]; exact hk))
  have hn : Si.nx = Sb.nx := by rw [p3, g3, f2, e2]
  have hH : Si.H = Sb.H := by
    funext k
    by_cases hi : k ∈ ti0.wr
    · rw [p4 k hi, f3 k (c1 k hi)]
    · rw [p5 k hi]
      by_cases hj : k ∈ tj0.wr
      · rw [g4 k hj]
      · rw [g5 k hj, f3 k hj, e3 k hi]
  have hS : Si = Sb := by
    cases Si; cases Sb
    simp only at hT hn hH
    subst hT; subst hn; subst hH
    rfl
  subst hS
  refine ⟨Sj, ?_, ?_⟩
  · simp only [stepN, g1, Option.map_some, Option.some.injEq, Prod.mk.injEq, true_and]
    simp only [noted]
    rw [noteT_congr A (T' := Sj.T) (T1' := Si.T) fun d hd => by rw [vb d hd, g2, putT_dst hd]]
  · simp only [stepN, p1, Option.map_some, Option.some.injEq, Prod.mk.injEq, true_and]
    simp only [noted]
    rw [noteT_congr B (T' := Si.T) (T1' := Sa.T) fun d hd => by rw [va d hd, p2, putT_dst hd]]

/-- a run of operations -/
inductive RunX (nb : Bool) (E : Env) (C : Oracle) (ops : Array Oper) : List (Nat × Oper × Tr) → St → St → Prop
  | nil (S : St) : RunX nb E C ops [] S S
  | cons {i : Nat} {o : Oper} {t : Tr} {l : List (Nat × Oper × Tr)} {S S1 S2 : St} (h : stepN nb E C ops i o S = some (S1, t)) (r : RunX nb E C ops l S1 S2) : RunX nb E C ops ((i, o, t) :: l) S S2

theorem RunX.front {nb : Bool} {E : Env} {C : Oracle} {ops : Array Oper} {x : Nat × Oper × Tr} : ∀ {l1 l2 : List (Nat × Oper × Tr)} {S S2 : St}, RunX nb E C ops (l1 ++ x :: l2) S S2 → (∀ y ∈ l1, clash y.2.2 x.2.2 = false ∧ y.2.1.apart ops x.2.1 = true) →
    RunX nb E C ops (x :: (l1 ++ l2)) S S2 := by
  intro l1
  induction l1 with
  | nil => intro l2 S S2 h _; exact h
  | cons y l1 ih =>
    intro l2 S S2 h hy
    obtain ⟨i, o, t⟩ := y
    cases h with
    | cons h r =>
      have r' := ih r fun z hz => hy z (List.mem_cons_of_mem _ hz)
      obtain ⟨hc, ha⟩ := hy _ (List.mem_cons_self ..)
      obtain ⟨i', o', t'⟩ := x
      cases r' with
      | cons h' r' =>
        obtain ⟨S1', q1, q2⟩ := stepN_comm h h' hc ha
        exact .cons q1 (.cons q2 r')

theorem runOpsD_inv {R : Type} {nb : Bool} {E : Env} {C : Oracle} {ops : Array Oper} {K : St → Option R} {r : R} : ∀ (os : List Oper) (i : Nat) (tr : List (Nat × Tr)) (S : St), runOpsD nb E C ops i os tr S K = some r →
    ∃ (l : List (Nat × Oper × Tr)) (S' : St), RunX nb E C ops l S S' ∧ K S' = some r ∧ qa0 (bef ops 8) ((l.map fun x => (x.1, x.2.2)).reverse ++ tr) = true ∧ l.map (·.1) = List.range' i os.length ∧ l.map (·.2.1) = os := by
  intro os
  induction os with
  | nil =>
    intro i tr S h
    simp only [runOpsD] at h
    cases hb : qa0 (bef ops 8) tr with
    | false => simp [hb] at h
    | true => exact ⟨[], S, .nil S, by simpa [hb] using h, by simpa using hb, rfl, rfl⟩
  | cons o os ih =>
    intro i tr S h
    simp only [runOpsD, stepX_eq] at h
    cases hs : stepX E C ops i o S with
    | none => simp [hs] at h
    | some x =>
      obtain ⟨S1, t⟩ := x
      simp only [hs, Option.bind_some] at h
      obtain ⟨l, S', h1, h2, h3, h4, h5⟩ := ih (i + 1) ((i, noted nb ops o S.T S1.T t) :: tr) S1 h
      exact ⟨(i, o, noted nb ops o S.T S1.T t) :: l, S', .cons (by simp [stepN, hs]) h1, h2, by simpa using h3, by simp [h4, List.range'_succ], by simp [h5]⟩

def dstOK (N : Nat) (o : Oper) : Bool := match o.dst with | some d => decide (d < N) | none => true

def drawOK (ops : Array Oper) : Bool := (List.range ops.size).all fun j => match ops[j]? with
  | some oj => oj.after.all (fun e => !Region.binds .any e || decide (e.on < j)) && (List.range j).all fun i => match ops[i]? with
    | some oi => oi.apart ops oj || bef ops 8 i j
    | none => true
  | none => true

theorem drawOK_spec {ops : Array Oper} (h : drawOK ops = true) {j : Nat} {oj : Oper} (hj : ops[j]? = some oj) :
    (∀ e ∈ oj.after, Region.binds .any e = true → e.on < j) ∧ ∀ i oi, i < j → ops[i]? = some oi → oi.apart ops oj = true ∨ bef ops 8 i j = true := by
  have hlt : j < ops.size := (Array.getElem?_eq_some_iff.mp hj).1
  have := List.all_eq_true.mp h j (List.mem_range.mpr hlt)
  simp only [hj, Bool.and_eq_true] at this
  obtain ⟨h1, h2⟩ := this
  refine ⟨fun e he hb => ?_, fun i oi hi ho => ?_⟩
  · have := Array.all_eq_true_iff_forall_mem.1 h1 e he
    simpa [hb] using this
  · have := List.all_eq_true.mp h2 i (List.mem_range.mpr hi)
    simpa [ho] using this

/-- what stands before a ready one is listed -/
theorem bef_listed {ops : Array Oper} {listed : Array Bool} (hcl : ∀ j oj, ops[j]? = some oj → listed.getD j false = true → ∀ e ∈ oj.after, Region.binds .any e = true → listed.getD e.on false = true) :
    ∀ (n i j : Nat) (oj : Oper), ops[j]? = some oj → (∀ e ∈ oj.after, Region.binds .any e = true → listed.getD e.on false = true) → bef ops n i j = true → listed.getD i false = true := by
  intro n
  induction n with
  | zero => intro i j oj _ _ h; simp [bef] at h
  | succ n ih =>
    intro i j oj hj hr h
    simp only [bef, hj] at h
    obtain ⟨e, he, hb⟩ := Array.any_eq_true'.1 h
    simp only [Bool.and_eq_true, Bool.or_eq_true, beq_iff_eq] at hb
    obtain ⟨hb, hi⟩ := hb
    have hl := hr e he hb
    rcases hi with hi | hi
    · rw [← hi]; exact hl
    · cases hk : ops[e.on]? with
      | none =>
        cases n with
        | zero => simp [bef] at hi
        | succ n => simp [bef, hk] at hi
      | some ok => exact ih i e.on ok hk (hcl e.on ok hk hl) hi

def Free (ops : Array Oper) (x y : Nat × Oper × Tr) : Prop := bef ops 8 x.1 y.1 = true ∨ (clash x.2.2 y.2.2 = false ∧ x.2.1.apart ops y.2.1 = true)

theorem wpAny_run {nb : Bool} {P : Program} {E : Env} {C : Oracle} (hC : ExecSound P E C) {X : Cx} (hX : X.WF) {N nx : Nat} {ops : Array Oper} {Q : Exit → Act → World → Prop} {Sf : St}
    (hd : ∀ (i : Nat) (o : Oper), ops[i]? = some o → ∀ x, o.dst = some x → x < N) (hback : ∀ (j : Nat) (oj : Oper), ops[j]? = some oj → ∀ e ∈ oj.after, Region.binds .any e = true → e.on < j) :
    ∀ (fuel : Nat) (l : List (Nat × Oper × Tr)) (listed : Array Bool) (S : St) (μ : Nat → Option (Nat × Nat)) (F : Nat → Nat → Prop) (w : World) (a : Act), l.length = fuel → S.nx = nx → RunX nb E C ops l S Sf → l.Pairwise (fun x y => x.1 < y.1 ∧ Free ops x y) →
      (∀ x ∈ l, ops[x.1]? = some x.2.1) → listed.size = ops.size → (∀ i, i < ops.size → (listed.getD i true = false ↔ ∃ x ∈ l, x.1 = i)) →
      (∀ j oj, ops[j]? = some oj → listed.getD j false = true → ∀ e ∈ oj.after, Region.binds .any e = true → listed.getD e.on false = true) →
      SR X μ F S.H w N nx (fun j => listed.getD j false = true) S.T a →
      (∀ a' w' μ' F' ks, Sf.nx = nx → SR X μ' F' Sf.H w' N nx (fun j => j < ops.size) Sf.T a' → Keep (fun k => k < nx) ks μ S.H w μ' Sf.H w' → Q .normal a' w') →
      wpAny P .any ops Q fuel listed a w := by
  have getDB : ∀ (listed : Array Bool) (i : Nat), i < listed.size → (listed.getD i true = false ↔ ¬ listed.getD i false = true) := by
    intro listed i hi
    simp [Array.getD_eq_getD_getElem?, Array.getElem?_eq_getElem hi]
  intro fuel
  induction fuel with
  | zero =>
    intro l listed S μ F w a hl hnx hrun _ _ hsz hun _ hS hQ
    have : l = [] := List.eq_nil_of_length_eq_zero hl
    subst this
    cases hrun
    refine ⟨?_, hQ a w μ F [] hnx (hS.congrD fun j => ?_) (Keep.refl _ _ _ _)⟩
    · cases hr : Region.ready .any ops listed with
      | nil => rfl
      | cons i rs =>
        have hm : i ∈ Region.ready .any ops listed := by rw [hr]; simp
        obtain ⟨h0, o, ho, _⟩ := mem_ready.1 hm
        have := (hun i (Array.getElem?_eq_some_iff.mp ho).1).1 h0
        obtain ⟨x, hx, _⟩ := this
        simp at hx
    · constructor
      · intro h
        rcases Nat.lt_or_ge j listed.size with h' | h'
        · omega
        · simp [Array.getElem?_eq_none h'] at h
      · intro h
        have hn : ¬ listed.getD j true = false := fun hh => by obtain ⟨x, hx, _⟩ := (hun j h).1 hh; simp at hx
        exact Classical.byContradiction fun hh => hn ((getDB listed j (by omega)).2 hh)
  | succ fuel ih =>
    intro l listed S μ F w a hl hnx hrun hpw hops hsz hun hcl hS hQ
    refine ⟨fun hr => ?_, fun i hi => ?_⟩
    · exfalso
      cases l with
      | nil => simp at hl
      | cons x l =>
        have hx := hops x (by simp)
        have hxl := (Array.getElem?_eq_some_iff.mp hx).1
        have : x.1 ∈ Region.ready .any ops listed := mem_ready.2 ⟨(hun x.1 hxl).2 ⟨x, by simp, rfl⟩, x.2.1, hx, fun e he hb => by
          have hlt := hback x.1 x.2.1 hx e he hb
          refine Classical.byContradiction fun hh => ?_
          obtain ⟨y, hy, hye⟩ := (hun e.on (by omega)).1 ((getDB listed e.on (by omega)).2 hh)
          rcases List.mem_cons.mp hy with rfl | hy
          · omega
          · have := (List.pairwise_cons.mp hpw).1 y hy
            omega⟩
        rw [hr] at this
        simp at this
    · obtain ⟨h0, o, ho, hdeps⟩ := mem_ready.1 hi
      have hil := (Array.getElem?_eq_some_iff.mp ho).1
      obtain ⟨x, hx, hxi⟩ := (hun i hil).1 h0
      obtain ⟨l1, l2, rfl⟩ := List.append_of_mem hx
      have hxo : x.2.1 = o := by have := hops x hx; rw [hxi, ho] at this; exact (Option.some.inj this).symm
      have hnot : ∀ y ∈ l1 ++ x :: l2, ¬ listed.getD y.1 false = true := fun y hy => (getDB listed y.1 (by rw [hsz]; exact (Array.getElem?_eq_some_iff.mp (hops y hy)).1)).1 ((hun y.1 (Array.getElem?_eq_some_iff.mp (hops y hy)).1).2 ⟨y, hy, rfl⟩)
      have hfront := hrun.front fun y hy => by
        have hp := (List.pairwise_append.mp hpw).2.2 y hy x (by simp)
        rcases hp.2 with hb | hb
        · exfalso
          rw [hxi] at hb
          exact hnot y (List.mem_append_left _ hy) (bef_listed hcl _ _ i o ho hdeps hb)
        · exact hb
      obtain ⟨i', o', t⟩ := x
      simp only at hxi hxo
      subst hxi; subst hxo
      cases hfront with
      | cons hstep hrun' =>
        rename_i S1
        have hDi : ¬ listed.getD i' false = true := hnot _ hx
        have hS0 : SR X μ F S.H w N S.nx (fun j => listed.getD j false = true) S.T a := by rw [hnx]; exact hS
        obtain ⟨⟨Sx, t0⟩, hstepX, e⟩ := Option.map_eq_some_iff.mp hstep
        simp only [Prod.mk.injEq] at e
        obtain ⟨rfl, rfl⟩ := e
        refine stepOp_sound (r := (Sx, t0)) (K := fun S' t => some (S', t)) hC hX hS0 ho hDi (hd i' o' ho) hstepX fun S' t' a' w' μ' F' hk hnx' hS' hkeep => ?_
        simp only [Option.some.injEq, Prod.mk.injEq] at hk
        obtain ⟨rfl, rfl⟩ := hk
        have hset : ∀ j, (listed.setIfInBounds i' true).getD j false = true ↔ (listed.getD j false = true ∨ j = i') := by
          intro j
          by_cases hj : j = i'
          · subst hj
            simp [Array.getD_eq_getD_getElem?, Array.getElem?_setIfInBounds_self_of_lt (show j < listed.size by omega)]
          · rw [getD_set_ne false (fun e => hj e.symm)]
            simp [hj]
        have hsub : (l1 ++ l2).Sublist (l1 ++ (i', o', noted nb ops o' S.T S'.T t') :: l2) := List.Sublist.append (List.Sublist.refl l1) (List.sublist_cons_self _ _)
        refine ih (l1 ++ l2) (listed.setIfInBounds i' true) S' μ' F' w' a' (by simp at hl ⊢; omega) (hnx'.trans hnx) hrun' (hpw.sublist hsub) (fun y hy => hops y (hsub.subset hy)) (by simpa using hsz) (fun j hj => ?_) (fun j oj hoj hjl e he hb => ?_) ?_ ?_
        · by_cases hji : j = i'
          · subst hji
            have h1 : ¬ (listed.setIfInBounds j true).getD j true = false := by
              simp [Array.getD_eq_getD_getElem?, Array.getElem?_setIfInBounds_self_of_lt (show j < listed.size by omega)]
            refine ⟨fun h => absurd h h1, ?_⟩
            rintro ⟨y, hy, hyj⟩
            exfalso
            rcases List.mem_append.mp hy with hy | hy
            · have := (List.pairwise_append.mp hpw).2.2 y hy (j, o', noted nb ops o' S.T S'.T t') (by simp)
              have := this.1; omega
            · have := (List.pairwise_cons.mp (List.pairwise_append.mp hpw).2.1).1 y hy
              have := this.1; simp only at this; omega
          · rw [getD_set_ne true (fun e => hji e.symm), hun j hj]
            constructor
            · rintro ⟨y, hy, hyj⟩
              refine ⟨y, ?_, hyj⟩
              rcases List.mem_append.mp hy with hy | hy
              · exact List.mem_append_left _ hy
              · rcases List.mem_cons.mp hy with rfl | hy
                · exact absurd hyj.symm hji
                · exact List.mem_append_right _ hy
            · rintro ⟨y, hy, hyj⟩
              exact ⟨y, hsub.subset hy, hyj⟩
        · rw [hset] at hjl ⊢
          rcases hjl with hjl | rfl
          · exact .inl (hcl j oj hoj hjl e he hb)
          · rw [ho] at hoj
            injection hoj with hoj; subst hoj
            exact .inl (hdeps e he hb)
        · rw [hnx] at hS'
          exact hS'.congrD fun j => (hset j).symm
        · intro a2 w2 μ2 F2 ks hn2 hS2 hk2
          rw [hnx] at hkeep
          exact hQ a2 w2 μ2 F2 (ks ++ t'.kl) hn2 hS2 ((hkeep.mono (fun k hk => .inl hk) fun _ h => h).trans hk2)

theorem apartAll_spec {ord : Nat → Nat → Bool} : ∀ {tr : List (Nat × Tr)}, qa0 ord tr = true → tr.Pairwise (fun y x => clash x.2 y.2 = false ∨ ord x.1 y.1 = true)
  | [], _ => .nil
  | (j, t) :: r, h => by
    simp only [qa0, Bool.and_eq_true] at h
    refine .cons (fun x hx => ?_) (apartAll_spec h.2)
    have := List.all_eq_true.mp h.1 x hx
    simpa using this

theorem runOpsD_sound {R : Type} {nb : Bool} {P : Program} {E : Env} {C : Oracle} (hC : ExecSound P E C) {X : Cx} (hX : X.WF) {N : Nat} {ops : Array Oper} {r : R} {Q : Exit → Act → World → Prop} {K : St → Option R} (hd : ∀ (i : Nat) (o : Oper), ops[i]? = some o → ∀ x, o.dst = some x → x < N)
    (hok : drawOK ops = true) {S : St} {μ : Nat → Option (Nat × Nat)} {F : Nat → Nat → Prop} {w : World} {a : Act} (hS : SR X μ F S.H w N S.nx (fun _ => False) S.T a) (h : runOpsD nb E C ops 0 ops.toList [] S K = some r)
    (hK : ∀ S' a' w' μ' F' ks, K S' = some r → S'.nx = S.nx → SR X μ' F' S'.H w' N S.nx (fun j => j < ops.size) S'.T a' → Keep (fun k => k < S.nx) ks μ S.H w μ' S'.H w' → Q .normal a' w') :
    wpAny P .any ops Q ops.size (Array.replicate ops.size false) a w := by
  obtain ⟨l, Sf, h1, h2, h3, h4, h5⟩ := runOpsD_inv _ _ _ _ h
  have hlen : l.length = ops.size := by have := congrArg List.length h5; simpa using this
  have hidx : ∀ p (hp : p < l.length), l[p].1 = p := by
    intro p hp
    have : (l.map (·.1))[p]'(by simpa using hp) = (List.range' 0 ops.toList.length)[p]'(by simp; omega) := by simp only [h4]
    simpa using this
  have hop : ∀ p (hp : p < l.length), ops[p]? = some l[p].2.1 := by
    intro p hp
    have : (l.map (·.2.1))[p]'(by simpa using hp) = ops.toList[p]'(by simp; omega) := by simp only [h5]
    rw [Array.getElem?_eq_getElem (by omega)]
    simpa using this.symm
  have hops : ∀ x ∈ l, ops[x.1]? = some x.2.1 := by
    intro x hx
    obtain ⟨p, hp, rfl⟩ := List.mem_iff_getElem.mp hx
    rw [hidx p hp]; exact hop p hp
  have hfalse : ∀ i, i < ops.size → (Array.replicate ops.size false).getD i true = false := by
    intro i hi
    simp [Array.getD_eq_getD_getElem?, Array.getElem?_replicate, hi]
  have hfalse' : ∀ i, ¬ (Array.replicate ops.size false).getD i false = true := by
    intro i
    simp only [Array.getD_eq_getD_getElem?, Array.getElem?_replicate]
    split <;> simp
  refine wpAny_run (nx := S.nx) hC hX hd (fun j oj hj => (drawOK_spec hok hj).1) ops.size l _ S μ F w a hlen rfl h1 ?_ hops (by simp) (fun i hi => ⟨fun _ => ⟨l[i]'(by omega), List.getElem_mem _, hidx i _⟩, fun _ => hfalse i hi⟩) (fun j oj hj hl => absurd hl (hfalse' j)) (hS.congrD fun j => ⟨fun h => h.elim, fun h => absurd h (hfalse' j)⟩) fun a' w' μ' F' ks hn hS' hk => hK Sf a' w' μ' F' ks h2 hn hS' hk
  have hp1 := apartAll_spec h3
  rw [List.append_nil, List.pairwise_reverse, List.pairwise_map] at hp1
  have hp2 : l.Pairwise (fun x y => x.1 < y.1) := by
    have : (l.map (·.1)).Pairwise (· < ·) := by rw [h4]; exact List.pairwise_lt_range'
    rwa [List.pairwise_map] at this
  refine (hp2.and hp1).imp_of_mem fun {x y} hx hy hh => ⟨hh.1, ?_⟩
  rcases hh.2 with h2 | h2
  · rcases (drawOK_spec hok (hops y hy)).2 x.1 x.2.1 hh.1 (hops x hx) with ha | hb
    · exact .inr ⟨h2, ha⟩
    · exact .inl hb
  · exact .inl h2

end Go.Proofs.Ythgopooldcheeaa.VH
end

section
namespace Go.Proofs.Ythgopooldcheeaa.VH

/- From one context to another. -/

theorem RD.ctx {w w' : World} {S S' : Nat → Prop} (hS : ∀ b, S b → S' b) (hw : ∀ b, S b → w'.heap[b]? = w.heap[b]?) {x : AV} {v : Value} (h : RD w S x v) : RD w' S' x v := h.mono hS hw

theorem OW.ctx {X X' : Cx} {w : World} (h1 : ∀ x v, RD X.w0 X.Fg x v → RD X'.w0 X'.Fg x v) (h2 : ∀ x v, RD X.w0 X.Fo x v → RD X'.w0 X'.Fo x v) {x : AV} {v : Value} {T : Nat → Prop} (h : OW X w x v T) : OW X' w x v T := by
  induction h with
  | und _ _ h => exact .und _ _ h
  | val _ _ h => exact .val _ _ h
  | fgn _ _ _ _ _ _ h => exact .fgn _ _ _ _ _ _ (h1 _ _ h)
  | snap _ _ _ _ _ _ h => exact .snap _ _ _ _ _ _ (h2 _ _ h)
  | own z n cap cs b o c arr vs Ts T k1 k2 k3 k4 k5 k6 k7 k8 k9 k10 k11 k12 ih => exact .own z n cap cs b o c arr vs Ts T k1 k2 k3 k4 k5 k6 k7 ih k9 k10 k11 k12
  | nil _ _ _ _ h => exact .nil _ _ _ _ h

theorem noSnapL_get : ∀ {xs : List AV} {i : Nat} (h : i < xs.length), qf2 xs = true → qf1 xs[i] = true
  | x :: xs, 0, _, hn => by simp only [qf2, Bool.and_eq_true] at hn; exact hn.1
  | x :: xs, i + 1, h, hn => by simp only [qf2, Bool.and_eq_true] at hn; exact noSnapL_get (xs := xs) (i := i) (by simpa using h) hn.2

theorem OW.out {X X' : Cx} {w : World} (h1 : ∀ x v, RD X'.w0 X'.Fg x v → RD X.w0 X.Fg x v) {x : AV} {v : Value} {T : Nat → Prop} (h : OW X' w x v T) : qf1 x = true → OW X w x v T := by
  induction h with
  | und _ _ h => exact fun _ => .und _ _ h
  | val _ _ h => exact fun _ => .val _ _ h
  | fgn _ _ _ _ _ _ h => exact fun _ => .fgn _ _ _ _ _ _ (h1 _ _ h)
  | snap _ _ _ _ _ _ h => intro hn; simp [qf1] at hn
  | own z n cap cs b o c arr vs Ts T k1 k2 k3 k4 k5 k6 k7 k8 k9 k10 k11 k12 ih =>
    intro hn
    simp only [qf1] at hn
    exact .own z n cap cs b o c arr vs Ts T k1 k2 k3 k4 k5 k6 k7 (fun j hj => ih j hj (noSnapL_get hj hn)) k9 k10 k11 k12
  | nil _ _ _ _ h => exact fun _ => .nil _ _ _ _ h

theorem Cells.ctx {X X' : Cx} {w : World} (h1 : ∀ x v, RD X.w0 X.Fg x v → RD X'.w0 X'.Fg x v) (h2 : ∀ x v, RD X.w0 X.Fo x v → RD X'.w0 X'.Fo x v) {b o : Nat} {cs : List AV} {T : Nat → Prop} (h : Cells X w b o cs T) : Cells X' w b o cs T := by
  obtain ⟨arr, vs, Ts, k1, k2, k3, k4, k5, k6, k7, k8⟩ := h
  exact ⟨arr, vs, Ts, k1, k2, k3, k4, fun j hj => (k5 j hj).ctx h1 h2, k6, k7, k8⟩

theorem Cells.out {X X' : Cx} {w : World} (h1 : ∀ x v, RD X'.w0 X'.Fg x v → RD X.w0 X.Fg x v) {b o : Nat} {cs : List AV} {T : Nat → Prop} (h : Cells X' w b o cs T) (hn : qf2 cs = true) : Cells X w b o cs T := by
  obtain ⟨arr, vs, Ts, k1, k2, k3, k4, k5, k6, k7, k8⟩ := h
  exact ⟨arr, vs, Ts, k1, k2, k3, k4, fun j hj => (k5 j hj).out h1 (noSnapL_get hj hn), k6, k7, k8⟩

theorem RV.out {X X' : Cx} {w : World} {μ : Nat → Option (Nat × Nat)} {H : Heap} (h1 : ∀ x v, RD X'.w0 X'.Fg x v → RD X.w0 X.Fg x v) (h2 : ∀ b arr, X'.Fg b → RBlk X'.w0 b arr → X.Fg b ∧ RBlk X.w0 b arr) {x : AV} {v : Value} (h : RV X' μ H w x v) : qf1 x = true → RV X μ H w x v := by
  induction h with
  | und v => exact fun _ => .und v
  | bx b => exact fun hn => by simp [qf1] at hn
  | box => exact fun hn => by simp [qf1] at hn
  | val v => exact fun _ => .val v
  | sl tg z n cap cs v ht h =>
    intro hn
    cases tg with
    | own => exact absurd rfl ht
    | fgn => exact .sl _ _ _ _ _ _ ht (h1 _ _ h)
    | snap => simp [qf1] at hn
  | ref k p z off n cap A c hn hc hA h => exact fun _ => .ref k p z off n cap A c hn hc hA h
  | ptr k p off a h => exact fun _ => .ptr k p off a h
  | rp tg cs off b o arr vs ht hS hb hv hr =>
    intro hn
    cases tg with
    | own => exact absurd rfl ht
    | fgn =>
      obtain ⟨a1, a2⟩ := h2 b arr hS hb
      exact .rp _ cs off b o arr vs ht a1 a2 hv fun j hj => h1 _ _ (hr j hj)
    | snap => simp [qf1] at hn
  | agg xs vs hl hf h ih => intro hn; simp only [qf1] at hn; exact .agg _ vs hl hf fun i hi hi' => ih i hi hi' (noSnapL_get hi hn)
  | tup xs vs hl h ih => intro hn; simp only [qf1] at hn; exact .tup _ vs hl fun i hi hi' => ih i hi hi' (noSnapL_get hi hn)
  | fn f xs vs hl h ih => intro hn; simp only [qf1] at hn; exact .fn f _ vs hl fun i hi hi' => ih i hi hi' (noSnapL_get hi hn)


theorem RV.ctx {X X' : Cx} {w : World} {μ : Nat → Option (Nat × Nat)} {H : Heap} (h1 : ∀ x v, RD X.w0 X.Fg x v → RD X'.w0 X'.Fg x v) (h2 : ∀ x v, RD X.w0 X.Fo x v → RD X'.w0 X'.Fo x v) (hfo : ∀ b, X.Fo b → X'.Fo b) (hfg : ∀ b, X.Fg b → X'.Fg b) (hwf : X.WF) (hw : ∀ b, X.Fo b → X'.w0.heap[b]? = X.w0.heap[b]?) {x : AV} {v : Value} (h : RV X μ H w x v) : RV X' μ H w x v := by
  have hb0 : ∀ b arr tg, tagS X tg b → RBlk X.w0 b arr → tagS X' tg b ∧ RBlk X'.w0 b arr := fun b arr tg hS hb => by
    cases tg with
    | fgn => exact ⟨hfg b hS, hb.agree (hw b (hwf.fg b hS))⟩
    | own => exact ⟨hfo b hS, hb.agree (hw b hS)⟩
    | snap => exact ⟨hfo b hS, hb.agree (hw b hS)⟩
  have ht0 : ∀ tg x v, RD X.w0 (tagS X tg) x v → RD X'.w0 (tagS X' tg) x v := fun tg x v h => by
    cases tg with
    | fgn => exact h1 _ _ h
    | own => exact h2 _ _ h
    | snap => exact h2 _ _ h
  induction h with
  | und v => exact .und v
  | val v => exact .val v
  | sl tg z n cap cs v ht h => exact .sl _ _ _ _ _ _ ht (ht0 _ _ _ h)
  | ref k p z off n cap A c hn hc hA h => exact .ref k p z off n cap A c hn hc hA h
  | bx b => exact .bx b
  | box cs b o arr vs hne hS hb hv hf hr ih => exact .box cs b o arr vs hne (hfo b hS) (hb.agree (hw b hS)) hv hf ih
  | ptr k p off a h => exact .ptr k p off a h
  | rp tg cs off b o arr vs ht hS hb hv hr =>
    obtain ⟨e1, e2⟩ := hb0 b arr tg hS hb
    exact .rp tg cs off b o arr vs ht e1 e2 hv fun j hj => ht0 _ _ _ (hr j hj)
  | agg xs vs hl hf h ih => exact .agg xs vs hl hf ih
  | tup xs vs hl h ih => exact .tup xs vs hl ih
  | fn f xs vs hl h ih => exact .fn f xs vs hl ih

/-- a context that knows more -/
structure Cx.Ext (X X' : Cx) : Prop where
  wf : X'.WF
  fo : ∀ b, X.Fo b → X'.Fo b
  fg : X'.Fg = X.Fg
  w0 : ∀ b, X.Fo b → X'.w0.heap[b]? = X.w0.heap[b]?
  os : X'.w0.os = X.w0.os
  tape : X'.w0.tape = X.w0.tape
  output : X'.w0.output = X.w0.output
  size : X.w0.heap.size ≤ X'.w0.heap.size
theorem Cx.Ext.refl {X : Cx} (h : X.WF) : X.Ext X := ⟨h, fun _ h => h, rfl, fun _ _ => rfl, rfl, rfl, rfl, Nat.le_refl _⟩
theorem Cx.Ext.trans {X Y Z : Cx} (h : X.Ext Y) (g : Y.Ext Z) : X.Ext Z :=
  ⟨g.wf, fun b hb => g.fo b (h.fo b hb), g.fg.trans h.fg, fun b hb => (g.w0 b (h.fo b hb)).trans (h.w0 b hb), g.os.trans h.os, g.tape.trans h.tape, g.output.trans h.output, Nat.le_trans h.size g.size⟩
theorem Cx.Ext.rd {X X' : Cx} (hX : X.WF) (h : X.Ext X') (x : AV) (v : Value) (hr : RD X'.w0 X'.Fg x v) : RD X.w0 X.Fg x v :=
  hr.mono (fun b hb => h.fg ▸ hb) fun b hb => (h.w0 b (hX.fg b (h.fg ▸ hb))).symm
/-- what is known in the wider context, in the narrower -/
theorem Rel.back {X X' : Cx} (hX : X.WF) (h : X.Ext X') {μ : Nat → Option (Nat × Nat)} {F : Nat → Nat → Prop} {H : Heap} {w : World} (hR : Rel X' μ F H w (fun _ => False)) (hn : ∀ k cs, H k = some cs → qf2 cs = true) : Rel X μ F H w (fun _ => False) :=
  ⟨hR.os.trans h.os, hR.tape.trans h.tape, hR.output.trans h.output, Nat.le_trans h.size hR.size, fun b hb => (hR.frame b (h.fo b hb)).trans (h.w0 b hb), fun k cs hk => by
    have := hR.root k cs hk
    cases hm : μ k with
    | none => rw [hm] at this; exact this
    | some u => rw [hm] at this; exact Cells.out (h.rd hX) this (hn k cs hk), hR.sep, fun k cs b hk hb => by
    obtain ⟨a1, a2, a3⟩ := hR.out k cs b hk hb
    exact ⟨fun hh => a1 (h.fo b hh), a2, a3⟩, fun _ h => h.elim⟩
theorem RV.back {X X' : Cx} (hX : X.WF) (h : X.Ext X') {μ : Nat → Option (Nat × Nat)} {H : Heap} {w : World} {x : AV} {v : Value} (hv : RV X' μ H w x v) (hn : qf1 x = true) : RV X μ H w x v :=
  RV.out (h.rd hX) (fun b arr hb ha => ⟨h.fg ▸ hb, ha.agree (h.w0 b (hX.fg b (h.fg ▸ hb))).symm⟩) hv hn

/-- a block that is boxed, and the context that knows it -/
theorem SR.boxed {X : Cx} (hX : X.WF) {μ : Nat → Option (Nat × Nat)} {F : Nat → Nat → Prop} {H : Heap} {w : World} {N nx : Nat} {D : Nat → Prop} {T : Nat → AV} {a : Act} (h : SR X μ F H w N nx D T a) (arr : Array Value) (e : TypeId) :
    X.Ext ⟨w.alloc (.cells arr e (0, 0)), fun b => X.Fo b ∨ b = w.heap.size, X.Fg⟩ ∧ SR ⟨w.alloc (.cells arr e (0, 0)), fun b => X.Fo b ∨ b = w.heap.size, X.Fg⟩ μ F H (w.alloc (.cells arr e (0, 0))) N nx D T a ∧
      (∀ U, Keep U [] μ H w μ H (w.alloc (.cells arr e (0, 0)))) ∧
      (∀ x v, RV X μ H w x v → RV ⟨w.alloc (.cells arr e (0, 0)), fun b => X.Fo b ∨ b = w.heap.size, X.Fg⟩ μ H (w.alloc (.cells arr e (0, 0))) x v) := by
  have hR := h.rel
  have hch := Chg.alloc w (.cells arr e (0, 0)) (fun _ => False)
  have hsame : ∀ b, b < w.heap.size → (w.alloc (.cells arr e (0, 0))).heap[b]? = w.heap[b]? := fun b hb => hch.same b hb (fun h => h)
  have hlt : ∀ b, X.Fo b → b < w.heap.size := fun b hb => Nat.lt_of_lt_of_le (hX.fo b hb) hR.size
  have hw0 : ∀ b, X.Fo b → (w.alloc (.cells arr e (0, 0))).heap[b]? = X.w0.heap[b]? := fun b hb => (hsame b (hlt b hb)).trans (hR.frame b hb)
  have hsz : (w.alloc (.cells arr e (0, 0))).heap.size = w.heap.size + 1 := by show (w.heap.push _).size = _; simp
  have hE : X.Ext ⟨w.alloc (.cells arr e (0, 0)), fun b => X.Fo b ∨ b = w.heap.size, X.Fg⟩ :=
    ⟨⟨fun b hb => by rcases hb with hb | hb
                     · have := hlt b hb; show b < (w.alloc (.cells arr e (0, 0))).heap.size; omega
                     · show b < (w.alloc (.cells arr e (0, 0))).heap.size; omega, fun b hb => .inl (hX.fg b hb)⟩, fun b hb => .inl hb, rfl, hw0, hch.os.trans hR.os, hch.tape.trans hR.tape, hch.output.trans hR.output, Nat.le_trans hR.size hch.size⟩
  have h1 : ∀ x v, RD X.w0 X.Fg x v → RD (w.alloc (.cells arr e (0, 0))) X.Fg x v := fun x v hr => hr.mono (fun _ h => h) fun b hb => hw0 b (hX.fg b hb)
  have h2 : ∀ x v, RD X.w0 X.Fo x v → RD (w.alloc (.cells arr e (0, 0))) (fun b => X.Fo b ∨ b = w.heap.size) x v := fun x v hr => hr.mono (fun _ h => .inl h) hw0
  have hK : ∀ U, Keep U [] μ H w μ H (w.alloc (.cells arr e (0, 0))) := fun U => ⟨fun k p cs' r ds _ _ hk hq => ⟨cs', ds, hk, LocQ.other hR hk (fun x hx => hsame x (hR.out k cs' x hk hx).2.1) hq, rfl, fun b o hr arr' ha => by
    subst hr
    have hq' := LocQ.other hR hk (fun x hx => hsame x (hR.out k cs' x hk hx).2.1) hq
    exact ⟨arr', ha.back (hsame b (LocQ.mem hR hk hq').2), rfl⟩⟩, hch.um, hch.size⟩
  have hV : ∀ x v, RV X μ H w x v → RV ⟨w.alloc (.cells arr e (0, 0)), fun b => X.Fo b ∨ b = w.heap.size, X.Fg⟩ μ H (w.alloc (.cells arr e (0, 0))) x v := fun x v hv =>
    RV.ctx (X' := ⟨w.alloc (.cells arr e (0, 0)), fun b => X.Fo b ∨ b = w.heap.size, X.Fg⟩) h1 h2 (fun _ h => .inl h) (fun _ h => h) hX hw0 (hv.keep0 hK)
  refine ⟨hE, ⟨⟨rfl, rfl, rfl, Nat.le_refl _, fun _ _ => rfl, fun k cs hk => ?_, hR.sep, fun k cs b hk hb => ?_, fun _ h => h.elim⟩, fun t => hV _ _ (h.slots t), h.keys, h.fresh, h.defers, h.size⟩, hK, hV⟩
  · have := hR.root k cs hk
    cases hm : μ k with
    | none => rw [hm] at this; exact this
    | some u =>
      rw [hm] at this
      exact Cells.ctx (X' := ⟨w.alloc (.cells arr e (0, 0)), fun b => X.Fo b ∨ b = w.heap.size, X.Fg⟩) h1 h2 (Cells.agree this fun x hx => hsame x (hR.out k cs x hk hx).2.1)
  · obtain ⟨a1, a2, a3⟩ := hR.out k cs b hk hb
    refine ⟨fun hh => ?_, by show b < (w.alloc (.cells arr e (0, 0))).heap.size; omega, a3⟩
    rcases hh with hh | hh
    · exact a1 hh
    · have : b = w.heap.size := hh
      omega

theorem evBox_sound {P : Program} {E : Env} {C : Oracle} (hE : E.OK P) (hC : ExecSound P E C) {X : Cx} (hX : X.WF) {N : Nat} {R : Type} {ops : Array Oper} {r : R} {Q : Exit → Act → World → Prop} {K : St → Option R} (hd : ∀ (i : Nat) (o : Oper), ops[i]? = some o → ∀ x, o.dst = some x → x < N)
    {S : St} {μ : Nat → Option (Nat × Nat)} {F : Nat → Nat → Prop} {w : World} {a : Act} (hS : SR X μ F S.H w N S.nx (fun _ => False) S.T a) (h : evBox E C ops S K = some r)
    (hK : ∀ S' X' a' w' μ' F' ks, X.Ext X' → K S' = some r → S'.nx = S.nx → SR X' μ' F' S'.H w' N S.nx (fun j => j < ops.size) S'.T a' → Keep (fun k => k < S.nx) ks μ S.H w μ' S'.H w' → Q .normal a' w') :
    wpOps P ops Q (List.range ops.size) a w := by
  unfold evBox at h
  split at h
  · rename_i dd t x ty pos after os hops
    split at h
    · rename_i row cs hrow hx
      cases hc : (decide (cs.length = row.size) && !cs.isEmpty) with
      | false => rw [hc] at h; simp at h
      | true =>
      rw [hc] at h
      simp only [cond_true] at h
      simp only [Bool.and_eq_true, decide_eq_true_eq, Bool.not_eq_true', List.isEmpty_eq_false_iff] at hc
      obtain ⟨hlen, hne⟩ := hc
      have hv := opnd_rv hS.slots x
      rw [hx] at hv
      generalize hu : a.eval x = u at hv
      obtain ⟨vs, rfl, hvl, hlf, hvv⟩ := rv_agg_inv hv
      have hsz : ops.size = os.length + 1 := by rw [← Array.length_toList, hops]; rfl
      have h0 : ops[0]? = some { dst := some dd, op := .box t x, type := ty, pos := pos, after := after, guard := none } := by rw [← Array.getElem?_toList, hops]; rfl
      rw [List.range_eq_range', hsz, List.range'_succ, wpOps_cons]
      obtain ⟨hExt, hS1, hK1, hV1⟩ := hS.boxed hX vs t
      have hz : (Instr.box t (.agg vs)).run P w = .ok (.pointer (some ⟨w.heap.size, 0, none⟩)) (w.alloc (.cells vs t (0, 0))) := by
        simp [Instr.box, newVar, newRow, Value.cells]
      unfold wpOp
      simp only [h0]
      have hw : Region.wanted { dst := some dd, op := .box t x, type := ty, pos := pos, after := after, guard := none } (yielded ops a.tmps) = true := by simp [Region.wanted]
      rw [if_pos hw]
      left
      unfold Oper.wp
      have he : Go.execOp a.eval { dst := some dd, op := .box t x, type := ty, pos := pos, after := after, guard := none } = (do pure (.value (← Instr.box t (.agg vs)))) := by simp only [Go.execOp, hu]
      rw [he, Sem.run_bind, hz]
      simp only [Result.andThen_ok, Sem.run_pure, Oper.upon]
      have hbx : RV ⟨w.alloc (.cells vs t (0, 0)), fun b => X.Fo b ∨ b = w.heap.size, X.Fg⟩ μ S.H (w.alloc (.cells vs t (0, 0))) (.bx cs) (.pointer (some ⟨w.heap.size, 0, none⟩)) := by
        refine .box cs w.heap.size 0 vs (fun j => vs.getD j undef) hne (.inr rfl) ⟨t, (0, 0), by show (w.heap.push _)[w.heap.size]? = _; simp⟩ (fun j hj => ?_) (fun j hj => ?_) fun j hj => ?_
        · rw [Nat.zero_add, Array.getElem?_eq_getElem (by omega), Array.getD_eq_getD_getElem?, Array.getElem?_eq_getElem (by omega)]; rfl
        · rw [Array.getD_eq_getD_getElem?, Array.getElem?_eq_getElem (by omega)]; exact hlf j (by omega)
        · rw [Array.getD_eq_getD_getElem?, Array.getElem?_eq_getElem (by omega)]; exact hV1 _ _ (hvv j hj (by omega))
      have hkx : ∀ k, k ∈ qf6 (AV.bx cs) → UU S.nx (fun _ => False) k := fun k hk => by
        have := opnd_keys hS.keys x k
        rw [hx] at this
        exact this (by simpa [qf6] using hk)
      have hop : OP ⟨w.alloc (.cells vs t (0, 0)), fun b => X.Fo b ∨ b = w.heap.size, X.Fg⟩ (UU S.nx (fun _ => False)) (S.nx + 8 * 0) μ S.H (w.alloc (.cells vs t (0, 0))) (fun x H' t' => runOps E C ops 1 os { S with T := putT (killT t'.kl S.T) (some dd) x, H := H' } K) r (.pointer (some ⟨w.heap.size, 0, none⟩)) (w.alloc (.cells vs t (0, 0))) :=
        OP.pure (t := {}) hS1.rel rfl h hbx hkx
      obtain ⟨x', μ', F', H', t', h1, h2, h3⟩ := hS1.put (fun y hy => hd 0 _ h0 y hy) hop
      refine runOps_sound (Q := Q) hC hExt.wf hd os 1 _ μ' F' _ _ (fun j => ?_) (h3.congrD fun j => ?_) h1 fun S' a' w' μ2 F2 ks hk hn hS' hkeep => ?_
      · rw [← Array.getElem?_toList, hops, Nat.add_comm, List.getElem?_cons_succ]
      · constructor
        · rintro (h | h)
          · exact h.elim
          · omega
        · intro h; right; omega
      · exact hK S' _ a' w' μ2 F2 _ hExt hk hn (hS'.congrD fun j => by omega) (((hK1 _).trans (h2.mono (fun k hk => .inl hk) fun _ h => h)).trans hkeep)
    · exact absurd h (by simp)
  · have := runOps_sound (Q := Q) hC hX hd ops.toList 0 S μ F w a (fun j => by simp) (hS.congrD fun j => by simp) h fun S' a' w' μ' F' ks hk hn hS' hkeep => hK S' X a' w' μ' F' ks (.refl hX) hk hn (hS'.congrD fun j => by simp) hkeep
    rw [Array.length_toList] at this
    rw [List.range_eq_range']; exact this

end Go.Proofs.Ythgopooldcheeaa.VH
end

section
namespace Go.Proofs.Ythgopooldcheeaa.VH

/- Code. -/

def codeOK (N : Nat) : Code → Bool
  | .skip | .exit _ | .ret => true
  | .region _ ops draw => ops.toList.all (dstOK N) && (!draw || drawOK ops)
  | .seq a b => codeOK N a && codeOK N b
  | .cond _ a b => codeOK N a && codeOK N b
  | .block _ c => codeOK N c
  | .loop c => codeOK N c
  | _ => false

def Ex.to : Ex → Exit
  | .normal => .normal
  | .exit id => .exit id
  | .ret => .ret

theorem tp_get : ∀ (l : List (Nat × AV)) (t : Nat), tp l t = .und ∨ (t, tp l t) ∈ l
  | [], t => .inl rfl
  | (a, x) :: r, t => by
    by_cases h : t = a
    · subst h
      right
      simp [tp]
    · rcases tp_get r t with h' | h'
      · left; simp only [tp, if_neg h]; exact h'
      · right; simp only [tp, if_neg h]; exact List.mem_cons_of_mem _ h'

/-- what lives is kept -/
theorem norm_sound {X : Cx} {μ : Nat → Option (Nat × Nat)} {F : Nat → Nat → Prop} {w : World} {N L : Nat} {S : St} {a : Act} (hS : SR X μ F S.H w N S.nx (fun _ => False) S.T a) (T : List Nat) :
    ∃ μ' F', SR X μ' F' (norm L T S).H w N (norm L T S).nx (fun _ => False) (norm L T S).T a ∧ L ≤ (norm L T S).nx ∧ Keep (fun k => k < L) [] μ S.H w μ' (norm L T S).H w := by
  refine ⟨sel (keep L (T.map S.T)) μ, sel (keep L (T.map S.T)) F, ⟨hS.rel.ren (keep_nodup _ _), fun t => ?_, fun t k hk => ?_, fun k hk => ?_, hS.defers, hS.size⟩, keep_len _ _, keep_keep⟩
  · rcases tp_get (T.map fun t => (t, qe9 (fun k => (keep L (T.map S.T)).idxOf k) (S.T t))) t with h | h
    · show RV _ _ _ _ (tp _ t) _
      rw [h]; exact .und _
    · obtain ⟨t', ht', he⟩ := List.mem_map.mp h
      injection he with e1 e2
      subst e1
      show RV _ _ _ _ (tp _ t') _
      rw [← e2]
      refine sel_keep (hS.slots t') fun k hk => .inr ?_
      obtain ⟨i, hi, e⟩ := List.mem_iff_getElem.mp ht'
      exact mem_keysL (i := i) (by simpa using hi) (by simpa [e] using hk)
  · left
    rcases tp_get (T.map fun t => (t, qe9 (fun k => (keep L (T.map S.T)).idxOf k) (S.T t))) t with h | h
    · have : k ∈ qf6 (tp (T.map fun t => (t, qe9 (fun k => (keep L (T.map S.T)).idxOf k) (S.T t))) t) := hk
      rw [h] at this; simp [qf6] at this
    · obtain ⟨t', ht', he⟩ := List.mem_map.mp h
      injection he with e1 e2
      subst e1
      have hk' : k ∈ qf6 (tp (T.map fun t => (t, qe9 (fun k => (keep L (T.map S.T)).idxOf k) (S.T t))) t') := hk
      rw [← e2] at hk'
      refine ren_keys (fun k hk => .inr ?_) k hk'
      obtain ⟨i, hi, e⟩ := List.mem_iff_getElem.mp ht'
      exact mem_keysL (i := i) (by simpa using hi) (by simpa [e] using hk)
  · have hk' : ¬ k < (keep L (T.map S.T)).length := fun h => hk (.inl h)
    show hp _ k = none
    cases hh : hp ((keep L (T.map S.T)).map S.H) k with
    | none => rfl
    | some cs => exact absurd (by simpa using hp_lt hh) hk'

theorem cutS_sound {X : Cx} {μ : Nat → Option (Nat × Nat)} {F : Nat → Nat → Prop} {w : World} {N L : Nat} {S : St} {a : Act} {E : Env} {f : FuncId} {b : Code} (hS : SR X μ F S.H w N S.nx (fun _ => False) S.T a) (hL : L ≤ S.nx) :
    ∃ μ' F', SR X μ' F' (cutS E L f b S).H w N (cutS E L f b S).nx (fun _ => False) (cutS E L f b S).T a ∧ L ≤ (cutS E L f b S).nx ∧ Keep (fun k => k < L) [] μ S.H w μ' (cutS E L f b S).H w := by
  unfold cutS
  cases E.cutf f with
  | false => exact ⟨μ, F, hS, hL, Keep.refl _ _ _ _⟩
  | true =>
    simp only [cond_true]
    cases E.cut f (qa b) with
    | none => exact ⟨μ, F, hS, hL, Keep.refl _ _ _ _⟩
    | some l => exact norm_sound hS l

theorem SR.next {X : Cx} {μ : Nat → Option (Nat × Nat)} {F : Nat → Nat → Prop} {H : Heap} {w : World} {N nx n : Nat} {T : Nat → AV} {a : Act} (h : SR X μ F H w N nx (fun j => j < n) T a) : SR X μ F H w N (nx + 8 * n) (fun _ => False) T a := by
  have e : ∀ k, UU nx (fun j => j < n) k ↔ UU (nx + 8 * n) (fun _ => False) k := by
    intro k
    constructor
    · rintro (h | ⟨i, hi, h⟩)
      · left; omega
      · left; omega
    · rintro (h | ⟨i, hi, h⟩)
      · by_cases hk : k < nx
        · exact .inl hk
        · exact .inr ⟨(k - nx) / 8, by omega, by omega, by omega⟩
      · exact hi.elim
  exact ⟨h.rel, h.slots, fun t k hk => (e k).1 (h.keys t k hk), fun k hk => h.fresh k fun hh => hk ((e k).1 hh), h.defers, h.size⟩

theorem Rel.same {X : Cx} {μ : Nat → Option (Nat × Nat)} {F : Nat → Nat → Prop} {H : Heap} {w w' : World} {G : Nat → Prop} (hR : Rel X μ F H w G) (hh : w'.heap = w.heap) (h1 : w'.os = w.os) (h2 : w'.tape = w.tape) (h3 : w'.output = w.output) :
    Rel X μ F H w' G ∧ ∀ U, Keep U [] μ H w μ H w' := by
  have hs : ∀ b : Nat, w'.heap[b]? = w.heap[b]? := fun b => by rw [hh]
  refine ⟨⟨h1.trans hR.os, h2.trans hR.tape, h3.trans hR.output, by rw [hh]; exact hR.size, fun b hb => (hs b).trans (hR.frame b hb), fun k cs hk => ?_, hR.sep, fun k cs b hk hb => ?_, fun b hb => ?_⟩, fun U => ⟨fun k p cs' r ds _ _ hk hq => ?_, fun b _ hu => hu.agree (hs b), by rw [hh]; exact Nat.le_refl _⟩⟩
  · have := hR.root k cs hk
    cases hm : μ k with
    | none => rw [hm] at this; exact this
    | some u => rw [hm] at this; exact Cells.agree this fun x _ => hs x
  · rw [hh]; exact hR.out k cs b hk hb
  · rw [hh]; exact hR.gout b hb
  · exact ⟨cs', ds, hk, LocQ.other hR hk (fun x _ => hs x) hq, rfl, fun b o _ arr' ha => ⟨arr', ha.back (hs b), rfl⟩⟩

theorem SR.drawn {X : Cx} {μ : Nat → Option (Nat × Nat)} {F : Nat → Nat → Prop} {H : Heap} {w : World} {N nx : Nat} {D : Nat → Prop} {T : Nat → AV} {a : Act} (h : SR X μ F H w N nx D T a) (n : Nat) :
    SR X μ F H { w with drawn := n } N nx D T a ∧ ∀ U, Keep U [] μ H w μ H { w with drawn := n } := by
  obtain ⟨h1, h2⟩ := h.rel.same (w' := { w with drawn := n }) rfl rfl rfl rfl
  exact ⟨⟨h1, fun t => (h.slots t).keep0 h2, h.keys, h.fresh, h.defers, h.size⟩, h2⟩

def Goes {R : Type} (X : Cx) (N L : Nat) (K : Ex → St → Option R) (r : R) (μ : Nat → Option (Nat × Nat)) (H : Heap) (w : World) (Q : Exit → Act → World → Prop) : Prop :=
  ∀ e S' X' a' w' μ' F' ks, X.Ext X' → K e S' = some r → L ≤ S'.nx → SR X' μ' F' S'.H w' N S'.nx (fun _ => False) S'.T a' → Keep (fun k => k < L) ks μ H w μ' S'.H w' → Q e.to a' w'

theorem regOps {N : Nat} {ops : Array Oper} (h : ops.toList.all (dstOK N) = true) : ∀ (i : Nat) (o : Oper), ops[i]? = some o → ∀ x, o.dst = some x → x < N := by
  intro i o ho x hx
  have := List.all_eq_true.mp h o (by simpa using Array.mem_of_getElem? ho)
  simpa [dstOK, hx] using this

theorem evC_sound {P : Program} {E : Env} {C : Oracle} (hE : E.OK P) (hC : ExecSound P E C) (hP : P.follows .mixedOrders = true) {N L : Nat} (f : FuncId) : ∀ (c : Code), codeOK N c = true → ∀ {R : Type} (X : Cx) (hX : X.WF) (S : St) (K : Ex → St → Option R) (r : R)
    (μ : Nat → Option (Nat × Nat)) (F : Nat → Nat → Prop) (w : World) (a : Act) (Q : Exit → Act → World → Prop), SR X μ F S.H w N S.nx (fun _ => False) S.T a → L ≤ S.nx → evC E C L f c S K = some r → Goes X N L K r μ S.H w Q → c.wp P Q a w := by
  intro c
  induction c with
  | skip => intro _ R X hX S K r μ F w a Q hS hL h hK; exact wp_skip (hK .normal S X a w μ F [] (.refl hX) h hL hS (Keep.refl _ _ _ _))
  | exit id => intro _ R X hX S K r μ F w a Q hS hL h hK; exact wp_exit (hK (.exit id) S X a w μ F [] (.refl hX) h hL hS (Keep.refl _ _ _ _))
  | ret => intro _ R X hX S K r μ F w a Q hS hL h hK; exact wp_ret (hK .ret S X a w μ F [] (.refl hX) h hL hS (Keep.refl _ _ _ _))
  | region id ops draw =>
    intro hok R X hX S K r μ F w a Q hS hL h hK
    simp only [codeOK, Bool.and_eq_true, Bool.or_eq_true] at hok
    cases draw with
    | false =>
      simp only [evC] at h
      refine wp_region ?_
      cases hbx : E.boxf f with
      | true =>
        rw [hbx] at h
        simp only [cond_true] at h
        refine evBox_sound (Q := Q) hE hC hX (regOps hok.1) hS h fun S' X' a' w' μ' F' ks hEx hk hn hS' hkeep => ?_
        refine hK .normal _ X' a' w' μ' F' ks hEx hk (by show L ≤ S'.nx + _; omega) ?_ (hkeep.mono (fun k hk => Nat.lt_of_lt_of_le hk hL) fun _ h => h)
        have := hS'.next
        rw [← hn] at this
        exact this
      | false =>
      rw [hbx] at h
      simp only [cond_false] at h
      have := runOps_sound (Q := Q) hC hX (regOps hok.1) ops.toList 0 S μ F w a (fun j => by simp) (hS.congrD fun j => by simp) h fun S' a' w' μ' F' ks hk hn hS' hkeep => ?_
      · rw [Array.length_toList] at this
        rw [List.range_eq_range']; exact this
      · refine hK .normal _ X a' w' μ' F' ks (.refl hX) hk (by show L ≤ S'.nx + _; omega) ?_ (hkeep.mono (fun k hk => Nat.lt_of_lt_of_le hk hL) fun _ h => h)
        have := (hS'.congrD (D' := fun j => j < ops.size) fun j => by simp).next
        rw [← hn] at this
        exact this
    | true =>
      simp only [evC] at h
      refine wp_region_any hP ?_
      obtain ⟨hS1, hk1⟩ := hS.drawn (w.drawn + 1)
      refine runOpsD_sound hC hX (regOps hok.1) (by simpa using hok.2) hS1 h fun S' a' w' μ' F' ks hk hn hS' hkeep => ?_
      refine hK .normal _ X a' w' μ' F' (ks ++ []) (.refl hX) hk (by show L ≤ S'.nx + _; omega) ?_ ((hk1 _).trans (hkeep.mono (fun k hk => Nat.lt_of_lt_of_le hk hL) fun _ h => h))
      have := hS'.next
      rw [← hn] at this
      exact this
  | seq c1 c2 ih1 ih2 =>
    intro hok R X hX S K r μ F w a Q hS hL h hK
    simp only [codeOK, Bool.and_eq_true] at hok
    simp only [evC] at h
    refine wp_seq (ih1 hok.1 X hX S _ r μ F w a _ hS hL h fun e S' X' a' w' μ' F' ks hEx hk hL' hS' hkeep => ?_)
    cases e with
    | normal =>
      obtain ⟨μ1, F1, hS1, hL1, hk1⟩ := cutS_sound (E := E) (L := L) (f := f) (b := c2) hS' hL'
      exact ih2 hok.2 X' hEx.wf _ K r μ1 F1 w' a' Q hS1 hL1 hk fun e2 S2 X2 a2 w2 μ2 F2 ks2 hE2 hk2 hL2 hS2 hkeep2 => hK e2 S2 X2 a2 w2 μ2 F2 _ (hEx.trans hE2) hk2 hL2 hS2 ((hkeep.trans hk1).trans hkeep2)
    | exit id => exact hK _ S' X' a' w' μ' F' ks hEx hk hL' hS' hkeep
    | ret => exact hK _ S' X' a' w' μ' F' ks hEx hk hL' hS' hkeep
  | cond x c1 c2 ih1 ih2 =>
    intro hok R X hX S K r μ F w a Q hS hL h hK
    simp only [codeOK, Bool.and_eq_true] at hok
    simp only [evC] at h
    have hv := opnd_rv hS.slots x
    split at h
    · rename_i b hb
      rw [hb] at hv
      generalize hu : a.eval x = u at hv
      cases hv
      cases b with
      | true => exact wp_cond_true hu (ih1 hok.1 X hX S K r μ F w a Q hS hL h hK)
      | false => exact wp_cond_false hu (ih2 hok.2 X hX S K r μ F w a Q hS hL h hK)
    · rename_i hb
      rw [hb] at hv
      generalize hu : a.eval x = u at hv
      unfold both at h
      split at h
      · rename_i he
        cases hv with
        | bx b =>
          cases b with
          | true => exact wp_cond_true hu (ih1 hok.1 X hX S K r μ F w a Q hS hL h hK)
          | false => exact wp_cond_false hu (ih2 hok.2 X hX S K r μ F w a Q hS hL (he ▸ h) hK)
        | box _ b o arr vs hne => exact absurd rfl hne
      · exact absurd h (by simp)
    · exact absurd h (by simp)
  | block id c ih =>
    intro hok R X hX S K r μ F w a Q hS hL h hK
    simp only [codeOK] at hok
    simp only [evC] at h
    refine wp_block (ih hok X hX S _ r μ F w a _ hS hL h fun e S' X' a' w' μ' F' ks hEx hk hL' hS' hkeep => ?_)
    cases e with
    | normal => exact hK _ S' X' a' w' μ' F' ks hEx hk hL' hS' hkeep
    | exit i =>
      simp only [Ex.to, Exit.inBlock]
      simp only at hk
      split
      · rename_i hi
        rw [if_pos hi] at hk
        exact hK .normal S' X' a' w' μ' F' ks hEx hk hL' hS' hkeep
      · rename_i hi
        rw [if_neg hi] at hk
        exact hK (.exit i) S' X' a' w' μ' F' ks hEx hk hL' hS' hkeep
    | ret => exact hK _ S' X' a' w' μ' F' ks hEx hk hL' hS' hkeep
  | loop c ih =>
    intro hok R X hX S K r μ F w a Q hS hL h hK
    simp only [codeOK] at hok
    simp only [evC] at h
    refine wp_loop_ghost (fun n a1 w1 => ∃ X1 S1 μ1 F1 ks, X.Ext X1 ∧ SR X1 μ1 F1 S1.H w1 N S1.nx (fun _ => False) S1.T a1 ∧ L ≤ S1.nx ∧ Keep (fun k => k < L) ks μ S.H w μ1 S1.H w1 ∧ evLoop (norm L (E.live f (qa c))) (evC E C L f c) n S1 K = some r)
      LF ⟨X, S, μ, F, [], .refl hX, hS, hL, Keep.refl _ _ _ _, h⟩ ?_
    rintro n a1 w1 ⟨X1, S1, μ1, F1, ks1, hE1, hS1, hL1, hk1, h1⟩
    cases n with
    | zero => simp [evLoop] at h1
    | succ n =>
      simp only [evLoop] at h1
      obtain ⟨μ2, F2, hS2, hL2, hk2⟩ := norm_sound (L := L) hS1 (E.live f (qa c))
      refine ih hok X1 hE1.wf _ _ r μ2 F2 w1 a1 _ hS2 hL2 h1 fun e S' X' a' w' μ' F' ks hEx hk hL' hS' hkeep => ?_
      have hall := (hk1.trans hk2).trans hkeep
      have hEa := hE1.trans hEx
      cases e with
      | normal => exact ⟨n, Nat.lt_succ_self n, X', S', μ', F', _, hEa, hS', hL', hall, hk⟩
      | exit id => exact hK _ S' X' a' w' μ' F' _ hEa hk hL' hS' hall
      | ret => exact hK _ S' X' a' w' μ' F' _ hEa hk hL' hS' hall
  | _ => intro hok; simp [codeOK] at hok

end Go.Proofs.Ythgopooldcheeaa.VH
end

section
namespace Go.Proofs.Ythgopooldcheeaa.VH

/- Functions. -/

structure Env.Bodies (E : Env) (P : Program) : Prop where
  body : ∀ f c rs, E.body f = some (c, rs) → ∃ fn, P.funcs[f]? = some fn ∧ fn.body = some c ∧ fn.results.toList = rs ∧ codeOK fn.ntmps c = true ∧ (fn.name == "runtime.NumGoroutine") = false

/-- what a call gives back -/
def Ret (X : Cx) (μ : Nat → Option (Nat × Nat)) (cts : List (List AV)) (w : World) (x : AV) (cts' : List (Option (List AV))) (v : Value) (w' : World) : Prop :=
  ∃ μ' F' ks, Rel X μ' F' (hp cts') w' (fun _ => False) ∧ RV X μ' (hp cts') w' x v ∧ qf1 x = true ∧ qf3 cts' = true ∧ (∀ k, k ∈ qf6 x → k < cts'.length) ∧ cts.length ≤ cts'.length ∧
    Keep (fun k => k < cts.length) ks μ (hp (cts.map some)) w μ' (hp cts') w'

def Inv (P : Program) (f : FuncId) (vs : Array Value) (w : World) (R : Value → World → Prop) : Prop :=
  ((callFunc f vs).run P w = .ok (.enter f vs) w ∧ Calls P f vs w (fun e w' => ∃ v, e = .returned v ∧ R v w')) ∨ ∃ v w', (callFunc f vs).run P w = .ok (.value v) w' ∧ R v w'

structure Args (X : Cx) (μ : Nat → Option (Nat × Nat)) (F : Nat → Nat → Prop) (cts : List (List AV)) (w : World) (args : List AV) (vs : Array Value) : Prop where
  rel : Rel X μ F (hp (cts.map some)) w (fun _ => False)
  len : vs.size = args.length
  rv : ∀ i (h : i < args.length) (h' : i < vs.size), RV X μ (hp (cts.map some)) w args[i] vs[i]
  keys : ∀ k, k ∈ qf5 args → k < cts.length

def OrcOK (P : Program) (C : Oracle) : Prop := ∀ f args cts x cts', C f args cts = some (x, cts') → ∀ (X : Cx) (μ : Nat → Option (Nat × Nat)) (F : Nat → Nat → Prop) (w : World) (vs : Array Value), X.WF → Args X μ F cts w args vs →
  Inv P f vs w (Ret X μ cts w x cts')

theorem HM.run_bind {α β R : Type} (m : HM α) (g : α → HM β) : ∀ (H : Heap) (t : Tr) (K : β → Heap → Tr → Option R), (m.bind g).run H t K = m.run H t fun a H' t' => (g a).run H' t' K := by
  induction m with
  | ret a => intro H t K; rfl
  | fail => intro H t K; rfl
  | look k f ih =>
    intro H t K
    simp only [HM.bind, HM.run]
    cases H k with
    | none => rfl
    | some cs => exact ih cs _ _ _
  | put k c m ih => intro H t K; exact ih _ _ _
  | kill k m ih => intro H t K; exact ih _ _ _

def resVal (tmps : Array Value) : ResultVar → Sem Value
  | .tmp t => pure (tmps.getD t undef)
  | .cell a t => do loadVar t (← asAddr (tmps.getD a undef))

theorem resOf_sound {R : Type} {P : Program} {E : Env} (hE : E.OK P) {X : Cx} (hX : X.WF) {μ : Nat → Option (Nat × Nat)} {F : Nat → Nat → Prop} {H : Heap} {w : World} {T : Nat → AV} {tmps : Array Value} {n : Nat} (hR : Rel X μ F H w (fun _ => False))
    (hT : ∀ t, RV X μ H w (T t) (tmps.getD t undef)) (hk : ∀ t k, k ∈ qf6 (T t) → k < n) : ∀ (rs : List ResultVar) (t : Tr) (K : List AV → Heap → Tr → Option R) (r : R), t.kl = [] → (resOf E T rs).run H t K = some r →
    ∃ (xs : List AV) (vs : List Value) (t' : Tr), K xs H t' = some r ∧ (rs.mapM (resVal tmps)).run P w = .ok vs w ∧ vs.length = xs.length ∧ (∀ i (h : i < xs.length) (h' : i < vs.length), RV X μ H w xs[i] vs[i]) ∧ ∀ k, k ∈ qf5 xs → k < n := by
  intro rs
  induction rs with
  | nil => intro t K r _ h; exact ⟨[], [], t, h, by simp, rfl, fun i h => by simp at h, fun k h => by simp [qf5] at h⟩
  | cons x rs ih =>
    intro t K r ht h
    have fin : ∀ (y : AV) (v : Value) (t1 : Tr), t1.kl = [] → RV X μ H w y v → (∀ k, k ∈ qf6 y → k < n) → (resVal tmps x).run P w = .ok v w → ((resOf E T rs).run H t1 fun xs H' t' => K (y :: xs) H' t') = some r →
        ∃ (xs : List AV) (vs : List Value) (t' : Tr), K xs H t' = some r ∧ ((x :: rs).mapM (resVal tmps)).run P w = .ok vs w ∧ vs.length = xs.length ∧ (∀ i (h : i < xs.length) (h' : i < vs.length), RV X μ H w xs[i] vs[i]) ∧ ∀ k, k ∈ qf5 xs → k < n := by
      intro y v t1 ht1 hv hky hrun h
      obtain ⟨xs, vs, t', h1, h2, h3, h4, h5⟩ := ih t1 _ r ht1 h
      refine ⟨y :: xs, v :: vs, t', h1, ?_, by simp [h3], fun i hi hi' => ?_, fun k hk => ?_⟩
      · simp only [List.mapM_cons, Sem.run_bind, hrun, Result.andThen_ok, h2, Sem.run_pure]
      · cases i with
        | zero => exact hv
        | succ i => exact h4 i (by simpa using hi) (by simpa using hi')
      · simp only [qf5, List.mem_append] at hk
        exact hk.elim (hky k) (h5 k)
    cases x with
    | tmp a =>
      simp only [resOf, HM.run_bind] at h
      exact fin (T a) _ t ht (hT a) (hk a) (by simp [resVal]) h
    | cell a ty =>
      simp only [resOf] at h
      cases hrow : E.row ty with
      | none => simp [hrow, HM.run] at h
      | some row =>
        simp only [hrow, HM.run_bind] at h
        have hrok := hE ty row hrow
        obtain ⟨z, hz, y, t1, h1, h2, h3, h4⟩ := load_sound (U := fun k => k < n) hX hR ht hrok (hT a) (hk a) h
        refine fin y z t1 h2 h3 h4 ?_ h1
        have hp : ∃ b o s, tmps.getD a undef = .pointer (some ⟨b, o, s⟩) := by
          have hv := hT a
          generalize hTa : T a = ta at hv h
          generalize tmps.getD a undef = u at hv
          cases hv with
          | ptr k p off ad => exact ⟨_, _, _, rfl⟩
          | rp => exact ⟨_, _, _, rfl⟩
          | box => exact ⟨_, _, _, rfl⟩
          | bx =>
            simp only [qb1] at h
            obtain ⟨hg, h⟩ := guardB_run' h
            obtain ⟨m, hm⟩ : ∃ m, row.size = m + 1 := ⟨row.size - 1, by have := of_decide_eq_true hg; omega⟩
            rw [hm] at h
            simp [getR, ofOpt, HM.bind, HM.run] at h
          | _ => simp [qb1, HM.run] at h
        obtain ⟨b, o, s, hp⟩ := hp
        simp only [resVal, hp, asAddr, Sem.run_bind, Sem.run_pure, Result.andThen_ok]
        rw [hp] at hz
        simpa [Instr.loadAt, Instr.sureAddr] using hz

def resv : List Value → Value
  | [v] => v
  | vs => .tuple vs.toArray

theorem results_run {P : Program} {fn : Func} {tmps : Array Value} {w : World} {vs : List Value} (h : (fn.results.toList.mapM (resVal tmps)).run P w = .ok vs w) : (results fn tmps).run P w = .ok (resv vs) w := by
  have e : results fn tmps = (do let vs ← fn.results.mapM (resVal tmps); pure (if h : vs.size = 1 then vs[0] else .tuple vs)) := by
    unfold results
    congr 1
  have e2 : (List.toArray <$> List.mapM (resVal tmps) fn.results.toList) = (List.mapM (resVal tmps) fn.results.toList >>= fun x => pure x.toArray) := rfl
  rw [e, Sem.run_bind, Array.mapM_eq_mapM_toList, e2, Sem.run_bind, h]
  simp only [Result.andThen_ok, Sem.run_pure]
  congr 1
  match vs with
  | [] => rfl
  | [v] => rfl
  | v :: u :: vs => simp [resv]

theorem res_rv {X : Cx} {μ : Nat → Option (Nat × Nat)} {H : Heap} {w : World} {xs : List AV} {vs : List Value} (hl : vs.length = xs.length) (h : ∀ i (h : i < xs.length) (h' : i < vs.length), RV X μ H w xs[i] vs[i]) : RV X μ H w (resa xs) (resv vs) := by
  match xs, vs, hl, h with
  | [], [], _, _ => exact .tup [] #[] rfl fun i h => by simp at h
  | [x], [v], _, h => exact h 0 (by simp) (by simp)
  | x :: y :: xs, v :: u :: vs, hl, h =>
    refine .tup _ _ (by simpa using hl) fun i hi hi' => ?_
    simpa using h i hi (by simpa using hi')

mutual
theorem noSnap_ren (ρ : Nat → Nat) : ∀ x, qf1 (qe9 ρ x) = qf1 x
  | .und => by rw [show qe9 ρ .und = .und by simp only [qe9]]
  | .val v => by rw [show qe9 ρ (.val v) = .val v by simp only [qe9]]
  | .sl tg z n cap cs => by rw [show qe9 ρ (.sl tg z n cap cs) = .sl tg z n cap cs by simp only [qe9]]
  | .rp tg cs off => by rw [show qe9 ρ (.rp tg cs off) = .rp tg cs off by simp only [qe9]]
  | .bx cs => by simp only [qe9, qf1]
  | .ref .. => by simp only [qe9, qf1]
  | .ptr .. => by simp only [qe9, qf1]
  | .agg xs => by simp only [qe9, qf1]; exact noSnapL_ren ρ xs
  | .tup xs => by simp only [qe9, qf1]; exact noSnapL_ren ρ xs
  | .fn f xs => by simp only [qe9, qf1]; exact noSnapL_ren ρ xs
theorem noSnapL_ren (ρ : Nat → Nat) : ∀ xs, qf2 (qf ρ xs) = qf2 xs
  | [] => rfl
  | x :: xs => by simp [qf, qf2, noSnap_ren ρ x, noSnapL_ren ρ xs]
end

theorem noSnapO_get : ∀ {l : List (Option (List AV))}, qf3 l = true → ∀ {j : Nat} {cs : List AV}, hp l j = some cs → qf2 cs = true
  | [], _, j, cs, h => by simp [hp] at h
  | c :: l, hl, 0, cs, h => by
    have e : c = some cs := by simpa [hp] using h
    subst e
    simp only [qf3, Bool.and_eq_true] at hl
    exact hl.1
  | c :: l, hl, j + 1, cs, h => by
    have h' : hp l j = some cs := by simpa [hp] using h
    cases c with
    | none => exact noSnapO_get (by simpa [qf3] using hl) h'
    | some c => simp only [qf3, Bool.and_eq_true] at hl; exact noSnapO_get hl.2 h'

theorem wk_rv {X : Cx} {μ : Nat → Option (Nat × Nat)} {H : Heap} {w : World} {wk : Option Nat} {x : AV} {v : Value} (h : RV X μ H w x v) : RV X μ H w (qf0 wk x) v := by
  cases wk with
  | none => exact h
  | some z =>
    simp only [qf0]
    split
    · cases h
      exact .sl _ _ _ _ _ _ (by simp) (.nil _ _ _ _ _ (fun q hq => by injection hq))
    · rename_i k p z' off n cap
      cases hb : (decide (n = 0) && z' == z) with
      | false => exact h
      | true =>
        simp only [Bool.and_eq_true, decide_eq_true_eq] at hb
        obtain ⟨rfl, _⟩ := hb
        cases h with
        | ref _ _ _ _ _ _ A c hn hc hA h => exact .sl _ _ _ _ _ _ (by simp) (.nil _ _ _ _ _ hc)
    · exact h

theorem evFun_sound {P : Program} {E : Env} (hE : E.OK P) (hB : E.Bodies P) (hP : P.follows .mixedOrders = true) (hX : ∀ C, OrcOK P C → ExecSound P E C) (hH : OrcOK P E.hand) : ∀ d, OrcOK P (evFun E d) := by
  intro d
  induction d with
  | zero => intro f args cts x cts' h; simp [evFun] at h
  | succ d ih =>
    intro f args cts x cts' h X μ F w vs hWF hA
    simp only [evFun] at h
    cases hb : E.body f with
    | none => rw [hb] at h; exact hH f args cts x cts' h X μ F w vs hWF hA
    | some crs =>
      obtain ⟨c, rs⟩ := crs
      simp only [hb] at h
      obtain ⟨fn, hfn, hbody, hrs, hok, hname⟩ := hB.body f c rs hb
      left
      refine ⟨by have hn : ¬ fn.name = "runtime.NumGoroutine" := by simpa using hname
                 simp [callFunc, hfn, hn, hbody], ?_⟩
      refine calls_of_wp hfn hbody ?_
      have hget : ∀ t, RV X μ (hp (cts.map some)) w (args.getD t .und) ((vs ++ Array.replicate (fn.ntmps - vs.size) undef).getD t undef) := by
        intro t
        by_cases ht : t < args.length
        · have e1 : args.getD t .und = args[t] := by rw [List.getD_eq_getElem?_getD, List.getElem?_eq_getElem ht]; rfl
          have e2 : (vs ++ Array.replicate (fn.ntmps - vs.size) undef).getD t undef = vs[t]'(by have := hA.len; omega) := by
            rw [Array.getD_eq_getD_getElem?, Array.getElem?_append_left (by have := hA.len; omega), Array.getElem?_eq_getElem (by have := hA.len; omega)]; rfl
          rw [e1, e2]
          exact hA.rv t ht _
        · rw [List.getD_eq_getElem?_getD, List.getElem?_eq_none (by omega)]
          exact .und _
      have hkeys : ∀ t k, k ∈ qf6 (args.getD t .und) → k < cts.length := by
        intro t k hk
        by_cases ht : t < args.length
        · rw [List.getD_eq_getElem?_getD, List.getElem?_eq_getElem ht] at hk
          exact hA.keys k (mem_keysL ht hk)
        · rw [List.getD_eq_getElem?_getD, List.getElem?_eq_none (by omega)] at hk
          simp [qf6] at hk
      refine evC_sound (N := fn.ntmps) (L := cts.length) hE (hX _ ih) hP f c hok X hWF { T := fun t => args.getD t .und, H := hp (cts.map some), nx := cts.length } _ (x, cts') μ F w _ _ ⟨hA.rel, hget, fun t k hk => .inl (hkeys t k hk), fun k hk => ?_, rfl, by show fn.ntmps ≤ (vs ++ Array.replicate (fn.ntmps - vs.size) undef).size; rw [Array.size_append, Array.size_replicate]; omega⟩ (Nat.le_refl _) h ?_
      · cases hh : hp (cts.map some) k with
        | none => exact hh
        | some cs => exact absurd (.inl (by simpa using hp_lt hh)) hk
      · intro e S' X' a' w' μ' F' ks hEx hk hL hS hkeep
        have fin : finish E (E.wk f) cts.length rs S' = some (x, cts') → a'.defers = [] ∧ ∃ v, (results fn a'.tmps).run P w' = .ok v w' ∧ (fun e w' => ∃ v, e = Ending.returned v ∧ Ret X μ cts w x cts' v w') (.returned v) w' := by
          intro hf
          unfold finish at hf
          obtain ⟨xs, us, t', h1, h2, h3, h4, h5⟩ := resOf_sound (n := S'.nx) hE hEx.wf hS.rel hS.slots (fun t k hk => (hS.keys t k hk).resolve_right fun ⟨_, h, _⟩ => h) rs _ _ _ rfl hf
          cases hb : (qf1 (qf0 (E.wk f) (resa xs)) && qf3 ((keep cts.length [qf0 (E.wk f) (resa xs)]).map S'.H)) with
          | false => rw [hb] at h1; simp at h1
          | true =>
            rw [hb] at h1
            simp only [cond_true, Option.some.injEq, Prod.mk.injEq] at h1
            obtain ⟨e1, e2⟩ := h1
            subst e1; subst e2
            rw [← hrs] at h2
            have hv := wk_rv (wk := E.wk f) (res_rv h3 h4)
            simp only [Bool.and_eq_true] at hb
            have hrel := hS.rel.ren (keep_nodup cts.length [qf0 (E.wk f) (resa xs)])
            have hval := sel_keep (L := cts.length) (T := [qf0 (E.wk f) (resa xs)]) hv fun k hk => .inr (by simp [qf5, hk])
            refine ⟨hS.defers, resv us, results_run h2, _, rfl, sel (keep cts.length [qf0 (E.wk f) (resa xs)]) μ', sel (keep cts.length [qf0 (E.wk f) (resa xs)]) F', [] ++ ks, Rel.back hWF hEx hrel (fun k cs hk => noSnapO_get hb.2 hk), RV.back hWF hEx hval (by rw [noSnap_ren]; exact hb.1), ?_, hb.2, ?_, ?_, hkeep.trans keep_keep⟩
            · rw [noSnap_ren]; exact hb.1
            · intro k hk
              rw [List.length_map]
              exact ren_keys (fun k hk => .inr (by simp [qf5, hk])) k hk
            · rw [List.length_map]; exact keep_len _ _

        cases e with
        | normal => exact fin hk
        | exit id => exact absurd hk (by simp)
        | ret => exact fin hk

end Go.Proofs.Ythgopooldcheeaa.VH
end

section
namespace Go.Proofs.Ythgopooldcheeaa.VH

/- Calls. -/

/-- the caller's memory, as its callee knows it -/
def inner (X : Cx) (w : World) (F : Nat → Nat → Prop) (ls : List Nat) : Cx := ⟨w, fun b => b < w.heap.size ∧ ∀ k, k ∈ ls → ¬ F k b, X.Fg⟩

section
variable {X : Cx} {μ : Nat → Option (Nat × Nat)} {F : Nat → Nat → Prop} {H : Heap} {w : World}

theorem inner_fo (hX : X.WF) (hR : Rel X μ F H w (fun _ => False)) {ls : List Nat} (hls : ∀ k, k ∈ ls → ∃ cs, H k = some cs) : ∀ b, X.Fo b → (inner X w F ls).Fo b := by
  intro b hb
  refine ⟨Nat.lt_of_lt_of_le (hX.fo b hb) hR.size, fun k hk hF => ?_⟩
  obtain ⟨cs, hcs⟩ := hls k hk
  exact (hR.out k cs b hcs hF).1 hb

theorem inner_wf (hX : X.WF) (hR : Rel X μ F H w (fun _ => False)) {ls : List Nat} (hls : ∀ k, k ∈ ls → ∃ cs, H k = some cs) : (inner X w F ls).WF :=
  ⟨fun _ h => h.1, fun b h => inner_fo hX hR hls b (hX.fg b h)⟩

theorem rd_fg (hR : Rel X μ F H w (fun _ => False)) (hX : X.WF) {ls : List Nat} (x : AV) (v : Value) (h : RD X.w0 X.Fg x v) : RD (inner X w F ls).w0 (inner X w F ls).Fg x v :=
  h.mono (fun _ h => h) fun b hb => hR.frame b (hX.fg b hb)

theorem rd_fg' (hR : Rel X μ F H w (fun _ => False)) (hX : X.WF) {ls : List Nat} (x : AV) (v : Value) (h : RD (inner X w F ls).w0 (inner X w F ls).Fg x v) : RD X.w0 X.Fg x v :=
  h.mono (fun _ h => h) fun b hb => (hR.frame b (hX.fg b hb)).symm

theorem rd_fo (hR : Rel X μ F H w (fun _ => False)) (hX : X.WF) {ls : List Nat} (hls : ∀ k, k ∈ ls → ∃ cs, H k = some cs) (x : AV) (v : Value) (h : RD X.w0 X.Fo x v) : RD (inner X w F ls).w0 (inner X w F ls).Fo x v :=
  h.mono (inner_fo hX hR hls) fun b hb => hR.frame b hb

/-- the callee's memory at its start -/
theorem inner_rel (hX : X.WF) (hR : Rel X μ F H w (fun _ => False)) {ls : List Nat} (hls : ∀ k, k ∈ ls → ∃ cs, H k = some cs) (hn : ls.Nodup) : Rel (inner X w F ls) (sel ls μ) (sel ls F) (hp (ls.map H)) w (fun _ => False) := by
  have hr := hR.ren hn
  refine ⟨rfl, rfl, rfl, Nat.le_refl _, fun _ _ => rfl, fun k cs hk => ?_, hr.sep, fun k cs b hk hb => ?_, fun _ h => h.elim⟩
  · have := hr.root k cs hk
    cases hm : sel ls μ k with
    | none => rw [hm] at this; exact this
    | some u => rw [hm] at this; exact Cells.ctx (rd_fg hR hX) (rd_fo hR hX hls) this
  · obtain ⟨a1, a2, _⟩ := hr.out k cs b hk hb
    refine ⟨fun hh => ?_, a2, fun h => h⟩
    have hl : k < ls.length := by simpa using hp_lt hk
    exact hh.2 (ls.getD k 0) (by rw [List.getD_eq_getElem?_getD, List.getElem?_eq_getElem hl]; exact List.getElem_mem _) hb

structure Ext (q q' : Pk) : Prop where
  lent : q.lent <+: q'.lent
  snap : ∀ k, k ∈ q.snap → k ∈ q'.snap

theorem Ext.refl (q : Pk) : Ext q q := ⟨List.prefix_refl _, fun _ h => h⟩
theorem Ext.trans {q q' q'' : Pk} (h : Ext q q') (g : Ext q' q'') : Ext q q'' := ⟨h.lent.trans g.lent, fun k hk => g.snap k (h.snap k hk)⟩

structure Fin (H : Heap) (Q : Pk) : Prop where
  dis : ∀ k, k ∈ Q.snap → k ∉ Q.lent
  there : ∀ k, k ∈ Q.lent → ∃ cs, H k = some cs

def Packed (X : Cx) (μ : Nat → Option (Nat × Nat)) (F : Nat → Nat → Prop) (H : Heap) (w : World) (q' : Pk) (y : AV) (v : Value) : Prop :=
  ∀ Q, Ext q' Q → Fin H Q → RV (inner X w F Q.lent) (sel Q.lent μ) (hp (Q.lent.map H)) w y v ∧ ∀ k, k ∈ qf6 y → k < Q.lent.length

def PackOK (X : Cx) (μ : Nat → Option (Nat × Nat)) (F : Nat → Nat → Prop) (H : Heap) (w : World) (x : AV) (v : Value) : Prop :=
  ∀ (lend dp : Bool) (q : Pk) (α R : Type) (g : AV × Pk → HM α) (t : Tr) (K : α → Heap → Tr → Option R) (r : R), ((qe3 lend dp q x).bind g).run H t K = some r →
    ∃ y q' t', (g (y, q')).run H t' K = some r ∧ t'.kl = t.kl ∧ Ext q q' ∧ (∀ k, k ∈ q'.lent → k ∈ q.lent ∨ k ∈ qf6 x) ∧ Packed X μ F H w q' y v

theorem packL_ok {lend dp : Bool} : ∀ (xs : List AV) (vs : Nat → Value), (∀ i (h : i < xs.length), PackOK X μ F H w xs[i] (vs i)) → ∀ (q : Pk) (α R : Type) (g : List AV × Pk → HM α) (t : Tr) (K : α → Heap → Tr → Option R) (r : R), ((qe2 lend dp q xs).bind g).run H t K = some r →
    ∃ ys q' t', (g (ys, q')).run H t' K = some r ∧ t'.kl = t.kl ∧ Ext q q' ∧ (∀ k, k ∈ q'.lent → k ∈ q.lent ∨ k ∈ qf5 xs) ∧ ys.length = xs.length ∧ ∀ i (h : i < ys.length), Packed X μ F H w q' ys[i] (vs i) := by
  intro xs
  induction xs with
  | nil => intro vs _ q α R g t K r h; exact ⟨[], q, t, h, rfl, Ext.refl q, fun k hk => .inl hk, rfl, fun i h => by simp at h⟩
  | cons x xs ih =>
    intro vs hx q α R g t K r h
    simp only [qe2, HM.bind_assoc] at h
    obtain ⟨y, q1, t1, h1, e1, x1, k1, p1⟩ := hx 0 (by simp) lend dp q _ _ _ _ _ _ h
    simp only [HM.bind_assoc] at h1
    obtain ⟨ys, q2, t2, h2, e2, x2, k2, l2, p2⟩ := ih (fun i => vs (i + 1)) (fun i hi => hx (i + 1) (by simpa using hi)) q1 _ _ _ _ _ _ h1
    refine ⟨y :: ys, q2, t2, h2, e2.trans e1, x1.trans x2, fun k hk => ?_, by simp [l2], fun i hi => ?_⟩
    · simp only [qf5, List.mem_append]
      rcases k2 k hk with hk | hk
      · exact (k1 k hk).imp id .inl
      · exact .inr (.inr hk)
    · cases i with
      | zero => exact fun Q hQ => p1 Q (x2.trans hQ)
      | succ i => exact p2 i (by simpa using hi)

theorem idxOf_prefix {l m : List Nat} (h : l <+: m) {k : Nat} (hk : k ∈ l) : m.idxOf k = l.idxOf k := by
  obtain ⟨r, rfl⟩ := h
  rw [List.idxOf_append, if_pos hk]

theorem add_mem (q : Pk) (k : Nat) : k ∈ (q.add k).lent ∧ Ext q (q.add k) ∧ ∀ j, j ∈ (q.add k).lent → j ∈ q.lent ∨ j = k := by
  unfold Pk.add
  cases hb : q.lent.contains k with
  | true => exact ⟨by simpa using hb, Ext.refl q, fun j hj => .inl hj⟩
  | false => exact ⟨by simp, ⟨by simp, fun _ h => h⟩, fun j hj => by simpa using hj⟩

theorem lend_key {Q : Pk} {q : Pk} {k : Nat} (hk : k ∈ q.lent) (hQ : Ext q Q) : q.lent.idxOf k < Q.lent.length ∧ hp (Q.lent.map H) (q.lent.idxOf k) = H k ∧ sel Q.lent μ (q.lent.idxOf k) = μ k := by
  have hk' : k ∈ Q.lent := hQ.lent.subset hk
  rw [← idxOf_prefix hQ.lent hk]
  obtain ⟨h1, h2⟩ := idxOf_getD hk'
  exact ⟨h1, by rw [hp_sel h1, h2], by simp only [sel, h2]⟩

/-- a place that is read by a callee -/
theorem snap_rd (hX : X.WF) (hR : Rel X μ F H w (fun _ => False)) {Q : Pk} (hQ : Fin H Q) {k : Nat} (hk : k ∉ Q.lent) {cs : List AV} (hH : H k = some cs) {T : Nat → Prop} (hT : ∀ x, T x → F k x) : ∀ x, T x → (inner X w F Q.lent).Fo x := by
  intro x hx
  refine ⟨(hR.out k cs x hH (hT x hx)).2.1, fun j hj hF => ?_⟩
  obtain ⟨cs', hcs'⟩ := hQ.there j hj
  exact hR.sep j k cs' cs (fun e => hk (e ▸ hj)) hcs' hH x hF (hT x hx)

theorem pack1_ok (hX : X.WF) (hR : Rel X μ F H w (fun _ => False)) {x : AV} {v : Value} (hx : RV X μ H w x v) : PackOK X μ F H w x v := by
  induction hx with
  | bx b =>
    intro lend dp q α R g t K r h
    simp [qe3, HM.bind, HM.run] at h
  | box =>
    intro lend dp q α R g t K r h
    simp [qe3, HM.bind, HM.run] at h
  | und v =>
    intro lend dp q α R g t K r h
    simp only [qe3] at h
    exact ⟨.und, q, t, h, rfl, Ext.refl q, fun k hk => .inl hk, fun Q _ _ => ⟨.und v, fun k hk => by simp [qf6] at hk⟩⟩
  | val v =>
    intro lend dp q α R g t K r h
    simp only [qe3] at h
    exact ⟨.val v, q, t, h, rfl, Ext.refl q, fun k hk => .inl hk, fun Q _ _ => ⟨.val v, fun k hk => by simp [qf6] at hk⟩⟩
  | sl tg z n cap cs v ht hr =>
    intro lend dp q α R g t K r h
    simp only [qe3] at h
    refine ⟨_, q, t, h, rfl, Ext.refl q, fun k hk => .inl hk, fun Q _ hQ => ⟨?_, fun k hk => by simp [qf6] at hk⟩⟩
    cases tg with
    | own => exact absurd rfl ht
    | fgn => exact .sl _ _ _ _ _ _ (by simp) (rd_fg hR hX _ _ hr)
    | snap => exact .sl _ _ _ _ _ _ (by simp) (rd_fo hR hX hQ.there _ _ hr)
  | rp tg cs off b o arr vs ht hS hb hv hr =>
    intro lend dp q α R g t K r h
    simp only [qe3] at h
    refine ⟨_, q, t, h, rfl, Ext.refl q, fun k hk => .inl hk, fun Q _ hQ => ⟨?_, fun k hk => by simp [qf6] at hk⟩⟩
    cases tg with
    | own => exact absurd rfl ht
    | fgn => exact .rp _ cs off b o arr vs (by simp) hS (hb.agree (hR.frame b (hX.fg b hS))) hv fun j hj => rd_fg hR hX _ _ (hr j hj)
    | snap => exact .rp _ cs off b o arr vs (by simp) (inner_fo hX hR hQ.there b hS) (hb.agree (hR.frame b hS)) hv fun j hj => rd_fo hR hX hQ.there _ _ (hr j hj)
  | ref k p z off n cap A c hn hc hA hh =>
    intro lend dp q α R g t K r h
    simp only [qe3] at h
    cases hb : (qe4 lend dp p) with
    | true =>
      simp only [hb, cond_true] at h
      obtain ⟨m1, m2, m3⟩ := add_mem q k
      refine ⟨_, q.add k, t, h, rfl, m2, fun j hj => (m3 j hj).imp id fun e => by simp [qf6, e], fun Q hE hQ => ?_⟩
      obtain ⟨i1, i2, i3⟩ := lend_key (μ := μ) (H := H) m1 hE
      refine ⟨.ref _ p z off n cap A c hn hc hA fun cs r ds hk hq => ?_, fun j hj => ?_⟩
      · rw [i2] at hk; rw [i3] at hq
        exact hh cs r ds hk hq
      · simp only [qf6, List.mem_singleton] at hj; subst hj; exact i1
    | false =>
      simp only [hb, cond_false, qb2, HM.bind_assoc] at h
      simp only [HM.bind, HM.run] at h
      cases hH : H k with
      | none => simp [hH] at h
      | some cs =>
      simp only [hH] at h
      cases hs : sub p cs with
      | none => simp [hs, HM.bind, HM.run] at h
      | some ds =>
      simp only [hs, HM.bind] at h
      obtain ⟨hg, h⟩ := guardB_run h
      have hg := of_decide_eq_true hg
      refine ⟨_, _, _, h, rfl, ⟨List.prefix_refl _, fun j hj => List.mem_cons_of_mem _ hj⟩, fun j hj => .inl hj, fun Q hE hQ => ⟨?_, fun j hj => by simp [qf6] at hj⟩⟩
      have hkQ : k ∉ Q.lent := hQ.dis k (hE.snap k (by simp))
      obtain ⟨res, T, hq, hat, hT⟩ := look_at hR hH hs
      have hok := hh cs res ds hH hq
      have hnil : n = 0 → RV (inner X w F Q.lent) (sel Q.lent μ) (hp (Q.lent.map H)) w (.sl .snap z n none ((ds.drop off).take (n * z))) (.slice A n c) := by
        intro e; subst e
        simp only [Nat.zero_mul, List.take_zero]
        exact .sl _ _ _ _ _ _ (by simp) (.nil _ _ _ _ _ (by simp))
      cases res with
      | none => exact hnil (by have : c = 0 := hok; omega)
      | some u =>
        obtain ⟨b, o⟩ := u
        rcases hok with h0 | ⟨h1, h2, h3⟩
        · exact hnil (by omega)
        · subst h1
          obtain ⟨arr, vs, Ts, c1, c2, c3, c4, c5, c6, c7, c8⟩ := Cells.range hat off (n * z) hg
          have hFo := snap_rd hX hR hQ hkQ hH hT
          exact .sl _ _ _ _ _ _ (by simp) (.sl _ _ _ _ _ b (o + off) c arr vs (hFo b c2) c1.rblk hn (by simp) (by simp; omega) c4 fun j hj =>
            (c5 j hj).rd (inner_fo hX hR hQ.there) (fun b hb => inner_fo hX hR hQ.there b (hX.fg b hb)) (fun b hb => hR.frame b hb) (fun b hb => hR.frame b (hX.fg b hb)) fun x hx => hFo x (c6 j hj x hx))
  | ptr k p off a hh =>
    intro lend dp q α R g t K r h
    simp only [qe3] at h
    cases hb : (qe4 lend dp p) with
    | true =>
      simp only [hb, cond_true] at h
      obtain ⟨m1, m2, m3⟩ := add_mem q k
      refine ⟨_, q.add k, t, h, rfl, m2, fun j hj => (m3 j hj).imp id fun e => by simp [qf6, e], fun Q hE hQ => ?_⟩
      obtain ⟨i1, i2, i3⟩ := lend_key (μ := μ) (H := H) m1 hE
      refine ⟨.ptr _ p off a fun cs b o ds hk hq => ?_, fun j hj => ?_⟩
      · rw [i2] at hk; rw [i3] at hq
        exact hh cs b o ds hk hq
      · simp only [qf6, List.mem_singleton] at hj; subst hj; exact i1
    | false =>
      simp only [hb, cond_false, qb2, HM.bind_assoc] at h
      simp only [HM.bind, HM.run] at h
      cases hH : H k with
      | none => simp [hH] at h
      | some cs =>
      simp only [hH] at h
      cases hs : sub p cs with
      | none => simp [hs, HM.bind, HM.run] at h
      | some ds =>
      simp only [hs, HM.bind] at h
      obtain ⟨hg, h⟩ := guardB_run h
      refine ⟨_, _, _, h, rfl, ⟨List.prefix_refl _, fun j hj => List.mem_cons_of_mem _ hj⟩, fun j hj => .inl hj, fun Q hE hQ => ⟨?_, fun j hj => by simp [qf6] at hj⟩⟩
      have hkQ : k ∉ Q.lent := hQ.dis k (hE.snap k (by simp))
      obtain ⟨res, T, hq, hat, hT⟩ := look_at hR hH hs
      cases res with
      | none =>
        have : ds = [] := hat
        subst this
        simp at hg
      | some u =>
        obtain ⟨b, o⟩ := u
        have := hh cs b o ds hH hq
        subst this
        obtain ⟨arr, vs, Ts, c1, c2, c3, c4, c5, c6, c7, c8⟩ := hat
        have hFo := snap_rd hX hR hQ hkQ hH hT
        exact .rp _ ds off b o arr vs (by simp) (hFo b c2) c1.rblk c4 fun j hj =>
            (c5 j hj).rd (inner_fo hX hR hQ.there) (fun b hb => inner_fo hX hR hQ.there b (hX.fg b hb)) (fun b hb => hR.frame b hb) (fun b hb => hR.frame b (hX.fg b hb)) fun x hx => hFo x (c6 j hj x hx)
  | agg xs vs hl hf hx ih =>
    intro lend dp q α R g t K r h
    simp only [qe3, HM.bind_assoc] at h
    obtain ⟨ys, q', t', h1, h2, h3, h4, h5, h6⟩ := packL_ok xs (fun i => vs.getD i undef) (fun i hi => by
      have : vs.getD i undef = vs[i]'(by omega) := by rw [Array.getD_eq_getD_getElem?, Array.getElem?_eq_getElem (by omega)]; rfl
      rw [this]; exact ih i hi (by omega)) q _ _ _ _ _ _ h
    refine ⟨.agg ys, q', t', h1, h2, h3, fun k hk => by simpa [qf6] using h4 k hk, fun Q hE hQ => ⟨.agg ys vs (by omega) hf fun i hi hi' => ?_, fun k hk => ?_⟩⟩
    · have := (h6 i hi Q hE hQ).1
      rwa [show vs.getD i undef = vs[i] by rw [Array.getD_eq_getD_getElem?, Array.getElem?_eq_getElem hi']; rfl] at this
    · simp only [qf6] at hk
      obtain ⟨i, hi, hk⟩ := keysL_mem hk
      exact (h6 i hi Q hE hQ).2 k hk
  | tup xs vs hl hx ih =>
    intro lend dp q α R g t K r h
    simp [qe3, HM.bind, HM.run] at h
  | fn f xs vs hl hx ih =>
    intro lend dp q α R g t K r h
    simp only [qe3, HM.bind_assoc] at h
    obtain ⟨ys, q', t', h1, h2, h3, h4, h5, h6⟩ := packL_ok xs (fun i => vs.getD i undef) (fun i hi => by
      have : vs.getD i undef = vs[i]'(by omega) := by rw [Array.getD_eq_getD_getElem?, Array.getElem?_eq_getElem (by omega)]; rfl
      rw [this]; exact ih i hi (by omega)) q _ _ _ _ _ _ h
    refine ⟨.fn f ys, q', t', h1, h2, h3, fun k hk => by simpa [qf6] using h4 k hk, fun Q hE hQ => ⟨.fn f ys vs (by omega) fun i hi hi' => ?_, fun k hk => ?_⟩⟩
    · have := (h6 i hi Q hE hQ).1
      rwa [show vs.getD i undef = vs[i] by rw [Array.getD_eq_getD_getElem?, Array.getElem?_eq_getElem hi']; rfl] at this
    · simp only [qf6] at hk
      obtain ⟨i, hi, hk⟩ := keysL_mem hk
      exact (h6 i hi Q hE hQ).2 k hk

theorem packA_ok (hX : X.WF) (hR : Rel X μ F H w (fun _ => False)) : ∀ (xs : List AV) (vs : Nat → Value), (∀ i (h : i < xs.length), RV X μ H w xs[i] (vs i)) → ∀ (dp : Bool) (bs : List Bool) (q : Pk) (α R : Type) (g : List AV × Pk → HM α) (t : Tr) (K : α → Heap → Tr → Option R) (r : R), ((qe1 dp bs q xs).bind g).run H t K = some r →
    ∃ ys q' t', (g (ys, q')).run H t' K = some r ∧ t'.kl = t.kl ∧ Ext q q' ∧ (∀ k, k ∈ q'.lent → k ∈ q.lent ∨ k ∈ qf5 xs) ∧ ys.length = xs.length ∧ ∀ i (h : i < ys.length), Packed X μ F H w q' ys[i] (vs i) := by
  intro xs
  induction xs with
  | nil => intro vs _ dp bs q α R g t K r h; simp only [qe1] at h; exact ⟨[], q, t, h, rfl, Ext.refl q, fun k hk => .inl hk, rfl, fun i h => by simp at h⟩
  | cons x xs ih =>
    intro vs hx dp bs q α R g t K r h
    simp only [qe1, HM.bind_assoc] at h
    obtain ⟨y, q1, t1, h1, e1, x1, k1, p1⟩ := pack1_ok hX hR (hx 0 (by simp)) _ _ q _ _ _ _ _ _ h
    simp only [HM.bind_assoc] at h1
    obtain ⟨ys, q2, t2, h2, e2, x2, k2, l2, p2⟩ := ih (fun i => vs (i + 1)) (fun i hi => hx (i + 1) (by simpa using hi)) _ _ q1 _ _ _ _ _ _ h1
    refine ⟨y :: ys, q2, t2, h2, e2.trans e1, x1.trans x2, fun k hk => ?_, by simp [l2], fun i hi => ?_⟩
    · simp only [qf5, List.mem_append]
      rcases k2 k hk with hk | hk
      · exact (k1 k hk).imp id .inl
      · exact .inr (.inr hk)
    · cases i with
      | zero => exact fun Q hQ => p1 Q (x2.trans hQ)
      | succ i => exact p2 i (by simpa using hi)

theorem lentOk_spec : ∀ {ls sn : List Nat}, qe5 ls sn = true → ls.Nodup ∧ ∀ k, k ∈ sn → k ∉ ls
  | [], _, _ => ⟨.nil, fun _ _ => by simp⟩
  | k :: r, sn, h => by
    simp only [qe5, Bool.and_eq_true, Bool.not_eq_true', List.contains_eq_mem, decide_eq_false_iff_not] at h
    obtain ⟨⟨h1, h2⟩, h3⟩ := h
    obtain ⟨h4, h5⟩ := lentOk_spec h3
    refine ⟨List.nodup_cons.mpr ⟨h2, h4⟩, fun j hj hm => ?_⟩
    rcases List.mem_cons.mp hm with rfl | hm
    · exact h1 hj
    · exact h5 j hj hm

theorem getLent_run {α R : Type} : ∀ (ls : List Nat) (g : List (List AV) → HM α) (t : Tr) (K : α → Heap → Tr → Option R) (r : R), ((qe6 ls).bind g).run H t K = some r →
    ∃ cts t', (g cts).run H t' K = some r ∧ t'.kl = t.kl ∧ ls.map H = cts.map some := by
  intro ls
  induction ls with
  | nil => intro g t K r h; exact ⟨[], t, h, rfl, rfl⟩
  | cons k ls ih =>
    intro g t K r h
    simp only [qe6, HM.bind, HM.run] at h
    cases hk : H k with
    | none => simp [hk] at h
    | some cs =>
      simp only [hk, HM.bind_assoc] at h
      obtain ⟨cts, t', h1, h2, h3⟩ := ih _ _ _ _ h
      exact ⟨cs :: cts, t', h1, h2, by simp [hk, h3]⟩

theorem upd_same (H : Heap) (k : Nat) (c : Option (List AV)) : upd H k c k = c := by simp [upd]
theorem upd_ne (H : Heap) {k j : Nat} (c : Option (List AV)) (h : j ≠ k) : upd H k c j = H j := by simp [upd, h]

theorem hp_cons_zero (c : Option (List AV)) (cs : List (Option (List AV))) : hp (c :: cs) 0 = c := by simp [hp]
theorem hp_cons_succ (c : Option (List AV)) (cs : List (Option (List AV))) (i : Nat) : hp (c :: cs) (i + 1) = hp cs i := by simp [hp]

theorem putBack_run {α R : Type} : ∀ (ls : List Nat) (cts : List (Option (List AV))) (fr : Nat) (H : Heap) (g : Unit → HM α) (t : Tr) (K : α → Heap → Tr → Option R) (r : R), ls.Nodup → (∀ k, k ∈ ls → ¬ (fr ≤ k ∧ k < fr + (cts.length - ls.length))) → ((qe7 fr ls cts).bind g).run H t K = some r →
    ∃ H1 t', (g ()).run H1 t' K = some r ∧ (∀ j, j ∈ t.kl → j ∈ t'.kl) ∧ (∀ j (h : j < ls.length), H1 ls[j] = hp cts j) ∧ (∀ i, ls.length + i < cts.length → H1 (fr + i) = hp cts (ls.length + i)) ∧
      (∀ k, k ∉ ls → ¬ (fr ≤ k ∧ k < fr + (cts.length - ls.length)) → H1 k = H k) ∧ ∀ j (h : j < ls.length), ((hp cts j).getD []).any qb8 = true → ls[j] ∈ t'.kl := by
  intro ls
  induction ls with
  | nil =>
    intro cts
    induction cts with
    | nil =>
      intro fr H g t K r _ _ h
      exact ⟨H, t, h, fun _ h => h, fun j h => by simp at h, fun i h => by simp at h, fun _ _ _ => rfl, fun j h => by simp at h⟩
    | cons c cts ih =>
      intro fr H g t K r hn hl h
      simp only [qe7, HM.bind, HM.run] at h
      obtain ⟨H1, t', h1, h2, h3, h4, h5, h6⟩ := ih (fr + 1) _ g _ K r hn (fun _ h => by simp at h) h
      refine ⟨H1, t', h1, h2, fun j h => by simp at h, fun i hi => ?_, fun k hk hr => ?_, fun j h => by simp at h⟩
      · cases i with
        | zero =>
          have := h5 fr (by simp) (by omega)
          rw [upd_same] at this
          simpa [hp_cons_zero] using this
        | succ i =>
          have := h4 i (by simp at hi ⊢; omega)
          simp only [List.length_nil, Nat.zero_add] at this ⊢
          rw [hp_cons_succ, ← this]
          congr 1; omega
      · simp only [List.length_nil, List.length_cons, Nat.sub_zero] at hr h5
        rw [h5 k hk (by omega), upd_ne _ _ (by omega)]
  | cons l ls ih =>
    intro cts fr H g t K r hn hl h
    cases cts with
    | nil => simp [qe7, HM.bind, HM.run] at h
    | cons c cts =>
      obtain ⟨hn1, hn2⟩ := List.nodup_cons.mp hn
      have fin : ∀ t0 : Tr, (∀ j, j ∈ t.kl → j ∈ t0.kl) → ((c.getD []).any qb8 = true → l ∈ t0.kl) → ((qe7 fr ls cts).bind g).run (upd H l c) t0 K = some r →
          ∃ H1 t', (g ()).run H1 t' K = some r ∧ (∀ j, j ∈ t.kl → j ∈ t'.kl) ∧ (∀ j (h : j < (l :: ls).length), H1 (l :: ls)[j] = hp (c :: cts) j) ∧ (∀ i, (l :: ls).length + i < (c :: cts).length → H1 (fr + i) = hp (c :: cts) ((l :: ls).length + i)) ∧
      (∀ k, k ∉ (l :: ls) → ¬ (fr ≤ k ∧ k < fr + ((c :: cts).length - (l :: ls).length)) → H1 k = H k) ∧ ∀ j (h : j < (l :: ls).length), ((hp (c :: cts) j).getD []).any qb8 = true → (l :: ls)[j] ∈ t'.kl := by
        intro t0 ht0 hl0 h
        obtain ⟨H1, t', h1, h2, h3, h4, h5, h6⟩ := ih cts fr _ g _ K r hn2 (fun k hk => by have := hl k (List.mem_cons_of_mem _ hk); simp only [List.length_cons] at this; omega) h
        refine ⟨H1, t', h1, fun j hj => h2 j (ht0 j hj), fun j hj => ?_, fun i hi => ?_, fun k hk hr => ?_, fun j hj ho => ?_⟩
        · cases j with
          | zero =>
            have := h5 l hn1 (by have := hl l (by simp); simp only [List.length_cons] at this; omega)
            rw [upd_same] at this
            simpa [hp_cons_zero] using this
          | succ j => simpa [hp_cons_succ] using h3 j (by simpa using hj)
        · have := h4 i (by simp at hi; omega)
          rw [this, show (l :: ls).length + i = (ls.length + i) + 1 by simp; omega, hp_cons_succ]
        · simp only [List.mem_cons, not_or] at hk
          simp only [List.length_cons] at hr
          rw [h5 k hk.2 (by omega), upd_ne _ _ hk.1]
        · cases j with
          | zero => exact h2 l (hl0 (by simpa [hp_cons_zero] using ho))
          | succ j => exact h6 j (by simpa using hj) (by simpa [hp_cons_succ] using ho)
      simp only [qe7, HM.bind, HM.run] at h
      cases hb : (c.getD []).any qb8 with
      | true =>
        rw [hb] at h
        simp only [cond_true, HM.bind, HM.run] at h
        exact fin _ (fun j hj => List.mem_cons_of_mem _ hj) (fun _ => by simp) h
      | false =>
        rw [hb] at h
        simp only [cond_false] at h
        exact fin { rd := t.rd, wr := l :: t.wr, kl := t.kl, nt := t.nt } (fun j hj => hj) (fun e => by rw [hb] at e; exact absurd e (by simp)) h

/-- whose key a key of the caller's is -/
def fromK (ls : List Nat) (fr k : Nat) : Option Nat := if k ∈ ls then some (ls.idxOf k) else if fr ≤ k ∧ k < fr + 8 then some (ls.length + (k - fr)) else none

theorem fromK_back {ls : List Nat} {fr j : Nat} (hn : ls.Nodup) (hl : ∀ k, k ∈ ls → ¬ (fr ≤ k ∧ k < fr + 8)) (hj : j < ls.length + 8) : fromK ls fr (qe8 ls fr j) = some j := by
  unfold fromK qe8
  by_cases h : j < ls.length
  · simp only [List.getElem?_eq_getElem h]
    rw [if_pos (List.getElem_mem h)]
    have h1 : ls.idxOf ls[j] < ls.length := List.idxOf_lt_length_iff.mpr (List.getElem_mem h)
    have h2 : ls[ls.idxOf ls[j]] = ls[j] := List.getElem_idxOf h1
    exact congrArg some ((List.getElem_inj (h₀ := h1) (h₁ := h) hn).mp h2)
  · simp only [List.getElem?_eq_none (show ls.length ≤ j by omega)]
    have h1 : ¬ (fr + (j - ls.length)) ∈ ls := fun hm => by have := hl _ hm; omega
    rw [if_neg h1, if_pos (by omega)]
    congr 1; omega

theorem callOld_sound {P : Program} {E : Env} {C : Oracle} {t0 : Tr} (hC : OrcOK P C) {R : Type} {U : Nat → Prop} {fr : Nat} {K : AV → Heap → Tr → Option R} {r : R} (hX : X.WF) (hR : Rel X μ F H w (fun _ => False)) (hU : ∀ k, U k → ¬ (fr ≤ k ∧ k < fr + 8)) (hfr : ∀ k, fr ≤ k ∧ k < fr + 8 → H k = none) {f : AV} {u : Value} {args : List AV} {vs : List Value} (hf : RV X μ H w f u) (hl : vs.length = args.length) (hv : ∀ i (h : i < args.length) (h' : i < vs.length), RV X μ H w args[i] vs[i]) (hkf : ∀ k, k ∈ qf6 f → U k) (hka : ∀ k, k ∈ qf5 args → U k)
    (h : (qd4 E C f args fr).run H t0 K = some r) : ∃ g caps, u = .func (.func g) #[] caps ∧ Inv P g (vs.toArray ++ caps) w (fun v w' => OP X U fr μ H w K r v w') := by
  unfold qd4 at h
  split at h
  case h_2 => simp [HM.run] at h
  rename_i g caps
  generalize hu : u = uu at hf
  cases hf with
  | fn _ _ cvs hcl hcv =>
  refine ⟨g, cvs, rfl, ?_⟩
  have hall : ∀ i (hi : i < (args ++ caps).length), RV X μ H w (args ++ caps)[i] ((vs.toArray ++ cvs).getD i undef) := by
    intro i hi
    have hsz : i < (vs.toArray ++ cvs).size := by simp at hi ⊢; omega
    rw [Array.getD_eq_getD_getElem?, Array.getElem?_eq_getElem hsz]
    simp only [Option.getD_some]
    by_cases hia : i < args.length
    · have e1 : (args ++ caps)[i] = args[i] := List.getElem_append_left hia
      have e2 : (vs.toArray ++ cvs)[i] = vs[i]'(by omega) := by rw [Array.getElem_append_left (by simp; omega)]; simp
      rw [e1, e2]; exact hv i hia _
    · have e1 : (args ++ caps)[i] = caps[i - args.length]'(by simp at hi; omega) := List.getElem_append_right (by omega)
      have e2 : (vs.toArray ++ cvs)[i] = cvs[i - args.length]'(by simp at hi; omega) := by rw [Array.getElem_append_right (by simp; omega)]; simp [hl]
      rw [e1, e2]; exact hcv _ _ _
  obtain ⟨xs, q, t1, h, e1, _, hkq, hxl, hpk⟩ := packA_ok hX hR (args ++ caps) (fun i => (vs.toArray ++ cvs).getD i undef) hall _ _ _ _ _ _ _ _ _ h
  simp only at h
  obtain ⟨hlo, h⟩ := guardB_run' h
  obtain ⟨hnd, hdis⟩ := lentOk_spec hlo
  obtain ⟨cts, t2, h, e2, hcts⟩ := getLent_run q.lent _ _ _ _ h
  obtain ⟨⟨x, cts'⟩, horc, h⟩ := ofOpt_run h
  simp only at h
  obtain ⟨hlen, h⟩ := guardB_run' h
  simp only [Bool.and_eq_true, decide_eq_true_eq] at hlen
  have hthere : ∀ k, k ∈ q.lent → ∃ cs, H k = some cs := by
    intro k hk
    obtain ⟨i, hi, rfl⟩ := List.mem_iff_getElem.mp hk
    have : (q.lent.map H)[i]'(by simpa using hi) = (cts.map some)[i]'(by rw [← hcts]; simpa using hi) := by simp only [hcts]
    simp only [List.getElem_map] at this
    exact ⟨_, this⟩
  have hctl : cts.length = q.lent.length := by have := congrArg List.length hcts; simpa using this.symm
  have hlentU : ∀ k, k ∈ q.lent → U k := by
    intro k hk
    rcases hkq k hk with hk | hk
    · simp at hk
    · obtain ⟨i, hi, hk⟩ := keysL_mem hk
      by_cases hia : i < args.length
      · rw [List.getElem_append_left hia] at hk
        exact hka k (mem_keysL hia hk)
      · rw [List.getElem_append_right (by omega)] at hk
        exact hkf k (by simp only [qf6]; exact mem_keysL _ hk)
  have hlentlt : ∀ k, k ∈ q.lent → ¬ (fr ≤ k ∧ k < fr + 8) := fun k hk => hU k (hlentU k hk)
  have hfin : Fin H q := ⟨hdis, hthere⟩
  have hrel := inner_rel hX hR hthere hnd
  rw [hcts] at hrel
  have hargs : Args (inner X w F q.lent) (sel q.lent μ) (sel q.lent F) cts w xs (vs.toArray ++ cvs) := by
    refine ⟨hrel, by rw [hxl]; simp; omega, fun i hi hi' => ?_, fun k hk => ?_⟩
    · have := (hpk i hi q (Ext.refl q) hfin).1
      rw [hcts] at this
      rwa [show (vs.toArray ++ cvs).getD i undef = (vs.toArray ++ cvs)[i] by rw [Array.getD_eq_getD_getElem?, Array.getElem?_eq_getElem hi']; rfl] at this
    · obtain ⟨i, hi, hk⟩ := keysL_mem hk
      rw [hctl]
      exact (hpk i hi q (Ext.refl q) hfin).2 k hk
  have hinv := hC g xs cts x cts' horc _ _ _ w (vs.toArray ++ cvs) (inner_wf hX hR hthere) hargs
  have main : ∀ v w1, Ret (inner X w F q.lent) (sel q.lent μ) cts w x cts' v w1 → OP X U fr μ H w K r v w1 := by
    rintro v w1 ⟨μ2, F2, ks, hR2, hx2, hns, hnsO, hkx, hge, hkeep⟩
    obtain ⟨H1, t3, h, _, b1, b2, b3, b4⟩ := putBack_run q.lent cts' fr H _ _ _ _ hnd (fun k hk => by have := hlentlt k hk; omega) h
    simp only [HM.run] at h
    let σ := fromK q.lent fr
    have hσ1 : ∀ k j, σ k = some j → (j < cts'.length → H1 k = hp cts' j) ∧ (k ∈ q.lent ↔ j < q.lent.length) ∧ (j < q.lent.length → q.lent[j]? = some k) ∧ (¬ j < q.lent.length → fr ≤ k ∧ k < fr + 8 ∧ j = q.lent.length + (k - fr)) := by
      intro k j hk
      simp only [σ, fromK] at hk
      split at hk
      · rename_i hm
        injection hk with hk
        have h1 : q.lent.idxOf k < q.lent.length := List.idxOf_lt_length_iff.mpr hm
        have h2 : q.lent[q.lent.idxOf k] = k := List.getElem_idxOf h1
        subst hk
        refine ⟨fun _ => ?_, ⟨fun _ => h1, fun _ => hm⟩, fun _ => by rw [List.getElem?_eq_getElem h1, h2], fun hh => absurd h1 hh⟩
        have := b1 _ h1
        rwa [h2] at this
      · rename_i hm
        split at hk
        · rename_i hr
          injection hk with hk
          refine ⟨fun hj => ?_, ⟨fun hh => absurd hh hm, fun hh => by omega⟩, fun hh => by omega, fun _ => ⟨hr.1, hr.2, hk.symm⟩⟩
          have := b2 (k - fr) (by omega)
          rw [show fr + (k - fr) = k by omega] at this
          rw [this, hk]
        · exact absurd hk (by simp)
    have hσ0 : ∀ k, σ k = none → H1 k = H k ∧ k ∉ q.lent ∧ ¬ (fr ≤ k ∧ k < fr + 8) := by
      intro k hk
      simp only [σ, fromK] at hk
      split at hk
      · exact absurd hk (by simp)
      · rename_i hm
        split at hk
        · exact absurd hk (by simp)
        · rename_i hr
          exact ⟨b3 k hm (by omega), hm, hr⟩
    have hσH : ∀ k j cs, σ k = some j → H1 k = some cs → j < cts'.length ∧ hp cts' j = some cs := by
      intro k j cs hk hcs
      obtain ⟨a1, a2, a3, a4⟩ := hσ1 k j hk
      have hj : j < cts'.length := by
        refine Classical.byContradiction fun hh => ?_
        have h4 := a4 (by omega)
        have hn : k ∉ q.lent := fun hm => by have := a2.1 hm; omega
        have := b3 k hn (by omega)
        rw [this, hfr k ⟨h4.1, h4.2.1⟩] at hcs
        exact absurd hcs (by simp)
      exact ⟨hj, by rw [← a1 hj]; exact hcs⟩
    let μ1 : Nat → Option (Nat × Nat) := fun k => match σ k with | some j => μ2 j | none => μ k
    let F1 : Nat → Nat → Prop := fun k => match σ k with | some j => F2 j | none => F k
    have hFo := inner_fo hX hR hthere
    have hother : ∀ k cs, k ∉ q.lent → H k = some cs → ∀ b, F k b → (inner X w F q.lent).Fo b := by
      intro k cs hk hcs b hb
      refine ⟨(hR.out k cs b hcs hb).2.1, fun j hj hF => ?_⟩
      obtain ⟨cs', hcs'⟩ := hthere j hj
      exact hR.sep j k cs' cs (fun e => hk (e ▸ hj)) hcs' hcs b hF hb
    have hagree : ∀ b, (inner X w F q.lent).Fo b → w1.heap[b]? = w.heap[b]? := fun b hb => hR2.frame b hb
    have hsnap : ∀ j cs, hp cts' j = some cs → qf2 cs = true := by
      have gen : ∀ (l : List (Option (List AV))), qf3 l = true → ∀ j cs, hp l j = some cs → qf2 cs = true := by
        intro l
        induction l with
        | nil => intro _ j cs hh; simp [hp] at hh
        | cons c l ih =>
          intro hl j cs hh
          cases j with
          | zero =>
            rw [hp_cons_zero] at hh
            subst hh
            simp only [qf3, Bool.and_eq_true] at hl
            exact hl.1
          | succ j =>
            rw [hp_cons_succ] at hh
            cases c with
            | none => exact ih (by simpa [qf3] using hl) j cs hh
            | some c => simp only [qf3, Bool.and_eq_true] at hl; exact ih hl.2 j cs hh
      exact gen cts' hnsO
    have hrel1 : Rel X μ1 F1 H1 w1 (fun _ => False) := by
      refine ⟨hR2.os.trans hR.os, hR2.tape.trans hR.tape, hR2.output.trans hR.output, Nat.le_trans hR.size hR2.size, fun b hb => (hagree b (hFo b hb)).trans (hR.frame b hb), fun k cs hk => ?_, fun k k' cs cs' hne hk hk' b hb hb' => ?_, fun k cs b hk hb => ?_, fun _ h => h.elim⟩
      · cases hs : σ k with
        | some j =>
          obtain ⟨hj, hcs⟩ := hσH k j cs hs hk
          have := hR2.root j cs hcs
          simp only [μ1, F1, hs]
          cases hm : μ2 j with
          | none => rw [hm] at this; exact this
          | some u => rw [hm] at this; exact Cells.out (rd_fg' hR hX) this (hsnap j cs hcs)
        | none =>
          obtain ⟨a1, a2, a3⟩ := hσ0 k hs
          rw [a1] at hk
          have := hR.root k cs hk
          simp only [μ1, F1, hs]
          cases hm : μ k with
          | none => rw [hm] at this; exact this
          | some u => rw [hm] at this; exact Cells.agree this fun b hb => hagree b (hother k cs a2 hk b hb)
      · cases hs : σ k with
        | some j =>
          obtain ⟨_, hcs⟩ := hσH k j cs hs hk
          simp only [F1, hs] at hb
          cases hs' : σ k' with
          | some j' =>
            obtain ⟨_, hcs'⟩ := hσH k' j' cs' hs' hk'
            simp only [F1, hs'] at hb'
            refine hR2.sep j j' cs cs' (fun e => hne ?_) hcs hcs' b hb hb'
            subst e
            obtain ⟨_, a2, a3, a4⟩ := hσ1 k j hs
            obtain ⟨_, c2, c3, c4⟩ := hσ1 k' j hs'
            by_cases hj : j < q.lent.length
            · have := (a3 hj).symm.trans (c3 hj); exact Option.some.inj this
            · have h1 := a4 hj; have h2 := c4 hj; omega
          | none =>
            obtain ⟨a1, a2, a3⟩ := hσ0 k' hs'
            rw [a1] at hk'
            simp only [F1, hs'] at hb'
            exact (hR2.out j cs b hcs hb).1 (hother k' cs' a2 hk' b hb')
        | none =>
          obtain ⟨a1, a2, a3⟩ := hσ0 k hs
          rw [a1] at hk
          simp only [F1, hs] at hb
          cases hs' : σ k' with
          | some j' =>
            obtain ⟨_, hcs'⟩ := hσH k' j' cs' hs' hk'
            simp only [F1, hs'] at hb'
            exact (hR2.out j' cs' b hcs' hb').1 (hother k cs a2 hk b hb)
          | none =>
            obtain ⟨c1, c2, c3⟩ := hσ0 k' hs'
            rw [c1] at hk'
            simp only [F1, hs'] at hb'
            exact hR.sep k k' cs cs' hne hk hk' b hb hb'
      · cases hs : σ k with
        | some j =>
          obtain ⟨_, hcs⟩ := hσH k j cs hs hk
          simp only [F1, hs] at hb
          obtain ⟨c1, c2, _⟩ := hR2.out j cs b hcs hb
          exact ⟨fun hh => c1 (hFo b hh), c2, fun h => h⟩
        | none =>
          obtain ⟨a1, a2, a3⟩ := hσ0 k hs
          rw [a1] at hk
          simp only [F1, hs] at hb
          obtain ⟨c1, c2, _⟩ := hR.out k cs b hk hb
          exact ⟨c1, Nat.lt_of_lt_of_le c2 hR2.size, fun h => h⟩
    have hback : ∀ k, k < cts'.length → σ (qe8 q.lent fr k) = some k := fun k hk => fromK_back hnd hlentlt (by omega)
    refine ⟨_, μ1, F1, H1, t3, h, hrel1, ⟨fun k p cs' res ds hu hp' hk hq => ?_, hkeep.um, hkeep.sz⟩, ?_, fun k hk => ?_, fun k hk hr => ?_⟩
    · cases hs : σ k with
      | some j =>
        obtain ⟨a1, a2, a3, a4⟩ := hσ1 k j hs
        have hjl : j < q.lent.length := Classical.byContradiction fun hh => hU k hu ⟨(a4 hh).1, (a4 hh).2.1⟩
        obtain ⟨hj, hcs⟩ := hσH k j cs' hs hk
        simp only [μ1, hs] at hq
        have hp0 : p = [] := by
          rcases hp' with h | h
          · exact h
          · refine Classical.byContradiction fun hne => h ?_
            have hkj : q.lent[j] = k := by have := a3 hjl; rw [List.getElem?_eq_getElem hjl] at this; exact Option.some.inj this
            rw [← hkj]
            refine b4 j hjl ?_
            rw [hcs]
            cases p with
            | nil => exact absurd rfl hne
            | cons i p =>
              cases hm : μ2 j with
              | none => rw [hm] at hq; exact hq.elim
              | some uu =>
                obtain ⟨bb, oo⟩ := uu
                rw [hm] at hq
                obtain ⟨z, n, cap, es, A, c, hi, _⟩ := hq
                simp only [Option.getD_some]
                exact List.any_eq_true.mpr ⟨_, List.mem_of_getElem? hi, rfl⟩
        subst hp0
        obtain ⟨cs, ds0, g1, g2, g3, g4⟩ := hkeep.loc j [] cs' res ds (by rw [hctl]; exact hjl) (.inl rfl) hcs hq
        have hkj : q.lent.getD j 0 = k := by rw [List.getD_eq_getElem?_getD, a3 hjl]; rfl
        rw [← hcts, hp_sel hjl, hkj] at g1
        simp only [sel, hkj] at g2
        exact ⟨cs, ds0, g1, g2, g3, g4⟩
      | none =>
        obtain ⟨a1, a2, a3⟩ := hσ0 k hs
        rw [a1] at hk
        simp only [μ1, hs] at hq
        have hag : ∀ b, F k b → w1.heap[b]? = w.heap[b]? := fun b hb => hagree b (hother k cs' a2 hk b hb)
        have hq' := LocQ.other hR hk hag hq
        refine ⟨cs', ds, hk, hq', rfl, fun b o hr arr' ha => ?_⟩
        subst hr
        exact ⟨arr', ha.back (hag b (LocQ.mem hR hk hq').1), rfl⟩
    · refine (RV.out (rd_fg' hR hX) (fun b arr hb ha => ⟨hb, ha.agree ((hR.frame b (hX.fg b hb)).symm)⟩) hx2 hns).ren fun k hk => ?_
      have hk' := hkx k hk
      have hs := hback k hk'
      exact ⟨(hσ1 _ _ hs).1 hk', by simp only [μ1, hs]⟩
    · have gen : ∀ (ρ : Nat → Nat) (Pr : Nat → Prop) (x : AV), (∀ k, k ∈ qf6 x → Pr (ρ k)) → ∀ k, k ∈ qf6 (qe9 ρ x) → Pr k := by
        intro ρ Pr x
        exact AV.rec (motive_1 := fun x => (∀ k, k ∈ qf6 x → Pr (ρ k)) → ∀ k, k ∈ qf6 (qe9 ρ x) → Pr k)
          (motive_2 := fun xs => (∀ k, k ∈ qf5 xs → Pr (ρ k)) → ∀ k, k ∈ qf5 (qf ρ xs) → Pr k)
          (fun _ k h => by simp [qe9, qf6] at h) (fun _ _ k h => by simp [qe9, qf6] at h) (fun _ _ _ _ _ _ _ k h => by simp [qe9, qf6] at h)
          (fun k0 p z off n' cap hh k h => by simp only [qe9, qf6, List.mem_singleton] at h; subst h; exact hh k0 (by simp [qf6]))
          (fun k0 p off hh k h => by simp only [qe9, qf6, List.mem_singleton] at h; subst h; exact hh k0 (by simp [qf6]))
          (fun _ _ _ _ _ k h => by simp [qe9, qf6] at h)
          (fun xs ih hh k h => by simp only [qe9, qf6] at h; exact ih (fun k hk => hh k (by simpa [qf6] using hk)) k h)
          (fun xs ih hh k h => by simp only [qe9, qf6] at h; exact ih (fun k hk => hh k (by simpa [qf6] using hk)) k h)
          (fun f xs ih hh k h => by simp only [qe9, qf6] at h; exact ih (fun k hk => hh k (by simpa [qf6] using hk)) k h)
          (fun xs ih hh k h => by simp only [qe9, qf6] at h; exact ih (fun k hk => hh k (by simpa [qf6] using hk)) k h)
          (fun _ k h => by simp [qf, qf5] at h)
          (fun x xs h1 h2 hh k h => by
            simp only [qf, qf5, List.mem_append] at h hh
            rcases h with h | h
            · exact h1 (fun k hk => hh k (.inl hk)) k h
            · exact h2 (fun k hk => hh k (.inr hk)) k h) x
      refine gen _ (fun k => U k ∨ (fr ≤ k ∧ k < fr + 8)) x (fun k hk => ?_) k hk
      have hk' := hkx k hk
      unfold qe8
      by_cases hkl : k < q.lent.length
      · simp only [List.getElem?_eq_getElem hkl]
        exact .inl (hlentU _ (List.getElem_mem hkl))
      · simp only [List.getElem?_eq_none (show q.lent.length ≤ k by omega)]
        right; omega
    · have hn : k ∉ q.lent := fun hm => by obtain ⟨cs, hcs⟩ := hthere k hm; rw [hcs] at hk; exact absurd hk (by simp)
      rw [b3 k hn (by omega)]; exact hk
  rcases hinv with ⟨i1, i2⟩ | ⟨v, w', i1, i2⟩
  · exact .inl ⟨i1, Calls.mono i2 fun e w' ⟨v, hv, hr⟩ => ⟨v, hv, main v w' hr⟩⟩
  · exact .inr ⟨v, w', i1, main v w' i2⟩

theorem plainRow_val : ∀ {cs : List AV}, qe0 cs = true → ∀ (i : Nat) (h : i < cs.length), ∃ v, cs[i] = .val v ∧ qc4 v = true
  | .val v :: xs, h, 0, _ => by
    simp only [qe0, Bool.and_eq_true] at h
    exact ⟨v, rfl, h.1⟩
  | x :: xs, h, i + 1, hi => by
    simp only [qe0, Bool.and_eq_true] at h
    exact plainRow_val h.2 i (by simpa using hi)
  | .und :: _, h, 0, _ | .sl .. :: _, h, 0, _ | .ref .. :: _, h, 0, _ | .ptr .. :: _, h, 0, _ | .rp .. :: _, h, 0, _ | .agg _ :: _, h, 0, _ | .tup _ :: _, h, 0, _ | .fn .. :: _, h, 0, _ | .bx _ :: _, h, 0, _ => by simp [qe0] at h

theorem subCall_sound {P : Program} {C : Oracle} {t0 : Tr} (ht0 : t0.kl = []) (hC : OrcOK P C) {R : Type} {U : Nat → Prop} {fr : Nat} {K : AV → Heap → Tr → Option R} {r : R} (hX : X.WF) (hR : Rel X μ F H w (fun _ => False)) {g k : Nat} {p : List Nat} {z off n : Nat} {cap : Option Nat} {v u0 : Value} {cs ds : List AV}
    (hx : RV X μ H w (.ref k p z off n cap) u0) (hk : H k = some cs) (hs : sub p cs = some ds) (hpl : qe0 ds = true) (hne : ds ≠ []) (h : (qe C g k p z off n cap v ds cs).run H t0 K = some r) : Inv P g #[u0, v] w (fun v w' => OP X U fr μ H w K r v w') := by
  unfold qe at h
  obtain ⟨⟨x, cts'⟩, horc, h⟩ := ofOpt_run h
  simp only at h
  split at h
  case h_2 => simp [HM.run] at h
  rename_i _ u ds'
  obtain ⟨hg, h⟩ := guardB_run' h
  simp only [Bool.and_eq_true, decide_eq_true_eq, Bool.not_eq_true'] at hg
  obtain ⟨hlen, hown⟩ := hg
  simp only [HM.run] at h
  have hGE : ∀ b : Nat, (fun _ : Nat => False) b → ¬ (fun _ : Nat => False) b := fun _ h => h.elim
  obtain ⟨b', o', T', n1, n2, n3, n4⟩ := node_upd (G := fun _ => False) (E := fun _ => False) hX (rel_nil hR (by simp)) hGE hk hs hne
  have hT : T' b' := by obtain ⟨_, _, _, _, h, _⟩ := n2; exact h
  have hFb : F k b' := n3 b' hT
  obtain ⟨hbFo, hblt, _⟩ := hR.out k cs b' hk hFb
  let X' : Cx := ⟨w, fun b => b < w.heap.size ∧ b ≠ b', X.Fg⟩
  have hX' : X'.WF := ⟨fun b h => h.1, fun b h => ⟨Nat.lt_of_lt_of_le (hX.fo b (hX.fg b h)) hR.size, fun e => hbFo (by rw [← e]; exact hX.fg b h)⟩⟩
  have hFoX : ∀ b, X.Fo b → X'.Fo b := fun b h => ⟨Nat.lt_of_lt_of_le (hX.fo b h) hR.size, fun e => hbFo (by rw [← e]; exact h)⟩
  have hrdg : ∀ x v, RD X'.w0 X'.Fg x v → RD X.w0 X.Fg x v := fun x v h => h.mono (fun _ h => h) fun b hb => (hR.frame b (hX.fg b hb)).symm
  have hcells : Cells X' w b' o' ds (fun x => x = b') := by
    obtain ⟨arr, vs, Ts, c1, c2, c3, c4, c5, c6, c7, c8⟩ := n2
    refine ⟨arr, vs, fun _ _ => False, c1, rfl, c3, c4, fun j hj => ?_, fun _ _ _ h => h.elim, fun _ _ h => h, fun _ _ _ _ _ _ h => h.elim⟩
    obtain ⟨v, hv, hl⟩ := plainRow_val hpl j hj
    have := c5 j hj
    rw [hv] at this ⊢
    generalize vs j = vj at this
    cases this
    exact .val _ _ hl
  cases hx with
  | ref _ _ _ _ _ _ A c hn hc hA hh =>
  have hok := hh cs _ ds hk n1
  have hargs : Args X' (fun _ => some (b', o')) (fun _ x => x = b') [ds] w [.ref 0 [] z off n cap, .val v] #[.slice A n c, v] := by
    refine ⟨⟨rfl, rfl, rfl, Nat.le_refl _, fun _ _ => rfl, fun i cs' hi => ?_, fun i j cs1 cs2 hij hi hj b hb hb' => ?_, fun i cs' b hi hb => ?_, fun _ h => h.elim⟩, rfl, fun i h h' => ?_, fun j hj => ?_⟩
    · cases i with
      | zero =>
        simp only [List.map_cons, List.map_nil, hp_cons_zero] at hi
        injection hi with hi; subst hi
        exact hcells
      | succ i => simp [hp] at hi
    · cases i with
      | zero => cases j with
        | zero => exact absurd rfl hij
        | succ j => simp [hp] at hj
      | succ i => simp [hp] at hi
    · have : b = b' := hb
      subst this
      exact ⟨fun h => h.2 rfl, hblt, fun h => h⟩
    · match i, h with
      | 0, _ =>
        refine .ref 0 [] z off n cap A c hn hc hA fun cs' r ds0 hk0 hq => ?_
        simp only [List.map_cons, List.map_nil, hp_cons_zero] at hk0
        injection hk0 with hk0; subst hk0
        obtain ⟨e1, e2⟩ := hq
        subst e1; subst e2
        exact hok
      | 1, _ => exact .val v
    · simp [qf5, qf6] at hj
      subst hj; simp
  have hinv := hC g _ [ds] _ _ horc X' _ _ w _ hX' hargs
  have main : ∀ v1 w1, Ret X' (fun _ => some (b', o')) [ds] w (.val u) [some ds'] v1 w1 → OP X U fr μ H w K r v1 w1 := by
    rintro v1 w1 ⟨μ2, F2, ks, hR2, hx2, hns, hnsO, hkx, hge, hkeep⟩
    have hroot := hR2.root 0 ds' (by simp [hp])
    obtain ⟨_, _, hk0, hq0, hl0, hz0⟩ := hkeep.loc 0 [] ds' (μ2 0) ds' (by simp) (.inl rfl) (by simp [hp]) ⟨rfl, rfl⟩
    have hμ : μ2 0 = some (b', o') := hq0.1
    rw [hμ] at hroot
    have hsn : qf2 ds' = true := by simpa [qf3] using hnsO
    have hout := Cells.out hrdg hroot hsn
    have hc' : Cells X w1 b' o' ds' (fun x => x = b') := by
      obtain ⟨arr, vs, Ts, c1, c2, c3, c4, c5, c6, c7, c8⟩ := hout
      refine ⟨arr, vs, fun _ _ => False, c1, rfl, c3, c4, fun j hj => (c5 j hj).bare ?_, fun _ _ _ h => h.elim, fun _ _ h => h, fun _ _ _ _ _ _ h => h.elim⟩
      have := List.any_eq_false.mp hown _ (List.getElem_mem hj)
      simpa using this
    have hsame : ∀ b, b < w.heap.size → ¬ b = b' → w1.heap[b]? = w.heap[b]? := fun b hb hne => hR2.frame b ⟨hb, hne⟩
    have hchg : Chg w w1 (fun x => x = b') := ⟨hR2.os, hR2.tape, hR2.output, hR2.size, hsame, fun b arr' hb ha => by
      by_cases e : b = b'
      · subst e
        exact hz0 _ _ hμ arr' ha
      · exact ⟨arr', ha.back (hsame b hb e), rfl⟩, hkeep.um⟩
    obtain ⟨F', r1, r2⟩ := n4 w1 ds' (fun x => x = b') [] hlen hchg hc' (fun x hx => .inl (by rw [hx]; exact hT)) (.inl fun i z n cap fs hi => by
      have := List.any_eq_false.mp hown _ (List.mem_of_getElem? hi)
      simp [qb8] at this)
    have hv1 : v1 = u := by cases hx2; rfl
    subst hv1
    exact ⟨.val v1, μ, F', _, _, h, r1, by simpa [ht0] using r2 U, .val _, fun j hj => by simp [qf6] at hj, store_sound.keep_fresh' (fun _ h => h) hk⟩
  rcases hinv with ⟨i1, i2⟩ | ⟨v, w', i1, i2⟩
  · exact .inl ⟨i1, Calls.mono i2 fun e w' ⟨v, hv, hr⟩ => ⟨v, hv, main v w' hr⟩⟩
  · exact .inr ⟨v, w', i1, main v w' i2⟩

theorem call_sound0 {P : Program} {E : Env} {C : Oracle} (hC : OrcOK P C) {R : Type} {U : Nat → Prop} {fr : Nat} {K : AV → Heap → Tr → Option R} {r : R} (hX : X.WF) (hR : Rel X μ F H w (fun _ => False)) (hU : ∀ k, U k → ¬ (fr ≤ k ∧ k < fr + 8)) (hfr : ∀ k, fr ≤ k ∧ k < fr + 8 → H k = none) {f : AV} {u : Value} {args : List AV} {vs : List Value} (hf : RV X μ H w f u) (hl : vs.length = args.length) (hv : ∀ i (h : i < args.length) (h' : i < vs.length), RV X μ H w args[i] vs[i]) (hkf : ∀ k, k ∈ qf6 f → U k) (hka : ∀ k, k ∈ qf5 args → U k)
    (h : (qd0 E C f args fr).run H {} K = some r) : ∃ g caps, u = .func (.func g) #[] caps ∧ Inv P g (vs.toArray ++ caps) w (fun v w' => OP X U fr μ H w K r v w') := by
  have old : ∀ t0 : Tr, (qd4 E C f args fr).run H t0 K = some r → ∃ g caps, u = .func (.func g) #[] caps ∧ Inv P g (vs.toArray ++ caps) w (fun v w' => OP X U fr μ H w K r v w') := fun t0 h => callOld_sound hC hX hR hU hfr hf hl hv hkf hka h
  unfold qd0 at h
  cases hb : (qd5 args && qd8 E f) with
  | false => rw [hb] at h; exact old _ h
  | true =>
    rw [hb] at h
    simp only [cond_true] at h
    unfold qd9 at h
    split at h
    · rename_i g k p z off n cap v
      simp only [HM.run] at h
      cases hk : H k with
      | none => simp [hk] at h
      | some cs =>
      simp only [hk] at h
      cases hs : sub p cs with
      | none => simp [hs, HM.run] at h
      | some ds =>
      simp only [hs] at h
      cases hc : (qe0 ds && !ds.isEmpty) with
      | false => rw [hc] at h; exact old _ h
      | true =>
        rw [hc] at h
        simp only [cond_true] at h
        simp only [Bool.and_eq_true, Bool.not_eq_true', List.isEmpty_eq_false_iff] at hc
        cases hf with
        | fn _ _ cvs hcl hcv =>
          have hcv0 : cvs = #[] := Array.eq_empty_of_size_eq_zero (by simpa using hcl)
          subst hcv0
          match vs, hl with
          | [u0, u1], _ =>
            have h0 := hv 0 (by simp) (by simp)
            have h1 := hv 1 (by simp) (by simp)
            simp only [List.getElem_cons_zero, List.getElem_cons_succ] at h0 h1
            have e1 : u1 = v := by cases h1; rfl
            subst e1
            exact ⟨g, #[], rfl, subCall_sound (t0 := { rd := [k] }) rfl hC hX hR h0 hk hs hc.1 hc.2 h⟩
    · exact old _ h

end
end Go.Proofs.Ythgopooldcheeaa.VH
end

section
namespace Go.Proofs.Ythgopooldcheeaa.VH

/- Rows that are built. -/

theorem fold_set (off : Nat) : ∀ (l : List Value) (k : Nat) (arr : Array Value), off + k + l.length ≤ arr.size →
    ((l.zipIdx k).foldl (fun cs (c, j) => cs.setIfInBounds (off + j) c) arr).size = arr.size ∧
    ∀ j, ((l.zipIdx k).foldl (fun cs (c, j) => cs.setIfInBounds (off + j) c) arr)[j]? = if off + k ≤ j ∧ j < off + k + l.length then l[j - (off + k)]? else arr[j]? := by
  intro l
  induction l with
  | nil => intro k arr _; exact ⟨rfl, fun j => by rw [if_neg (by simp)]; rfl⟩
  | cons v l ih =>
    intro k arr h
    simp only [List.length_cons] at h
    simp only [List.zipIdx_cons, List.foldl_cons]
    obtain ⟨h1, h2⟩ := ih (k + 1) (arr.setIfInBounds (off + k) v) (by simp; omega)
    refine ⟨by rw [h1]; simp, fun j => ?_⟩
    rw [h2]
    simp only [List.length_cons]
    by_cases c1 : off + (k + 1) ≤ j ∧ j < off + (k + 1) + l.length
    · rw [if_pos c1, if_pos (by omega)]
      have : j - (off + k) = (j - (off + (k + 1))) + 1 := by omega
      rw [this, List.getElem?_cons_succ]
    · rw [if_neg c1]
      by_cases c2 : j = off + k
      · subst c2
        rw [Array.getElem?_setIfInBounds_self_of_lt (by omega), if_pos (by omega)]
        simp
      · rw [Array.getElem?_setIfInBounds_ne (by omega), if_neg (by omega)]

theorem fill_cons {place : Nat → Option (Nat × Nat)} {arr : Array Value} {i off : Nat} {v : Value} {rest : List (Nat × Value)} (hp : place i = some (off, v.cells.size)) (hl : off + v.cells.size ≤ arr.size) :
    ∃ arr', Instr.fill place arr ((i, v) :: rest) = Instr.fill place arr' rest ∧ arr'.size = arr.size ∧ ∀ j, arr'[j]? = if off ≤ j ∧ j < off + v.cells.size then v.cells[j - off]? else arr[j]? := by
  obtain ⟨h1, h2⟩ := fold_set off v.cells.toList 0 arr (by simpa using hl)
  refine ⟨(v.cells.toList.zipIdx 0).foldl (fun cs (c, j) => cs.setIfInBounds (off + j) c) arr, ?_, h1, fun j => by simpa using h2 j⟩
  simp only [Instr.fill, hp]
  rw [if_neg (by simp; omega)]
  congr 1
  rw [← Array.foldl_toList, Array.toList_zipIdx]

/-- parts in order, one behind the other -/
theorem fill_ord (z : Nat) : ∀ (ps : List (Nat × Value)) (k : Nat) (arr : Array Value), qa5 k (ps.map (·.1)) = true → (∀ p ∈ ps, p.2.cells.size = z) → (k + ps.length) * z ≤ arr.size →
    ∃ arr', Instr.fill (fun i => some (i * z, z)) arr ps = some arr' ∧ arr'.size = arr.size ∧
      ∀ j, arr'[j]? = if k * z ≤ j ∧ j < (k + ps.length) * z then (ps.flatMap fun p => p.2.cells.toList)[j - k * z]? else arr[j]? := by
  intro ps
  induction ps with
  | nil => intro k arr _ _ _; exact ⟨arr, rfl, rfl, fun j => by rw [if_neg (by simp)]⟩
  | cons p ps ih =>
    obtain ⟨i, v⟩ := p
    intro k arr ho hz hl
    simp only [List.map_cons, qa5, Bool.and_eq_true, beq_iff_eq] at ho
    obtain ⟨rfl, ho⟩ := ho
    have hv : v.cells.size = z := hz (i, v) (by simp)
    simp only [List.length_cons] at hl
    have hm : (i + 1) * z = i * z + z := by rw [Nat.add_mul, Nat.one_mul]
    have hm2 : (i + (ps.length + 1)) * z = i * z + z + ps.length * z := by rw [Nat.add_mul, Nat.add_mul]; omega
    have hm3 : (i + 1 + ps.length) * z = i * z + z + ps.length * z := by rw [Nat.add_mul, Nat.add_mul]; omega
    obtain ⟨arr1, e1, e2, e3⟩ := fill_cons (place := fun i => some (i * z, z)) (rest := ps) (arr := arr) (i := i) (off := i * z) (v := v) (by rw [hv]) (by rw [hv]; omega)
    obtain ⟨arr2, f1, f2, f3⟩ := ih (i + 1) arr1 ho (fun p hp => hz p (List.mem_cons_of_mem _ hp)) (by rw [e2]; omega)
    refine ⟨arr2, e1.trans f1, f2.trans e2, fun j => ?_⟩
    rw [f3, e3]
    simp only [List.length_cons, List.flatMap_cons, hv]
    rw [hm, hm2, hm3]
    have hvl : v.cells.toList.length = z := by simpa using hv
    by_cases c1 : i * z + z ≤ j ∧ j < i * z + z + ps.length * z
    · rw [if_pos c1, if_pos (by omega), List.getElem?_append_right (by omega)]
      congr 1; omega
    · rw [if_neg c1]
      by_cases c2 : i * z ≤ j ∧ j < i * z + z
      · rw [if_pos c2, if_pos (by omega), List.getElem?_append_left (by omega)]
        simp
      · rw [if_neg c2, if_neg (by omega)]

theorem zeros_len (r : Row) (n : Nat) : (zeros r n).length = n * r.zero.length := by
  simp [zeros]

theorem zeros_get (r : Row) (n : Nat) {j : Nat} (h : j < n * r.zero.length) : (zeros r n)[j]? = (r.zero[j % r.zero.length]?).map .val := by
  induction n generalizing j with
  | zero => simp at h
  | succ n ih =>
    have hz : 0 < r.zero.length := by
      rcases Nat.eq_zero_or_pos r.zero.length with e | e
      · rw [e] at h; simp at h
      · exact e
    have e : zeros r (n + 1) = r.zero.map .val ++ zeros r n := by simp [zeros, List.replicate_succ]
    rw [e]
    by_cases c : j < r.zero.length
    · rw [List.getElem?_append_left (by simpa using c), Nat.mod_eq_of_lt c, List.getElem?_map]
    · rw [List.getElem?_append_right (by simpa using c), List.length_map, ih (by have hm : (n + 1) * r.zero.length = n * r.zero.length + r.zero.length := Nat.succ_mul _ _; omega)]
      congr 2
      exact (Nat.mod_eq_sub_mod (by omega)).symm

end Go.Proofs.Ythgopooldcheeaa.VH
end

section
namespace Go.Proofs.Ythgopooldcheeaa.VH

section
variable {R : Type} {X : Cx} {U : Nat → Prop} {fr : Nat} {μ : Nat → Option (Nat × Nat)} {F : Nat → Nat → Prop} {H : Heap} {w : World} {K : AV → Heap → Tr → Option R} {r : R} {t : Tr} {P : Program} {E : Env}

def zArr (zero : Array Value) (n : Nat) : Array Value := (Array.range n).map fun i => zero[i % zero.size]!

theorem zArr_get {zero : Array Value} {row : Row} {n : Nat} (hz : zero.toList = row.zero) {j : Nat} (h : j < n * row.zero.length) : (zArr zero (n * row.zero.length))[j]? = row.zero[j % row.zero.length]? := by
  have hl : zero.size = row.zero.length := by rw [← hz]; simp
  have hp : 0 < row.zero.length := by
    rcases Nat.eq_zero_or_pos row.zero.length with e | e
    · rw [e] at h; simp at h
    · exact e
  have hm : j % row.zero.length < row.zero.length := Nat.mod_lt _ hp
  simp only [zArr, Array.getElem?_map, Array.getElem?_range, h, if_true, Option.map_some, hl]
  have : zero[j % row.zero.length]! = zero[j % row.zero.length]'(by omega) := by simp [getElem!_pos, show j % row.zero.length < zero.size by omega]
  rw [this, List.getElem?_eq_getElem hm]
  simp only [← hz, Array.getElem_toList]

theorem zArr_size (zero : Array Value) (n : Nat) : (zArr zero n).size = n := by simp [zArr]

theorem zeros_ow {row : Row} (hl : ∀ v ∈ row.zero, qc4 v = true) {n j : Nat} (h : j < (zeros row n).length) {T : Nat → Prop} : ∃ v, row.zero[j % row.zero.length]? = some v ∧ OW X w (zeros row n)[j] v T := by
  have h' : j < n * row.zero.length := by rwa [zeros_len] at h
  have hp : 0 < row.zero.length := by
    rcases Nat.eq_zero_or_pos row.zero.length with e | e
    · rw [e] at h'; simp at h'
    · exact e
  have hm : j % row.zero.length < row.zero.length := Nat.mod_lt _ hp
  have hg := zeros_get row n h'
  rw [List.getElem?_eq_getElem h, List.getElem?_eq_getElem hm, Option.map_some] at hg
  refine ⟨row.zero[j % row.zero.length], List.getElem?_eq_getElem hm, ?_⟩
  rw [Option.some.inj hg]
  exact .val _ _ (hl _ (List.getElem_mem _))

theorem makeSlice_sound (hX : X.WF) (hR : Rel X μ F H w (fun _ => False)) (ht : t.kl = []) {ty e : TypeId} {re : Row} (hty : P.underlying ty = some (.slice e)) (hre : RowOK P e re) (hf : H fr = none) (hU : ∀ k, U k → k ≠ fr) {n : Int} {k k' : IntKind} (hn : 0 ≤ n) (hm : n ≤ LIM)
    (h : (HM.put fr (some (zeros re n.toNat)) (HM.ret (AV.ref fr [] re.size 0 n.toNat (some n.toNat)))).run H t K = some r) : ∃ z w', (Instr.makeSlice ty (.int k n) (.int k' n)).run P w = .ok z w' ∧ OP X U fr μ H w K r z w' := by
  obtain ⟨i, z, i1, i2, i3, i4, i5⟩ := hre.info
  have hb := hre.bytes
  have hw : IntKind.i64.wrap n = n := by
    have hlim : LIM = 549755813888 := by decide
    rw [hlim] at hm
    rw [IntKind.wrap_i64]; omega
  have hzl : re.zero.length = re.size := hre.zl
  have hbn : (re.bytes : Int) * n ≤ 2 ^ 48 := by
    unfold LIM at hm
    have h1 : (re.bytes : Int) ≤ 256 := by omega
    have h2 : n ≤ 2 ^ 40 := by
      have h3 : n ≤ 2 ^ 39 := by simpa using hm
      omega
    calc (re.bytes : Int) * n ≤ 256 * n := Int.mul_le_mul_of_nonneg_right h1 hn
      _ ≤ 256 * 2 ^ 40 := Int.mul_le_mul_of_nonneg_left h2 (by omega)
      _ = 2 ^ 48 := by decide
  have key : ∀ (zero : Array Value), (n.toNat * re.size = 0 ∨ zero = z.cells) → ∃ w', (Go.newRow e (zArr zero (n.toNat * re.size)) : Sem Addr).run P w = .ok ⟨w.heap.size, 0, none⟩ w' ∧ OP X U fr μ H w K r (.slice (some ⟨w.heap.size, 0, none⟩) n.toNat n.toNat) w' := by
    intro zero hz0
    simp only [HM.run] at h
    obtain ⟨F', h1, h2⟩ := new_rel (e := e) (arr := zArr zero (n.toNat * re.size)) (Ts := fun _ _ => False) (ys := zeros re n.toNat) (U := U) hX (rel_nil hR (by simp)) (fun U => Keep.refl U μ H w) hf hU (by rw [zArr_size, zeros_len, hzl]; exact Nat.le_refl _) (fun j hj => by
      obtain ⟨v, hv, ho⟩ := zeros_ow (X := X) (w := w) (T := fun _ => False) hre.zleaf hj
      have hj' : j < n.toNat * re.zero.length := by rwa [zeros_len] at hj
      have hze : zero = z.cells := hz0.resolve_left (by intro e; rw [hzl, e] at hj'; omega)
      have hg := zArr_get (zero := zero) (row := re) (by rw [hze]; exact i5) hj'
      rw [hv, hzl] at hg
      obtain ⟨hh, he⟩ := Array.getElem?_eq_some_iff.mp hg
      rw [he]; exact ho) (by simp) (0, 0) (by simp) (fun i h1 h2 => by rw [zeros_len, hzl] at h1; rw [zArr_size] at h2; omega)
    refine ⟨w.alloc (.cells (zArr zero (n.toNat * re.size)) e), by simp [newRow], .ref fr [] re.size 0 n.toNat (some n.toNat), _, F', _, _, h, h1, by simpa [ht] using h2, ?_, ?_, ?_⟩
    · refine rv_new_ref (arr := zArr zero (n.toNat * re.size)) (cs := zeros re n.toNat) (upd_same' H fr _) ⟨e, (0, 0), by show (w.heap.push _)[w.heap.size]? = _; simp⟩ (Nat.le_refl _) (by simp) (by simp) (by rw [zArr_size]; exact Nat.le_refl _) (fun _ => unm_alloc)
    · intro k hk; simp [qf6] at hk; right; omega
    · exact keep_fresh fun _ h => h
  have hn' : ¬ n < 0 := by omega
  have c1 : ¬ (281474976710656 < (re.bytes : Int) * n) := by omega
  by_cases h0 : n.toNat * re.size = 0
  · obtain ⟨w', k1, k2⟩ := key #[] (.inl h0)
    refine ⟨_, w', ?_, k2⟩
    simp [zArr, h0] at k1
    simp [Instr.makeSlice, underlying, hty, asInt, asIntOf, typeInfo, i1, i3, hw, hn', c1, sizeOf_run P w hre, h0, k1]
  · obtain ⟨w', k1, k2⟩ := key z.cells (.inr rfl)
    refine ⟨_, w', ?_, k2⟩
    simp only [zArr] at k1
    have hz : (zeroValue e).run P w = .ok z w := by simp [zeroValue, typeInfo, i1, i4]
    simp [Instr.makeSlice, underlying, hty, asInt, asIntOf, typeInfo, i1, i3, hw, hn', c1, sizeOf_run P w hre, h0, hz, k1]
where
  upd_same' (H : Heap) (k : Nat) (c : Option (List AV)) : upd H k c k = c := by simp [upd]

end
end Go.Proofs.Ythgopooldcheeaa.VH
end

section
namespace Go.Proofs.Ythgopooldcheeaa.VH

section
variable {R : Type} {X : Cx} {U : Nat → Prop} {fr : Nat} {μ : Nat → Option (Nat × Nat)} {F : Nat → Nat → Prop} {H : Heap} {w : World} {K : AV → Heap → Tr → Option R} {r : R} {t : Tr} {P : Program} {E : Env}

/-- parts of a row: a list of values and what they stand for -/
theorem parts_cells {z : Nat} : ∀ {ps : List (Nat × AV)} {qs : List (Nat × Value)}, qs.length = ps.length → (∀ i (h : i < ps.length) (h' : i < qs.length), qs[i].2.cells.size = (cellsOf ps[i].2).length ∧ ∀ j (h1 : j < (cellsOf ps[i].2).length) (h2 : j < qs[i].2.cells.size), RV X μ H w (cellsOf ps[i].2)[j] qs[i].2.cells[j]) →
    (∀ p ∈ ps, (cellsOf p.2).length = z) → (ps.flatMap fun p => cellsOf p.2).length = ps.length * z ∧ ∀ j (h : j < (ps.flatMap fun p => cellsOf p.2).length), ∃ v, (qs.flatMap fun q => q.2.cells.toList)[j]? = some v ∧ RV X μ H w (ps.flatMap fun p => cellsOf p.2)[j] v := by
  intro ps
  induction ps with
  | nil => intro qs _ _ _; exact ⟨by simp, fun j h => by simp at h⟩
  | cons p ps ih =>
    intro qs hl hc hz
    cases qs with
    | nil => simp at hl
    | cons q qs =>
      obtain ⟨c1, c2⟩ := hc 0 (by simp) (by simp)
      simp only [List.getElem_cons_zero] at c1 c2
      obtain ⟨i1, i2⟩ := ih (qs := qs) (by simpa using hl) (fun i h h' => hc (i + 1) (by simpa using h) (by simpa using h')) (fun p hp => hz p (List.mem_cons_of_mem _ hp))
      have hp := hz p (List.mem_cons_self ..)
      refine ⟨by simp only [List.flatMap_cons, List.length_append, i1, hp, List.length_cons]; rw [Nat.add_mul, Nat.one_mul]; omega, fun j h => ?_⟩
      simp only [List.flatMap_cons]
      by_cases c : j < (cellsOf p.2).length
      · refine ⟨q.2.cells[j]'(by omega), ?_, ?_⟩
        · rw [List.getElem?_append_left (by simpa [c1] using c)]
          simp [show j < q.2.cells.size by omega]
        · rw [List.getElem_append_left c]; exact c2 j c (by omega)
      · have hlt : j - (cellsOf p.2).length < (ps.flatMap fun p => cellsOf p.2).length := by
          simp only [List.flatMap_cons, List.length_append] at h; omega
        obtain ⟨v, v1, v2⟩ := i2 (j - (cellsOf p.2).length) hlt
        refine ⟨v, ?_, ?_⟩
        · rw [List.getElem?_append_right (by simp [c1]; omega), ← v1]
          congr 1
          simp [c1]
        · rw [List.getElem_append_right (by omega)]; exact v2

/-- a relation of cells for what is built and not yet laid -/
theorem fillP_sound {place : Nat → Option (Nat × Nat)} {place' : Nat → Option (Nat × Nat)} (hpl : ∀ i x, place i = some x → place' i = some x) : ∀ {ps : List (Nat × AV)} {qs : List (Nat × Value)} {cs cs' : List AV} {arr : Array Value}, qs.map (·.1) = ps.map (·.1) →
    arr.size = cs.length → (∀ i (h : i < cs.length) (h' : i < arr.size), RV X μ H w cs[i] arr[i] ∧ qc4 arr[i] = true) → (∀ q ∈ qs, ∀ v ∈ q.2.cells, qc4 v = true) →
    (∀ i (h : i < ps.length) (h' : i < qs.length), qs[i].2.cells.size = (cellsOf ps[i].2).length ∧ ∀ j (h1 : j < (cellsOf ps[i].2).length) (h2 : j < qs[i].2.cells.size), RV X μ H w (cellsOf ps[i].2)[j] qs[i].2.cells[j]) →
    qa2 place cs (ps.map fun (i, x) => (i, cellsOf x)) = some cs' → ∃ arr', Instr.fill place' arr qs = some arr' ∧ arr'.size = cs'.length ∧ ∀ i (h : i < cs'.length) (h' : i < arr'.size), RV X μ H w cs'[i] arr'[i] ∧ qc4 arr'[i] = true := by
  intro ps
  induction ps with
  | nil =>
    intro qs cs cs' arr hi hs hr _ _ h
    have : qs = [] := by simpa using hi
    subst this
    simp only [List.map_nil, qa2, Option.some.injEq] at h
    subst h
    exact ⟨arr, rfl, hs, hr⟩
  | cons p ps ih =>
    intro qs cs cs' arr hi hs hr hl hc h
    cases qs with
    | nil => simp at hi
    | cons q qs =>
      obtain ⟨i, x⟩ := p
      obtain ⟨i', v⟩ := q
      simp only [List.map_cons, List.cons.injEq] at hi
      obtain ⟨rfl, hi⟩ := hi
      simp only [List.map_cons, qa2] at h
      split at h
      · rename_i off size hp
        split at h
        · rename_i hg
          obtain ⟨c1, c2⟩ := hc 0 (by simp) (by simp)
          simp only [List.getElem_cons_zero] at c1 c2
          obtain ⟨arr1, e1, e2, e3⟩ := fill_cons (place := place') (rest := qs) (arr := arr) (i := i') (off := off) (v := v) (by rw [hpl _ _ hp, c1, hg.1]) (by rw [c1]; omega)
          have hkey : ∀ j (hj : j < (setAt cs off (cellsOf x)).length) (hj' : j < arr1.size), RV X μ H w (setAt cs off (cellsOf x))[j] arr1[j] ∧ qc4 arr1[j] = true := by
            intro j hj hj'
            have hg1 := setAt_get (cs := cs) (off := off) (j := j) (ys := cellsOf x) (by have h1 := hg.1; have h2 := hg.2; omega)
            have hg2 := e3 j
            rw [List.getElem?_eq_getElem hj] at hg1
            rw [Array.getElem?_eq_getElem hj'] at hg2
            rw [setAt_len] at hj
            by_cases c : off ≤ j ∧ j < off + (cellsOf x).length
            · rw [if_pos c, List.getElem?_eq_getElem (by omega)] at hg1
              rw [if_pos (by omega), Array.getElem?_eq_getElem (by omega)] at hg2
              rw [Option.some.inj hg1, Option.some.inj hg2]
              exact ⟨c2 (j - off) (by omega) (by omega), hl (i', v) (by simp) _ (Array.getElem_mem _)⟩
            · rw [if_neg c, List.getElem?_eq_getElem hj] at hg1
              rw [if_neg (by omega), Array.getElem?_eq_getElem (by omega)] at hg2
              rw [Option.some.inj hg1, Option.some.inj hg2]
              exact hr j hj (by omega)
          obtain ⟨arr', f1, f2, f3⟩ := ih (qs := qs) (arr := arr1) hi (by rw [e2, setAt_len]; exact hs) hkey (fun q hq => hl q (List.mem_cons_of_mem _ hq)) (fun i h h' => hc (i + 1) (by simpa using h) (by simpa using h')) h
          exact ⟨arr', e1.trans f1, f2, f3⟩
        · exact absurd h (by simp)
      · exact absurd h (by simp)

theorem buildSlice_sound (hX : X.WF) (hR : Rel X μ F H w (fun _ => False)) (ht : t.kl = []) {ty e : TypeId} {re : Row} (hty : P.underlying ty = some (.slice e)) (hre : RowOK P e re) (hf : H fr = none) (hU : ∀ k, U k → k ≠ fr) {n : Nat} {ps : List (Nat × AV)} {qs : List (Nat × Value)}
    (hidx : qs.map (·.1) = ps.map (·.1)) (hc : ∀ i (h : i < ps.length) (h' : i < qs.length), qs[i].2.cells.size = (cellsOf ps[i].2).length ∧ ∀ j (h1 : j < (cellsOf ps[i].2).length) (h2 : j < qs[i].2.cells.size), RV X μ H w (cellsOf ps[i].2)[j] qs[i].2.cells[j])
    (hn : n * re.size ≤ 16777216) (hpn : ps.length ≤ n) (hord : qa5 0 (ps.map (·.1)) = true) (hall : ∀ p ∈ ps, (cellsOf p.2).length = re.size)
    (h : ((qc0 (ps.flatMap fun p => cellsOf p.2)).bind fun ys => HM.put fr (some (ys ++ zeros re (n - ps.length))) (HM.ret (AV.ref fr [] re.size 0 n (some n)))).run H t K = some r) : ∃ z w', (Instr.buildSlice ty n qs.toArray).run P w = .ok z w' ∧ OP X U fr μ H w K r z w' := by
  have hlen : qs.length = ps.length := by have := congrArg List.length hidx; simpa using this
  obtain ⟨p1, p2⟩ := parts_cells hlen hc hall
  obtain ⟨i, z, i1, i2, i3, i4, i5⟩ := hre.info
  have hzl : re.zero.length = re.size := hre.zl
  obtain ⟨ys, H', t', F', Ts, h, ht', hyl, hO, hd, _, hR', hK, hN⟩ := absorbL_sound (vs := fun j => ((qs.flatMap fun q => q.2.cells.toList)[j]?).getD undef) hR (fun j hj => by
    obtain ⟨v, v1, v2⟩ := p2 j hj
    rw [v1]; exact v2) h
  simp only [HM.run] at h
  have hyl' : ys.length = ps.length * re.size := by rw [hyl, p1]
  have hmul : ps.length * re.size + (n - ps.length) * re.size = n * re.size := by rw [← Nat.add_mul]; congr 1; omega
  have hqz : ∀ q ∈ qs, q.2.cells.size = re.size := by
    intro q hq
    obtain ⟨j, hj, rfl⟩ := List.mem_iff_getElem.mp hq
    rw [(hc j (by omega) hj).1]
    exact hall _ (List.getElem_mem _)
  have key : ∀ (zero : Array Value), (n * re.size = 0 ∨ zero = z.cells) → ∃ arr w', Instr.fill (fun i => some (i * re.size, re.size)) (zArr zero (n * re.size)) qs = some arr ∧ (Go.newRow e arr : Sem Addr).run P w = .ok ⟨w.heap.size, 0, none⟩ w' ∧ OP X U fr μ H w K r (.slice (some ⟨w.heap.size, 0, none⟩) n n) w' := by
    intro zero hz0
    obtain ⟨arr, f1, f2, f3⟩ := fill_ord re.size qs 0 (zArr zero (n * re.size)) (by rw [hidx]; exact hord) hqz (by rw [zArr_size, Nat.zero_add, hlen]; exact Nat.mul_le_mul_right _ hpn)
    rw [zArr_size] at f2
    let Ts' : Nat → Nat → Prop := fun j => if j < ys.length then Ts j else fun _ => False
    have hlz : (ys ++ zeros re (n - ps.length)).length = n * re.size := by rw [List.length_append, zeros_len, hzl, hyl', hmul]
    have hG : (fun b => False ∨ ∃ i, i < ys.length ∧ Ts i b) = fun b => False ∨ ∃ i, i < (ys ++ zeros re (n - ps.length)).length ∧ Ts' i b := by
      funext b
      apply propext
      constructor
      · rintro (h | ⟨i, hi, hh⟩)
        · exact h.elim
        · exact .inr ⟨i, by rw [List.length_append]; omega, by simp only [Ts', hi, if_true]; exact hh⟩
      · rintro (h | ⟨i, hi, hh⟩)
        · exact h.elim
        · by_cases c : i < ys.length
          · simp only [Ts', c, if_true] at hh; exact .inr ⟨i, c, hh⟩
          · simp only [Ts', c, if_false] at hh
    rw [hG] at hR'
    obtain ⟨F'', h1, h2⟩ := new_rel (e := e) (arr := arr) (Ts := Ts') (ys := ys ++ zeros re (n - ps.length)) (U := U) hX hR' hK (hN fr hf) hU (by rw [hlz, f2]; exact Nat.le_refl _) (fun j hj => by
      have hjn : j < n * re.size := by rwa [hlz] at hj
      have hg := f3 j
      rw [Array.getElem?_eq_getElem (by omega)] at hg
      simp only [Nat.zero_mul, Nat.zero_le, true_and, Nat.zero_add, Nat.sub_zero, hlen] at hg
      by_cases c : j < ys.length
      · rw [if_pos (by omega)] at hg
        simp only [Ts', c, if_true]
        rw [List.getElem_append_left c]
        have := hO j c
        rw [← hg] at this
        exact this
      · rw [if_neg (by omega)] at hg
        simp only [Ts', c, if_false]
        rw [List.getElem_append_right (by omega)]
        have hjz : j - ys.length < (zeros re (n - ps.length)).length := by rw [zeros_len, hzl]; omega
        obtain ⟨v, hv, ho⟩ := zeros_ow (X := X) (w := w) (T := fun _ => False) hre.zleaf hjz
        have hze : zero = z.cells := hz0.resolve_left (by omega)
        have hg' := zArr_get (zero := zero) (row := re) (n := n) (by rw [hze]; exact i5) (j := j) (by rw [hzl]; exact hjn)
        rw [hzl] at hg' hv
        have hmod : (j - ys.length) % re.size = j % re.size := by
          have hjj : j = (j - ys.length) + ps.length * re.size := by omega
          conv => rhs; rw [hjj]
          rw [Nat.add_mul_mod_self_right]
        rw [hg', ← hmod, hv] at hg
        rw [Option.some.inj hg]; exact ho) (fun i j hi hj hne x hx hx' => by
        by_cases c : i < ys.length
        · by_cases c' : j < ys.length
          · simp only [Ts', c, c', if_true] at hx hx'
            exact hd i j c c' hne x hx hx'
          · simp only [Ts', c', if_false] at hx'
        · simp only [Ts', c, if_false] at hx) (0, 0) (by simp) (fun i h1 h2 => by rw [hlz] at h1; omega)
    refine ⟨arr, w.alloc (.cells arr e), f1, by simp [newRow], .ref fr [] re.size 0 n (some n), _, F'', _, _, h, h1, by simpa [ht', ht] using h2, ?_, ?_, ?_⟩
    · refine rv_new_ref (arr := arr) (cs := ys ++ zeros re (n - ps.length)) (makeSlice_sound.upd_same' H' fr _) ⟨e, (0, 0), by show (w.heap.push _)[w.heap.size]? = _; simp⟩ (Nat.le_refl _) (by simp) (by simp) (by rw [f2]; exact Nat.le_refl _) (fun _ => unm_alloc)
    · intro k hk; simp [qf6] at hk; right; omega
    · exact keep_fresh hN
  have c1 : ¬ (16777216 < n * re.size) := by omega
  by_cases h0 : n * re.size = 0
  · obtain ⟨arr, w', k0, k1, k2⟩ := key #[] (.inl h0)
    refine ⟨_, w', ?_, k2⟩
    simp [zArr, h0] at k0
    simp [Instr.buildSlice, underlying, hty, c1, sizeOf_run P w hre, h0, k0, k1]
  · obtain ⟨arr, w', k0, k1, k2⟩ := key z.cells (.inr rfl)
    refine ⟨_, w', ?_, k2⟩
    simp only [zArr] at k0
    have hz : (zeroValue e).run P w = .ok z w := by simp [zeroValue, typeInfo, i1, i4]
    simp [Instr.buildSlice, underlying, hty, c1, sizeOf_run P w hre, h0, hz, k0, k1]

theorem places_run (hE : E.OK P) (w : World) : ∀ (fields : List Go.Field), (∀ f : Go.Field, f ∈ fields → (E.row f.type).isSome = true) → ∃ places : List (Nat × Nat), (fields.mapM fun (f : Go.Field) => (do pure (f.offset, ← sizeOf f.type) : Sem (Nat × Nat))).run P w = .ok places w ∧
    ∀ (i : Nat) (f : Go.Field) (row : Row), fields[i]? = some f → E.row f.type = some row → places[i]? = some (f.offset, row.size) := by
  intro fields
  induction fields with
  | nil => intro _; exact ⟨[], by simp, fun i f row h => by simp at h⟩
  | cons f fs ih =>
    intro h
    obtain ⟨places, h1, h2⟩ := ih fun g hg => h g (List.mem_cons_of_mem _ hg)
    obtain ⟨row, hrow⟩ := Option.isSome_iff_exists.mp (h f (List.mem_cons_self ..))
    refine ⟨(f.offset, row.size) :: places, ?_, fun i g row' hi hr => ?_⟩
    · simp only [List.mapM_cons, Sem.run_bind, sizeOf_run P w (hE _ _ hrow), Result.andThen_ok, Sem.run_pure, h1]
    · cases i with
      | zero =>
        simp only [List.getElem?_cons_zero, Option.some.injEq] at hi
        subst hi
        rw [hrow] at hr; injection hr with hr; subst hr
        rfl
      | succ i =>
        rw [List.getElem?_cons_succ] at hi ⊢
        exact h2 i g row' hi hr

theorem build_sound (hE : E.OK P) (hR : Rel X μ F H w (fun _ => False)) (ht : t.kl = []) {ty : TypeId} {row : Row} {fs : List (Nat × TypeId)} (hrow : E.row ty = some row) (htd : row.td = .struct fs) {ps : List (Nat × AV)} {qs : List (Nat × Value)} (hidx : qs.map (·.1) = ps.map (·.1))
    (hv : ∀ i (h : i < ps.length) (h' : i < qs.length), RV X μ H w ps[i].2 qs[i].2) (hk : ∀ p ∈ ps, ∀ k, k ∈ qf6 p.2 → U k) (hleaf : ∀ p ∈ ps, ∀ v, RV X μ H w p.2 v → (∃ xs, p.2 = .agg xs) ∨ qc4 v = true) (hfs : (fs.all fun f => (E.row f.2).isSome) = true)
    {cs : List AV} (hf : qa2 (qa3 E fs) (row.zero.map .val) (ps.map fun (i, x) => (i, cellsOf x)) = some cs) (hkc : ∀ k, k ∈ qf5 cs → U k) (h : K (.agg cs) H t = some r) : ∃ z, (Instr.build ty qs.toArray).run P w = .ok z w ∧ OP X U fr μ H w K r z w := by
  have hrok := hE _ _ hrow
  obtain ⟨i, z, i1, i2, i3, i4, i5⟩ := hrok.info
  have htd' := hrok.td
  rw [htd] at htd'
  obtain ⟨fields, u1, u2⟩ := htd'
  have hall : ∀ f ∈ fields.toList, (E.row f.type).isSome = true := by
    intro f hf
    have : (f.offset, f.type) ∈ fs := by rw [← u2]; exact List.mem_map.mpr ⟨f, hf, rfl⟩
    exact List.all_eq_true.mp hfs _ this
  obtain ⟨places, p1, p2⟩ := places_run hE w fields.toList hall
  have hlen : qs.length = ps.length := by have := congrArg List.length hidx; simpa using this
  have hz : (zeroValue ty).run P w = .ok z w := by simp [zeroValue, typeInfo, i1, i4]
  have hzs : z.cells.size = (row.zero.map AV.val).length := by rw [List.length_map, ← i5]; simp
  obtain ⟨arr, a1, a2, a3⟩ := fillP_sound (place := qa3 E fs) (place' := fun x => places.toArray[x]?) (arr := z.cells) (ps := ps) (qs := qs) (fun i x hx => by
      unfold qa3 at hx
      split at hx
      · rename_i off ft hfi
        split at hx
        · rename_i rr hrr
          injection hx with hx; subst hx
          rw [← u2, List.getElem?_map] at hfi
          cases hfd : fields.toList[i]? with
          | none => simp [hfd] at hfi
          | some fd =>
            simp only [hfd, Option.map_some, Option.some.injEq, Prod.mk.injEq] at hfi
            obtain ⟨e1, e2⟩ := hfi
            have := p2 i fd rr hfd (by rw [e2]; exact hrr)
            simp [this, e1]
        · exact absurd hx (by simp)
      · exact absurd hx (by simp)) hidx hzs (fun j hj hj' => by
      simp only [List.getElem_map]
      have e : row.zero[j]'(by simpa using hj) = z.cells[j] := by simp only [← i5, Array.getElem_toList]
      rw [e]
      exact ⟨.val _, by rw [← e]; exact hrok.zleaf _ (List.getElem_mem _)⟩) (fun q hq v hvv => by
      obtain ⟨j, hj, rfl⟩ := List.mem_iff_getElem.mp hq
      have hrv := hv j (by omega) hj
      rcases hleaf _ (List.getElem_mem (by omega : j < ps.length)) _ hrv with ⟨xs, hx⟩ | hl
      · rw [hx] at hrv
        obtain ⟨vs, hq, _, hlf, _⟩ := rv_agg_inv hrv
        rw [hq] at hvv
        obtain ⟨m, hm, rfl⟩ := Array.mem_iff_getElem.mp hvv
        exact hlf m hm
      · have hcc : qs[j].2.cells = #[qs[j].2] := by cases hqq : qs[j].2 <;> first | rfl | (rw [hqq] at hl; exact absurd hl (by simp [qc4]))
        rw [hcc] at hvv
        simp only [List.mem_toArray, List.mem_singleton] at hvv
        rw [hvv]; exact hl) (fun j hj hj' => cells_of_rv (hv j hj hj') (hleaf _ (List.getElem_mem hj) _ (hv j hj hj'))) hf
  refine ⟨.agg arr, ?_, OP.pure hR ht h (.agg cs arr a2 (fun m hm => (a3 m (by omega) hm).2) fun m hm hm' => (a3 m hm hm').1) (fun k hk => hkc k (by simpa [qf6] using hk))⟩
  have hfill : Instr.fill (fun x => places[x]?) z.cells qs = some arr := by simpa using a1
  have p1' : (fields.toList.mapM fun (f : Go.Field) => (Prod.mk f.offset <$> sizeOf f.type : Sem (Nat × Nat))).run P w = .ok places w := by simpa using p1
  simp [Instr.build, hz, underlying, u1, Array.mapM_eq_mapM_toList, p1', hfill]

theorem build_arr_sound (hE : E.OK P) (hR : Rel X μ F H w (fun _ => False)) (ht : t.kl = []) {ty : TypeId} {row : Row} {n : Nat} {e : TypeId} {re : Row} (hrow : E.row ty = some row) (htd : row.td = .array n e) (hre : E.row e = some re) {ps : List (Nat × AV)} {qs : List (Nat × Value)} (hidx : qs.map (·.1) = ps.map (·.1))
    (hv : ∀ i (h : i < ps.length) (h' : i < qs.length), RV X μ H w ps[i].2 qs[i].2) (hk : ∀ p ∈ ps, ∀ k, k ∈ qf6 p.2 → U k) (hleaf : ∀ p ∈ ps, ∀ v, RV X μ H w p.2 v → (∃ xs, p.2 = .agg xs) ∨ qc4 v = true)
    {cs : List AV} (hf : qa2 (fun i => some (i * re.size, re.size)) (row.zero.map .val) (ps.map fun (i, x) => (i, cellsOf x)) = some cs) (hkc : ∀ k, k ∈ qf5 cs → U k) (h : K (.agg cs) H t = some r) : ∃ z, (Instr.build ty qs.toArray).run P w = .ok z w ∧ OP X U fr μ H w K r z w := by
  have hrok := hE _ _ hrow
  obtain ⟨i, z, i1, i2, i3, i4, i5⟩ := hrok.info
  have htd' := hrok.td
  rw [htd] at htd'
  have u1 : P.underlying ty = some (.array n e) := htd'
  have hlen : qs.length = ps.length := by have := congrArg List.length hidx; simpa using this
  have hz : (zeroValue ty).run P w = .ok z w := by simp [zeroValue, typeInfo, i1, i4]
  have hzs : z.cells.size = (row.zero.map AV.val).length := by rw [List.length_map, ← i5]; simp
  obtain ⟨arr, a1, a2, a3⟩ := fillP_sound (place := fun i => some (i * re.size, re.size)) (place' := fun i => some (i * re.size, re.size)) (arr := z.cells) (ps := ps) (qs := qs) (fun i x hx => hx) hidx hzs (fun j hj hj' => by
      simp only [List.getElem_map]
      have e : row.zero[j]'(by simpa using hj) = z.cells[j] := by simp only [← i5, Array.getElem_toList]
      rw [e]
      exact ⟨.val _, by rw [← e]; exact hrok.zleaf _ (List.getElem_mem _)⟩) (fun q hq v hvv => by
      obtain ⟨j, hj, rfl⟩ := List.mem_iff_getElem.mp hq
      have hrv := hv j (by omega) hj
      rcases hleaf _ (List.getElem_mem (by omega : j < ps.length)) _ hrv with ⟨xs, hx⟩ | hl
      · rw [hx] at hrv
        obtain ⟨vs, hq, _, hlf, _⟩ := rv_agg_inv hrv
        rw [hq] at hvv
        obtain ⟨m, hm, rfl⟩ := Array.mem_iff_getElem.mp hvv
        exact hlf m hm
      · have hcc : qs[j].2.cells = #[qs[j].2] := by cases hqq : qs[j].2 <;> first | rfl | (rw [hqq] at hl; exact absurd hl (by simp [qc4]))
        rw [hcc] at hvv
        simp only [List.mem_toArray, List.mem_singleton] at hvv
        rw [hvv]; exact hl) (fun j hj hj' => cells_of_rv (hv j hj hj') (hleaf _ (List.getElem_mem hj) _ (hv j hj hj'))) hf
  refine ⟨.agg arr, ?_, OP.pure hR ht h (.agg cs arr a2 (fun m hm => (a3 m (by omega) hm).2) fun m hm hm' => (a3 m hm hm').1) (fun k hk => hkc k (by simpa [qf6] using hk))⟩
  have hfill : Instr.fill (fun i => some (i * re.size, re.size)) z.cells qs = some arr := by simpa using a1
  simp [Instr.build, hz, underlying, u1, sizeOf_run P w (hE _ _ hre), hfill]

end
end Go.Proofs.Ythgopooldcheeaa.VH
end

section
namespace Go.Proofs.Ythgopooldcheeaa.VH

section
variable {R : Type} {X : Cx} {U : Nat → Prop} {fr : Nat} {μ : Nat → Option (Nat × Nat)} {F : Nat → Nat → Prop} {H : Heap} {w : World} {K : AV → Heap → Tr → Option R} {r : R} {t : Tr} {P : Program} {E : Env}

theorem Rel.same0 {G : Nat → Prop} {w' : World} (hR : Rel X μ F H w G) (hh : w'.heap = w.heap) (h1 : w'.os = w.os) (h2 : w'.tape = w.tape) (h3 : w'.output = w.output) :
    Rel X μ F H w' G ∧ ∀ U, Keep U [] μ H w μ H w' := by
  have hs : ∀ b : Nat, w'.heap[b]? = w.heap[b]? := fun b => by rw [hh]
  refine ⟨⟨h1.trans hR.os, h2.trans hR.tape, h3.trans hR.output, by rw [hh]; exact hR.size, fun b hb => (hs b).trans (hR.frame b hb), fun k cs hk => ?_, hR.sep, fun k cs b hk hb => ?_, fun b hb => ?_⟩, fun U => ⟨fun k p cs' r ds _ _ hk hq => ?_, fun b _ hu => hu.agree (hs b), by rw [hh]; exact Nat.le_refl _⟩⟩
  · have := hR.root k cs hk
    cases hm : μ k with
    | none => rw [hm] at this; exact this
    | some u => rw [hm] at this; exact Cells.agree this fun x _ => hs x
  · rw [hh]; exact hR.out k cs b hk hb
  · rw [hh]; exact hR.gout b hb
  · exact ⟨cs', ds, hk, LocQ.other hR hk (fun x _ => hs x) hq, rfl, fun b o _ arr' ha => ⟨arr', ha.back (hs b), rfl⟩⟩

theorem bytesOf_inv : ∀ {cs : List AV} {bs : List UInt8}, bytesOf cs = some bs → ∃ ns : List Int, cs = ns.map (fun n => AV.val (.int .u8 n)) ∧ bs = ns.map fun n => UInt8.ofNat n.toNat
  | [], bs, h => by simp only [bytesOf, Option.some.injEq] at h; subst h; exact ⟨[], rfl, rfl⟩
  | x :: cs, bs, h => by
    simp only [bytesOf] at h
    split at h
    · rename_i b hb
      split at h
      · rename_i r hr
        simp only [Option.some.injEq] at h
        subst h
        obtain ⟨ns, e1, e2⟩ := bytesOf_inv hr
        unfold byteOf at hb
        split at hb
        · rename_i n
          simp only [Option.some.injEq] at hb
          subst hb
          exact ⟨n :: ns, by simp [e1], by simp [e2]⟩
        · exact absurd hb (by simp)
      · exact absurd h (by simp)
    · exact absurd h (by simp)

theorem push_fold : ∀ (ns : List Int) (s : ByteArray), ns.foldl (fun r n => r.push (UInt8.ofNat n.toNat)) s = ⟨s.data ++ (ns.map fun n => UInt8.ofNat n.toNat).toArray⟩
  | [], s => by simp
  | n :: ns, s => by
    simp only [List.foldl_cons, push_fold ns, List.map_cons]
    congr 1
    simp [ByteArray.push]

theorem bytes_str {cs : List AV} {bs : List UInt8} (h : bytesOf cs = some bs) {b o c : Nat} (hc : ∀ j (hj : j < cs.length), ∃ v, w.cell? ⟨b, o + j, none⟩ = some v ∧ ∀ u, cs[j] = .val u → v = u) :
    (Conv.bytesToString (.slice (some ⟨b, o, none⟩) cs.length c)).run P w = .ok (.string ⟨bs.toArray⟩) w := by
  obtain ⟨ns, rfl, rfl⟩ := bytesOf_inv h
  have hload := loadCellsFrom_run P w b o ns.length 0 (ns.map (Value.int .u8)) #[] (by simp) (fun j hj => by
    simp only [List.length_map] at hj
    obtain ⟨v, hv, hu⟩ := hc j (by simpa using hj)
    have := hu (.int .u8 ns[j]) (by simp)
    subst this
    simpa using hv)
  rw [List.length_map]
  rw [run_bytesToString w _ _ _ ns (by simpa [loadCells] using hload), push_fold]
  have e : ∀ xs : List UInt8, (ByteArray.empty.data ++ xs.toArray) = xs.toArray := fun xs => by rw [show ByteArray.empty.data = (#[] : Array UInt8) from rfl]; simp
  rw [e]

theorem tdOK_some {ty : TypeId} {td : TD} (h : tdOK P ty td) : ∃ d, P.underlying ty = some d := by
  cases td with
  | struct fs => obtain ⟨f, h, _⟩ := h; exact ⟨_, h⟩
  | other => obtain ⟨d, h, _⟩ := h; exact ⟨d, h⟩
  | _ => exact ⟨_, h⟩

theorem conv_sound (hX : X.WF) (hR : Rel X μ F H w (fun _ => False)) (ht : t.kl = []) (hE : E.OK P) {s d : TypeId} {rs rd : Row} (hs : E.row s = some rs) (hd : E.row d = some rd) {x : AV} {u : Value} (hx : RV X μ H w x u) (hf : H fr = none) (hU : ∀ k, U k → k ≠ fr)
    (h : (convHM E.row rs.td rd.td x fr).run H t K = some r) : ∃ z w', (Go.convert s d u).run P w = .ok z w' ∧ OP X U fr μ H w K r z w' := by
  obtain ⟨ds, hus⟩ := tdOK_some (hE _ _ hs).td
  have hrd := (hE _ _ hd).td
  have hrs := (hE _ _ hs).td
  unfold convHM at h
  split at h
  · rename_i k k' n htd
    rw [htd] at hrd
    cases hx
    refine ⟨_, w, ?_, OP.pure hR ht h (.val _) (fun k hk => by simp [qf6] at hk)⟩
    simp [Go.convert, underlying, hus, show P.underlying d = _ from hrd, Conv.intToInt]
  · rename_i a htd
    rw [htd] at hrd
    cases hx
    refine ⟨_, w, ?_, OP.pure hR ht h (.val _) (fun k hk => by simp [qf6] at hk)⟩
    simp [Go.convert, underlying, hus, show P.underlying d = _ from hrd]
  · rename_i e a htd
    rw [htd] at hrd
    split at h
    · rename_i _ _ _ _ hts he
      rw [hts] at hrs
      cases hx
      have hrun := run_bytes_of_string (P := P) w s d e a hrs hrd (hE _ _ he).td
      refine ⟨_, _, hrun, ?_⟩
      obtain ⟨hR1, hK1⟩ := hR.same0 (w' := w.drew) rfl rfl rfl rfl
      simp only [HM.run] at h
      have hg := grownCap_ge w a.size 0 e
      have hsz : (bytesRow a (grownCap w a.size 0 e)).size = grownCap w a.size 0 e := by
        simp only [bytesRow, Array.size_append, Array.size_map, Array.size_replicate]
        have : a.data.size = a.size := rfl
        omega
      have hlen : (a.data.toList.map u8).length = a.size := by rw [List.length_map, Array.length_toList]; rfl
      obtain ⟨F', h1, h2⟩ := new_rel (e := e) (arr := bytesRow a (grownCap w a.size 0 e)) (Ts := fun _ _ => False) (ys := a.data.toList.map u8) (U := U) hX (rel_nil hR1 (by simp)) (fun U => Keep.refl U μ H w.drew) hf hU (by rw [hsz, hlen]; exact hg) (fun j hj => by
        have hj' : j < a.data.toList.length := by simpa using hj
        have hja : j < a.data.size := by simpa using hj'
        have e1 : (bytesRow a (grownCap w a.size 0 e))[j]? = some (.int .u8 (a.data[j]).toNat) := by
          simp only [bytesRow]
          rw [Array.getElem?_append_left (by simpa using hja), Array.getElem?_map, Array.getElem?_eq_getElem hja]
          rfl
        obtain ⟨hh, he'⟩ := Array.getElem?_eq_some_iff.mp e1
        rw [he', List.getElem_map]
        simp only [u8, Array.getElem_toList]
        exact .val _ _ rfl) (by simp) ((bytesRow a (grownCap w a.size 0 e)).size, (bytesRow a (grownCap w a.size 0 e)).size + 1) (by intro i hi; omega) (fun i h1 h2 => by
        simp only [bytesRow]
        rw [Array.getElem_append_right (by simpa [hlen] using h1)]
        simp [qc4])
      refine ⟨.ref fr [] 1 0 a.size none, _, F', _, _, h, h1, by simpa [ht] using (hK1 U).trans h2, ?_, ?_, ?_⟩
      · refine rv_new_ref (arr := bytesRow a (grownCap w a.size 0 e)) (cs := a.data.toList.map u8) (makeSlice_sound.upd_same' H fr _) ⟨e, ((bytesRow a (grownCap w a.size 0 e)).size, (bytesRow a (grownCap w a.size 0 e)).size + 1), by show (w.heap.push _)[w.heap.size]? = _; simp⟩ hg (by simp) (fun _ => by rw [hlen]; omega) (by rw [hsz]; omega) (fun h => absurd h (by decide))
      · intro k hk; simp [qf6] at hk; right; omega
      · exact keep_fresh fun _ h => h
    · simp [HM.run] at h
  · rename_i htd _
    rw [htd] at hrd
    split at h
    · rename_i e hts
      rw [hts] at hrs
      split at h
      · rename_i _ _ _ _ he
        obtain ⟨hg, h⟩ := guardB_run' h
        have fin : ∀ (bs : List UInt8) t1, t1.kl = [] → K (.val (.string ⟨bs.toArray⟩)) H t1 = some r → OP X U fr μ H w K r (.string ⟨bs.toArray⟩) w := fun bs t1 ht1 hh => OP.pure hR ht1 hh (.val _) (fun k hk => by simp [qf6] at hk)
        have conc : ∀ A l c, (Go.convert s d (.slice A l c)).run P w = (Conv.bytesToString (.slice A l c)).run P w := fun A l c => run_convert_bytes_string w s d e A l c hrs (hE _ _ he).td hrd
        have nil : ∀ A c, (Conv.bytesToString (.slice A 0 c)).run P w = .ok (.string ⟨#[]⟩) w := by
          intro A c
          cases A with
          | none => simp [Conv.bytesToString]; rfl
          | some ad =>
            have := run_bytesToString (P := P) w ad 0 c [] (by simp [loadCells, loadCellsFrom])
            rw [this]; rfl
        rcases zOK_inv' hg with rfl | ⟨tg, n, cap, cs, rfl⟩ | ⟨k, p, off, n, cap, rfl⟩
        · cases hx
          simp only [cellsIn, HM.bind, qb, List.length_nil] at h
          obtain ⟨_, h⟩ := guardB_run' h
          obtain ⟨bs, hb, h⟩ := ofOpt_run h
          simp only [bytesOf, Option.some.injEq] at hb
          subst hb
          exact ⟨_, w, (conc _ _ _).trans (nil _ _), fin [] t ht h⟩
        · simp only [cellsIn, HM.bind, qb] at h
          obtain ⟨hl, h⟩ := guardB_run' h
          obtain ⟨bs, hb, h⟩ := ofOpt_run h
          have hl : (List.take (n * 1) cs).length = n := by simpa using hl
          cases hx with
          | sl _ _ _ _ _ _ htg hr =>
            cases hr with
            | nil _ _ _ A c hc =>
              simp only [List.take_nil, bytesOf, Option.some.injEq] at hb
              subst hb
              exact ⟨_, w, (conc _ _ _).trans (nil _ _), fin [] t ht h⟩
            | sl _ _ _ _ _ b o c arr vs h1 h2 h3 h4 h5 h6 h7 =>
              have hbw : RBlk w b arr := h2.agree (hR.frame b (tagS_fo hX h1))
              have := bytes_str (P := P) (c := c) hb (b := b) (o := o) fun j hj => by
                have hjc : j < cs.length := by rw [List.length_take] at hj; omega
                refine ⟨vs j, by rw [cell?_of hbw]; exact h6 j hjc, fun u hu => ?_⟩
                rw [List.getElem_take] at hu
                have := h7 j hjc
                rw [hu] at this
                generalize hvj : vs j = v at this
                cases this; rfl
              rw [hl] at this
              exact ⟨_, w, (conc _ _ _).trans this, fin bs t ht h⟩
        · simp only [cellsIn, qb2, HM.bind, HM.run] at h
          cases hH : H k with
          | none => simp [hH] at h
          | some cs =>
          simp only [hH] at h
          cases hsb : sub p cs with
          | none => simp [hsb, HM.bind, HM.run] at h
          | some dd =>
          simp only [hsb, HM.bind, qb] at h
          obtain ⟨hl, h⟩ := guardB_run' h
          obtain ⟨bs, hb, h⟩ := ofOpt_run h
          have hl : (List.take (n * 1) (dd.drop off)).length = n := by simpa using hl
          obtain ⟨res, T, hq, hat, _⟩ := look_at hR hH hsb
          cases hx with
          | ref _ _ _ _ _ _ A c hn hc hA hh =>
            have hok := hh cs res dd hH hq
            have hnil : n = 0 → ∃ z w', (Go.convert s d (.slice A n c)).run P w = .ok z w' ∧ OP X U fr μ H w K r z w' := by
              intro e0; subst e0
              simp only [Nat.zero_mul, List.take_zero, bytesOf, Option.some.injEq] at hb
              subst hb
              exact ⟨_, w, (conc _ _ _).trans (nil _ _), fin [] _ (by simpa using ht) h⟩
            cases res with
            | none => exact hnil (by have : c = 0 := hok; omega)
            | some bo =>
              obtain ⟨b, o⟩ := bo
              rcases hok with h0 | ⟨h1, h2, h3⟩
              · exact hnil (by omega)
              · subst h1
                obtain ⟨arr, vs, Ts, c1, c2, c3, c4, c5, c6, c7, c8⟩ := hat
                have := bytes_str (P := P) (c := c) hb (b := b) (o := o + off) fun j hj => by
                  have hjc : off + j < dd.length := by rw [List.length_take, List.length_drop] at hj; omega
                  refine ⟨vs (off + j), by rw [cell?_of c1.rblk, Nat.add_assoc]; exact c4 _ hjc, fun u hu => ?_⟩
                  rw [List.getElem_take, List.getElem_drop] at hu
                  have := c5 _ hjc
                  rw [hu] at this
                  generalize hvj : vs (off + j) = v at this
                  cases this; rfl
                rw [hl] at this
                exact ⟨_, w, (conc _ _ _).trans this, fin bs _ (by simpa using ht) h⟩
      · simp [HM.run] at h
    · simp [HM.run] at h
  · simp [HM.run] at h
where
  zOK_inv' {z : Nat} {x : AV} (h : zOK z x = true) : x = .val qc6 ∨ (∃ tg n cap cs, x = .sl tg z n cap cs) ∨ ∃ k p off n cap, x = .ref k p z off n cap := by
    unfold zOK at h
    split at h
    · exact .inl rfl
    · simp only [beq_iff_eq] at h; subst h; exact .inr (.inl ⟨_, _, _, _, rfl⟩)
    · simp only [beq_iff_eq] at h; subst h; exact .inr (.inr ⟨_, _, _, _, _, rfl⟩)
    · exact absurd h (by simp)

end
end Go.Proofs.Ythgopooldcheeaa.VH
end

section
namespace Go.Proofs.Ythgopooldcheeaa.VH

/- What is appended. -/

section
variable {R : Type} {X : Cx} {U : Nat → Prop} {fr : Nat} {μ : Nat → Option (Nat × Nat)} {F : Nat → Nat → Prop} {H : Heap} {w : World} {P : Program} {E : Env}

theorem rd_ow {tg : Tg} (htg : tg ≠ .own) {x : AV} {v : Value} {T : Nat → Prop} (h : RD X.w0 (tagS X tg) x v) : OW X w (qb7 tg x) v T := by
  cases h with
  | und v h => exact .und v T h
  | val v h => exact .val v T h
  | sl tg' z n cap cs b o c arr vs h1 h2 h3 h4 h5 h6 h7 =>
    cases tg with
    | own => exact absurd rfl htg
    | fgn => exact .fgn z n cap cs _ T (.sl _ z n cap cs b o c arr vs h1 h2 h3 h4 h5 h6 h7)
    | snap => exact .snap z n cap cs _ T (.sl _ z n cap cs b o c arr vs h1 h2 h3 h4 h5 h6 h7)
  | nil tg' z cap A c hc =>
    cases tg with
    | own => exact absurd rfl htg
    | fgn => exact .fgn z 0 cap [] _ T (.nil _ z cap A c hc)
    | snap => exact .snap z 0 cap [] _ T (.nil _ z cap A c hc)

theorem borL_len (tg : Tg) (cs : List AV) : (borL tg cs).length = cs.length := by
  unfold borL
  cases cs.any isSl <;> simp

theorem borL_get {tg : Tg} (htg : tg ≠ .own) {cs : List AV} {j : Nat} (hj : j < (borL tg cs).length) {v : Value} {T : Nat → Prop} (h : RD X.w0 (tagS X tg) (cs[j]'(by rwa [borL_len] at hj)) v) : OW X w (borL tg cs)[j] v T := by
  have hj' : j < cs.length := by rwa [borL_len] at hj
  cases hb : cs.any isSl with
  | true =>
    have e : borL tg cs = cs.map (qb7 tg) := by simp [borL, hb]
    rw [List.getElem_of_eq e, List.getElem_map]; exact rd_ow htg h
  | false =>
    have e : borL tg cs = cs := by simp [borL, hb]
    rw [List.getElem_of_eq e]
    have hn : isSl cs[j] = false := by
      have := List.any_eq_false.mp hb cs[j] (List.getElem_mem _)
      simpa using this
    generalize hx : cs[j] = x at hn h
    cases h with
    | und v h => exact .und v T h
    | val v h => exact .val v T h
    | sl => simp [isSl] at hn
    | nil => simp [isSl] at hn

/-- what the program reads of it -/
def SrcOK (P : Program) (w : World) (size m : Nat) (u : Value) (vals : List Value) : Prop :=
  ∀ w' : World, w'.heap = w.heap → (Builtin.lenOf u).run P w' = .ok m w' ∧ (Builtin.firstCells size m u).run P w' = .ok vals.toArray w' ∧ ∀ q, q ≤ m → (Builtin.firstCells size q u).run P w' = .ok (vals.take (q * size)).toArray w'

theorem src_load {b o size m c : Nat} {vals : List Value} (hl : vals.length = m * size) (h : ∀ j (hj : j < vals.length), w.cell? ⟨b, o + j, none⟩ = some vals[j]) : SrcOK P w size m (.slice (some ⟨b, o, none⟩) m c) vals := by
  intro w' hw
  have key : ∀ q, q ≤ m → (Builtin.firstCells size q (.slice (some ⟨b, o, none⟩) m c)).run P w' = .ok (vals.take (q * size)).toArray w' := by
    intro q hq
    have hqm : q * size ≤ m * size := Nat.mul_le_mul_right _ hq
    have := loadCellsFrom_run P w' b o (q * size) 0 (vals.take (q * size)) #[] (by rw [List.length_take]; omega) (fun j hj => by
      rw [List.length_take] at hj
      have e := h j (by omega)
      simp only [World.cell?, hw] at e ⊢
      simpa using e)
    simpa [Builtin.firstCells, loadCells] using this
  refine ⟨by simp [Builtin.lenOf], ?_, key⟩
  have := key m (Nat.le_refl m)
  rwa [← hl, List.take_length] at this

theorem src_nil {A : Option Addr} {size c : Nat} : SrcOK P w size 0 (.slice A 0 c) [] := by
  intro w' _
  refine ⟨by simp [Builtin.lenOf], ?_, fun q hq => ?_⟩
  · cases A <;> simp [Builtin.firstCells, loadCells, loadCellsFrom]
  · have : q = 0 := by omega
    subst this
    cases A <;> simp [Builtin.firstCells, loadCells, loadCellsFrom]

structure Src0 (X : Cx) (μ : Nat → Option (Nat × Nat)) (F' : Nat → Nat → Prop) (H H' : Heap) (w : World) (size m : Nat) (new : List AV) (vals : List Value) (Ts : Nat → Nat → Prop) : Prop where
  len : new.length = m * size
  vlen : vals.length = new.length
  ow : ∀ i (h : i < new.length) (h' : i < vals.length), OW X w new[i] vals[i] (Ts i)
  dis : ∀ i j, i < new.length → j < new.length → i ≠ j → ∀ x, Ts i x → ¬ Ts j x
  rel : Rel X μ F' H' w (fun b => False ∨ ∃ i, i < new.length ∧ Ts i b)
  keep : ∀ U, Keep U [] μ H w μ H' w
  none : ∀ j, H j = none → H' j = none

structure Src (P : Program) (X : Cx) (μ : Nat → Option (Nat × Nat)) (F' : Nat → Nat → Prop) (H H' : Heap) (w : World) (size m : Nat) (u : Value) (new : List AV) (vals : List Value) (Ts : Nat → Nat → Prop) : Prop extends Src0 X μ F' H H' w size m new vals Ts where
  src : SrcOK P w size m u vals

theorem src_pure (hR : Rel X μ F H w (fun _ => False)) {size m : Nat} {u : Value} {new : List AV} {vals : List Value} (h1 : new.length = m * size) (h2 : vals.length = new.length) (h3 : ∀ i (h : i < new.length) (h' : i < vals.length), OW X w new[i] vals[i] (fun _ => False)) (h4 : SrcOK P w size m u vals) :
    Src P X μ F H H w size m u new vals (fun _ _ => False) :=
  ⟨⟨h1, h2, h3, fun _ _ _ _ _ _ h => h.elim, rel_nil hR (by simp), fun U => Keep.refl U μ H w, fun _ h => h⟩, h4⟩

theorem Rel.weak {G G' : Nat → Prop} (h : Rel X μ F H w G) (hG : ∀ b, G' b → G b) : Rel X μ F H w G' :=
  ⟨h.os, h.tape, h.output, h.size, h.frame, h.root, h.sep, fun k cs b hk hb => let ⟨a1, a2, a3⟩ := h.out k cs b hk hb; ⟨a1, a2, fun hh => a3 (hG b hh)⟩, fun b hb => h.gout b (hG b hb)⟩

theorem src_sound {α : Type} {g : Nat × List AV → HM α} {K : α → Heap → Tr → Option R} {r : R} {t : Tr} (hX : X.WF) (hR : Rel X μ F H w (fun _ => False)) {row : Row} {x : AV} {u : Value} (hx : RV X μ H w x u) (h : ((qa9 row x).bind g).run H t K = some r) :
    ∃ m new vals H' t' F' Ts, (g (m, new)).run H' t' K = some r ∧ t'.kl = t.kl ∧ Src P X μ F' H H' w row.size m u new vals Ts := by
  unfold qa9 at h
  split at h
  · cases hx
    exact ⟨0, [], [], H, t, F, _, h, rfl, src_pure hR (by simp) rfl (fun i h => by simp at h) src_nil⟩
  · rename_i s
    obtain ⟨hg, h⟩ := guardB_run h
    have hg := of_decide_eq_true hg
    cases hx
    have hd : s.data.toList.length = s.size := by rw [Array.length_toList]; rfl
    refine ⟨s.size, _, s.data.toList.map (fun b => .int .u8 b.toNat), H, t, F, _, h, rfl, src_pure hR (by rw [List.length_map, hd, hg, Nat.mul_one]) (by simp) (fun i h h' => ?_) fun w' _ => ⟨by simp [Builtin.lenOf], ?_, fun q hq => ?_⟩⟩
    · simp only [List.getElem_map, u8]; exact .val _ _ rfl
    · simp only [Builtin.firstCells, Sem.run_pure]
      congr 1
      rw [← Array.toList_map]
      have : s.extract 0 s.size = s := by simp
      rw [this]
    · simp only [Builtin.firstCells, Sem.run_pure]
      congr 1
      apply Array.ext'
      rw [hg]
      simp [ByteArray.data_extract, Array.toList_extract, List.extract_eq_take_drop]
  · rename_i tg z n cap cs
    obtain ⟨hg, h8⟩ := guardB_run h
    clear h
    have hg : z = row.size := by simpa using hg
    subst hg
    cases hx with
    | sl _ _ _ _ _ _ ht hr =>
      cases hr with
      | nil _ _ _ A c hc => exact ⟨0, [], [], H, t, F, _, by simpa [borL, HM.bind] using h8, rfl, src_pure hR (by simp) rfl (fun i h => by simp at h) src_nil⟩
      | sl _ _ _ _ _ b o c arr vs h1 h2 h3 h4 h5 h6 h7 =>
        have hbw : RBlk w b arr := h2.agree (hR.frame b (tagS_fo hX h1))
        refine ⟨n, borL tg cs, (List.range cs.length).map vs, H, t, F, _, h8, rfl, src_pure hR (by rw [borL_len]; exact h5) (by simp [borL_len]) (fun i h h' => ?_) (src_load (by simpa using h5) fun j hj => ?_)⟩
        · rw [borL_len] at h
          simp only [List.getElem_map, List.getElem_range]
          exact borL_get ht _ (h7 i h)
        · simp only [List.length_map, List.length_range] at hj
          simp only [List.getElem_map, List.getElem_range]
          rw [cell?_of hbw]; exact h6 j hj
  · rename_i k p z off n cap
    simp only [qb2, HM.bind, HM.run] at h
    cases hk : H k with
    | none => simp [hk] at h
    | some cs =>
    simp only [hk] at h
    cases hs : sub p cs with
    | none => simp [hs, HM.bind, HM.run] at h
    | some ds =>
    simp only [hs, HM.bind] at h
    obtain ⟨hg, h8⟩ := guardB_run h
    clear h
    simp only [Bool.and_eq_true, beq_iff_eq, decide_eq_true_eq] at hg
    obtain ⟨rfl, hg⟩ := hg
    cases hx with
    | ref _ _ _ _ _ _ A c hn hc hA hh =>
    have hrange : ∀ (res : Option (Nat × Nat)) (T : Nat → Prop), LocQ w (μ k) cs p res ds → At X w res ds T → (n = 0 ∧ (ds.drop off).take (n * row.size) = []) ∨ ∃ (b o : Nat) (arr : Array Value) (vs : Nat → Value) (Ts : Nat → Nat → Prop), A = some ⟨b, o, none⟩ ∧ OBlk w b arr ∧ (∀ j, j < ((ds.drop off).take (n * row.size)).length → arr[o + j]? = some (vs j)) ∧
        (∀ j (h : j < ((ds.drop off).take (n * row.size)).length), OW X w ((ds.drop off).take (n * row.size))[j] (vs j) (Ts j)) ∧ (∀ j, j < ((ds.drop off).take (n * row.size)).length → ∀ x, Ts j x → T x) ∧ (∀ i j, i < ((ds.drop off).take (n * row.size)).length → j < ((ds.drop off).take (n * row.size)).length → i ≠ j → ∀ x, Ts i x → ¬ Ts j x) := by
      intro res T hq hat
      have hok := hh cs res ds hk hq
      have hz0 : c = 0 → (n = 0 ∧ (ds.drop off).take (n * row.size) = []) := fun e => by
        have : n = 0 := by omega
        subst this
        exact ⟨rfl, by simp⟩
      cases res with
      | none => exact .inl (hz0 hok)
      | some bo =>
        obtain ⟨b, o⟩ := bo
        rcases hok with h0 | ⟨h1, h2, h3⟩
        · exact .inl (hz0 h0.1)
        · obtain ⟨arr, vs, Ts, c1, c2, c3, c4, c5, c6, c7, c8⟩ := Cells.range hat off (n * row.size) hg
          exact .inr ⟨b, o + off, arr, vs, Ts, h1, c1, c4, c5, c6, c8⟩
    have hlen : ((ds.drop off).take (n * row.size)).length = n * row.size := by simp; omega
    cases hb : ((ds.drop off).take (n * row.size)).any qb8 with
    | false =>
      rw [hb] at h8
      simp only [cond_false, HM.bind] at h8
      obtain ⟨res, T, hq, hat, _⟩ := look_at hR hk hs
      rcases hrange res T hq hat with ⟨e0, e1⟩ | ⟨b, o, arr, vs, Ts, a1, a2, a3, a4, _⟩
      · rw [e1] at h8
        subst e0
        exact ⟨0, [], [], H, _, F, _, h8, rfl, src_pure hR (by simp) rfl (fun i h => by simp at h) src_nil⟩
      · subst a1
        refine ⟨n, _, (List.range (n * row.size)).map vs, H, _, F, _, h8, rfl, src_pure hR hlen (by simp [hlen]) (fun i h h' => ?_) (src_load (by simp) fun j hj => ?_)⟩
        · have := List.any_eq_false.mp hb _ (List.getElem_mem h)
          have e : ((List.range (n * row.size)).map vs)[i] = vs i := by simp
          rw [e]
          exact (a4 i h).bare (by simpa using this)
        · simp only [List.length_map, List.length_range] at hj
          simp only [List.getElem_map, List.getElem_range]
          rw [cell?_of a2.rblk]; exact a3 j (by omega)
    | true =>
      rw [hb] at h8
      simp only [cond_true, HM.bind_assoc] at h8
      obtain ⟨cs', ds', H', t', F', T, res, h9, ht', hk', hs', hq, hat, hR', hTG, hK, hN, _⟩ := takeOut_sound hR h8
      rw [hk] at hk'; injection hk' with hk'; subst hk'
      rw [hs] at hs'; injection hs' with hs'; subst hs'
      obtain ⟨_, h9⟩ := guardB_run h9
      simp only [HM.bind] at h9
      rcases hrange res T hq hat with ⟨e0, e1⟩ | ⟨b, o, arr, vs, Ts, a1, a2, a3, a4, a5, a6⟩
      · rw [e1] at h9
        subst e0
        exact ⟨0, [], [], H', t', F', fun _ _ => False, h9, ht', ⟨by simp, rfl, fun i h => by simp at h, fun _ _ h => by simp at h, hR'.weak fun b hb => .inl (hb.elim id fun ⟨_, _, hb⟩ => hb), hK, hN⟩, src_nil⟩
      · subst a1
        refine ⟨n, _, (List.range (n * row.size)).map vs, H', t', F', Ts, h9, ht', ⟨hlen, by simp [hlen], fun i h h' => ?_, a6, hR'.weak fun b hb => hb.imp id fun ⟨i, hi, hb⟩ => a5 i hi b hb, hK, hN⟩, src_load (by simp) fun j hj => ?_⟩
        · have e : ((List.range (n * row.size)).map vs)[i] = vs i := by simp
          rw [e]; exact a4 i h
        · simp only [List.length_map, List.length_range] at hj
          simp only [List.getElem_map, List.getElem_range]
          rw [cell?_of a2.rblk]; exact a3 j (by omega)
  · simp [HM.bind, HM.run] at h

end
end Go.Proofs.Ythgopooldcheeaa.VH
end

section
namespace Go.Proofs.Ythgopooldcheeaa.VH

/- Append. -/

/-- a new root, its row written -/
theorem newroot_chg {X : Cx} {μ : Nat → Option (Nat × Nat)} {F : Nat → Nat → Prop} {H : Heap} {w w' : World} {G E : Nat → Prop} {fr : Nat} {m : Option (Nat × Nat)} {ys : List AV} {T : Nat → Prop}
    (hX : X.WF) (hR : Rel X μ F H w (fun b => G b ∨ E b)) (hf : H fr = none) {S : Nat → Prop} (hC : Chg w w' S) (hS : ∀ b, S b → E b) (hat : At X w' m ys T)
    (hT : ∀ x, T x → E x ∧ ¬ G x ∨ (w.heap.size ≤ x ∧ x < w'.heap.size)) :
    Rel X (updM μ fr m) (updF F fr T) (upd H fr (some ys)) w' G ∧ ∀ U, (∀ k, U k → k ≠ fr) → Keep U [] μ H w (updM μ fr m) (upd H fr (some ys)) w' := by
  have hsame : ∀ b, b < w.heap.size → ¬ E b → w'.heap[b]? = w.heap[b]? := fun b hb he => hC.same b hb fun h => he (hS b h)
  constructor
  · refine ⟨hC.os.trans hR.os, hC.tape.trans hR.tape, hC.output.trans hR.output, Nat.le_trans hR.size hC.size, fun b hb => ?_, fun k cs hk => ?_, fun k k' cs cs' hne hk hk' b hb hb' => ?_, fun k cs b hk hb => ?_, fun b hb => ?_⟩
    · rw [hsame b (Nat.lt_of_lt_of_le (hX.fo b hb) hR.size) fun he => (hR.gout b (.inr he)).1 hb]; exact hR.frame b hb
    · by_cases hkf : k = fr
      · subst hkf
        simp only [upd, updM, updF, if_true] at hk ⊢
        injection hk with hk; subst hk
        cases m with
        | none => exact hat
        | some u => exact hat
      · simp only [upd, updM, updF, hkf, if_false] at hk ⊢
        have hroot := hR.root k cs hk
        cases hm : μ k with
        | none => rw [hm] at hroot; exact hroot
        | some u =>
          obtain ⟨b, o⟩ := u
          rw [hm] at hroot
          exact Cells.agree hroot fun x hx => hsame x (hR.out k cs x hk hx).2.1 fun he => (hR.out k cs x hk hx).2.2 (.inr he)
    · by_cases hkf : k = fr
      · have hk'f : k' ≠ fr := fun e => hne (hkf.trans e.symm)
        subst hkf
        simp only [upd, updF, if_true, hk'f, if_false] at hk' hb hb'
        obtain ⟨_, a2, a3⟩ := hR.out k' cs' b hk' hb'
        rcases hT b hb with h | h
        · exact a3 (.inr h.1)
        · omega
      · by_cases hk'f : k' = fr
        · subst hk'f
          simp only [upd, updF, if_true, hkf, if_false] at hk hb hb'
          obtain ⟨_, a2, a3⟩ := hR.out k cs b hk hb
          rcases hT b hb' with h | h
          · exact a3 (.inr h.1)
          · omega
        · simp only [upd, updF, hkf, hk'f, if_false] at hk hk' hb hb'
          exact hR.sep k k' cs cs' hne hk hk' b hb hb'
    · by_cases hkf : k = fr
      · subst hkf
        simp only [updF, if_true] at hb
        rcases hT b hb with h | h
        · obtain ⟨a1, a2⟩ := hR.gout b (.inr h.1)
          exact ⟨a1, Nat.lt_of_lt_of_le a2 hC.size, h.2⟩
        · refine ⟨fun hfo => ?_, h.2, fun hg => ?_⟩
          · have := hX.fo b hfo; have := hR.size; omega
          · have := (hR.gout b (.inl hg)).2; omega
      · simp only [upd, updF, hkf, if_false] at hk hb
        obtain ⟨a1, a2, a3⟩ := hR.out k cs b hk hb
        exact ⟨a1, Nat.lt_of_lt_of_le a2 hC.size, fun hg => a3 (.inl hg)⟩
    · obtain ⟨a1, a2⟩ := hR.gout b (.inl hb)
      exact ⟨a1, Nat.lt_of_lt_of_le a2 hC.size⟩
  · intro U hU
    refine ⟨fun k p cs' r ds hu _ hk hq => ?_, hC.um, hC.size⟩
    have hkf := hU k hu
    simp only [upd, updM, hkf, if_false] at hk hq
    have hq' := LocQ.other hR hk (fun x hx => hsame x (hR.out k cs' x hk hx).2.1 fun he => (hR.out k cs' x hk hx).2.2 (.inr he)) hq
    refine ⟨cs', ds, hk, hq', rfl, fun b o hr arr' ha => ?_⟩
    subst hr
    exact hC.cells b arr' (LocQ.mem hR hk hq').2 ha


section
variable {R : Type} {X : Cx} {U : Nat → Prop} {fr : Nat} {μ : Nat → Option (Nat × Nat)} {F : Nat → Nat → Prop} {H : Heap} {w : World} {P : Program} {E : Env}

theorem append_grow {ts : Array TypeId} {ty ut ty' e : TypeId} {d2 : TypeDesc} {re : Row} (hts : ts[0]? = some ty) (hts1 : ts[1]? = some ut) (hty : P.underlying ty = some (.slice e)) (hut : P.underlying ut = some d2) (hni : ∀ k, d2 ≠ .int k) (hre : RowOK P e re)
    {A : Option Addr} {n c m : Nat} {u : Value} {olds vals : List Value} (ho : SrcOK P w re.size n (.slice A n c) olds) (hs : SrcOK P w re.size m u vals) (hg : c < n + m) (hlim : n + m ≤ LIM) :
    ∃ z : Value, z.cells.toList = re.zero ∧ (Builtin.append_ ts ty' #[.slice A n c, u]).run P w = .ok (.slice (some ⟨w.heap.size, 0, none⟩) (n + m) (grownCap w (n + m) c e)) (w.drew.alloc (.cells (olds.toArray ++ vals.toArray ++ Builtin.zeroCells z.cells (grownCap w (n + m) c e - (n + m))) e)) := by
  obtain ⟨i, z, i1, i2, i3, i4, i5⟩ := hre.info
  refine ⟨z, i5, ?_⟩
  have hb := hre.bytes
  have hl : LIM = 549755813888 := by decide
  have h1 : ¬ (n + m ≤ c) := by omega
  have h2 : ¬ ((9223372036854775807 : Int) < ((n + m : Nat) : Int)) := by omega
  have h3 : ¬ (281474976710656 < Builtin.nextslicecap (n + m) c * i.bytes) := by
    have := growslice_fits (bytes := i.bytes) hg (by
      have h4 : (n + m) * i.bytes ≤ 549755813888 * 256 := Nat.mul_le_mul (by omega) (by omega)
      omega)
    omega
  rw [i3] at h3
  have h2' : ¬ ((9223372036854775807 : Int) < (n : Int) + (m : Int)) := by omega
  have hz : ∀ w', (zeroValue e).run P w' = .ok z w' := fun w' => by simp [zeroValue, typeInfo, i1, i4]
  have hf1 := (ho w.drew rfl).2.1
  have hf2 := (hs w.drew rfl).2.1
  have hl2 := (hs w rfl).1
  have hni' : (match d2 with | .int _ => true | _ => false) = false := by
    cases d2 <;> first | rfl | exact absurd rfl (hni _)
  simp [Builtin.append_, hts, hts1, underlying, hty, hut, hni', sizeOf_run P w hre, hl2, h1, h2', h3, typeInfo, i1, i3, Question.forced, hf1, hf2, hz, newRow, grownCap]
  rw [show (olds ++ vals).toArray = olds.toArray ++ vals.toArray from by simp, Array.append_assoc]

theorem append_here {ts : Array TypeId} {ty ut ty' e : TypeId} {d2 : TypeDesc} {re : Row} (hts : ts[0]? = some ty) (hts1 : ts[1]? = some ut) (hty : P.underlying ty = some (.slice e)) (hut : P.underlying ut = some d2) (hni : ∀ k, d2 ≠ .int k) (hre : RowOK P e re)
    {A : Option Addr} {n c m : Nat} {u : Value} {vals : List Value} (hs : SrcOK P w re.size m u vals) (hg : n + m ≤ c) {w' : World} (hw : ∀ a, A = some a → (storeCells (a.add (n * re.size)) vals).run P w = .ok () w') (hw' : A = none → w' = w) :
    (Builtin.append_ ts ty' #[.slice A n c, u]).run P w = .ok (.slice A (n + m) c) w' := by
  obtain ⟨i, z, i1, i2, i3, i4, i5⟩ := hre.info
  have hf2 := (hs w rfl).2.1
  have hl2 := (hs w rfl).1
  have hni' : (match d2 with | .int _ => true | _ => false) = false := by
    cases d2 <;> first | rfl | exact absurd rfl (hni _)
  cases A with
  | none =>
    have := hw' rfl; subst this
    simp [Builtin.append_, hts, hts1, underlying, hty, hut, hni', sizeOf_run P w' hre, hl2, hg, hf2]
  | some a =>
    have := hw a rfl
    simp [Builtin.append_, hts, hts1, underlying, hty, hut, hni', sizeOf_run P w hre, hl2, hg, hf2, this]

/-- what the program's append does -/
structure AppRun (P : Program) (w : World) (ts : Array TypeId) (ty' e : TypeId) (re : Row) (m : Nat) (u : Value) (vals : List Value) : Prop where
  grow : ∀ (A : Option Addr) (n c : Nat) (olds : List Value), SrcOK P w re.size n (.slice A n c) olds → c < n + m → n + m ≤ LIM → ∃ z : Value, z.cells.toList = re.zero ∧ (Builtin.append_ ts ty' #[.slice A n c, u]).run P w = .ok (.slice (some ⟨w.heap.size, 0, none⟩) (n + m) (grownCap w (n + m) c e)) (w.drew.alloc (.cells (olds.toArray ++ vals.toArray ++ Builtin.zeroCells z.cells (grownCap w (n + m) c e - (n + m))) e))
  here : ∀ (A : Option Addr) (n c : Nat) (w' : World), n + m ≤ c → (∀ a, A = some a → (storeCells (a.add (n * re.size)) vals).run P w = .ok () w') → (A = none → w' = w) → (Builtin.append_ ts ty' #[.slice A n c, u]).run P w = .ok (.slice A (n + m) c) w'

theorem appRun_src {ts : Array TypeId} {ty ut ty' e : TypeId} {d2 : TypeDesc} {re : Row} (hts : ts[0]? = some ty) (hts1 : ts[1]? = some ut) (hty : P.underlying ty = some (.slice e)) (hut : P.underlying ut = some d2) (hni : ∀ k, d2 ≠ .int k) (hre : RowOK P e re)
    {m : Nat} {u : Value} {vals : List Value} (hs : SrcOK P w re.size m u vals) : AppRun P w ts ty' e re m u vals :=
  ⟨fun _ _ _ _ ho hg hl => append_grow hts hts1 hty hut hni hre ho hs hg hl, fun _ _ _ _ hg hw hw' => append_here hts hts1 hty hut hni hre hs hg hw hw'⟩

theorem appRun_zeros {ts : Array TypeId} {ty ut ty' e : TypeId} {k2 k : IntKind} {re : Row} (hts : ts[0]? = some ty) (hts1 : ts[1]? = some ut) (hty : P.underlying ty = some (.slice e)) (hut : P.underlying ut = some (.int k2)) (hre : RowOK P e re)
    {m : Nat} (hm : m ≤ LIM) : ∃ z : Value, z.cells.toList = re.zero ∧ AppRun P w ts ty' e re m (.int k m) (Builtin.zeroCells z.cells m).toList := by
  obtain ⟨i, z, i1, i2, i3, i4, i5⟩ := hre.info
  refine ⟨z, i5, ?_⟩
  have hb := hre.bytes
  have hl : LIM = 549755813888 := by decide
  have hzs : z.cells.size = re.size := by rw [← hre.zl, ← i5]; simp
  have hz : ∀ w', (zeroValue e).run P w' = .ok z w' := fun w' => by simp [zeroValue, typeInfo, i1, i4]
  have hwr : IntKind.i64.wrap (m : Int) = m := by rw [IntKind.wrap_i64]; omega
  have hnn : ¬ ((m : Int) < 0) := by omega
  have hbig : ¬ ((281474976710656 : Int) < (m : Int) * (i.bytes : Int)) := by
    have : m * i.bytes ≤ 549755813888 * 256 := Nat.mul_le_mul (by omega) (by omega)
    have h2 : ((m * i.bytes : Nat) : Int) ≤ 549755813888 * 256 := by omega
    simp only [Int.natCast_mul] at h2
    omega
  rw [i3] at hbig
  have happ : ∀ w' : World, (if m * re.size = 0 then (pure #[] : Sem (Array Value)) else do pure (Builtin.zeroCells (← zeroValue e).cells m)).run P w' = .ok (Builtin.zeroCells z.cells m) w' := by
    intro w'
    by_cases h0 : m * re.size = 0
    · simp [h0, Builtin.zeroCells, hzs]
    · simp [h0, hz]
  constructor
  · intro A n c olds ho hg hlim
    refine ⟨z, i5, ?_⟩
    have h1 : ¬ (n + m ≤ c) := by omega
    have h3 : ¬ (281474976710656 < Builtin.nextslicecap (n + m) c * i.bytes) := by
      have := growslice_fits (bytes := i.bytes) hg (by
        have h4 : (n + m) * i.bytes ≤ 549755813888 * 256 := Nat.mul_le_mul (by omega) (by omega)
        omega)
      omega
    rw [i3] at h3
    have h2' : ¬ ((9223372036854775807 : Int) < (n : Int) + (m : Int)) := by omega
    have hf1 := (ho w.drew rfl).2
    have ha : ∀ w', ((if m * re.size = 0 then (pure #[] : Sem (Array Value)) else do pure (Builtin.zeroCells (← zeroValue e).cells m)).run P w') = .ok (Builtin.zeroCells z.cells m) w' := happ
    by_cases h0 : m * re.size = 0
    · have hzc : Builtin.zeroCells z.cells m = #[] := by simp [Builtin.zeroCells, hzs, h0]
      have h0' : m = 0 ∨ re.size = 0 := Nat.mul_eq_zero.mp h0
      simp [Builtin.append_, hts, hts1, underlying, hty, hut, hwr, hnn, hbig, sizeOf_run P w hre, h1, h2', h3, typeInfo, i1, i3, Question.forced, hf1, hz, newRow, grownCap, h0, h0', hzc, asInt, asIntOf]
    · have h0' : ¬ (m = 0 ∨ re.size = 0) := fun h => h0 (Nat.mul_eq_zero.mpr h)
      simp [Builtin.append_, hts, hts1, underlying, hty, hut, hwr, hnn, hbig, sizeOf_run P w hre, h1, h2', h3, typeInfo, i1, i3, Question.forced, hf1, hz, newRow, grownCap, h0, h0', asInt, asIntOf]
  · intro A n c w' hg hw hw'
    by_cases h0 : m * re.size = 0
    · have hzc : Builtin.zeroCells z.cells m = #[] := by simp [Builtin.zeroCells, hzs, h0]
      have h0' : m = 0 ∨ re.size = 0 := Nat.mul_eq_zero.mp h0
      cases A with
      | none =>
        have := hw' rfl; subst this
        simp [Builtin.append_, hts, hts1, underlying, hty, hut, hwr, hnn, hbig, sizeOf_run P w' hre, hg, typeInfo, i1, i3, h0, h0', asInt, asIntOf]
      | some a =>
        have := hw a rfl
        rw [hzc] at this
        simp [Builtin.append_, hts, hts1, underlying, hty, hut, hwr, hnn, hbig, sizeOf_run P w hre, hg, typeInfo, i1, i3, h0, h0', asInt, asIntOf] at this ⊢
        simp [this]
    · have h0' : ¬ (m = 0 ∨ re.size = 0) := fun h => h0 (Nat.mul_eq_zero.mpr h)
      cases A with
      | none =>
        have := hw' rfl; subst this
        simp [Builtin.append_, hts, hts1, underlying, hty, hut, hwr, hnn, hbig, sizeOf_run P w' hre, hg, typeInfo, i1, i3, hz, h0, h0', asInt, asIntOf]
      | some a =>
        have := hw a rfl
        simp [Builtin.append_, hts, hts1, underlying, hty, hut, hwr, hnn, hbig, sizeOf_run P w hre, hg, typeInfo, i1, i3, hz, h0, h0', this, asInt, asIntOf]

/-- a grown row -/
theorem grow_op {K : AV → Heap → Tr → Option R} {r : R} {t' : Tr} {H0 : Heap} (hX : X.WF) {ys : List AV} {vs : List Value} {Ts : Nat → Nat → Prop} (hR : Rel X μ F H w (fun b => False ∨ ∃ i, i < ys.length ∧ Ts i b)) (hK : ∀ U, Keep U [] μ H0 w μ H w) (hN : ∀ j, H0 j = none → H j = none) (ht : t'.kl = [])
    (hf : H0 fr = none) (hU : ∀ k, U k → k ≠ fr) {re : Row} {e : TypeId} {z : Value} (hz : z.cells.toList = re.zero) (hzl : re.zero.length = re.size) (hzf : ∀ v ∈ re.zero, qc4 v = true) {nn cap : Nat} (hl : ys.length = nn * re.size) (hvl : vs.length = ys.length) (hcap : nn ≤ cap)
    (hO : ∀ i (h : i < ys.length) (h' : i < vs.length), OW X w ys[i] vs[i] (Ts i)) (hd : ∀ i j, i < ys.length → j < ys.length → i ≠ j → ∀ x, Ts i x → ¬ Ts j x)
    (h : (HM.put fr (some ys) (HM.ret (AV.ref fr [] re.size 0 nn none))).run H t' K = some r) :
    OP X U fr μ H0 w K r (.slice (some ⟨w.heap.size, 0, none⟩) nn cap) (w.drew.alloc (.cells (vs.toArray ++ Builtin.zeroCells z.cells (cap - nn)) e)) := by
  obtain ⟨hR1, hK1⟩ := hR.same0 (w' := w.drew) rfl rfl rfl rfl
  simp only [HM.run] at h
  have hzs : z.cells.size = re.size := by rw [← hzl, ← hz]; simp
  have hsz : (vs.toArray ++ Builtin.zeroCells z.cells (cap - nn)).size = cap * re.size := by
    simp only [Array.size_append, List.size_toArray, Builtin.zeroCells, Array.size_map, Array.size_range, hzs, hvl, hl]
    rw [← Nat.add_mul]; congr 1; omega
  have hle : nn * re.size ≤ cap * re.size := Nat.mul_le_mul_right _ hcap
  obtain ⟨F', h1, h2⟩ := new_rel (e := e) (arr := vs.toArray ++ Builtin.zeroCells z.cells (cap - nn)) (Ts := Ts) (ys := ys) (U := U) hX hR1 (fun U => Keep.refl U μ H w.drew) (hN fr hf) hU (by rw [hsz, hl]; exact hle) (fun j hj => by
    have e1 : (vs.toArray ++ Builtin.zeroCells z.cells (cap - nn))[j]'(by rw [hsz]; omega) = vs[j]'(by omega) := by
      rw [Array.getElem_append_left (by simp; omega)]; simp
    rw [e1]
    exact (hO j hj (by omega)).agree fun _ _ => rfl) hd (0, 0) (by simp) (fun i h1 h2 => by
    have hva : vs.toArray.size = vs.length := by simp
    have h2' := h2
    rw [Array.size_append] at h2'
    rw [Array.getElem_append_right (by omega)]
    have hm : (Builtin.zeroCells z.cells (cap - nn))[i - vs.toArray.size]'(by omega) ∈ Builtin.zeroCells z.cells (cap - nn) := Array.getElem_mem _
    obtain ⟨q, hq, e1⟩ := Array.mem_iff_getElem.mp hm
    rw [← e1]
    simp only [Builtin.zeroCells, Array.getElem_map, Array.getElem_range]
    have hq' : q < (cap - nn) * z.cells.size := by simpa [Builtin.zeroCells] using hq
    have hpos : 0 < z.cells.size := by
      rcases Nat.eq_zero_or_pos z.cells.size with h0 | h0
      · rw [h0] at hq'; omega
      · exact h0
    have hlt : q % z.cells.size < z.cells.size := Nat.mod_lt _ hpos
    rw [getElem!_pos z.cells _ hlt]
    refine hzf _ ?_
    rw [← hz]; simp)
  refine ⟨.ref fr [] re.size 0 nn none, _, F', _, _, h, h1, ?_, ?_, ?_, ?_⟩
  · have := ((hK U).trans (hK1 U)).trans h2
    simpa [ht] using this
  · refine rv_new_ref (arr := vs.toArray ++ Builtin.zeroCells z.cells (cap - nn)) (cs := ys) (makeSlice_sound.upd_same' H fr _) ⟨e, (0, 0), by show (w.heap.push _)[w.heap.size]? = _; simp⟩ hcap (by simp) (fun _ => by rw [hl]; exact hle) (by rw [hsz]; exact Nat.le_refl _) (fun _ => unm_alloc)
  · intro k hk; simp [qf6] at hk; right; omega
  · exact keep_fresh hN

end
end Go.Proofs.Ythgopooldcheeaa.VH
end

section
namespace Go.Proofs.Ythgopooldcheeaa.VH

section
variable {R : Type} {X : Cx} {U : Nat → Prop} {fr : Nat} {μ : Nat → Option (Nat × Nat)} {F : Nat → Nat → Prop} {H : Heap} {w : World} {P : Program} {E : Env}

/-- an empty row -/
theorem empty_op {K : AV → Heap → Tr → Option R} {r : R} {t' : Tr} {H0 : Heap} (hX : X.WF) (hR : Rel X μ F H w (fun _ => False)) (hK : ∀ U, Keep U [] μ H0 w μ H w) (hN : ∀ j, H0 j = none → H j = none) (ht : t'.kl = [])
    (hf : H0 fr = none) (hU : ∀ k, U k → k ≠ fr) {z : Nat} {A : Option Addr} {cap : Option Nat} (hcap : ∀ q, cap = some q → 0 = q) (h : (HM.put fr (some []) (HM.ret (AV.ref fr [] z 0 0 cap))).run H t' K = some r) : OP X U fr μ H0 w K r (.slice A 0 0) w := by
  simp only [HM.run] at h
  obtain ⟨h1, h2⟩ := newroot_chg (w' := w) (m := none) (T := fun _ => False) (ys := []) (G := fun _ => False) (E := fun _ => False) (S := fun _ => False) hX (rel_nil hR (by simp)) (hN fr hf) (Chg.refl _ _) (fun _ h => h) rfl (fun _ h => h.elim)
  refine ⟨.ref fr [] z 0 0 cap, _, _, _, _, h, h1, ?_, ?_, ?_, ?_⟩
  · have := (hK U).trans (h2 U hU)
    simpa [ht] using this
  · refine .ref fr [] z 0 0 cap A 0 (Nat.le_refl _) hcap (fun _ => rfl) fun cs res ds hk hq => ?_
    obtain ⟨e, rfl⟩ := hq
    simp only [updM, if_true] at e
    subst e
    exact rfl
  · intro k hk; simp [qf6] at hk; right; omega
  · exact keep_fresh hN

theorem app_nil {K : AV → Heap → Tr → Option R} {r : R} {t' : Tr} {F' : Nat → Nat → Prop} {H' : Heap} (hX : X.WF) {ts : Array TypeId} {ty' e : TypeId} {re : Row} (hre : RowOK P e re)
    {m : Nat} {u : Value} {new : List AV} {vals : List Value} {Ts : Nat → Nat → Prop} (S : Src0 X μ F' H H' w re.size m new vals Ts) (hA : AppRun P w ts ty' e re m u vals) (ht : t'.kl = []) (hf : H fr = none) (hU : ∀ k, U k → k ≠ fr)
    (hm : m ≤ LIM) (h : (HM.put fr (some new) (HM.ret (AV.ref fr [] re.size 0 m none))).run H' t' K = some r) : ∃ z w', (Builtin.append_ ts ty' #[.slice none 0 0, u]).run P w = .ok z w' ∧ OP X U fr μ H w K r z w' := by
  by_cases h0 : m = 0
  · subst h0
    have hn : new = [] := List.eq_nil_of_length_eq_zero (by rw [S.len]; simp)
    subst hn
    have hv : vals = [] := List.eq_nil_of_length_eq_zero (by rw [S.vlen]; rfl)
    subst hv
    refine ⟨_, w, hA.here _ _ _ w (by omega) (fun a ha => by simp at ha) (fun _ => rfl), ?_⟩
    exact empty_op (cap := none) hX (S.rel.weak (fun b hb => hb.elim)) S.keep S.none ht hf hU (fun q hq => by cases hq) h
  · obtain ⟨z, hz, hrun⟩ := hA.grow none 0 0 [] (src_nil (w := w)) (by omega) (by omega)
    refine ⟨_, _, hrun, ?_⟩
    have hg := grownCap_ge w (0 + m) 0 e
    simp only [Nat.zero_add] at hg ⊢
    have := grow_op (vs := vals) (e := e) (nn := m) (cap := grownCap w m 0 e) hX S.rel S.keep S.none ht hf hU hz hre.zl hre.zleaf S.len S.vlen hg S.ow S.dis h
    simpa using this

/-- old cells, then new ones -/
theorem join_ow {olds new : List AV} {os vals : List Value} {Os Ts : Nat → Nat → Prop} (h1 : os.length = olds.length) (h2 : vals.length = new.length) (ho : ∀ i (h : i < olds.length) (h' : i < os.length), OW X w olds[i] os[i] (Os i)) (hn : ∀ i (h : i < new.length) (h' : i < vals.length), OW X w new[i] vals[i] (Ts i)) :
    ∀ i (h : i < (olds ++ new).length) (h' : i < (os ++ vals).length), OW X w (olds ++ new)[i] (os ++ vals)[i] (if i < olds.length then Os i else Ts (i - olds.length)) := by
  intro i h h'
  by_cases c : i < olds.length
  · rw [if_pos c, List.getElem_append_left c, List.getElem_append_left (by omega)]
    exact ho i c _
  · rw [if_neg c, List.getElem_append_right (by omega), List.getElem_append_right (by omega)]
    simp only [h1]
    exact hn _ _ _

theorem join_dis {olds new : List AV} {Os Ts : Nat → Nat → Prop} (h1 : ∀ i j, i < olds.length → j < olds.length → i ≠ j → ∀ x, Os i x → ¬ Os j x) (h2 : ∀ i j, i < new.length → j < new.length → i ≠ j → ∀ x, Ts i x → ¬ Ts j x) (h3 : ∀ i j, i < olds.length → j < new.length → ∀ x, Os i x → ¬ Ts j x) :
    ∀ i j, i < (olds ++ new).length → j < (olds ++ new).length → i ≠ j → ∀ x, (if i < olds.length then Os i else Ts (i - olds.length)) x → ¬ (if j < olds.length then Os j else Ts (j - olds.length)) x := by
  intro i j hi hj hne x hx hx'
  rw [List.length_append] at hi hj
  by_cases c : i < olds.length
  · rw [if_pos c] at hx
    by_cases c' : j < olds.length
    · rw [if_pos c'] at hx'; exact h1 i j c c' hne x hx hx'
    · rw [if_neg c'] at hx'; exact h3 i _ c (by omega) x hx hx'
  · rw [if_neg c] at hx
    by_cases c' : j < olds.length
    · rw [if_pos c'] at hx'; exact h3 j _ c' (by omega) x hx' hx
    · rw [if_neg c'] at hx'; exact h2 _ _ (by omega) (by omega) (by omega) x hx hx'

theorem app_sl {K : AV → Heap → Tr → Option R} {r : R} {t' : Tr} {F' : Nat → Nat → Prop} {H' : Heap} (hX : X.WF) (hR : Rel X μ F H w (fun _ => False)) {ts : Array TypeId} {ty' e : TypeId} {re : Row} (hre : RowOK P e re)
    {m : Nat} {u ud : Value} {new : List AV} {vals : List Value} {Ts : Nat → Nat → Prop} (S : Src0 X μ F' H H' w re.size m new vals Ts) (hA : AppRun P w ts ty' e re m u vals) (ht : t'.kl = []) (hf : H fr = none) (hU : ∀ k, U k → k ≠ fr)
    {tg : Tg} {n : Nat} {cs : List AV} (hx : RV X μ H w (.sl tg re.size n (some n) cs) ud) (hnm : n = 0 ∨ 0 < m) (hm : n + m ≤ LIM) (h : (HM.put fr (some (borL tg cs ++ new)) (HM.ret (AV.ref fr [] re.size 0 (n + m) none))).run H' t' K = some r) : ∃ z w', (Builtin.append_ ts ty' #[ud, u]).run P w = .ok z w' ∧ OP X U fr μ H w K r z w' := by
  have key : ∀ (A : Option Addr) (olds : List Value), olds.length = cs.length → cs.length = n * re.size → SrcOK P w re.size n (.slice A n n) olds → (∀ i (h : i < cs.length) (h' : i < olds.length), RD X.w0 (tagS X tg) cs[i] olds[i]) → tg ≠ .own → ∃ z w', (Builtin.append_ ts ty' #[.slice A n n, u]).run P w = .ok z w' ∧ OP X U fr μ H w K r z w' := by
    intro A olds hol hcl hsrc hrd htg
    by_cases h0 : m = 0
    · have hn0 : n = 0 := by omega
      subst h0; subst hn0
      have hn : new = [] := List.eq_nil_of_length_eq_zero (by rw [S.len]; simp)
      subst hn
      have hc : cs = [] := List.eq_nil_of_length_eq_zero (by simpa using hcl)
      subst hc
      have hv : vals = [] := List.eq_nil_of_length_eq_zero (by rw [S.vlen]; rfl)
      subst hv
      refine ⟨_, w, hA.here _ _ _ w (by omega) (fun a _ => by simp [storeCells]) (fun _ => rfl), ?_⟩
      exact empty_op (cap := none) hX (S.rel.weak (fun b hb => hb.elim)) S.keep S.none ht hf hU (fun q hq => by cases hq) (by simpa [borL] using h)
    · obtain ⟨z, hz, hrun⟩ := hA.grow _ _ _ _ hsrc (by omega) hm
      refine ⟨_, _, hrun, ?_⟩
      have hbl := borL_len tg cs
      have hO := join_ow (w := w) (X := X) (olds := borL tg cs) (new := new) (os := olds) (vals := vals) (Os := fun _ _ => False) (Ts := Ts) (by omega) S.vlen (fun i hi hi' => borL_get htg hi (hrd i (by omega) hi')) S.ow
      have hD := join_dis (olds := borL tg cs) (new := new) (Os := fun _ _ => False) (Ts := Ts) (fun _ _ _ _ _ _ h => h.elim) S.dis (fun _ _ _ _ _ h => h.elim)
      have hG := S.rel.weak (G' := fun b => False ∨ ∃ i, i < (borL tg cs ++ new).length ∧ (if i < (borL tg cs).length then (fun _ => False) else Ts (i - (borL tg cs).length)) b) (fun b hb => by
        rcases hb with hb | ⟨i, hi, hb⟩
        · exact hb.elim
        · by_cases c : i < (borL tg cs).length
          · rw [if_pos c] at hb; exact hb.elim
          · rw [if_neg c] at hb; rw [List.length_append] at hi; exact .inr ⟨_, by omega, hb⟩)
      have := grow_op (vs := olds ++ vals) (e := e) (nn := n + m) (cap := grownCap w (n + m) n e) hX hG S.keep S.none ht hf hU hz hre.zl hre.zleaf (by rw [List.length_append, hbl, hcl, S.len, Nat.add_mul]) (by rw [List.length_append, List.length_append, hol, S.vlen, hbl]) (grownCap_ge w (n + m) n e) hO hD h
      simpa using this
  cases hx with
  | sl _ _ _ _ _ _ htg hr =>
    cases hr with
    | nil _ _ _ A c hc =>
      have : c = 0 := hc 0 rfl
      subst this
      exact key A [] rfl (by simp) src_nil (fun i h => by simp at h) htg
    | sl _ _ _ _ _ b o c arr vs h1 h2 h3 h4 h5 h6 h7 =>
      have hc := h4 n rfl
      subst hc
      have hbw : RBlk w b arr := h2.agree (hR.frame b (tagS_fo hX h1))
      refine key _ ((List.range cs.length).map vs) (by simp) h5 (src_load (by simpa using h5) fun j hj => ?_) (fun i hi hi' => by simpa using h7 i hi) htg
      simp only [List.length_map, List.length_range] at hj
      simp only [List.getElem_map, List.getElem_range]
      rw [cell?_of hbw]; exact h6 j hj

end
end Go.Proofs.Ythgopooldcheeaa.VH
end

section
namespace Go.Proofs.Ythgopooldcheeaa.VH

section
variable {R : Type} {X : Cx} {U : Nat → Prop} {fr : Nat} {μ : Nat → Option (Nat × Nat)} {F : Nat → Nat → Prop} {H : Heap} {w : World} {P : Program} {E : Env}

theorem capK_some {cap : Option Nat} {m q : Nat} (h : capK cap m = some q) : m = 0 ∧ cap = some q := by
  unfold capK at h
  split at h
  · simp at h
  · rename_i q'
    cases hb : decide (m = 0) with
    | false => rw [hb] at h; simp at h
    | true => rw [hb] at h; simp only [cond_true] at h; exact ⟨of_decide_eq_true hb, h⟩
theorem capK_pos {cap : Option Nat} {m : Nat} (h : 0 < m) : capK cap m = none := by
  cases hc : capK cap m with
  | none => rfl
  | some q => have := (capK_some hc).1; omega
theorem zeros_src (hR : Rel X μ F H w (fun _ => False)) {re : Row} {e : TypeId} (hre : RowOK P e re) {z : Value} (hz : z.cells.toList = re.zero) (m : Nat) :
    Src0 X μ F H H w re.size m (zeros re m) (Builtin.zeroCells z.cells m).toList (fun _ _ => False) := by
  have hzs : z.cells.size = re.size := by rw [← hre.zl, ← hz]; simp
  have hl : (Builtin.zeroCells z.cells m).toList.length = m * re.size := by simp [Builtin.zeroCells, hzs]
  refine ⟨by rw [zeros_len, hre.zl], by rw [hl, zeros_len, hre.zl], fun i h h' => ?_, fun _ _ _ _ _ _ h => h.elim, rel_nil hR (by simp), fun U => Keep.refl U μ H w, fun _ h => h⟩
  obtain ⟨v, hv, hO⟩ := zeros_ow (X := X) (w := w) hre.zleaf h (T := fun _ => False)
  rw [zeros_len] at h
  have hg := zArr_get hz h
  have e : Builtin.zeroCells z.cells m = zArr z.cells (m * re.zero.length) := by simp [Builtin.zeroCells, zArr, hzs, hre.zl]
  have e2 : (Builtin.zeroCells z.cells m).toList[i] = v := by
    have h1 : (Builtin.zeroCells z.cells m).toList[i]? = some v := by rw [Array.getElem?_toList, e, hg, hv]
    rw [List.getElem?_eq_getElem h'] at h1
    exact Option.some.inj h1
  rw [e2]; exact hO

/-- a row, and what is written behind it -/
theorem cells_ext {w w' : World} {b o : Nat} {olds new : List AV} {T : Nat → Prop} {Ts : Nat → Nat → Prop} {arr arr' : Array Value} {vs : List Value} (hC : Cells X w b o olds T) (hl : new.length = vs.length)
    (ha : OBlk w b arr) (ha' : OBlk w' b arr') (hsz : o + olds.length + new.length ≤ arr'.size) (hg : ∀ j, arr'[j]? = if o + olds.length ≤ j ∧ j < o + olds.length + vs.length then vs[j - (o + olds.length)]? else arr[j]?)
    (hch : Chg w w' (fun x => x = b)) (hO : ∀ i (h : i < new.length) (h' : i < vs.length), OW X w new[i] vs[i] (Ts i)) (hd : ∀ i j, i < new.length → j < new.length → i ≠ j → ∀ x, Ts i x → ¬ Ts j x)
    (hT : ∀ i, i < new.length → ∀ x, Ts i x → ¬ T x) (hlt : ∀ i, i < new.length → ∀ x, Ts i x → x < w.heap.size) (hTlt : ∀ x, T x → x < w.heap.size) :
    Cells X w' b o (olds ++ new) (fun x => T x ∨ ∃ i, i < new.length ∧ Ts i x) := by
  obtain ⟨arr0, us, Us, c1, c2, c3, c4, c5, c6, c7, c8⟩ := hC
  have := c1.rblk.uniq ha.rblk; subst this
  have hO2 := join_ow (w := w') (X := X) (olds := olds) (new := new) (os := (List.range olds.length).map us) (vals := vs) (Os := Us) (Ts := Ts) (by simp) hl.symm (fun i h h' => by
    simp only [List.getElem_map, List.getElem_range]
    exact (c5 i h).agree fun x hx => hch.same x (hTlt x (c6 i h x hx)) fun e => c7 i h (by rw [← e]; exact hx)) (fun i h h' => (hO i h h').agree fun x hx => hch.same x (hlt i h x hx) fun e => hT i h x hx (by rw [e]; exact c2))
  have hD2 := join_dis (olds := olds) (new := new) (Os := Us) (Ts := Ts) c8 hd (fun i j hi hj x hx hx' => hT j hj x hx' (c6 i hi x hx))
  have hlen : ((List.range olds.length).map us ++ vs).length = (olds ++ new).length := by simp [hl]
  refine ⟨arr', fun j => ((List.range olds.length).map us ++ vs).getD j undef, fun i => if i < olds.length then Us i else Ts (i - olds.length), ha', .inl c2, by rw [List.length_append]; omega, fun j hj => ?_, fun j hj => ?_, fun j hj x hx => ?_, fun j hj hx => ?_, hD2⟩
  · rw [hg]
    simp only [List.length_append] at hj
    by_cases c : j < olds.length
    · rw [if_neg (by omega), c4 j c]
      simp [List.getD_eq_getElem?_getD, List.getElem?_append, c]
    · rw [if_pos (by omega)]
      have e : o + j - (o + olds.length) = j - olds.length := by omega
      have hj' : j - olds.length < vs.length := by omega
      simp [List.getD_eq_getElem?_getD, List.getElem?_append, c, e, List.getElem?_eq_getElem hj']
  · have := hO2 j hj (by omega)
    have e : ((List.range olds.length).map us ++ vs).getD j undef = ((List.range olds.length).map us ++ vs)[j]'(by omega) := by
      rw [List.getD_eq_getElem?_getD, List.getElem?_eq_getElem (by omega)]; rfl
    show OW X w' (olds ++ new)[j] (((List.range olds.length).map us ++ vs).getD j undef) (if j < olds.length then Us j else Ts (j - olds.length))
    rw [e]; exact this
  · simp only [List.length_append] at hj
    by_cases c : j < olds.length
    · simp only [c, if_true] at hx; exact .inl (c6 j c x hx)
    · simp only [c, if_false] at hx; exact .inr ⟨_, by omega, hx⟩
  · simp only [List.length_append] at hj
    by_cases c : j < olds.length
    · simp only [c, if_true] at hx; exact c7 j c hx
    · simp only [c, if_false] at hx; exact hT _ (by omega) b hx c2

theorem app_after {K : AV → Heap → Tr → Option R} {r : R} {t2 : Tr} {F' F2 : Nat → Nat → Prop} {H' H2 : Heap} (hX : X.WF) {ts : Array TypeId} {ty' e : TypeId} {re : Row} (hre : RowOK P e re)
    {m : Nat} {u ud : Value} {new : List AV} {vals : List Value} {Ts : Nat → Nat → Prop} (S : Src0 X μ F' H H' w re.size m new vals Ts) (hA : AppRun P w ts ty' e re m u vals) (ht2' : t2.kl = []) (hf : H fr = none) (hU : ∀ k, U k → k ≠ fr)
    {k : Nat} {p : List Nat} {off n : Nat} {cap capr : Option Nat} (hx : RV X μ H w (.ref k p re.size off n cap) ud) {cs ds : List AV} {res : Option (Nat × Nat)} {T : Nat → Prop} (hk : H' k = some cs) (hq : LocQ w (μ k) cs p res ds) (hat : At X w res ds T)
    (hR2 : Rel X μ F2 H2 w (fun b => (False ∨ ∃ i, i < new.length ∧ Ts i b) ∨ T b)) (hTG : ∀ b, T b → ¬ (False ∨ ∃ i, i < new.length ∧ Ts i b)) (hKK : ∀ U, Keep U [] μ H w μ H2 w) (hNN : ∀ j, H j = none → H2 j = none)
    (hle : off + n * re.size ≤ ds.length) (hlim : n + m ≤ LIM) (hcr : ∀ q, capr = some q → cap = some q) (hcr0 : 0 < m → capr = none)
    (h10 : (HM.put fr (some ((ds.drop off).take (n * re.size) ++ new)) (HM.ret (AV.ref fr [] re.size 0 (n + m) capr))).run H2 t2 K = some r) :
    ∃ z w', (Builtin.append_ ts ty' #[ud, u]).run P w = .ok z w' ∧ OP X U fr μ H w K r z w' := by
  have hx' := hx.keep0 S.keep
  cases hx' with
  | ref _ _ _ _ _ _ A c hn hc hAn hh =>
  have hok := hh cs res ds hk hq
  by_cases hc0 : c = 0
  · subst hc0
    have hn0 : n = 0 := by omega
    subst hn0
    simp only [Nat.zero_mul, List.take_zero, List.nil_append, Nat.zero_add] at h10 hlim
    by_cases h0 : m = 0
    · subst h0
      have hn : new = [] := List.eq_nil_of_length_eq_zero (by rw [S.len]; simp)
      subst hn
      have hv : vals = [] := List.eq_nil_of_length_eq_zero (by rw [S.vlen]; rfl)
      subst hv
      refine ⟨_, w, hA.here _ _ _ w (by omega) (fun a ha => by simp [storeCells]) (fun _ => rfl), ?_⟩
      exact empty_op hX (hR2.weak (fun b hb => hb.elim)) hKK hNN ht2' hf hU (fun q hq => hc q (hcr q hq)) h10
    · obtain ⟨z, hz, hrun⟩ := hA.grow A 0 0 [] (src_nil (w := w)) (by omega) (by omega)
      refine ⟨_, _, hrun, ?_⟩
      have hgc := grownCap_ge w (0 + m) 0 e
      simp only [Nat.zero_add] at hgc ⊢
      rw [hcr0 (by omega)] at h10
      have := grow_op (vs := vals) (e := e) (nn := m) (cap := grownCap w m 0 e) hX (hR2.weak (fun b hb => .inl hb)) hKK hNN ht2' hf hU hz hre.zl hre.zleaf S.len S.vlen hgc S.ow S.dis h10
      simpa using this
  · cases res with
    | none => exact absurd hok hc0
    | some bo =>
    obtain ⟨b, o⟩ := bo
    rcases hok with ⟨h0, _⟩ | ⟨hA1, hA2, hA3⟩
    · exact absurd h0 hc0
    subst hA1
    have hcells := Cells.range hat off (n * re.size) hle
    have hdl : ((ds.drop off).take (n * re.size)).length = n * re.size := by simp; omega
    have hcells' := hcells
    obtain ⟨arr, vs, Os, c1, c2, c3, c4, c5, c6, c7, c8⟩ := hcells'
    have hTF : ∀ x, T x → x < w.heap.size ∧ ¬ ∃ i, i < new.length ∧ Ts i x := fun x hx => ⟨(hR2.gout x (.inr hx)).2, fun h => hTG x hx (.inr h)⟩
    by_cases hin : n + m ≤ c
    · have hsz := (hA3 arr c1.rblk).1
      have hmul : (n + m) * re.size ≤ c * re.size := Nat.mul_le_mul_right _ hin
      rw [Nat.add_mul] at hmul
      have hvl := S.vlen
      have hnl := S.len
      obtain ⟨w', arr', s1, s2, s3, s4, s5⟩ := storeCells_run P b (o + off + n * re.size) vals 0 w arr c1 (by omega) (fun v hv => by
        obtain ⟨i, hi, rfl⟩ := List.mem_iff_getElem.mp hv
        exact (S.ow i (hvl ▸ hi) hi).leaf)
      refine ⟨_, w', hA.here _ _ _ w' hin (fun a ha => ?_) (fun h => by simp at h), ?_⟩
      · injection ha with ha; subst ha
        rw [add_spot]; exact s1
      · have hext := cells_ext (w' := w') hcells hvl.symm c1 s3 (by omega) (by rw [hdl]; simpa using s5) s2 S.ow S.dis (fun i hi x hx hTx => (hTF x hTx).2 ⟨i, hi, hx⟩) (fun i hi x hx => (hR2.gout x (.inl (.inr ⟨i, hi, hx⟩))).2) (fun x hx => (hTF x hx).1)
        simp only [HM.run] at h10
        obtain ⟨h1, h2⟩ := newroot_chg (w' := w') (m := some (b, o + off)) (T := fun x => T x ∨ ∃ i, i < new.length ∧ Ts i x) (ys := ((ds.drop off).take (n * re.size)) ++ new) (G := fun _ => False) (E := fun x => T x ∨ ∃ i, i < new.length ∧ Ts i x) (S := fun x => x = b) hX
          (hR2.weak (fun x hx => by
            rcases hx with hx | hx | hx
            · exact hx.elim
            · exact .inr hx
            · exact .inl (.inr hx))) (hNN fr hf) s2 (fun x hx => by subst hx; exact .inl c2) hext (fun x hx => .inl ⟨hx, fun h => h⟩)
        refine ⟨.ref fr [] re.size 0 (n + m) capr, _, _, _, _, h10, h1, ?_, ?_, ?_, ?_⟩
        · have := (hKK U).trans (h2 U hU)
          simpa [ht2'] using this
        · refine .ref fr [] re.size 0 (n + m) capr _ c hin (fun q hq => hc q (hcr q hq)) (fun e => by simp at e) fun cs' res ds' hk' hq' => ?_
          simp only [upd, if_true] at hk'
          injection hk' with hk'; subst hk'
          obtain ⟨e, rfl⟩ := hq'
          simp only [updM, if_true] at e
          subst e
          refine .inr ⟨rfl, fun _ => ?_, fun arr2 ha2 => ?_⟩
          · rw [List.length_append, hdl, hnl]; omega
          · rw [ha2.uniq s3.rblk, s4]; exact ⟨by omega, fun hz => s2.um b c1.rblk.lt ((hA3 arr c1.rblk).2 hz)⟩
        · intro k hk; simp [qf6] at hk; right; omega
        · exact keep_fresh hNN
    · have hsrc : SrcOK P w re.size n (.slice (some ⟨b, o + off, none⟩) n c) ((List.range (n * re.size)).map vs) := src_load (by simp) fun j hj => by
        simp only [List.length_map, List.length_range] at hj
        simp only [List.getElem_map, List.getElem_range]
        rw [cell?_of c1.rblk]; exact c4 j (by omega)
      obtain ⟨z, hz, hrun⟩ := hA.grow _ _ _ _ hsrc (by omega) hlim
      refine ⟨_, _, hrun, ?_⟩
      have hO := join_ow (w := w) (X := X) (olds := ((ds.drop off).take (n * re.size))) (new := new) (os := (List.range (n * re.size)).map vs) (vals := vals) (Os := Os) (Ts := Ts) (by simp; omega) S.vlen (fun i hi hi' => by simpa using c5 i hi) S.ow
      have hD := join_dis (olds := ((ds.drop off).take (n * re.size))) (new := new) (Os := Os) (Ts := Ts) c8 S.dis (fun i j hi hj x hx hx' => (hTF x (c6 i hi x hx)).2 ⟨j, hj, hx'⟩)
      have hG := hR2.weak (G' := fun x => False ∨ ∃ i, i < (((ds.drop off).take (n * re.size)) ++ new).length ∧ (if i < ((ds.drop off).take (n * re.size)).length then Os i else Ts (i - ((ds.drop off).take (n * re.size)).length)) x) (fun x hx => by
        rcases hx with hx | ⟨i, hi, hx⟩
        · exact .inl (.inl hx)
        · by_cases c : i < ((ds.drop off).take (n * re.size)).length
          · rw [if_pos c] at hx; exact .inr (c6 i c x hx)
          · rw [if_neg c] at hx; rw [List.length_append] at hi; exact .inl (.inr ⟨_, by omega, hx⟩))
      rw [hcr0 (by omega)] at h10
      have := grow_op (vs := (List.range (n * re.size)).map vs ++ vals) (e := e) (nn := n + m) (cap := grownCap w (n + m) c e) hX hG hKK hNN ht2' hf hU hz hre.zl hre.zleaf (by rw [List.length_append, hdl, S.len, Nat.add_mul]) (by rw [List.length_append, List.length_append, S.vlen, hdl]; simp) (grownCap_ge w (n + m) c e) hO hD h10
      simpa using this


theorem app_ref {K : AV → Heap → Tr → Option R} {r : R} {t' : Tr} {F' : Nat → Nat → Prop} {H' : Heap} (hX : X.WF) {ts : Array TypeId} {ty' e : TypeId} {re : Row} (hre : RowOK P e re)
    {m : Nat} {u ud : Value} {new : List AV} {vals : List Value} {Ts : Nat → Nat → Prop} (S : Src0 X μ F' H H' w re.size m new vals Ts) (hA : AppRun P w ts ty' e re m u vals) (ht : t'.kl = []) (hf : H fr = none) (hU : ∀ k, U k → k ≠ fr)
    {k : Nat} {p : List Nat} {z off n : Nat} {cap : Option Nat} (hx : RV X μ H w (.ref k p z off n cap) ud) (hkU : ∀ j, j ∈ qf6 (.ref k p z off n cap) → U j) (h : (qa8 re (.ref k p z off n cap) m new fr).run H' t' K = some r) :
    ∃ z w', (Builtin.append_ ts ty' #[ud, u]).run P w = .ok z w' ∧ OP X U fr μ H w K r z w' := by
  unfold qa8 at h
  simp only [qb2, HM.bind, HM.run] at h
  cases hk : H' k with
  | none => simp [hk] at h
  | some cs =>
  simp only [hk] at h
  cases hs : sub p cs with
  | none => simp [hs, HM.bind, HM.run] at h
  | some ds =>
  simp only [hs, HM.bind] at h
  obtain ⟨hg, h8⟩ := guardB_run' h
  clear h
  simp only [Bool.and_eq_true, beq_iff_eq, decide_eq_true_eq] at hg
  obtain ⟨rfl, hlim⟩ := hg
  cases hoff : decide (off + n * re.size = ds.length) with
  | false =>
    rw [hoff] at h8
    simp only [cond_false] at h8
    cases hm0 : decide (m = 0) with
    | true =>
      rw [hm0] at h8
      simp only [cond_true] at h8
      have hm0 := of_decide_eq_true hm0
      subst hm0
      have hv : vals = [] := List.eq_nil_of_length_eq_zero (by rw [S.vlen, S.len]; simp)
      subst hv
      have hx' := hx.keep0 S.keep
      cases hx with
      | ref _ _ _ _ _ _ A c hn hc hAn hh =>
      refine ⟨_, w, hA.here A n c w (by omega) (fun a ha => by simp [storeCells]) (fun _ => rfl), ?_⟩
      exact ⟨_, μ, F', H', _, h8, S.rel.weak fun b hb => hb.elim, by rw [ht]; exact S.keep U, hx', fun j hj => .inl (hkU j hj), fun k hk _ => S.none k hk⟩
    | false =>
    rw [hm0] at h8
    simp only [cond_false] at h8
    cases hcs : (cap.isSome && decide (cap.getD 0 < n + m)) with
    | true =>
      rw [hcs] at h8
      simp only [cond_true] at h8
      obtain ⟨hg2, h9⟩ := guardB_run' h8
      clear h8
      simp only [Bool.and_eq_true, decide_eq_true_eq, Bool.not_eq_true'] at hg2 hcs
      obtain ⟨g2, hown⟩ := hg2
      obtain ⟨hcs, g1⟩ := hcs
      obtain ⟨q, rfl⟩ := Option.isSome_iff_exists.mp hcs
      simp only [Option.getD_some] at g1
      have hx' := hx.keep0 S.keep
      cases hx' with
      | ref _ _ _ _ _ _ A c hn hc hAn hh =>
      have hcq := hc q rfl
      rw [← hcq] at g1
      have hm0 := of_decide_eq_false hm0
      by_cases hn0 : n = 0
      · subst hn0
        simp only [Nat.zero_mul, List.take_zero, List.nil_append, Nat.zero_add] at h9 hlim g1
        obtain ⟨z, hz, hrun⟩ := hA.grow A 0 c [] (src_nil (w := w)) (by omega) (by omega)
        refine ⟨_, _, hrun, ?_⟩
        have hgc := grownCap_ge w (0 + m) c e
        simp only [Nat.zero_add] at hgc ⊢
        have := grow_op (vs := vals) (e := e) (nn := m) (cap := grownCap w m c e) hX S.rel S.keep S.none (t' := ⟨k :: t'.rd, t'.wr, t'.kl, t'.nt⟩) ht hf hU hz hre.zl hre.zleaf S.len S.vlen hgc S.ow S.dis h9
        simpa using this
      · obtain ⟨res, T, hq, hat, _⟩ := look_at (show Rel X μ F' H' w (fun _ => False) from S.rel.weak fun b hb => hb.elim) hk hs
        have hok := hh cs res ds hk hq
        cases res with
        | none =>
          have hc0 : c = 0 := hok
          omega
        | some bo =>
        obtain ⟨b, o⟩ := bo
        rcases hok with ⟨h0, _⟩ | ⟨hA1, hA2, hA3⟩
        · omega
        subst hA1
        obtain ⟨arr, vs, Os, c1, c2, c3, c4, c5, c6, c7, c8⟩ := Cells.range hat off (n * re.size) g2
        have hdl : ((ds.drop off).take (n * re.size)).length = n * re.size := by simp; omega
        have hsrc : SrcOK P w re.size n (.slice (some ⟨b, o + off, none⟩) n c) ((List.range (n * re.size)).map vs) := src_load (by simp) fun j hj => by
          simp only [List.length_map, List.length_range] at hj
          simp only [List.getElem_map, List.getElem_range]
          rw [cell?_of c1.rblk]; exact c4 j (by omega)
        obtain ⟨z, hz, hrun⟩ := hA.grow _ _ _ _ hsrc (by omega) hlim
        refine ⟨_, _, hrun, ?_⟩
        have hO := join_ow (w := w) (X := X) (olds := (ds.drop off).take (n * re.size)) (new := new) (os := (List.range (n * re.size)).map vs) (vals := vals) (Os := fun _ _ => False) (Ts := Ts) (by simp; omega) S.vlen (fun i hi hi' => by
          have h1 := List.any_eq_false.mp hown _ (List.getElem_mem hi)
          have := (c5 i hi).bare (T' := fun _ => False) (by simpa using h1)
          have e : ((List.range (n * re.size)).map vs)[i] = vs i := by simp
          rw [e]; exact this) S.ow
        have hD := join_dis (olds := (ds.drop off).take (n * re.size)) (new := new) (Os := fun _ _ => False) (Ts := Ts) (fun _ _ _ _ _ _ h => h.elim) S.dis (fun i j hi hj x hx hx' => hx.elim)
        have hG := S.rel.weak (G' := fun x => False ∨ ∃ i, i < ((ds.drop off).take (n * re.size) ++ new).length ∧ (if i < ((ds.drop off).take (n * re.size)).length then (fun _ => False) else Ts (i - ((ds.drop off).take (n * re.size)).length)) x) (fun x hx => by
          rcases hx with hx | ⟨i, hi, hx⟩
          · exact .inl hx
          · by_cases c : i < ((ds.drop off).take (n * re.size)).length
            · rw [if_pos c] at hx; exact hx.elim
            · rw [if_neg c] at hx; rw [List.length_append] at hi; exact .inr ⟨_, by omega, hx⟩)
        have := grow_op (vs := (List.range (n * re.size)).map vs ++ vals) (e := e) (nn := n + m) (cap := grownCap w (n + m) c e) hX hG S.keep S.none (t' := ⟨k :: t'.rd, t'.wr, t'.kl, t'.nt⟩) ht hf hU hz hre.zl hre.zleaf (by rw [List.length_append, hdl, S.len, Nat.add_mul]) (by rw [List.length_append, List.length_append, S.vlen, hdl]; simp) (grownCap_ge w (n + m) c e) hO hD h9
        simpa using this
    | false =>
    rw [hcs] at h8
    simp only [cond_false] at h8
    cases hfit0 : decide (ds.length < off + (n + m) * re.size) with
    | true =>
      rw [hfit0] at h8
      simp only [cond_true] at h8
      obtain ⟨cs', ds', H2, t2, F2, T, res, h9, ht2, hk', hs', hq, hat, hR2, hTG, hK2, hN2, _⟩ := takeOut_sound S.rel h8
      rw [hk] at hk'; injection hk' with hk'; subst hk'
      rw [hs] at hs'; injection hs' with hs'; subst hs'
      obtain ⟨hle, h10⟩ := guardB_run' h9
      exact app_after hX hre S hA (by rw [ht2]; exact ht) hf hU hx hk hq hat hR2 hTG (fun U => by simpa using (S.keep U).trans (hK2 U)) (fun j hj => hN2 j (S.none j hj)) (of_decide_eq_true hle) hlim (fun q hq => by simp at hq) (fun _ => rfl) h10
    | false =>
    rw [hfit0] at h8
    simp only [cond_false] at h8
    obtain ⟨hg2, h9⟩ := guardB_run' h8
    clear h8
    simp only [Bool.and_eq_true, Option.isNone_iff_eq_none, decide_eq_true_eq, Bool.or_eq_true, Bool.not_eq_true'] at hg2
    obtain ⟨⟨⟨hcap, hfit⟩, hpos⟩, hpo⟩ := hg2
    simp only [HM.run, hk] at h9
    have hnl := S.len
    obtain ⟨b, o, T, q1, q2, w', F2, s1, r1, r2⟩ := put_sound (P := P) (off := off + n * re.size) (vs := vals) hX S.rel S.keep hk hs hpos (by rw [hnl]; rw [Nat.add_mul] at hfit; omega) S.vlen.symm S.ow S.dis
    have hx' := hx.keep0 S.keep
    cases hx' with
    | ref _ _ _ _ _ _ A c hn hc hAn hh =>
    have hok := hh cs _ ds hk q1
    have hin : n + m ≤ c ∧ A = some ⟨b, o + off, none⟩ := by
      have hm0 : 0 < m := by
        rcases Nat.eq_zero_or_pos m with e | e
        · rw [hnl, e] at hpos; simp at hpos
        · exact e
      rcases hcap with hcap | hcap
      · subst hcap
        rcases hok with ⟨h0, h1⟩ | ⟨h1, h2, h3⟩
        · have := h1 rfl
          rw [Nat.add_mul] at hfit; omega
        · have h2 := h2 rfl
          refine ⟨Nat.le_of_mul_le_mul_right (c := re.size) (by omega) ?_, h1⟩
          rcases Nat.eq_zero_or_pos re.size with e | e
          · rw [hnl, e] at hpos; simp at hpos
          · exact e
      · cases cap with
        | none => simp at hcap; omega
        | some q =>
          have hq' := hc q rfl
          simp only [Option.getD_some] at hcap
          rcases hok with ⟨h0, h1⟩ | ⟨h1, h2, h3⟩
          · omega
          · exact ⟨by omega, h1⟩
    obtain ⟨hin, rfl⟩ := hin
    refine ⟨_, w', hA.here _ _ _ w' hin (fun a ha => ?_) (fun h => by simp at h), ?_⟩
    · injection ha with ha; subst ha
      rw [add_spot, Nat.add_assoc]; exact s1
    have hnew : ∀ ks, Keep (fun _ => True) ks μ H w μ (upd H' k (some (modp p (fun xs => setAt xs (off + n * re.size) new) cs))) w' → qc2 ks (.ref k p re.size off n cap) = .ref k p re.size off n cap →
        RV X μ (upd H' k (some (modp p (fun xs => setAt xs (off + n * re.size) new) cs))) w' (.ref k p re.size off (n + m) cap) (.slice (some ⟨b, o + off, none⟩) (n + m) c) := by
      intro ks hK he
      have := RV.keep hK hx (fun _ _ => trivial)
      rw [he] at this
      cases this with
      | ref _ _ _ _ _ _ _ _ _ hc2 _ hh2 => exact .ref k p re.size off (n + m) cap _ c hin hc2 (fun e => by simp at e) hh2
    cases hany : new.any qb8 with
    | true =>
      rw [hany] at h9 r2 hpo
      have hp : p = [] := by
        rcases hpo with h | h
        · simpa using h
        · simp at h
      subst hp
      simp only [cond_true, HM.run] at h9 r2
      exact ⟨_, μ, F2, _, _, h9, r1, by simpa [ht] using r2 U, hnew _ (r2 _) (by simp [qc2]), fun j hj => .inl (hkU j hj), store_sound.keep_fresh' S.none hk⟩
    | false =>
      rw [hany] at h9 r2
      simp only [cond_false, HM.run] at h9 r2
      exact ⟨_, μ, F2, _, _, h9, r1, by simpa [ht] using r2 U, hnew _ (r2 _) (killAV_nil _), fun j hj => .inl (hkU j hj), store_sound.keep_fresh' S.none hk⟩
  | true =>
  rw [hoff] at h8
  have hoff := of_decide_eq_true hoff
  simp only [cond_true] at h8
  obtain ⟨cs', ds', H2, t2, F2, T, res, h9, ht2, hk', hs', hq, hat, hR2, hTG, hK2, hN2, _⟩ := takeOut_sound S.rel h8
  rw [hk] at hk'; injection hk' with hk'; subst hk'
  rw [hs] at hs'; injection hs' with hs'; subst hs'
  obtain ⟨_, h10⟩ := guardB_run' h9
  clear h9 h8
  have htake : (ds.drop off).take (n * re.size) = ds.drop off := List.take_of_length_le (by simp; omega)
  rw [← htake] at h10
  exact app_after hX hre S hA (by rw [ht2]; exact ht) hf hU hx hk hq hat hR2 hTG (fun U => by simpa using (S.keep U).trans (hK2 U)) (fun j hj => hN2 j (S.none j hj)) (by omega) hlim (fun q hq => (capK_some hq).2) (fun h => capK_pos h) h10

theorem append_sound {K : AV → Heap → Tr → Option R} {r : R} {t' : Tr} {F' : Nat → Nat → Prop} {H' : Heap} (hX : X.WF) (hR : Rel X μ F H w (fun _ => False)) {ts : Array TypeId} {ty' e : TypeId} {re : Row} (hre : RowOK P e re)
    {m : Nat} {u ud : Value} {new : List AV} {vals : List Value} {Ts : Nat → Nat → Prop} (S : Src0 X μ F' H H' w re.size m new vals Ts) (hA : AppRun P w ts ty' e re m u vals) (ht : t'.kl = []) (hf : H fr = none) (hU : ∀ k, U k → k ≠ fr)
    {d : AV} (hx : RV X μ H w d ud) (hkU : ∀ j, j ∈ qf6 d → U j) (h : (qa8 re d m new fr).run H' t' K = some r) :
    ∃ z w', (Builtin.append_ ts ty' #[ud, u]).run P w = .ok z w' ∧ OP X U fr μ H w K r z w' := by
  unfold qa8 at h
  split at h
  · obtain ⟨hg, h9⟩ := guardB_run' h
    cases hx
    exact app_nil hX hre S hA ht hf hU (of_decide_eq_true hg) h9
  · obtain ⟨hg, h9⟩ := guardB_run' h
    clear h
    simp only [Bool.and_eq_true, Bool.or_eq_true, beq_iff_eq, decide_eq_true_eq] at hg
    obtain ⟨⟨⟨g1, g2⟩, g3⟩, g4⟩ := hg
    subst g1; subst g2
    exact app_sl hX hR hre S hA ht hf hU hx g3 g4 h9
  · exact app_ref hX hre S hA ht hf hU hx hkU h
  · simp [HM.run] at h

end
end Go.Proofs.Ythgopooldcheeaa.VH
end

