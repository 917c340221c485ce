/- Part of a proof about the given program: the verified evaluator and what it tells of the functions (VhDraw). Conditions: none beyond the hypotheses that each theorem states. -/
import Derived.Test.YtlmifbpihlcabaaVhStep
namespace Go.Proofs.Ytlmifbpihlcabaa.VH

/- Regions whose order is drawn. -/

def HM.exec {α : Type} : HM α → Heap → Tr → Option (α × Heap × Tr)
  | .ret a, H, t => some (a, H, t)
  | .fail, _, _ => none
  | .look k f, H, t => match H k with
    | some cs => (f cs).exec H { t with rd := k :: t.rd }
    | none => none
  | .put k c m, H, t => m.exec (upd H k c) { t with wr := k :: t.wr }
  | .kill k m, H, t => m.exec H { t with kl := k :: t.kl }

theorem HM.run_exec {α R : Type} (m : HM α) : ∀ (H : Heap) (t : Tr) (K : α → Heap → Tr → Option R), m.run H t K = (m.exec H t).bind fun (a, H', t') => K a H' t' := by
  induction m with
  | ret a => intro H t K; rfl
  | fail => intro H t K; rfl
  | look k f ih =>
    intro H t K
    simp only [HM.run, HM.exec]
    cases H k with
    | none => rfl
    | some cs => exact ih cs _ _ _
  | put k c m ih => intro H t K; exact ih _ _ _
  | kill k m ih => intro H t K; exact ih _ _ _

theorem HM.exec_local {α : Type} (m : HM α) : ∀ (H : Heap) (t : Tr) (a : α) (H' : Heap) (t' : Tr), m.exec H t = some (a, H', t') →
    (∀ k, k ∈ t.rd → k ∈ t'.rd) ∧ (∀ k, k ∈ t.wr → k ∈ t'.wr) ∧ (∀ k, k ∉ t'.wr → H' k = H k) ∧
    ∀ H1 : Heap, (∀ k, k ∈ t'.rd ∨ k ∈ t.wr → H1 k = H k) → ∃ H1', m.exec H1 t = some (a, H1', t') ∧ (∀ k, k ∈ t'.wr → H1' k = H' k) ∧ ∀ k, k ∉ t'.wr → H1' k = H1 k := by
  induction m with
  | ret a =>
    intro H t a' H' t' h
    simp only [HM.exec, Option.some.injEq, Prod.mk.injEq] at h
    obtain ⟨rfl, rfl, rfl⟩ := h
    exact ⟨fun _ h => h, fun _ h => h, fun _ _ => rfl, fun H1 hH => ⟨H1, rfl, fun k hk => hH k (.inr hk), fun _ _ => rfl⟩⟩
  | fail => intro H t a' H' t' h; simp [HM.exec] at h
  | look k f ih =>
    intro H t a' H' t' h
    simp only [HM.exec] at h
    cases hk : H k with
    | none => simp [hk] at h
    | some cs =>
      simp only [hk] at h
      obtain ⟨h1, h2, h3, h4⟩ := ih cs H _ a' H' t' h
      refine ⟨fun j hj => h1 j (List.mem_cons_of_mem _ hj), h2, h3, fun H1 hH => ?_⟩
      obtain ⟨H1', g1, g2, g3⟩ := h4 H1 hH
      refine ⟨H1', ?_, g2, g3⟩
      simp only [HM.exec, hH k (.inl (h1 k (by simp))), hk]
      exact g1
  | put k c m ih =>
    intro H t a' H' t' h
    simp only [HM.exec] at h
    obtain ⟨h1, h2, h3, h4⟩ := ih _ _ a' H' t' h
    refine ⟨h1, fun j hj => h2 j (List.mem_cons_of_mem _ hj), fun j hj => ?_, fun H1 hH => ?_⟩
    · rw [h3 j hj]
      have : j ≠ k := fun e => hj (h2 j (by rw [e]; simp))
      simp [upd, this]
    · obtain ⟨H1', g1, g2, g3⟩ := h4 (upd H1 k c) fun j hj => by
        simp only [upd]
        by_cases e : j = k
        · rw [if_pos e, if_pos e]
        · rw [if_neg e, if_neg e]
          refine hH j (hj.imp id fun hh => ?_)
          rcases List.mem_cons.mp hh with hh | hh
          · exact absurd hh e
          · exact hh
      refine ⟨H1', g1, g2, fun j hj => ?_⟩
      rw [g3 j hj]
      have : j ≠ k := fun e => hj (h2 j (by rw [e]; simp))
      simp [upd, this]
  | kill k m ih =>
    intro H t a' H' t' h
    exact ih H _ a' H' t' h

/-- an operation by itself -/
def stepX (E : Env) (C : Oracle) (ops : Array Oper) (i : Nat) (o : Oper) (S : St) : Option (St × Tr) := stepOp E C ops i o S fun S' t => some (S', t)

theorem stepX_eq {R : Type} (E : Env) (C : Oracle) (ops : Array Oper) (i : Nat) (o : Oper) (S : St) (K : St → Tr → Option R) : stepOp E C ops i o S K = (stepX E C ops i o S).bind fun (S', t) => K S' t := by
  have run : (execOp E C o.op (opnd S.T) (S.nx + 8 * i)).run S.H {} (fun v H' t => K { S with T := putT (killT t.kl S.T) o.dst v, H := H' } t) =
      ((execOp E C o.op (opnd S.T) (S.nx + 8 * i)).run S.H {} (fun v H' t => some (({ S with T := putT (killT t.kl S.T) o.dst v, H := H' } : St), t))).bind fun (S', t) => K S' t := by
    rw [HM.run_exec, HM.run_exec]
    cases (execOp E C o.op (opnd S.T) (S.nx + 8 * i)).exec S.H {} with
    | none => rfl
    | some x => rfl
  unfold stepX stepOp
  cases o.guard with
  | none => exact run
  | some g =>
    obtain ⟨j, want⟩ := g
    simp only
    cases (ops[j]?).bind (·.dst) with
    | none => rfl
    | some t =>
      simp only
      cases S.T t with
      | val u =>
        cases u with
        | bool b =>
          simp only
          cases (b == want) with
          | true => exact run
          | false => rfl
        | _ => rfl
      | _ => rfl

theorem execOp_congrA {E : Env} {C : Oracle} {op : Op} {ev ev' : Operand → AV} {fr : Nat} (h : ∀ x ∈ op.operands, ev x = ev' x) : VH.execOp E C op ev fr = VH.execOp E C op ev' fr := by
  have pairs : ∀ ps : List (Nat × Operand), (∀ x ∈ ps.map (·.2), ev x = ev' x) → (ps.map fun (i, x) => (i, ev x)) = (ps.map fun (i, x) => (i, ev' x)) := fun ps hp =>
    List.map_congr_left fun p hm => by
      obtain ⟨i, x⟩ := p
      simp only [hp x (List.mem_map.2 ⟨(i, x), hm, rfl⟩)]
  have pairs' : ∀ ps : List (Nat × Operand), (∀ x ∈ ps.map (·.2), ev x = ev' x) → (ps.map fun (i, x) => (i, cellsOf (ev x))) = (ps.map fun (i, x) => (i, cellsOf (ev' x))) := fun ps hp =>
    List.map_congr_left fun p hm => by
      obtain ⟨i, x⟩ := p
      simp only [hp x (List.mem_map.2 ⟨(i, x), hm, rfl⟩)]
  have gen : ∀ l : List (Nat × Operand), (∀ p ∈ l, ev p.2 = ev' p.2) → (l.flatMap fun p => cellsOf (ev p.2)) = (l.flatMap fun p => cellsOf (ev' p.2)) ∧ (∀ z, (l.all fun p => solid (ev p.2) && decide ((cellsOf (ev p.2)).length = z)) = l.all fun p => solid (ev' p.2) && decide ((cellsOf (ev' p.2)).length = z)) ∧ (l.all fun p => solid (ev p.2)) = l.all fun p => solid (ev' p.2) := by
    intro l
    induction l with
    | nil => exact fun _ => ⟨rfl, fun _ => rfl, rfl⟩
    | cons p l ih =>
      intro hl
      obtain ⟨i1, i2, i3⟩ := ih fun q hq => hl q (List.mem_cons_of_mem _ hq)
      have hp := hl p (List.mem_cons_self ..)
      exact ⟨by simp only [List.flatMap_cons, hp, i1], fun z => by simp only [List.all_cons, hp, i2 z], by simp only [List.all_cons, hp, i3]⟩
  cases op <;> simp only [Op.operands] at h <;> simp only [VH.execOp]
  case build t ps =>
    have hps : ∀ p ∈ ps.toList, ev p.2 = ev' p.2 := fun p hp => h p.2 (by simp only [List.mem_toArray, List.mem_map]; exact ⟨p, hp, rfl⟩)
    rw [pairs' ps.toList fun x hx => h x (by simpa using hx), (gen ps.toList hps).2.2]
  case buildSlice t n ps =>
    have hps : ∀ p ∈ ps.toList, ev p.2 = ev' p.2 := fun p hp => h p.2 (by simp only [List.mem_toArray, List.mem_map]; exact ⟨p, hp, rfl⟩)
    obtain ⟨e1, e2, _⟩ := gen ps.toList hps
    simp only [e1, e2]
  case makeFunc fn first captured =>
    have := List.map_congr_left (l := captured.toList) (f := ev) (g := ev') fun x hx => h x (by simp at hx; simp [hx])
    cases fn <;> simp only [this]
  case call c =>
    have hargs : c.args.toList.map ev = c.args.toList.map ev' := List.map_congr_left fun x hx => h x (by simp at hx; simp [Call.operands, hx])
    obtain ⟨callee, args, argTypes⟩ := c
    cases callee with
    | value f => have hf : ev f = ev' f := h f (by simp [Call.operands]); simp only [hf]; rw [hargs]
    | invoke r m => rfl
    | builtin b => simp only []; rw [hargs]
  case slice t x lo hi mx => cases lo <;> cases hi <;> cases mx <;> simp_all
  all_goals (first | rfl | (simp_all; done))

theorem opnd_congr {T T' : Nat → AV} {ops : Array Oper} {o : Oper} (h : ∀ x, x ∈ o.looksAt ops → T x = T' x) : ∀ x ∈ o.op.operands, opnd T x = opnd T' x := by
  intro x hx
  cases x with
  | tmp t =>
    exact h t (List.mem_append_left _ (List.mem_filterMap.2 ⟨.tmp t, by simpa using hx, rfl⟩))
  | const v => cases v <;> rfl
  | _ => rfl

/-- what a step does, looked at from outside -/
theorem stepX_inv {E : Env} {C : Oracle} {ops : Array Oper} {i : Nat} {o : Oper} {S S' : St} {t : Tr} (h : stepX E C ops i o S = some (S', t)) (hkl : t.kl = []) :
    ∃ v : AV, S'.T = putT S.T o.dst v ∧ S'.nx = S.nx ∧ (∀ k, k ∉ t.wr → S'.H k = S.H k) ∧
      ∀ S1 : St, S1.nx = S.nx → (∀ x, x ∈ o.looksAt ops → S1.T x = S.T x) → (∀ k, k ∈ t.rd → S1.H k = S.H k) →
        ∃ S1', stepX E C ops i o S1 = some (S1', t) ∧ S1'.T = putT S1.T o.dst v ∧ S1'.nx = S1.nx ∧ (∀ k, k ∈ t.wr → S1'.H k = S'.H k) ∧ ∀ k, k ∉ t.wr → S1'.H k = S1.H k := by
  have core : ∀ (S' : St), ((VH.execOp E C o.op (opnd S.T) (S.nx + 8 * i)).run S.H {} fun v H' t => some (({ S with T := putT (killT t.kl S.T) o.dst v, H := H' } : St), t)) = some (S', t) →
      ∃ v : AV, S'.T = putT S.T o.dst v ∧ S'.nx = S.nx ∧ (∀ k, k ∉ t.wr → S'.H k = S.H k) ∧
      ∀ S1 : St, S1.nx = S.nx → (∀ x, x ∈ o.looksAt ops → S1.T x = S.T x) → (∀ k, k ∈ t.rd → S1.H k = S.H k) →
        ∃ S1' : St, ((VH.execOp E C o.op (opnd S1.T) (S1.nx + 8 * i)).run S1.H {} fun v H' t => some (({ S1 with T := putT (killT t.kl S1.T) o.dst v, H := H' } : St), t)) = some (S1', t) ∧
          S1'.T = putT S1.T o.dst v ∧ S1'.nx = S1.nx ∧ (∀ k, k ∈ t.wr → S1'.H k = S'.H k) ∧ ∀ k, k ∉ t.wr → S1'.H k = S1.H k := by
    intro S' h
    rw [HM.run_exec] at h
    cases he : (VH.execOp E C o.op (opnd S.T) (S.nx + 8 * i)).exec S.H {} with
    | none => simp [he] at h
    | some x =>
      obtain ⟨v, H', t'⟩ := x
      simp only [he, Option.bind_some, Option.some.injEq, Prod.mk.injEq] at h
      obtain ⟨rfl, rfl⟩ := h
      obtain ⟨_, _, h3, h4⟩ := HM.exec_local _ _ _ _ _ _ he
      refine ⟨v, by simp only [hkl]; rfl, rfl, h3, fun S1 hn hT hH => ?_⟩
      obtain ⟨H1', g1, g2, g3⟩ := h4 S1.H fun k hk => hk.elim (hH k) fun hk => by simp at hk
      refine ⟨{ S1 with T := putT (killT t'.kl S1.T) o.dst v, H := H1' }, ?_, by simp only [hkl]; rfl, rfl, g2, g3⟩
      rw [HM.run_exec, hn, execOp_congrA (opnd_congr hT), g1]
      rfl
  unfold stepX stepOp at h
  cases hg : o.guard with
  | none =>
    simp only [hg] at h
    obtain ⟨v, h1, h2, h3, h4⟩ := core S' h
    refine ⟨v, h1, h2, h3, fun S1 a b c => ?_⟩
    unfold stepX stepOp
    simp only [hg]
    exact h4 S1 a b c
  | some g =>
    obtain ⟨j, want⟩ := g
    simp only [hg] at h
    cases hj : (ops[j]?).bind (·.dst) with
    | none => simp [hj] at h
    | some x =>
      simp only [hj] at h
      have hx : x ∈ o.looksAt ops := by simp [Oper.looksAt, hg, hj]
      cases hT : S.T x with
      | val u =>
        cases u with
        | bool b =>
          simp only [hT] at h
          cases hb : (b == want) with
          | true =>
            simp only [hb, cond_true] at h
            obtain ⟨v, h1, h2, h3, h4⟩ := core S' h
            refine ⟨v, h1, h2, h3, fun S1 a b' c => ?_⟩
            unfold stepX stepOp
            simp only [hg, hj, b' x hx, hT, hb, cond_true]
            exact h4 S1 a b' c
          | false =>
            simp only [hb, cond_false, Option.some.injEq, Prod.mk.injEq] at h
            obtain ⟨rfl, rfl⟩ := h
            refine ⟨.und, rfl, rfl, fun _ _ => rfl, fun S1 a b' c => ⟨{ S1 with T := putT S1.T o.dst .und }, ?_, rfl, rfl, fun k hk => by simp at hk, fun _ _ => rfl⟩⟩
            unfold stepX stepOp
            simp only [hg, hj, b' x hx, hT, hb, cond_false]
        | _ => simp [hT] at h
      | _ => simp [hT] at h

theorem clash_spec {a b : Tr} (h : clash a b = false) : (∀ k, k ∈ a.wr → k ∉ b.wr) ∧ (∀ k, k ∈ a.wr → k ∉ b.rd) ∧ (∀ k, k ∈ a.rd → k ∉ b.wr) ∧ a.kl = [] ∧ b.kl = [] := by
  simp only [clash, meets, Bool.or_eq_false_iff, Bool.not_eq_false', List.isEmpty_iff] at h
  obtain ⟨⟨⟨⟨h1, h2⟩, h3⟩, h4⟩, h5⟩ := h
  have k : ∀ {l m : List Nat}, (l.any fun x => m.contains x) = false → ∀ k, k ∈ l → k ∉ m := by
    intro l m h k hk hm
    have := List.any_eq_false.mp h k hk
    simp [hm] at this
  exact ⟨k h1, k h2, k h3, h4, h5⟩

theorem putT_comm {T : Nat → AV} {x y : Option Tmp} {v u : AV} (h : ∀ d, x = some d → y ≠ some d) : putT (putT T x v) y u = putT (putT T y u) x v := by
  cases x with
  | none => rfl
  | some d =>
    cases y with
    | none => rfl
    | some e =>
      have hne : d ≠ e := fun he => h d rfl (he ▸ rfl)
      funext t
      simp only [putT]
      by_cases h1 : t = d
      · subst h1; simp [hne]
      · by_cases h2 : t = e
        · subst h2; simp [h1]
        · simp [h1, h2]

theorem putT_other {T : Nat → AV} {d : Option Tmp} {v : AV} {x : Nat} (h : d ≠ some x) : putT T d v x = T x := by
  cases d with
  | none => rfl
  | some d =>
    simp only [putT]
    rw [if_neg]
    intro e; subst e; exact h rfl

/-- two operations that touch nothing in common change places -/
theorem stepX_comm {E : Env} {C : Oracle} {ops : Array Oper} {i j : Nat} {oi oj : Oper} {S S1 S2 : St} {ti tj : Tr} (h1 : stepX E C ops i oi S = some (S1, ti)) (h2 : stepX E C ops j oj S1 = some (S2, tj)) (hc : clash ti tj = false) (ha : oi.apart ops oj = true) :
    ∃ S1', stepX E C ops j oj S = some (S1', tj) ∧ stepX E C ops i oi S1' = some (S2, ti) := by
  obtain ⟨c1, c2, c3, k1, k2⟩ := clash_spec hc
  obtain ⟨a1, a2, a3⟩ := Oper.apart_spec ha
  obtain ⟨v, e1, e2, e3, e4⟩ := stepX_inv h1 k1
  obtain ⟨u, f1, f2, f3, f4⟩ := stepX_inv h2 k2
  obtain ⟨Sj, g1, g2, g3, g4, g5⟩ := f4 S e2.symm (fun x hx => by rw [e1, putT_other]; intro hd; exact a1 x hd hx) (fun k hk => (e3 k fun hw => c2 k hw hk).symm)
  obtain ⟨Si, p1, p2, p3, p4, p5⟩ := e4 Sj g3 (fun x hx => by rw [g2, putT_other]; intro hd; exact a3 x hd hx) (fun k hk => g5 k (c3 k hk))
  refine ⟨Sj, g1, ?_⟩
  rw [p1]
  congr 2
  have hT : Si.T = S2.T := by rw [p2, g2, f1, e1]; exact putT_comm fun d hd hd' => a2 d hd' hd
  have hn : Si.nx = S2.nx := by rw [p3, g3, f2, e2]
  have hH : Si.H = S2.H := by
    funext k
    by_cases hi : k ∈ ti.wr
    · rw [p4 k hi, f3 k (c1 k hi)]
    · rw [p5 k hi]
      by_cases hj : k ∈ tj.wr
      · rw [g4 k hj]
      · rw [g5 k hj, f3 k hj, e3 k hi]
  cases Si; cases S2
  simp only at hT hn hH
  subst hT; subst hn; subst hH
  rfl

/-- a run of operations -/
inductive RunX (E : Env) (C : Oracle) (ops : Array Oper) : List (Nat × Oper × Tr) → St → St → Prop
  | nil (S : St) : RunX E C ops [] S S
  | cons {i : Nat} {o : Oper} {t : Tr} {l : List (Nat × Oper × Tr)} {S S1 S2 : St} (h : stepX E C ops i o S = some (S1, t)) (r : RunX E C ops l S1 S2) : RunX E C ops ((i, o, t) :: l) S S2

theorem RunX.front {E : Env} {C : Oracle} {ops : Array Oper} {x : Nat × Oper × Tr} : ∀ {l1 l2 : List (Nat × Oper × Tr)} {S S2 : St}, RunX E C ops (l1 ++ x :: l2) S S2 → (∀ y ∈ l1, clash y.2.2 x.2.2 = false ∧ y.2.1.apart ops x.2.1 = true) →
    RunX E C ops (x :: (l1 ++ l2)) S S2 := by
  intro l1
  induction l1 with
  | nil => intro l2 S S2 h _; exact h
  | cons y l1 ih =>
    intro l2 S S2 h hy
    obtain ⟨i, o, t⟩ := y
    cases h with
    | cons h r =>
      have r' := ih r fun z hz => hy z (List.mem_cons_of_mem _ hz)
      obtain ⟨hc, ha⟩ := hy _ (List.mem_cons_self ..)
      obtain ⟨i', o', t'⟩ := x
      cases r' with
      | cons h' r' =>
        obtain ⟨S1', q1, q2⟩ := stepX_comm h h' hc ha
        exact .cons q1 (.cons q2 r')

theorem runOpsD_inv {R : Type} {E : Env} {C : Oracle} {ops : Array Oper} {K : St → Option R} {r : R} : ∀ (os : List Oper) (i : Nat) (tr : List (Nat × Tr)) (S : St), runOpsD E C ops i os tr S K = some r →
    ∃ (l : List (Nat × Oper × Tr)) (S' : St), RunX E C ops l S S' ∧ K S' = some r ∧ apartAll (bef ops ops.size) ((l.map fun x => (x.1, x.2.2)).reverse ++ tr) = true ∧ l.map (·.1) = List.range' i os.length ∧ l.map (·.2.1) = os := by
  intro os
  induction os with
  | nil =>
    intro i tr S h
    simp only [runOpsD] at h
    cases hb : apartAll (bef ops ops.size) tr with
    | false => simp [hb] at h
    | true => exact ⟨[], S, .nil S, by simpa [hb] using h, by simpa using hb, rfl, rfl⟩
  | cons o os ih =>
    intro i tr S h
    simp only [runOpsD, stepX_eq] at h
    cases hs : stepX E C ops i o S with
    | none => simp [hs] at h
    | some x =>
      obtain ⟨S1, t⟩ := x
      simp only [hs, Option.bind_some] at h
      obtain ⟨l, S', h1, h2, h3, h4, h5⟩ := ih (i + 1) ((i, t) :: tr) S1 h
      exact ⟨(i, o, t) :: l, S', .cons hs h1, h2, by simpa using h3, by simp [h4, List.range'_succ], by simp [h5]⟩

def dstOK (N : Nat) (o : Oper) : Bool := match o.dst with | some d => decide (d < N) | none => true

def drawOK (ops : Array Oper) : Bool := (List.range ops.size).all fun j => match ops[j]? with
  | some oj => oj.after.all (fun e => !Region.binds .any e || decide (e.on < j)) && (List.range j).all fun i => match ops[i]? with
    | some oi => oi.apart ops oj || bef ops ops.size i j
    | none => true
  | none => true

theorem drawOK_spec {ops : Array Oper} (h : drawOK ops = true) {j : Nat} {oj : Oper} (hj : ops[j]? = some oj) :
    (∀ e ∈ oj.after, Region.binds .any e = true → e.on < j) ∧ ∀ i oi, i < j → ops[i]? = some oi → oi.apart ops oj = true ∨ bef ops ops.size i j = true := by
  have hlt : j < ops.size := (Array.getElem?_eq_some_iff.mp hj).1
  have := List.all_eq_true.mp h j (List.mem_range.mpr hlt)
  simp only [hj, Bool.and_eq_true] at this
  obtain ⟨h1, h2⟩ := this
  refine ⟨fun e he hb => ?_, fun i oi hi ho => ?_⟩
  · have := Array.all_eq_true_iff_forall_mem.1 h1 e he
    simpa [hb] using this
  · have := List.all_eq_true.mp h2 i (List.mem_range.mpr hi)
    simpa [ho] using this

/-- what stands before a ready one is listed -/
theorem bef_listed {ops : Array Oper} {listed : Array Bool} (hcl : ∀ j oj, ops[j]? = some oj → listed.getD j false = true → ∀ e ∈ oj.after, Region.binds .any e = true → listed.getD e.on false = true) :
    ∀ (n i j : Nat) (oj : Oper), ops[j]? = some oj → (∀ e ∈ oj.after, Region.binds .any e = true → listed.getD e.on false = true) → bef ops n i j = true → listed.getD i false = true := by
  intro n
  induction n with
  | zero => intro i j oj _ _ h; simp [bef] at h
  | succ n ih =>
    intro i j oj hj hr h
    simp only [bef, hj] at h
    obtain ⟨e, he, hb⟩ := Array.any_eq_true'.1 h
    simp only [Bool.and_eq_true, Bool.or_eq_true, beq_iff_eq] at hb
    obtain ⟨hb, hi⟩ := hb
    have hl := hr e he hb
    rcases hi with hi | hi
    · rw [← hi]; exact hl
    · cases hk : ops[e.on]? with
      | none =>
        cases n with
        | zero => simp [bef] at hi
        | succ n => simp [bef, hk] at hi
      | some ok => exact ih i e.on ok hk (hcl e.on ok hk hl) hi

def Free (ops : Array Oper) (x y : Nat × Oper × Tr) : Prop := bef ops ops.size x.1 y.1 = true ∨ (clash x.2.2 y.2.2 = false ∧ x.2.1.apart ops y.2.1 = true)

theorem wpAny_run {P : Program} {E : Env} {C : Oracle} (hC : ExecSound P E C) {X : Cx} (hX : X.WF) {N nx : Nat} {ops : Array Oper} {Q : Exit → Act → World → Prop} {Sf : St}
    (hd : ∀ (i : Nat) (o : Oper), ops[i]? = some o → ∀ x, o.dst = some x → x < N) (hback : ∀ (j : Nat) (oj : Oper), ops[j]? = some oj → ∀ e ∈ oj.after, Region.binds .any e = true → e.on < j) :
    ∀ (fuel : Nat) (l : List (Nat × Oper × Tr)) (listed : Array Bool) (S : St) (μ : Nat → Option (Nat × Nat)) (F : Nat → Nat → Prop) (w : World) (a : Act), l.length = fuel → S.nx = nx → RunX E C ops l S Sf → l.Pairwise (fun x y => x.1 < y.1 ∧ Free ops x y) →
      (∀ x ∈ l, ops[x.1]? = some x.2.1) → listed.size = ops.size → (∀ i, i < ops.size → (listed.getD i true = false ↔ ∃ x ∈ l, x.1 = i)) →
      (∀ j oj, ops[j]? = some oj → listed.getD j false = true → ∀ e ∈ oj.after, Region.binds .any e = true → listed.getD e.on false = true) →
      SR X μ F S.H w N nx (fun j => listed.getD j false = true) S.T a →
      (∀ a' w' μ' F' ks, Sf.nx = nx → SR X μ' F' Sf.H w' N nx (fun j => j < ops.size) Sf.T a' → Keep (fun k => k < nx) ks μ S.H w μ' Sf.H w' → Q .normal a' w') →
      wpAny P .any ops Q fuel listed a w := by
  have getDB : ∀ (listed : Array Bool) (i : Nat), i < listed.size → (listed.getD i true = false ↔ ¬ listed.getD i false = true) := by
    intro listed i hi
    simp [Array.getD_eq_getD_getElem?, Array.getElem?_eq_getElem hi]
  intro fuel
  induction fuel with
  | zero =>
    intro l listed S μ F w a hl hnx hrun _ _ hsz hun _ hS hQ
    have : l = [] := List.eq_nil_of_length_eq_zero hl
    subst this
    cases hrun
    refine ⟨?_, hQ a w μ F [] hnx (hS.congrD fun j => ?_) (Keep.refl _ _ _ _)⟩
    · cases hr : Region.ready .any ops listed with
      | nil => rfl
      | cons i rs =>
        have hm : i ∈ Region.ready .any ops listed := by rw [hr]; simp
        obtain ⟨h0, o, ho, _⟩ := mem_ready.1 hm
        have := (hun i (Array.getElem?_eq_some_iff.mp ho).1).1 h0
        obtain ⟨x, hx, _⟩ := this
        simp at hx
    · constructor
      · intro h
        rcases Nat.lt_or_ge j listed.size with h' | h'
        · omega
        · simp [Array.getElem?_eq_none h'] at h
      · intro h
        have hn : ¬ listed.getD j true = false := fun hh => by obtain ⟨x, hx, _⟩ := (hun j h).1 hh; simp at hx
        exact Classical.byContradiction fun hh => hn ((getDB listed j (by omega)).2 hh)
  | succ fuel ih =>
    intro l listed S μ F w a hl hnx hrun hpw hops hsz hun hcl hS hQ
    refine ⟨fun hr => ?_, fun i hi => ?_⟩
    · exfalso
      cases l with
      | nil => simp at hl
      | cons x l =>
        have hx := hops x (by simp)
        have hxl := (Array.getElem?_eq_some_iff.mp hx).1
        have : x.1 ∈ Region.ready .any ops listed := mem_ready.2 ⟨(hun x.1 hxl).2 ⟨x, by simp, rfl⟩, x.2.1, hx, fun e he hb => by
          have hlt := hback x.1 x.2.1 hx e he hb
          refine Classical.byContradiction fun hh => ?_
          obtain ⟨y, hy, hye⟩ := (hun e.on (by omega)).1 ((getDB listed e.on (by omega)).2 hh)
          rcases List.mem_cons.mp hy with rfl | hy
          · omega
          · have := (List.pairwise_cons.mp hpw).1 y hy
            omega⟩
        rw [hr] at this
        simp at this
    · obtain ⟨h0, o, ho, hdeps⟩ := mem_ready.1 hi
      have hil := (Array.getElem?_eq_some_iff.mp ho).1
      obtain ⟨x, hx, hxi⟩ := (hun i hil).1 h0
      obtain ⟨l1, l2, rfl⟩ := List.append_of_mem hx
      have hxo : x.2.1 = o := by have := hops x hx; rw [hxi, ho] at this; exact (Option.some.inj this).symm
      have hnot : ∀ y ∈ l1 ++ x :: l2, ¬ listed.getD y.1 false = true := fun y hy => (getDB listed y.1 (by rw [hsz]; exact (Array.getElem?_eq_some_iff.mp (hops y hy)).1)).1 ((hun y.1 (Array.getElem?_eq_some_iff.mp (hops y hy)).1).2 ⟨y, hy, rfl⟩)
      have hfront := hrun.front fun y hy => by
        have hp := (List.pairwise_append.mp hpw).2.2 y hy x (by simp)
        rcases hp.2 with hb | hb
        · exfalso
          rw [hxi] at hb
          exact hnot y (List.mem_append_left _ hy) (bef_listed hcl _ _ i o ho hdeps hb)
        · exact hb
      obtain ⟨i', o', t⟩ := x
      simp only at hxi hxo
      subst hxi; subst hxo
      cases hfront with
      | cons hstep hrun' =>
        rename_i S1
        have hDi : ¬ listed.getD i' false = true := hnot _ hx
        have hS0 : SR X μ F S.H w N S.nx (fun j => listed.getD j false = true) S.T a := by rw [hnx]; exact hS
        refine stepOp_sound (r := (S1, t)) (K := fun S' t => some (S', t)) hC hX hS0 ho hDi (hd i' o' ho) hstep fun S' t' a' w' μ' F' hk hnx' hS' hkeep => ?_
        simp only [Option.some.injEq, Prod.mk.injEq] at hk
        obtain ⟨rfl, rfl⟩ := hk
        have hset : ∀ j, (listed.setIfInBounds i' true).getD j false = true ↔ (listed.getD j false = true ∨ j = i') := by
          intro j
          by_cases hj : j = i'
          · subst hj
            simp [Array.getD_eq_getD_getElem?, Array.getElem?_setIfInBounds_self_of_lt (show j < listed.size by omega)]
          · rw [getD_set_ne false (fun e => hj e.symm)]
            simp [hj]
        have hsub : (l1 ++ l2).Sublist (l1 ++ (i', o', t') :: l2) := List.Sublist.append (List.Sublist.refl l1) (List.sublist_cons_self _ _)
        refine ih (l1 ++ l2) (listed.setIfInBounds i' true) S' μ' F' w' a' (by simp at hl ⊢; omega) (hnx'.trans hnx) hrun' (hpw.sublist hsub) (fun y hy => hops y (hsub.subset hy)) (by simpa using hsz) (fun j hj => ?_) (fun j oj hoj hjl e he hb => ?_) ?_ ?_
        · by_cases hji : j = i'
          · subst hji
            have h1 : ¬ (listed.setIfInBounds j true).getD j true = false := by
              simp [Array.getD_eq_getD_getElem?, Array.getElem?_setIfInBounds_self_of_lt (show j < listed.size by omega)]
            refine ⟨fun h => absurd h h1, ?_⟩
            rintro ⟨y, hy, hyj⟩
            exfalso
            rcases List.mem_append.mp hy with hy | hy
            · have := (List.pairwise_append.mp hpw).2.2 y hy (j, o', t') (by simp)
              have := this.1; omega
            · have := (List.pairwise_cons.mp (List.pairwise_append.mp hpw).2.1).1 y hy
              have := this.1; simp only at this; omega
          · rw [getD_set_ne true (fun e => hji e.symm), hun j hj]
            constructor
            · rintro ⟨y, hy, hyj⟩
              refine ⟨y, ?_, hyj⟩
              rcases List.mem_append.mp hy with hy | hy
              · exact List.mem_append_left _ hy
              · rcases List.mem_cons.mp hy with rfl | hy
                · exact absurd hyj.symm hji
                · exact List.mem_append_right _ hy
            · rintro ⟨y, hy, hyj⟩
              exact ⟨y, hsub.subset hy, hyj⟩
        · rw [hset] at hjl ⊢
          rcases hjl with hjl | rfl
          · exact .inl (hcl j oj hoj hjl e he hb)
          · rw [ho] at hoj
            injection hoj with hoj; subst hoj
            exact .inl (hdeps e he hb)
        · rw [hnx] at hS'
          exact hS'.congrD fun j => (hset j).symm
        · intro a2 w2 μ2 F2 ks hn2 hS2 hk2
          rw [hnx] at hkeep
          exact hQ a2 w2 μ2 F2 (ks ++ t'.kl) hn2 hS2 ((hkeep.mono (fun k hk => .inl hk) fun _ h => h).trans hk2)

theorem apartAll_spec {ord : Nat → Nat → Bool} : ∀ {tr : List (Nat × Tr)}, apartAll ord tr = true → tr.Pairwise (fun y x => clash x.2 y.2 = false ∨ ord x.1 y.1 = true)
  | [], _ => .nil
  | (j, t) :: r, h => by
    simp only [apartAll, Bool.and_eq_true] at h
    refine .cons (fun x hx => ?_) (apartAll_spec h.2)
    have := List.all_eq_true.mp h.1 x hx
    simpa using this

theorem runOpsD_sound {R : Type} {P : Program} {E : Env} {C : Oracle} (hC : ExecSound P E C) {X : Cx} (hX : X.WF) {N : Nat} {ops : Array Oper} {r : R} {Q : Exit → Act → World → Prop} {K : St → Option R} (hd : ∀ (i : Nat) (o : Oper), ops[i]? = some o → ∀ x, o.dst = some x → x < N)
    (hok : drawOK ops = true) {S : St} {μ : Nat → Option (Nat × Nat)} {F : Nat → Nat → Prop} {w : World} {a : Act} (hS : SR X μ F S.H w N S.nx (fun _ => False) S.T a) (h : runOpsD E C ops 0 ops.toList [] S K = some r)
    (hK : ∀ S' a' w' μ' F' ks, K S' = some r → S'.nx = S.nx → SR X μ' F' S'.H w' N S.nx (fun j => j < ops.size) S'.T a' → Keep (fun k => k < S.nx) ks μ S.H w μ' S'.H w' → Q .normal a' w') :
    wpAny P .any ops Q ops.size (Array.replicate ops.size false) a w := by
  obtain ⟨l, Sf, h1, h2, h3, h4, h5⟩ := runOpsD_inv _ _ _ _ h
  have hlen : l.length = ops.size := by have := congrArg List.length h5; simpa using this
  have hidx : ∀ p (hp : p < l.length), l[p].1 = p := by
    intro p hp
    have : (l.map (·.1))[p]'(by simpa using hp) = (List.range' 0 ops.toList.length)[p]'(by simp; omega) := by simp only [h4]
    simpa using this
  have hop : ∀ p (hp : p < l.length), ops[p]? = some l[p].2.1 := by
    intro p hp
    have : (l.map (·.2.1))[p]'(by simpa using hp) = ops.toList[p]'(by simp; omega) := by simp only [h5]
    rw [Array.getElem?_eq_getElem (by omega)]
    simpa using this.symm
  have hops : ∀ x ∈ l, ops[x.1]? = some x.2.1 := by
    intro x hx
    obtain ⟨p, hp, rfl⟩ := List.mem_iff_getElem.mp hx
    rw [hidx p hp]; exact hop p hp
  have hfalse : ∀ i, i < ops.size → (Array.replicate ops.size false).getD i true = false := by
    intro i hi
    simp [Array.getD_eq_getD_getElem?, Array.getElem?_replicate, hi]
  have hfalse' : ∀ i, ¬ (Array.replicate ops.size false).getD i false = true := by
    intro i
    simp only [Array.getD_eq_getD_getElem?, Array.getElem?_replicate]
    split <;> simp
  refine wpAny_run (nx := S.nx) hC hX hd (fun j oj hj => (drawOK_spec hok hj).1) ops.size l _ S μ F w a hlen rfl h1 ?_ hops (by simp) (fun i hi => ⟨fun _ => ⟨l[i]'(by omega), List.getElem_mem _, hidx i _⟩, fun _ => hfalse i hi⟩) (fun j oj hj hl => absurd hl (hfalse' j)) (hS.congrD fun j => ⟨fun h => h.elim, fun h => absurd h (hfalse' j)⟩) fun a' w' μ' F' ks hn hS' hk => hK Sf a' w' μ' F' ks h2 hn hS' hk
  have hp1 := apartAll_spec h3
  rw [List.append_nil, List.pairwise_reverse, List.pairwise_map] at hp1
  have hp2 : l.Pairwise (fun x y => x.1 < y.1) := by
    have : (l.map (·.1)).Pairwise (· < ·) := by rw [h4]; exact List.pairwise_lt_range'
    rwa [List.pairwise_map] at this
  refine (hp2.and hp1).imp_of_mem fun {x y} hx hy hh => ⟨hh.1, ?_⟩
  rcases hh.2 with h2 | h2
  · rcases (drawOK_spec hok (hops y hy)).2 x.1 x.2.1 hh.1 (hops x hx) with ha | hb
    · exact .inr ⟨h2, ha⟩
    · exact .inl hb
  · exact .inl h2

end Go.Proofs.Ytlmifbpihlcabaa.VH
