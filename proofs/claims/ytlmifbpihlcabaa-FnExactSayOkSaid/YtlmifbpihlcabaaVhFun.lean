/- Part of a proof about the given program: the verified evaluator and what it tells of the functions (VhFun). Conditions: none beyond the hypotheses that each theorem states. -/
import Derived.Test.YtlmifbpihlcabaaVhEv
namespace Go.Proofs.Ytlmifbpihlcabaa.VH

/- Functions. -/

structure Env.Bodies (E : Env) (P : Program) : Prop where
  body : ∀ f c rs, E.body f = some (c, rs) → ∃ fn, P.funcs[f]? = some fn ∧ fn.body = some c ∧ fn.results.toList = rs ∧ codeOK fn.ntmps c = true ∧ (fn.name == "runtime.NumGoroutine") = false

/-- what a call gives back -/
def Ret (X : Cx) (μ : Nat → Option (Nat × Nat)) (cts : List (List AV)) (w : World) (x : AV) (cts' : List (Option (List AV))) (v : Value) (w' : World) : Prop :=
  ∃ μ' F' ks, Rel X μ' F' (hp cts') w' (fun _ => False) ∧ RV X μ' (hp cts') w' x v ∧ noSnap x = true ∧ noSnapO cts' = true ∧ (∀ k, k ∈ keysAV x → k < cts'.length) ∧ cts.length ≤ cts'.length ∧
    Keep (fun k => k < cts.length) ks μ (hp (cts.map some)) w μ' (hp cts') w'

def Inv (P : Program) (f : FuncId) (vs : Array Value) (w : World) (R : Value → World → Prop) : Prop :=
  ((callFunc f vs).run P w = .ok (.enter f vs) w ∧ Calls P f vs w (fun e w' => ∃ v, e = .returned v ∧ R v w')) ∨ ∃ v w', (callFunc f vs).run P w = .ok (.value v) w' ∧ R v w'

structure Args (X : Cx) (μ : Nat → Option (Nat × Nat)) (F : Nat → Nat → Prop) (cts : List (List AV)) (w : World) (args : List AV) (vs : Array Value) : Prop where
  rel : Rel X μ F (hp (cts.map some)) w (fun _ => False)
  len : vs.size = args.length
  rv : ∀ i (h : i < args.length) (h' : i < vs.size), RV X μ (hp (cts.map some)) w args[i] vs[i]
  keys : ∀ k, k ∈ keysL args → k < cts.length

def OrcOK (P : Program) (C : Oracle) : Prop := ∀ f args cts x cts', C f args cts = some (x, cts') → ∀ (X : Cx) (μ : Nat → Option (Nat × Nat)) (F : Nat → Nat → Prop) (w : World) (vs : Array Value), X.WF → Args X μ F cts w args vs →
  Inv P f vs w (Ret X μ cts w x cts')

theorem HM.run_bind {α β R : Type} (m : HM α) (g : α → HM β) : ∀ (H : Heap) (t : Tr) (K : β → Heap → Tr → Option R), (m.bind g).run H t K = m.run H t fun a H' t' => (g a).run H' t' K := by
  induction m with
  | ret a => intro H t K; rfl
  | fail => intro H t K; rfl
  | look k f ih =>
    intro H t K
    simp only [HM.bind, HM.run]
    cases H k with
    | none => rfl
    | some cs => exact ih cs _ _ _
  | put k c m ih => intro H t K; exact ih _ _ _
  | kill k m ih => intro H t K; exact ih _ _ _

def resVal (tmps : Array Value) : ResultVar → Sem Value
  | .tmp t => pure (tmps.getD t undef)
  | .cell a t => do loadVar t (← asAddr (tmps.getD a undef))

theorem resOf_sound {R : Type} {P : Program} {E : Env} (hE : E.OK P) {X : Cx} (hX : X.WF) {μ : Nat → Option (Nat × Nat)} {F : Nat → Nat → Prop} {H : Heap} {w : World} {T : Nat → AV} {tmps : Array Value} {n : Nat} (hR : Rel X μ F H w (fun _ => False))
    (hT : ∀ t, RV X μ H w (T t) (tmps.getD t undef)) (hk : ∀ t k, k ∈ keysAV (T t) → k < n) : ∀ (rs : List ResultVar) (t : Tr) (K : List AV → Heap → Tr → Option R) (r : R), t.kl = [] → (resOf E T rs).run H t K = some r →
    ∃ (xs : List AV) (vs : List Value) (t' : Tr), K xs H t' = some r ∧ (rs.mapM (resVal tmps)).run P w = .ok vs w ∧ vs.length = xs.length ∧ (∀ i (h : i < xs.length) (h' : i < vs.length), RV X μ H w xs[i] vs[i]) ∧ ∀ k, k ∈ keysL xs → k < n := by
  intro rs
  induction rs with
  | nil => intro t K r _ h; exact ⟨[], [], t, h, by simp, rfl, fun i h => by simp at h, fun k h => by simp [keysL] at h⟩
  | cons x rs ih =>
    intro t K r ht h
    have fin : ∀ (y : AV) (v : Value) (t1 : Tr), t1.kl = [] → RV X μ H w y v → (∀ k, k ∈ keysAV y → k < n) → (resVal tmps x).run P w = .ok v w → ((resOf E T rs).run H t1 fun xs H' t' => K (y :: xs) H' t') = some r →
        ∃ (xs : List AV) (vs : List Value) (t' : Tr), K xs H t' = some r ∧ ((x :: rs).mapM (resVal tmps)).run P w = .ok vs w ∧ vs.length = xs.length ∧ (∀ i (h : i < xs.length) (h' : i < vs.length), RV X μ H w xs[i] vs[i]) ∧ ∀ k, k ∈ keysL xs → k < n := by
      intro y v t1 ht1 hv hky hrun h
      obtain ⟨xs, vs, t', h1, h2, h3, h4, h5⟩ := ih t1 _ r ht1 h
      refine ⟨y :: xs, v :: vs, t', h1, ?_, by simp [h3], fun i hi hi' => ?_, fun k hk => ?_⟩
      · simp only [List.mapM_cons, Sem.run_bind, hrun, Result.andThen_ok, h2, Sem.run_pure]
      · cases i with
        | zero => exact hv
        | succ i => exact h4 i (by simpa using hi) (by simpa using hi')
      · simp only [keysL, List.mem_append] at hk
        exact hk.elim (hky k) (h5 k)
    cases x with
    | tmp a =>
      simp only [resOf, HM.run_bind] at h
      exact fin (T a) _ t ht (hT a) (hk a) (by simp [resVal]) h
    | cell a ty =>
      simp only [resOf] at h
      cases hrow : E.row ty with
      | none => simp [hrow, HM.run] at h
      | some row =>
        simp only [hrow, HM.run_bind] at h
        have hrok := hE ty row hrow
        obtain ⟨z, hz, y, t1, h1, h2, h3, h4⟩ := load_sound (U := fun k => k < n) hX hR ht hrok (hT a) (hk a) h
        refine fin y z t1 h2 h3 h4 ?_ h1
        have hp : ∃ b o s, tmps.getD a undef = .pointer (some ⟨b, o, s⟩) := by
          have hv := hT a
          generalize hTa : T a = ta at hv h
          generalize tmps.getD a undef = u at hv
          cases hv with
          | ptr k p off ad => exact ⟨_, _, _, rfl⟩
          | rp => exact ⟨_, _, _, rfl⟩
          | _ => simp [loadHM, HM.run] at h
        obtain ⟨b, o, s, hp⟩ := hp
        simp only [resVal, hp, asAddr, Sem.run_bind, Sem.run_pure, Result.andThen_ok]
        rw [hp] at hz
        simpa [Instr.loadAt, Instr.sureAddr] using hz

def resv : List Value → Value
  | [v] => v
  | vs => .tuple vs.toArray

theorem results_run {P : Program} {fn : Func} {tmps : Array Value} {w : World} {vs : List Value} (h : (fn.results.toList.mapM (resVal tmps)).run P w = .ok vs w) : (results fn tmps).run P w = .ok (resv vs) w := by
  have e : results fn tmps = (do let vs ← fn.results.mapM (resVal tmps); pure (if h : vs.size = 1 then vs[0] else .tuple vs)) := by
    unfold results
    congr 1
  have e2 : (List.toArray <$> List.mapM (resVal tmps) fn.results.toList) = (List.mapM (resVal tmps) fn.results.toList >>= fun x => pure x.toArray) := rfl
  rw [e, Sem.run_bind, Array.mapM_eq_mapM_toList, e2, Sem.run_bind, h]
  simp only [Result.andThen_ok, Sem.run_pure]
  congr 1
  match vs with
  | [] => rfl
  | [v] => rfl
  | v :: u :: vs => simp [resv]

theorem res_rv {X : Cx} {μ : Nat → Option (Nat × Nat)} {H : Heap} {w : World} {xs : List AV} {vs : List Value} (hl : vs.length = xs.length) (h : ∀ i (h : i < xs.length) (h' : i < vs.length), RV X μ H w xs[i] vs[i]) : RV X μ H w (resa xs) (resv vs) := by
  match xs, vs, hl, h with
  | [], [], _, _ => exact .tup [] #[] rfl fun i h => by simp at h
  | [x], [v], _, h => exact h 0 (by simp) (by simp)
  | x :: y :: xs, v :: u :: vs, hl, h =>
    refine .tup _ _ (by simpa using hl) fun i hi hi' => ?_
    simpa using h i hi (by simpa using hi')

mutual
theorem noSnap_ren (ρ : Nat → Nat) : ∀ x, noSnap (renAV ρ x) = noSnap x
  | .und => by rw [show renAV ρ .und = .und by simp only [renAV]]
  | .val v => by rw [show renAV ρ (.val v) = .val v by simp only [renAV]]
  | .sl tg z n cap cs => by rw [show renAV ρ (.sl tg z n cap cs) = .sl tg z n cap cs by simp only [renAV]]
  | .rp tg cs off => by rw [show renAV ρ (.rp tg cs off) = .rp tg cs off by simp only [renAV]]
  | .bx cs => by rw [show renAV ρ (.bx cs) = .bx cs by simp only [renAV]]
  | .ref .. => by simp only [renAV, noSnap]
  | .ptr .. => by simp only [renAV, noSnap]
  | .agg xs => by simp only [renAV, noSnap]; exact noSnapL_ren ρ xs
  | .tup xs => by simp only [renAV, noSnap]; exact noSnapL_ren ρ xs
  | .fn f xs => by simp only [renAV, noSnap]; exact noSnapL_ren ρ xs
theorem noSnapL_ren (ρ : Nat → Nat) : ∀ xs, noSnapL (renL ρ xs) = noSnapL xs
  | [] => rfl
  | x :: xs => by simp [renL, noSnapL, noSnap_ren ρ x, noSnapL_ren ρ xs]
end

theorem evFun_sound {P : Program} {E : Env} (hE : E.OK P) (hB : E.Bodies P) (hP : P.follows .mixedOrders = true) (hX : ∀ C, OrcOK P C → ExecSound P E C) (hH : OrcOK P E.hand) : ∀ d, OrcOK P (evFun E d) := by
  intro d
  induction d with
  | zero => intro f args cts x cts' h; simp [evFun] at h
  | succ d ih =>
    intro f args cts x cts' h X μ F w vs hWF hA
    simp only [evFun] at h
    cases hb : E.body f with
    | none => rw [hb] at h; exact hH f args cts x cts' h X μ F w vs hWF hA
    | some crs =>
      obtain ⟨c, rs⟩ := crs
      simp only [hb] at h
      obtain ⟨fn, hfn, hbody, hrs, hok, hname⟩ := hB.body f c rs hb
      left
      refine ⟨by have hn : ¬ fn.name = "runtime.NumGoroutine" := by simpa using hname
                 simp [callFunc, hfn, hn, hbody], ?_⟩
      refine calls_of_wp hfn hbody ?_
      have hget : ∀ t, RV X μ (hp (cts.map some)) w (args.getD t .und) ((vs ++ Array.replicate (fn.ntmps - vs.size) undef).getD t undef) := by
        intro t
        by_cases ht : t < args.length
        · have e1 : args.getD t .und = args[t] := by rw [List.getD_eq_getElem?_getD, List.getElem?_eq_getElem ht]; rfl
          have e2 : (vs ++ Array.replicate (fn.ntmps - vs.size) undef).getD t undef = vs[t]'(by have := hA.len; omega) := by
            rw [Array.getD_eq_getD_getElem?, Array.getElem?_append_left (by have := hA.len; omega), Array.getElem?_eq_getElem (by have := hA.len; omega)]; rfl
          rw [e1, e2]
          exact hA.rv t ht _
        · rw [List.getD_eq_getElem?_getD, List.getElem?_eq_none (by omega)]
          exact .und _
      have hkeys : ∀ t k, k ∈ keysAV (args.getD t .und) → k < cts.length := by
        intro t k hk
        by_cases ht : t < args.length
        · rw [List.getD_eq_getElem?_getD, List.getElem?_eq_getElem ht] at hk
          exact hA.keys k (mem_keysL ht hk)
        · rw [List.getD_eq_getElem?_getD, List.getElem?_eq_none (by omega)] at hk
          simp [keysAV] at hk
      refine evC_sound (N := fn.ntmps) (L := cts.length) (hX _ ih) hP hWF f c hok { T := fun t => args.getD t .und, H := hp (cts.map some), nx := cts.length } _ (x, cts') μ F w _ _ ⟨hA.rel, hget, fun t k hk => .inl (hkeys t k hk), fun k hk => ?_, rfl, by show fn.ntmps ≤ (vs ++ Array.replicate (fn.ntmps - vs.size) undef).size; rw [Array.size_append, Array.size_replicate]; omega⟩ (Nat.le_refl _) h ?_
      · cases hh : hp (cts.map some) k with
        | none => exact hh
        | some cs => exact absurd (.inl (by simpa using hp_lt hh)) hk
      · intro e S' a' w' μ' F' ks hk hL hS hkeep
        have fin : finish E cts.length rs S' = some (x, cts') → a'.defers = [] ∧ ∃ v, (results fn a'.tmps).run P w' = .ok v w' ∧ (fun e w' => ∃ v, e = Ending.returned v ∧ Ret X μ cts w x cts' v w') (.returned v) w' := by
          intro hf
          unfold finish at hf
          obtain ⟨xs, us, t', h1, h2, h3, h4, h5⟩ := resOf_sound (n := S'.nx) hE hWF hS.rel hS.slots (fun t k hk => (hS.keys t k hk).resolve_right fun ⟨_, h, _⟩ => h) rs _ _ _ rfl hf
          cases hb : (noSnap (resa xs) && noSnapO ((keep cts.length [resa xs]).map S'.H)) with
          | false => rw [hb] at h1; simp at h1
          | true =>
            rw [hb] at h1
            simp only [cond_true, Option.some.injEq, Prod.mk.injEq] at h1
            obtain ⟨e1, e2⟩ := h1
            subst e1; subst e2
            rw [← hrs] at h2
            have hv := res_rv h3 h4
            refine ⟨hS.defers, resv us, results_run h2, _, rfl, sel (keep cts.length [resa xs]) μ', sel (keep cts.length [resa xs]) F', [] ++ ks, hS.rel.ren (keep_nodup _ _), sel_keep hv fun k hk => .inr (by simp [keysL, hk]), ?_, ?_, ?_, ?_, hkeep.trans keep_keep⟩
            · rw [noSnap_ren]; simp only [Bool.and_eq_true] at hb; exact hb.1
            · simp only [Bool.and_eq_true] at hb; exact hb.2
            · intro k hk
              rw [List.length_map]
              exact ren_keys (fun k hk => .inr (by simp [keysL, hk])) k hk
            · rw [List.length_map]; exact keep_len _ _
        cases e with
        | normal => exact fin hk
        | exit id => exact absurd hk (by simp)
        | ret => exact fin hk

end Go.Proofs.Ytlmifbpihlcabaa.VH
