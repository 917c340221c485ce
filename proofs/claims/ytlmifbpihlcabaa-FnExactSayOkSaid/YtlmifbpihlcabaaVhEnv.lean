/- Part of a proof about the given program: the verified evaluator and what it tells of the functions (VhEnv). Conditions: none beyond the hypotheses that each theorem states. -/
import Derived.Test.YtlmifbpihlcabaaVhLaw
import Derived.KernelRfl
namespace Go.Proofs.Ytlmifbpihlcabaa.VH

/- A program's tables: checked by the kernel. -/

def vEq : Value → Value → Bool
  | .bool a, .bool b => a == b
  | .int k a, .int l b => k == l && a == b
  | .string a, .string b => a.size == 0 && b.size == 0
  | .slice none 0 0, .slice none 0 0 => true
  | .pointer none, .pointer none => true
  | .nilFunc, .nilFunc => true
  | .nilIface, .nilIface => true
  | _, _ => false

theorem size_zero_empty (a : ByteArray) (h : a.size = 0) : a = ByteArray.empty := by
  obtain ⟨d⟩ := a
  congr
  exact Array.eq_empty_of_size_eq_zero h

theorem vEq_eq {a b : Value} (h : vEq a b = true) : a = b := by
  unfold vEq at h
  split at h
  · rw [eq_of_beq h]
  · simp only [Bool.and_eq_true, beq_iff_eq] at h; rw [h.1, h.2]
  · rename_i a b
    simp only [Bool.and_eq_true, beq_iff_eq] at h
    rw [size_zero_empty a h.1, size_zero_empty b h.2]
  all_goals first | rfl | simp at h

def vsEq : List Value → List Value → Bool
  | [], [] => true
  | a :: r, b :: s => vEq a b && vsEq r s
  | _, _ => false

theorem vsEq_eq : ∀ {a b : List Value}, vsEq a b = true → a = b
  | [], [], _ => rfl
  | a :: r, b :: s, h => by
    simp only [vsEq, Bool.and_eq_true] at h
    rw [vEq_eq h.1, vsEq_eq h.2]
  | [], _ :: _, h => by simp [vsEq] at h
  | _ :: _, [], h => by simp [vsEq] at h

def fEq : List (Nat × TypeId) → List Field → Bool
  | [], [] => true
  | a :: r, f :: s => a.1 == f.offset && (a.2 == f.type && fEq r s)
  | _, _ => false

def tdB (d : TypeDesc) : TD → Bool
  | .bool => match d with | .bool => true | _ => false
  | .int k => match d with | .int l => l == k | _ => false
  | .string => match d with | .string => true | _ => false
  | .slice e => match d with | .slice u => u == e | _ => false
  | .struct fs => match d with | .struct gs => fEq fs gs.toList | _ => false
  | .array n e => match d with | .array m u => m == n && u == e | _ => false
  | .pointer e => match d with | .pointer u => u == e | _ => false
  | .other => match d with | .struct _ | .array .. => false | _ => true


theorem fEq_eq : ∀ {a : List (Nat × TypeId)} {b : List Field}, fEq a b = true → b.map (fun f => (f.offset, f.type)) = a
  | [], [], _ => rfl
  | a :: r, f :: s, h => by
    simp only [fEq, Bool.and_eq_true, beq_iff_eq] at h
    rw [List.map_cons, fEq_eq h.2.2, ← h.1, ← h.2.1]
  | [], _ :: _, h => by simp [fEq] at h
  | _ :: _, [], h => by simp [fEq] at h

theorem tdB_ok {P : Program} {t : TypeId} {d : TypeDesc} (hd : P.underlying t = some d) {x : TD} (h : tdB d x = true) : tdOK P t x := by
  cases x <;> simp only [tdB] at h <;> simp only [tdOK]
  case bool => split at h <;> first | exact hd | simp at h
  case int k => split at h <;> first | (rw [hd, eq_of_beq h]) | simp at h
  case string => split at h <;> first | exact hd | simp at h
  case slice e => split at h <;> first | (rw [hd, eq_of_beq h]) | simp at h
  case struct fs =>
    split at h
    · exact ⟨_, hd, fEq_eq h⟩
    · simp at h
  case array n e =>
    split at h
    · simp only [Bool.and_eq_true, beq_iff_eq] at h; rw [hd, h.1, h.2]
    · simp at h
  case pointer e => split at h <;> first | (rw [hd, eq_of_beq h]) | simp at h
  case other =>
    refine ⟨d, hd, ?_⟩
    cases d <;> simp_all

def rowB (P : Program) (t : TypeId) (r : Row) : Bool := match P.info? t, P.underlying t with
  | some i, some d => tdB d r.td && (i.size == r.size && (i.bytes == r.bytes && ((match i.zero with | some z => vsEq z.cells.toList r.zero | none => false) && (r.zero.length == r.size && (r.zero.all leafV && ((r.td.agg || r.size == 1) && decide (r.bytes ≤ 256)))))))
  | _, _ => false

theorem rowB_ok {P : Program} {t : TypeId} {r : Row} (h : rowB P t r = true) : RowOK P t r := by
  unfold rowB at h
  split at h
  · rename_i i d hi hd
    simp only [Bool.and_eq_true, beq_iff_eq, decide_eq_true_eq, Bool.or_eq_true] at h
    obtain ⟨h1, h2, h3, h4, h5, h6, h7, h8⟩ := h
    split at h4
    · rename_i z hz
      exact ⟨tdB_ok hd h1, ⟨i, z, hi, h2, h3, hz, vsEq_eq h4⟩, h5, fun v hv => List.all_eq_true.mp h6 v hv, fun ha => h7.resolve_left (by rw [ha]; simp), h8⟩
    · simp at h4
  · simp at h

def rowsOf (l : List (TypeId × Row)) (t : TypeId) : Option Row := match l with
  | [] => none
  | (u, r) :: s => if t = u then some r else rowsOf s t

theorem rows_ok {P : Program} {E : Env} : ∀ {l : List (TypeId × Row)}, l.all (fun p => rowB P p.1 p.2) = true → ∀ t r, rowsOf l t = some r → RowOK P t r
  | [], _, t, r, h => by simp [rowsOf] at h
  | (u, r0) :: s, hl, t, r, h => by
    simp only [List.all_cons, Bool.and_eq_true] at hl
    simp only [rowsOf] at h
    split at h
    · rename_i e; subst e
      injection h with h; subst h
      exact rowB_ok hl.1
    · exact rows_ok (E := E) hl.2 t r h

def bodiesOf (l : List (FuncId × Func)) (f : FuncId) : Option (Code × List ResultVar) := match l with
  | [] => none
  | (u, fn) :: s => if f = u then some (fn.body.getD .skip, fn.results.toList) else bodiesOf s f

def funcB (fn : Func) : Bool := fn.body.isSome && (codeOK fn.ntmps (fn.body.getD .skip) && !(fn.name == "runtime.NumGoroutine"))

theorem bodies_ok {P : Program} : ∀ {l : List (FuncId × Func)}, (∀ p, p ∈ l → P.funcs[p.1]? = some p.2 ∧ funcB p.2 = true) → ∀ f c rs, bodiesOf l f = some (c, rs) → ∃ fn, P.funcs[f]? = some fn ∧ fn.body = some c ∧ fn.results.toList = rs ∧ codeOK fn.ntmps c = true ∧ (fn.name == "runtime.NumGoroutine") = false
  | [], _, f, c, rs, h => by simp [bodiesOf] at h
  | (u, fn) :: s, hl, f, c, rs, h => by
    simp only [bodiesOf] at h
    split at h
    · rename_i e; subst e
      obtain ⟨h1, h2⟩ := hl (f, fn) (by simp)
      injection h with h; injection h with e1 e2; subst e1; subst e2
      simp only [funcB, Bool.and_eq_true, Bool.not_eq_true'] at h2
      obtain ⟨h3, h4, h5⟩ := h2
      obtain ⟨b, hb⟩ := Option.isSome_iff_exists.mp h3
      refine ⟨fn, h1, by rw [hb]; rfl, rfl, h4, h5⟩
    · exact bodies_ok (fun p hp => hl p (by simp [hp])) f c rs h

end Go.Proofs.Ytlmifbpihlcabaa.VH
