/- Part of a proof about the given program: a verified evaluator, and what it tells of the functions (VhEnv, VhIter, VhFit, VhIt2, VhIt3, VhV, VhBy, VhPut, VhFlat, VhW, VhV2, VhHand, VhOv, VhStr, VhLex, VhTy, VhGo, VhGf). Conditions: none beyond the hypotheses that each theorem states. -/
import Derived.Test.YthgopooldcheeaaG2
import Derived.KernelRfl
import Derived.Laws.BitsLemmas
import Derived.Laws.Bits64
import Derived.Laws.Strings
import Derived.Lib.Bytealg
import Derived.Laws.Externs
import Derived.Lib.Overlaps
set_option linter.unusedSimpArgs false
set_option linter.unusedVariables false
set_option linter.defProp false
section
namespace Go.Proofs.Ythgopooldcheeaa.VH

/- A program's tables: checked by the kernel. -/

def vEq : Value → Value → Bool
  | .bool a, .bool b => a == b
  | .int k a, .int l b => k == l && a == b
  | .string a, .string b => a.size == 0 && b.size == 0
  | .slice none 0 0, .slice none 0 0 => true
  | .pointer none, .pointer none => true
  | .nilFunc, .nilFunc => true
  | .nilIface, .nilIface => true
  | _, _ => false

theorem size_zero_empty (a : ByteArray) (h : a.size = 0) : a = ByteArray.empty := by
  obtain ⟨d⟩ := a
  congr
  exact Array.eq_empty_of_size_eq_zero h

theorem vEq_eq {a b : Value} (h : vEq a b = true) : a = b := by
  unfold vEq at h
  split at h
  · rw [eq_of_beq h]
  · simp only [Bool.and_eq_true, beq_iff_eq] at h; rw [h.1, h.2]
  · rename_i a b
    simp only [Bool.and_eq_true, beq_iff_eq] at h
    rw [size_zero_empty a h.1, size_zero_empty b h.2]
  all_goals first | rfl | simp at h

def vsEq : List Value → List Value → Bool
  | [], [] => true
  | a :: r, b :: s => vEq a b && vsEq r s
  | _, _ => false

theorem vsEq_eq : ∀ {a b : List Value}, vsEq a b = true → a = b
  | [], [], _ => rfl
  | a :: r, b :: s, h => by
    simp only [vsEq, Bool.and_eq_true] at h
    rw [vEq_eq h.1, vsEq_eq h.2]
  | [], _ :: _, h => by simp [vsEq] at h
  | _ :: _, [], h => by simp [vsEq] at h

def fEq : List (Nat × TypeId) → List Field → Bool
  | [], [] => true
  | a :: r, f :: s => a.1 == f.offset && (a.2 == f.type && fEq r s)
  | _, _ => false

def tdB (d : TypeDesc) : TD → Bool
  | .bool => match d with | .bool => true | _ => false
  | .int k => match d with | .int l => l == k | _ => false
  | .string => match d with | .string => true | _ => false
  | .slice e => match d with | .slice u => u == e | _ => false
  | .struct fs => match d with | .struct gs => fEq fs gs.toList | _ => false
  | .array n e => match d with | .array m u => m == n && u == e | _ => false
  | .pointer e => match d with | .pointer u => u == e | _ => false
  | .other => match d with | .struct _ | .array .. => false | _ => true


theorem fEq_eq : ∀ {a : List (Nat × TypeId)} {b : List Field}, fEq a b = true → b.map (fun f => (f.offset, f.type)) = a
  | [], [], _ => rfl
  | a :: r, f :: s, h => by
    simp only [fEq, Bool.and_eq_true, beq_iff_eq] at h
    rw [List.map_cons, fEq_eq h.2.2, ← h.1, ← h.2.1]
  | [], _ :: _, h => by simp [fEq] at h
  | _ :: _, [], h => by simp [fEq] at h

theorem tdB_ok {P : Program} {t : TypeId} {d : TypeDesc} (hd : P.underlying t = some d) {x : TD} (h : tdB d x = true) : tdOK P t x := by
  cases x <;> simp only [tdB] at h <;> simp only [tdOK]
  case bool => split at h <;> first | exact hd | simp at h
  case int k => split at h <;> first | (rw [hd, eq_of_beq h]) | simp at h
  case string => split at h <;> first | exact hd | simp at h
  case slice e => split at h <;> first | (rw [hd, eq_of_beq h]) | simp at h
  case struct fs =>
    split at h
    · exact ⟨_, hd, fEq_eq h⟩
    · simp at h
  case array n e =>
    split at h
    · simp only [Bool.and_eq_true, beq_iff_eq] at h; rw [hd, h.1, h.2]
    · simp at h
  case pointer e => split at h <;> first | (rw [hd, eq_of_beq h]) | simp at h
  case other =>
    refine ⟨d, hd, ?_⟩
    cases d <;> simp_all

def rowB (P : Program) (t : TypeId) (r : Row) : Bool := match P.info? t, P.underlying t with
  | some i, some d => tdB d r.td && (i.size == r.size && (i.bytes == r.bytes && ((match i.zero with | some z => vsEq z.cells.toList r.zero | none => false) && (r.zero.length == r.size && (r.zero.all qc4 && ((r.td.agg || r.size == 1) && (decide (r.bytes ≤ 256) && (!r.flat || cmpB P t r.zero))))))))
  | _, _ => false

theorem rowB_ok {P : Program} {t : TypeId} {r : Row} (h : rowB P t r = true) : RowOK P t r := by
  unfold rowB at h
  split at h
  · rename_i i d hi hd
    simp only [Bool.and_eq_true, beq_iff_eq, decide_eq_true_eq, Bool.or_eq_true] at h
    obtain ⟨h1, h2, h3, h4, h5, h6, h7, h8, h9⟩ := h
    split at h4
    · rename_i z hz
      exact ⟨tdB_ok hd h1, ⟨i, z, hi, h2, h3, hz, vsEq_eq h4⟩, h5, fun v hv => List.all_eq_true.mp h6 v hv, fun ha => h7.resolve_left (by rw [ha]; simp), h8, fun hf => h9.resolve_left (by rw [hf]; simp)⟩
    · simp at h4
  · simp at h

def rowsOf (l : List (TypeId × Row)) (t : TypeId) : Option Row := match l with
  | [] => none
  | (u, r) :: s => if t = u then some r else rowsOf s t

theorem rows_ok {P : Program} {E : Env} : ∀ {l : List (TypeId × Row)}, l.all (fun p => rowB P p.1 p.2) = true → ∀ t r, rowsOf l t = some r → RowOK P t r
  | [], _, t, r, h => by simp [rowsOf] at h
  | (u, r0) :: s, hl, t, r, h => by
    simp only [List.all_cons, Bool.and_eq_true] at hl
    simp only [rowsOf] at h
    split at h
    · rename_i e; subst e
      injection h with h; subst h
      exact rowB_ok hl.1
    · exact rows_ok (E := E) hl.2 t r h

def bodiesOf (l : List (FuncId × Func)) (f : FuncId) : Option (Code × List ResultVar) := match l with
  | [] => none
  | (u, fn) :: s => if f = u then some (fn.body.getD .skip, fn.results.toList) else bodiesOf s f

def funcB (fn : Func) : Bool := fn.body.isSome && (codeOK fn.ntmps (fn.body.getD .skip) && !(fn.name == "runtime.NumGoroutine"))

theorem bodies_ok {P : Program} : ∀ {l : List (FuncId × Func)}, (∀ p, p ∈ l → P.funcs[p.1]? = some p.2 ∧ funcB p.2 = true) → ∀ f c rs, bodiesOf l f = some (c, rs) → ∃ fn, P.funcs[f]? = some fn ∧ fn.body = some c ∧ fn.results.toList = rs ∧ codeOK fn.ntmps c = true ∧ (fn.name == "runtime.NumGoroutine") = false
  | [], _, f, c, rs, h => by simp [bodiesOf] at h
  | (u, fn) :: s, hl, f, c, rs, h => by
    simp only [bodiesOf] at h
    split at h
    · rename_i e; subst e
      obtain ⟨h1, h2⟩ := hl (f, fn) (by simp)
      injection h with h; injection h with e1 e2; subst e1; subst e2
      simp only [funcB, Bool.and_eq_true, Bool.not_eq_true'] at h2
      obtain ⟨h3, h4, h5⟩ := h2
      obtain ⟨b, hb⟩ := Option.isSome_iff_exists.mp h3
      refine ⟨fn, h1, by rw [hb]; rfl, rfl, h4, h5⟩
    · exact bodies_ok (fun p hp => hl p (by simp [hp])) f c rs h

end Go.Proofs.Ythgopooldcheeaa.VH
end

section
namespace Go.Proofs.Ythgopooldcheeaa.VH

/- Tools for telling what a function gives back. -/

abbrev iv (k : IntKind) (x : Int) : AV := .val (.int k x)
abbrev vi (x : Int) : AV := .val (.int .i64 x)
abbrev vb (x : Bool) : AV := .val (.bool x)

section
variable {R : Type} {E : Env} {C : Oracle} {L : Nat} {f : FuncId}

noncomputable def evReg (E : Env) (C : Oracle) (b : Bool) (ops : Array Oper) (S : St) (K : St → Option R) : Option R := bif b then evBox E C ops S K else runOps E C ops 0 ops.toList S K
def kReg (ops : Array Oper) (K : Ex → St → Option R) (S : St) : Option R := K .normal { S with nx := S.nx + 8 * ops.size }
noncomputable def kSeq (E : Env) (C : Oracle) (L : Nat) (f : FuncId) (b : Code) (K : Ex → St → Option R) (e : Ex) (S : St) : Option R := match e with
  | .normal => evC E C L f b (cutS E L f b S) K
  | .exit i => K (.exit i) S
  | .ret => K .ret S
noncomputable def kCut (o : Option (List Nat)) (E : Env) (C : Oracle) (L : Nat) (f : FuncId) (b : Code) (K : Ex → St → Option R) (S : St) : Option R := match o with
  | some l => evC E C L f b (norm L l S) K
  | none => evC E C L f b S K
def kBlk (id : Nat) (K : Ex → St → Option R) (e : Ex) (S : St) : Option R := match e with
  | .exit i => if i = id then K .normal S else K (.exit i) S
  | .normal => K .normal S
  | .ret => K .ret S
def kLoop (Kn : St → Option R) (K : Ex → St → Option R) (e : Ex) (S : St) : Option R := match e with
  | .normal => Kn S
  | .exit i => K (.exit i) S
  | .ret => K .ret S
def kFin (E : Env) (wk : Option Nat) (L : Nat) (rs : List ResultVar) (e : Ex) (S : St) : Option (AV × List (Option (List AV))) := match e with
  | .exit _ => none
  | .normal => finish E wk L rs S
  | .ret => finish E wk L rs S
noncomputable def evIf (E : Env) (C : Oracle) (L : Nat) (f : FuncId) (x : AV) (t e : Code) (S : St) (K : Ex → St → Option R) : Option R := match x with
  | .val (.bool b) => bif b then evC E C L f t S K else evC E C L f e S K
  | .bx [] => both (evC E C L f t S K) (evC E C L f e S K)
  | _ => none
noncomputable def kOp (E : Env) (C : Oracle) (ops : Array Oper) (i : Nat) (os : List Oper) (K : St → Option R) (S : St) (_ : Tr) : Option R := runOps E C ops i os S K
noncomputable def kOpD (nb : Bool) (E : Env) (C : Oracle) (ops : Array Oper) (i : Nat) (o : Oper) (T0 : Nat → AV) (os : List Oper) (tr : List (Nat × Tr)) (K : St → Option R) (S : St) (t : Tr) : Option R := runOpsD nb E C ops (i + 1) os ((i, noted nb ops o T0 S.T t) :: tr) S K
def kPut (T : Nat → AV) (nx : Nat) (dst : Option Tmp) (K : St → Tr → Option R) (v : AV) (H : Heap) (t : Tr) : Option R := K { T := putT (killT t.kl T) dst v, H := H, nx := nx } t
noncomputable def opG (E : Env) (C : Oracle) (i : Nat) (x : AV) (want : Bool) (op : Op) (dst : Option Tmp) (S : St) (K : St → Tr → Option R) : Option R := match x with
  | .val (.bool b) => bif b == want then (execOp E C op (opnd S.T) (S.nx + 8 * i)).run S.H {} (kPut S.T S.nx dst K) else K { S with T := putT S.T dst skipV } {}
  | .val (.tuple _) => K { S with T := putT S.T dst skipV } {}
  | _ => none

theorem evC_skip (S : St) (K : Ex → St → Option R) : evC E C L f .skip S K = K .normal S := _root_.id rfl
theorem evC_exit (id : Nat) (S : St) (K : Ex → St → Option R) : evC E C L f (.exit id) S K = K (.exit id) S := _root_.id rfl
theorem evC_ret (S : St) (K : Ex → St → Option R) : evC E C L f .ret S K = K .ret S := _root_.id rfl
theorem evReg_false (ops : Array Oper) (S : St) (K : St → Option R) : evReg E C false ops S K = runOps E C ops 0 ops.toList S K := _root_.id rfl
theorem evReg_true (ops : Array Oper) (S : St) (K : St → Option R) : evReg E C true ops S K = evBox E C ops S K := _root_.id rfl
theorem evC_region (id : Nat) (ops : Array Oper) (S : St) (K : Ex → St → Option R) : evC E C L f (.region id ops false) S K = evReg E C (E.boxf f) ops S (kReg ops K) := _root_.id rfl
theorem evC_regionD (id : Nat) (ops : Array Oper) (S : St) (K : Ex → St → Option R) : evC E C L f (.region id ops true) S K = runOpsD (E.notef f) E C ops 0 ops.toList [] S (kReg ops K) := _root_.id rfl
theorem evC_seq (a b : Code) (S : St) (K : Ex → St → Option R) : evC E C L f (.seq a b) S K = evC E C L f a S (kSeq E C L f b K) := by
  rw [evC]
  congr 1
  funext e S1
  cases e <;> rfl
theorem evC_block (id : Nat) (c : Code) (S : St) (K : Ex → St → Option R) : evC E C L f (.block id c) S K = evC E C L f c S (kBlk id K) := by
  rw [evC]
  congr 1
  funext e S1
  cases e <;> rfl
theorem evC_cond (c : Operand) (t e : Code) (S : St) (K : Ex → St → Option R) : evC E C L f (.cond c t e) S K = evIf E C L f (opnd S.T c) t e S K := _root_.id rfl
theorem evC_loop (c : Code) (S : St) (K : Ex → St → Option R) : evC E C L f (.loop c) S K = evLoop (norm L (E.live f (qa c))) (evC E C L f c) LF S K := _root_.id rfl
theorem evIf_true (t e : Code) (S : St) (K : Ex → St → Option R) : evIf E C L f (.val (.bool true)) t e S K = evC E C L f t S K := _root_.id rfl
theorem evIf_bx (t e : Code) (S : St) (K : Ex → St → Option R) : evIf E C L f (.bx []) t e S K = both (evC E C L f t S K) (evC E C L f e S K) := _root_.id rfl
theorem both_self (a : Option R) : both a a = a := by unfold both; simp
theorem evIf_false (t e : Code) (S : St) (K : Ex → St → Option R) : evIf E C L f (.val (.bool false)) t e S K = evC E C L f e S K := _root_.id rfl
theorem kSeq_normal (b : Code) (K : Ex → St → Option R) (S : St) : kSeq E C L f b K .normal S = bif E.cutf f then kCut (E.cut f (qa b)) E C L f b K S else evC E C L f b S K := by
  show evC E C L f b (cutS E L f b S) K = _
  unfold cutS kCut
  cases E.cutf f with
  | false => rfl
  | true =>
    simp only [cond_true]
    cases E.cut f (qa b) <;> rfl
theorem kCut_none (b : Code) (K : Ex → St → Option R) (S : St) : kCut none E C L f b K S = evC E C L f b S K := _root_.id rfl
theorem kSeq_exit (b : Code) (K : Ex → St → Option R) (i : Nat) (S : St) : kSeq E C L f b K (.exit i) S = K (.exit i) S := _root_.id rfl
theorem kSeq_ret (b : Code) (K : Ex → St → Option R) (S : St) : kSeq E C L f b K .ret S = K .ret S := _root_.id rfl
theorem kBlk_normal (id : Nat) (K : Ex → St → Option R) (S : St) : kBlk id K .normal S = K .normal S := _root_.id rfl
theorem kBlk_exit (id : Nat) (K : Ex → St → Option R) (i : Nat) (S : St) : kBlk id K (.exit i) S = if i = id then K .normal S else K (.exit i) S := _root_.id rfl
theorem kBlk_ret (id : Nat) (K : Ex → St → Option R) (S : St) : kBlk id K .ret S = K .ret S := _root_.id rfl
theorem kLoop_normal (Kn : St → Option R) (K : Ex → St → Option R) (S : St) : kLoop Kn K .normal S = Kn S := _root_.id rfl
theorem kLoop_exit (Kn : St → Option R) (K : Ex → St → Option R) (i : Nat) (S : St) : kLoop Kn K (.exit i) S = K (.exit i) S := _root_.id rfl
theorem kLoop_ret (Kn : St → Option R) (K : Ex → St → Option R) (S : St) : kLoop Kn K .ret S = K .ret S := _root_.id rfl
theorem kFin_ret (wk : Option Nat) (rs : List ResultVar) (S : St) : kFin E wk L rs .ret S = finish E wk L rs S := _root_.id rfl
theorem kFin_normal (wk : Option Nat) (rs : List ResultVar) (S : St) : kFin E wk L rs .normal S = finish E wk L rs S := _root_.id rfl
theorem kReg_app (ops : Array Oper) (K : Ex → St → Option R) (T : Nat → AV) (H : Heap) (nx : Nat) : kReg ops K { T := T, H := H, nx := nx } = K .normal { T := T, H := H, nx := nx + 8 * ops.size } := _root_.id rfl
theorem runOps_nil (ops : Array Oper) (i : Nat) (S : St) (K : St → Option R) : runOps E C ops i [] S K = K S := _root_.id rfl
theorem runOps_cons (ops : Array Oper) (i : Nat) (o : Oper) (os : List Oper) (S : St) (K : St → Option R) : runOps E C ops i (o :: os) S K = stepOp E C ops i o S (kOp E C ops (i + 1) os K) := _root_.id rfl
theorem kOp_app (ops : Array Oper) (i : Nat) (os : List Oper) (K : St → Option R) (S : St) (t : Tr) : kOp E C ops i os K S t = runOps E C ops i os S K := _root_.id rfl
theorem runOpsD_nil (nb : Bool) (ops : Array Oper) (i : Nat) (tr : List (Nat × Tr)) (S : St) (K : St → Option R) : runOpsD nb E C ops i [] tr S K = bif qa0 (bef ops 8) tr then K S else none := _root_.id rfl
theorem runOpsD_cons (nb : Bool) (ops : Array Oper) (i : Nat) (o : Oper) (os : List Oper) (tr : List (Nat × Tr)) (T : Nat → AV) (H : Heap) (nx : Nat) (K : St → Option R) : runOpsD nb E C ops i (o :: os) tr { T := T, H := H, nx := nx } K = stepOp E C ops i o { T := T, H := H, nx := nx } (kOpD nb E C ops i o T os tr K) := _root_.id rfl
theorem noted_f (ops : Array Oper) (o : Oper) (T T' : Nat → AV) (a b c : List Nat) (n : Option (List Nat × Bool)) : noted false ops o T T' { rd := a, wr := b, kl := c, nt := n } = { rd := a, wr := b, kl := c } := _root_.id rfl
theorem noted_t (ops : Array Oper) (o : Oper) (T T' : Nat → AV) (a b c : List Nat) (n : Option (List Nat × Bool)) : noted true ops o T T' { rd := a, wr := b, kl := c, nt := n } = { rd := a, wr := b, kl := c, nt := some (noteT ops o T T') } := _root_.id rfl
theorem klA_nil (s : Tr) (a b : List Nat) (n : Option (List Nat × Bool)) : klA s { rd := a, wr := b, kl := [], nt := n } = false := _root_.id rfl
theorem klB_nil (s : Tr) (a b : List Nat) (n : Option (List Nat × Bool)) : klB { rd := a, wr := b, kl := [], nt := n } s = false := _root_.id rfl
theorem kOpD_app (nb : Bool) (ops : Array Oper) (i : Nat) (o : Oper) (T0 : Nat → AV) (os : List Oper) (tr : List (Nat × Tr)) (K : St → Option R) (T : Nat → AV) (H : Heap) (nx : Nat) (t : Tr) : kOpD nb E C ops i o T0 os tr K { T := T, H := H, nx := nx } t = runOpsD nb E C ops (i + 1) os ((i, noted nb ops o T0 T t) :: tr) { T := T, H := H, nx := nx } K := _root_.id rfl
theorem kPut_app (T : Nat → AV) (nx : Nat) (dst : Option Tmp) (K : St → Tr → Option R) (v : AV) (H : Heap) (t : Tr) : kPut T nx dst K v H t = K { T := putT (killT t.kl T) dst v, H := H, nx := nx } t := _root_.id rfl
theorem stepOp_none (ops : Array Oper) (i : Nat) (dst : Option Tmp) (op : Op) (ty : TypeId) (pos : String) (after : Array Edge) (T : Nat → AV) (H : Heap) (nx : Nat) (K : St → Tr → Option R) :
    stepOp E C ops i { dst := dst, op := op, type := ty, pos := pos, after := after, guard := none } { T := T, H := H, nx := nx } K = (execOp E C op (opnd T) (nx + 8 * i)).run H {} (kPut T nx dst K) := _root_.id rfl
theorem stepOp_some (ops : Array Oper) (i : Nat) (dst : Option Tmp) (op : Op) (ty : TypeId) (pos : String) (after : Array Edge) (j : Nat) (want : Bool) (S : St) (K : St → Tr → Option R) :
    stepOp E C ops i { dst := dst, op := op, type := ty, pos := pos, after := after, guard := some (j, want) } S K = match (ops[j]?).bind (·.dst) with | some g => opG E C i (S.T g) want op dst S K | none => none := by
  simp only [stepOp, opG]
  cases (ops[j]?).bind (·.dst) with
  | none => rfl
  | some g => rfl
theorem opG_tt (i : Nat) (op : Op) (dst : Option Tmp) (T : Nat → AV) (H : Heap) (nx : Nat) (K : St → Tr → Option R) : opG E C i (.val (.bool true)) true op dst { T := T, H := H, nx := nx } K = (execOp E C op (opnd T) (nx + 8 * i)).run H {} (kPut T nx dst K) := _root_.id rfl
theorem opG_ff (i : Nat) (op : Op) (dst : Option Tmp) (T : Nat → AV) (H : Heap) (nx : Nat) (K : St → Tr → Option R) : opG E C i (.val (.bool false)) false op dst { T := T, H := H, nx := nx } K = (execOp E C op (opnd T) (nx + 8 * i)).run H {} (kPut T nx dst K) := _root_.id rfl
theorem opG_tf (i : Nat) (op : Op) (dst : Option Tmp) (T : Nat → AV) (H : Heap) (nx : Nat) (K : St → Tr → Option R) : opG E C i (.val (.bool true)) false op dst { T := T, H := H, nx := nx } K = K { T := putT T dst skipV, H := H, nx := nx } {} := _root_.id rfl
theorem opG_u (i : Nat) (us : Array Value) (want : Bool) (op : Op) (dst : Option Tmp) (T : Nat → AV) (H : Heap) (nx : Nat) (K : St → Tr → Option R) : opG E C i (.val (.tuple us)) want op dst { T := T, H := H, nx := nx } K = K { T := putT T dst skipV, H := H, nx := nx } {} := _root_.id rfl
theorem opG_ft (i : Nat) (op : Op) (dst : Option Tmp) (T : Nat → AV) (H : Heap) (nx : Nat) (K : St → Tr → Option R) : opG E C i (.val (.bool false)) true op dst { T := T, H := H, nx := nx } K = K { T := putT T dst skipV, H := H, nx := nx } {} := _root_.id rfl

theorem opG_elim {i : Nat} {b want : Bool} {op : Op} {dst : Option Tmp} {S : St} {K : St → Tr → Option R} {r : Option R} (h1 : b = true → opG E C i (.val (.bool true)) want op dst S K = r) (h2 : b = false → opG E C i (.val (.bool false)) want op dst S K = r) : opG E C i (.val (.bool b)) want op dst S K = r := by
  cases b
  · exact h2 rfl
  · exact h1 rfl
theorem evIf_elim {b : Bool} {t e : Code} {S : St} {K : Ex → St → Option R} {r : Option R} (h1 : b = true → evC E C L f t S K = r) (h2 : b = false → evC E C L f e S K = r) : evIf E C L f (.val (.bool b)) t e S K = r := by
  cases b
  · exact h2 rfl
  · exact h1 rfl
theorem guard_true {α : Type} (m : HM α) : guardB true m = m := _root_.id rfl
theorem guard_false {α : Type} (m : HM α) : guardB false m = .fail := _root_.id rfl
theorem qf7 {α : Type} {b : Bool} {m : HM α} {H : Heap} {t : Tr} {K : α → Heap → Tr → Option R} {r : Option R} (hb : b = true) (h : m.run H t K = r) : (guardB b m).run H t K = r := by subst hb; exact h
theorem run_ret {α : Type} (a : α) (H : Heap) (t : Tr) (K : α → Heap → Tr → Option R) : (HM.ret a).run H t K = K a H t := _root_.id rfl
theorem run_put {α : Type} (k : Nat) (c : Option (List AV)) (m : HM α) (H : Heap) (t : Tr) (K : α → Heap → Tr → Option R) : (HM.put k c m).run H t K = m.run (upd H k c) { t with wr := k :: t.wr } K := _root_.id rfl
theorem run_kill {α : Type} (k : Nat) (m : HM α) (H : Heap) (t : Tr) (K : α → Heap → Tr → Option R) : (HM.kill k m).run H t K = m.run H { t with kl := k :: t.kl } K := _root_.id rfl
theorem bind_ret {α β : Type} (a : α) (g : α → HM β) : (HM.ret a).bind g = g a := _root_.id rfl
theorem bind_put {α β : Type} (k : Nat) (c : Option (List AV)) (m : HM α) (g : α → HM β) : (HM.put k c m).bind g = .put k c (m.bind g) := _root_.id rfl
theorem bind_kill {α β : Type} (k : Nat) (m : HM α) (g : α → HM β) : (HM.kill k m).bind g = .kill k (m.bind g) := _root_.id rfl
theorem bind_guard {α β : Type} (b : Bool) (m : HM α) (g : α → HM β) : (guardB b m).bind g = guardB b (m.bind g) := by cases b <;> rfl
theorem bind_look {α β : Type} (k : Nat) (f : List AV → HM α) (g : α → HM β) : (HM.look k f).bind g = .look k fun cs => (f cs).bind g := _root_.id rfl
theorem run_look {α : Type} (k : Nat) (f : List AV → HM α) (H : Heap) (t : Tr) (K : α → Heap → Tr → Option R) : (HM.look k f).run H t K = match H k with | some cs => (f cs).run H { t with rd := k :: t.rd } K | none => none := by
  rw [HM.run]
  cases H k <;> rfl
theorem upd_app (H : Heap) (k : Nat) (c : Option (List AV)) (j : Nat) : upd H k c j = if j = k then c else H j := _root_.id rfl
theorem ofOpt_some {α : Type} (a : α) : ofOpt (some a) = HM.ret a := _root_.id rfl
def pickH (x y z : AV) : HM AV := match x with
  | .val (.bool c) => bif c then .ret y else .ret z
  | _ => .fail
theorem exec_pick (c a b : Operand) (ev : Operand → AV) (fr : Nat) : execOp E C (.pick c a b) ev fr = pickH (ev c) (ev a) (ev b) := _root_.id rfl
theorem pick_true (x y : AV) : pickH (.val (.bool true)) x y = .ret x := _root_.id rfl
theorem pick_false (x y : AV) : pickH (.val (.bool false)) x y = .ret y := _root_.id rfl
theorem evFun_body {n d : Nat} {args : List AV} {cts : List (List AV)} {c : Code} {rs : List ResultVar} {r : Option (AV × List (Option (List AV)))} (hb : E.body n = some (c, rs)) (h : evC E (evFun E d) cts.length n c { T := fun t => args.getD t .und, H := hp (cts.map some), nx := cts.length } (kFin E (E.wk n) cts.length rs) = r) : evFun E (d + 1) n args cts = r := by
  rw [evFun, hb]
  rw [← h]
  simp only
  congr 1

end

theorem evLoop_succ' {R : Type} (nrm : St → St) (f : St → (Ex → St → Option R) → Option R) (n : Nat) (S : St) (K : Ex → St → Option R) :
    evLoop nrm f (n + 1) S K = f (nrm S) (kLoop (fun S1 => evLoop nrm f n S1 K) K) := by
  simp only [evLoop]
  congr 1
  funext e S1
  cases e <;> rfl

theorem loop_go' {R : Type} {nrm : St → St} {f : St → (Ex → St → Option R) → Option R} {K : Ex → St → Option R} {r : Option R} (I : Nat → Prop) (σ : Nat → St) (n : Nat) (step : ∀ i, i < n → I i → ∀ Kn : St → Option R, (I (i + 1) → ∀ S', nrm S' = σ (i + 1) → Kn S' = r) → f (σ i) (kLoop Kn K) = r)
    (last : I n → ∀ Kn : St → Option R, f (σ n) (kLoop Kn K) = r) : ∀ (m : Nat), m ≤ n → ∀ (N : Nat) (S : St), I (n - m) → nrm S = σ (n - m) → m < N → evLoop nrm f N S K = r := by
  intro m
  induction m with
  | zero =>
    intro _ N S hi h hN
    cases N with
    | zero => omega
    | succ N => rw [evLoop_succ', h]; exact last hi _
  | succ m ih =>
    intro hm N S hi h hN
    cases N with
    | zero => omega
    | succ N =>
      rw [evLoop_succ', h]
      have e : n - (m + 1) + 1 = n - m := by omega
      refine step (n - (m + 1)) (by omega) hi _ fun hi' S' h' => ?_
      rw [e] at hi' h'
      exact ih (by omega) N S' hi' h' (by omega)

theorem loop_inv {R : Type} {nrm : St → St} {f : St → (Ex → St → Option R) → Option R} {K : Ex → St → Option R} {r : Option R} (I : Nat → Prop) (σ : Nat → St) (n : Nat) {S : St} {N : Nat} (h0 : nrm S = σ 0) (hI : I 0) (hn : n < N)
    (step : ∀ i, i < n → I i → ∀ Kn : St → Option R, (I (i + 1) → ∀ S', nrm S' = σ (i + 1) → Kn S' = r) → f (σ i) (kLoop Kn K) = r)
    (last : I n → ∀ Kn : St → Option R, f (σ n) (kLoop Kn K) = r) : evLoop nrm f N S K = r :=
  loop_go' I σ n step last n (Nat.le_refl _) N S (by rwa [Nat.sub_self]) (by rwa [Nat.sub_self]) hn

theorem loop_go {R : Type} {nrm : St → St} {f : St → (Ex → St → Option R) → Option R} {K : Ex → St → Option R} {r : Option R} (σ : Nat → St) (n : Nat) {S : St} {N : Nat} (h0 : nrm S = σ 0) (hn : n < N)
    (step : ∀ i, i < n → ∀ Kn : St → Option R, (∀ S', nrm S' = σ (i + 1) → Kn S' = r) → f (σ i) (kLoop Kn K) = r)
    (last : ∀ Kn : St → Option R, f (σ n) (kLoop Kn K) = r) : evLoop nrm f N S K = r :=
  loop_inv (fun _ => True) σ n h0 trivial hn (fun i hi _ Kn h => step i hi Kn (h trivial)) (fun _ => last)

theorem tp_cons (a : Nat) (x : AV) (r : List (Nat × AV)) (t : Nat) : tp ((a, x) :: r) t = if t = a then x else tp r t := _root_.id rfl
theorem hp_cons0 (c : Option (List AV)) (r : List (Option (List AV))) : hp (c :: r) 0 = c := by simp [hp]
theorem hp1 (c : Option (List AV)) (r : List (Option (List AV))) : hp (c :: r) 1 = hp r 0 := by simp [hp]
theorem hp2 (c d : Option (List AV)) (r : List (Option (List AV))) : hp (c :: d :: r) 2 = hp r 0 := by simp [hp]
theorem hp3 (c d e : Option (List AV)) (r : List (Option (List AV))) : hp (c :: d :: e :: r) 3 = hp r 0 := by simp [hp]
theorem hp4 (c d e f : Option (List AV)) (r : List (Option (List AV))) : hp (c :: d :: e :: f :: r) 4 = hp r 0 := by simp [hp]
theorem sub_nil (cs : List AV) : sub [] cs = some cs := _root_.id rfl
theorem modp_nil (f : List AV → List AV) (cs : List AV) : modp [] f cs = f cs := _root_.id rfl
theorem setAt_one (cs : List AV) (o : Nat) (x : AV) : setAt cs o [x] = cs.set o x := _root_.id rfl
theorem absorb_val {v : Value} (h : qc4 v = true) : qc0 [.val v] = HM.ret [.val v] := by simp [qc0, qc1, guardB, h, HM.bind]
theorem absorb_int (k : IntKind) (n : Int) : qc0 [.val (.int k n)] = HM.ret [.val (.int k n)] := absorb_val _root_.rfl

theorem putT_some (T : Nat → AV) (d : Nat) (v : AV) (t : Nat) : putT T (some d) v t = if t = d then v else T t := _root_.id rfl
theorem putT_none (T : Nat → AV) (v : AV) : putT T none v = T := _root_.id rfl
theorem killT_nil (T : Nat → AV) : killT [] T = T := _root_.id rfl
theorem zero_ne_one_n : ¬ (0 : Nat) = 1 := by decide
theorem one_ne_zero_n : ¬ (1 : Nat) = 0 := by decide

theorem wrap64 {x : Int} (h1 : -9223372036854775808 ≤ x) (h2 : x ≤ 9223372036854775807) : IntKind.i64.wrap x = x := by
  rw [IntKind.wrap_i64]; omega

/-- a row that is filled from the front -/
def part (k : IntKind) (l : List Int) (i : Nat) : List AV := (l.take i).map (iv k) ++ (l.drop i).map fun _ => iv k 0

theorem part_zero (k : IntKind) (l : List Int) : part k l 0 = List.replicate l.length (iv k 0) := by simp [part, List.map_const']
theorem part_full (k : IntKind) (l : List Int) : part k l l.length = l.map (iv k) := by simp [part]
theorem part_len (k : IntKind) (l : List Int) (i : Nat) : (part k l i).length = l.length := by simp [part]; omega
theorem part_get (k : IntKind) (l : List Int) (i j : Nat) : (part k l i)[j]? = (l[j]?).map fun x => iv k (if j < i then x else 0) := by
  by_cases hj : j < l.length
  · rw [List.getElem?_eq_getElem hj, Option.map_some]
    by_cases h : j < i
    · rw [if_pos h, part, List.getElem?_append_left (by simp; omega), List.getElem?_map, List.getElem?_take, if_pos h, List.getElem?_eq_getElem hj]; rfl
    · rw [if_neg h, part, List.getElem?_append_right (by simp; omega), List.getElem?_map, List.getElem?_drop]
      have e : i + (j - ((l.take i).map (iv k)).length) = j := by simp; omega
      rw [e, List.getElem?_eq_getElem hj]; rfl
  · rw [List.getElem?_eq_none (l := part k l i) (by rw [part_len]; omega), List.getElem?_eq_none (l := l) (by omega)]; rfl

theorem part_set (k : IntKind) (l : List Int) {i : Nat} (h : i < l.length) : (part k l i).set i (iv k l[i]) = part k l (i + 1) := by
  apply List.ext_getElem?
  intro j
  rw [part_get]
  by_cases hij : i = j
  · subst hij
    rw [List.getElem?_set_self (by rw [part_len]; exact h), List.getElem?_eq_getElem h, Option.map_some, if_pos (by omega)]
  · rw [List.getElem?_set_ne hij, part_get]
    congr 1
    funext x
    by_cases hj : j < i
    · rw [if_pos hj, if_pos (by omega)]
    · rw [if_neg hj, if_neg (by omega)]

theorem zeros_one (td : TD) (sz by_ : Nat) (v : Value) (fl : Bool) (n : Nat) : zeros { td := td, size := sz, bytes := by_, zero := [v], flat := fl } n = List.replicate n (.val v) := by
  unfold zeros
  induction n with
  | zero => rfl
  | succ n ih => rw [List.replicate_succ, List.flatten_cons, ih]; rfl
theorem lt_LF {n : Nat} (h : n ≤ 2 ^ 39) : n < LF := by
  have : LF = 2 ^ 50 := rfl
  omega
theorem lt_ok {i n : Nat} (h : i < n) : decide ((i : Int) < (n : Int)) = true := by simp; omega
theorem lt_no (n : Nat) : decide ((n : Int) < (n : Int)) = false := by simp

theorem nn_ok (n : Nat) : decide (0 ≤ (n : Int)) = true := by simp
theorem lim_le {n : Nat} (h : n ≤ 2 ^ 39) : decide ((n : Int) ≤ (LIM : Int)) = true := by
  have : LIM = 2 ^ 39 := rfl
  simp only [decide_eq_true_eq]
  omega
theorem succ_le {i n : Nat} (h : i < n) : decide (i + 1 ≤ n) = true := by simp; omega
theorem wrap_succ {i n : Nat} (h : i < n) (hn : n ≤ 2 ^ 39) : IntKind.i64.wrap ((i : Int) + 1) = ((i + 1 : Nat) : Int) := by
  rw [wrap64 (by omega) (by omega)]; rfl

theorem pos1 : decide ((0 : Nat) < 1) = true := by decide
theorem pos2 : decide ((0 : Nat) < 2) = true := by decide
theorem pos3 : decide ((0 : Nat) < 3) = true := by decide
theorem pos4 : decide ((0 : Nat) < 4) = true := by decide
theorem pos5 : decide ((0 : Nat) < 5) = true := by decide
theorem pos6 : decide ((0 : Nat) < 6) = true := by decide
theorem pos7 : decide ((0 : Nat) < 7) = true := by decide
theorem pos8 : decide ((0 : Nat) < 8) = true := by decide
theorem pos9 : decide ((0 : Nat) < 9) = true := by decide
theorem pos10 : decide ((0 : Nat) < 10) = true := by decide
theorem pos11 : decide ((0 : Nat) < 11) = true := by decide
theorem pos12 : decide ((0 : Nat) < 12) = true := by decide
theorem pos13 : decide ((0 : Nat) < 13) = true := by decide
theorem pos14 : decide ((0 : Nat) < 14) = true := by decide
theorem pos15 : decide ((0 : Nat) < 15) = true := by decide
theorem pos16 : decide ((0 : Nat) < 16) = true := by decide

theorem noSnapL_iv (k : IntKind) (l : List Int) : qf2 (l.map (iv k)) = true := by
  induction l with
  | nil => rfl
  | cons x l ih => simp [qf2, qf1, ih]
theorem getR0 (cs : List AV) (o : Nat) : getR cs o 0 = some [] := _root_.id _root_.rfl
theorem killt_nil : (Tr.kl {} : List Nat) = [] := _root_.id _root_.rfl

theorem map_get {k : IntKind} {l : List Int} {i : Nat} (h : i < l.length) : (l.map (iv k))[i]? = some (iv k l[i]) := by
  rw [List.getElem?_map, List.getElem?_eq_getElem h]; rfl

theorem takeOut0 (k : Nat) : takeOut k [] = .look k fun cs => .put k none (.ret cs) := _root_.id _root_.rfl
theorem takeOut1 (k j : Nat) : takeOut k [j] = .look k fun cs => match sub [j] cs with | some ds => .put k (some (cs.set j .und)) (.ret ds) | none => .fail := by
  simp only [takeOut, modp, List.dropLast, List.getLastD]
  congr 1
theorem sub_one (j : Nat) (cs : List AV) : sub [j] cs = match cs[j]? with | some (.sl .own _ _ _ ds) => some ds | _ => none := by
  simp only [sub]
  cases cs[j]? with
  | none => rfl
  | some x => cases x <;> first | rfl | (rename_i tg _ _ _ _; cases tg <;> rfl)
theorem take_map_len {α β : Type} (f : α → β) (l : List α) : (l.map f).take l.length = l.map f := List.take_of_length_le (by simp)
theorem killT_cons (k : Nat) (ks : List Nat) (T : Nat → AV) (t : Nat) : killT (k :: ks) T t = qc2 (k :: ks) (T t) := _root_.id _root_.rfl

theorem qg9 {α : Type} {b : Bool} {x y r : α} (hb : b = true) (h : x = r) : cond b x y = r := by subst hb; exact h

theorem range1 : List.range 1 = [0] := by decide
theorem pk_add (k : Nat) (q : Pk) : Pk.add k q = bif q.lent.contains k then q else { q with lent := q.lent ++ [k] } := _root_.id _root_.rfl
abbrev u64 (x : Int) : AV := .val (.int .u64 x)
def addU (x y : Int) : Int := IntKind.u64.wrap (x + y)
def xorU (x y : Int) : Int := IntKind.u64.wrap ((BitVec.ofInt 64 x ^^^ BitVec.ofInt 64 y).toNat : Int)
def orU (x y : Int) : Int := IntKind.u64.wrap ((BitVec.ofInt 64 x ||| BitVec.ofInt 64 y).toNat : Int)
def andU (x y : Int) : Int := IntKind.u64.wrap ((BitVec.ofInt 64 x &&& BitVec.ofInt 64 y).toNat : Int)
def subU (x y : Int) : Int := IntKind.u64.wrap (x - y)
def mulU (x y : Int) : Int := IntKind.u64.wrap (x * y)
def shlU (x n : Int) : Int := IntKind.u64.wrap (x * 2 ^ (min n.toNat 64))
def shrU (x n : Int) : Int := x.fdiv (2 ^ (min n.toNat 64))
def shrI (x n : Int) : Int := x.fdiv (2 ^ (min n.toNat 64))
def shlI (x n : Int) : Int := IntKind.i64.wrap (x * 2 ^ (min n.toNat 64))
def rotU (x n m : Int) : Int := orU (shlU x n) (shrU x m)
theorem bin_subU (x y : Int) : intBin .sub .u64 x y = .ret (u64 (subU x y)) := _root_.id _root_.rfl
theorem bin_mulU (x y : Int) : intBin .mul .u64 x y = .ret (u64 (mulU x y)) := _root_.id _root_.rfl
theorem bin_shlU (x y : Int) : intBin .shl .u64 x y = guardB (decide (0 ≤ y)) (.ret (u64 (shlU x y))) := _root_.id _root_.rfl
theorem bin_shrU (x y : Int) : intBin .shr .u64 x y = guardB (decide (0 ≤ y)) (.ret (u64 (shrU x y))) := _root_.id _root_.rfl
theorem bin_shrI (x y : Int) : intBin .shr .i64 x y = guardB (decide (0 ≤ y)) (.ret (vi (shrI x y))) := _root_.id _root_.rfl
theorem bin_shlI (x y : Int) : intBin .shl .i64 x y = guardB (decide (0 ≤ y)) (.ret (vi (shlI x y))) := _root_.id _root_.rfl
theorem bin_addI (x y : Int) : intBin .add .i64 x y = .ret (vi (IntKind.i64.wrap (x + y))) := _root_.id _root_.rfl
theorem bin_subI (x y : Int) : intBin .sub .i64 x y = .ret (vi (IntKind.i64.wrap (x - y))) := _root_.id _root_.rfl
theorem bin_mulI (x y : Int) : intBin .mul .i64 x y = .ret (vi (IntKind.i64.wrap (x * y))) := _root_.id _root_.rfl
theorem bin_quo (k : IntKind) (x y : Int) : intBin .quo k x y = guardB (!decide (y = 0)) (.ret (iv k (k.wrap (x.tdiv y)))) := _root_.id _root_.rfl
theorem bin_rem (k : IntKind) (x y : Int) : intBin .rem k x y = guardB (!decide (y = 0)) (.ret (iv k (x.tmod y))) := _root_.id _root_.rfl
theorem bin_eql (k : IntKind) (x y : Int) : intBin .eql k x y = .ret (vb (x == y)) := _root_.id _root_.rfl
theorem bin_neq (k : IntKind) (x y : Int) : intBin .neq k x y = .ret (vb (x != y)) := _root_.id _root_.rfl
theorem bin_lss (k : IntKind) (x y : Int) : intBin .lss k x y = .ret (vb (decide (x < y))) := _root_.id _root_.rfl
theorem bin_leq (k : IntKind) (x y : Int) : intBin .leq k x y = .ret (vb (decide (x ≤ y))) := _root_.id _root_.rfl
theorem bin_gtr (k : IntKind) (x y : Int) : intBin .gtr k x y = .ret (vb (decide (x > y))) := _root_.id _root_.rfl
theorem bin_geq (k : IntKind) (x y : Int) : intBin .geq k x y = .ret (vb (decide (x ≥ y))) := _root_.id _root_.rfl
theorem wrapU {x : Int} (h1 : 0 ≤ x) (h2 : x < 18446744073709551616) : IntKind.u64.wrap x = x := by rw [IntKind.wrap_u64]; omega
def kUn {R : Type} (nrm : St → St) (f : St → (Ex → St → Option R) → Option R) (k : Nat) (K : Ex → St → Option R) (S : St) : Option R := evLoop nrm f (LF - k) S K
theorem kUn_app {R : Type} (nrm : St → St) (f : St → (Ex → St → Option R) → Option R) (k : Nat) (K : Ex → St → Option R) (T : Nat → AV) (H : Heap) (nx : Nat) : kUn nrm f k K { T := T, H := H, nx := nx } = evLoop nrm f (LF - k) { T := T, H := H, nx := nx } K := _root_.id _root_.rfl
theorem unroll0 {R : Type} (nrm : St → St) (f : St → (Ex → St → Option R) → Option R) (K : Ex → St → Option R) (S : St) : evLoop nrm f LF S K = f (nrm S) (kLoop (kUn nrm f 1 K) K) := by
  have e : LF = (LF - 1) + 1 := by decide
  rw [e, evLoop_succ']
  rfl
theorem unroll {R : Type} (nrm : St → St) (f : St → (Ex → St → Option R) → Option R) (k : Nat) (K : Ex → St → Option R) (S : St) (h : k ≤ 1000) : evLoop nrm f (LF - k) S K = f (nrm S) (kLoop (kUn nrm f (k + 1) K) K) := by
  have hl : LF = 2 ^ 50 := _root_.rfl
  have e : LF - k = (LF - (k + 1)) + 1 := by omega
  rw [e, evLoop_succ']
  rfl
theorem bin_addU (x y : Int) : intBin .add .u64 x y = .ret (u64 (addU x y)) := _root_.id _root_.rfl
theorem bin_xorU (x y : Int) : intBin .xor .u64 x y = .ret (u64 (xorU x y)) := _root_.id _root_.rfl
theorem bin_orU (x y : Int) : intBin .or .u64 x y = .ret (u64 (orU x y)) := _root_.id _root_.rfl
theorem bin_andU (x y : Int) : intBin .and .u64 x y = .ret (u64 (andU x y)) := _root_.id _root_.rfl
/- The digest's lanes. -/
structure Lane where
  a : Int
  b : Int
  c : Int
def rnd (s : Lane) : Lane :=
  let a := addU s.a (addU (rotU s.b 13 51) 2654435761)
  let b := xorU s.b (xorU (rotU s.c 29 35) a)
  { a := a, b := b, c := addU s.c (addU (rotU a 41 23) (xorU b 40503)) }
def rndN : Nat → Lane → Lane
  | 0, s => s
  | n + 1, s => rnd (rndN n s)
def stepL (s : Lane) (b : Int) : Lane := rndN 2 { s with a := xorU s.a (IntKind.u64.wrap b) }
def takeL (s : Lane) (l : List Int) : Lane := l.foldl stepL s
def endL (s : Lane) (n : Nat) : Lane := rndN 6 { s with a := xorU s.a (IntKind.u64.wrap (n : Int)) }
def outL (bits : Int) (s : Lane) : Int := IntKind.i64.wrap (andU (xorU (xorU s.a s.b) s.c) (subU (shlU 1 bits) 1))
def dig (bits : Int) (l : List Int) : Int := outL bits (endL (takeL ⟨1, 2, 3⟩ l) l.length)
theorem one2 : decide ((1 : Nat) < 2) = true := by decide
theorem one3 : decide ((1 : Nat) < 3) = true := by decide
theorem one4 : decide ((1 : Nat) < 4) = true := by decide
theorem one5 : decide ((1 : Nat) < 5) = true := by decide
theorem one6 : decide ((1 : Nat) < 6) = true := by decide
theorem one7 : decide ((1 : Nat) < 7) = true := by decide
theorem one8 : decide ((1 : Nat) < 8) = true := by decide
theorem one9 : decide ((1 : Nat) < 9) = true := by decide
theorem one10 : decide ((1 : Nat) < 10) = true := by decide
theorem one11 : decide ((1 : Nat) < 11) = true := by decide
theorem one12 : decide ((1 : Nat) < 12) = true := by decide
theorem one13 : decide ((1 : Nat) < 13) = true := by decide
theorem one14 : decide ((1 : Nat) < 14) = true := by decide
theorem one15 : decide ((1 : Nat) < 15) = true := by decide
theorem one16 : decide ((1 : Nat) < 16) = true := by decide
theorem cst0 : ((0 : Nat) : Int) = 0 := by decide
theorem cst1 : ((1 : Nat) : Int) = 1 := by decide
theorem cst2 : ((2 : Nat) : Int) = 2 := by decide
theorem cst3 : ((3 : Nat) : Int) = 3 := by decide
theorem cst4 : ((4 : Nat) : Int) = 4 := by decide
theorem cst5 : ((5 : Nat) : Int) = 5 := by decide
theorem cst6 : ((6 : Nat) : Int) = 6 := by decide
theorem cst7 : ((7 : Nat) : Int) = 7 := by decide
theorem cst8 : ((8 : Nat) : Int) = 8 := by decide
theorem cst9 : ((9 : Nat) : Int) = 9 := by decide
theorem cst10 : ((10 : Nat) : Int) = 10 := by decide
theorem cst11 : ((11 : Nat) : Int) = 11 := by decide
theorem cst12 : ((12 : Nat) : Int) = 12 := by decide
theorem cst13 : ((13 : Nat) : Int) = 13 := by decide
theorem cst14 : ((14 : Nat) : Int) = 14 := by decide
theorem cst15 : ((15 : Nat) : Int) = 15 := by decide
theorem cst16 : ((16 : Nat) : Int) = 16 := by decide

theorem zeros_zero (r : Row) : zeros r 0 = [] := _root_.id _root_.rfl

theorem limN {k : Nat} (h : k ≤ 549755813888) : decide (k ≤ LIM) = true := by
  have : LIM = 549755813888 := by decide
  simp; omega

theorem qc7 (m : Nat) : capK none m = none := _root_.id _root_.rfl
theorem qc8 (q : Nat) : capK (some q) 0 = some q := _root_.id _root_.rfl
theorem qc9 (q m : Nat) : capK (some q) (m + 1) = none := _root_.id _root_.rfl
end Go.Proofs.Ythgopooldcheeaa.VH
end

section
namespace Go.Proofs.Ythgopooldcheeaa.VH

/- Data, as lists of numbers. -/

theorem fits_ints {k : IntKind} : ∀ {rows : List (List AV)}, (∀ r, r ∈ rows → Fits (.int k) r) → ∃ l : List Int, rows.flatten = l.map (iv k) ∧ l.length = rows.length ∧ ∀ n, n ∈ l → (Lit.int k n).wf = true
  | [], _ => ⟨[], rfl, rfl, fun n h => by simp at h⟩
  | r :: rs, h => by
    obtain ⟨l, h1, h2, h3⟩ := fits_ints (rows := rs) fun r hr => h r (by simp [hr])
    obtain ⟨n, rfl, hn⟩ := h r (by simp)
    exact ⟨n :: l, by simp [h1], by simp [h2], fun m hm => by
      rcases List.mem_cons.mp hm with e | e
      · rw [e]; exact hn
      · exact h3 m e⟩

theorem fits_sl_int {k : IntKind} {cs : List AV} (h : Fits (.sl (.int k)) cs) : ∃ l : List Int, cs = [.sl .fgn 1 l.length none (l.map (iv k))] ∧ l.length ≤ 9223372036854775807 ∧ ∀ n, n ∈ l → (Lit.int k n).wf = true := by
  obtain ⟨rows, h1, h2, rfl⟩ := h
  obtain ⟨l, l1, l2, l3⟩ := fits_ints h1
  exact ⟨l, by rw [l1, l2]; rfl, by rw [l2]; exact h2, l3⟩

theorem fits_int {k : IntKind} {cs : List AV} (h : Fits (.int k) cs) : ∃ n, cs = [.val (.int k n)] ∧ (Lit.int k n).wf = true := h
theorem fitsA_int {k : IntKind} {x : AV} (h : FitsA (.int k) x) : ∃ n, x = iv k n ∧ (Lit.int k n).wf = true := by
  obtain ⟨n, h1, h2⟩ := fits_int (cs := [x]) h
  exact ⟨n, by simpa using h1, h2⟩
theorem fitsA_sl_int {k : IntKind} {x : AV} (h : FitsA (.sl (.int k)) x) : ∃ l : List Int, x = .sl .fgn 1 l.length none (l.map (iv k)) ∧ l.length ≤ 9223372036854775807 ∧ ∀ n, n ∈ l → (Lit.int k n).wf = true := by
  obtain ⟨l, h1, h2, h3⟩ := fits_sl_int (cs := [x]) h
  exact ⟨l, by simpa using h1, h2, h3⟩
theorem fitsAll_nil {xs : List AV} (h : FitsAll [] xs) : xs = [] := by
  cases xs with
  | nil => rfl
  | cons x xs => exact h.elim
theorem fitsAll_cons {s : Sh} {ss : List Sh} {xs : List AV} (h : FitsAll (s :: ss) xs) : ∃ x ys, xs = x :: ys ∧ FitsA s x ∧ FitsAll ss ys := by
  cases xs with
  | nil => exact h.elim
  | cons x xs => exact ⟨x, xs, rfl, h.1, h.2⟩

end Go.Proofs.Ythgopooldcheeaa.VH
end

section
namespace Go.Proofs.Ythgopooldcheeaa.VH

abbrev w8 (x : Int) : Int := IntKind.u8.wrap x
def highL (x : Int) : List Int := [w8 (shrI x 24), w8 (shrI x 16), w8 (shrI x 8), w8 x]
def eightL (x : Int) : List Int := [w8 (shrI x 56), w8 (shrI x 48), w8 (shrI x 40), w8 (shrI x 32), w8 (shrI x 24), w8 (shrI x 16), w8 (shrI x 8), w8 x]
def slotL (c r : Int) : List Int := eightL c ++ eightL r ++ highL (dig 32 (eightL c ++ eightL r))

/-- marks: the numbers from 'k' on, as bytes -/
def marks (t : IntKind) (k : Int) (n : Nat) : List Int := (List.range n).map fun (i : Nat) => t.wrap (k + (i : Int))
def markP (t : IntKind) (k : Int) (l : List Int) (i : Nat) : List AV := (marks t k i).map (iv t) ++ (l.drop i).map (iv t)
theorem marks_len (t : IntKind) (k : Int) (n : Nat) : (marks t k n).length = n := by simp [marks]
theorem markP_len (t : IntKind) (k : Int) (l : List Int) {i : Nat} (h : i ≤ l.length) : (markP t k l i).length = l.length := by simp [markP, marks_len]; omega
theorem markP_zero (t : IntKind) (k : Int) (l : List Int) : markP t k l 0 = l.map (iv t) := by simp [markP, marks]
theorem markP_full (t : IntKind) (k : Int) (l : List Int) : markP t k l l.length = (marks t k l.length).map (iv t) := by simp [markP]
theorem markP_set (t : IntKind) (k : Int) (l : List Int) {i : Nat} (h : i < l.length) : (markP t k l i).set i (iv t (t.wrap (k + (i : Int)))) = markP t k l (i + 1) := by
  have hd : l.drop i = l[i] :: l.drop (i + 1) := List.drop_eq_getElem_cons h
  have hm : marks t k (i + 1) = marks t k i ++ [t.wrap (k + (i : Int))] := by simp [marks, List.range_succ]
  rw [markP, markP, hd, hm, List.set_append_right _ _ (by simp [marks_len])]
  simp only [marks_len, List.length_map, Nat.sub_self, List.map_cons, List.set_cons_zero, List.map_append, List.map_nil, List.append_assoc, List.cons_append, List.nil_append]
theorem marks_get (t : IntKind) (k : Int) {n i : Nat} (h : i < n) : ((marks t k n).map (iv t))[i]? = some (iv t (t.wrap (k + (i : Int)))) := by
  simp [marks, h]
theorem markP_lt (t : IntKind) (k : Int) (l : List Int) {i : Nat} (h : i < l.length) : decide (i + 1 ≤ (markP t k l i).length) = true := by
  rw [markP_len _ _ _ (by omega)]; simp; omega
theorem noSnapL_marks (t : IntKind) (k : Int) (l : List Int) (i : Nat) : qf2 (markP t k l i) = true := by
  have : markP t k l i = (marks t k i ++ l.drop i).map (iv t) := by simp [markP]
  rw [this]; exact noSnapL_iv _ _

theorem limI {n : Int} (h : n ≤ 549755813888) : decide (n ≤ (LIM : Int)) = true := by
  have : LIM = 549755813888 := by decide
  rw [this]; simp; omega

theorem wrapS {k : Int} {i : Nat} {n : Nat} (h : i < n) (h1 : 0 ≤ k) (h2 : k + n ≤ 549755813888) : IntKind.i64.wrap (k + (i : Int) + 1) = k + ((i + 1 : Nat) : Int) := by
  rw [wrap64 (by omega) (by omega)]; omega

end Go.Proofs.Ythgopooldcheeaa.VH
end

section
namespace Go.Proofs.Ythgopooldcheeaa.VH

/- Rows of numbers lead nowhere. -/
theorem anyOwn_iv (k : IntKind) (l : List Int) : (l.map (iv k)).any qb8 = false := by
  induction l with
  | nil => rfl
  | cons x l ih => simp [qb8]
theorem anySl_iv (k : IntKind) (l : List Int) : (l.map (iv k)).any isSl = false := by
  induction l with
  | nil => rfl
  | cons x l ih => simp [isSl]

end Go.Proofs.Ythgopooldcheeaa.VH
end

section
namespace Go.Proofs.Ythgopooldcheeaa.VH

/- The rules, some as one. -/
set_option maxRecDepth 10000

def vv := And.intro @kSeq_normal (And.intro @kCut_none (And.intro @kSeq_exit (And.intro @kSeq_ret (And.intro @kBlk_normal (And.intro @kBlk_exit (And.intro @kBlk_ret (And.intro @kLoop_normal (And.intro @kLoop_exit (And.intro @kLoop_ret (And.intro @kFin_ret (And.intro @kFin_normal (And.intro @kReg_app (And.intro @evC_skip (And.intro @evC_exit (And.intro @evC_ret (And.intro @evC_region (And.intro @evReg_false (And.intro @evReg_true (And.intro @evC_regionD (And.intro @evC_seq (And.intro @evC_block (And.intro @evC_cond (And.intro @evC_loop (And.intro @evIf_true (And.intro @evIf_false (And.intro @evIf_bx (And.intro @both_self (And.intro @runOps_nil (And.intro @runOps_cons (And.intro @kOp_app (And.intro @runOpsD_nil (And.intro @runOpsD_cons (And.intro @kOpD_app (And.intro @noted_f (And.intro @noted_t (And.intro @klA_nil (And.intro @klB_nil (And.intro @kPut_app (And.intro @stepOp_none (And.intro @stepOp_some (And.intro @opG_tt (And.intro @opG_ff (And.intro @opG_tf (And.intro @opG_ft (And.intro @opG_u (And.intro @guard_true (And.intro @guard_false (And.intro @run_ret (And.intro @run_put (And.intro @run_kill (And.intro @bind_ret (And.intro @bind_put (And.intro @bind_kill (And.intro @bind_look (And.intro @bind_guard (And.intro @run_look (And.intro @ofOpt_some (And.intro @exec_pick (And.intro @pick_true (And.intro @pick_false (And.intro @List.all_cons.{0} (And.intro @List.all_nil.{0} (And.intro @List.any_cons.{0} (And.intro @List.any_nil.{0} (And.intro @List.isEmpty_nil.{0} (And.intro @List.contains_nil.{0} (And.intro @List.contains_cons.{0} (And.intro @bin_addU (And.intro @bin_subU (And.intro @bin_mulU (And.intro @bin_xorU (And.intro @bin_orU (And.intro @bin_andU (And.intro @bin_shlU (And.intro @bin_shrU (And.intro @bin_shrI (And.intro @bin_shlI (And.intro @bin_addI (And.intro @bin_subI (And.intro @bin_mulI (And.intro @bin_quo (And.intro @bin_rem (And.intro @bin_eql (And.intro @bin_neq (And.intro @bin_lss (And.intro @bin_leq (And.intro @bin_gtr (And.intro @bin_geq (And.intro @zeros_zero (And.intro @List.flatMap_cons.{0, 0} (And.intro @List.flatMap_nil.{0, 0} (And.intro @List.append_nil.{0} (And.intro @List.nil_append.{0} (And.intro @List.cons_append.{0} (And.intro @limN (And.intro @List.take_succ_cons.{0} (And.intro @List.take_zero.{0} (And.intro @List.take_nil.{0} (And.intro @List.drop_succ_cons.{0} (And.intro @List.drop_zero.{0} (And.intro @List.drop_nil.{0} (And.intro @takeOut0 (And.intro @takeOut1 (And.intro @sub_one (And.intro @take_map_len (And.intro @List.length_map.{0, 0} (And.intro @killT_cons (And.intro @List.isEmpty_cons.{0} (And.intro @absorb_int (And.intro @getR0 (And.intro @setAt_one (And.intro @List.set_cons_zero.{0} (And.intro @List.set_cons_succ.{0} (And.intro @killt_nil (And.intro @putT_some (And.intro @putT_none (And.intro @killT_nil (And.intro @upd_app (And.intro @tp_cons (And.intro @hp_cons0 (And.intro @hp1 (And.intro @hp2 (And.intro @hp3 (And.intro @hp4 (And.intro @sub_nil (And.intro @modp_nil (And.intro @List.length_nil.{0} (And.intro @List.size_toArray.{0} (And.intro @List.length_cons.{0} (And.intro @List.getElem?_toArray.{0} (And.intro @List.getD_cons_zero.{0} (And.intro @List.getD_cons_succ.{0} (And.intro @List.getD_nil.{0} (And.intro @List.getD_eq_getElem?_getD.{0} (And.intro @List.getElem?_cons_zero.{0} (And.intro @List.getElem?_cons_succ.{0} (And.intro @List.getElem?_nil.{0} (And.intro @Option.getD_some.{0} (And.intro @Option.getD_none.{0} (And.intro @Option.map_some.{0, 0} (And.intro @Option.map_none.{0, 0} (And.intro @Option.bind_some.{0, 0} (And.intro @Option.isSome_some.{0} (And.intro @Option.isNone_none.{0} (And.intro @Option.isNone_some.{0} (And.intro @decide_true (And.intro @decide_false (And.intro @cond_true.{1} (And.intro @cond_false.{1} (And.intro @Bool.not_true (And.intro @Bool.not_false (And.intro @beq_true (And.intro @beq_false (And.intro @Bool.true_and (And.intro @Bool.and_true (And.intro @Bool.false_and (And.intro @Bool.and_false (And.intro @Bool.true_or (And.intro @Bool.or_true (And.intro @Bool.false_or (And.intro @Bool.or_false (And.intro @and_self (And.intro @ne_eq.{1} (And.intro @not_true_eq_false (And.intro @not_false_eq_true (And.intro @zero_ne_one_n (And.intro @one_ne_zero_n (And.intro @eq_self.{1} (And.intro @Nat.mul_one (And.intro @Nat.one_mul (And.intro @Nat.zero_mul (And.intro @Nat.zero_add (And.intro @Nat.add_zero (And.intro @Nat.zero_le (And.intro @Nat.le_refl (And.intro @beq_self_eq_true.{0} (And.intro @Int.toNat_natCast (And.intro @nn_ok (And.intro @pos1 (And.intro @pos2 (And.intro @pos3 (And.intro @pos4 (And.intro @pos5 (And.intro @pos6 (And.intro @pos7 (And.intro @pos8 (And.intro @pos9 (And.intro @pos10 (And.intro @pos11 (And.intro @pos12 (And.intro @pos13 (And.intro @pos14 (And.intro @pos15 (And.intro @pos16 (And.intro @one2 (And.intro @cst2 (And.intro @one3 (And.intro @cst3 (And.intro @one4 (And.intro @cst4 (And.intro @one5 (And.intro @cst5 (And.intro @one6 (And.intro @cst6 (And.intro @one7 (And.intro @cst7 (And.intro @one8 (And.intro @cst8 (And.intro @one9 (And.intro @cst9 (And.intro @one10 (And.intro @cst10 (And.intro @one11 (And.intro @cst11 (And.intro @one12 (And.intro @cst12 (And.intro @one13 (And.intro @cst13 (And.intro @one14 (And.intro @cst14 (And.intro @one15 (And.intro @cst15 (And.intro @one16 (And.intro @cst16 (And.intro @cst0 (@cst1))))))))))))))))))))))))))))))))))))))))))))))))))))))))))))))))))))))))))))))))))))))))))))))))))))))))))))))))))))))))))))))))))))))))))))))))))))))))))))))))))))))))))))))))))))))))))))))))))))))))))))))))))))))))))))))))))

def ff := And.intro @noSnapL_iv (And.intro @List.filter_nil.{0} (And.intro @List.filter_cons.{0} (And.intro @List.eraseDups_nil.{0} (And.intro @List.eraseDups_cons.{0} (And.intro @List.idxOf_cons.{0} (And.intro @List.idxOf_nil.{0} (And.intro @List.range_zero (And.intro @range1 (And.intro @List.append_nil.{0} (And.intro @List.nil_append.{0} (And.intro @List.cons_append.{0} (And.intro @List.map_nil.{0, 0} (@List.map_cons.{0, 0})))))))))))))

def cc := And.intro @pk_add (And.intro @List.headD_nil.{0} (And.intro @List.headD_cons.{0} (And.intro @List.tail_nil.{0} (And.intro @List.tail_cons.{0} (And.intro @List.nil_append.{0} (And.intro @List.append_nil.{0} (And.intro @List.cons_append.{0} (@List.idxOf_cons.{0}))))))))

def uu := And.intro @limI (And.intro @unroll0 (And.intro @unroll (And.intro @kUn_app (And.intro @zeros_one (And.intro @List.replicate_succ.{0} (And.intro @List.replicate_zero.{0} (@wrap64)))))))

end Go.Proofs.Ythgopooldcheeaa.VH
end

section
namespace Go.Proofs.Ythgopooldcheeaa.VH

/- Rows of numbers, told whatever way they are written. -/

def isK (k : IntKind) : List AV → Bool
  | [] => true
  | .val (.int k' _) :: r => k' == k && isK k r
  | _ :: _ => false

def un : List AV → List Int
  | [] => []
  | .val (.int _ n) :: r => n :: un r
  | _ :: r => 0 :: un r

theorem un_nil : un [] = [] := rfl
theorem un_int (k : IntKind) (n : Int) (r : List AV) : un (.val (.int k n) :: r) = n :: un r := rfl
theorem isK_nil (k : IntKind) : isK k [] = true := rfl
theorem isK_int (k : IntKind) (n : Int) (r : List AV) : isK k (.val (.int k n) :: r) = isK k r := by cases k <;> simp [isK]
theorem un_map (k : IntKind) (l : List Int) : un (l.map (iv k)) = l := by
  induction l with
  | nil => rfl
  | cons a l ih => simp only [List.map_cons, un_int, ih]
theorem isK_map (k : IntKind) (l : List Int) : isK k (l.map (iv k)) = true := by
  induction l with
  | nil => rfl
  | cons a l ih => rw [List.map_cons, isK_int, ih]
theorem un_cons (x : AV) (r : List AV) : un (x :: r) = un [x] ++ un r := by
  cases x with
  | val v => cases v <;> rfl
  | _ => rfl
theorem un_app (a b : List AV) : un (a ++ b) = un a ++ un b := by
  induction a with
  | nil => rfl
  | cons x a ih => rw [List.cons_append, un_cons, ih, un_cons x a, List.append_assoc]
theorem un_len (a : List AV) : (un a).length = a.length := by
  induction a with
  | nil => rfl
  | cons x a ih => rw [un_cons, List.length_append, ih]; cases x with
    | val v => cases v <;> simp [un] <;> omega
    | _ => simp [un]; omega
theorem isK_cons (k : IntKind) (x : AV) (r : List AV) : isK k (x :: r) = (isK k [x] && isK k r) := by
  cases x with
  | val v => cases v <;> simp [isK]
  | _ => rfl
theorem isK_app (k : IntKind) (a b : List AV) : isK k (a ++ b) = (isK k a && isK k b) := by
  induction a with
  | nil => rfl
  | cons x a ih => rw [List.cons_append, isK_cons, ih, isK_cons k x a, Bool.and_assoc]
theorem isK_get {k : IntKind} : ∀ {a : List AV}, isK k a = true → a = (un a).map (iv k)
  | [], _ => rfl
  | .val (.int k' n) :: r, h => by
    simp only [isK, Bool.and_eq_true, beq_iff_eq] at h
    obtain ⟨rfl, h⟩ := h
    rw [un_int, List.map_cons, ← isK_get h]
  | .val (.bool _) :: _, h | .val (.string _) :: _, h | .val (.slice ..) :: _, h | .val (.agg _) :: _, h | .val (.tuple _) :: _, h => by simp [isK] at h
  | .val (.pointer _) :: _, h | .val (.func ..) :: _, h | .val .nilFunc :: _, h | .val .nilIface :: _, h | .val (.iface ..) :: _, h => by simp [isK] at h
  | .val v :: _, h => by cases v <;> first | (simp [isK] at h; done) | (rename_i k' n; simp only [isK, Bool.and_eq_true, beq_iff_eq] at h; obtain ⟨rfl, h⟩ := h; rw [un_int, List.map_cons, ← isK_get h])
  | .und :: _, h | .sl .. :: _, h | .ref .. :: _, h | .ptr .. :: _, h | .rp .. :: _, h | .agg _ :: _, h | .tup _ :: _, h | .fn .. :: _, h | .bx _ :: _, h => by simp [isK] at h
theorem isK_take {k : IntKind} {a : List AV} (n : Nat) (h : isK k a = true) : isK k (a.take n) = true := by
  rw [isK_get h, ← List.map_take]; exact isK_map _ _
theorem isK_drop {k : IntKind} {a : List AV} (n : Nat) (h : isK k a = true) : isK k (a.drop n) = true := by
  rw [isK_get h, ← List.map_drop]; exact isK_map _ _
theorem un_take (a : List AV) (n : Nat) : un (a.take n) = (un a).take n := by
  induction a generalizing n with
  | nil => simp [un]
  | cons x a ih => cases n with
    | zero => rfl
    | succ n => rw [List.take_succ_cons, un_cons, ih, un_cons x a]; cases x with
      | val v => cases v <;> simp [un]
      | _ => simp [un]
theorem un_drop (a : List AV) (n : Nat) : un (a.drop n) = (un a).drop n := by
  induction a generalizing n with
  | nil => simp [un]
  | cons x a ih => cases n with
    | zero => rfl
    | succ n => rw [List.drop_succ_cons, ih, un_cons x a]; cases x with
      | val v => cases v <;> simp [un]
      | _ => simp [un]
theorem un_repl (k : IntKind) (n : Nat) (x : Int) : un (List.replicate n (.val (.int k x))) = List.replicate n x := by
  rw [show List.replicate n (AV.val (.int k x)) = (List.replicate n x).map (iv k) from by simp, un_map]
theorem isK_repl (k : IntKind) (n : Nat) (x : Int) : isK k (List.replicate n (.val (.int k x))) = true := by
  rw [show List.replicate n (AV.val (.int k x)) = (List.replicate n x).map (iv k) from by simp, isK_map]

/-- bytes -/
def B8 (l : List Int) : Prop := ∀ n, n ∈ l → 0 ≤ n ∧ n < 256
theorem B8.nil : B8 [] := fun _ h => by simp at h
theorem B8.cons {a : Int} {l : List Int} (h1 : 0 ≤ a ∧ a < 256) (h : B8 l) : B8 (a :: l) := fun n hn => by
  rcases List.mem_cons.mp hn with e | e
  · rw [e]; exact h1
  · exact h n e
theorem B8.app {a b : List Int} (h1 : B8 a) (h2 : B8 b) : B8 (a ++ b) := fun n hn => (List.mem_append.mp hn).elim (h1 n) (h2 n)
theorem B8.take {a : List Int} (n : Nat) (h : B8 a) : B8 (a.take n) := fun x hx => h x (List.mem_of_mem_take hx)
theorem B8.drop {a : List Int} (n : Nat) (h : B8 a) : B8 (a.drop n) := fun x hx => h x (List.mem_of_mem_drop hx)
theorem B8.w8 (x : Int) : 0 ≤ w8 x ∧ w8 x < 256 := by
  have := IntKind.wrap_u8 x
  simp only [VH.w8]; omega
theorem B8.eight (x : Int) : B8 (eightL x) := by
  unfold eightL
  repeat' (first | exact B8.nil | refine B8.cons (B8.w8 _) ?_)
theorem B8.high (x : Int) : B8 (highL x) := by
  unfold highL
  repeat' (first | exact B8.nil | refine B8.cons (B8.w8 _) ?_)
theorem B8.slot (c r : Int) : B8 (slotL c r) := ((B8.eight _).app (B8.eight _)).app (B8.high _)
theorem B8.wf {l : List Int} (h : ∀ n, n ∈ l → (Lit.int .u8 n).wf = true) : B8 l := fun n hn => by
  have := h n hn
  simp only [Lit.wf, Bool.and_eq_true, decide_eq_true_eq] at this
  have e1 : IntKind.u8.min = 0 := by decide
  have e2 : IntKind.u8.max = 255 := by decide
  omega

end Go.Proofs.Ythgopooldcheeaa.VH
namespace Go.Proofs.Ythgopooldcheeaa.VH
end Go.Proofs.Ythgopooldcheeaa.VH
namespace Go.Proofs.Ythgopooldcheeaa.VH
def bb := And.intro @isK_nil (And.intro @isK_int (And.intro @isK_map (And.intro @isK_app (And.intro @isK_repl (And.intro @isK_take (And.intro @isK_drop (And.intro @un_nil (And.intro @un_int (And.intro @un_map (And.intro @un_app (And.intro @un_len (And.intro @un_take (And.intro @un_drop (And.intro @un_repl (And.intro @B8.nil (And.intro @B8.take (And.intro @B8.drop (And.intro @B8.app (And.intro @B8.slot (And.intro @B8.eight (And.intro @B8.high (And.intro @List.take_of_length_le.{0} (And.intro @List.length_take.{0} (And.intro @List.length_drop.{0} (And.intro @List.length_append.{0} (And.intro @List.length_replicate.{0} (And.intro @Nat.min_def (@Int.cast_ofNat_Int))))))))))))))))))))))))))))
end Go.Proofs.Ythgopooldcheeaa.VH
end

section
namespace Go.Proofs.Ythgopooldcheeaa.VH

/- A row, a part of it written anew. -/

def putL {α : Type} (l : List α) (f : Nat) (s : List α) : List α := l.take f ++ s ++ l.drop (f + s.length)

theorem B8.put {l : List Int} {f : Nat} {s : List Int} (h1 : B8 l) (h2 : B8 s) : B8 (putL l f s) := ((h1.take _).app h2).app (h1.drop _)
theorem isK_getR {k : IntKind} {cs : List AV} (h : isK k cs = true) {i : Nat} (hi : i < cs.length) : cs[i]? = some (iv k ((un cs)[i]'(by rw [un_len]; exact hi))) := by
  have e : cs[i]? = ((un cs).map (iv k))[i]? := by rw [← isK_get h]
  rw [e, map_get (by rw [un_len]; exact hi)]
theorem isK_own {k : IntKind} {cs : List AV} (h : isK k cs = true) : cs.any qb8 = false := by rw [isK_get h]; exact anyOwn_iv _ _
theorem isK_sl {k : IntKind} {cs : List AV} (h : isK k cs = true) : cs.any isSl = false := by rw [isK_get h]; exact anySl_iv _ _
theorem isK_snap {k : IntKind} {cs : List AV} (h : isK k cs = true) : qf2 cs = true := by rw [isK_get h]; exact noSnapL_iv _ _

end Go.Proofs.Ythgopooldcheeaa.VH
namespace Go.Proofs.Ythgopooldcheeaa.VH
def xorI (x y : Int) : Int := IntKind.i64.wrap ((BitVec.ofInt 64 x ^^^ BitVec.ofInt 64 y).toNat : Int)
def andI (x y : Int) : Int := IntKind.i64.wrap ((BitVec.ofInt 64 x &&& BitVec.ofInt 64 y).toNat : Int)
theorem bin_xorI (x y : Int) : intBin .xor .i64 x y = .ret (vi (xorI x y)) := _root_.id _root_.rfl
theorem bin_andI (x y : Int) : intBin .and .i64 x y = .ret (vi (andI x y)) := _root_.id _root_.rfl
def nh (h : Int) : Int := IntKind.i64.wrap (IntKind.i64.wrap (h * 6364136223846793005) + 1442695040888963407)
def xr (h : Int) : Int := andI (xorI (shrI h 33) (shrI h 45)) 255
def by1 (b : List Int) (s : Nat × Int) : Int × (Nat × Int) :=
  if s.1 < b.length then (andI (IntKind.i64.wrap (xr (nh s.2) + IntKind.i64.wrap (b.getD s.1 0))) 255, (s.1 + 1, nh s.2)) else (xr (nh s.2), (s.1, nh s.2))
def bel (b : List Int) (n : Int) (s : Nat × Int) : Int × (Nat × Int) :=
  if n ≤ 0 then (0, s) else if n ≤ 256 then ((by1 b s).1.tmod n, (by1 b s).2)
  else (((by1 b s).1 * 16777216 + (by1 b (by1 b s).2).1 * 65536 + (by1 b (by1 b (by1 b s).2).2).1 * 256 + (by1 b (by1 b (by1 b (by1 b s).2).2).2).1).tmod n, (by1 b (by1 b (by1 b (by1 b s).2).2).2).2)
end Go.Proofs.Ythgopooldcheeaa.VH
end

section
namespace Go.Proofs.Ythgopooldcheeaa.VH

/- Rows of rows: each element takes so many cells. -/

def flat {α : Type} (enc : α → List AV) : List α → List AV
  | [] => []
  | a :: l => enc a ++ flat enc l

section
variable {α : Type} {enc : α → List AV} {z : Nat}

end

theorem fits_sl_st {s : Sh} {cs : List AV} (h : Fits (.sl s) cs) : ∃ rows : List (List AV), (∀ r, r ∈ rows → Fits s r) ∧ rows.length ≤ 9223372036854775807 ∧ cs = [.sl .fgn s.size rows.length none rows.flatten] := h
theorem fitsA_sl {s : Sh} {x : AV} (h : FitsA (.sl s) x) : ∃ rows : List (List AV), rows.length ≤ 9223372036854775807 ∧ (∀ r, r ∈ rows → Fits s r) ∧ x = .sl .fgn s.size rows.length none rows.flatten := by
  obtain ⟨rows, h1, h2, h3⟩ := fits_sl_st (cs := [x]) h
  exact ⟨rows, h2, h1, by simpa using h3⟩
end Go.Proofs.Ythgopooldcheeaa.VH
namespace Go.Proofs.Ythgopooldcheeaa.VH
end Go.Proofs.Ythgopooldcheeaa.VH
end

section
namespace Go.Proofs.Ythgopooldcheeaa.VH

/- Tools for a walk whose side conditions are found by 'omega'. -/
def at0 (l : List Int) (i : Nat) : Int := l.getD i 0
theorem at0_get {l : List Int} {i : Nat} (h : i < l.length) : at0 l i = l[i] := by
  rw [at0, List.getD_eq_getElem?_getD, List.getElem?_eq_getElem h]; rfl
theorem getD_isK {k : IntKind} {cs : List AV} (h : isK k cs = true) {i : Nat} (hi : i < cs.length) : cs[i]? = some (iv k (at0 (un cs) i)) := by
  rw [isK_getR h hi, at0_get (by rw [un_len]; exact hi)]
theorem get8 {cs : List AV} {i : Nat} (h : isK .u8 cs = true) (hi : i < cs.length) : cs[i]? = some (.val (.int .u8 (at0 (un cs) i))) := getD_isK h hi
theorem get64 {cs : List AV} {i : Nat} (h : isK .i64 cs = true) (hi : i < cs.length) : cs[i]? = some (.val (.int .i64 (at0 (un cs) i))) := getD_isK h hi
theorem B8.at0 {l : List Int} (h : B8 l) (i : Nat) : 0 ≤ at0 l i ∧ at0 l i < 256 := by
  rw [VH.at0, List.getD_eq_getElem?_getD]
  cases hi : l[i]? with
  | none => simp
  | some x => exact h x (List.mem_of_getElem? hi)
theorem isK_own8 {cs : List AV} (h : isK .u8 cs = true) : cs.any qb8 = false := isK_own h
theorem isK_own64 {cs : List AV} (h : isK .i64 cs = true) : cs.any qb8 = false := isK_own h
theorem isK_sl8 {cs : List AV} (h : isK .u8 cs = true) : cs.any isSl = false := isK_sl h
theorem isK_sl64 {cs : List AV} (h : isK .i64 cs = true) : cs.any isSl = false := isK_sl h
theorem isK_snap8 {cs : List AV} (h : isK .u8 cs = true) : qf2 cs = true := isK_snap h
theorem isK_snap64 {cs : List AV} (h : isK .i64 cs = true) : qf2 cs = true := isK_snap h
theorem wrap8 {x : Int} (h1 : 0 ≤ x) (h2 : x < 256) : IntKind.u8.wrap x = x := by rw [IntKind.wrap_u8]; omega
theorem toNat_sub {a b : Int} (h1 : 0 ≤ b) (h2 : b ≤ a) : (a - b).toNat = a.toNat - b.toNat := by omega
theorem toNat_add {a b : Int} (h1 : 0 ≤ a) (h2 : 0 ≤ b) : (a + b).toNat = a.toNat + b.toNat := by omega
theorem toNat_mul8 {a : Int} (h1 : 0 ≤ a) : (8 * a).toNat = 8 * a.toNat := by omega
theorem lim_nat {k : Nat} (h : k ≤ 549755813888) : decide (k ≤ LIM) = true := limN h
theorem dn_le (n : Nat) : decide (n ≤ n) = true := decide_eq_true (Nat.le_refl n)
theorem di_le (n : Int) : decide (n ≤ n) = true := decide_eq_true (Int.le_refl n)
theorem addsub (a b c : Nat) : a + b - (c + b) = a - c := Nat.add_sub_add_right a b c
section
variable {R : Type} {E : Env} {C : Oracle} {L : Nat} {f : FuncId}
theorem qg0 {b : Bool} {t e : Code} {S : St} {K : Ex → St → Option R} {r : Option R} (hb : b = true) (h : evC E C L f t S K = r) : evIf E C L f (.val (.bool b)) t e S K = r := by subst hb; exact h
theorem qg3 {b : Bool} {t e : Code} {S : St} {K : Ex → St → Option R} {r : Option R} (hb : b = false) (h : evC E C L f e S K = r) : evIf E C L f (.val (.bool b)) t e S K = r := by subst hb; exact h
theorem qg1 {i : Nat} {b want : Bool} {op : Op} {dst : Option Tmp} {S : St} {K : St → Tr → Option R} {r : Option R} (hb : b = true) (h : opG E C i (.val (.bool true)) want op dst S K = r) : opG E C i (.val (.bool b)) want op dst S K = r := by subst hb; exact h
theorem qg4 {i : Nat} {b want : Bool} {op : Op} {dst : Option Tmp} {S : St} {K : St → Tr → Option R} {r : Option R} (hb : b = false) (h : opG E C i (.val (.bool false)) want op dst S K = r) : opG E C i (.val (.bool b)) want op dst S K = r := by subst hb; exact h
end

/- arithmetic and loads that wait for a word on their bounds -/
def wrapM (k : IntKind) (x : Int) : HM AV := .ret (.val (.int k (k.wrap x)))
theorem bw_addI (x y : Int) : intBin .add .i64 x y = wrapM .i64 (x + y) := _root_.id _root_.rfl
theorem bw_subI (x y : Int) : intBin .sub .i64 x y = wrapM .i64 (x - y) := _root_.id _root_.rfl
theorem bw_mulI (x y : Int) : intBin .mul .i64 x y = wrapM .i64 (x * y) := _root_.id _root_.rfl
theorem bw_add8 (x y : Int) : intBin .add .u8 x y = wrapM .u8 (x + y) := _root_.id _root_.rfl
theorem bw_sub8 (x y : Int) : intBin .sub .u8 x y = wrapM .u8 (x - y) := _root_.id _root_.rfl
theorem conv_int (row : TypeId → Option Row) (s : TD) (k k' : IntKind) (n : Int) (fr : Nat) : convHM row s (.int k) (.val (.int k' n)) fr = wrapM k n := by cases s <;> rfl
theorem conv_str (row : TypeId → Option Row) (s : TD) (a : ByteArray) (fr : Nat) : convHM row s .string (.val (.string a)) fr = .ret (.val (.string a)) := by cases s <;> rfl
theorem conv_to (row : TypeId → Option Row) (e : TypeId) (a : ByteArray) (fr : Nat) : convHM row .string (.slice e) (.val (.string a)) fr = match row e with
    | some { td := .int .u8, .. } => .put fr (some (a.data.toList.map u8)) (.ret (.ref fr [] 1 0 a.size none))
    | _ => .fail := by
  simp only [convHM]
  cases h : row e with
  | none => rfl
  | some r =>
    obtain ⟨td, a1, a2, a3, a4⟩ := r
    cases td <;> first | rfl | (rename_i k; cases k <;> rfl)
theorem conv_of (row : TypeId → Option Row) (e : TypeId) (tg : Tg) (z n : Nat) (cap : Option Nat) (cs : List AV) (fr : Nat) : convHM row (.slice e) .string (.sl tg z n cap cs) fr = match row e with
    | some { td := .int .u8, .. } => guardB (zOK 1 (.sl tg z n cap cs)) ((cellsIn (.sl tg z n cap cs)).bind fun cs' => guardB (some cs'.length == qb (.sl tg z n cap cs)) ((ofOpt (bytesOf cs')).bind fun bs => .ret (.val (.string ⟨bs.toArray⟩))))
    | _ => .fail := by
  simp only [convHM]
  cases h : row e with
  | none => rfl
  | some r =>
    obtain ⟨td, a1, a2, a3, a4⟩ := r
    cases td <;> first | rfl | (rename_i k; cases k <;> rfl)
theorem conv_ofr (row : TypeId → Option Row) (e : TypeId) (k : Nat) (p : List Nat) (z off n : Nat) (cap : Option Nat) (fr : Nat) : convHM row (.slice e) .string (.ref k p z off n cap) fr = match row e with
    | some { td := .int .u8, .. } => guardB (zOK 1 (.ref k p z off n cap)) ((cellsIn (.ref k p z off n cap)).bind fun cs' => guardB (some cs'.length == qb (.ref k p z off n cap)) ((ofOpt (bytesOf cs')).bind fun bs => .ret (.val (.string ⟨bs.toArray⟩))))
    | _ => .fail := by
  simp only [convHM]
  cases h : row e with
  | none => rfl
  | some r =>
    obtain ⟨td, a1, a2, a3, a4⟩ := r
    cases td <;> first | rfl | (rename_i k; cases k <;> rfl)
theorem conv_ofn (row : TypeId → Option Row) (e : TypeId) (fr : Nat) : convHM row (.slice e) .string (.val (.slice none 0 0)) fr = match row e with
    | some { td := .int .u8, .. } => .ret (.val (.string ⟨#[]⟩))
    | _ => .fail := by
  simp only [convHM]
  cases h : row e with
  | none => rfl
  | some r =>
    obtain ⟨td, a1, a2, a3, a4⟩ := r
    cases td <;> first | rfl | (rename_i k; cases k <;> rfl)
def g1 (cs : List AV) (o : Nat) : Option AV := cs[o]?
def gc (x : Option AV) (r : Option (List AV)) : Option (List AV) := match x with
  | some a => match r with
    | some l => some (a :: l)
    | none => none
  | none => none
theorem g1_zero (x : AV) (r : List AV) : g1 (x :: r) 0 = some x := by simp [g1]
theorem g1_succ (x : AV) (r : List AV) (k : Nat) : g1 (x :: r) (k + 1) = g1 r k := by simp [g1]
theorem gc_some (a : AV) (l : List AV) : gc (some a) (some l) = some (a :: l) := _root_.id _root_.rfl
theorem getR_1 (cs : List AV) (o : Nat) : getR cs o 1 = gc (g1 cs o) (getR cs (o + 1) 0) := _root_.id _root_.rfl
theorem getX_2 (a0 a1 : AV) (l : List AV) : getR (a0 :: a1 :: l) 0 2 = some [a0, a1] := _root_.id _root_.rfl
theorem getX_3 (a0 a1 a2 : AV) (l : List AV) : getR (a0 :: a1 :: a2 :: l) 0 3 = some [a0, a1, a2] := _root_.id _root_.rfl
theorem getX_4 (a0 a1 a2 a3 : AV) (l : List AV) : getR (a0 :: a1 :: a2 :: a3 :: l) 0 4 = some [a0, a1, a2, a3] := _root_.id _root_.rfl
theorem getX_5 (a0 a1 a2 a3 a4 : AV) (l : List AV) : getR (a0 :: a1 :: a2 :: a3 :: a4 :: l) 0 5 = some [a0, a1, a2, a3, a4] := _root_.id _root_.rfl
theorem getX_6 (a0 a1 a2 a3 a4 a5 : AV) (l : List AV) : getR (a0 :: a1 :: a2 :: a3 :: a4 :: a5 :: l) 0 6 = some [a0, a1, a2, a3, a4, a5] := _root_.id _root_.rfl
theorem getX_7 (a0 a1 a2 a3 a4 a5 a6 : AV) (l : List AV) : getR (a0 :: a1 :: a2 :: a3 :: a4 :: a5 :: a6 :: l) 0 7 = some [a0, a1, a2, a3, a4, a5, a6] := _root_.id _root_.rfl
theorem getX_8 (a0 a1 a2 a3 a4 a5 a6 a7 : AV) (l : List AV) : getR (a0 :: a1 :: a2 :: a3 :: a4 :: a5 :: a6 :: a7 :: l) 0 8 = some [a0, a1, a2, a3, a4, a5, a6, a7] := _root_.id _root_.rfl
theorem getX_9 (a0 a1 a2 a3 a4 a5 a6 a7 a8 : AV) (l : List AV) : getR (a0 :: a1 :: a2 :: a3 :: a4 :: a5 :: a6 :: a7 :: a8 :: l) 0 9 = some [a0, a1, a2, a3, a4, a5, a6, a7, a8] := _root_.id _root_.rfl
theorem getX_10 (a0 a1 a2 a3 a4 a5 a6 a7 a8 a9 : AV) (l : List AV) : getR (a0 :: a1 :: a2 :: a3 :: a4 :: a5 :: a6 :: a7 :: a8 :: a9 :: l) 0 10 = some [a0, a1, a2, a3, a4, a5, a6, a7, a8, a9] := _root_.id _root_.rfl
theorem getX_11 (a0 a1 a2 a3 a4 a5 a6 a7 a8 a9 a10 : AV) (l : List AV) : getR (a0 :: a1 :: a2 :: a3 :: a4 :: a5 :: a6 :: a7 :: a8 :: a9 :: a10 :: l) 0 11 = some [a0, a1, a2, a3, a4, a5, a6, a7, a8, a9, a10] := _root_.id _root_.rfl
theorem getX_12 (a0 a1 a2 a3 a4 a5 a6 a7 a8 a9 a10 a11 : AV) (l : List AV) : getR (a0 :: a1 :: a2 :: a3 :: a4 :: a5 :: a6 :: a7 :: a8 :: a9 :: a10 :: a11 :: l) 0 12 = some [a0, a1, a2, a3, a4, a5, a6, a7, a8, a9, a10, a11] := _root_.id _root_.rfl
theorem getX_13 (a0 a1 a2 a3 a4 a5 a6 a7 a8 a9 a10 a11 a12 : AV) (l : List AV) : getR (a0 :: a1 :: a2 :: a3 :: a4 :: a5 :: a6 :: a7 :: a8 :: a9 :: a10 :: a11 :: a12 :: l) 0 13 = some [a0, a1, a2, a3, a4, a5, a6, a7, a8, a9, a10, a11, a12] := _root_.id _root_.rfl
theorem getX_14 (a0 a1 a2 a3 a4 a5 a6 a7 a8 a9 a10 a11 a12 a13 : AV) (l : List AV) : getR (a0 :: a1 :: a2 :: a3 :: a4 :: a5 :: a6 :: a7 :: a8 :: a9 :: a10 :: a11 :: a12 :: a13 :: l) 0 14 = some [a0, a1, a2, a3, a4, a5, a6, a7, a8, a9, a10, a11, a12, a13] := _root_.id _root_.rfl
theorem getX_15 (a0 a1 a2 a3 a4 a5 a6 a7 a8 a9 a10 a11 a12 a13 a14 : AV) (l : List AV) : getR (a0 :: a1 :: a2 :: a3 :: a4 :: a5 :: a6 :: a7 :: a8 :: a9 :: a10 :: a11 :: a12 :: a13 :: a14 :: l) 0 15 = some [a0, a1, a2, a3, a4, a5, a6, a7, a8, a9, a10, a11, a12, a13, a14] := _root_.id _root_.rfl
theorem getX_16 (a0 a1 a2 a3 a4 a5 a6 a7 a8 a9 a10 a11 a12 a13 a14 a15 : AV) (l : List AV) : getR (a0 :: a1 :: a2 :: a3 :: a4 :: a5 :: a6 :: a7 :: a8 :: a9 :: a10 :: a11 :: a12 :: a13 :: a14 :: a15 :: l) 0 16 = some [a0, a1, a2, a3, a4, a5, a6, a7, a8, a9, a10, a11, a12, a13, a14, a15] := _root_.id _root_.rfl
theorem getR_cs (x : AV) : ∀ (n k : Nat) (l : List AV), getR (x :: l) (k + 1) n = getR l k n
  | 0, _, _ => rfl
  | n + 1, k, l => by
    simp only [getR, List.getElem?_cons_succ]
    rw [getR_cs x n (k + 1) l]
theorem setAt_n (cs : List AV) (o : Nat) : setAt cs o [] = cs := _root_.id _root_.rfl
theorem setAt_cs (c : AV) : ∀ (xs cs : List AV) (o : Nat), setAt (c :: cs) (o + 1) xs = c :: setAt cs o xs
  | [], _, _ => rfl
  | x :: xs, cs, o => by simp only [setAt, List.set_cons_succ]; exact setAt_cs c xs _ _
theorem setAt_c0 (c x : AV) (cs xs : List AV) : setAt (c :: cs) 0 (x :: xs) = x :: setAt cs 0 xs := by
  simp only [setAt, List.set_cons_zero]; exact setAt_cs x xs _ _
section
variable {α R : Type} {H : Heap} {t : Tr} {r : Option R}
theorem qf8 {x : Int} {K : AV → Heap → Tr → Option R} (h1 : -9223372036854775808 ≤ x ∧ x ≤ 9223372036854775807) (h : K (.val (.int .i64 x)) H t = r) : (wrapM .i64 x).run H t K = r := by
  rw [wrapM, wrap64 h1.1 h1.2]; exact h
theorem qf9 {x : Int} {K : AV → Heap → Tr → Option R} (h1 : 0 ≤ x ∧ x < 256) (h : K (.val (.int .u8 x)) H t = r) : (wrapM .u8 x).run H t K = r := by
  rw [wrapM, wrap8 h1.1 h1.2]; exact h
theorem qg {x : Int} {K : AV → Heap → Tr → Option R} (h1 : 0 ≤ x ∧ x < 18446744073709551616) (h : K (.val (.int .u64 x)) H t = r) : (wrapM .u64 x).run H t K = r := by
  rw [wrapM, wrapU h1.1 h1.2]; exact h
theorem wrapM_raw {k : IntKind} {x : Int} {K : AV → Heap → Tr → Option R} (h : K (.val (.int k (k.wrap x))) H t = r) : (wrapM k x).run H t K = r := h
theorem qg6 {cs : List AV} {o : Nat} {F : List AV → HM α} {K : α → Heap → Tr → Option R} (hk : isK .u8 cs = true) (hi : o < cs.length) (hb : B8 (un cs)) (h : (0 ≤ at0 (un cs) o ∧ at0 (un cs) o < 256) → (F [.val (.int .u8 (at0 (un cs) o))]).run H t K = r) : ((ofOpt (gc (g1 cs o) (some []))).bind F).run H t K = r := by
  rw [g1, get8 hk hi]; exact h (hb.at0 o)
theorem qg8 {cs : List AV} {o : Nat} {F : List AV → HM α} {K : α → Heap → Tr → Option R} (hk : isK .i64 cs = true) (hi : o < cs.length) (h : (F [.val (.int .i64 (at0 (un cs) o))]).run H t K = r) : ((ofOpt (gc (g1 cs o) (some []))).bind F).run H t K = r := by
  rw [g1, get64 hk hi]; exact h
theorem qg2 {b : Bool} {m1 m2 : HM α} {K : α → Heap → Tr → Option R} (hb : b = true) (h : m1.run H t K = r) : (bif b then m1 else m2).run H t K = r := by subst hb; exact h
theorem qg5 {b : Bool} {m1 m2 : HM α} {K : α → Heap → Tr → Option R} (hb : b = false) (h : m2.run H t K = r) : (bif b then m1 else m2).run H t K = r := by subst hb; exact h
theorem call_elim {x : AV × List (Option (List AV))} {o : Option (AV × List (Option (List AV)))} {F : AV × List (Option (List AV)) → HM α} {K : α → Heap → Tr → Option R} (e : o = some x) (h : (F x).run H t K = r) : ((ofOpt o).bind F).run H t K = r := by
  subst e; exact h
end
theorem lim_val : LIM = 549755813888 := by decide
theorem tn_subl (j m : Nat) : ((j : Int) - (no_index (OfNat.ofNat m : Int))).toNat = j - m := by
  have : (OfNat.ofNat m : Int) = (m : Int) := _root_.id _root_.rfl
  rw [this]; omega
theorem tn_sub (j m : Nat) : ((j : Int) - (m : Int)).toNat = j - m := by omega
theorem tn_add (j m : Nat) : ((j : Int) + (no_index (OfNat.ofNat m : Int))).toNat = j + m := by
  have : (OfNat.ofNat m : Int) = (m : Int) := _root_.id _root_.rfl
  rw [this]; omega
def ww := And.intro @get8 (And.intro @get64 (And.intro @isK_own8 (And.intro @isK_own64 (And.intro @isK_sl8 (And.intro @isK_sl64 (And.intro @isK_snap8 (And.intro @isK_snap64 (And.intro @wrap8 (And.intro @wrap64 (And.intro @wrapU (And.intro @toNat_sub (And.intro @toNat_add (And.intro @toNat_mul8 (And.intro @lim_nat (And.intro @dn_le (And.intro @di_le (And.intro @addsub (And.intro @Int.natCast_add @Int.natCast_mul))))))))))))))))))
def bo := And.intro @Bool.and_eq_true (And.intro @Bool.or_eq_true (And.intro @Bool.and_eq_false_iff (And.intro @Bool.or_eq_false_iff (And.intro @decide_eq_true_eq (And.intro @decide_eq_false_iff_not (And.intro @Bool.not_eq_true' @Bool.not_eq_false'))))))
def bl := And.intro @lim_val (And.intro @un_len (And.intro @un_take (And.intro @un_drop (And.intro @un_app (And.intro @List.length_take.{0} (And.intro @List.length_drop.{0} (And.intro @List.length_append.{0} (And.intro @List.length_replicate.{0} (And.intro @List.length_map.{0,0} (And.intro @List.length_cons.{0} (And.intro @List.length_nil.{0} (And.intro @List.length_range (And.intro @Int.cast_ofNat_Int (And.intro @Int.toNat_natCast (@Nat.sub_zero)))))))))))))))
theorem bz : type_of% (And.intro @bo (And.intro @bl (And.intro @beq_iff_eq.{0} (And.intro @bne_iff_ne.{0} (And.intro @beq_eq_false_iff_ne.{0} (And.intro @bne_eq_false_iff_eq.{0} @ne_eq.{1})))))) := (And.intro @bo (And.intro @bl (And.intro @beq_iff_eq.{0} (And.intro @bne_iff_ne.{0} (And.intro @beq_eq_false_iff_ne.{0} (And.intro @bne_eq_false_iff_eq.{0} @ne_eq.{1}))))))
end Go.Proofs.Ythgopooldcheeaa.VH
end

section
namespace Go.Proofs.Ythgopooldcheeaa.VH

/- The rules of the walk, as one. -/
set_option maxRecDepth 10000
def vw := And.intro @kSeq_normal (And.intro @kCut_none (And.intro @kSeq_exit (And.intro @kSeq_ret (And.intro @kBlk_normal (And.intro @kBlk_exit (And.intro @kBlk_ret (And.intro @kLoop_normal (And.intro @kLoop_exit (And.intro @kLoop_ret (And.intro @kFin_ret (And.intro @kFin_normal (And.intro @kReg_app (And.intro @evC_skip (And.intro @evC_exit (And.intro @evC_ret (And.intro @evC_region (And.intro @evReg_false (And.intro @evReg_true (And.intro @evC_regionD (And.intro @evC_seq (And.intro @evC_block (And.intro @evC_cond (And.intro @evC_loop (And.intro @evIf_true (And.intro @evIf_false (And.intro @evIf_bx (And.intro @both_self (And.intro @runOps_nil (And.intro @runOps_cons (And.intro @kOp_app (And.intro @runOpsD_nil (And.intro @runOpsD_cons (And.intro @kOpD_app (And.intro @noted_f (And.intro @noted_t (And.intro @klA_nil (And.intro @klB_nil (And.intro @kPut_app (And.intro @stepOp_none (And.intro @stepOp_some (And.intro @opG_tt (And.intro @opG_ff (And.intro @opG_tf (And.intro @opG_ft (And.intro @opG_u (And.intro @guard_true (And.intro @guard_false (And.intro @run_ret (And.intro @run_put (And.intro @run_kill (And.intro @bind_ret (And.intro @bind_put (And.intro @bind_kill (And.intro @bind_look (And.intro @bind_guard (And.intro @run_look (And.intro @ofOpt_some (And.intro @exec_pick (And.intro @pick_true (And.intro @pick_false (And.intro @List.all_cons.{0} (And.intro @List.all_nil.{0} (And.intro @List.any_cons.{0} (And.intro @List.any_nil.{0} (And.intro @List.isEmpty_nil.{0} (And.intro @List.contains_nil.{0} (And.intro @List.contains_cons.{0} (And.intro @bin_addU (And.intro @bin_subU (And.intro @bin_mulU (And.intro @bin_xorU (And.intro @bin_orU (And.intro @bin_andU (And.intro @bin_shlU (And.intro @bin_shrU (And.intro @bin_shrI (And.intro @bin_shlI (And.intro @bin_quo (And.intro @bin_rem (And.intro @bin_eql (And.intro @bin_neq (And.intro @bin_lss (And.intro @bin_leq (And.intro @bin_gtr (And.intro @bin_geq (And.intro @zeros_zero (And.intro @List.flatMap_cons.{0, 0} (And.intro @List.flatMap_nil.{0, 0} (And.intro @List.append_nil.{0} (And.intro @List.nil_append.{0} (And.intro @List.cons_append.{0} (And.intro @limN (And.intro @List.take_succ_cons.{0} (And.intro @List.take_zero.{0} (And.intro @List.take_nil.{0} (And.intro @List.drop_succ_cons.{0} (And.intro @List.drop_zero.{0} (And.intro @List.drop_nil.{0} (And.intro @takeOut0 (And.intro @takeOut1 (And.intro @sub_one (And.intro @take_map_len (And.intro @List.length_map.{0, 0} (And.intro @killT_cons (And.intro @List.isEmpty_cons.{0} (And.intro @absorb_int (And.intro @getR0 (And.intro @setAt_one (And.intro @List.set_cons_zero.{0} (And.intro @List.set_cons_succ.{0} (And.intro @killt_nil (And.intro @bw_addI (And.intro @bw_subI (And.intro @bw_mulI (And.intro @bw_add8 (And.intro @bw_sub8 (And.intro @conv_int (And.intro @conv_str (And.intro @conv_to (And.intro @conv_of (And.intro @conv_ofr (And.intro @conv_ofn (And.intro @g1_zero (And.intro @g1_succ (And.intro @gc_some (And.intro @getR_1 (And.intro @tn_add (And.intro @tn_subl (And.intro @tn_sub (And.intro @getX_2 (And.intro @getX_3 (And.intro @getX_4 (And.intro @getX_5 (And.intro @getX_6 (And.intro @getX_7 (And.intro @getX_8 (And.intro @getX_9 (And.intro @getX_10 (And.intro @getX_11 (And.intro @getX_12 (And.intro @getX_13 (And.intro @getX_14 (And.intro @getX_15 (And.intro @getX_16 (And.intro @getR_cs (And.intro @setAt_n (And.intro @setAt_cs (And.intro @setAt_c0 (And.intro @putT_some (And.intro @putT_none (And.intro @killT_nil (And.intro @upd_app (And.intro @tp_cons (And.intro @hp_cons0 (And.intro @hp1 (And.intro @hp2 (And.intro @hp3 (And.intro @hp4 (And.intro @sub_nil (And.intro @modp_nil (And.intro @List.length_nil.{0} (And.intro @List.size_toArray.{0} (And.intro @List.length_cons.{0} (And.intro @List.getElem?_toArray.{0} (And.intro @List.getD_cons_zero.{0} (And.intro @List.getD_cons_succ.{0} (And.intro @List.getD_nil.{0} (And.intro @List.getD_eq_getElem?_getD.{0} (And.intro @List.getElem?_cons_zero.{0} (And.intro @List.getElem?_cons_succ.{0} (And.intro @List.getElem?_nil.{0} (And.intro @Option.getD_some.{0} (And.intro @Option.getD_none.{0} (And.intro @Option.map_some.{0, 0} (And.intro @Option.map_none.{0, 0} (And.intro @Option.bind_some.{0, 0} (And.intro @Option.isSome_some.{0} (And.intro @Option.isNone_none.{0} (And.intro @Option.isNone_some.{0} (And.intro @decide_true (And.intro @decide_false (And.intro @cond_true.{1} (And.intro @cond_false.{1} (And.intro @Bool.not_true (And.intro @Bool.not_false (And.intro @beq_true (And.intro @beq_false (And.intro @Bool.true_and (And.intro @Bool.and_true (And.intro @Bool.false_and (And.intro @Bool.and_false (And.intro @Bool.true_or (And.intro @Bool.or_true (And.intro @Bool.false_or (And.intro @Bool.or_false (And.intro @and_self (And.intro @ne_eq.{1} (And.intro @not_true_eq_false (And.intro @not_false_eq_true (And.intro @zero_ne_one_n (And.intro @one_ne_zero_n (And.intro @eq_self.{1} (And.intro @Nat.mul_one (And.intro @Nat.one_mul (And.intro @Nat.zero_mul (And.intro @Nat.zero_add (And.intro @Nat.add_zero (And.intro @Nat.zero_le (And.intro @Nat.le_refl (And.intro @beq_self_eq_true.{0} (And.intro @Int.toNat_natCast (And.intro @nn_ok (And.intro @pos1 (And.intro @pos2 (And.intro @pos3 (And.intro @pos4 (And.intro @pos5 (And.intro @pos6 (And.intro @pos7 (And.intro @pos8 (And.intro @pos9 (And.intro @pos10 (And.intro @pos11 (And.intro @pos12 (And.intro @pos13 (And.intro @pos14 (And.intro @pos15 (And.intro @pos16 (And.intro @one2 (And.intro @cst2 (And.intro @one3 (And.intro @cst3 (And.intro @one4 (And.intro @cst4 (And.intro @one5 (And.intro @cst5 (And.intro @one6 (And.intro @cst6 (And.intro @one7 (And.intro @cst7 (And.intro @one8 (And.intro @cst8 (And.intro @one9 (And.intro @cst9 (And.intro @one10 (And.intro @cst10 (And.intro @one11 (And.intro @cst11 (And.intro @one12 (And.intro @cst12 (And.intro @one13 (And.intro @cst13 (And.intro @one14 (And.intro @cst14 (And.intro @one15 (And.intro @cst15 (And.intro @one16 (And.intro @cst16 (And.intro @cst0 (@cst1))))))))))))))))))))))))))))))))))))))))))))))))))))))))))))))))))))))))))))))))))))))))))))))))))))))))))))))))))))))))))))))))))))))))))))))))))))))))))))))))))))))))))))))))))))))))))))))))))))))))))))))))))))))))))))))))))))))))))))))))))))))))))))))))))))
end Go.Proofs.Ythgopooldcheeaa.VH
end

section
namespace Go.Proofs.Ythgopooldcheeaa.VH

theorem hand_none {P : Program} : OrcOK P (fun _ _ _ => none) := fun f args cts x cts' h => by simp at h
end Go.Proofs.Ythgopooldcheeaa.VH
end

section
namespace Go.Proofs.Ythgopooldcheeaa.VH

end Go.Proofs.Ythgopooldcheeaa.VH
end

section
namespace Go.Proofs.Ythgopooldcheeaa.VH

/- Texts, as lists of bytes. -/
def sB (l : List UInt8) : ByteArray := ⟨l.toArray⟩
abbrev vs (l : List UInt8) : AV := .val (.string (sB l))
theorem sB_size (l : List UInt8) : (sB l).size = l.length := by simp [sB, ByteArray.size]
theorem sB_data (l : List UInt8) : (sB l).data.toList = l := by simp [sB]
theorem sB_toList (l : List UInt8) : (sB l).toList = l := by rw [Go.ByteArray.toList_eq]; simp [sB]
theorem sB_get (l : List UInt8) (i : Nat) : (sB l)[i]? = l[i]? := by
  by_cases h : i < l.length
  · have h' : i < (sB l).size := by rw [sB_size]; exact h
    rw [getElem?_pos (sB l) i h', getElem?_pos l i h]
    congr 1
  · have h' : ¬ i < (sB l).size := by rw [sB_size]; exact h
    rw [getElem?_neg (sB l) i h', getElem?_neg l i h]
theorem sB_mk (l : List UInt8) : ByteArray.mk (List.toArray l) = sB l := _root_.id _root_.rfl
theorem sB_mk0 : ByteArray.mk #[] = sB [] := _root_.id _root_.rfl
theorem sB_ext {a b : ByteArray} (h : a.data.toList = b.data.toList) : a = b := by
  cases a; cases b; simp at h; rw [h]
theorem sB_app (a b : List UInt8) : sB a ++ sB b = sB (a ++ b) := by
  apply sB_ext
  rw [ByteArray.data_append, Array.toList_append, sB_data, sB_data, sB_data]
theorem sB_extract (l : List UInt8) (i j : Nat) : (sB l).extract i j = sB ((l.take j).drop i) := by
  apply sB_ext
  rw [ByteArray.data_extract, Array.toList_extract, sB_data, sB_data, List.extract_eq_take_drop, List.drop_take]
def ltB (a b : List UInt8) : Bool := Op.bytesLess a b
theorem strBin_eql (a b : List UInt8) : strBin .eql (sB a) (sB b) = .ret (vb (a == b)) := by simp only [strBin, sB_toList]
theorem strBin_neq (a b : List UInt8) : strBin .neq (sB a) (sB b) = .ret (vb (!(a == b))) := by simp only [strBin, sB_toList]
theorem strBin_lss (a b : List UInt8) : strBin .lss (sB a) (sB b) = .ret (vb (ltB a b)) := by simp only [strBin, sB_toList, ltB]
theorem strBin_geq (a b : List UInt8) : strBin .geq (sB a) (sB b) = .ret (vb (!(ltB a b))) := by simp only [strBin, sB_toList, ltB]
theorem strBin_add (a b : List UInt8) : strBin .add (sB a) (sB b) = guardB (decide (a.length + b.length ≤ LIM)) (.ret (vs (a ++ b))) := by simp only [strBin, sB_size, sB_app]
section
variable {α R : Type} {H : Heap} {t : Tr} {r : Option R}
/-- a byte of a text -/
def bA (l : List UInt8) (i : Nat) : UInt8 := l.getD i 0
theorem bA_get {l : List UInt8} {i : Nat} (h : i < l.length) : bA l i = l[i] := by
  rw [bA, List.getD_eq_getElem?_getD, List.getElem?_eq_getElem h]; rfl
theorem qg7 {l : List UInt8} {i : Nat} {F : UInt8 → HM α} {K : α → Heap → Tr → Option R} (hi : i < l.length) (h : (0 ≤ ((bA l i).toNat : Int) ∧ ((bA l i).toNat : Int) < 256) → (F (bA l i)).run H t K = r) : ((ofOpt ((sB l)[i]?)).bind F).run H t K = r := by
  have hb : (bA l i).toNat < 256 := UInt8.toNat_lt _
  rw [sB_get, List.getElem?_eq_getElem hi, ← bA_get hi]
  exact h ⟨by omega, by omega⟩
end
theorem u8_val (b : UInt8) : VH.u8 b = .val (.int .u8 b.toNat) := _root_.id _root_.rfl
def kk := And.intro @isK_own8 (And.intro @isK_own64 (And.intro @isK_sl8 (And.intro @isK_sl64 (And.intro @isK_snap8 (@isK_snap64)))))
def ss := And.intro @sB_mk (And.intro @sB_mk0 (And.intro @sB_size (And.intro @sB_data (And.intro @sB_extract (And.intro @strBin_eql (And.intro @strBin_neq (And.intro @strBin_lss (And.intro @strBin_geq (And.intro @strBin_add (And.intro @u8_val @sB_toList))))))))))
end Go.Proofs.Ythgopooldcheeaa.VH
end

section
namespace Go.Proofs.Ythgopooldcheeaa.VH

end Go.Proofs.Ythgopooldcheeaa.VH
end

section
namespace Go.Proofs.Ythgopooldcheeaa.VH

/- Sums over rows; rows that are filled. -/
section
variable {α : Type}
def sumS (f : α → Nat) (L : List α) (i : Nat) : Nat := ((L.take i).map f).sum
theorem sumS_zero (f : α → Nat) (L : List α) : sumS f L 0 = 0 := rfl
theorem sumS_succ (f : α → Nat) {L : List α} {i : Nat} (h : i < L.length) : sumS f L (i + 1) = sumS f L i + f L[i] := by
  rw [sumS, sumS, List.take_succ_eq_append_getElem h, List.map_append, List.sum_append]
  simp only [List.map_cons, List.map_nil, List.sum_cons, List.sum_nil, Nat.add_zero]
theorem sumS_step (f : α → Nat) (L : List α) (i : Nat) : sumS f L i ≤ sumS f L (i + 1) := by
  by_cases h : i < L.length
  · rw [sumS_succ f h]; omega
  · have : L.take (i + 1) = L.take i := by rw [List.take_of_length_le (by omega), List.take_of_length_le (by omega)]
    simp [sumS, this]
theorem sumS_mono (f : α → Nat) (L : List α) {i j : Nat} (h : i ≤ j) : sumS f L i ≤ sumS f L j := by
  induction j with
  | zero => have : i = 0 := by omega
            subst this; exact Nat.le_refl _
  | succ j ih =>
    by_cases e : i = j + 1
    · subst e; exact Nat.le_refl _
    · exact Nat.le_trans (ih (by omega)) (sumS_step f L j)
theorem sumS_one (f : α → Nat) {L : List α} {i : Nat} (h : i < L.length) : f L[i] ≤ sumS f L L.length := by
  have h1 := sumS_mono f L (show i + 1 ≤ L.length by omega)
  rw [sumS_succ f h] at h1; omega
/-- the length of a row, and what its elements bear -/
def totS (f : α → Nat) (L : List α) : Nat := L.length + sumS f L L.length
theorem totS_one (f : α → Nat) {L : List α} {i : Nat} (h : i < L.length) : f L[i] ≤ totS f L := by
  have := sumS_one f h; unfold totS; omega
theorem totS_len (f : α → Nat) (L : List α) : L.length ≤ totS f L := by unfold totS; omega
end
theorem tkW_lt {α : Type} (p : α → Bool) : ∀ (l : List α) (i : Nat), i < (l.takeWhile p).length → ∃ h : i < l.length, p l[i] = true
  | [], i, h => by simp at h
  | a :: l, i, h => by
    rw [List.takeWhile_cons] at h
    split at h
    · rename_i hp
      cases i with
      | zero => exact ⟨by simp, by simpa using hp⟩
      | succ i =>
        obtain ⟨h1, h2⟩ := tkW_lt p l i (by simpa using h)
        exact ⟨by simp; omega, by simpa using h2⟩
    · simp at h
theorem tkW_at {α : Type} (p : α → Bool) : ∀ (l : List α) (h : (l.takeWhile p).length < l.length), p l[(l.takeWhile p).length] = false
  | [], h => by simp at h
  | a :: l, h => by
    cases hp : p a with
    | false => simp [List.takeWhile_cons, hp]
    | true =>
      have := tkW_at p l (by simpa [List.takeWhile_cons, hp] using h)
      simpa [List.takeWhile_cons, hp] using this
theorem tkW_le {α : Type} (p : α → Bool) : ∀ l : List α, (l.takeWhile p).length ≤ l.length
  | [] => by simp
  | a :: l => by
    rw [List.takeWhile_cons]
    split
    · simp [tkW_le p l]
    · simp
/-- the first place where something holds -/
def fiT (f : Nat → Bool) (n : Nat) : Nat := ((List.range n).takeWhile fun i => !f i).length
theorem fiT_le (f : Nat → Bool) (n : Nat) : fiT f n ≤ n := by
  have := tkW_le (fun i => !f i) (List.range n)
  simpa [fiT] using this
theorem fiT_lt {f : Nat → Bool} {n i : Nat} (h : i < fiT f n) : f i = false := by
  obtain ⟨h1, h2⟩ := tkW_lt (fun i => !f i) (List.range n) i h
  rw [List.getElem_range] at h2
  simpa using h2
theorem fiT_at {f : Nat → Bool} {n : Nat} (h : fiT f n < n) : f (fiT f n) = true := by
  have := tkW_at (fun i => !f i) (List.range n) (by rw [List.length_range]; exact h)
  rw [List.getElem_range] at this
  simpa [fiT] using this
theorem fiT_any (f : Nat → Bool) (n : Nat) : decide (fiT f n < n) = (List.range n).any f := by
  cases h : (List.range n).any f with
  | true =>
    obtain ⟨i, hi, hf⟩ := List.any_eq_true.mp h
    rw [List.mem_range] at hi
    refine decide_eq_true (Classical.byContradiction fun hh => ?_)
    have := fiT_lt (f := f) (n := n) (i := i) (by have := fiT_le f n; omega)
    rw [hf] at this; simp at this
  | false =>
    refine decide_eq_false fun hh => ?_
    have := List.any_eq_false.mp h _ (List.mem_range.mpr hh)
    exact this (fiT_at hh)
end Go.Proofs.Ythgopooldcheeaa.VH
end

section
namespace Go.Proofs.Ythgopooldcheeaa.VH

/- The rules of the walk, in a set of rules that simp knows by name. -/
attribute [go_sem] vw cc bb ff ss kk qa qa0 clash meets execOp evBox opnd qa1 bin qa2 qa3 qa4 qa5 qa6 qa7 zOK qa8 qa9 borL isSl qb qb0 qb1 qb2 qb3 qb4 cellsOf TD.agg qb5 qb6 qb7 qb8 qb9 qc qc0 qc1 qc2 qc3 qc4 qc5 qc6 qc7 qc8 qc9 Array.toList List.map Option.isSome_none bne_self_eq_false qd qd0 qd1 qd2 qd3 qd4 qd5 qd6 qd7 qd8 qd9 qe qe0 qe1 qe2 qe3 qe4 qe5 qe6 qe7 qe8 qe9 qf finish qf0 resOf resa qf1 qf2 qf3 keep qf4 qf5 qf6
section
variable {α R : Type} {H : Heap} {t : Tr} {r : Option R}
theorem g1_u8w {cs : List AV} {o : Nat} {F : List AV → HM α} {K : α → Heap → Tr → Option R} (hs : isK .u8 cs = true ∧ o < cs.length ∧ B8 (un cs)) (h : (0 ≤ at0 (un cs) o ∧ at0 (un cs) o < 256) → (F [.val (.int .u8 (at0 (un cs) o))]).run H t K = r) : ((ofOpt (gc (g1 cs o) (some []))).bind F).run H t K = r := qg6 hs.1 hs.2.1 hs.2.2 h
theorem g1_64w {cs : List AV} {o : Nat} {F : List AV → HM α} {K : α → Heap → Tr → Option R} (hs : isK .i64 cs = true ∧ o < cs.length) (h : True → (F [.val (.int .i64 (at0 (un cs) o))]).run H t K = r) : ((ofOpt (gc (g1 cs o) (some []))).bind F).run H t K = r := qg8 hs.1 hs.2 (h trivial)
end
theorem ga2 {A0 : Prop} {A1 : Prop} (x0 : A0) (x1 : A1) : A0 ∧ A1 := ⟨x0, x1⟩
theorem ga3 {A0 : Prop} {A1 : Prop} {A2 : Prop} (x0 : A0) (x1 : A1) (x2 : A2) : A0 ∧ A1 ∧ A2 := ⟨x0, x1, x2⟩
theorem ga4 {A0 : Prop} {A1 : Prop} {A2 : Prop} {A3 : Prop} (x0 : A0) (x1 : A1) (x2 : A2) (x3 : A3) : A0 ∧ A1 ∧ A2 ∧ A3 := ⟨x0, x1, x2, x3⟩
theorem ga5 {A0 : Prop} {A1 : Prop} {A2 : Prop} {A3 : Prop} {A4 : Prop} (x0 : A0) (x1 : A1) (x2 : A2) (x3 : A3) (x4 : A4) : A0 ∧ A1 ∧ A2 ∧ A3 ∧ A4 := ⟨x0, x1, x2, x3, x4⟩
theorem ga6 {A0 : Prop} {A1 : Prop} {A2 : Prop} {A3 : Prop} {A4 : Prop} {A5 : Prop} (x0 : A0) (x1 : A1) (x2 : A2) (x3 : A3) (x4 : A4) (x5 : A5) : A0 ∧ A1 ∧ A2 ∧ A3 ∧ A4 ∧ A5 := ⟨x0, x1, x2, x3, x4, x5⟩
theorem ga7 {A0 : Prop} {A1 : Prop} {A2 : Prop} {A3 : Prop} {A4 : Prop} {A5 : Prop} {A6 : Prop} (x0 : A0) (x1 : A1) (x2 : A2) (x3 : A3) (x4 : A4) (x5 : A5) (x6 : A6) : A0 ∧ A1 ∧ A2 ∧ A3 ∧ A4 ∧ A5 ∧ A6 := ⟨x0, x1, x2, x3, x4, x5, x6⟩
theorem ga8 {A0 : Prop} {A1 : Prop} {A2 : Prop} {A3 : Prop} {A4 : Prop} {A5 : Prop} {A6 : Prop} {A7 : Prop} (x0 : A0) (x1 : A1) (x2 : A2) (x3 : A3) (x4 : A4) (x5 : A5) (x6 : A6) (x7 : A7) : A0 ∧ A1 ∧ A2 ∧ A3 ∧ A4 ∧ A5 ∧ A6 ∧ A7 := ⟨x0, x1, x2, x3, x4, x5, x6, x7⟩
theorem ga9 {A0 : Prop} {A1 : Prop} {A2 : Prop} {A3 : Prop} {A4 : Prop} {A5 : Prop} {A6 : Prop} {A7 : Prop} {A8 : Prop} (x0 : A0) (x1 : A1) (x2 : A2) (x3 : A3) (x4 : A4) (x5 : A5) (x6 : A6) (x7 : A7) (x8 : A8) : A0 ∧ A1 ∧ A2 ∧ A3 ∧ A4 ∧ A5 ∧ A6 ∧ A7 ∧ A8 := ⟨x0, x1, x2, x3, x4, x5, x6, x7, x8⟩
theorem ga10 {A0 : Prop} {A1 : Prop} {A2 : Prop} {A3 : Prop} {A4 : Prop} {A5 : Prop} {A6 : Prop} {A7 : Prop} {A8 : Prop} {A9 : Prop} (x0 : A0) (x1 : A1) (x2 : A2) (x3 : A3) (x4 : A4) (x5 : A5) (x6 : A6) (x7 : A7) (x8 : A8) (x9 : A9) : A0 ∧ A1 ∧ A2 ∧ A3 ∧ A4 ∧ A5 ∧ A6 ∧ A7 ∧ A8 ∧ A9 := ⟨x0, x1, x2, x3, x4, x5, x6, x7, x8, x9⟩
theorem ga11 {A0 : Prop} {A1 : Prop} {A2 : Prop} {A3 : Prop} {A4 : Prop} {A5 : Prop} {A6 : Prop} {A7 : Prop} {A8 : Prop} {A9 : Prop} {A10 : Prop} (x0 : A0) (x1 : A1) (x2 : A2) (x3 : A3) (x4 : A4) (x5 : A5) (x6 : A6) (x7 : A7) (x8 : A8) (x9 : A9) (x10 : A10) : A0 ∧ A1 ∧ A2 ∧ A3 ∧ A4 ∧ A5 ∧ A6 ∧ A7 ∧ A8 ∧ A9 ∧ A10 := ⟨x0, x1, x2, x3, x4, x5, x6, x7, x8, x9, x10⟩
theorem ga12 {A0 : Prop} {A1 : Prop} {A2 : Prop} {A3 : Prop} {A4 : Prop} {A5 : Prop} {A6 : Prop} {A7 : Prop} {A8 : Prop} {A9 : Prop} {A10 : Prop} {A11 : Prop} (x0 : A0) (x1 : A1) (x2 : A2) (x3 : A3) (x4 : A4) (x5 : A5) (x6 : A6) (x7 : A7) (x8 : A8) (x9 : A9) (x10 : A10) (x11 : A11) : A0 ∧ A1 ∧ A2 ∧ A3 ∧ A4 ∧ A5 ∧ A6 ∧ A7 ∧ A8 ∧ A9 ∧ A10 ∧ A11 := ⟨x0, x1, x2, x3, x4, x5, x6, x7, x8, x9, x10, x11⟩
theorem ga13 {A0 : Prop} {A1 : Prop} {A2 : Prop} {A3 : Prop} {A4 : Prop} {A5 : Prop} {A6 : Prop} {A7 : Prop} {A8 : Prop} {A9 : Prop} {A10 : Prop} {A11 : Prop} {A12 : Prop} (x0 : A0) (x1 : A1) (x2 : A2) (x3 : A3) (x4 : A4) (x5 : A5) (x6 : A6) (x7 : A7) (x8 : A8) (x9 : A9) (x10 : A10) (x11 : A11) (x12 : A12) : A0 ∧ A1 ∧ A2 ∧ A3 ∧ A4 ∧ A5 ∧ A6 ∧ A7 ∧ A8 ∧ A9 ∧ A10 ∧ A11 ∧ A12 := ⟨x0, x1, x2, x3, x4, x5, x6, x7, x8, x9, x10, x11, x12⟩
theorem ga15 {A0 : Prop} {A1 : Prop} {A2 : Prop} {A3 : Prop} {A4 : Prop} {A5 : Prop} {A6 : Prop} {A7 : Prop} {A8 : Prop} {A9 : Prop} {A10 : Prop} {A11 : Prop} {A12 : Prop} {A13 : Prop} {A14 : Prop} (x0 : A0) (x1 : A1) (x2 : A2) (x3 : A3) (x4 : A4) (x5 : A5) (x6 : A6) (x7 : A7) (x8 : A8) (x9 : A9) (x10 : A10) (x11 : A11) (x12 : A12) (x13 : A13) (x14 : A14) : A0 ∧ A1 ∧ A2 ∧ A3 ∧ A4 ∧ A5 ∧ A6 ∧ A7 ∧ A8 ∧ A9 ∧ A10 ∧ A11 ∧ A12 ∧ A13 ∧ A14 := ⟨x0, x1, x2, x3, x4, x5, x6, x7, x8, x9, x10, x11, x12, x13, x14⟩
theorem ga18 {A0 : Prop} {A1 : Prop} {A2 : Prop} {A3 : Prop} {A4 : Prop} {A5 : Prop} {A6 : Prop} {A7 : Prop} {A8 : Prop} {A9 : Prop} {A10 : Prop} {A11 : Prop} {A12 : Prop} {A13 : Prop} {A14 : Prop} {A15 : Prop} {A16 : Prop} {A17 : Prop} (x0 : A0) (x1 : A1) (x2 : A2) (x3 : A3) (x4 : A4) (x5 : A5) (x6 : A6) (x7 : A7) (x8 : A8) (x9 : A9) (x10 : A10) (x11 : A11) (x12 : A12) (x13 : A13) (x14 : A14) (x15 : A15) (x16 : A16) (x17 : A17) : A0 ∧ A1 ∧ A2 ∧ A3 ∧ A4 ∧ A5 ∧ A6 ∧ A7 ∧ A8 ∧ A9 ∧ A10 ∧ A11 ∧ A12 ∧ A13 ∧ A14 ∧ A15 ∧ A16 ∧ A17 := ⟨x0, x1, x2, x3, x4, x5, x6, x7, x8, x9, x10, x11, x12, x13, x14, x15, x16, x17⟩
theorem ga20 {A0 : Prop} {A1 : Prop} {A2 : Prop} {A3 : Prop} {A4 : Prop} {A5 : Prop} {A6 : Prop} {A7 : Prop} {A8 : Prop} {A9 : Prop} {A10 : Prop} {A11 : Prop} {A12 : Prop} {A13 : Prop} {A14 : Prop} {A15 : Prop} {A16 : Prop} {A17 : Prop} {A18 : Prop} {A19 : Prop} (x0 : A0) (x1 : A1) (x2 : A2) (x3 : A3) (x4 : A4) (x5 : A5) (x6 : A6) (x7 : A7) (x8 : A8) (x9 : A9) (x10 : A10) (x11 : A11) (x12 : A12) (x13 : A13) (x14 : A14) (x15 : A15) (x16 : A16) (x17 : A17) (x18 : A18) (x19 : A19) : A0 ∧ A1 ∧ A2 ∧ A3 ∧ A4 ∧ A5 ∧ A6 ∧ A7 ∧ A8 ∧ A9 ∧ A10 ∧ A11 ∧ A12 ∧ A13 ∧ A14 ∧ A15 ∧ A16 ∧ A17 ∧ A18 ∧ A19 := ⟨x0, x1, x2, x3, x4, x5, x6, x7, x8, x9, x10, x11, x12, x13, x14, x15, x16, x17, x18, x19⟩
end Go.Proofs.Ythgopooldcheeaa.VH
end

section
namespace Go.Proofs.Ythgopooldcheeaa.VH
set_option maxRecDepth 100000
/-- one step of the multiplication: the factor goes on -/
def xt (x : Nat) : Nat := bif Nat.ble (2 * x) 255 then 2 * x else Nat.xor (2 * x) 285
def gX (a : Nat) : Nat → Nat
  | 0 => a
  | i + 1 => xt (gX a i)
def gO (a b : Nat) : Nat → Nat
  | 0 => 0
  | i + 1 => bif Nat.beq (b / 2 ^ i % 2) 1 then Nat.xor (gO a b i) (gX a i) else gO a b i
/-- the product of two bytes -/
def gm (a b : Nat) : Nat := gO a b 8
def g1s (o x y : Nat) : Nat := bif Nat.beq (y % 2) 1 then Nat.xor o x else o
def gm8 (a b : Nat) : Nat :=
  (fun x1 => (fun x2 => (fun x3 => (fun x4 => (fun x5 => (fun x6 => (fun x7 => g1s (g1s (g1s (g1s (g1s (g1s (g1s (g1s 0 a (b / 1)) x1 (b / 2)) x2 (b / 4)) x3 (b / 8)) x4 (b / 16)) x5 (b / 32)) x6 (b / 64)) x7 (b / 128)) (xt x6)) (xt x5)) (xt x4)) (xt x3)) (xt x2)) (xt x1)) (xt a)
theorem gm_eq8 (a b : Nat) : gm a b = gm8 a b := rfl
def allB (p : Nat → Bool) : Nat → Bool
  | 0 => true
  | n + 1 => p n && allB p n
theorem allB_of {p : Nat → Bool} : ∀ {n : Nat}, allB p n = true → ∀ i, i < n → p i = true
  | 0, _, i, h => by omega
  | n + 1, h, i, hi => by
    simp only [allB, Bool.and_eq_true] at h
    by_cases e : i = n
    · subst e; exact h.1
    · exact allB_of h.2 i (by omega)
theorem gm_commB : allB (fun a => allB (fun b => Nat.beq (gm8 a b) (gm8 b a)) a) 256 = true := by kernel_rfl
theorem gm_comm {a b : Nat} (ha : a < 256) (hb : b < 256) : gm a b = gm b a := by
  rcases Nat.lt_trichotomy a b with h | h | h
  · have := allB_of (allB_of gm_commB b hb) a h
    rw [gm_eq8, gm_eq8]; exact (Nat.eq_of_beq_eq_true this).symm
  · rw [h]
  · have := allB_of (allB_of gm_commB a ha) b h
    rw [gm_eq8, gm_eq8]; exact Nat.eq_of_beq_eq_true this
theorem xt_ltB : allB (fun x => Nat.ble (xt x) 255) 256 = true := by kernel_rfl
theorem xt_lt {x : Nat} (h : x < 256) : xt x < 256 := by
  have := Nat.le_of_ble_eq_true (allB_of xt_ltB x h); omega
theorem gX_lt {a : Nat} (h : a < 256) : ∀ i, gX a i < 256
  | 0 => h
  | i + 1 => xt_lt (gX_lt h i)
theorem xor_lt {x y : Nat} (hx : x < 256) (hy : y < 256) : Nat.xor x y < 256 := Nat.xor_lt_two_pow (n := 8) hx hy
theorem gO_lt {a : Nat} (b : Nat) (h : a < 256) : ∀ i, gO a b i < 256
  | 0 => Nat.zero_lt_succ 255
  | i + 1 => by
    rw [gO]
    cases Nat.beq (b / 2 ^ i % 2) 1 with
    | true => exact xor_lt (gO_lt b h i) (gX_lt h i)
    | false => exact gO_lt b h i
theorem gm_lt {a : Nat} (b : Nat) (h : a < 256) : gm a b < 256 := gO_lt b h 8
theorem gO_yes {a b i : Nat} (h : b / 2 ^ i % 2 = 1) : gO a b (i + 1) = Nat.xor (gO a b i) (gX a i) := by rw [gO, h]; rfl
theorem gO_no {a b i : Nat} (h : ¬ b / 2 ^ i % 2 = 1) : gO a b (i + 1) = gO a b i := by
  have : Nat.beq (b / 2 ^ i % 2) 1 = false := by
    cases hh : Nat.beq (b / 2 ^ i % 2) 1 with
    | false => rfl
    | true => exact absurd (Nat.eq_of_beq_eq_true hh) h
  rw [gO, this]; rfl
theorem xt_le {x : Nat} (h : 2 * x ≤ 255) : xt x = 2 * x := by
  have : Nat.ble (2 * x) 255 = true := Nat.ble_eq_true_of_le h
  rw [xt, this]; rfl
theorem xt_gt {x : Nat} (h : ¬ 2 * x ≤ 255) : xt x = Nat.xor (2 * x) 285 := by
  have : Nat.ble (2 * x) 255 = false := by
    cases hh : Nat.ble (2 * x) 255 with
    | false => rfl
    | true => exact absurd (Nat.le_of_ble_eq_true hh) h
  rw [xt, this]; rfl
/-- how many bits a number has -/
def gbl : Nat → Nat → Nat
  | 0, _ => 0
  | f + 1, b => bif Nat.beq b 0 then 0 else gbl f (b / 2) + 1
theorem gblB : allB (fun b => Nat.beq (b / 2 ^ gbl 8 b) 0 && Nat.ble (gbl 8 b) 8 && allB (fun i => Nat.ble 1 (b / 2 ^ i)) (gbl 8 b)) 256 = true := by kernel_rfl
theorem gbl_zero {b : Nat} (h : b < 256) : b / 2 ^ gbl 8 b = 0 := by
  have := allB_of gblB b h
  simp only [Bool.and_eq_true] at this
  exact Nat.eq_of_beq_eq_true this.1.1
theorem gbl_le {b : Nat} (h : b < 256) : gbl 8 b ≤ 8 := by
  have := allB_of gblB b h
  simp only [Bool.and_eq_true] at this
  exact Nat.le_of_ble_eq_true this.1.2
theorem gbl_pos {b i : Nat} (h : b < 256) (hi : i < gbl 8 b) : 0 < b / 2 ^ i := by
  have := allB_of gblB b h
  simp only [Bool.and_eq_true] at this
  exact Nat.le_of_ble_eq_true (allB_of this.2 i hi)
theorem gO_tail {a b n : Nat} (h : b / 2 ^ n = 0) : ∀ k, gO a b (n + k) = gO a b n
  | 0 => rfl
  | k + 1 => by
    have : b / 2 ^ (n + k) = 0 := by rw [Nat.pow_add, ← Nat.div_div_eq_div_mul, h, Nat.zero_div]
    rw [← Nat.add_assoc, gO_no (by rw [this]; decide)]; exact gO_tail h k
theorem gm_gbl {a b : Nat} (h : b < 256) : gO a b (gbl 8 b) = gm a b := by
  have := gO_tail (a := a) (gbl_zero h) (8 - gbl 8 b)
  rw [show gbl 8 b + (8 - gbl 8 b) = 8 by have := gbl_le h; omega] at this
  exact this.symm
/- powers -/
def pw (a : Nat) : Nat → Nat
  | 0 => 1
  | i + 1 => gm8 (pw a i) a
def pa (a : Nat) : Nat → Nat
  | 0 => a
  | i + 1 => gm8 (pa a i) (pa a i)
def po (a : Nat) : Nat → Nat
  | 0 => 1
  | i + 1 => bif Nat.beq (254 / 2 ^ i % 2) 1 then gm8 (po a i) (pa a i) else po a i
theorem pw_poB : allB (fun a => Nat.beq (pw a 254) (po a 8)) 256 = true := by kernel_rfl
theorem pw_po {a : Nat} (h : a < 256) : pw a 254 = po a 8 := Nat.eq_of_beq_eq_true (allB_of pw_poB a h)
theorem pw_succ (a i : Nat) : pw a (i + 1) = gm (pw a i) a := rfl
theorem pa_succ (a i : Nat) : pa a (i + 1) = gm (pa a i) (pa a i) := rfl
theorem po_yes {a i : Nat} (h : 254 / 2 ^ i % 2 = 1) : po a (i + 1) = gm (po a i) (pa a i) := by rw [po, h]; rfl
theorem po_no {a i : Nat} (h : 254 / 2 ^ i % 2 = 0) : po a (i + 1) = po a i := by rw [po, h]; rfl
theorem pw_lt {a : Nat} (h : a < 256) : ∀ i, pw a i < 256
  | 0 => by rw [pw]; omega
  | i + 1 => by rw [pw_succ]; exact gm_lt a (pw_lt h i)
theorem pa_lt {a : Nat} (h : a < 256) : ∀ i, pa a i < 256
  | 0 => h
  | i + 1 => by rw [pa_succ]; exact gm_lt _ (pa_lt h i)
theorem po_lt {a : Nat} (h : a < 256) : ∀ i, po a i < 256
  | 0 => by rw [po]; omega
  | i + 1 => by
    by_cases e : 254 / 2 ^ i % 2 = 1
    · rw [po_yes e]; exact gm_lt _ (po_lt h i)
    · rw [po_no (by omega)]; exact po_lt h i
/- the machine's numbers -/
theorem bv64 (x : Nat) : BitVec.ofInt 64 (x : Int) = BitVec.ofNat 64 x := BitVec.ofInt_natCast 64 x
theorem xorI_nat {x y : Nat} (hx : x < 1024) (hy : y < 1024) : xorI (x : Int) (y : Int) = ((Nat.xor x y : Nat) : Int) := by
  have hxy : Nat.xor x y < 2 ^ 10 := Nat.xor_lt_two_pow (n := 10) hx hy
  have e : (BitVec.ofInt 64 (x : Int) ^^^ BitVec.ofInt 64 (y : Int)).toNat = Nat.xor x y := by
    rw [BitVec.toNat_xor, bv64, bv64, BitVec.toNat_ofNat, BitVec.toNat_ofNat, Nat.mod_eq_of_lt (by omega), Nat.mod_eq_of_lt (by omega)]; rfl
  rw [xorI, e, wrap64 (by omega) (by omega)]
theorem andI_one {x : Nat} (hx : x < 1024) : andI (x : Int) 1 = ((x % 2 : Nat) : Int) := by
  have e : (BitVec.ofInt 64 (x : Int) &&& BitVec.ofInt 64 1).toNat = x % 2 := by
    have h1 : BitVec.ofInt 64 1 = BitVec.ofNat 64 1 := rfl
    rw [BitVec.toNat_and, bv64, h1, BitVec.toNat_ofNat, BitVec.toNat_ofNat, Nat.mod_eq_of_lt (by omega)]
    exact Nat.and_one_is_mod x
  rw [andI, e, wrap64 (by omega) (by omega)]
theorem shlI_one {x : Nat} (hx : x < 1024) : shlI (x : Int) 1 = ((2 * x : Nat) : Int) := by
  have e : (x : Int) * 2 ^ (min (1 : Int).toNat 64) = ((2 * x : Nat) : Int) := by
    have : (min (1 : Int).toNat 64) = 1 := rfl
    rw [this]; omega
  rw [shlI, e, wrap64 (by omega) (by omega)]
theorem shrI_nat (x : Nat) {i : Nat} (hi : i ≤ 64) : shrI (x : Int) (i : Int) = ((x / 2 ^ i : Nat) : Int) := by
  rw [shrI, Int.toNat_natCast, Nat.min_eq_left hi, Int.fdiv_eq_ediv_of_nonneg _ (Int.le_of_lt (Int.pow_pos (by decide)))]
  exact (Int.natCast_ediv x (2 ^ i)).symm ▸ by rw [Int.natCast_pow]; rfl
theorem shrI_1 (x : Nat) : shrI (x : Int) 1 = ((x / 2 : Nat) : Int) := shrI_nat x (i := 1) (by decide)
def xor8 (x y : Int) : Int := IntKind.u8.wrap ((BitVec.ofInt 8 x ^^^ BitVec.ofInt 8 y).toNat : Int)
theorem bin_xor8 (x y : Int) : intBin .xor .u8 x y = .ret (.val (.int .u8 (xor8 x y))) := _root_.id _root_.rfl
/- bytes as numbers -/
def x8 (a b : Int) : Int := (Nat.xor a.toNat b.toNat : Nat)
def m8 (a b : Int) : Int := (gm a.toNat b.toNat : Nat)
def v8 (a : Int) : Int := (po a.toNat 8 : Nat)
theorem toNat_lt8 {a : Int} (h : 0 ≤ a ∧ a < 256) : a.toNat < 256 := by omega
theorem x8_b {a b : Int} (ha : 0 ≤ a ∧ a < 256) (hb : 0 ≤ b ∧ b < 256) : 0 ≤ x8 a b ∧ x8 a b < 256 := by
  have := xor_lt (toNat_lt8 ha) (toNat_lt8 hb)
  unfold x8; omega
theorem m8_b {a : Int} (b : Int) (ha : 0 ≤ a ∧ a < 256) : 0 ≤ m8 a b ∧ m8 a b < 256 := by
  have := gm_lt b.toNat (toNat_lt8 ha)
  unfold m8; omega
theorem v8_b {a : Int} (ha : 0 ≤ a ∧ a < 256) : 0 ≤ v8 a ∧ v8 a < 256 := by
  have := po_lt (toNat_lt8 ha) 8
  unfold v8; omega
theorem m8_comm {a b : Int} (ha : 0 ≤ a ∧ a < 256) (hb : 0 ≤ b ∧ b < 256) : m8 a b = m8 b a := by
  unfold m8; rw [gm_comm (toNat_lt8 ha) (toNat_lt8 hb)]
theorem xor8_b {x y : Int} (hx : 0 ≤ x ∧ x < 256) (hy : 0 ≤ y ∧ y < 256) : xor8 x y = x8 x y := by
  obtain ⟨a, rfl⟩ := Int.eq_ofNat_of_zero_le hx.1
  obtain ⟨b, rfl⟩ := Int.eq_ofNat_of_zero_le hy.1
  have hxy : Nat.xor a b < 256 := xor_lt (by omega) (by omega)
  have e : (BitVec.ofInt 8 (a : Int) ^^^ BitVec.ofInt 8 (b : Int)).toNat = Nat.xor a b := by
    rw [BitVec.toNat_xor, BitVec.ofInt_natCast, BitVec.ofInt_natCast, BitVec.toNat_ofNat, BitVec.toNat_ofNat, Nat.mod_eq_of_lt (by omega), Nat.mod_eq_of_lt (by omega)]; rfl
  have e2 : x8 (a : Int) (b : Int) = ((Nat.xor a b : Nat) : Int) := rfl
  rw [xor8, e, e2, IntKind.wrap_u8]
  omega
end Go.Proofs.Ythgopooldcheeaa.VH
end

