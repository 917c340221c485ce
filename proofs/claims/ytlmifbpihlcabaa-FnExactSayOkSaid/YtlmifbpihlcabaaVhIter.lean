/- Part of a proof about the given program: the verified evaluator and what it tells of the functions (VhIter). Conditions: none beyond the hypotheses that each theorem states. -/
import Derived.Test.YtlmifbpihlcabaaVhEnv
import Derived.Laws.BitsLemmas
namespace Go.Proofs.Ytlmifbpihlcabaa.VH

/- Tools for telling what a function gives back. -/

abbrev iv (k : IntKind) (x : Int) : AV := .val (.int k x)
abbrev vi (x : Int) : AV := .val (.int .i64 x)
abbrev vb (x : Bool) : AV := .val (.bool x)

theorem evLoop_succ {R : Type} (nrm : St → St) (f : St → (Ex → St → Option R) → Option R) (n : Nat) (S : St) (K : Ex → St → Option R) :
    evLoop nrm f (n + 1) S K = f (nrm S) fun e S1 => match e with | .normal => evLoop nrm f n S1 K | .exit i => K (.exit i) S1 | .ret => K .ret S1 := by
  simp only [evLoop]
  congr 1
  funext e S1
  cases e <;> rfl

theorem loop_from {R : Type} {nrm : St → St} {f : St → (Ex → St → Option R) → Option R} {K : Ex → St → Option R} {r : Option R} (σ : Nat → St) (n : Nat) (step : ∀ i, i < n → ∀ K' : Ex → St → Option R, ∃ S', f (σ i) K' = K' .normal S' ∧ nrm S' = σ (i + 1))
    (last : ∀ Kn : St → Option R, f (σ n) (fun e S1 => match e with | .normal => Kn S1 | .exit i => K (.exit i) S1 | .ret => K .ret S1) = r) : ∀ (m : Nat), m ≤ n → ∀ (N : Nat) (S : St), nrm S = σ (n - m) → m < N → evLoop nrm f N S K = r := by
  intro m
  induction m with
  | zero =>
    intro _ N S h hN
    cases N with
    | zero => omega
    | succ N => rw [evLoop_succ, h]; exact last _
  | succ m ih =>
    intro hm N S h hN
    cases N with
    | zero => omega
    | succ N =>
      rw [evLoop_succ, h]
      obtain ⟨S', h1, h2⟩ := step (n - (m + 1)) (by omega) (fun e S1 => match e with | .normal => evLoop nrm f N S1 K | .exit i => K (.exit i) S1 | .ret => K .ret S1)
      rw [h1]
      exact ih (by omega) N S' (by rw [h2]; congr 1; omega) (by omega)

theorem loop_run {R : Type} {nrm : St → St} {f : St → (Ex → St → Option R) → Option R} {K : Ex → St → Option R} {r : Option R} (σ : Nat → St) (n : Nat) {S : St} {N : Nat} (h0 : nrm S = σ 0) (hn : n < N) (step : ∀ i, i < n → ∀ K' : Ex → St → Option R, ∃ S', f (σ i) K' = K' .normal S' ∧ nrm S' = σ (i + 1))
    (last : ∀ Kn : St → Option R, f (σ n) (fun e S1 => match e with | .normal => Kn S1 | .exit i => K (.exit i) S1 | .ret => K .ret S1) = r) : evLoop nrm f N S K = r :=
  loop_from σ n step last n (Nat.le_refl _) N S (by rw [h0]; congr 1; omega) hn

section
variable {R : Type} {E : Env} {C : Oracle} {L : Nat} {f : FuncId}

def kReg (ops : Array Oper) (K : Ex → St → Option R) (S : St) : Option R := K .normal { S with nx := S.nx + 8 * ops.size }
def kSeq (E : Env) (C : Oracle) (L : Nat) (f : FuncId) (b : Code) (K : Ex → St → Option R) (e : Ex) (S : St) : Option R := match e with
  | .normal => evC E C L f b S K
  | .exit i => K (.exit i) S
  | .ret => K .ret S
def kBlk (id : Nat) (K : Ex → St → Option R) (e : Ex) (S : St) : Option R := match e with
  | .exit i => if i = id then K .normal S else K (.exit i) S
  | .normal => K .normal S
  | .ret => K .ret S
def kLoop (Kn : St → Option R) (K : Ex → St → Option R) (e : Ex) (S : St) : Option R := match e with
  | .normal => Kn S
  | .exit i => K (.exit i) S
  | .ret => K .ret S
def kFin (E : Env) (L : Nat) (rs : List ResultVar) (e : Ex) (S : St) : Option (AV × List (Option (List AV))) := match e with
  | .exit _ => none
  | .normal => finish E L rs S
  | .ret => finish E L rs S
def evIf (E : Env) (C : Oracle) (L : Nat) (f : FuncId) (x : AV) (t e : Code) (S : St) (K : Ex → St → Option R) : Option R := match x with
  | .val (.bool b) => bif b then evC E C L f t S K else evC E C L f e S K
  | _ => none
def kOp (E : Env) (C : Oracle) (ops : Array Oper) (i : Nat) (os : List Oper) (K : St → Option R) (S : St) (_ : Tr) : Option R := runOps E C ops i os S K
def kOpD (E : Env) (C : Oracle) (ops : Array Oper) (i : Nat) (os : List Oper) (tr : List (Nat × Tr)) (K : St → Option R) (S : St) (t : Tr) : Option R := runOpsD E C ops (i + 1) os ((i, t) :: tr) S K
def kPut (T : Nat → AV) (nx : Nat) (dst : Option Tmp) (K : St → Tr → Option R) (v : AV) (H : Heap) (t : Tr) : Option R := K { T := putT (killT t.kl T) dst v, H := H, nx := nx } t
def opG (E : Env) (C : Oracle) (i : Nat) (x : AV) (want : Bool) (op : Op) (dst : Option Tmp) (S : St) (K : St → Tr → Option R) : Option R := match x with
  | .val (.bool b) => bif b == want then (execOp E C op (opnd S.T) (S.nx + 8 * i)).run S.H {} (kPut S.T S.nx dst K) else K { S with T := putT S.T dst .und } {}
  | _ => none

theorem evC_skip (S : St) (K : Ex → St → Option R) : evC E C L f .skip S K = K .normal S := _root_.id rfl
theorem evC_exit (id : Nat) (S : St) (K : Ex → St → Option R) : evC E C L f (.exit id) S K = K (.exit id) S := _root_.id rfl
theorem evC_ret (S : St) (K : Ex → St → Option R) : evC E C L f .ret S K = K .ret S := _root_.id rfl
theorem evC_region (id : Nat) (ops : Array Oper) (S : St) (K : Ex → St → Option R) : evC E C L f (.region id ops false) S K = runOps E C ops 0 ops.toList S (kReg ops K) := _root_.id rfl
theorem evC_regionD (id : Nat) (ops : Array Oper) (S : St) (K : Ex → St → Option R) : evC E C L f (.region id ops true) S K = runOpsD E C ops 0 ops.toList [] S (kReg ops K) := _root_.id rfl
theorem evC_seq (a b : Code) (S : St) (K : Ex → St → Option R) : evC E C L f (.seq a b) S K = evC E C L f a S (kSeq E C L f b K) := by
  rw [evC]
  congr 1
  funext e S1
  cases e <;> rfl
theorem evC_block (id : Nat) (c : Code) (S : St) (K : Ex → St → Option R) : evC E C L f (.block id c) S K = evC E C L f c S (kBlk id K) := by
  rw [evC]
  congr 1
  funext e S1
  cases e <;> rfl
theorem evC_cond (c : Operand) (t e : Code) (S : St) (K : Ex → St → Option R) : evC E C L f (.cond c t e) S K = evIf E C L f (opnd S.T c) t e S K := _root_.id rfl
theorem evC_loop (c : Code) (S : St) (K : Ex → St → Option R) : evC E C L f (.loop c) S K = evLoop (norm L (E.live f (firstRegion c))) (evC E C L f c) LF S K := _root_.id rfl
theorem evIf_true (t e : Code) (S : St) (K : Ex → St → Option R) : evIf E C L f (.val (.bool true)) t e S K = evC E C L f t S K := _root_.id rfl
theorem evIf_false (t e : Code) (S : St) (K : Ex → St → Option R) : evIf E C L f (.val (.bool false)) t e S K = evC E C L f e S K := _root_.id rfl
theorem kSeq_normal (b : Code) (K : Ex → St → Option R) (S : St) : kSeq E C L f b K .normal S = evC E C L f b S K := _root_.id rfl
theorem kSeq_exit (b : Code) (K : Ex → St → Option R) (i : Nat) (S : St) : kSeq E C L f b K (.exit i) S = K (.exit i) S := _root_.id rfl
theorem kSeq_ret (b : Code) (K : Ex → St → Option R) (S : St) : kSeq E C L f b K .ret S = K .ret S := _root_.id rfl
theorem kBlk_normal (id : Nat) (K : Ex → St → Option R) (S : St) : kBlk id K .normal S = K .normal S := _root_.id rfl
theorem kBlk_exit (id : Nat) (K : Ex → St → Option R) (i : Nat) (S : St) : kBlk id K (.exit i) S = if i = id then K .normal S else K (.exit i) S := _root_.id rfl
theorem kBlk_ret (id : Nat) (K : Ex → St → Option R) (S : St) : kBlk id K .ret S = K .ret S := _root_.id rfl
theorem kLoop_normal (Kn : St → Option R) (K : Ex → St → Option R) (S : St) : kLoop Kn K .normal S = Kn S := _root_.id rfl
theorem kLoop_exit (Kn : St → Option R) (K : Ex → St → Option R) (i : Nat) (S : St) : kLoop Kn K (.exit i) S = K (.exit i) S := _root_.id rfl
theorem kLoop_ret (Kn : St → Option R) (K : Ex → St → Option R) (S : St) : kLoop Kn K .ret S = K .ret S := _root_.id rfl
theorem kFin_ret (rs : List ResultVar) (S : St) : kFin E L rs .ret S = finish E L rs S := _root_.id rfl
theorem kFin_normal (rs : List ResultVar) (S : St) : kFin E L rs .normal S = finish E L rs S := _root_.id rfl
theorem kReg_app (ops : Array Oper) (K : Ex → St → Option R) (T : Nat → AV) (H : Heap) (nx : Nat) : kReg ops K { T := T, H := H, nx := nx } = K .normal { T := T, H := H, nx := nx + 8 * ops.size } := _root_.id rfl
theorem runOps_nil (ops : Array Oper) (i : Nat) (S : St) (K : St → Option R) : runOps E C ops i [] S K = K S := _root_.id rfl
theorem runOps_cons (ops : Array Oper) (i : Nat) (o : Oper) (os : List Oper) (S : St) (K : St → Option R) : runOps E C ops i (o :: os) S K = stepOp E C ops i o S (kOp E C ops (i + 1) os K) := _root_.id rfl
theorem kOp_app (ops : Array Oper) (i : Nat) (os : List Oper) (K : St → Option R) (S : St) (t : Tr) : kOp E C ops i os K S t = runOps E C ops i os S K := _root_.id rfl
theorem runOpsD_nil (ops : Array Oper) (i : Nat) (tr : List (Nat × Tr)) (S : St) (K : St → Option R) : runOpsD E C ops i [] tr S K = bif apartAll (bef ops ops.size) tr then K S else none := _root_.id rfl
theorem runOpsD_cons (ops : Array Oper) (i : Nat) (o : Oper) (os : List Oper) (tr : List (Nat × Tr)) (S : St) (K : St → Option R) : runOpsD E C ops i (o :: os) tr S K = stepOp E C ops i o S (kOpD E C ops i os tr K) := _root_.id rfl
theorem kOpD_app (ops : Array Oper) (i : Nat) (os : List Oper) (tr : List (Nat × Tr)) (K : St → Option R) (S : St) (t : Tr) : kOpD E C ops i os tr K S t = runOpsD E C ops (i + 1) os ((i, t) :: tr) S K := _root_.id rfl
theorem kPut_app (T : Nat → AV) (nx : Nat) (dst : Option Tmp) (K : St → Tr → Option R) (v : AV) (H : Heap) (t : Tr) : kPut T nx dst K v H t = K { T := putT (killT t.kl T) dst v, H := H, nx := nx } t := _root_.id rfl
theorem stepOp_none (ops : Array Oper) (i : Nat) (dst : Option Tmp) (op : Op) (ty : TypeId) (pos : String) (after : Array Edge) (T : Nat → AV) (H : Heap) (nx : Nat) (K : St → Tr → Option R) :
    stepOp E C ops i { dst := dst, op := op, type := ty, pos := pos, after := after, guard := none } { T := T, H := H, nx := nx } K = (execOp E C op (opnd T) (nx + 8 * i)).run H {} (kPut T nx dst K) := _root_.id rfl
theorem stepOp_some (ops : Array Oper) (i : Nat) (dst : Option Tmp) (op : Op) (ty : TypeId) (pos : String) (after : Array Edge) (j : Nat) (want : Bool) (S : St) (K : St → Tr → Option R) :
    stepOp E C ops i { dst := dst, op := op, type := ty, pos := pos, after := after, guard := some (j, want) } S K = match (ops[j]?).bind (·.dst) with | some g => opG E C i (S.T g) want op dst S K | none => none := by
  simp only [stepOp, opG]
  cases (ops[j]?).bind (·.dst) with
  | none => rfl
  | some g => rfl
theorem opG_tt (i : Nat) (op : Op) (dst : Option Tmp) (T : Nat → AV) (H : Heap) (nx : Nat) (K : St → Tr → Option R) : opG E C i (.val (.bool true)) true op dst { T := T, H := H, nx := nx } K = (execOp E C op (opnd T) (nx + 8 * i)).run H {} (kPut T nx dst K) := _root_.id rfl
theorem opG_ff (i : Nat) (op : Op) (dst : Option Tmp) (T : Nat → AV) (H : Heap) (nx : Nat) (K : St → Tr → Option R) : opG E C i (.val (.bool false)) false op dst { T := T, H := H, nx := nx } K = (execOp E C op (opnd T) (nx + 8 * i)).run H {} (kPut T nx dst K) := _root_.id rfl
theorem opG_tf (i : Nat) (op : Op) (dst : Option Tmp) (T : Nat → AV) (H : Heap) (nx : Nat) (K : St → Tr → Option R) : opG E C i (.val (.bool true)) false op dst { T := T, H := H, nx := nx } K = K { T := putT T dst .und, H := H, nx := nx } {} := _root_.id rfl
theorem opG_ft (i : Nat) (op : Op) (dst : Option Tmp) (T : Nat → AV) (H : Heap) (nx : Nat) (K : St → Tr → Option R) : opG E C i (.val (.bool false)) true op dst { T := T, H := H, nx := nx } K = K { T := putT T dst .und, H := H, nx := nx } {} := _root_.id rfl

theorem opG_elim {i : Nat} {b want : Bool} {op : Op} {dst : Option Tmp} {S : St} {K : St → Tr → Option R} {r : Option R} (h1 : b = true → opG E C i (.val (.bool true)) want op dst S K = r) (h2 : b = false → opG E C i (.val (.bool false)) want op dst S K = r) : opG E C i (.val (.bool b)) want op dst S K = r := by
  cases b
  · exact h2 rfl
  · exact h1 rfl
theorem evIf_elim {b : Bool} {t e : Code} {S : St} {K : Ex → St → Option R} {r : Option R} (h1 : b = true → evC E C L f t S K = r) (h2 : b = false → evC E C L f e S K = r) : evIf E C L f (.val (.bool b)) t e S K = r := by
  cases b
  · exact h2 rfl
  · exact h1 rfl
theorem guard_true {α : Type} (m : HM α) : guardB true m = m := _root_.id rfl
theorem guard_false {α : Type} (m : HM α) : guardB false m = .fail := _root_.id rfl
theorem guard_elim {α : Type} {b : Bool} {m : HM α} {H : Heap} {t : Tr} {K : α → Heap → Tr → Option R} {r : Option R} (hb : b = true) (h : m.run H t K = r) : (guardB b m).run H t K = r := by subst hb; exact h
theorem run_ret {α : Type} (a : α) (H : Heap) (t : Tr) (K : α → Heap → Tr → Option R) : (HM.ret a).run H t K = K a H t := _root_.id rfl
theorem run_put {α : Type} (k : Nat) (c : Option (List AV)) (m : HM α) (H : Heap) (t : Tr) (K : α → Heap → Tr → Option R) : (HM.put k c m).run H t K = m.run (upd H k c) { t with wr := k :: t.wr } K := _root_.id rfl
theorem run_kill {α : Type} (k : Nat) (m : HM α) (H : Heap) (t : Tr) (K : α → Heap → Tr → Option R) : (HM.kill k m).run H t K = m.run H { t with kl := k :: t.kl } K := _root_.id rfl
theorem bind_ret {α β : Type} (a : α) (g : α → HM β) : (HM.ret a).bind g = g a := _root_.id rfl
theorem bind_put {α β : Type} (k : Nat) (c : Option (List AV)) (m : HM α) (g : α → HM β) : (HM.put k c m).bind g = .put k c (m.bind g) := _root_.id rfl
theorem bind_kill {α β : Type} (k : Nat) (m : HM α) (g : α → HM β) : (HM.kill k m).bind g = .kill k (m.bind g) := _root_.id rfl
theorem bind_guard {α β : Type} (b : Bool) (m : HM α) (g : α → HM β) : (guardB b m).bind g = guardB b (m.bind g) := by cases b <;> rfl
theorem bind_look {α β : Type} (k : Nat) (f : List AV → HM α) (g : α → HM β) : (HM.look k f).bind g = .look k fun cs => (f cs).bind g := _root_.id rfl
theorem run_look {α : Type} (k : Nat) (f : List AV → HM α) (H : Heap) (t : Tr) (K : α → Heap → Tr → Option R) : (HM.look k f).run H t K = match H k with | some cs => (f cs).run H { t with rd := k :: t.rd } K | none => none := by
  rw [HM.run]
  cases H k <;> rfl
theorem upd_app (H : Heap) (k : Nat) (c : Option (List AV)) (j : Nat) : upd H k c j = if j = k then c else H j := _root_.id rfl
theorem ofOpt_some {α : Type} (a : α) : ofOpt (some a) = HM.ret a := _root_.id rfl
def pickH (x y z : AV) : HM AV := match x with
  | .val (.bool c) => bif c then .ret y else .ret z
  | _ => .fail
theorem exec_pick (c a b : Operand) (ev : Operand → AV) (fr : Nat) : execOp E C (.pick c a b) ev fr = pickH (ev c) (ev a) (ev b) := _root_.id rfl
theorem pick_true (x y : AV) : pickH (.val (.bool true)) x y = .ret x := _root_.id rfl
theorem pick_false (x y : AV) : pickH (.val (.bool false)) x y = .ret y := _root_.id rfl
theorem pick_elim {b : Bool} {x y : AV} {H : Heap} {t : Tr} {K : AV → Heap → Tr → Option R} {r : Option R} (h1 : b = true → K x H t = r) (h2 : b = false → K y H t = r) : (pickH (.val (.bool b)) x y).run H t K = r := by
  cases b
  · exact h2 rfl
  · exact h1 rfl
theorem evFun_body {n d : Nat} {args : List AV} {cts : List (List AV)} {c : Code} {rs : List ResultVar} {r : Option (AV × List (Option (List AV)))} (hb : E.body n = some (c, rs)) (h : evC E (evFun E d) cts.length n c { T := fun t => args.getD t .und, H := hp (cts.map some), nx := cts.length } (kFin E cts.length rs) = r) : evFun E (d + 1) n args cts = r := by
  rw [evFun, hb]
  rw [← h]
  simp only
  congr 1
  funext e S
  cases e <;> rfl

end

theorem evLoop_succ' {R : Type} (nrm : St → St) (f : St → (Ex → St → Option R) → Option R) (n : Nat) (S : St) (K : Ex → St → Option R) :
    evLoop nrm f (n + 1) S K = f (nrm S) (kLoop (fun S1 => evLoop nrm f n S1 K) K) := by
  simp only [evLoop]
  congr 1
  funext e S1
  cases e <;> rfl

theorem loop_go' {R : Type} {nrm : St → St} {f : St → (Ex → St → Option R) → Option R} {K : Ex → St → Option R} {r : Option R} (I : Nat → Prop) (σ : Nat → St) (n : Nat) (step : ∀ i, i < n → I i → ∀ Kn : St → Option R, (I (i + 1) → ∀ S', nrm S' = σ (i + 1) → Kn S' = r) → f (σ i) (kLoop Kn K) = r)
    (last : I n → ∀ Kn : St → Option R, f (σ n) (kLoop Kn K) = r) : ∀ (m : Nat), m ≤ n → ∀ (N : Nat) (S : St), I (n - m) → nrm S = σ (n - m) → m < N → evLoop nrm f N S K = r := by
  intro m
  induction m with
  | zero =>
    intro _ N S hi h hN
    cases N with
    | zero => omega
    | succ N => rw [evLoop_succ', h]; exact last hi _
  | succ m ih =>
    intro hm N S hi h hN
    cases N with
    | zero => omega
    | succ N =>
      rw [evLoop_succ', h]
      have e : n - (m + 1) + 1 = n - m := by omega
      refine step (n - (m + 1)) (by omega) hi _ fun hi' S' h' => ?_
      rw [e] at hi' h'
      exact ih (by omega) N S' hi' h' (by omega)

theorem loop_inv {R : Type} {nrm : St → St} {f : St → (Ex → St → Option R) → Option R} {K : Ex → St → Option R} {r : Option R} (I : Nat → Prop) (σ : Nat → St) (n : Nat) {S : St} {N : Nat} (h0 : nrm S = σ 0) (hI : I 0) (hn : n < N)
    (step : ∀ i, i < n → I i → ∀ Kn : St → Option R, (I (i + 1) → ∀ S', nrm S' = σ (i + 1) → Kn S' = r) → f (σ i) (kLoop Kn K) = r)
    (last : I n → ∀ Kn : St → Option R, f (σ n) (kLoop Kn K) = r) : evLoop nrm f N S K = r :=
  loop_go' I σ n step last n (Nat.le_refl _) N S (by rwa [Nat.sub_self]) (by rwa [Nat.sub_self]) hn

theorem loop_go {R : Type} {nrm : St → St} {f : St → (Ex → St → Option R) → Option R} {K : Ex → St → Option R} {r : Option R} (σ : Nat → St) (n : Nat) {S : St} {N : Nat} (h0 : nrm S = σ 0) (hn : n < N)
    (step : ∀ i, i < n → ∀ Kn : St → Option R, (∀ S', nrm S' = σ (i + 1) → Kn S' = r) → f (σ i) (kLoop Kn K) = r)
    (last : ∀ Kn : St → Option R, f (σ n) (kLoop Kn K) = r) : evLoop nrm f N S K = r :=
  loop_inv (fun _ => True) σ n h0 trivial hn (fun i hi _ Kn h => step i hi Kn (h trivial)) (fun _ => last)

theorem tp_cons (a : Nat) (x : AV) (r : List (Nat × AV)) (t : Nat) : tp ((a, x) :: r) t = if t = a then x else tp r t := _root_.id rfl
theorem hp_cons0 (c : Option (List AV)) (r : List (Option (List AV))) : hp (c :: r) 0 = c := by simp [hp]
theorem hp_cons1 (c : Option (List AV)) (r : List (Option (List AV))) (k : Nat) : hp (c :: r) (k + 1) = hp r k := by simp [hp]
theorem hp1 (c : Option (List AV)) (r : List (Option (List AV))) : hp (c :: r) 1 = hp r 0 := by simp [hp]
theorem hp2 (c d : Option (List AV)) (r : List (Option (List AV))) : hp (c :: d :: r) 2 = hp r 0 := by simp [hp]
theorem hp3 (c d e : Option (List AV)) (r : List (Option (List AV))) : hp (c :: d :: e :: r) 3 = hp r 0 := by simp [hp]
theorem hp4 (c d e f : Option (List AV)) (r : List (Option (List AV))) : hp (c :: d :: e :: f :: r) 4 = hp r 0 := by simp [hp]
theorem sub_nil (cs : List AV) : sub [] cs = some cs := _root_.id rfl
theorem modp_nil (f : List AV → List AV) (cs : List AV) : modp [] f cs = f cs := _root_.id rfl
theorem setAt_one (cs : List AV) (o : Nat) (x : AV) : setAt cs o [x] = cs.set o x := _root_.id rfl
theorem getR_one {cs : List AV} {o : Nat} {x : AV} (h : cs[o]? = some x) : getR cs o 1 = some [x] := by simp [getR, h]
theorem getR_iv {k : IntKind} {l : List Int} {i : Nat} (h : i < l.length) : getR (l.map (iv k)) i 1 = some [iv k l[i]] := by
  refine getR_one ?_
  rw [List.getElem?_map, List.getElem?_eq_getElem h]; rfl
theorem absorb_val {v : Value} (h : leafV v = true) : absorbL [.val v] = HM.ret [.val v] := by simp [absorbL, absorb1, guardB, h, HM.bind]
theorem absorb_int (k : IntKind) (n : Int) : absorbL [.val (.int k n)] = HM.ret [.val (.int k n)] := absorb_val _root_.rfl

theorem putT_some (T : Nat → AV) (d : Nat) (v : AV) (t : Nat) : putT T (some d) v t = if t = d then v else T t := _root_.id rfl
theorem putT_none (T : Nat → AV) (v : AV) : putT T none v = T := _root_.id rfl
theorem killT_nil (T : Nat → AV) : killT [] T = T := _root_.id rfl
theorem lim_ok {n : Nat} (h : n ≤ 2 ^ 39) : (decide (0 ≤ (n : Int)) && decide ((n : Int) ≤ (LIM : Int))) = true := by
  have : LIM = 2 ^ 39 := _root_.id rfl
  simp only [Bool.and_eq_true, decide_eq_true_eq]
  omega

theorem zero_ne_one_n : ¬ (0 : Nat) = 1 := by decide
theorem one_ne_zero_n : ¬ (1 : Nat) = 0 := by decide

theorem wrap64 {x : Int} (h1 : -9223372036854775808 ≤ x) (h2 : x ≤ 9223372036854775807) : IntKind.i64.wrap x = x := by
  rw [IntKind.wrap_i64]; omega

/-- a row that is filled from the front -/
def part (k : IntKind) (l : List Int) (i : Nat) : List AV := (l.take i).map (iv k) ++ (l.drop i).map fun _ => iv k 0

theorem part_zero (k : IntKind) (l : List Int) : part k l 0 = List.replicate l.length (iv k 0) := by simp [part, List.map_const']
theorem part_full (k : IntKind) (l : List Int) : part k l l.length = l.map (iv k) := by simp [part]
theorem part_len (k : IntKind) (l : List Int) (i : Nat) : (part k l i).length = l.length := by simp [part]; omega
theorem part_get (k : IntKind) (l : List Int) (i j : Nat) : (part k l i)[j]? = (l[j]?).map fun x => iv k (if j < i then x else 0) := by
  by_cases hj : j < l.length
  · rw [List.getElem?_eq_getElem hj, Option.map_some]
    by_cases h : j < i
    · rw [if_pos h, part, List.getElem?_append_left (by simp; omega), List.getElem?_map, List.getElem?_take, if_pos h, List.getElem?_eq_getElem hj]; rfl
    · rw [if_neg h, part, List.getElem?_append_right (by simp; omega), List.getElem?_map, List.getElem?_drop]
      have e : i + (j - ((l.take i).map (iv k)).length) = j := by simp; omega
      rw [e, List.getElem?_eq_getElem hj]; rfl
  · rw [List.getElem?_eq_none (l := part k l i) (by rw [part_len]; omega), List.getElem?_eq_none (l := l) (by omega)]; rfl

theorem part_set (k : IntKind) (l : List Int) {i : Nat} (h : i < l.length) : (part k l i).set i (iv k l[i]) = part k l (i + 1) := by
  apply List.ext_getElem?
  intro j
  rw [part_get]
  by_cases hij : i = j
  · subst hij
    rw [List.getElem?_set_self (by rw [part_len]; exact h), List.getElem?_eq_getElem h, Option.map_some, if_pos (by omega)]
  · rw [List.getElem?_set_ne hij, part_get]
    congr 1
    funext x
    by_cases hj : j < i
    · rw [if_pos hj, if_pos (by omega)]
    · rw [if_neg hj, if_neg (by omega)]

theorem zeros_one (td : TD) (sz by_ : Nat) (v : Value) (fl : Bool) (n : Nat) : zeros { td := td, size := sz, bytes := by_, zero := [v], flat := fl } n = List.replicate n (.val v) := by
  unfold zeros
  induction n with
  | zero => rfl
  | succ n ih => rw [List.replicate_succ, List.flatten_cons, ih]; rfl
theorem lt_LF {n : Nat} (h : n ≤ 2 ^ 39) : n < LF := by
  have : LF = 2 ^ 50 := rfl
  omega
theorem lt_ok {i n : Nat} (h : i < n) : decide ((i : Int) < (n : Int)) = true := by simp; omega
theorem idx_ok {i n : Nat} (h : i < n) : (decide (0 ≤ (i : Int)) && decide ((i : Int) < (n : Int))) = true := by simp; omega
theorem lt_no (n : Nat) : decide ((n : Int) < (n : Int)) = false := by simp

theorem nn_ok (n : Nat) : decide (0 ≤ (n : Int)) = true := by simp
theorem lim_le {n : Nat} (h : n ≤ 2 ^ 39) : decide ((n : Int) ≤ (LIM : Int)) = true := by
  have : LIM = 2 ^ 39 := rfl
  simp only [decide_eq_true_eq]
  omega
theorem succ_le {i n : Nat} (h : i < n) : decide (i + 1 ≤ n) = true := by simp; omega
theorem wrap_succ {i n : Nat} (h : i < n) (hn : n ≤ 2 ^ 39) : IntKind.i64.wrap ((i : Int) + 1) = ((i + 1 : Nat) : Int) := by
  rw [wrap64 (by omega) (by omega)]; rfl

theorem pos1 : decide ((0 : Nat) < 1) = true := by decide
theorem pos2 : decide ((0 : Nat) < 2) = true := by decide
theorem pos3 : decide ((0 : Nat) < 3) = true := by decide
theorem pos4 : decide ((0 : Nat) < 4) = true := by decide
theorem pos5 : decide ((0 : Nat) < 5) = true := by decide
theorem pos6 : decide ((0 : Nat) < 6) = true := by decide
theorem pos7 : decide ((0 : Nat) < 7) = true := by decide
theorem pos8 : decide ((0 : Nat) < 8) = true := by decide
theorem pos9 : decide ((0 : Nat) < 9) = true := by decide
theorem pos10 : decide ((0 : Nat) < 10) = true := by decide
theorem pos11 : decide ((0 : Nat) < 11) = true := by decide
theorem pos12 : decide ((0 : Nat) < 12) = true := by decide
theorem pos13 : decide ((0 : Nat) < 13) = true := by decide
theorem pos14 : decide ((0 : Nat) < 14) = true := by decide
theorem pos15 : decide ((0 : Nat) < 15) = true := by decide
theorem pos16 : decide ((0 : Nat) < 16) = true := by decide

theorem noSnapL_iv (k : IntKind) (l : List Int) : noSnapL (l.map (iv k)) = true := by
  induction l with
  | nil => rfl
  | cons x l ih => simp [noSnapL, noSnap, ih]
theorem getR0 (cs : List AV) (o : Nat) : getR cs o 0 = some [] := _root_.id _root_.rfl
theorem killt_nil : (Tr.kl {} : List Nat) = [] := _root_.id _root_.rfl

theorem map_get {k : IntKind} {l : List Int} {i : Nat} (h : i < l.length) : (l.map (iv k))[i]? = some (iv k l[i]) := by
  rw [List.getElem?_map, List.getElem?_eq_getElem h]; rfl

theorem takeOut0 (k : Nat) : takeOut k [] = .look k fun cs => .put k none (.ret cs) := _root_.id _root_.rfl
theorem takeOut1 (k j : Nat) : takeOut k [j] = .look k fun cs => match sub [j] cs with | some ds => .put k (some (cs.set j .und)) (.ret ds) | none => .fail := by
  simp only [takeOut, modp, List.dropLast, List.getLastD]
  congr 1
theorem sub_one (j : Nat) (cs : List AV) : sub [j] cs = match cs[j]? with | some (.sl .own _ _ _ ds) => some ds | _ => none := by
  simp only [sub]
  cases cs[j]? with
  | none => rfl
  | some x => cases x <;> first | rfl | (rename_i tg _ _ _ _; cases tg <;> rfl)
theorem take_map_len {α β : Type} (f : α → β) (l : List α) : (l.map f).take l.length = l.map f := List.take_of_length_le (by simp)
theorem killT_cons (k : Nat) (ks : List Nat) (T : Nat → AV) (t : Nat) : killT (k :: ks) T t = killAV (k :: ks) (T t) := _root_.id _root_.rfl

theorem condT {α : Type} {b : Bool} {x y r : α} (hb : b = true) (h : x = r) : cond b x y = r := by subst hb; exact h

end Go.Proofs.Ytlmifbpihlcabaa.VH
