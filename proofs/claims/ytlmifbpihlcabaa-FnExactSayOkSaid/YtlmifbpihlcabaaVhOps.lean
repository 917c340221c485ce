/- Part of a proof about the given program: the verified evaluator and what it tells of the functions (VhOps). Conditions: none beyond the hypotheses that each theorem states. -/
import Derived.Test.YtlmifbpihlcabaaVhTool
import Derived.Laws.Sem
import GoSem.Dispatch
namespace Go.Proofs.Ytlmifbpihlcabaa.VH

def tdOK (P : Program) (t : TypeId) : TD → Prop
  | .bool => P.underlying t = some .bool
  | .int k => P.underlying t = some (.int k)
  | .string => P.underlying t = some .string
  | .slice e => P.underlying t = some (.slice e)
  | .struct fs => ∃ fields, P.underlying t = some (.struct fields) ∧ fields.toList.map (fun f => (f.offset, f.type)) = fs
  | .array n e => P.underlying t = some (.array n e)
  | .pointer e => P.underlying t = some (.pointer e)
  | .other => ∃ d, P.underlying t = some d ∧ (match d with | .struct _ | .array .. => False | _ => True)

structure RowOK (P : Program) (t : TypeId) (r : Row) : Prop where
  td : tdOK P t r.td
  info : ∃ i z, P.info? t = some i ∧ i.size = r.size ∧ i.bytes = r.bytes ∧ i.zero = some z ∧ z.cells.toList = r.zero
  zl : r.zero.length = r.size
  zleaf : ∀ v ∈ r.zero, leafV v = true
  one : r.td.agg = false → r.size = 1
  bytes : r.bytes ≤ 256

def Env.OK (E : Env) (P : Program) : Prop := ∀ t r, E.row t = some r → RowOK P t r

def OP {R : Type} (X : Cx) (U : Nat → Prop) (fr : Nat) (μ : Nat → Option (Nat × Nat)) (H : Heap) (w : World) (K : AV → Heap → Tr → Option R) (r : R) (v : Value) (w' : World) : Prop :=
  ∃ (x : AV) (μ' : Nat → Option (Nat × Nat)) (F' : Nat → Nat → Prop) (H' : Heap) (t' : Tr), K x H' t' = some r ∧ Rel X μ' F' H' w' (fun _ => False) ∧ Keep U t'.kl μ H w μ' H' w' ∧ RV X μ' H' w' x v ∧
    (∀ k, k ∈ keysAV x → U k ∨ (fr ≤ k ∧ k < fr + 8)) ∧ (∀ k, H k = none → ¬ (fr ≤ k ∧ k < fr + 8) → H' k = none)

theorem OP.pure {R : Type} {X : Cx} {U : Nat → Prop} {fr : Nat} {μ : Nat → Option (Nat × Nat)} {F : Nat → Nat → Prop} {H : Heap} {w : World} {K : AV → Heap → Tr → Option R} {r : R} {t : Tr} {x : AV} {v : Value}
    (hR : Rel X μ F H w (fun _ => False)) (ht : t.kl = []) (h : K x H t = some r) (hv : RV X μ H w x v) (hk : ∀ k, k ∈ keysAV x → U k) : OP X U fr μ H w K r v w :=
  ⟨x, μ, F, H, t, h, hR, by rw [ht]; exact Keep.refl U μ H w, hv, fun k hh => .inl (hk k hh), fun _ h _ => h⟩

/-- a step that changes nothing -/
def PP {R : Type} (X : Cx) (U : Nat → Prop) (μ : Nat → Option (Nat × Nat)) (H : Heap) (w : World) (K : AV → Heap → Tr → Option R) (r : R) (v : Value) : Prop :=
  ∃ (x : AV) (t' : Tr), K x H t' = some r ∧ t'.kl = [] ∧ RV X μ H w x v ∧ ∀ k, k ∈ keysAV x → U k

theorem PP.pure {R : Type} {X : Cx} {U : Nat → Prop} {μ : Nat → Option (Nat × Nat)} {F : Nat → Nat → Prop} {H : Heap} {w : World} {K : AV → Heap → Tr → Option R} {r : R} {t : Tr} {x : AV} {v : Value}
    (_ : Rel X μ F H w (fun _ => False)) (ht : t.kl = []) (h : K x H t = some r) (hv : RV X μ H w x v) (hk : ∀ k, k ∈ keysAV x → U k) : PP X U μ H w K r v := ⟨x, t, h, ht, hv, hk⟩

theorem PP.op {R : Type} {X : Cx} {U : Nat → Prop} {fr : Nat} {μ : Nat → Option (Nat × Nat)} {F : Nat → Nat → Prop} {H : Heap} {w : World} {K : AV → Heap → Tr → Option R} {r : R} {v : Value} (h : PP X U μ H w K r v) (hR : Rel X μ F H w (fun _ => False)) : OP X U fr μ H w K r v w :=
  let ⟨_, _, h1, h2, h3, h4⟩ := h
  OP.pure hR h2 h1 h3 h4

theorem opnd_rv {X : Cx} {μ : Nat → Option (Nat × Nat)} {H : Heap} {w : World} {T : Nat → AV} {a : Act} (hT : ∀ t, RV X μ H w (T t) (a.tmps.getD t undef)) (x : Operand) : RV X μ H w (opnd T x) (a.eval x) := by
  cases x with
  | tmp t => exact hT t
  | global g => exact .und _
  | func f => exact .fn f [] #[] rfl (fun i h => by simp at h)
  | const v =>
    cases v <;> try exact .val _
    rename_i cs
    simp only [opnd, Act.eval]
    cases hb : cs.toList.all leafV with
    | false => exact .und _
    | true =>
      refine .agg _ cs (by simp) (fun i h => ?_) fun i h h' => ?_
      · rw [List.all_eq_true] at hb
        exact hb _ (by simp)
      · simp only [List.getElem_map, Array.getElem_toList]
        exact .val _

theorem opnd_keys {T : Nat → AV} {U : Nat → Prop} (hT : ∀ t k, k ∈ keysAV (T t) → U k) (x : Operand) : ∀ k, k ∈ keysAV (opnd T x) → U k := by
  intro k hk
  cases x with
  | tmp t => exact hT t k hk
  | global g => simp [opnd, keysAV] at hk
  | func f => simp [opnd, keysAV, keysL] at hk
  | const v =>
    cases v <;> try (simp [opnd, keysAV] at hk; done)
    rename_i cs
    exfalso
    simp only [opnd] at hk
    cases hb : cs.toList.all leafV with
    | false => simp [hb, keysAV] at hk
    | true =>
      simp only [hb, cond_true, keysAV] at hk
      obtain ⟨i, hi, hk⟩ := keysL_mem hk
      simp [keysAV] at hk

section
variable {R : Type} {X : Cx} {U : Nat → Prop} {fr : Nat} {μ : Nat → Option (Nat × Nat)} {F : Nat → Nat → Prop} {H : Heap} {w : World} {K : AV → Heap → Tr → Option R} {r : R} {t : Tr} {P : Program}

theorem intBin_sound (hR : Rel X μ F H w (fun _ => False)) (ht : t.kl = []) {op : BinOp} {k k' : IntKind} {a b : Int} (xt : TypeId) (hkk : (match op with | .shl | .shr => True | _ => k = k')) (h : (intBin op k a b).run H t K = some r) :
    ∃ v, (Go.binOp op xt (.int k a) (.int k' b)).run P w = .ok v w ∧ OP X U fr μ H w K r v w := by
  have fin : ∀ v, (K (.val v) H t = some r) → OP X U fr μ H w K r v w := fun v h => OP.pure hR ht h (.val v) (fun k hk => by simp [keysAV] at hk)
  cases op <;> simp only at hkk <;> (try subst hkk) <;> simp only [intBin] at h
  case quo => obtain ⟨hb, h⟩ := guardB_run' h; exact ⟨_, by simp at hb; simp [Go.binOp, Op.intDiv, hb], fin _ h⟩
  case rem => obtain ⟨hb, h⟩ := guardB_run' h; exact ⟨_, by simp at hb; simp [Go.binOp, Op.intDiv, hb], fin _ h⟩
  case shl =>
    obtain ⟨hb, h⟩ := guardB_run' h
    have hb := of_decide_eq_true hb
    have : ¬ b < 0 := by omega
    exact ⟨_, by simp [Go.binOp, Op.shift, this], fin _ h⟩
  case shr =>
    obtain ⟨hb, h⟩ := guardB_run' h
    have hb := of_decide_eq_true hb
    have : ¬ b < 0 := by omega
    exact ⟨_, by simp [Go.binOp, Op.shift, this], fin _ h⟩
  all_goals exact ⟨_, by simp [Go.binOp, Op.intArith, Op.intBits, Op.intCmp] <;> rfl, fin _ h⟩

theorem strBin_sound (hR : Rel X μ F H w (fun _ => False)) (ht : t.kl = []) {op : BinOp} {a b : ByteArray} (xt : TypeId) (h : (strBin op a b).run H t K = some r) :
    ∃ v, (Go.binOp op xt (.string a) (.string b)).run P w = .ok v w ∧ OP X U fr μ H w K r v w := by
  have fin : ∀ v, (K (.val v) H t = some r) → OP X U fr μ H w K r v w := fun v h => OP.pure hR ht h (.val v) (fun k hk => by simp [keysAV] at hk)
  cases op <;> simp only [strBin] at h <;> try (exfalso; simp [HM.run] at h; done)
  case add =>
    obtain ⟨hb, h⟩ := guardB_run' h
    have hb := of_decide_eq_true hb
    refine ⟨_, ?_, fin _ h⟩
    have : ¬ (((a.size + b.size : Nat) : Int) > IntKind.i64.max) := by
      have : IntKind.i64.max = 9223372036854775807 := by decide
      rw [this]; unfold LIM at hb; omega
    simp only [Go.binOp, Op.stringOp, this, if_false]
    rfl
  all_goals exact ⟨_, by simp [Go.binOp, Op.stringOp], fin _ h⟩

theorem slLen_inv {x : AV} {n : Nat} (h : slLen x = some n) : (x = .val nilV ∧ n = 0) ∨ (∃ tg z cap cs, x = .sl tg z n cap cs) ∨ (∃ k p z off cap, x = .ref k p z off n cap) := by
  unfold slLen at h
  split at h
  · injection h with h; exact .inl ⟨rfl, h.symm⟩
  · injection h with h; subst h; exact .inr (.inl ⟨_, _, _, _, rfl⟩)
  · injection h with h; subst h; exact .inr (.inr ⟨_, _, _, _, _, rfl⟩)
  · exact absurd h (by simp)

/-- a slice's header -/
theorem slLen_hdr {x : AV} {n : Nat} {v : Value} (h : slLen x = some n) (hv : RV X μ H w x v) : ∃ A c, v = .slice A n c ∧ n ≤ c ∧ (x = .val nilV → A = none) ∧ (0 < n → A ≠ none) := by
  rcases slLen_inv h with ⟨rfl, rfl⟩ | ⟨tg, z, cap, cs, rfl⟩ | ⟨k, p, z, off, cap, rfl⟩
  · cases hv with | val => exact ⟨none, 0, rfl, Nat.le_refl _, fun _ => rfl, fun h => by omega⟩
  · cases hv with
    | sl _ _ _ _ _ _ ht hr =>
      cases hr with
      | sl _ _ _ _ _ b o c arr vs h1 h2 h3 => exact ⟨_, c, rfl, h3, fun e => by simp at e, fun _ => by simp⟩
      | nil _ _ _ A c => exact ⟨A, c, rfl, Nat.zero_le _, fun e => by simp at e, fun h => by omega⟩
  · cases hv with
    | ref _ _ _ _ _ _ A c hn hc hA => exact ⟨A, c, rfl, hn, fun e => by simp at e, fun h e => by have := hA e; omega⟩

theorem getR_inv {cs : List AV} : ∀ {n off : Nat} {xs : List AV}, getR cs off n = some xs → xs.length = n ∧ ∀ i (h : i < xs.length), cs[off + i]? = some xs[i] := by
  intro n
  induction n with
  | zero => intro off xs h; simp [getR] at h; subst h; exact ⟨rfl, fun i h => by simp at h⟩
  | succ n ih =>
    intro off xs h
    simp only [getR] at h
    split at h
    · rename_i x hx
      split at h
      · rename_i ys hy
        injection h with h; subst h
        obtain ⟨h1, h2⟩ := ih hy
        refine ⟨by simp [h1], fun i hi => ?_⟩
        cases i with
        | zero => simpa using hx
        | succ i =>
          have := h2 i (by simpa using hi)
          simp only [List.getElem_cons_succ]
          rw [← this]
          congr 1; omega
      · exact absurd h (by simp)
    · exact absurd h (by simp)

theorem loadedL_get {k : Nat} {p : List Nat} : ∀ {xs : List AV} {i j : Nat} (h : j < (loadedL k p i xs).length) (h' : j < xs.length), (loadedL k p i xs)[j] = loaded k p (i + j) xs[j]
  | x :: xs, i, 0, _, _ => rfl
  | x :: xs, i, j + 1, h, h' => by
    simp only [loadedL, List.getElem_cons_succ]
    rw [loadedL_get (by simpa [loadedL] using h) (by simpa using h')]
    congr 1; omega

theorem loadedL_len {k : Nat} {p : List Nat} : ∀ {xs : List AV} {i : Nat}, (loadedL k p i xs).length = xs.length
  | [], _ => rfl
  | x :: xs, i => by simp [loadedL, loadedL_len]

/-- the part of a located value that a load tells -/
theorem loaded_rv {k : Nat} {p : List Nat} {cs ds : List AV} {b o : Nat} {T : Nat → Prop} (hk : H k = some cs) (hq : LocQ w (μ k) cs p (some (b, o)) ds) (hC : Cells X w b o ds T) {i : Nat} {x : AV} (hi : ds[i]? = some x) :
    ∃ v, w.cell? ⟨b, o + i, none⟩ = some v ∧ leafV v = true ∧ RV X μ H w (loaded k p i x) v := by
  obtain ⟨arr, vs, Ts, c1, c2, c3, c4, c5, c6, c7, c8⟩ := hC
  obtain ⟨hil, hie⟩ := List.getElem?_eq_some_iff.mp hi
  have hcell : w.cell? ⟨b, o + i, none⟩ = some (vs i) := by rw [cell?_of c1.rblk]; exact c4 i hil
  have hO := c5 i hil
  rw [hie] at hO
  refine ⟨vs i, hcell, hO.leaf, ?_⟩
  generalize hv : vs i = v at hO hcell
  generalize hTi : Ts i = Ti at hO
  cases hO with
  | und _ _ _ => exact .und _
  | val _ _ _ => exact .val _
  | fgn z n cap es v T h => exact .sl _ _ _ _ _ _ (by simp) h
  | snap z n cap es v T h => exact .sl _ _ _ _ _ _ (by simp) h
  | nil z cap A _ hc =>
    refine .ref k (p ++ [i]) z 0 0 cap A 0 (Nat.le_refl _) hc (fun _ => rfl) fun cs' res ds' hk' hq' => ?_
    rw [hk] at hk'; injection hk' with hk'; subst hk'
    obtain ⟨e1, e2⟩ := (LocQ.snoc hi hcell (.inl ⟨rfl, rfl⟩) hq).uniq hq'
    subst e1
    exact rfl
  | own z n cap es b1 o1 c arr1 vs1 Ts1 _ g1 g2 g3 g4 g5 g6 g7 g8 g9 g10 g11 =>
    refine .ref k (p ++ [i]) z 0 n cap _ c g3 g4 (fun e => by simp at e) fun cs' res ds' hk' hq' => ?_
    rw [hk] at hk'; injection hk' with hk'; subst hk'
    by_cases hc0 : c = 0
    · subst hc0
      obtain ⟨e1, e2⟩ := (LocQ.snoc hi hcell (.inl ⟨rfl, rfl⟩) hq).uniq hq'
      subst e1
      exact rfl
    · obtain ⟨e1, e2⟩ := (LocQ.snoc hi hcell (.inr ⟨by omega, b1, o1, rfl, rfl⟩) hq).uniq hq'
      subst e1; subst e2
      refine .inr ⟨rfl, fun _ => ?_, fun arr2 h2 => ?_⟩
      · rw [g5]; have := Nat.mul_le_mul_right z g3; omega
      · rw [← g1.rblk.uniq h2]; simpa using g6

theorem isAgg_run (P : Program) (w : World) {t : TypeId} {td : TD} (h : tdOK P t td) : (isAgg t).run P w = .ok td.agg w := by
  unfold isAgg underlying
  cases td with
  | struct fs => obtain ⟨f, h, _⟩ := h; simp [h, TD.agg]
  | other =>
    obtain ⟨d, h, hd⟩ := h
    cases d <;> simp only at hd <;> simp [h, TD.agg]
  | _ => simp [show P.underlying t = _ from h, TD.agg]

theorem sizeOf_run (P : Program) (w : World) {t : TypeId} {r : Row} (h : RowOK P t r) : (sizeOf t).run P w = .ok r.size w := by
  obtain ⟨i, z, h1, h2, _⟩ := h.info
  simp [sizeOf, typeInfo, h1, h2]

theorem loadCellsFrom_run (P : Program) (w : World) (b o : Nat) : ∀ (n i : Nat) (vs : List Value) (acc : Array Value), vs.length = n → (∀ j (h : j < vs.length), w.cell? ⟨b, o + (i + j), none⟩ = some vs[j]) →
    (loadCellsFrom ⟨b, o, none⟩ i n acc).run P w = .ok (acc ++ vs.toArray) w := by
  intro n
  induction n with
  | zero => intro i vs acc hl _; have : vs = [] := List.eq_nil_of_length_eq_zero hl; subst this; simp [loadCellsFrom]
  | succ n ih =>
    intro i vs acc hl h
    cases vs with
    | nil => simp at hl
    | cons v vs =>
      have h0 := h 0 (by simp)
      simp only [Nat.add_zero, List.getElem_cons_zero] at h0
      have ha : (⟨b, o, none⟩ : Addr).add i = ⟨b, o + i, none⟩ := by
        unfold Addr.add; split
        · rename_i e; subst e; rfl
        · rfl
      simp only [loadCellsFrom, Sem.run_bind, run_load, ha, h0, Result.andThen_ok]
      rw [ih (i + 1) vs (acc.push v) (by simpa using hl) (fun j hj => by
        have := h (j + 1) (by simpa using hj)
        simp only [List.getElem_cons_succ] at this
        rw [← this]; congr 2; omega)]
      simp

theorem loadVar_run (P : Program) (w : World) {t : TypeId} {r : Row} (hr : RowOK P t r) {b o : Nat} {vs : List Value} (hl : vs.length = r.size) (h : ∀ j (h : j < vs.length), w.cell? ⟨b, o + j, none⟩ = some vs[j]) :
    (loadVar t ⟨b, o, none⟩).run P w = .ok (if r.td.agg then .agg vs.toArray else vs.headD undef) w := by
  unfold loadVar
  rw [Sem.run_bind, isAgg_run P w hr.td]
  simp only [Result.andThen_ok]
  cases ha : r.td.agg with
  | true =>
    simp only [if_true, Sem.run_bind, sizeOf_run P w hr, Result.andThen_ok, loadCells]
    rw [loadCellsFrom_run P w b o r.size 0 vs #[] hl (fun j hj => by simpa using h j hj)]
    simp
  | false =>
    have := hr.one ha
    rw [this] at hl
    obtain ⟨v, rfl⟩ := List.length_eq_one_iff.mp hl
    have h0 := h 0 (by simp)
    simp only [Nat.add_zero, List.getElem_cons_zero] at h0
    simp [h0]

end
end Go.Proofs.Ytlmifbpihlcabaa.VH
