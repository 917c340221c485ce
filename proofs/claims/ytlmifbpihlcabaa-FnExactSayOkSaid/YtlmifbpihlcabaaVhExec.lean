/- Part of a proof about the given program: the verified evaluator and what it tells of the functions (VhExec). Conditions: none beyond the hypotheses that each theorem states. -/
import Derived.Test.YtlmifbpihlcabaaVhCall
import Derived.Test.YtlmifbpihlcabaaVhApp3
namespace Go.Proofs.Ytlmifbpihlcabaa.VH

/- Every operation. -/

section
variable {R : Type} {X : Cx} {U : Nat → Prop} {fr : Nat} {μ : Nat → Option (Nat × Nat)} {F : Nat → Nat → Prop} {H : Heap} {w : World} {K : AV → Heap → Tr → Option R} {r : R} {t : Tr} {P : Program} {E : Env}

theorem zOK_inv {z : Nat} {x : AV} (h : zOK z x = true) : (∀ tg z' n cap cs, x = .sl tg z' n cap cs → z' = z) ∧ (∀ k p z' off n cap, x = .ref k p z' off n cap → z' = z) ∧ ¬ ∃ s, x = .val (.string s) := by
  unfold zOK at h
  split at h
  · exact ⟨fun _ _ _ _ _ e => by simp at e, fun _ _ _ _ _ _ e => by simp at e, fun ⟨s, e⟩ => by simp at e⟩
  · rename_i z'
    refine ⟨fun _ _ _ _ _ e => ?_, fun _ _ _ _ _ _ e => by simp at e, fun ⟨s, e⟩ => by simp at e⟩
    injection e with _ e; rw [← e]; simpa using h
  · refine ⟨fun _ _ _ _ _ e => by simp at e, fun _ _ _ _ _ _ e => ?_, fun ⟨s, e⟩ => by simp at e⟩
    injection e with _ _ e; rw [← e]; simpa using h
  · exact absurd h (by simp)

theorem unOp_sound (hR : Rel X μ F H w (fun _ => False)) (ht : t.kl = []) {op : UnOp} {x : AV} {u : Value} (hx : RV X μ H w x u)
    (h : (match op, x with | .not, .val (.bool b) => HM.ret (AV.val (.bool (!b))) | .neg, .val (.int k n) => intBin .sub k 0 n | .xor, .val (.int k n) => intBin .xor k (if k.signed then -1 else k.max) n | _, _ => HM.fail).run H t K = some r) :
    ∃ z, (Op.unary op u).run P w = .ok z w ∧ OP X U fr μ H w K r z w := by
  split at h
  · cases hx
    exact ⟨_, by simp [Op.unary], OP.pure hR ht h (.val _) (fun k hk => by simp [keysAV] at hk)⟩
  · cases hx
    rename_i k n
    simp only [intBin, HM.run] at h
    exact ⟨_, by simp [Op.unary, Op.intArith], OP.pure hR ht h (.val _) (fun k hk => by simp [keysAV] at hk)⟩
  · cases hx
    simp only [intBin, HM.run] at h
    exact ⟨_, by simp [Op.unary, Op.intBits], OP.pure hR ht h (.val _) (fun k hk => by simp [keysAV] at hk)⟩
  · simp [HM.run] at h

theorem strSlice_sound (hR : Rel X μ F H w (fun _ => False)) (ht : t.kl = []) {ty : TypeId} (hty : P.underlying ty = some .string) {s : ByteArray} {lo hi : Option AV} {lo' hi' : Option Value}
    (e1 : (lo = none ∧ lo' = none) ∨ ∃ x v, lo = some x ∧ lo' = some v ∧ RV X μ H w x v) (e2 : (hi = none ∧ hi' = none) ∨ ∃ x v, hi = some x ∧ hi' = some v ∧ RV X μ H w x v)
    (h : (sliceHM (.val (.string s)) lo hi none).run H t K = some r) : ∃ z, (Instr.sliceAt ty (.string s) lo' hi' none).run P w = .ok z w ∧ OP X U fr μ H w K r z w := by
  simp only [sliceHM] at h
  split at h
  · rename_i l hh b1 b2 _
    obtain ⟨hg, h⟩ := guardB_run' h
    simp only [Bool.and_eq_true, decide_eq_true_eq] at hg
    obtain ⟨⟨g1, g2⟩, g3⟩ := hg
    refine ⟨.string (s.extract l.toNat hh.toNat), ?_, OP.pure hR ht h (.val _) (fun k hk => by simp [keysAV] at hk)⟩
    have := sliceBounds_run (P := P) (b := false) (n := s.size) (c := s.size) (mx := none) (mx' := none) (by simp) b1 b2 (m := s.size) (by simp [bound]) e1 e2 (.inl ⟨rfl, rfl⟩) g1 g2 g3 (by omega) (by omega) (by simp)
    simp only [Instr.sliceAt, Sem.run_bind, underlying, run_program, Result.andThen_ok, hty, Sem.run_pure, Instr.slice]
    simp only [Option.isSome_none, Bool.false_eq_true, if_false, Sem.run_bind, this, Result.andThen_ok, Sem.run_pure]
  · simp [HM.run] at h

theorem index_sound (hR : Rel X μ F H w (fun _ => False)) (ht : t.kl = []) (hE : E.OK P) {ty : TypeId} {x y : AV} {u v : Value} (hx : RV X μ H w x u) (hy : RV X μ H w y v) (hk : ∀ k, k ∈ keysAV x → U k)
    (h : (match E.row ty, x, y with
    | some { td := .string, .. }, .val (.string s), .val (.int _ i) => guardB (decide (0 ≤ i)) (match s[i.toNat]? with
        | some b => .ret (u8 b)
        | none => .fail)
    | some { td := .array n e, .. }, .agg xs, .val (.int _ i) => match E.row e with
      | some r => guardB (decide (0 ≤ i) && decide (i < n)) (partHM r xs (i.toNat * r.size))
      | none => .fail
    | _, _, _ => HM.fail).run H t K = some r) : ∃ z, (Instr.index ty u v).run P w = .ok z w ∧ OP X U fr μ H w K r z w := by
  split at h
  · rename_i s k i hrow
    cases hx; cases hy
    obtain ⟨hg, h⟩ := guardB_run' h
    have hg := of_decide_eq_true hg
    have htd := (hE _ _ hrow).td
    split at h
    · rename_i b hb
      exact ⟨.int .u8 b.toNat, by simp [Instr.index, asIntOf, underlying, show P.underlying ty = _ from htd, hg, hb], OP.pure hR ht h (.val _) (fun k hk => by simp [u8, keysAV] at hk)⟩
    · simp [HM.run] at h
  · rename_i n e xs k i hrow
    split at h
    · rename_i row hr
      obtain ⟨hg, h⟩ := guardB_run' h
      simp only [Bool.and_eq_true, decide_eq_true_eq] at hg
      obtain ⟨vs, rfl, h1, h2, h3⟩ := rv_agg_inv hx
      cases hy
      have htd := (hE _ _ hrow).td
      obtain ⟨z, hz, hop⟩ := part_sound (fr := fr) hR ht (hE _ _ hr) h1 h2 h3 (fun k hk' => hk k (by simpa [keysAV] using hk')) h
      exact ⟨z, by simp [Instr.index, asIntOf, underlying, show P.underlying ty = _ from htd, hg, sizeOf_run P w (hE _ _ hr), hz], hop⟩
    · simp [HM.run] at h
  · simp [HM.run] at h

theorem arrAddr_sound (hR : Rel X μ F H w (fun _ => False)) (ht : t.kl = []) {ty e : TypeId} {n : Nat} {re : Row} (hty : P.underlying ty = some (.array n e)) (hre : RowOK P e re) {x : AV} {i : Int} {k : IntKind} {u : Value} (hx : RV X μ H w x u) (hk : ∀ k, k ∈ keysAV x → U k) (hn : 1 < n)
    (h : (arrAddr x n re.size i).run H t K = some r) : ∃ z, (Instr.indexAt ty u (.int k i)).run P w = .ok z w ∧ OP X U fr μ H w K r z w := by
  have conc : ∀ (a : Addr), 0 ≤ i ∧ i < (n : Int) → (Instr.indexAt ty (.pointer (some a)) (.int k i)).run P w = .ok (.pointer (some (a.add (i.toNat * re.size)))) w := by
    intro a hi
    simp [Instr.indexAt, asIntOf, underlying, hty, hi, Instr.sureAddr, sizeOf_run P w hre]
  unfold arrAddr at h
  split at h
  · rename_i kk p off
    obtain ⟨hg, h⟩ := guardB_run' h
    simp only [Bool.and_eq_true, decide_eq_true_eq] at hg
    cases hx with
    | ptr _ _ _ a hh =>
      refine ⟨_, conc a hg, OP.pure hR ht h (.ptr kk p _ _ fun cs b o ds hkk hq => ?_) (fun k hk' => hk k hk')⟩
      rw [hh cs b o ds hkk hq, add_spot]
      congr 1; omega
  · rename_i tg cs off
    obtain ⟨hg, h⟩ := guardB_run' h
    simp only [Bool.and_eq_true, decide_eq_true_eq] at hg
    cases hx with
    | rp _ _ _ b o arr vs htg hS hb hv hr =>
      refine ⟨_, conc _ hg, ?_⟩
      rw [add_spot, Nat.add_assoc]
      exact OP.pure hR ht h (.rp tg cs _ b o arr vs htg hS hb hv hr) (fun k hk => by simp [keysAV] at hk)
  · simp [HM.run] at h

theorem cap_sound (hR : Rel X μ F H w (fun _ => False)) (ht : t.kl = []) {ts : Array TypeId} {ty ty' e : TypeId} (hts : ts[0]? = some ty) (htd : P.underlying ty = some (.slice e)) {x : AV} {u : Value} (hx : RV X μ H w x u)
    (h : (match x with
      | .val (.slice none 0 0) => HM.ret (AV.val (.int .i64 0))
      | .sl _ _ _ (some q) _ => HM.ret (AV.val (.int .i64 q))
      | .ref _ _ _ _ _ (some q) => HM.ret (AV.val (.int .i64 q))
      | _ => HM.fail).run H t K = some r) : ∃ z, (Builtin.cap_ ts ty' #[u]).run P w = .ok z w ∧ OP X U fr μ H w K r z w := by
  have conc : ∀ A n c, (Builtin.cap_ ts ty' #[.slice A n c]).run P w = .ok (.int .i64 c) w := by
    intro A n c
    simp [Builtin.cap_, hts, underlying, htd, goInt]
  split at h
  · cases hx
    exact ⟨_, conc _ _ _, OP.pure hR ht h (.val _) (fun k hk => by simp [keysAV] at hk)⟩
  · rename_i q cs
    cases hx with
    | sl _ _ _ _ _ _ htg hr =>
      cases hr with
      | sl _ _ _ _ _ b o c arr vs h1 h2 h3 hc =>
        have := hc q rfl; subst this
        exact ⟨_, conc _ _ _, OP.pure hR ht h (.val _) (fun k hk => by simp [keysAV] at hk)⟩
      | nil _ _ _ A c hc =>
        have := hc q rfl; subst this
        exact ⟨_, conc _ _ _, OP.pure hR ht h (.val _) (fun k hk => by simp [keysAV] at hk)⟩
  · rename_i q
    cases hx with
    | ref _ _ _ _ _ _ A c hn hc =>
      have := hc q rfl; subst this
      exact ⟨_, conc _ _ _, OP.pure hR ht h (.val _) (fun k hk => by simp [keysAV] at hk)⟩
  · simp [HM.run] at h

theorem minmax_sound (hR : Rel X μ F H w (fun _ => False)) (ht : t.kl = []) {a b : Int} {k k' : IntKind} {ts : Array TypeId} {ty : TypeId} :
    (∀ (_ : K (.val (.int k (if b < a then b else a))) H t = some r), ∃ z, (Builtin.min_ ts ty #[.int k a, .int k' b]).run P w = .ok z w ∧ OP X U fr μ H w K r z w) ∧
    (∀ (_ : K (.val (.int k (if b > a then b else a))) H t = some r), ∃ z, (Builtin.max_ ts ty #[.int k a, .int k' b]).run P w = .ok z w ∧ OP X U fr μ H w K r z w) := by
  refine ⟨fun h => ⟨_, ?_, OP.pure hR ht h (.val _) (fun k hk => by simp [keysAV] at hk)⟩, fun h => ⟨_, ?_, OP.pure hR ht h (.val _) (fun k hk => by simp [keysAV] at hk)⟩⟩
  · simp [Builtin.min_, Builtin.min2]
  · simp [Builtin.max_, Builtin.max2]

theorem mem_setAt {y : AV} : ∀ {ys cs : List AV} {off : Nat}, y ∈ setAt cs off ys → y ∈ cs ∨ y ∈ ys
  | [], cs, off, h => .inl h
  | x :: ys, cs, off, h => by
    simp only [setAt] at h
    rcases mem_setAt h with h | h
    · rcases List.mem_or_eq_of_mem_set h with h | h
      · exact .inl h
      · exact .inr (by rw [h]; simp)
    · exact .inr (List.mem_cons_of_mem _ h)

theorem mem_fillP {place : Nat → Option (Nat × Nat)} {y : AV} : ∀ {ps : List (Nat × List AV)} {cs cs' : List AV}, fillP place cs ps = some cs' → y ∈ cs' → y ∈ cs ∨ ∃ p ∈ ps, y ∈ p.2
  | [], cs, cs', h, hy => by simp only [fillP, Option.some.injEq] at h; subst h; exact .inl hy
  | (i, v) :: ps, cs, cs', h, hy => by
    simp only [fillP] at h
    split at h
    · split at h
      · rcases mem_fillP h hy with h1 | ⟨p, hp, h1⟩
        · rcases mem_setAt h1 with h1 | h1
          · exact .inl h1
          · exact .inr ⟨(i, v), by simp, h1⟩
        · exact .inr ⟨p, List.mem_cons_of_mem _ hp, h1⟩
      · exact absurd h (by simp)
    · exact absurd h (by simp)

theorem solid_inv {x : AV} {v : Value} (hs : solid x = true) (hx : RV X μ H w x v) : (∃ xs, x = .agg xs) ∨ leafV v = true := by
  cases hx with
  | und => simp [solid] at hs
  | val v => exact .inr (by simpa [solid] using hs)
  | tup => simp [solid] at hs
  | agg xs => exact .inl ⟨xs, rfl⟩
  | sl _ _ _ _ _ _ _ h => exact .inr h.leaf
  | _ => exact .inr rfl

theorem keys_cellsOf {x : AV} {k : Nat} {y : AV} (hy : y ∈ cellsOf x) (hk : k ∈ keysAV y) : k ∈ keysAV x := by
  cases x with
  | agg xs =>
    simp only [cellsOf] at hy
    simp only [keysAV]
    obtain ⟨i, hi, rfl⟩ := List.mem_iff_getElem.mp hy
    exact mem_keysL hi hk
  | _ => simp only [cellsOf, List.mem_singleton] at hy; subst hy; exact hk

theorem exec_sound (hE : E.OK P) {C : Oracle} (hC : OrcOK P C) : ExecSound P E C := by
  intro R X μ F H w U fr T a o K r next Q hX hR hT hkT hU hfr h hn
  have ev := fun x => opnd_rv hT x
  have ek := fun x => opnd_keys hkT x
  have hffr : H fr = none := hfr fr (by omega)
  have hUfr : ∀ k, U k → k ≠ fr := fun k hk e => hU k hk (by omega)
  have valOK : ∀ {s : Sem Value}, Go.execOp a.eval o = (do pure (.value (← s))) → (∃ z w', s.run P w = .ok z w' ∧ OP X U fr μ H w K r z w') → o.wp P a w next Q := by
    rintro s he ⟨z, w', hz, hop⟩
    unfold Oper.wp
    rw [he, Sem.run_bind, hz]
    simp only [Result.andThen_ok, Sem.run_pure, Oper.upon]
    exact hn z w' hop
  have valOK' : ∀ {s : Sem Value}, Go.execOp a.eval o = (do pure (.value (← s))) → (∃ z, s.run P w = .ok z w ∧ OP X U fr μ H w K r z w) → o.wp P a w next Q := fun he ⟨z, h1, h2⟩ => valOK he ⟨z, w, h1, h2⟩
  have pureOK : ∀ {z : Value}, (Go.execOp a.eval o = pure (.value z)) → OP X U fr μ H w K r z w → o.wp P a w next Q := by
    intro z he hop
    unfold Oper.wp
    rw [he]
    simp only [Sem.run_pure, Oper.upon]
    exact hn z w hop
  have opt : ∀ x : Option Operand, ((x.map (opnd T)) = none ∧ x.map a.eval = none) ∨ ∃ y v, x.map (opnd T) = some y ∧ x.map a.eval = some v ∧ RV X μ H w y v := by
    intro x
    cases x with
    | none => exact .inl ⟨rfl, rfl⟩
    | some x => exact .inr ⟨_, _, rfl, rfl, ev x⟩
  cases hop : o.op
  case move x =>
    simp only [hop, VH.execOp, HM.run] at h
    exact pureOK (by simp only [Go.execOp, hop]) (OP.pure hR rfl h (ev x) (ek x))
  case assign x =>
    simp only [hop, VH.execOp, HM.run] at h
    exact pureOK (by simp only [Go.execOp, hop]) (OP.pure hR rfl h (ev x) (ek x))
  case pick c x y =>
    simp only [hop, VH.execOp] at h
    split at h
    · rename_i b hb
      have hv := ev c
      rw [hb] at hv
      generalize hu : a.eval c = u at hv
      cases hv
      have he : (Go.execOp a.eval o).run P w = .ok (.value (if b then a.eval x else a.eval y)) w := by simp [Go.execOp, hop, hu, asBool]
      unfold Oper.wp
      rw [he]
      simp only [Oper.upon]
      cases b with
      | true => exact hn _ _ (OP.pure hR rfl h (ev x) (ek x))
      | false => exact hn _ _ (OP.pure hR rfl h (ev y) (ek y))
    · simp [HM.run] at h
  case binOp op xt x y p =>
    simp only [hop, VH.execOp] at h
    exact valOK' (by simp only [Go.execOp, hop]) (bin_sound (ox := x) (oy := y) hR rfl hE (ev x) (ev y) h)
  case unOp op ty x =>
    simp only [hop, VH.execOp] at h
    exact valOK' (by simp only [Go.execOp, hop]) (unOp_sound hR rfl (ev x) h)
  case alloc ty =>
    simp only [hop, VH.execOp] at h
    split at h
    · rename_i row hrow
      exact valOK (by simp only [Go.execOp, hop]) (alloc_sound hX hR rfl (hE _ _ hrow) hffr hUfr h)
    · simp [HM.run] at h
  case box ty x =>
    simp only [hop, VH.execOp] at h
    split at h
    · rename_i row hrow
      exact valOK (by simp only [Go.execOp, hop]) (box_sound (ty := ty) hX hR rfl hffr hUfr (ev x) h)
    · simp [HM.run] at h
  case load ty x =>
    simp only [hop, VH.execOp] at h
    split at h
    · rename_i row hrow
      obtain ⟨z, hz, hp⟩ := load_sound hX hR rfl (hE _ _ hrow) (ev x) (ek x) h
      exact valOK' (by simp only [Go.execOp, hop]) ⟨z, hz, hp.op hR⟩
    · simp [HM.run] at h
  case store ty x y =>
    simp only [hop, VH.execOp] at h
    split at h
    · rename_i row hrow
      obtain ⟨w', hz, hp⟩ := store_sound (fr := fr) (U := U) hX hR rfl (hE _ _ hrow) (ev x) (ev y) h
      unfold Oper.wp
      have he : (Go.execOp a.eval o).run P w = .ok .skip w' := by simp [Go.execOp, hop, hz]
      rw [he]
      exact hn _ _ hp
    · simp [HM.run] at h
  case nilCheck x =>
    simp only [hop, VH.execOp] at h
    have hv := ev x
    have hk := ek x
    split at h
    · rename_i k p off hx
      rw [hx] at hv hk
      generalize hu : a.eval x = u at hv
      cases hv with
      | ptr _ _ _ ad hh => exact pureOK (by simp only [Go.execOp, hop, hu]) (OP.pure hR rfl h (.ptr k p off ad hh) hk)
    · rename_i tg cs off hx
      rw [hx] at hv hk
      generalize hu : a.eval x = u at hv
      cases hv with
      | rp _ _ _ b o' arr vs q1 q2 q3 q4 q5 => exact pureOK (by simp only [Go.execOp, hop, hu]) (OP.pure hR rfl h (.rp tg cs off b o' arr vs q1 q2 q3 q4 q5) hk)
    · rename_i f caps hx
      rw [hx] at hv hk
      generalize hu : a.eval x = u at hv
      cases hv with
      | fn _ _ vs q1 q2 => exact pureOK (by simp only [Go.execOp, hop, hu]) (OP.pure hR rfl h (.fn f caps vs q1 q2) hk)
    · simp [HM.run] at h
  case indexAddr ty x i =>
    simp only [hop, VH.execOp] at h
    have hi := ev i
    split at h
    · rename_i e k n hrow hxi
      split at h
      · rename_i re hre
        rw [hxi] at hi
        generalize hu : a.eval i = u at hi
        cases hi
        exact valOK' (by simp only [Go.execOp, hop, hu]) (idxAddr_sound (k := k) hR rfl (hE _ _ hrow).td (hE _ _ hre) (ev x) (ek x) h)
      · simp [HM.run] at h
    · rename_i n e k i' hrow hxi
      split at h
      · rename_i re hre
        rw [hxi] at hi
        generalize hu : a.eval i = u at hi
        cases hi
        obtain ⟨hg, h⟩ := guardB_run' h
        exact valOK' (by simp only [Go.execOp, hop, hu]) (arrAddr_sound (k := k) hR rfl (hE _ _ hrow).td (hE _ _ hre) (ev x) (ek x) (of_decide_eq_true hg) h)
      · simp [HM.run] at h
    · simp [HM.run] at h
  case index ty x i =>
    simp only [hop, VH.execOp] at h
    exact valOK' (by simp only [Go.execOp, hop]) (index_sound hR rfl hE (ev x) (ev i) (ek x) h)
  case fieldAddr ty x f =>
    simp only [hop, VH.execOp] at h
    split at h
    · rename_i off row k p o' hrow hx
      obtain ⟨hg, h⟩ := guardB_run' h
      exact valOK' (by simp only [Go.execOp, hop]) (fieldAddr_sound hR rfl hE hrow (of_decide_eq_true hg) (ev x) (ek x) (.inl ⟨k, p, o', hx, rfl⟩) h)
    · rename_i off row tg cs o' hrow hx
      obtain ⟨hg, h⟩ := guardB_run' h
      exact valOK' (by simp only [Go.execOp, hop]) (fieldAddr_sound hR rfl hE hrow (of_decide_eq_true hg) (ev x) (ek x) (.inr ⟨tg, cs, o', hx, rfl⟩) h)
    · simp [HM.run] at h
  case field ty x f =>
    simp only [hop, VH.execOp] at h
    split at h
    · rename_i off row xs hrow hx
      have hv := ev x
      have hk := ek x
      rw [hx] at hv hk
      exact valOK' (by simp only [Go.execOp, hop]) (field_sound hR rfl hE hrow hv (fun k hk' => hk k (by simpa [keysAV] using hk')) h)
    · simp [HM.run] at h
  case extract x i =>
    simp only [hop, VH.execOp] at h
    split at h
    · rename_i xs hx
      have hv := ev x
      have hk := ek x
      rw [hx] at hv hk
      cases hxi : xs[i]? with
      | none => simp [hxi, ofOpt, HM.run] at h
      | some y =>
        simp only [hxi, ofOpt, HM.run] at h
        exact valOK' (by simp only [Go.execOp, hop]) (extract_sound hR rfl hv (fun k hk' => hk k (by simpa [keysAV] using hk')) hxi h)
    · simp [HM.run] at h
  case slice ty x lo hi mx =>
    simp only [hop, VH.execOp] at h
    split at h
    · rename_i e _ _ _ _ hrow
      split at h
      · rename_i re hre
        obtain ⟨hg, h⟩ := guardB_run' h
        simp only [Bool.and_eq_true, Bool.or_eq_true] at hg
        obtain ⟨z1, z2, z3⟩ := zOK_inv hg.1
        refine valOK' (by simp only [Go.execOp, hop]) (slice_sound hR rfl (hE _ _ hrow).td (hE _ _ hre) (ev x) (ek x) z1 z2 z3 (opt lo) (opt hi) (opt mx) (fun hm => ?_) h)
        rcases hg.2 with hm' | hm'
        · cases mx with
          | none => exact absurd rfl hm
          | some m => simp at hm'
        · cases hi with
          | none => simp at hm'
          | some m => simp
      · simp [HM.run] at h
    · rename_i _ _ _ _ hrow
      split at h
      · rename_i s hx
        obtain ⟨hg, h⟩ := guardB_run' h
        have hv := ev x
        rw [hx] at hv
        generalize hu : a.eval x = u at hv
        cases hv
        cases mx with
        | none => exact valOK' (by simp only [Go.execOp, hop, hu]; rfl) (strSlice_sound hR rfl (hE _ _ hrow).td (opt lo) (opt hi) h)
        | some m => simp at hg
      · simp [HM.run] at h
    · simp [HM.run] at h
  case makeFunc fn first caps =>
    cases fn <;> simp only [hop, VH.execOp] at h <;> try (simp [HM.run] at h; done)
    rename_i g
    obtain ⟨hg, h⟩ := guardB_run' h
    have hf0 : first = #[] := by simpa using hg
    subst hf0
    refine pureOK (z := .func (.func g) #[] (caps.map a.eval)) (by simp [Go.execOp, hop, Instr.makeFunc]) (OP.pure hR rfl h (.fn g _ _ (by simp) fun i hi hi' => ?_) fun k hk => ?_)
    · simpa using ev _
    · simp only [keysAV] at hk
      obtain ⟨i, hi, hk⟩ := keysL_mem hk
      simp only [List.getElem_map] at hk
      exact ek _ k hk
  case call c =>
    obtain ⟨callee, args, argTypes⟩ := c
    cases callee with
    | invoke r m => simp [hop, VH.execOp, HM.run] at h
    | value f =>
      simp only [hop, VH.execOp] at h
      obtain ⟨g, caps, hu, hinv⟩ := call_sound hC (vs := args.toList.map a.eval) hX hR hU hfr (ev f) (by simp) (fun i hi hi' => by simpa using ev _) (ek f) (fun k hk => by
        obtain ⟨i, hi, hk⟩ := keysL_mem hk
        simp only [List.getElem_map] at hk
        exact ek _ k hk) h
      have he : Go.execOp a.eval o = callFunc g ((args.toList.map a.eval).toArray ++ caps) := by
        have e : (args.toList.map a.eval).toArray = args.map a.eval := by rw [← Array.toList_map]
        rw [e]
        simp [Go.execOp, hop, resolve, hu, Deferred.ofValue, invoke]
      unfold Oper.wp
      rw [he]
      rcases hinv with ⟨i1, i2⟩ | ⟨v, w', i1, i2⟩
      · rw [i1]
        simp only [Oper.upon]
        exact Calls.mono i2 fun e w' ⟨v, hv, hp⟩ => by subst hv; exact hn v w' hp
      · rw [i1]
        simp only [Oper.upon]
        exact hn v w' i2
    | builtin b =>
      simp only [hop, VH.execOp] at h
      have hb : ∃ consts, Go.execOp a.eval o = builtin b argTypes o.type consts (args.map a.eval) := by
        simp only [Go.execOp, hop, resolve, pure_bind, invoke]
        exact ⟨_, rfl⟩
      obtain ⟨consts, hb⟩ := hb
      have one : ∀ {x : AV}, args.toList.map (opnd T) = [x] → ∃ y, args = #[y] ∧ opnd T y = x := by
        intro x hx
        match hl : args.toList, hx with
        | [y], hx => exact ⟨y, Array.toList_inj.mp (by rw [hl]), by simpa using hx⟩
      have two : ∀ {x x' : AV}, args.toList.map (opnd T) = [x, x'] → ∃ y y', args = #[y, y'] ∧ opnd T y = x ∧ opnd T y' = x' := by
        intro x x' hx
        match hl : args.toList, hx with
        | [y, y'], hx => exact ⟨y, y', Array.toList_inj.mp (by rw [hl]), by simpa using hx⟩
      have fst : ∀ {ty : TypeId} {r : List TypeId}, argTypes.toList = ty :: r → argTypes[0]? = some ty := by
        intro ty r hr
        rw [← Array.getElem?_toList, hr]; rfl
      have bOK : ∀ {s : Sem Value}, builtin b argTypes o.type consts (args.map a.eval) = (do pure (.value (← s))) → (∃ z w', s.run P w = .ok z w' ∧ OP X U fr μ H w K r z w') → o.wp P a w next Q := fun he => valOK (hb.trans he)
      unfold builtinHM at h
      split at h
      · -- len
        rename_i ty _ x hts hxs
        obtain ⟨y, rfl, rfl⟩ := one hxs
        have hty := fst hts
        split at h
        · rename_i e _ _ _ _ hrow
          obtain ⟨n, hn', h⟩ := ofOpt_run h
          have hlv : lenAV (opnd T y) = some n := by
            rcases slLen_inv hn' with ⟨e, rfl⟩ | ⟨tg, z, cap, cs, e⟩ | ⟨k, p, z, off, cap, e⟩ <;> rw [e] <;> rfl
          obtain ⟨z, h1, h2⟩ := len_sound (P := P) (fr := fr) (U := U) (ty' := o.type) (td := .slice e) hR rfl hty (hE _ _ hrow).td trivial (ev y) hlv (by
            rintro ⟨s, hs⟩
            rw [hs] at hn'; simp [slLen] at hn') h
          exact bOK (s := Builtin.len_ argTypes o.type #[a.eval y]) (by simp [builtin]) ⟨z, w, h1, h2⟩
        · rename_i _ _ _ _ hrow
          split at h
          · rename_i s hs
            obtain ⟨z, h1, h2⟩ := len_sound (P := P) (fr := fr) (U := U) (ty' := o.type) (td := .string) hR rfl hty (hE _ _ hrow).td trivial (ev y) (n := s.size) (by rw [hs]; rfl) ⟨s, hs⟩ h
            exact bOK (s := Builtin.len_ argTypes o.type #[a.eval y]) (by simp [builtin]) ⟨z, w, h1, h2⟩
          · simp [HM.run] at h
        · simp [HM.run] at h
      · -- cap
        rename_i ty _ x hts hxs
        obtain ⟨y, rfl, rfl⟩ := one hxs
        have hty := fst hts
        split at h
        · rename_i e _ _ _ _ hrow
          obtain ⟨z, h1, h2⟩ := cap_sound (P := P) (fr := fr) (U := U) (ty' := o.type) hR rfl hty (hE _ _ hrow).td (ev y) h
          exact bOK (s := Builtin.cap_ argTypes o.type #[a.eval y]) (by simp [builtin]) ⟨z, w, h1, h2⟩
        · simp [HM.run] at h
      · -- min
        rename_i k n k' m hxs
        obtain ⟨y, y', rfl, e1, e2⟩ := two hxs
        have v1 := ev y
        have v2 := ev y'
        rw [e1] at v1
        rw [e2] at v2
        generalize hu : a.eval y = u at v1
        generalize hu' : a.eval y' = u' at v2
        cases v1; cases v2
        obtain ⟨z, h1, h2⟩ := (minmax_sound (P := P) (fr := fr) (U := U) (k' := k') (ts := argTypes) (ty := o.type) hR rfl).1 h
        exact bOK (s := Builtin.min_ argTypes o.type #[.int k n, .int k' m]) (by simp [builtin, hu, hu']) ⟨z, w, h1, h2⟩
      · -- max
        rename_i k n k' m hxs
        obtain ⟨y, y', rfl, e1, e2⟩ := two hxs
        have v1 := ev y
        have v2 := ev y'
        rw [e1] at v1
        rw [e2] at v2
        generalize hu : a.eval y = u at v1
        generalize hu' : a.eval y' = u' at v2
        cases v1; cases v2
        obtain ⟨z, h1, h2⟩ := (minmax_sound (P := P) (fr := fr) (U := U) (k' := k') (ts := argTypes) (ty := o.type) hR rfl).2 h
        exact bOK (s := Builtin.max_ argTypes o.type #[.int k n, .int k' m]) (by simp [builtin, hu, hu']) ⟨z, w, h1, h2⟩
      · -- append
        rename_i ty ut _ d s hts hxs
        obtain ⟨y, y', rfl, rfl, rfl⟩ := two hxs
        have hty := fst hts
        have hty1 : argTypes[1]? = some ut := by rw [← Array.getElem?_toList, hts]; rfl
        split at h
        · rename_i e _ _ _ _ hrow
          have hsl := (hE _ _ hrow).td
          have fin : ∀ {z : Value} {w' : World}, (Builtin.append_ argTypes o.type #[a.eval y, a.eval y']).run P w = .ok z w' → OP X U fr μ H w K r z w' → o.wp P a w next Q := fun h1 h2 => bOK (s := Builtin.append_ argTypes o.type #[a.eval y, a.eval y']) (by simp [builtin]) ⟨_, _, h1, h2⟩
          split at h
          · rename_i re k2 _ _ _ _ hre hut
            have hu := (hE _ _ hut).td
            split at h
            · rename_i k n hy'
              obtain ⟨hg, h9⟩ := guardB_run' h
              clear h
              simp only [Bool.and_eq_true, decide_eq_true_eq] at hg
              obtain ⟨⟨_, g2⟩, g3⟩ := hg
              obtain ⟨m, rfl⟩ := Int.eq_ofNat_of_zero_le g2
              simp only [Int.toNat_natCast] at h9
              have v2 := ev y'
              rw [hy'] at v2
              generalize hu' : a.eval y' = u' at v2
              cases v2
              obtain ⟨z, hz, hA⟩ := appRun_zeros (P := P) (w := w) (ty' := o.type) (k := k) hty hty1 hsl hu (hE _ _ hre) (m := m) (by omega)
              obtain ⟨z, w', h1, h2⟩ := append_sound hX hR (hE _ _ hre) (zeros_src hR (hE _ _ hre) hz m) hA rfl hffr hUfr (ev y) h9
              exact fin (by rw [hu']; exact h1) h2
            · simp [HM.run] at h
          · rename_i re e2 _ _ _ _ hre hut
            obtain ⟨d2, hd2, hni⟩ : ∃ d2, P.underlying ut = some d2 ∧ ∀ k, d2 ≠ .int k := ⟨_, (hE _ _ hut).td, fun k => by simp⟩
            obtain ⟨_, h9⟩ := guardB_run' h
            clear h
            obtain ⟨m, new, vals, H', t', F', Ts, h10, ht', hS⟩ := src_sound (P := P) hX hR (ev y') h9
            obtain ⟨z, w', h1, h2⟩ := append_sound hX hR (hE _ _ hre) hS.toSrc0 (appRun_src (ty' := o.type) hty hty1 hsl hd2 hni (hE _ _ hre) hS.src) ht' hffr hUfr (ev y) h10
            exact fin h1 h2
          · rename_i re _ _ _ _ hre hut
            obtain ⟨d2, hd2, hni⟩ : ∃ d2, P.underlying ut = some d2 ∧ ∀ k, d2 ≠ .int k := ⟨_, (hE _ _ hut).td, fun k => by simp⟩
            obtain ⟨_, h9⟩ := guardB_run' h
            clear h
            obtain ⟨m, new, vals, H', t', F', Ts, h10, ht', hS⟩ := src_sound (P := P) hX hR (ev y') h9
            obtain ⟨z, w', h1, h2⟩ := append_sound hX hR (hE _ _ hre) hS.toSrc0 (appRun_src (ty' := o.type) hty hty1 hsl hd2 hni (hE _ _ hre) hS.src) ht' hffr hUfr (ev y) h10
            exact fin h1 h2
          · simp [HM.run] at h
        · simp [HM.run] at h
      · simp [HM.run] at h
  case convert s d x =>
    simp only [hop, VH.execOp] at h
    split at h
    · rename_i rs rd hrs hrd
      exact valOK (by simp only [Go.execOp, hop]) (conv_sound hX hR rfl hE hrs hrd (ev x) hffr hUfr h)
    · simp [HM.run] at h
  case build ty ps =>
    simp only [hop, VH.execOp] at h
    split at h
    · rename_i fs _ _ zero _ hrow
      obtain ⟨hg, h⟩ := guardB_run' h
      simp only [Bool.and_eq_true] at hg
      obtain ⟨cs, hcs, h⟩ := ofOpt_run h
      simp only [HM.run] at h
      have hps : ∀ p ∈ (ps.toList.map fun (p : Nat × Operand) => (p.1, opnd T p.2)), ∃ y, p.2 = opnd T y ∧ solid (opnd T y) = true := by
        intro p hp
        obtain ⟨q, hq, rfl⟩ := List.mem_map.mp hp
        exact ⟨q.2, rfl, List.all_eq_true.mp hg.2 q hq⟩
      have hcs' : fillP (fieldsPlace E fs) (zero.map .val) ((ps.toList.map fun (p : Nat × Operand) => (p.1, opnd T p.2)).map fun (i, x) => (i, cellsOf x)) = some cs := by
        rw [List.map_map]; exact hcs
      refine valOK' (s := Instr.build ty (ps.map fun (i, x) => (i, a.eval x))) (by simp only [Go.execOp, hop]) ?_
      have := build_sound (U := U) (fr := fr) (row := ⟨.struct fs, _, _, zero, _⟩) (qs := ps.toList.map fun (p : Nat × Operand) => (p.1, a.eval p.2)) hE hR rfl hrow rfl (by simp) (fun i hi hi' => by simpa using ev _) (fun p hp k hk => by
        obtain ⟨y, e, _⟩ := hps p hp; rw [e] at hk; exact ek y k hk) (fun p hp v hv => by obtain ⟨y, e, hs⟩ := hps p hp; rw [e] at hv ⊢; exact solid_inv hs hv) hg.1 hcs' (fun k hk => by
        obtain ⟨i, hi, hk⟩ := keysL_mem hk
        rcases mem_fillP hcs' (List.getElem_mem hi) with h1 | ⟨p, hp, h1⟩
        · obtain ⟨v, _, e⟩ := List.mem_map.mp h1
          rw [← e] at hk; simp [keysAV] at hk
        · obtain ⟨q, hq, rfl⟩ := List.mem_map.mp hp
          obtain ⟨y, e, _⟩ := hps q hq
          have := keys_cellsOf h1 hk
          rw [e] at this
          exact ek y k this) h
      have e : (ps.toList.map fun (p : Nat × Operand) => (p.1, a.eval p.2)).toArray = ps.map fun (i, x) => (i, a.eval x) := by rw [← Array.toList_map]
      rw [e] at this
      exact this
    · simp [HM.run] at h
  case buildSlice ty n ps =>
    simp only [hop, VH.execOp] at h
    split at h
    · rename_i e _ _ _ _ hrow
      split at h
      · rename_i re hre
        obtain ⟨hg, h⟩ := guardB_run' h
        simp only [Bool.and_eq_true, decide_eq_true_eq] at hg
        obtain ⟨⟨⟨g1, g2⟩, g3⟩, g4⟩ := hg
        have hall : ∀ q ∈ ps.toList, solid (opnd T q.2) = true ∧ (cellsOf (opnd T q.2)).length = re.size := fun q hq => by
          have := List.all_eq_true.mp g4 q hq
          simpa using this
        refine valOK (s := Instr.buildSlice ty n (ps.map fun (i, x) => (i, a.eval x))) (by simp only [Go.execOp, hop]) ?_
        have := buildSlice_sound (U := U) (fr := fr) (ps := ps.toList.map fun (p : Nat × Operand) => (p.1, opnd T p.2)) (qs := ps.toList.map fun (p : Nat × Operand) => (p.1, a.eval p.2)) (n := n) hX hR rfl (hE _ _ hrow).td (hE _ _ hre) hffr hUfr (by simp) (fun i hi hi' => by
          simp only [List.getElem_map]
          exact cells_of_rv (ev _) (solid_inv (hall _ (List.getElem_mem (by simpa using hi))).1 (ev _))) g1 (by simpa using g2) (by simpa [List.map_map, Function.comp_def] using g3) (fun p hp => by
          obtain ⟨q, hq, rfl⟩ := List.mem_map.mp hp
          exact (hall q hq).2) (by simpa [List.flatMap_map] using h)
        have e : (ps.toList.map fun (p : Nat × Operand) => (p.1, a.eval p.2)).toArray = ps.map fun (i, x) => (i, a.eval x) := by rw [← Array.toList_map]
        rw [e] at this
        exact this
      · simp [HM.run] at h
    · simp [HM.run] at h
  case makeSlice ty l c =>
    simp only [hop, VH.execOp] at h
    have hl := ev l
    have hc := ev c
    split at h
    · rename_i e _ _ _ _ k n k' m hrow hxl hxc
      split at h
      · rename_i re hre
        obtain ⟨hg, h2⟩ := guardB_run' h
        clear h
        simp only [Bool.and_eq_true, decide_eq_true_eq] at hg
        obtain ⟨⟨g1, g2⟩, g3⟩ := hg
        subst g1
        rw [hxl] at hl
        rw [hxc] at hc
        generalize hu : a.eval l = u at hl
        generalize hu' : a.eval c = u' at hc
        cases hl; cases hc
        exact valOK (by simp only [Go.execOp, hop, hu, hu']) (makeSlice_sound (k := k) (k' := k') hX hR rfl (hE _ _ hrow).td (hE _ _ hre) hffr hUfr g2 g3 h2)
      · simp [HM.run] at h
    · simp [HM.run] at h
  all_goals (exfalso; simp [hop, VH.execOp, HM.run] at h)

end
end Go.Proofs.Ytlmifbpihlcabaa.VH
