/- Part of a proof about the given program: the verified evaluator and what it tells of the functions (VhOps3). Conditions: none beyond the hypotheses that each theorem states. -/
import Derived.Test.YtlmifbpihlcabaaVhOps2
namespace Go.Proofs.Ytlmifbpihlcabaa.VH

section
variable {R : Type} {X : Cx} {U : Nat → Prop} {fr : Nat} {μ : Nat → Option (Nat × Nat)} {F : Nat → Nat → Prop} {H : Heap} {w : World} {K : AV → Heap → Tr → Option R} {r : R} {t : Tr} {P : Program} {E : Env}

theorem fieldR_inv (hE : E.OK P) {ty : TypeId} {f off : Nat} {row : Row} (h : fieldR E ty f = some (off, row)) : ∃ fields fd, P.underlying ty = some (.struct fields) ∧ fields[f]? = some fd ∧ fd.offset = off ∧ RowOK P fd.type row := by
  unfold fieldR at h
  split at h
  · rename_i fs _ _ _ _ hrow
    split at h
    · rename_i o ft hf
      split at h
      · rename_i r' hr'
        injection h with h; injection h with h1 h2; subst h1; subst h2
        obtain ⟨fields, h1, h2⟩ := (hE _ _ hrow).td
        rw [← h2] at hf
        rw [List.getElem?_map] at hf
        cases hfd : fields.toList[f]? with
        | none => simp [hfd] at hf
        | some fd =>
          simp only [hfd, Option.map_some] at hf
          injection hf with hf; injection hf with e1 e2; subst e1; subst e2
          exact ⟨fields, fd, h1, by simpa using hfd, rfl, hE _ _ hr'⟩
      · exact absurd h (by simp)
    · exact absurd h (by simp)
  · exact absurd h (by simp)

theorem fieldAddr_sound (hR : Rel X μ F H w (fun _ => False)) (ht : t.kl = []) (hE : E.OK P) {ty : TypeId} {f off : Nat} {row : Row} (hf : fieldR E ty f = some (off, row)) (hsz : 0 < row.size) {a : AV} {u : Value} (ha : RV X μ H w a u) (hk : ∀ k, k ∈ keysAV a → U k)
    {b : AV} (hb : (∃ k p o, a = .ptr k p o ∧ b = .ptr k p (o + off)) ∨ (∃ tg cs o, a = .rp tg cs o ∧ b = .rp tg cs (o + off))) (h : K b H t = some r) : ∃ z, (Instr.fieldAt ty u f).run P w = .ok z w ∧ OP X U fr μ H w K r z w := by
  obtain ⟨fields, fd, h1, h2, h3, h4⟩ := fieldR_inv hE hf
  have conc : ∀ a0 : Addr, (Instr.fieldAt ty (.pointer (some a0)) f).run P w = .ok (.pointer (some (a0.add off))) w := by
    intro a0
    have : ¬ row.size = 0 := by omega
    simp [Instr.fieldAt, underlying, h1, h2, Instr.sureAddr, fieldPlace, sizeOf_run P w h4, this, h3]
  rcases hb with ⟨k, p, o, rfl, rfl⟩ | ⟨tg, cs, o, rfl, rfl⟩
  · cases ha with
    | ptr _ _ _ a0 haa =>
      refine ⟨_, conc a0, OP.pure hR ht h (.ptr k p _ _ fun cs b o' ds hkk hq => ?_) (fun k hk' => hk k hk')⟩
      rw [haa cs b o' ds hkk hq, add_spot, Nat.add_assoc]
  · cases ha with
    | rp _ _ _ b o1 arr vs htg hS hb hv hr =>
      refine ⟨_, conc _, OP.pure hR ht h ?_ (fun k hk' => by simp [keysAV] at hk')⟩
      rw [add_spot, Nat.add_assoc]
      exact .rp tg cs _ b o1 arr vs htg hS hb hv hr

theorem rv_agg_inv {xs : List AV} {u : Value} (h : RV X μ H w (.agg xs) u) : ∃ vs : Array Value, u = .agg vs ∧ vs.size = xs.length ∧ (∀ i (h : i < vs.size), leafV vs[i] = true) ∧ ∀ i (h : i < xs.length) (h' : i < vs.size), RV X μ H w xs[i] vs[i] := by
  cases h with
  | agg _ vs hl hf hh => exact ⟨vs, rfl, hl, hf, hh⟩

theorem part_sound (hR : Rel X μ F H w (fun _ => False)) (ht : t.kl = []) {ty : TypeId} {row : Row} (hrow : RowOK P ty row) {xs : List AV} {vs : Array Value} {off : Nat} (hl : vs.size = xs.length) (hf : ∀ i (h : i < vs.size), leafV vs[i] = true)
    (hx : ∀ i (h : i < xs.length) (h' : i < vs.size), RV X μ H w xs[i] vs[i]) (hk : ∀ k, k ∈ keysL xs → U k) (h : (partHM row xs off).run H t K = some r) : ∃ z, (part ty vs off).run P w = .ok z w ∧ OP X U fr μ H w K r z w := by
  unfold partHM at h
  obtain ⟨hz, h⟩ := guardB_run' h
  have hz := of_decide_eq_true hz
  obtain ⟨ys, hys, h⟩ := ofOpt_run h
  obtain ⟨hyl, _⟩ := getR_inv hys
  have hat : ∀ i (hi : i < ys.length), ∃ (h1 : off + i < xs.length), xs[off + i] = ys[i] := fun i hi => getR_at hys hi
  cases hag : row.td.agg with
  | true =>
    rw [hag] at h
    simp only [cond_true] at h
    · have hle : off + row.size ≤ xs.length := by
        obtain ⟨h1, _⟩ := hat (row.size - 1) (by omega)
        omega
      refine ⟨.agg (vs.extract off (off + row.size)), by simp [part, isAgg_run P w hrow.td, hag, sizeOf_run P w hrow], OP.pure hR ht h (.agg _ _ (by simp; omega) (fun i hi => ?_) fun i hi hi' => ?_) (fun k hk' => ?_)⟩
      · simp only [Array.getElem_extract]; exact hf _ _
      · obtain ⟨h1, h2⟩ := hat i hi
        simp only [Array.getElem_extract]
        rw [← h2]
        exact hx _ h1 _
      · obtain ⟨i, hi, hk'⟩ := keysL_mem hk'
        obtain ⟨h1, h2⟩ := hat i hi
        rw [← h2] at hk'
        exact hk k (mem_keysL h1 hk')
  | false =>
    rw [hag] at h
    have h1 := hrow.one hag
    rw [h1] at hyl
    obtain ⟨y, rfl⟩ := List.length_eq_one_iff.mp hyl
    simp only [cond_false] at h
    obtain ⟨h2, h3⟩ := hat 0 (by simp)
    simp only [Nat.add_zero, List.getElem_cons_zero] at h2 h3
    refine ⟨vs[off]'(by omega), ?_, OP.pure hR ht h (by rw [← h3]; exact hx _ h2 _) (fun k hk' => hk k (mem_keysL h2 (by rw [h3]; exact hk')))⟩
    have : vs[off]? = some (vs[off]'(by omega)) := Array.getElem?_eq_getElem _
    simp [part, isAgg_run P w hrow.td, hag, this]

theorem field_sound (hR : Rel X μ F H w (fun _ => False)) (ht : t.kl = []) (hE : E.OK P) {ty : TypeId} {f off : Nat} {row : Row} (hf : fieldR E ty f = some (off, row)) {xs : List AV} {u : Value} (ha : RV X μ H w (.agg xs) u) (hk : ∀ k, k ∈ keysL xs → U k)
    (h : (partHM row xs off).run H t K = some r) : ∃ z, (Instr.field ty u f).run P w = .ok z w ∧ OP X U fr μ H w K r z w := by
  obtain ⟨fields, fd, h1, h2, h3, h4⟩ := fieldR_inv hE hf
  obtain ⟨vs, rfl, hl, hf', hx⟩ := rv_agg_inv ha
  obtain ⟨z, hz, hO⟩ := part_sound (fr := fr) hR ht h4 hl hf' hx hk h
  refine ⟨z, ?_, hO⟩
  simp [Instr.field, underlying, h1, h2, asAgg, h3, hz]

theorem extract_sound (hR : Rel X μ F H w (fun _ => False)) (ht : t.kl = []) {xs : List AV} {u : Value} {i : Nat} {x : AV} (ha : RV X μ H w (.tup xs) u) (hk : ∀ k, k ∈ keysL xs → U k) (hi : xs[i]? = some x) (h : K x H t = some r) :
    ∃ z, (Instr.extract u i).run P w = .ok z w ∧ OP X U fr μ H w K r z w := by
  cases ha with
  | tup _ vs hl hh =>
    obtain ⟨h1, h2⟩ := List.getElem?_eq_some_iff.mp hi
    have : vs[i]? = some (vs[i]'(by omega)) := Array.getElem?_eq_getElem _
    refine ⟨vs[i]'(by omega), by simp [Instr.extract, this], OP.pure hR ht h (by rw [← h2]; exact hh _ h1 _) (fun k hk' => hk k (mem_keysL h1 (by rw [h2]; exact hk')))⟩

theorem len_sound (hR : Rel X μ F H w (fun _ => False)) (ht : t.kl = []) {ts : Array TypeId} {ty ty' : TypeId} {td : TD} (hts : ts[0]? = some ty) (htd : tdOK P ty td) (htd' : (match td with | .slice _ | .string => True | _ => False)) {x : AV} {u : Value} {n : Nat} (hx : RV X μ H w x u) (hl : lenAV x = some n)
    (htx : (match td with | .string => ∃ s, x = .val (.string s) | _ => ¬ ∃ s, x = .val (.string s))) (h : K (.val (.int .i64 n)) H t = some r) :
    ∃ z, (Builtin.len_ ts ty' #[u]).run P w = .ok z w ∧ OP X U fr μ H w K r z w := by
  refine ⟨.int .i64 n, ?_, OP.pure hR ht h (.val _) (fun k hk => by simp [keysAV] at hk)⟩
  cases td <;> simp only at htd' htx
  · obtain ⟨s, rfl⟩ := htx
    cases hx
    simp only [lenAV] at hl
    injection hl with hl; subst hl
    simp [Builtin.len_, hts, underlying, show P.underlying ty = _ from htd, goInt]
  · rename_i e
    have hsl : slLen x = some n := by
      unfold lenAV at hl
      unfold slLen
      split at hl
      · exact hl
      · rename_i s; exact absurd ⟨s, rfl⟩ htx
      · exact hl
      · exact hl
      · exact absurd hl (by simp)
    obtain ⟨A, c, rfl, _⟩ := slLen_hdr hsl hx
    simp [Builtin.len_, hts, underlying, show P.underlying ty = _ from htd, goInt]

/-- bounds of a cut -/
theorem bound_inv {d : Int} {x : Option AV} {i : Int} (h : bound d x = some i) : (x = none ∧ i = d) ∨ ∃ k, x = some (.val (.int k i)) := by
  unfold bound at h
  split at h
  · injection h with h; exact .inl ⟨rfl, h.symm⟩
  · injection h with h; subst h; exact .inr ⟨_, rfl⟩
  · exact absurd h (by simp)

theorem sliceBounds_run {b : Bool} {n c : Nat} {lo hi mx : Option AV} {lo' hi' mx' : Option Value} {l h m : Int} (hlo : Option.map (fun x => x) lo = lo) (h1 : bound 0 lo = some l) (h2 : bound n hi = some h) (h3 : bound n mx = some m)
    (e1 : (lo = none ∧ lo' = none) ∨ ∃ x v, lo = some x ∧ lo' = some v ∧ RV X μ H w x v) (e2 : (hi = none ∧ hi' = none) ∨ ∃ x v, hi = some x ∧ hi' = some v ∧ RV X μ H w x v) (e3 : (mx = none ∧ mx' = none) ∨ ∃ x v, mx = some x ∧ mx' = some v ∧ RV X μ H w x v)
    (g1 : 0 ≤ l) (g2 : l ≤ h) (g3 : h ≤ m) (g4 : m ≤ n) (hnc : n ≤ c) (hmh : mx ≠ none → hi ≠ none) : (Instr.sliceBounds b n c lo' hi' mx').run P w = .ok (l.toNat, h.toNat, if mx = none then c else m.toNat) w := by
  have val : ∀ {x : AV} {v : Value} {k : IntKind} {i : Int}, x = .val (.int k i) → RV X μ H w x v → v = .int k i := by
    intro x v k i e hv; subst e; cases hv; rfl
  unfold Instr.sliceBounds
  rcases e3 with ⟨rfl, rfl⟩ | ⟨x3, v3, rfl, rfl, r3⟩
  · rcases bound_inv h3 with ⟨_, rfl⟩ | ⟨k, hh⟩
    · rcases e2 with ⟨rfl, rfl⟩ | ⟨x2, v2, rfl, rfl, r2⟩
      · rcases bound_inv h2 with ⟨_, rfl⟩ | ⟨k, hh⟩
        · rcases e1 with ⟨rfl, rfl⟩ | ⟨x1, v1, rfl, rfl, r1⟩
          · rcases bound_inv h1 with ⟨_, rfl⟩ | ⟨k, hh⟩
            · simp
            · simp at hh
          · rcases bound_inv h1 with ⟨hh, _⟩ | ⟨k, hh⟩
            · simp at hh
            · injection hh with hh
              have := val hh r1; subst this
              simp [Instr.sliceBound, asIntOf, g1, g2]
        · simp at hh
      · rcases bound_inv h2 with ⟨hh, _⟩ | ⟨k, hh⟩
        · simp at hh
        · injection hh with hh
          have := val hh r2; subst this
          have hhc : 0 ≤ h ∧ h ≤ (c : Int) := ⟨by omega, by omega⟩
          rcases e1 with ⟨rfl, rfl⟩ | ⟨x1, v1, rfl, rfl, r1⟩
          · rcases bound_inv h1 with ⟨_, rfl⟩ | ⟨k, hh⟩
            · simp [Instr.sliceBound, asIntOf, hhc]
            · simp at hh
          · rcases bound_inv h1 with ⟨hh, _⟩ | ⟨k, hh⟩
            · simp at hh
            · injection hh with hh
              have := val hh r1; subst this
              have hlh : 0 ≤ l ∧ l ≤ (h.toNat : Int) := ⟨g1, by omega⟩
              simp only [Instr.sliceBound, asIntOf, Sem.run_bind, Sem.run_pure, Result.andThen_ok, Sem.run_ite, hhc, if_true, hlh, and_self]
    · simp at hh
  · rcases bound_inv h3 with ⟨hh, _⟩ | ⟨k, hh⟩
    · simp at hh
    · injection hh with hh
      have := val hh r3; subst this
      have hmc : 0 ≤ m ∧ m ≤ (c : Int) := ⟨by omega, by omega⟩
      rcases e2 with ⟨rfl, rfl⟩ | ⟨x2, v2, rfl, rfl, r2⟩
      · exact absurd rfl (hmh (by simp))
      · rcases bound_inv h2 with ⟨hh, _⟩ | ⟨k, hh⟩
        · simp at hh
        · injection hh with hh
          have := val hh r2; subst this
          have hhm : 0 ≤ h ∧ h ≤ (m.toNat : Int) := ⟨by omega, by omega⟩
          rcases e1 with ⟨rfl, rfl⟩ | ⟨x1, v1, rfl, rfl, r1⟩
          · rcases bound_inv h1 with ⟨_, rfl⟩ | ⟨k, hh⟩
            · simp only [Instr.sliceBound, asIntOf, Sem.run_bind, Sem.run_pure, Result.andThen_ok, Sem.run_ite, hmc, if_true, hhm, and_self]
              simp
            · simp at hh
          · rcases bound_inv h1 with ⟨hh, _⟩ | ⟨k, hh⟩
            · simp at hh
            · injection hh with hh
              have := val hh r1; subst this
              have hlh : 0 ≤ l ∧ l ≤ (h.toNat : Int) := ⟨g1, by omega⟩
              simp only [Instr.sliceBound, asIntOf, Sem.run_bind, Sem.run_pure, Result.andThen_ok, Sem.run_ite, hmc, if_true, hhm, and_self, hlh]
              simp

end
end Go.Proofs.Ytlmifbpihlcabaa.VH
