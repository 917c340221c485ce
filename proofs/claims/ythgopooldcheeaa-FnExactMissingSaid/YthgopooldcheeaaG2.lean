/- Part of a proof about the given program: a verified evaluator, and what it tells of the functions (VhCopy, VhIns, VhExec, VhLaw, VhLaw2). Conditions: none beyond the hypotheses that each theorem states. -/
import Derived.Test.YthgopooldcheeaaG1
import Derived.SizedLaws
import Derived.Carry
import Derived.ChangeShapes
import Derived.OpenShut
import Derived.ChangeOld
import Derived.ProofKit
import Derived.RowKit
set_option linter.unusedSimpArgs false
set_option linter.unusedVariables false
set_option linter.defProp false
section
namespace Go.Proofs.Ythgopooldcheeaa.VH

/- Copy and clear. -/

section
variable {R : Type} {X : Cx} {U : Nat → Prop} {fr : Nat} {μ : Nat → Option (Nat × Nat)} {F : Nat → Nat → Prop} {H : Heap} {w : World} {P : Program} {E : Env}

theorem copy_run {ts : Array TypeId} {ty ty' e : TypeId} {re : Row} (hts : ts[0]? = some ty) (hty : P.underlying ty = some (.slice e)) (hre : RowOK P e re) {m q : Nat} {u : Value} {vals : List Value} (hs : SrcOK P w re.size m u vals)
    {A : Option Addr} {n c : Nat} (hq : Nat.min m n = q) {w' : World} (hw : ∀ a, A = some a → (storeCells a (vals.take (q * re.size))).run P w = .ok () w') (hw' : A = none → w' = w) :
    (Builtin.copy_ ts ty' #[.slice A n c, u]).run P w = .ok (.int .i64 q) w' := by
  have hf2 := (hs w rfl).2.2 q (by rw [← hq]; exact Nat.min_le_left _ _)
  have hl2 := (hs w rfl).1
  cases A with
  | none =>
    have := hw' rfl; subst this
    simp [Builtin.copy_, hts, underlying, hty, sizeOf_run P w' hre, hl2, hq, hf2, goInt]
  | some a =>
    have := hw a rfl
    simp [Builtin.copy_, hts, underlying, hty, sizeOf_run P w hre, hl2, hq, hf2, goInt, this]

theorem copy_sound {K : AV → Heap → Tr → Option R} {r : R} {t' : Tr} {F' : Nat → Nat → Prop} {H' : Heap} (hX : X.WF) {ts : Array TypeId} {ty ty' e : TypeId} {re : Row} (hts : ts[0]? = some ty) (hty : P.underlying ty = some (.slice e)) (hre : RowOK P e re)
    {m : Nat} {u ud : Value} {new : List AV} {vals : List Value} {Ts : Nat → Nat → Prop} (S : Src P X μ F' H H' w re.size m u new vals Ts) (ht : t'.kl = [])
    {d : AV} (hx : RV X μ H w d ud) (h : (copyHM re d m new).run H' t' K = some r) :
    ∃ z w', (Builtin.copy_ ts ty' #[ud, u]).run P w = .ok z w' ∧ OP X U fr μ H w K r z w' := by
  have hR0 : Rel X μ F' H' w (fun _ => False) := S.rel.weak fun b hb => hb.elim
  have zero : ∀ A n c, ud = .slice A n c → m = 0 → K (.val (.int .i64 0)) H' t' = some r → ∃ z w', (Builtin.copy_ ts ty' #[ud, u]).run P w = .ok z w' ∧ OP X U fr μ H w K r z w' := by
    intro A n c hud hm hk
    subst hud; subst hm
    have hv : vals = [] := List.eq_nil_of_length_eq_zero (by rw [S.vlen, S.len]; simp)
    have hs := S.src
    rw [hv] at hs
    refine ⟨.int .i64 (0 : Nat), w, copy_run hts hty hre hs (Nat.zero_min _) (fun a _ => by simp [storeCells]) (fun _ => rfl), ?_⟩
    exact ⟨_, μ, F', H', t', hk, hR0, by rw [ht]; exact S.keep U, .val _, fun k hk => by simp [qf6] at hk, fun k hk _ => S.none k hk⟩
  unfold copyHM at h
  split at h
  · obtain ⟨hg, h8⟩ := guardB_run' h
    cases hx
    exact zero _ _ _ rfl (of_decide_eq_true hg) h8
  · obtain ⟨hg, h8⟩ := guardB_run' h
    cases hx with
    | sl _ _ _ _ _ _ htg hr =>
      cases hr with
      | nil => exact zero _ _ _ rfl (of_decide_eq_true hg) h8
      | sl => exact zero _ _ _ rfl (of_decide_eq_true hg) h8
  · rename_i k p z off n cap
    cases hm : decide (m = 0) with
    | true =>
      rw [hm] at h
      simp only [cond_true, HM.run] at h
      cases hx with
      | ref => exact zero _ _ _ rfl (of_decide_eq_true hm) h
    | false =>
      rw [hm] at h
      simp only [cond_false] at h
      obtain ⟨hg, h8⟩ := guardB_run' h
      clear h
      simp only [Bool.and_eq_true, beq_iff_eq, decide_eq_true_eq, Bool.not_eq_true'] at hg
      obtain ⟨⟨rfl, hpos⟩, hown⟩ := hg
      have hm0 : ¬ m = 0 := of_decide_eq_false hm
      have fin : ∀ (q : Nat), Nat.min m n = q → 0 < q → (HM.look k fun cs => match sub p cs with
          | some ds => guardB (decide (off + q * re.size ≤ ds.length)) (.put k (some (modp p (fun xs => setAt xs off (new.take (q * re.size))) cs)) (.ret (.val (.int .i64 q))))
          | none => .fail).run H' t' K = some r → ∃ z w', (Builtin.copy_ ts ty' #[ud, u]).run P w = .ok z w' ∧ OP X U fr μ H w K r z w' := by
        intro q hq hq0 h8
        have hqm : q ≤ m := by rw [← hq]; exact Nat.min_le_left _ _
        have hql : q * re.size ≤ m * re.size := Nat.mul_le_mul_right _ hqm
        have hnl := S.len
        have hvl := S.vlen
        have hre0 : 0 < re.size := by
          rcases Nat.eq_zero_or_pos re.size with h0 | h0
          · rw [h0] at hnl; omega
          · exact h0
        have hqp : 0 < q * re.size := Nat.mul_pos hq0 hre0
        have hlt : (new.take (q * re.size)).length = q * re.size := by rw [List.length_take]; omega
        simp only [HM.run] at h8
        cases hk : H' k with
        | none => simp [hk] at h8
        | some cs =>
        simp only [hk] at h8
        cases hs : sub p cs with
        | none => simp [hs, HM.run] at h8
        | some ds =>
        simp only [hs] at h8
        obtain ⟨hfit, h9⟩ := guardB_run' h8
        have hfit := of_decide_eq_true hfit
        simp only [HM.run] at h9
        obtain ⟨b, o, T, q1, q2, w', F2, s1, r1, r2⟩ := put_sound (P := P) (off := off) (vs := vals.take (q * re.size)) (ys := new.take (q * re.size)) (Ts := Ts) hX
          (S.rel.weak fun b hb => hb.imp id fun ⟨i, hi, hb⟩ => ⟨i, by omega, hb⟩) S.keep hk hs (by omega) (by rw [hlt]; exact hfit) (by rw [List.length_take, List.length_take, S.vlen])
          (fun i h1 h2 => by rw [List.getElem_take, List.getElem_take]; exact S.ow i (by omega) (by rw [List.length_take] at h2; omega)) (fun i j hi hj => S.dis i j (by omega) (by omega))
        have hx' := hx.keep0 S.keep
        cases hx' with
        | ref _ _ _ _ _ _ A c hn hc hAn hh =>
        have hok := hh cs _ ds hk q1
        have hqn : q ≤ n := by rw [← hq]; exact Nat.min_le_right _ _
        have hA : A = some ⟨b, o + off, none⟩ := by
          rcases hok with ⟨h0, _⟩ | ⟨h1, _, _⟩
          · omega
          · exact h1
        subst hA
        refine ⟨.int .i64 q, w', copy_run hts hty hre S.src hq (fun a ha => ?_) (fun h => by simp at h), ?_⟩
        · injection ha with ha; subst ha; exact s1
        · have hown' : (new.take (q * re.size)).any qb8 = false := List.any_eq_false.mpr fun x hx => List.any_eq_false.mp hown x (List.mem_of_mem_take hx)
          rw [hown'] at r2
          simp only [cond_false] at r2
          exact ⟨_, μ, F2, _, _, h9, r1, by simpa [ht] using r2 U, .val _, fun j hj => by simp [qf6] at hj, store_sound.keep_fresh' S.none hk⟩
      cases hmn : decide (m ≤ n) with
      | true =>
        rw [hmn] at h8
        simp only [cond_true] at h8
        have hmn := of_decide_eq_true hmn
        have e : new.take (m * re.size) = new := List.take_of_length_le (by rw [S.len]; exact Nat.le_refl _)
        refine fin m (Nat.min_eq_left hmn) (by omega) ?_
        rw [e, ← S.len]; exact h8
      | false =>
        rw [hmn] at h8
        simp only [cond_false] at h8
        have hmn := of_decide_eq_false hmn
        obtain ⟨hn0, h8⟩ := guardB_run' h8
        exact fin n (Nat.min_eq_right (by omega)) (of_decide_eq_true hn0) h8
  · simp [HM.run] at h

theorem clear_sound {K : AV → Heap → Tr → Option R} {r : R} {t : Tr} (hX : X.WF) (hR : Rel X μ F H w (fun _ => False)) (ht : t.kl = []) {ts : Array TypeId} {ty ty' e : TypeId} {re : Row} (hts : ts[0]? = some ty) (hty : P.underlying ty = some (.slice e)) (hre : RowOK P e re)
    {d : AV} {ud : Value} (hx : RV X μ H w d ud) (h : (clearHM re d).run H t K = some r) :
    ∃ z w', (Builtin.clear_ ts ty' #[ud]).run P w = .ok z w' ∧ OP X U fr μ H w K r z w' := by
  have done : ∀ A c, ud = .slice A 0 c → K (.tup []) H t = some r → ∃ z w', (Builtin.clear_ ts ty' #[ud]).run P w = .ok z w' ∧ OP X U fr μ H w K r z w' := by
    intro A c hud hk
    subst hud
    refine ⟨.tuple #[], w, ?_, OP.pure hR ht hk (.tup [] #[] rfl fun i h => by simp at h) (fun k hk => by simp [qf6, qf5] at hk)⟩
    cases A <;> simp [Builtin.clear_, hts, underlying, hty]
  unfold clearHM at h
  split at h
  · cases hx
    exact done _ _ rfl h
  · obtain ⟨hg, h8⟩ := guardB_run' h
    have hg := of_decide_eq_true hg
    cases hx with
    | sl _ _ _ _ _ _ htg hr =>
      cases hr with
      | nil => exact done _ _ rfl h8
      | sl => subst hg; exact done _ _ rfl h8
  · rename_i k p z off n cap
    cases hm : decide (n = 0) with
    | true =>
      rw [hm] at h
      simp only [cond_true, HM.run] at h
      have hn0 := of_decide_eq_true hm
      subst hn0
      cases hx with
      | ref => exact done _ _ rfl h
    | false =>
      rw [hm] at h
      simp only [cond_false] at h
      have hn0 : ¬ n = 0 := of_decide_eq_false hm
      obtain ⟨hg, h8⟩ := guardB_run' h
      clear h
      simp only [Bool.and_eq_true, beq_iff_eq, decide_eq_true_eq] at hg
      obtain ⟨rfl, hsz⟩ := hg
      simp only [HM.run] at h8
      cases hk : H k with
      | none => simp [hk] at h8
      | some cs =>
      simp only [hk] at h8
      cases hs : sub p cs with
      | none => simp [hs, HM.run] at h8
      | some ds =>
      simp only [hs] at h8
      obtain ⟨hfit, h9⟩ := guardB_run' h8
      have hfit := of_decide_eq_true hfit
      simp only [HM.run] at h9
      obtain ⟨i, z, i1, i2, i3, i4, i5⟩ := hre.info
      have S := zeros_src hR hre i5 n
      have hzl : (zeros re n).length = n * re.size := S.len
      have hpos : 0 < (zeros re n).length := by rw [hzl]; exact Nat.mul_pos (by omega) hsz
      have hown : (zeros re n).any qb8 = false := by
        refine List.any_eq_false.mpr fun x hx => ?_
        simp only [zeros, List.mem_flatten, List.mem_replicate] at hx
        obtain ⟨l, ⟨_, rfl⟩, hx⟩ := hx
        obtain ⟨v, _, rfl⟩ := List.mem_map.mp hx
        simp [qb8]
      obtain ⟨b, o, T, q1, q2, w', F2, s1, r1, r2⟩ := put_sound (P := P) (off := off) (vs := (Builtin.zeroCells z.cells n).toList) hX S.rel S.keep hk hs hpos (by rw [hzl]; exact hfit) S.vlen.symm S.ow S.dis
      cases hx with
      | ref _ _ _ _ _ _ A c hn hc hAn hh =>
      have hok := hh cs _ ds hk q1
      have hA : A = some ⟨b, o + off, none⟩ := by
        rcases hok with ⟨h0, _⟩ | ⟨h1, _, _⟩
        · omega
        · exact h1
      subst hA
      refine ⟨.tuple #[], w', ?_, ?_⟩
      · have hz : (zeroValue e).run P w = .ok z w := by simp [zeroValue, typeInfo, i1, i4]
        obtain ⟨n', rfl⟩ : ∃ n', n = n' + 1 := ⟨n - 1, by omega⟩
        simp [Builtin.clear_, hts, underlying, hty, hz, s1]
      · rw [hown] at r2
        simp only [cond_false] at r2
        exact ⟨.tup [], μ, F2, _, _, h9, r1, by simpa [ht] using r2 U, .tup [] #[] rfl (fun i h => by simp at h), fun j hj => by simp [qf6, qf5] at hj, store_sound.keep_fresh' (fun _ h => h) hk⟩
  · simp [HM.run] at h

end
end Go.Proofs.Ythgopooldcheeaa.VH
end

section
namespace Go.Proofs.Ythgopooldcheeaa.VH

/- A value that is put among those of a row. -/

theorem guardP_run {α R : Type} {p : Prop} {m : HM α} {H : Heap} {t : Tr} {K : α → Heap → Tr → Option R} {r : R} (h : (guardP p m).run H t K = some r) : p ∧ m.run H t K = some r := by
  unfold guardP at h
  split at h
  · rename_i hp; exact ⟨hp, h⟩
  · simp [HM.run] at h

theorem ins3 {α : Type} (A B D R : List α) {a z : Nat} (ha : A.length = a) (hb : B.length = z) (j : Nat) : (A ++ B ++ D ++ R)[j]? = if j < a then A[j]? else if j < a + z then B[j - a]? else (D ++ R)[j - a - z]? := by
  rw [List.append_assoc, List.append_assoc, List.getElem?_append, ha]
  split
  · rfl
  · rw [List.getElem?_append, hb]
    by_cases h : j - a < z
    · rw [if_pos h, if_pos (by omega)]
    · rw [if_neg h, if_neg (by omega)]

section
variable {R : Type} {X : Cx} {U : Nat → Prop} {fr : Nat} {μ : Nat → Option (Nat × Nat)} {F : Nat → Nat → Prop} {H : Heap} {w : World} {P : Program} {E : Env}

theorem newroot_ins {w' : World} {G D : Nat → Prop} {m : Option (Nat × Nat)} {ys : List AV} {T : Nat → Prop}
    (hX : X.WF) (hR : Rel X μ F H w (fun b => G b ∨ D b)) (hf : H fr = none) (hos : w'.os = w.os) (htape : w'.tape = w.tape) (hout : w'.output = w.output) (hsize : w.heap.size ≤ w'.heap.size)
    (hsame : ∀ b, b < w.heap.size → ¬ D b → w'.heap[b]? = w.heap[b]?) (hum : ∀ b, b < w.heap.size → Unm w b → Unm w' b) (hat : At X w' m ys T)
    (hT : ∀ x, T x → D x ∧ ¬ G x ∨ (w.heap.size ≤ x ∧ x < w'.heap.size)) :
    Rel X (updM μ fr m) (updF F fr T) (upd H fr (some ys)) w' G ∧ ∀ U, (∀ k, U k → k ≠ fr) → Keep U [] μ H w (updM μ fr m) (upd H fr (some ys)) w' := by
  constructor
  · refine ⟨hos.trans hR.os, htape.trans hR.tape, hout.trans hR.output, Nat.le_trans hR.size hsize, fun b hb => ?_, fun k cs hk => ?_, fun k k' cs cs' hne hk hk' b hb hb' => ?_, fun k cs b hk hb => ?_, fun b hb => ?_⟩
    · rw [hsame b (Nat.lt_of_lt_of_le (hX.fo b hb) hR.size) fun he => (hR.gout b (.inr he)).1 hb]; exact hR.frame b hb
    · by_cases hkf : k = fr
      · subst hkf
        simp only [upd, updM, updF, if_true] at hk ⊢
        injection hk with hk; subst hk
        cases m with
        | none => exact hat
        | some u => exact hat
      · simp only [upd, updM, updF, hkf, if_false] at hk ⊢
        have hroot := hR.root k cs hk
        cases hm : μ k with
        | none => rw [hm] at hroot; exact hroot
        | some u =>
          obtain ⟨b, o⟩ := u
          rw [hm] at hroot
          exact Cells.agree hroot fun x hx => hsame x (hR.out k cs x hk hx).2.1 fun he => (hR.out k cs x hk hx).2.2 (.inr he)
    · by_cases hkf : k = fr
      · have hk'f : k' ≠ fr := fun e => hne (hkf.trans e.symm)
        subst hkf
        simp only [upd, updF, if_true, hk'f, if_false] at hk' hb hb'
        obtain ⟨_, a2, a3⟩ := hR.out k' cs' b hk' hb'
        rcases hT b hb with h | h
        · exact a3 (.inr h.1)
        · omega
      · by_cases hk'f : k' = fr
        · subst hk'f
          simp only [upd, updF, if_true, hkf, if_false] at hk hb hb'
          obtain ⟨_, a2, a3⟩ := hR.out k cs b hk hb
          rcases hT b hb' with h | h
          · exact a3 (.inr h.1)
          · omega
        · simp only [upd, updF, hkf, hk'f, if_false] at hk hk' hb hb'
          exact hR.sep k k' cs cs' hne hk hk' b hb hb'
    · by_cases hkf : k = fr
      · subst hkf
        simp only [updF, if_true] at hb
        rcases hT b hb with h | h
        · obtain ⟨a1, a2⟩ := hR.gout b (.inr h.1)
          exact ⟨a1, Nat.lt_of_lt_of_le a2 hsize, h.2⟩
        · refine ⟨fun hfo => ?_, h.2, fun hg => ?_⟩
          · have := hX.fo b hfo; have := hR.size; omega
          · have := (hR.gout b (.inl hg)).2; omega
      · simp only [upd, updF, hkf, if_false] at hk hb
        obtain ⟨a1, a2, a3⟩ := hR.out k cs b hk hb
        exact ⟨a1, Nat.lt_of_lt_of_le a2 hsize, fun hg => a3 (.inl hg)⟩
    · obtain ⟨a1, a2⟩ := hR.gout b (.inl hb)
      exact ⟨a1, Nat.lt_of_lt_of_le a2 hsize⟩
  · intro U hU
    refine ⟨fun k p cs' r ds hu _ hk hq => ?_, hum, hsize⟩
    have hkf := hU k hu
    simp only [upd, updM, hkf, if_false] at hk hq
    have hq' := LocQ.other hR hk (fun x hx => hsame x (hR.out k cs' x hk hx).2.1 fun he => (hR.out k cs' x hk hx).2.2 (.inr he)) hq
    refine ⟨cs', ds, hk, hq', rfl, fun b o hr arr' ha => ?_⟩
    subst hr
    obtain ⟨f1, f2⟩ := LocQ.mem hR hk hq'
    exact ⟨arr', ha.back (hsame b f2 fun he => (hR.out k cs' b hk f1).2.2 (.inr he)), rfl⟩

theorem ins_sound {C : Oracle} {t0 : Tr} (ht0 : t0.kl = []) (hC : OrcOK P C) {K : AV → Heap → Tr → Option R} {r : R} (hX : X.WF) (hR : Rel X μ F H w (fun _ => False)) (hU : ∀ k, U k → ¬ (fr ≤ k ∧ k < fr + 8)) (hfr : ∀ k, fr ≤ k ∧ k < fr + 8 → H k = none)
    {g z k n kv : Nat} {i : Int} {cap capv : Option Nat} {u0 u2 : Value} (hx0 : RV X μ H w (.ref k [] z 0 n cap) u0) (hx2 : RV X μ H w (.ref kv [] z 0 1 capv) u2)
    (h : (insHM C g z k n i kv fr).run H t0 K = some r) : Inv P g #[u0, .int .i64 i, u2] w (fun v w' => OP X U fr μ H w K r v w') := by
  unfold insHM at h
  simp only [HM.run] at h
  cases hkv : H kv with
  | none => simp [hkv] at h
  | some es =>
  simp only [hkv] at h
  obtain ⟨hg, h⟩ := guardB_run' h
  simp only [Bool.and_eq_true, Bool.not_eq_true', beq_eq_false_iff_ne, decide_eq_true_eq] at hg
  obtain ⟨⟨⟨hne, hpl⟩, hel⟩, hz2⟩ := hg
  obtain ⟨cs, ds, H', t', F', T, res, h, ht, hk, hs, hq, hat, hR', hTG, hK, hN, hoth⟩ := takeOut_sound hR h
  have hds : cs = ds := by simpa [sub] using hs
  subst hds
  obtain ⟨hg, h⟩ := guardB_run' h
  simp only [Bool.and_eq_true, decide_eq_true_eq] at hg
  obtain ⟨⟨hdl, hi0⟩, hin⟩ := hg
  obtain ⟨hins, h⟩ := guardP_run h
  simp only [HM.run] at h
  obtain ⟨i, rfl⟩ : ∃ m : Nat, i = (m : Int) := ⟨i.toNat, by omega⟩
  simp only [Int.toNat_natCast] at h hins
  have hin : i ≤ n := by omega
  cases hx0 with
  | ref _ _ _ _ _ _ A c hn hc hA hh =>
  cases hx2 with
  | ref _ _ _ _ _ _ A3 c3 hn3 hc3 hA3 hh3 =>
  have hok := hh cs res cs hk hq
  have hok3 := hh3 es (μ kv) es hkv ⟨rfl, rfl⟩
  have hroot3 := hR.root kv es hkv
  cases hm3 : μ kv with
  | none =>
    rw [hm3] at hok3
    have : c3 = 0 := hok3
    omega
  | some u3 =>
  obtain ⟨b3, o3⟩ := u3
  rw [hm3] at hok3 hroot3
  rcases hok3 with ⟨h30, _⟩ | ⟨hA3', _, hsz3⟩
  · omega
  subst hA3'
  obtain ⟨arr3, vs3, Ts3, e1, e2, e3, e4, e5, e6, e7, e8⟩ := hroot3
  obtain ⟨f31, f32, _⟩ := hR.out kv es b3 hkv e2
  have hTlt : ∀ x, T x → ¬ X.Fo x ∧ x < w.heap.size := fun x hx => hR'.gout x (.inr hx)
  have hT3 : ¬ T b3 := by
    intro hb
    have hkv' : H' kv = some es := by rw [(hoth kv hne).1]; exact hkv
    have := (hR'.out kv es b3 hkv' (by rw [(hoth kv hne).2]; exact e2)).2.2
    exact this (.inr hb)
  have key : ∃ (bad : Nat → Prop) (m : Option (Nat × Nat)) (vals : List Value) (Ts : Nat → Nat → Prop), vals.length = c * z ∧ (∀ v, v ∈ vals → qc4 v = true) ∧ (∀ x, bad x → T x) ∧
      At ⟨w, fun x => x < w.heap.size ∧ ¬ bad x, X.Fg⟩ w m (vals.map .val) bad ∧ RefOK w m 0 z c (some c) A (c * z) ∧
      (∀ j (hj : j < cs.length) (hj' : j < vals.length), OW X w cs[j] vals[j] (Ts j)) ∧ (∀ j, j < cs.length → ∀ x, Ts j x → T x ∧ ¬ bad x) ∧ (∀ i j, i < cs.length → j < cs.length → i ≠ j → ∀ x, Ts i x → ¬ Ts j x) := by
    have zero : c = 0 → ∃ (bad : Nat → Prop) (m : Option (Nat × Nat)) (vals : List Value) (Ts : Nat → Nat → Prop), vals.length = c * z ∧ (∀ v, v ∈ vals → qc4 v = true) ∧ (∀ x, bad x → T x) ∧
        At ⟨w, fun x => x < w.heap.size ∧ ¬ bad x, X.Fg⟩ w m (vals.map .val) bad ∧ RefOK w m 0 z c (some c) A (c * z) ∧
        (∀ j (hj : j < cs.length) (hj' : j < vals.length), OW X w cs[j] vals[j] (Ts j)) ∧ (∀ j, j < cs.length → ∀ x, Ts j x → T x ∧ ¬ bad x) ∧ (∀ i j, i < cs.length → j < cs.length → i ≠ j → ∀ x, Ts i x → ¬ Ts j x) := by
      intro hc0
      have hn0 : n = 0 := by omega
      have hcl : cs.length = 0 := by rw [hdl, hn0]; simp
      exact ⟨fun _ => False, none, [], fun _ _ => False, by rw [hc0]; simp, fun v hv => by simp at hv, fun _ hx => hx.elim, rfl, hc0, fun j hj => by omega, fun j hj => by omega, fun i j hi => by omega⟩
    cases res with
    | none => exact zero hok
    | some bo =>
    obtain ⟨b, o⟩ := bo
    rcases hok with ⟨h0, _⟩ | ⟨hA1, hA2, hA3⟩
    · exact zero h0
    subst hA1
    obtain ⟨arr, vs, Ts, c1, c2, c3', c4, c5, c6, c7, c8⟩ := hat
    have hsz := (hA3 arr c1.rblk).1
    have hnz : n * z ≤ c * z := Nat.mul_le_mul_right _ hn
    have hget : ∀ j (hj : j < c * z), o + j < arr.size := fun j hj => by omega
    obtain ⟨e, fz, hb1, hb2, hb3⟩ := c1
    refine ⟨fun x => x = b, some (b, o), (List.range (c * z)).map (fun j => (arr[o + j]?).getD undef), Ts, by simp, ?_, fun x hx => by rw [hx]; exact c2, ?_, .inr ⟨rfl, fun e => by simp at e, fun arr' ha => hA3 arr' ha⟩, ?_, ?_, c8⟩
    · intro v hv
      obtain ⟨j, hj, rfl⟩ := List.mem_map.mp hv
      rw [List.mem_range] at hj
      rw [Array.getElem?_eq_getElem (hget j hj)]
      exact hb3 _ _
    · refine ⟨arr, fun j => (arr[o + j]?).getD undef, fun _ _ => False, ⟨e, fz, hb1, hb2, hb3⟩, rfl, by simp; omega, fun j hj => ?_, fun j hj => ?_, fun _ _ _ h => h.elim, fun _ _ h => h, fun _ _ _ _ _ _ h => h.elim⟩
      · have hj : j < c * z := by simpa using hj
        show arr[o + j]? = some ((arr[o + j]?).getD undef)
        rw [Array.getElem?_eq_getElem (hget j hj)]; rfl
      · have hj' : j < c * z := by simpa using hj
        simp only [List.getElem_map, List.getElem_range]
        refine .val _ _ ?_
        rw [Array.getElem?_eq_getElem (hget j hj')]
        exact hb3 _ _
    · intro j hj hj'
      simp only [List.getElem_map, List.getElem_range]
      have := c4 j hj
      rw [this]
      exact c5 j hj
    · intro j hj x hx
      exact ⟨c6 j hj x hx, fun hxb => c7 j hj (by rw [← hxb]; exact hx)⟩
  obtain ⟨bad, m, vals, Ts, k1, k2, k3, k4, k5, k6, k7, k8⟩ := key
  let X' : Cx := ⟨w, fun x => x < w.heap.size ∧ ¬ bad x, X.Fg⟩
  have hX' : X'.WF := ⟨fun b hb => hb.1, fun b hb => ⟨Nat.lt_of_lt_of_le (hX.fo b (hX.fg b hb)) hR.size, fun e => (hTlt b (k3 b e)).1 (hX.fg b hb)⟩⟩
  have hargs : Args X' (fun _ => m) (fun _ => bad) [vals.map .val] w [.ref 0 [] z 0 n (some c), .val (.int .i64 (i : Int)), .sl .snap z 1 none es] #[.slice A n c, .int .i64 (i : Int), .slice (some ⟨b3, o3 + 0, none⟩) 1 c3] := by
    refine ⟨⟨rfl, rfl, rfl, Nat.le_refl _, fun _ _ => rfl, fun j cs' hj => ?_, fun j j' cs1 cs2 hjj hj hj' b hb hb' => ?_, fun j cs' b hj hb => ?_, fun _ h => h.elim⟩, rfl, fun j hj hj' => ?_, fun j hj => ?_⟩
    · cases j with
      | zero =>
        simp only [List.map_cons, List.map_nil, hp_cons_zero] at hj
        injection hj with hj; subst hj
        cases m with
        | none => exact k4
        | some u => exact k4
      | succ j => simp [hp] at hj
    · cases j with
      | zero => cases j' with
        | zero => exact absurd rfl hjj
        | succ j' => simp [hp] at hj'
      | succ j => simp [hp] at hj
    · exact ⟨fun h => h.2 hb, (hTlt b (k3 b hb)).2, fun h => h⟩
    · match j, hj with
      | 0, _ =>
        refine .ref 0 [] z 0 n (some c) A c hn (fun q hq => by injection hq) hA fun cs' r ds0 hk0 hq0 => ?_
        simp only [List.map_cons, List.map_nil, hp_cons_zero] at hk0
        injection hk0 with hk0; subst hk0
        obtain ⟨q1, q2⟩ := hq0
        subst q1; subst q2
        rw [List.length_map, k1]; exact k5
      | 1, _ => exact .val _
      | 2, _ =>
        refine .sl .snap z 1 none es _ (by simp) (.sl .snap z 1 none es b3 (o3 + 0) c3 arr3 vs3 ⟨f32, fun hb => hT3 (k3 b3 hb)⟩ e1.rblk hn3 (fun q hq => by simp at hq) (by rw [hel]; simp) (fun j hj => by rw [Nat.add_zero]; exact e4 j hj) fun j hj => ?_)
        obtain ⟨v, hv, hl⟩ := plainRow_val hpl j hj
        have := e5 j hj
        rw [hv] at this ⊢
        generalize vs3 j = vj at this
        cases this
        exact .val _ hl
    · simp [qf5, qf6] at hj
      subst hj; simp
  obtain ⟨kk, cap', rows, rest, heq, hrow⟩ := hins c vals hn k1 k2
  have hrow' : hp rows kk = some ((vals.take (i * z)).map .val ++ es ++ ((vals.take (n * z)).drop (i * z)).map .val ++ rest) := by simp only [hp, hrow, Option.join_some]
  generalize hRR : (vals.take (i * z)).map AV.val ++ es ++ ((vals.take (n * z)).drop (i * z)).map AV.val ++ rest = RR at hrow'
  have hinv := hC g _ [vals.map .val] _ _ heq X' _ _ w _ hX' hargs
  have haz : i * z ≤ n * z := Nat.mul_le_mul_right _ hin
  have hncz : n * z ≤ c * z := Nat.mul_le_mul_right _ hn
  have hsz1 : (n + 1) * z = n * z + z := Nat.succ_mul n z
  have hlA : ((vals.take (i * z)).map AV.val).length = i * z := by rw [List.length_map, List.length_take]; omega
  have hlD : (((vals.take (n * z)).drop (i * z)).map AV.val).length = n * z - i * z := by rw [List.length_map, List.length_drop, List.length_take]; omega
  have hlen : (cs.take (i * z) ++ es ++ cs.drop (i * z)).length = (n + 1) * z := by simp only [List.length_append, List.length_take, List.length_drop]; omega
  have main : ∀ v1 w1, Ret X' (fun _ => m) [vals.map .val] w (.ref kk [] z 0 (n + 1) cap') rows v1 w1 → OP X U fr μ H w K r v1 w1 := by
    rintro v1 w1 ⟨μ2, F2, ks, hR2, hx2, hns, hnsO, hkx, hge, hkeep⟩
    cases hx2 with
    | ref _ _ _ _ _ _ A2 c2 hn2 hc2 hA2 hh2 =>
    have hok2 := hh2 RR (μ2 kk) RR hrow' ⟨rfl, rfl⟩
    have hroot2 := hR2.root kk RR hrow'
    cases hm2 : μ2 kk with
    | none =>
      rw [hm2] at hok2
      have : c2 = 0 := hok2
      omega
    | some u2 =>
    obtain ⟨b2, o2⟩ := u2
    rw [hm2] at hok2 hroot2
    rcases hok2 with ⟨h20, _⟩ | ⟨hA2', _, hsz2⟩
    · omega
    obtain ⟨arr2, vs2, Ts2, c1, c2', c3', c4, c5, c6, c7, c8⟩ := hroot2
    obtain ⟨g1, g2, _⟩ := hR2.out kk RR b2 hrow' c2'
    have hb2 : bad b2 ∨ w.heap.size ≤ b2 := by
      by_cases hb : bad b2
      · exact .inl hb
      · right
        refine Nat.le_of_not_lt fun hlt => g1 ⟨hlt, hb⟩
    have hsame : ∀ b, b < w.heap.size → ¬ bad b → w1.heap[b]? = w.heap[b]? := fun b hb hne => hR2.frame b ⟨hb, hne⟩
    have hRl : RR.length = i * z + z + (n * z - i * z) + rest.length := by
      rw [← hRR]; simp only [List.length_append, hlA, hlD, hel]
    have hR3 : ∀ j, RR[j]? = if j < i * z then ((vals.take (i * z)).map AV.val)[j]? else if j < i * z + z then es[j - i * z]? else (((vals.take (n * z)).drop (i * z)).map AV.val ++ rest)[j - i * z - z]? := fun j => by rw [← hRR]; exact ins3 _ _ _ _ hlA hel j
    have hfirst : ∀ j (hj : j < i * z), vs2 j = vals[j]'(by omega) := by
      intro j hj
      have hjR : j < RR.length := by omega
      have := hR3 j
      rw [if_pos hj, List.getElem?_eq_getElem hjR, List.getElem?_map, List.getElem?_take_of_lt hj, List.getElem?_eq_getElem (by omega)] at this
      have h5 := c5 j hjR
      rw [Option.some.inj this] at h5
      generalize vs2 j = vj at h5
      cases h5; rfl
    have hmid : ∀ j (hj : j < z), ∃ u, es[j]'(by omega) = .val u ∧ qc4 u = true ∧ vs2 (i * z + j) = u := by
      intro j hj
      obtain ⟨u, hu, hl⟩ := plainRow_val hpl j (by omega)
      have hjR : i * z + j < RR.length := by omega
      have := hR3 (i * z + j)
      rw [if_neg (by omega), if_pos (by omega), List.getElem?_eq_getElem hjR, show i * z + j - i * z = j by omega, List.getElem?_eq_getElem (by omega), hu] at this
      have h5 := c5 (i * z + j) hjR
      rw [Option.some.inj this] at h5
      refine ⟨u, hu, hl, ?_⟩
      generalize vs2 (i * z + j) = vj at h5
      cases h5; rfl
    have hlast : ∀ j (hj : j < n * z) (hj' : i * z ≤ j), vs2 (j + z) = vals[j]'(by omega) := by
      intro j hj hj'
      have hjR : j + z < RR.length := by omega
      have := hR3 (j + z)
      rw [if_neg (by omega), if_neg (by omega), List.getElem?_eq_getElem hjR, show j + z - i * z - z = j - i * z by omega, List.getElem?_append_left (by omega), List.getElem?_map, List.getElem?_drop, show i * z + (j - i * z) = j by omega, List.getElem?_take_of_lt hj, List.getElem?_eq_getElem (by omega)] at this
      have h5 := c5 (j + z) hjR
      rw [Option.some.inj this] at h5
      generalize vs2 (j + z) = vj at h5
      cases h5; rfl
    have hag : ∀ j, j < cs.length → ∀ x, Ts j x → w1.heap[x]? = w.heap[x]? := fun j hj x hx => hsame x (hTlt x (k7 j hj x hx).1).2 (k7 j hj x hx).2
    let new := cs.take (i * z) ++ es ++ cs.drop (i * z)
    let Tn : Nat → Nat → Prop := fun j => if j < i * z then Ts j else if j < i * z + z then (fun _ => False) else Ts (j - z)
    have hTn : ∀ j, j < (n + 1) * z → ∀ x, Tn j x → (j < i * z ∧ Ts j x) ∨ (i * z + z ≤ j ∧ Ts (j - z) x) := by
      intro j hj x hx
      simp only [Tn] at hx
      by_cases h1 : j < i * z
      · rw [if_pos h1] at hx; exact .inl ⟨h1, hx⟩
      · rw [if_neg h1] at hx
        by_cases h2 : j < i * z + z
        · rw [if_pos h2] at hx; exact hx.elim
        · rw [if_neg h2] at hx; exact .inr ⟨by omega, hx⟩
    have hsub : ∀ j, j < (n + 1) * z → ∀ x, Tn j x → T x ∧ ¬ bad x := by
      intro j hj x hx
      rcases hTn j hj x hx with ⟨h1, h2⟩ | ⟨h1, h2⟩
      · exact k7 j (by omega) x h2
      · exact k7 (j - z) (by omega) x h2
    have hcells : Cells X w1 b2 o2 new (fun x => x = b2 ∨ (T x ∧ ¬ bad x)) := by
      refine ⟨arr2, vs2, Tn, c1, .inl rfl, ?_, fun j hj => c4 j ?_, fun j hj => ?_, fun j hj x hx => .inr (hsub j ?_ x hx), fun j hj hx => ?_, fun j j' hj hj' hne x hx hx' => ?_⟩
      · show o2 + (cs.take (i * z) ++ es ++ cs.drop (i * z)).length ≤ arr2.size
        omega
      · have : j < (n + 1) * z := by rw [← hlen]; exact hj
        omega
      · have hj : j < (n + 1) * z := by rw [← hlen]; exact hj
        have hnew : ∀ x, new[j]? = some x → OW X w1 x (vs2 j) (Tn j) := by
          intro x hx
          have h3 := ins3 (cs.take (i * z)) es (cs.drop (i * z)) [] (a := i * z) (z := z) (by rw [List.length_take]; omega) hel j
          rw [List.append_nil] at h3
          rw [show new = cs.take (i * z) ++ es ++ cs.drop (i * z) from rfl, h3] at hx
          simp only [Tn]
          by_cases h1 : j < i * z
          · rw [if_pos h1, List.getElem?_take_of_lt h1, List.getElem?_eq_getElem (by omega)] at hx
            rw [if_pos h1, ← Option.some.inj hx, hfirst j h1]
            exact (k6 j (by omega) (by omega)).agree (hag j (by omega))
          · rw [if_neg h1] at hx ⊢
            by_cases h2 : j < i * z + z
            · rw [if_pos h2] at hx ⊢
              obtain ⟨u, hu, hl, hv⟩ := hmid (j - i * z) (by omega)
              rw [List.getElem?_eq_getElem (by omega), hu] at hx
              rw [← Option.some.inj hx]
              rw [show i * z + (j - i * z) = j by omega] at hv
              rw [hv]
              exact .val _ _ hl
            · rw [if_neg h2] at hx ⊢
              rw [List.append_nil, List.getElem?_drop, show i * z + (j - i * z - z) = j - z by omega, List.getElem?_eq_getElem (by omega)] at hx
              rw [← Option.some.inj hx]
              have := hlast (j - z) (by omega) (by omega)
              rw [show j - z + z = j by omega] at this
              rw [this]
              exact (k6 (j - z) (by omega) (by omega)).agree (hag (j - z) (by omega))
        exact hnew _ (List.getElem?_eq_getElem _)
      · rw [← hlen]; exact hj
      · obtain ⟨q1, q2⟩ := hsub j (by rw [← hlen]; exact hj) b2 hx
        rcases hb2 with hb | hb
        · exact q2 hb
        · have := (hTlt b2 q1).2; omega
      · have hj : j < (n + 1) * z := by rw [← hlen]; exact hj
        have hj' : j' < (n + 1) * z := by rw [← hlen]; exact hj'
        rcases hTn j hj x hx with ⟨h1, h2⟩ | ⟨h1, h2⟩
        · rcases hTn j' hj' x hx' with ⟨h3, h4⟩ | ⟨h3, h4⟩
          · exact k8 j j' (by omega) (by omega) hne x h2 h4
          · exact k8 j (j' - z) (by omega) (by omega) (by omega) x h2 h4
        · rcases hTn j' hj' x hx' with ⟨h3, h4⟩ | ⟨h3, h4⟩
          · exact k8 (j - z) j' (by omega) (by omega) (by omega) x h2 h4
          · exact k8 (j - z) (j' - z) (by omega) (by omega) (by omega) x h2 h4
    obtain ⟨r1, r2⟩ := newroot_ins (fr := fr) (w' := w1) (m := some (b2, o2)) (ys := new) (T := fun x => x = b2 ∨ (T x ∧ ¬ bad x)) (G := fun _ => False) (D := T) hX hR' (hN fr (hfr fr ⟨Nat.le_refl _, by omega⟩)) hR2.os hR2.tape hR2.output hR2.size (fun b hb hne => hsame b hb fun e => hne (k3 b e)) hkeep.um hcells (fun x hx => by
      rcases hx with hx | hx
      · rw [hx]
        rcases hb2 with hb | hb
        · exact .inl ⟨k3 _ hb, fun h => h⟩
        · exact .inr ⟨hb, g2⟩
      · exact .inl ⟨hx.1, fun h => h⟩)
    refine ⟨.ref fr [] z 0 (n + 1) none, _, _, _, _, h, r1, ?_, ?_, fun j hj => ?_, ?_⟩
    · have := (hK U).trans (r2 U fun j hj e => hU j hj (by omega))
      show Keep U t'.kl μ H w _ _ w1
      rw [ht, ht0]; exact this
    · refine .ref fr [] z 0 (n + 1) none _ c2 hn2 (fun q hq => by simp at hq) hA2 fun cs' res' ds' hk' hq' => ?_
      simp only [upd, if_true] at hk'
      injection hk' with hk'; subst hk'
      obtain ⟨e, rfl⟩ := hq'
      simp only [updM, if_true] at e
      subst e
      refine .inr ⟨hA2', fun _ => ?_, fun arr' ha => hsz2 arr' ha⟩
      have := Nat.mul_le_mul_right z hn2
      show (cs.take (i * z) ++ es ++ cs.drop (i * z)).length ≤ 0 + c2 * z
      omega
    · simp [qf6] at hj; right; omega
    · exact keep_fresh hN
  rcases hinv with ⟨i1, i2⟩ | ⟨v, w', i1, i2⟩
  · exact .inl ⟨i1, Calls.mono i2 fun e w' ⟨v, hv, hr⟩ => ⟨v, hv, main v w' hr⟩⟩
  · exact .inr ⟨v, w', i1, main v w' i2⟩
theorem nilS_rv {z : Nat} {x : AV} {v : Value} (h : RV X μ H w x v) : RV X μ H w (qd3 z x) v := by
  unfold qd3
  split
  · cases h
    exact .sl _ _ _ _ _ _ (by simp) (.nil _ _ _ _ _ (fun q hq => by injection hq))
  · exact h
theorem nilA_rv {z : Nat} {x : AV} {v : Value} (h : RV X μ H w x v) : RV X μ H w (qd2 z x) v := by
  unfold qd2
  split
  · cases h
    exact .sl _ _ _ _ _ _ (by simp) (.nil _ _ _ _ _ (fun q hq => by injection hq))
  · cases h with
    | agg _ vs hl hf hr =>
      refine .agg _ vs (by simpa using hl) hf fun i hi hi' => ?_
      rw [List.getElem_map]
      exact nilS_rv (hr i (by simpa using hi) hi')
  · exact h
theorem nilS_keys (z : Nat) (x : AV) : ∀ k, k ∈ qf6 (qd3 z x) → k ∈ qf6 x := by
  unfold qd3
  split
  · intro k hk; simp [qf6] at hk
  · exact fun _ h => h
theorem nilSs_keys (z : Nat) : ∀ xs : List AV, ∀ k, k ∈ qf5 (xs.map (qd3 z)) → k ∈ qf5 xs
  | [], _, h => by simp [qf5] at h
  | x :: xs, k, h => by
    simp only [List.map_cons, qf5, List.mem_append] at h ⊢
    exact h.imp (nilS_keys z x k) (nilSs_keys z xs k)
theorem nilA_keys (z : Nat) (x : AV) : ∀ k, k ∈ qf6 (qd2 z x) → k ∈ qf6 x := by
  unfold qd2
  split
  · intro k hk; simp [qf6] at hk
  · intro k hk
    simp only [qf6] at hk ⊢
    exact nilSs_keys z _ k hk
  · exact fun _ h => h
theorem nilAs_keys (z : Nat) : ∀ xs : List AV, ∀ k, k ∈ qf5 (xs.map (qd2 z)) → k ∈ qf5 xs
  | [], _, h => by simp [qf5] at h
  | x :: xs, k, h => by
    simp only [List.map_cons, qf5, List.mem_append] at h ⊢
    exact h.imp (nilA_keys z x k) (nilAs_keys z xs k)
theorem call_sound {P : Program} {E : Env} {C : Oracle} (hC : OrcOK P C) {R : Type} {U : Nat → Prop} {fr : Nat} {K : AV → Heap → Tr → Option R} {r : R} (hX : X.WF) (hR : Rel X μ F H w (fun _ => False)) (hU : ∀ k, U k → ¬ (fr ≤ k ∧ k < fr + 8)) (hfr : ∀ k, fr ≤ k ∧ k < fr + 8 → H k = none) {f : AV} {u : Value} {args : List AV} {vs : List Value} (hf : RV X μ H w f u) (hl : vs.length = args.length) (hv : ∀ i (h : i < args.length) (h' : i < vs.length), RV X μ H w args[i] vs[i]) (hkf : ∀ k, k ∈ qf6 f → U k) (hka : ∀ k, k ∈ qf5 args → U k)
    (h : (qd E C f args fr).run H {} K = some r) : ∃ g caps, u = .func (.func g) #[] caps ∧ Inv P g (vs.toArray ++ caps) w (fun v w' => OP X U fr μ H w K r v w') := by
  have old : ∀ f, RV X μ H w f u → (∀ k, k ∈ qf6 f → U k) → (qd0 E C f args fr).run H {} K = some r → ∃ g caps, u = .func (.func g) #[] caps ∧ Inv P g (vs.toArray ++ caps) w (fun v w' => OP X U fr μ H w K r v w') := fun f hf hkf h => call_sound0 hC hX hR hU hfr hf hl hv hkf hka h
  unfold qd at h
  split at h
  · rename_i g
    split at h
    · rename_i z hz
      unfold insArgs at h
      split at h
      · rename_i k z1 n cap i kv z2 capv
        obtain ⟨hg, h⟩ := guardB_run' h
        simp only [Bool.and_eq_true, beq_iff_eq] at hg
        obtain ⟨rfl, rfl⟩ := hg
        cases hf with
        | fn _ _ cvs hcl hcv =>
          have hcv0 : cvs = #[] := Array.eq_empty_of_size_eq_zero (by simpa using hcl)
          subst hcv0
          match vs, hl with
          | [u0, u1, u2], _ =>
            have h0 := hv 0 (by simp) (by simp)
            have h1 := hv 1 (by simp) (by simp)
            have h2 := hv 2 (by simp) (by simp)
            simp only [List.getElem_cons_zero, List.getElem_cons_succ] at h0 h1 h2
            have e1 : u1 = .int .i64 i := by cases h1; rfl
            subst e1
            exact ⟨g, #[], rfl, ins_sound rfl hC hX hR hU hfr h0 h2 h⟩
      · exact old _ hf hkf h
    · cases hwk : E.wk g with
      | none => rw [hwk] at h; exact old _ hf hkf h
      | some z =>
        rw [hwk] at h
        exact call_sound0 hC hX hR hU hfr hf (by rw [hl]; simp [qd1]) (fun i hi hi' => by
          simp only [qd1, List.getElem_map]
          exact nilA_rv (hv i (by simpa [qd1] using hi) hi')) hkf (fun k hk => hka k (nilAs_keys z args k hk)) h
  · exact old _ hf hkf h
end
end Go.Proofs.Ythgopooldcheeaa.VH
end

section
namespace Go.Proofs.Ythgopooldcheeaa.VH

/- Every operation. -/

section
variable {R : Type} {X : Cx} {U : Nat → Prop} {fr : Nat} {μ : Nat → Option (Nat × Nat)} {F : Nat → Nat → Prop} {H : Heap} {w : World} {K : AV → Heap → Tr → Option R} {r : R} {t : Tr} {P : Program} {E : Env}

theorem zOK_inv {z : Nat} {x : AV} (h : zOK z x = true) : (∀ tg z' n cap cs, x = .sl tg z' n cap cs → z' = z) ∧ (∀ k p z' off n cap, x = .ref k p z' off n cap → z' = z) ∧ ¬ ∃ s, x = .val (.string s) := by
  unfold zOK at h
  split at h
  · exact ⟨fun _ _ _ _ _ e => by simp at e, fun _ _ _ _ _ _ e => by simp at e, fun ⟨s, e⟩ => by simp at e⟩
  · rename_i z'
    refine ⟨fun _ _ _ _ _ e => ?_, fun _ _ _ _ _ _ e => by simp at e, fun ⟨s, e⟩ => by simp at e⟩
    injection e with _ e; rw [← e]; simpa using h
  · refine ⟨fun _ _ _ _ _ e => by simp at e, fun _ _ _ _ _ _ e => ?_, fun ⟨s, e⟩ => by simp at e⟩
    injection e with _ _ e; rw [← e]; simpa using h
  · exact absurd h (by simp)

theorem unOp_sound (hR : Rel X μ F H w (fun _ => False)) (ht : t.kl = []) {op : UnOp} {x : AV} {u : Value} (hx : RV X μ H w x u)
    (h : (match op, x with | .not, .val (.bool b) => HM.ret (AV.val (.bool (!b))) | .neg, .val (.int k n) => intBin .sub k 0 n | .xor, .val (.int k n) => intBin .xor k (if k.signed then -1 else k.max) n | _, _ => HM.fail).run H t K = some r) :
    ∃ z, (Op.unary op u).run P w = .ok z w ∧ OP X U fr μ H w K r z w := by
  split at h
  · cases hx
    exact ⟨_, by simp [Op.unary], OP.pure hR ht h (.val _) (fun k hk => by simp [qf6] at hk)⟩
  · cases hx
    rename_i k n
    simp only [intBin, HM.run] at h
    exact ⟨_, by simp [Op.unary, Op.intArith], OP.pure hR ht h (.val _) (fun k hk => by simp [qf6] at hk)⟩
  · cases hx
    simp only [intBin, HM.run] at h
    exact ⟨_, by simp [Op.unary, Op.intBits], OP.pure hR ht h (.val _) (fun k hk => by simp [qf6] at hk)⟩
  · simp [HM.run] at h

theorem strSlice_sound (hR : Rel X μ F H w (fun _ => False)) (ht : t.kl = []) {ty : TypeId} (hty : P.underlying ty = some .string) {s : ByteArray} {lo hi : Option AV} {lo' hi' : Option Value}
    (e1 : (lo = none ∧ lo' = none) ∨ ∃ x v, lo = some x ∧ lo' = some v ∧ RV X μ H w x v) (e2 : (hi = none ∧ hi' = none) ∨ ∃ x v, hi = some x ∧ hi' = some v ∧ RV X μ H w x v)
    (h : (qa6 (.val (.string s)) lo hi none).run H t K = some r) : ∃ z, (Instr.sliceAt ty (.string s) lo' hi' none).run P w = .ok z w ∧ OP X U fr μ H w K r z w := by
  simp only [qa6] at h
  split at h
  · rename_i l hh b1 b2 _
    obtain ⟨hg, h⟩ := guardB_run' h
    simp only [Bool.and_eq_true, decide_eq_true_eq] at hg
    obtain ⟨⟨g1, g2⟩, g3⟩ := hg
    refine ⟨.string (s.extract l.toNat hh.toNat), ?_, OP.pure hR ht h (.val _) (fun k hk => by simp [qf6] at hk)⟩
    have := sliceBounds_run (P := P) (b := false) (n := s.size) (c := s.size) (mx := none) (mx' := none) (by simp) b1 b2 (m := s.size) (by simp [qa7]) e1 e2 (.inl ⟨rfl, rfl⟩) g1 g2 g3 (by omega) (by omega) (by simp)
    simp only [Instr.sliceAt, Sem.run_bind, underlying, run_program, Result.andThen_ok, hty, Sem.run_pure, Instr.slice]
    simp only [Option.isSome_none, Bool.false_eq_true, if_false, Sem.run_bind, this, Result.andThen_ok, Sem.run_pure]
  · simp [HM.run] at h

theorem index_sound (hR : Rel X μ F H w (fun _ => False)) (ht : t.kl = []) (hE : E.OK P) {ty : TypeId} {x y : AV} {u v : Value} (hx : RV X μ H w x u) (hy : RV X μ H w y v) (hk : ∀ k, k ∈ qf6 x → U k)
    (h : (match E.row ty, x, y with
    | some { td := .string, .. }, .val (.string s), .val (.int _ i) => guardB (decide (0 ≤ i)) ((ofOpt s[i.toNat]?).bind fun b => .ret (u8 b))
    | some { td := .array n e, .. }, .agg xs, .val (.int _ i) => match E.row e with
      | some r => guardB (decide (0 ≤ i) && decide (i < n)) (qc r xs (i.toNat * r.size))
      | none => .fail
    | _, _, _ => HM.fail).run H t K = some r) : ∃ z, (Instr.index ty u v).run P w = .ok z w ∧ OP X U fr μ H w K r z w := by
  split at h
  · rename_i s k i hrow
    cases hx; cases hy
    obtain ⟨hg, h⟩ := guardB_run' h
    have hg := of_decide_eq_true hg
    have htd := (hE _ _ hrow).td
    cases hb : s[i.toNat]? with
    | some b =>
      rw [hb] at h
      exact ⟨.int .u8 b.toNat, by simp [Instr.index, asIntOf, underlying, show P.underlying ty = _ from htd, hg, hb], OP.pure hR ht h (.val _) (fun k hk => by simp [u8, qf6] at hk)⟩
    | none => simp [hb, ofOpt, HM.bind, HM.run] at h
  · rename_i n e xs k i hrow
    split at h
    · rename_i row hr
      obtain ⟨hg, h⟩ := guardB_run' h
      simp only [Bool.and_eq_true, decide_eq_true_eq] at hg
      obtain ⟨vs, rfl, h1, h2, h3⟩ := rv_agg_inv hx
      cases hy
      have htd := (hE _ _ hrow).td
      obtain ⟨z, hz, hop⟩ := part_sound (fr := fr) hR ht (hE _ _ hr) h1 h2 h3 (fun k hk' => hk k (by simpa [qf6] using hk')) h
      exact ⟨z, by simp [Instr.index, asIntOf, underlying, show P.underlying ty = _ from htd, hg, sizeOf_run P w (hE _ _ hr), hz], hop⟩
    · simp [HM.run] at h
  · simp [HM.run] at h

theorem arrAddr_sound (hR : Rel X μ F H w (fun _ => False)) (ht : t.kl = []) {ty e : TypeId} {n : Nat} {re : Row} (hty : P.underlying ty = some (.array n e)) (hre : RowOK P e re) {x : AV} {i : Int} {k : IntKind} {u : Value} (hx : RV X μ H w x u) (hk : ∀ k, k ∈ qf6 x → U k) (hn : 1 < n)
    (h : (qb4 x n re.size i).run H t K = some r) : ∃ z, (Instr.indexAt ty u (.int k i)).run P w = .ok z w ∧ OP X U fr μ H w K r z w := by
  have conc : ∀ (a : Addr), 0 ≤ i ∧ i < (n : Int) → (Instr.indexAt ty (.pointer (some a)) (.int k i)).run P w = .ok (.pointer (some (a.add (i.toNat * re.size)))) w := by
    intro a hi
    simp [Instr.indexAt, asIntOf, underlying, hty, hi, Instr.sureAddr, sizeOf_run P w hre]
  unfold qb4 at h
  split at h
  · rename_i kk p off
    obtain ⟨hg, h⟩ := guardB_run' h
    simp only [Bool.and_eq_true, decide_eq_true_eq] at hg
    cases hx with
    | ptr _ _ _ a hh =>
      refine ⟨_, conc a hg, OP.pure hR ht h (.ptr kk p _ _ fun cs b o ds hkk hq => ?_) (fun k hk' => hk k hk')⟩
      rw [hh cs b o ds hkk hq, add_spot]
      congr 1; omega
  · rename_i tg cs off
    obtain ⟨hg, h⟩ := guardB_run' h
    simp only [Bool.and_eq_true, decide_eq_true_eq] at hg
    cases hx with
    | rp _ _ _ b o arr vs htg hS hb hv hr =>
      refine ⟨_, conc _ hg, ?_⟩
      rw [add_spot, Nat.add_assoc]
      exact OP.pure hR ht h (.rp tg cs _ b o arr vs htg hS hb hv hr) (fun k hk => by simp [qf6] at hk)
  · simp [HM.run] at h

theorem cap_sound (hR : Rel X μ F H w (fun _ => False)) (ht : t.kl = []) {ts : Array TypeId} {ty ty' e : TypeId} (hts : ts[0]? = some ty) (htd : P.underlying ty = some (.slice e)) {x : AV} {u : Value} (hx : RV X μ H w x u)
    (h : (match x with
      | .val (.slice none 0 0) => HM.ret (AV.val (.int .i64 0))
      | .sl _ _ _ (some q) _ => HM.ret (AV.val (.int .i64 q))
      | .ref _ _ _ _ _ (some q) => HM.ret (AV.val (.int .i64 q))
      | _ => HM.fail).run H t K = some r) : ∃ z, (Builtin.cap_ ts ty' #[u]).run P w = .ok z w ∧ OP X U fr μ H w K r z w := by
  have conc : ∀ A n c, (Builtin.cap_ ts ty' #[.slice A n c]).run P w = .ok (.int .i64 c) w := by
    intro A n c
    simp [Builtin.cap_, hts, underlying, htd, goInt]
  split at h
  · cases hx
    exact ⟨_, conc _ _ _, OP.pure hR ht h (.val _) (fun k hk => by simp [qf6] at hk)⟩
  · rename_i q cs
    cases hx with
    | sl _ _ _ _ _ _ htg hr =>
      cases hr with
      | sl _ _ _ _ _ b o c arr vs h1 h2 h3 hc =>
        have := hc q rfl; subst this
        exact ⟨_, conc _ _ _, OP.pure hR ht h (.val _) (fun k hk => by simp [qf6] at hk)⟩
      | nil _ _ _ A c hc =>
        have := hc q rfl; subst this
        exact ⟨_, conc _ _ _, OP.pure hR ht h (.val _) (fun k hk => by simp [qf6] at hk)⟩
  · rename_i q
    cases hx with
    | ref _ _ _ _ _ _ A c hn hc =>
      have := hc q rfl; subst this
      exact ⟨_, conc _ _ _, OP.pure hR ht h (.val _) (fun k hk => by simp [qf6] at hk)⟩
  · simp [HM.run] at h

theorem minmax_sound (hR : Rel X μ F H w (fun _ => False)) (ht : t.kl = []) {a b : Int} {k k' : IntKind} {ts : Array TypeId} {ty : TypeId} :
    (∀ (_ : K (.val (.int k (if b < a then b else a))) H t = some r), ∃ z, (Builtin.min_ ts ty #[.int k a, .int k' b]).run P w = .ok z w ∧ OP X U fr μ H w K r z w) ∧
    (∀ (_ : K (.val (.int k (if b > a then b else a))) H t = some r), ∃ z, (Builtin.max_ ts ty #[.int k a, .int k' b]).run P w = .ok z w ∧ OP X U fr μ H w K r z w) := by
  refine ⟨fun h => ⟨_, ?_, OP.pure hR ht h (.val _) (fun k hk => by simp [qf6] at hk)⟩, fun h => ⟨_, ?_, OP.pure hR ht h (.val _) (fun k hk => by simp [qf6] at hk)⟩⟩
  · simp [Builtin.min_, Builtin.min2]
  · simp [Builtin.max_, Builtin.max2]

theorem mem_setAt {y : AV} : ∀ {ys cs : List AV} {off : Nat}, y ∈ setAt cs off ys → y ∈ cs ∨ y ∈ ys
  | [], cs, off, h => .inl h
  | x :: ys, cs, off, h => by
    simp only [setAt] at h
    rcases mem_setAt h with h | h
    · rcases List.mem_or_eq_of_mem_set h with h | h
      · exact .inl h
      · exact .inr (by rw [h]; simp)
    · exact .inr (List.mem_cons_of_mem _ h)

theorem mem_fillP {place : Nat → Option (Nat × Nat)} {y : AV} : ∀ {ps : List (Nat × List AV)} {cs cs' : List AV}, qa2 place cs ps = some cs' → y ∈ cs' → y ∈ cs ∨ ∃ p ∈ ps, y ∈ p.2
  | [], cs, cs', h, hy => by simp only [qa2, Option.some.injEq] at h; subst h; exact .inl hy
  | (i, v) :: ps, cs, cs', h, hy => by
    simp only [qa2] at h
    split at h
    · split at h
      · rcases mem_fillP h hy with h1 | ⟨p, hp, h1⟩
        · rcases mem_setAt h1 with h1 | h1
          · exact .inl h1
          · exact .inr ⟨(i, v), by simp, h1⟩
        · exact .inr ⟨p, List.mem_cons_of_mem _ hp, h1⟩
      · exact absurd h (by simp)
    · exact absurd h (by simp)

theorem solid_inv {x : AV} {v : Value} (hs : qa4 x = true) (hx : RV X μ H w x v) : (∃ xs, x = .agg xs) ∨ qc4 v = true := by
  cases hx with
  | und => simp [qa4] at hs
  | val v => exact .inr (by simpa [qa4] using hs)
  | tup => simp [qa4] at hs
  | agg xs => exact .inl ⟨xs, rfl⟩
  | sl _ _ _ _ _ _ _ h => exact .inr h.leaf
  | _ => exact .inr rfl

theorem keys_cellsOf {x : AV} {k : Nat} {y : AV} (hy : y ∈ cellsOf x) (hk : k ∈ qf6 y) : k ∈ qf6 x := by
  cases x with
  | agg xs =>
    simp only [cellsOf] at hy
    simp only [qf6]
    obtain ⟨i, hi, rfl⟩ := List.mem_iff_getElem.mp hy
    exact mem_keysL hi hk
  | _ => simp only [cellsOf, List.mem_singleton] at hy; subst hy; exact hk

theorem exec_sound (hE : E.OK P) {C : Oracle} (hC : OrcOK P C) : ExecSound P E C := by
  intro R X μ F H w U fr T a o K r next Q hX hR hT hkT hU hfr h hn
  have ev := fun x => opnd_rv hT x
  have ek := fun x => opnd_keys hkT x
  have hffr : H fr = none := hfr fr (by omega)
  have hUfr : ∀ k, U k → k ≠ fr := fun k hk e => hU k hk (by omega)
  have valOK : ∀ {s : Sem Value}, Go.execOp a.eval o = (do pure (.value (← s))) → (∃ z w', s.run P w = .ok z w' ∧ OP X U fr μ H w K r z w') → o.wp P a w next Q := by
    rintro s he ⟨z, w', hz, hop⟩
    unfold Oper.wp
    rw [he, Sem.run_bind, hz]
    simp only [Result.andThen_ok, Sem.run_pure, Oper.upon]
    exact hn z w' hop
  have valOK' : ∀ {s : Sem Value}, Go.execOp a.eval o = (do pure (.value (← s))) → (∃ z, s.run P w = .ok z w ∧ OP X U fr μ H w K r z w) → o.wp P a w next Q := fun he ⟨z, h1, h2⟩ => valOK he ⟨z, w, h1, h2⟩
  have pureOK : ∀ {z : Value}, (Go.execOp a.eval o = pure (.value z)) → OP X U fr μ H w K r z w → o.wp P a w next Q := by
    intro z he hop
    unfold Oper.wp
    rw [he]
    simp only [Sem.run_pure, Oper.upon]
    exact hn z w hop
  have opt : ∀ x : Option Operand, ((x.map (opnd T)) = none ∧ x.map a.eval = none) ∨ ∃ y v, x.map (opnd T) = some y ∧ x.map a.eval = some v ∧ RV X μ H w y v := by
    intro x
    cases x with
    | none => exact .inl ⟨rfl, rfl⟩
    | some x => exact .inr ⟨_, _, rfl, rfl, ev x⟩
  cases hop : o.op
  case move x =>
    simp only [hop, VH.execOp, HM.run] at h
    exact pureOK (by simp only [Go.execOp, hop]) (OP.pure hR rfl h (ev x) (ek x))
  case assign x =>
    simp only [hop, VH.execOp, HM.run] at h
    exact pureOK (by simp only [Go.execOp, hop]) (OP.pure hR rfl h (ev x) (ek x))
  case pick c x y =>
    simp only [hop, VH.execOp] at h
    split at h
    · rename_i b hb
      have hv := ev c
      rw [hb] at hv
      generalize hu : a.eval c = u at hv
      cases hv
      have he : (Go.execOp a.eval o).run P w = .ok (.value (if b then a.eval x else a.eval y)) w := by simp [Go.execOp, hop, hu, asBool]
      unfold Oper.wp
      rw [he]
      simp only [Oper.upon]
      cases b with
      | true => exact hn _ _ (OP.pure hR rfl h (ev x) (ek x))
      | false => exact hn _ _ (OP.pure hR rfl h (ev y) (ek y))
    · simp [HM.run] at h
  case binOp op xt x y p =>
    simp only [hop, VH.execOp] at h
    split at h
    · rename_i xs ys h1 h2
      have e1 := ev x; have e2 := ev y
      rw [h1] at e1; rw [h2] at e2
      cases hrow : E.row xt with
      | none => rw [hrow] at h; simp [aggBin, HM.run] at h
      | some row =>
        rw [hrow] at h
        exact valOK' (by simp only [Go.execOp, hop]) (aggBin_sound (ox := x) (oy := y) hR rfl (hE _ _ hrow) e1 e2 h)
    · exact valOK' (by simp only [Go.execOp, hop]) (bin_sound (ox := x) (oy := y) hR rfl hE (ev x) (ev y) h)
  case unOp op ty x =>
    simp only [hop, VH.execOp] at h
    exact valOK' (by simp only [Go.execOp, hop]) (unOp_sound hR rfl (ev x) h)
  case alloc ty =>
    simp only [hop, VH.execOp] at h
    split at h
    · rename_i row hrow
      exact valOK (by simp only [Go.execOp, hop]) (alloc_sound hX hR rfl (hE _ _ hrow) hffr hUfr h)
    · simp [HM.run] at h
  case box ty x =>
    simp only [hop, VH.execOp] at h
    split at h
    · rename_i row hrow
      exact valOK (by simp only [Go.execOp, hop]) (box_sound (ty := ty) hX hR rfl hffr hUfr (ev x) h)
    · simp [HM.run] at h
  case load ty x =>
    simp only [hop, VH.execOp] at h
    split at h
    · rename_i row hrow
      obtain ⟨z, hz, hp⟩ := load_sound hX hR rfl (hE _ _ hrow) (ev x) (ek x) h
      exact valOK' (by simp only [Go.execOp, hop]) ⟨z, hz, hp.op hR⟩
    · simp [HM.run] at h
  case store ty x y =>
    simp only [hop, VH.execOp] at h
    split at h
    · rename_i row hrow
      obtain ⟨w', hz, hp⟩ := store_sound (fr := fr) (U := U) hX hR rfl (hE _ _ hrow) (ev x) (ev y) h
      unfold Oper.wp
      have he : (Go.execOp a.eval o).run P w = .ok .skip w' := by simp [Go.execOp, hop, hz]
      rw [he]
      exact hn _ _ hp
    · simp [HM.run] at h
  case nilCheck x =>
    simp only [hop, VH.execOp] at h
    have hv := ev x
    have hk := ek x
    split at h
    · rename_i k p off hx
      rw [hx] at hv hk
      generalize hu : a.eval x = u at hv
      cases hv with
      | ptr _ _ _ ad hh => exact pureOK (by simp only [Go.execOp, hop, hu]) (OP.pure hR rfl h (.ptr k p off ad hh) hk)
    · rename_i tg cs off hx
      rw [hx] at hv hk
      generalize hu : a.eval x = u at hv
      cases hv with
      | rp _ _ _ b o' arr vs q1 q2 q3 q4 q5 => exact pureOK (by simp only [Go.execOp, hop, hu]) (OP.pure hR rfl h (.rp tg cs off b o' arr vs q1 q2 q3 q4 q5) hk)
    · rename_i f caps hx
      rw [hx] at hv hk
      generalize hu : a.eval x = u at hv
      cases hv with
      | fn _ _ vs q1 q2 => exact pureOK (by simp only [Go.execOp, hop, hu]) (OP.pure hR rfl h (.fn f caps vs q1 q2) hk)
    · simp [HM.run] at h
  case indexAddr ty x i =>
    simp only [hop, VH.execOp] at h
    have hi := ev i
    split at h
    · rename_i e k n hrow hxi
      split at h
      · rename_i re hre
        rw [hxi] at hi
        generalize hu : a.eval i = u at hi
        cases hi
        exact valOK' (by simp only [Go.execOp, hop, hu]) (idxAddr_sound (k := k) hR rfl (hE _ _ hrow).td (hE _ _ hre) (ev x) (ek x) h)
      · simp [HM.run] at h
    · rename_i n e k i' hrow hxi
      split at h
      · rename_i re hre
        rw [hxi] at hi
        generalize hu : a.eval i = u at hi
        cases hi
        obtain ⟨hg, h⟩ := guardB_run' h
        exact valOK' (by simp only [Go.execOp, hop, hu]) (arrAddr_sound (k := k) hR rfl (hE _ _ hrow).td (hE _ _ hre) (ev x) (ek x) (of_decide_eq_true hg) h)
      · simp [HM.run] at h
    · simp [HM.run] at h
  case index ty x i =>
    simp only [hop, VH.execOp] at h
    exact valOK' (by simp only [Go.execOp, hop]) (index_sound hR rfl hE (ev x) (ev i) (ek x) h)
  case fieldAddr ty x f =>
    simp only [hop, VH.execOp] at h
    split at h
    · rename_i off row k p o' hrow hx
      obtain ⟨hg, h⟩ := guardB_run' h
      exact valOK' (by simp only [Go.execOp, hop]) (fieldAddr_sound hR rfl hE hrow (of_decide_eq_true hg) (ev x) (ek x) (.inl ⟨k, p, o', hx, rfl⟩) h)
    · rename_i off row tg cs o' hrow hx
      obtain ⟨hg, h⟩ := guardB_run' h
      exact valOK' (by simp only [Go.execOp, hop]) (fieldAddr_sound hR rfl hE hrow (of_decide_eq_true hg) (ev x) (ek x) (.inr (.inl ⟨tg, cs, o', hx, rfl⟩)) h)
    · rename_i off row cs hrow hx
      obtain ⟨hg, h⟩ := guardB_run' h
      simp only [Bool.and_eq_true, decide_eq_true_eq] at hg
      exact valOK' (by simp only [Go.execOp, hop]) (fieldAddr_sound hR rfl hE hrow hg.1 (ev x) (ek x) (.inr (.inr ⟨cs, hx, rfl, hg.2⟩)) h)
    · simp [HM.run] at h
  case field ty x f =>
    simp only [hop, VH.execOp] at h
    split at h
    · rename_i off row xs hrow hx
      have hv := ev x
      have hk := ek x
      rw [hx] at hv hk
      exact valOK' (by simp only [Go.execOp, hop]) (field_sound hR rfl hE hrow hv (fun k hk' => hk k (by simpa [qf6] using hk')) h)
    · simp [HM.run] at h
  case extract x i =>
    simp only [hop, VH.execOp] at h
    split at h
    · rename_i xs hx
      have hv := ev x
      have hk := ek x
      rw [hx] at hv hk
      cases hxi : xs[i]? with
      | none => simp [hxi, ofOpt, HM.run] at h
      | some y =>
        simp only [hxi, ofOpt, HM.run] at h
        exact valOK' (by simp only [Go.execOp, hop]) (extract_sound hR rfl hv (fun k hk' => hk k (by simpa [qf6] using hk')) hxi h)
    · simp [HM.run] at h
  case slice ty x lo hi mx =>
    simp only [hop, VH.execOp] at h
    split at h
    · rename_i e _ _ _ _ hrow
      split at h
      · rename_i re hre
        obtain ⟨hg, h⟩ := guardB_run' h
        simp only [Bool.and_eq_true, Bool.or_eq_true] at hg
        obtain ⟨z1, z2, z3⟩ := zOK_inv hg.1
        refine valOK' (by simp only [Go.execOp, hop]) (slice_sound hR rfl (hE _ _ hrow).td (hE _ _ hre) (ev x) (ek x) z1 z2 z3 (opt lo) (opt hi) (opt mx) (fun hm => ?_) h)
        rcases hg.2 with hm' | hm'
        · cases mx with
          | none => exact absurd rfl hm
          | some m => simp at hm'
        · cases hi with
          | none => simp at hm'
          | some m => simp
      · simp [HM.run] at h
    · rename_i _ _ _ _ hrow
      split at h
      · rename_i s hx
        obtain ⟨hg, h⟩ := guardB_run' h
        have hv := ev x
        rw [hx] at hv
        generalize hu : a.eval x = u at hv
        cases hv
        cases mx with
        | none => exact valOK' (by simp only [Go.execOp, hop, hu]; rfl) (strSlice_sound hR rfl (hE _ _ hrow).td (opt lo) (opt hi) h)
        | some m => simp at hg
      · simp [HM.run] at h
    · simp [HM.run] at h
  case makeFunc fn first caps =>
    cases fn <;> simp only [hop, VH.execOp] at h <;> try (simp [HM.run] at h; done)
    rename_i g
    obtain ⟨hg, h⟩ := guardB_run' h
    have hf0 : first = #[] := by simpa using hg
    subst hf0
    refine pureOK (z := .func (.func g) #[] (caps.map a.eval)) (by simp [Go.execOp, hop, Instr.makeFunc]) (OP.pure hR rfl h (.fn g _ _ (by simp) fun i hi hi' => ?_) fun k hk => ?_)
    · simpa using ev _
    · simp only [qf6] at hk
      obtain ⟨i, hi, hk⟩ := keysL_mem hk
      simp only [List.getElem_map] at hk
      exact ek _ k hk
  case call c =>
    obtain ⟨callee, args, argTypes⟩ := c
    cases callee with
    | invoke r m => simp [hop, VH.execOp, HM.run] at h
    | value f =>
      simp only [hop, VH.execOp] at h
      obtain ⟨g, caps, hu, hinv⟩ := call_sound hC (vs := args.toList.map a.eval) hX hR hU hfr (ev f) (by simp) (fun i hi hi' => by simpa using ev _) (ek f) (fun k hk => by
        obtain ⟨i, hi, hk⟩ := keysL_mem hk
        simp only [List.getElem_map] at hk
        exact ek _ k hk) h
      have he : Go.execOp a.eval o = callFunc g ((args.toList.map a.eval).toArray ++ caps) := by
        have e : (args.toList.map a.eval).toArray = args.map a.eval := by rw [← Array.toList_map]
        rw [e]
        simp [Go.execOp, hop, resolve, hu, Deferred.ofValue, invoke]
      unfold Oper.wp
      rw [he]
      rcases hinv with ⟨i1, i2⟩ | ⟨v, w', i1, i2⟩
      · rw [i1]
        simp only [Oper.upon]
        exact Calls.mono i2 fun e w' ⟨v, hv, hp⟩ => by subst hv; exact hn v w' hp
      · rw [i1]
        simp only [Oper.upon]
        exact hn v w' i2
    | builtin b =>
      simp only [hop, VH.execOp] at h
      have hb : ∃ consts, Go.execOp a.eval o = builtin b argTypes o.type consts (args.map a.eval) := by
        simp only [Go.execOp, hop, resolve, pure_bind, invoke]
        exact ⟨_, rfl⟩
      obtain ⟨consts, hb⟩ := hb
      have one : ∀ {x : AV}, args.toList.map (opnd T) = [x] → ∃ y, args = #[y] ∧ opnd T y = x := by
        intro x hx
        match hl : args.toList, hx with
        | [y], hx => exact ⟨y, Array.toList_inj.mp (by rw [hl]), by simpa using hx⟩
      have two : ∀ {x x' : AV}, args.toList.map (opnd T) = [x, x'] → ∃ y y', args = #[y, y'] ∧ opnd T y = x ∧ opnd T y' = x' := by
        intro x x' hx
        match hl : args.toList, hx with
        | [y, y'], hx => exact ⟨y, y', Array.toList_inj.mp (by rw [hl]), by simpa using hx⟩
      have fst : ∀ {ty : TypeId} {r : List TypeId}, argTypes.toList = ty :: r → argTypes[0]? = some ty := by
        intro ty r hr
        rw [← Array.getElem?_toList, hr]; rfl
      have bOK : ∀ {s : Sem Value}, builtin b argTypes o.type consts (args.map a.eval) = (do pure (.value (← s))) → (∃ z w', s.run P w = .ok z w' ∧ OP X U fr μ H w K r z w') → o.wp P a w next Q := fun he => valOK (hb.trans he)
      unfold qa1 at h
      split at h
      · -- len
        rename_i ty _ x hts hxs
        obtain ⟨y, rfl, rfl⟩ := one hxs
        have hty := fst hts
        split at h
        · rename_i e _ _ _ _ hrow
          obtain ⟨n, hn', h⟩ := ofOpt_run h
          have hlv : lenAV (opnd T y) = some n := by
            rcases slLen_inv hn' with ⟨e, rfl⟩ | ⟨tg, z, cap, cs, e⟩ | ⟨k, p, z, off, cap, e⟩ <;> rw [e] <;> rfl
          obtain ⟨z, h1, h2⟩ := len_sound (P := P) (fr := fr) (U := U) (ty' := o.type) (td := .slice e) hR rfl hty (hE _ _ hrow).td trivial (ev y) hlv (by
            rintro ⟨s, hs⟩
            rw [hs] at hn'; simp [qb] at hn') h
          exact bOK (s := Builtin.len_ argTypes o.type #[a.eval y]) (by simp [builtin]) ⟨z, w, h1, h2⟩
        · rename_i _ _ _ _ hrow
          split at h
          · rename_i s hs
            obtain ⟨z, h1, h2⟩ := len_sound (P := P) (fr := fr) (U := U) (ty' := o.type) (td := .string) hR rfl hty (hE _ _ hrow).td trivial (ev y) (n := s.size) (by rw [hs]; rfl) ⟨s, hs⟩ h
            exact bOK (s := Builtin.len_ argTypes o.type #[a.eval y]) (by simp [builtin]) ⟨z, w, h1, h2⟩
          · simp [HM.run] at h
        · simp [HM.run] at h
      · -- cap
        rename_i ty _ x hts hxs
        obtain ⟨y, rfl, rfl⟩ := one hxs
        have hty := fst hts
        split at h
        · rename_i e _ _ _ _ hrow
          obtain ⟨z, h1, h2⟩ := cap_sound (P := P) (fr := fr) (U := U) (ty' := o.type) hR rfl hty (hE _ _ hrow).td (ev y) h
          exact bOK (s := Builtin.cap_ argTypes o.type #[a.eval y]) (by simp [builtin]) ⟨z, w, h1, h2⟩
        · simp [HM.run] at h
      · -- min
        rename_i k n k' m hxs
        obtain ⟨y, y', rfl, e1, e2⟩ := two hxs
        have v1 := ev y
        have v2 := ev y'
        rw [e1] at v1
        rw [e2] at v2
        generalize hu : a.eval y = u at v1
        generalize hu' : a.eval y' = u' at v2
        cases v1; cases v2
        obtain ⟨z, h1, h2⟩ := (minmax_sound (P := P) (fr := fr) (U := U) (k' := k') (ts := argTypes) (ty := o.type) hR rfl).1 h
        exact bOK (s := Builtin.min_ argTypes o.type #[.int k n, .int k' m]) (by simp [builtin, hu, hu']) ⟨z, w, h1, h2⟩
      · -- max
        rename_i k n k' m hxs
        obtain ⟨y, y', rfl, e1, e2⟩ := two hxs
        have v1 := ev y
        have v2 := ev y'
        rw [e1] at v1
        rw [e2] at v2
        generalize hu : a.eval y = u at v1
        generalize hu' : a.eval y' = u' at v2
        cases v1; cases v2
        obtain ⟨z, h1, h2⟩ := (minmax_sound (P := P) (fr := fr) (U := U) (k' := k') (ts := argTypes) (ty := o.type) hR rfl).2 h
        exact bOK (s := Builtin.max_ argTypes o.type #[.int k n, .int k' m]) (by simp [builtin, hu, hu']) ⟨z, w, h1, h2⟩
      · -- append
        rename_i ty ut _ d s hts hxs
        obtain ⟨y, y', rfl, rfl, rfl⟩ := two hxs
        have hty := fst hts
        have hty1 : argTypes[1]? = some ut := by rw [← Array.getElem?_toList, hts]; rfl
        split at h
        · rename_i e _ _ _ _ hrow
          have hsl := (hE _ _ hrow).td
          have fin : ∀ {z : Value} {w' : World}, (Builtin.append_ argTypes o.type #[a.eval y, a.eval y']).run P w = .ok z w' → OP X U fr μ H w K r z w' → o.wp P a w next Q := fun h1 h2 => bOK (s := Builtin.append_ argTypes o.type #[a.eval y, a.eval y']) (by simp [builtin]) ⟨_, _, h1, h2⟩
          split at h
          · rename_i re k2 _ _ _ _ hre hut
            have hu := (hE _ _ hut).td
            split at h
            · rename_i k n hy'
              obtain ⟨hg, h9⟩ := guardB_run' h
              clear h
              simp only [Bool.and_eq_true, decide_eq_true_eq] at hg
              obtain ⟨⟨_, g2⟩, g3⟩ := hg
              obtain ⟨m, rfl⟩ := Int.eq_ofNat_of_zero_le g2
              simp only [Int.toNat_natCast] at h9
              have v2 := ev y'
              rw [hy'] at v2
              generalize hu' : a.eval y' = u' at v2
              cases v2
              obtain ⟨z, hz, hA⟩ := appRun_zeros (P := P) (w := w) (ty' := o.type) (k := k) hty hty1 hsl hu (hE _ _ hre) (m := m) (by omega)
              obtain ⟨z, w', h1, h2⟩ := append_sound hX hR (hE _ _ hre) (zeros_src hR (hE _ _ hre) hz m) hA rfl hffr hUfr (ev y) (ek y) h9
              exact fin (by rw [hu']; exact h1) h2
            · simp [HM.run] at h
          · rename_i re e2 _ _ _ _ hre hut
            obtain ⟨d2, hd2, hni⟩ : ∃ d2, P.underlying ut = some d2 ∧ ∀ k, d2 ≠ .int k := ⟨_, (hE _ _ hut).td, fun k => by simp⟩
            obtain ⟨_, h9⟩ := guardB_run' h
            clear h
            obtain ⟨m, new, vals, H', t', F', Ts, h10, ht', hS⟩ := src_sound (P := P) hX hR (ev y') h9
            obtain ⟨z, w', h1, h2⟩ := append_sound hX hR (hE _ _ hre) hS.toSrc0 (appRun_src (ty' := o.type) hty hty1 hsl hd2 hni (hE _ _ hre) hS.src) ht' hffr hUfr (ev y) (ek y) h10
            exact fin h1 h2
          · rename_i re _ _ _ _ hre hut
            obtain ⟨d2, hd2, hni⟩ : ∃ d2, P.underlying ut = some d2 ∧ ∀ k, d2 ≠ .int k := ⟨_, (hE _ _ hut).td, fun k => by simp⟩
            obtain ⟨_, h9⟩ := guardB_run' h
            clear h
            obtain ⟨m, new, vals, H', t', F', Ts, h10, ht', hS⟩ := src_sound (P := P) hX hR (ev y') h9
            obtain ⟨z, w', h1, h2⟩ := append_sound hX hR (hE _ _ hre) hS.toSrc0 (appRun_src (ty' := o.type) hty hty1 hsl hd2 hni (hE _ _ hre) hS.src) ht' hffr hUfr (ev y) (ek y) h10
            exact fin h1 h2
          · simp [HM.run] at h
        · simp [HM.run] at h
      · -- copy
        rename_i ty _ d s hts hxs
        obtain ⟨y, y', rfl, rfl, rfl⟩ := two hxs
        have hty := fst hts
        split at h
        · rename_i e _ _ _ _ hrow
          have hsl := (hE _ _ hrow).td
          split at h
          · rename_i re hre
            obtain ⟨_, h9⟩ := guardB_run' h
            clear h
            obtain ⟨m, new, vals, H', t', F', Ts, h10, ht', hS⟩ := src_sound (P := P) hX hR (ev y') h9
            obtain ⟨z, w', h1, h2⟩ := copy_sound (ty' := o.type) (fr := fr) (U := U) hX hty hsl (hE _ _ hre) hS ht' (ev y) h10
            exact bOK (s := Builtin.copy_ argTypes o.type #[a.eval y, a.eval y']) (by simp [builtin]) ⟨_, _, h1, h2⟩
          · simp [HM.run] at h
        · simp [HM.run] at h
      · -- clear
        rename_i ty _ d hts hxs
        obtain ⟨y, rfl, rfl⟩ := one hxs
        have hty := fst hts
        split at h
        · rename_i e _ _ _ _ hrow
          have hsl := (hE _ _ hrow).td
          split at h
          · rename_i re hre
            obtain ⟨z, w', h1, h2⟩ := clear_sound (ty' := o.type) (fr := fr) (U := U) hX hR rfl hty hsl (hE _ _ hre) (ev y) h
            exact bOK (s := Builtin.clear_ argTypes o.type #[a.eval y]) (by simp [builtin]) ⟨_, _, h1, h2⟩
          · simp [HM.run] at h
        · simp [HM.run] at h
      · simp [HM.run] at h
  case convert s d x =>
    simp only [hop, VH.execOp] at h
    split at h
    · rename_i rs rd hrs hrd
      exact valOK (by simp only [Go.execOp, hop]) (conv_sound hX hR rfl hE hrs hrd (ev x) hffr hUfr h)
    · simp [HM.run] at h
  case build ty ps =>
    simp only [hop, VH.execOp] at h
    split at h
    · rename_i fs _ _ zero _ hrow
      obtain ⟨hg, h⟩ := guardB_run' h
      simp only [Bool.and_eq_true] at hg
      obtain ⟨cs, hcs, h⟩ := ofOpt_run h
      simp only [HM.run] at h
      have hps : ∀ p ∈ (ps.toList.map fun (p : Nat × Operand) => (p.1, opnd T p.2)), ∃ y, p.2 = opnd T y ∧ qa4 (opnd T y) = true := by
        intro p hp
        obtain ⟨q, hq, rfl⟩ := List.mem_map.mp hp
        exact ⟨q.2, rfl, List.all_eq_true.mp hg.2 q hq⟩
      have hcs' : qa2 (qa3 E fs) (zero.map .val) ((ps.toList.map fun (p : Nat × Operand) => (p.1, opnd T p.2)).map fun (i, x) => (i, cellsOf x)) = some cs := by
        rw [List.map_map]; exact hcs
      refine valOK' (s := Instr.build ty (ps.map fun (i, x) => (i, a.eval x))) (by simp only [Go.execOp, hop]) ?_
      have := build_sound (U := U) (fr := fr) (row := ⟨.struct fs, _, _, zero, _⟩) (qs := ps.toList.map fun (p : Nat × Operand) => (p.1, a.eval p.2)) hE hR rfl hrow rfl (by simp) (fun i hi hi' => by simpa using ev _) (fun p hp k hk => by
        obtain ⟨y, e, _⟩ := hps p hp; rw [e] at hk; exact ek y k hk) (fun p hp v hv => by obtain ⟨y, e, hs⟩ := hps p hp; rw [e] at hv ⊢; exact solid_inv hs hv) hg.1 hcs' (fun k hk => by
        obtain ⟨i, hi, hk⟩ := keysL_mem hk
        rcases mem_fillP hcs' (List.getElem_mem hi) with h1 | ⟨p, hp, h1⟩
        · obtain ⟨v, _, e⟩ := List.mem_map.mp h1
          rw [← e] at hk; simp [qf6] at hk
        · obtain ⟨q, hq, rfl⟩ := List.mem_map.mp hp
          obtain ⟨y, e, _⟩ := hps q hq
          have := keys_cellsOf h1 hk
          rw [e] at this
          exact ek y k this) h
      have e : (ps.toList.map fun (p : Nat × Operand) => (p.1, a.eval p.2)).toArray = ps.map fun (i, x) => (i, a.eval x) := by rw [← Array.toList_map]
      rw [e] at this
      exact this
    · rename_i n e _ _ zero _ hrow
      split at h
      · rename_i re hre
        obtain ⟨hg, h⟩ := guardB_run' h
        skip
        obtain ⟨cs, hcs, h⟩ := ofOpt_run h
        simp only [HM.run] at h
        have hps : ∀ p ∈ (ps.toList.map fun (p : Nat × Operand) => (p.1, opnd T p.2)), ∃ y, p.2 = opnd T y ∧ qa4 (opnd T y) = true := by
          intro p hp
          obtain ⟨q, hq, rfl⟩ := List.mem_map.mp hp
          exact ⟨q.2, rfl, List.all_eq_true.mp hg q hq⟩
        have hcs' : qa2 (fun i => some (i * re.size, re.size)) (zero.map .val) ((ps.toList.map fun (p : Nat × Operand) => (p.1, opnd T p.2)).map fun (i, x) => (i, cellsOf x)) = some cs := by
          rw [List.map_map]; exact hcs
        refine valOK' (s := Instr.build ty (ps.map fun (i, x) => (i, a.eval x))) (by simp only [Go.execOp, hop]) ?_
        have := build_arr_sound (U := U) (fr := fr) (row := ⟨.array n e, _, _, zero, _⟩) (qs := ps.toList.map fun (p : Nat × Operand) => (p.1, a.eval p.2)) hE hR rfl hrow rfl hre (by simp) (fun i hi hi' => by simpa using ev _) (fun p hp k hk => by
          obtain ⟨y, e, _⟩ := hps p hp; rw [e] at hk; exact ek y k hk) (fun p hp v hv => by obtain ⟨y, e, hs⟩ := hps p hp; rw [e] at hv ⊢; exact solid_inv hs hv) hcs' (fun k hk => by
          obtain ⟨i, hi, hk⟩ := keysL_mem hk
          rcases mem_fillP hcs' (List.getElem_mem hi) with h1 | ⟨p, hp, h1⟩
          · obtain ⟨v, _, e⟩ := List.mem_map.mp h1
            rw [← e] at hk; simp [qf6] at hk
          · obtain ⟨q, hq, rfl⟩ := List.mem_map.mp hp
            obtain ⟨y, e, _⟩ := hps q hq
            have := keys_cellsOf h1 hk
            rw [e] at this
            exact ek y k this) h
        have e : (ps.toList.map fun (p : Nat × Operand) => (p.1, a.eval p.2)).toArray = ps.map fun (i, x) => (i, a.eval x) := by rw [← Array.toList_map]
        rw [e] at this
        exact this
      · simp [HM.run] at h
    · simp [HM.run] at h
  case buildSlice ty n ps =>
    simp only [hop, VH.execOp] at h
    split at h
    · rename_i e _ _ _ _ hrow
      split at h
      · rename_i re hre
        obtain ⟨hg, h⟩ := guardB_run' h
        simp only [Bool.and_eq_true, decide_eq_true_eq] at hg
        obtain ⟨⟨⟨g1, g2⟩, g3⟩, g4⟩ := hg
        have hall : ∀ q ∈ ps.toList, qa4 (opnd T q.2) = true ∧ (cellsOf (opnd T q.2)).length = re.size := fun q hq => by
          have := List.all_eq_true.mp g4 q hq
          simpa using this
        refine valOK (s := Instr.buildSlice ty n (ps.map fun (i, x) => (i, a.eval x))) (by simp only [Go.execOp, hop]) ?_
        have := buildSlice_sound (U := U) (fr := fr) (ps := ps.toList.map fun (p : Nat × Operand) => (p.1, opnd T p.2)) (qs := ps.toList.map fun (p : Nat × Operand) => (p.1, a.eval p.2)) (n := n) hX hR rfl (hE _ _ hrow).td (hE _ _ hre) hffr hUfr (by simp) (fun i hi hi' => by
          simp only [List.getElem_map]
          exact cells_of_rv (ev _) (solid_inv (hall _ (List.getElem_mem (by simpa using hi))).1 (ev _))) g1 (by simpa using g2) (by simpa [List.map_map, Function.comp_def] using g3) (fun p hp => by
          obtain ⟨q, hq, rfl⟩ := List.mem_map.mp hp
          exact (hall q hq).2) (by simpa [List.flatMap_map] using h)
        have e : (ps.toList.map fun (p : Nat × Operand) => (p.1, a.eval p.2)).toArray = ps.map fun (i, x) => (i, a.eval x) := by rw [← Array.toList_map]
        rw [e] at this
        exact this
      · simp [HM.run] at h
    · simp [HM.run] at h
  case makeSlice ty l c =>
    simp only [hop, VH.execOp] at h
    have hl := ev l
    have hc := ev c
    split at h
    · rename_i e _ _ _ _ k n k' m hrow hxl hxc
      split at h
      · rename_i re hre
        obtain ⟨hg, h2⟩ := guardB_run' h
        clear h
        simp only [Bool.and_eq_true, decide_eq_true_eq] at hg
        obtain ⟨⟨g1, g2⟩, g3⟩ := hg
        subst g1
        rw [hxl] at hl
        rw [hxc] at hc
        generalize hu : a.eval l = u at hl
        generalize hu' : a.eval c = u' at hc
        cases hl; cases hc
        exact valOK (by simp only [Go.execOp, hop, hu, hu']) (makeSlice_sound (k := k) (k' := k') hX hR rfl (hE _ _ hrow).td (hE _ _ hre) hffr hUfr g2 g3 h2)
      · simp [HM.run] at h
    · simp [HM.run] at h
  all_goals (exfalso; simp [hop, VH.execOp, HM.run] at h)

end
end Go.Proofs.Ythgopooldcheeaa.VH
end

section
namespace Go.Proofs.Ythgopooldcheeaa.VH

/- From data to the evaluator's values, and from the evaluator's answer to the law's row. -/

inductive Sh where
  | int (k : IntKind) | bool | str | sl (e : Sh) | st (fs : Sh) | unit | pair (a b : Sh)

def Sh.size : Sh → Nat
  | .int _ | .bool | .str | .sl _ => 1
  | .st s => s.size
  | .unit => 0
  | .pair a b => a.size + b.size

def Fits : Sh → List AV → Prop
  | .int k, cs => ∃ n, cs = [.val (.int k n)] ∧ (Lit.int k n).wf = true
  | .bool, cs => ∃ b, cs = [.val (.bool b)]
  | .str, cs => ∃ s : ByteArray, cs = [.val (.string s)] ∧ s.size ≤ maxLen
  | .sl e, cs => ∃ rows : List (List AV), (∀ r, r ∈ rows → Fits e r) ∧ rows.length ≤ maxLen ∧ cs = [.sl .fgn e.size rows.length none rows.flatten]
  | .st s, cs => Fits s cs
  | .unit, cs => cs = []
  | .pair a b, cs => ∃ xs ys, cs = xs ++ ys ∧ Fits a xs ∧ Fits b ys

theorem Fits.len : ∀ {s : Sh} {cs : List AV}, Fits s cs → cs.length = s.size
  | .int _, _, ⟨_, h, _⟩ => by rw [h]; rfl
  | .bool, _, ⟨_, h⟩ => by rw [h]; rfl
  | .str, _, ⟨_, h, _⟩ => by rw [h]; rfl
  | .sl _, _, ⟨_, _, _, h⟩ => by rw [h]; rfl
  | .st s, _, h => Fits.len (s := s) h
  | .unit, _, h => by rw [show _ = [] from h]; rfl
  | .pair a b, _, ⟨_, _, h, h1, h2⟩ => by rw [h, List.length_append, Fits.len h1, Fits.len h2]; rfl

mutual
def shT (P : Program) : Sh → TypeId → Bool
  | .int k, t => match P.underlying t with | some (.int k') => k' == k | _ => false
  | .bool, t => match P.underlying t with | some .bool => true | _ => false
  | .str, t => match P.underlying t with | some .string => true | _ => false
  | .sl e, t => match P.underlying t with | some (.slice u) => shT P e u && (P.cellsOf u == e.size && decide (0 < e.size)) | _ => false
  | .st s, t => match P.underlying t with | some (.struct fs) => shF P s 0 fs.toList && P.cellsOf t == s.size | _ => false
  | .unit, _ => false
  | .pair .., _ => false
def shF (P : Program) : Sh → Nat → List Field → Bool
  | .pair a b, off, f :: fs => f.offset == off && (shT P a f.type && (P.cellsOf f.type == a.size && shF P b (off + a.size) fs))
  | .unit, _, [] => true
  | _, _, _ => false
end

theorem flat_get {α : Type} {z : Nat} : ∀ (rows : List (List α)), (∀ r, r ∈ rows → r.length = z) → rows.flatten.length = rows.length * z ∧ ∀ j, j < rows.length * z → rows.flatten[j]? = (rows[j / z]?).bind fun r => r[j % z]?
  | [], _ => ⟨by simp, fun j h => by simp at h⟩
  | r :: rs, h => by
    obtain ⟨h1, h2⟩ := flat_get rs fun r hr => h r (by simp [hr])
    have hr := h r (by simp)
    refine ⟨by simp [h1, hr, Nat.add_mul]; omega, fun j hj => ?_⟩
    simp only [List.flatten_cons, List.length_cons, Nat.add_mul] at hj ⊢
    by_cases c : j < z
    · rw [List.getElem?_append_left (by omega)]
      have : j / z = 0 := Nat.div_eq_of_lt c
      simp [this, Nat.mod_eq_of_lt c]
    · rw [List.getElem?_append_right (by omega), hr, h2 _ (by omega)]
      have hz : 0 < z := by
        rcases Nat.eq_zero_or_pos z with e | e
        · subst e; omega
        · exact e
      have e1 : j / z = (j - z) / z + 1 := by
        have := Nat.add_div_right (j - z) hz
        rw [Nat.sub_add_cancel (by omega)] at this
        exact this
      have e2 : j % z = (j - z) % z := by
        have := Nat.add_mod_right (j - z) z
        rw [Nat.sub_add_cancel (by omega)] at this
        exact this
      rw [e1, e2, List.getElem?_cons_succ]

section
variable {H : Type} {enc : TypeId × Value → H} {P : Program} {w : World} {spare : Nat → Bool} {held : Bool}

theorem addr_add_add (a : Addr) (i j : Nat) : (a.add i).add j = a.add (i + j) := by
  by_cases hi : i = 0 <;> by_cases hj : j = 0 <;> simp [Addr.add, hi, hj, Nat.add_assoc]
theorem addr_add_zero (a : Addr) : a.add 0 = a := by
  simp [Addr.add]

theorem rd_nokeys {w : World} {S : Nat → Prop} {x : AV} {v : Value} (h : RD w S x v) : qf6 x = [] := by cases h <;> rfl

abbrev All (w : World) : Nat → Prop := fun b => b < w.heap.size

theorem cell?_blk {a : Addr} {v : Value} (h : w.cell? a = some v) : ∃ arr, a = ⟨a.block, a.off, none⟩ ∧ RBlk w a.block arr ∧ arr[a.off]? = some v := by
  have hs := World.cell?_spot h
  obtain ⟨b, o, s⟩ := a
  simp only at hs
  subst hs
  simp only [World.cell?] at h
  split at h
  · rename_i arr e fr hb
    exact ⟨arr, rfl, ⟨e, fr, hb⟩, by simpa using h⟩
  all_goals simp at h

mutual
theorem open_sh : ∀ (s : Sh) (t : TypeId) (fuel : Nat) (cs : List Value) (x : DataW H × List MemPlace), shT P s t = true → DataW.trod enc P w 0 spare held fuel t cs = some x →
    ∃ avs, Fits s avs ∧ avs.length = cs.length ∧ ∀ i (h : i < avs.length) (h' : i < cs.length), RD w (All w) avs[i] cs[i]
  | .int k, t, fuel, cs, x, hs, h => by
    simp only [shT] at hs
    split at hs
    · rename_i k' hu
      have := eq_of_beq hs; subst this
      obtain ⟨n, rfl, _, hw⟩ := DataW.trod_int hu h
      exact ⟨[.val (.int k' n)], ⟨n, rfl, hw⟩, rfl, fun i h h' => by
        have : i = 0 := by simpa using h
        subst this; exact .val _ rfl⟩
    · simp at hs
  | .bool, t, fuel, cs, x, hs, h => by
    simp only [shT] at hs
    split at hs
    · rename_i hu
      obtain ⟨b, rfl, _⟩ := DataW.trod_bool hu h
      exact ⟨[.val (.bool b)], ⟨b, rfl⟩, rfl, fun i h h' => by
        have : i = 0 := by simpa using h
        subst this; exact .val _ rfl⟩
    · simp at hs
  | .str, t, fuel, cs, x, hs, h => by
    simp only [shT] at hs
    split at hs
    · rename_i hu
      obtain ⟨b, rfl, _, hl⟩ := DataW.trod_string hu h
      exact ⟨[.val (.string b)], ⟨b, rfl, hl⟩, rfl, fun i h h' => by
        have : i = 0 := by simpa using h
        subst this; exact .val _ rfl⟩
    · simp at hs
  | .sl e, t, fuel, cs, x, hs, h => by
    simp only [shT] at hs
    split at hs
    · rename_i u hu
      simp only [Bool.and_eq_true, beq_iff_eq, decide_eq_true_eq] at hs
      obtain ⟨hs, hz, hpos⟩ := hs
      rcases DataW.trod_slice hu h with ⟨rfl, _⟩ | ⟨a, len, cap, elems, rest, n, _, rfl, _, _, hl, hm, hlen, hel, _, _⟩
      · exact ⟨[.sl .fgn e.size 0 none []], ⟨[], by simp, Nat.zero_le _, rfl⟩, rfl, fun i h h' => by
          have : i = 0 := by simpa using h
          subst this; exact .nil _ _ _ _ _ (by simp)⟩
      · have each : ∀ i, i < len → ∃ r : List AV, Fits e r ∧ r.length = e.size ∧ ∀ j (hj : j < r.length), ∃ v, w.cell? (a.add (i * e.size + j)) = some v ∧ RD w (All w) r[j] v := by
          intro i hi
          have h1 := hel i hi
          rw [List.getElem?_eq_getElem (by omega), Option.bind_eq_some_iff] at h1
          obtain ⟨cs', hc1, hc2⟩ := h1
          obtain ⟨_, hcl, hcc⟩ := World.cells?_some hc1
          obtain ⟨r, r1, r2, r3⟩ := open_sh e u n cs' _ hs hc2
          refine ⟨r, r1, r1.len, fun j hj => ⟨cs'[j], ?_, r3 j hj (by omega)⟩⟩
          have := hcc j (by omega)
          rw [List.getElem?_eq_getElem (by omega)] at this
          rw [← this, hz, addr_add_add]
        let f : Nat → List AV := fun i => if h : i < len then Classical.choose (each i h) else []
        have hf : ∀ i, i < len → Fits e (f i) ∧ (f i).length = e.size ∧ ∀ j (hj : j < (f i).length), ∃ v, w.cell? (a.add (i * e.size + j)) = some v ∧ RD w (All w) (f i)[j] v := by
          intro i hi
          have := Classical.choose_spec (each i hi)
          simp only [f, hi, dif_pos]
          exact this
        let rows := (List.range len).map f
        have hrl : rows.length = len := by simp [rows]
        have hrows : ∀ r, r ∈ rows → r.length = e.size := by
          intro r hr
          obtain ⟨i, hi, rfl⟩ := List.mem_map.mp hr
          exact (hf i (by simpa using hi)).2.1
        obtain ⟨g1, g2⟩ := flat_get rows hrows
        refine ⟨[.sl .fgn e.size rows.length none rows.flatten], ⟨rows, fun r hr => ?_, by omega, rfl⟩, rfl, fun i h h' => ?_⟩
        · obtain ⟨i, hi, rfl⟩ := List.mem_map.mp hr
          exact (hf i (by simpa using hi)).1
        · have : i = 0 := by simpa using h
          subst this
          show RD w (All w) (.sl .fgn e.size rows.length none rows.flatten) (.slice (some a) len cap)
          have hcell : ∀ j (hj : j < rows.flatten.length), ∃ v, w.cell? (a.add j) = some v ∧ RD w (All w) rows.flatten[j] v := by
            intro j hj
            have hj' : j < len * e.size := by rw [g1, hrl] at hj; exact hj
            have hq : j / e.size < len := (Nat.div_lt_iff_lt_mul hpos).mpr hj'
            have h2 := g2 j (by rw [hrl]; exact hj')
            have h3 : rows[j / e.size]? = some (f (j / e.size)) := by simp [rows, hq]
            rw [h3, Option.bind_some] at h2
            obtain ⟨f1, f2, f3⟩ := hf _ hq
            have hm' : j % e.size < (f (j / e.size)).length := by rw [f2]; exact Nat.mod_lt _ hpos
            obtain ⟨v, v1, v2⟩ := f3 _ hm'
            rw [List.getElem?_eq_getElem hj, List.getElem?_eq_getElem hm'] at h2
            refine ⟨v, ?_, by rw [Option.some.inj h2]; exact v2⟩
            rw [← v1]
            congr 2
            have := Nat.div_add_mod j e.size
            rw [Nat.mul_comm] at this; omega
          by_cases h0 : len = 0
          · have e1 : rows = [] := List.eq_nil_of_length_eq_zero (by omega)
            rw [e1, h0]
            exact .nil _ _ _ _ _ (by simp)
          · have hz0 : 0 < rows.flatten.length := by rw [g1, hrl]; exact Nat.mul_pos (by omega) hpos
            obtain ⟨v0, c0, _⟩ := hcell 0 hz0
            rw [addr_add_zero] at c0
            obtain ⟨arr, ha, hb, _⟩ := cell?_blk c0
            rw [ha, hrl]
            have hv : ∀ j, j < rows.flatten.length → arr[a.off + j]? = w.cell? (a.add j) := by
              intro j _
              rw [ha, WideShapes.add_plain, cell?_of hb]
            refine .sl .fgn e.size len none rows.flatten a.block a.off cap arr (fun j => (w.cell? (a.add j)).getD undef) hb.lt hb hl (by simp) (by rw [g1, hrl]) (fun j hj => ?_) (fun j hj => ?_)
            · obtain ⟨v, hv1, _⟩ := hcell j hj
              rw [hv j hj, hv1]; rfl
            · obtain ⟨v, hv1, hv2⟩ := hcell j hj
              simp only [hv1, Option.getD_some]; exact hv2
    · simp at hs
  | .st s, t, fuel, cs, x, hs, h => by
    simp only [shT] at hs
    split at hs
    · rename_i fs hu
      simp only [Bool.and_eq_true, beq_iff_eq] at hs
      obtain ⟨xs, n, _, _, hl, hxl, hfs⟩ := DataW.trod_struct hu h
      obtain ⟨avs, a1, a2, a3⟩ := open_shF s 0 fs.toList cs hs.1 (fun i f hf => by
        have hf' : fs[i]? = some f := by rw [← Array.getElem?_toList]; exact hf
        have := hfs i f hf'
        have hi : i < xs.length := by
          have := (Array.getElem?_eq_some_iff.mp hf').1
          omega
        rw [List.getElem?_eq_getElem hi] at this
        exact ⟨n, _, this⟩)
      refine ⟨avs, a1, by rw [a2, hl, hs.2], fun i h h' => ?_⟩
      obtain ⟨v, v1, v2⟩ := a3 i h
      rw [Nat.zero_add, List.getElem?_eq_getElem h'] at v1
      rw [Option.some.inj v1]; exact v2
    · simp at hs
  | .unit, _, _, _, _, hs, _ => by simp [shT] at hs
  | .pair _ _, _, _, _, _, hs, _ => by simp [shT] at hs
theorem open_shF : ∀ (s : Sh) (off : Nat) (fs : List Field) (cs : List Value), shF P s off fs = true → (∀ (i : Nat) f, fs[i]? = some f → ∃ n x, DataW.trod enc P w 0 spare held n f.type ((cs.drop f.offset).take (P.cellsOf f.type)) = some x) →
    ∃ avs, Fits s avs ∧ avs.length = s.size ∧ ∀ i (h : i < avs.length), ∃ v, cs[off + i]? = some v ∧ RD w (All w) avs[i] v
  | .pair a b, off, f :: fs, cs, hs, h => by
    simp only [shF, Bool.and_eq_true, beq_iff_eq] at hs
    obtain ⟨h1, h2, h3, h4⟩ := hs
    obtain ⟨n, x, hx⟩ := h 0 f rfl
    obtain ⟨xs, x1, x2, x3⟩ := open_sh a f.type n _ x h2 hx
    obtain ⟨ys, y1, y2, y3⟩ := open_shF b (off + a.size) fs cs h4 (fun i g hg => h (i + 1) g (by simpa using hg))
    have hxl := x1.len
    refine ⟨xs ++ ys, ⟨xs, ys, rfl, x1, y1⟩, by rw [List.length_append, hxl, y2]; rfl, fun i hi => ?_⟩
    by_cases c : i < xs.length
    · rw [List.getElem_append_left c]
      have hc : i < ((cs.drop f.offset).take (P.cellsOf f.type)).length := by omega
      refine ⟨_, ?_, x3 i c hc⟩
      have : ((cs.drop f.offset).take (P.cellsOf f.type))[i]? = cs[off + i]? := by
        rw [List.getElem?_take, if_pos (by omega), List.getElem?_drop, h1]
      rw [← this, List.getElem?_eq_getElem hc]
    · rw [List.getElem_append_right (by omega)]
      rw [List.length_append] at hi
      obtain ⟨v, v1, v2⟩ := y3 (i - xs.length) (by omega)
      refine ⟨v, ?_, v2⟩
      rw [← v1]; congr 1; omega
  | .unit, _, [], cs, _, _ => ⟨[], rfl, rfl, fun i h => by simp at h⟩
  | .unit, _, _ :: _, _, hs, _ => by simp [shF] at hs
  | .pair _ _, _, [], _, hs, _ => by simp [shF] at hs
  | .int _, _, _, _, hs, _ => by simp [shF] at hs
  | .bool, _, _, _, hs, _ => by simp [shF] at hs
  | .str, _, _, _, hs, _ => by simp [shF] at hs
  | .sl _, _, _, _, hs, _ => by simp [shF] at hs
  | .st _, _, _, _, hs, _ => by simp [shF] at hs
end

def FitsA : Sh → AV → Prop
  | .st s, x => ∃ cs, x = .agg cs ∧ Fits s cs
  | s, x => Fits s [x]

def ctx (w : World) : Cx := ⟨w, All w, All w⟩

theorem rd_rv' {μ : Nat → Option (Nat × Nat)} {Hp : Heap} {x : AV} {v : Value} (h : RD w (All w) x v) (hx : ∀ z n cap cs tg, x = .sl tg z n cap cs → tg = .fgn) : RV (ctx w) μ Hp w x v := by
  have := rd_rv (X := ctx w) (μ := μ) (H := Hp) (w := w) (tg := .fgn) (by simp) (x := x) (v := v) h
  cases x with
  | sl tg z n cap cs => have := hx z n cap cs tg rfl; subst this; assumption
  | _ => exact this

theorem fits_tag : ∀ {s : Sh} {cs : List AV}, Fits s cs → ∀ x, x ∈ cs → (∀ z n cap es tg, x = .sl tg z n cap es → tg = .fgn)
  | .int _, _, ⟨_, h, _⟩, x, hx, z, n, cap, es, tg, e => by rw [h] at hx; simp at hx; rw [e] at hx; simp at hx
  | .bool, _, ⟨_, h⟩, x, hx, z, n, cap, es, tg, e => by rw [h] at hx; simp at hx; rw [e] at hx; simp at hx
  | .str, _, ⟨_, h, _⟩, x, hx, z, n, cap, es, tg, e => by rw [h] at hx; simp at hx; rw [e] at hx; simp at hx
  | .sl _, _, ⟨_, _, _, h⟩, x, hx, z, n, cap, es, tg, e => by rw [h] at hx; simp at hx; rw [e] at hx; simp at hx; exact hx.1
  | .st s, _, h, x, hx, z, n, cap, es, tg, e => fits_tag (s := s) h x hx z n cap es tg e
  | .unit, _, h, x, hx, z, n, cap, es, tg, e => by rw [show _ = [] from h] at hx; simp at hx
  | .pair a b, _, ⟨xs, ys, h, h1, h2⟩, x, hx, z, n, cap, es, tg, e => by
    rw [h, List.mem_append] at hx
    exact hx.elim (fun hx => fits_tag h1 x hx z n cap es tg e) (fun hx => fits_tag h2 x hx z n cap es tg e)

theorem open_arg {s : Sh} {t : TypeId} {v : Value} {d : DataW H} {ps : List MemPlace} {r : Reach} {b0 : Nat} (hs : shT P s t = true) (hv : Value.okWide P w r b0 t v) (h : DataW.Trod enc P w 0 spare held t v d ps) {μ : Nat → Option (Nat × Nat)} {Hp : Heap} :
    ∃ x, FitsA s x ∧ RV (ctx w) μ Hp w x v ∧ qf6 x = [] := by
  obtain ⟨fuel, hf⟩ := h
  obtain ⟨avs, a1, a2, a3⟩ := open_sh s t fuel _ _ hs hf
  have htag := fits_tag a1
  have hone : ∀ (hu : (v.cells = #[v])) , (s.size = 1) → (∀ u, s ≠ .st u) → ∃ x, FitsA s x ∧ RV (ctx w) μ Hp w x v ∧ qf6 x = [] := by
    intro hc hz hst
    have hl := a1.len
    obtain ⟨x, rfl⟩ : ∃ x, avs = [x] := by
      match avs, hl with
      | [x], _ => exact ⟨x, rfl⟩
      | [], h => simp [hz] at h
      | _ :: _ :: _, h => simp [hz] at h
    have h3 := a3 0 (by simp) (by rw [hc]; simp)
    simp only [hc, List.getElem_cons_zero] at h3
    refine ⟨x, ?_, rd_rv' h3 (htag x (by simp)), rd_nokeys h3⟩
    cases s <;> first | exact a1 | exact absurd rfl (hst _)
  cases s with
  | int k =>
    simp only [shT] at hs
    split at hs
    · rename_i k' hu
      obtain ⟨n, rfl⟩ := WideShapes.okWide_int hu hv
      exact hone rfl rfl (by simp)
    · simp at hs
  | bool =>
    simp only [shT] at hs
    split at hs
    · rename_i hu
      obtain ⟨n, rfl⟩ := WideShapes.okWide_bool hu hv
      exact hone rfl rfl (by simp)
    · simp at hs
  | str =>
    simp only [shT] at hs
    split at hs
    · rename_i hu
      obtain ⟨n, rfl⟩ := WideShapes.okWide_string hu hv
      exact hone rfl rfl (by simp)
    · simp at hs
  | sl e =>
    simp only [shT] at hs
    split at hs
    · rename_i u hu
      obtain ⟨a, l, c, rfl⟩ := WideShapes.okWide_slice hu hv
      exact hone rfl rfl (by simp)
    · simp at hs
  | st s =>
    simp only [shT] at hs
    split at hs
    · rename_i fs hu
      obtain ⟨cs, rfl, _⟩ := WideShapes.okWide_struct hu hv
      simp only [Value.cells, Array.length_toList, Array.getElem_toList] at a2 a3
      refine ⟨.agg avs, ⟨avs, rfl, a1⟩, .agg _ _ a2.symm (fun i hi => (a3 i (by omega) hi).leaf) (fun i hi hi' => rd_rv' (a3 i hi hi') (htag _ (List.getElem_mem _))), ?_⟩
      simp only [qf6]
      refine List.eq_nil_iff_forall_not_mem.mpr fun k hk => ?_
      obtain ⟨i, hi, hk⟩ := keysL_mem hk
      have := a3 i hi (by omega)
      rw [rd_nokeys this] at hk
      simp at hk
    · simp at hs
  | unit => simp [shT] at hs
  | pair a b => simp [shT] at hs

def FitsAll : List Sh → List AV → Prop
  | [], [] => True
  | s :: ss, x :: xs => FitsA s x ∧ FitsAll ss xs
  | _, _ => False

theorem open_args {r : Reach} {b0 : Nat} {μ : Nat → Option (Nat × Nat)} {Hp : Heap} : ∀ {shs : List Sh} {ts : List TypeId} {vs : List Value} {ds : List (DataW H)} {ps : List MemPlace}, shs.length = ts.length → (∀ i (h : i < shs.length) (h' : i < ts.length), shT P shs[i] ts[i] = true) →
    (∀ (i : Nat) (t : TypeId) (v : Value), ts[i]? = some t → vs[i]? = some v → Value.okWide P w r b0 t v) → DataW.TrodAll enc P w 0 spare held ts vs ds ps →
    ∃ xs, FitsAll shs xs ∧ vs.length = xs.length ∧ (∀ i (h : i < xs.length) (h' : i < vs.length), RV (ctx w) μ Hp w xs[i] vs[i]) ∧ qf5 xs = []
  | [], [], vs, ds, ps, _, _, _, h => by
    obtain ⟨rfl, _, _⟩ := ChangeShapes.trodAll_nil h
    exact ⟨[], trivial, rfl, fun i h => by simp at h, rfl⟩
  | s :: shs, t :: ts, vs, ds, ps, hl, hs, hv, h => by
    obtain ⟨v, vs', d, ds', p, q, rfl, rfl, rfl, h1, h2⟩ := ChangeShapes.trodAll_cons h
    obtain ⟨x, x1, x2, x3⟩ := open_arg (μ := μ) (Hp := Hp) (hs 0 (by simp) (by simp)) (hv 0 t v rfl rfl) h1
    obtain ⟨xs, y1, y2, y3, y4⟩ := open_args (μ := μ) (Hp := Hp) (shs := shs) (by simpa using hl) (fun i h h' => hs (i + 1) (by simpa using h) (by simpa using h')) (fun i t v ht hv' => hv (i + 1) t v (by simpa using ht) (by simpa using hv')) h2
    refine ⟨x :: xs, ⟨x1, y1⟩, by simp [y2], fun i h h' => ?_, by simp [qf5, x3, y4]⟩
    cases i with
    | zero => exact x2
    | succ i => exact y3 i (by simpa using h) (by simpa using h')
  | [], _ :: _, _, _, _, hl, _, _, _ => by simp at hl
  | _ :: _, [], _, _, _, hl, _, _, _ => by simp at hl

theorem back_args {hl : laidOutB P = true} {W W' : World} (hb : RowKit.Below W.heap.size W W') : ∀ {ts : List TypeId} {vs : List Value} {ds : List (DataW H)} {ps : List MemPlace}, ts.all (fun t => P.readableRec t && decide (t < P.types.size)) = true → DataW.TrodAll enc P W 0 (fun _ => true) true ts vs ds ps →
    DataW.TrodAll enc P W' 0 (fun b => decide (b < W.heap.size)) true ts vs ds ps
  | [], vs, ds, ps, _, h => by
    obtain ⟨rfl, rfl, rfl⟩ := ChangeShapes.trodAll_nil h
    rfl
  | t :: ts, vs, ds, ps, ht, h => by
    obtain ⟨v, vs', d, ds', p, q, rfl, rfl, rfl, h1, h2⟩ := ChangeShapes.trodAll_cons h
    simp only [List.all_cons, Bool.and_eq_true, decide_eq_true_eq] at ht
    refine ⟨p, q, RowKit.Below.trod hl ht.1.1 ht.1.2 h1 hb (fun x hx => ?_), back_args (hl := hl) hb (by simpa using ht.2) h2, rfl⟩
    obtain ⟨m, hm⟩ := h1
    exact DataW.trod_lt m _ _ _ hm x hx

theorem trodAll_len {base : Nat} : ∀ {ts : List TypeId} {vs : List Value} {ds : List (DataW H)} {ps : List MemPlace}, DataW.TrodAll enc P w base spare held ts vs ds ps → ds.length = ts.length
  | [], vs, ds, ps, h => by obtain ⟨_, rfl, _⟩ := ChangeShapes.trodAll_nil h; rfl
  | t :: ts, vs, ds, ps, h => by
    obtain ⟨v, vs', d, ds', p, q, rfl, rfl, rfl, _, h2⟩ := ChangeShapes.trodAll_cons h
    simp [trodAll_len h2]

def shAll (P : Program) : List Sh → List TypeId → Bool
  | [], [] => true
  | s :: ss, t :: ts => shT P s t && shAll P ss ts
  | _, _ => false

theorem shAll_len : ∀ {ss : List Sh} {ts : List TypeId}, shAll P ss ts = true → ss.length = ts.length
  | [], [], _ => rfl
  | s :: ss, t :: ts, h => by
    simp only [shAll, Bool.and_eq_true] at h
    simp [shAll_len h.2]
  | [], _ :: _, h => by simp [shAll] at h
  | _ :: _, [], h => by simp [shAll] at h

theorem shAll_get : ∀ {ss : List Sh} {ts : List TypeId}, shAll P ss ts = true → ∀ (i : Nat) (h : i < ss.length) (h' : i < ts.length), shT P ss[i] ts[i] = true
  | s :: ss, t :: ts, h, 0, _, _ => by
    simp only [shAll, Bool.and_eq_true] at h
    exact h.1
  | s :: ss, t :: ts, h, i + 1, h1, h2 => by
    simp only [shAll, Bool.and_eq_true] at h
    exact shAll_get h.2 i (by simpa using h1) (by simpa using h2)
  | [], _, _, i, h, _ => by simp at h
  | _ :: _, [], h, _, _, _ => by simp [shAll] at h

theorem lifted {C : Checked} {n : FuncId} {fn : Func} {s : ChangeSpec} {shs : List Sh} {E : Env} {conds : List PathCond} {os : Os} {tb : TypeId}
    (own : ownKnob C.prog.godebug = none) (started : os.Started) (noInit : C.prog.inits.idxOf? n = none) (hfn : C.prog.funcs[n]? = some fn) (laid : laidOutB C.prog = true) (hres : fn.resultTypes = #[tb]) (hbool : C.prog.underlying tb = some .bool)
    (hvars : s.vars = []) (hspec : ∀ ds : List (DataW H), ds.length = shs.length → s.fn H ds = { results := [.lit (.bool true)], args := ds })
    (hsh : shAll C.prog shs fn.params.toList = true)
    (hread : fn.params.toList.all (fun t => C.prog.readableRec t && decide (t < C.prog.types.size)) = true)
    (hE : E.OK C.prog) (hB : E.Bodies C.prog) (hP : C.prog.follows .mixedOrders = true) (hH : OrcOK C.prog E.hand) (hbn : (E.body n).isSome = true)
    (law : ∀ xs, FitsAll shs xs → ∃ d, evFun E d n xs [] = some (.val (.bool true), []))
    (witness : ∃ (w : World) (tape : Tape) (i : Input), w.os = os ∧ (w.forCall tape i).Shaped C.prog ∧ i.vars = [] ∧ Input.okWide C.prog (w.forCall tape i) .any w.heap.size n i ∧
      s.pre6 enc C.prog fn conds false (w.forCall tape i).memory i.args ∧ ({} : Assume).holds C.prog (lone (Frame.enter C.prog n i.args .normal) [] (w.forCall tape i))) :
    ReturnsInHanded {} C os n .any (s.pre6 enc C.prog fn conds false) (s.post enc C.prog fn false true false false) := by
  refine returnsInHanded_of_change_sized own started noInit hfn witness ?_
  intro W base args ds gs before hval hW _ _ _
  have hW' := hW
  obtain ⟨p, q, hA, hV, rfl, hfz, hnd⟩ := hW
  rw [hvars] at hV
  obtain ⟨rfl, rfl⟩ := ChangeShapes.trodVars_none hV
  obtain ⟨xs, f1, f2, f3, f4⟩ := open_args (μ := fun _ => none) (Hp := hp (([] : List (List AV)).map some)) (shAll_len hsh) (shAll_get hsh) (fun i t v ht hv => hval i t v (by rw [← Array.getElem?_toList]; exact ht) (by rw [← Array.getElem?_toList]; exact hv)) hA
  obtain ⟨d, hd⟩ := law xs f1
  have hWF : (ctx W).WF := ⟨fun b h => h, fun b h => h⟩
  have hnone : ∀ k, hp (([] : List (List AV)).map some) k = none := fun k => by simp [hp]
  have hargs : Args (ctx W) (fun _ => none) (fun _ _ => False) [] W xs args := ⟨⟨rfl, rfl, rfl, Nat.le_refl _, fun _ _ => rfl, fun k cs h => by rw [hnone] at h; simp at h, fun k k' cs cs' _ h => by rw [hnone] at h; simp at h, fun k cs b h => by rw [hnone] at h; simp at h, fun _ h => h.elim⟩, by rw [← f2]; simp, fun i h h' => by
    have := f3 i h (by simpa using h')
    simpa using this, fun k hk => by rw [f4] at hk; simp at hk⟩
  have hinv := evFun_sound hE hB hP (fun C hC => exec_sound hE hC) hH d n xs [] _ _ hd (ctx W) _ _ W args hWF hargs
  have hcalls : Calls C.prog n args W (fun e w' => ∃ v, e = .returned v ∧ Ret (ctx W) (fun _ => none) [] W (.val (.bool true)) [] v w') := by
    rcases hinv with ⟨_, h⟩ | ⟨v, w', h, _⟩
    · exact h
    · exfalso
      cases hb : E.body n with
      | none => rw [hb] at hbn; simp at hbn
      | some crs =>
        obtain ⟨c, rs⟩ := crs
        obtain ⟨fn', hfn', hbody, _, _, hname⟩ := hB.body n c rs hb
        have hn : ¬ fn'.name = "runtime.NumGoroutine" := by simpa using hname
        simp [callFunc, hfn', hn, hbody] at h
  refine hcalls.mono fun e w' ⟨v, he, hret⟩ => ⟨v, he, ?_⟩
  obtain ⟨μ', F', ks, hR, hv, _⟩ := hret
  have hv' : v = .bool true := by cases hv; rfl
  subst hv'
  have bel : RowKit.Below W.heap.size W w' := ⟨hR.os, hR.tape, hR.output, hR.size, fun b hb => hR.frame b hb⟩
  have hs := hspec ds (by rw [trodAll_len hA, shAll_len hsh])
  refine ⟨ds, [], p ++ [], [], p, [], hW', ?_, ?_, ?_, bel.frame _, fun h => by cases h⟩
  · rw [List.append_nil, hs, hres]
    exact ChangeShapes.trodAll_mk1 (RowKit.shut_bool hbool _)
  · rw [List.append_nil, hs]
    exact back_args (hl := laid) bel hread hA
  · rw [List.append_nil, hs, hvars]; rfl

end
end Go.Proofs.Ythgopooldcheeaa.VH
end

section
namespace Go.Proofs.Ythgopooldcheeaa.VH

/- The same, where package variables are laid. -/
open Go.ChangeShapes Go.RowKit in
section
variable {H : Type} {enc : TypeId × Value → H}
end
end Go.Proofs.Ythgopooldcheeaa.VH
end

