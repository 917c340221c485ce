/- Part of a proof about the given program: the verified evaluator and what it tells of the functions (VhApp2). Conditions: none beyond the hypotheses that each theorem states. -/
import Derived.Test.YtlmifbpihlcabaaVhApp
namespace Go.Proofs.Ytlmifbpihlcabaa.VH

section
variable {R : Type} {X : Cx} {U : Nat → Prop} {fr : Nat} {μ : Nat → Option (Nat × Nat)} {F : Nat → Nat → Prop} {H : Heap} {w : World} {P : Program} {E : Env}

/-- an empty row -/
theorem empty_op {K : AV → Heap → Tr → Option R} {r : R} {t' : Tr} {H0 : Heap} (hX : X.WF) (hR : Rel X μ F H w (fun _ => False)) (hK : ∀ U, Keep U [] μ H0 w μ H w) (hN : ∀ j, H0 j = none → H j = none) (ht : t'.kl = [])
    (hf : H0 fr = none) (hU : ∀ k, U k → k ≠ fr) {z : Nat} {A : Option Addr} (h : (HM.put fr (some []) (HM.ret (AV.ref fr [] z 0 0 none))).run H t' K = some r) : OP X U fr μ H0 w K r (.slice A 0 0) w := by
  simp only [HM.run] at h
  obtain ⟨h1, h2⟩ := newroot_chg (w' := w) (m := none) (T := fun _ => False) (ys := []) (G := fun _ => False) (E := fun _ => False) (S := fun _ => False) hX (rel_nil hR (by simp)) (hN fr hf) (Chg.refl _ _) (fun _ h => h) rfl (fun _ h => h.elim)
  refine ⟨.ref fr [] z 0 0 none, _, _, _, _, h, h1, ?_, ?_, ?_, ?_⟩
  · have := (hK U).trans (h2 U hU)
    simpa [ht] using this
  · refine .ref fr [] z 0 0 none A 0 (Nat.le_refl _) (by simp) (fun _ => rfl) fun cs res ds hk hq => ?_
    obtain ⟨e, rfl⟩ := hq
    simp only [updM, if_true] at e
    subst e
    exact rfl
  · intro k hk; simp [keysAV] at hk; right; omega
  · exact keep_fresh hN

theorem app_nil {K : AV → Heap → Tr → Option R} {r : R} {t' : Tr} {F' : Nat → Nat → Prop} {H' : Heap} (hX : X.WF) {ts : Array TypeId} {ty' e : TypeId} {re : Row} (hre : RowOK P e re)
    {m : Nat} {u : Value} {new : List AV} {vals : List Value} {Ts : Nat → Nat → Prop} (S : Src0 X μ F' H H' w re.size m new vals Ts) (hA : AppRun P w ts ty' e re m u vals) (ht : t'.kl = []) (hf : H fr = none) (hU : ∀ k, U k → k ≠ fr)
    (hm : m ≤ LIM) (h : (HM.put fr (some new) (HM.ret (AV.ref fr [] re.size 0 m none))).run H' t' K = some r) : ∃ z w', (Builtin.append_ ts ty' #[.slice none 0 0, u]).run P w = .ok z w' ∧ OP X U fr μ H w K r z w' := by
  by_cases h0 : m = 0
  · subst h0
    have hn : new = [] := List.eq_nil_of_length_eq_zero (by rw [S.len]; simp)
    subst hn
    have hv : vals = [] := List.eq_nil_of_length_eq_zero (by rw [S.vlen]; rfl)
    subst hv
    refine ⟨_, w, hA.here _ _ _ w (by omega) (fun a ha => by simp at ha) (fun _ => rfl), ?_⟩
    exact empty_op hX (S.rel.weak (fun b hb => hb.elim)) S.keep S.none ht hf hU h
  · obtain ⟨z, hz, hrun⟩ := hA.grow none 0 0 [] (src_nil (w := w)) (by omega) (by omega)
    refine ⟨_, _, hrun, ?_⟩
    have hg := grownCap_ge w (0 + m) 0 e
    simp only [Nat.zero_add] at hg ⊢
    have := grow_op (vs := vals) (e := e) (nn := m) (cap := grownCap w m 0 e) hX S.rel S.keep S.none ht hf hU hz hre.zl S.len S.vlen hg S.ow S.dis h
    simpa using this

/-- old cells, then new ones -/
theorem join_ow {olds new : List AV} {os vals : List Value} {Os Ts : Nat → Nat → Prop} (h1 : os.length = olds.length) (h2 : vals.length = new.length) (ho : ∀ i (h : i < olds.length) (h' : i < os.length), OW X w olds[i] os[i] (Os i)) (hn : ∀ i (h : i < new.length) (h' : i < vals.length), OW X w new[i] vals[i] (Ts i)) :
    ∀ i (h : i < (olds ++ new).length) (h' : i < (os ++ vals).length), OW X w (olds ++ new)[i] (os ++ vals)[i] (if i < olds.length then Os i else Ts (i - olds.length)) := by
  intro i h h'
  by_cases c : i < olds.length
  · rw [if_pos c, List.getElem_append_left c, List.getElem_append_left (by omega)]
    exact ho i c _
  · rw [if_neg c, List.getElem_append_right (by omega), List.getElem_append_right (by omega)]
    simp only [h1]
    exact hn _ _ _

theorem join_dis {olds new : List AV} {Os Ts : Nat → Nat → Prop} (h1 : ∀ i j, i < olds.length → j < olds.length → i ≠ j → ∀ x, Os i x → ¬ Os j x) (h2 : ∀ i j, i < new.length → j < new.length → i ≠ j → ∀ x, Ts i x → ¬ Ts j x) (h3 : ∀ i j, i < olds.length → j < new.length → ∀ x, Os i x → ¬ Ts j x) :
    ∀ i j, i < (olds ++ new).length → j < (olds ++ new).length → i ≠ j → ∀ x, (if i < olds.length then Os i else Ts (i - olds.length)) x → ¬ (if j < olds.length then Os j else Ts (j - olds.length)) x := by
  intro i j hi hj hne x hx hx'
  rw [List.length_append] at hi hj
  by_cases c : i < olds.length
  · rw [if_pos c] at hx
    by_cases c' : j < olds.length
    · rw [if_pos c'] at hx'; exact h1 i j c c' hne x hx hx'
    · rw [if_neg c'] at hx'; exact h3 i _ c (by omega) x hx hx'
  · rw [if_neg c] at hx
    by_cases c' : j < olds.length
    · rw [if_pos c'] at hx'; exact h3 j _ c' (by omega) x hx' hx
    · rw [if_neg c'] at hx'; exact h2 _ _ (by omega) (by omega) (by omega) x hx hx'

theorem app_sl {K : AV → Heap → Tr → Option R} {r : R} {t' : Tr} {F' : Nat → Nat → Prop} {H' : Heap} (hX : X.WF) (hR : Rel X μ F H w (fun _ => False)) {ts : Array TypeId} {ty' e : TypeId} {re : Row} (hre : RowOK P e re)
    {m : Nat} {u ud : Value} {new : List AV} {vals : List Value} {Ts : Nat → Nat → Prop} (S : Src0 X μ F' H H' w re.size m new vals Ts) (hA : AppRun P w ts ty' e re m u vals) (ht : t'.kl = []) (hf : H fr = none) (hU : ∀ k, U k → k ≠ fr)
    {tg : Tg} {n : Nat} {cs : List AV} (hx : RV X μ H w (.sl tg re.size n (some n) cs) ud) (hnm : n = 0 ∨ 0 < m) (hm : n + m ≤ LIM) (h : (HM.put fr (some (borL tg cs ++ new)) (HM.ret (AV.ref fr [] re.size 0 (n + m) none))).run H' t' K = some r) : ∃ z w', (Builtin.append_ ts ty' #[ud, u]).run P w = .ok z w' ∧ OP X U fr μ H w K r z w' := by
  have key : ∀ (A : Option Addr) (olds : List Value), olds.length = cs.length → cs.length = n * re.size → SrcOK P w re.size n (.slice A n n) olds → (∀ i (h : i < cs.length) (h' : i < olds.length), RD X.w0 (tagS X tg) cs[i] olds[i]) → tg ≠ .own → ∃ z w', (Builtin.append_ ts ty' #[.slice A n n, u]).run P w = .ok z w' ∧ OP X U fr μ H w K r z w' := by
    intro A olds hol hcl hsrc hrd htg
    by_cases h0 : m = 0
    · have hn0 : n = 0 := by omega
      subst h0; subst hn0
      have hn : new = [] := List.eq_nil_of_length_eq_zero (by rw [S.len]; simp)
      subst hn
      have hc : cs = [] := List.eq_nil_of_length_eq_zero (by simpa using hcl)
      subst hc
      have hv : vals = [] := List.eq_nil_of_length_eq_zero (by rw [S.vlen]; rfl)
      subst hv
      refine ⟨_, w, hA.here _ _ _ w (by omega) (fun a _ => by simp [storeCells]) (fun _ => rfl), ?_⟩
      exact empty_op hX (S.rel.weak (fun b hb => hb.elim)) S.keep S.none ht hf hU (by simpa [borL] using h)
    · obtain ⟨z, hz, hrun⟩ := hA.grow _ _ _ _ hsrc (by omega) hm
      refine ⟨_, _, hrun, ?_⟩
      have hbl := borL_len tg cs
      have hO := join_ow (w := w) (X := X) (olds := borL tg cs) (new := new) (os := olds) (vals := vals) (Os := fun _ _ => False) (Ts := Ts) (by omega) S.vlen (fun i hi hi' => borL_get htg hi (hrd i (by omega) hi')) S.ow
      have hD := join_dis (olds := borL tg cs) (new := new) (Os := fun _ _ => False) (Ts := Ts) (fun _ _ _ _ _ _ h => h.elim) S.dis (fun _ _ _ _ _ h => h.elim)
      have hG := S.rel.weak (G' := fun b => False ∨ ∃ i, i < (borL tg cs ++ new).length ∧ (if i < (borL tg cs).length then (fun _ => False) else Ts (i - (borL tg cs).length)) b) (fun b hb => by
        rcases hb with hb | ⟨i, hi, hb⟩
        · exact hb.elim
        · by_cases c : i < (borL tg cs).length
          · rw [if_pos c] at hb; exact hb.elim
          · rw [if_neg c] at hb; rw [List.length_append] at hi; exact .inr ⟨_, by omega, hb⟩)
      have := grow_op (vs := olds ++ vals) (e := e) (nn := n + m) (cap := grownCap w (n + m) n e) hX hG S.keep S.none ht hf hU hz hre.zl (by rw [List.length_append, hbl, hcl, S.len, Nat.add_mul]) (by rw [List.length_append, List.length_append, hol, S.vlen, hbl]) (grownCap_ge w (n + m) n e) hO hD h
      simpa using this
  cases hx with
  | sl _ _ _ _ _ _ htg hr =>
    cases hr with
    | nil _ _ _ A c hc =>
      have : c = 0 := hc 0 rfl
      subst this
      exact key A [] rfl (by simp) src_nil (fun i h => by simp at h) htg
    | sl _ _ _ _ _ b o c arr vs h1 h2 h3 h4 h5 h6 h7 =>
      have hc := h4 n rfl
      subst hc
      have hbw : RBlk w b arr := h2.agree (hR.frame b (tagS_fo hX h1))
      refine key _ ((List.range cs.length).map vs) (by simp) h5 (src_load (by simpa using h5) fun j hj => ?_) (fun i hi hi' => by simpa using h7 i hi) htg
      simp only [List.length_map, List.length_range] at hj
      simp only [List.getElem_map, List.getElem_range]
      rw [cell?_of hbw]; exact h6 j hj

end
end Go.Proofs.Ytlmifbpihlcabaa.VH
