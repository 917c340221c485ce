/- Part of a proof about the given program: the verified evaluator and what it tells of the functions (VhTool). Conditions: none beyond the hypotheses that each theorem states. -/
import Derived.Test.YtlmifbpihlcabaaVhMove
namespace Go.Proofs.Ytlmifbpihlcabaa.VH

theorem HM.bind_assoc {α β γ : Type} (m : HM α) (f : α → HM β) (g : β → HM γ) : (m.bind f).bind g = m.bind fun a => (f a).bind g := by
  induction m with
  | ret a => rfl
  | fail => rfl
  | look k f' ih => simp only [HM.bind]; congr 1; funext cs; exact ih cs
  | put k c m ih => simp only [HM.bind, ih]
  | kill k m ih => simp only [HM.bind, ih]

theorem HM.ret_bind {α β : Type} (a : α) (f : α → HM β) : (HM.ret a).bind f = f a := rfl

theorem guardB_run {α β R : Type} {b : Bool} {m : HM α} {g : α → HM β} {H : Heap} {t : Tr} {K : β → Heap → Tr → Option R} {r : R} (h : ((guardB b m).bind g).run H t K = some r) : b = true ∧ (m.bind g).run H t K = some r := by
  cases b with
  | true => exact ⟨rfl, h⟩
  | false => simp [guardB, HM.bind, HM.run] at h

theorem guardB_run' {α R : Type} {b : Bool} {m : HM α} {H : Heap} {t : Tr} {K : α → Heap → Tr → Option R} {r : R} (h : (guardB b m).run H t K = some r) : b = true ∧ m.run H t K = some r := by
  cases b with
  | true => exact ⟨rfl, h⟩
  | false => simp [guardB, HM.run] at h

theorem ofOpt_run {α β R : Type} {o : Option α} {g : α → HM β} {H : Heap} {t : Tr} {K : β → Heap → Tr → Option R} {r : R} (h : ((ofOpt o).bind g).run H t K = some r) : ∃ a, o = some a ∧ (g a).run H t K = some r := by
  cases o with
  | some a => exact ⟨a, rfl, h⟩
  | none => simp [ofOpt, HM.bind, HM.run] at h

theorem RV.keep0 {X : Cx} {μ μ' : Nat → Option (Nat × Nat)} {H H' : Heap} {w w' : World} (hK : ∀ U, Keep U [] μ H w μ' H' w') {x : AV} {v : Value} (h : RV X μ H w x v) : RV X μ' H' w' x v := by
  have := h.keep (hK fun _ => True) fun _ _ => trivial
  rwa [killAV_nil] at this

theorem absorb1_sound {α R : Type} {X : Cx} {μ : Nat → Option (Nat × Nat)} {F : Nat → Nat → Prop} {H : Heap} {w : World} {G : Nat → Prop} {x : AV} {v : Value} {g : AV → HM α} {t : Tr} {K : α → Heap → Tr → Option R} {r : R}
    (hR : Rel X μ F H w G) (hx : RV X μ H w x v) (h : ((absorb1 x).bind g).run H t K = some r) :
    ∃ (y : AV) (H' : Heap) (t' : Tr) (F' : Nat → Nat → Prop) (T : Nat → Prop), (g y).run H' t' K = some r ∧ t'.kl = t.kl ∧ OW X w y v T ∧ Rel X μ F' H' w (fun b => G b ∨ T b) ∧ (∀ b, T b → ¬ G b) ∧ (∀ U, Keep U [] μ H w μ H' w) ∧ (∀ j, H j = none → H' j = none) := by
  have triv : ∀ y, OW X w y v (fun _ => False) → (g y).run H t K = some r → ∃ (y : AV) (H' : Heap) (t' : Tr) (F' : Nat → Nat → Prop) (T : Nat → Prop), (g y).run H' t' K = some r ∧ t'.kl = t.kl ∧ OW X w y v T ∧ Rel X μ F' H' w (fun b => G b ∨ T b) ∧ (∀ b, T b → ¬ G b) ∧ (∀ U, Keep U [] μ H w μ H' w) ∧ (∀ j, H j = none → H' j = none) := by
    intro y hy hg
    refine ⟨y, H, t, F, fun _ => False, hg, rfl, hy, ?_, fun _ h => h.elim, fun U => Keep.refl U μ H w, fun _ h => h⟩
    have e : (fun b => G b ∨ False) = G := by funext b; simp
    rw [e]; exact hR
  cases hx with
  | und v => simp [absorb1, HM.bind, HM.run] at h
  | val v =>
    simp only [absorb1] at h
    obtain ⟨hl, h⟩ := guardB_run h
    exact triv _ (.val v _ hl) h
  | sl tg z n cap cs v ht hr =>
    cases tg with
    | own => exact absurd rfl ht
    | fgn => exact triv _ (.fgn z n cap cs v _ hr) h
    | snap => exact triv _ (.snap z n cap cs v _ hr) h
  | ptr k p off a hh => simp [absorb1, HM.bind, HM.run] at h
  | rp => simp [absorb1, HM.bind, HM.run] at h
  | agg => simp [absorb1, HM.bind, HM.run] at h
  | tup => simp [absorb1, HM.bind, HM.run] at h
  | fn => simp [absorb1, HM.bind, HM.run] at h
  | ref k p z off n cap A c hn hc hA0 hh =>
    simp only [absorb1, HM.bind_assoc] at h
    obtain ⟨cs, ds, H', t', F', T, res, h, ht, hk, hs, hq, hat, hR', hTG, hK, hN, _⟩ := takeOut_sound hR h
    obtain ⟨hg, h⟩ := guardB_run h
    have hg := of_decide_eq_true hg
    refine ⟨_, H', t', F', T, h, ht, ?_, hR', hTG, hK, hN⟩
    have hok := hh cs res ds hk hq
    cases res with
    | none =>
      have hc0 : c = 0 := hok
      subst hc0
      have hn0 : n = 0 := by omega
      subst hn0
      simp only [Nat.zero_mul, List.take_zero]
      exact .nil z none A T (by simp)
    | some u =>
      obtain ⟨b, o⟩ := u
      rcases hok with hc0 | ⟨hA, hlen, hcap⟩
      · subst hc0
        have hn0 : n = 0 := by omega
        subst hn0
        simp only [Nat.zero_mul, List.take_zero]
        exact .nil z none A T (by simp)
      · subst hA
        have hC : Cells X w b (o + off) ((ds.drop off).take (n * z)) T := Cells.range hat off (n * z) hg
        obtain ⟨arr, vs, Ts, h1, h2, h3, h4, h5, h6, h7, h8⟩ := hC
        exact .own z n none _ b (o + off) c arr vs Ts T h1 h2 hn (by simp) (by simp; omega) (hcap arr h1.rblk) h4 h5 h6 h7 h8

theorem absorbL_sound {α R : Type} {X : Cx} {μ : Nat → Option (Nat × Nat)} {w : World} : ∀ {xs : List AV} {F : Nat → Nat → Prop} {H : Heap} {G : Nat → Prop} {vs : Nat → Value} {g : List AV → HM α} {t : Tr} {K : α → Heap → Tr → Option R} {r : R},
    Rel X μ F H w G → (∀ i (h : i < xs.length), RV X μ H w xs[i] (vs i)) → ((absorbL xs).bind g).run H t K = some r →
    ∃ (ys : List AV) (H' : Heap) (t' : Tr) (F' : Nat → Nat → Prop) (Ts : Nat → Nat → Prop), (g ys).run H' t' K = some r ∧ t'.kl = t.kl ∧ ys.length = xs.length ∧ (∀ i (h : i < ys.length), OW X w ys[i] (vs i) (Ts i)) ∧
      (∀ i j, i < ys.length → j < ys.length → i ≠ j → ∀ x, Ts i x → ¬ Ts j x) ∧ (∀ i, i < ys.length → ∀ x, Ts i x → ¬ G x) ∧
      Rel X μ F' H' w (fun b => G b ∨ ∃ i, i < ys.length ∧ Ts i b) ∧ (∀ U, Keep U [] μ H w μ H' w) ∧ (∀ j, H j = none → H' j = none) := by
  intro xs
  induction xs with
  | nil =>
    intro F H G vs g t K r hR _ h
    refine ⟨[], H, t, F, fun _ _ => False, h, rfl, rfl, fun i h => by simp at h, fun i _ h => by simp at h, fun i h => by simp at h, ?_, fun U => Keep.refl U μ H w, fun _ h => h⟩
    have e : (fun b => G b ∨ ∃ i, i < ([] : List AV).length ∧ False) = G := by funext b; simp
    rw [e]; exact hR
  | cons x xs ih =>
    intro F H G vs g t K r hR hx h
    simp only [absorbL, HM.bind_assoc] at h
    obtain ⟨y, H1, t1, F1, T, h, ht1, hO, hR1, hTG, hK1, hN1⟩ := absorb1_sound hR (hx 0 (by simp)) h
    obtain ⟨ys, H2, t2, F2, Ts, h, ht2, hlen, hOs, hds, hGs, hR2, hK2, hN2⟩ := ih (vs := fun i => vs (i + 1)) hR1 (fun i hi => (hx (i + 1) (by simpa using hi)).keep0 hK1) h
    refine ⟨y :: ys, H2, t2, F2, fun i => match i with | 0 => T | i + 1 => Ts i, h, ht2.trans ht1, by simp [hlen], fun i hi => ?_, fun i j hi hj hne x hxi hxj => ?_, fun i hi x hxi => ?_, ?_, fun U => (hK1 U).trans (hK2 U), fun j hj => hN2 j (hN1 j hj)⟩
    · cases i with
      | zero => exact hO
      | succ i => exact hOs i (by simpa using hi)
    · cases i with
      | zero =>
        cases j with
        | zero => exact hne rfl
        | succ j => exact hGs j (by simpa using hj) x hxj (.inr hxi)
      | succ i =>
        cases j with
        | zero => exact hGs i (by simpa using hi) x hxi (.inr hxj)
        | succ j => exact hds i j (by simpa using hi) (by simpa using hj) (by omega) x hxi hxj
    · cases i with
      | zero => exact hTG x hxi
      | succ i => exact fun hg => hGs i (by simpa using hi) x hxi (.inl hg)
    · have e : (fun b => G b ∨ ∃ i, i < (y :: ys).length ∧ (match i with | 0 => T | i + 1 => Ts i) b) = fun b => (G b ∨ T b) ∨ ∃ i, i < ys.length ∧ Ts i b := by
        funext b
        apply propext
        constructor
        · rintro (h | ⟨i, hi, h⟩)
          · exact .inl (.inl h)
          · cases i with
            | zero => exact .inl (.inr h)
            | succ i => exact .inr ⟨i, by simpa using hi, h⟩
        · rintro ((h | h) | ⟨i, hi, h⟩)
          · exact .inl h
          · exact .inr ⟨0, by simp, h⟩
          · exact .inr ⟨i + 1, by simpa using hi, h⟩
      rw [e]; exact hR2

theorem LocQ.uniq {w : World} : ∀ {p : List Nat} {m m' : Option (Nat × Nat)} {cs d d' : List AV} {u : Option (Nat × Nat)}, LocQ w u cs p m d → LocQ w u cs p m' d' → m = m' ∧ d = d' := by
  intro p
  induction p with
  | nil => intro m m' cs d d' u h h'; exact ⟨by rw [h.1, h'.1], by rw [h.2, h'.2]⟩
  | cons i p ih =>
    intro m m' cs d d' u h h'
    cases u with
    | none => exact h.elim
    | some u =>
      obtain ⟨_, _, _, _, A, c, k1, k2, k3⟩ := h
      obtain ⟨_, _, _, _, A', c', k1', k2', k3'⟩ := h'
      rw [k1] at k1'
      injection k1' with k1'; injection k1' with _ _ _ _ e; subst e
      rw [k2] at k2'
      injection k2' with k2'; injection k2' with e1 e2 e3; subst e1; subst e3
      rcases k3 with ⟨k, k3⟩ | ⟨k, _, _, e, k3⟩
      · rcases k3' with ⟨k', k3'⟩ | ⟨k', _, _, e', k3'⟩
        · exact ih k3 k3'
        · omega
      · rcases k3' with ⟨k', k3'⟩ | ⟨k', _, _, e', k3'⟩
        · omega
        · rw [e] at e'; injection e' with e'; injection e' with e1 e2; subst e1; subst e2
          exact ih k3 k3'

theorem LocQ.sub {w : World} : ∀ {p : List Nat} {m : Option (Nat × Nat)} {cs d : List AV} {u : Option (Nat × Nat)}, LocQ w u cs p m d → sub p cs = some d := by
  intro p
  induction p with
  | nil => intro m cs d u h; simp [VH.sub, h.2]
  | cons i p ih =>
    intro m cs d u h
    cases u with
    | none => exact h.elim
    | some u =>
      obtain ⟨_, _, _, _, A, c, k1, k2, k3⟩ := h
      simp only [VH.sub, k1]
      rcases k3 with ⟨_, k3⟩ | ⟨_, _, _, _, k3⟩ <;> exact ih k3

/-- the block of a place is one of its root's -/
theorem LocQ.mem {X : Cx} {μ : Nat → Option (Nat × Nat)} {F : Nat → Nat → Prop} {H : Heap} {w : World} {G : Nat → Prop} (hR : Rel X μ F H w G) {k : Nat} {p : List Nat} {cs ds : List AV} {b o : Nat} (hk : H k = some cs)
    (hq : LocQ w (μ k) cs p (some (b, o)) ds) : F k b ∧ b < w.heap.size := by
  obtain ⟨res, T, h1, h2, h3⟩ := look_at hR hk hq.sub
  obtain ⟨e, _⟩ := h1.uniq hq
  subst e
  obtain ⟨_, _, _, _, hT, _⟩ := h2
  exact ⟨h3 b hT, (hR.out k cs b hk (h3 b hT)).2.1⟩

/-- a look that is told of the world behind a change, at a root that is not touched -/
theorem LocQ.other {X : Cx} {μ : Nat → Option (Nat × Nat)} {F : Nat → Nat → Prop} {H : Heap} {w w' : World} {G : Nat → Prop} (hR : Rel X μ F H w G) {k : Nat} {p : List Nat} {cs ds : List AV} {r : Option (Nat × Nat)} (hk : H k = some cs)
    (hw : ∀ x, F k x → w'.heap[x]? = w.heap[x]?) (hq : LocQ w' (μ k) cs p r ds) : LocQ w (μ k) cs p r ds := by
  have hroot := hR.root k cs hk
  cases hm : μ k with
  | none =>
    rw [hm] at hq
    obtain ⟨rfl, rfl, rfl⟩ := hq.none_nil
    exact ⟨rfl, rfl⟩
  | some u =>
    obtain ⟨b, o⟩ := u
    rw [hm] at hq hroot
    exact hq.agree hroot hw

def updM (μ : Nat → Option (Nat × Nat)) (k : Nat) (m : Option (Nat × Nat)) : Nat → Option (Nat × Nat) := fun j => if j = k then m else μ j
def updF (F : Nat → Nat → Prop) (k : Nat) (T : Nat → Prop) : Nat → Nat → Prop := fun j => if j = k then T else F j

/-- a new root -/
theorem newroot {X : Cx} {μ : Nat → Option (Nat × Nat)} {F : Nat → Nat → Prop} {H : Heap} {w w' : World} {G E : Nat → Prop} {fr : Nat} {m : Option (Nat × Nat)} {ys : List AV} {T : Nat → Prop}
    (hX : X.WF) (hR : Rel X μ F H w (fun b => G b ∨ E b)) (hf : H fr = none) (hC : Chg w w' fun _ => False) (hat : At X w' m ys T)
    (hT : ∀ x, T x → E x ∧ ¬ G x ∨ (w.heap.size ≤ x ∧ x < w'.heap.size)) :
    Rel X (updM μ fr m) (updF F fr T) (upd H fr (some ys)) w' G ∧ ∀ U, (∀ k, U k → k ≠ fr) → Keep U [] μ H w (updM μ fr m) (upd H fr (some ys)) w' := by
  have hsame : ∀ b, b < w.heap.size → w'.heap[b]? = w.heap[b]? := fun b hb => hC.same b hb fun h => h
  constructor
  · refine ⟨hC.os.trans hR.os, hC.tape.trans hR.tape, hC.output.trans hR.output, Nat.le_trans hR.size hC.size, fun b hb => ?_, fun k cs hk => ?_, fun k k' cs cs' hne hk hk' b hb hb' => ?_, fun k cs b hk hb => ?_, fun b hb => ?_⟩
    · rw [hsame b (Nat.lt_of_lt_of_le (hX.fo b hb) hR.size)]; exact hR.frame b hb
    · by_cases hkf : k = fr
      · subst hkf
        simp only [upd, updM, updF, if_true] at hk ⊢
        injection hk with hk; subst hk
        cases m with
        | none => exact hat
        | some u => exact hat
      · simp only [upd, updM, updF, hkf, if_false] at hk ⊢
        have hroot := hR.root k cs hk
        cases hm : μ k with
        | none => rw [hm] at hroot; exact hroot
        | some u =>
          obtain ⟨b, o⟩ := u
          rw [hm] at hroot
          exact Cells.agree hroot fun x hx => hsame x (hR.out k cs x hk hx).2.1
    · by_cases hkf : k = fr
      · have hk'f : k' ≠ fr := fun e => hne (hkf.trans e.symm)
        subst hkf
        simp only [upd, updF, if_true, hk'f, if_false] at hk' hb hb'
        obtain ⟨_, a2, a3⟩ := hR.out k' cs' b hk' hb'
        rcases hT b hb with h | h
        · exact a3 (.inr h.1)
        · omega
      · by_cases hk'f : k' = fr
        · subst hk'f
          simp only [upd, updF, if_true, hkf, if_false] at hk hb hb'
          obtain ⟨_, a2, a3⟩ := hR.out k cs b hk hb
          rcases hT b hb' with h | h
          · exact a3 (.inr h.1)
          · omega
        · simp only [upd, updF, hkf, hk'f, if_false] at hk hk' hb hb'
          exact hR.sep k k' cs cs' hne hk hk' b hb hb'
    · by_cases hkf : k = fr
      · subst hkf
        simp only [updF, if_true] at hb
        rcases hT b hb with h | h
        · obtain ⟨a1, a2⟩ := hR.gout b (.inr h.1)
          exact ⟨a1, Nat.lt_of_lt_of_le a2 hC.size, h.2⟩
        · refine ⟨fun hfo => ?_, h.2, fun hg => ?_⟩
          · have := hX.fo b hfo; have := hR.size; omega
          · have := (hR.gout b (.inl hg)).2; omega
      · simp only [upd, updF, hkf, if_false] at hk hb
        obtain ⟨a1, a2, a3⟩ := hR.out k cs b hk hb
        exact ⟨a1, Nat.lt_of_lt_of_le a2 hC.size, fun hg => a3 (.inl hg)⟩
    · obtain ⟨a1, a2⟩ := hR.gout b (.inl hb)
      exact ⟨a1, Nat.lt_of_lt_of_le a2 hC.size⟩
  · intro U hU
    refine ⟨fun k p cs' r ds hu _ hk hq => ?_⟩
    have hkf := hU k hu
    simp only [upd, updM, hkf, if_false] at hk hq
    have hq' := LocQ.other hR hk (fun x hx => hsame x (hR.out k cs' x hk hx).2.1) hq
    refine ⟨cs', ds, hk, hq', rfl, fun b o hr arr' ha => ?_⟩
    subst hr
    exact hC.cells b arr' (LocQ.mem hR hk hq').2 ha

/-- the cells at a place, and what comes of it when they are changed -/
theorem node_upd {X : Cx} {μ : Nat → Option (Nat × Nat)} {F : Nat → Nat → Prop} {H : Heap} {w : World} {G E : Nat → Prop} (hX : X.WF) (hR : Rel X μ F H w (fun b => G b ∨ E b)) (hGE : ∀ b, E b → ¬ G b)
    {k : Nat} {p : List Nat} {cs es : List AV} (hk : H k = some cs) (hs : sub p cs = some es) (hne : es ≠ []) :
    ∃ b' o' T', LocQ w (μ k) cs p (some (b', o')) es ∧ Cells X w b' o' es T' ∧ (∀ x, T' x → F k x) ∧
      ∀ (w' : World) (es' : List AV) (T'' : Nat → Prop) (ks : List Nat), es'.length = es.length → Chg w w' (fun x => x = b') → Cells X w' b' o' es' T'' → (∀ x, T'' x → T' x ∨ E x) →
        ((∀ i z n cap fs, es'[i]? = some (.sl .own z n cap fs) → es[i]? = some (.sl .own z n cap fs) ∧ w'.cell? ⟨b', o' + i, none⟩ = w.cell? ⟨b', o' + i, none⟩) ∨ k ∈ ks) →
        ∃ F', Rel X μ F' (upd H k (some (modp p (fun _ => es') cs))) w' G ∧ ∀ U, Keep U ks μ H w μ (upd H k (some (modp p (fun _ => es') cs))) w' := by
  have hroot := hR.root k cs hk
  cases hm : μ k with
  | none =>
    rw [hm] at hroot
    have hcs : cs = [] := hroot
    subst hcs
    cases p with
    | nil => simp [sub] at hs; exact absurd hs.symm (by simpa using hne)
    | cons i p => obtain ⟨_, _, _, _, hi, _⟩ := sub_cons hs; simp at hi
  | some u =>
  obtain ⟨b, o⟩ := u
  rw [hm] at hroot
  rcases focus hroot hs with ⟨m, ds0, q1, q2, q3, q4⟩ | ⟨b', o', T', q1, q2, q3, q4⟩
  · exact absurd q4 hne
  refine ⟨b', o', T', q1, q2, q3, ?_⟩
  intro w' es' T'' ks hl hC hcell hT hcom
  have hTb : T' b' := by obtain ⟨_, _, _, _, h, _⟩ := q2; exact h
  have hFb : F k b' := q3 b' hTb
  have hTns : ∀ x, F k x → x < w.heap.size := fun x hx => (hR.out k cs x hk hx).2.1
  have hsame : ∀ x, x < w.heap.size → x ≠ b' → w'.heap[x]? = w.heap[x]? := fun x hx hne => hC.same x hx hne
  obtain ⟨Tn, n1, n2⟩ := q4 w' es' T'' hl hcell (fun x a a' hx h1 h2 => by
      obtain ⟨a0, h0, e0⟩ := hC.cells x a' (hTns x hx) h2
      rw [h1.uniq h0, e0]) (fun x hx hnx => hsame x (hTns x hx) fun e => hnx (by rw [e]; exact hTb))
    (fun x hx hF => (hT x hx).resolve_right fun hE => (hR.out k cs x hk hF).2.2 (.inr hE))
  have hTn : ∀ x, Tn x → F k x ∨ E x := by
    intro x hx
    rcases n2 x hx with hx | hx
    · exact (hT x hx).imp (q3 x) id
    · exact .inl hx.1
  refine ⟨updF F k Tn, ⟨hC.os.trans hR.os, hC.tape.trans hR.tape, hC.output.trans hR.output, Nat.le_trans hR.size hC.size, fun x hx => ?_, fun i cs' hi => ?_, fun i i' cs1 cs2 hne' hi hi' x hx hx' => ?_, fun i cs1 x hi hx => ?_, fun x hx => ?_⟩, ?_⟩
  · rw [hsame x (Nat.lt_of_lt_of_le (hX.fo x hx) hR.size) fun e => (hR.out k cs b' hk hFb).1 (by rw [← e]; exact hx)]
    exact hR.frame x hx
  · by_cases hik : i = k
    · subst hik
      simp only [upd, updF, if_true] at hi ⊢
      injection hi with hi; subst hi
      rw [hm]; exact n1
    · simp only [upd, updF, hik, if_false] at hi ⊢
      have hr := hR.root i cs' hi
      cases hmi : μ i with
      | none => rw [hmi] at hr; exact hr
      | some u =>
        obtain ⟨b2, o2⟩ := u
        rw [hmi] at hr
        refine Cells.agree hr fun x hx => hsame x (hR.out i cs' x hi hx).2.1 fun e => ?_
        subst e
        exact hR.sep i k cs' cs hik hi hk x hx hFb
  · have key : ∀ i cs1, upd H k (some (modp p (fun _ => es') cs)) i = some cs1 → updF F k Tn i x → (∃ cs0, H i = some cs0) ∧ (F i x ∨ (i = k ∧ E x)) := by
      intro i cs1 hi hx
      by_cases hik : i = k
      · subst hik
        simp only [updF, if_true] at hx
        exact ⟨⟨cs, hk⟩, (hTn x hx).imp id fun h => ⟨rfl, h⟩⟩
      · simp only [upd, updF, hik, if_false] at hi hx
        exact ⟨⟨cs1, hi⟩, .inl hx⟩
    obtain ⟨⟨a, ha⟩, hfa⟩ := key i cs1 hi hx
    obtain ⟨⟨a', ha'⟩, hfa'⟩ := key i' cs2 hi' hx'
    rcases hfa with hfa | ⟨e1, hE⟩
    · rcases hfa' with hfa' | ⟨e2, hE⟩
      · exact hR.sep i i' a a' hne' ha ha' x hfa hfa'
      · exact (hR.out i a x ha hfa).2.2 (.inr hE)
    · rcases hfa' with hfa' | ⟨e2, hE'⟩
      · exact (hR.out i' a' x ha' hfa').2.2 (.inr hE)
      · exact hne' (e1.trans e2.symm)
  · by_cases hik : i = k
    · subst hik
      simp only [updF, if_true] at hx
      rcases hTn x hx with h | h
      · obtain ⟨a1, a2, a3⟩ := hR.out i cs x hk h
        exact ⟨a1, Nat.lt_of_lt_of_le a2 hC.size, fun hg => a3 (.inl hg)⟩
      · obtain ⟨a1, a2⟩ := hR.gout x (.inr h)
        exact ⟨a1, Nat.lt_of_lt_of_le a2 hC.size, hGE x h⟩
    · simp only [upd, updF, hik, if_false] at hi hx
      obtain ⟨a1, a2, a3⟩ := hR.out i cs1 x hi hx
      exact ⟨a1, Nat.lt_of_lt_of_le a2 hC.size, fun hg => a3 (.inl hg)⟩
  · obtain ⟨a1, a2⟩ := hR.gout x (.inl hx)
    exact ⟨a1, Nat.lt_of_lt_of_le a2 hC.size⟩
  · intro U
    refine ⟨fun i p2 cs' r ds hu hp2 hi hq => ?_⟩
    by_cases hik : i = k
    · subst hik
      simp only [upd, if_true] at hi
      injection hi with hi; subst hi
      have fin : ∀ ds0, LocQ w (μ i) cs p2 r ds0 → ds0.length = ds.length → ∃ cs0 ds0, H i = some cs0 ∧ LocQ w (μ i) cs0 p2 r ds0 ∧ ds0.length = ds.length ∧ ∀ b o, r = some (b, o) → ∀ arr', RBlk w' b arr' → ∃ arr, RBlk w b arr ∧ arr.size = arr'.size := by
        intro ds0 h1 h2
        refine ⟨cs, ds0, hk, h1, h2, fun b2 o2 hr arr' ha => ?_⟩
        subst hr
        exact hC.cells b2 arr' (LocQ.mem hR hk h1).2 ha
      rcases hcom with hcom | hcom
      · rw [hm] at hq
        obtain ⟨ds', l1, l2⟩ := LocQ.back (w' := w') hroot hs q1 hl hcom (fun x hx hne => hsame x (hTns x hx) hne) hq
        exact fin ds' (by rw [hm]; exact l1) l2
      · rcases hp2 with hp2 | hp2
        · subst hp2
          obtain ⟨e1, e2⟩ := hq
          refine fin cs ⟨e1, rfl⟩ ?_
          rw [e2, sub_len hs]
          split
          · rename_i hp; subst hp; simp [sub] at hs; subst hs; exact hl.symm
          · rfl
        · exact absurd hcom hp2
    · simp only [upd, hik, if_false] at hi
      have hq' := LocQ.other hR hi (fun x hx => hsame x (hR.out i cs' x hi hx).2.1 fun e => by
        subst e
        exact hR.sep i k cs' cs hik hi hk x hx hFb) hq
      refine ⟨cs', ds, hi, hq', rfl, fun b2 o2 hr arr' ha => ?_⟩
      subst hr
      exact hC.cells b2 arr' (LocQ.mem hR hi hq').2 ha

end Go.Proofs.Ytlmifbpihlcabaa.VH
