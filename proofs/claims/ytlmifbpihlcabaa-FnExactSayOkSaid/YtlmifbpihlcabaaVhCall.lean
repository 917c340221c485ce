/- Part of a proof about the given program: the verified evaluator and what it tells of the functions (VhCall). Conditions: none beyond the hypotheses that each theorem states. -/
import Derived.Test.YtlmifbpihlcabaaVhFun
namespace Go.Proofs.Ytlmifbpihlcabaa.VH

/- Calls. -/

theorem RD.ctx {w w' : World} {S S' : Nat → Prop} (hS : ∀ b, S b → S' b) (hw : ∀ b, S b → w'.heap[b]? = w.heap[b]?) {x : AV} {v : Value} (h : RD w S x v) : RD w' S' x v := h.mono hS hw

/-- the caller's memory, as its callee knows it -/
def inner (X : Cx) (w : World) (F : Nat → Nat → Prop) (ls : List Nat) : Cx := ⟨w, fun b => b < w.heap.size ∧ ∀ k, k ∈ ls → ¬ F k b, X.Fg⟩

section
variable {X : Cx} {μ : Nat → Option (Nat × Nat)} {F : Nat → Nat → Prop} {H : Heap} {w : World}

theorem inner_fo (hX : X.WF) (hR : Rel X μ F H w (fun _ => False)) {ls : List Nat} (hls : ∀ k, k ∈ ls → ∃ cs, H k = some cs) : ∀ b, X.Fo b → (inner X w F ls).Fo b := by
  intro b hb
  refine ⟨Nat.lt_of_lt_of_le (hX.fo b hb) hR.size, fun k hk hF => ?_⟩
  obtain ⟨cs, hcs⟩ := hls k hk
  exact (hR.out k cs b hcs hF).1 hb

theorem inner_wf (hX : X.WF) (hR : Rel X μ F H w (fun _ => False)) {ls : List Nat} (hls : ∀ k, k ∈ ls → ∃ cs, H k = some cs) : (inner X w F ls).WF :=
  ⟨fun _ h => h.1, fun b h => inner_fo hX hR hls b (hX.fg b h)⟩

theorem OW.ctx {X X' : Cx} {w : World} (h1 : ∀ x v, RD X.w0 X.Fg x v → RD X'.w0 X'.Fg x v) (h2 : ∀ x v, RD X.w0 X.Fo x v → RD X'.w0 X'.Fo x v) {x : AV} {v : Value} {T : Nat → Prop} (h : OW X w x v T) : OW X' w x v T := by
  induction h with
  | und _ _ h => exact .und _ _ h
  | val _ _ h => exact .val _ _ h
  | fgn _ _ _ _ _ _ h => exact .fgn _ _ _ _ _ _ (h1 _ _ h)
  | snap _ _ _ _ _ _ h => exact .snap _ _ _ _ _ _ (h2 _ _ h)
  | own z n cap cs b o c arr vs Ts T k1 k2 k3 k4 k5 k6 k7 k8 k9 k10 k11 ih => exact .own z n cap cs b o c arr vs Ts T k1 k2 k3 k4 k5 k6 k7 ih k9 k10 k11
  | nil _ _ _ _ h => exact .nil _ _ _ _ h

theorem noSnapL_get : ∀ {xs : List AV} {i : Nat} (h : i < xs.length), noSnapL xs = true → noSnap xs[i] = true
  | x :: xs, 0, _, hn => by simp only [noSnapL, Bool.and_eq_true] at hn; exact hn.1
  | x :: xs, i + 1, h, hn => by simp only [noSnapL, Bool.and_eq_true] at hn; exact noSnapL_get (xs := xs) (i := i) (by simpa using h) hn.2

theorem OW.out {X X' : Cx} {w : World} (h1 : ∀ x v, RD X'.w0 X'.Fg x v → RD X.w0 X.Fg x v) {x : AV} {v : Value} {T : Nat → Prop} (h : OW X' w x v T) : noSnap x = true → OW X w x v T := by
  induction h with
  | und _ _ h => exact fun _ => .und _ _ h
  | val _ _ h => exact fun _ => .val _ _ h
  | fgn _ _ _ _ _ _ h => exact fun _ => .fgn _ _ _ _ _ _ (h1 _ _ h)
  | snap _ _ _ _ _ _ h => intro hn; simp [noSnap] at hn
  | own z n cap cs b o c arr vs Ts T k1 k2 k3 k4 k5 k6 k7 k8 k9 k10 k11 ih =>
    intro hn
    simp only [noSnap] at hn
    exact .own z n cap cs b o c arr vs Ts T k1 k2 k3 k4 k5 k6 k7 (fun j hj => ih j hj (noSnapL_get hj hn)) k9 k10 k11
  | nil _ _ _ _ h => exact fun _ => .nil _ _ _ _ h

theorem Cells.ctx {X X' : Cx} {w : World} (h1 : ∀ x v, RD X.w0 X.Fg x v → RD X'.w0 X'.Fg x v) (h2 : ∀ x v, RD X.w0 X.Fo x v → RD X'.w0 X'.Fo x v) {b o : Nat} {cs : List AV} {T : Nat → Prop} (h : Cells X w b o cs T) : Cells X' w b o cs T := by
  obtain ⟨arr, vs, Ts, k1, k2, k3, k4, k5, k6, k7, k8⟩ := h
  exact ⟨arr, vs, Ts, k1, k2, k3, k4, fun j hj => (k5 j hj).ctx h1 h2, k6, k7, k8⟩

theorem Cells.out {X X' : Cx} {w : World} (h1 : ∀ x v, RD X'.w0 X'.Fg x v → RD X.w0 X.Fg x v) {b o : Nat} {cs : List AV} {T : Nat → Prop} (h : Cells X' w b o cs T) (hn : noSnapL cs = true) : Cells X w b o cs T := by
  obtain ⟨arr, vs, Ts, k1, k2, k3, k4, k5, k6, k7, k8⟩ := h
  exact ⟨arr, vs, Ts, k1, k2, k3, k4, fun j hj => (k5 j hj).out h1 (noSnapL_get hj hn), k6, k7, k8⟩

theorem RV.out {X X' : Cx} {w : World} {μ : Nat → Option (Nat × Nat)} {H : Heap} (h1 : ∀ x v, RD X'.w0 X'.Fg x v → RD X.w0 X.Fg x v) (h2 : ∀ b arr, X'.Fg b → RBlk X'.w0 b arr → X.Fg b ∧ RBlk X.w0 b arr) {x : AV} {v : Value} (h : RV X' μ H w x v) : noSnap x = true → RV X μ H w x v := by
  induction h with
  | und v => exact fun _ => .und v
  | val v => exact fun _ => .val v
  | sl tg z n cap cs v ht h =>
    intro hn
    cases tg with
    | own => exact absurd rfl ht
    | fgn => exact .sl _ _ _ _ _ _ ht (h1 _ _ h)
    | snap => simp [noSnap] at hn
  | ref k p z off n cap A c hn hc hA h => exact fun _ => .ref k p z off n cap A c hn hc hA h
  | ptr k p off a h => exact fun _ => .ptr k p off a h
  | rp tg cs off b o arr vs ht hS hb hv hr =>
    intro hn
    cases tg with
    | own => exact absurd rfl ht
    | fgn =>
      obtain ⟨a1, a2⟩ := h2 b arr hS hb
      exact .rp _ cs off b o arr vs ht a1 a2 hv fun j hj => h1 _ _ (hr j hj)
    | snap => simp [noSnap] at hn
  | agg xs vs hl hf h ih => intro hn; simp only [noSnap] at hn; exact .agg _ vs hl hf fun i hi hi' => ih i hi hi' (noSnapL_get hi hn)
  | tup xs vs hl h ih => intro hn; simp only [noSnap] at hn; exact .tup _ vs hl fun i hi hi' => ih i hi hi' (noSnapL_get hi hn)
  | fn f xs vs hl h ih => intro hn; simp only [noSnap] at hn; exact .fn f _ vs hl fun i hi hi' => ih i hi hi' (noSnapL_get hi hn)

theorem rd_fg (hR : Rel X μ F H w (fun _ => False)) (hX : X.WF) {ls : List Nat} (x : AV) (v : Value) (h : RD X.w0 X.Fg x v) : RD (inner X w F ls).w0 (inner X w F ls).Fg x v :=
  h.mono (fun _ h => h) fun b hb => hR.frame b (hX.fg b hb)

theorem rd_fg' (hR : Rel X μ F H w (fun _ => False)) (hX : X.WF) {ls : List Nat} (x : AV) (v : Value) (h : RD (inner X w F ls).w0 (inner X w F ls).Fg x v) : RD X.w0 X.Fg x v :=
  h.mono (fun _ h => h) fun b hb => (hR.frame b (hX.fg b hb)).symm

theorem rd_fo (hR : Rel X μ F H w (fun _ => False)) (hX : X.WF) {ls : List Nat} (hls : ∀ k, k ∈ ls → ∃ cs, H k = some cs) (x : AV) (v : Value) (h : RD X.w0 X.Fo x v) : RD (inner X w F ls).w0 (inner X w F ls).Fo x v :=
  h.mono (inner_fo hX hR hls) fun b hb => hR.frame b hb

/-- the callee's memory at its start -/
theorem inner_rel (hX : X.WF) (hR : Rel X μ F H w (fun _ => False)) {ls : List Nat} (hls : ∀ k, k ∈ ls → ∃ cs, H k = some cs) (hn : ls.Nodup) : Rel (inner X w F ls) (sel ls μ) (sel ls F) (hp (ls.map H)) w (fun _ => False) := by
  have hr := hR.ren hn
  refine ⟨rfl, rfl, rfl, Nat.le_refl _, fun _ _ => rfl, fun k cs hk => ?_, hr.sep, fun k cs b hk hb => ?_, fun _ h => h.elim⟩
  · have := hr.root k cs hk
    cases hm : sel ls μ k with
    | none => rw [hm] at this; exact this
    | some u => rw [hm] at this; exact Cells.ctx (rd_fg hR hX) (rd_fo hR hX hls) this
  · obtain ⟨a1, a2, _⟩ := hr.out k cs b hk hb
    refine ⟨fun hh => ?_, a2, fun h => h⟩
    have hl : k < ls.length := by simpa using hp_lt hk
    exact hh.2 (ls.getD k 0) (by rw [List.getD_eq_getElem?_getD, List.getElem?_eq_getElem hl]; exact List.getElem_mem _) hb

structure Ext (q q' : Pk) : Prop where
  lent : q.lent <+: q'.lent
  snap : ∀ k, k ∈ q.snap → k ∈ q'.snap

theorem Ext.refl (q : Pk) : Ext q q := ⟨List.prefix_refl _, fun _ h => h⟩
theorem Ext.trans {q q' q'' : Pk} (h : Ext q q') (g : Ext q' q'') : Ext q q'' := ⟨h.lent.trans g.lent, fun k hk => g.snap k (h.snap k hk)⟩

structure Fin (H : Heap) (Q : Pk) : Prop where
  dis : ∀ k, k ∈ Q.snap → k ∉ Q.lent
  there : ∀ k, k ∈ Q.lent → ∃ cs, H k = some cs

def Packed (X : Cx) (μ : Nat → Option (Nat × Nat)) (F : Nat → Nat → Prop) (H : Heap) (w : World) (q' : Pk) (y : AV) (v : Value) : Prop :=
  ∀ Q, Ext q' Q → Fin H Q → RV (inner X w F Q.lent) (sel Q.lent μ) (hp (Q.lent.map H)) w y v ∧ ∀ k, k ∈ keysAV y → k < Q.lent.length

def PackOK (X : Cx) (μ : Nat → Option (Nat × Nat)) (F : Nat → Nat → Prop) (H : Heap) (w : World) (x : AV) (v : Value) : Prop :=
  ∀ (lend : Bool) (q : Pk) (α R : Type) (g : AV × Pk → HM α) (t : Tr) (K : α → Heap → Tr → Option R) (r : R), ((pack1 lend q x).bind g).run H t K = some r →
    ∃ y q' t', (g (y, q')).run H t' K = some r ∧ t'.kl = t.kl ∧ Ext q q' ∧ (∀ k, k ∈ q'.lent → k ∈ q.lent ∨ k ∈ keysAV x) ∧ Packed X μ F H w q' y v

theorem packL_ok {lend : Bool} : ∀ (xs : List AV) (vs : Nat → Value), (∀ i (h : i < xs.length), PackOK X μ F H w xs[i] (vs i)) → ∀ (q : Pk) (α R : Type) (g : List AV × Pk → HM α) (t : Tr) (K : α → Heap → Tr → Option R) (r : R), ((packL lend q xs).bind g).run H t K = some r →
    ∃ ys q' t', (g (ys, q')).run H t' K = some r ∧ t'.kl = t.kl ∧ Ext q q' ∧ (∀ k, k ∈ q'.lent → k ∈ q.lent ∨ k ∈ keysL xs) ∧ ys.length = xs.length ∧ ∀ i (h : i < ys.length), Packed X μ F H w q' ys[i] (vs i) := by
  intro xs
  induction xs with
  | nil => intro vs _ q α R g t K r h; exact ⟨[], q, t, h, rfl, Ext.refl q, fun k hk => .inl hk, rfl, fun i h => by simp at h⟩
  | cons x xs ih =>
    intro vs hx q α R g t K r h
    simp only [packL, HM.bind_assoc] at h
    obtain ⟨y, q1, t1, h1, e1, x1, k1, p1⟩ := hx 0 (by simp) lend q _ _ _ _ _ _ h
    simp only [HM.bind_assoc] at h1
    obtain ⟨ys, q2, t2, h2, e2, x2, k2, l2, p2⟩ := ih (fun i => vs (i + 1)) (fun i hi => hx (i + 1) (by simpa using hi)) q1 _ _ _ _ _ _ h1
    refine ⟨y :: ys, q2, t2, h2, e2.trans e1, x1.trans x2, fun k hk => ?_, by simp [l2], fun i hi => ?_⟩
    · simp only [keysL, List.mem_append]
      rcases k2 k hk with hk | hk
      · exact (k1 k hk).imp id .inl
      · exact .inr (.inr hk)
    · cases i with
      | zero => exact fun Q hQ => p1 Q (x2.trans hQ)
      | succ i => exact p2 i (by simpa using hi)

theorem idxOf_prefix {l m : List Nat} (h : l <+: m) {k : Nat} (hk : k ∈ l) : m.idxOf k = l.idxOf k := by
  obtain ⟨r, rfl⟩ := h
  rw [List.idxOf_append, if_pos hk]

theorem add_mem (q : Pk) (k : Nat) : k ∈ (q.add k).lent ∧ Ext q (q.add k) ∧ ∀ j, j ∈ (q.add k).lent → j ∈ q.lent ∨ j = k := by
  unfold Pk.add
  cases hb : q.lent.contains k with
  | true => exact ⟨by simpa using hb, Ext.refl q, fun j hj => .inl hj⟩
  | false => exact ⟨by simp, ⟨by simp, fun _ h => h⟩, fun j hj => by simpa using hj⟩

theorem lend_key {Q : Pk} {q : Pk} {k : Nat} (hk : k ∈ q.lent) (hQ : Ext q Q) : q.lent.idxOf k < Q.lent.length ∧ hp (Q.lent.map H) (q.lent.idxOf k) = H k ∧ sel Q.lent μ (q.lent.idxOf k) = μ k := by
  have hk' : k ∈ Q.lent := hQ.lent.subset hk
  rw [← idxOf_prefix hQ.lent hk]
  obtain ⟨h1, h2⟩ := idxOf_getD hk'
  exact ⟨h1, by rw [hp_sel h1, h2], by simp only [sel, h2]⟩

/-- a place that is read by a callee -/
theorem snap_rd (hX : X.WF) (hR : Rel X μ F H w (fun _ => False)) {Q : Pk} (hQ : Fin H Q) {k : Nat} (hk : k ∉ Q.lent) {cs : List AV} (hH : H k = some cs) {T : Nat → Prop} (hT : ∀ x, T x → F k x) : ∀ x, T x → (inner X w F Q.lent).Fo x := by
  intro x hx
  refine ⟨(hR.out k cs x hH (hT x hx)).2.1, fun j hj hF => ?_⟩
  obtain ⟨cs', hcs'⟩ := hQ.there j hj
  exact hR.sep j k cs' cs (fun e => hk (e ▸ hj)) hcs' hH x hF (hT x hx)

theorem pack1_ok (hX : X.WF) (hR : Rel X μ F H w (fun _ => False)) {x : AV} {v : Value} (hx : RV X μ H w x v) : PackOK X μ F H w x v := by
  induction hx with
  | und v =>
    intro lend q α R g t K r h
    simp only [pack1] at h
    exact ⟨.und, q, t, h, rfl, Ext.refl q, fun k hk => .inl hk, fun Q _ _ => ⟨.und v, fun k hk => by simp [keysAV] at hk⟩⟩
  | val v =>
    intro lend q α R g t K r h
    simp only [pack1] at h
    exact ⟨.val v, q, t, h, rfl, Ext.refl q, fun k hk => .inl hk, fun Q _ _ => ⟨.val v, fun k hk => by simp [keysAV] at hk⟩⟩
  | sl tg z n cap cs v ht hr =>
    intro lend q α R g t K r h
    simp only [pack1] at h
    refine ⟨_, q, t, h, rfl, Ext.refl q, fun k hk => .inl hk, fun Q _ hQ => ⟨?_, fun k hk => by simp [keysAV] at hk⟩⟩
    cases tg with
    | own => exact absurd rfl ht
    | fgn => exact .sl _ _ _ _ _ _ (by simp) (rd_fg hR hX _ _ hr)
    | snap => exact .sl _ _ _ _ _ _ (by simp) (rd_fo hR hX hQ.there _ _ hr)
  | rp tg cs off b o arr vs ht hS hb hv hr =>
    intro lend q α R g t K r h
    simp only [pack1] at h
    refine ⟨_, q, t, h, rfl, Ext.refl q, fun k hk => .inl hk, fun Q _ hQ => ⟨?_, fun k hk => by simp [keysAV] at hk⟩⟩
    cases tg with
    | own => exact absurd rfl ht
    | fgn => exact .rp _ cs off b o arr vs (by simp) hS (hb.agree (hR.frame b (hX.fg b hS))) hv fun j hj => rd_fg hR hX _ _ (hr j hj)
    | snap => exact .rp _ cs off b o arr vs (by simp) (inner_fo hX hR hQ.there b hS) (hb.agree (hR.frame b hS)) hv fun j hj => rd_fo hR hX hQ.there _ _ (hr j hj)
  | ref k p z off n cap A c hn hc hA hh =>
    intro lend q α R g t K r h
    simp only [pack1] at h
    cases hb : (lend && p.isEmpty) with
    | true =>
      simp only [hb, cond_true] at h
      have hp : p = [] := by simp only [Bool.and_eq_true, List.isEmpty_iff] at hb; exact hb.2
      subst hp
      obtain ⟨m1, m2, m3⟩ := add_mem q k
      refine ⟨_, q.add k, t, h, rfl, m2, fun j hj => (m3 j hj).imp id fun e => by simp [keysAV, e], fun Q hE hQ => ?_⟩
      obtain ⟨i1, i2, i3⟩ := lend_key (μ := μ) (H := H) m1 hE
      refine ⟨.ref _ [] z off n cap A c hn hc hA fun cs r ds hk hq => ?_, fun j hj => ?_⟩
      · rw [i2] at hk; rw [i3] at hq
        exact hh cs r ds hk hq
      · simp only [keysAV, List.mem_singleton] at hj; subst hj; exact i1
    | false =>
      simp only [hb, cond_false, look1, HM.bind_assoc] at h
      simp only [HM.bind, HM.run] at h
      cases hH : H k with
      | none => simp [hH] at h
      | some cs =>
      simp only [hH] at h
      cases hs : sub p cs with
      | none => simp [hs, HM.bind, HM.run] at h
      | some ds =>
      simp only [hs, HM.bind] at h
      obtain ⟨hg, h⟩ := guardB_run h
      have hg := of_decide_eq_true hg
      refine ⟨_, _, _, h, rfl, ⟨List.prefix_refl _, fun j hj => List.mem_cons_of_mem _ hj⟩, fun j hj => .inl hj, fun Q hE hQ => ⟨?_, fun j hj => by simp [keysAV] at hj⟩⟩
      have hkQ : k ∉ Q.lent := hQ.dis k (hE.snap k (by simp))
      obtain ⟨res, T, hq, hat, hT⟩ := look_at hR hH hs
      have hok := hh cs res ds hH hq
      have hnil : n = 0 → RV (inner X w F Q.lent) (sel Q.lent μ) (hp (Q.lent.map H)) w (.sl .snap z n none ((ds.drop off).take (n * z))) (.slice A n c) := by
        intro e; subst e
        simp only [Nat.zero_mul, List.take_zero]
        exact .sl _ _ _ _ _ _ (by simp) (.nil _ _ _ _ _ (by simp))
      cases res with
      | none => exact hnil (by have : c = 0 := hok; omega)
      | some u =>
        obtain ⟨b, o⟩ := u
        rcases hok with h0 | ⟨h1, h2, h3⟩
        · exact hnil (by omega)
        · subst h1
          obtain ⟨arr, vs, Ts, c1, c2, c3, c4, c5, c6, c7, c8⟩ := Cells.range hat off (n * z) hg
          have hFo := snap_rd hX hR hQ hkQ hH hT
          exact .sl _ _ _ _ _ _ (by simp) (.sl _ _ _ _ _ b (o + off) c arr vs (hFo b c2) c1.rblk hn (by simp) (by simp; omega) c4 fun j hj =>
            (c5 j hj).rd (inner_fo hX hR hQ.there) (fun b hb => inner_fo hX hR hQ.there b (hX.fg b hb)) (fun b hb => hR.frame b hb) (fun b hb => hR.frame b (hX.fg b hb)) fun x hx => hFo x (c6 j hj x hx))
  | ptr k p off a hh =>
    intro lend q α R g t K r h
    simp only [pack1] at h
    cases hb : (lend && p.isEmpty) with
    | true =>
      simp only [hb, cond_true] at h
      have hp : p = [] := by simp only [Bool.and_eq_true, List.isEmpty_iff] at hb; exact hb.2
      subst hp
      obtain ⟨m1, m2, m3⟩ := add_mem q k
      refine ⟨_, q.add k, t, h, rfl, m2, fun j hj => (m3 j hj).imp id fun e => by simp [keysAV, e], fun Q hE hQ => ?_⟩
      obtain ⟨i1, i2, i3⟩ := lend_key (μ := μ) (H := H) m1 hE
      refine ⟨.ptr _ [] off a fun cs b o ds hk hq => ?_, fun j hj => ?_⟩
      · rw [i2] at hk; rw [i3] at hq
        exact hh cs b o ds hk hq
      · simp only [keysAV, List.mem_singleton] at hj; subst hj; exact i1
    | false =>
      simp only [hb, cond_false, look1, HM.bind_assoc] at h
      simp only [HM.bind, HM.run] at h
      cases hH : H k with
      | none => simp [hH] at h
      | some cs =>
      simp only [hH] at h
      cases hs : sub p cs with
      | none => simp [hs, HM.bind, HM.run] at h
      | some ds =>
      simp only [hs, HM.bind] at h
      obtain ⟨hg, h⟩ := guardB_run h
      refine ⟨_, _, _, h, rfl, ⟨List.prefix_refl _, fun j hj => List.mem_cons_of_mem _ hj⟩, fun j hj => .inl hj, fun Q hE hQ => ⟨?_, fun j hj => by simp [keysAV] at hj⟩⟩
      have hkQ : k ∉ Q.lent := hQ.dis k (hE.snap k (by simp))
      obtain ⟨res, T, hq, hat, hT⟩ := look_at hR hH hs
      cases res with
      | none =>
        have : ds = [] := hat
        subst this
        simp at hg
      | some u =>
        obtain ⟨b, o⟩ := u
        have := hh cs b o ds hH hq
        subst this
        obtain ⟨arr, vs, Ts, c1, c2, c3, c4, c5, c6, c7, c8⟩ := hat
        have hFo := snap_rd hX hR hQ hkQ hH hT
        exact .rp _ ds off b o arr vs (by simp) (hFo b c2) c1.rblk c4 fun j hj =>
            (c5 j hj).rd (inner_fo hX hR hQ.there) (fun b hb => inner_fo hX hR hQ.there b (hX.fg b hb)) (fun b hb => hR.frame b hb) (fun b hb => hR.frame b (hX.fg b hb)) fun x hx => hFo x (c6 j hj x hx)
  | agg xs vs hl hf hx ih =>
    intro lend q α R g t K r h
    simp only [pack1, HM.bind_assoc] at h
    obtain ⟨ys, q', t', h1, h2, h3, h4, h5, h6⟩ := packL_ok xs (fun i => vs.getD i undef) (fun i hi => by
      have : vs.getD i undef = vs[i]'(by omega) := by rw [Array.getD_eq_getD_getElem?, Array.getElem?_eq_getElem (by omega)]; rfl
      rw [this]; exact ih i hi (by omega)) q _ _ _ _ _ _ h
    refine ⟨.agg ys, q', t', h1, h2, h3, fun k hk => by simpa [keysAV] using h4 k hk, fun Q hE hQ => ⟨.agg ys vs (by omega) hf fun i hi hi' => ?_, fun k hk => ?_⟩⟩
    · have := (h6 i hi Q hE hQ).1
      rwa [show vs.getD i undef = vs[i] by rw [Array.getD_eq_getD_getElem?, Array.getElem?_eq_getElem hi']; rfl] at this
    · simp only [keysAV] at hk
      obtain ⟨i, hi, hk⟩ := keysL_mem hk
      exact (h6 i hi Q hE hQ).2 k hk
  | tup xs vs hl hx ih =>
    intro lend q α R g t K r h
    simp [pack1, HM.bind, HM.run] at h
  | fn f xs vs hl hx ih =>
    intro lend q α R g t K r h
    simp only [pack1, HM.bind_assoc] at h
    obtain ⟨ys, q', t', h1, h2, h3, h4, h5, h6⟩ := packL_ok xs (fun i => vs.getD i undef) (fun i hi => by
      have : vs.getD i undef = vs[i]'(by omega) := by rw [Array.getD_eq_getD_getElem?, Array.getElem?_eq_getElem (by omega)]; rfl
      rw [this]; exact ih i hi (by omega)) q _ _ _ _ _ _ h
    refine ⟨.fn f ys, q', t', h1, h2, h3, fun k hk => by simpa [keysAV] using h4 k hk, fun Q hE hQ => ⟨.fn f ys vs (by omega) fun i hi hi' => ?_, fun k hk => ?_⟩⟩
    · have := (h6 i hi Q hE hQ).1
      rwa [show vs.getD i undef = vs[i] by rw [Array.getD_eq_getD_getElem?, Array.getElem?_eq_getElem hi']; rfl] at this
    · simp only [keysAV] at hk
      obtain ⟨i, hi, hk⟩ := keysL_mem hk
      exact (h6 i hi Q hE hQ).2 k hk

theorem packA_ok (hX : X.WF) (hR : Rel X μ F H w (fun _ => False)) : ∀ (xs : List AV) (vs : Nat → Value), (∀ i (h : i < xs.length), RV X μ H w xs[i] (vs i)) → ∀ (bs : List Bool) (q : Pk) (α R : Type) (g : List AV × Pk → HM α) (t : Tr) (K : α → Heap → Tr → Option R) (r : R), ((packA bs q xs).bind g).run H t K = some r →
    ∃ ys q' t', (g (ys, q')).run H t' K = some r ∧ t'.kl = t.kl ∧ Ext q q' ∧ (∀ k, k ∈ q'.lent → k ∈ q.lent ∨ k ∈ keysL xs) ∧ ys.length = xs.length ∧ ∀ i (h : i < ys.length), Packed X μ F H w q' ys[i] (vs i) := by
  intro xs
  induction xs with
  | nil => intro vs _ bs q α R g t K r h; simp only [packA] at h; exact ⟨[], q, t, h, rfl, Ext.refl q, fun k hk => .inl hk, rfl, fun i h => by simp at h⟩
  | cons x xs ih =>
    intro vs hx bs q α R g t K r h
    simp only [packA, HM.bind_assoc] at h
    obtain ⟨y, q1, t1, h1, e1, x1, k1, p1⟩ := pack1_ok hX hR (hx 0 (by simp)) _ q _ _ _ _ _ _ h
    simp only [HM.bind_assoc] at h1
    obtain ⟨ys, q2, t2, h2, e2, x2, k2, l2, p2⟩ := ih (fun i => vs (i + 1)) (fun i hi => hx (i + 1) (by simpa using hi)) _ q1 _ _ _ _ _ _ h1
    refine ⟨y :: ys, q2, t2, h2, e2.trans e1, x1.trans x2, fun k hk => ?_, by simp [l2], fun i hi => ?_⟩
    · simp only [keysL, List.mem_append]
      rcases k2 k hk with hk | hk
      · exact (k1 k hk).imp id .inl
      · exact .inr (.inr hk)
    · cases i with
      | zero => exact fun Q hQ => p1 Q (x2.trans hQ)
      | succ i => exact p2 i (by simpa using hi)

theorem lentOk_spec : ∀ {ls sn : List Nat}, lentOk ls sn = true → ls.Nodup ∧ ∀ k, k ∈ sn → k ∉ ls
  | [], _, _ => ⟨.nil, fun _ _ => by simp⟩
  | k :: r, sn, h => by
    simp only [lentOk, Bool.and_eq_true, Bool.not_eq_true', List.contains_eq_mem, decide_eq_false_iff_not] at h
    obtain ⟨⟨h1, h2⟩, h3⟩ := h
    obtain ⟨h4, h5⟩ := lentOk_spec h3
    refine ⟨List.nodup_cons.mpr ⟨h2, h4⟩, fun j hj hm => ?_⟩
    rcases List.mem_cons.mp hm with rfl | hm
    · exact h1 hj
    · exact h5 j hj hm

theorem getLent_run {α R : Type} : ∀ (ls : List Nat) (g : List (List AV) → HM α) (t : Tr) (K : α → Heap → Tr → Option R) (r : R), ((getLent ls).bind g).run H t K = some r →
    ∃ cts t', (g cts).run H t' K = some r ∧ t'.kl = t.kl ∧ ls.map H = cts.map some := by
  intro ls
  induction ls with
  | nil => intro g t K r h; exact ⟨[], t, h, rfl, rfl⟩
  | cons k ls ih =>
    intro g t K r h
    simp only [getLent, HM.bind, HM.run] at h
    cases hk : H k with
    | none => simp [hk] at h
    | some cs =>
      simp only [hk, HM.bind_assoc] at h
      obtain ⟨cts, t', h1, h2, h3⟩ := ih _ _ _ _ h
      exact ⟨cs :: cts, t', h1, h2, by simp [hk, h3]⟩

theorem upd_same (H : Heap) (k : Nat) (c : Option (List AV)) : upd H k c k = c := by simp [upd]
theorem upd_ne (H : Heap) {k j : Nat} (c : Option (List AV)) (h : j ≠ k) : upd H k c j = H j := by simp [upd, h]

theorem hp_cons_zero (c : Option (List AV)) (cs : List (Option (List AV))) : hp (c :: cs) 0 = c := by simp [hp]
theorem hp_cons_succ (c : Option (List AV)) (cs : List (Option (List AV))) (i : Nat) : hp (c :: cs) (i + 1) = hp cs i := by simp [hp]

theorem putBack_run {α R : Type} : ∀ (ls : List Nat) (cts : List (Option (List AV))) (fr : Nat) (H : Heap) (g : Unit → HM α) (t : Tr) (K : α → Heap → Tr → Option R) (r : R), ls.Nodup → (∀ k, k ∈ ls → ¬ (fr ≤ k ∧ k < fr + (cts.length - ls.length))) → ((putBack fr ls cts).bind g).run H t K = some r →
    ∃ H1 t', (g ()).run H1 t' K = some r ∧ (∀ j, j ∈ t.kl → j ∈ t'.kl) ∧ (∀ j (h : j < ls.length), H1 ls[j] = hp cts j) ∧ (∀ i, ls.length + i < cts.length → H1 (fr + i) = hp cts (ls.length + i)) ∧
      (∀ k, k ∉ ls → ¬ (fr ≤ k ∧ k < fr + (cts.length - ls.length)) → H1 k = H k) ∧ ∀ j (h : j < ls.length), ((hp cts j).getD []).any isOwn = true → ls[j] ∈ t'.kl := by
  intro ls
  induction ls with
  | nil =>
    intro cts
    induction cts with
    | nil =>
      intro fr H g t K r _ _ h
      exact ⟨H, t, h, fun _ h => h, fun j h => by simp at h, fun i h => by simp at h, fun _ _ _ => rfl, fun j h => by simp at h⟩
    | cons c cts ih =>
      intro fr H g t K r hn hl h
      simp only [putBack, HM.bind, HM.run] at h
      obtain ⟨H1, t', h1, h2, h3, h4, h5, h6⟩ := ih (fr + 1) _ g _ K r hn (fun _ h => by simp at h) h
      refine ⟨H1, t', h1, h2, fun j h => by simp at h, fun i hi => ?_, fun k hk hr => ?_, fun j h => by simp at h⟩
      · cases i with
        | zero =>
          have := h5 fr (by simp) (by omega)
          rw [upd_same] at this
          simpa [hp_cons_zero] using this
        | succ i =>
          have := h4 i (by simp at hi ⊢; omega)
          simp only [List.length_nil, Nat.zero_add] at this ⊢
          rw [hp_cons_succ, ← this]
          congr 1; omega
      · simp only [List.length_nil, List.length_cons, Nat.sub_zero] at hr h5
        rw [h5 k hk (by omega), upd_ne _ _ (by omega)]
  | cons l ls ih =>
    intro cts fr H g t K r hn hl h
    cases cts with
    | nil => simp [putBack, HM.bind, HM.run] at h
    | cons c cts =>
      obtain ⟨hn1, hn2⟩ := List.nodup_cons.mp hn
      have fin : ∀ t0 : Tr, (∀ j, j ∈ t.kl → j ∈ t0.kl) → ((c.getD []).any isOwn = true → l ∈ t0.kl) → ((putBack fr ls cts).bind g).run (upd H l c) t0 K = some r →
          ∃ H1 t', (g ()).run H1 t' K = some r ∧ (∀ j, j ∈ t.kl → j ∈ t'.kl) ∧ (∀ j (h : j < (l :: ls).length), H1 (l :: ls)[j] = hp (c :: cts) j) ∧ (∀ i, (l :: ls).length + i < (c :: cts).length → H1 (fr + i) = hp (c :: cts) ((l :: ls).length + i)) ∧
      (∀ k, k ∉ (l :: ls) → ¬ (fr ≤ k ∧ k < fr + ((c :: cts).length - (l :: ls).length)) → H1 k = H k) ∧ ∀ j (h : j < (l :: ls).length), ((hp (c :: cts) j).getD []).any isOwn = true → (l :: ls)[j] ∈ t'.kl := by
        intro t0 ht0 hl0 h
        obtain ⟨H1, t', h1, h2, h3, h4, h5, h6⟩ := ih cts fr _ g _ K r hn2 (fun k hk => by have := hl k (List.mem_cons_of_mem _ hk); simp only [List.length_cons] at this; omega) h
        refine ⟨H1, t', h1, fun j hj => h2 j (ht0 j hj), fun j hj => ?_, fun i hi => ?_, fun k hk hr => ?_, fun j hj ho => ?_⟩
        · cases j with
          | zero =>
            have := h5 l hn1 (by have := hl l (by simp); simp only [List.length_cons] at this; omega)
            rw [upd_same] at this
            simpa [hp_cons_zero] using this
          | succ j => simpa [hp_cons_succ] using h3 j (by simpa using hj)
        · have := h4 i (by simp at hi; omega)
          rw [this, show (l :: ls).length + i = (ls.length + i) + 1 by simp; omega, hp_cons_succ]
        · simp only [List.mem_cons, not_or] at hk
          simp only [List.length_cons] at hr
          rw [h5 k hk.2 (by omega), upd_ne _ _ hk.1]
        · cases j with
          | zero => exact h2 l (hl0 (by simpa [hp_cons_zero] using ho))
          | succ j => exact h6 j (by simpa using hj) (by simpa [hp_cons_succ] using ho)
      simp only [putBack, HM.bind, HM.run] at h
      cases hb : (c.getD []).any isOwn with
      | true =>
        rw [hb] at h
        simp only [cond_true, HM.bind, HM.run] at h
        exact fin _ (fun j hj => List.mem_cons_of_mem _ hj) (fun _ => by simp) h
      | false =>
        rw [hb] at h
        simp only [cond_false] at h
        exact fin { rd := t.rd, wr := l :: t.wr, kl := t.kl } (fun j hj => hj) (fun e => by rw [hb] at e; exact absurd e (by simp)) h

/-- whose key a key of the caller's is -/
def fromK (ls : List Nat) (fr k : Nat) : Option Nat := if k ∈ ls then some (ls.idxOf k) else if fr ≤ k ∧ k < fr + 8 then some (ls.length + (k - fr)) else none

theorem fromK_back {ls : List Nat} {fr j : Nat} (hn : ls.Nodup) (hl : ∀ k, k ∈ ls → ¬ (fr ≤ k ∧ k < fr + 8)) (hj : j < ls.length + 8) : fromK ls fr (backK ls fr j) = some j := by
  unfold fromK backK
  by_cases h : j < ls.length
  · simp only [List.getElem?_eq_getElem h]
    rw [if_pos (List.getElem_mem h)]
    have h1 : ls.idxOf ls[j] < ls.length := List.idxOf_lt_length_iff.mpr (List.getElem_mem h)
    have h2 : ls[ls.idxOf ls[j]] = ls[j] := List.getElem_idxOf h1
    exact congrArg some ((List.getElem_inj (h₀ := h1) (h₁ := h) hn).mp h2)
  · simp only [List.getElem?_eq_none (show ls.length ≤ j by omega)]
    have h1 : ¬ (fr + (j - ls.length)) ∈ ls := fun hm => by have := hl _ hm; omega
    rw [if_neg h1, if_pos (by omega)]
    congr 1; omega

theorem call_sound {P : Program} {E : Env} {C : Oracle} (hC : OrcOK P C) {R : Type} {U : Nat → Prop} {fr : Nat} {K : AV → Heap → Tr → Option R} {r : R} (hX : X.WF) (hR : Rel X μ F H w (fun _ => False)) (hU : ∀ k, U k → ¬ (fr ≤ k ∧ k < fr + 8)) (hfr : ∀ k, fr ≤ k ∧ k < fr + 8 → H k = none) {f : AV} {u : Value} {args : List AV} {vs : List Value} (hf : RV X μ H w f u) (hl : vs.length = args.length) (hv : ∀ i (h : i < args.length) (h' : i < vs.length), RV X μ H w args[i] vs[i]) (hkf : ∀ k, k ∈ keysAV f → U k) (hka : ∀ k, k ∈ keysL args → U k)
    (h : (callHM E C f args fr).run H {} K = some r) : ∃ g caps, u = .func (.func g) #[] caps ∧ Inv P g (vs.toArray ++ caps) w (fun v w' => OP X U fr μ H w K r v w') := by
  unfold callHM at h
  split at h
  case h_2 => simp [HM.run] at h
  rename_i g caps
  generalize hu : u = uu at hf
  cases hf with
  | fn _ _ cvs hcl hcv =>
  refine ⟨g, cvs, rfl, ?_⟩
  have hall : ∀ i (hi : i < (args ++ caps).length), RV X μ H w (args ++ caps)[i] ((vs.toArray ++ cvs).getD i undef) := by
    intro i hi
    have hsz : i < (vs.toArray ++ cvs).size := by simp at hi ⊢; omega
    rw [Array.getD_eq_getD_getElem?, Array.getElem?_eq_getElem hsz]
    simp only [Option.getD_some]
    by_cases hia : i < args.length
    · have e1 : (args ++ caps)[i] = args[i] := List.getElem_append_left hia
      have e2 : (vs.toArray ++ cvs)[i] = vs[i]'(by omega) := by rw [Array.getElem_append_left (by simp; omega)]; simp
      rw [e1, e2]; exact hv i hia _
    · have e1 : (args ++ caps)[i] = caps[i - args.length]'(by simp at hi; omega) := List.getElem_append_right (by omega)
      have e2 : (vs.toArray ++ cvs)[i] = cvs[i - args.length]'(by simp at hi; omega) := by rw [Array.getElem_append_right (by simp; omega)]; simp [hl]
      rw [e1, e2]; exact hcv _ _ _
  obtain ⟨xs, q, t1, h, e1, _, hkq, hxl, hpk⟩ := packA_ok hX hR (args ++ caps) (fun i => (vs.toArray ++ cvs).getD i undef) hall _ _ _ _ _ _ _ _ h
  simp only at h
  obtain ⟨hlo, h⟩ := guardB_run' h
  obtain ⟨hnd, hdis⟩ := lentOk_spec hlo
  obtain ⟨cts, t2, h, e2, hcts⟩ := getLent_run q.lent _ _ _ _ h
  obtain ⟨⟨x, cts'⟩, horc, h⟩ := ofOpt_run h
  simp only at h
  obtain ⟨hlen, h⟩ := guardB_run' h
  simp only [Bool.and_eq_true, decide_eq_true_eq] at hlen
  have hthere : ∀ k, k ∈ q.lent → ∃ cs, H k = some cs := by
    intro k hk
    obtain ⟨i, hi, rfl⟩ := List.mem_iff_getElem.mp hk
    have : (q.lent.map H)[i]'(by simpa using hi) = (cts.map some)[i]'(by rw [← hcts]; simpa using hi) := by simp only [hcts]
    simp only [List.getElem_map] at this
    exact ⟨_, this⟩
  have hctl : cts.length = q.lent.length := by have := congrArg List.length hcts; simpa using this.symm
  have hlentU : ∀ k, k ∈ q.lent → U k := by
    intro k hk
    rcases hkq k hk with hk | hk
    · simp at hk
    · obtain ⟨i, hi, hk⟩ := keysL_mem hk
      by_cases hia : i < args.length
      · rw [List.getElem_append_left hia] at hk
        exact hka k (mem_keysL hia hk)
      · rw [List.getElem_append_right (by omega)] at hk
        exact hkf k (by simp only [keysAV]; exact mem_keysL _ hk)
  have hlentlt : ∀ k, k ∈ q.lent → ¬ (fr ≤ k ∧ k < fr + 8) := fun k hk => hU k (hlentU k hk)
  have hfin : Fin H q := ⟨hdis, hthere⟩
  have hrel := inner_rel hX hR hthere hnd
  rw [hcts] at hrel
  have hargs : Args (inner X w F q.lent) (sel q.lent μ) (sel q.lent F) cts w xs (vs.toArray ++ cvs) := by
    refine ⟨hrel, by rw [hxl]; simp; omega, fun i hi hi' => ?_, fun k hk => ?_⟩
    · have := (hpk i hi q (Ext.refl q) hfin).1
      rw [hcts] at this
      rwa [show (vs.toArray ++ cvs).getD i undef = (vs.toArray ++ cvs)[i] by rw [Array.getD_eq_getD_getElem?, Array.getElem?_eq_getElem hi']; rfl] at this
    · obtain ⟨i, hi, hk⟩ := keysL_mem hk
      rw [hctl]
      exact (hpk i hi q (Ext.refl q) hfin).2 k hk
  have hinv := hC g xs cts x cts' horc _ _ _ w (vs.toArray ++ cvs) (inner_wf hX hR hthere) hargs
  have main : ∀ v w1, Ret (inner X w F q.lent) (sel q.lent μ) cts w x cts' v w1 → OP X U fr μ H w K r v w1 := by
    rintro v w1 ⟨μ2, F2, ks, hR2, hx2, hns, hnsO, hkx, hge, hkeep⟩
    obtain ⟨H1, t3, h, _, b1, b2, b3, b4⟩ := putBack_run q.lent cts' fr H _ _ _ _ hnd (fun k hk => by have := hlentlt k hk; omega) h
    simp only [HM.run] at h
    let σ := fromK q.lent fr
    have hσ1 : ∀ k j, σ k = some j → (j < cts'.length → H1 k = hp cts' j) ∧ (k ∈ q.lent ↔ j < q.lent.length) ∧ (j < q.lent.length → q.lent[j]? = some k) ∧ (¬ j < q.lent.length → fr ≤ k ∧ k < fr + 8 ∧ j = q.lent.length + (k - fr)) := by
      intro k j hk
      simp only [σ, fromK] at hk
      split at hk
      · rename_i hm
        injection hk with hk
        have h1 : q.lent.idxOf k < q.lent.length := List.idxOf_lt_length_iff.mpr hm
        have h2 : q.lent[q.lent.idxOf k] = k := List.getElem_idxOf h1
        subst hk
        refine ⟨fun _ => ?_, ⟨fun _ => h1, fun _ => hm⟩, fun _ => by rw [List.getElem?_eq_getElem h1, h2], fun hh => absurd h1 hh⟩
        have := b1 _ h1
        rwa [h2] at this
      · rename_i hm
        split at hk
        · rename_i hr
          injection hk with hk
          refine ⟨fun hj => ?_, ⟨fun hh => absurd hh hm, fun hh => by omega⟩, fun hh => by omega, fun _ => ⟨hr.1, hr.2, hk.symm⟩⟩
          have := b2 (k - fr) (by omega)
          rw [show fr + (k - fr) = k by omega] at this
          rw [this, hk]
        · exact absurd hk (by simp)
    have hσ0 : ∀ k, σ k = none → H1 k = H k ∧ k ∉ q.lent ∧ ¬ (fr ≤ k ∧ k < fr + 8) := by
      intro k hk
      simp only [σ, fromK] at hk
      split at hk
      · exact absurd hk (by simp)
      · rename_i hm
        split at hk
        · exact absurd hk (by simp)
        · rename_i hr
          exact ⟨b3 k hm (by omega), hm, hr⟩
    have hσH : ∀ k j cs, σ k = some j → H1 k = some cs → j < cts'.length ∧ hp cts' j = some cs := by
      intro k j cs hk hcs
      obtain ⟨a1, a2, a3, a4⟩ := hσ1 k j hk
      have hj : j < cts'.length := by
        refine Classical.byContradiction fun hh => ?_
        have h4 := a4 (by omega)
        have hn : k ∉ q.lent := fun hm => by have := a2.1 hm; omega
        have := b3 k hn (by omega)
        rw [this, hfr k ⟨h4.1, h4.2.1⟩] at hcs
        exact absurd hcs (by simp)
      exact ⟨hj, by rw [← a1 hj]; exact hcs⟩
    let μ1 : Nat → Option (Nat × Nat) := fun k => match σ k with | some j => μ2 j | none => μ k
    let F1 : Nat → Nat → Prop := fun k => match σ k with | some j => F2 j | none => F k
    have hFo := inner_fo hX hR hthere
    have hother : ∀ k cs, k ∉ q.lent → H k = some cs → ∀ b, F k b → (inner X w F q.lent).Fo b := by
      intro k cs hk hcs b hb
      refine ⟨(hR.out k cs b hcs hb).2.1, fun j hj hF => ?_⟩
      obtain ⟨cs', hcs'⟩ := hthere j hj
      exact hR.sep j k cs' cs (fun e => hk (e ▸ hj)) hcs' hcs b hF hb
    have hagree : ∀ b, (inner X w F q.lent).Fo b → w1.heap[b]? = w.heap[b]? := fun b hb => hR2.frame b hb
    have hsnap : ∀ j cs, hp cts' j = some cs → noSnapL cs = true := by
      have gen : ∀ (l : List (Option (List AV))), noSnapO l = true → ∀ j cs, hp l j = some cs → noSnapL cs = true := by
        intro l
        induction l with
        | nil => intro _ j cs hh; simp [hp] at hh
        | cons c l ih =>
          intro hl j cs hh
          cases j with
          | zero =>
            rw [hp_cons_zero] at hh
            subst hh
            simp only [noSnapO, Bool.and_eq_true] at hl
            exact hl.1
          | succ j =>
            rw [hp_cons_succ] at hh
            cases c with
            | none => exact ih (by simpa [noSnapO] using hl) j cs hh
            | some c => simp only [noSnapO, Bool.and_eq_true] at hl; exact ih hl.2 j cs hh
      exact gen cts' hnsO
    have hrel1 : Rel X μ1 F1 H1 w1 (fun _ => False) := by
      refine ⟨hR2.os.trans hR.os, hR2.tape.trans hR.tape, hR2.output.trans hR.output, Nat.le_trans hR.size hR2.size, fun b hb => (hagree b (hFo b hb)).trans (hR.frame b hb), fun k cs hk => ?_, fun k k' cs cs' hne hk hk' b hb hb' => ?_, fun k cs b hk hb => ?_, fun _ h => h.elim⟩
      · cases hs : σ k with
        | some j =>
          obtain ⟨hj, hcs⟩ := hσH k j cs hs hk
          have := hR2.root j cs hcs
          simp only [μ1, F1, hs]
          cases hm : μ2 j with
          | none => rw [hm] at this; exact this
          | some u => rw [hm] at this; exact Cells.out (rd_fg' hR hX) this (hsnap j cs hcs)
        | none =>
          obtain ⟨a1, a2, a3⟩ := hσ0 k hs
          rw [a1] at hk
          have := hR.root k cs hk
          simp only [μ1, F1, hs]
          cases hm : μ k with
          | none => rw [hm] at this; exact this
          | some u => rw [hm] at this; exact Cells.agree this fun b hb => hagree b (hother k cs a2 hk b hb)
      · cases hs : σ k with
        | some j =>
          obtain ⟨_, hcs⟩ := hσH k j cs hs hk
          simp only [F1, hs] at hb
          cases hs' : σ k' with
          | some j' =>
            obtain ⟨_, hcs'⟩ := hσH k' j' cs' hs' hk'
            simp only [F1, hs'] at hb'
            refine hR2.sep j j' cs cs' (fun e => hne ?_) hcs hcs' b hb hb'
            subst e
            obtain ⟨_, a2, a3, a4⟩ := hσ1 k j hs
            obtain ⟨_, c2, c3, c4⟩ := hσ1 k' j hs'
            by_cases hj : j < q.lent.length
            · have := (a3 hj).symm.trans (c3 hj); exact Option.some.inj this
            · have h1 := a4 hj; have h2 := c4 hj; omega
          | none =>
            obtain ⟨a1, a2, a3⟩ := hσ0 k' hs'
            rw [a1] at hk'
            simp only [F1, hs'] at hb'
            exact (hR2.out j cs b hcs hb).1 (hother k' cs' a2 hk' b hb')
        | none =>
          obtain ⟨a1, a2, a3⟩ := hσ0 k hs
          rw [a1] at hk
          simp only [F1, hs] at hb
          cases hs' : σ k' with
          | some j' =>
            obtain ⟨_, hcs'⟩ := hσH k' j' cs' hs' hk'
            simp only [F1, hs'] at hb'
            exact (hR2.out j' cs' b hcs' hb').1 (hother k cs a2 hk b hb)
          | none =>
            obtain ⟨c1, c2, c3⟩ := hσ0 k' hs'
            rw [c1] at hk'
            simp only [F1, hs'] at hb'
            exact hR.sep k k' cs cs' hne hk hk' b hb hb'
      · cases hs : σ k with
        | some j =>
          obtain ⟨_, hcs⟩ := hσH k j cs hs hk
          simp only [F1, hs] at hb
          obtain ⟨c1, c2, _⟩ := hR2.out j cs b hcs hb
          exact ⟨fun hh => c1 (hFo b hh), c2, fun h => h⟩
        | none =>
          obtain ⟨a1, a2, a3⟩ := hσ0 k hs
          rw [a1] at hk
          simp only [F1, hs] at hb
          obtain ⟨c1, c2, _⟩ := hR.out k cs b hk hb
          exact ⟨c1, Nat.lt_of_lt_of_le c2 hR2.size, fun h => h⟩
    have hback : ∀ k, k < cts'.length → σ (backK q.lent fr k) = some k := fun k hk => fromK_back hnd hlentlt (by omega)
    refine ⟨_, μ1, F1, H1, t3, h, hrel1, ⟨fun k p cs' res ds hu hp' hk hq => ?_⟩, ?_, fun k hk => ?_, fun k hk hr => ?_⟩
    · cases hs : σ k with
      | some j =>
        obtain ⟨a1, a2, a3, a4⟩ := hσ1 k j hs
        have hjl : j < q.lent.length := Classical.byContradiction fun hh => hU k hu ⟨(a4 hh).1, (a4 hh).2.1⟩
        obtain ⟨hj, hcs⟩ := hσH k j cs' hs hk
        simp only [μ1, hs] at hq
        have hp0 : p = [] := by
          rcases hp' with h | h
          · exact h
          · refine Classical.byContradiction fun hne => h ?_
            have hkj : q.lent[j] = k := by have := a3 hjl; rw [List.getElem?_eq_getElem hjl] at this; exact Option.some.inj this
            rw [← hkj]
            refine b4 j hjl ?_
            rw [hcs]
            cases p with
            | nil => exact absurd rfl hne
            | cons i p =>
              cases hm : μ2 j with
              | none => rw [hm] at hq; exact hq.elim
              | some uu =>
                obtain ⟨bb, oo⟩ := uu
                rw [hm] at hq
                obtain ⟨z, n, cap, es, A, c, hi, _⟩ := hq
                simp only [Option.getD_some]
                exact List.any_eq_true.mpr ⟨_, List.mem_of_getElem? hi, rfl⟩
        subst hp0
        obtain ⟨cs, ds0, g1, g2, g3, g4⟩ := hkeep.loc j [] cs' res ds (by rw [hctl]; exact hjl) (.inl rfl) hcs hq
        have hkj : q.lent.getD j 0 = k := by rw [List.getD_eq_getElem?_getD, a3 hjl]; rfl
        rw [← hcts, hp_sel hjl, hkj] at g1
        simp only [sel, hkj] at g2
        exact ⟨cs, ds0, g1, g2, g3, g4⟩
      | none =>
        obtain ⟨a1, a2, a3⟩ := hσ0 k hs
        rw [a1] at hk
        simp only [μ1, hs] at hq
        have hag : ∀ b, F k b → w1.heap[b]? = w.heap[b]? := fun b hb => hagree b (hother k cs' a2 hk b hb)
        have hq' := LocQ.other hR hk hag hq
        refine ⟨cs', ds, hk, hq', rfl, fun b o hr arr' ha => ?_⟩
        subst hr
        exact ⟨arr', ha.back (hag b (LocQ.mem hR hk hq').1), rfl⟩
    · refine (RV.out (rd_fg' hR hX) (fun b arr hb ha => ⟨hb, ha.agree ((hR.frame b (hX.fg b hb)).symm)⟩) hx2 hns).ren fun k hk => ?_
      have hk' := hkx k hk
      have hs := hback k hk'
      exact ⟨(hσ1 _ _ hs).1 hk', by simp only [μ1, hs]⟩
    · have gen : ∀ (ρ : Nat → Nat) (Pr : Nat → Prop) (x : AV), (∀ k, k ∈ keysAV x → Pr (ρ k)) → ∀ k, k ∈ keysAV (renAV ρ x) → Pr k := by
        intro ρ Pr x
        exact AV.rec (motive_1 := fun x => (∀ k, k ∈ keysAV x → Pr (ρ k)) → ∀ k, k ∈ keysAV (renAV ρ x) → Pr k)
          (motive_2 := fun xs => (∀ k, k ∈ keysL xs → Pr (ρ k)) → ∀ k, k ∈ keysL (renL ρ xs) → Pr k)
          (fun _ k h => by simp [renAV, keysAV] at h) (fun _ _ k h => by simp [renAV, keysAV] at h) (fun _ _ _ _ _ _ _ k h => by simp [renAV, keysAV] at h)
          (fun k0 p z off n' cap hh k h => by simp only [renAV, keysAV, List.mem_singleton] at h; subst h; exact hh k0 (by simp [keysAV]))
          (fun k0 p off hh k h => by simp only [renAV, keysAV, List.mem_singleton] at h; subst h; exact hh k0 (by simp [keysAV]))
          (fun _ _ _ _ _ k h => by simp [renAV, keysAV] at h)
          (fun xs ih hh k h => by simp only [renAV, keysAV] at h; exact ih (fun k hk => hh k (by simpa [keysAV] using hk)) k h)
          (fun xs ih hh k h => by simp only [renAV, keysAV] at h; exact ih (fun k hk => hh k (by simpa [keysAV] using hk)) k h)
          (fun f xs ih hh k h => by simp only [renAV, keysAV] at h; exact ih (fun k hk => hh k (by simpa [keysAV] using hk)) k h)
          (fun _ _ _ k h => by simp [renAV, keysAV] at h)
          (fun _ k h => by simp [renL, keysL] at h)
          (fun x xs h1 h2 hh k h => by
            simp only [renL, keysL, List.mem_append] at h hh
            rcases h with h | h
            · exact h1 (fun k hk => hh k (.inl hk)) k h
            · exact h2 (fun k hk => hh k (.inr hk)) k h) x
      refine gen _ (fun k => U k ∨ (fr ≤ k ∧ k < fr + 8)) x (fun k hk => ?_) k hk
      have hk' := hkx k hk
      unfold backK
      by_cases hkl : k < q.lent.length
      · simp only [List.getElem?_eq_getElem hkl]
        exact .inl (hlentU _ (List.getElem_mem hkl))
      · simp only [List.getElem?_eq_none (show q.lent.length ≤ k by omega)]
        right; omega
    · have hn : k ∉ q.lent := fun hm => by obtain ⟨cs, hcs⟩ := hthere k hm; rw [hcs] at hk; exact absurd hk (by simp)
      rw [b3 k hn (by omega)]; exact hk
  rcases hinv with ⟨i1, i2⟩ | ⟨v, w', i1, i2⟩
  · exact .inl ⟨i1, Calls.mono i2 fun e w' ⟨v, hv, hr⟩ => ⟨v, hv, main v w' hr⟩⟩
  · exact .inr ⟨v, w', i1, main v w' i2⟩

end
end Go.Proofs.Ytlmifbpihlcabaa.VH
