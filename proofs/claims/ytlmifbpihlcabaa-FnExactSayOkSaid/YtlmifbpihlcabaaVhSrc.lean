/- Part of a proof about the given program: the verified evaluator and what it tells of the functions (VhSrc). Conditions: none beyond the hypotheses that each theorem states. -/
import Derived.Test.YtlmifbpihlcabaaVhOps9
namespace Go.Proofs.Ytlmifbpihlcabaa.VH

/- What is appended. -/

section
variable {R : Type} {X : Cx} {U : Nat → Prop} {fr : Nat} {μ : Nat → Option (Nat × Nat)} {F : Nat → Nat → Prop} {H : Heap} {w : World} {P : Program} {E : Env}

theorem rd_ow {tg : Tg} (htg : tg ≠ .own) {x : AV} {v : Value} {T : Nat → Prop} (h : RD X.w0 (tagS X tg) x v) : OW X w (borrowed tg x) v T := by
  cases h with
  | und v h => exact .und v T h
  | val v h => exact .val v T h
  | sl tg' z n cap cs b o c arr vs h1 h2 h3 h4 h5 h6 h7 =>
    cases tg with
    | own => exact absurd rfl htg
    | fgn => exact .fgn z n cap cs _ T (.sl _ z n cap cs b o c arr vs h1 h2 h3 h4 h5 h6 h7)
    | snap => exact .snap z n cap cs _ T (.sl _ z n cap cs b o c arr vs h1 h2 h3 h4 h5 h6 h7)
  | nil tg' z cap A c hc =>
    cases tg with
    | own => exact absurd rfl htg
    | fgn => exact .fgn z 0 cap [] _ T (.nil _ z cap A c hc)
    | snap => exact .snap z 0 cap [] _ T (.nil _ z cap A c hc)

theorem borL_len (tg : Tg) (cs : List AV) : (borL tg cs).length = cs.length := by
  unfold borL
  cases cs.any isSl <;> simp

theorem borL_get {tg : Tg} (htg : tg ≠ .own) {cs : List AV} {j : Nat} (hj : j < (borL tg cs).length) {v : Value} {T : Nat → Prop} (h : RD X.w0 (tagS X tg) (cs[j]'(by rwa [borL_len] at hj)) v) : OW X w (borL tg cs)[j] v T := by
  have hj' : j < cs.length := by rwa [borL_len] at hj
  cases hb : cs.any isSl with
  | true =>
    have e : borL tg cs = cs.map (borrowed tg) := by simp [borL, hb]
    rw [List.getElem_of_eq e, List.getElem_map]; exact rd_ow htg h
  | false =>
    have e : borL tg cs = cs := by simp [borL, hb]
    rw [List.getElem_of_eq e]
    have hn : isSl cs[j] = false := by
      have := List.any_eq_false.mp hb cs[j] (List.getElem_mem _)
      simpa using this
    generalize hx : cs[j] = x at hn h
    cases h with
    | und v h => exact .und v T h
    | val v h => exact .val v T h
    | sl => simp [isSl] at hn
    | nil => simp [isSl] at hn

theorem OW.bare {x : AV} {v : Value} {T T' : Nat → Prop} (h : OW X w x v T) (hn : isOwn x = false) : OW X w x v T' := by
  cases h with
  | und _ _ h => exact .und _ _ h
  | val _ _ h => exact .val _ _ h
  | fgn _ _ _ _ _ _ h => exact .fgn _ _ _ _ _ _ h
  | snap _ _ _ _ _ _ h => exact .snap _ _ _ _ _ _ h
  | own => simp [isOwn] at hn
  | nil => simp [isOwn] at hn

/-- what the program reads of it -/
def SrcOK (P : Program) (w : World) (size m : Nat) (u : Value) (vals : List Value) : Prop :=
  ∀ w' : World, w'.heap = w.heap → (Builtin.lenOf u).run P w' = .ok m w' ∧ (Builtin.firstCells size m u).run P w' = .ok vals.toArray w'

theorem src_load {b o size m c : Nat} {vals : List Value} (hl : vals.length = m * size) (h : ∀ j (hj : j < vals.length), w.cell? ⟨b, o + j, none⟩ = some vals[j]) : SrcOK P w size m (.slice (some ⟨b, o, none⟩) m c) vals := by
  intro w' hw
  refine ⟨by simp [Builtin.lenOf], ?_⟩
  have := loadCellsFrom_run P w' b o (m * size) 0 vals #[] hl (fun j hj => by
    have e := h j hj
    simp only [World.cell?, hw] at e ⊢
    simpa using e)
  simpa [Builtin.firstCells, loadCells] using this

theorem src_nil {A : Option Addr} {size c : Nat} : SrcOK P w size 0 (.slice A 0 c) [] := by
  intro w' _
  refine ⟨by simp [Builtin.lenOf], ?_⟩
  cases A <;> simp [Builtin.firstCells, loadCells, loadCellsFrom]

structure Src0 (X : Cx) (μ : Nat → Option (Nat × Nat)) (F' : Nat → Nat → Prop) (H H' : Heap) (w : World) (size m : Nat) (new : List AV) (vals : List Value) (Ts : Nat → Nat → Prop) : Prop where
  len : new.length = m * size
  vlen : vals.length = new.length
  ow : ∀ i (h : i < new.length) (h' : i < vals.length), OW X w new[i] vals[i] (Ts i)
  dis : ∀ i j, i < new.length → j < new.length → i ≠ j → ∀ x, Ts i x → ¬ Ts j x
  rel : Rel X μ F' H' w (fun b => False ∨ ∃ i, i < new.length ∧ Ts i b)
  keep : ∀ U, Keep U [] μ H w μ H' w
  none : ∀ j, H j = none → H' j = none

structure Src (P : Program) (X : Cx) (μ : Nat → Option (Nat × Nat)) (F' : Nat → Nat → Prop) (H H' : Heap) (w : World) (size m : Nat) (u : Value) (new : List AV) (vals : List Value) (Ts : Nat → Nat → Prop) : Prop extends Src0 X μ F' H H' w size m new vals Ts where
  src : SrcOK P w size m u vals

theorem src_pure (hR : Rel X μ F H w (fun _ => False)) {size m : Nat} {u : Value} {new : List AV} {vals : List Value} (h1 : new.length = m * size) (h2 : vals.length = new.length) (h3 : ∀ i (h : i < new.length) (h' : i < vals.length), OW X w new[i] vals[i] (fun _ => False)) (h4 : SrcOK P w size m u vals) :
    Src P X μ F H H w size m u new vals (fun _ _ => False) :=
  ⟨⟨h1, h2, h3, fun _ _ _ _ _ _ h => h.elim, rel_nil hR (by simp), fun U => Keep.refl U μ H w, fun _ h => h⟩, h4⟩

theorem Rel.weak {G G' : Nat → Prop} (h : Rel X μ F H w G) (hG : ∀ b, G' b → G b) : Rel X μ F H w G' :=
  ⟨h.os, h.tape, h.output, h.size, h.frame, h.root, h.sep, fun k cs b hk hb => let ⟨a1, a2, a3⟩ := h.out k cs b hk hb; ⟨a1, a2, fun hh => a3 (hG b hh)⟩, fun b hb => h.gout b (hG b hb)⟩

theorem src_sound {α : Type} {g : Nat × List AV → HM α} {K : α → Heap → Tr → Option R} {r : R} {t : Tr} (hX : X.WF) (hR : Rel X μ F H w (fun _ => False)) {row : Row} {x : AV} {u : Value} (hx : RV X μ H w x u) (h : ((srcCells row x).bind g).run H t K = some r) :
    ∃ m new vals H' t' F' Ts, (g (m, new)).run H' t' K = some r ∧ t'.kl = t.kl ∧ Src P X μ F' H H' w row.size m u new vals Ts := by
  unfold srcCells at h
  split at h
  · cases hx
    exact ⟨0, [], [], H, t, F, _, h, rfl, src_pure hR (by simp) rfl (fun i h => by simp at h) src_nil⟩
  · rename_i s
    obtain ⟨hg, h⟩ := guardB_run h
    have hg := of_decide_eq_true hg
    cases hx
    have hd : s.data.toList.length = s.size := by rw [Array.length_toList]; rfl
    refine ⟨s.size, _, s.data.toList.map (fun b => .int .u8 b.toNat), H, t, F, _, h, rfl, src_pure hR (by rw [List.length_map, hd, hg, Nat.mul_one]) (by simp) (fun i h h' => ?_) fun w' _ => ⟨by simp [Builtin.lenOf], ?_⟩⟩
    · simp only [List.getElem_map, u8]; exact .val _ _ rfl
    · simp only [Builtin.firstCells, Sem.run_pure]
      congr 1
      rw [← Array.toList_map]
      have : s.extract 0 s.size = s := by simp
      rw [this]
  · rename_i tg z n cap cs
    obtain ⟨hg, h8⟩ := guardB_run h
    clear h
    have hg : z = row.size := by simpa using hg
    subst hg
    cases hx with
    | sl _ _ _ _ _ _ ht hr =>
      cases hr with
      | nil _ _ _ A c hc => exact ⟨0, [], [], H, t, F, _, by simpa [borL, HM.bind] using h8, rfl, src_pure hR (by simp) rfl (fun i h => by simp at h) src_nil⟩
      | sl _ _ _ _ _ b o c arr vs h1 h2 h3 h4 h5 h6 h7 =>
        have hbw : RBlk w b arr := h2.agree (hR.frame b (tagS_fo hX h1))
        refine ⟨n, borL tg cs, (List.range cs.length).map vs, H, t, F, _, h8, rfl, src_pure hR (by rw [borL_len]; exact h5) (by simp [borL_len]) (fun i h h' => ?_) (src_load (by simpa using h5) fun j hj => ?_)⟩
        · rw [borL_len] at h
          simp only [List.getElem_map, List.getElem_range]
          exact borL_get ht _ (h7 i h)
        · simp only [List.length_map, List.length_range] at hj
          simp only [List.getElem_map, List.getElem_range]
          rw [cell?_of hbw]; exact h6 j hj
  · rename_i k p z off n cap
    simp only [look1, HM.bind, HM.run] at h
    cases hk : H k with
    | none => simp [hk] at h
    | some cs =>
    simp only [hk] at h
    cases hs : sub p cs with
    | none => simp [hs, HM.bind, HM.run] at h
    | some ds =>
    simp only [hs, HM.bind] at h
    obtain ⟨hg, h8⟩ := guardB_run h
    clear h
    simp only [Bool.and_eq_true, beq_iff_eq, decide_eq_true_eq] at hg
    obtain ⟨rfl, hg⟩ := hg
    cases hx with
    | ref _ _ _ _ _ _ A c hn hc hA hh =>
    have hrange : ∀ (res : Option (Nat × Nat)) (T : Nat → Prop), LocQ w (μ k) cs p res ds → At X w res ds T → (n = 0 ∧ (ds.drop off).take (n * row.size) = []) ∨ ∃ (b o : Nat) (arr : Array Value) (vs : Nat → Value) (Ts : Nat → Nat → Prop), A = some ⟨b, o, none⟩ ∧ OBlk w b arr ∧ (∀ j, j < ((ds.drop off).take (n * row.size)).length → arr[o + j]? = some (vs j)) ∧
        (∀ j (h : j < ((ds.drop off).take (n * row.size)).length), OW X w ((ds.drop off).take (n * row.size))[j] (vs j) (Ts j)) ∧ (∀ j, j < ((ds.drop off).take (n * row.size)).length → ∀ x, Ts j x → T x) ∧ (∀ i j, i < ((ds.drop off).take (n * row.size)).length → j < ((ds.drop off).take (n * row.size)).length → i ≠ j → ∀ x, Ts i x → ¬ Ts j x) := by
      intro res T hq hat
      have hok := hh cs res ds hk hq
      have hz0 : c = 0 → (n = 0 ∧ (ds.drop off).take (n * row.size) = []) := fun e => by
        have : n = 0 := by omega
        subst this
        exact ⟨rfl, by simp⟩
      cases res with
      | none => exact .inl (hz0 hok)
      | some bo =>
        obtain ⟨b, o⟩ := bo
        rcases hok with h0 | ⟨h1, h2, h3⟩
        · exact .inl (hz0 h0)
        · obtain ⟨arr, vs, Ts, c1, c2, c3, c4, c5, c6, c7, c8⟩ := Cells.range hat off (n * row.size) hg
          exact .inr ⟨b, o + off, arr, vs, Ts, h1, c1, c4, c5, c6, c8⟩
    have hlen : ((ds.drop off).take (n * row.size)).length = n * row.size := by simp; omega
    cases hb : ((ds.drop off).take (n * row.size)).any isOwn with
    | false =>
      rw [hb] at h8
      simp only [cond_false, HM.bind] at h8
      obtain ⟨res, T, hq, hat, _⟩ := look_at hR hk hs
      rcases hrange res T hq hat with ⟨e0, e1⟩ | ⟨b, o, arr, vs, Ts, a1, a2, a3, a4, _⟩
      · rw [e1] at h8
        subst e0
        exact ⟨0, [], [], H, _, F, _, h8, rfl, src_pure hR (by simp) rfl (fun i h => by simp at h) src_nil⟩
      · subst a1
        refine ⟨n, _, (List.range (n * row.size)).map vs, H, _, F, _, h8, rfl, src_pure hR hlen (by simp [hlen]) (fun i h h' => ?_) (src_load (by simp) fun j hj => ?_)⟩
        · have := List.any_eq_false.mp hb _ (List.getElem_mem h)
          have e : ((List.range (n * row.size)).map vs)[i] = vs i := by simp
          rw [e]
          exact (a4 i h).bare (by simpa using this)
        · simp only [List.length_map, List.length_range] at hj
          simp only [List.getElem_map, List.getElem_range]
          rw [cell?_of a2.rblk]; exact a3 j (by omega)
    | true =>
      rw [hb] at h8
      simp only [cond_true, HM.bind_assoc] at h8
      obtain ⟨cs', ds', H', t', F', T, res, h9, ht', hk', hs', hq, hat, hR', hTG, hK, hN, _⟩ := takeOut_sound hR h8
      rw [hk] at hk'; injection hk' with hk'; subst hk'
      rw [hs] at hs'; injection hs' with hs'; subst hs'
      obtain ⟨_, h9⟩ := guardB_run h9
      simp only [HM.bind] at h9
      rcases hrange res T hq hat with ⟨e0, e1⟩ | ⟨b, o, arr, vs, Ts, a1, a2, a3, a4, a5, a6⟩
      · rw [e1] at h9
        subst e0
        exact ⟨0, [], [], H', t', F', fun _ _ => False, h9, ht', ⟨by simp, rfl, fun i h => by simp at h, fun _ _ h => by simp at h, hR'.weak fun b hb => .inl (hb.elim id fun ⟨_, _, hb⟩ => hb), hK, hN⟩, src_nil⟩
      · subst a1
        refine ⟨n, _, (List.range (n * row.size)).map vs, H', t', F', Ts, h9, ht', ⟨hlen, by simp [hlen], fun i h h' => ?_, a6, hR'.weak fun b hb => hb.imp id fun ⟨i, hi, hb⟩ => a5 i hi b hb, hK, hN⟩, src_load (by simp) fun j hj => ?_⟩
        · have e : ((List.range (n * row.size)).map vs)[i] = vs i := by simp
          rw [e]; exact a4 i h
        · simp only [List.length_map, List.length_range] at hj
          simp only [List.getElem_map, List.getElem_range]
          rw [cell?_of a2.rblk]; exact a3 j (by omega)
  · simp [HM.bind, HM.run] at h

end
end Go.Proofs.Ytlmifbpihlcabaa.VH
