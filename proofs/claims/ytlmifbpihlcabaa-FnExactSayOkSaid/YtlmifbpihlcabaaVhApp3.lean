/- Part of a proof about the given program: the verified evaluator and what it tells of the functions (VhApp3). Conditions: none beyond the hypotheses that each theorem states. -/
import Derived.Test.YtlmifbpihlcabaaVhApp2
namespace Go.Proofs.Ytlmifbpihlcabaa.VH

section
variable {R : Type} {X : Cx} {U : Nat → Prop} {fr : Nat} {μ : Nat → Option (Nat × Nat)} {F : Nat → Nat → Prop} {H : Heap} {w : World} {P : Program} {E : Env}

theorem zeros_src (hR : Rel X μ F H w (fun _ => False)) {re : Row} {e : TypeId} (hre : RowOK P e re) {z : Value} (hz : z.cells.toList = re.zero) (m : Nat) :
    Src0 X μ F H H w re.size m (zeros re m) (Builtin.zeroCells z.cells m).toList (fun _ _ => False) := by
  have hzs : z.cells.size = re.size := by rw [← hre.zl, ← hz]; simp
  have hl : (Builtin.zeroCells z.cells m).toList.length = m * re.size := by simp [Builtin.zeroCells, hzs]
  refine ⟨by rw [zeros_len, hre.zl], by rw [hl, zeros_len, hre.zl], fun i h h' => ?_, fun _ _ _ _ _ _ h => h.elim, rel_nil hR (by simp), fun U => Keep.refl U μ H w, fun _ h => h⟩
  obtain ⟨v, hv, hO⟩ := zeros_ow (X := X) (w := w) hre.zleaf h (T := fun _ => False)
  rw [zeros_len] at h
  have hg := zArr_get hz h
  have e : Builtin.zeroCells z.cells m = zArr z.cells (m * re.zero.length) := by simp [Builtin.zeroCells, zArr, hzs, hre.zl]
  have e2 : (Builtin.zeroCells z.cells m).toList[i] = v := by
    have h1 : (Builtin.zeroCells z.cells m).toList[i]? = some v := by rw [Array.getElem?_toList, e, hg, hv]
    rw [List.getElem?_eq_getElem h'] at h1
    exact Option.some.inj h1
  rw [e2]; exact hO

/-- a row, and what is written behind it -/
theorem cells_ext {w w' : World} {b o : Nat} {olds new : List AV} {T : Nat → Prop} {Ts : Nat → Nat → Prop} {arr arr' : Array Value} {vs : List Value} (hC : Cells X w b o olds T) (hl : new.length = vs.length)
    (ha : OBlk w b arr) (ha' : OBlk w' b arr') (hsz : o + olds.length + new.length ≤ arr'.size) (hg : ∀ j, arr'[j]? = if o + olds.length ≤ j ∧ j < o + olds.length + vs.length then vs[j - (o + olds.length)]? else arr[j]?)
    (hch : Chg w w' (fun x => x = b)) (hO : ∀ i (h : i < new.length) (h' : i < vs.length), OW X w new[i] vs[i] (Ts i)) (hd : ∀ i j, i < new.length → j < new.length → i ≠ j → ∀ x, Ts i x → ¬ Ts j x)
    (hT : ∀ i, i < new.length → ∀ x, Ts i x → ¬ T x) (hlt : ∀ i, i < new.length → ∀ x, Ts i x → x < w.heap.size) (hTlt : ∀ x, T x → x < w.heap.size) :
    Cells X w' b o (olds ++ new) (fun x => T x ∨ ∃ i, i < new.length ∧ Ts i x) := by
  obtain ⟨arr0, us, Us, c1, c2, c3, c4, c5, c6, c7, c8⟩ := hC
  have := c1.rblk.uniq ha.rblk; subst this
  have hO2 := join_ow (w := w') (X := X) (olds := olds) (new := new) (os := (List.range olds.length).map us) (vals := vs) (Os := Us) (Ts := Ts) (by simp) hl.symm (fun i h h' => by
    simp only [List.getElem_map, List.getElem_range]
    exact (c5 i h).agree fun x hx => hch.same x (hTlt x (c6 i h x hx)) fun e => c7 i h (by rw [← e]; exact hx)) (fun i h h' => (hO i h h').agree fun x hx => hch.same x (hlt i h x hx) fun e => hT i h x hx (by rw [e]; exact c2))
  have hD2 := join_dis (olds := olds) (new := new) (Os := Us) (Ts := Ts) c8 hd (fun i j hi hj x hx hx' => hT j hj x hx' (c6 i hi x hx))
  have hlen : ((List.range olds.length).map us ++ vs).length = (olds ++ new).length := by simp [hl]
  refine ⟨arr', fun j => ((List.range olds.length).map us ++ vs).getD j undef, fun i => if i < olds.length then Us i else Ts (i - olds.length), ha', .inl c2, by rw [List.length_append]; omega, fun j hj => ?_, fun j hj => ?_, fun j hj x hx => ?_, fun j hj hx => ?_, hD2⟩
  · rw [hg]
    simp only [List.length_append] at hj
    by_cases c : j < olds.length
    · rw [if_neg (by omega), c4 j c]
      simp [List.getD_eq_getElem?_getD, List.getElem?_append, c]
    · rw [if_pos (by omega)]
      have e : o + j - (o + olds.length) = j - olds.length := by omega
      have hj' : j - olds.length < vs.length := by omega
      simp [List.getD_eq_getElem?_getD, List.getElem?_append, c, e, List.getElem?_eq_getElem hj']
  · have := hO2 j hj (by omega)
    have e : ((List.range olds.length).map us ++ vs).getD j undef = ((List.range olds.length).map us ++ vs)[j]'(by omega) := by
      rw [List.getD_eq_getElem?_getD, List.getElem?_eq_getElem (by omega)]; rfl
    show OW X w' (olds ++ new)[j] (((List.range olds.length).map us ++ vs).getD j undef) (if j < olds.length then Us j else Ts (j - olds.length))
    rw [e]; exact this
  · simp only [List.length_append] at hj
    by_cases c : j < olds.length
    · simp only [c, if_true] at hx; exact .inl (c6 j c x hx)
    · simp only [c, if_false] at hx; exact .inr ⟨_, by omega, hx⟩
  · simp only [List.length_append] at hj
    by_cases c : j < olds.length
    · simp only [c, if_true] at hx; exact c7 j c hx
    · simp only [c, if_false] at hx; exact hT _ (by omega) b hx c2

theorem app_ref {K : AV → Heap → Tr → Option R} {r : R} {t' : Tr} {F' : Nat → Nat → Prop} {H' : Heap} (hX : X.WF) {ts : Array TypeId} {ty' e : TypeId} {re : Row} (hre : RowOK P e re)
    {m : Nat} {u ud : Value} {new : List AV} {vals : List Value} {Ts : Nat → Nat → Prop} (S : Src0 X μ F' H H' w re.size m new vals Ts) (hA : AppRun P w ts ty' e re m u vals) (ht : t'.kl = []) (hf : H fr = none) (hU : ∀ k, U k → k ≠ fr)
    {k : Nat} {p : List Nat} {z off n : Nat} {cap : Option Nat} (hx : RV X μ H w (.ref k p z off n cap) ud) (h : (appendHM re (.ref k p z off n cap) m new fr).run H' t' K = some r) :
    ∃ z w', (Builtin.append_ ts ty' #[ud, u]).run P w = .ok z w' ∧ OP X U fr μ H w K r z w' := by
  unfold appendHM at h
  simp only [look1, HM.bind, HM.run] at h
  cases hk : H' k with
  | none => simp [hk] at h
  | some cs =>
  simp only [hk] at h
  cases hs : sub p cs with
  | none => simp [hs, HM.bind, HM.run] at h
  | some ds =>
  simp only [hs, HM.bind] at h
  obtain ⟨hg, h8⟩ := guardB_run' h
  clear h
  simp only [Bool.and_eq_true, beq_iff_eq, decide_eq_true_eq] at hg
  obtain ⟨rfl, hlim⟩ := hg
  cases hoff : decide (off + n * re.size = ds.length) with
  | false => rw [hoff] at h8; simp [HM.run] at h8
  | true =>
  rw [hoff] at h8
  have hoff := of_decide_eq_true hoff
  simp only [cond_true] at h8
  obtain ⟨cs', ds', H2, t2, F2, T, res, h9, ht2, hk', hs', hq, hat, hR2, hTG, hK2, hN2, _⟩ := takeOut_sound S.rel h8
  rw [hk] at hk'; injection hk' with hk'; subst hk'
  rw [hs] at hs'; injection hs' with hs'; subst hs'
  obtain ⟨_, h10⟩ := guardB_run' h9
  clear h9 h8
  have ht2' : t2.kl = [] := by rw [ht2]; exact ht
  have hKK : ∀ U, Keep U [] μ H w μ H2 w := fun U => by simpa using (S.keep U).trans (hK2 U)
  have hNN : ∀ j, H j = none → H2 j = none := fun j hj => hN2 j (S.none j hj)
  have hx' := hx.keep0 S.keep
  cases hx' with
  | ref _ _ _ _ _ _ A c hn hc hAn hh =>
  have hok := hh cs res ds hk hq
  by_cases hc0 : c = 0
  · subst hc0
    have hn0 : n = 0 := by omega
    subst hn0
    have hdr : ds.drop off = [] := by
      apply List.drop_of_length_le; omega
    rw [hdr] at h10
    simp only [List.nil_append, Nat.zero_add] at h10 hlim
    by_cases h0 : m = 0
    · subst h0
      have hn : new = [] := List.eq_nil_of_length_eq_zero (by rw [S.len]; simp)
      subst hn
      have hv : vals = [] := List.eq_nil_of_length_eq_zero (by rw [S.vlen]; rfl)
      subst hv
      refine ⟨_, w, hA.here _ _ _ w (by omega) (fun a ha => by simp [storeCells]) (fun _ => rfl), ?_⟩
      exact empty_op hX (hR2.weak (fun b hb => hb.elim)) hKK hNN ht2' hf hU h10
    · obtain ⟨z, hz, hrun⟩ := hA.grow A 0 0 [] (src_nil (w := w)) (by omega) (by omega)
      refine ⟨_, _, hrun, ?_⟩
      have hgc := grownCap_ge w (0 + m) 0 e
      simp only [Nat.zero_add] at hgc ⊢
      have := grow_op (vs := vals) (e := e) (nn := m) (cap := grownCap w m 0 e) hX (hR2.weak (fun b hb => .inl hb)) hKK hNN ht2' hf hU hz hre.zl S.len S.vlen hgc S.ow S.dis h10
      simpa using this
  · cases res with
    | none => exact absurd hok hc0
    | some bo =>
    obtain ⟨b, o⟩ := bo
    rcases hok with h0 | ⟨hA1, hA2, hA3⟩
    · exact absurd h0 hc0
    subst hA1
    have hcells := Cells.range hat off (n * re.size) (by omega)
    have htake : (ds.drop off).take (n * re.size) = ds.drop off := List.take_of_length_le (by simp; omega)
    rw [htake] at hcells
    have hdl : (ds.drop off).length = n * re.size := by simp; omega
    have hcells' := hcells
    obtain ⟨arr, vs, Os, c1, c2, c3, c4, c5, c6, c7, c8⟩ := hcells'
    have hTF : ∀ x, T x → x < w.heap.size ∧ ¬ ∃ i, i < new.length ∧ Ts i x := fun x hx => ⟨(hR2.gout x (.inr hx)).2, fun h => hTG x hx (.inr h)⟩
    by_cases hin : n + m ≤ c
    · have hsz := hA3 arr c1.rblk
      have hmul : (n + m) * re.size ≤ c * re.size := Nat.mul_le_mul_right _ hin
      rw [Nat.add_mul] at hmul
      have hvl := S.vlen
      have hnl := S.len
      obtain ⟨w', arr', s1, s2, s3, s4, s5⟩ := storeCells_run P b (o + off + n * re.size) vals 0 w arr c1 (by omega) (fun v hv => by
        obtain ⟨i, hi, rfl⟩ := List.mem_iff_getElem.mp hv
        exact (S.ow i (hvl ▸ hi) hi).leaf)
      refine ⟨_, w', hA.here _ _ _ w' hin (fun a ha => ?_) (fun h => by simp at h), ?_⟩
      · injection ha with ha; subst ha
        rw [add_spot]; exact s1
      · have hext := cells_ext (w' := w') hcells hvl.symm c1 s3 (by omega) (by rw [hdl]; simpa using s5) s2 S.ow S.dis (fun i hi x hx hTx => (hTF x hTx).2 ⟨i, hi, hx⟩) (fun i hi x hx => (hR2.gout x (.inl (.inr ⟨i, hi, hx⟩))).2) (fun x hx => (hTF x hx).1)
        simp only [HM.run] at h10
        obtain ⟨h1, h2⟩ := newroot_chg (w' := w') (m := some (b, o + off)) (T := fun x => T x ∨ ∃ i, i < new.length ∧ Ts i x) (ys := ds.drop off ++ new) (G := fun _ => False) (E := fun x => T x ∨ ∃ i, i < new.length ∧ Ts i x) (S := fun x => x = b) hX
          (hR2.weak (fun x hx => by
            rcases hx with hx | hx | hx
            · exact hx.elim
            · exact .inr hx
            · exact .inl (.inr hx))) (hNN fr hf) s2 (fun x hx => by subst hx; exact .inl c2) hext (fun x hx => .inl ⟨hx, fun h => h⟩)
        refine ⟨.ref fr [] re.size 0 (n + m) none, _, _, _, _, h10, h1, ?_, ?_, ?_, ?_⟩
        · have := (hKK U).trans (h2 U hU)
          simpa [ht2'] using this
        · refine .ref fr [] re.size 0 (n + m) none _ c hin (by simp) (fun e => by simp at e) fun cs' res ds' hk' hq' => ?_
          simp only [upd, if_true] at hk'
          injection hk' with hk'; subst hk'
          obtain ⟨e, rfl⟩ := hq'
          simp only [updM, if_true] at e
          subst e
          refine .inr ⟨rfl, fun _ => ?_, fun arr2 ha2 => ?_⟩
          · rw [List.length_append, hdl, hnl]; omega
          · rw [ha2.uniq s3.rblk, s4]; omega
        · intro k hk; simp [keysAV] at hk; right; omega
        · exact keep_fresh hNN
    · have hsrc : SrcOK P w re.size n (.slice (some ⟨b, o + off, none⟩) n c) ((List.range (n * re.size)).map vs) := src_load (by simp) fun j hj => by
        simp only [List.length_map, List.length_range] at hj
        simp only [List.getElem_map, List.getElem_range]
        rw [cell?_of c1.rblk]; exact c4 j (by omega)
      obtain ⟨z, hz, hrun⟩ := hA.grow _ _ _ _ hsrc (by omega) hlim
      refine ⟨_, _, hrun, ?_⟩
      have hO := join_ow (w := w) (X := X) (olds := ds.drop off) (new := new) (os := (List.range (n * re.size)).map vs) (vals := vals) (Os := Os) (Ts := Ts) (by simp; omega) S.vlen (fun i hi hi' => by simpa using c5 i hi) S.ow
      have hD := join_dis (olds := ds.drop off) (new := new) (Os := Os) (Ts := Ts) c8 S.dis (fun i j hi hj x hx hx' => (hTF x (c6 i hi x hx)).2 ⟨j, hj, hx'⟩)
      have hG := hR2.weak (G' := fun x => False ∨ ∃ i, i < (ds.drop off ++ new).length ∧ (if i < (ds.drop off).length then Os i else Ts (i - (ds.drop off).length)) x) (fun x hx => by
        rcases hx with hx | ⟨i, hi, hx⟩
        · exact .inl (.inl hx)
        · by_cases c : i < (ds.drop off).length
          · rw [if_pos c] at hx; exact .inr (c6 i c x hx)
          · rw [if_neg c] at hx; rw [List.length_append] at hi; exact .inl (.inr ⟨_, by omega, hx⟩))
      have := grow_op (vs := (List.range (n * re.size)).map vs ++ vals) (e := e) (nn := n + m) (cap := grownCap w (n + m) c e) hX hG hKK hNN ht2' hf hU hz hre.zl (by rw [List.length_append, hdl, S.len, Nat.add_mul]) (by rw [List.length_append, List.length_append, S.vlen, hdl]; simp) (grownCap_ge w (n + m) c e) hO hD h10
      simpa using this

theorem append_sound {K : AV → Heap → Tr → Option R} {r : R} {t' : Tr} {F' : Nat → Nat → Prop} {H' : Heap} (hX : X.WF) (hR : Rel X μ F H w (fun _ => False)) {ts : Array TypeId} {ty' e : TypeId} {re : Row} (hre : RowOK P e re)
    {m : Nat} {u ud : Value} {new : List AV} {vals : List Value} {Ts : Nat → Nat → Prop} (S : Src0 X μ F' H H' w re.size m new vals Ts) (hA : AppRun P w ts ty' e re m u vals) (ht : t'.kl = []) (hf : H fr = none) (hU : ∀ k, U k → k ≠ fr)
    {d : AV} (hx : RV X μ H w d ud) (h : (appendHM re d m new fr).run H' t' K = some r) :
    ∃ z w', (Builtin.append_ ts ty' #[ud, u]).run P w = .ok z w' ∧ OP X U fr μ H w K r z w' := by
  unfold appendHM at h
  split at h
  · obtain ⟨hg, h9⟩ := guardB_run' h
    cases hx
    exact app_nil hX hre S hA ht hf hU (of_decide_eq_true hg) h9
  · obtain ⟨hg, h9⟩ := guardB_run' h
    clear h
    simp only [Bool.and_eq_true, Bool.or_eq_true, beq_iff_eq, decide_eq_true_eq] at hg
    obtain ⟨⟨⟨g1, g2⟩, g3⟩, g4⟩ := hg
    subst g1; subst g2
    exact app_sl hX hR hre S hA ht hf hU hx g3 g4 h9
  · exact app_ref hX hre S hA ht hf hU hx h
  · simp [HM.run] at h

end
end Go.Proofs.Ytlmifbpihlcabaa.VH
