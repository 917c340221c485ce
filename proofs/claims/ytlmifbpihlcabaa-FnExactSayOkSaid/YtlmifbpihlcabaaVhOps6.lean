/- Part of a proof about the given program: the verified evaluator and what it tells of the functions (VhOps6). Conditions: none beyond the hypotheses that each theorem states. -/
import Derived.Test.YtlmifbpihlcabaaVhOps5
namespace Go.Proofs.Ytlmifbpihlcabaa.VH

theorem setAt_len : ∀ {ys cs : List AV} {off : Nat}, (setAt cs off ys).length = cs.length
  | [], _, _ => rfl
  | y :: ys, cs, off => by simp [setAt, setAt_len]

theorem setAt_get : ∀ {ys cs : List AV} {off j : Nat}, off + ys.length ≤ cs.length → (setAt cs off ys)[j]? = if off ≤ j ∧ j < off + ys.length then ys[j - off]? else cs[j]?
  | [], cs, off, j, _ => by simp [setAt]; intro h1 h2; omega
  | y :: ys, cs, off, j, h => by
    simp only [setAt]
    rw [setAt_get (by simp at h ⊢; omega)]
    simp only [List.length_cons] at h ⊢
    by_cases h1 : off + 1 ≤ j ∧ j < off + 1 + ys.length
    · rw [if_pos h1, if_pos (by omega)]
      have : j - off = (j - (off + 1)) + 1 := by omega
      rw [this, List.getElem?_cons_succ]
    · rw [if_neg h1]
      by_cases h2 : j = off
      · subst h2
        rw [List.getElem?_set_self (by omega), if_pos (by omega)]
        simp
      · rw [List.getElem?_set_ne (by omega), if_neg (by omega)]

section
variable {R : Type} {X : Cx} {U : Nat → Prop} {fr : Nat} {μ : Nat → Option (Nat × Nat)} {F : Nat → Nat → Prop} {H : Heap} {w : World} {K : AV → Heap → Tr → Option R} {r : R} {t : Tr} {P : Program} {E : Env}

theorem setCell_blk {w : World} {b x : Nat} {arr : Array Value} (h : OBlk w b arr) (v : Value) : OBlk (w.setCell ⟨b, x, none⟩ v) b (arr.setIfInBounds x v) ∧ Chg w (w.setCell ⟨b, x, none⟩ v) (fun y => y = b) := by
  obtain ⟨e, fz, h1, h2⟩ := h
  have hlt : b < w.heap.size := (Array.getElem?_eq_some_iff.mp h1).1
  have hself : (w.setCell ⟨b, x, none⟩ v).heap[b]? = some (.cells (arr.setIfInBounds x v) e fz) := by
    simp [World.setCell, Array.getElem?_modify, h1]
  have hoth : ∀ y, y ≠ b → (w.setCell ⟨b, x, none⟩ v).heap[y]? = w.heap[y]? := by
    intro y hy
    simp only [World.setCell, Array.getElem?_modify]
    rw [if_neg (fun hh => hy hh.symm)]
  refine ⟨⟨e, fz, hself, by simpa using h2⟩, rfl, rfl, rfl, by simp, fun y _ hy => hoth y hy, fun y a hy hr => ?_⟩
  by_cases hyb : y = b
  · subst hyb
    obtain ⟨e', fz', hr⟩ := hr
    rw [hself] at hr
    injection hr with hr; injection hr with q1
    exact ⟨arr, ⟨e, fz, h1⟩, by simp [← q1]⟩
  · exact ⟨a, hr.back (hoth y hyb), rfl⟩

theorem storeCells_run (P : Program) (b o : Nat) : ∀ (vs : List Value) (i : Nat) (w : World) (arr : Array Value), OBlk w b arr → o + i + vs.length ≤ arr.size → (∀ v ∈ vs, leafV v = true) →
    ∃ w' arr', (storeCells ⟨b, o, none⟩ vs i).run P w = .ok () w' ∧ Chg w w' (fun x => x = b) ∧ OBlk w' b arr' ∧ arr'.size = arr.size ∧ ∀ j, arr'[j]? = if o + i ≤ j ∧ j < o + i + vs.length then vs[j - (o + i)]? else arr[j]? := by
  intro vs
  induction vs with
  | nil =>
    intro i w arr h _ _
    exact ⟨w, arr, by simp [storeCells], Chg.refl _ _, h, rfl, fun j => by rw [if_neg (by simp)]⟩
  | cons v vs ih =>
    intro i w arr h hl hf
    simp only [List.length_cons] at hl
    have hv : v.oneCell' = true := by have := hf v (by simp); cases v <;> first | rfl | exact absurd this (by simp [leafV])
    have hcell : w.cell? ⟨b, o + i, none⟩ = some (arr[o + i]'(by omega)) := by rw [cell?_of h.rblk]; exact Array.getElem?_eq_getElem _
    have hfz : w.frozen? ⟨b, o + i, none⟩ = false := by
      obtain ⟨e, fz, h1, h2⟩ := h
      have := h2 (o + i) (by omega)
      simp only [World.frozen?, h1]
      simp only [Bool.and_eq_false_iff, decide_eq_false_iff_not]
      omega
    obtain ⟨g1, g2⟩ := setCell_blk (x := o + i) h v
    obtain ⟨w', arr', k1, k2, k3, k4, k5⟩ := ih (i + 1) (w.setCell ⟨b, o + i, none⟩ v) _ g1 (by simp; omega) (fun u hu => hf u (List.mem_cons_of_mem _ hu))
    refine ⟨w', arr', ?_, g2.trans k2, k3, by simpa using k4, fun j => ?_⟩
    · simp only [storeCells, Sem.run_bind, add_spot, run_store P w _ v .plain hv, hcell, hfz]
      simpa using k1
    · rw [k5]
      simp only [List.length_cons]
      by_cases h1 : o + (i + 1) ≤ j ∧ j < o + (i + 1) + vs.length
      · rw [if_pos h1, if_pos (by omega)]
        have : j - (o + i) = (j - (o + (i + 1))) + 1 := by omega
        rw [this, List.getElem?_cons_succ]
      · rw [if_neg h1]
        by_cases h2 : j = o + i
        · subst h2
          rw [Array.getElem?_setIfInBounds_self_of_lt (by omega), if_pos (by omega)]
          simp
        · rw [Array.getElem?_setIfInBounds_ne (by omega), if_neg (by omega)]

/-- the cells of a place, some of them written anew -/
theorem cells_put {w w' : World} {b o off : Nat} {ds ys : List AV} {T : Nat → Prop} {Ts : Nat → Nat → Prop} {arr arr' : Array Value} {vs : List Value} (hC : Cells X w b o ds T) (hl : ys.length = vs.length) (hle : off + ys.length ≤ ds.length)
    (ha : OBlk w b arr) (ha' : OBlk w' b arr') (hsz : arr'.size = arr.size) (hg : ∀ j, arr'[j]? = if o + off ≤ j ∧ j < o + off + vs.length then vs[j - (o + off)]? else arr[j]?)
    (hch : Chg w w' (fun x => x = b)) (hO : ∀ i (h : i < ys.length) (h' : i < vs.length), OW X w ys[i] vs[i] (Ts i)) (hd : ∀ i j, i < ys.length → j < ys.length → i ≠ j → ∀ x, Ts i x → ¬ Ts j x)
    (hT : ∀ i, i < ys.length → ∀ x, Ts i x → ¬ T x) (hlt : ∀ i, i < ys.length → ∀ x, Ts i x → x < w.heap.size) (hTlt : ∀ x, T x → x < w.heap.size) :
    Cells X w' b o (setAt ds off ys) (fun x => T x ∨ ∃ i, i < ys.length ∧ Ts i x) := by
  obtain ⟨arr0, us, Us, c1, c2, c3, c4, c5, c6, c7, c8⟩ := hC
  have := c1.rblk.uniq ha.rblk; subst this
  have hin : ∀ j, j < ds.length → (off ≤ j ∧ j < off + ys.length) ∨ ¬ (off ≤ j ∧ j < off + ys.length) := fun _ _ => Classical.em _
  refine ⟨arr', fun j => if off ≤ j ∧ j < off + ys.length then vs.getD (j - off) undef else us j, fun j => if off ≤ j ∧ j < off + ys.length then Ts (j - off) else Us j, ha', .inl c2, by rw [setAt_len, hsz]; exact c3, fun j hj => ?_, fun j hj => ?_, fun j hj x hx => ?_, fun j hj hx => ?_, fun i j hi hj hne x hx hx' => ?_⟩
  · rw [setAt_len] at hj
    rw [hg]
    by_cases h : off ≤ j ∧ j < off + ys.length
    · rw [if_pos (by omega)]
      show _ = some (if off ≤ j ∧ j < off + ys.length then vs.getD (j - off) undef else us j)
      rw [if_pos h]
      have e : o + j - (o + off) = j - off := by omega
      rw [e, List.getD_eq_getElem?_getD, List.getElem?_eq_getElem (by omega)]; rfl
    · rw [if_neg (by omega)]
      show _ = some (if off ≤ j ∧ j < off + ys.length then vs.getD (j - off) undef else us j)
      rw [if_neg h]
      exact c4 j hj
  · rw [setAt_len] at hj
    have hget := setAt_get (cs := ds) (off := off) (j := j) (ys := ys) hle
    by_cases h : off ≤ j ∧ j < off + ys.length
    · rw [if_pos h] at hget
      simp only [h, and_self, if_true]
      have e1 : (setAt ds off ys)[j]'(by rw [setAt_len]; exact hj) = ys[j - off]'(by omega) := by
        have h1 : (setAt ds off ys)[j]? = some ((setAt ds off ys)[j]'(by rw [setAt_len]; exact hj)) := List.getElem?_eq_getElem _
        have h2 : ys[j - off]? = some (ys[j - off]'(by omega)) := List.getElem?_eq_getElem _
        rw [h1, h2] at hget; exact Option.some.inj hget
      have e2 : vs.getD (j - off) undef = vs[j - off]'(by omega) := by
        rw [List.getD_eq_getElem?_getD, List.getElem?_eq_getElem (by omega)]; rfl
      rw [e1, e2]
      exact (hO _ _ _).agree fun x hx => hch.same x (hlt _ (by omega) x hx) fun e => hT (j - off) (by omega) x hx (by rw [e]; exact c2)
    · rw [if_neg h] at hget
      simp only [h, if_false]
      have e1 : (setAt ds off ys)[j]'(by rw [setAt_len]; exact hj) = ds[j] := by
        have h1 : (setAt ds off ys)[j]? = some ((setAt ds off ys)[j]'(by rw [setAt_len]; exact hj)) := List.getElem?_eq_getElem _
        rw [h1, List.getElem?_eq_getElem hj] at hget; exact Option.some.inj hget
      rw [e1]
      exact (c5 j hj).agree fun x hx => hch.same x (hTlt x (c6 j hj x hx)) fun e => c7 j hj (by rw [← e]; exact hx)
  · rw [setAt_len] at hj
    by_cases h : off ≤ j ∧ j < off + ys.length
    · simp only [h, and_self, if_true] at hx
      exact .inr ⟨j - off, by omega, hx⟩
    · simp only [h, if_false] at hx
      exact .inl (c6 j hj x hx)
  · rw [setAt_len] at hj
    by_cases h : off ≤ j ∧ j < off + ys.length
    · simp only [h, and_self, if_true] at hx
      exact hT _ (by omega) b hx c2
    · simp only [h, if_false] at hx
      exact c7 j hj hx
  · rw [setAt_len] at hi hj
    by_cases h : off ≤ i ∧ i < off + ys.length
    · simp only [h, and_self, if_true] at hx
      by_cases h' : off ≤ j ∧ j < off + ys.length
      · simp only [h', and_self, if_true] at hx'
        exact hd _ _ (by omega) (by omega) (by omega) x hx hx'
      · simp only [h', if_false] at hx'
        exact hT _ (by omega) x hx (c6 j hj x hx')
    · simp only [h, if_false] at hx
      by_cases h' : off ≤ j ∧ j < off + ys.length
      · simp only [h', and_self, if_true] at hx'
        exact hT _ (by omega) x hx' (c6 i hi x hx)
      · simp only [h', if_false] at hx'
        exact c8 i j hi hj hne x hx hx'

/-- cells written at a place -/
theorem put_sound {μ0 : Nat → Option (Nat × Nat)} {H0 : Heap} (hX : X.WF) {ys : List AV} {vs : List Value} {Ts : Nat → Nat → Prop} {k : Nat} {p : List Nat} {cs ds : List AV} {off : Nat}
    (hR : Rel X μ F H w (fun b => False ∨ ∃ i, i < ys.length ∧ Ts i b)) (hK : ∀ U, Keep U [] μ0 H0 w μ H w) (hk : H k = some cs) (hs : sub p cs = some ds) (hpos : 0 < ys.length) (hle : off + ys.length ≤ ds.length) (hl : ys.length = vs.length)
    (hO : ∀ i (h : i < ys.length) (h' : i < vs.length), OW X w ys[i] vs[i] (Ts i)) (hd : ∀ i j, i < ys.length → j < ys.length → i ≠ j → ∀ x, Ts i x → ¬ Ts j x) :
    ∃ b o T, LocQ w (μ k) cs p (some (b, o)) ds ∧ Cells X w b o ds T ∧ ∃ w' F', (storeCells ⟨b, o + off, none⟩ vs 0).run P w = .ok () w' ∧
      Rel X μ F' (upd H k (some (modp p (fun xs => setAt xs off ys) cs))) w' (fun _ => False) ∧
      ∀ U, Keep U (bif ys.any isOwn then [k] else []) μ0 H0 w μ (upd H k (some (modp p (fun xs => setAt xs off ys) cs))) w' := by
  have hne : ds ≠ [] := by intro e; rw [e] at hle; simp only [List.length_nil] at hle; omega
  have hGE : ∀ b, (∃ i, i < ys.length ∧ Ts i b) → ¬ (fun _ : Nat => False) b := fun _ _ h => h
  obtain ⟨b, o, T, n1, n2, n3, n4⟩ := node_upd (G := fun _ => False) (E := fun b => ∃ i, i < ys.length ∧ Ts i b) hX hR hGE hk hs hne
  have n2' := n2
  obtain ⟨arr, us, Us, c1, c2, c3, _⟩ := n2'
  have hleaf : ∀ v ∈ vs, leafV v = true := by
    intro v hv
    obtain ⟨i, hi, rfl⟩ := List.mem_iff_getElem.mp hv
    exact (hO i (hl ▸ hi) hi).leaf
  obtain ⟨w', arr', s1, s2, s3, s4, s5⟩ := storeCells_run P b (o + off) vs 0 w arr c1 (by omega) hleaf
  have hTlt : ∀ x, T x → x < w.heap.size := fun x hx => (hR.out k cs x hk (n3 x hx)).2.1
  have hcells := cells_put (w' := w') (off := off) n2 hl hle c1 s3 s4 (by simpa using s5) s2 hO hd (fun i hi x hx hTx => (hR.out k cs x hk (n3 x hTx)).2.2 (.inr ⟨i, hi, hx⟩)) (fun i hi x hx => (hR.gout x (.inr ⟨i, hi, hx⟩)).2) hTlt
  have hm : modp p (fun xs => setAt xs off ys) cs = modp p (fun _ => setAt ds off ys) cs := modp_congr hs rfl
  obtain ⟨F', r1, r2⟩ := n4 w' (setAt ds off ys) _ (bif ys.any isOwn then [k] else []) (setAt_len) s2 hcells (fun x hx => hx) (by
    cases hany : ys.any isOwn with
    | true => right; simp
    | false =>
      left
      intro i z n cap fs hi
      have hget := setAt_get (cs := ds) (off := off) (j := i) (ys := ys) hle
      rw [hi] at hget
      by_cases h : off ≤ i ∧ i < off + ys.length
      · rw [if_pos h] at hget
        have hmem : AV.sl .own z n cap fs ∈ ys := List.mem_of_getElem? hget.symm
        have := List.any_eq_false.mp hany _ hmem
        simp [isOwn] at this
      · rw [if_neg h] at hget
        refine ⟨hget.symm, ?_⟩
        rw [cell?_of s3.rblk, cell?_of c1.rblk, s5, if_neg (by omega)])
  rw [← hm] at r1 r2
  refine ⟨b, o, T, n1, n2, w', F', s1, r1, fun U => ?_⟩
  have := (hK U).trans (r2 U)
  simpa using this

theorem store_sound (hX : X.WF) (hR : Rel X μ F H w (fun _ => False)) (ht : t.kl = []) {ty : TypeId} {row : Row} (hrow : RowOK P ty row) {a x : AV} {ua v : Value} (ha : RV X μ H w a ua) (hx : RV X μ H w x v)
    (h : (storeHM row a x).run H t K = some r) : ∃ w', (Instr.storeAt ty ua v).run P w = .ok () w' ∧ OP X U fr μ H w K r undef w' := by
  unfold storeHM at h
  split at h
  · rename_i k p off
    obtain ⟨ys, H', t', F', Ts, h, ht', hl, hO, hd, hR', hK, hN⟩ := absorbV_sound hR hx h
    obtain ⟨hg, h⟩ := guardB_run' h
    simp only [Bool.and_eq_true, decide_eq_true_eq] at hg
    obtain ⟨hg1, hg2⟩ := hg
    simp only [HM.run] at h
    cases hk : H' k with
    | none => simp [hk] at h
    | some cs =>
    simp only [hk] at h
    cases hs : sub p cs with
    | none => simp [hs, HM.run] at h
    | some ds =>
    simp only [hs] at h
    obtain ⟨hg3, h⟩ := guardB_run' h
    have hg3 := of_decide_eq_true hg3
    simp only [HM.run] at h
    obtain ⟨b, o, T, q1, q2, w', F'', s1, r1, r2⟩ := put_sound (P := P) (off := off) (vs := v.cells.toList) hX hR' hK hk hs (by omega) (by omega) (by simp; omega) (fun i hi hi' => by simpa using hO i hi (by simpa using hi')) hd
    have ha' := ha.keep0 hK
    cases ha' with
    | ptr _ _ _ a0 haa =>
      have := haa cs b o ds hk q1
      subst this
      refine ⟨w', ?_, ?_⟩
      · have hsz : ¬ v.cells.size ≠ row.size := by omega
        simp only [Instr.storeAt, Instr.sureAddr, storeVar, Sem.run_bind, Sem.run_pure, Result.andThen_ok, sizeOf_run P w hrow, hsz, if_false]
        simpa using s1
      · cases hany : ys.any isOwn with
        | true =>
          rw [hany] at h r2
          simp only [cond_true, HM.run] at h r2
          exact ⟨.und, μ, F'', _, _, h, r1, by simpa [ht', ht] using r2 U, .und _, by simp [keysAV], keep_fresh' hN hk⟩
        | false =>
          rw [hany] at h r2
          simp only [cond_false, HM.run] at h r2
          exact ⟨.und, μ, F'', _, _, h, r1, by simpa [ht', ht] using r2 U, .und _, by simp [keysAV], keep_fresh' hN hk⟩
  · simp [HM.run] at h
where
  keep_fresh' {H H' : Heap} {k : Nat} {cs : List AV} {c : Option (List AV)} {fr : Nat} (hN : ∀ j, H j = none → H' j = none) (hk : H' k = some cs) : ∀ j, H j = none → ¬ (fr ≤ j ∧ j < fr + 8) → upd H' k c j = none := by
    intro j hj _
    simp only [upd]
    split
    · rename_i e; subst e; rw [hN j hj] at hk; exact absurd hk (by simp)
    · exact hN j hj

end
end Go.Proofs.Ytlmifbpihlcabaa.VH
