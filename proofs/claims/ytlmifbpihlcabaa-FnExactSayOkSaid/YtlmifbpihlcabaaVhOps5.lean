/- Part of a proof about the given program: the verified evaluator and what it tells of the functions (VhOps5). Conditions: none beyond the hypotheses that each theorem states. -/
import Derived.Test.YtlmifbpihlcabaaVhOps4
namespace Go.Proofs.Ytlmifbpihlcabaa.VH

section
variable {R : Type} {X : Cx} {U : Nat → Prop} {fr : Nat} {μ : Nat → Option (Nat × Nat)} {F : Nat → Nat → Prop} {H : Heap} {w : World} {K : AV → Heap → Tr → Option R} {r : R} {t : Tr} {P : Program} {E : Env}

theorem cells_new {ys : List AV} {arr : Array Value} {e : TypeId} {Ts : Nat → Nat → Prop} (hl : ys.length ≤ arr.size) (hv : ∀ j (h : j < ys.length), OW X w ys[j] (arr[j]'(by omega)) (Ts j)) (hlt : ∀ j, j < ys.length → ∀ x, Ts j x → x < w.heap.size)
    (hd : ∀ i j, i < ys.length → j < ys.length → i ≠ j → ∀ x, Ts i x → ¬ Ts j x) (fz : Nat × Nat) (hfz : ∀ i, i < arr.size → ¬ (fz.1 ≤ i ∧ i < fz.2)) :
    Cells X (w.alloc (.cells arr e fz)) w.heap.size 0 ys (fun x => x = w.heap.size ∨ ∃ j, j < ys.length ∧ Ts j x) := by
  refine ⟨arr, fun j => if h : j < arr.size then arr[j] else undef, Ts, ⟨e, fz, by show (w.heap.push _)[w.heap.size]? = _; simp, hfz⟩, .inl rfl, by omega, fun j hj => ?_, fun j hj => ?_, fun j hj x hx => .inr ⟨j, hj, hx⟩, fun j hj hx => ?_, hd⟩
  · simp only [Nat.zero_add]
    rw [dif_pos (by omega)]
    exact Array.getElem?_eq_getElem _
  · show OW X _ _ (if h : j < arr.size then arr[j] else undef) _
    rw [dif_pos (show j < arr.size by omega)]
    exact (hv j hj).agree fun b hb => by
      show (w.heap.push _)[b]? = _
      rw [Array.getElem?_push, if_neg (by have := hlt j hj b hb; omega)]
  · have := hlt j hj _ hx; omega

/-- a new root behind an absorption -/
theorem new_rel {μ0 : Nat → Option (Nat × Nat)} {H0 : Heap} (hX : X.WF) {ys : List AV} {arr : Array Value} {e : TypeId} {Ts : Nat → Nat → Prop} (hR : Rel X μ F H w (fun b => False ∨ ∃ i, i < ys.length ∧ Ts i b)) (hK : ∀ U, Keep U [] μ0 H0 w μ H w) (hf : H fr = none) (hU : ∀ k, U k → k ≠ fr)
    (hl : ys.length ≤ arr.size) (hv : ∀ j (h : j < ys.length), OW X w ys[j] (arr[j]'(by omega)) (Ts j)) (hd : ∀ i j, i < ys.length → j < ys.length → i ≠ j → ∀ x, Ts i x → ¬ Ts j x) (fz : Nat × Nat) (hfz : ∀ i, i < arr.size → ¬ (fz.1 ≤ i ∧ i < fz.2)) :
    ∃ F', Rel X (updM μ fr (some (w.heap.size, 0))) F' (upd H fr (some ys)) (w.alloc (.cells arr e fz)) (fun _ => False) ∧ Keep U [] μ0 H0 w (updM μ fr (some (w.heap.size, 0))) (upd H fr (some ys)) (w.alloc (.cells arr e fz)) := by
  have hlt : ∀ j, j < ys.length → ∀ x, Ts j x → x < w.heap.size := fun j hj x hx => (hR.gout x (.inr ⟨j, hj, hx⟩)).2
  have hC := cells_new (X := X) (e := e) hl hv hlt hd fz hfz
  obtain ⟨h1, h2⟩ := newroot (w' := w.alloc (.cells arr e fz)) (m := some (w.heap.size, 0)) (T := fun x => x = w.heap.size ∨ ∃ j, j < ys.length ∧ Ts j x) (ys := ys) (G := fun _ => False) (E := fun b => ∃ i, i < ys.length ∧ Ts i b) hX hR hf (Chg.alloc _ _ _) hC (fun x hx => by
    rcases hx with hx | hx
    · right; subst hx; simp
    · exact .inl ⟨hx, fun h => h⟩)
  refine ⟨_, h1, ?_⟩
  have := (hK U).trans (h2 U hU)
  simpa using this

theorem keep_fresh {H' : Heap} (hN : ∀ j, H j = none → H' j = none) {c : Option (List AV)} : ∀ k, H k = none → ¬ (fr ≤ k ∧ k < fr + 8) → upd H' fr c k = none := by
  intro k hk hne
  simp only [upd]
  split
  · omega
  · exact hN k hk

theorem rel_nil {G : Nat → Prop} (h : Rel X μ F H w (fun _ => False)) (e : ∀ b, ¬ G b) : Rel X μ F H w G := by
  have : G = fun _ => False := by funext b; exact propext ⟨fun h => e b h, fun h => h.elim⟩
  rw [this]; exact h

theorem rv_new_ptr {H' : Heap} {w' : World} {b : Nat} : RV X (updM μ fr (some (b, 0))) H' w' (.ptr fr [] 0) (.pointer (some ⟨b, 0, none⟩)) := by
  refine .ptr fr [] 0 _ fun cs b' o ds _ hq => ?_
  obtain ⟨e, _⟩ := hq
  simp only [updM, if_true] at e
  injection e with e; injection e with e1 e2
  subst e1; subst e2; rfl

theorem rv_new_ref {H' : Heap} {w' : World} {b z n c : Nat} {cap : Option Nat} {cs : List AV} {arr : Array Value} (hH : H' fr = some cs) (hb : RBlk w' b arr) (hn : n ≤ c) (hc : ∀ q, cap = some q → c = q) (hlen : cap = none → cs.length ≤ c * z) (ha : c * z ≤ arr.size) :
    RV X (updM μ fr (some (b, 0))) H' w' (.ref fr [] z 0 n cap) (.slice (some ⟨b, 0, none⟩) n c) := by
  refine .ref fr [] z 0 n cap _ c hn hc (fun e => by simp at e) fun cs' res ds hk hq => ?_
  rw [hH] at hk; injection hk with hk; subst hk
  obtain ⟨e, rfl⟩ := hq
  simp only [updM, if_true] at e
  subst e
  refine .inr ⟨rfl, fun h => by have := hlen h; omega, fun arr' h' => ?_⟩
  rw [h'.uniq hb]; omega

theorem zero_run (P : Program) (w : World) {ty : TypeId} {row : Row} (h : RowOK P ty row) : ∃ z, (zeroValue ty).run P w = .ok z w ∧ z.cells.toList = row.zero := by
  obtain ⟨i, z, h1, h2, h3, h4, h5⟩ := h.info
  exact ⟨z, by simp [zeroValue, typeInfo, h1, h4], h5⟩

theorem alloc_sound (hX : X.WF) (hR : Rel X μ F H w (fun _ => False)) (ht : t.kl = []) {ty : TypeId} {row : Row} (hrow : RowOK P ty row) (hf : H fr = none) (hU : ∀ k, U k → k ≠ fr)
    (h : (HM.put fr (some (row.zero.map .val)) (HM.ret (AV.ptr fr [] 0))).run H t K = some r) : ∃ z w', (Instr.alloc ty true (.tuple #[])).run P w = .ok z w' ∧ OP X U fr μ H w K r z w' := by
  obtain ⟨z, hz, hzl⟩ := zero_run P w hrow
  simp only [HM.run] at h
  have hsz : z.cells.size = row.zero.length := by rw [← hzl]; simp
  obtain ⟨F', h1, h2⟩ := new_rel (e := ty) (arr := z.cells) (Ts := fun _ _ => False) (ys := row.zero.map .val) (U := U) hX (rel_nil hR (by simp)) (fun U => Keep.refl U μ H w) hf hU (by simp [hsz]) (fun j hj => by
      simp only [List.getElem_map]
      have e : row.zero[j]'(by simpa using hj) = z.cells[j]'(by rw [hsz]; simpa using hj) := by simp only [← hzl, Array.getElem_toList]
      rw [← e]
      exact .val _ _ (hrow.zleaf _ (List.getElem_mem _))) (by simp) (0, 0) (by simp)
  refine ⟨.pointer (some ⟨w.heap.size, 0, none⟩), w.alloc (.cells z.cells ty), by simp [Instr.alloc, hz, newVar, newRow], .ptr fr [] 0, _, F', _, _, h, h1, by simpa [ht] using h2, rv_new_ptr, ?_, ?_⟩
  · intro k hk; simp [keysAV] at hk; right; omega
  · exact keep_fresh fun _ h => h

theorem cells_of_rv {x : AV} {v : Value} (hx : RV X μ H w x v) (hne : (∃ xs, x = .agg xs) ∨ leafV v = true) : v.cells.size = (cellsOf x).length ∧ ∀ i (h : i < (cellsOf x).length) (h' : i < v.cells.size), RV X μ H w (cellsOf x)[i] v.cells[i] := by
  rcases hne with ⟨xs, rfl⟩ | hl
  · obtain ⟨vs, rfl, h1, h2, h3⟩ := rv_agg_inv hx
    exact ⟨h1, h3⟩
  · have hc : v.cells = #[v] := by cases v <;> first | rfl | exact absurd hl (by simp [leafV])
    have hx' : cellsOf x = [x] := by
      cases x <;> first | rfl | (cases hx; exact absurd hl (by simp [leafV]))
    rw [hc, hx']
    exact ⟨rfl, fun i h h' => by
      have : i = 0 := by simp at h; exact h
      subst this
      exact hx⟩

/-- an absorption of a whole value -/
theorem absorbV_sound {α : Type} {x : AV} {v : Value} {g : List AV → HM α} {K : α → Heap → Tr → Option R} (hR : Rel X μ F H w (fun _ => False)) (hx : RV X μ H w x v) (h : ((absorbL (cellsOf x)).bind g).run H t K = some r) :
    ∃ (ys : List AV) (H' : Heap) (t' : Tr) (F' : Nat → Nat → Prop) (Ts : Nat → Nat → Prop), (g ys).run H' t' K = some r ∧ t'.kl = t.kl ∧ v.cells.size = ys.length ∧ (∀ i (h : i < ys.length) (h' : i < v.cells.size), OW X w ys[i] v.cells[i] (Ts i)) ∧
      (∀ i j, i < ys.length → j < ys.length → i ≠ j → ∀ x, Ts i x → ¬ Ts j x) ∧
      Rel X μ F' H' w (fun b => False ∨ ∃ i, i < ys.length ∧ Ts i b) ∧ (∀ U, Keep U [] μ H w μ H' w) ∧ (∀ j, H j = none → H' j = none) := by
  have hdec : (∃ xs, x = .agg xs) ∨ ∀ xs, x ≠ .agg xs := by
    cases x <;> first | exact .inl ⟨_, rfl⟩ | exact .inr (by simp)
  rcases hdec with hagg | hnag
  · obtain ⟨h1, h2⟩ := cells_of_rv hx (.inl hagg)
    obtain ⟨ys, H', t', F', Ts, a1, a2, a3, a4, a5, a6, a7, a8, a9⟩ := absorbL_sound (vs := fun i => if h : i < v.cells.size then v.cells[i] else undef) hR (fun i hi => by rw [dif_pos (by omega)]; exact h2 i hi _) h
    exact ⟨ys, H', t', F', Ts, a1, a2, by omega, fun i hi hi' => by have := a4 i hi; rwa [dif_pos hi'] at this, a5, a7, a8, a9⟩
  · have hc : cellsOf x = [x] := by
      cases x <;> first | rfl | exact absurd rfl (hnag _)
    rw [hc] at h
    obtain ⟨ys, H', t', F', Ts, a1, a2, a3, a4, a5, a6, a7, a8, a9⟩ := absorbL_sound (vs := fun _ => v) hR (fun i hi => by
      have : i = 0 := by simp at hi; exact hi
      subst this; exact hx) h
    have hl : leafV v = true := (a4 0 (by simp [a3])).leaf
    have hcv : v.cells = #[v] := by cases v <;> first | rfl | exact absurd hl (by simp [leafV])
    refine ⟨ys, H', t', F', Ts, a1, a2, by rw [hcv, a3]; rfl, fun i hi hi' => ?_, a5, a7, a8, a9⟩
    have := a4 i hi
    have e : v.cells[i] = v := by
      have : i = 0 := by rw [a3] at hi; simpa using hi
      subst this
      simp [hcv]
    rw [e]; exact this

theorem box_sound (hX : X.WF) (hR : Rel X μ F H w (fun _ => False)) (ht : t.kl = []) {ty : TypeId} {row : Row} (hf : H fr = none) (hU : ∀ k, U k → k ≠ fr) {x : AV} {v : Value} (hx : RV X μ H w x v)
    (h : ((absorbL (cellsOf x)).bind fun ys => guardB (decide (ys.length = row.size)) (HM.put fr (some ys) (HM.ret (AV.ptr fr [] 0)))).run H t K = some r) : ∃ z w', (Instr.box ty v).run P w = .ok z w' ∧ OP X U fr μ H w K r z w' := by
  obtain ⟨ys, H', t', F', Ts, h, ht', hl, hO, hd, hR', hK, hN⟩ := absorbV_sound hR hx h
  obtain ⟨_, h⟩ := guardB_run' h
  simp only [HM.run] at h
  obtain ⟨F'', h1, h2⟩ := new_rel (e := ty) (arr := v.cells) (U := U) hX hR' hK (hN fr hf) hU (by omega) (fun j hj => hO j hj (by omega)) hd (0, 0) (by simp)
  refine ⟨.pointer (some ⟨w.heap.size, 0, none⟩), w.alloc (.cells v.cells ty), by simp [Instr.box, newVar, newRow], .ptr fr [] 0, _, F'', _, _, h, h1, by simpa [ht', ht] using h2, rv_new_ptr, ?_, ?_⟩
  · intro k hk; simp [keysAV] at hk; right; omega
  · exact keep_fresh hN

end
end Go.Proofs.Ytlmifbpihlcabaa.VH
