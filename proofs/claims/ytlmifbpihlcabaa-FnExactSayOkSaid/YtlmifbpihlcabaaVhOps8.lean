/- Part of a proof about the given program: the verified evaluator and what it tells of the functions (VhOps8). Conditions: none beyond the hypotheses that each theorem states. -/
import Derived.Test.YtlmifbpihlcabaaVhOps7
namespace Go.Proofs.Ytlmifbpihlcabaa.VH

section
variable {R : Type} {X : Cx} {U : Nat → Prop} {fr : Nat} {μ : Nat → Option (Nat × Nat)} {F : Nat → Nat → Prop} {H : Heap} {w : World} {K : AV → Heap → Tr → Option R} {r : R} {t : Tr} {P : Program} {E : Env}

/-- parts of a row: a list of values and what they stand for -/
theorem parts_cells {z : Nat} : ∀ {ps : List (Nat × AV)} {qs : List (Nat × Value)}, qs.length = ps.length → (∀ i (h : i < ps.length) (h' : i < qs.length), qs[i].2.cells.size = (cellsOf ps[i].2).length ∧ ∀ j (h1 : j < (cellsOf ps[i].2).length) (h2 : j < qs[i].2.cells.size), RV X μ H w (cellsOf ps[i].2)[j] qs[i].2.cells[j]) →
    (∀ p ∈ ps, (cellsOf p.2).length = z) → (ps.flatMap fun p => cellsOf p.2).length = ps.length * z ∧ ∀ j (h : j < (ps.flatMap fun p => cellsOf p.2).length), ∃ v, (qs.flatMap fun q => q.2.cells.toList)[j]? = some v ∧ RV X μ H w (ps.flatMap fun p => cellsOf p.2)[j] v := by
  intro ps
  induction ps with
  | nil => intro qs _ _ _; exact ⟨by simp, fun j h => by simp at h⟩
  | cons p ps ih =>
    intro qs hl hc hz
    cases qs with
    | nil => simp at hl
    | cons q qs =>
      obtain ⟨c1, c2⟩ := hc 0 (by simp) (by simp)
      simp only [List.getElem_cons_zero] at c1 c2
      obtain ⟨i1, i2⟩ := ih (qs := qs) (by simpa using hl) (fun i h h' => hc (i + 1) (by simpa using h) (by simpa using h')) (fun p hp => hz p (List.mem_cons_of_mem _ hp))
      have hp := hz p (List.mem_cons_self ..)
      refine ⟨by simp only [List.flatMap_cons, List.length_append, i1, hp, List.length_cons]; rw [Nat.add_mul, Nat.one_mul]; omega, fun j h => ?_⟩
      simp only [List.flatMap_cons]
      by_cases c : j < (cellsOf p.2).length
      · refine ⟨q.2.cells[j]'(by omega), ?_, ?_⟩
        · rw [List.getElem?_append_left (by simpa [c1] using c)]
          simp [show j < q.2.cells.size by omega]
        · rw [List.getElem_append_left c]; exact c2 j c (by omega)
      · have hlt : j - (cellsOf p.2).length < (ps.flatMap fun p => cellsOf p.2).length := by
          simp only [List.flatMap_cons, List.length_append] at h; omega
        obtain ⟨v, v1, v2⟩ := i2 (j - (cellsOf p.2).length) hlt
        refine ⟨v, ?_, ?_⟩
        · rw [List.getElem?_append_right (by simp [c1]; omega), ← v1]
          congr 1
          simp [c1]
        · rw [List.getElem_append_right (by omega)]; exact v2

/-- a relation of cells for what is built and not yet laid -/
theorem fillP_sound {place : Nat → Option (Nat × Nat)} {place' : Nat → Option (Nat × Nat)} (hpl : ∀ i x, place i = some x → place' i = some x) : ∀ {ps : List (Nat × AV)} {qs : List (Nat × Value)} {cs cs' : List AV} {arr : Array Value}, qs.map (·.1) = ps.map (·.1) →
    arr.size = cs.length → (∀ i (h : i < cs.length) (h' : i < arr.size), RV X μ H w cs[i] arr[i] ∧ leafV arr[i] = true) → (∀ q ∈ qs, ∀ v ∈ q.2.cells, leafV v = true) →
    (∀ i (h : i < ps.length) (h' : i < qs.length), qs[i].2.cells.size = (cellsOf ps[i].2).length ∧ ∀ j (h1 : j < (cellsOf ps[i].2).length) (h2 : j < qs[i].2.cells.size), RV X μ H w (cellsOf ps[i].2)[j] qs[i].2.cells[j]) →
    fillP place cs (ps.map fun (i, x) => (i, cellsOf x)) = some cs' → ∃ arr', Instr.fill place' arr qs = some arr' ∧ arr'.size = cs'.length ∧ ∀ i (h : i < cs'.length) (h' : i < arr'.size), RV X μ H w cs'[i] arr'[i] ∧ leafV arr'[i] = true := by
  intro ps
  induction ps with
  | nil =>
    intro qs cs cs' arr hi hs hr _ _ h
    have : qs = [] := by simpa using hi
    subst this
    simp only [List.map_nil, fillP, Option.some.injEq] at h
    subst h
    exact ⟨arr, rfl, hs, hr⟩
  | cons p ps ih =>
    intro qs cs cs' arr hi hs hr hl hc h
    cases qs with
    | nil => simp at hi
    | cons q qs =>
      obtain ⟨i, x⟩ := p
      obtain ⟨i', v⟩ := q
      simp only [List.map_cons, List.cons.injEq] at hi
      obtain ⟨rfl, hi⟩ := hi
      simp only [List.map_cons, fillP] at h
      split at h
      · rename_i off size hp
        split at h
        · rename_i hg
          obtain ⟨c1, c2⟩ := hc 0 (by simp) (by simp)
          simp only [List.getElem_cons_zero] at c1 c2
          obtain ⟨arr1, e1, e2, e3⟩ := fill_cons (place := place') (rest := qs) (arr := arr) (i := i') (off := off) (v := v) (by rw [hpl _ _ hp, c1, hg.1]) (by rw [c1]; omega)
          have hkey : ∀ j (hj : j < (setAt cs off (cellsOf x)).length) (hj' : j < arr1.size), RV X μ H w (setAt cs off (cellsOf x))[j] arr1[j] ∧ leafV arr1[j] = true := by
            intro j hj hj'
            have hg1 := setAt_get (cs := cs) (off := off) (j := j) (ys := cellsOf x) (by have h1 := hg.1; have h2 := hg.2; omega)
            have hg2 := e3 j
            rw [List.getElem?_eq_getElem hj] at hg1
            rw [Array.getElem?_eq_getElem hj'] at hg2
            rw [setAt_len] at hj
            by_cases c : off ≤ j ∧ j < off + (cellsOf x).length
            · rw [if_pos c, List.getElem?_eq_getElem (by omega)] at hg1
              rw [if_pos (by omega), Array.getElem?_eq_getElem (by omega)] at hg2
              rw [Option.some.inj hg1, Option.some.inj hg2]
              exact ⟨c2 (j - off) (by omega) (by omega), hl (i', v) (by simp) _ (Array.getElem_mem _)⟩
            · rw [if_neg c, List.getElem?_eq_getElem hj] at hg1
              rw [if_neg (by omega), Array.getElem?_eq_getElem (by omega)] at hg2
              rw [Option.some.inj hg1, Option.some.inj hg2]
              exact hr j hj (by omega)
          obtain ⟨arr', f1, f2, f3⟩ := ih (qs := qs) (arr := arr1) hi (by rw [e2, setAt_len]; exact hs) hkey (fun q hq => hl q (List.mem_cons_of_mem _ hq)) (fun i h h' => hc (i + 1) (by simpa using h) (by simpa using h')) h
          exact ⟨arr', e1.trans f1, f2, f3⟩
        · exact absurd h (by simp)
      · exact absurd h (by simp)

theorem buildSlice_sound (hX : X.WF) (hR : Rel X μ F H w (fun _ => False)) (ht : t.kl = []) {ty e : TypeId} {re : Row} (hty : P.underlying ty = some (.slice e)) (hre : RowOK P e re) (hf : H fr = none) (hU : ∀ k, U k → k ≠ fr) {n : Nat} {ps : List (Nat × AV)} {qs : List (Nat × Value)}
    (hidx : qs.map (·.1) = ps.map (·.1)) (hc : ∀ i (h : i < ps.length) (h' : i < qs.length), qs[i].2.cells.size = (cellsOf ps[i].2).length ∧ ∀ j (h1 : j < (cellsOf ps[i].2).length) (h2 : j < qs[i].2.cells.size), RV X μ H w (cellsOf ps[i].2)[j] qs[i].2.cells[j])
    (hn : n * re.size ≤ 16777216) (hpn : ps.length ≤ n) (hord : inOrd 0 (ps.map (·.1)) = true) (hall : ∀ p ∈ ps, (cellsOf p.2).length = re.size)
    (h : ((absorbL (ps.flatMap fun p => cellsOf p.2)).bind fun ys => HM.put fr (some (ys ++ zeros re (n - ps.length))) (HM.ret (AV.ref fr [] re.size 0 n (some n)))).run H t K = some r) : ∃ z w', (Instr.buildSlice ty n qs.toArray).run P w = .ok z w' ∧ OP X U fr μ H w K r z w' := by
  have hlen : qs.length = ps.length := by have := congrArg List.length hidx; simpa using this
  obtain ⟨p1, p2⟩ := parts_cells hlen hc hall
  obtain ⟨i, z, i1, i2, i3, i4, i5⟩ := hre.info
  have hzl : re.zero.length = re.size := hre.zl
  obtain ⟨ys, H', t', F', Ts, h, ht', hyl, hO, hd, _, hR', hK, hN⟩ := absorbL_sound (vs := fun j => ((qs.flatMap fun q => q.2.cells.toList)[j]?).getD undef) hR (fun j hj => by
    obtain ⟨v, v1, v2⟩ := p2 j hj
    rw [v1]; exact v2) h
  simp only [HM.run] at h
  have hyl' : ys.length = ps.length * re.size := by rw [hyl, p1]
  have hmul : ps.length * re.size + (n - ps.length) * re.size = n * re.size := by rw [← Nat.add_mul]; congr 1; omega
  have hqz : ∀ q ∈ qs, q.2.cells.size = re.size := by
    intro q hq
    obtain ⟨j, hj, rfl⟩ := List.mem_iff_getElem.mp hq
    rw [(hc j (by omega) hj).1]
    exact hall _ (List.getElem_mem _)
  have key : ∀ (zero : Array Value), (n * re.size = 0 ∨ zero = z.cells) → ∃ arr w', Instr.fill (fun i => some (i * re.size, re.size)) (zArr zero (n * re.size)) qs = some arr ∧ (Go.newRow e arr : Sem Addr).run P w = .ok ⟨w.heap.size, 0, none⟩ w' ∧ OP X U fr μ H w K r (.slice (some ⟨w.heap.size, 0, none⟩) n n) w' := by
    intro zero hz0
    obtain ⟨arr, f1, f2, f3⟩ := fill_ord re.size qs 0 (zArr zero (n * re.size)) (by rw [hidx]; exact hord) hqz (by rw [zArr_size, Nat.zero_add, hlen]; exact Nat.mul_le_mul_right _ hpn)
    rw [zArr_size] at f2
    let Ts' : Nat → Nat → Prop := fun j => if j < ys.length then Ts j else fun _ => False
    have hlz : (ys ++ zeros re (n - ps.length)).length = n * re.size := by rw [List.length_append, zeros_len, hzl, hyl', hmul]
    have hG : (fun b => False ∨ ∃ i, i < ys.length ∧ Ts i b) = fun b => False ∨ ∃ i, i < (ys ++ zeros re (n - ps.length)).length ∧ Ts' i b := by
      funext b
      apply propext
      constructor
      · rintro (h | ⟨i, hi, hh⟩)
        · exact h.elim
        · exact .inr ⟨i, by rw [List.length_append]; omega, by simp only [Ts', hi, if_true]; exact hh⟩
      · rintro (h | ⟨i, hi, hh⟩)
        · exact h.elim
        · by_cases c : i < ys.length
          · simp only [Ts', c, if_true] at hh; exact .inr ⟨i, c, hh⟩
          · simp only [Ts', c, if_false] at hh
    rw [hG] at hR'
    obtain ⟨F'', h1, h2⟩ := new_rel (e := e) (arr := arr) (Ts := Ts') (ys := ys ++ zeros re (n - ps.length)) (U := U) hX hR' hK (hN fr hf) hU (by rw [hlz, f2]; exact Nat.le_refl _) (fun j hj => by
      have hjn : j < n * re.size := by rwa [hlz] at hj
      have hg := f3 j
      rw [Array.getElem?_eq_getElem (by omega)] at hg
      simp only [Nat.zero_mul, Nat.zero_le, true_and, Nat.zero_add, Nat.sub_zero, hlen] at hg
      by_cases c : j < ys.length
      · rw [if_pos (by omega)] at hg
        simp only [Ts', c, if_true]
        rw [List.getElem_append_left c]
        have := hO j c
        rw [← hg] at this
        exact this
      · rw [if_neg (by omega)] at hg
        simp only [Ts', c, if_false]
        rw [List.getElem_append_right (by omega)]
        have hjz : j - ys.length < (zeros re (n - ps.length)).length := by rw [zeros_len, hzl]; omega
        obtain ⟨v, hv, ho⟩ := zeros_ow (X := X) (w := w) (T := fun _ => False) hre.zleaf hjz
        have hze : zero = z.cells := hz0.resolve_left (by omega)
        have hg' := zArr_get (zero := zero) (row := re) (n := n) (by rw [hze]; exact i5) (j := j) (by rw [hzl]; exact hjn)
        rw [hzl] at hg' hv
        have hmod : (j - ys.length) % re.size = j % re.size := by
          have hjj : j = (j - ys.length) + ps.length * re.size := by omega
          conv => rhs; rw [hjj]
          rw [Nat.add_mul_mod_self_right]
        rw [hg', ← hmod, hv] at hg
        rw [Option.some.inj hg]; exact ho) (fun i j hi hj hne x hx hx' => by
        by_cases c : i < ys.length
        · by_cases c' : j < ys.length
          · simp only [Ts', c, c', if_true] at hx hx'
            exact hd i j c c' hne x hx hx'
          · simp only [Ts', c', if_false] at hx'
        · simp only [Ts', c, if_false] at hx) (0, 0) (by simp)
    refine ⟨arr, w.alloc (.cells arr e), f1, by simp [newRow], .ref fr [] re.size 0 n (some n), _, F'', _, _, h, h1, by simpa [ht', ht] using h2, ?_, ?_, ?_⟩
    · refine rv_new_ref (arr := arr) (cs := ys ++ zeros re (n - ps.length)) (makeSlice_sound.upd_same' H' fr _) ⟨e, (0, 0), by show (w.heap.push _)[w.heap.size]? = _; simp⟩ (Nat.le_refl _) (by simp) (by simp) (by rw [f2]; exact Nat.le_refl _)
    · intro k hk; simp [keysAV] at hk; right; omega
    · exact keep_fresh hN
  have c1 : ¬ (16777216 < n * re.size) := by omega
  by_cases h0 : n * re.size = 0
  · obtain ⟨arr, w', k0, k1, k2⟩ := key #[] (.inl h0)
    refine ⟨_, w', ?_, k2⟩
    simp [zArr, h0] at k0
    simp [Instr.buildSlice, underlying, hty, c1, sizeOf_run P w hre, h0, k0, k1]
  · obtain ⟨arr, w', k0, k1, k2⟩ := key z.cells (.inr rfl)
    refine ⟨_, w', ?_, k2⟩
    simp only [zArr] at k0
    have hz : (zeroValue e).run P w = .ok z w := by simp [zeroValue, typeInfo, i1, i4]
    simp [Instr.buildSlice, underlying, hty, c1, sizeOf_run P w hre, h0, hz, k0, k1]

theorem places_run (hE : E.OK P) (w : World) : ∀ (fields : List Go.Field), (∀ f : Go.Field, f ∈ fields → (E.row f.type).isSome = true) → ∃ places : List (Nat × Nat), (fields.mapM fun (f : Go.Field) => (do pure (f.offset, ← sizeOf f.type) : Sem (Nat × Nat))).run P w = .ok places w ∧
    ∀ (i : Nat) (f : Go.Field) (row : Row), fields[i]? = some f → E.row f.type = some row → places[i]? = some (f.offset, row.size) := by
  intro fields
  induction fields with
  | nil => intro _; exact ⟨[], by simp, fun i f row h => by simp at h⟩
  | cons f fs ih =>
    intro h
    obtain ⟨places, h1, h2⟩ := ih fun g hg => h g (List.mem_cons_of_mem _ hg)
    obtain ⟨row, hrow⟩ := Option.isSome_iff_exists.mp (h f (List.mem_cons_self ..))
    refine ⟨(f.offset, row.size) :: places, ?_, fun i g row' hi hr => ?_⟩
    · simp only [List.mapM_cons, Sem.run_bind, sizeOf_run P w (hE _ _ hrow), Result.andThen_ok, Sem.run_pure, h1]
    · cases i with
      | zero =>
        simp only [List.getElem?_cons_zero, Option.some.injEq] at hi
        subst hi
        rw [hrow] at hr; injection hr with hr; subst hr
        rfl
      | succ i =>
        rw [List.getElem?_cons_succ] at hi ⊢
        exact h2 i g row' hi hr

theorem build_sound (hE : E.OK P) (hR : Rel X μ F H w (fun _ => False)) (ht : t.kl = []) {ty : TypeId} {row : Row} {fs : List (Nat × TypeId)} (hrow : E.row ty = some row) (htd : row.td = .struct fs) {ps : List (Nat × AV)} {qs : List (Nat × Value)} (hidx : qs.map (·.1) = ps.map (·.1))
    (hv : ∀ i (h : i < ps.length) (h' : i < qs.length), RV X μ H w ps[i].2 qs[i].2) (hk : ∀ p ∈ ps, ∀ k, k ∈ keysAV p.2 → U k) (hleaf : ∀ p ∈ ps, ∀ v, RV X μ H w p.2 v → (∃ xs, p.2 = .agg xs) ∨ leafV v = true) (hfs : (fs.all fun f => (E.row f.2).isSome) = true)
    {cs : List AV} (hf : fillP (fieldsPlace E fs) (row.zero.map .val) (ps.map fun (i, x) => (i, cellsOf x)) = some cs) (hkc : ∀ k, k ∈ keysL cs → U k) (h : K (.agg cs) H t = some r) : ∃ z, (Instr.build ty qs.toArray).run P w = .ok z w ∧ OP X U fr μ H w K r z w := by
  have hrok := hE _ _ hrow
  obtain ⟨i, z, i1, i2, i3, i4, i5⟩ := hrok.info
  have htd' := hrok.td
  rw [htd] at htd'
  obtain ⟨fields, u1, u2⟩ := htd'
  have hall : ∀ f ∈ fields.toList, (E.row f.type).isSome = true := by
    intro f hf
    have : (f.offset, f.type) ∈ fs := by rw [← u2]; exact List.mem_map.mpr ⟨f, hf, rfl⟩
    exact List.all_eq_true.mp hfs _ this
  obtain ⟨places, p1, p2⟩ := places_run hE w fields.toList hall
  have hlen : qs.length = ps.length := by have := congrArg List.length hidx; simpa using this
  have hz : (zeroValue ty).run P w = .ok z w := by simp [zeroValue, typeInfo, i1, i4]
  have hzs : z.cells.size = (row.zero.map AV.val).length := by rw [List.length_map, ← i5]; simp
  obtain ⟨arr, a1, a2, a3⟩ := fillP_sound (place := fieldsPlace E fs) (place' := fun x => places.toArray[x]?) (arr := z.cells) (ps := ps) (qs := qs) (fun i x hx => by
      unfold fieldsPlace at hx
      split at hx
      · rename_i off ft hfi
        split at hx
        · rename_i rr hrr
          injection hx with hx; subst hx
          rw [← u2, List.getElem?_map] at hfi
          cases hfd : fields.toList[i]? with
          | none => simp [hfd] at hfi
          | some fd =>
            simp only [hfd, Option.map_some, Option.some.injEq, Prod.mk.injEq] at hfi
            obtain ⟨e1, e2⟩ := hfi
            have := p2 i fd rr hfd (by rw [e2]; exact hrr)
            simp [this, e1]
        · exact absurd hx (by simp)
      · exact absurd hx (by simp)) hidx hzs (fun j hj hj' => by
      simp only [List.getElem_map]
      have e : row.zero[j]'(by simpa using hj) = z.cells[j] := by simp only [← i5, Array.getElem_toList]
      rw [e]
      exact ⟨.val _, by rw [← e]; exact hrok.zleaf _ (List.getElem_mem _)⟩) (fun q hq v hvv => by
      obtain ⟨j, hj, rfl⟩ := List.mem_iff_getElem.mp hq
      have hrv := hv j (by omega) hj
      rcases hleaf _ (List.getElem_mem (by omega : j < ps.length)) _ hrv with ⟨xs, hx⟩ | hl
      · rw [hx] at hrv
        obtain ⟨vs, hq, _, hlf, _⟩ := rv_agg_inv hrv
        rw [hq] at hvv
        obtain ⟨m, hm, rfl⟩ := Array.mem_iff_getElem.mp hvv
        exact hlf m hm
      · have hcc : qs[j].2.cells = #[qs[j].2] := by cases hqq : qs[j].2 <;> first | rfl | (rw [hqq] at hl; exact absurd hl (by simp [leafV]))
        rw [hcc] at hvv
        simp only [List.mem_toArray, List.mem_singleton] at hvv
        rw [hvv]; exact hl) (fun j hj hj' => cells_of_rv (hv j hj hj') (hleaf _ (List.getElem_mem hj) _ (hv j hj hj'))) hf
  refine ⟨.agg arr, ?_, OP.pure hR ht h (.agg cs arr a2 (fun m hm => (a3 m (by omega) hm).2) fun m hm hm' => (a3 m hm hm').1) (fun k hk => hkc k (by simpa [keysAV] using hk))⟩
  have hfill : Instr.fill (fun x => places[x]?) z.cells qs = some arr := by simpa using a1
  have p1' : (fields.toList.mapM fun (f : Go.Field) => (Prod.mk f.offset <$> sizeOf f.type : Sem (Nat × Nat))).run P w = .ok places w := by simpa using p1
  simp [Instr.build, hz, underlying, u1, Array.mapM_eq_mapM_toList, p1', hfill]

end
end Go.Proofs.Ytlmifbpihlcabaa.VH
