/- Part of a proof about the given program: the verified evaluator and what it tells of the functions (VhApp). Conditions: none beyond the hypotheses that each theorem states. -/
import Derived.Test.YtlmifbpihlcabaaVhSrc
namespace Go.Proofs.Ytlmifbpihlcabaa.VH

/- Append. -/

/-- a new root, its row written -/
theorem newroot_chg {X : Cx} {μ : Nat → Option (Nat × Nat)} {F : Nat → Nat → Prop} {H : Heap} {w w' : World} {G E : Nat → Prop} {fr : Nat} {m : Option (Nat × Nat)} {ys : List AV} {T : Nat → Prop}
    (hX : X.WF) (hR : Rel X μ F H w (fun b => G b ∨ E b)) (hf : H fr = none) {S : Nat → Prop} (hC : Chg w w' S) (hS : ∀ b, S b → E b) (hat : At X w' m ys T)
    (hT : ∀ x, T x → E x ∧ ¬ G x ∨ (w.heap.size ≤ x ∧ x < w'.heap.size)) :
    Rel X (updM μ fr m) (updF F fr T) (upd H fr (some ys)) w' G ∧ ∀ U, (∀ k, U k → k ≠ fr) → Keep U [] μ H w (updM μ fr m) (upd H fr (some ys)) w' := by
  have hsame : ∀ b, b < w.heap.size → ¬ E b → w'.heap[b]? = w.heap[b]? := fun b hb he => hC.same b hb fun h => he (hS b h)
  constructor
  · refine ⟨hC.os.trans hR.os, hC.tape.trans hR.tape, hC.output.trans hR.output, Nat.le_trans hR.size hC.size, fun b hb => ?_, fun k cs hk => ?_, fun k k' cs cs' hne hk hk' b hb hb' => ?_, fun k cs b hk hb => ?_, fun b hb => ?_⟩
    · rw [hsame b (Nat.lt_of_lt_of_le (hX.fo b hb) hR.size) fun he => (hR.gout b (.inr he)).1 hb]; exact hR.frame b hb
    · by_cases hkf : k = fr
      · subst hkf
        simp only [upd, updM, updF, if_true] at hk ⊢
        injection hk with hk; subst hk
        cases m with
        | none => exact hat
        | some u => exact hat
      · simp only [upd, updM, updF, hkf, if_false] at hk ⊢
        have hroot := hR.root k cs hk
        cases hm : μ k with
        | none => rw [hm] at hroot; exact hroot
        | some u =>
          obtain ⟨b, o⟩ := u
          rw [hm] at hroot
          exact Cells.agree hroot fun x hx => hsame x (hR.out k cs x hk hx).2.1 fun he => (hR.out k cs x hk hx).2.2 (.inr he)
    · by_cases hkf : k = fr
      · have hk'f : k' ≠ fr := fun e => hne (hkf.trans e.symm)
        subst hkf
        simp only [upd, updF, if_true, hk'f, if_false] at hk' hb hb'
        obtain ⟨_, a2, a3⟩ := hR.out k' cs' b hk' hb'
        rcases hT b hb with h | h
        · exact a3 (.inr h.1)
        · omega
      · by_cases hk'f : k' = fr
        · subst hk'f
          simp only [upd, updF, if_true, hkf, if_false] at hk hb hb'
          obtain ⟨_, a2, a3⟩ := hR.out k cs b hk hb
          rcases hT b hb' with h | h
          · exact a3 (.inr h.1)
          · omega
        · simp only [upd, updF, hkf, hk'f, if_false] at hk hk' hb hb'
          exact hR.sep k k' cs cs' hne hk hk' b hb hb'
    · by_cases hkf : k = fr
      · subst hkf
        simp only [updF, if_true] at hb
        rcases hT b hb with h | h
        · obtain ⟨a1, a2⟩ := hR.gout b (.inr h.1)
          exact ⟨a1, Nat.lt_of_lt_of_le a2 hC.size, h.2⟩
        · refine ⟨fun hfo => ?_, h.2, fun hg => ?_⟩
          · have := hX.fo b hfo; have := hR.size; omega
          · have := (hR.gout b (.inl hg)).2; omega
      · simp only [upd, updF, hkf, if_false] at hk hb
        obtain ⟨a1, a2, a3⟩ := hR.out k cs b hk hb
        exact ⟨a1, Nat.lt_of_lt_of_le a2 hC.size, fun hg => a3 (.inl hg)⟩
    · obtain ⟨a1, a2⟩ := hR.gout b (.inl hb)
      exact ⟨a1, Nat.lt_of_lt_of_le a2 hC.size⟩
  · intro U hU
    refine ⟨fun k p cs' r ds hu _ hk hq => ?_⟩
    have hkf := hU k hu
    simp only [upd, updM, hkf, if_false] at hk hq
    have hq' := LocQ.other hR hk (fun x hx => hsame x (hR.out k cs' x hk hx).2.1 fun he => (hR.out k cs' x hk hx).2.2 (.inr he)) hq
    refine ⟨cs', ds, hk, hq', rfl, fun b o hr arr' ha => ?_⟩
    subst hr
    exact hC.cells b arr' (LocQ.mem hR hk hq').2 ha


section
variable {R : Type} {X : Cx} {U : Nat → Prop} {fr : Nat} {μ : Nat → Option (Nat × Nat)} {F : Nat → Nat → Prop} {H : Heap} {w : World} {P : Program} {E : Env}

theorem append_grow {ts : Array TypeId} {ty ut ty' e : TypeId} {d2 : TypeDesc} {re : Row} (hts : ts[0]? = some ty) (hts1 : ts[1]? = some ut) (hty : P.underlying ty = some (.slice e)) (hut : P.underlying ut = some d2) (hni : ∀ k, d2 ≠ .int k) (hre : RowOK P e re)
    {A : Option Addr} {n c m : Nat} {u : Value} {olds vals : List Value} (ho : SrcOK P w re.size n (.slice A n c) olds) (hs : SrcOK P w re.size m u vals) (hg : c < n + m) (hlim : n + m ≤ LIM) :
    ∃ z : Value, z.cells.toList = re.zero ∧ (Builtin.append_ ts ty' #[.slice A n c, u]).run P w = .ok (.slice (some ⟨w.heap.size, 0, none⟩) (n + m) (grownCap w (n + m) c e)) (w.drew.alloc (.cells (olds.toArray ++ vals.toArray ++ Builtin.zeroCells z.cells (grownCap w (n + m) c e - (n + m))) e)) := by
  obtain ⟨i, z, i1, i2, i3, i4, i5⟩ := hre.info
  refine ⟨z, i5, ?_⟩
  have hb := hre.bytes
  have hl : LIM = 549755813888 := by decide
  have h1 : ¬ (n + m ≤ c) := by omega
  have h2 : ¬ ((9223372036854775807 : Int) < ((n + m : Nat) : Int)) := by omega
  have h3 : ¬ (281474976710656 < Builtin.nextslicecap (n + m) c * i.bytes) := by
    have := growslice_fits (bytes := i.bytes) hg (by
      have h4 : (n + m) * i.bytes ≤ 549755813888 * 256 := Nat.mul_le_mul (by omega) (by omega)
      omega)
    omega
  rw [i3] at h3
  have h2' : ¬ ((9223372036854775807 : Int) < (n : Int) + (m : Int)) := by omega
  have hz : ∀ w', (zeroValue e).run P w' = .ok z w' := fun w' => by simp [zeroValue, typeInfo, i1, i4]
  have hf1 := (ho w.drew rfl).2
  have hf2 := (hs w.drew rfl).2
  have hl2 := (hs w rfl).1
  have hni' : (match d2 with | .int _ => true | _ => false) = false := by
    cases d2 <;> first | rfl | exact absurd rfl (hni _)
  simp [Builtin.append_, hts, hts1, underlying, hty, hut, hni', sizeOf_run P w hre, hl2, h1, h2', h3, typeInfo, i1, i3, Question.forced, hf1, hf2, hz, newRow, grownCap]
  rw [show (olds ++ vals).toArray = olds.toArray ++ vals.toArray from by simp, Array.append_assoc]

theorem append_here {ts : Array TypeId} {ty ut ty' e : TypeId} {d2 : TypeDesc} {re : Row} (hts : ts[0]? = some ty) (hts1 : ts[1]? = some ut) (hty : P.underlying ty = some (.slice e)) (hut : P.underlying ut = some d2) (hni : ∀ k, d2 ≠ .int k) (hre : RowOK P e re)
    {A : Option Addr} {n c m : Nat} {u : Value} {vals : List Value} (hs : SrcOK P w re.size m u vals) (hg : n + m ≤ c) {w' : World} (hw : ∀ a, A = some a → (storeCells (a.add (n * re.size)) vals).run P w = .ok () w') (hw' : A = none → w' = w) :
    (Builtin.append_ ts ty' #[.slice A n c, u]).run P w = .ok (.slice A (n + m) c) w' := by
  obtain ⟨i, z, i1, i2, i3, i4, i5⟩ := hre.info
  have hf2 := (hs w rfl).2
  have hl2 := (hs w rfl).1
  have hni' : (match d2 with | .int _ => true | _ => false) = false := by
    cases d2 <;> first | rfl | exact absurd rfl (hni _)
  cases A with
  | none =>
    have := hw' rfl; subst this
    simp [Builtin.append_, hts, hts1, underlying, hty, hut, hni', sizeOf_run P w' hre, hl2, hg, hf2]
  | some a =>
    have := hw a rfl
    simp [Builtin.append_, hts, hts1, underlying, hty, hut, hni', sizeOf_run P w hre, hl2, hg, hf2, this]

/-- what the program's append does -/
structure AppRun (P : Program) (w : World) (ts : Array TypeId) (ty' e : TypeId) (re : Row) (m : Nat) (u : Value) (vals : List Value) : Prop where
  grow : ∀ (A : Option Addr) (n c : Nat) (olds : List Value), SrcOK P w re.size n (.slice A n c) olds → c < n + m → n + m ≤ LIM → ∃ z : Value, z.cells.toList = re.zero ∧ (Builtin.append_ ts ty' #[.slice A n c, u]).run P w = .ok (.slice (some ⟨w.heap.size, 0, none⟩) (n + m) (grownCap w (n + m) c e)) (w.drew.alloc (.cells (olds.toArray ++ vals.toArray ++ Builtin.zeroCells z.cells (grownCap w (n + m) c e - (n + m))) e))
  here : ∀ (A : Option Addr) (n c : Nat) (w' : World), n + m ≤ c → (∀ a, A = some a → (storeCells (a.add (n * re.size)) vals).run P w = .ok () w') → (A = none → w' = w) → (Builtin.append_ ts ty' #[.slice A n c, u]).run P w = .ok (.slice A (n + m) c) w'

theorem appRun_src {ts : Array TypeId} {ty ut ty' e : TypeId} {d2 : TypeDesc} {re : Row} (hts : ts[0]? = some ty) (hts1 : ts[1]? = some ut) (hty : P.underlying ty = some (.slice e)) (hut : P.underlying ut = some d2) (hni : ∀ k, d2 ≠ .int k) (hre : RowOK P e re)
    {m : Nat} {u : Value} {vals : List Value} (hs : SrcOK P w re.size m u vals) : AppRun P w ts ty' e re m u vals :=
  ⟨fun _ _ _ _ ho hg hl => append_grow hts hts1 hty hut hni hre ho hs hg hl, fun _ _ _ _ hg hw hw' => append_here hts hts1 hty hut hni hre hs hg hw hw'⟩

theorem appRun_zeros {ts : Array TypeId} {ty ut ty' e : TypeId} {k2 k : IntKind} {re : Row} (hts : ts[0]? = some ty) (hts1 : ts[1]? = some ut) (hty : P.underlying ty = some (.slice e)) (hut : P.underlying ut = some (.int k2)) (hre : RowOK P e re)
    {m : Nat} (hm : m ≤ LIM) : ∃ z : Value, z.cells.toList = re.zero ∧ AppRun P w ts ty' e re m (.int k m) (Builtin.zeroCells z.cells m).toList := by
  obtain ⟨i, z, i1, i2, i3, i4, i5⟩ := hre.info
  refine ⟨z, i5, ?_⟩
  have hb := hre.bytes
  have hl : LIM = 549755813888 := by decide
  have hzs : z.cells.size = re.size := by rw [← hre.zl, ← i5]; simp
  have hz : ∀ w', (zeroValue e).run P w' = .ok z w' := fun w' => by simp [zeroValue, typeInfo, i1, i4]
  have hwr : IntKind.i64.wrap (m : Int) = m := by rw [IntKind.wrap_i64]; omega
  have hnn : ¬ ((m : Int) < 0) := by omega
  have hbig : ¬ ((281474976710656 : Int) < (m : Int) * (i.bytes : Int)) := by
    have : m * i.bytes ≤ 549755813888 * 256 := Nat.mul_le_mul (by omega) (by omega)
    have h2 : ((m * i.bytes : Nat) : Int) ≤ 549755813888 * 256 := by omega
    simp only [Int.natCast_mul] at h2
    omega
  rw [i3] at hbig
  have happ : ∀ w' : World, (if m * re.size = 0 then (pure #[] : Sem (Array Value)) else do pure (Builtin.zeroCells (← zeroValue e).cells m)).run P w' = .ok (Builtin.zeroCells z.cells m) w' := by
    intro w'
    by_cases h0 : m * re.size = 0
    · simp [h0, Builtin.zeroCells, hzs]
    · simp [h0, hz]
  constructor
  · intro A n c olds ho hg hlim
    refine ⟨z, i5, ?_⟩
    have h1 : ¬ (n + m ≤ c) := by omega
    have h3 : ¬ (281474976710656 < Builtin.nextslicecap (n + m) c * i.bytes) := by
      have := growslice_fits (bytes := i.bytes) hg (by
        have h4 : (n + m) * i.bytes ≤ 549755813888 * 256 := Nat.mul_le_mul (by omega) (by omega)
        omega)
      omega
    rw [i3] at h3
    have h2' : ¬ ((9223372036854775807 : Int) < (n : Int) + (m : Int)) := by omega
    have hf1 := (ho w.drew rfl).2
    have ha : ∀ w', ((if m * re.size = 0 then (pure #[] : Sem (Array Value)) else do pure (Builtin.zeroCells (← zeroValue e).cells m)).run P w') = .ok (Builtin.zeroCells z.cells m) w' := happ
    by_cases h0 : m * re.size = 0
    · have hzc : Builtin.zeroCells z.cells m = #[] := by simp [Builtin.zeroCells, hzs, h0]
      have h0' : m = 0 ∨ re.size = 0 := Nat.mul_eq_zero.mp h0
      simp [Builtin.append_, hts, hts1, underlying, hty, hut, hwr, hnn, hbig, sizeOf_run P w hre, h1, h2', h3, typeInfo, i1, i3, Question.forced, hf1, hz, newRow, grownCap, h0, h0', hzc, asInt, asIntOf]
    · have h0' : ¬ (m = 0 ∨ re.size = 0) := fun h => h0 (Nat.mul_eq_zero.mpr h)
      simp [Builtin.append_, hts, hts1, underlying, hty, hut, hwr, hnn, hbig, sizeOf_run P w hre, h1, h2', h3, typeInfo, i1, i3, Question.forced, hf1, hz, newRow, grownCap, h0, h0', asInt, asIntOf]
  · intro A n c w' hg hw hw'
    by_cases h0 : m * re.size = 0
    · have hzc : Builtin.zeroCells z.cells m = #[] := by simp [Builtin.zeroCells, hzs, h0]
      have h0' : m = 0 ∨ re.size = 0 := Nat.mul_eq_zero.mp h0
      cases A with
      | none =>
        have := hw' rfl; subst this
        simp [Builtin.append_, hts, hts1, underlying, hty, hut, hwr, hnn, hbig, sizeOf_run P w' hre, hg, typeInfo, i1, i3, h0, h0', asInt, asIntOf]
      | some a =>
        have := hw a rfl
        rw [hzc] at this
        simp [Builtin.append_, hts, hts1, underlying, hty, hut, hwr, hnn, hbig, sizeOf_run P w hre, hg, typeInfo, i1, i3, h0, h0', asInt, asIntOf] at this ⊢
        simp [this]
    · have h0' : ¬ (m = 0 ∨ re.size = 0) := fun h => h0 (Nat.mul_eq_zero.mpr h)
      cases A with
      | none =>
        have := hw' rfl; subst this
        simp [Builtin.append_, hts, hts1, underlying, hty, hut, hwr, hnn, hbig, sizeOf_run P w' hre, hg, typeInfo, i1, i3, hz, h0, h0', asInt, asIntOf]
      | some a =>
        have := hw a rfl
        simp [Builtin.append_, hts, hts1, underlying, hty, hut, hwr, hnn, hbig, sizeOf_run P w hre, hg, typeInfo, i1, i3, hz, h0, h0', this, asInt, asIntOf]

/-- a grown row -/
theorem grow_op {K : AV → Heap → Tr → Option R} {r : R} {t' : Tr} {H0 : Heap} (hX : X.WF) {ys : List AV} {vs : List Value} {Ts : Nat → Nat → Prop} (hR : Rel X μ F H w (fun b => False ∨ ∃ i, i < ys.length ∧ Ts i b)) (hK : ∀ U, Keep U [] μ H0 w μ H w) (hN : ∀ j, H0 j = none → H j = none) (ht : t'.kl = [])
    (hf : H0 fr = none) (hU : ∀ k, U k → k ≠ fr) {re : Row} {e : TypeId} {z : Value} (hz : z.cells.toList = re.zero) (hzl : re.zero.length = re.size) {nn cap : Nat} (hl : ys.length = nn * re.size) (hvl : vs.length = ys.length) (hcap : nn ≤ cap)
    (hO : ∀ i (h : i < ys.length) (h' : i < vs.length), OW X w ys[i] vs[i] (Ts i)) (hd : ∀ i j, i < ys.length → j < ys.length → i ≠ j → ∀ x, Ts i x → ¬ Ts j x)
    (h : (HM.put fr (some ys) (HM.ret (AV.ref fr [] re.size 0 nn none))).run H t' K = some r) :
    OP X U fr μ H0 w K r (.slice (some ⟨w.heap.size, 0, none⟩) nn cap) (w.drew.alloc (.cells (vs.toArray ++ Builtin.zeroCells z.cells (cap - nn)) e)) := by
  obtain ⟨hR1, hK1⟩ := hR.same0 (w' := w.drew) rfl rfl rfl rfl
  simp only [HM.run] at h
  have hzs : z.cells.size = re.size := by rw [← hzl, ← hz]; simp
  have hsz : (vs.toArray ++ Builtin.zeroCells z.cells (cap - nn)).size = cap * re.size := by
    simp only [Array.size_append, List.size_toArray, Builtin.zeroCells, Array.size_map, Array.size_range, hzs, hvl, hl]
    rw [← Nat.add_mul]; congr 1; omega
  have hle : nn * re.size ≤ cap * re.size := Nat.mul_le_mul_right _ hcap
  obtain ⟨F', h1, h2⟩ := new_rel (e := e) (arr := vs.toArray ++ Builtin.zeroCells z.cells (cap - nn)) (Ts := Ts) (ys := ys) (U := U) hX hR1 (fun U => Keep.refl U μ H w.drew) (hN fr hf) hU (by rw [hsz, hl]; exact hle) (fun j hj => by
    have e1 : (vs.toArray ++ Builtin.zeroCells z.cells (cap - nn))[j]'(by rw [hsz]; omega) = vs[j]'(by omega) := by
      rw [Array.getElem_append_left (by simp; omega)]; simp
    rw [e1]
    exact (hO j hj (by omega)).agree fun _ _ => rfl) hd (0, 0) (by simp)
  refine ⟨.ref fr [] re.size 0 nn none, _, F', _, _, h, h1, ?_, ?_, ?_, ?_⟩
  · have := ((hK U).trans (hK1 U)).trans h2
    simpa [ht] using this
  · refine rv_new_ref (arr := vs.toArray ++ Builtin.zeroCells z.cells (cap - nn)) (cs := ys) (makeSlice_sound.upd_same' H fr _) ⟨e, (0, 0), by show (w.heap.push _)[w.heap.size]? = _; simp⟩ hcap (by simp) (fun _ => by rw [hl]; exact hle) (by rw [hsz]; exact Nat.le_refl _)
  · intro k hk; simp [keysAV] at hk; right; omega
  · exact keep_fresh hN

end
end Go.Proofs.Ytlmifbpihlcabaa.VH
