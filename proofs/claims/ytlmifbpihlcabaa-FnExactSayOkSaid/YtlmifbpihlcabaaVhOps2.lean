/- Part of a proof about the given program: the verified evaluator and what it tells of the functions (VhOps2). Conditions: none beyond the hypotheses that each theorem states. -/
import Derived.Test.YtlmifbpihlcabaaVhOps
namespace Go.Proofs.Ytlmifbpihlcabaa.VH

section
variable {R : Type} {X : Cx} {U : Nat → Prop} {fr : Nat} {μ : Nat → Option (Nat × Nat)} {F : Nat → Nat → Prop} {H : Heap} {w : World} {K : AV → Heap → Tr → Option R} {r : R} {t : Tr} {P : Program} {E : Env}

theorem equal_bool_d {xt : TypeId} (h : P.underlying xt = some .bool) (a b : Bool) (d : Nat) : (Op.equalIn (d + 1) xt (.bool a) (.bool b)).run P w = .ok (a == b) w := by
  simp only [Op.equalIn, Sem.run_bind, underlying, run_program, Result.andThen_ok, h, Sem.run_pure]
theorem equal_nil_d {xt e : TypeId} (h : P.underlying xt = some (.slice e)) (A : Option Addr) (l c : Nat) (d : Nat) : (Op.equalIn (d + 1) xt (.slice A l c) (.slice none 0 0)).run P w = .ok A.isNone w := by
  cases A <;> simp only [Op.equalIn, Sem.run_bind, underlying, run_program, Result.andThen_ok, h, Sem.run_pure] <;> rfl
theorem equal_bool {xt : TypeId} (h : P.underlying xt = some .bool) (a b : Bool) : (Op.equal xt (.bool a) (.bool b)).run P w = .ok (a == b) w := equal_bool_d h a b 9999
theorem equal_nil {xt e : TypeId} (h : P.underlying xt = some (.slice e)) (A : Option Addr) (l c : Nat) : (Op.equal xt (.slice A l c) (.slice none 0 0)).run P w = .ok A.isNone w := equal_nil_d h A l c 9999

theorem isNil_inv {x : AV} (h : isNil x = true) : x = .val nilV := by
  unfold isNil at h
  split at h
  · rfl
  · exact absurd h (by simp)

theorem bin_sound (hR : Rel X μ F H w (fun _ => False)) (ht : t.kl = []) (hE : E.OK P) {op : BinOp} {xt : TypeId} {ox oy : Operand} {x y : AV} {u v : Value} (hx : RV X μ H w x u) (hy : RV X μ H w y v)
    (h : (bin ((E.row xt).map (·.td)) op x y).run H t K = some r) : ∃ z, ((do eqGuard op xt ox oy u v; Go.binOp op xt u v) : Sem Value).run P w = .ok z w ∧ OP X U fr μ H w K r z w := by
  have fin : ∀ b : Bool, (K (.val (.bool b)) H t = some r) → OP X U fr μ H w K r (.bool b) w := fun b h => OP.pure hR ht h (.val _) (fun k hk => by simp [keysAV] at hk)
  unfold bin at h
  split at h
  · rename_i k a k' b
    cases hx; cases hy
    have hg : (eqGuard op xt ox oy (.int k a) (.int k' b)).run P w = .ok () w := by unfold eqGuard; cases op <;> simp
    rw [Sem.run_bind, hg, Result.andThen_ok]
    split at h
    · exact intBin_sound hR ht xt trivial h
    · exact intBin_sound hR ht xt trivial h
    · rename_i h1 h2
      obtain ⟨hk, h⟩ := guardB_run' h
      have hk := of_decide_eq_true hk
      exact intBin_sound hR ht xt (by cases op <;> first | exact hk | trivial) h
  · rename_i a b
    cases hx; cases hy
    have hg : (eqGuard op xt ox oy (.string a) (.string b)).run P w = .ok () w := by unfold eqGuard; cases op <;> simp
    rw [Sem.run_bind, hg, Result.andThen_ok]
    exact strBin_sound hR ht xt h
  · rename_i a b
    cases hx; cases hy
    have hg : (eqGuard op xt ox oy (.bool a) (.bool b)).run P w = .ok () w := by unfold eqGuard; cases op <;> simp
    rw [Sem.run_bind, hg, Result.andThen_ok]
    cases hrow : E.row xt with
    | none => simp [hrow, HM.run] at h
    | some row =>
      simp only [hrow, Option.map_some] at h
      have htd := (hE xt row hrow).td
      split at h
      · rename_i hb
        rw [Option.some.inj hb] at htd
        refine ⟨.bool (a == b), ?_, fin _ h⟩
        show ((do pure (Value.bool (← Op.equal xt (.bool a) (.bool b)))) : Sem Value).run P w = _
        rw [Sem.run_bind, equal_bool htd]; rfl
      · rename_i hb
        rw [Option.some.inj hb] at htd
        refine ⟨.bool (!(a == b)), ?_, fin _ h⟩
        show ((do pure (Value.bool (!(← Op.equal xt (.bool a) (.bool b))))) : Sem Value).run P w = _
        rw [Sem.run_bind, equal_bool htd]; rfl
      · simp [HM.run] at h
  · cases hrow : E.row xt with
    | none => simp [hrow, HM.run] at h
    | some row =>
      simp only [hrow, Option.map_some] at h
      have htd := (hE xt row hrow).td
      have core : ∀ n e, slLen x = some n → row.td = .slice e → (isNil y && (isNil x || decide (0 < n))) = true → ∃ A l c, u = .slice A l c ∧ v = .slice none 0 0 ∧ A.isNone = isNil x := by
        intro n e hl _ hg
        simp only [Bool.and_eq_true, Bool.or_eq_true, decide_eq_true_eq] at hg
        obtain ⟨hy0, hx0⟩ := hg
        have := isNil_inv hy0
        subst this
        cases hy
        obtain ⟨A, c, hu, hn, h1, h2⟩ := slLen_hdr hl hx
        refine ⟨A, n, c, hu, rfl, ?_⟩
        cases hnx : isNil x with
        | true => rw [h1 (isNil_inv hnx)]; rfl
        | false =>
          have hpos : 0 < n := hx0.resolve_left (by simp [hnx])
          cases A with
          | none => exact absurd rfl (h2 hpos)
          | some a => rfl
      split at h
      · rename_i e n hb hl
        obtain ⟨hg, h⟩ := guardB_run' h
        have hb := Option.some.inj hb
        obtain ⟨A, l, c, rfl, rfl, hA⟩ := core n e hl hb hg
        rw [hb] at htd
        have hgd : (eqGuard .eql xt ox oy (.slice A l c) (.slice none 0 0)).run P w = .ok () w := by unfold eqGuard; simp
        rw [Sem.run_bind, hgd, Result.andThen_ok]
        refine ⟨.bool (isNil x), ?_, fin _ h⟩
        rw [← hA]
        show ((do pure (Value.bool (← Op.equal xt (.slice A l c) (.slice none 0 0)))) : Sem Value).run P w = _
        rw [Sem.run_bind, equal_nil htd]; rfl
      · rename_i e n hb hl
        obtain ⟨hg, h⟩ := guardB_run' h
        have hb := Option.some.inj hb
        obtain ⟨A, l, c, rfl, rfl, hA⟩ := core n e hl hb hg
        rw [hb] at htd
        have hgd : (eqGuard .neq xt ox oy (.slice A l c) (.slice none 0 0)).run P w = .ok () w := by unfold eqGuard; simp
        rw [Sem.run_bind, hgd, Result.andThen_ok]
        refine ⟨.bool (!isNil x), ?_, fin _ h⟩
        rw [← hA]
        show ((do pure (Value.bool (!(← Op.equal xt (.slice A l c) (.slice none 0 0))))) : Sem Value).run P w = _
        rw [Sem.run_bind, equal_nil htd]; rfl
      · simp [HM.run] at h

theorem add_spot (b o n : Nat) : (⟨b, o, none⟩ : Addr).add n = ⟨b, o + n, none⟩ := by
  unfold Addr.add; split
  · rename_i e; subst e; rfl
  · rfl

theorem idxAddr_sound (hR : Rel X μ F H w (fun _ => False)) (ht : t.kl = []) {ty e : TypeId} {re : Row} (hty : P.underlying ty = some (.slice e)) (hre : RowOK P e re) {x : AV} {i : Int} {k : IntKind} {u : Value} (hx : RV X μ H w x u) (hk : ∀ k, k ∈ keysAV x → U k)
    (h : (idxAddr x re.size i).run H t K = some r) : ∃ z, (Instr.indexAt ty u (.int k i)).run P w = .ok z w ∧ OP X U fr μ H w K r z w := by
  have conc : ∀ (b o n c : Nat) (hi : 0 ≤ i ∧ i < (n : Int)), (Instr.indexAt ty (.slice (some ⟨b, o, none⟩) n c) (.int k i)).run P w = .ok (.pointer (some ⟨b, o + i.toNat * re.size, none⟩)) w := by
    intro b o n c hi
    simp [Instr.indexAt, asIntOf, underlying, hty, hi, sizeOf_run P w hre, add_spot]
  unfold idxAddr at h
  split at h
  · rename_i tg z n cap cs
    obtain ⟨hg, h⟩ := guardB_run' h
    simp only [Bool.and_eq_true, decide_eq_true_eq] at hg
    cases hx with
    | sl _ _ _ _ _ _ htg hr =>
      cases hr with
      | nil => simp at hg; omega
      | sl _ _ _ _ _ b o c arr vs h1 h2 h3 h4 h5 h6 h7 =>
        exact ⟨_, conc b o n c hg, OP.pure hR ht h (.rp tg cs _ b o arr vs htg h1 h2 h6 h7) (fun k hk => by simp [keysAV] at hk)⟩
  · rename_i kk p z off n cap
    obtain ⟨hg, h⟩ := guardB_run' h
    simp only [Bool.and_eq_true, decide_eq_true_eq] at hg
    cases hx with
    | ref _ _ _ _ _ _ A c hn hc hA hh =>
      cases A with
      | none => have := hA rfl; omega
      | some a =>
        obtain ⟨b0, o0, sp⟩ := a
        refine ⟨.pointer (some ((⟨b0, o0, sp⟩ : Addr).add (i.toNat * re.size))), ?_, OP.pure hR ht h ?_ (fun k hk' => hk k hk')⟩
        · simp [Instr.indexAt, asIntOf, underlying, hty, hg, sizeOf_run P w hre]
        · refine .ptr kk p _ _ fun cs b o ds hkk hq => ?_
          have := hh cs _ ds hkk hq
          rcases this with h0 | ⟨h1, _⟩
          · omega
          · injection h1 with h1
            rw [h1, add_spot]
            congr 1; omega
  · simp [HM.run] at h

theorem getR_at {cs : List AV} {n off : Nat} {xs : List AV} (h : getR cs off n = some xs) {i : Nat} (hi : i < xs.length) : ∃ hh : off + i < cs.length, cs[off + i] = xs[i] :=
  List.getElem?_eq_some_iff.mp ((getR_inv h).2 i hi)

theorem rd_rv {tg : Tg} (htg : tg ≠ .own) {x : AV} {v : Value} (h : RD X.w0 (tagS X tg) x v) : RV X μ H w (borrowed tg x) v := by
  cases h with
  | und v h => exact .und v
  | val v h => exact .val v
  | sl tg' z n cap cs b o c arr vs h1 h2 h3 h4 h5 h6 h7 => exact .sl tg z n cap cs _ htg (.sl tg z n cap cs b o c arr vs h1 h2 h3 h4 h5 h6 h7)
  | nil tg' z cap A c hc => exact .sl tg z 0 cap [] _ htg (.nil tg z cap A c hc)

theorem rd_keys {tg : Tg} {S : Nat → Prop} {x : AV} {v : Value} (h : RD X.w0 S x v) : keysAV (borrowed tg x) = [] := by
  cases h <;> rfl

theorem tagS_fo (hX : X.WF) {tg : Tg} {b : Nat} (h : tagS X tg b) : X.Fo b := by
  cases tg <;> first | exact h | exact hX.fg b h

theorem load_sound (hX : X.WF) (hR : Rel X μ F H w (fun _ => False)) (ht : t.kl = []) {ty : TypeId} {row : Row} (hrow : RowOK P ty row) {a : AV} {u : Value} (ha : RV X μ H w a u) (hk : ∀ k, k ∈ keysAV a → U k)
    (h : (loadHM row a).run H t K = some r) : ∃ z, (Instr.loadAt ty u).run P w = .ok z w ∧ PP X U μ H w K r z := by
  -- from values of the cells to the load
  have conc : ∀ (b o : Nat) (ys : List AV) (vs : List Value) (t' : Tr), t'.kl = [] → vs.length = row.size → ys.length = vs.length → (∀ j (h : j < vs.length), w.cell? ⟨b, o + j, none⟩ = some vs[j]) → (∀ j (h : j < vs.length), leafV vs[j] = true) →
      (∀ j (h : j < vs.length) (h' : j < ys.length), RV X μ H w ys[j] vs[j]) → (∀ k, k ∈ keysL ys → U k) →
      (HM.run (bif row.td.agg then HM.ret (.agg ys) else match ys with | [x] => HM.ret x | _ => HM.fail) H t' K = some r) →
      ∃ z, (Instr.loadAt ty (.pointer (some ⟨b, o, none⟩))).run P w = .ok z w ∧ PP X U μ H w K r z := by
    intro b o ys vs t' ht' hl hyl hc hlf hv hku h
    refine ⟨_, by simp [Instr.loadAt, Instr.sureAddr, loadVar_run P w hrow hl hc]; rfl, ?_⟩
    cases hag : row.td.agg with
    | true =>
      rw [hag] at h
      simp only [cond_true, if_true] at h ⊢
      refine PP.pure hR ht' h (.agg ys _ (by simp [hyl]) (fun i hi => ?_) fun i hi hi' => ?_) (fun k hk => hku k (by simpa [keysAV] using hk))
      · simp only [List.getElem_toArray]; exact hlf i _
      · simp only [List.getElem_toArray]; exact hv i _ _
    | false =>
      rw [hag] at h
      have h1 := hrow.one hag
      rw [h1] at hl
      obtain ⟨v, rfl⟩ := List.length_eq_one_iff.mp hl
      rw [hl] at hyl
      obtain ⟨y, rfl⟩ := List.length_eq_one_iff.mp hyl
      simp only [cond_false, Bool.false_eq_true, if_false, List.headD_cons] at h ⊢
      exact PP.pure hR ht' h (hv 0 (by simp) (by simp)) (fun k hk => hku k (by simpa [keysL] using hk))
  unfold loadHM at h
  split at h
  · rename_i k p off
    simp only [look1, HM.bind, HM.run] at h
    cases hH : H k with
    | none => simp [hH] at h
    | some cs =>
    simp only [hH] at h
    cases hs : sub p cs with
    | none => simp [hs, HM.bind, HM.run] at h
    | some ds =>
    simp only [hs, HM.bind] at h
    obtain ⟨xs, hxs, h⟩ := ofOpt_run h
    obtain ⟨hxl, hxg⟩ := getR_inv hxs
    obtain ⟨res, T, hq, hat, _⟩ := look_at hR hH hs
    cases ha with
    | ptr _ _ _ a0 haa =>
      cases res with
      | none =>
        have hds : ds = [] := hat
        subst hds
        have : xs = [] := by
          cases xs with
          | nil => rfl
          | cons x xs => obtain ⟨hh, _⟩ := getR_at hxs (i := 0) (by simp); simp at hh
        subst this
        simp only [List.length_nil] at hxl
        obtain ⟨b0, o0, sp⟩ := a0
        have hag : row.td.agg = true := by
          cases hag : row.td.agg with
          | true => rfl
          | false => have := hrow.one hag; omega
        have hload : (Instr.loadAt ty (.pointer (some ⟨b0, o0, sp⟩))).run P w = .ok (.agg #[]) w := by
          simp [Instr.loadAt, Instr.sureAddr, loadVar, isAgg_run P w hrow.td, hag, sizeOf_run P w hrow, ← hxl, loadCells, loadCellsFrom]
        refine ⟨_, hload, ?_⟩
        simp only [hag, cond_true, loadedL] at h
        exact PP.pure hR (by simpa using ht) h (.agg [] #[] rfl (fun i hi => by simp at hi) fun i hi => by simp at hi) (fun k hk => by simp [keysAV, keysL] at hk)
      | some bo =>
        obtain ⟨b, o⟩ := bo
        have := haa cs b o ds hH hq
        subst this
        have key : ∀ j (hj : j < xs.length), ∃ v, w.cell? ⟨b, o + (off + j), none⟩ = some v ∧ leafV v = true ∧ RV X μ H w (loaded k p (off + j) xs[j]) v := fun j hj => loaded_rv hH hq hat (hxg j hj)
        let vs : List Value := (List.range xs.length).map fun j => if hj : j < xs.length then (key j hj).choose else undef
        have hvl : vs.length = xs.length := by simp [vs]
        have hvs : ∀ j (hj : j < vs.length), w.cell? ⟨b, o + off + j, none⟩ = some vs[j] ∧ leafV vs[j] = true ∧ RV X μ H w (loaded k p (off + j) (xs[j]'(by omega))) vs[j] := by
          intro j hj
          have e : vs[j] = (key j (by omega)).choose := by simp only [vs, List.getElem_map, List.getElem_range]; exact dif_pos (by omega)
          rw [e]
          obtain ⟨h1, h2, h3⟩ := (key j (by omega)).choose_spec
          exact ⟨by rw [Nat.add_assoc]; exact h1, h2, h3⟩
        refine conc b (o + off) (loadedL k p off xs) vs { t with rd := k :: t.rd } (by simpa using ht) (by omega) (by rw [loadedL_len, hvl]) (fun j hj => (hvs j hj).1) (fun j hj => (hvs j hj).2.1) (fun j hj hj' => ?_) (fun kk hkk => ?_) ?_
        · rw [loadedL_get hj' (by omega)]; exact (hvs j hj).2.2
        · obtain ⟨i, hi, hkk⟩ := keysL_mem hkk
          rw [loadedL_get hi (by rw [loadedL_len] at hi; exact hi)] at hkk
          have : ∀ x : AV, (∀ k, k ∈ keysAV x → False) ∨ True := fun _ => .inr trivial
          have hx' : ∀ x : AV, (∃ v T, OW X w x v T) → ∀ kk, kk ∈ keysAV (loaded k p (off + i) x) → kk = k := by
            rintro x ⟨v, T, hO⟩ kk hkk
            cases hO <;> simp [loaded, keysAV] at hkk <;> exact hkk
          obtain ⟨arr, vs', Ts, c1, c2, c3, c4, c5, _⟩ := hat
          have hil : i < xs.length := by rw [loadedL_len] at hi; exact hi
          obtain ⟨hh, he⟩ := getR_at hxs hil
          have := hx' xs[i] ⟨_, _, by rw [← he]; exact c5 _ hh⟩ kk hkk
          subst this
          exact hk _ (by simp [keysAV])
        · exact h
  · rename_i tg cs off
    obtain ⟨xs, hxs, h⟩ := ofOpt_run h
    obtain ⟨hxl, hxg⟩ := getR_inv hxs
    cases ha with
    | rp _ _ _ b o arr vs htg hS hb hv hr =>
      have hbw : RBlk w b arr := hb.agree (hR.frame b (tagS_fo hX hS))
      have hcell : ∀ j (hj : j < xs.length), w.cell? ⟨b, o + off + j, none⟩ = some (vs (off + j)) ∧ RD X.w0 (tagS X tg) xs[j] (vs (off + j)) := by
        intro j hj
        obtain ⟨hh, he⟩ := getR_at hxs hj
        refine ⟨by rw [cell?_of hbw, Nat.add_assoc]; exact hv _ hh, ?_⟩
        rw [← he]; exact hr _ hh
      let us : List Value := (List.range xs.length).map fun j => vs (off + j)
      have hul : us.length = xs.length := by simp [us]
      have hus : ∀ j (hj : j < us.length), us[j] = vs (off + j) := by intro j hj; simp [us]
      have hh' : HM.run (bif row.td.agg then HM.ret (.agg (xs.map (borrowed tg))) else match xs.map (borrowed tg) with | [x] => HM.ret x | _ => HM.fail) H t K = some r := by
        rw [← h]
        congr 1
        cases xs with
        | nil => rfl
        | cons x xs => cases xs <;> rfl
      refine conc b (o + off) (xs.map (borrowed tg)) us t ht (by omega) (by simp [hul]) (fun j hj => by rw [hus j hj]; exact (hcell j (by omega)).1) (fun j hj => by rw [hus j hj]; exact (hcell j (by omega)).2.leaf) (fun j hj hj' => ?_) (fun kk hkk => ?_) hh'
      · rw [hus j hj, List.getElem_map]; exact rd_rv htg (hcell j (by omega)).2
      · obtain ⟨i, hi, hkk⟩ := keysL_mem hkk
        rw [List.getElem_map, rd_keys (hcell i (by simpa using hi)).2] at hkk
        exact absurd hkk (by simp)
  · simp [HM.run] at h

end
end Go.Proofs.Ytlmifbpihlcabaa.VH
