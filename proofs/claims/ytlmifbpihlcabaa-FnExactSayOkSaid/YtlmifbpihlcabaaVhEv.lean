/- Part of a proof about the given program: the verified evaluator and what it tells of the functions (VhEv). Conditions: none beyond the hypotheses that each theorem states. -/
import Derived.Test.YtlmifbpihlcabaaVhDraw
import Derived.Deep.LoopGhost
namespace Go.Proofs.Ytlmifbpihlcabaa.VH

/- Code. -/

def codeOK (N : Nat) : Code → Bool
  | .skip | .exit _ | .ret => true
  | .region _ ops draw => ops.toList.all (dstOK N) && (!draw || drawOK ops)
  | .seq a b => codeOK N a && codeOK N b
  | .cond _ a b => codeOK N a && codeOK N b
  | .block _ c => codeOK N c
  | .loop c => codeOK N c
  | _ => false

def Ex.to : Ex → Exit
  | .normal => .normal
  | .exit id => .exit id
  | .ret => .ret

theorem tp_get : ∀ (l : List (Nat × AV)) (t : Nat), tp l t = .und ∨ (t, tp l t) ∈ l
  | [], t => .inl rfl
  | (a, x) :: r, t => by
    by_cases h : t = a
    · subst h
      right
      simp [tp]
    · rcases tp_get r t with h' | h'
      · left; simp only [tp, if_neg h]; exact h'
      · right; simp only [tp, if_neg h]; exact List.mem_cons_of_mem _ h'

/-- what lives is kept -/
theorem norm_sound {X : Cx} {μ : Nat → Option (Nat × Nat)} {F : Nat → Nat → Prop} {w : World} {N L : Nat} {S : St} {a : Act} (hS : SR X μ F S.H w N S.nx (fun _ => False) S.T a) (T : List Nat) :
    ∃ μ' F', SR X μ' F' (norm L T S).H w N (norm L T S).nx (fun _ => False) (norm L T S).T a ∧ L ≤ (norm L T S).nx ∧ Keep (fun k => k < L) [] μ S.H w μ' (norm L T S).H w := by
  refine ⟨sel (keep L (T.map S.T)) μ, sel (keep L (T.map S.T)) F, ⟨hS.rel.ren (keep_nodup _ _), fun t => ?_, fun t k hk => ?_, fun k hk => ?_, hS.defers, hS.size⟩, keep_len _ _, keep_keep⟩
  · rcases tp_get (T.map fun t => (t, renAV (fun k => (keep L (T.map S.T)).idxOf k) (S.T t))) t with h | h
    · show RV _ _ _ _ (tp _ t) _
      rw [h]; exact .und _
    · obtain ⟨t', ht', he⟩ := List.mem_map.mp h
      injection he with e1 e2
      subst e1
      show RV _ _ _ _ (tp _ t') _
      rw [← e2]
      refine sel_keep (hS.slots t') fun k hk => .inr ?_
      obtain ⟨i, hi, e⟩ := List.mem_iff_getElem.mp ht'
      exact mem_keysL (i := i) (by simpa using hi) (by simpa [e] using hk)
  · left
    rcases tp_get (T.map fun t => (t, renAV (fun k => (keep L (T.map S.T)).idxOf k) (S.T t))) t with h | h
    · have : k ∈ keysAV (tp (T.map fun t => (t, renAV (fun k => (keep L (T.map S.T)).idxOf k) (S.T t))) t) := hk
      rw [h] at this; simp [keysAV] at this
    · obtain ⟨t', ht', he⟩ := List.mem_map.mp h
      injection he with e1 e2
      subst e1
      have hk' : k ∈ keysAV (tp (T.map fun t => (t, renAV (fun k => (keep L (T.map S.T)).idxOf k) (S.T t))) t') := hk
      rw [← e2] at hk'
      refine ren_keys (fun k hk => .inr ?_) k hk'
      obtain ⟨i, hi, e⟩ := List.mem_iff_getElem.mp ht'
      exact mem_keysL (i := i) (by simpa using hi) (by simpa [e] using hk)
  · have hk' : ¬ k < (keep L (T.map S.T)).length := fun h => hk (.inl h)
    show hp _ k = none
    cases hh : hp ((keep L (T.map S.T)).map S.H) k with
    | none => rfl
    | some cs => exact absurd (by simpa using hp_lt hh) hk'

theorem SR.next {X : Cx} {μ : Nat → Option (Nat × Nat)} {F : Nat → Nat → Prop} {H : Heap} {w : World} {N nx n : Nat} {T : Nat → AV} {a : Act} (h : SR X μ F H w N nx (fun j => j < n) T a) : SR X μ F H w N (nx + 8 * n) (fun _ => False) T a := by
  have e : ∀ k, UU nx (fun j => j < n) k ↔ UU (nx + 8 * n) (fun _ => False) k := by
    intro k
    constructor
    · rintro (h | ⟨i, hi, h⟩)
      · left; omega
      · left; omega
    · rintro (h | ⟨i, hi, h⟩)
      · by_cases hk : k < nx
        · exact .inl hk
        · exact .inr ⟨(k - nx) / 8, by omega, by omega, by omega⟩
      · exact hi.elim
  exact ⟨h.rel, h.slots, fun t k hk => (e k).1 (h.keys t k hk), fun k hk => h.fresh k fun hh => hk ((e k).1 hh), h.defers, h.size⟩

theorem Rel.same {X : Cx} {μ : Nat → Option (Nat × Nat)} {F : Nat → Nat → Prop} {H : Heap} {w w' : World} {G : Nat → Prop} (hR : Rel X μ F H w G) (hh : w'.heap = w.heap) (h1 : w'.os = w.os) (h2 : w'.tape = w.tape) (h3 : w'.output = w.output) :
    Rel X μ F H w' G ∧ ∀ U, Keep U [] μ H w μ H w' := by
  have hs : ∀ b : Nat, w'.heap[b]? = w.heap[b]? := fun b => by rw [hh]
  refine ⟨⟨h1.trans hR.os, h2.trans hR.tape, h3.trans hR.output, by rw [hh]; exact hR.size, fun b hb => (hs b).trans (hR.frame b hb), fun k cs hk => ?_, hR.sep, fun k cs b hk hb => ?_, fun b hb => ?_⟩, fun U => ⟨fun k p cs' r ds _ _ hk hq => ?_⟩⟩
  · have := hR.root k cs hk
    cases hm : μ k with
    | none => rw [hm] at this; exact this
    | some u => rw [hm] at this; exact Cells.agree this fun x _ => hs x
  · rw [hh]; exact hR.out k cs b hk hb
  · rw [hh]; exact hR.gout b hb
  · exact ⟨cs', ds, hk, LocQ.other hR hk (fun x _ => hs x) hq, rfl, fun b o _ arr' ha => ⟨arr', ha.back (hs b), rfl⟩⟩

theorem SR.drawn {X : Cx} {μ : Nat → Option (Nat × Nat)} {F : Nat → Nat → Prop} {H : Heap} {w : World} {N nx : Nat} {D : Nat → Prop} {T : Nat → AV} {a : Act} (h : SR X μ F H w N nx D T a) (n : Nat) :
    SR X μ F H { w with drawn := n } N nx D T a ∧ ∀ U, Keep U [] μ H w μ H { w with drawn := n } := by
  obtain ⟨h1, h2⟩ := h.rel.same (w' := { w with drawn := n }) rfl rfl rfl rfl
  exact ⟨⟨h1, fun t => (h.slots t).keep0 h2, h.keys, h.fresh, h.defers, h.size⟩, h2⟩

def Goes {R : Type} (X : Cx) (N L : Nat) (K : Ex → St → Option R) (r : R) (μ : Nat → Option (Nat × Nat)) (H : Heap) (w : World) (Q : Exit → Act → World → Prop) : Prop :=
  ∀ e S' a' w' μ' F' ks, K e S' = some r → L ≤ S'.nx → SR X μ' F' S'.H w' N S'.nx (fun _ => False) S'.T a' → Keep (fun k => k < L) ks μ H w μ' S'.H w' → Q e.to a' w'

theorem regOps {N : Nat} {ops : Array Oper} (h : ops.toList.all (dstOK N) = true) : ∀ (i : Nat) (o : Oper), ops[i]? = some o → ∀ x, o.dst = some x → x < N := by
  intro i o ho x hx
  have := List.all_eq_true.mp h o (by simpa using Array.mem_of_getElem? ho)
  simpa [dstOK, hx] using this

theorem evC_sound {P : Program} {E : Env} {C : Oracle} (hC : ExecSound P E C) (hP : P.follows .mixedOrders = true) {X : Cx} (hX : X.WF) {N L : Nat} (f : FuncId) : ∀ (c : Code), codeOK N c = true → ∀ {R : Type} (S : St) (K : Ex → St → Option R) (r : R)
    (μ : Nat → Option (Nat × Nat)) (F : Nat → Nat → Prop) (w : World) (a : Act) (Q : Exit → Act → World → Prop), SR X μ F S.H w N S.nx (fun _ => False) S.T a → L ≤ S.nx → evC E C L f c S K = some r → Goes X N L K r μ S.H w Q → c.wp P Q a w := by
  intro c
  induction c with
  | skip => intro _ R S K r μ F w a Q hS hL h hK; exact wp_skip (hK .normal S a w μ F [] h hL hS (Keep.refl _ _ _ _))
  | exit id => intro _ R S K r μ F w a Q hS hL h hK; exact wp_exit (hK (.exit id) S a w μ F [] h hL hS (Keep.refl _ _ _ _))
  | ret => intro _ R S K r μ F w a Q hS hL h hK; exact wp_ret (hK .ret S a w μ F [] h hL hS (Keep.refl _ _ _ _))
  | region id ops draw =>
    intro hok R S K r μ F w a Q hS hL h hK
    simp only [codeOK, Bool.and_eq_true, Bool.or_eq_true] at hok
    cases draw with
    | false =>
      simp only [evC] at h
      refine wp_region ?_
      have := runOps_sound (Q := Q) hC hX (regOps hok.1) ops.toList 0 S μ F w a (fun j => by simp) (hS.congrD fun j => by simp) h fun S' a' w' μ' F' ks hk hn hS' hkeep => ?_
      · rw [Array.length_toList] at this
        rw [List.range_eq_range']; exact this
      · refine hK .normal _ a' w' μ' F' ks hk (by show L ≤ S'.nx + _; omega) ?_ (hkeep.mono (fun k hk => Nat.lt_of_lt_of_le hk hL) fun _ h => h)
        have := (hS'.congrD (D' := fun j => j < ops.size) fun j => by simp).next
        rw [← hn] at this
        exact this
    | true =>
      simp only [evC] at h
      refine wp_region_any hP ?_
      obtain ⟨hS1, hk1⟩ := hS.drawn (w.drawn + 1)
      refine runOpsD_sound hC hX (regOps hok.1) (by simpa using hok.2) hS1 h fun S' a' w' μ' F' ks hk hn hS' hkeep => ?_
      refine hK .normal _ a' w' μ' F' (ks ++ []) hk (by show L ≤ S'.nx + _; omega) ?_ ((hk1 _).trans (hkeep.mono (fun k hk => Nat.lt_of_lt_of_le hk hL) fun _ h => h))
      have := hS'.next
      rw [← hn] at this
      exact this
  | seq c1 c2 ih1 ih2 =>
    intro hok R S K r μ F w a Q hS hL h hK
    simp only [codeOK, Bool.and_eq_true] at hok
    simp only [evC] at h
    refine wp_seq (ih1 hok.1 S _ r μ F w a _ hS hL h fun e S' a' w' μ' F' ks hk hL' hS' hkeep => ?_)
    cases e with
    | normal => exact ih2 hok.2 S' K r μ' F' w' a' Q hS' hL' hk fun e2 S2 a2 w2 μ2 F2 ks2 hk2 hL2 hS2 hkeep2 => hK e2 S2 a2 w2 μ2 F2 _ hk2 hL2 hS2 (hkeep.trans hkeep2)
    | exit id => exact hK _ S' a' w' μ' F' ks hk hL' hS' hkeep
    | ret => exact hK _ S' a' w' μ' F' ks hk hL' hS' hkeep
  | cond x c1 c2 ih1 ih2 =>
    intro hok R S K r μ F w a Q hS hL h hK
    simp only [codeOK, Bool.and_eq_true] at hok
    simp only [evC] at h
    have hv := opnd_rv hS.slots x
    split at h
    · rename_i b hb
      rw [hb] at hv
      generalize hu : a.eval x = u at hv
      cases hv
      cases b with
      | true => exact wp_cond_true hu (ih1 hok.1 S K r μ F w a Q hS hL h hK)
      | false => exact wp_cond_false hu (ih2 hok.2 S K r μ F w a Q hS hL h hK)
    · exact absurd h (by simp)
  | block id c ih =>
    intro hok R S K r μ F w a Q hS hL h hK
    simp only [codeOK] at hok
    simp only [evC] at h
    refine wp_block (ih hok S _ r μ F w a _ hS hL h fun e S' a' w' μ' F' ks hk hL' hS' hkeep => ?_)
    cases e with
    | normal => exact hK _ S' a' w' μ' F' ks hk hL' hS' hkeep
    | exit i =>
      simp only [Ex.to, Exit.inBlock]
      simp only at hk
      split
      · rename_i hi
        rw [if_pos hi] at hk
        exact hK .normal S' a' w' μ' F' ks hk hL' hS' hkeep
      · rename_i hi
        rw [if_neg hi] at hk
        exact hK (.exit i) S' a' w' μ' F' ks hk hL' hS' hkeep
    | ret => exact hK _ S' a' w' μ' F' ks hk hL' hS' hkeep
  | loop c ih =>
    intro hok R S K r μ F w a Q hS hL h hK
    simp only [codeOK] at hok
    simp only [evC] at h
    refine wp_loop_ghost (fun n a1 w1 => ∃ S1 μ1 F1 ks, SR X μ1 F1 S1.H w1 N S1.nx (fun _ => False) S1.T a1 ∧ L ≤ S1.nx ∧ Keep (fun k => k < L) ks μ S.H w μ1 S1.H w1 ∧ evLoop (norm L (E.live f (firstRegion c))) (evC E C L f c) n S1 K = some r)
      LF ⟨S, μ, F, [], hS, hL, Keep.refl _ _ _ _, h⟩ ?_
    rintro n a1 w1 ⟨S1, μ1, F1, ks1, hS1, hL1, hk1, h1⟩
    cases n with
    | zero => simp [evLoop] at h1
    | succ n =>
      simp only [evLoop] at h1
      obtain ⟨μ2, F2, hS2, hL2, hk2⟩ := norm_sound (L := L) hS1 (E.live f (firstRegion c))
      refine ih hok _ _ r μ2 F2 w1 a1 _ hS2 hL2 h1 fun e S' a' w' μ' F' ks hk hL' hS' hkeep => ?_
      have hall := (hk1.trans hk2).trans hkeep
      cases e with
      | normal => exact ⟨n, Nat.lt_succ_self n, S', μ', F', _, hS', hL', hall, hk⟩
      | exit id => exact hK _ S' a' w' μ' F' _ hk hL' hS' hall
      | ret => exact hK _ S' a' w' μ' F' _ hk hL' hS' hall
  | _ => intro hok; simp [codeOK] at hok

end Go.Proofs.Ytlmifbpihlcabaa.VH
