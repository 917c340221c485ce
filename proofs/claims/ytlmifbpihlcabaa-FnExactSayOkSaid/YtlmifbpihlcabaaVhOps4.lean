/- Part of a proof about the given program: the verified evaluator and what it tells of the functions (VhOps4). Conditions: none beyond the hypotheses that each theorem states. -/
import Derived.Test.YtlmifbpihlcabaaVhOps3
namespace Go.Proofs.Ytlmifbpihlcabaa.VH

section
variable {R : Type} {X : Cx} {U : Nat → Prop} {fr : Nat} {μ : Nat → Option (Nat × Nat)} {F : Nat → Nat → Prop} {H : Heap} {w : World} {K : AV → Heap → Tr → Option R} {r : R} {t : Tr} {P : Program} {E : Env}

theorem slLen_rv {x : AV} {n : Nat} {A : Option Addr} {l c : Nat} (h : slLen x = some n) (hx : RV X μ H w x (.slice A l c)) : l = n := by
  obtain ⟨A', c', e, _⟩ := slLen_hdr h hx
  injection e

theorem slice_sound (hR : Rel X μ F H w (fun _ => False)) (ht : t.kl = []) {ty e : TypeId} {re : Row} (hty : P.underlying ty = some (.slice e)) (hre : RowOK P e re) {x : AV} {u : Value} (hx : RV X μ H w x u) (hk : ∀ k, k ∈ keysAV x → U k)
    (hz : ∀ tg z n cap cs, x = .sl tg z n cap cs → z = re.size) (hz' : ∀ k p z off n cap, x = .ref k p z off n cap → z = re.size) (hstr : ¬ ∃ s, x = .val (.string s))
    {lo hi mx : Option AV} {lo' hi' mx' : Option Value} (e1 : (lo = none ∧ lo' = none) ∨ ∃ x v, lo = some x ∧ lo' = some v ∧ RV X μ H w x v) (e2 : (hi = none ∧ hi' = none) ∨ ∃ x v, hi = some x ∧ hi' = some v ∧ RV X μ H w x v)
    (e3 : (mx = none ∧ mx' = none) ∨ ∃ x v, mx = some x ∧ mx' = some v ∧ RV X μ H w x v) (hmh : mx ≠ none → hi ≠ none)
    (h : (sliceHM x lo hi mx).run H t K = some r) : ∃ z, (Instr.sliceAt ty u lo' hi' mx').run P w = .ok z w ∧ OP X U fr μ H w K r z w := by
  have conc : ∀ (A : Option Addr) (n c : Nat) (l h m : Int), bound 0 lo = some l → bound n hi = some h → bound n mx = some m → 0 ≤ l → l ≤ h → h ≤ m → m ≤ n → n ≤ c →
      (Instr.sliceAt ty (.slice A n c) lo' hi' mx').run P w = .ok (.slice (if (if mx = none then c else m.toNat) = l.toNat then A else A.map (·.add (l.toNat * re.size))) (h.toNat - l.toNat) ((if mx = none then c else m.toNat) - l.toNat)) w := by
    intro A n c l h m b1 b2 b3 g1 g2 g3 g4 g5
    have := sliceBounds_run (P := P) (b := true) (c := c) (by simp) b1 b2 b3 e1 e2 e3 g1 g2 g3 g4 g5 hmh
    simp only [Instr.sliceAt, Sem.run_bind, underlying, run_program, Result.andThen_ok, hty, Sem.run_pure, Instr.slice, this, sizeOf_run P w hre]
  unfold sliceHM at h
  split at h
  · exact absurd ⟨_, rfl⟩ hstr
  · -- nil
    split at h
    · rename_i l hh m b1 b2 b3
      obtain ⟨hg, h⟩ := guardB_run' h
      simp only [Bool.and_eq_true, decide_eq_true_eq] at hg
      obtain ⟨⟨rfl, rfl⟩, rfl⟩ := hg
      cases hx
      refine ⟨_, conc none 0 0 0 0 0 b1 (by simpa using b2) (by simpa using b3) (by omega) (by omega) (by omega) (by omega) (by omega), ?_⟩
      have e0 : (if mx = none then 0 else 0) = 0 := by split <;> rfl
      simp only [Int.toNat_zero, e0, if_true, Nat.sub_self]
      exact OP.pure hR ht h (.val _) (fun k hk => by simp [keysAV] at hk)
    · simp [HM.run] at h
  · rename_i tg z n cap cs
    split at h
    · rename_i l hh m b1 b2 b3
      obtain ⟨hg, h⟩ := guardB_run' h
      simp only [Bool.and_eq_true, decide_eq_true_eq] at hg
      obtain ⟨⟨⟨g1, g2⟩, g3⟩, g4⟩ := hg
      have hzz := hz tg z n cap cs rfl
      cases hx with
      | sl _ _ _ _ _ _ htg hr =>
        have fin : ∀ A c, n ≤ c → (∀ q, cap = some q → c = q) → (∀ (cs' : List AV) cap', (∀ q, cap' = some q → (if mx = none then c else m.toNat) - l.toNat = q) → cs' = (cs.drop (l.toNat * z)).take ((hh - l).toNat * z) →
            RD X.w0 (tagS X tg) (.sl tg z (hh - l).toNat cap' cs') (.slice (if (if mx = none then c else m.toNat) = l.toNat then A else A.map (·.add (l.toNat * re.size))) (hh - l).toNat ((if mx = none then c else m.toNat) - l.toNat))) →
            ∃ v, (Instr.sliceAt ty (.slice A n c) lo' hi' mx').run P w = .ok v w ∧ OP X U fr μ H w K r v w := by
          intro A c hnc hcap hrd
          refine ⟨_, conc A n c l hh m b1 b2 b3 g1 g2 g3 g4 hnc, ?_⟩
          have he : hh.toNat - l.toNat = (hh - l).toNat := by omega
          rw [he]
          refine OP.pure hR ht h (.sl _ _ _ _ _ _ htg (hrd _ _ ?_ rfl)) (fun k hk => by simp [keysAV] at hk)
          intro q hq
          cases hmx : mx with
          | none =>
            rw [hmx] at hq
            simp only [if_true]
            cases hcq : cap with
            | none => rw [hcq] at hq; simp at hq
            | some q' => rw [hcq] at hq; simp only [Option.map_some] at hq; injection hq with hq; rw [hcap q' hcq]; omega
          | some a =>
            rw [hmx] at hq
            simp only at hq
            injection hq with hq
            simp only [reduceCtorEq, if_false]
            omega
        cases hr with
        | nil _ _ _ A c hc =>
          refine fin A c (Nat.zero_le _) hc fun cs' cap' hcap' hcs' => ?_
          have h0 : (hh - l).toNat = 0 := by omega
          have : cs' = [] := by rw [hcs', h0]; simp
          subst this
          rw [h0]
          exact .nil _ _ _ _ _ hcap'
        | sl _ _ _ _ _ b o c arr vs h1 h2 h3 h4 h5 h6 h7 =>
          refine fin _ c h3 h4 fun cs' cap' hcap' hcs' => ?_
          have hlen : cs'.length = (hh - l).toNat * z := by
            rw [hcs']
            simp only [List.length_take, List.length_drop, h5]
            have : (hh - l).toNat * z + l.toNat * z ≤ n * z := by rw [← Nat.add_mul]; exact Nat.mul_le_mul_right _ (by omega)
            omega
          by_cases hml : (if mx = none then c else m.toNat) = l.toNat
          · have h0 : (hh - l).toNat = 0 := by
              split at hml <;> omega
            have : cs' = [] := List.eq_nil_of_length_eq_zero (by rw [hlen, h0]; simp)
            subst this
            rw [h0]
            exact .nil _ _ _ _ _ hcap'
          · simp only [hml, if_false, Option.map_some, add_spot]
            rw [← hzz]
            have hle : ∀ j, j < cs'.length → l.toNat * z + j < cs.length := by
              intro j hj
              have : (hh - l).toNat * z + l.toNat * z ≤ n * z := by rw [← Nat.add_mul]; exact Nat.mul_le_mul_right _ (by omega)
              omega
            refine .sl _ _ _ _ _ b (o + l.toNat * z) _ arr (fun j => vs (l.toNat * z + j)) h1 h2 (by split <;> omega) hcap' hlen (fun j hj => ?_) fun j hj => ?_
            · rw [Nat.add_assoc]; exact h6 _ (hle j hj)
            · have := h7 _ (hle j hj)
              have e : cs'[j] = cs[l.toNat * z + j]'(hle j hj) := by simp [hcs']
              rw [e]; exact this
    · simp [HM.run] at h
  · rename_i k p z off n cap
    split at h
    · rename_i l hh m b1 b2 b3
      obtain ⟨hg, h⟩ := guardB_run' h
      simp only [Bool.and_eq_true, decide_eq_true_eq] at hg
      obtain ⟨⟨⟨g1, g2⟩, g3⟩, g4⟩ := hg
      have hzz := hz' k p z off n cap rfl
      cases hx with
      | ref _ _ _ _ _ _ A c hn hc hA hok =>
        refine ⟨_, conc A n c l hh m b1 b2 b3 g1 g2 g3 g4 hn, ?_⟩
        have he : hh.toNat - l.toNat = (hh - l).toNat := by omega
        rw [he]
        refine OP.pure hR ht h (.ref k p z _ _ _ _ _ (by split <;> omega) ?_ (fun e => ?_) fun cs res ds hkk hq => ?_) (fun k hk' => hk k hk')
        · intro q hq
          cases hmx : mx with
          | none =>
            rw [hmx] at hq
            simp only [if_true]
            cases hcq : cap with
            | none => rw [hcq] at hq; simp at hq
            | some q' => rw [hcq] at hq; simp only [Option.map_some] at hq; injection hq with hq; rw [hc q' hcq]; omega
          | some a =>
            rw [hmx] at hq
            simp only at hq
            injection hq with hq
            simp only [reduceCtorEq, if_false]
            omega
        · by_cases hml : (if mx = none then c else m.toNat) = l.toNat
          · omega
          · simp only [hml, if_false] at e
            have hAn : A = none := by cases A <;> simp at e ⊢
            have := hA hAn
            have hm0 : m.toNat = 0 := by omega
            split <;> omega
        · have := hok cs res ds hkk hq
          cases res with
          | none =>
            have hc0 : c = 0 := this
            have hm0 : m.toNat = 0 := by omega
            show (if mx = none then c else m.toNat) - l.toNat = 0
            split <;> omega
          | some bo =>
            obtain ⟨b, o⟩ := bo
            by_cases hml : (if mx = none then c else m.toNat) = l.toNat
            · left; omega
            · rcases this with h0 | ⟨h1, h2, h3⟩
              · left
                have hm0 : m.toNat = 0 := by omega
                split <;> omega
              · subst h1
                simp only [hml, if_false, Option.map_some, add_spot]
                right
                have e6 : l.toNat * z ≤ c * z := Nat.mul_le_mul_right _ (by omega)
                refine ⟨by rw [← hzz, Nat.add_assoc], fun hcn => ?_, fun arr ha => ?_⟩
                · cases hmx : mx with
                  | some a => rw [hmx] at hcn; simp at hcn
                  | none =>
                    rw [hmx] at hcn
                    simp only [Option.map_eq_none_iff] at hcn
                    have := h2 hcn
                    simp only [if_true]
                    rw [Nat.sub_mul]; omega
                · have := h3 arr ha
                  have e7 : ((if mx = none then c else m.toNat) - l.toNat) * z + l.toNat * z ≤ c * z := by
                    rw [← Nat.add_mul]; exact Nat.mul_le_mul_right _ (by split <;> omega)
                  omega
    · simp [HM.run] at h
  · simp [HM.run] at h

end
end Go.Proofs.Ytlmifbpihlcabaa.VH
