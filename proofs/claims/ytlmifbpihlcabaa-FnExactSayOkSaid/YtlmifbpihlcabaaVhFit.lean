/- Part of a proof about the given program: the verified evaluator and what it tells of the functions (VhFit). Conditions: none beyond the hypotheses that each theorem states. -/
import Derived.Test.YtlmifbpihlcabaaVhIter
namespace Go.Proofs.Ytlmifbpihlcabaa.VH

/- Data, as lists of numbers. -/

theorem fits_ints {k : IntKind} : ∀ {rows : List (List AV)}, (∀ r, r ∈ rows → Fits (.int k) r) → ∃ l : List Int, rows.flatten = l.map (iv k) ∧ l.length = rows.length ∧ ∀ n, n ∈ l → (Lit.int k n).wf = true
  | [], _ => ⟨[], rfl, rfl, fun n h => by simp at h⟩
  | r :: rs, h => by
    obtain ⟨l, h1, h2, h3⟩ := fits_ints (rows := rs) fun r hr => h r (by simp [hr])
    obtain ⟨n, rfl, hn⟩ := h r (by simp)
    exact ⟨n :: l, by simp [h1], by simp [h2], fun m hm => by
      rcases List.mem_cons.mp hm with e | e
      · rw [e]; exact hn
      · exact h3 m e⟩

theorem fits_sl_int {k : IntKind} {cs : List AV} (h : Fits (.sl (.int k)) cs) : ∃ l : List Int, cs = [.sl .fgn 1 l.length none (l.map (iv k))] ∧ l.length ≤ 9223372036854775807 ∧ ∀ n, n ∈ l → (Lit.int k n).wf = true := by
  obtain ⟨rows, h1, h2, rfl⟩ := h
  obtain ⟨l, l1, l2, l3⟩ := fits_ints h1
  exact ⟨l, by rw [l1, l2]; rfl, by rw [l2]; exact h2, l3⟩

theorem fits_pair {a b : Sh} {cs : List AV} (h : Fits (.pair a b) cs) : ∃ xs ys, cs = xs ++ ys ∧ Fits a xs ∧ Fits b ys := h
theorem fits_unit {cs : List AV} (h : Fits .unit cs) : cs = [] := h
theorem fits_st {a : Sh} {x : AV} (h : FitsA (.st a) x) : ∃ cs, x = .agg cs ∧ Fits a cs := h
theorem fits_int {k : IntKind} {cs : List AV} (h : Fits (.int k) cs) : ∃ n, cs = [.val (.int k n)] ∧ (Lit.int k n).wf = true := h
theorem fitsA_int {k : IntKind} {x : AV} (h : FitsA (.int k) x) : ∃ n, x = iv k n ∧ (Lit.int k n).wf = true := by
  obtain ⟨n, h1, h2⟩ := fits_int (cs := [x]) h
  exact ⟨n, by simpa using h1, h2⟩
theorem fitsA_sl_int {k : IntKind} {x : AV} (h : FitsA (.sl (.int k)) x) : ∃ l : List Int, x = .sl .fgn 1 l.length none (l.map (iv k)) ∧ l.length ≤ 9223372036854775807 ∧ ∀ n, n ∈ l → (Lit.int k n).wf = true := by
  obtain ⟨l, h1, h2, h3⟩ := fits_sl_int (cs := [x]) h
  exact ⟨l, by simpa using h1, h2, h3⟩
theorem fits_str {cs : List AV} (h : Fits .str cs) : ∃ s : ByteArray, cs = [.val (.string s)] ∧ s.size ≤ maxLen := h
theorem fits_bool {cs : List AV} (h : Fits .bool cs) : ∃ b, cs = [.val (.bool b)] := h
theorem fitsAll_nil {xs : List AV} (h : FitsAll [] xs) : xs = [] := by
  cases xs with
  | nil => rfl
  | cons x xs => exact h.elim
theorem fitsAll_cons {s : Sh} {ss : List Sh} {xs : List AV} (h : FitsAll (s :: ss) xs) : ∃ x ys, xs = x :: ys ∧ FitsA s x ∧ FitsAll ss ys := by
  cases xs with
  | nil => exact h.elim
  | cons x xs => exact ⟨x, xs, rfl, h.1, h.2⟩

end Go.Proofs.Ytlmifbpihlcabaa.VH
