/- Part of a proof about the given program: the verified evaluator and what it tells of the functions (VhOps7). Conditions: none beyond the hypotheses that each theorem states. -/
import Derived.Test.YtlmifbpihlcabaaVhFill
import Derived.Laws.BitsLemmas
namespace Go.Proofs.Ytlmifbpihlcabaa.VH

section
variable {R : Type} {X : Cx} {U : Nat → Prop} {fr : Nat} {μ : Nat → Option (Nat × Nat)} {F : Nat → Nat → Prop} {H : Heap} {w : World} {K : AV → Heap → Tr → Option R} {r : R} {t : Tr} {P : Program} {E : Env}

def zArr (zero : Array Value) (n : Nat) : Array Value := (Array.range n).map fun i => zero[i % zero.size]!

theorem zArr_get {zero : Array Value} {row : Row} {n : Nat} (hz : zero.toList = row.zero) {j : Nat} (h : j < n * row.zero.length) : (zArr zero (n * row.zero.length))[j]? = row.zero[j % row.zero.length]? := by
  have hl : zero.size = row.zero.length := by rw [← hz]; simp
  have hp : 0 < row.zero.length := by
    rcases Nat.eq_zero_or_pos row.zero.length with e | e
    · rw [e] at h; simp at h
    · exact e
  have hm : j % row.zero.length < row.zero.length := Nat.mod_lt _ hp
  simp only [zArr, Array.getElem?_map, Array.getElem?_range, h, if_true, Option.map_some, hl]
  have : zero[j % row.zero.length]! = zero[j % row.zero.length]'(by omega) := by simp [getElem!_pos, show j % row.zero.length < zero.size by omega]
  rw [this, List.getElem?_eq_getElem hm]
  simp only [← hz, Array.getElem_toList]

theorem zArr_size (zero : Array Value) (n : Nat) : (zArr zero n).size = n := by simp [zArr]

theorem zeros_ow {row : Row} (hl : ∀ v ∈ row.zero, leafV v = true) {n j : Nat} (h : j < (zeros row n).length) {T : Nat → Prop} : ∃ v, row.zero[j % row.zero.length]? = some v ∧ OW X w (zeros row n)[j] v T := by
  have h' : j < n * row.zero.length := by rwa [zeros_len] at h
  have hp : 0 < row.zero.length := by
    rcases Nat.eq_zero_or_pos row.zero.length with e | e
    · rw [e] at h'; simp at h'
    · exact e
  have hm : j % row.zero.length < row.zero.length := Nat.mod_lt _ hp
  have hg := zeros_get row n h'
  rw [List.getElem?_eq_getElem h, List.getElem?_eq_getElem hm, Option.map_some] at hg
  refine ⟨row.zero[j % row.zero.length], List.getElem?_eq_getElem hm, ?_⟩
  rw [Option.some.inj hg]
  exact .val _ _ (hl _ (List.getElem_mem _))

theorem makeSlice_sound (hX : X.WF) (hR : Rel X μ F H w (fun _ => False)) (ht : t.kl = []) {ty e : TypeId} {re : Row} (hty : P.underlying ty = some (.slice e)) (hre : RowOK P e re) (hf : H fr = none) (hU : ∀ k, U k → k ≠ fr) {n : Int} {k k' : IntKind} (hn : 0 ≤ n) (hm : n ≤ LIM)
    (h : (HM.put fr (some (zeros re n.toNat)) (HM.ret (AV.ref fr [] re.size 0 n.toNat (some n.toNat)))).run H t K = some r) : ∃ z w', (Instr.makeSlice ty (.int k n) (.int k' n)).run P w = .ok z w' ∧ OP X U fr μ H w K r z w' := by
  obtain ⟨i, z, i1, i2, i3, i4, i5⟩ := hre.info
  have hb := hre.bytes
  have hw : IntKind.i64.wrap n = n := by
    have hlim : LIM = 549755813888 := by decide
    rw [hlim] at hm
    rw [IntKind.wrap_i64]; omega
  have hzl : re.zero.length = re.size := hre.zl
  have hbn : (re.bytes : Int) * n ≤ 2 ^ 48 := by
    unfold LIM at hm
    have h1 : (re.bytes : Int) ≤ 256 := by omega
    have h2 : n ≤ 2 ^ 40 := by
      have h3 : n ≤ 2 ^ 39 := by simpa using hm
      omega
    calc (re.bytes : Int) * n ≤ 256 * n := Int.mul_le_mul_of_nonneg_right h1 hn
      _ ≤ 256 * 2 ^ 40 := Int.mul_le_mul_of_nonneg_left h2 (by omega)
      _ = 2 ^ 48 := by decide
  have key : ∀ (zero : Array Value), (n.toNat * re.size = 0 ∨ zero = z.cells) → ∃ w', (Go.newRow e (zArr zero (n.toNat * re.size)) : Sem Addr).run P w = .ok ⟨w.heap.size, 0, none⟩ w' ∧ OP X U fr μ H w K r (.slice (some ⟨w.heap.size, 0, none⟩) n.toNat n.toNat) w' := by
    intro zero hz0
    simp only [HM.run] at h
    obtain ⟨F', h1, h2⟩ := new_rel (e := e) (arr := zArr zero (n.toNat * re.size)) (Ts := fun _ _ => False) (ys := zeros re n.toNat) (U := U) hX (rel_nil hR (by simp)) (fun U => Keep.refl U μ H w) hf hU (by rw [zArr_size, zeros_len, hzl]; exact Nat.le_refl _) (fun j hj => by
      obtain ⟨v, hv, ho⟩ := zeros_ow (X := X) (w := w) (T := fun _ => False) hre.zleaf hj
      have hj' : j < n.toNat * re.zero.length := by rwa [zeros_len] at hj
      have hze : zero = z.cells := hz0.resolve_left (by intro e; rw [hzl, e] at hj'; omega)
      have hg := zArr_get (zero := zero) (row := re) (by rw [hze]; exact i5) hj'
      rw [hv, hzl] at hg
      obtain ⟨hh, he⟩ := Array.getElem?_eq_some_iff.mp hg
      rw [he]; exact ho) (by simp) (0, 0) (by simp)
    refine ⟨w.alloc (.cells (zArr zero (n.toNat * re.size)) e), by simp [newRow], .ref fr [] re.size 0 n.toNat (some n.toNat), _, F', _, _, h, h1, by simpa [ht] using h2, ?_, ?_, ?_⟩
    · refine rv_new_ref (arr := zArr zero (n.toNat * re.size)) (cs := zeros re n.toNat) (upd_same' H fr _) ⟨e, (0, 0), by show (w.heap.push _)[w.heap.size]? = _; simp⟩ (Nat.le_refl _) (by simp) (by simp) (by rw [zArr_size]; exact Nat.le_refl _)
    · intro k hk; simp [keysAV] at hk; right; omega
    · exact keep_fresh fun _ h => h
  have hn' : ¬ n < 0 := by omega
  have c1 : ¬ (281474976710656 < (re.bytes : Int) * n) := by omega
  by_cases h0 : n.toNat * re.size = 0
  · obtain ⟨w', k1, k2⟩ := key #[] (.inl h0)
    refine ⟨_, w', ?_, k2⟩
    simp [zArr, h0] at k1
    simp [Instr.makeSlice, underlying, hty, asInt, asIntOf, typeInfo, i1, i3, hw, hn', c1, sizeOf_run P w hre, h0, k1]
  · obtain ⟨w', k1, k2⟩ := key z.cells (.inr rfl)
    refine ⟨_, w', ?_, k2⟩
    simp only [zArr] at k1
    have hz : (zeroValue e).run P w = .ok z w := by simp [zeroValue, typeInfo, i1, i4]
    simp [Instr.makeSlice, underlying, hty, asInt, asIntOf, typeInfo, i1, i3, hw, hn', c1, sizeOf_run P w hre, h0, hz, k1]
where
  upd_same' (H : Heap) (k : Nat) (c : Option (List AV)) : upd H k c k = c := by simp [upd]

end
end Go.Proofs.Ytlmifbpihlcabaa.VH
