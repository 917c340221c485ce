/- Part of a proof about the given program: the verified evaluator and what it tells of the functions (VhFill). Conditions: none beyond the hypotheses that each theorem states. -/
import Derived.Test.YtlmifbpihlcabaaVhOps6
namespace Go.Proofs.Ytlmifbpihlcabaa.VH

/- Rows that are built. -/

theorem fold_set (off : Nat) : ∀ (l : List Value) (k : Nat) (arr : Array Value), off + k + l.length ≤ arr.size →
    ((l.zipIdx k).foldl (fun cs (c, j) => cs.setIfInBounds (off + j) c) arr).size = arr.size ∧
    ∀ j, ((l.zipIdx k).foldl (fun cs (c, j) => cs.setIfInBounds (off + j) c) arr)[j]? = if off + k ≤ j ∧ j < off + k + l.length then l[j - (off + k)]? else arr[j]? := by
  intro l
  induction l with
  | nil => intro k arr _; exact ⟨rfl, fun j => by rw [if_neg (by simp)]; rfl⟩
  | cons v l ih =>
    intro k arr h
    simp only [List.length_cons] at h
    simp only [List.zipIdx_cons, List.foldl_cons]
    obtain ⟨h1, h2⟩ := ih (k + 1) (arr.setIfInBounds (off + k) v) (by simp; omega)
    refine ⟨by rw [h1]; simp, fun j => ?_⟩
    rw [h2]
    simp only [List.length_cons]
    by_cases c1 : off + (k + 1) ≤ j ∧ j < off + (k + 1) + l.length
    · rw [if_pos c1, if_pos (by omega)]
      have : j - (off + k) = (j - (off + (k + 1))) + 1 := by omega
      rw [this, List.getElem?_cons_succ]
    · rw [if_neg c1]
      by_cases c2 : j = off + k
      · subst c2
        rw [Array.getElem?_setIfInBounds_self_of_lt (by omega), if_pos (by omega)]
        simp
      · rw [Array.getElem?_setIfInBounds_ne (by omega), if_neg (by omega)]

theorem fill_cons {place : Nat → Option (Nat × Nat)} {arr : Array Value} {i off : Nat} {v : Value} {rest : List (Nat × Value)} (hp : place i = some (off, v.cells.size)) (hl : off + v.cells.size ≤ arr.size) :
    ∃ arr', Instr.fill place arr ((i, v) :: rest) = Instr.fill place arr' rest ∧ arr'.size = arr.size ∧ ∀ j, arr'[j]? = if off ≤ j ∧ j < off + v.cells.size then v.cells[j - off]? else arr[j]? := by
  obtain ⟨h1, h2⟩ := fold_set off v.cells.toList 0 arr (by simpa using hl)
  refine ⟨(v.cells.toList.zipIdx 0).foldl (fun cs (c, j) => cs.setIfInBounds (off + j) c) arr, ?_, h1, fun j => by simpa using h2 j⟩
  simp only [Instr.fill, hp]
  rw [if_neg (by simp; omega)]
  congr 1
  rw [← Array.foldl_toList, Array.toList_zipIdx]

/-- parts in order, one behind the other -/
theorem fill_ord (z : Nat) : ∀ (ps : List (Nat × Value)) (k : Nat) (arr : Array Value), inOrd k (ps.map (·.1)) = true → (∀ p ∈ ps, p.2.cells.size = z) → (k + ps.length) * z ≤ arr.size →
    ∃ arr', Instr.fill (fun i => some (i * z, z)) arr ps = some arr' ∧ arr'.size = arr.size ∧
      ∀ j, arr'[j]? = if k * z ≤ j ∧ j < (k + ps.length) * z then (ps.flatMap fun p => p.2.cells.toList)[j - k * z]? else arr[j]? := by
  intro ps
  induction ps with
  | nil => intro k arr _ _ _; exact ⟨arr, rfl, rfl, fun j => by rw [if_neg (by simp)]⟩
  | cons p ps ih =>
    obtain ⟨i, v⟩ := p
    intro k arr ho hz hl
    simp only [List.map_cons, inOrd, Bool.and_eq_true, beq_iff_eq] at ho
    obtain ⟨rfl, ho⟩ := ho
    have hv : v.cells.size = z := hz (i, v) (by simp)
    simp only [List.length_cons] at hl
    have hm : (i + 1) * z = i * z + z := by rw [Nat.add_mul, Nat.one_mul]
    have hm2 : (i + (ps.length + 1)) * z = i * z + z + ps.length * z := by rw [Nat.add_mul, Nat.add_mul]; omega
    have hm3 : (i + 1 + ps.length) * z = i * z + z + ps.length * z := by rw [Nat.add_mul, Nat.add_mul]; omega
    obtain ⟨arr1, e1, e2, e3⟩ := fill_cons (place := fun i => some (i * z, z)) (rest := ps) (arr := arr) (i := i) (off := i * z) (v := v) (by rw [hv]) (by rw [hv]; omega)
    obtain ⟨arr2, f1, f2, f3⟩ := ih (i + 1) arr1 ho (fun p hp => hz p (List.mem_cons_of_mem _ hp)) (by rw [e2]; omega)
    refine ⟨arr2, e1.trans f1, f2.trans e2, fun j => ?_⟩
    rw [f3, e3]
    simp only [List.length_cons, List.flatMap_cons, hv]
    rw [hm, hm2, hm3]
    have hvl : v.cells.toList.length = z := by simpa using hv
    by_cases c1 : i * z + z ≤ j ∧ j < i * z + z + ps.length * z
    · rw [if_pos c1, if_pos (by omega), List.getElem?_append_right (by omega)]
      congr 1; omega
    · rw [if_neg c1]
      by_cases c2 : i * z ≤ j ∧ j < i * z + z
      · rw [if_pos c2, if_pos (by omega), List.getElem?_append_left (by omega)]
        simp
      · rw [if_neg c2, if_neg (by omega)]

theorem zeros_len (r : Row) (n : Nat) : (zeros r n).length = n * r.zero.length := by
  simp [zeros]

theorem zeros_get (r : Row) (n : Nat) {j : Nat} (h : j < n * r.zero.length) : (zeros r n)[j]? = (r.zero[j % r.zero.length]?).map .val := by
  induction n generalizing j with
  | zero => simp at h
  | succ n ih =>
    have hz : 0 < r.zero.length := by
      rcases Nat.eq_zero_or_pos r.zero.length with e | e
      · rw [e] at h; simp at h
      · exact e
    have e : zeros r (n + 1) = r.zero.map .val ++ zeros r n := by simp [zeros, List.replicate_succ]
    rw [e]
    by_cases c : j < r.zero.length
    · rw [List.getElem?_append_left (by simpa using c), Nat.mod_eq_of_lt c, List.getElem?_map]
    · rw [List.getElem?_append_right (by simpa using c), List.length_map, ih (by have hm : (n + 1) * r.zero.length = n * r.zero.length + r.zero.length := Nat.succ_mul _ _; omega)]
      congr 2
      exact (Nat.mod_eq_sub_mod (by omega)).symm

end Go.Proofs.Ytlmifbpihlcabaa.VH
