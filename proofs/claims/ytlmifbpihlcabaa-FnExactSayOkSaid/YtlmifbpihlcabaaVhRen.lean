/- Part of a proof about the given program: the verified evaluator and what it tells of the functions (VhRen). Conditions: none beyond the hypotheses that each theorem states. -/
import Derived.Test.YtlmifbpihlcabaaVhOps6
namespace Go.Proofs.Ytlmifbpihlcabaa.VH

theorem renL_eq (ρ : Nat → Nat) : ∀ xs, renL ρ xs = xs.map (renAV ρ)
  | [] => rfl
  | x :: xs => by simp [renL, renL_eq ρ xs]

theorem RV.ren {X : Cx} {μ μ' : Nat → Option (Nat × Nat)} {H H' : Heap} {w : World} {ρ : Nat → Nat} {x : AV} {v : Value} (h : RV X μ H w x v) : (∀ k, k ∈ keysAV x → H' (ρ k) = H k ∧ μ' (ρ k) = μ k) → RV X μ' H' w (renAV ρ x) v := by
  induction h with
  | und v => exact fun _ => by simp only [renAV]; exact .und v
  | val v => exact fun _ => by simp only [renAV]; exact .val v
  | sl tg z n cap cs v ht h => exact fun _ => by simp only [renAV]; exact .sl tg z n cap cs v ht h
  | ref k p z off n cap A c hn hc hA h =>
    intro hU
    simp only [renAV]
    obtain ⟨e1, e2⟩ := hU k (by simp [keysAV])
    exact .ref _ p z off n cap A c hn hc hA fun cs r ds hk hq => h cs r ds (e1 ▸ hk) (e2 ▸ hq)
  | ptr k p off a h =>
    intro hU
    simp only [renAV]
    obtain ⟨e1, e2⟩ := hU k (by simp [keysAV])
    exact .ptr _ p off a fun cs b o ds hk hq => h cs b o ds (e1 ▸ hk) (e2 ▸ hq)
  | rp tg cs off b o arr vs ht hS hb hv hr => exact fun _ => by simp only [renAV]; exact .rp tg cs off b o arr vs ht hS hb hv hr
  | agg xs vs hl hf h ih =>
    intro hU
    simp only [renAV, renL_eq]
    refine .agg _ vs (by simpa using hl) hf fun i hi hi' => ?_
    rw [List.getElem_map]
    exact ih i (by simpa using hi) hi' fun k hk => hU k (by simp only [keysAV]; exact mem_keysL _ hk)
  | tup xs vs hl h ih =>
    intro hU
    simp only [renAV, renL_eq]
    refine .tup _ vs (by simpa using hl) fun i hi hi' => ?_
    rw [List.getElem_map]
    exact ih i (by simpa using hi) hi' fun k hk => hU k (by simp only [keysAV]; exact mem_keysL _ hk)
  | fn f xs vs hl h ih =>
    intro hU
    simp only [renAV, renL_eq]
    refine .fn f _ vs (by simpa using hl) fun i hi hi' => ?_
    rw [List.getElem_map]
    exact ih i (by simpa using hi) hi' fun k hk => hU k (by simp only [keysAV]; exact mem_keysL _ hk)

def sel {α : Type} (ids : List Nat) (f : Nat → α) : Nat → α := fun i => f (ids.getD i 0)

theorem hp_map {ids : List Nat} {H : Heap} {i : Nat} : hp (ids.map H) i = (ids[i]?).bind H := by
  simp only [hp, List.getElem?_map]
  cases ids[i]? <;> rfl

theorem hp_sel {ids : List Nat} {H : Heap} {i : Nat} (h : i < ids.length) : hp (ids.map H) i = H (ids.getD i 0) := by
  rw [hp_map, List.getElem?_eq_getElem h, List.getD_eq_getElem?_getD, List.getElem?_eq_getElem h]; rfl

theorem hp_lt {l : List (Option (List AV))} {i : Nat} {cs : List AV} (h : hp l i = some cs) : i < l.length := by
  rcases Nat.lt_or_ge i l.length with h' | h'
  · exact h'
  · simp [hp, List.getElem?_eq_none h'] at h

theorem Rel.ren {X : Cx} {μ : Nat → Option (Nat × Nat)} {F : Nat → Nat → Prop} {H : Heap} {w : World} {G : Nat → Prop} (hR : Rel X μ F H w G) {ids : List Nat} (hn : ids.Nodup) :
    Rel X (sel ids μ) (sel ids F) (hp (ids.map H)) w G := by
  have key : ∀ {i cs}, hp (ids.map H) i = some cs → i < ids.length ∧ H (ids.getD i 0) = some cs := by
    intro i cs h
    have hl : i < ids.length := by simpa using hp_lt h
    exact ⟨hl, (hp_sel hl).symm.trans h⟩
  refine ⟨hR.os, hR.tape, hR.output, hR.size, hR.frame, fun k cs hk => ?_, fun k k' cs cs' hne hk hk' b hb => ?_, fun k cs b hk hb => ?_, hR.gout⟩
  · exact hR.root _ cs (key hk).2
  · obtain ⟨l1, e1⟩ := key hk
    obtain ⟨l2, e2⟩ := key hk'
    refine hR.sep _ _ cs cs' (fun e => hne ?_) e1 e2 b hb
    rw [List.getD_eq_getElem?_getD, List.getD_eq_getElem?_getD, List.getElem?_eq_getElem l1, List.getElem?_eq_getElem l2] at e
    exact (List.getElem_inj (h₀ := l1) (h₁ := l2) hn).mp (by simpa using e)
  · exact hR.out _ cs b (key hk).2 hb

theorem nodup_eraseDups_aux : ∀ (n : Nat) (l : List Nat), l.length ≤ n → l.eraseDups.Nodup
  | 0, l, h => by have : l = [] := List.eq_nil_of_length_eq_zero (by omega); subst this; simp
  | n + 1, [], _ => by simp
  | n + 1, a :: l, h => by
    rw [List.eraseDups_cons, List.nodup_cons]
    refine ⟨fun hm => ?_, nodup_eraseDups_aux n _ (Nat.le_trans (List.length_filter_le _ _) (by simpa using h))⟩
    rw [List.mem_eraseDups, List.mem_filter] at hm
    simp at hm

theorem keep_nodup (L : Nat) (T : List AV) : (keep L T).Nodup := by
  unfold keep
  rw [List.nodup_append]
  refine ⟨List.nodup_range, nodup_eraseDups_aux _ _ (Nat.le_refl _), fun a ha b hb e => ?_⟩
  subst e
  simp only [liveKeys, List.mem_eraseDups, List.mem_filter, decide_eq_true_eq] at hb
  have := List.mem_range.mp ha
  omega

theorem mem_keep {L : Nat} {T : List AV} {k : Nat} (h : k < L ∨ k ∈ keysL T) : k ∈ keep L T := by
  simp only [keep, List.mem_append, List.mem_range, liveKeys, List.mem_eraseDups, List.mem_filter, decide_eq_true_eq]
  by_cases hk : k < L
  · exact .inl hk
  · exact .inr ⟨h.resolve_left hk, by omega⟩

theorem keep_len (L : Nat) (T : List AV) : L ≤ (keep L T).length := by simp [keep]

theorem keep_get {L : Nat} {T : List AV} {k : Nat} (h : k < L) : (keep L T).getD k 0 = k := by
  simp only [keep]
  rw [List.getD_eq_getElem?_getD, List.getElem?_append_left (by simpa using h)]
  simp [h]

theorem idxOf_getD {l : List Nat} {k : Nat} (h : k ∈ l) : l.idxOf k < l.length ∧ l.getD (l.idxOf k) 0 = k := by
  have h1 := List.idxOf_lt_length_iff.mpr h
  exact ⟨h1, by rw [List.getD_eq_getElem?_getD, List.getElem?_eq_getElem h1]; simp⟩

theorem sel_keep {X : Cx} {L : Nat} {T : List AV} {μ : Nat → Option (Nat × Nat)} {H : Heap} {w : World} {x : AV} {v : Value} (h : RV X μ H w x v) (hk : ∀ k, k ∈ keysAV x → k < L ∨ k ∈ keysL T) :
    RV X (sel (keep L T) μ) (hp ((keep L T).map H)) w (renAV (fun k => (keep L T).idxOf k) x) v := by
  refine h.ren fun k hk' => ?_
  obtain ⟨h1, h2⟩ := idxOf_getD (mem_keep (hk k hk'))
  exact ⟨by rw [hp_sel h1, h2], by simp only [sel, h2]⟩

theorem keep_keep {L : Nat} {T : List AV} {μ : Nat → Option (Nat × Nat)} {H : Heap} {w : World} : Keep (fun k => k < L) [] μ H w (sel (keep L T) μ) (hp ((keep L T).map H)) w := by
  refine ⟨fun k p cs' r ds hU _ hk hq => ?_⟩
  rw [hp_sel (Nat.lt_of_lt_of_le hU (keep_len L T)), keep_get hU] at hk
  simp only [sel, keep_get hU] at hq
  exact ⟨cs', ds, hk, hq, rfl, fun _ _ _ arr' h => ⟨arr', h, rfl⟩⟩

theorem ren_keys {L : Nat} {T : List AV} {x : AV} (hk : ∀ k, k ∈ keysAV x → k < L ∨ k ∈ keysL T) : ∀ k, k ∈ keysAV (renAV (fun k => (keep L T).idxOf k) x) → k < (keep L T).length := by
  have gen : ∀ (ρ : Nat → Nat) (n : Nat) (x : AV), (∀ k, k ∈ keysAV x → ρ k < n) → ∀ k, k ∈ keysAV (renAV ρ x) → k < n := by
    intro ρ n x
    exact AV.rec (motive_1 := fun x => (∀ k, k ∈ keysAV x → ρ k < n) → ∀ k, k ∈ keysAV (renAV ρ x) → k < n)
      (motive_2 := fun xs => (∀ k, k ∈ keysL xs → ρ k < n) → ∀ k, k ∈ keysL (renL ρ xs) → k < n)
      (fun _ k h => by simp [renAV, keysAV] at h) (fun _ _ k h => by simp [renAV, keysAV] at h) (fun _ _ _ _ _ _ _ k h => by simp [renAV, keysAV] at h)
      (fun k0 p z off n' cap hh k h => by simp only [renAV, keysAV, List.mem_singleton] at h; subst h; exact hh k0 (by simp [keysAV]))
      (fun k0 p off hh k h => by simp only [renAV, keysAV, List.mem_singleton] at h; subst h; exact hh k0 (by simp [keysAV]))
      (fun _ _ _ _ _ k h => by simp [renAV, keysAV] at h)
      (fun xs ih hh k h => by simp only [renAV, keysAV] at h; exact ih (fun k hk => hh k (by simpa [keysAV] using hk)) k h)
      (fun xs ih hh k h => by simp only [renAV, keysAV] at h; exact ih (fun k hk => hh k (by simpa [keysAV] using hk)) k h)
      (fun f xs ih hh k h => by simp only [renAV, keysAV] at h; exact ih (fun k hk => hh k (by simpa [keysAV] using hk)) k h)
      (fun _ _ _ k h => by simp [renAV, keysAV] at h)
      (fun _ k h => by simp [renL, keysL] at h)
      (fun x xs h1 h2 hh k h => by
        simp only [renL, keysL, List.mem_append] at h hh
        rcases h with h | h
        · exact h1 (fun k hk => hh k (.inl hk)) k h
        · exact h2 (fun k hk => hh k (.inr hk)) k h) x
  exact gen _ _ x fun k hk' => (idxOf_getD (mem_keep (hk k hk'))).1

end Go.Proofs.Ytlmifbpihlcabaa.VH
