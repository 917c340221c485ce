/- Part of a proof about the given program: the verified evaluator and what it tells of the functions (VhMove). Conditions: none beyond the hypotheses that each theorem states. -/
import Derived.Test.YtlmifbpihlcabaaVhKeep
namespace Go.Proofs.Ytlmifbpihlcabaa.VH

theorem Cells.range {X : Cx} {w : World} {b o : Nat} {ds : List AV} {T : Nat → Prop} (h : Cells X w b o ds T) (off m : Nat) (hm : off + m ≤ ds.length) : Cells X w b (o + off) ((ds.drop off).take m) T := by
  obtain ⟨arr, vs, Ts, h1, h2, h3, h4, h5, h6, h7, h8⟩ := h
  have hl : ((ds.drop off).take m).length = m := by simp; omega
  refine ⟨arr, fun j => vs (off + j), fun j => Ts (off + j), h1, h2, by omega, fun j hj => ?_, fun j hj => ?_, fun j hj => h6 _ (by omega), fun j hj => h7 _ (by omega), fun i j hi hj hne => h8 _ _ (by omega) (by omega) (by omega)⟩
  · have := h4 (off + j) (by omega)
    rwa [← Nat.add_assoc] at this
  · have e : ((ds.drop off).take m)[j] = ds[off + j]'(by omega) := by simp
    rw [e]; exact h5 _ _

theorem sub_snoc {i : Nat} : ∀ {q : List Nat} {cs ds : List AV}, sub (q ++ [i]) cs = some ds → ∃ es z n cap, sub q cs = some es ∧ es[i]? = some (.sl .own z n cap ds) := by
  intro q
  induction q with
  | nil =>
    intro cs ds h
    obtain ⟨z, n, cap, es, hi, hs⟩ := sub_cons h
    simp [sub] at hs; subst hs
    exact ⟨cs, z, n, cap, rfl, hi⟩
  | cons j q ih =>
    intro cs ds h
    obtain ⟨z, n, cap, es, hi, hs⟩ := sub_cons h
    obtain ⟨es', z', n', cap', h1, h2⟩ := ih hs
    exact ⟨es', z', n', cap', by simp only [sub, hi]; exact h1, h2⟩

theorem LocQ.snoc {w : World} {j z n : Nat} {cap : Option Nat} {es ds : List AV} {A : Option Addr} {c b' o' : Nat} {res : Option (Nat × Nat)} (hj : es[j]? = some (.sl .own z n cap ds)) (hc : w.cell? ⟨b', o' + j, none⟩ = some (.slice A n c))
    (hr : (c = 0 ∧ res = none) ∨ (0 < c ∧ ∃ b1 o1, A = some ⟨b1, o1, none⟩ ∧ res = some (b1, o1))) : ∀ {q : List Nat} {u : Option (Nat × Nat)} {cs : List AV}, LocQ w u cs q (some (b', o')) es → LocQ w u cs (q ++ [j]) res ds := by
  intro q
  induction q with
  | nil =>
    intro u cs h
    obtain ⟨h1, h2⟩ := h
    subst h1; subst h2
    refine ⟨z, n, cap, ds, A, c, hj, hc, ?_⟩
    rcases hr with ⟨h1, h2⟩ | ⟨h1, b1, o1, h2, h3⟩
    · exact .inl ⟨h1, h2, rfl⟩
    · exact .inr ⟨h1, b1, o1, h2, h3, rfl⟩
  | cons i q ih =>
    intro u cs h
    cases u with
    | none => exact h.elim
    | some u =>
      obtain ⟨z', n', cap', es', A', c', k1, k2, k3⟩ := h
      refine ⟨z', n', cap', es', A', c', k1, k2, ?_⟩
      rcases k3 with ⟨k3, k4⟩ | ⟨k3, b1, o1, k4, k5⟩
      · exact .inl ⟨k3, ih k4⟩
      · exact .inr ⟨k3, b1, o1, k4, ih k5⟩

theorem LocQ.some_of_root {w : World} {p : List Nat} {cs ds : List AV} {r u : Option (Nat × Nat)} (h : LocQ w u cs p r ds) (hp : p ≠ []) : ∃ b o, u = some (b, o) := by
  cases u with
  | none => exact absurd h.none_nil.1 hp
  | some u => exact ⟨u.1, u.2, rfl⟩

/-- what lies at a place, and how -/
def At (X : Cx) (w : World) (res : Option (Nat × Nat)) (ds : List AV) (T : Nat → Prop) : Prop :=
  match res with
  | none => ds = []
  | some (b, o) => Cells X w b o ds T

theorem Root.at {X : Cx} {w : World} {m : Option (Nat × Nat)} {cs : List AV} {T : Nat → Prop} (h : Root X w m cs T) : At X w m cs T := by
  cases m with
  | none => exact h
  | some u => exact h

/-- a look at a place -/
theorem look_at {X : Cx} {μ : Nat → Option (Nat × Nat)} {F : Nat → Nat → Prop} {H : Heap} {w : World} {G : Nat → Prop} (hR : Rel X μ F H w G) {k : Nat} {p : List Nat} {cs ds : List AV} (hk : H k = some cs) (hs : sub p cs = some ds) :
    ∃ res T, LocQ w (μ k) cs p res ds ∧ At X w res ds T ∧ ∀ x, T x → F k x := by
  have hroot := hR.root k cs hk
  cases hm : μ k with
  | none =>
    rw [hm] at hroot
    have hcs : cs = [] := hroot
    subst hcs
    cases p with
    | nil => simp [sub] at hs; subst hs; exact ⟨none, fun _ => False, ⟨rfl, rfl⟩, rfl, fun _ h => h.elim⟩
    | cons i p => obtain ⟨_, _, _, _, hi, _⟩ := sub_cons hs; simp at hi
  | some u =>
    obtain ⟨b, o⟩ := u
    rw [hm] at hroot
    rcases focus hroot hs with ⟨m, ds0, q1, q2, q3, q4⟩ | ⟨b', o', T', q1, q2, q3, _⟩
    · subst q2; subst q3
      exact ⟨none, fun _ => False, q1, q4, fun _ h => h.elim⟩
    · exact ⟨some (b', o'), T', q1, q2, q3⟩

theorem takeOut_sound {α R : Type} {X : Cx} {μ : Nat → Option (Nat × Nat)} {F : Nat → Nat → Prop} {H : Heap} {w : World} {G : Nat → Prop} {k : Nat} {p : List Nat} {g : List AV → HM α} {t : Tr} {K : α → Heap → Tr → Option R} {r : R}
    (hR : Rel X μ F H w G) (h : ((takeOut k p).bind g).run H t K = some r) :
    ∃ cs ds H' t' F' T res, (g ds).run H' t' K = some r ∧ t'.kl = t.kl ∧ H k = some cs ∧ sub p cs = some ds ∧ LocQ w (μ k) cs p res ds ∧ At X w res ds T ∧
      Rel X μ F' H' w (fun b => G b ∨ T b) ∧ (∀ b, T b → ¬ G b) ∧ (∀ U, Keep U [] μ H w μ H' w) ∧ (∀ j, H j = none → H' j = none) ∧ (∀ j, j ≠ k → H' j = H j ∧ F' j = F j) := by
  simp only [takeOut, HM.bind, HM.run] at h
  cases hk : H k with
  | none => simp [hk] at h
  | some cs =>
  simp only [hk] at h
  cases hs : sub p cs with
  | none => simp [hs, HM.bind, HM.run] at h
  | some ds =>
  simp only [hs] at h
  by_cases hp : p = []
  · subst hp
    simp only [HM.bind, HM.run] at h
    simp [sub] at hs; subst hs
    refine ⟨cs, cs, _, _, F, (fun b => μ k ≠ none ∧ F k b), μ k, h, rfl, rfl, rfl, ⟨rfl, rfl⟩, ?_, ?_, ?_, ?_, ?_, ?_⟩
    · have := (hR.root k cs hk).at
      cases hm : μ k with
      | none => rw [hm] at this; exact this
      | some u =>
        obtain ⟨b, o⟩ := u
        rw [hm] at this
        simp only [At, ne_eq, reduceCtorEq, not_false_eq_true, true_and] at this ⊢
        exact this
    · refine ⟨hR.os, hR.tape, hR.output, hR.size, hR.frame, fun j cs' hj => ?_, fun j j' cs1 cs2 hne hj hj' => ?_, fun j cs1 b hj hb => ?_, fun b hb => ?_⟩
      · simp only [upd] at hj
        split at hj
        · exact absurd hj (by simp)
        · exact hR.root j cs' hj
      · simp only [upd] at hj hj'
        split at hj
        · exact absurd hj (by simp)
        · split at hj'
          · exact absurd hj' (by simp)
          · exact hR.sep j j' cs1 cs2 hne hj hj'
      · simp only [upd] at hj
        split at hj
        · exact absurd hj (by simp)
        · rename_i hjk
          obtain ⟨a1, a2, a3⟩ := hR.out j cs1 b hj hb
          exact ⟨a1, a2, fun hh => hh.elim a3 fun hh => hR.sep j k cs1 cs hjk hj hk b hb hh.2⟩
      · rcases hb with hb | ⟨_, hb⟩
        · exact hR.gout b hb
        · obtain ⟨a1, a2, _⟩ := hR.out k cs b hk hb
          exact ⟨a1, a2⟩
    · rintro b ⟨_, hb⟩ hg
      exact (hR.out k cs b hk hb).2.2 hg
    · intro U
      refine ⟨fun j q cs' res ds' _ _ hj hq => ?_⟩
      simp only [upd] at hj
      split at hj
      · exact absurd hj (by simp)
      · exact ⟨cs', ds', hj, hq, rfl, fun _ _ _ arr' h => ⟨arr', h, rfl⟩⟩
    · intro j hj
      simp only [upd]
      split
      · rfl
      · exact hj
    · intro j hj
      simp [upd, hj]
  · obtain ⟨q, j, rfl⟩ : ∃ q j, p = q ++ [j] := ⟨p.dropLast, p.getLast hp, (List.dropLast_concat_getLast hp).symm⟩
    have h' : (g ds).run (upd H k (some (modp q (fun xs => xs.set j .und) cs))) { t with rd := k :: t.rd, wr := k :: t.wr } K = some r := by
      cases hq : q ++ [j] with
      | nil => simp at hq
      | cons a l =>
        simp only [hq, HM.bind, HM.run] at h
        rw [← hq] at h
        simpa using h
    obtain ⟨es, z, n, cap, hq, hj⟩ := sub_snoc hs
    have hroot := hR.root k cs hk
    cases hm : μ k with
    | none =>
      rw [hm] at hroot
      have hcs : cs = [] := hroot
      subst hcs
      cases q with
      | nil => simp [sub] at hq; subst hq; simp at hj
      | cons i q => obtain ⟨_, _, _, _, hi, _⟩ := sub_cons hq; simp at hi
    | some u =>
    obtain ⟨b, o⟩ := u
    rw [hm] at hroot
    obtain ⟨hjl, hje⟩ := List.getElem?_eq_some_iff.mp hj
    rcases focus hroot hq with ⟨m, ds0, q1, q2, q3, q4⟩ | ⟨b', o', T', q1, q2, q3, q4⟩
    · subst q4; simp at hjl
    obtain ⟨arr, vs, Ts, c1, c2, c3, c4, c5, c6, c7, c8⟩ := q2
    have hO := c5 j hjl
    rw [hje] at hO
    have hcell : w.cell? ⟨b', o' + j, none⟩ = some (vs j) := by rw [cell?_of c1.rblk]; exact c4 j hjl
    have hnew : Cells X w b' o' (es.set j .und) (fun x => T' x ∧ ¬ Ts j x) := by
      refine ⟨arr, vs, fun i => if i = j then fun _ => False else Ts i, c1, ⟨c2, c7 j hjl⟩, by simpa using c3, fun i hi => c4 i (by simpa using hi), fun i hi => ?_, fun i hi x hx => ?_, fun i hi hx => ?_, fun i i' hi hi' hne x hx hx' => ?_⟩
      · by_cases hij : i = j
        · subst hij
          simp only [List.getElem_set_self]
          exact .und _ _ hO.leaf
        · rw [List.getElem_set_ne (by omega)]
          simp only [hij, if_false]
          exact c5 i (by simpa using hi)
      · by_cases hij : i = j
        · simp [hij] at hx
        · simp only [hij, if_false] at hx
          exact ⟨c6 i (by simpa using hi) x hx, c8 i j (by simpa using hi) hjl hij x hx⟩
      · by_cases hij : i = j
        · simp [hij] at hx
        · simp only [hij, if_false] at hx
          exact c7 i (by simpa using hi) hx
      · by_cases hij : i = j
        · simp [hij] at hx
        · by_cases hij' : i' = j
          · simp [hij'] at hx'
          · simp only [hij, hij', if_false] at hx hx'
            exact c8 i i' (by simpa using hi) (by simpa using hi') hne x hx hx'
    obtain ⟨Tn, n1, n2⟩ := q4 w (es.set j .und) _ (by simp) hnew (fun x a a' _ h1 h2 => by rw [h1.uniq h2]) (fun _ _ _ => rfl) (fun x hx _ => hx.1)
    have hcs' : modp q (fun xs => xs.set j .und) cs = modp q (fun _ => es.set j .und) cs := modp_congr hq rfl
    rw [hcs'] at h'
    have hTnF : ∀ x, Tn x → F k x ∧ ¬ Ts j x := by
      intro x hx
      rcases n2 x hx with hx | ⟨hx, hx'⟩
      · exact ⟨q3 x hx.1, hx.2⟩
      · exact ⟨hx, fun ht => hx' (c6 j hjl x ht)⟩
    have hTj : ∀ x, Ts j x → F k x := fun x hx => q3 x (c6 j hjl x hx)
    have hres : ∃ res, LocQ w (some (b, o)) cs (q ++ [j]) res ds ∧ At X w res ds (Ts j) := by
      generalize hv : vs j = v at hO hcell
      generalize hTT : Ts j = TT at hO
      cases hO with
      | nil _ _ A _ _ => exact ⟨none, LocQ.snoc hj hcell (.inl ⟨rfl, rfl⟩) q1, rfl⟩
      | own _ _ _ _ b1 o1 c arr1 vs1 Ts1 _ g1 g2 g3 g4 g5 g6 g7 g8 g9 g10 g11 =>
        by_cases hc0 : c = 0
        · subst hc0
          have hn0 : n = 0 := by omega
          subst hn0
          exact ⟨none, LocQ.snoc hj hcell (.inl ⟨rfl, rfl⟩) q1, List.eq_nil_of_length_eq_zero (by simpa using g5)⟩
        · exact ⟨some (b1, o1), LocQ.snoc hj hcell (.inr ⟨by omega, b1, o1, rfl, rfl⟩) q1, arr1, vs1, Ts1, g1, g2, by rw [g5]; have := Nat.mul_le_mul_right z g3; omega, g7, g8, g9, g10, g11⟩
    obtain ⟨res, r1, r2⟩ := hres
    refine ⟨cs, ds, _, _, fun i => if i = k then Tn else F i, Ts j, res, h', rfl, rfl, hs, r1, r2, ?_, ?_, ?_, ?_, ?_⟩
    · refine ⟨hR.os, hR.tape, hR.output, hR.size, hR.frame, fun i cs' hi => ?_, fun i i' cs1 cs2 hne hi hi' x hx hx' => ?_, fun i cs1 x hi hx => ?_, fun x hx => ?_⟩
      · by_cases hik : i = k
        · subst hik
          simp only [upd, if_true] at hi
          injection hi with hi; subst hi
          simp only [if_true, hm]
          exact n1
        · simp only [upd, hik, if_false] at hi ⊢
          exact hR.root i cs' hi
      · have key : ∀ i cs1, upd H k (some (modp q (fun _ => es.set j .und) cs)) i = some cs1 → (if i = k then Tn else F i) x → (∃ cs0, H i = some cs0) ∧ F i x := by
          intro i cs1 hi hx
          by_cases hik : i = k
          · subst hik
            simp only [if_true] at hx
            exact ⟨⟨cs, hk⟩, (hTnF x hx).1⟩
          · simp only [upd, hik, if_false] at hi hx
            exact ⟨⟨cs1, hi⟩, hx⟩
        obtain ⟨⟨a, ha⟩, hfa⟩ := key i cs1 hi hx
        obtain ⟨⟨a', ha'⟩, hfa'⟩ := key i' cs2 hi' hx'
        exact hR.sep i i' a a' hne ha ha' x hfa hfa'
      · by_cases hik : i = k
        · subst hik
          simp only [if_true] at hx
          obtain ⟨a1, a2, a3⟩ := hR.out i cs x hk (hTnF x hx).1
          exact ⟨a1, a2, fun hh => hh.elim a3 (hTnF x hx).2⟩
        · simp only [upd, hik, if_false] at hi hx
          obtain ⟨a1, a2, a3⟩ := hR.out i cs1 x hi hx
          exact ⟨a1, a2, fun hh => hh.elim a3 fun ht => hR.sep i k cs1 cs hik hi hk x hx (hTj x ht)⟩
      · rcases hx with hx | hx
        · exact hR.gout x hx
        · obtain ⟨a1, a2, _⟩ := hR.out k cs x hk (hTj x hx)
          exact ⟨a1, a2⟩
    · intro x hx hg
      exact (hR.out k cs x hk (hTj x hx)).2.2 hg
    · intro U
      refine ⟨fun i p2 cs' res2 ds2 _ _ hi hq2 => ?_⟩
      by_cases hik : i = k
      · subst hik
        simp only [upd, if_true] at hi
        injection hi with hi; subst hi
        rw [hm] at hq2 ⊢
        obtain ⟨ds', l1, l2⟩ := LocQ.back (w' := w) (es' := es.set j .und) hroot hq q1 (by simp) (fun i' z' n' cap' fs' hi' => by
          by_cases hij : i' = j
          · subst hij
            rw [List.getElem?_set_self hjl] at hi'
            exact absurd hi' (by simp)
          · rw [List.getElem?_set_ne (by omega)] at hi'
            exact ⟨hi', rfl⟩) (fun _ _ _ => rfl) hq2
        exact ⟨cs, ds', hk, l1, l2, fun _ _ _ arr' h => ⟨arr', h, rfl⟩⟩
      · simp only [upd, hik, if_false] at hi
        exact ⟨cs', ds2, hi, hq2, rfl, fun _ _ _ arr' h => ⟨arr', h, rfl⟩⟩
    · intro i hi
      simp only [upd]
      split
      · rename_i hik; subst hik; rw [hk] at hi; exact absurd hi (by simp)
      · exact hi
    · intro i hi
      simp [upd, hi]

end Go.Proofs.Ytlmifbpihlcabaa.VH
