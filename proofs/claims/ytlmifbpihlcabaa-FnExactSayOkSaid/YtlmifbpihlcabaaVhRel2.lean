/- Part of a proof about the given program: the verified evaluator and what it tells of the functions (VhRel2). Conditions: none beyond the hypotheses that each theorem states. -/
import Derived.Test.YtlmifbpihlcabaaVhRel
namespace Go.Proofs.Ytlmifbpihlcabaa.VH

/- Slots, and the whole relation. -/

def RefOK (w : World) (r : Option (Nat × Nat)) (off z c : Nat) (cap : Option Nat) (A : Option Addr) (len : Nat) : Prop :=
  match r with
  | none => c = 0
  | some (b, o) => c = 0 ∨ (A = some ⟨b, o + off, none⟩ ∧ (cap = none → len ≤ off + c * z) ∧ ∀ arr, RBlk w b arr → o + off + c * z ≤ arr.size)

def tagS (X : Cx) : Tg → Nat → Prop
  | .fgn => X.Fg
  | _ => X.Fo

inductive RV (X : Cx) (μ : Nat → Option (Nat × Nat)) (H : Heap) (w : World) : AV → Value → Prop
  | und (v : Value) : RV X μ H w .und v
  | val (v : Value) : RV X μ H w (.val v) v
  | sl (tg : Tg) (z n : Nat) (cap : Option Nat) (cs : List AV) (v : Value) (ht : tg ≠ .own) (h : RD X.w0 (tagS X tg) (.sl tg z n cap cs) v) : RV X μ H w (.sl tg z n cap cs) v
  | ref (k : Nat) (p : List Nat) (z off n : Nat) (cap : Option Nat) (A : Option Addr) (c : Nat) (hn : n ≤ c) (hc : ∀ q, cap = some q → c = q) (hA : A = none → c = 0)
      (h : ∀ cs r ds, H k = some cs → LocQ w (μ k) cs p r ds → RefOK w r off z c cap A ds.length) : RV X μ H w (.ref k p z off n cap) (.slice A n c)
  | ptr (k : Nat) (p : List Nat) (off : Nat) (a : Addr) (h : ∀ cs b o ds, H k = some cs → LocQ w (μ k) cs p (some (b, o)) ds → a = ⟨b, o + off, none⟩) : RV X μ H w (.ptr k p off) (.pointer (some a))
  | rp (tg : Tg) (cs : List AV) (off b o : Nat) (arr : Array Value) (vs : Nat → Value) (ht : tg ≠ .own) (hS : tagS X tg b) (hb : RBlk X.w0 b arr)
      (hv : ∀ j, j < cs.length → arr[o + j]? = some (vs j)) (hr : ∀ j (h : j < cs.length), RD X.w0 (tagS X tg) cs[j] (vs j)) : RV X μ H w (.rp tg cs off) (.pointer (some ⟨b, o + off, none⟩))
  | agg (xs : List AV) (vs : Array Value) (hl : vs.size = xs.length) (hf : ∀ i (h : i < vs.size), leafV vs[i] = true) (h : ∀ i (h : i < xs.length) (h' : i < vs.size), RV X μ H w xs[i] vs[i]) : RV X μ H w (.agg xs) (.agg vs)
  | tup (xs : List AV) (vs : Array Value) (hl : vs.size = xs.length) (h : ∀ i (h : i < xs.length) (h' : i < vs.size), RV X μ H w xs[i] vs[i]) : RV X μ H w (.tup xs) (.tuple vs)
  | fn (f : FuncId) (xs : List AV) (vs : Array Value) (hl : vs.size = xs.length) (h : ∀ i (h : i < xs.length) (h' : i < vs.size), RV X μ H w xs[i] vs[i]) : RV X μ H w (.fn f xs) (.func (.func f) #[] vs)

structure Cx.WF (X : Cx) : Prop where
  fo : ∀ b, X.Fo b → b < X.w0.heap.size
  fg : ∀ b, X.Fg b → X.Fo b

def Root (X : Cx) (w : World) (m : Option (Nat × Nat)) (cs : List AV) (T : Nat → Prop) : Prop :=
  match m with
  | none => cs = []
  | some (b, o) => Cells X w b o cs T

structure Rel (X : Cx) (μ : Nat → Option (Nat × Nat)) (F : Nat → Nat → Prop) (H : Heap) (w : World) (G : Nat → Prop) : Prop where
  os : w.os = X.w0.os
  tape : w.tape = X.w0.tape
  output : w.output = X.w0.output
  size : X.w0.heap.size ≤ w.heap.size
  frame : ∀ b, X.Fo b → w.heap[b]? = X.w0.heap[b]?
  root : ∀ k cs, H k = some cs → Root X w (μ k) cs (F k)
  sep : ∀ k k' cs cs', k ≠ k' → H k = some cs → H k' = some cs' → ∀ b, F k b → ¬ F k' b
  out : ∀ k cs b, H k = some cs → F k b → ¬ X.Fo b ∧ b < w.heap.size ∧ ¬ G b
  gout : ∀ b, G b → ¬ X.Fo b ∧ b < w.heap.size

theorem LocQ.agree {X : Cx} {w w' : World} : ∀ {p : List Nat} {b o : Nat} {cs ds : List AV} {T : Nat → Prop} {r : Option (Nat × Nat)}, Cells X w b o cs T → (∀ x, T x → w'.heap[x]? = w.heap[x]?) →
    LocQ w' (some (b, o)) cs p r ds → LocQ w (some (b, o)) cs p r ds := by
  intro p
  induction p with
  | nil => intro b o cs ds T r _ _ h; exact h
  | cons i p ih =>
    intro b o cs ds T r hC hw h
    obtain ⟨z, n, cap, es, A, c, hi, hcell, hq⟩ := h
    obtain ⟨arr, vs, Ts, h1, h2, h3, h4, h5, h6, h7, h8⟩ := hC
    obtain ⟨hil, hie⟩ := List.getElem?_eq_some_iff.mp hi
    have e1 : w.cell? ⟨b, o + i, none⟩ = some (vs i) := by rw [cell?_of h1.rblk]; exact h4 i hil
    have e2 : w'.cell? ⟨b, o + i, none⟩ = some (vs i) := by rw [cell?_of (h1.agree (hw _ h2)).rblk]; exact h4 i hil
    rw [e2] at hcell
    refine ⟨z, n, cap, es, A, c, hi, e1.trans hcell, ?_⟩
    rcases hq with ⟨hc, hq⟩ | ⟨hc, b1, o1, hA, hq⟩
    · left
      refine ⟨hc, ?_⟩
      cases p with
      | nil => exact hq
      | cons j p => exact hq.elim
    · right
      refine ⟨hc, b1, o1, hA, ?_⟩
      have hO := h5 i hil
      rw [hie] at hO
      have hv : vs i = .slice A n c := Option.some.inj hcell
      rw [hv, hA] at hO
      generalize hTi : Ts i = Ti at hO
      cases hO with
      | own _ _ _ _ _ _ _ arr1 vs1 Ts1 _ g1 g2 g3 g4 g5 g6 g7 g8 g9 g10 g11 =>
        exact ih (T := Ti) ⟨arr1, vs1, Ts1, g1, g2, by rw [g5]; have := Nat.mul_le_mul_right z g3; omega, g7, g8, g9, g10, g11⟩ (fun x hx => hw x (h6 i hil x (by rw [hTi]; exact hx))) hq
      | nil => omega

theorem LocQ.none_nil {w : World} {cs ds : List AV} {p : List Nat} {r : Option (Nat × Nat)} (h : LocQ w none cs p r ds) : p = [] ∧ r = none ∧ ds = cs := by
  cases p with
  | nil => exact ⟨rfl, h.1, h.2⟩
  | cons i p => exact h.elim

theorem LocQ.back {X : Cx} {w w' : World} : ∀ {p : List Nat} {b o b' o' : Nat} {cs es es' : List AV} {T : Nat → Prop}, Cells X w b o cs T → sub p cs = some es →
    LocQ w (some (b, o)) cs p (some (b', o')) es → es'.length = es.length →
    (∀ i z n cap fs, es'[i]? = some (.sl .own z n cap fs) → es[i]? = some (.sl .own z n cap fs) ∧ w'.cell? ⟨b', o' + i, none⟩ = w.cell? ⟨b', o' + i, none⟩) →
    (∀ x, T x → x ≠ b' → w'.heap[x]? = w.heap[x]?) →
    ∀ {p2 : List Nat} {r : Option (Nat × Nat)} {ds : List AV}, LocQ w' (some (b, o)) (modp p (fun _ => es') cs) p2 r ds → ∃ ds', LocQ w (some (b, o)) cs p2 r ds' ∧ ds'.length = ds.length := by
  intro p
  induction p with
  | nil =>
    intro b o b' o' cs es es' T hC hs hL hl hcom hag p2 r ds h
    simp [sub] at hs; subst hs
    obtain ⟨e1, _⟩ := hL
    injection e1 with e1; injection e1 with e1 e2; subst e1; subst e2
    simp only [modp] at h
    cases p2 with
    | nil => exact ⟨cs, ⟨h.1, rfl⟩, by rw [h.2]; exact hl.symm⟩
    | cons i p2 =>
      obtain ⟨z, n, cap, fs, A, c, hi, hcell, hq⟩ := h
      obtain ⟨hi', hcc⟩ := hcom i z n cap fs hi
      rw [hcc] at hcell
      rcases hq with ⟨hc, hq⟩ | ⟨hc, b1, o1, hA, hq⟩
      · obtain ⟨rfl, rfl, rfl⟩ := hq.none_nil
        exact ⟨_, ⟨z, n, cap, _, A, c, hi', hcell, .inl ⟨hc, rfl, rfl⟩⟩, rfl⟩
      · refine ⟨ds, ⟨z, n, cap, fs, A, c, hi', hcell, .inr ⟨hc, b1, o1, hA, ?_⟩⟩, rfl⟩
        obtain ⟨arr, vs, Ts, h1, h2, h3, h4, h5, h6, h7, h8⟩ := hC
        obtain ⟨hil, hie⟩ := List.getElem?_eq_some_iff.mp hi'
        have e1 : w.cell? ⟨b', o' + i, none⟩ = some (vs i) := by rw [cell?_of h1.rblk]; exact h4 i hil
        rw [e1] at hcell
        have hv : vs i = .slice A n c := Option.some.inj hcell
        have hO := h5 i hil
        rw [hie, hv, hA] at hO
        generalize hTi : Ts i = Ti at hO
        cases hO with
        | own _ _ _ _ _ _ _ arr1 vs1 Ts1 _ g1 g2 g3 g4 g5 g6 g7 g8 g9 g10 g11 =>
          have hC1 : Cells X w b1 o1 fs Ti := ⟨arr1, vs1, Ts1, g1, g2, by rw [g5]; have := Nat.mul_le_mul_right z g3; omega, g7, g8, g9, g10, g11⟩
          exact hq.agree hC1 fun x hx => hag x (h6 i hil x (by rw [hTi]; exact hx)) fun e => h7 i hil (by rw [hTi, ← e]; exact hx)
        | nil => omega
  | cons j p ih =>
    intro b o b' o' cs es es' T hC hs hL hl hcom hag p2 r ds h
    obtain ⟨z, n, cap, es1, hj, hs1⟩ := sub_cons hs
    rw [modp_cons hj] at h
    cases p2 with
    | nil => exact ⟨cs, ⟨h.1, rfl⟩, by rw [h.2]; simp⟩
    | cons i p2 =>
      obtain ⟨arr, vs, Ts, h1, h2, h3, h4, h5, h6, h7, h8⟩ := hC
      obtain ⟨hjl, hje⟩ := List.getElem?_eq_some_iff.mp hj
      obtain ⟨z2, n2, cap2, es2, A2, c2, hj2, hcell2, hq2⟩ := hL
      rw [hj] at hj2
      injection hj2 with hj2; injection hj2 with _ q1 q2 q3 q4; subst q1; subst q2; subst q3; subst q4
      have ej : w.cell? ⟨b, o + j, none⟩ = some (vs j) := by rw [cell?_of h1.rblk]; exact h4 j hjl
      rw [ej] at hcell2
      have hvj : vs j = .slice A2 n c2 := Option.some.inj hcell2
      rcases hq2 with ⟨_, hq2⟩ | ⟨hc2, b1, o1, hA2, hq2⟩
      · obtain ⟨_, hh, _⟩ := hq2.none_nil; exact absurd hh (by simp)
      have hO := h5 j hjl
      rw [hje, hvj, hA2] at hO
      generalize hTj : Ts j = Tj at hO
      cases hO with
      | nil => omega
      | own _ _ _ _ _ _ _ arr1 vs1 Ts1 _ g1 g2 g3 g4 g5 g6 g7 g8 g9 g10 g11 =>
      have hC1 : Cells X w b1 o1 es1 Tj := ⟨arr1, vs1, Ts1, g1, g2, by rw [g5]; have := Nat.mul_le_mul_right z g3; omega, g7, g8, g9, g10, g11⟩
      have hTjT : ∀ x, Tj x → T x := fun x hx => h6 j hjl x (by rw [hTj]; exact hx)
      have hb' : Tj b' := by
        rcases focus hC1 hs1 with ⟨m, ds0, q1, q2, q3, q4⟩ | ⟨b2, o2, T2, q1, q2, q3, _⟩
        · subst q2
          exfalso
          have : ∀ {p : List Nat} {m m' : Option (Nat × Nat)} {cs d d' : List AV} {u : Option (Nat × Nat)}, LocQ w u cs p m d → LocQ w u cs p m' d' → m = m' := by
            intro p
            induction p with
            | nil => intro m m' cs d d' u h h'; rw [h.1, h'.1]
            | cons i p ih =>
              intro m m' cs d d' u h h'
              cases u with
              | none => exact h.elim
              | some u =>
                obtain ⟨_, _, _, _, A, c, k1, k2, k3⟩ := h
                obtain ⟨_, _, _, _, A', c', k1', k2', k3'⟩ := h'
                rw [k1] at k1'
                injection k1' with k1'; injection k1' with _ _ _ _ e; subst e
                rw [k2] at k2'
                injection k2' with k2'; injection k2' with e1 e2 e3; subst e1; subst e3
                rcases k3 with ⟨k, k3⟩ | ⟨k, _, _, e, k3⟩
                · rcases k3' with ⟨k', k3'⟩ | ⟨k', _, _, e', k3'⟩
                  · exact ih k3 k3'
                  · omega
                · rcases k3' with ⟨k', k3'⟩ | ⟨k', _, _, e', k3'⟩
                  · omega
                  · rw [e] at e'; injection e' with e'; injection e' with e1 e2; subst e1; subst e2
                    exact ih k3 k3'
          have := this q1 hq2
          simp at this
        · have : ∀ {p : List Nat} {m m' : Option (Nat × Nat)} {cs d d' : List AV} {u : Option (Nat × Nat)}, LocQ w u cs p m d → LocQ w u cs p m' d' → m = m' := by
            intro p
            induction p with
            | nil => intro m m' cs d d' u h h'; rw [h.1, h'.1]
            | cons i p ih =>
              intro m m' cs d d' u h h'
              cases u with
              | none => exact h.elim
              | some u =>
                obtain ⟨_, _, _, _, A, c, k1, k2, k3⟩ := h
                obtain ⟨_, _, _, _, A', c', k1', k2', k3'⟩ := h'
                rw [k1] at k1'
                injection k1' with k1'; injection k1' with _ _ _ _ e; subst e
                rw [k2] at k2'
                injection k2' with k2'; injection k2' with e1 e2 e3; subst e1; subst e3
                rcases k3 with ⟨k, k3⟩ | ⟨k, _, _, e, k3⟩
                · rcases k3' with ⟨k', k3'⟩ | ⟨k', _, _, e', k3'⟩
                  · exact ih k3 k3'
                  · omega
                · rcases k3' with ⟨k', k3'⟩ | ⟨k', _, _, e', k3'⟩
                  · omega
                  · rw [e] at e'; injection e' with e'; injection e' with e1 e2; subst e1; subst e2
                    exact ih k3 k3'
          have e := this q1 hq2
          injection e with e; injection e with e1 e2; subst e1
          obtain ⟨_, _, _, _, hT2, _⟩ := q2
          exact q3 _ hT2
      have hbne : b ≠ b' := fun e => h7 j hjl (by rw [hTj, e]; exact hb')
      obtain ⟨z', n', cap', fs, A, c, hi, hcell, hq⟩ := h
      have hcell' : w.cell? ⟨b, o + i, none⟩ = some (.slice A n' c) := by
        have e := hag b h2 hbne
        obtain ⟨t, fr, hh, _⟩ := h1
        simp only [World.cell?, e] at hcell
        simpa [World.cell?] using hcell
      by_cases hij : i = j
      · subst hij
        rw [List.getElem?_set_self hjl] at hi
        injection hi with hi; injection hi with _ q1 q2 q3 q4; subst q1; subst q2; subst q3; subst q4
        rw [ej] at hcell'
        have hv' : vs i = .slice A n c := Option.some.inj hcell'
        rw [hvj] at hv'
        injection hv' with e1 e2 e3; subst e1; subst e3
        rcases hq with ⟨hc, hq⟩ | ⟨hc, b3, o3, hA, hq⟩
        · omega
        · rw [hA2] at hA
          injection hA with hA; injection hA with e1 e2; subst e1; subst e2
          obtain ⟨ds', r1, r2⟩ := ih hC1 hs1 hq2 hl hcom (fun x hx hne => hag x (hTjT x hx) hne) hq
          exact ⟨ds', ⟨z, n, cap, es1, A2, c2, hj, by rw [ej, hvj], .inr ⟨hc2, b1, o1, hA2, r1⟩⟩, r2⟩
      · rw [List.getElem?_set_ne (by omega)] at hi
        refine ⟨ds, ⟨z', n', cap', fs, A, c, hi, hcell', ?_⟩, rfl⟩
        rcases hq with ⟨hc, hq⟩ | ⟨hc, b3, o3, hA, hq⟩
        · obtain ⟨rfl, rfl, rfl⟩ := hq.none_nil
          exact .inl ⟨hc, rfl, rfl⟩
        · refine .inr ⟨hc, b3, o3, hA, ?_⟩
          obtain ⟨hil, hie⟩ := List.getElem?_eq_some_iff.mp hi
          have ei : w.cell? ⟨b, o + i, none⟩ = some (vs i) := by rw [cell?_of h1.rblk]; exact h4 i hil
          rw [ei] at hcell'
          have hvi : vs i = .slice A n' c := Option.some.inj hcell'
          have hO := h5 i hil
          rw [hie, hvi, hA] at hO
          generalize hTi : Ts i = Ti at hO
          cases hO with
          | own _ _ _ _ _ _ _ arr3 vs3 Ts3 _ k1 k2 k3 k4 k5 k6 k7 k8 k9 k10 k11 =>
            have hC3 : Cells X w b3 o3 fs Ti := ⟨arr3, vs3, Ts3, k1, k2, by rw [k5]; have := Nat.mul_le_mul_right z' k3; omega, k7, k8, k9, k10, k11⟩
            refine hq.agree hC3 fun x hx => hag x (h6 i hil x (by rw [hTi]; exact hx)) fun e => ?_
            exact h8 i j hil hjl hij x (by rw [hTi]; exact hx) (by rw [hTj, e]; exact hb')
          | nil => omega

end Go.Proofs.Ytlmifbpihlcabaa.VH
