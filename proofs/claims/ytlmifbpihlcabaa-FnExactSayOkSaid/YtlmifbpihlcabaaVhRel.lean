/- Part of a proof about the given program: the verified evaluator and what it tells of the functions (VhRel). Conditions: none beyond the hypotheses that each theorem states. -/
import Derived.Test.YtlmifbpihlcabaaVhCore
namespace Go.Proofs.Ytlmifbpihlcabaa.VH

/- What the evaluator's values stand for in memory. -/

def RBlk (w : World) (b : Nat) (arr : Array Value) : Prop := ∃ e fr, w.heap[b]? = some (.cells arr e fr)
def OBlk (w : World) (b : Nat) (arr : Array Value) : Prop := ∃ e fr, w.heap[b]? = some (.cells arr e fr) ∧ ∀ i, i < arr.size → ¬ (fr.1 ≤ i ∧ i < fr.2)

theorem OBlk.rblk {w : World} {b : Nat} {arr : Array Value} (h : OBlk w b arr) : RBlk w b arr := let ⟨e, fr, h, _⟩ := h; ⟨e, fr, h⟩
theorem RBlk.uniq {w : World} {b : Nat} {x y : Array Value} (h : RBlk w b x) (k : RBlk w b y) : x = y := by
  obtain ⟨e, fr, h⟩ := h
  obtain ⟨e', fr', k⟩ := k
  rw [h] at k
  injection k with k
  injection k
theorem RBlk.agree {w w' : World} {b : Nat} {x : Array Value} (h : RBlk w b x) (e : w'.heap[b]? = w.heap[b]?) : RBlk w' b x := by
  obtain ⟨t, fr, h⟩ := h; exact ⟨t, fr, e.trans h⟩
theorem RBlk.back {w w' : World} {b : Nat} {x : Array Value} (h : RBlk w' b x) (e : w'.heap[b]? = w.heap[b]?) : RBlk w b x := by
  obtain ⟨t, fr, h⟩ := h; exact ⟨t, fr, e.symm.trans h⟩
theorem OBlk.agree {w w' : World} {b : Nat} {x : Array Value} (h : OBlk w b x) (e : w'.heap[b]? = w.heap[b]?) : OBlk w' b x := by
  obtain ⟨t, fr, h, hf⟩ := h; exact ⟨t, fr, e.trans h, hf⟩
theorem RBlk.lt {w : World} {b : Nat} {x : Array Value} (h : RBlk w b x) : b < w.heap.size := by
  obtain ⟨t, fr, h⟩ := h
  exact (Array.getElem?_eq_some_iff.mp h).1

/-- memory that is only read: all of it lies in blocks of 'S' -/
inductive RD (w : World) (S : Nat → Prop) : AV → Value → Prop
  | und (v : Value) (h : leafV v = true) : RD w S .und v
  | val (v : Value) (h : leafV v = true) : RD w S (.val v) v
  | sl (tg : Tg) (z n : Nat) (cap : Option Nat) (cs : List AV) (b o c : Nat) (arr : Array Value) (vs : Nat → Value) (hS : S b) (hb : RBlk w b arr) (hn : n ≤ c)
      (hc : ∀ q, cap = some q → c = q) (hl : cs.length = n * z) (hv : ∀ j, j < cs.length → arr[o + j]? = some (vs j))
      (hr : ∀ j (h : j < cs.length), RD w S cs[j] (vs j)) : RD w S (.sl tg z n cap cs) (.slice (some ⟨b, o, none⟩) n c)
  | nil (tg : Tg) (z : Nat) (cap : Option Nat) (A : Option Addr) (c : Nat) (hc : ∀ q, cap = some q → c = q) : RD w S (.sl tg z 0 cap []) (.slice A 0 c)

theorem RD.leaf {w : World} {S : Nat → Prop} {x : AV} {v : Value} (h : RD w S x v) : leafV v = true := by cases h <;> first | assumption | rfl

theorem RD.mono {w w' : World} {S S' : Nat → Prop} {x : AV} {v : Value} (h : RD w S x v) (hS : ∀ b, S b → S' b) (hw : ∀ b, S b → w'.heap[b]? = w.heap[b]?) : RD w' S' x v := by
  induction h with
  | und v h => exact .und v h
  | val v h => exact .val v h
  | sl tg z n cap cs b o c arr vs h1 h2 h3 h4 h5 h6 h7 ih => exact .sl tg z n cap cs b o c arr vs (hS _ h1) (h2.agree (hw _ h1)) h3 h4 h5 h6 ih
  | nil tg z cap A c hc => exact .nil tg z cap A c hc

theorem RD.tag {w : World} {S : Nat → Prop} {tg tg' : Tg} {z n : Nat} {cap : Option Nat} {cs : List AV} {v : Value} (h : RD w S (.sl tg z n cap cs) v) : RD w S (.sl tg' z n cap cs) v := by
  cases h with
  | sl _ _ _ _ _ b o c arr vs h1 h2 h3 h4 h5 h6 h7 => exact .sl tg' z n cap cs b o c arr vs h1 h2 h3 h4 h5 h6 h7
  | nil _ _ _ A c hc => exact .nil tg' z cap A c hc

structure Cx where
  w0 : World
  Fo : Nat → Prop
  Fg : Nat → Prop

/-- memory that is owned: each cell, and the blocks that it holds -/
inductive OW (X : Cx) (w : World) : AV → Value → (Nat → Prop) → Prop
  | und (v : Value) (T : Nat → Prop) (h : leafV v = true) : OW X w .und v T
  | val (v : Value) (T : Nat → Prop) (h : leafV v = true) : OW X w (.val v) v T
  | fgn (z n : Nat) (cap : Option Nat) (cs : List AV) (v : Value) (T : Nat → Prop) (h : RD X.w0 X.Fg (.sl .fgn z n cap cs) v) : OW X w (.sl .fgn z n cap cs) v T
  | snap (z n : Nat) (cap : Option Nat) (cs : List AV) (v : Value) (T : Nat → Prop) (h : RD X.w0 X.Fo (.sl .snap z n cap cs) v) : OW X w (.sl .snap z n cap cs) v T
  | own (z n : Nat) (cap : Option Nat) (cs : List AV) (b o c : Nat) (arr : Array Value) (vs : Nat → Value) (Ts : Nat → Nat → Prop) (T : Nat → Prop)
      (hb : OBlk w b arr) (hT : T b) (hn : n ≤ c) (hc : ∀ q, cap = some q → c = q) (hl : cs.length = n * z) (hz : o + c * z ≤ arr.size)
      (hv : ∀ j, j < cs.length → arr[o + j]? = some (vs j)) (hr : ∀ j (h : j < cs.length), OW X w cs[j] (vs j) (Ts j))
      (hs : ∀ j, j < cs.length → ∀ x, Ts j x → T x) (hd : ∀ j, j < cs.length → ¬ Ts j b)
      (ha : ∀ i j, i < cs.length → j < cs.length → i ≠ j → ∀ x, Ts i x → ¬ Ts j x) : OW X w (.sl .own z n cap cs) (.slice (some ⟨b, o, none⟩) n c) T
  | nil (z : Nat) (cap : Option Nat) (A : Option Addr) (T : Nat → Prop) (hc : ∀ q, cap = some q → 0 = q) : OW X w (.sl .own z 0 cap []) (.slice A 0 0) T

/-- a row of cells -/
def Cells (X : Cx) (w : World) (b o : Nat) (cs : List AV) (T : Nat → Prop) : Prop :=
  ∃ (arr : Array Value) (vs : Nat → Value) (Ts : Nat → Nat → Prop), OBlk w b arr ∧ T b ∧ o + cs.length ≤ arr.size ∧
    (∀ j, j < cs.length → arr[o + j]? = some (vs j)) ∧ (∀ j (h : j < cs.length), OW X w cs[j] (vs j) (Ts j)) ∧
    (∀ j, j < cs.length → ∀ x, Ts j x → T x) ∧ (∀ j, j < cs.length → ¬ Ts j b) ∧
    (∀ i j, i < cs.length → j < cs.length → i ≠ j → ∀ x, Ts i x → ¬ Ts j x)

theorem OW.leaf {X : Cx} {w : World} {x : AV} {v : Value} {T : Nat → Prop} (h : OW X w x v T) : leafV v = true := by
  cases h <;> first | assumption | rfl | exact RD.leaf ‹_›

theorem OW.sup {X : Cx} {w : World} {x : AV} {v : Value} {T T' : Nat → Prop} (h : OW X w x v T) (hT : ∀ b, T b → T' b) : OW X w x v T' := by
  cases h with
  | und _ _ h => exact .und _ _ h
  | val _ _ h => exact .val _ _ h
  | fgn _ _ _ _ _ _ h => exact .fgn _ _ _ _ _ _ h
  | snap _ _ _ _ _ _ h => exact .snap _ _ _ _ _ _ h
  | own z n cap cs b o c arr vs Ts _ h1 h2 h3 h4 h5 h6 h7 h8 h9 h10 h11 =>
    exact .own z n cap cs b o c arr vs Ts _ h1 (hT _ h2) h3 h4 h5 h6 h7 h8 (fun j hj x hx => hT _ (h9 j hj x hx)) h10 h11
  | nil _ _ _ _ h => exact .nil _ _ _ _ h

theorem OW.agree {X : Cx} {w w' : World} {x : AV} {v : Value} {T : Nat → Prop} (h : OW X w x v T) : (∀ b, T b → w'.heap[b]? = w.heap[b]?) → OW X w' x v T := by
  induction h with
  | und _ _ h => exact fun _ => .und _ _ h
  | val _ _ h => exact fun _ => .val _ _ h
  | fgn _ _ _ _ _ _ h => exact fun _ => .fgn _ _ _ _ _ _ h
  | snap _ _ _ _ _ _ h => exact fun _ => .snap _ _ _ _ _ _ h
  | own z n cap cs b o c arr vs Ts T h1 h2 h3 h4 h5 h6 h7 h8 h9 h10 h11 ih =>
    exact fun hw => .own z n cap cs b o c arr vs Ts T (h1.agree (hw _ h2)) h2 h3 h4 h5 h6 h7 (fun j hj => ih j hj fun x hx => hw _ (h9 j hj x hx)) h9 h10 h11
  | nil _ _ _ _ h => exact fun _ => .nil _ _ _ _ h

theorem Cells.agree {X : Cx} {w w' : World} {b o : Nat} {cs : List AV} {T : Nat → Prop} (h : Cells X w b o cs T) (hw : ∀ b, T b → w'.heap[b]? = w.heap[b]?) : Cells X w' b o cs T := by
  obtain ⟨arr, vs, Ts, h1, h2, h3, h4, h5, h6, h7, h8⟩ := h
  exact ⟨arr, vs, Ts, h1.agree (hw _ h2), h2, h3, h4, fun j hj => (h5 j hj).agree fun x hx => hw _ (h6 j hj x hx), h6, h7, h8⟩

/-- what is owned, as memory that is read -/
theorem OW.rd {X : Cx} {w : World} {S : Nat → Prop} (hFo : ∀ b, X.Fo b → S b) (hFg : ∀ b, X.Fg b → S b) (hfr : ∀ b, X.Fo b → w.heap[b]? = X.w0.heap[b]?) (hfg : ∀ b, X.Fg b → w.heap[b]? = X.w0.heap[b]?)
    {x : AV} {v : Value} {T : Nat → Prop} (h : OW X w x v T) : (∀ b, T b → S b) → RD w S x v := by
  induction h with
  | und _ _ h => exact fun _ => .und _ h
  | val _ _ h => exact fun _ => .val _ h
  | fgn _ _ _ _ _ _ h => exact fun _ => h.mono hFg hfg
  | snap _ _ _ _ _ _ h => exact fun _ => h.mono hFo hfr
  | own z n cap cs b o c arr vs Ts T h1 h2 h3 h4 h5 h6 h7 h8 h9 h10 h11 ih =>
    exact fun hT => .sl _ z n cap cs b o c arr vs (hT _ h2) h1.rblk h3 h4 h5 h7 (fun j hj => ih j hj fun x hx => hT _ (h9 j hj x hx))
  | nil _ _ _ _ h => exact fun _ => .nil _ _ _ _ _ h

/-- where the cells at a path lie: 'none': a slice without room -/
def LocQ (w : World) : Option (Nat × Nat) → List AV → List Nat → Option (Nat × Nat) → List AV → Prop
  | m, cs, [], r, ds => r = m ∧ ds = cs
  | none, _, _ :: _, _, _ => False
  | some (b, o), cs, i :: p, r, ds => ∃ z n cap es A c, cs[i]? = some (.sl .own z n cap es) ∧ w.cell? ⟨b, o + i, none⟩ = some (.slice A n c) ∧
      ((c = 0 ∧ LocQ w none es p r ds) ∨ (0 < c ∧ ∃ b1 o1, A = some ⟨b1, o1, none⟩ ∧ LocQ w (some (b1, o1)) es p r ds))

theorem cell?_of {w : World} {b i : Nat} {arr : Array Value} (h : RBlk w b arr) : w.cell? ⟨b, i, none⟩ = arr[i]? := by
  obtain ⟨e, fr, h⟩ := h
  simp [World.cell?, h]

theorem sub_cons {cs ds : List AV} {i : Nat} {p : List Nat} (h : sub (i :: p) cs = some ds) : ∃ z n cap es, cs[i]? = some (.sl .own z n cap es) ∧ sub p es = some ds := by
  simp only [sub] at h
  split at h
  · exact ⟨_, _, _, _, ‹_›, h⟩
  · exact absurd h (by simp)

theorem modp_cons {cs : List AV} {i z n : Nat} {cap : Option Nat} {es : List AV} {p : List Nat} (h : cs[i]? = some (.sl .own z n cap es)) (f : List AV → List AV) : modp (i :: p) f cs = cs.set i (.sl .own z n cap (modp p f es)) := by
  simp only [modp, h]

theorem sub_len {cs ds : List AV} {p : List Nat} (h : sub p cs = some ds) (f : List AV → List AV) : (modp p f cs).length = if p = [] then (f ds).length else cs.length := by
  cases p with
  | nil => simp [sub] at h; subst h; simp [modp]
  | cons i p =>
    obtain ⟨z, n, cap, es, hi, _⟩ := sub_cons h
    rw [modp_cons hi]; simp

theorem modp_congr {ds : List AV} {f g : List AV → List AV} : ∀ {p : List Nat} {cs : List AV}, sub p cs = some ds → f ds = g ds → modp p f cs = modp p g cs := by
  intro p
  induction p with
  | nil => intro cs h e; simp [sub] at h; subst h; simpa [modp] using e
  | cons i p ih =>
    intro cs h e
    obtain ⟨z, n, cap, es, hi, hs⟩ := sub_cons h
    rw [modp_cons hi, modp_cons hi, ih hs e]

/-- THE FOCUS: what lies at a path, and what comes of the whole when that alone is changed -/
theorem focus {X : Cx} {w : World} : ∀ {p : List Nat} {b o : Nat} {cs ds : List AV} {T : Nat → Prop}, Cells X w b o cs T → sub p cs = some ds →
    (∃ m ds0, LocQ w (some (b, o)) cs p m ds0 ∧ m = none ∧ ds0 = ds ∧ ds = []) ∨
    ∃ b' o' T', LocQ w (some (b, o)) cs p (some (b', o')) ds ∧ Cells X w b' o' ds T' ∧ (∀ x, T' x → T x) ∧
      ∀ (w' : World) (ds' : List AV) (T'' : Nat → Prop), ds'.length = ds.length → Cells X w' b' o' ds' T'' →
        (∀ x arr arr', T x → RBlk w x arr → RBlk w' x arr' → arr'.size = arr.size) → (∀ x, T x → ¬ T' x → w'.heap[x]? = w.heap[x]?) → (∀ x, T'' x → T x → T' x) →
        ∃ Tn, Cells X w' b o (modp p (fun _ => ds') cs) Tn ∧ ∀ x, Tn x → T'' x ∨ (T x ∧ ¬ T' x) := by
  intro p
  induction p with
  | nil =>
    intro b o cs ds T h hs
    simp [sub] at hs; subst hs
    right
    refine ⟨b, o, T, ⟨rfl, rfl⟩, h, fun _ h => h, ?_⟩
    intro w' ds' T'' hl hc _ _ _
    exact ⟨T'', hc, fun x hx => .inl hx⟩
  | cons i p ih =>
    intro b o cs ds T h hs
    obtain ⟨z, n, cap, es, hi, hs⟩ := sub_cons hs
    obtain ⟨arr, vs, Ts, h1, h2, h3, h4, h5, h6, h7, h8⟩ := h
    obtain ⟨hil, hie⟩ := List.getElem?_eq_some_iff.mp hi
    have hcell : w.cell? ⟨b, o + i, none⟩ = some (vs i) := by rw [cell?_of h1.rblk]; exact h4 i hil
    have hO := h5 i hil
    rw [hie] at hO
    generalize hv : vs i = v at hO hcell
    generalize hTi : Ts i = Ti at hO
    cases hO with
    | nil _ _ A _ hc =>
      left
      cases p with
      | nil =>
        simp [sub] at hs; subst hs
        exact ⟨none, [], ⟨z, 0, cap, [], A, 0, hi, hcell, .inl ⟨rfl, rfl, rfl⟩⟩, rfl, rfl, rfl⟩
      | cons j p => obtain ⟨_, _, _, _, hj, _⟩ := sub_cons hs; simp at hj
    | own _ _ _ _ b1 o1 c arr1 vs1 Ts1 _ g1 g2 g3 g4 g5 g6 g7 g8 g9 g10 g11 =>
      by_cases hc0 : c = 0
      · left
        subst hc0
        have hn0 : n = 0 := by omega
        subst hn0
        have hes : es = [] := List.eq_nil_of_length_eq_zero (by simpa using g5)
        subst hes
        cases p with
        | nil =>
          simp [sub] at hs; subst hs
          exact ⟨none, [], ⟨z, 0, cap, [], _, 0, hi, hcell, .inl ⟨rfl, rfl, rfl⟩⟩, rfl, rfl, rfl⟩
        | cons j p => obtain ⟨_, _, _, _, hj, _⟩ := sub_cons hs; simp at hj
      · have hC : Cells X w b1 o1 es Ti := ⟨arr1, vs1, Ts1, g1, g2, by rw [g5]; have := Nat.mul_le_mul_right z g3; omega, g7, g8, g9, g10, g11⟩
        rcases ih hC hs with ⟨m, ds0, q1, q2, q3, q4⟩ | ⟨b', o', T', q1, q2, q3, q4⟩
        · exact .inl ⟨m, ds0, ⟨z, n, cap, es, _, c, hi, hcell, .inr ⟨by omega, b1, o1, rfl, q1⟩⟩, q2, q3, q4⟩
        · right
          have hTiT : ∀ x, Ti x → T x := fun x hx => h6 i hil x (by rw [hTi]; exact hx)
          refine ⟨b', o', T', ⟨z, n, cap, es, _, c, hi, hcell, .inr ⟨by omega, b1, o1, rfl, q1⟩⟩, q2, fun x hx => hTiT x (q3 x hx), ?_⟩
          intro w' ds' T'' hl hc' hsz hag hnew
          obtain ⟨Tn1, r1, r2⟩ := q4 w' ds' T'' hl hc' (fun x a a' hx => hsz x a a' (hTiT x hx)) (fun x hx hnx => hag x (hTiT x hx) hnx) (fun x hx ht => hnew x hx (hTiT x ht))
          have hbT' : ¬ T' b := fun hx => h7 i hil (by rw [hTi]; exact q3 b hx)
          have hb' : OBlk w' b arr := h1.agree (hag b h2 hbT')
          refine ⟨fun x => T'' x ∨ (T x ∧ ¬ T' x), ?_, fun x hx => hx⟩
          rw [modp_cons hi]
          obtain ⟨arr2, vs2, Ts2, s1, s2, s3, s4, s5, s6, s7, s8⟩ := r1
          have hlen : (modp p (fun _ => ds') es).length = es.length := by
            rw [sub_len hs]
            split
            · rename_i hp; subst hp; simp [sub] at hs; subst hs; exact hl
            · rfl
          have hsize : arr2.size = arr1.size := hsz b1 arr1 arr2 (hTiT _ g2) g1.rblk s1.rblk
          refine ⟨arr, vs, fun j => if j = i then Tn1 else Ts j, hb', .inr ⟨h2, hbT'⟩, by simpa using h3, fun j hj => h4 j (by simpa using hj), ?_, ?_, ?_, ?_⟩
          · intro j hj
            by_cases hji : j = i
            · subst hji
              simp only [List.getElem_set_self, if_true]
              rw [hv]
              exact .own z n cap _ b1 o1 c arr2 vs2 Ts2 Tn1 s1 s2 g3 g4 (by rw [hlen]; exact g5) (by rw [hsize]; exact g6) s4 s5 s6 s7 s8
            · rw [List.getElem_set_ne (by omega)]
              simp only [hji, if_false]
              refine (h5 j (by simpa using hj)).agree fun x hx => hag x (h6 j (by simpa using hj) x hx) fun hx' => ?_
              exact h8 j i (by simpa using hj) hil hji x hx (by rw [hTi]; exact q3 x hx')
          · intro j hj x hx
            by_cases hji : j = i
            · simp only [hji, if_true] at hx
              rcases r2 x hx with hx | ⟨hx, hx'⟩
              · exact .inl hx
              · exact .inr ⟨hTiT x hx, hx'⟩
            · simp only [hji, if_false] at hx
              exact .inr ⟨h6 j (by simpa using hj) x hx, fun hx' => h8 j i (by simpa using hj) hil hji x hx (by rw [hTi]; exact q3 x hx')⟩
          · intro j hj hx
            by_cases hji : j = i
            · simp only [hji, if_true] at hx
              rcases r2 b hx with hx | ⟨hx, hx'⟩
              · exact hbT' (hnew b hx h2)
              · exact h7 i hil (by rw [hTi]; exact hx)
            · simp only [hji, if_false] at hx
              exact h7 j (by simpa using hj) hx
          · intro j j' hj hj' hne x hx hx'
            simp only [List.length_set] at hj hj'
            have key : ∀ j, j < cs.length → j ≠ i → Ts j x → Tn1 x → False := by
              intro j hj hji ht hn
              rcases r2 x hn with hn | ⟨hn, _⟩
              · exact h8 j i hj hil hji x ht (by rw [hTi]; exact q3 x (hnew x hn (h6 j hj x ht)))
              · exact h8 j i hj hil hji x ht (by rw [hTi]; exact hn)
            by_cases hji : j = i
            · by_cases hj'i : j' = i
              · omega
              · simp only [hji, if_true] at hx
                simp only [hj'i, if_false] at hx'
                exact key j' hj' hj'i hx' hx
            · simp only [hji, if_false] at hx
              by_cases hj'i : j' = i
              · simp only [hj'i, if_true] at hx'
                exact key j hj hji hx hx'
              · simp only [hj'i, if_false] at hx'
                exact h8 j j' hj hj' hne x hx hx'

end Go.Proofs.Ytlmifbpihlcabaa.VH
