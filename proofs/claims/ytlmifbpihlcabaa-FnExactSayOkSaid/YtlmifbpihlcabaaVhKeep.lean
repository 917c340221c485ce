/- Part of a proof about the given program: the verified evaluator and what it tells of the functions (VhKeep). Conditions: none beyond the hypotheses that each theorem states. -/
import Derived.Test.YtlmifbpihlcabaaVhRel2
import Derived.Laws.World
namespace Go.Proofs.Ytlmifbpihlcabaa.VH

structure Keep (U : Nat → Prop) (ks : List Nat) (μ : Nat → Option (Nat × Nat)) (H : Heap) (w : World) (μ' : Nat → Option (Nat × Nat)) (H' : Heap) (w' : World) : Prop where
  loc : ∀ k p cs' r ds, U k → (p = [] ∨ k ∉ ks) → H' k = some cs' → LocQ w' (μ' k) cs' p r ds →
    ∃ cs ds0, H k = some cs ∧ LocQ w (μ k) cs p r ds0 ∧ ds0.length = ds.length ∧ ∀ b o, r = some (b, o) → ∀ arr', RBlk w' b arr' → ∃ arr, RBlk w b arr ∧ arr.size = arr'.size

theorem Keep.refl (U : Nat → Prop) (μ : Nat → Option (Nat × Nat)) (H : Heap) (w : World) : Keep U [] μ H w μ H w :=
  ⟨fun _ _ cs' _ ds _ _ h hq => ⟨cs', ds, h, hq, rfl, fun _ _ _ arr' h => ⟨arr', h, rfl⟩⟩⟩

theorem Keep.trans {U : Nat → Prop} {ks ks' : List Nat} {μ μ1 μ2 : Nat → Option (Nat × Nat)} {H H1 H2 : Heap} {w w1 w2 : World} (h : Keep U ks μ H w μ1 H1 w1) (g : Keep U ks' μ1 H1 w1 μ2 H2 w2) : Keep U (ks' ++ ks) μ H w μ2 H2 w2 := by
  constructor
  intro k p cs' r ds hU hp hk hq
  obtain ⟨cs1, ds1, h1, h2, h3, h4⟩ := g.loc k p cs' r ds hU (hp.imp id fun h hh => h (List.mem_append_left _ hh)) hk hq
  obtain ⟨cs0, ds0, g1, g2, g3, g4⟩ := h.loc k p cs1 r ds1 hU (hp.imp id fun h hh => h (List.mem_append_right _ hh)) h1 h2
  refine ⟨cs0, ds0, g1, g2, g3.trans h3, fun b o hr arr' ha => ?_⟩
  obtain ⟨a1, b1, c1⟩ := h4 b o hr arr' ha
  obtain ⟨a0, b0, c0⟩ := g4 b o hr a1 b1
  exact ⟨a0, b0, c0.trans c1⟩

theorem Keep.mono {U U' : Nat → Prop} {ks ks' : List Nat} {μ μ' : Nat → Option (Nat × Nat)} {H H' : Heap} {w w' : World} (h : Keep U ks μ H w μ' H' w') (hU : ∀ k, U' k → U k) (hk : ∀ k, k ∈ ks → k ∈ ks') : Keep U' ks' μ H w μ' H' w' :=
  ⟨fun k p cs' r ds hu hp => h.loc k p cs' r ds (hU k hu) (hp.imp id fun h hh => h (hk k hh))⟩

theorem killL_eq (ks : List Nat) : ∀ xs, killL ks xs = xs.map (killAV ks)
  | [] => rfl
  | x :: xs => by simp [killL, killL_eq ks xs]

theorem mem_keysL {k : Nat} : ∀ {xs : List AV} {i : Nat} (h : i < xs.length), k ∈ keysAV xs[i] → k ∈ keysL xs
  | x :: xs, 0, _, hk => by simp only [keysL, List.mem_append]; exact .inl hk
  | x :: xs, i + 1, h, hk => by
    simp only [keysL, List.mem_append]
    exact .inr (mem_keysL (by simpa using h) hk)

theorem keysL_mem {k : Nat} : ∀ {xs : List AV}, k ∈ keysL xs → ∃ i, ∃ h : i < xs.length, k ∈ keysAV xs[i]
  | [], h => by simp [keysL] at h
  | x :: xs, h => by
    simp only [keysL, List.mem_append] at h
    rcases h with h | h
    · exact ⟨0, by simp, h⟩
    · obtain ⟨i, hi, hk⟩ := keysL_mem h
      exact ⟨i + 1, by simpa using hi, hk⟩

theorem RefOK.of {w w' : World} {r : Option (Nat × Nat)} {off z c : Nat} {cap : Option Nat} {A : Option Addr} {l l' : Nat} (h : RefOK w r off z c cap A l) (hl : l = l')
    (hs : ∀ b o, r = some (b, o) → ∀ arr', RBlk w' b arr' → ∃ arr, RBlk w b arr ∧ arr.size = arr'.size) : RefOK w' r off z c cap A l' := by
  subst hl
  cases r with
  | none => exact h
  | some x =>
    obtain ⟨b, o⟩ := x
    rcases h with h | ⟨h1, h2, h3⟩
    · exact .inl h
    · refine .inr ⟨h1, h2, fun arr' ha => ?_⟩
      obtain ⟨arr, hr, he⟩ := hs b o rfl arr' ha
      rw [← he]; exact h3 arr hr

theorem RV.keep {X : Cx} {U : Nat → Prop} {ks : List Nat} {μ μ' : Nat → Option (Nat × Nat)} {H H' : Heap} {w w' : World} (hK : Keep U ks μ H w μ' H' w') {x : AV} {v : Value}
    (h : RV X μ H w x v) : (∀ k, k ∈ keysAV x → U k) → RV X μ' H' w' (killAV ks x) v := by
  induction h with
  | und v => exact fun _ => by simp only [killAV]; exact .und v
  | val v => exact fun _ => by simp only [killAV]; exact .val v
  | sl tg z n cap cs v ht h => exact fun _ => by simp only [killAV]; exact .sl tg z n cap cs v ht h
  | ref k p z off n cap A c hn hc hA h =>
    intro hU
    simp only [killAV]
    cases hb : (!p.isEmpty && ks.contains k) with
    | true => exact .und _
    | false =>
      refine .ref k p z off n cap A c hn hc hA fun cs' r ds hk hq => ?_
      obtain ⟨cs, ds0, h1, h2, h3, h4⟩ := hK.loc k p cs' r ds (hU k (by simp [keysAV])) (by
        by_cases hp : p = []
        · exact .inl hp
        · right
          intro hm
          simp [hp, List.isEmpty_iff, hm] at hb) hk hq
      exact (h cs r ds0 h1 h2).of h3 h4
  | ptr k p off a h =>
    intro hU
    simp only [killAV]
    cases hb : (!p.isEmpty && ks.contains k) with
    | true => exact .und _
    | false =>
      refine .ptr k p off a fun cs' b o ds hk hq => ?_
      obtain ⟨cs, ds0, h1, h2, h3, h4⟩ := hK.loc k p cs' _ ds (hU k (by simp [keysAV])) (by
        by_cases hp : p = []
        · exact .inl hp
        · right
          intro hm
          simp [hp, List.isEmpty_iff, hm] at hb) hk hq
      exact h cs b o ds0 h1 h2
  | rp tg cs off b o arr vs ht hS hb hv hr => exact fun _ => by simp only [killAV]; exact .rp tg cs off b o arr vs ht hS hb hv hr
  | agg xs vs hl hf h ih =>
    intro hU
    simp only [killAV, killL_eq]
    refine .agg _ vs (by simpa using hl) hf fun i hi hi' => ?_
    rw [List.getElem_map]
    exact ih i (by simpa using hi) hi' fun k hk => hU k (by simp only [keysAV]; exact mem_keysL _ hk)
  | tup xs vs hl h ih =>
    intro hU
    simp only [killAV, killL_eq]
    refine .tup _ vs (by simpa using hl) fun i hi hi' => ?_
    rw [List.getElem_map]
    exact ih i (by simpa using hi) hi' fun k hk => hU k (by simp only [keysAV]; exact mem_keysL _ hk)
  | fn f xs vs hl h ih =>
    intro hU
    simp only [killAV, killL_eq]
    refine .fn f _ vs (by simpa using hl) fun i hi hi' => ?_
    rw [List.getElem_map]
    exact ih i (by simpa using hi) hi' fun k hk => hU k (by simp only [keysAV]; exact mem_keysL _ hk)

mutual
theorem killAV_nil : ∀ x, killAV [] x = x
  | .und | .val _ | .sl .. | .rp .. | .bx _ => by simp [killAV]
  | .ref .. | .ptr .. => by simp [killAV]
  | .agg xs => by simp [killAV, killL_nil xs]
  | .tup xs => by simp [killAV, killL_nil xs]
  | .fn f xs => by simp [killAV, killL_nil xs]
theorem killL_nil : ∀ xs, killL [] xs = xs
  | [] => rfl
  | x :: xs => by simp [killL, killAV_nil x, killL_nil xs]
end

/-- sizes stay, and what is not in 'S' stays -/
structure Chg (w w' : World) (S : Nat → Prop) : Prop where
  os : w'.os = w.os
  tape : w'.tape = w.tape
  output : w'.output = w.output
  size : w.heap.size ≤ w'.heap.size
  same : ∀ b, b < w.heap.size → ¬ S b → w'.heap[b]? = w.heap[b]?
  cells : ∀ b arr', b < w.heap.size → RBlk w' b arr' → ∃ arr, RBlk w b arr ∧ arr.size = arr'.size

theorem Chg.refl (w : World) (S : Nat → Prop) : Chg w w S := ⟨rfl, rfl, rfl, Nat.le_refl _, fun _ _ _ => rfl, fun _ arr _ h => ⟨arr, h, rfl⟩⟩

theorem Chg.trans {w w1 w2 : World} {S : Nat → Prop} (h : Chg w w1 S) (g : Chg w1 w2 S) : Chg w w2 S :=
  ⟨g.os.trans h.os, g.tape.trans h.tape, g.output.trans h.output, Nat.le_trans h.size g.size, fun b hb hs => (g.same b (Nat.lt_of_lt_of_le hb h.size) hs).trans (h.same b hb hs),
    fun b arr' hb hr => by
      obtain ⟨a1, h1, e1⟩ := g.cells b arr' (Nat.lt_of_lt_of_le hb h.size) hr
      obtain ⟨a0, h0, e0⟩ := h.cells b a1 hb h1
      exact ⟨a0, h0, e0.trans e1⟩⟩

theorem Chg.mono {w w' : World} {S S' : Nat → Prop} (h : Chg w w' S) (hS : ∀ b, S b → S' b) : Chg w w' S' :=
  ⟨h.os, h.tape, h.output, h.size, fun b hb hs => h.same b hb fun hh => hs (hS b hh), h.cells⟩

theorem Chg.alloc (w : World) (o : Obj) (S : Nat → Prop) : Chg w (w.alloc o) S := by
  have e : ∀ b, b < w.heap.size → (w.alloc o).heap[b]? = w.heap[b]? := fun b hb => by
    show (w.heap.push o)[b]? = _
    rw [Array.getElem?_push, if_neg (by omega)]
  exact ⟨rfl, rfl, rfl, by show w.heap.size ≤ (w.heap.push o).size; simp, fun b hb _ => e b hb, fun b arr' hb hr => ⟨arr', hr.back (e b hb), rfl⟩⟩

/-- a world in which one block is another one -/
def World.put (w : World) (b : Nat) (o : Obj) : World := { w with heap := w.heap.setIfInBounds b o }

theorem Chg.put {w : World} {b : Nat} {arr arr' : Array Value} {e : TypeId} {fr : Nat × Nat} (h : w.heap[b]? = some (.cells arr e fr)) (hs : arr'.size = arr.size) :
    Chg w (World.put w b (.cells arr' e fr)) (fun x => x = b) := by
  have hlt : b < w.heap.size := (Array.getElem?_eq_some_iff.mp h).1
  refine ⟨rfl, rfl, rfl, by simp [World.put], fun x hx hne => ?_, fun x a hx hr => ?_⟩
  · simp only [World.put]
    rw [Array.getElem?_setIfInBounds_ne (by omega)]
  · by_cases hxb : x = b
    · subst hxb
      obtain ⟨e', fr', hr⟩ := hr
      simp only [World.put, Array.getElem?_setIfInBounds_self_of_lt hlt] at hr
      injection hr with hr; injection hr with h1 h2 h3
      exact ⟨arr, ⟨e, fr, h⟩, by rw [← h1, hs]⟩
    · refine ⟨a, ?_, rfl⟩
      obtain ⟨e', fr', hr⟩ := hr
      refine ⟨e', fr', ?_⟩
      simp only [World.put] at hr
      rwa [Array.getElem?_setIfInBounds_ne (by omega)] at hr

theorem put_self {w : World} {b : Nat} {arr arr' : Array Value} {e : TypeId} {fr : Nat × Nat} (h : w.heap[b]? = some (.cells arr e fr)) : (World.put w b (.cells arr' e fr)).heap[b]? = some (.cells arr' e fr) := by
  have hlt : b < w.heap.size := (Array.getElem?_eq_some_iff.mp h).1
  simp only [World.put, Array.getElem?_setIfInBounds_self_of_lt hlt]

end Go.Proofs.Ytlmifbpihlcabaa.VH
