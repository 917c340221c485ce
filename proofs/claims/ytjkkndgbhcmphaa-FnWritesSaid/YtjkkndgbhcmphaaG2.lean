/- Part of a proof about the given program: a verified evaluator, and what it tells of the functions (VhLaw). Conditions: none beyond the hypotheses that each theorem states. -/
import Derived.Test.YtjkkndgbhcmphaaG1
import Derived.SizedLaws
import Derived.Carry
import Derived.ChangeShapes
import Derived.OpenShut
import Derived.ChangeOld
import Derived.ProofKit
import Derived.RowKit
section
namespace Go.Proofs.Ytjkkndgbhcmphaa.VH

/- From data to the evaluator's values, and from the evaluator's answer to the law's row. -/

inductive Sh where
  | int (k : IntKind) | bool | str | sl (e : Sh) | st (fs : Sh) | unit | pair (a b : Sh)

def Sh.size : Sh → Nat
  | .int _ | .bool | .str | .sl _ => 1
  | .st s => s.size
  | .unit => 0
  | .pair a b => a.size + b.size

def Fits : Sh → List AV → Prop
  | .int k, cs => ∃ n, cs = [.val (.int k n)] ∧ (Lit.int k n).wf = true
  | .bool, cs => ∃ b, cs = [.val (.bool b)]
  | .str, cs => ∃ s : ByteArray, cs = [.val (.string s)] ∧ s.size ≤ maxLen
  | .sl e, cs => ∃ rows : List (List AV), (∀ r, r ∈ rows → Fits e r) ∧ rows.length ≤ maxLen ∧ cs = [.sl .fgn e.size rows.length none rows.flatten]
  | .st s, cs => Fits s cs
  | .unit, cs => cs = []
  | .pair a b, cs => ∃ xs ys, cs = xs ++ ys ∧ Fits a xs ∧ Fits b ys

theorem Fits.len : ∀ {s : Sh} {cs : List AV}, Fits s cs → cs.length = s.size
  | .int _, _, ⟨_, h, _⟩ => by rw [h]; rfl
  | .bool, _, ⟨_, h⟩ => by rw [h]; rfl
  | .str, _, ⟨_, h, _⟩ => by rw [h]; rfl
  | .sl _, _, ⟨_, _, _, h⟩ => by rw [h]; rfl
  | .st s, _, h => Fits.len (s := s) h
  | .unit, _, h => by rw [show _ = [] from h]; rfl
  | .pair a b, _, ⟨_, _, h, h1, h2⟩ => by rw [h, List.length_append, Fits.len h1, Fits.len h2]; rfl

mutual
def shT (P : Program) : Sh → TypeId → Bool
  | .int k, t => match P.underlying t with | some (.int k') => k' == k | _ => false
  | .bool, t => match P.underlying t with | some .bool => true | _ => false
  | .str, t => match P.underlying t with | some .string => true | _ => false
  | .sl e, t => match P.underlying t with | some (.slice u) => shT P e u && (P.cellsOf u == e.size && decide (0 < e.size)) | _ => false
  | .st s, t => match P.underlying t with | some (.struct fs) => shF P s 0 fs.toList && P.cellsOf t == s.size | _ => false
  | .unit, _ => false
  | .pair .., _ => false
def shF (P : Program) : Sh → Nat → List Field → Bool
  | .pair a b, off, f :: fs => f.offset == off && (shT P a f.type && (P.cellsOf f.type == a.size && shF P b (off + a.size) fs))
  | .unit, _, [] => true
  | _, _, _ => false
end

theorem flat_get {α : Type} {z : Nat} : ∀ (rows : List (List α)), (∀ r, r ∈ rows → r.length = z) → rows.flatten.length = rows.length * z ∧ ∀ j, j < rows.length * z → rows.flatten[j]? = (rows[j / z]?).bind fun r => r[j % z]?
  | [], _ => ⟨by simp, fun j h => by simp at h⟩
  | r :: rs, h => by
    obtain ⟨h1, h2⟩ := flat_get rs fun r hr => h r (by simp [hr])
    have hr := h r (by simp)
    refine ⟨by simp [h1, hr, Nat.add_mul]; omega, fun j hj => ?_⟩
    simp only [List.flatten_cons, List.length_cons, Nat.add_mul] at hj ⊢
    by_cases c : j < z
    · rw [List.getElem?_append_left (by omega)]
      have : j / z = 0 := Nat.div_eq_of_lt c
      simp [this, Nat.mod_eq_of_lt c]
    · rw [List.getElem?_append_right (by omega), hr, h2 _ (by omega)]
      have hz : 0 < z := by
        rcases Nat.eq_zero_or_pos z with e | e
        · subst e; omega
        · exact e
      have e1 : j / z = (j - z) / z + 1 := by
        have := Nat.add_div_right (j - z) hz
        rw [Nat.sub_add_cancel (by omega)] at this
        exact this
      have e2 : j % z = (j - z) % z := by
        have := Nat.add_mod_right (j - z) z
        rw [Nat.sub_add_cancel (by omega)] at this
        exact this
      rw [e1, e2, List.getElem?_cons_succ]

section
variable {H : Type} {enc : TypeId × Value → H} {P : Program} {w : World} {spare : Nat → Bool} {held : Bool}

theorem addr_add_add (a : Addr) (i j : Nat) : (a.add i).add j = a.add (i + j) := by
  by_cases hi : i = 0 <;> by_cases hj : j = 0 <;> simp [Addr.add, hi, hj, Nat.add_assoc]
theorem addr_add_zero (a : Addr) : a.add 0 = a := by
  simp [Addr.add]

theorem rd_nokeys {w : World} {S : Nat → Prop} {x : AV} {v : Value} (h : RD w S x v) : keysAV x = [] := by cases h <;> rfl

abbrev All (w : World) : Nat → Prop := fun b => b < w.heap.size

theorem cell?_blk {a : Addr} {v : Value} (h : w.cell? a = some v) : ∃ arr, a = ⟨a.block, a.off, none⟩ ∧ RBlk w a.block arr ∧ arr[a.off]? = some v := by
  have hs := World.cell?_spot h
  obtain ⟨b, o, s⟩ := a
  simp only at hs
  subst hs
  simp only [World.cell?] at h
  split at h
  · rename_i arr e fr hb
    exact ⟨arr, rfl, ⟨e, fr, hb⟩, by simpa using h⟩
  all_goals simp at h

mutual
theorem open_sh : ∀ (s : Sh) (t : TypeId) (fuel : Nat) (cs : List Value) (x : DataW H × List MemPlace), shT P s t = true → DataW.trod enc P w 0 spare held fuel t cs = some x →
    ∃ avs, Fits s avs ∧ avs.length = cs.length ∧ ∀ i (h : i < avs.length) (h' : i < cs.length), RD w (All w) avs[i] cs[i]
  | .int k, t, fuel, cs, x, hs, h => by
    simp only [shT] at hs
    split at hs
    · rename_i k' hu
      have := eq_of_beq hs; subst this
      obtain ⟨n, rfl, _, hw⟩ := DataW.trod_int hu h
      exact ⟨[.val (.int k' n)], ⟨n, rfl, hw⟩, rfl, fun i h h' => by
        have : i = 0 := by simpa using h
        subst this; exact .val _ rfl⟩
    · simp at hs
  | .bool, t, fuel, cs, x, hs, h => by
    simp only [shT] at hs
    split at hs
    · rename_i hu
      obtain ⟨b, rfl, _⟩ := DataW.trod_bool hu h
      exact ⟨[.val (.bool b)], ⟨b, rfl⟩, rfl, fun i h h' => by
        have : i = 0 := by simpa using h
        subst this; exact .val _ rfl⟩
    · simp at hs
  | .str, t, fuel, cs, x, hs, h => by
    simp only [shT] at hs
    split at hs
    · rename_i hu
      obtain ⟨b, rfl, _, hl⟩ := DataW.trod_string hu h
      exact ⟨[.val (.string b)], ⟨b, rfl, hl⟩, rfl, fun i h h' => by
        have : i = 0 := by simpa using h
        subst this; exact .val _ rfl⟩
    · simp at hs
  | .sl e, t, fuel, cs, x, hs, h => by
    simp only [shT] at hs
    split at hs
    · rename_i u hu
      simp only [Bool.and_eq_true, beq_iff_eq, decide_eq_true_eq] at hs
      obtain ⟨hs, hz, hpos⟩ := hs
      rcases DataW.trod_slice hu h with ⟨rfl, _⟩ | ⟨a, len, cap, elems, rest, n, _, rfl, _, _, hl, hm, hlen, hel, _, _⟩
      · exact ⟨[.sl .fgn e.size 0 none []], ⟨[], by simp, Nat.zero_le _, rfl⟩, rfl, fun i h h' => by
          have : i = 0 := by simpa using h
          subst this; exact .nil _ _ _ _ _ (by simp)⟩
      · have each : ∀ i, i < len → ∃ r : List AV, Fits e r ∧ r.length = e.size ∧ ∀ j (hj : j < r.length), ∃ v, w.cell? (a.add (i * e.size + j)) = some v ∧ RD w (All w) r[j] v := by
          intro i hi
          have h1 := hel i hi
          rw [List.getElem?_eq_getElem (by omega), Option.bind_eq_some_iff] at h1
          obtain ⟨cs', hc1, hc2⟩ := h1
          obtain ⟨_, hcl, hcc⟩ := World.cells?_some hc1
          obtain ⟨r, r1, r2, r3⟩ := open_sh e u n cs' _ hs hc2
          refine ⟨r, r1, r1.len, fun j hj => ⟨cs'[j], ?_, r3 j hj (by omega)⟩⟩
          have := hcc j (by omega)
          rw [List.getElem?_eq_getElem (by omega)] at this
          rw [← this, hz, addr_add_add]
        let f : Nat → List AV := fun i => if h : i < len then Classical.choose (each i h) else []
        have hf : ∀ i, i < len → Fits e (f i) ∧ (f i).length = e.size ∧ ∀ j (hj : j < (f i).length), ∃ v, w.cell? (a.add (i * e.size + j)) = some v ∧ RD w (All w) (f i)[j] v := by
          intro i hi
          have := Classical.choose_spec (each i hi)
          simp only [f, hi, dif_pos]
          exact this
        let rows := (List.range len).map f
        have hrl : rows.length = len := by simp [rows]
        have hrows : ∀ r, r ∈ rows → r.length = e.size := by
          intro r hr
          obtain ⟨i, hi, rfl⟩ := List.mem_map.mp hr
          exact (hf i (by simpa using hi)).2.1
        obtain ⟨g1, g2⟩ := flat_get rows hrows
        refine ⟨[.sl .fgn e.size rows.length none rows.flatten], ⟨rows, fun r hr => ?_, by omega, rfl⟩, rfl, fun i h h' => ?_⟩
        · obtain ⟨i, hi, rfl⟩ := List.mem_map.mp hr
          exact (hf i (by simpa using hi)).1
        · have : i = 0 := by simpa using h
          subst this
          show RD w (All w) (.sl .fgn e.size rows.length none rows.flatten) (.slice (some a) len cap)
          have hcell : ∀ j (hj : j < rows.flatten.length), ∃ v, w.cell? (a.add j) = some v ∧ RD w (All w) rows.flatten[j] v := by
            intro j hj
            have hj' : j < len * e.size := by rw [g1, hrl] at hj; exact hj
            have hq : j / e.size < len := (Nat.div_lt_iff_lt_mul hpos).mpr hj'
            have h2 := g2 j (by rw [hrl]; exact hj')
            have h3 : rows[j / e.size]? = some (f (j / e.size)) := by simp [rows, hq]
            rw [h3, Option.bind_some] at h2
            obtain ⟨f1, f2, f3⟩ := hf _ hq
            have hm' : j % e.size < (f (j / e.size)).length := by rw [f2]; exact Nat.mod_lt _ hpos
            obtain ⟨v, v1, v2⟩ := f3 _ hm'
            rw [List.getElem?_eq_getElem hj, List.getElem?_eq_getElem hm'] at h2
            refine ⟨v, ?_, by rw [Option.some.inj h2]; exact v2⟩
            rw [← v1]
            congr 2
            have := Nat.div_add_mod j e.size
            rw [Nat.mul_comm] at this; omega
          by_cases h0 : len = 0
          · have e1 : rows = [] := List.eq_nil_of_length_eq_zero (by omega)
            rw [e1, h0]
            exact .nil _ _ _ _ _ (by simp)
          · have hz0 : 0 < rows.flatten.length := by rw [g1, hrl]; exact Nat.mul_pos (by omega) hpos
            obtain ⟨v0, c0, _⟩ := hcell 0 hz0
            rw [addr_add_zero] at c0
            obtain ⟨arr, ha, hb, _⟩ := cell?_blk c0
            rw [ha, hrl]
            have hv : ∀ j, j < rows.flatten.length → arr[a.off + j]? = w.cell? (a.add j) := by
              intro j _
              rw [ha, WideShapes.add_plain, cell?_of hb]
            refine .sl .fgn e.size len none rows.flatten a.block a.off cap arr (fun j => (w.cell? (a.add j)).getD undef) hb.lt hb hl (by simp) (by rw [g1, hrl]) (fun j hj => ?_) (fun j hj => ?_)
            · obtain ⟨v, hv1, _⟩ := hcell j hj
              rw [hv j hj, hv1]; rfl
            · obtain ⟨v, hv1, hv2⟩ := hcell j hj
              simp only [hv1, Option.getD_some]; exact hv2
    · simp at hs
  | .st s, t, fuel, cs, x, hs, h => by
    simp only [shT] at hs
    split at hs
    · rename_i fs hu
      simp only [Bool.and_eq_true, beq_iff_eq] at hs
      obtain ⟨xs, n, _, _, hl, hxl, hfs⟩ := DataW.trod_struct hu h
      obtain ⟨avs, a1, a2, a3⟩ := open_shF s 0 fs.toList cs hs.1 (fun i f hf => by
        have hf' : fs[i]? = some f := by rw [← Array.getElem?_toList]; exact hf
        have := hfs i f hf'
        have hi : i < xs.length := by
          have := (Array.getElem?_eq_some_iff.mp hf').1
          omega
        rw [List.getElem?_eq_getElem hi] at this
        exact ⟨n, _, this⟩)
      refine ⟨avs, a1, by rw [a2, hl, hs.2], fun i h h' => ?_⟩
      obtain ⟨v, v1, v2⟩ := a3 i h
      rw [Nat.zero_add, List.getElem?_eq_getElem h'] at v1
      rw [Option.some.inj v1]; exact v2
    · simp at hs
  | .unit, _, _, _, _, hs, _ => by simp [shT] at hs
  | .pair _ _, _, _, _, _, hs, _ => by simp [shT] at hs
theorem open_shF : ∀ (s : Sh) (off : Nat) (fs : List Field) (cs : List Value), shF P s off fs = true → (∀ (i : Nat) f, fs[i]? = some f → ∃ n x, DataW.trod enc P w 0 spare held n f.type ((cs.drop f.offset).take (P.cellsOf f.type)) = some x) →
    ∃ avs, Fits s avs ∧ avs.length = s.size ∧ ∀ i (h : i < avs.length), ∃ v, cs[off + i]? = some v ∧ RD w (All w) avs[i] v
  | .pair a b, off, f :: fs, cs, hs, h => by
    simp only [shF, Bool.and_eq_true, beq_iff_eq] at hs
    obtain ⟨h1, h2, h3, h4⟩ := hs
    obtain ⟨n, x, hx⟩ := h 0 f rfl
    obtain ⟨xs, x1, x2, x3⟩ := open_sh a f.type n _ x h2 hx
    obtain ⟨ys, y1, y2, y3⟩ := open_shF b (off + a.size) fs cs h4 (fun i g hg => h (i + 1) g (by simpa using hg))
    have hxl := x1.len
    refine ⟨xs ++ ys, ⟨xs, ys, rfl, x1, y1⟩, by rw [List.length_append, hxl, y2]; rfl, fun i hi => ?_⟩
    by_cases c : i < xs.length
    · rw [List.getElem_append_left c]
      have hc : i < ((cs.drop f.offset).take (P.cellsOf f.type)).length := by omega
      refine ⟨_, ?_, x3 i c hc⟩
      have : ((cs.drop f.offset).take (P.cellsOf f.type))[i]? = cs[off + i]? := by
        rw [List.getElem?_take, if_pos (by omega), List.getElem?_drop, h1]
      rw [← this, List.getElem?_eq_getElem hc]
    · rw [List.getElem_append_right (by omega)]
      rw [List.length_append] at hi
      obtain ⟨v, v1, v2⟩ := y3 (i - xs.length) (by omega)
      refine ⟨v, ?_, v2⟩
      rw [← v1]; congr 1; omega
  | .unit, _, [], cs, _, _ => ⟨[], rfl, rfl, fun i h => by simp at h⟩
  | .unit, _, _ :: _, _, hs, _ => by simp [shF] at hs
  | .pair _ _, _, [], _, hs, _ => by simp [shF] at hs
  | .int _, _, _, _, hs, _ => by simp [shF] at hs
  | .bool, _, _, _, hs, _ => by simp [shF] at hs
  | .str, _, _, _, hs, _ => by simp [shF] at hs
  | .sl _, _, _, _, hs, _ => by simp [shF] at hs
  | .st _, _, _, _, hs, _ => by simp [shF] at hs
end

def FitsA : Sh → AV → Prop
  | .st s, x => ∃ cs, x = .agg cs ∧ Fits s cs
  | s, x => Fits s [x]

def ctx (w : World) : Cx := ⟨w, All w, All w⟩

theorem rd_rv' {μ : Nat → Option (Nat × Nat)} {Hp : Heap} {x : AV} {v : Value} (h : RD w (All w) x v) (hx : ∀ z n cap cs tg, x = .sl tg z n cap cs → tg = .fgn) : RV (ctx w) μ Hp w x v := by
  have := rd_rv (X := ctx w) (μ := μ) (H := Hp) (w := w) (tg := .fgn) (by simp) (x := x) (v := v) h
  cases x with
  | sl tg z n cap cs => have := hx z n cap cs tg rfl; subst this; assumption
  | _ => exact this

theorem fits_tag : ∀ {s : Sh} {cs : List AV}, Fits s cs → ∀ x, x ∈ cs → (∀ z n cap es tg, x = .sl tg z n cap es → tg = .fgn)
  | .int _, _, ⟨_, h, _⟩, x, hx, z, n, cap, es, tg, e => by rw [h] at hx; simp at hx; rw [e] at hx; simp at hx
  | .bool, _, ⟨_, h⟩, x, hx, z, n, cap, es, tg, e => by rw [h] at hx; simp at hx; rw [e] at hx; simp at hx
  | .str, _, ⟨_, h, _⟩, x, hx, z, n, cap, es, tg, e => by rw [h] at hx; simp at hx; rw [e] at hx; simp at hx
  | .sl _, _, ⟨_, _, _, h⟩, x, hx, z, n, cap, es, tg, e => by rw [h] at hx; simp at hx; rw [e] at hx; simp at hx; exact hx.1
  | .st s, _, h, x, hx, z, n, cap, es, tg, e => fits_tag (s := s) h x hx z n cap es tg e
  | .unit, _, h, x, hx, z, n, cap, es, tg, e => by rw [show _ = [] from h] at hx; simp at hx
  | .pair a b, _, ⟨xs, ys, h, h1, h2⟩, x, hx, z, n, cap, es, tg, e => by
    rw [h, List.mem_append] at hx
    exact hx.elim (fun hx => fits_tag h1 x hx z n cap es tg e) (fun hx => fits_tag h2 x hx z n cap es tg e)

theorem open_arg {s : Sh} {t : TypeId} {v : Value} {d : DataW H} {ps : List MemPlace} {r : Reach} {b0 : Nat} (hs : shT P s t = true) (hv : Value.okWide P w r b0 t v) (h : DataW.Trod enc P w 0 spare held t v d ps) {μ : Nat → Option (Nat × Nat)} {Hp : Heap} :
    ∃ x, FitsA s x ∧ RV (ctx w) μ Hp w x v ∧ keysAV x = [] := by
  obtain ⟨fuel, hf⟩ := h
  obtain ⟨avs, a1, a2, a3⟩ := open_sh s t fuel _ _ hs hf
  have htag := fits_tag a1
  have hone : ∀ (hu : (v.cells = #[v])) , (s.size = 1) → (∀ u, s ≠ .st u) → ∃ x, FitsA s x ∧ RV (ctx w) μ Hp w x v ∧ keysAV x = [] := by
    intro hc hz hst
    have hl := a1.len
    obtain ⟨x, rfl⟩ : ∃ x, avs = [x] := by
      match avs, hl with
      | [x], _ => exact ⟨x, rfl⟩
      | [], h => simp [hz] at h
      | _ :: _ :: _, h => simp [hz] at h
    have h3 := a3 0 (by simp) (by rw [hc]; simp)
    simp only [hc, List.getElem_cons_zero] at h3
    refine ⟨x, ?_, rd_rv' h3 (htag x (by simp)), rd_nokeys h3⟩
    cases s <;> first | exact a1 | exact absurd rfl (hst _)
  cases s with
  | int k =>
    simp only [shT] at hs
    split at hs
    · rename_i k' hu
      obtain ⟨n, rfl⟩ := WideShapes.okWide_int hu hv
      exact hone rfl rfl (by simp)
    · simp at hs
  | bool =>
    simp only [shT] at hs
    split at hs
    · rename_i hu
      obtain ⟨n, rfl⟩ := WideShapes.okWide_bool hu hv
      exact hone rfl rfl (by simp)
    · simp at hs
  | str =>
    simp only [shT] at hs
    split at hs
    · rename_i hu
      obtain ⟨n, rfl⟩ := WideShapes.okWide_string hu hv
      exact hone rfl rfl (by simp)
    · simp at hs
  | sl e =>
    simp only [shT] at hs
    split at hs
    · rename_i u hu
      obtain ⟨a, l, c, rfl⟩ := WideShapes.okWide_slice hu hv
      exact hone rfl rfl (by simp)
    · simp at hs
  | st s =>
    simp only [shT] at hs
    split at hs
    · rename_i fs hu
      obtain ⟨cs, rfl, _⟩ := WideShapes.okWide_struct hu hv
      simp only [Value.cells, Array.length_toList, Array.getElem_toList] at a2 a3
      refine ⟨.agg avs, ⟨avs, rfl, a1⟩, .agg _ _ a2.symm (fun i hi => (a3 i (by omega) hi).leaf) (fun i hi hi' => rd_rv' (a3 i hi hi') (htag _ (List.getElem_mem _))), ?_⟩
      simp only [keysAV]
      refine List.eq_nil_iff_forall_not_mem.mpr fun k hk => ?_
      obtain ⟨i, hi, hk⟩ := keysL_mem hk
      have := a3 i hi (by omega)
      rw [rd_nokeys this] at hk
      simp at hk
    · simp at hs
  | unit => simp [shT] at hs
  | pair a b => simp [shT] at hs

def FitsAll : List Sh → List AV → Prop
  | [], [] => True
  | s :: ss, x :: xs => FitsA s x ∧ FitsAll ss xs
  | _, _ => False

theorem open_args {r : Reach} {b0 : Nat} {μ : Nat → Option (Nat × Nat)} {Hp : Heap} : ∀ {shs : List Sh} {ts : List TypeId} {vs : List Value} {ds : List (DataW H)} {ps : List MemPlace}, shs.length = ts.length → (∀ i (h : i < shs.length) (h' : i < ts.length), shT P shs[i] ts[i] = true) →
    (∀ (i : Nat) (t : TypeId) (v : Value), ts[i]? = some t → vs[i]? = some v → Value.okWide P w r b0 t v) → DataW.TrodAll enc P w 0 spare held ts vs ds ps →
    ∃ xs, FitsAll shs xs ∧ vs.length = xs.length ∧ (∀ i (h : i < xs.length) (h' : i < vs.length), RV (ctx w) μ Hp w xs[i] vs[i]) ∧ keysL xs = []
  | [], [], vs, ds, ps, _, _, _, h => by
    obtain ⟨rfl, _, _⟩ := ChangeShapes.trodAll_nil h
    exact ⟨[], trivial, rfl, fun i h => by simp at h, rfl⟩
  | s :: shs, t :: ts, vs, ds, ps, hl, hs, hv, h => by
    obtain ⟨v, vs', d, ds', p, q, rfl, rfl, rfl, h1, h2⟩ := ChangeShapes.trodAll_cons h
    obtain ⟨x, x1, x2, x3⟩ := open_arg (μ := μ) (Hp := Hp) (hs 0 (by simp) (by simp)) (hv 0 t v rfl rfl) h1
    obtain ⟨xs, y1, y2, y3, y4⟩ := open_args (μ := μ) (Hp := Hp) (shs := shs) (by simpa using hl) (fun i h h' => hs (i + 1) (by simpa using h) (by simpa using h')) (fun i t v ht hv' => hv (i + 1) t v (by simpa using ht) (by simpa using hv')) h2
    refine ⟨x :: xs, ⟨x1, y1⟩, by simp [y2], fun i h h' => ?_, by simp [keysL, x3, y4]⟩
    cases i with
    | zero => exact x2
    | succ i => exact y3 i (by simpa using h) (by simpa using h')
  | [], _ :: _, _, _, _, hl, _, _, _ => by simp at hl
  | _ :: _, [], _, _, _, hl, _, _, _ => by simp at hl

theorem back_args {hl : laidOutB P = true} {W W' : World} (hb : RowKit.Below W.heap.size W W') : ∀ {ts : List TypeId} {vs : List Value} {ds : List (DataW H)} {ps : List MemPlace}, ts.all (fun t => P.readableRec t && decide (t < P.types.size)) = true → DataW.TrodAll enc P W 0 (fun _ => true) true ts vs ds ps →
    DataW.TrodAll enc P W' 0 (fun b => decide (b < W.heap.size)) true ts vs ds ps
  | [], vs, ds, ps, _, h => by
    obtain ⟨rfl, rfl, rfl⟩ := ChangeShapes.trodAll_nil h
    rfl
  | t :: ts, vs, ds, ps, ht, h => by
    obtain ⟨v, vs', d, ds', p, q, rfl, rfl, rfl, h1, h2⟩ := ChangeShapes.trodAll_cons h
    simp only [List.all_cons, Bool.and_eq_true, decide_eq_true_eq] at ht
    refine ⟨p, q, RowKit.Below.trod hl ht.1.1 ht.1.2 h1 hb (fun x hx => ?_), back_args (hl := hl) hb (by simpa using ht.2) h2, rfl⟩
    obtain ⟨m, hm⟩ := h1
    exact DataW.trod_lt m _ _ _ hm x hx

theorem trodAll_len {base : Nat} : ∀ {ts : List TypeId} {vs : List Value} {ds : List (DataW H)} {ps : List MemPlace}, DataW.TrodAll enc P w base spare held ts vs ds ps → ds.length = ts.length
  | [], vs, ds, ps, h => by obtain ⟨_, rfl, _⟩ := ChangeShapes.trodAll_nil h; rfl
  | t :: ts, vs, ds, ps, h => by
    obtain ⟨v, vs', d, ds', p, q, rfl, rfl, rfl, _, h2⟩ := ChangeShapes.trodAll_cons h
    simp [trodAll_len h2]

def shAll (P : Program) : List Sh → List TypeId → Bool
  | [], [] => true
  | s :: ss, t :: ts => shT P s t && shAll P ss ts
  | _, _ => false

theorem shAll_len : ∀ {ss : List Sh} {ts : List TypeId}, shAll P ss ts = true → ss.length = ts.length
  | [], [], _ => rfl
  | s :: ss, t :: ts, h => by
    simp only [shAll, Bool.and_eq_true] at h
    simp [shAll_len h.2]
  | [], _ :: _, h => by simp [shAll] at h
  | _ :: _, [], h => by simp [shAll] at h

theorem shAll_get : ∀ {ss : List Sh} {ts : List TypeId}, shAll P ss ts = true → ∀ (i : Nat) (h : i < ss.length) (h' : i < ts.length), shT P ss[i] ts[i] = true
  | s :: ss, t :: ts, h, 0, _, _ => by
    simp only [shAll, Bool.and_eq_true] at h
    exact h.1
  | s :: ss, t :: ts, h, i + 1, h1, h2 => by
    simp only [shAll, Bool.and_eq_true] at h
    exact shAll_get h.2 i (by simpa using h1) (by simpa using h2)
  | [], _, _, i, h, _ => by simp at h
  | _ :: _, [], h, _, _, _ => by simp [shAll] at h

theorem lifted {C : Checked} {n : FuncId} {fn : Func} {s : ChangeSpec} {shs : List Sh} {E : Env} {conds : List PathCond} {os : Os} {tb : TypeId}
    (own : ownKnob C.prog.godebug = none) (started : os.Started) (noInit : C.prog.inits.idxOf? n = none) (hfn : C.prog.funcs[n]? = some fn) (laid : laidOutB C.prog = true) (hres : fn.resultTypes = #[tb]) (hbool : C.prog.underlying tb = some .bool)
    (hvars : s.vars = []) (hspec : ∀ ds : List (DataW H), ds.length = shs.length → s.fn H ds = { results := [.lit (.bool true)], args := ds })
    (hsh : shAll C.prog shs fn.params.toList = true)
    (hread : fn.params.toList.all (fun t => C.prog.readableRec t && decide (t < C.prog.types.size)) = true)
    (hE : E.OK C.prog) (hB : E.Bodies C.prog) (hP : C.prog.follows .mixedOrders = true) (hH : OrcOK C.prog E.hand) (hbn : (E.body n).isSome = true)
    (law : ∀ xs, FitsAll shs xs → ∃ d, evFun E d n xs [] = some (.val (.bool true), []))
    (witness : ∃ (w : World) (tape : Tape) (i : Input), w.os = os ∧ (w.forCall tape i).Shaped C.prog ∧ i.vars = [] ∧ Input.okWide C.prog (w.forCall tape i) .any w.heap.size n i ∧
      s.pre6 enc C.prog fn conds false (w.forCall tape i).memory i.args ∧ ({} : Assume).holds C.prog (lone (Frame.enter C.prog n i.args .normal) [] (w.forCall tape i))) :
    ReturnsInHanded {} C os n .any (s.pre6 enc C.prog fn conds false) (s.post enc C.prog fn false true false false) := by
  refine returnsInHanded_of_change_sized own started noInit hfn witness ?_
  intro W base args ds gs before hval hW _ _ _
  have hW' := hW
  obtain ⟨p, q, hA, hV, rfl, hfz, hnd⟩ := hW
  rw [hvars] at hV
  obtain ⟨rfl, rfl⟩ := ChangeShapes.trodVars_none hV
  obtain ⟨xs, f1, f2, f3, f4⟩ := open_args (μ := fun _ => none) (Hp := hp (([] : List (List AV)).map some)) (shAll_len hsh) (shAll_get hsh) (fun i t v ht hv => hval i t v (by rw [← Array.getElem?_toList]; exact ht) (by rw [← Array.getElem?_toList]; exact hv)) hA
  obtain ⟨d, hd⟩ := law xs f1
  have hWF : (ctx W).WF := ⟨fun b h => h, fun b h => h⟩
  have hnone : ∀ k, hp (([] : List (List AV)).map some) k = none := fun k => by simp [hp]
  have hargs : Args (ctx W) (fun _ => none) (fun _ _ => False) [] W xs args := ⟨⟨rfl, rfl, rfl, Nat.le_refl _, fun _ _ => rfl, fun k cs h => by rw [hnone] at h; simp at h, fun k k' cs cs' _ h => by rw [hnone] at h; simp at h, fun k cs b h => by rw [hnone] at h; simp at h, fun _ h => h.elim⟩, by rw [← f2]; simp, fun i h h' => by
    have := f3 i h (by simpa using h')
    simpa using this, fun k hk => by rw [f4] at hk; simp at hk⟩
  have hinv := evFun_sound hE hB hP (fun C hC => exec_sound hE hC) hH d n xs [] _ _ hd (ctx W) _ _ W args hWF hargs
  have hcalls : Calls C.prog n args W (fun e w' => ∃ v, e = .returned v ∧ Ret (ctx W) (fun _ => none) [] W (.val (.bool true)) [] v w') := by
    rcases hinv with ⟨_, h⟩ | ⟨v, w', h, _⟩
    · exact h
    · exfalso
      cases hb : E.body n with
      | none => rw [hb] at hbn; simp at hbn
      | some crs =>
        obtain ⟨c, rs⟩ := crs
        obtain ⟨fn', hfn', hbody, _, _, hname⟩ := hB.body n c rs hb
        have hn : ¬ fn'.name = "runtime.NumGoroutine" := by simpa using hname
        simp [callFunc, hfn', hn, hbody] at h
  refine hcalls.mono fun e w' ⟨v, he, hret⟩ => ⟨v, he, ?_⟩
  obtain ⟨μ', F', ks, hR, hv, _⟩ := hret
  have hv' : v = .bool true := by cases hv; rfl
  subst hv'
  have bel : RowKit.Below W.heap.size W w' := ⟨hR.os, hR.tape, hR.output, hR.size, fun b hb => hR.frame b hb⟩
  have hs := hspec ds (by rw [trodAll_len hA, shAll_len hsh])
  refine ⟨ds, [], p ++ [], [], p, [], hW', ?_, ?_, ?_, bel.frame _, fun h => by cases h⟩
  · rw [List.append_nil, hs, hres]
    exact ChangeShapes.trodAll_mk1 (RowKit.shut_bool hbool _)
  · rw [List.append_nil, hs]
    exact back_args (hl := laid) bel hread hA
  · rw [List.append_nil, hs, hvars]; rfl

end
end Go.Proofs.Ytjkkndgbhcmphaa.VH
end

