/- Part of a proof about the given program: the verified evaluator and what it tells of the functions (VhOps9). Conditions: none beyond the hypotheses that each theorem states. -/
import Derived.Test.YtlmifbpihlcabaaVhOps8
import Derived.Laws.IdiomStrings
namespace Go.Proofs.Ytlmifbpihlcabaa.VH

section
variable {R : Type} {X : Cx} {U : Nat → Prop} {fr : Nat} {μ : Nat → Option (Nat × Nat)} {F : Nat → Nat → Prop} {H : Heap} {w : World} {K : AV → Heap → Tr → Option R} {r : R} {t : Tr} {P : Program} {E : Env}

theorem Rel.same0 {G : Nat → Prop} {w' : World} (hR : Rel X μ F H w G) (hh : w'.heap = w.heap) (h1 : w'.os = w.os) (h2 : w'.tape = w.tape) (h3 : w'.output = w.output) :
    Rel X μ F H w' G ∧ ∀ U, Keep U [] μ H w μ H w' := by
  have hs : ∀ b : Nat, w'.heap[b]? = w.heap[b]? := fun b => by rw [hh]
  refine ⟨⟨h1.trans hR.os, h2.trans hR.tape, h3.trans hR.output, by rw [hh]; exact hR.size, fun b hb => (hs b).trans (hR.frame b hb), fun k cs hk => ?_, hR.sep, fun k cs b hk hb => ?_, fun b hb => ?_⟩, fun U => ⟨fun k p cs' r ds _ _ hk hq => ?_⟩⟩
  · have := hR.root k cs hk
    cases hm : μ k with
    | none => rw [hm] at this; exact this
    | some u => rw [hm] at this; exact Cells.agree this fun x _ => hs x
  · rw [hh]; exact hR.out k cs b hk hb
  · rw [hh]; exact hR.gout b hb
  · exact ⟨cs', ds, hk, LocQ.other hR hk (fun x _ => hs x) hq, rfl, fun b o _ arr' ha => ⟨arr', ha.back (hs b), rfl⟩⟩

theorem bytesOf_inv : ∀ {cs : List AV} {bs : List UInt8}, bytesOf cs = some bs → ∃ ns : List Int, cs = ns.map (fun n => AV.val (.int .u8 n)) ∧ bs = ns.map fun n => UInt8.ofNat n.toNat
  | [], bs, h => by simp only [bytesOf, Option.some.injEq] at h; subst h; exact ⟨[], rfl, rfl⟩
  | x :: cs, bs, h => by
    simp only [bytesOf] at h
    split at h
    · rename_i b hb
      split at h
      · rename_i r hr
        simp only [Option.some.injEq] at h
        subst h
        obtain ⟨ns, e1, e2⟩ := bytesOf_inv hr
        unfold byteOf at hb
        split at hb
        · rename_i n
          simp only [Option.some.injEq] at hb
          subst hb
          exact ⟨n :: ns, by simp [e1], by simp [e2]⟩
        · exact absurd hb (by simp)
      · exact absurd h (by simp)
    · exact absurd h (by simp)

theorem push_fold : ∀ (ns : List Int) (s : ByteArray), ns.foldl (fun r n => r.push (UInt8.ofNat n.toNat)) s = ⟨s.data ++ (ns.map fun n => UInt8.ofNat n.toNat).toArray⟩
  | [], s => by simp
  | n :: ns, s => by
    simp only [List.foldl_cons, push_fold ns, List.map_cons]
    congr 1
    simp [ByteArray.push]

theorem bytes_str {cs : List AV} {bs : List UInt8} (h : bytesOf cs = some bs) {b o c : Nat} (hc : ∀ j (hj : j < cs.length), ∃ v, w.cell? ⟨b, o + j, none⟩ = some v ∧ ∀ u, cs[j] = .val u → v = u) :
    (Conv.bytesToString (.slice (some ⟨b, o, none⟩) cs.length c)).run P w = .ok (.string ⟨bs.toArray⟩) w := by
  obtain ⟨ns, rfl, rfl⟩ := bytesOf_inv h
  have hload := loadCellsFrom_run P w b o ns.length 0 (ns.map (Value.int .u8)) #[] (by simp) (fun j hj => by
    simp only [List.length_map] at hj
    obtain ⟨v, hv, hu⟩ := hc j (by simpa using hj)
    have := hu (.int .u8 ns[j]) (by simp)
    subst this
    simpa using hv)
  rw [List.length_map]
  rw [run_bytesToString w _ _ _ ns (by simpa [loadCells] using hload), push_fold]
  have e : ∀ xs : List UInt8, (ByteArray.empty.data ++ xs.toArray) = xs.toArray := fun xs => by rw [show ByteArray.empty.data = (#[] : Array UInt8) from rfl]; simp
  rw [e]

theorem tdOK_some {ty : TypeId} {td : TD} (h : tdOK P ty td) : ∃ d, P.underlying ty = some d := by
  cases td with
  | struct fs => obtain ⟨f, h, _⟩ := h; exact ⟨_, h⟩
  | other => obtain ⟨d, h, _⟩ := h; exact ⟨d, h⟩
  | _ => exact ⟨_, h⟩

theorem conv_sound (hX : X.WF) (hR : Rel X μ F H w (fun _ => False)) (ht : t.kl = []) (hE : E.OK P) {s d : TypeId} {rs rd : Row} (hs : E.row s = some rs) (hd : E.row d = some rd) {x : AV} {u : Value} (hx : RV X μ H w x u) (hf : H fr = none) (hU : ∀ k, U k → k ≠ fr)
    (h : (convHM E.row rs.td rd.td x fr).run H t K = some r) : ∃ z w', (Go.convert s d u).run P w = .ok z w' ∧ OP X U fr μ H w K r z w' := by
  obtain ⟨ds, hus⟩ := tdOK_some (hE _ _ hs).td
  have hrd := (hE _ _ hd).td
  have hrs := (hE _ _ hs).td
  unfold convHM at h
  split at h
  · rename_i k k' n htd
    rw [htd] at hrd
    cases hx
    refine ⟨_, w, ?_, OP.pure hR ht h (.val _) (fun k hk => by simp [keysAV] at hk)⟩
    simp [Go.convert, underlying, hus, show P.underlying d = _ from hrd, Conv.intToInt]
  · rename_i a htd
    rw [htd] at hrd
    cases hx
    refine ⟨_, w, ?_, OP.pure hR ht h (.val _) (fun k hk => by simp [keysAV] at hk)⟩
    simp [Go.convert, underlying, hus, show P.underlying d = _ from hrd]
  · rename_i e a htd
    rw [htd] at hrd
    split at h
    · rename_i _ _ _ _ hts he
      rw [hts] at hrs
      cases hx
      have hrun := run_bytes_of_string (P := P) w s d e a hrs hrd (hE _ _ he).td
      refine ⟨_, _, hrun, ?_⟩
      obtain ⟨hR1, hK1⟩ := hR.same0 (w' := w.drew) rfl rfl rfl rfl
      simp only [HM.run] at h
      have hg := grownCap_ge w a.size 0 e
      have hsz : (bytesRow a (grownCap w a.size 0 e)).size = grownCap w a.size 0 e := by
        simp only [bytesRow, Array.size_append, Array.size_map, Array.size_replicate]
        have : a.data.size = a.size := rfl
        omega
      have hlen : (a.data.toList.map u8).length = a.size := by rw [List.length_map, Array.length_toList]; rfl
      obtain ⟨F', h1, h2⟩ := new_rel (e := e) (arr := bytesRow a (grownCap w a.size 0 e)) (Ts := fun _ _ => False) (ys := a.data.toList.map u8) (U := U) hX (rel_nil hR1 (by simp)) (fun U => Keep.refl U μ H w.drew) hf hU (by rw [hsz, hlen]; exact hg) (fun j hj => by
        have hj' : j < a.data.toList.length := by simpa using hj
        have hja : j < a.data.size := by simpa using hj'
        have e1 : (bytesRow a (grownCap w a.size 0 e))[j]? = some (.int .u8 (a.data[j]).toNat) := by
          simp only [bytesRow]
          rw [Array.getElem?_append_left (by simpa using hja), Array.getElem?_map, Array.getElem?_eq_getElem hja]
          rfl
        obtain ⟨hh, he'⟩ := Array.getElem?_eq_some_iff.mp e1
        rw [he', List.getElem_map]
        simp only [u8, Array.getElem_toList]
        exact .val _ _ rfl) (by simp) ((bytesRow a (grownCap w a.size 0 e)).size, (bytesRow a (grownCap w a.size 0 e)).size + 1) (by intro i hi; omega)
      refine ⟨.ref fr [] 1 0 a.size none, _, F', _, _, h, h1, by simpa [ht] using (hK1 U).trans h2, ?_, ?_, ?_⟩
      · refine rv_new_ref (arr := bytesRow a (grownCap w a.size 0 e)) (cs := a.data.toList.map u8) (makeSlice_sound.upd_same' H fr _) ⟨e, ((bytesRow a (grownCap w a.size 0 e)).size, (bytesRow a (grownCap w a.size 0 e)).size + 1), by show (w.heap.push _)[w.heap.size]? = _; simp⟩ hg (by simp) (fun _ => by rw [hlen]; omega) (by rw [hsz]; omega)
      · intro k hk; simp [keysAV] at hk; right; omega
      · exact keep_fresh fun _ h => h
    · simp [HM.run] at h
  · rename_i htd _
    rw [htd] at hrd
    split at h
    · rename_i e hts
      rw [hts] at hrs
      split at h
      · rename_i _ _ _ _ he
        obtain ⟨hg, h⟩ := guardB_run' h
        have fin : ∀ (bs : List UInt8) t1, t1.kl = [] → K (.val (.string ⟨bs.toArray⟩)) H t1 = some r → OP X U fr μ H w K r (.string ⟨bs.toArray⟩) w := fun bs t1 ht1 hh => OP.pure hR ht1 hh (.val _) (fun k hk => by simp [keysAV] at hk)
        have conc : ∀ A l c, (Go.convert s d (.slice A l c)).run P w = (Conv.bytesToString (.slice A l c)).run P w := fun A l c => run_convert_bytes_string w s d e A l c hrs (hE _ _ he).td hrd
        have nil : ∀ A c, (Conv.bytesToString (.slice A 0 c)).run P w = .ok (.string ⟨#[]⟩) w := by
          intro A c
          cases A with
          | none => simp [Conv.bytesToString]; rfl
          | some ad =>
            have := run_bytesToString (P := P) w ad 0 c [] (by simp [loadCells, loadCellsFrom])
            rw [this]; rfl
        rcases zOK_inv' hg with rfl | ⟨tg, n, cap, cs, rfl⟩ | ⟨k, p, off, n, cap, rfl⟩
        · cases hx
          simp only [cellsIn, HM.bind, slLen, List.length_nil] at h
          obtain ⟨_, h⟩ := guardB_run' h
          obtain ⟨bs, hb, h⟩ := ofOpt_run h
          simp only [bytesOf, Option.some.injEq] at hb
          subst hb
          exact ⟨_, w, (conc _ _ _).trans (nil _ _), fin [] t ht h⟩
        · simp only [cellsIn, HM.bind, slLen] at h
          obtain ⟨hl, h⟩ := guardB_run' h
          obtain ⟨bs, hb, h⟩ := ofOpt_run h
          have hl : (List.take (n * 1) cs).length = n := by simpa using hl
          cases hx with
          | sl _ _ _ _ _ _ htg hr =>
            cases hr with
            | nil _ _ _ A c hc =>
              simp only [List.take_nil, bytesOf, Option.some.injEq] at hb
              subst hb
              exact ⟨_, w, (conc _ _ _).trans (nil _ _), fin [] t ht h⟩
            | sl _ _ _ _ _ b o c arr vs h1 h2 h3 h4 h5 h6 h7 =>
              have hbw : RBlk w b arr := h2.agree (hR.frame b (tagS_fo hX h1))
              have := bytes_str (P := P) (c := c) hb (b := b) (o := o) fun j hj => by
                have hjc : j < cs.length := by rw [List.length_take] at hj; omega
                refine ⟨vs j, by rw [cell?_of hbw]; exact h6 j hjc, fun u hu => ?_⟩
                rw [List.getElem_take] at hu
                have := h7 j hjc
                rw [hu] at this
                generalize hvj : vs j = v at this
                cases this; rfl
              rw [hl] at this
              exact ⟨_, w, (conc _ _ _).trans this, fin bs t ht h⟩
        · simp only [cellsIn, look1, HM.bind, HM.run] at h
          cases hH : H k with
          | none => simp [hH] at h
          | some cs =>
          simp only [hH] at h
          cases hsb : sub p cs with
          | none => simp [hsb, HM.bind, HM.run] at h
          | some dd =>
          simp only [hsb, HM.bind, slLen] at h
          obtain ⟨hl, h⟩ := guardB_run' h
          obtain ⟨bs, hb, h⟩ := ofOpt_run h
          have hl : (List.take (n * 1) (dd.drop off)).length = n := by simpa using hl
          obtain ⟨res, T, hq, hat, _⟩ := look_at hR hH hsb
          cases hx with
          | ref _ _ _ _ _ _ A c hn hc hA hh =>
            have hok := hh cs res dd hH hq
            have hnil : n = 0 → ∃ z w', (Go.convert s d (.slice A n c)).run P w = .ok z w' ∧ OP X U fr μ H w K r z w' := by
              intro e0; subst e0
              simp only [Nat.zero_mul, List.take_zero, bytesOf, Option.some.injEq] at hb
              subst hb
              exact ⟨_, w, (conc _ _ _).trans (nil _ _), fin [] _ (by simpa using ht) h⟩
            cases res with
            | none => exact hnil (by have : c = 0 := hok; omega)
            | some bo =>
              obtain ⟨b, o⟩ := bo
              rcases hok with h0 | ⟨h1, h2, h3⟩
              · exact hnil (by omega)
              · subst h1
                obtain ⟨arr, vs, Ts, c1, c2, c3, c4, c5, c6, c7, c8⟩ := hat
                have := bytes_str (P := P) (c := c) hb (b := b) (o := o + off) fun j hj => by
                  have hjc : off + j < dd.length := by rw [List.length_take, List.length_drop] at hj; omega
                  refine ⟨vs (off + j), by rw [cell?_of c1.rblk, Nat.add_assoc]; exact c4 _ hjc, fun u hu => ?_⟩
                  rw [List.getElem_take, List.getElem_drop] at hu
                  have := c5 _ hjc
                  rw [hu] at this
                  generalize hvj : vs (off + j) = v at this
                  cases this; rfl
                rw [hl] at this
                exact ⟨_, w, (conc _ _ _).trans this, fin bs _ (by simpa using ht) h⟩
      · simp [HM.run] at h
    · simp [HM.run] at h
  · simp [HM.run] at h
where
  zOK_inv' {z : Nat} {x : AV} (h : zOK z x = true) : x = .val nilV ∨ (∃ tg n cap cs, x = .sl tg z n cap cs) ∨ ∃ k p off n cap, x = .ref k p z off n cap := by
    unfold zOK at h
    split at h
    · exact .inl rfl
    · simp only [beq_iff_eq] at h; subst h; exact .inr (.inl ⟨_, _, _, _, rfl⟩)
    · simp only [beq_iff_eq] at h; subst h; exact .inr (.inr ⟨_, _, _, _, _, rfl⟩)
    · exact absurd h (by simp)

end
end Go.Proofs.Ytlmifbpihlcabaa.VH
