/- Part of the proof of the law's row: YtnoeomlanbdjeaaAbsT2. -/
import Derived.Test.YtnoeomlanbdjeaaAbsT
set_option linter.all false
set_option linter.unusedVariables false
set_option linter.unusedSimpArgs false
namespace Go.Abs
open Go.RowKit
open Go.ChangeMaps (setBlock)

/-! ### Maps: made, written, gone over -/
def absMakeMap (Γ : Env) (st : St) (d : Nat) (T : TypeId) : Option (St × List Prop) :=
  match Γ.ty T with
  | some (.map k e tk te) => if st.ok d then some (newSt st d (.map k e tk te [] false) (.mptr d), []) else none
  | _ => none
def absMapUpd (Γ : Env) (st : St) (T : TypeId) (m x y : AV) : Option (St × List Prop) :=
  match m with
  | .mptr s => (match Γ.ty T with
    | some (.map k e tk te) => if tk.keyB then (match pureAV st y with
      | some (b, st1, p) => (match get st1.heap s with
        | some (.map k' e' tk' te' l false) => (match Ty.cast (.map k' e' tk' te') (.map k e tk te) l, castTo tk x, castTo te b with
          | some l', some z, some v => some ({ st1 with heap := (s, .map k e tk te (mput (Ty.eqb tk) l' z v) false) :: st1.heap }, p)
          | _, _, _ => none)
        | _ => none)
      | none => none) else none
    | _ => none)
  | _ => none
def absRange (Γ : Env) (st : St) (d : Nat) (T : TypeId) (x : AV) : Option (St × List Prop) :=
  match Γ.ty T with
  | some (.map _ _ _ _) => (match pureAV st x with
    | some (.data (.map k e tk te) l, st1, p) => if st1.ok d then some (newSt st1 d (.iter k e tk te l none) (.cptr d), p) else none
    | _ => none)
  | _ => none
def stepMap (Γ : Env) (st : St) (o : Oper) : Option (St × List Prop) :=
  match o.op, o.dst with
  | .makeMap T none, some d => absMakeMap Γ st d T
  | .mapUpdate T m x y, none => (match opd st m, opd st x, (opdRaw st y).map bareAV with
    | some (a, p), some (b, p1), some (c, p2) => (match absMapUpd Γ st T a b c with
      | some (st', q) => some (st', p ++ (p1 ++ (p2 ++ q)))
      | none => none)
    | _, _, _ => none)
  | .range T x, some d => (match opd st x with
    | some (a, p) => (match absRange Γ st d T a with
      | some (st', q) => some (st', p ++ q)
      | none => none)
    | none => none)
  | _, _ => none
section
variable {S : Nat → Prop} {w : World} {γ : Nat → Value} {Γ : Env} {w0 : World} {M S0 : Nat → Prop} {st : St} {a : Act}
theorem absMakeMap_ok (hΓ : EnvOk Γ) (hc : Core w0 M S0 S γ st a w) {d : Nat} {T : TypeId} {st' : St} {ps : List Prop} (h : absMakeMap Γ st d T = some (st', ps)) :
    ∃ r w' γ', (Instr.makeMap T none).run Γ.P w = .ok r w' ∧ Core w0 M S0 S γ' st' (a.put (some d) r) w' ∧ st'.fix = st.fix := by
  unfold absMakeMap at h
  split at h
  · rename_i k e tk te ht
    split at h
    · rename_i hd
      simp only [Option.some.injEq, Prod.mk.injEq] at h
      obtain ⟨rfl, rfl⟩ := h
      have hbl : Below w.heap.size w (w.alloc (.map #[] 0)) := ⟨rfl, rfl, rfl, by simp, fun k hk => by first | exact heap_alloc_old w _ k hk | exact heap_alloc_old w _ hk⟩
      have hcore := hc.new (d := d) (hv := .slice (some ⟨w.heap.size, 0, none⟩) 0 0) (o := .map k e tk te [] false) hbl ⟨⟨w.heap.size, rfl, #[], heap_alloc_new w _, by simp, fun i x h => by simp at h⟩, fun k hk => ⟨fun hS => by
        simp only [blk_slice, Value.ownBlock, Option.some.injEq] at hk
        have := hc.slt k hS
        omega, fun h => by cases h⟩⟩ (fun k hk => by simp only [blk_slice, Value.ownBlock, Option.some.injEq] at hk; omega)
      refine ⟨_, _, _, run_makeMap T w, hcore.put (d := d) hd (av := .mptr d) ?_, rfl⟩
      simp only [Match]
      exact ⟨_, upd_same .., rfl⟩
    · cases h
  · cases h
theorem absMapUpd_ok (hΓ : EnvOk Γ) (hc : Core w0 M S0 S γ st a w) {T : TypeId} {m x y : AV} {st' : St} {ps : List Prop} (h : absMapUpd Γ st T m x y = some (st', ps)) (hps : ∀ p ∈ ps, p) {um ux uy : Value} (hm : Match S w γ m um) (hx : Match S w γ x ux) (hy : Match S w γ y uy) :
    ∃ w' S', (Instr.mapUpdate T um ux uy).run Γ.P w = .ok () w' ∧ Core w0 M S0 S' γ st' a w' ∧ st'.fix = st.fix := by
  unfold absMapUpd at h
  split at h
  · rename_i s
    split at h
    · rename_i k e tk te ht
      split at h
      · rename_i hk
        split at h
        · rename_i b st1 p hb
          split at h
          · rename_i k' e' tk' te' l hs
            split at h
            · rename_i l' z v hl hz hv
              simp only [Option.some.injEq, Prod.mk.injEq] at h
              obtain ⟨rfl, rfl⟩ := h
              obtain ⟨e1, h2⟩ := Ty.cast_some hl
              injection e1 with q1 q2 q3 q4
              subst q1 q2 q3 q4
              have h2 : l = l' := h2
              subst h2
              obtain ⟨S1, k1, hc1, hb1, _, _⟩ := pureAV_ok hc hb hps hy
              obtain ⟨cx, hcx, rfl⟩ := castTo_ok (hx.mono k1 (fun _ _ => rfl) (fun _ _ => rfl)) hz
              obtain ⟨cv, hcv, rfl⟩ := castTo_ok hb1 hv
              obtain ⟨⟨g, h1, es, h3, h4⟩, hmut⟩ := (hc1.obj s _ hs).1
              simp only [Match] at hm
              obtain ⟨g', h5, rfl⟩ := hm
              rw [h1] at h5
              simp only [Value.slice.injEq, Option.some.injEq, Addr.mk.injEq, and_true] at h5
              subst h5
              obtain ⟨es', r1, r2⟩ := update_ok (hΓ.is ht) hk h4 h3 hcx hcv
              have hob : Blk (γ s) g := by rw [h1]; exact blk_at
              have hns : ¬ S1 g := fun hS => by have := (hmut g hob).1 hS; cases this
              have hgr : w.grownBy (setBlock w g (.map es' es'.size)) (γ s).ownBlock := by rw [h1]; exact grown_setBlock w g _
              have hag : Agree S1 w (setBlock w g (.map es' es'.size)) := fun i hi => set_block_other _ (by rintro rfl; exact hns hi)
              refine ⟨_, S1, r1, hc1.wroteOb hs rfl (fun i hi hS => ?_) hgr ⟨⟨g, h1, es', set_block_same (Array.getElem?_eq_some_iff.1 h3).1 _, r2.mono (fun _ h => h) hag⟩, hmut⟩, (pureAV_fix hb).1⟩
              have := (hmut i hi).1 hS
              cases this
            · cases h
          · cases h
        · cases h
      · cases h
    · cases h
  · cases h
theorem absRange_ok (hΓ : EnvOk Γ) (hc : Core w0 M S0 S γ st a w) {d : Nat} {T : TypeId} {x : AV} {st' : St} {ps : List Prop} (h : absRange Γ st d T x = some (st', ps)) (hps : ∀ p ∈ ps, p) {u : Value} (hx : Match S w γ x u) :
    ∃ r w' S' γ', (Instr.range T u).run Γ.P w = .ok r w' ∧ Core w0 M S0 S' γ' st' (a.put (some d) r) w' ∧ st'.fix = st.fix := by
  unfold absRange at h
  split at h
  · rename_i k0 e0 tk0 te0 ht
    split at h
    · rename_i k e tk te l st1 p hp
      split at h
      · rename_i hd
        simp only [Option.some.injEq, Prod.mk.injEq] at h
        obtain ⟨rfl, rfl⟩ := h
        obtain ⟨S1, k1, hc1, hm, _, _⟩ := pureAV_ok hc hp hps hx
        simp only [Match] at hm
        obtain ⟨cs, hr, rfl⟩ := hm
        obtain ⟨m, rfl, h0, h2⟩ := rep_map.1 hr
        have hu := (hΓ.is ht).1
        cases m with
        | none =>
          have hl : l = [] := List.length_eq_zero_iff.1 (h0 rfl)
          subst hl
          have hbl : Below w.heap.size w (w.alloc (.mapIter none 0 #[] 0)) := ⟨rfl, rfl, rfl, by simp, fun k hk => by first | exact heap_alloc_old w _ k hk | exact heap_alloc_old w _ hk⟩
          have hcore := hc1.new (d := d) (hv := .slice (some ⟨w.heap.size, 0, none⟩) 0 0) (o := .iter k e tk te [] none) hbl ⟨⟨w.heap.size, rfl, .inl ⟨heap_alloc_new w _, rfl, rfl⟩⟩, fun i hi hS => by
            simp only [blk_slice, Value.ownBlock, Option.some.injEq] at hi
            have := hc1.slt i hS
            omega⟩ (fun k hk => by simp only [blk_slice, Value.ownBlock, Option.some.injEq] at hk; omega)
          refine ⟨_, _, S1, _, run_range_nilMap w T _ _ hu, hcore.put (d := d) hd (av := .cptr d) ?_, (pureAV_fix hp).1⟩
          simp only [Match]
          exact ⟨_, _, _, _, upd_same .., rfl⟩
        | some b =>
          obtain ⟨hS, es, h3, h4⟩ := h2 b rfl
          have hbl : Below w.heap.size w (w.alloc (.mapIter (some b) es.size #[] es.size)) := ⟨rfl, rfl, rfl, by simp, fun k hk => by first | exact heap_alloc_old w _ k hk | exact heap_alloc_old w _ hk⟩
          have hag : Agree S1 w (w.alloc (.mapIter (some b) es.size #[] es.size)) := fun i hi => hbl.block i (hc1.slt i hi)
          have hcore := hc1.new (d := d) (hv := .slice (some ⟨w.heap.size, 0, none⟩) 0 0) (o := .iter k e tk te l none) hbl ⟨⟨w.heap.size, rfl, .inr ⟨b, es, #[], es.size, l, hS, (hag b hS).trans h3, h4.mono (fun _ h => h) hag, heap_alloc_new w _, Nat.le_refl _, rem_all l, fun x h => by cases h⟩⟩, fun i hi hS => by
            simp only [blk_slice, Value.ownBlock, Option.some.injEq] at hi
            have := hc1.slt i hS
            omega⟩ (fun k hk => by simp only [blk_slice, Value.ownBlock, Option.some.injEq] at hk; omega)
          refine ⟨_, _, S1, _, run_range_map w T _ _ b es es.size hu h3, hcore.put (d := d) hd (av := .cptr d) ?_, (pureAV_fix hp).1⟩
          simp only [Match]
          exact ⟨_, _, _, _, upd_same .., rfl⟩
      · cases h
    · cases h
  · cases h
theorem stepMap_ok (hΓ : EnvOk Γ) (hc : Core w0 M S0 S γ st a w) {o : Oper} {st' : St} {ps : List Prop} (h : stepMap Γ st o = some (st', ps)) (hps : ∀ p ∈ ps, p) {next : Act → World → Prop} {Q : Exit → Act → World → Prop}
    (hn : ∀ a' w' S' γ', Core w0 M S0 S' γ' st' a' w' → next a' w') : o.wp Γ.P a w next Q ∧ st'.fix = st.fix := by
  have inl : ∀ {p q : List Prop}, (∀ x ∈ p ++ q, x) → ∀ x ∈ p, x := fun h x hx => h x (List.mem_append.2 (.inl hx))
  have inr : ∀ {p q : List Prop}, (∀ x ∈ p ++ q, x) → ∀ x ∈ q, x := fun h x hx => h x (List.mem_append.2 (.inr hx))
  unfold stepMap at h
  split at h
  · rename_i T d ho hd
    obtain ⟨r, w', γ', h1, h2, h3⟩ := absMakeMap_ok hΓ hc h
    rw [← hd] at h2
    exact ⟨wp_value (execOp_value (by simp only [execOp, ho, Option.map_none]) h1) (hn _ _ _ _ h2), h3⟩
  · rename_i T m x y ho hd
    split at h
    · rename_i b p b1 p1 b2 p2 hb hb1 hb2
      split at h
      · rename_i st1 q hst
        simp only [Option.some.injEq, Prod.mk.injEq] at h
        obtain ⟨rfl, rfl⟩ := h
        obtain ⟨w', S', h1, h2, h3⟩ := absMapUpd_ok hΓ hc hst (inr (inr (inr hps))) (opd_ok hc hb (inl hps)) (opd_ok hc hb1 (inl (inr hps))) (raw_ok hc hb2 (inl (inr (inr hps))))
        refine ⟨wp_skip (w' := w') ?_ (hn _ _ S' γ ?_), h3⟩
        · simp only [execOp, ho]
          rw [Sem.run_bind, h1]
          rfl
        · rw [hd]; exact h2
      · cases h
    · cases h
  · rename_i T x d ho hd
    split at h
    · rename_i b p hb
      split at h
      · rename_i st1 q hst
        simp only [Option.some.injEq, Prod.mk.injEq] at h
        obtain ⟨rfl, rfl⟩ := h
        obtain ⟨r, w', S', γ', h1, h2, h3⟩ := absRange_ok hΓ hc hst (inr hps) (opd_ok hc hb (inl hps))
        rw [← hd] at h2
        exact ⟨wp_value (execOp_value (by simp only [execOp, ho]) h1) (hn _ _ _ _ h2), h3⟩
      · cases h
    · cases h
  · cases h
end
end Go.Abs
