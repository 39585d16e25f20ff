/- Part of the proof of the law's row: YtnoeomlanbdjeaaAbsN. -/
import Derived.Test.YtnoeomlanbdjeaaAbsM
set_option linter.all false
set_option linter.unusedVariables false
set_option linter.unusedSimpArgs false
namespace Go.Abs
open Go.RowKit

section
variable {P : Program} {S : Nat → Prop} {w : World} {γ : Nat → Value} {Γ : Env} {w0 : World} {M S0 : Nat → Prop} {st : St} {a : Act}

theorem store_run {T : TypeId} {v : Value} {b o : Nat} {us : List Value} (hv : v.cells.toList = us) (hs : (Go.sizeOf T).run P w = .ok us.length w) (hc : ∀ j, j < us.length → (w.cell? ⟨b, o + j, none⟩).isSome = true) (hf : ∀ j, j < us.length → w.frozen? ⟨b, o + j, none⟩ = false) (h1 : ∀ u ∈ us, u.oneCell' = true) :
    (Instr.storeAt T (.pointer (some ⟨b, o, none⟩)) v).run P w = .ok () (w.setCells b o us) := by
  have hsz : v.cells.size = us.length := by rw [← Array.length_toList, hv]
  have hst := run_storeCells_cells (P := P) b o us 0 w (by simpa using hc) (by simpa using hf) h1
  simp only [Nat.add_zero] at hst
  simp only [Instr.storeAt, Instr.sureAddr, Sem.run_bind, Sem.run_pure, Result.andThen_ok, storeVar, hs, hsz, ne_eq, not_true_eq_false, if_false, hv, hst]
theorem RepRow.set {t : Ty} {xs : List t.Den} {cs c' : List Value} (h : RepRow S w t xs cs) {j : Nat} (hj : j < xs.length) {x' : t.Den} (hx : Rep S w t x' c') : RepRow S w t (xs.set j x') (cs.take (j * t.sz) ++ c' ++ cs.drop (j * t.sz + t.sz)) := by
  have hb : j * t.sz + t.sz ≤ cs.length := by rw [h.1, ← Nat.succ_mul]; exact Nat.mul_le_mul_right _ hj
  have hcl := hx.len
  refine ⟨by rw [List.length_append, List.length_append, List.length_take, List.length_drop, hcl, List.length_set, Nat.min_eq_left (by omega)]; have := h.1; omega, fun i x hi => ?_⟩
  have htl : (cs.take (j * t.sz)).length = j * t.sz := by rw [List.length_take]; omega
  by_cases hij : i = j
  · subst hij
    rw [List.getElem?_set_self hj] at hi
    simp only [Option.some.injEq] at hi
    subst hi
    rw [List.append_assoc, List.drop_append, List.drop_of_length_le (by omega), htl, Nat.sub_self, List.drop_zero, List.nil_append, ← hcl, List.take_left]
    exact hx
  · rw [List.getElem?_set_ne (fun e => hij e.symm)] at hi
    have h2 := h.2 i x hi
    have hil : i < xs.length := (List.getElem?_eq_some_iff.1 hi).1
    rcases Nat.lt_or_gt_of_ne hij with hlt | hgt
    · have hle : i * t.sz + t.sz ≤ j * t.sz := by rw [← Nat.succ_mul]; exact Nat.mul_le_mul_right _ hlt
      rw [List.append_assoc, List.drop_append_of_le_length (by omega), List.take_append_of_le_length (by rw [List.length_drop]; omega), List.drop_take, List.take_take, Nat.min_eq_left (by omega)]
      exact h2
    · have hle : j * t.sz + t.sz ≤ i * t.sz := by rw [← Nat.succ_mul]; exact Nat.mul_le_mul_right _ hgt
      rw [List.drop_append, List.drop_of_length_le (by simp [hcl]; omega), List.nil_append, List.length_append, htl, hcl, List.drop_drop, show j * t.sz + t.sz + (i * t.sz - (j * t.sz + t.sz)) = i * t.sz by omega]
      exact h2
/-- What may lie in a variable of one cell beside plain data. -/
def cellAV : AV → Bool
  | .own _ _ _ _ => true
  | .full _ _ => true
  | .nilS => true
  | .fn _ _ => true
  | .optr _ _ _ _ => true
  | .cptr _ => true
  | .mptr _ => true
  | .lst _ => true
  | .data t _ => !t.agg
  | _ => false
theorem cellAV_one {av : AV} (h : cellAV av = true) {v : Value} (hm : Match S w γ av v) : v.oneCell' = true ∧ v.cells.toList = [v] := by
  cases av with
  | own s t off n => obtain ⟨A, c, rfl, _⟩ := own_slice hm; exact ⟨rfl, rfl⟩
  | nilS => simp only [Match] at hm; subst hm; exact ⟨rfl, rfl⟩
  | fn f caps => simp only [Match] at hm; obtain ⟨vs, rfl, _⟩ := hm; exact ⟨rfl, rfl⟩
  | full s t => simp only [Match] at hm; obtain ⟨_, A, n, c, rfl⟩ := hm; exact ⟨rfl, rfl⟩
  | optr s t j p => simp only [Match] at hm; obtain ⟨g, o, n, cap, _, rfl⟩ := hm; exact ⟨rfl, rfl⟩
  | cptr s => simp only [Match] at hm; obtain ⟨g, o, n, cap, _, rfl⟩ := hm; exact ⟨rfl, rfl⟩
  | mptr s => simp only [Match] at hm; obtain ⟨g, _, rfl⟩ := hm; exact ⟨rfl, rfl⟩
  | lst vs => simp only [Match] at hm; obtain ⟨A, c, rfl, _⟩ := hm; exact ⟨rfl, rfl⟩
  | data t x =>
    simp only [Match] at hm
    obtain ⟨cs, hr, rfl⟩ := hm
    simp only [cellAV, Bool.not_eq_true'] at h
    have h1 := toVal_one h hr
    have h2 := hr.one
    rw [h1] at h2
    refine ⟨h2 _ (by simp), ?_⟩
    have := hr.cells
    rw [h1] at this
    cases t <;> first | (cases h; done) | simpa [toVal, Value.cells] using this
  | _ => cases h
/-- A value, cell by cell, as it is stored. -/
def storeCellsA (tp : Ty) (y : AV) : Option (List AV) :=
  match y with
  | .agg t' vs => if Ty.beq t' tp && (t'.agg && (decide (vs.length = t'.sz) && vs.all cellAV)) then some vs else none
  | y => if tp.agg then (match castTo tp y with
      | some x => some (splitD tp x)
      | none => none)
    else if cellAV y then some [y] else none
theorem cells_one {vs : List AV} (h : vs.all cellAV = true) {us : List Value} (hm : Matches S w γ vs us) : ∀ u ∈ us, u.oneCell' = true := by
  induction vs generalizing us with
  | nil => simp only [Matches] at hm; subst hm; simp
  | cons v vs ih =>
    simp only [List.all_cons, Bool.and_eq_true] at h
    simp only [Matches] at hm
    obtain ⟨u, us', rfl, h1, h2⟩ := hm
    intro x hx
    rcases List.mem_cons.1 hx with rfl | hx
    · exact (cellAV_one h.1 h1).1
    · exact ih h.2 h2 x hx
theorem storeCellsA_ok {tp : Ty} {y : AV} {l : List AV} (h : storeCellsA tp y = some l) {v : Value} (hm : Match S w γ y v) : ∃ us, v.cells.toList = us ∧ Matches S w γ l us ∧ us.length = tp.sz ∧ ∀ u ∈ us, u.oneCell' = true := by
  unfold storeCellsA at h
  split at h
  · rename_i t' vs
    split at h
    · rename_i hc
      simp only [Bool.and_eq_true, decide_eq_true_eq] at hc
      obtain ⟨hb, hag, hl, hall⟩ := hc
      obtain rfl := Ty.eq_of_beq hb
      simp only [Option.some.injEq] at h
      subst h
      simp only [Match] at hm
      obtain ⟨us, rfl, h2⟩ := hm
      exact ⟨us, by simp [Value.cells], h2, by rw [← h2.len]; exact hl, cells_one hall h2⟩
    · cases h
  · split at h
    · split at h
      · rename_i x hx
        simp only [Option.some.injEq] at h
        subst h
        obtain ⟨cs, h1, rfl⟩ := castTo_ok hm hx
        exact ⟨cs, h1.cells, splitD_ok h1, h1.len, h1.one⟩
      · cases h
    · rename_i hag
      split at h
      · rename_i hcell
        simp only [Option.some.injEq] at h
        subst h
        obtain ⟨h1, h2⟩ := cellAV_one hcell hm
        have hsz : tp.sz = 1 := by cases tp <;> first | rfl | (simp [Ty.agg] at hag; done)
        refine ⟨[v], h2, ?_, by simp [hsz], by simpa using h1⟩
        simp only [Matches]
        exact ⟨v, [], rfl, hm, rfl⟩
      · cases h
theorem matches_splice {vs l : List AV} {us cs : List Value} {o n : Nat} (h : Matches S w γ vs us) (h2 : Matches S w γ l cs) : Matches S w γ (vs.take o ++ l ++ vs.drop (o + n)) (us.take o ++ cs ++ us.drop (o + n)) :=
  matches_app (matches_app (matches_take (n := o) h).1 h2) (matches_take (n := o + n) h).2
def absStore (Γ : Env) (st : St) (T : TypeId) (x y : AV) : Option (St × List Prop) :=
  match x with
  | .optr s t j p => (match get st.heap s, t.sub p, Γ.ty T with
    | some (.rcd e t' vs), some tp, some t2 => if Ty.beq t' t && (Ty.beq t2 tp && (j.isNone && (t.inR p).isEmpty)) then
        (match storeCellsA tp y with
        | some l => some ({ st with heap := (s, .rcd e t' (vs.take (t'.offs p) ++ l ++ vs.drop (t'.offs p + tp.sz))) :: st.heap }, [])
        | none => none)
      else none
    | some (.row e t' xs false), some tp, some t2 => if Ty.beq t' t && Ty.beq t2 tp then
        (match castTo tp y with
        | some z => (match elemAt t' xs j with
          | some (x0, ps) => (match updp t' x0 p ⟨tp, z⟩ with
            | some x' => some ({ st with heap := (s, .row e t' (setAt t' xs x' j) false) :: st.heap }, ps ++ t'.inR p)
            | none => none)
          | none => none)
        | none => none)
      else none
    | _, _, _ => none)
  | .cptr s => (match get st.heap s with
    | some (.cell e _) => if cellAV y && Γ.one T then some ({ st with heap := (s, .cell e y) :: st.heap }, []) else none
    | _ => none)
  | _ => none
theorem InfoIs.sizeOf {T : TypeId} {z : Value} {n : Nat} (h : InfoIs P T z n) (w : World) : (Go.sizeOf T).run P w = .ok n w := by
  obtain ⟨i, h1, _, h3⟩ := h.get
  simp [Go.sizeOf, typeInfo, h1, h3]
theorem absStore_more (hΓ : EnvOk Γ) (hc : Core w0 M S0 S γ st a w) {T : TypeId} {x y : AV} {st' : St} {ps : List Prop} (h : absStore Γ st T x y = some (st', ps)) (hps : ∀ p ∈ ps, p) {ux uy : Value} (hx : Match S w γ x ux) (hy : Match S w γ y uy) :
    ∃ w', (Instr.storeAt T ux uy).run Γ.P w = .ok () w' ∧ Core w0 M S0 S γ st' a w' ∧ w.heap.size ≤ w'.heap.size ∧ ∀ b, S b → w'.heap[b]? = w.heap[b]? := by
  unfold absStore at h
  split at h
  · rename_i s t j p
    split at h
    · rename_i e t' vs tp t2 hs htp ht
      split at h
      · rename_i hb
        simp only [Bool.and_eq_true, Option.isNone_iff_eq_none] at hb
        obtain ⟨hb1, hb2, rfl, hb4⟩ := hb
        obtain rfl := Ty.eq_of_beq hb1
        obtain rfl := Ty.eq_of_beq hb2
        split at h
        · rename_i l hl
          simp only [Option.some.injEq, Prod.mk.injEq] at h
          obtain ⟨rfl, rfl⟩ := h
          obtain ⟨us, h1, h2, h3, h4⟩ := storeCellsA_ok hl hy
          simp only [Match] at hx
          obtain ⟨g, o, n, cap, hg, rfl⟩ := hx
          obtain ⟨⟨⟨cs, ho, hm0, hone⟩, hmut⟩, _⟩ := hc.obj s _ hs
          have hcl : cs.length = t'.sz := by rw [ho.1, Nat.one_mul]
          rw [hg] at ho
          have hn := ho.len_is
          subst hn
          have hle := sub_offs (fun q hq => by rw [List.isEmpty_iff.1 hb4] at hq; cases hq) htp
          obtain ⟨g1, g2⟩ := ho.setCells us (t'.offs p) (by omega)
          have hcell : ∀ i, i < us.length → (w.cell? ⟨g, o + t'.offs p + i, none⟩).isSome = true := fun i hi => by
            have hlt : t'.offs p + i < cs.length := by omega
            have := own_cellAt ho _ _ (List.getElem?_eq_getElem hlt)
            rw [Nat.add_assoc, this]; rfl
          refine ⟨_, store_run (b := g) (o := o + t'.offs p) h1 (by rw [h3]; exact (hΓ.is ht).sizeOf w) hcell (fun i _ => ho.frozenAt _) h4 |> (by simpa using ·), ?_⟩
          have hgrown : w.grownBy (w.setCells g (o + t'.offs p) us) (γ s).ownBlock := by rw [hg]; exact g2
          have hag : Agree S w (w.setCells g (o + t'.offs p) us) := fun k hk => hgrown.block k (hc.slt k hk) (fun e => hmut k (.inl e.symm) hk)
          refine ⟨hc.wroteOb hs rfl hmut hgrown ⟨⟨_, by rw [hg]; exact g1, ?_, ?_⟩, hmut⟩, hgrown.size, hag⟩
          · rw [h3]
            exact (matches_splice hm0 h2).mono (fun _ h => h) hag (fun _ _ => rfl)
          · intro u hu
            rcases List.mem_append.1 hu with hu | hu
            · rcases List.mem_append.1 hu with hu | hu
              · exact hone u (List.mem_of_mem_take hu)
              · exact h4 u hu
            · exact hone u (List.mem_of_mem_drop hu)
        · cases h
      · cases h
    · rename_i e t' xs tp t2 hs htp ht
      split at h
      · rename_i hb
        simp only [Bool.and_eq_true] at hb
        obtain rfl := Ty.eq_of_beq hb.1
        obtain rfl := Ty.eq_of_beq hb.2
        split at h
        · rename_i z hz
          split at h
          · rename_i x0 ps0 hel
            split at h
            · rename_i x' hx'
              simp only [Option.some.injEq, Prod.mk.injEq] at h
              obtain ⟨rfl, rfl⟩ := h
              obtain ⟨hj0, hset⟩ := elemAt_ok hel (fun q hq => hps q (List.mem_append_left _ hq))
              have hj : j.getD 0 < List.length xs := (List.getElem?_eq_some_iff.1 hj0).1
              rw [hset]
              obtain ⟨us, hus, rfl⟩ := castTo_ok hy hz
              simp only [Match] at hx
              obtain ⟨g, o, n, cap, hg, rfl⟩ := hx
              obtain ⟨⟨⟨cs, ho, hr⟩, hmut⟩, _⟩ := hc.obj s _ hs
              have ho0 := ho
              rw [hg] at ho
              have hn := ho.len_is
              subst hn
              have hxj := hr.2 _ _ hj0
              obtain ⟨h1, _, h3⟩ := rep_updp hxj hus (fun q hq => hps q (List.mem_append_right _ hq)) hx'
              have hb2 : j.getD 0 * t'.sz + t'.sz ≤ cs.length := by rw [hr.1, ← Nat.succ_mul]; exact Nat.mul_le_mul_right _ hj
              obtain ⟨g1, g2⟩ := ho.setCells us (j.getD 0 * t'.sz + t'.offs p) (by omega)
              have hcell : ∀ i, i < us.length → (w.cell? ⟨g, o + (j.getD 0 * t'.sz + t'.offs p) + i, none⟩).isSome = true := fun i hi => by
                have hlt : j.getD 0 * t'.sz + t'.offs p + i < cs.length := by omega
                have := own_cellAt ho _ _ (List.getElem?_eq_getElem hlt)
                rw [Nat.add_assoc, this]; rfl
              refine ⟨_, store_run hus.cells (by rw [hus.len]; exact (hΓ.is ht).sizeOf w) hcell (fun i _ => ho.frozenAt _) hus.one, ?_⟩
              have hgrown : w.grownBy (w.setCells g (o + (j.getD 0 * t'.sz + t'.offs p)) us) (γ s).ownBlock := by rw [hg]; exact g2
              have hag : Agree S w (w.setCells g (o + (j.getD 0 * t'.sz + t'.offs p)) us) := fun k hk => hgrown.block k (hc.slt k hk) (fun e => by have := (hmut k (.inl e.symm)).1 hk; cases this)
              refine ⟨hc.wrote hs hgrown ⟨_, ?_, (hr.set hj h1).mono (fun _ h => h) hag⟩, hgrown.size, hag⟩
              rw [hg, List.length_set]
              have := splice_eq cs us (j.getD 0 * t'.sz) t'.sz (t'.offs p) us.length rfl h3 hb2
              rw [← this]
              exact g1
            · cases h
          · cases h
        · cases h
      · cases h
    · cases h
  · rename_i s
    split at h
    · rename_i e av0 hs
      split at h
      · rename_i hcond
        simp only [Bool.and_eq_true] at hcond
        simp only [Option.some.injEq, Prod.mk.injEq] at h
        obtain ⟨rfl, rfl⟩ := h
        simp only [Match] at hx
        obtain ⟨g, o, n, cap, hg, rfl⟩ := hx
        obtain ⟨⟨⟨u0, ho, hm0, _⟩, hmut⟩, _⟩ := hc.obj s _ hs
        have ho0 := ho
        rw [hg] at ho
        have hn := ho.len_is
        subst hn
        obtain ⟨h1, h2⟩ := cellAV_one hcond.1 hy
        obtain ⟨⟨z, hz, _⟩, _⟩ := cellT hΓ hcond.2
        obtain ⟨g1, g2⟩ := ho.setCells [uy] 0 (by simp)
        have hcell : (w.cell? ⟨g, o, none⟩) = some u0 := by
          have := own_cellAt ho 0 u0 rfl
          simpa using this
        refine ⟨_, store_run (b := g) (o := o) h2 (by simpa using hz.sizeOf w) (fun i hi => by
          have : i = 0 := by simpa using hi
          subst this
          rw [Nat.add_zero, hcell]; rfl) (fun i _ => ho.frozenAt _) (by simpa using h1), ?_⟩
        have hgrown : w.grownBy (w.setCells g o [uy]) (γ s).ownBlock := by rw [hg]; exact g2
        have hag : Agree S w (w.setCells g o [uy]) := fun k hk => hgrown.block k (hc.slt k hk) (fun e => hmut k (.inl e.symm) hk)
        refine ⟨hc.wroteOb hs rfl hmut hgrown ⟨⟨uy, ?_, hy.mono (fun _ h => h) hag (fun _ _ => rfl), h1⟩, hmut⟩, hgrown.size, hag⟩
        rw [hg]
        simpa using g1
      · cases h
    · cases h
  · cases h
theorem absStore_ok (hΓ : EnvOk Γ) (hc : Core w0 M S0 S γ st a w) {T : TypeId} {x y : AV} {st' : St} {ps : List Prop} (h : absStore Γ st T x y = some (st', ps)) (hps : ∀ p ∈ ps, p) {ux uy : Value} (hx : Match S w γ x ux) (hy : Match S w γ y uy) :
    ∃ w', (Instr.storeAt T ux uy).run Γ.P w = .ok () w' ∧ Core w0 M S0 S γ st' a w' := by
  obtain ⟨w', h1, h2, _⟩ := absStore_more hΓ hc h hps hx hy
  exact ⟨w', h1, h2⟩
/-! ### A struct that is built cell by cell -/
def buildCells (fs : List Ty) : List (Nat × AV) → List AV → Option (List AV)
  | [], l => some l
  | (k, av) :: r, l => (match Ty.subs fs k [] with
    | some tk => (match storeCellsA tk av with
      | some c => buildCells fs r (l.take (Ty.offss fs k []) ++ c ++ l.drop (Ty.offss fs k [] + tk.sz))
      | none => none)
    | none => none)
theorem fillA_ok {fs : List Ty} {place : Nat → Option (Nat × Nat)} (hp : ∀ k tk, Ty.subs fs k [] = some tk → place k = some (Ty.offss fs k [], tk.sz)) :
    ∀ {parts : List (Nat × AV)} {vs : List (Nat × Value)} {l l' : List AV} {cells : Array Value}, PartsMatch S w γ parts vs → Matches S w γ l cells.toList → cells.toList.length = Ty.szs fs → buildCells fs parts l = some l' →
      ∃ cells', Instr.fill place cells vs = some cells' ∧ Matches S w γ l' cells'.toList
  | [], vs, l, l', cells, hm, hr, hl, hb => by
    simp only [PartsMatch] at hm
    subst hm
    have hb : some l = some l' := hb
    simp only [Option.some.injEq] at hb
    subst hb
    exact ⟨cells, rfl, hr⟩
  | (k, av) :: parts, vs, l, l', cells, hm, hr, hl, hb => by
    obtain ⟨v, vs', rfl, h1, h2⟩ := hm
    unfold buildCells at hb
    split at hb
    · rename_i tk htk
      split at hb
      · rename_i c hc
        obtain ⟨us, hcells, hmc, hul, _⟩ := storeCellsA_ok hc h1
        have hle := subs_offs (fun q hq => by rw [inRs_nil] at hq; cases hq) htk
        have hcs : v.cells.size = tk.sz := by rw [← Array.length_toList, hcells, hul]
        rw [Array.length_toList] at hl
        have hset : (v.cells.zipIdx.foldl (fun (cs : Array Value) (x : Value × Nat) => cs.setIfInBounds (Ty.offss fs k [] + x.2) x.1) cells).toList = cells.toList.take (Ty.offss fs k []) ++ us ++ cells.toList.drop (Ty.offss fs k [] + us.length) := by
          rw [← Array.foldl_toList, Array.toList_zipIdx, hcells]
          have := foldl_set us 0 (Ty.offss fs k []) cells (by omega)
          simpa using this
        have g1 : Matches S w γ (l.take (Ty.offss fs k []) ++ c ++ l.drop (Ty.offss fs k [] + tk.sz)) (v.cells.zipIdx.foldl (fun (cs : Array Value) (x : Value × Nat) => cs.setIfInBounds (Ty.offss fs k [] + x.2) x.1) cells).toList := by
          rw [hset, hul]
          exact matches_splice hr hmc
        obtain ⟨cells', e1, e2⟩ := fillA_ok hp h2 g1 (by rw [hset]; simp; omega) hb
        refine ⟨cells', ?_, e2⟩
        unfold Instr.fill
        simp only [hp k tk htk, hcs]
        rw [if_neg (by simp; omega)]
        exact e1
      · cases hb
    · cases hb
def evBuildA (Γ : Env) (T : TypeId) (parts : List (Nat × AV)) : Ev :=
  match Γ.ty T with
  | some (.st fs) => if Γ.recs.contains T && !Γ.arrs.contains T then (match buildCells fs parts (zeroCs fs) with
    | some l => some (.agg (.st fs) l, [])
    | none => none) else none
  | _ => none
theorem evBuildA_ok (hΓ : EnvOk Γ) {T : TypeId} {parts : List (Nat × AV)} {av : AV} {ps : List Prop} (h : evBuildA Γ T parts = some (av, ps)) {vs : Array (Nat × Value)} (hm : PartsMatch S w γ parts vs.toList) :
    ∃ r, (∀ w', (Instr.build T vs).run Γ.P w' = .ok r w') ∧ Match S w γ av r := by
  unfold evBuildA at h
  split at h
  · rename_i fs ht
    split at h
    · rename_i hcond
      simp only [Bool.and_eq_true, Bool.not_eq_true'] at hcond
      split at h
      · rename_i l hl
        simp only [Option.some.injEq, Prod.mk.injEq] at h
        obtain ⟨rfl, rfl⟩ := h
        obtain ⟨hi, _, _, hh⟩ := hΓ.is ht
        obtain ⟨i, h1, h2, _⟩ := hi.get
        have hz : Matches S w γ (zeroCs fs) ((zeross fs).toArray).toList := by simpa using zeroCs_ok fs
        have hzl : (zeross fs).toArray.toList.length = Ty.szs fs := by
          have := (reps_zero S w fs).len
          simpa using this
        rcases hh with ⟨fs', hu, hfs⟩ | ⟨n, e, hu, _⟩
        · obtain ⟨cells', e1, e2⟩ := fillA_ok (place := fun k => (placesOf fs 0).toArray[k]?) (fun k tk hk => by
            rw [List.getElem?_toArray, places_get hk, Nat.zero_add]) hm hz hzl hl
          have hb : Γ.P.built T vs.toList = some cells' := by
            unfold Program.built
            simp only [h1, hu, h2, places_struct hfs, Value.cells]
            exact e1
          refine ⟨_, fun w' => run_build w' T vs cells' hb, ?_⟩
          simp only [Match]
          exact ⟨cells'.toList, by simp, e2⟩
        · exact absurd hu (hΓ.arrs T _ ht hcond.2 n e)
      · cases h
    · cases h
  · cases h
end
end Go.Abs
