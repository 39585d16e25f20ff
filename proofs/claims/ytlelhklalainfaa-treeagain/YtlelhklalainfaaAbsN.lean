/- Part of the proof of the law's row: YtlelhklalainfaaAbsN. -/
import Derived.Test.YtlelhklalainfaaAbsM
set_option linter.all false
set_option linter.unusedVariables false
set_option linter.unusedSimpArgs false
namespace Go.Abs
open Go.RowKit

section
variable {P : Program} {S : Nat → Prop} {w : World} {γ : Nat → Value} {Γ : Env} {w0 : World} {M S0 : Nat → Prop} {st : St} {a : Act}

theorem setCells_own {e : TypeId} {size n cap g : Nat} : ∀ (us : List Value) (o : Nat) {w : World} {cs : List Value}, w.ownsRow 0 e size (.slice (some ⟨g, 0, none⟩) n cap) n cs → o + us.length ≤ cs.length →
    (w.setCells g o us).ownsRow 0 e size (.slice (some ⟨g, 0, none⟩) n cap) n (cs.take o ++ us ++ cs.drop (o + us.length)) ∧ w.grownBy (w.setCells g o us) (some g)
  | [], o, w, cs, h, hl => by
    simp only [World.setCells, List.append_nil, List.length_nil, Nat.add_zero, List.take_append_drop]
    exact ⟨h, World.grownBy.refl w _⟩
  | u :: us, o, w, cs, h, hl => by
    simp only [List.length_cons] at hl
    obtain ⟨h1, h2⟩ := h.stored o u
    obtain ⟨h3, h4⟩ := setCells_own us (o + 1) h1 (by simp; omega)
    simp only [World.setCells]
    refine ⟨?_, h2.trans h4⟩
    have e1 : (cs.set o u).take (o + 1) = cs.take o ++ [u] := by
      rw [List.set_eq_take_append_cons_drop, if_pos (by omega), List.take_append, List.take_of_length_le (by simp; omega), List.length_take, Nat.min_eq_left (by omega), show o + 1 - o = 1 by omega]
      simp
    have e2 : (cs.set o u).drop (o + 1 + us.length) = cs.drop (o + (us.length + 1)) := by
      rw [List.drop_set]
      rw [if_pos (by omega)]
      congr 1
      omega
    rw [e1, e2] at h3
    simpa [List.append_assoc] using h3
theorem store_run {T : TypeId} {v : Value} {b o : Nat} {us : List Value} (hv : v.cells.toList = us) (hs : (Go.sizeOf T).run P w = .ok us.length w) (hc : ∀ j, j < us.length → (w.cell? ⟨b, o + j, none⟩).isSome = true) (hf : ∀ j, j < us.length → w.frozen? ⟨b, o + j, none⟩ = false) (h1 : ∀ u ∈ us, u.oneCell' = true) :
    (Instr.storeAt T (.pointer (some ⟨b, o, none⟩)) v).run P w = .ok () (w.setCells b o us) := by
  have hsz : v.cells.size = us.length := by rw [← Array.length_toList, hv]
  have hst := run_storeCells_cells (P := P) b o us 0 w (by simpa using hc) (by simpa using hf) h1
  simp only [Nat.add_zero] at hst
  simp only [Instr.storeAt, Instr.sureAddr, Sem.run_bind, Sem.run_pure, Result.andThen_ok, storeVar, hs, hsz, ne_eq, not_true_eq_false, if_false, hv, hst]
theorem RepRow.set {t : Ty} {xs : List t.Den} {cs c' : List Value} (h : RepRow S w t xs cs) {j : Nat} (hj : j < xs.length) {x' : t.Den} (hx : Rep S w t x' c') : RepRow S w t (xs.set j x') (cs.take (j * t.sz) ++ c' ++ cs.drop (j * t.sz + t.sz)) := by
  have hb : j * t.sz + t.sz ≤ cs.length := by rw [h.1, ← Nat.succ_mul]; exact Nat.mul_le_mul_right _ hj
  have hcl := hx.len
  refine ⟨by rw [List.length_append, List.length_append, List.length_take, List.length_drop, hcl, List.length_set, Nat.min_eq_left (by omega)]; have := h.1; omega, fun i x hi => ?_⟩
  have htl : (cs.take (j * t.sz)).length = j * t.sz := by rw [List.length_take]; omega
  by_cases hij : i = j
  · subst hij
    rw [List.getElem?_set_self hj] at hi
    simp only [Option.some.injEq] at hi
    subst hi
    rw [List.append_assoc, List.drop_append, List.drop_of_length_le (by omega), htl, Nat.sub_self, List.drop_zero, List.nil_append, ← hcl, List.take_left]
    exact hx
  · rw [List.getElem?_set_ne (fun e => hij e.symm)] at hi
    have h2 := h.2 i x hi
    have hil : i < xs.length := (List.getElem?_eq_some_iff.1 hi).1
    rcases Nat.lt_or_gt_of_ne hij with hlt | hgt
    · have hle : i * t.sz + t.sz ≤ j * t.sz := by rw [← Nat.succ_mul]; exact Nat.mul_le_mul_right _ hlt
      rw [List.append_assoc, List.drop_append_of_le_length (by omega), List.take_append_of_le_length (by rw [List.length_drop]; omega), List.drop_take, List.take_take, Nat.min_eq_left (by omega)]
      exact h2
    · have hle : j * t.sz + t.sz ≤ i * t.sz := by rw [← Nat.succ_mul]; exact Nat.mul_le_mul_right _ hgt
      rw [List.drop_append, List.drop_of_length_le (by simp [hcl]; omega), List.nil_append, List.length_append, htl, hcl, List.drop_drop, show j * t.sz + t.sz + (i * t.sz - (j * t.sz + t.sz)) = i * t.sz by omega]
      exact h2
theorem splice_eq (cs us : List Value) (a b o n : Nat) (hn : us.length = n) (hob : o + n ≤ b) (hab : a + b ≤ cs.length) :
    cs.take (a + o) ++ us ++ cs.drop (a + o + n) = cs.take a ++ (((cs.drop a).take b).take o ++ us ++ ((cs.drop a).take b).drop (o + us.length)) ++ cs.drop (a + b) := by
  have h1 : cs.take (a + o) = cs.take a ++ (cs.drop a).take o := List.take_add
  have h2 : cs.drop (a + o + n) = ((cs.drop a).take b).drop (o + n) ++ cs.drop (a + b) := by
    rw [List.drop_take, List.drop_drop, show a + (o + n) = a + o + n by omega]
    have : cs.drop (a + b) = (cs.drop (a + o + n)).drop (b - (o + n)) := by rw [List.drop_drop]; congr 1; omega
    rw [this, List.take_append_drop]
  rw [h1, h2, hn, List.take_take, Nat.min_eq_left (by omega)]
  simp [List.append_assoc]

/-- What may lie in a variable of one cell beside plain data. -/
def cellAV : AV → Bool
  | .own _ _ _ _ => true
  | .full _ _ => true
  | .nilS => true
  | .fn _ _ => true
  | .optr _ _ _ _ => true
  | .cptr _ => true
  | .data t _ => !t.agg
  | _ => false
theorem cellAV_one {av : AV} (h : cellAV av = true) {v : Value} (hm : Match S w γ av v) : v.oneCell' = true ∧ v.cells.toList = [v] := by
  cases av with
  | own s t off n => obtain ⟨A, c, rfl, _⟩ := own_slice hm; exact ⟨rfl, rfl⟩
  | nilS => simp only [Match] at hm; subst hm; exact ⟨rfl, rfl⟩
  | fn f caps => simp only [Match] at hm; obtain ⟨vs, rfl, _⟩ := hm; exact ⟨rfl, rfl⟩
  | full s t => simp only [Match] at hm; obtain ⟨_, A, n, c, rfl⟩ := hm; exact ⟨rfl, rfl⟩
  | optr s t j p => simp only [Match] at hm; obtain ⟨g, n, cap, _, rfl⟩ := hm; exact ⟨rfl, rfl⟩
  | cptr s => simp only [Match] at hm; obtain ⟨g, n, cap, _, rfl⟩ := hm; exact ⟨rfl, rfl⟩
  | data t x =>
    simp only [Match] at hm
    obtain ⟨cs, hr, rfl⟩ := hm
    simp only [cellAV, Bool.not_eq_true'] at h
    have h1 := toVal_one h hr
    have h2 := hr.one
    rw [h1] at h2
    refine ⟨h2 _ (by simp), ?_⟩
    have := hr.cells
    rw [h1] at this
    cases t <;> first | (cases h; done) | simpa [toVal] using this
  | _ => cases h
def absStore (Γ : Env) (st : St) (T : TypeId) (x y : AV) : Option (St × List Prop) :=
  match x with
  | .optr s t j p => (match get st.heap s, t.sub p, Γ.ty T with
    | some (.row e t' xs false), some tp, some t2 => if Ty.beq t' t && Ty.beq t2 tp then
        (match castTo tp y with
        | some z => (match elemAt t' xs j with
          | some (x0, ps) => (match updp t' x0 p ⟨tp, z⟩ with
            | some x' => some ({ st with heap := (s, .row e t' (setAt t' xs x' j) false) :: st.heap }, ps)
            | none => none)
          | none => none)
        | none => none)
      else none
    | _, _, _ => none)
  | .cptr s => (match get st.heap s with
    | some (.cell e _) => if cellAV y && Γ.one T then some ({ st with heap := (s, .cell e y) :: st.heap }, []) else none
    | _ => none)
  | _ => none
theorem InfoIs.sizeOf {T : TypeId} {z : Value} {n : Nat} (h : InfoIs P T z n) (w : World) : (Go.sizeOf T).run P w = .ok n w := by
  obtain ⟨i, h1, _, h3⟩ := h.get
  simp [Go.sizeOf, typeInfo, h1, h3]
theorem absStore_ok (hΓ : EnvOk Γ) (hc : Core w0 M S0 S γ st a w) {T : TypeId} {x y : AV} {st' : St} {ps : List Prop} (h : absStore Γ st T x y = some (st', ps)) (hps : ∀ p ∈ ps, p) {ux uy : Value} (hx : Match S w γ x ux) (hy : Match S w γ y uy) :
    ∃ w', (Instr.storeAt T ux uy).run Γ.P w = .ok () w' ∧ Core w0 M S0 S γ st' a w' := by
  unfold absStore at h
  split at h
  · rename_i s t j p
    split at h
    · rename_i e t' xs tp t2 hs htp ht
      split at h
      · rename_i hb
        simp only [Bool.and_eq_true] at hb
        obtain rfl := Ty.eq_of_beq hb.1
        obtain rfl := Ty.eq_of_beq hb.2
        split at h
        · rename_i z hz
          split at h
          · rename_i x0 ps0 hel
            split at h
            · rename_i x' hx'
              simp only [Option.some.injEq, Prod.mk.injEq] at h
              obtain ⟨rfl, rfl⟩ := h
              obtain ⟨hj0, hset⟩ := elemAt_ok hel hps
              have hj : j.getD 0 < List.length xs := (List.getElem?_eq_some_iff.1 hj0).1
              rw [hset]
              obtain ⟨us, hus, rfl⟩ := castTo_ok hy hz
              simp only [Match] at hx
              obtain ⟨g, n, cap, hg, rfl⟩ := hx
              obtain ⟨⟨⟨cs, ho, hr⟩, hmut⟩, _⟩ := hc.obj s _ hs
              have ho0 := ho
              rw [hg] at ho
              have hn : n = List.length xs := by
                rcases ho.2 with ⟨h, _⟩ | ⟨_, _, _, h, _⟩
                · cases h
                · injection h
              subst hn
              have hxj := hr.2 _ _ hj0
              obtain ⟨h1, _, h3⟩ := rep_updp hxj hus hx'
              have hb2 : j.getD 0 * t'.sz + t'.sz ≤ cs.length := by rw [hr.1, ← Nat.succ_mul]; exact Nat.mul_le_mul_right _ hj
              obtain ⟨g1, g2⟩ := setCells_own us (j.getD 0 * t'.sz + t'.offs p) ho (by omega)
              have hcell : ∀ i, i < us.length → (w.cell? ⟨g, j.getD 0 * t'.sz + t'.offs p + i, none⟩).isSome = true := fun i hi => by
                have hlt : j.getD 0 * t'.sz + t'.offs p + i < cs.length := by omega
                have := own_cellAt ho _ _ (List.getElem?_eq_getElem hlt)
                rw [Nat.zero_add] at this
                rw [this]; rfl
              refine ⟨_, store_run hus.cells (by rw [hus.len]; exact (hΓ.is ht).sizeOf w) hcell (fun i _ => ho.frozenAt _) hus.one, ?_⟩
              have hgrown : w.grownBy (w.setCells g (j.getD 0 * t'.sz + t'.offs p) us) (γ s).ownBlock := by rw [hg]; exact g2
              have hag : Agree S w (w.setCells g (j.getD 0 * t'.sz + t'.offs p) us) := fun k hk => hgrown.block k (hc.slt k hk) (fun e => by have := (hmut k e.symm).1 hk; cases this)
              refine hc.wrote hs hgrown ⟨_, ?_, (hr.set hj h1).mono (fun _ h => h) hag⟩
              rw [hg, List.length_set]
              have := splice_eq cs us (j.getD 0 * t'.sz) t'.sz (t'.offs p) us.length rfl h3 hb2
              rw [← this]
              exact g1
            · cases h
          · cases h
        · cases h
      · cases h
    · cases h
  · rename_i s
    split at h
    · rename_i e av0 hs
      split at h
      · rename_i hcond
        simp only [Bool.and_eq_true] at hcond
        simp only [Option.some.injEq, Prod.mk.injEq] at h
        obtain ⟨rfl, rfl⟩ := h
        simp only [Match] at hx
        obtain ⟨g, n, cap, hg, rfl⟩ := hx
        obtain ⟨⟨⟨u0, ho, hm0, _⟩, hmut⟩, _⟩ := hc.obj s _ hs
        have ho0 := ho
        rw [hg] at ho
        have hn : n = 1 := by
          rcases ho.2 with ⟨h, _⟩ | ⟨_, _, _, h, _⟩
          · cases h
          · injection h
        subst hn
        obtain ⟨h1, h2⟩ := cellAV_one hcond.1 hy
        obtain ⟨⟨z, hz, _⟩, _⟩ := cellT hΓ hcond.2
        obtain ⟨g1, g2⟩ := setCells_own [uy] 0 ho (by simp)
        have hcell : (w.cell? ⟨g, 0, none⟩) = some u0 := by
          have := own_cellAt ho 0 u0 rfl
          simpa using this
        refine ⟨_, store_run h2 (by simpa using hz.sizeOf w) (fun i hi => by
          have : i = 0 := by simpa using hi
          subst this
          rw [Nat.add_zero, hcell]; rfl) (fun i _ => ho.frozenAt _) (by simpa using h1), ?_⟩
        have hgrown : w.grownBy (w.setCells g 0 [uy]) (γ s).ownBlock := by rw [hg]; exact g2
        have hag : Agree S w (w.setCells g 0 [uy]) := fun k hk => hgrown.block k (hc.slt k hk) (fun e => hmut k e.symm hk)
        refine hc.wroteOb hs rfl hmut hgrown ⟨⟨uy, ?_, hy.mono (fun _ h => h) hag (fun _ _ => rfl), h1⟩, hmut⟩
        rw [hg]
        simpa using g1
      · cases h
    · cases h
  · cases h
end
end Go.Abs
