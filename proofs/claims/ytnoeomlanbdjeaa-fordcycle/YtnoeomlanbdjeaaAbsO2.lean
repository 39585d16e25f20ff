/- Part of the proof of the law's row: YtnoeomlanbdjeaaAbsO2. -/
import Derived.Test.YtnoeomlanbdjeaaAbsO
set_option linter.all false
set_option linter.unusedVariables false
set_option linter.unusedSimpArgs false
namespace Go.Abs
open Go.RowKit

/-! ### A cut of three indexes; copy -/
/-- A piece of a row of one's own, with no more room than is told: it takes the row's place. -/
def absCut3 (Γ : Env) (st : St) (d : Nat) (T : TypeId) (x : AV) (lo : Option AV) (hi mx : AV) : Option (St × List Prop) :=
  match Γ.ty T, x with
  | some (.sl _ t), .own s t' off n => (match get st.heap s with
    | some (.row e' t2 xs false) => if Ty.beq t' t && (Ty.beq t2 t' && st.ok d) then
        (match bnd 0 lo, bnd ((n : Nat) : Int) (some hi), bnd 0 (some mx) with
        | some l, some h, some m => some (appRow st s d e' t2 (List.take (h.toNat - l.toNat) (dropZ (addZ off l.toNat) xs)), [0 ≤ l, l ≤ h, h ≤ m, ((off : Nat) : Int) + m ≤ ((List.length xs : Nat) : Int)])
        | _, _, _ => none)
      else none
    | _ => none)
  | _, _ => none
/-- What a copy leaves in a row. -/
def copyL {α : Type} (off n : Nat) (xs ys : List α) : List α := List.take off xs ++ (List.take n ys ++ List.drop (off + min n (List.length ys)) xs)
def absCopy (Γ : Env) (st : St) (d : Nat) (T : TypeId) (x y : AV) : Option (St × List Prop) :=
  match Γ.ty T, x with
  | some (.sl e t), .own s t' off n => (match get st.heap s, readSl st e t y with
    | some (.row e' t2 xs false), some (ys, ps) => if Ty.beq t' t && (Ty.beq t2 t' && st.ok d) then
        (match Ty.cast (.sl e t) (.sl e t2) ys with
        | some ys' => some ({ st with slots := (d, .data (.int .i64) ((min n (List.length ys) : Nat) : Int)) :: st.slots, heap := (s, .row e' t2 (copyL off n xs ys') false) :: st.heap }, ps ++ [off + n ≤ List.length xs])
        | none => none)
      else none
    | _, _ => none)
  | _, _ => none
/-- An append that finds room in the row. -/
def absAppIn (Γ : Env) (st : St) (d : Nat) (T : TypeId) (x y : AV) : Option (St × List Prop) :=
  match Γ.ty T, x with
  | some (.sl e t), .own s t' off n => (match get st.heap s, readSl st e t y with
    | some (.row e' t2 xs false), some (ys, ps) => if Ty.beq t' t && (Ty.beq t2 t' && (st.ok d && decide (0 < t.sz))) then
        (match Ty.cast (.sl e t) (.sl e t2) ys with
        | some ys' => some ({ st with slots := (d, .own s t' off (n + List.length ys)) :: st.slots, heap := (s, .row e' t2 (List.take (addZ off n) xs ++ (ys' ++ List.drop (addZ off n + List.length ys') xs)) false) :: st.heap }, ps ++ [addZ off n + List.length ys ≤ List.length xs, 0 < List.length ys])
        | none => none)
      else none
    | _, _ => none)
  | _, _ => none
section
variable {P : Program} {S : Nat → Prop} {w : World} {γ : Nat → Value} {Γ : Env} {w0 : World} {M S0 : Nat → Prop} {st : St} {a : Act}
theorem bounds3_ok {len cap : Nat} {low : Option Value} {l h m : Int} {kh km : IntKind} (hl : (low = none ∧ l = 0) ∨ ∃ k, low = some (.int k l)) (h0 : 0 ≤ l) (h1 : l ≤ h) (h2 : h ≤ m) (h3 : m ≤ cap) (w : World) :
    (Instr.sliceBounds true len cap low (some (.int kh h)) (some (.int km m))).run P w = .ok (l.toNat, h.toNat, m.toNat) w := by
  have eh : ((h.toNat : Nat) : Int) = h := Int.toNat_of_nonneg (by omega)
  have em : ((m.toNat : Nat) : Int) = m := Int.toNat_of_nonneg (by omega)
  rcases hl with ⟨rfl, rfl⟩ | ⟨k, rfl⟩
  · simp [Instr.sliceBounds, Instr.sliceBound, asIntOf, h1, h2, h3, em, eh, show 0 ≤ m by omega, show 0 ≤ h by omega]
  · simp [Instr.sliceBounds, Instr.sliceBound, asIntOf, h0, h1, h2, h3, em, eh, show 0 ≤ m by omega, show 0 ≤ h by omega]
theorem absCut3_ok (hΓ : EnvOk Γ) (hc : Core w0 M S0 S γ st a w) {d : Nat} {T : TypeId} {x hi mx : AV} {lo : Option AV} {st' : St} {ps : List Prop} (h : absCut3 Γ st d T x lo hi mx = some (st', ps)) (hps : ∀ p ∈ ps, p)
    {ux uh um : Value} {ul : Option Value} (hx : Match S w γ x ux) (hlo : OptMatch S w γ lo ul) (hhi : Match S w γ hi uh) (hmx : Match S w γ mx um) :
    ∃ r γ', (Instr.sliceAt T ux ul (some uh) (some um)).run Γ.P w = .ok r w ∧ Core w0 M S0 S γ' st' (a.put (some d) r) w := by
  unfold absCut3 at h
  split at h
  · rename_i e t s t' off n ht
    split at h
    · rename_i e' t2 xs hs
      split at h
      · rename_i hcond
        simp only [Bool.and_eq_true] at hcond
        obtain ⟨hb1, hb2, hd⟩ := hcond
        obtain rfl := Ty.eq_of_beq hb1
        obtain rfl := Ty.eq_of_beq hb2
        split at h
        · rename_i l hh m hbl hbh hbm
          simp only [Option.some.injEq, Prod.mk.injEq] at h
          obtain ⟨rfl, rfl⟩ := h
          have l0 : 0 ≤ l := hps _ (by simp)
          have l1 : l ≤ hh := hps (l ≤ hh) (by simp)
          have l2 : hh ≤ m := hps (hh ≤ m) (by simp)
          have l3 : ((off : Nat) : Int) + m ≤ ((List.length xs : Nat) : Int) := hps (((off : Nat) : Int) + m ≤ ((List.length xs : Nat) : Int)) (by simp)
          rw [dropZ_eq, addZ_eq]
          obtain ⟨hu, _, hte⟩ := hΓ.is ht
          obtain ⟨kh, rfl⟩ : ∃ k, uh = .int k hh := idx_ok hbh hhi
          obtain ⟨km, rfl⟩ : ∃ k, um = .int k m := idx_ok hbm hmx
          have hul := bnd_ok hbl hlo
          obtain ⟨⟨⟨cs, ho, hr⟩, hmut⟩, hM⟩ := hc.obj s _ hs
          have hrun : ∀ {A : Option Addr} {len cap : Nat}, ux = .slice A len cap → m ≤ cap → (Instr.sliceAt T ux ul (some (.int kh hh)) (some (.int km m))).run Γ.P w = .ok (.slice (if m.toNat = l.toNat then A else A.map (·.add (l.toNat * t2.sz))) (hh.toNat - l.toNat) (m.toNat - l.toNat)) w := by
            intro A len cap he hcap
            subst he
            simp only [Instr.sliceAt, Sem.run_bind, run_underlying hu, Result.andThen_ok, Instr.slice, bounds3_ok hul l0 l1 l2 hcap, hte.sizeOf w, Sem.run_pure]
          have hlen : (List.take (hh.toNat - l.toNat) (List.drop (off + l.toNat) xs)).length = hh.toNat - l.toNat := by rw [List.length_take, List.length_drop]; omega
          have fin : ∀ {v : Value}, (∃ cs, Owns w e' t2.sz v (hh.toNat - l.toNat) cs ∧ RepRow S w t2 (List.take (hh.toNat - l.toNat) (List.drop (off + l.toNat) xs)) cs) → v.ownBlock = (γ s).ownBlock →
              ∃ γ', Core w0 M S0 S γ' (appRow st s d e' t2 (List.take (hh.toNat - l.toNat) (List.drop (off + l.toNat) xs))) (a.put (some d) v) w := by
            rintro v ⟨cs', k1, k2⟩ hob
            have hcore := hc.moved (w' := w) (s := s) (d := d) (hv := v) (o := .row e' t2 (List.take (hh.toNat - l.toNat) (List.drop (off + l.toNat) xs)) false) hs ⟨rfl, rfl, rfl, Nat.le_refl _, fun _ _ _ => rfl⟩
              ⟨⟨cs', by rw [hlen]; exact k1, k2⟩, fun k hk => by rw [k1.blk, hob] at hk; exact hmut k (.inl hk)⟩ (fun k hk => .inl (by rw [k1.blk, hob] at hk; exact .inl hk))
            exact ⟨_, hcore.put hd (header_full k1 (upd_same γ d v))⟩
          simp only [Match] at hx
          rcases hx with ⟨rfl, rfl, hg, rfl⟩ | ⟨g, o, n2, cap, hg, hle, p, rfl, hp, hA⟩
          · rw [hg] at ho
            have hx0 : List.length xs = 0 := by
              rcases ho.2 with ⟨_, h⟩ | ⟨g, o, cap, cur, h, _⟩
              · exact h
              · cases h
            have hm0 : m = 0 := by omega
            have hh0 : hh = 0 := by omega
            have hl0 : l = 0 := by omega
            subst hm0 hh0 hl0
            obtain ⟨γ', h3⟩ := fin (v := .slice none 0 0) ⟨[], by simpa using Owns.nil w e' t2.sz, by simp [RepRow]⟩ (by rw [hg])
            exact ⟨_, γ', hrun rfl (by simp), by simpa using h3⟩
          · rw [hg] at ho
            have hn2 := ho.len_is
            subst hn2
            have hcap : List.length xs ≤ cap := (Owns.wide ho).1
            have hrow := (hr.drop (off + l.toNat)).take (hh.toNat - l.toNat) (by rw [List.length_drop]; omega)
            by_cases hml : m.toNat = l.toNat
            · have hk0 : hh.toNat - l.toNat = 0 := by omega
              have k1 := ho.part (off := off) (k := 0) (p := p) (by omega) hp hA
              have k2 := k1.clip (cap' := 0) (by omega) (by omega)
              have hrun' := hrun (A := some ⟨g, p, none⟩) rfl (by omega)
              rw [if_pos hml, hk0, show m.toNat - l.toNat = 0 by omega] at hrun'
              rw [hk0] at fin hrow ⊢
              obtain ⟨γ', h3⟩ := fin (v := .slice (some ⟨g, p, none⟩) 0 0) ⟨[], by simpa using k2, by simp [RepRow]⟩ (by rw [hg]; rfl)
              exact ⟨_, γ', hrun', h3⟩
            · have hpe : p = o + off * t2.sz := hA (.inr (by omega))
              have hrun' := hrun (A := some ⟨g, p, none⟩) rfl (by omega)
              rw [if_neg hml] at hrun'
              have k1 := ho.part (off := off + l.toNat) (k := hh.toNat - l.toNat) (p := p + l.toNat * t2.sz) (by omega) (by rw [hpe, Nat.add_mul]; omega) (fun _ => by rw [hpe, Nat.add_mul]; omega)
              have k2 := k1.clip (cap' := m.toNat - l.toNat) (by omega) (by omega)
              obtain ⟨γ', h3⟩ := fin (v := .slice (some ⟨g, p + l.toNat * t2.sz, none⟩) (hh.toNat - l.toNat) (m.toNat - l.toNat)) ⟨_, k2, hrow⟩ (by rw [hg]; rfl)
              refine ⟨_, γ', hrun', ?_⟩
              simpa [add_mul_sz] using h3
        · cases h
      · cases h
    · cases h
  · cases h
theorem absCopy_ok (hΓ : EnvOk Γ) (hc : Core w0 M S0 S γ st a w) {d : Nat} {T T' : TypeId} {x y : AV} {st' : St} {ps : List Prop} (h : absCopy Γ st d T x y = some (st', ps)) (hps : ∀ p ∈ ps, p) {ux uy : Value} (hx : Match S w γ x ux) (hy : Match S w γ y uy) (ty : TypeId) :
    ∃ r w', (Builtin.copy_ #[T, T'] ty #[ux, uy]).run Γ.P w = .ok r w' ∧ Core w0 M S0 S γ st' (a.put (some d) r) w' := by
  unfold absCopy at h
  split at h
  · rename_i e t s t' off n ht
    split at h
    · rename_i e' t2 xs ys qs hs hrd
      split at h
      · rename_i hcond
        simp only [Bool.and_eq_true] at hcond
        obtain ⟨hb1, hb2, hd⟩ := hcond
        obtain rfl := Ty.eq_of_beq hb1
        obtain rfl := Ty.eq_of_beq hb2
        split at h
        · rename_i ys' hys
          simp only [Option.some.injEq, Prod.mk.injEq] at h
          obtain ⟨rfl, rfl⟩ := h
          obtain ⟨e1, e2⟩ := Ty.cast_some hys
          have e2 : ys = ys' := e2
          subst e2
          obtain ⟨A, c, rfl, hA, hcell⟩ := readSl_ok hc hrd (fun p hp => hps p (List.mem_append.2 (.inl hp))) hy
          have hle : off + n ≤ List.length xs := hps _ (List.mem_append.2 (.inr (List.mem_cons_self ..)))
          obtain ⟨hu, _, hte⟩ := hΓ.is ht
          obtain ⟨i, hi, hz0, hsz⟩ := hte.info.get
          obtain ⟨⟨⟨cs, ho, hr⟩, hmut⟩, hM⟩ := hc.obj s _ hs
          have hk1 : min n (List.length ys) ≤ n := Nat.min_le_left ..
          have hk2 : min n (List.length ys) ≤ List.length ys := Nat.min_le_right ..
          have hmin : Nat.min (List.length ys) n = min n (List.length ys) := Nat.min_comm ..
          -- the source's cells
          obtain ⟨ds, hdl, hds, hrow, hone⟩ : ∃ ds : List Value, ds.length = min n (List.length ys) * t2.sz ∧ (∀ ad, A = some ad → ∀ j u, ds[j]? = some u → w.cell? (ad.add j) = some u) ∧ RepRow S w t2 (List.take (min n (List.length ys)) ys) ds ∧ (A = none → min n (List.length ys) = 0) := by
            cases A with
            | none =>
              have := hA rfl
              subst this
              exact ⟨[], by simp, fun ad h => (by cases h), by simp [RepRow], fun _ => by simp⟩
            | some ad =>
              obtain ⟨ds, h1, h2⟩ := hcell ad rfl
              have h3 := h2.take (min n (List.length ys)) hk2
              refine ⟨ds.take (min n (List.length ys) * t2.sz), by rw [List.length_take, h2.1]; exact Nat.min_eq_left (Nat.mul_le_mul_right _ hk2), fun ad' had j u hj => ?_, h3, fun h => (by cases h)⟩
              injection had with had
              subst had
              rw [List.getElem?_take] at hj
              split at hj
              · exact h1 j u hj
              · cases hj
          have hlist : copyL off n xs ys = List.take off xs ++ List.take (min n (List.length ys)) ys ++ List.drop (off + min n (List.length ys)) xs := by
            unfold copyL
            rw [List.append_assoc]
            congr 2
            rcases Nat.le_total n (List.length ys) with h | h
            · rw [Nat.min_eq_left h]
            · rw [Nat.min_eq_right h, List.take_of_length_le h, List.take_of_length_le (Nat.le_refl _)]
          have hclen : (copyL off n xs ys).length = xs.length := by
            rw [hlist]
            simp only [List.length_append, List.length_take, List.length_drop]
            omega
          have hrow' : RepRow S w t2 (copyL off n xs ys) (cs.take (off * t2.sz) ++ ds ++ cs.drop (off * t2.sz + ds.length)) := by
            rw [hlist, hdl, ← Nat.add_mul]
            exact ((hr.take off (by omega)).append hrow).append (hr.drop _)
          have fc : (Builtin.firstCells t2.sz (Nat.min (List.length ys) n) (.slice A (List.length ys) c)).run Γ.P w = .ok (if A.isSome then ds.toArray else #[]) w := by
            cases A with
            | none => exact run_firstCells_none (P := Γ.P) w _ _ _ _
            | some ad =>
              rw [hmin]
              exact run_firstCells_some (P := Γ.P) w t2.sz _ ad _ c ds hdl (hds ad rfl)
          have lenv : (Builtin.lenOf (.slice A (List.length ys) c)).run Γ.P w = .ok (List.length ys) w := rfl
          simp only [Match] at hx
          rcases hx with ⟨rfl, rfl, hg, rfl⟩ | ⟨g, o, n2, cap, hg, hoc, p, rfl, hp, hA2⟩
          · have hk0 : min 0 (List.length ys) = 0 := Nat.zero_min _
            have hd0 : ds = [] := List.eq_nil_of_length_eq_zero (by rw [hdl, hk0, Nat.zero_mul])
            subst hd0
            refine ⟨goInt 0, w, ?_, ?_⟩
            · rw [show Nat.min (List.length ys) 0 = 0 from Nat.min_zero _] at fc
              simp [Builtin.copy_, Sem.run_bind, run_underlying hu, Result.andThen_ok, lenv, hte.sizeOf w, fc]
            · have hx0 : copyL 0 0 xs ys = xs := by simp [copyL]
              rw [hx0]
              have := (hc.wrote (w' := w) hs ⟨rfl, rfl, rfl, Nat.le_refl _, fun _ _ _ => rfl⟩ ⟨cs, ho, hr⟩).put (d := d) hd (av := .data (.int .i64) ((min 0 (List.length ys) : Nat) : Int)) (v := goInt 0) (by rw [hk0]; exact match_int.2 rfl)
              exact this
          · rw [hg] at ho
            have hn2 := ho.len_is
            subst hn2
            have hcsl : off * t2.sz + ds.length ≤ cs.length := by
              rw [hr.1, hdl, ← Nat.add_mul]; exact Nat.mul_le_mul_right _ (by omega)
            have hpe : ds ≠ [] → p = o + off * t2.sz := fun hne => hA2 (.inr (by
              have : 0 < ds.length := List.length_pos_iff.2 hne
              have : 0 < min n (List.length ys) := by
                rcases Nat.eq_zero_or_pos (min n (List.length ys)) with h | h
                · rw [hdl, h, Nat.zero_mul] at this; omega
                · exact h
              omega))
            have hA3 : A.isSome = true ∨ ds = [] := by
              cases A with
              | none => exact .inr (List.eq_nil_of_length_eq_zero (by rw [hdl, hone rfl, Nat.zero_mul]))
              | some _ => exact .inl rfl
            have harr : (if A.isSome then ds.toArray else #[]) = ds.toArray := by
              rcases hA3 with h | h
              · rw [if_pos h]
              · rw [h]; simp
            rw [harr] at fc
            obtain ⟨k1, k2⟩ := ho.setCells ds (off * t2.sz) hcsl
            have hst : (storeCells ⟨g, p, none⟩ ds).run Γ.P w = .ok () (w.setCells g (o + off * t2.sz) ds) := by
              by_cases hne : ds = []
              · subst hne; rfl
              · rw [hpe hne]
                have := run_storeCells_cells (P := Γ.P) g (o + off * t2.sz) ds 0 w (fun j hj => by
                  have hlt : off * t2.sz + j < cs.length := by omega
                  have := ho.cells _ _ (List.getElem?_eq_getElem hlt)
                  rw [show o + off * t2.sz + 0 + j = o + (off * t2.sz + j) by omega, this]; rfl) (fun j _ => ho.frozenAt _) hrow.one
                simpa using this
            have hgrown : w.grownBy (w.setCells g (o + off * t2.sz) ds) (γ s).ownBlock := by rw [hg]; exact k2
            have hag : Agree S w (w.setCells g (o + off * t2.sz) ds) := fun k hk => hgrown.block k (hc.slt k hk) (fun e => by have := (hmut k (.inl e.symm)).1 hk; cases this)
            refine ⟨goInt ((min n (List.length ys) : Nat) : Int), w.setCells g (o + off * t2.sz) ds, ?_, ?_⟩
            · rw [hmin] at fc
              simp only [Builtin.copy_, List.getElem?_toArray, Sem.run_bind, run_underlying hu, Result.andThen_ok, lenv, hte.sizeOf w, fc, hst, hmin, List.getElem?_cons_zero, List.getElem?_cons_succ, Sem.run_pure]
            · have hcw := hc.wrote hs hgrown (ys := copyL off n xs ys) ⟨_, by rw [hg, hclen]; exact k1, hrow'.mono (fun _ h => h) hag⟩
              exact hcw.put (d := d) hd (av := .data (.int .i64) ((min n (List.length ys) : Nat) : Int)) (match_int.2 rfl)
        · cases h
      · cases h
    · cases h
  · cases h
theorem absAppIn_ok (hΓ : EnvOk Γ) (hc : Core w0 M S0 S γ st a w) {d : Nat} {T : TypeId} {x y : AV} {st' : St} {ps : List Prop} (h : absAppIn Γ st d T x y = some (st', ps)) (hps : ∀ p ∈ ps, p) {ux uy : Value} (hx : Match S w γ x ux) (hy : Match S w γ y uy) (ty : TypeId) :
    ∃ r w', (Builtin.append_ #[T, T] ty #[ux, uy]).run Γ.P w = .ok r w' ∧ Core w0 M S0 S γ st' (a.put (some d) r) w' := by
  unfold absAppIn at h
  split at h
  · rename_i e t s t' off n ht
    split at h
    · rename_i e' t2 xs ys qs hs hrd
      split at h
      · rename_i hcond
        simp only [Bool.and_eq_true, decide_eq_true_eq] at hcond
        obtain ⟨hb1, hb2, hd, hz⟩ := hcond
        obtain rfl := Ty.eq_of_beq hb1
        obtain rfl := Ty.eq_of_beq hb2
        split at h
        · rename_i ys' hys
          simp only [Option.some.injEq, Prod.mk.injEq] at h
          obtain ⟨rfl, rfl⟩ := h
          obtain ⟨e1, e2⟩ := Ty.cast_some hys
          have e2 : ys = ys' := e2
          subst e2
          obtain ⟨A, c, rfl, hA, hcell⟩ := readSl_ok hc hrd (fun p hp => hps p (List.mem_append.2 (.inl hp))) hy
          have hle : addZ off n + List.length ys ≤ List.length xs := hps _ (List.mem_append.2 (.inr (List.mem_cons_self ..)))
          have hpos : 0 < List.length ys := hps (0 < List.length ys) (by simp)
          rw [addZ_eq] at hle ⊢
          obtain ⟨hu, _, hte⟩ := hΓ.is ht
          obtain ⟨i, hi, hz0, hsz⟩ := hte.info.get
          obtain ⟨⟨⟨cs, ho, hr⟩, hmut⟩, hM⟩ := hc.obj s _ hs
          cases A with
          | none => rw [hA rfl] at hpos; exact absurd hpos (by simp)
          | some ad =>
            obtain ⟨ds, hds, hrd2⟩ := hcell ad rfl
            have hdl := hrd2.1
            have hrow' : RepRow S w t2 (List.take (off + n) xs ++ (ys ++ List.drop (off + n + List.length ys) xs)) (cs.take ((off + n) * t2.sz) ++ ds ++ cs.drop ((off + n) * t2.sz + ds.length)) := by
              rw [hdl, ← Nat.add_mul, ← List.append_assoc]
              exact ((hr.take (off + n) (by omega)).append hrd2).append (hr.drop _)
            have hclen : (List.take (off + n) xs ++ (ys ++ List.drop (off + n + List.length ys) xs)).length = xs.length := by
              simp only [List.length_append, List.length_take, List.length_drop]
              omega
            simp only [Match] at hx
            rcases hx with ⟨rfl, rfl, hg, rfl⟩ | ⟨g, o, n2, cap, hg, hoc, p, rfl, hp, hA2⟩
            · exfalso
              rw [hg] at ho
              rcases ho.2 with ⟨_, h0⟩ | ⟨g, o, cap, cur, h1, _⟩
              · omega
              · cases h1
            · rw [hg] at ho
              have hn2 := ho.len_is
              subst hn2
              have hcap : List.length xs ≤ cap := (Owns.wide ho).1
              obtain rfl := hA2 (.inr (by omega))
              have hcsl : (off + n) * t2.sz + ds.length ≤ cs.length := by
                rw [hr.1, hdl, ← Nat.add_mul]; exact Nat.mul_le_mul_right _ (by omega)
              obtain ⟨k1, k2⟩ := ho.setCells ds ((off + n) * t2.sz) hcsl
              have e0 : (off + n) * t2.sz = off * t2.sz + n * t2.sz := Nat.add_mul ..
              have hrun := run_append_room_cells (P := Γ.P) w T ty e i hu hi g (o + off * t2.sz) n (cap - off) ad ys.length c ds (by rw [hsz]; exact hdl) hds hrd2.one (by omega) (by
                rw [hsz]
                intro j hj
                have hlt : (off + n) * t2.sz + j < cs.length := by omega
                have := ho.cells _ _ (List.getElem?_eq_getElem hlt)
                rw [show o + off * t2.sz + n * t2.sz + j = o + ((off + n) * t2.sz + j) by omega, this]; rfl) (fun j _ => ho.frozenAt _)
              rw [hsz, show o + off * t2.sz + n * t2.sz = o + (off + n) * t2.sz by omega] at hrun
              have hgrown : w.grownBy (w.setCells g (o + (off + n) * t2.sz) ds) (γ s).ownBlock := by rw [hg]; exact k2
              have hag : Agree S w (w.setCells g (o + (off + n) * t2.sz) ds) := fun k hk => hgrown.block k (hc.slt k hk) (fun e => by have := (hmut k (.inl e.symm)).1 hk; cases this)
              refine ⟨_, _, hrun, ?_⟩
              have hcw := hc.wrote hs hgrown (ys := List.take (off + n) xs ++ (ys ++ List.drop (off + n + List.length ys) xs)) ⟨_, by rw [hg, hclen]; exact k1, hrow'.mono (fun _ h => h) hag⟩
              refine hcw.put (d := d) hd ?_
              simp only [Match]
              exact .inr ⟨g, o, _, cap, hg, by omega, _, rfl, Nat.le_refl _, fun _ => rfl⟩
        · cases h
      · cases h
    · cases h
  · cases h
end
end Go.Abs
