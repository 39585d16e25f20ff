/- Part of the proof of the law's row: YtnoeomlanbdjeaaAbsT4. -/
import Derived.Test.YtnoeomlanbdjeaaAbsT3
set_option linter.all false
set_option linter.unusedVariables false
set_option linter.unusedSimpArgs false
namespace Go.Abs
open Go.RowKit

/-! ### Slices without spare room: what is put behind them stands in a row that is new -/
def absClip (Γ : Env) (st : St) (d : Nat) (T : TypeId) (x : AV) (hi mx : AV) : Option (St × List Prop) :=
  match Γ.ty T with
  | some (.sl e t) => (match castTo (.sl e t) x, castTo (.int .i64) hi, castTo (.int .i64) mx with
    | some xs, some h, some m => if st.ok d then some ({ st with slots := (d, .clip e t (List.take (Int.toNat h) xs)) :: st.slots }, [(0 : Int) ≤ h, h = m, h ≤ ((List.length xs : Nat) : Int), 0 < List.length xs]) else none
    | _, _, _ => none)
  | _ => none
def absClipApp (Γ : Env) (st : St) (d : Nat) (T : TypeId) (x y : AV) : Option (St × List Prop) :=
  match Γ.ty T, x with
  | some (.sl e t), .clip e' t' xs => (match get Γ.tys e, readSl st e t y, Ty.cast (.sl e' t') (.sl e t) xs with
    | some (t1, b), some (ys, ps), some zs =>
      if Ty.beq t1 t && (decide (0 < t.sz) && (decide (0 < b) && st.ok d)) then
        some ({ st with slots := (d, .data (.sl e t) (zs ++ ys)) :: st.slots }, ps ++ [(List.length zs + List.length ys) * b ≤ 140737488355328])
      else none
    | _, _, _ => none)
  | _, _ => none
def stepClip (Γ : Env) (st : St) (o : Oper) : Option (St × List Prop) :=
  match o.op, o.dst with
  | .slice T x none (some hi) (some mx), some d => (match opd st x, opd st hi, opd st mx with
    | some (a, p), some (h, p2), some (m, p3) => (match absClip Γ st d T a h m with
      | some (st', q) => some (st', p ++ (p2 ++ (p3 ++ q)))
      | none => none)
    | _, _, _ => none)
  | .call c, some d => (match c.callee, c.args.toList, c.argTypes.toList with
    | .builtin .append, [x, y], [T, T'] => if T = T' then (match (opdRaw st x).map bareAV, opd st y with
      | some (a, p), some (b, p') => (match absClipApp Γ st d T a b with
        | some (st', q) => some (st', p ++ (p' ++ q))
        | none => none)
      | _, _ => none) else none
    | _, _, _ => none)
  | _, _ => none
def stepN (Γ : Env) (st : St) (o : Oper) : Option (St × List Prop) :=
  match stepM Γ st o with
  | some r => some r
  | none => (match stepClip Γ st o with
    | some r => some r
    | none => stepDeep Γ st o)
section
variable {P : Program} {S : Nat → Prop} {w : World} {γ : Nat → Value} {Γ : Env} {w0 : World} {M S0 : Nat → Prop} {st : St} {a : Act}
theorem absClip_ok (hΓ : EnvOk Γ) (hc : Core w0 M S0 S γ st a w) {d : Nat} {T : TypeId} {x hi mx : AV} {st' : St} {ps : List Prop} (h : absClip Γ st d T x hi mx = some (st', ps)) (hps : ∀ p ∈ ps, p) {ux uh um : Value} (hx : Match S w γ x ux) (hhi : Match S w γ hi uh) (hmx : Match S w γ mx um) :
    ∃ r, (Instr.sliceAt T ux none (some uh) (some um)).run Γ.P w = .ok r w ∧ Core w0 M S0 S γ st' (a.put (some d) r) w ∧ st'.fix = st.fix := by
  unfold absClip at h
  split at h
  · rename_i e t ht
    split at h
    · rename_i xs hh m hxs hhh hmm
      split at h
      · rename_i hd
        obtain ⟨h', hh'⟩ : ∃ z : Int, z = hh := ⟨hh, rfl⟩
        subst hh'
        obtain ⟨m', hm'⟩ : ∃ z : Int, z = m := ⟨m, rfl⟩
        subst hm'
        obtain rfl := castTo_int hhi hhh
        obtain rfl := castTo_int hmx hmm
        simp only [Option.some.injEq, Prod.mk.injEq] at h
        obtain ⟨rfl, rfl⟩ := h
        have l0 : (0 : Int) ≤ h' := hps _ (by simp)
        have l1 : h' = m' := hps (h' = m') (by simp)
        have l2 : h' ≤ ((List.length xs : Nat) : Int) := hps (h' ≤ ((List.length xs : Nat) : Int)) (by simp)
        have l3 : 0 < List.length xs := hps (0 < List.length xs) (by simp)
        subst l1
        obtain ⟨hu, _, hte⟩ := hΓ.is ht
        obtain ⟨cs, h1, rfl⟩ := castTo_ok hx hxs
        have h1' := h1
        simp only [Rep] at h1
        obtain ⟨A, c, rfl, hc1, hx1⟩ := h1
        obtain ⟨ad, rfl, hsp, hS, _⟩ := hx1 l3
        obtain ⟨g, o, sp⟩ := ad
        simp only at hsp
        subst hsp
        have hrun : (Instr.sliceAt T (.slice (some ⟨g, o, none⟩) xs.length c) none (some (.int .i64 h')) (some (.int .i64 h'))).run Γ.P w = .ok (.slice (if h'.toNat = (0 : Int).toNat then some ⟨g, o, none⟩ else (some ⟨g, o, none⟩ : Option Addr).map (·.add ((0 : Int).toNat * t.sz))) (h'.toNat - (0 : Int).toNat) (h'.toNat - (0 : Int).toNat)) w := by
          simp only [Instr.sliceAt, Sem.run_bind, run_underlying hu, Result.andThen_ok, Instr.slice, bounds3_ok (low := none) (.inl ⟨rfl, rfl⟩) (Int.le_refl 0) l0 (Int.le_refl h') (by omega : h' ≤ (c : Int)), hte.sizeOf w, Sem.run_pure]
        have hv : (Value.slice (if h'.toNat = (0 : Int).toNat then some ⟨g, o, none⟩ else (some ⟨g, o, none⟩ : Option Addr).map (·.add ((0 : Int).toNat * t.sz))) (h'.toNat - (0 : Int).toNat) (h'.toNat - (0 : Int).toNat)) = .slice (some ⟨g, o, none⟩) h'.toNat h'.toNat := by
          have e1 : (some (⟨g, o, none⟩ : Addr)).map (·.add ((0 : Int).toNat * t.sz)) = some ⟨g, o, none⟩ := by
            simp only [Option.map_some, add_mul_sz]
            simp
          rw [e1]
          simp
        rw [hv] at hrun
        have hlen : (List.take h'.toNat xs).length = h'.toNat := by rw [List.length_take]; omega
        refine ⟨_, hrun, hc.put hd ?_, rfl⟩
        simp only [Match]
        refine ⟨g, o, by rw [hlen], ?_⟩
        have h2 := rep_cut0 (h := h'.toNat) (by omega) h1'
        simp only [Rep] at h2 ⊢
        obtain ⟨A', c', e1, hc2, hx2⟩ := h2
        simp only [List.cons.injEq, Value.slice.injEq, and_true] at e1
        obtain ⟨rfl, _, rfl⟩ := e1
        exact ⟨_, _, by rw [hlen], by rw [hlen]; omega, hx2⟩
      · cases h
    · cases h
  · cases h
theorem absClipApp_ok (hΓ : EnvOk Γ) (hc : Core w0 M S0 S γ st a w) {d : Nat} {T : TypeId} {x y : AV} {st' : St} {ps : List Prop} (h : absClipApp Γ st d T x y = some (st', ps)) (hps : ∀ p ∈ ps, p) {ux uy : Value} (hx : Match S w γ x ux) (hy : Match S w γ y uy) (ty : TypeId) :
    ∃ r w' S', (Builtin.append_ #[T, T] ty #[ux, uy]).run Γ.P w = .ok r w' ∧ Core w0 M S0 S' γ st' (a.put (some d) r) w' ∧ st'.fix = st.fix := by
  unfold absClipApp at h
  split at h
  · rename_i e t e' t' xs ht
    split at h
    · rename_i t1 b ys qs zs hte hrd hcs
      split at h
      · rename_i hcond
        simp only [Bool.and_eq_true, decide_eq_true_eq] at hcond
        obtain ⟨hb1, hz, hb0, hd⟩ := hcond
        obtain rfl := Ty.eq_of_beq hb1
        have hbytes := (hΓ.ty e _ b hte).2
        simp only [Option.some.injEq, Prod.mk.injEq] at h
        obtain ⟨rfl, rfl⟩ := h
        obtain ⟨e1, e2⟩ := Ty.cast_some hcs
        injection e1 with q1 q2
        subst q1 q2
        have e2 : xs = zs := e2
        subst e2
        have hsl := readSl_ok hc hrd (fun p hp => hps p (List.mem_append.2 (.inl hp))) hy
        have l1 : (List.length xs + List.length ys) * b ≤ 140737488355328 := hps _ (List.mem_append.2 (.inr (by simp)))
        have l2 := small_of hb0 l1
        have h63 : xs.length + ys.length ≤ maxLen := by simpa [maxLen] using l2
        simp only [Match] at hx
        obtain ⟨g, o, rfl, hrep⟩ := hx
        obtain ⟨hu, _, hte1⟩ := hΓ.is ht
        obtain ⟨i, hi, hz0, hsz⟩ := hte1.info.get
        have hby : i.bytes = b := by simpa [hi] using hbytes
        have hzs : (toVal t' (zeros t')).cells.size = t'.sz := by
          rw [← Array.length_toList, (rep_zero (fun _ => True) w t').cells, Ty.zeros_len]
        obtain ⟨A, c, rfl, hA, hcell⟩ := hsl
        have same : ys = [] → (Builtin.append_ #[T, T] ty #[.slice (some ⟨g, o, none⟩) xs.length xs.length, .slice A ys.length c]).run Γ.P w = .ok (.slice (some ⟨g, o, none⟩) xs.length xs.length) w →
            ∃ r w' S', (Builtin.append_ #[T, T] ty #[.slice (some ⟨g, o, none⟩) xs.length xs.length, .slice A ys.length c]).run Γ.P w = .ok r w' ∧ Core w0 M S0 S' γ { st with slots := (d, .data (.sl e' t') (xs ++ ys)) :: st.slots } (a.put (some d) r) w' ∧ ({ st with slots := (d, AV.data (.sl e' t') (xs ++ ys)) :: st.slots } : St).fix = st.fix := by
          rintro rfl hrun
          refine ⟨_, w, S, hrun, hc.put hd ?_, rfl⟩
          rw [List.append_nil]
          exact match_data.2 ⟨_, hrep, rfl⟩
        rcases A with _ | ad
        · have hye := hA rfl
          subst hye
          exact same rfl (by simp [Builtin.append_, run_underlying hu, Go.sizeOf, typeInfo, hi, Builtin.lenOf, Builtin.firstCells, storeCells])
        · obtain ⟨ds, hds, hrd2⟩ := hcell ad rfl
          rcases Nat.eq_zero_or_pos ys.length with h0 | h0
          · have hye : ys = [] := List.eq_nil_of_length_eq_zero h0
            subst hye
            have hds0 : ds = [] := List.eq_nil_of_length_eq_zero (by simpa using hrd2.1)
            subst hds0
            have := run_append_room_cells (P := Γ.P) w T ty e' i hu hi g o xs.length xs.length ad 0 c [] (by simp) (by simp) (by simp) (by omega) (by simp) (by simp)
            exact same rfl (by simpa [World.setCells] using this)
          · obtain ⟨A2, c2, e3, hA2, hcell2⟩ := sliceOf_data hrep
            obtain ⟨os, hos, hro⟩ := hcell2 ⟨g, o, none⟩ (by
              simp only [toVal, List.headD_cons, Value.slice.injEq] at e3
              exact e3.1.symm)
            obtain ⟨v', w', h1, h2, h3⟩ := run_append_arg_grows (P := Γ.P) w T ty e' i _ t'.sz b hu hi hz0 hsz hby hzs hz ⟨g, o, none⟩ xs.length xs.length os hro.1 hos ad ys.length c ds hrd2.1 hds (by omega) h63 l1
            have hbl : Below w.heap.size w w' := ⟨h3.os, h3.tape, h3.output, h3.size, fun k hk => h3.block k hk (by simp)⟩
            have hag : Agree S w w' := fun k hk => hbl.block k (hc.slt k hk)
            have hown : Owns w' e' t'.sz v' (xs.length + ys.length) (os ++ ds) := Owns.of h2
            have hfresh : ∀ k, v'.ownBlock = some k → w.heap.size ≤ k ∧ k < w'.heap.size := fun k hk => by
              refine ⟨?_, hown.lt k (.inl hk)⟩
              rcases h2.2 with ⟨rfl, _⟩ | ⟨g2, cap2, cur2, rfl, hb2, hg2, _⟩
              · simp [Value.ownBlock] at hk
              · simp only [Value.ownBlock, Option.some.injEq] at hk
                omega
            have hcore := hc.grownS (S' := fun k => S k ∨ v'.ownBlock = some k) hbl (fun k hk => .inl hk) (by
              rintro k (hk | hk) hlt
              · exact hk
              · have := (hfresh k hk).1; omega) (by
              rintro k (hk | hk)
              · exact Nat.lt_of_lt_of_le (hc.slt k hk) hbl.size
              · exact (hfresh k hk).2)
            refine ⟨v', w', _, h1, hcore.put hd ?_, rfl⟩
            have hr2 : RepRow S w' t' (xs ++ ys) (os ++ ds) := (hro.append hrd2).mono (fun _ h => h) hag
            have hrep2 := inner_rep (e := e') hown (by rw [List.length_append]) hr2 (S' := fun k => S k ∨ v'.ownBlock = some k) (fun _ h => .inl h) (fun _ h => .inr h)
            exact match_data.2 ⟨_, hrep2, rfl⟩
      · cases h
    · cases h
  · cases h
theorem stepClip_ok (hΓ : EnvOk Γ) (hc : Core w0 M S0 S γ st a w) {o : Oper} {st' : St} {ps : List Prop} (h : stepClip Γ st o = some (st', ps)) (hps : ∀ p ∈ ps, p) {next : Act → World → Prop} {Q : Exit → Act → World → Prop}
    (hn : ∀ a' w' S' γ', Core w0 M S0 S' γ' st' a' w' → next a' w') : o.wp Γ.P a w next Q ∧ st'.fix = st.fix := by
  have inl : ∀ {p q : List Prop}, (∀ x ∈ p ++ q, x) → ∀ x ∈ p, x := fun h x hx => h x (List.mem_append.2 (.inl hx))
  have inr : ∀ {p q : List Prop}, (∀ x ∈ p ++ q, x) → ∀ x ∈ q, x := fun h x hx => h x (List.mem_append.2 (.inr hx))
  unfold stepClip at h
  split at h
  · rename_i T x hi mx d ho hd
    split at h
    · rename_i b p b2 p2 b3 p3 hb hb2 hb3
      split at h
      · rename_i st1 q hst
        simp only [Option.some.injEq, Prod.mk.injEq] at h
        obtain ⟨rfl, rfl⟩ := h
        obtain ⟨r, h1, h2, h3⟩ := absClip_ok hΓ hc hst (inr (inr (inr hps))) (opd_ok hc hb (inl hps)) (opd_ok hc hb2 (inl (inr hps))) (opd_ok hc hb3 (inl (inr (inr hps))))
        rw [← hd] at h2
        exact ⟨wp_value (execOp_value (by simp only [execOp, ho, Option.map_none, Option.map_some]) h1) (hn _ _ _ _ h2), h3⟩
      · cases h
    · cases h
  · rename_i c d ho hdst
    split at h
    · rename_i x y T T' hcal hargs hty
      split at h
      · rename_i hTT
        subst hTT
        split at h
        · rename_i b p b' p' hb hb'
          split at h
          · rename_i st1 q hst
            simp only [Option.some.injEq, Prod.mk.injEq] at h
            obtain ⟨rfl, rfl⟩ := h
            obtain ⟨r, w', S', h1, h2, h3⟩ := absClipApp_ok hΓ hc hst (inr (inr hps)) (raw_ok hc hb (inl hps)) (opd_ok hc hb' (inl (inr hps))) o.type
            have ha : c.args = #[x, y] := Array.toList_inj.1 (by simpa using hargs)
            have ht : c.argTypes = #[T, T] := Array.toList_inj.1 (by simpa using hty)
            refine ⟨wp_value (r := r) (w' := w') ?_ (hn _ _ S' γ ?_), h3⟩
            · simp only [execOp, ho, resolve, hcal, Sem.run_bind, Sem.run_pure, Result.andThen_ok, invoke, builtin, ha, ht, List.map_toArray, List.map_cons, List.map_nil, h1]
            · rw [hdst]; exact h2
          · cases h
        · cases h
      · cases h
    · cases h
  · cases h
theorem stepN_ok (hΓ : EnvOk Γ) (hc : Core w0 M S0 S γ st a w) {o : Oper} {st' : St} {ps : List Prop} (h : stepN Γ st o = some (st', ps)) (hps : ∀ p ∈ ps, p) {next : Act → World → Prop} {Q : Exit → Act → World → Prop}
    (hn : ∀ a' w' S' γ', Core w0 M S0 S' γ' st' a' w' → next a' w') : o.wp Γ.P a w next Q ∧ st'.fix = st.fix := by
  unfold stepN at h
  split at h
  · rename_i r hr
    simp only [Option.some.injEq] at h
    subst h
    exact stepM_ok hΓ hc hr hps hn
  · split at h
    · rename_i r hr
      simp only [Option.some.injEq] at h
      subst h
      exact stepClip_ok hΓ hc hr hps hn
    · exact stepDeep_ok hΓ hc h hps hn
end
end Go.Abs
