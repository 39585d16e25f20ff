/- Part of the proof of the law's row: YtlelhklalainfaaAbsM. -/
import Derived.Test.YtlelhklalainfaaAbsL
set_option linter.all false
set_option linter.unusedVariables false
set_option linter.unusedSimpArgs false
namespace Go.Abs
open Go.RowKit

/-- A slice that is read, its cells as one list. -/
def SliceOf (S : Nat → Prop) (w : World) (t : Ty) (ys : List t.Den) (v : Value) : Prop :=
  ∃ A c, v = .slice A ys.length c ∧ (A = none → ys = []) ∧ ∀ ad, A = some ad → ∃ ds : List Value, (∀ j u, ds[j]? = some u → w.cell? (ad.add j) = some u) ∧ RepRow S w t ys ds
def readSl (st : St) (e : TypeId) (t : Ty) (av : AV) : Option (List t.Den × List Prop) :=
  match castTo (.sl e t) av with
  | some xs => some (xs, [])
  | none => (match av with
    | .own s t' off n => (match get st.heap s with
      | some (.row e' t2 xs _) => (match castTo (.sl e t) (.data (.sl e' t2) (List.take n (List.drop off xs))) with
        | some ys => if Ty.beq t' t2 then some (ys, [off + n ≤ List.length xs]) else none
        | none => none)
      | _ => none)
    | _ => none)
section
variable {P : Program} {S : Nat → Prop} {w : World} {γ : Nat → Value} {Γ : Env} {w0 : World} {M S0 : Nat → Prop} {st : St} {a : Act}
theorem sliceOf_data {e : TypeId} {t : Ty} {ys : List t.Den} {cs : List Value} (h : Rep S w (.sl e t) ys cs) : SliceOf S w t ys (toVal (.sl e t) cs) := by
  have h0 := h
  simp only [Rep] at h0
  obtain ⟨A, c, rfl, hc, hx⟩ := h0
  refine ⟨A, c, rfl, fun hA => ?_, fun ad hA => ?_⟩
  · rcases Nat.eq_zero_or_pos ys.length with h0 | h0
    · exact List.eq_nil_of_length_eq_zero h0
    · obtain ⟨ad, h1, _⟩ := hx h0
      rw [hA] at h1
      cases h1
  · rcases Nat.eq_zero_or_pos ys.length with h0 | h0
    · have : ys = [] := List.eq_nil_of_length_eq_zero h0
      subst this
      exact ⟨[], fun j u h => by simp at h, ⟨by simp, fun j x h => by simp at h⟩⟩
    · obtain ⟨_, ad', ds, h1, h2, h3⟩ := cells_of_rep h h0
      rw [hA] at h1
      injection h1 with h1
      subst h1
      exact ⟨ds, h2, h3⟩
theorem RepRow.drop {t : Ty} {xs : List t.Den} {cs : List Value} (h : RepRow S w t xs cs) (n : Nat) : RepRow S w t (xs.drop n) (cs.drop (n * t.sz)) := by
  refine ⟨by rw [List.length_drop, List.length_drop, h.1, Nat.sub_mul], fun j x hj => ?_⟩
  rw [List.getElem?_drop] at hj
  have := h.2 (n + j) x hj
  rw [List.drop_drop, show n * t.sz + j * t.sz = (n + j) * t.sz by rw [Nat.add_mul]]
  exact this
theorem sliceOf_own (hc : Core w0 M S0 S γ st a w) {s : Nat} {e : TypeId} {t : Ty} {xs : List t.Den} {f : Bool} (hs : get st.heap s = some (.row e t xs f)) {off n : Nat} {v : Value} (hm : Match S w γ (.own s t off n) v) (hle : off + n ≤ xs.length) :
    SliceOf S w t ((xs.drop off).take n) v := by
  have hlen : ((xs.drop off).take n).length = n := by rw [List.length_take, List.length_drop]; omega
  obtain ⟨⟨⟨cs, ho, hr⟩, _⟩, _⟩ := hc.obj s _ hs
  simp only [Match] at hm
  rcases hm with ⟨rfl, rfl, hg, rfl⟩ | ⟨g, m, cap, hg, hoc, A, rfl, hA⟩
  · exact ⟨none, 0, by rw [hlen], fun _ => by simp, fun ad h => by cases h⟩
  · refine ⟨some A, cap - off, by rw [hlen], fun h => (by cases h), fun ad had => ?_⟩
    injection had with had
    subst had
    rw [hg] at ho
    rcases Nat.eq_zero_or_pos n with h0 | h0
    · subst h0
      exact ⟨[], fun j u h => by simp at h, ⟨by simp, fun j x h => by simp at h⟩⟩
    · obtain rfl := hA (by omega)
      refine ⟨(cs.drop (off * t.sz)).take (n * t.sz), fun j u hj => ?_, (hr.drop off).take n (by rw [List.length_drop]; omega)⟩
      have := rangeAt_part (k := off * t.sz) (n := n * t.sz) (own_cellAt ho) j u hj
      rw [Nat.zero_add] at this
      rw [add_mul_sz]
      exact this
theorem readSl_ok (hc : Core w0 M S0 S γ st a w) {e : TypeId} {t : Ty} {av : AV} {ys : List t.Den} {ps : List Prop} (h : readSl st e t av = some (ys, ps)) (hps : ∀ p ∈ ps, p) {v : Value} (hm : Match S w γ av v) : SliceOf S w t ys v := by
  unfold readSl at h
  split at h
  · rename_i xs hxs
    simp only [Option.some.injEq, Prod.mk.injEq] at h
    obtain ⟨rfl, rfl⟩ := h
    obtain ⟨cs, h1, rfl⟩ := castTo_ok hm hxs
    exact sliceOf_data h1
  · split at h
    · rename_i s t' off n _
      split at h
      · rename_i e' t2 xs f hs
        split at h
        · rename_i zs hzs
          split at h
          · rename_i hb
            simp only [Option.some.injEq, Prod.mk.injEq] at h
            obtain ⟨rfl, rfl⟩ := h
            obtain rfl := Ty.eq_of_beq hb
            have hle : off + n ≤ List.length xs := hps _ (List.mem_cons_self ..)
            have h1 := sliceOf_own hc hs hm hle
            simp only [castTo] at hzs
            obtain ⟨e1, e2⟩ := Ty.cast_some hzs
            injection e1 with e3 e4
            subst e3 e4
            have e2 : (xs.drop off).take n = zs := e2
            rw [← e2]
            exact h1
          · cases h
        · cases h
      · cases h
    · cases h

theorem append_none {T ty e : TypeId} {i : TypeInfo} {size n c : Nat} (ht : P.underlying T = some (.slice e)) (hi : P.info? e = some i) {v : Value} {xs : List Value} (hown : w.ownsRow 0 e size v n xs) :
    (Builtin.append_ #[T, T] ty #[v, .slice none 0 c]).run P w = .ok v w := by
  rcases hown.2 with ⟨rfl, rfl⟩ | ⟨g, cap, cur, rfl, _, _, hnc, _⟩
  · simp [Builtin.append_, run_underlying ht, Go.sizeOf, typeInfo, hi, Builtin.lenOf, Builtin.firstCells]
  · simp [Builtin.append_, run_underlying ht, Go.sizeOf, typeInfo, hi, Builtin.lenOf, Builtin.firstCells, hnc, storeCells]
/-- append, of a row of one's own and a slice that is read. -/
theorem append_run {T e : TypeId} {t : Ty} (hT : TyIs P (.sl e t) T) {b : Nat} (hb : (P.info? e).map (·.bytes) = some b) (hz : 0 < t.sz) {v u : Value} {n : Nat} {xs ys : List t.Den} {cs : List Value} (hxn : xs.length = n) (hown : w.ownsRow 0 e t.sz v n cs) (hrow : RepRow S w t xs cs)
    (hy : SliceOf S w t ys u) (hlim : (n + ys.length) * b ≤ 140737488355328) (h63 : n + ys.length ≤ maxLen) (ty : TypeId) :
    ∃ v' w' cs', (Builtin.append_ #[T, T] ty #[v, u]).run P w = .ok v' w' ∧ w'.ownsRow 0 e t.sz v' (xs ++ ys).length cs' ∧ RepRow S w t (xs ++ ys) cs' ∧ w.grownBy w' v.ownBlock ∧ (v'.ownBlock = v.ownBlock ∨ v'.ownBlock = some w.heap.size) := by
  obtain ⟨hu, _, hte⟩ := hT
  obtain ⟨i, hi, hz0, hsz⟩ := hte.info.get
  have hby : i.bytes = b := by simpa [hi] using hb
  obtain ⟨A, c, rfl, hA, hcell⟩ := hy
  have hlen : (xs ++ ys).length = n + ys.length := by rw [List.length_append, hxn]
  rcases A with _ | ad
  · have hye := hA rfl
    subst hye
    refine ⟨v, w, cs, ?_, by simpa [hxn] using hown, by simpa using hrow, World.grownBy.refl w _, .inl rfl⟩
    exact append_none hu hi hown
  · obtain ⟨ds, hds, hrd⟩ := hcell ad rfl
    have hzs : (toVal t (zeros t)).cells.size = t.sz := by
      rw [← Array.length_toList, (rep_zero (fun _ => True) w t).cells, Ty.zeros_len]
    obtain ⟨v', w', h1, h2, h3, _, h5⟩ := run_append_own_at (P := P) w 0 T ty e i _ t.sz b hu hi hz0 hsz hby hzs hz v n cs hown ad ys.length c ds hrd.1 hds hrd.one h63 hlim (Nat.zero_le _)
    exact ⟨v', w', cs ++ ds, h1, by rw [hlen]; exact h2, hrow.append hrd, h3, h5⟩
/-- A row cut short. -/
theorem ownsRow_take {e : TypeId} {size n m cap : Nat} {g : Nat} {cs : List Value} (h : w.ownsRow 0 e size (.slice (some ⟨g, 0, none⟩) m cap) m cs) (hn : n ≤ m) : w.ownsRow 0 e size (.slice (some ⟨g, 0, none⟩) n cap) n (cs.take (n * size)) := by
  have hb : n * size ≤ m * size := Nat.mul_le_mul_right _ hn
  refine ⟨by rw [List.length_take, h.1, Nat.min_eq_left hb], ?_⟩
  rcases h.2 with ⟨h1, _⟩ | ⟨g', cap', cur, h1, h2, h3, h4, h5, h6, h7⟩
  · cases h1
  · injection h1 with h8 h9 h10
    injection h8 with h8
    injection h8 with h8
    subst h8 h10
    refine .inr ⟨g, cap, cur, rfl, h2, h3, by omega, h5, h6, ?_⟩
    rw [← h7, List.take_take, Nat.min_eq_left hb]

def appRow (st : St) (s d : Nat) (e : TypeId) (t : Ty) (xs : List t.Den) : St := { (st.kill s).kill d with slots := (d, .full d t) :: ((st.kill s).kill d).slots, heap := (d, .row e t xs false) :: ((st.kill s).kill d).heap }
def absAppend (Γ : Env) (st : St) (d : Nat) (T : TypeId) (x y : AV) : Option (St × List Prop) :=
  match Γ.ty T with
  | some (.sl e t) =>
    (match get Γ.tys e, readSl st e t y with
    | some (t1, b), some (ys, ps) =>
      if Ty.beq t1 t && (decide (0 < t.sz) && (decide (0 < b) && st.ok d)) then
        (match x with
        | .nilS => some ({ st.kill d with slots := (d, .full d t) :: (st.kill d).slots, heap := (d, .row e t ys false) :: (st.kill d).heap }, ps ++ [List.length ys * b ≤ 140737488355328])
        | .own s t' 0 n => (match get st.heap s with
          | some (.row e' t2 xs false) => (match castTo (.sl e t) (.data (.sl e' t2) xs) with
            | some xs' => if Ty.beq t' t2 then some (appRow st s d e t (List.take n xs' ++ ys), ps ++ [n ≤ List.length xs, (n + List.length ys) * b ≤ 140737488355328]) else none
            | none => none)
          | _ => none)
        | .full s t' => (match get st.heap s with
          | some (.row e' t2 xs false) => (match castTo (.sl e t) (.data (.sl e' t2) xs) with
            | some xs' => if Ty.beq t' t2 then some (appRow st s d e t (xs' ++ ys), ps ++ [(List.length xs + List.length ys) * b ≤ 140737488355328]) else none
            | none => none)
          | _ => none)
        | _ => none)
      else none
    | _, _ => none)
  | _ => none
theorem header_full {s : Nat} {e : TypeId} {size n : Nat} {v : Value} {cs : List Value} (h : w.ownsRow 0 e size v n cs) (hγ : γ s = v) {t : Ty} : Match S w γ (.full s t) v := by
  simp only [Match]
  refine ⟨hγ.symm, ?_⟩
  rcases h.2 with ⟨rfl, rfl⟩ | ⟨g, cap, cur, rfl, _, _, h3, _⟩
  · exact ⟨_, _, _, rfl⟩
  · exact ⟨_, _, _, rfl⟩
theorem small_of {n b : Nat} (hb : 0 < b) (h : n * b ≤ 140737488355328) : n ≤ 9223372036854775807 := by
  have : n * 1 ≤ n * b := Nat.mul_le_mul_left n hb
  omega
theorem append_own (hΓ : EnvOk Γ) (hc : Core w0 M S0 S γ st a w) {d s n : Nat} {T e : TypeId} {t : Ty} {b : Nat} {xs ys : List t.Den} (ht : Γ.ty T = some (.sl e t)) (hte : get Γ.tys e = some (t, b)) (hz : 0 < t.sz) (hb : 0 < b) (hd : st.ok d = true) (hs : get st.heap s = some (.row e t xs false))
    (l0 : n ≤ List.length xs) (l1 : (n + List.length ys) * b ≤ 140737488355328) {ux uy : Value} (hx : Match S w γ (.own s t 0 n) ux) (hsl : SliceOf S w t ys uy) (ty : TypeId) :
    ∃ r w' γ', (Builtin.append_ #[T, T] ty #[ux, uy]).run Γ.P w = .ok r w' ∧ Core w0 M S0 S γ' (appRow st s d e t (List.take n xs ++ ys)) (a.put (some d) r) w' := by
  have hbytes := (hΓ.ty e _ b hte).2
  have l2 := small_of hb l1
  obtain ⟨⟨⟨cs, ho, hr⟩, _⟩, _⟩ := hc.obj s _ hs
  have hown : w.ownsRow 0 e t.sz ux n (cs.take (n * t.sz)) ∧ ux.ownBlock = (γ s).ownBlock := by
    simp only [Match] at hx
    rcases hx with ⟨_, rfl, hg, rfl⟩ | ⟨g, m, cap, hg, hoc, A, rfl, hA⟩
    · rw [hg]
      exact ⟨by simpa using World.ownsRow_nil w 0 e t.sz, by simp⟩
    · obtain rfl := hA (.inl (by simp))
      rw [hg] at ho
      have hm : m = List.length xs := by
        rcases ho.2 with ⟨h, _⟩ | ⟨_, _, _, h, _⟩
        · cases h
        · injection h
      subst hm
      rw [hg]
      refine ⟨?_, by simp [Value.ownBlock]⟩
      have := ownsRow_take ho l0
      simpa using this
  obtain ⟨v', w', cs', h1, h2, h3, h4, h5⟩ := append_run (hΓ.is ht) hbytes hz (n := n) (xs := List.take n xs) (by rw [List.length_take]; omega) hown.1 (hr.take n l0) hsl l1 (by simpa [maxLen] using l2) ty
  rw [hown.2] at h4 h5
  obtain ⟨⟨_, hmut⟩, hM⟩ := hc.obj s _ hs
  have hag : Agree S w w' := fun k hk => h4.block k (hc.slt k hk) (fun e => by have := (hmut k e.symm).1 hk; cases this)
  have hnb : ∀ k, v'.ownBlock = some k → (γ s).ownBlock = some k ∨ w.heap.size ≤ k := fun k hk => by
    rcases h5 with h5 | h5
    · rw [h5] at hk; exact .inl hk
    · rw [h5] at hk; injection hk with hk; right; omega
  have hl : (List.take n xs ++ ys).length = n + List.length ys := by rw [List.length_append, List.length_take]; omega
  have hcore := hc.moved (s := s) (d := d) (hv := v') (o := .row e t (List.take n xs ++ ys) false) hs h4 ⟨⟨cs', by first | exact h2 | (rw [hl]; exact h2), h3.mono (fun _ h => h) hag⟩, fun k hk => ⟨fun hS => by
    rcases hnb k hk with h | h
    · exact (hmut k h).1 hS
    · exact absurd (hc.slt k hS) (by omega), fun h => by cases h⟩⟩ hnb
  refine ⟨v', w', _, h1, hcore.put hd ?_⟩
  exact header_full h2 (upd_same γ d v')
theorem absAppend_ok (hΓ : EnvOk Γ) (hc : Core w0 M S0 S γ st a w) {d : Nat} {T : TypeId} {x y : AV} {st' : St} {ps : List Prop} (h : absAppend Γ st d T x y = some (st', ps)) (hps : ∀ p ∈ ps, p) {ux uy : Value} (hx : Match S w γ x ux) (hy : Match S w γ y uy) (ty : TypeId) :
    ∃ r w' γ', (Builtin.append_ #[T, T] ty #[ux, uy]).run Γ.P w = .ok r w' ∧ Core w0 M S0 S γ' st' (a.put (some d) r) w' := by
  unfold absAppend at h
  split at h
  · rename_i e t ht
    split at h
    · rename_i t1 b ys qs hte hrd
      split at h
      · rename_i hcond
        simp only [Bool.and_eq_true, decide_eq_true_eq] at hcond
        obtain ⟨hb1, hz, hb0, hd⟩ := hcond
        obtain rfl := Ty.eq_of_beq hb1
        have hbytes := (hΓ.ty e _ b hte).2
        split at h
        · simp only [Option.some.injEq, Prod.mk.injEq] at h
          obtain ⟨rfl, rfl⟩ := h
          have hsl := readSl_ok hc hrd (fun p hp => hps p (List.mem_append.2 (.inl hp))) hy
          simp only [Match] at hx
          subst hx
          have l1 := hps (List.length ys * b ≤ 140737488355328) (by simp)
          have l2 := small_of hb0 l1
          obtain ⟨v', w', cs', h1, h2, h3, h4, h5⟩ := append_run (hΓ.is ht) hbytes hz (n := 0) (xs := []) (cs := []) rfl (World.ownsRow_nil w 0 e t1.sz) ⟨by simp, fun j x h => by simp at h⟩ hsl (by simpa using l1) (by simpa [maxLen] using l2) ty
          have hbl : Below w.heap.size w w' := ⟨h4.os, h4.tape, h4.output, h4.size, fun k hk => h4.block k hk (by simp [Value.ownBlock])⟩
          have hag : Agree S w w' := fun k hk => hbl.block k (hc.slt k hk)
          have hnb : ∀ k, v'.ownBlock = some k → w.heap.size ≤ k := fun k hk => by
            rcases h5 with h5 | h5
            · rw [h5] at hk; simp [Value.ownBlock] at hk
            · rw [h5] at hk; injection hk with hk; omega
          have hcore := hc.new (d := d) (hv := v') (o := .row e t1 ys false) hbl ⟨⟨cs', by simpa using h2, (by simpa using h3 : RepRow S w t1 ys cs').mono (fun _ h => h) hag⟩, fun k hk => ⟨fun hS => absurd (hc.slt k hS) (by have := hnb k hk; omega), fun h => by cases h⟩⟩ hnb
          refine ⟨v', w', _, h1, hcore.put hd ?_⟩
          exact header_full (by simpa using h2) (upd_same γ d v')
        · rename_i s t' n
          split at h
          · rename_i e' t2 xs hs
            split at h
            · rename_i xs' hxs'
              split at h
              · rename_i hb2
                simp only [Option.some.injEq, Prod.mk.injEq] at h
                obtain ⟨rfl, rfl⟩ := h
                obtain rfl := Ty.eq_of_beq hb2
                have hsl := readSl_ok hc hrd (fun p hp => hps p (List.mem_append.2 (.inl hp))) hy
                simp only [castTo] at hxs'
                obtain ⟨e1, e2⟩ := Ty.cast_some hxs'
                injection e1 with e3 e4
                subst e3 e4
                have e2 : xs = xs' := e2
                subst e2
                exact append_own hΓ hc ht hte hz hb0 hd hs (hps (n ≤ List.length xs) (by simp)) (hps ((n + List.length ys) * b ≤ 140737488355328) (by simp)) hx hsl ty
              · cases h
            · cases h
          · cases h
        · rename_i s t'
          split at h
          · rename_i e' t2 xs hs
            split at h
            · rename_i xs' hxs'
              split at h
              · rename_i hb2
                simp only [Option.some.injEq, Prod.mk.injEq] at h
                obtain ⟨rfl, rfl⟩ := h
                obtain rfl := Ty.eq_of_beq hb2
                have hsl := readSl_ok hc hrd (fun p hp => hps p (List.mem_append.2 (.inl hp))) hy
                simp only [castTo] at hxs'
                obtain ⟨e1, e2⟩ := Ty.cast_some hxs'
                injection e1 with e3 e4
                subst e3 e4
                have e2 : xs = xs' := e2
                subst e2
                have := append_own hΓ hc ht hte hz hb0 hd hs (Nat.le_refl _) (hps ((List.length xs + List.length ys) * b ≤ 140737488355328) (by simp)) (full_own hc hs hx) hsl ty
                rw [List.take_length] at this
                exact this
              · cases h
            · cases h
          · cases h
        · cases h
      · cases h
    · cases h
  · cases h
end
end Go.Abs
