/- Part of the proof of the law's row: YtnoeomlanbdjeaaAbsM. -/
import Derived.Test.YtnoeomlanbdjeaaAbsL
import Derived.ArgAppend
set_option linter.all false
set_option linter.unusedVariables false
set_option linter.unusedSimpArgs false
namespace Go.Abs
open Go.RowKit

/-- A slice that is read, its cells as one list. -/
def SliceOf (S : Nat → Prop) (w : World) (t : Ty) (ys : List t.Den) (v : Value) : Prop :=
  ∃ A c, v = .slice A ys.length c ∧ (A = none → ys = []) ∧ ∀ ad, A = some ad → ∃ ds : List Value, (∀ j u, ds[j]? = some u → w.cell? (ad.add j) = some u) ∧ RepRow S w t ys ds
def readSl (st : St) (e : TypeId) (t : Ty) (av : AV) : Option (List t.Den × List Prop) :=
  match castTo (.sl e t) av with
  | some xs => some (xs, [])
  | none => (match av with
    | .own s t' off n => (match get st.heap s with
      | some (.row e' t2 xs _) => (match Ty.cast (.sl e' t2) (.sl e t) (List.take n (List.drop off xs)) with
        | some ys => if Ty.beq t' t2 then some (ys, [off + n ≤ List.length xs]) else none
        | none => none)
      | _ => none)
    | _ => none)
section
variable {P : Program} {S : Nat → Prop} {w : World} {γ : Nat → Value} {Γ : Env} {w0 : World} {M S0 : Nat → Prop} {st : St} {a : Act}
theorem sliceOf_data {e : TypeId} {t : Ty} {ys : List t.Den} {cs : List Value} (h : Rep S w (.sl e t) ys cs) : SliceOf S w t ys (toVal (.sl e t) cs) := by
  have h0 := h
  simp only [Rep] at h0
  obtain ⟨A, c, rfl, hc, hx⟩ := h0
  refine ⟨A, c, rfl, fun hA => ?_, fun ad hA => ?_⟩
  · rcases Nat.eq_zero_or_pos ys.length with h0 | h0
    · exact List.eq_nil_of_length_eq_zero h0
    · obtain ⟨ad, h1, _⟩ := hx h0
      rw [hA] at h1
      cases h1
  · rcases Nat.eq_zero_or_pos ys.length with h0 | h0
    · have : ys = [] := List.eq_nil_of_length_eq_zero h0
      subst this
      exact ⟨[], fun j u h => by simp at h, ⟨by simp, fun j x h => by simp at h⟩⟩
    · obtain ⟨_, ad', ds, h1, h2, h3⟩ := cells_of_rep h h0
      rw [hA] at h1
      injection h1 with h1
      subst h1
      exact ⟨ds, h2, h3⟩
theorem RepRow.drop {t : Ty} {xs : List t.Den} {cs : List Value} (h : RepRow S w t xs cs) (n : Nat) : RepRow S w t (xs.drop n) (cs.drop (n * t.sz)) := by
  refine ⟨by rw [List.length_drop, List.length_drop, h.1, Nat.sub_mul], fun j x hj => ?_⟩
  rw [List.getElem?_drop] at hj
  have := h.2 (n + j) x hj
  rw [List.drop_drop, show n * t.sz + j * t.sz = (n + j) * t.sz by rw [Nat.add_mul]]
  exact this
theorem sliceOf_own (hc : Core w0 M S0 S γ st a w) {s : Nat} {e : TypeId} {t : Ty} {xs : List t.Den} {f : Bool} (hs : get st.heap s = some (.row e t xs f)) {off n : Nat} {v : Value} (hm : Match S w γ (.own s t off n) v) (hle : off + n ≤ xs.length) :
    SliceOf S w t ((xs.drop off).take n) v := by
  have hlen : ((xs.drop off).take n).length = n := by rw [List.length_take, List.length_drop]; omega
  obtain ⟨⟨⟨cs, ho, hr⟩, _⟩, _⟩ := hc.obj s _ hs
  simp only [Match] at hm
  rcases hm with ⟨rfl, rfl, hg, rfl⟩ | ⟨g, o, m, cap, hg, hoc, p, rfl, hp, hA⟩
  · exact ⟨none, 0, by rw [hlen], fun _ => by simp, fun ad h => by cases h⟩
  · refine ⟨some ⟨g, p, none⟩, cap - off, by rw [hlen], fun h => (by cases h), fun ad had => ?_⟩
    injection had with had
    subst had
    rw [hg] at ho
    rcases Nat.eq_zero_or_pos n with h0 | h0
    · subst h0
      exact ⟨[], fun j u h => by simp at h, ⟨by simp, fun j x h => by simp at h⟩⟩
    · obtain rfl := hA (by omega)
      refine ⟨(cs.drop (off * t.sz)).take (n * t.sz), fun j u hj => ?_, (hr.drop off).take n (by rw [List.length_drop]; omega)⟩
      have := rangeAt_part (k := off * t.sz) (n := n * t.sz) (own_cellAt ho) j u hj
      rw [add_mul_sz]
      exact this
theorem readSl_ok (hc : Core w0 M S0 S γ st a w) {e : TypeId} {t : Ty} {av : AV} {ys : List t.Den} {ps : List Prop} (h : readSl st e t av = some (ys, ps)) (hps : ∀ p ∈ ps, p) {v : Value} (hm : Match S w γ av v) : SliceOf S w t ys v := by
  unfold readSl at h
  split at h
  · rename_i xs hxs
    simp only [Option.some.injEq, Prod.mk.injEq] at h
    obtain ⟨rfl, rfl⟩ := h
    obtain ⟨cs, h1, rfl⟩ := castTo_ok hm hxs
    exact sliceOf_data h1
  · split at h
    · rename_i s t' off n _
      split at h
      · rename_i e' t2 xs f hs
        split at h
        · rename_i zs hzs
          split at h
          · rename_i hb
            simp only [Option.some.injEq, Prod.mk.injEq] at h
            obtain ⟨rfl, rfl⟩ := h
            obtain rfl := Ty.eq_of_beq hb
            have hle : off + n ≤ List.length xs := hps _ (List.mem_cons_self ..)
            have h1 := sliceOf_own hc hs hm hle
            obtain ⟨e1, e2⟩ := Ty.cast_some hzs
            injection e1 with e3 e4
            subst e3 e4
            have e2 : (xs.drop off).take n = zs := e2
            rw [← e2]
            exact h1
          · cases h
        · cases h
      · cases h
    · cases h

theorem append_none {T ty e : TypeId} {i : TypeInfo} {size n c : Nat} (ht : P.underlying T = some (.slice e)) (hi : P.info? e = some i) {v : Value} {xs : List Value} (hown : Owns w e size v n xs) :
    (Builtin.append_ #[T, T] ty #[v, .slice none 0 c]).run P w = .ok v w := by
  rcases hown.2 with ⟨rfl, rfl⟩ | ⟨g, o, cap, cur, rfl, _, hnc, _⟩
  · simp [Builtin.append_, run_underlying ht, Go.sizeOf, typeInfo, hi, Builtin.lenOf, Builtin.firstCells]
  · simp [Builtin.append_, run_underlying ht, Go.sizeOf, typeInfo, hi, Builtin.lenOf, Builtin.firstCells, hnc, storeCells]
theorem Owns.setCells {e : TypeId} {size n m cap g o : Nat} : ∀ (us : List Value) (k : Nat) {w : World} {cs : List Value}, Owns w e size (.slice (some ⟨g, o, none⟩) m cap) n cs → k + us.length ≤ cs.length →
    Owns (w.setCells g (o + k) us) e size (.slice (some ⟨g, o, none⟩) m cap) n (cs.take k ++ us ++ cs.drop (k + us.length)) ∧ w.grownBy (w.setCells g (o + k) us) (some g)
  | [], k, w, cs, h, hl => by
    simp only [World.setCells, List.append_nil, List.length_nil, Nat.add_zero, List.take_append_drop]
    exact ⟨h, World.grownBy.refl w _⟩
  | u :: us, k, w, cs, h, hl => by
    simp only [List.length_cons] at hl
    obtain ⟨h1, h2⟩ := h.stored k u
    obtain ⟨h3, h4⟩ := Owns.setCells us (k + 1) h1 (by simp; omega)
    simp only [World.setCells]
    refine ⟨?_, h2.trans h4⟩
    have e1 : (cs.set k u).take (k + 1) = cs.take k ++ [u] := by
      rw [List.set_eq_take_append_cons_drop, if_pos (by omega), List.take_append, List.take_of_length_le (by simp; omega), List.length_take, Nat.min_eq_left (by omega), show k + 1 - k = 1 by omega]
      simp
    have e2 : (cs.set k u).drop (k + 1 + us.length) = cs.drop (k + (us.length + 1)) := by
      rw [List.drop_set]
      rw [if_pos (by omega)]
      congr 1
      omega
    rw [e1, e2, ← Nat.add_assoc] at h3
    simpa [List.append_assoc] using h3
/-- A slice with room, of all its room. -/
theorem Owns.wide {e : TypeId} {size n m cap g o : Nat} {cs : List Value} (h : Owns w e size (.slice (some ⟨g, o, none⟩) m cap) n cs) : n ≤ cap ∧ cap ≤ maxLen ∧ ∃ ds, Owns w e size (.slice (some ⟨g, o, none⟩) cap cap) cap ds ∧ ds.take (n * size) = cs := by
  rcases h.2 with ⟨h', _⟩ | ⟨g', o', cap2, cur, h', hg, hnc, hcm, hcs, htake⟩
  · simp at h'
  · simp only [Value.slice.injEq, Option.some.injEq, Addr.mk.injEq, and_true] at h'
    obtain ⟨⟨rfl, rfl⟩, rfl, rfl⟩ := h'
    have hle : m * size ≤ cap * size := Nat.mul_le_mul_right _ hnc
    refine ⟨hnc, hcm, (cur.toList.drop o).take (cap * size), ⟨by simp; omega, .inr ⟨g, o, cap, cur, rfl, hg, Nat.le_refl _, hcm, hcs, rfl⟩⟩, ?_⟩
    rw [List.take_take, Nat.min_eq_left hle]
    exact htake
theorem Owns.shrink {e : TypeId} {size n m cap g o k : Nat} {cs : List Value} (h : Owns w e size (.slice (some ⟨g, o, none⟩) m cap) n cs) (hk : k ≤ n) : Owns w e size (.slice (some ⟨g, o, none⟩) k cap) k (cs.take (k * size)) := by
  have := h.part (off := 0) (k := k) (p := o) (by omega) (by omega) (fun _ => by omega)
  simpa using this
/-- append, of a row of one's own and a slice that is read. -/
theorem append_run {T e : TypeId} {t : Ty} (hT : TyIs P (.sl e t) T) {b : Nat} (hb : (P.info? e).map (·.bytes) = some b) (hz : 0 < t.sz) {v u : Value} {n : Nat} {xs ys : List t.Den} {cs : List Value} (hxn : xs.length = n) (hown : Owns w e t.sz v n cs) (hrow : RepRow S w t xs cs)
    (hy : SliceOf S w t ys u) (hlim : (n + ys.length) * b ≤ 140737488355328) (h63 : n + ys.length ≤ maxLen) (ty : TypeId) :
    ∃ v' w' cs', (Builtin.append_ #[T, T] ty #[v, u]).run P w = .ok v' w' ∧ Owns w' e t.sz v' (xs ++ ys).length cs' ∧ RepRow S w t (xs ++ ys) cs' ∧ w.grownBy w' v.ownBlock ∧ (v'.ownBlock = v.ownBlock ∨ v'.ownBlock = some w.heap.size) := by
  obtain ⟨hu, _, hte⟩ := hT
  obtain ⟨i, hi, hz0, hsz⟩ := hte.info.get
  have hby : i.bytes = b := by simpa [hi] using hb
  obtain ⟨A, c, rfl, hA, hcell⟩ := hy
  have hlen : (xs ++ ys).length = n + ys.length := by rw [List.length_append, hxn]
  rcases A with _ | ad
  · have hye := hA rfl
    subst hye
    refine ⟨v, w, cs, ?_, by simpa [hxn] using hown, by simpa using hrow, World.grownBy.refl w _, .inl rfl⟩
    exact append_none hu hi hown
  · obtain ⟨ds, hds, hrd⟩ := hcell ad rfl
    have hzs : (toVal t (zeros t)).cells.size = t.sz := by
      rw [← Array.length_toList, (rep_zero (fun _ => True) w t).cells, Ty.zeros_len]
    rcases hown.2 with ⟨rfl, rfl⟩ | ⟨g, o, cap, cur, rfl, hg, hnc, hcm, hcs, htake⟩
    · obtain ⟨v', w', h1, h2, h3, _, h5⟩ := run_append_own_at (P := P) w 0 T ty e i _ t.sz b hu hi hz0 hsz hby hzs hz (.slice none 0 0) 0 [] (World.ownsRow_nil w 0 e t.sz) ad ys.length c ds hrd.1 hds hrd.one h63 hlim (Nat.zero_le _)
      have hc0 : cs = [] := List.eq_nil_of_length_eq_zero (by simpa using hown.1)
      subst hc0
      exact ⟨v', w', [] ++ ds, h1, by rw [hlen]; exact Owns.of h2, hrow.append hrd, h3, h5⟩
    · by_cases hroom : n + ys.length ≤ cap
      · obtain ⟨_, _, dd, hw1, hw2⟩ := hown.wide
        have hwl := hw1.1
        have hdl := hrd.1
        have hb1 : n * t.sz + ds.length ≤ dd.length := by
          rw [hdl, hwl, ← Nat.add_mul]; exact Nat.mul_le_mul_right _ hroom
        have hcell' : ∀ j, j < ds.length → (w.cell? ⟨g, o + n * t.sz + j, none⟩).isSome = true := fun j hj => by
          have hlt : n * t.sz + j < dd.length := by omega
          have := hw1.cells (n * t.sz + j) _ (List.getElem?_eq_getElem hlt)
          rw [Nat.add_assoc, this]; rfl
        have hr := run_append_room_cells (P := P) w T ty e i hu hi g o n cap ad ys.length c ds (by rw [hsz]; exact hdl) hds hrd.one hroom (by rw [hsz]; exact hcell') (fun j _ => hw1.frozenAt _)
        rw [hsz] at hr
        obtain ⟨k1, k2⟩ := hw1.setCells ds (n * t.sz) hb1
        have k3 := k1.shrink (k := n + ys.length) hroom
        have e1 : (dd.take (n * t.sz) ++ ds ++ dd.drop (n * t.sz + ds.length)).take ((n + ys.length) * t.sz) = cs ++ ds := by
          rw [hw2, List.take_append_of_le_length (by rw [List.length_append, hown.1, hdl, Nat.add_mul]; exact Nat.le_refl _), List.take_of_length_le (by rw [List.length_append, hown.1, hdl, Nat.add_mul]; exact Nat.le_refl _)]
        rw [e1] at k3
        exact ⟨_, _, cs ++ ds, hr, by rw [hlen]; exact k3, hrow.append hrd, k2, .inl rfl⟩
      · obtain ⟨v', w', h1, h2, h3⟩ := run_append_arg_grows (P := P) w T ty e i _ t.sz b hu hi hz0 hsz hby hzs hz ⟨g, o, none⟩ n cap cs hown.1 (fun j u hj => by rw [add_mul_sz]; exact hown.cells j u hj) ad ys.length c ds hrd.1 hds (by omega) h63 hlim
        have hlt := (Array.getElem?_eq_some_iff.1 hg).1
        refine ⟨v', w', cs ++ ds, h1, by rw [hlen]; exact Owns.of h2, hrow.append hrd, ⟨h3.os, h3.tape, h3.output, h3.size, fun k hk _ => h3.block k hk (by simp)⟩, ?_⟩
        rcases h2.2 with ⟨rfl, h0⟩ | ⟨g2, cap2, cur2, rfl, hb2, hg2, _⟩
        · exfalso; omega
        · right
          simp only [Value.ownBlock]
          congr 1
          have := run_append_grow (P := P) w T ty e i _ hu hi hz0 ⟨g, o, none⟩ n cap cs (by rw [hsz]; exact hown.1) (fun j u hj => by rw [add_mul_sz]; exact hown.cells j u hj) ad ys.length c ds (by rw [hsz]; exact hrd.1) hds (by omega) (by simp only [maxLen] at h63; omega) (growslice_fits (by omega) (by rw [hby]; exact hlim))
          rw [h1] at this
          injection this with this
          injection this with this
          simp only [Option.some.injEq, Addr.mk.injEq, and_true] at this
          exact this
/-- A slice's part of its row, as one list; none of 0: the list. -/
def dropZ {α : Type} : Nat → List α → List α
  | 0, xs => xs
  | n + 1, xs => List.drop (n + 1) xs
def addZ : Nat → Nat → Nat
  | 0, k => k
  | n + 1, k => n + 1 + k
theorem dropZ_eq {α : Type} (n : Nat) (xs : List α) : dropZ n xs = List.drop n xs := by cases n <;> simp [dropZ]
theorem addZ_eq (n k : Nat) : addZ n k = n + k := by cases n <;> simp [addZ]
def appRow (st : St) (s d : Nat) (e : TypeId) (t : Ty) (xs : List t.Den) : St := { (st.kill s).kill d with slots := (d, .full d t) :: ((st.kill s).kill d).slots, heap := (d, .row e t xs false) :: ((st.kill s).kill d).heap }
def absAppend (Γ : Env) (st : St) (d : Nat) (T : TypeId) (x y : AV) : Option (St × List Prop) :=
  match Γ.ty T with
  | some (.sl e t) =>
    (match get Γ.tys e, readSl st e t y with
    | some (t1, b), some (ys, ps) =>
      if Ty.beq t1 t && (decide (0 < t.sz) && (decide (0 < b) && st.ok d)) then
        (match x with
        | .nilS => some ({ st.kill d with slots := (d, .full d t) :: (st.kill d).slots, heap := (d, .row e t ys false) :: (st.kill d).heap }, ps ++ [List.length ys * b ≤ 140737488355328])
        | .own s t' off n => (match get st.heap s with
          | some (.row e' t2 xs false) => (match Ty.cast (.sl e' t2) (.sl e t) xs with
            | some xs' => if Ty.beq t' t2 then some (appRow st s d e t (List.take n (dropZ off xs') ++ ys), ps ++ [addZ off n ≤ List.length xs, (n + List.length ys) * b ≤ 140737488355328]) else none
            | none => none)
          | _ => none)
        | .full s t' => (match get st.heap s with
          | some (.row e' t2 xs false) => (match Ty.cast (.sl e' t2) (.sl e t) xs with
            | some xs' => if Ty.beq t' t2 then some (appRow st s d e t (xs' ++ ys), ps ++ [(List.length xs + List.length ys) * b ≤ 140737488355328]) else none
            | none => none)
          | _ => none)
        | _ => none)
      else none
    | _, _ => none)
  | _ => none
theorem header_full {s : Nat} {e : TypeId} {size n : Nat} {v : Value} {cs : List Value} (h : Owns w e size v n cs) (hγ : γ s = v) {t : Ty} : Match S w γ (.full s t) v := by
  simp only [Match]
  refine ⟨hγ.symm, ?_⟩
  rcases h.2 with ⟨rfl, rfl⟩ | ⟨g, o, cap, cur, rfl, _⟩
  · exact ⟨_, _, _, rfl⟩
  · exact ⟨_, _, _, rfl⟩
/-- A part of an object's row, as a row. -/
theorem own_owns (hc : Core w0 M S0 S γ st a w) {s : Nat} {e : TypeId} {t : Ty} {xs : List t.Den} {f : Bool} (hs : get st.heap s = some (.row e t xs f)) {off n : Nat} {v : Value} (hm : Match S w γ (.own s t off n) v) (hle : off + n ≤ List.length xs) :
    ∃ cs, Owns w e t.sz v n cs ∧ RepRow S w t (List.take n (List.drop off xs)) cs ∧ v.ownBlock = (γ s).ownBlock := by
  obtain ⟨⟨⟨cs, ho, hr⟩, _⟩, _⟩ := hc.obj s _ hs
  refine ⟨(cs.drop (off * t.sz)).take (n * t.sz), ?_, (hr.drop off).take n (by rw [List.length_drop]; omega), ?_⟩
  · simp only [Match] at hm
    rcases hm with ⟨rfl, rfl, hg, rfl⟩ | ⟨g, o, m, cap, hg, hoc, p, rfl, hp, hA⟩
    · simpa using Owns.nil w e t.sz
    · rw [hg] at ho
      exact ho.part hle hp hA
  · simp only [Match] at hm
    rcases hm with ⟨rfl, rfl, hg, rfl⟩ | ⟨g, o, m, cap, hg, hoc, p, rfl, hp, hA⟩
    · rw [hg]
    · rw [hg]; rfl
theorem small_of {n b : Nat} (hb : 0 < b) (h : n * b ≤ 140737488355328) : n ≤ 9223372036854775807 := by
  have : n * 1 ≤ n * b := Nat.mul_le_mul_left n hb
  omega
theorem append_own (hΓ : EnvOk Γ) (hc : Core w0 M S0 S γ st a w) {d s off n : Nat} {T e : TypeId} {t : Ty} {b : Nat} {xs ys : List t.Den} (ht : Γ.ty T = some (.sl e t)) (hte : get Γ.tys e = some (t, b)) (hz : 0 < t.sz) (hb : 0 < b) (hd : st.ok d = true) (hs : get st.heap s = some (.row e t xs false))
    (l0 : off + n ≤ List.length xs) (l1 : (n + List.length ys) * b ≤ 140737488355328) {ux uy : Value} (hx : Match S w γ (.own s t off n) ux) (hsl : SliceOf S w t ys uy) (ty : TypeId) :
    ∃ r w' γ', (Builtin.append_ #[T, T] ty #[ux, uy]).run Γ.P w = .ok r w' ∧ Core w0 M S0 S γ' (appRow st s d e t (List.take n (List.drop off xs) ++ ys)) (a.put (some d) r) w' := by
  have hbytes := (hΓ.ty e _ b hte).2
  have l2 := small_of hb l1
  obtain ⟨cs, ho, hr, hob⟩ := own_owns hc hs hx l0
  have hln : (List.take n (List.drop off xs)).length = n := by rw [List.length_take, List.length_drop]; omega
  obtain ⟨v', w', cs', h1, h2, h3, h4, h5⟩ := append_run (hΓ.is ht) hbytes hz (n := n) (xs := List.take n (List.drop off xs)) hln ho hr hsl l1 (by simpa [maxLen] using l2) ty
  rw [hob] at h4 h5
  obtain ⟨⟨_, hmut⟩, hM⟩ := hc.obj s _ hs
  have hag : Agree S w w' := fun k hk => h4.block k (hc.slt k hk) (fun e => by have := (hmut k (.inl e.symm)).1 hk; cases this)
  have hnb : ∀ k, Blk v' k → Blk (γ s) k ∨ w.heap.size ≤ k := fun k hk => by
    rw [h2.blk] at hk
    rcases h5 with h5 | h5
    · rw [h5] at hk; exact .inl (.inl hk)
    · rw [h5] at hk; injection hk with hk; right; omega
  have hcore := hc.moved (s := s) (d := d) (hv := v') (o := .row e t (List.take n (List.drop off xs) ++ ys) false) hs h4 ⟨⟨cs', h2, h3.mono (fun _ h => h) hag⟩, fun k hk => ⟨fun hS => by
    rcases hnb k hk with h | h
    · exact (hmut k h).1 hS
    · exact absurd (hc.slt k hS) (by omega), fun h => by cases h⟩⟩ hnb
  refine ⟨v', w', _, h1, hcore.put hd ?_⟩
  exact header_full h2 (upd_same γ d v')
theorem absAppend_ok (hΓ : EnvOk Γ) (hc : Core w0 M S0 S γ st a w) {d : Nat} {T : TypeId} {x y : AV} {st' : St} {ps : List Prop} (h : absAppend Γ st d T x y = some (st', ps)) (hps : ∀ p ∈ ps, p) {ux uy : Value} (hx : Match S w γ x ux) (hy : Match S w γ y uy) (ty : TypeId) :
    ∃ r w' γ', (Builtin.append_ #[T, T] ty #[ux, uy]).run Γ.P w = .ok r w' ∧ Core w0 M S0 S γ' st' (a.put (some d) r) w' := by
  unfold absAppend at h
  split at h
  · rename_i e t ht
    split at h
    · rename_i t1 b ys qs hte hrd
      split at h
      · rename_i hcond
        simp only [Bool.and_eq_true, decide_eq_true_eq] at hcond
        obtain ⟨hb1, hz, hb0, hd⟩ := hcond
        obtain rfl := Ty.eq_of_beq hb1
        have hbytes := (hΓ.ty e _ b hte).2
        split at h
        · simp only [Option.some.injEq, Prod.mk.injEq] at h
          obtain ⟨rfl, rfl⟩ := h
          have hsl := readSl_ok hc hrd (fun p hp => hps p (List.mem_append.2 (.inl hp))) hy
          simp only [Match] at hx
          subst hx
          have l1 := hps (List.length ys * b ≤ 140737488355328) (by simp)
          have l2 := small_of hb0 l1
          obtain ⟨v', w', cs', h1, h2, h3, h4, h5⟩ := append_run (hΓ.is ht) hbytes hz (n := 0) (xs := []) (cs := []) rfl (Owns.nil w e t1.sz) ⟨by simp, fun j x h => by simp at h⟩ hsl (by simpa using l1) (by simpa [maxLen] using l2) ty
          have hbl : Below w.heap.size w w' := ⟨h4.os, h4.tape, h4.output, h4.size, fun k hk => h4.block k hk (by simp [Value.ownBlock])⟩
          have hag : Agree S w w' := fun k hk => hbl.block k (hc.slt k hk)
          have hnb : ∀ k, Blk v' k → w.heap.size ≤ k := fun k hk => by
            rw [h2.blk] at hk
            rcases h5 with h5 | h5
            · rw [h5] at hk; simp [Value.ownBlock] at hk
            · rw [h5] at hk; injection hk with hk; omega
          have hcore := hc.new (d := d) (hv := v') (o := .row e t1 ys false) hbl ⟨⟨cs', by simpa using h2, (by simpa using h3 : RepRow S w t1 ys cs').mono (fun _ h => h) hag⟩, fun k hk => ⟨fun hS => absurd (hc.slt k hS) (by have := hnb k hk; omega), fun h => by cases h⟩⟩ hnb
          refine ⟨v', w', _, h1, hcore.put hd ?_⟩
          exact header_full (by simpa using h2) (upd_same γ d v')
        · rename_i s t' off n
          split at h
          · rename_i e' t2 xs hs
            split at h
            · rename_i xs' hxs'
              split at h
              · rename_i hb2
                simp only [Option.some.injEq, Prod.mk.injEq] at h
                obtain ⟨rfl, rfl⟩ := h
                obtain rfl := Ty.eq_of_beq hb2
                have hsl := readSl_ok hc hrd (fun p hp => hps p (List.mem_append.2 (.inl hp))) hy
                obtain ⟨e1, e2⟩ := Ty.cast_some hxs'
                injection e1 with e3 e4
                subst e3 e4
                have e2 : xs = xs' := e2
                subst e2
                rw [dropZ_eq]
                exact append_own hΓ hc ht hte hz hb0 hd hs (by rw [← addZ_eq]; exact hps (addZ off n ≤ List.length xs) (by simp)) (hps ((n + List.length ys) * b ≤ 140737488355328) (by simp)) hx hsl ty
              · cases h
            · cases h
          · cases h
        · rename_i s t'
          split at h
          · rename_i e' t2 xs hs
            split at h
            · rename_i xs' hxs'
              split at h
              · rename_i hb2
                simp only [Option.some.injEq, Prod.mk.injEq] at h
                obtain ⟨rfl, rfl⟩ := h
                obtain rfl := Ty.eq_of_beq hb2
                have hsl := readSl_ok hc hrd (fun p hp => hps p (List.mem_append.2 (.inl hp))) hy
                obtain ⟨e1, e2⟩ := Ty.cast_some hxs'
                injection e1 with e3 e4
                subst e3 e4
                have e2 : xs = xs' := e2
                subst e2
                have := append_own hΓ hc ht hte hz hb0 hd hs (off := 0) (by omega) (hps ((List.length xs + List.length ys) * b ≤ 140737488355328) (by simp)) (full_own hc hs hx) hsl ty
                rw [List.drop_zero, List.take_length] at this
                exact this
              · cases h
            · cases h
          · cases h
        · cases h
      · cases h
    · cases h
  · cases h
end
end Go.Abs
