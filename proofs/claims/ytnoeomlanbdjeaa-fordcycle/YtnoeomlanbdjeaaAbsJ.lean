/- Part of the proof of the law's row: YtnoeomlanbdjeaaAbsJ. -/
import Derived.Test.YtnoeomlanbdjeaaAbsI
import Derived.Laws.Tables
import Derived.Laws.Slices
set_option linter.all false
set_option linter.unusedVariables false
set_option linter.unusedSimpArgs false
namespace Go.Abs
open Go.RowKit

/-! ### A cut -/
def bnd (d : Int) : Option AV → Option Int
  | none => some d
  | some av => idx av
/-- All that can be read of a slice; its length. -/
def wide : AV → AV
  | .lent e t xs _ => .data (.sl e t) xs
  | x => x
def lenAV : AV → Nat → Nat
  | .lent _ _ _ n, _ => n
  | _, n => n
def evSlice (Γ : Env) (st : St) (T : TypeId) (x : AV) (lo hi : Option AV) : Ev :=
  match Γ.ty T with
  | some .str =>
    (match castTo .str x with
    | some s => (match bnd 0 lo, bnd ((s.size : Nat) : Int) hi with
      | some l, some h => some (.data .str (s.extract l.toNat h.toNat), [0 ≤ l, l ≤ h, h ≤ ((s.size : Nat) : Int)])
      | _, _ => none)
    | none => none)
  | some (.sl e t) =>
    (match castTo (.sl e t) (wide x) with
    | some xs => (match bnd 0 lo, bnd ((lenAV x (List.length xs) : Nat) : Int) hi with
      | some l, some h => some (.data (.sl e t) (List.drop l.toNat (List.take h.toNat xs)), [0 ≤ l, l ≤ h, h ≤ ((List.length xs : Nat) : Int)])
      | _, _ => none)
    | none => (match x with
      | .own s t' off len => (match get st.heap s with
        | some (.row _ t2 xs _) => if Ty.beq t' t && Ty.beq t2 t then
            (match bnd 0 lo, bnd ((len : Nat) : Int) hi with
            | some l, some h => some (.own s t (off + l.toNat) (h.toNat - l.toNat), [0 ≤ l, l ≤ h, ((off : Nat) : Int) + h ≤ ((List.length xs : Nat) : Int)])
            | _, _ => none)
          else none
        | _ => none)
      | _ => none))
  | _ => none
section
variable {P : Program} {S : Nat → Prop} {w : World} {γ : Nat → Value} {Γ : Env}
theorem bounds_ok {isSlice : Bool} {len cap : Nat} {low high : Option Value} {l h : Int} (hl : (low = none ∧ l = 0) ∨ ∃ k, low = some (.int k l)) (hh : (high = none ∧ h = len) ∨ ∃ k, high = some (.int k h))
    (h0 : 0 ≤ l) (h1 : l ≤ h) (h2 : h ≤ cap) (w : World) : (Instr.sliceBounds isSlice len cap low high none).run P w = .ok (l.toNat, h.toNat, cap) w := by
  have eh : ((h.toNat : Nat) : Int) = h := Int.toNat_of_nonneg (by omega)
  rcases hl with ⟨rfl, rfl⟩ | ⟨k, rfl⟩ <;> rcases hh with ⟨rfl, rfl⟩ | ⟨k', rfl⟩
  · simp [Instr.sliceBounds]
  · simp [Instr.sliceBounds, Instr.sliceBound, asIntOf, h1, h2]
  · simp [Instr.sliceBounds, Instr.sliceBound, asIntOf, h0, h1]
  · simp [Instr.sliceBounds, Instr.sliceBound, asIntOf, h0, h1, h2, eh, show 0 ≤ h by omega]
def OptMatch (S : Nat → Prop) (w : World) (γ : Nat → Value) : Option AV → Option Value → Prop
  | none, none => True
  | some av, some v => Match S w γ av v
  | _, _ => False
theorem bnd_ok {d : Int} {o : Option AV} {n : Int} {o' : Option Value} (h : bnd d o = some n) (hm : OptMatch S w γ o o') :
    (o' = none ∧ n = d) ∨ ∃ k, o' = some (.int k n) := by
  cases o with
  | none =>
    cases o' with
    | none => simp [bnd] at h; exact .inl ⟨rfl, h.symm⟩
    | some v => exact hm.elim
  | some av =>
    cases o' with
    | none => exact hm.elim
    | some v =>
      obtain ⟨k, rfl⟩ := idx_ok h hm
      exact .inr ⟨k, rfl⟩
theorem sliceAt_sl {T : TypeId} {e : TypeId} {t : Ty} (h : TyIs P (.sl e t) T) {A : Option Addr} {len cap : Nat} {low high : Option Value} {l h' : Int} (hl : (low = none ∧ l = 0) ∨ ∃ k, low = some (.int k l)) (hh : (high = none ∧ h' = len) ∨ ∃ k, high = some (.int k h'))
    (h0 : 0 ≤ l) (h1 : l ≤ h') (h2 : h' ≤ cap) (w : World) :
    (Instr.sliceAt T (.slice A len cap) low high none).run P w = .ok (.slice (if cap = l.toNat then A else A.map (·.add (l.toNat * t.sz))) (h'.toNat - l.toNat) (cap - l.toNat)) w := by
  obtain ⟨hu, _, hte⟩ := h
  simp only [Instr.sliceAt, Instr.slice, Sem.run_bind, run_underlying hu, Result.andThen_ok, bounds_ok hl hh h0 h1 h2, hte.sizeOf, Sem.run_pure]
theorem wide_ok {e : TypeId} {t : Ty} {x : AV} {xs : List t.Den} {u : Value} (hx : Match S w γ x u) (h : castTo (.sl e t) (wide x) = some xs) :
    ∃ A c, u = .slice A (lenAV x xs.length) c ∧ Rep S w (.sl e t) xs [.slice A xs.length c] ∧ xs.length ≤ c ∧ lenAV x xs.length ≤ xs.length := by
  have key : ∀ y, wide y = y → (∀ n, lenAV y n = n) → Match S w γ y u → castTo (.sl e t) y = some xs → ∃ A c, u = .slice A (lenAV y xs.length) c ∧ Rep S w (.sl e t) xs [.slice A xs.length c] ∧ xs.length ≤ c ∧ lenAV y xs.length ≤ xs.length := by
    intro y _ hl hy hc
    obtain ⟨cs, hr, rfl⟩ := castTo_ok hy hc
    have hr0 := hr
    simp only [Rep] at hr0
    obtain ⟨A, c, rfl, hlc, _⟩ := hr0
    exact ⟨A, c, by rw [hl]; rfl, hr, hlc.1, by rw [hl]; exact Nat.le_refl _⟩
  cases x with
  | lent e' t' ys n =>
    simp only [wide, castTo] at h
    simp only [Match] at hx
    obtain ⟨h1, A, c, rfl, hr⟩ := hx
    obtain ⟨hr2, _⟩ := castD_ok hr h
    have hr0 := hr2
    simp only [Rep] at hr0
    obtain ⟨A', c', e1, hlc, _⟩ := hr0
    simp only [List.cons.injEq, Value.slice.injEq, and_true] at e1
    obtain ⟨_, e2, rfl⟩ := e1
    rw [e2] at hr2
    exact ⟨A, c, rfl, hr2, hlc.1, by rw [← e2]; exact h1⟩
  | _ => exact key _ rfl (fun _ => rfl) hx h
theorem evSlice_ok (hΓ : EnvOk Γ) {w0 : World} {M S0 : Nat → Prop} {st : St} {a : Act} (hc : Core w0 M S0 S γ st a w) {T : TypeId} {x av : AV} {lo hi : Option AV} {ps : List Prop} (h : evSlice Γ st T x lo hi = some (av, ps)) (hps : ∀ p ∈ ps, p) {u : Value} (hx : Match S w γ x u)
    {lo' hi' : Option Value} (hlo : OptMatch S w γ lo lo') (hhi : OptMatch S w γ hi hi') :
    ∃ r, (∀ w', (Instr.sliceAt T u lo' hi' none).run Γ.P w' = .ok r w') ∧ Match S w γ av r := by
  unfold evSlice at h
  split at h
  · rename_i ht
    split at h
    · rename_i s hs
      obtain rfl := castTo_str hx hs
      split at h
      · rename_i l h' hbl hbh
        simp only [Option.some.injEq, Prod.mk.injEq] at h
        obtain ⟨rfl, rfl⟩ := h
        have h0 := hps _ (List.mem_cons_self ..)
        have h1 := hps _ (List.mem_cons_of_mem _ (List.mem_cons_self ..))
        have h2 := hps _ (List.mem_cons_of_mem _ (List.mem_cons_of_mem _ (List.mem_cons_self ..)))
        refine ⟨_, fun w' => ?_, match_str.2 rfl⟩
        simp only [Instr.sliceAt, Instr.slice, Sem.run_bind, run_underlying (hΓ.is ht).1, Result.andThen_ok, Option.isSome_none, Bool.false_eq_true, if_false, bounds_ok (bnd_ok hbl hlo) (bnd_ok hbh hhi) h0 h1 h2, Sem.run_pure]
      · cases h
    · cases h
  · rename_i e t ht
    split at h
    · rename_i xs hxs
      obtain ⟨A, c, rfl, hr, hlc, hln⟩ := wide_ok hx hxs
      split at h
      · rename_i l h' hbl hbh
        simp only [Option.some.injEq, Prod.mk.injEq] at h
        obtain ⟨rfl, rfl⟩ := h
        have h0 := hps _ (List.mem_cons_self ..)
        have h1 := hps _ (List.mem_cons_of_mem _ (List.mem_cons_self ..))
        have h2 := hps _ (List.mem_cons_of_mem _ (List.mem_cons_of_mem _ (List.mem_cons_self ..)))
        refine ⟨_, fun w' => sliceAt_sl (hΓ.is ht) (bnd_ok hbl hlo) (bnd_ok hbh hhi) h0 h1 (by omega) w', match_data.2 ⟨_, rep_cut (e := e) (t := t) (xs := xs) (l := l.toNat) (h := h'.toNat) (by omega) (by omega) hr, rfl⟩⟩
      · cases h
    · split at h
      · rename_i s t' off len _
        split at h
        · rename_i e' t2 xs fro hs
          split at h
          · rename_i hb
            simp only [Bool.and_eq_true] at hb
            obtain rfl := Ty.eq_of_beq hb.1
            obtain rfl := Ty.eq_of_beq hb.2
            split at h
            · rename_i l h' hbl hbh
              simp only [Option.some.injEq, Prod.mk.injEq] at h
              obtain ⟨rfl, rfl⟩ := h
              have h0 := hps _ (List.mem_cons_self ..)
              have h1 := hps _ (List.mem_cons_of_mem _ (List.mem_cons_self ..))
              have h2 := hps _ (List.mem_cons_of_mem _ (List.mem_cons_of_mem _ (List.mem_cons_self ..)))
              obtain ⟨⟨⟨cs, ho, _, _⟩, _⟩, _⟩ := hc.obj s _ hs
              simp only [Match] at hx
              rcases hx with ⟨rfl, rfl, hg, rfl⟩ | ⟨g, o, n, cap, hg, hle, p, rfl, hp, hA⟩
              · rw [hg] at ho
                have hx0 : List.length xs = 0 := by
                  rcases ho.2 with ⟨_, h⟩ | ⟨g, o, cap, cur, h, _⟩
                  · exact h
                  · cases h
                have hh0 : h' = 0 := by omega
                have hl0 : l = 0 := by omega
                subst hh0 hl0
                refine ⟨_, fun w' => sliceAt_sl (hΓ.is ht) (bnd_ok hbl hlo) (bnd_ok hbh hhi) h0 h1 (by omega) w', ?_⟩
                simp only [Match]
                exact .inl ⟨rfl, rfl, hg, by simp⟩
              · rw [hg] at ho
                have hnc : n = List.length xs ∧ n ≤ cap := by
                  rcases ho.2 with ⟨h, _⟩ | ⟨g', o', cap', cur, h, _, h3, _⟩
                  · cases h
                  · injection h with h4 h5 h6
                    subst h6
                    exact ⟨h5, by omega⟩
                refine ⟨_, fun w' => sliceAt_sl (hΓ.is ht) (bnd_ok hbl hlo) (bnd_ok hbh hhi) h0 h1 (by omega) w', ?_⟩
                simp only [Match]
                have e0 : (off + l.toNat) * t2.sz = off * t2.sz + l.toNat * t2.sz := Nat.add_mul ..
                refine .inr ⟨g, o, n, cap, hg, by omega, (if cap - off = l.toNat then p else p + l.toNat * t2.sz), ?_, ?_, fun hor => ?_⟩
                · rw [Nat.sub_sub]
                  split <;> simp [add_mul_sz]
                · split <;> omega
                · by_cases hz : off + l.toNat = 0
                  · have hoff : off = 0 := by omega
                    have hl0 : l.toNat = 0 := by omega
                    rw [hA (.inl hoff), hl0, hoff]
                    simp
                  · have hlt : off + l.toNat < cap := by omega
                    rw [if_neg (by omega), hA (.inr (by omega)), e0, Nat.add_assoc]
            · cases h
          · cases h
        · cases h
      · cases h
  · cases h

/-! ### A struct, an array built -/
def placesOf : List Ty → Nat → List (Nat × Nat)
  | [], _ => []
  | t :: ts, o => (o, t.sz) :: placesOf ts (o + t.sz)
theorem places_struct : ∀ {ts : List Ty} {fs : List Field} {o : Nat}, FieldsIs P ts fs o → fs.mapM (fun f => (P.info? f.type).map fun i => (f.offset, i.size)) = some (placesOf ts o)
  | [], fs, o, h => by simp only [FieldsIs] at h; subst h; rfl
  | t :: ts, fs, o, h => by
    obtain ⟨f, fs', rfl, _, ho, ht, hfs⟩ := h
    obtain ⟨i, h1, _, h3⟩ := ht.info.get
    simp [List.mapM_cons, h1, h3, ho, places_struct hfs, placesOf]
theorem places_get : ∀ {ts : List Ty} {o k : Nat} {tk : Ty}, Ty.subs ts k [] = some tk → (placesOf ts o)[k]? = some (o + Ty.offss ts k [], tk.sz)
  | [], _, _, _, h => by simp [Ty.subs] at h
  | t :: ts, o, 0, tk, h => by
    have : t = tk := by
      have : t.sub [] = some tk := h
      cases t <;> simpa [Ty.sub] using this
    subst this
    simp [placesOf, Ty.offss, offs_nil]
  | t :: ts, o, k + 1, tk, h => by
    have := places_get (ts := ts) (o := o + t.sz) (k := k) (by simpa [Ty.subs] using h)
    simp [placesOf, Ty.offss, this, Nat.add_assoc]
theorem elems_offs {c : Nat} : ∀ {ts : List Ty} {k : Nat} {tk : Ty}, (∀ t ∈ ts, t.sz = c) → Ty.subs ts k [] = some tk → Ty.offss ts k [] = k * c ∧ tk.sz = c
  | [], _, _, _, h => by simp [Ty.subs] at h
  | t :: ts, 0, tk, hc, h => by
    have : t = tk := by
      have : t.sub [] = some tk := h
      cases t <;> simpa [Ty.sub] using this
    subst this
    exact ⟨by simp [Ty.offss, offs_nil], hc _ (by simp)⟩
  | t :: ts, k + 1, tk, hc, h => by
    obtain ⟨h1, h2⟩ := elems_offs (ts := ts) (k := k) (fun t' h' => hc t' (by simp [h'])) (by simpa [Ty.subs] using h)
    exact ⟨by simp only [Ty.offss, h1, hc t (by simp), Nat.add_mul, Nat.one_mul]; omega, h2⟩
theorem foldl_set : ∀ (us : List Value) (k off : Nat) (cs : Array Value), off + k + us.length ≤ cs.size →
    ((us.zipIdx k).foldl (fun (cs : Array Value) (x : Value × Nat) => cs.setIfInBounds (off + x.2) x.1) cs).toList = cs.toList.take (off + k) ++ us ++ cs.toList.drop (off + k + us.length)
  | [], k, off, cs, h => by simp
  | u :: us, k, off, cs, h => by
    simp only [List.length_cons] at h
    simp only [List.zipIdx_cons, List.foldl_cons]
    rw [foldl_set us (k + 1) off _ (by simp; omega), Array.toList_setIfInBounds, List.set_eq_take_append_cons_drop, if_pos (by simp; omega)]
    have hl : (cs.toList.take (off + k)).length = off + k := by simp; omega
    have e1 : (cs.toList.take (off + k) ++ u :: cs.toList.drop (off + k + 1)).take (off + (k + 1)) = cs.toList.take (off + k) ++ [u] := by
      rw [List.take_append, List.take_of_length_le (by omega), hl, show off + (k + 1) - (off + k) = 1 by omega]
      simp
    have e2 : (cs.toList.take (off + k) ++ u :: cs.toList.drop (off + k + 1)).drop (off + (k + 1) + us.length) = cs.toList.drop (off + k + (us.length + 1)) := by
      rw [List.drop_append, List.drop_of_length_le (by omega), hl, show off + (k + 1) + us.length - (off + k) = us.length + 1 by omega, List.drop_succ_cons, List.drop_drop, List.nil_append]
      congr 1
      omega
    rw [e1, e2]
    simp [List.append_assoc]
def buildOn (fs : List Ty) : List (Nat × AV) → Ty.Dens fs → Option (Ty.Dens fs)
  | [], x => some x
  | (k, av) :: r, x =>
    match Ty.subs fs k [] with
    | some tk => (match castTo tk av with
      | some y => (match updps fs x k [] ⟨tk, y⟩ with
        | some x' => buildOn fs r x'
        | none => none)
      | none => none)
    | none => none
def PartsMatch (S : Nat → Prop) (w : World) (γ : Nat → Value) : List (Nat × AV) → List (Nat × Value) → Prop
  | [], vs => vs = []
  | (k, av) :: r, vs => ∃ v vs', vs = (k, v) :: vs' ∧ Match S w γ av v ∧ PartsMatch S w γ r vs'
theorem fill_ok {fs : List Ty} {place : Nat → Option (Nat × Nat)} (hp : ∀ k tk, Ty.subs fs k [] = some tk → place k = some (Ty.offss fs k [], tk.sz)) :
    ∀ {parts : List (Nat × AV)} {vs : List (Nat × Value)} {x x' : Ty.Dens fs} {cells : Array Value}, PartsMatch S w γ parts vs → Reps S w fs x cells.toList → buildOn fs parts x = some x' →
      ∃ cells', Instr.fill place cells vs = some cells' ∧ Reps S w fs x' cells'.toList
  | [], vs, x, x', cells, hm, hr, hb => by
    simp only [PartsMatch] at hm
    subst hm
    have hb : some x = some x' := hb
    simp only [Option.some.injEq] at hb
    subst hb
    exact ⟨cells, rfl, hr⟩
  | (k, av) :: parts, vs, x, x', cells, hm, hr, hb => by
    obtain ⟨v, vs', rfl, h1, h2⟩ := hm
    unfold buildOn at hb
    split at hb
    · rename_i tk htk
      split at hb
      · rename_i y hy
        split at hb
        · rename_i x1 hx1
          obtain ⟨us, hu, rfl⟩ := castTo_ok h1 hy
          obtain ⟨g1, _, g3⟩ := reps_updp hr hu (fun q hq => by rw [inRs_nil] at hq; cases hq) hx1
          have hul := hu.len
          have hcl := hr.len
          have hcells : (toVal tk us).cells.toList = us := hu.cells
          have hcs : (toVal tk us).cells.size = tk.sz := by rw [← Array.length_toList, hcells, hul]
          rw [Array.length_toList] at hcl
          have hset : ((toVal tk us).cells.zipIdx.foldl (fun (cs : Array Value) (x : Value × Nat) => cs.setIfInBounds (Ty.offss fs k [] + x.2) x.1) cells).toList = cells.toList.take (Ty.offss fs k []) ++ us ++ cells.toList.drop (Ty.offss fs k [] + us.length) := by
            rw [← Array.foldl_toList, Array.toList_zipIdx, hcells]
            have := foldl_set us 0 (Ty.offss fs k []) cells (by omega)
            simpa using this
          rw [← hset] at g1
          obtain ⟨cells', e1, e2⟩ := fill_ok hp h2 g1 hb
          refine ⟨cells', ?_, e2⟩
          unfold Instr.fill
          simp only [hp k tk htk, hcs]
          rw [if_neg (by simp; omega)]
          exact e1
        · cases hb
      · cases hb
    · cases hb
def evBuild (Γ : Env) (T : TypeId) (parts : List (Nat × AV)) : Ev :=
  match Γ.ty T with
  | some (.st fs) => (match buildOn fs parts (Ty.dflts fs) with
    | some x => some (.data (.st fs) x, [])
    | none => none)
  | _ => none
theorem evBuild_ok (hΓ : EnvOk Γ) {T : TypeId} {parts : List (Nat × AV)} {av : AV} {ps : List Prop} (h : evBuild Γ T parts = some (av, ps)) {vs : Array (Nat × Value)} (hm : PartsMatch S w γ parts vs.toList) :
    ∃ r, (∀ w', (Instr.build T vs).run Γ.P w' = .ok r w') ∧ Match S w γ av r := by
  unfold evBuild at h
  split at h
  · rename_i fs ht
    split at h
    · rename_i x hx
      simp only [Option.some.injEq, Prod.mk.injEq] at h
      obtain ⟨rfl, rfl⟩ := h
      obtain ⟨hi, _, _, hh⟩ := hΓ.is ht
      obtain ⟨i, h1, h2, _⟩ := hi.get
      have hz : Reps S w fs (Ty.dflts fs) ((zeross fs).toArray).toList := by simpa using reps_zero S w fs
      rcases hh with ⟨fs', hu, hfs⟩ | ⟨n, e, hu, ⟨hn, hpos⟩, hel⟩
      · obtain ⟨cells', e1, e2⟩ := fill_ok (place := fun k => (placesOf fs 0).toArray[k]?) (fun k tk hk => by
          rw [List.getElem?_toArray, places_get hk, Nat.zero_add]) hm hz hx
        have hb : Γ.P.built T vs.toList = some cells' := by
          unfold Program.built
          simp only [h1, hu, h2, places_struct hfs, Value.cells]
          exact e1
        exact ⟨_, fun w' => run_build w' T vs cells' hb, match_data.2 ⟨cells'.toList, by simpa only [Rep] using e2, by simp [toVal]⟩⟩
      · cases fs with
        | nil => simp at hn; omega
        | cons t ts =>
          obtain ⟨ie, g1, _, g3⟩ := hel.1.info.get
          have hall : ∀ t' ∈ t :: ts, t'.sz = ie.size := fun t' ht' => by
            obtain ⟨ie', k1, _, k3⟩ := (hel.all t' ht').info.get
            rw [g1] at k1
            simp only [Option.some.injEq] at k1
            rw [k1, k3]
          obtain ⟨cells', e1, e2⟩ := fill_ok (place := fun k => some (k * ie.size, ie.size)) (fun k tk hk => by
            obtain ⟨k1, k2⟩ := elems_offs hall hk
            rw [k1, k2]) hm hz hx
          have hb : Γ.P.built T vs.toList = some cells' := by
            unfold Program.built
            simp only [h1, hu, h2, g1, Value.cells]
            exact e1
          exact ⟨_, fun w' => run_build w' T vs cells' hb, match_data.2 ⟨cells'.toList, by simpa only [Rep] using e2, by simp [toVal]⟩⟩
    · cases h
  · cases h
end
end Go.Abs
