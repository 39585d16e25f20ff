/- Part of the proof of the law's row: YtnoeomlanbdjeaaAbsF. -/
import Derived.Test.YtnoeomlanbdjeaaAbsE
import Derived.Laws.StructEq
set_option linter.all false
set_option linter.unusedVariables false
set_option linter.unusedSimpArgs false
namespace Go.Abs
open Go.RowKit

section
variable {P : Program}
theorem TyIs.cellsOf {t : Ty} {T : TypeId} (h : TyIs P t T) : P.cellsOf T = t.sz := by
  obtain ⟨i, h1, _, h3⟩ := h.info.get
  simp [Program.cellsOf, h1, h3]
theorem TyIs.sizeOf {t : Ty} {T : TypeId} (h : TyIs P t T) (w : World) : (Go.sizeOf T).run P w = .ok t.sz w := by
  obtain ⟨i, h1, _, h3⟩ := h.info.get
  simp [Go.sizeOf, typeInfo, h1, h3]
theorem TyIs.isAgg {t : Ty} {T : TypeId} (h : TyIs P t T) (w : World) : (Go.isAgg T).run P w = .ok t.agg w := by
  cases t with
  | int k => simp [Go.isAgg, run_underlying h.1, Ty.agg]
  | bool => simp [Go.isAgg, run_underlying h.1, Ty.agg]
  | str => simp [Go.isAgg, run_underlying h.1, Ty.agg]
  | sl e t => simp [Go.isAgg, run_underlying h.1, Ty.agg]
  | len e t => simp [Go.isAgg, run_underlying h.1, Ty.agg]
  | map k e tk te => simp [Go.isAgg, run_underlying h.1, Ty.agg]
  | arr n t =>
    obtain ⟨_, _, _, e, hu, _⟩ := h
    simp [Go.isAgg, run_underlying hu, Ty.agg]
  | opq z =>
    obtain ⟨⟨d, hu, hd⟩, _⟩ := h
    simp only [Go.isAgg, Sem.run_bind, run_underlying hu, Result.andThen_ok, Ty.agg]
    cases d <;> first | rfl | (simp [TypeDesc.isRow] at hd; done)
  | st ts =>
    obtain ⟨_, _, _, h⟩ := h
    rcases h with ⟨fs, hu, _⟩ | ⟨n, e, hu, _⟩ <;> simp [Go.isAgg, run_underlying hu, Ty.agg]
/-- A part of a struct's or an array's cells. -/
theorem part_ok {S : Nat → Prop} {w0 : World} {t : Ty} {T : TypeId} (h : TyIs P t T) {x : t.Den} {c pre post : List Value} (hr : Rep S w0 t x c) {xs : Array Value} (hx : xs.toList = pre ++ (c ++ post)) {off : Nat} (ho : pre.length = off) (w : World) :
    (part T xs off).run P w = .ok (toVal t c) w := by
  have hl := hr.len
  unfold part
  rw [Sem.run_bind, h.isAgg w]
  cases hag : t.agg with
  | true =>
    simp only [Result.andThen_ok, if_true, Sem.run_bind, h.sizeOf w, Sem.run_pure]
    rw [toVal_agg hag]
    congr 2
    apply Array.toList_inj.1
    rw [Array.toList_extract, hx]
    simp only [List.extract_eq_drop_take', ← ho]
    rw [← hl, ← List.append_assoc, List.take_append_of_le_length (by simp), List.take_of_length_le (by simp), List.drop_left]
  | false =>
    obtain ⟨u, hu⟩ : ∃ u, c = [u] := ⟨_, toVal_one hag hr⟩
    have hv : toVal t c = u := by
      subst hu
      cases t <;> first | rfl | cases hag
    have : xs[off]? = some u := by
      rw [← Array.getElem?_toList, hx, ← ho, List.getElem?_append_right (Nat.le_refl _), Nat.sub_self, hu]
      simp
    simp [this, hv]

theorem eqFields_cons {d : Nat} {xs ys : Array Value} {f : Field} {fs : List Field} {a b : Value} {r s : Bool} {w : World} (hn : (f.name == "_") = false) (ha : (part f.type xs f.offset).run P w = .ok a w) (hb : (part f.type ys f.offset).run P w = .ok b w)
    (he : (Op.equalIn d f.type a b).run P w = .ok r w) (hr : (Op.eqFields d xs ys fs).run P w = .ok s w) : (Op.eqFields d xs ys (f :: fs)).run P w = .ok (r && s) w := by
  have hn' : f.name ≠ "_" := by simpa using hn
  rw [Op.eqFields]
  simp only [if_pos hn', Sem.run_bind, ha, hb, he, Result.andThen_ok]
  cases r
  · simp
  · simpa using hr
theorem eqItems_cons {d : Nat} {e : TypeId} {c i : Nat} {xs ys : Array Value} {is : List Nat} {a b : Value} {r s : Bool} {w : World} (ha : (part e xs (i * c)).run P w = .ok a w) (hb : (part e ys (i * c)).run P w = .ok b w)
    (he : (Op.equalIn d e a b).run P w = .ok r w) (hr : (Op.eqItems d e c xs ys is).run P w = .ok s w) : (Op.eqItems d e c xs ys (i :: is)).run P w = .ok (r && s) w := by
  rw [Op.eqItems]
  simp only [Sem.run_bind, ha, hb, he, Result.andThen_ok]
  cases r
  · simp
  · simpa using hr
mutual
theorem eq_ok {S S' : Nat → Prop} {w0 w1 : World} (w : World) : ∀ {t : Ty} {T : TypeId} {x y : t.Den} {cs cs' : List Value} {d : Nat}, TyIs P t T → t.flat = true → t.height ≤ d → Rep S w0 t x cs → Rep S' w1 t y cs' →
    (Op.equalIn d T (toVal t cs) (toVal t cs')).run P w = .ok (Ty.eqb t x y) w
  | .int k, T, x, y, _, _, d, h, _, hd, h1, h2 => by
    simp only [Rep] at h1 h2
    subst h1 h2
    simp only [Ty.height] at hd
    obtain ⟨d, rfl⟩ : ∃ e, d = e + 1 := ⟨d - 1, by omega⟩
    rw [show toVal (.int k) [Value.int k x] = .int k x from rfl, show toVal (.int k) [Value.int k y] = .int k y from rfl, run_equalIn_int w d T k k x y h.1]
    rfl
  | .bool, T, x, y, _, _, d, h, _, hd, h1, h2 => by
    simp only [Rep] at h1 h2
    subst h1 h2
    simp only [Ty.height] at hd
    obtain ⟨d, rfl⟩ : ∃ e, d = e + 1 := ⟨d - 1, by omega⟩
    rw [show toVal .bool [Value.bool x] = .bool x from rfl, show toVal .bool [Value.bool y] = .bool y from rfl, run_equalIn_bool' w d T x y h.1]
    rfl
  | .str, T, x, y, _, _, d, h, _, hd, h1, h2 => by
    simp only [Rep] at h1 h2
    subst h1 h2
    simp only [Ty.height] at hd
    obtain ⟨d, rfl⟩ : ∃ e, d = e + 1 := ⟨d - 1, by omega⟩
    rw [show toVal .str [Value.string x] = .string x from rfl, show toVal .str [Value.string y] = .string y from rfl, run_equalIn_string w d T x y h.1, bytes_beq]
    rfl
  | .sl _ _, _, _, _, _, _, _, _, hf, _, _, _ => by simp [Ty.flat] at hf
  | .map _ _ _ _, _, _, _, _, _, _, _, hf, _, _, _ => by simp [Ty.flat] at hf
  | .arr _ _, _, _, _, _, _, _, _, hf, _, _, _ => by simp [Ty.flat] at hf
  | .opq _, _, _, _, _, _, _, _, hf, _, _, _ => by simp [Ty.flat] at hf
  | .len _ _, _, _, _, _, _, _, _, hf, _, _, _ => by simp [Ty.flat] at hf
  | .st ts, T, x, y, cs, cs', d, h, hf, hd, h1, h2 => by
    simp only [Ty.height] at hd
    obtain ⟨d, rfl⟩ : ∃ e, d = e + 1 := ⟨d - 1, by omega⟩
    simp only [Ty.flat] at hf
    simp only [Rep] at h1 h2
    obtain ⟨_, hp, _, hu⟩ := h
    simp only [toVal, Ty.eqb]
    rcases hu with ⟨fs, hu, hfs⟩ | ⟨n, e, hu, ⟨hn, hpos⟩, hel⟩
    · have hfo : P.fieldsOf T = fs := by simp [Program.fieldsOf, hu]
      rw [run_equalIn_struct w d T _ _ (by rw [hfo]; exact hu) hp, hfo]
      exact eqs_ok w (pre := []) (pre' := []) hfs hf (by omega) h1 h2 (by simp) (by simp) rfl rfl
    · cases ts with
      | nil =>
        simp only [List.length_nil] at hn
        omega
      | cons t ts =>
        obtain ⟨i, hi, _, _⟩ := hel.1.info.get
        rw [run_equalIn_array w d _ _ hu hi, hel.1.cellsOf, List.range_eq_range', hn]
        exact eqe_ok w (pre := []) (pre' := []) (k := 0) hel (fun t' ht' => (hel.all t' ht').cellsOf.symm.trans hel.1.cellsOf) hf (by omega) h1 h2 (by simp) (by simp) (by simp) (by simp)
theorem eqs_ok {S S' : Nat → Prop} {w0 w1 : World} (w : World) : ∀ {ts : List Ty} {fs : List Field} {o : Nat} {x y : Ty.Dens ts} {cs cs' : List Value} {d : Nat} {xs ys : Array Value} {pre pre' : List Value}, FieldsIs P ts fs o → Ty.flats ts = true → Ty.heights ts ≤ d →
    Reps S w0 ts x cs → Reps S' w1 ts y cs' → xs.toList = pre ++ cs → ys.toList = pre' ++ cs' → pre.length = o → pre'.length = o →
    (Op.eqFields d xs ys fs).run P w = .ok (Ty.eqbs ts x y) w
  | [], fs, o, x, y, cs, cs', d, xs, ys, pre, pre', h, _, _, _, _, _, _, _, _ => by
    simp only [FieldsIs] at h
    subst h
    simp [Op.eqFields, Ty.eqbs]
  | t :: ts, fs, o, x, y, cs, cs', d, xs, ys, pre, pre', h, hf, hd, h1, h2, e1, e2, l1, l2 => by
    obtain ⟨f, fs', rfl, hn, ho, ht, hfs⟩ := h
    simp only [Ty.flats, Bool.and_eq_true] at hf
    simp only [Ty.heights] at hd
    simp only [Reps] at h1 h2
    obtain ⟨c1, c2, rfl, g1, g2⟩ := h1
    obtain ⟨c1', c2', rfl, g1', g2'⟩ := h2
    have hl := g1.len
    have hl' := g1'.len
    simp only [Ty.eqbs]
    refine eqFields_cons hn (part_ok ht g1 e1 (l1.trans ho.symm) w) (part_ok ht g1' e2 (l2.trans ho.symm) w) (eq_ok w ht hf.1 (by omega) g1 g1') ?_
    exact eqs_ok w (pre := pre ++ c1) (pre' := pre' ++ c1') hfs hf.2 (by omega) g2 g2' (by rw [e1, List.append_assoc]) (by rw [e2, List.append_assoc]) (by rw [List.length_append, l1, hl]) (by rw [List.length_append, l2, hl'])
theorem eqe_ok {S S' : Nat → Prop} {w0 w1 : World} (w : World) : ∀ {ts : List Ty} {e : TypeId} {k c : Nat} {x y : Ty.Dens ts} {cs cs' : List Value} {d : Nat} {xs ys : Array Value} {pre pre' : List Value}, ElemsIs P ts e → (∀ t ∈ ts, t.sz = c) → Ty.flats ts = true → Ty.heights ts ≤ d →
    Reps S w0 ts x cs → Reps S' w1 ts y cs' → xs.toList = pre ++ cs → ys.toList = pre' ++ cs' → pre.length = k * c → pre'.length = k * c →
    (Op.eqItems d e c xs ys (List.range' k ts.length)).run P w = .ok (Ty.eqbs ts x y) w
  | [], e, k, c, x, y, cs, cs', d, xs, ys, pre, pre', h, _, _, _, _, _, _, _, _, _ => by simp [Op.eqItems, Ty.eqbs]
  | t :: ts, e, k, c, x, y, cs, cs', d, xs, ys, pre, pre', h, hc, hf, hd, h1, h2, e1, e2, l1, l2 => by
    obtain ⟨ht, hts⟩ := h
    simp only [Ty.flats, Bool.and_eq_true] at hf
    simp only [Ty.heights] at hd
    simp only [Reps] at h1 h2
    obtain ⟨c1, c2, rfl, g1, g2⟩ := h1
    obtain ⟨c1', c2', rfl, g1', g2'⟩ := h2
    have hl := g1.len
    have hl' := g1'.len
    have hct := hc t (by simp)
    simp only [Ty.eqbs, List.length_cons, List.range'_succ]
    refine eqItems_cons (part_ok ht g1 e1 l1 w) (part_ok ht g1' e2 l2 w) (eq_ok w ht hf.1 (by omega) g1 g1') ?_
    exact eqe_ok w (pre := pre ++ c1) (pre' := pre' ++ c1') hts (fun t' h' => hc t' (by simp [h'])) hf.2 (by omega) g2 g2' (by rw [e1, List.append_assoc]) (by rw [e2, List.append_assoc]) (by rw [List.length_append, l1, hl, hct, Nat.add_mul, Nat.one_mul]) (by rw [List.length_append, l2, hl', hct, Nat.add_mul, Nat.one_mul])
end
end
end Go.Abs
