/- Part of the proof of the law's row: YtnoeomlanbdjeaaAbsF2. -/
import Derived.Test.YtnoeomlanbdjeaaAbsF
import Derived.WideKeyElems
set_option linter.all false
set_option linter.unusedVariables false
set_option linter.unusedSimpArgs false
namespace Go.Abs
open Go.RowKit

/-! ### Maps, as lists of entries in the order of their making -/
def mfind {α β : Type} (q : α → α → Bool) : List (α × β) → α → Option β
  | [], _ => none
  | (k, v) :: r, x => if q x k then some v else mfind q r x
def mput {α β : Type} (q : α → α → Bool) : List (α × β) → α → β → List (α × β)
  | [], x, v => [(x, v)]
  | (k, u) :: r, x, v => if q x k then (k, v) :: r else (k, u) :: mput q r x v
abbrev eqS (x y : ByteArray) : Bool := Ty.eqb .str x y
abbrev eqI (x y : Int) : Bool := Ty.eqb (.int .i64) x y
/-- Keys that are held against one another at once. -/
def Ty.keyB : Ty → Bool
  | .int _ => true
  | .bool => true
  | .str => true
  | _ => false
section
variable {P : Program} {S S' : Nat → Prop} {w w' : World}
theorem keqb_eq {t : Ty} (h : t.keyB = true) {x y : t.Den} : Ty.eqb t x y = true ↔ x = y := by
  cases t with
  | int k => exact decide_eq_true_iff
  | bool => exact beq_iff_eq
  | str => exact decide_eq_true_iff
  | _ => cases h
theorem key_val {t : Ty} (h : t.keyB = true) {x : t.Den} {cx cy : List Value} (hx : Rep S w t x cx) (hy : Rep S' w' t x cy) : cx = cy := by
  cases t with
  | int k => simp only [Rep] at hx hy; rw [hx, hy]
  | bool => simp only [Rep] at hx hy; rw [hx, hy]
  | str => simp only [Rep] at hx hy; rw [hx, hy]
  | _ => cases h
theorem bytes_eqb (x y : ByteArray) : (x == y) = @decide (@Eq ByteArray x y) (decEqBytes x y) := by
  have e : (x == y) = (x.data == y.data) := rfl
  rw [e]
  by_cases h : x = y
  · subst h
    simp
  · rw [decide_eq_false h]
    cases x; cases y
    simpa using h
theorem key_desc {t : Ty} (h : t.keyB = true) {T : TypeId} (ht : TyIs P t T) : ∃ d, P.underlying T = some d ∧ (∀ (S S' : Nat → Prop) (w w' : World) (x y : t.Den) (cx cy : List Value), Rep S w t x cx → Rep S' w' t y cy → Instr.sameNow d (toVal t cx) (toVal t cy) = some (Ty.eqb t x y)) ∧
    (∀ b n (v : Value) (w : World), (Instr.checkKey b (n + 1) T v).run P w = .ok () w) := by
  cases t with
  | int k =>
    refine ⟨_, ht.1, ?_, fun b n v w => ?_⟩
    · intro S S' w w' x y cx cy hx hy
      simp only [Rep] at hx hy
      subst hx hy
      simp only [toVal, List.headD_cons, Instr.sameNow, if_true, Ty.eqb]
      rfl
    · simp only [Instr.checkKey, Sem.run_bind, run_underlying ht.1, Result.andThen_ok]
      cases v <;> rfl
  | bool =>
    refine ⟨_, ht.1, ?_, fun b n v w => ?_⟩
    · intro S S' w w' x y cx cy hx hy
      simp only [Rep] at hx hy
      subst hx hy
      rfl
    · simp only [Instr.checkKey, Sem.run_bind, run_underlying ht.1, Result.andThen_ok]
      cases v <;> rfl
  | str =>
    refine ⟨_, ht.1, ?_, fun b n v w => ?_⟩
    · intro S S' w w' x y cx cy hx hy
      simp only [Rep] at hx hy
      subst hx hy
      simp only [toVal, List.headD_cons, Instr.sameNow, Ty.eqb]
      exact congrArg some (bytes_eqb x y)
    · simp only [Instr.checkKey, Sem.run_bind, run_underlying ht.1, Result.andThen_ok]
      cases v <;> rfl
  | _ => cases h
/-- Where a key stands. -/
theorem findNow_ok {tk te : Ty} (hk : tk.keyB = true) {d : TypeDesc} (hd : ∀ (S S' : Nat → Prop) (w w' : World) (x y : tk.Den) (cx cy : List Value), Rep S w tk x cx → Rep S' w' tk y cy → Instr.sameNow d (toVal tk cx) (toVal tk cy) = some (Ty.eqb tk x y))
    {x : tk.Den} {cx : List Value} (hx : Rep S w tk x cx) : ∀ (l : List (tk.Den × te.Den)) (es : List MapEntry) (i : Nat), es.length = l.length →
    (∀ (j : Nat) (p : tk.Den × te.Den), l[j]? = some p → ∃ e : MapEntry, es[j]? = some e ∧ ∃ ck : List Value, Rep S' w' tk p.1 ck ∧ e.key = toVal tk ck) →
    (Instr.findNow d (toVal tk cx) es i = some none ∧ mfind (Ty.eqb tk) l x = none ∧ ∀ v, mput (Ty.eqb tk) l x v = l ++ [(x, v)]) ∨
    ∃ (j : Nat) (e : MapEntry) (p : tk.Den × te.Den), Instr.findNow d (toVal tk cx) es i = some (some (i + j, e.val)) ∧ es[j]? = some e ∧ l[j]? = some p ∧ p.1 = x ∧ mfind (Ty.eqb tk) l x = some p.2 ∧ ∀ v, mput (Ty.eqb tk) l x v = l.set j (p.1, v)
  | [], es, i, hl, _ => by
    have : es = [] := List.length_eq_zero_iff.1 hl
    subst this
    exact .inl ⟨rfl, rfl, fun _ => rfl⟩
  | (k, u) :: l, [], i, hl, _ => by simp at hl
  | (k, u) :: l, e :: es, i, hl, he => by
    obtain ⟨e', h1, ck, h2, h3⟩ := he 0 (k, u) rfl
    have h1 : e = e' := by simpa using h1
    subst h1
    have hs := hd S S' w w' x k cx ck hx h2
    cases hq : Ty.eqb tk x k with
    | true =>
      have hxk := (keqb_eq hk).1 hq
      refine .inr ⟨0, e, (k, u), ?_, rfl, rfl, hxk.symm, ?_, fun v => ?_⟩
      · simp only [Instr.findNow, h3, hs, hq, Nat.add_zero]
      · simp only [mfind, hq, if_true]
      · simp only [mput, hq, if_true, List.set_cons_zero]
    | false =>
      have hrec := findNow_ok hk hd hx l es (i + 1) (by simpa using hl) (fun j p hj => by
        obtain ⟨e2, g1, g2⟩ := he (j + 1) p (by simpa using hj)
        exact ⟨e2, by simpa using g1, g2⟩)
      have hf : Instr.findNow d (toVal tk cx) (e :: es) i = Instr.findNow d (toVal tk cx) es (i + 1) := by simp only [Instr.findNow, h3, hs, hq]
      have hm : mfind (Ty.eqb tk) ((k, u) :: l) x = mfind (Ty.eqb tk) l x := by simp only [mfind, hq]; rfl
      have hp : ∀ v, mput (Ty.eqb tk) ((k, u) :: l) x v = (k, u) :: mput (Ty.eqb tk) l x v := fun v => by simp only [mput, hq]; rfl
      rcases hrec with ⟨g1, g2, g3⟩ | ⟨j, e2, p, g1, g2, g3, g4, g5, g6⟩
      · exact .inl ⟨hf.trans g1, hm.trans g2, fun v => by rw [hp, g3]; rfl⟩
      · refine .inr ⟨j + 1, e2, p, ?_, by simpa using g2, by simpa using g3, g4, hm.trans g5, fun v => by rw [hp, g6]; rfl⟩
        rw [hf, g1]
        congr 3
        omega
theorem EntOk.find {tk te : Ty} (hk : tk.keyB = true) {k : TypeId} (ht : TyIs P tk k) {l : List (tk.Den × te.Den)} {es : Array MapEntry} (h : EntOk S w tk te l es) {x : tk.Den} {cx : List Value} (hx : Rep S' w' tk x cx) :
    (∀ w0 : World, (Instr.findKey k (toVal tk cx) es.toList).run P w0 = .ok none w0) ∧ mfind (Ty.eqb tk) l x = none ∧ (∀ v, mput (Ty.eqb tk) l x v = l ++ [(x, v)]) ∨
    ∃ (j : Nat) (e : MapEntry) (p : tk.Den × te.Den), (∀ w0 : World, (Instr.findKey k (toVal tk cx) es.toList).run P w0 = .ok (some (j, e.val)) w0) ∧ es[j]? = some e ∧ l[j]? = some p ∧ p.1 = x ∧ mfind (Ty.eqb tk) l x = some p.2 ∧ ∀ v, mput (Ty.eqb tk) l x v = l.set j (p.1, v) := by
  obtain ⟨d, hd1, hd2, _⟩ := key_desc hk ht
  have := findNow_ok (te := te) hk hd2 hx l es.toList 0 (by simpa using h.1) (fun j p hj => by
    obtain ⟨e, g1, _, ⟨ck, g3, g4⟩, _⟩ := h.2 j p hj
    exact ⟨e, by simpa using g1, ck, g3, g4⟩)
  rcases this with ⟨g1, g2, g3⟩ | ⟨j, e, p, g1, g2, g3, g4, g5, g6⟩
  · exact .inl ⟨fun w0 => by simp only [Instr.findKey, Sem.run_bind, run_underlying hd1, Result.andThen_ok, g1, Sem.run_pure], g2, g3⟩
  · exact .inr ⟨j, e, p, fun w0 => by simp only [Instr.findKey, Sem.run_bind, run_underlying hd1, Result.andThen_ok, g1, Sem.run_pure, Nat.zero_add], by simpa using g2, g3, g4, g5, g6⟩
/-- What a look-up gives. -/
def lookAV (te : Ty) (r : Option te.Den) (ok : Bool) : AV :=
  if ok then .tup [.data te (r.getD te.dflt), .data .bool r.isSome] else .data te (r.getD te.dflt)
theorem TyIs.zeroValue {t : Ty} {T : TypeId} (h : TyIs P t T) (w : World) : (Go.zeroValue T).run P w = .ok (toVal t (zeros t)) w := by
  obtain ⟨i, h1, h2, _⟩ := h.info.get
  simp [Go.zeroValue, typeInfo, h1, h2]
theorem look_nil {k e T : TypeId} {tk te : Ty} (hT : TyIs P (.map k e tk te) T) (hk : tk.keyB = true) (key : Value) (ok : Bool) (γ : Nat → Value) :
    ∃ v, (∀ w0 : World, (Instr.lookup T (.map none) key ok).run P w0 = .ok v w0) ∧ Match S w γ (lookAV te none ok) v := by
  obtain ⟨h1, _, h2, h3⟩ := hT
  obtain ⟨d, hd1, hd2, hd3⟩ := key_desc hk h2
  have hf : ∀ w0 : World, (Instr.findKey k key (#[] : Array MapEntry).toList).run P w0 = .ok none w0 := fun w0 => by
    simp only [Instr.findKey, Sem.run_bind, run_underlying hd1, Result.andThen_ok, Instr.findNow, Sem.run_pure]
  refine ⟨if ok then .tuple #[toVal te (zeros te), .bool false] else toVal te (zeros te), fun w0 => ?_, ?_⟩
  · simp only [Instr.lookup, Sem.run_bind, run_underlying h1, Result.andThen_ok, Sem.run_pure, hd3, hf, h3.zeroValue]
  · unfold lookAV
    cases ok with
    | true =>
      simp only [if_true, Match, Matches]
      exact ⟨[_, _], rfl, _, _, rfl, ⟨_, rep_zero S w te, rfl⟩, _, _, rfl, ⟨[.bool _], by simp [Rep], rfl⟩, rfl⟩
    | false => simp only [Match, Bool.false_eq_true, if_false]; exact ⟨_, rep_zero S w te, rfl⟩
theorem look_ok {k e T : TypeId} {tk te : Ty} (hT : TyIs P (.map k e tk te) T) (hk : tk.keyB = true) {l : List (tk.Den × te.Den)} {es : Array MapEntry} (h : EntOk S w tk te l es) {x : tk.Den} {cx : List Value} (hx : Rep S' w' tk x cx) (ok : Bool) (γ : Nat → Value) :
    ∃ v, (∀ (w0 : World) (b n : Nat), w0.heap[b]? = some (.map es n) → (Instr.lookup T (.map (some b)) (toVal tk cx) ok).run P w0 = .ok v w0) ∧ Match S w γ (lookAV te (mfind (Ty.eqb tk) l x) ok) v := by
  obtain ⟨h1, _, h2, h3⟩ := hT
  obtain ⟨d, hd1, hd2, hd3⟩ := key_desc hk h2
  have fin : ∀ (y : te.Den) (cv : List Value) (b : Bool), Rep S w te y cv → Match S w γ (if ok then .tup [.data te y, .data .bool b] else .data te y) (if ok then .tuple #[toVal te cv, .bool b] else toVal te cv) := by
    intro y cv b hy
    cases ok with
    | true =>
      simp only [if_true, Match, Matches]
      exact ⟨[_, _], rfl, _, _, rfl, ⟨_, hy, rfl⟩, _, _, rfl, ⟨[.bool _], by simp [Rep], rfl⟩, rfl⟩
    | false => simp only [Match, Bool.false_eq_true, if_false]; exact ⟨_, hy, rfl⟩
  rcases h.find hk h2 hx with ⟨g1, g2, _⟩ | ⟨j, e0, p, g1, g2, g3, _, g5, _⟩
  · refine ⟨if ok = true then .tuple #[toVal te (zeros te), .bool false] else toVal te (zeros te), fun w0 b n hb => ?_, by rw [g2]; exact fin te.dflt _ false (rep_zero S w te)⟩
    · simp only [Instr.lookup, getObj, Sem.run_bind, Sem.run, run_underlying h1, hb, Result.andThen_ok, hd3, Result.andThen]
      simp only [Sem.run_pure, g1, Sem.run_bind, h3.zeroValue, Result.andThen_ok]
  · obtain ⟨e1, k1, _, _, cv, k4, k5⟩ := h.2 j p g3
    rw [g2] at k1
    simp only [Option.some.injEq] at k1
    subst k1
    refine ⟨if ok = true then .tuple #[toVal te cv, .bool true] else toVal te cv, fun w0 b n hb => ?_, by rw [g5]; exact fin p.2 _ true k4⟩
    · simp only [Instr.lookup, getObj, Sem.run_bind, Sem.run, run_underlying h1, hb, Result.andThen_ok, hd3, Result.andThen]
      simp only [Sem.run_pure, g1, Sem.run_bind, Result.andThen_ok, k5]
end
end Go.Abs
