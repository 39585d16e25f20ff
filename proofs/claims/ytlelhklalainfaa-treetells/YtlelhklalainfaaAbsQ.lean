/- Part of the proof of the law's row: YtlelhklalainfaaAbsQ. -/
import Derived.Test.YtlelhklalainfaaAbsP
set_option linter.all false
set_option linter.unusedVariables false
set_option linter.unusedSimpArgs false
namespace Go.Abs
open Go.RowKit

/-- The functions that may be called, and what they give. -/
abbrev Fns := List (Nat × Spec)
def Callable (P : Program) (f : FuncId) : Prop := ∃ fn, P.funcs[f]? = some fn ∧ fn.body.isSome = true ∧ (fn.name == "runtime.NumGoroutine") = false
def FnsOk (P : Program) (Φ : Fns) : Prop := ∀ f spec, get Φ f = some spec → Callable P f ∧ FnOk P f spec
def putSt (st : St) (d : Option Nat) (av : AV) : Option St :=
  match d with
  | some d => if decide (d < st.nt) then some { st with slots := (d, av) :: st.slots } else none
  | none => some st
/-- A slice variable's row bears the variable's number. -/
def assignSt (Γ : Env) (st : St) (d : Nat) (T : TypeId) (av : AV) : Option St :=
  if decide (d < st.nt) then
    (match av with
    | .own s t off n => some { st.rename s d with slots := (d, .own d t off n) :: (st.rename s d).slots }
    | .nilS => (match Γ.ty T with
      | some (.sl e t) => some (newSt st d (.row e t [] false) (.own d t 0 0))
      | _ => some { st with slots := (d, .nilS) :: st.slots })
    | av => some { st with slots := (d, av) :: st.slots })
  else none
def callArgs (st : St) (c : Call) : Option (FuncId × List AV × List Prop) :=
  match c.callee with
  | .value x => (match opd st x, opds st c.args.toList with
    | some (.fn f caps, p), some (l, q) => some (f, l ++ caps, p ++ q)
    | _, _ => none)
  | _ => none
def stepMem (Γ : Env) (Φ : Fns) (st : St) (o : Oper) : Option (St × List Prop) :=
  match o.op, o.dst with
  | .alloc T, some d => absAlloc Γ st d T
  | .box T x, some d => (match opd st x with
    | some (a, p) => (match absBox Γ st d T a with
      | some (st', q) => some (st', p ++ q)
      | none => none)
    | none => none)
  | .store T x y, none => (match opd st x, opd st y with
    | some (a, p), some (b, p') => (match absStore Γ st T a b with
      | some (st', q) => some (st', p ++ (p' ++ q))
      | none => none)
    | _, _ => none)
  | .buildSlice T len parts, some d => (match opdn st parts.toList with
    | some (l, p) => (match absBuildSlice Γ st d T len l with
      | some (st', q) => some (st', p ++ q)
      | none => none)
    | none => none)
  | .makeSlice T x y, some d => (match opd st x, opd st y with
    | some (a, p), some (b, p') => (match absMake Γ st d T a b with
      | some (st', q) => some (st', p ++ (p' ++ q))
      | none => none)
    | _, _ => none)
  | .call c, dst => (match c.callee, c.args.toList, c.argTypes.toList, dst with
    | .builtin .append, [x, y], [T, T'], some d => if T = T' then (match opd st x, opd st y with
      | some (a, p), some (b, p') => (match absAppend Γ st d T a b with
        | some (st', q) => some (st', p ++ (p' ++ q))
        | none => none)
      | _, _ => none) else none
    | .value _, _, _, _ => (match callArgs st c with
      | some (f, l, p) => (match get Φ f with
        | some spec => (match absCall spec st (dst.getD st.nt) l with
          | some (st', r, q) => (match putSt st' dst r with
            | some st'' => some (st'', p ++ q)
            | none => none)
          | none => none)
        | none => none)
      | none => none)
    | _, _, _, _ => none)
  | _, _ => none
def isAssign : Op → Bool
  | .assign _ => true
  | _ => false
/-- One operation, without a guard. -/
def stepPlain (Γ : Env) (Φ : Fns) (st : St) (o : Oper) : Option (St × List Prop) :=
  match evOp Γ st o.op with
  | some (av, p) => (match o.dst with
    | some d => (match (if isAssign o.op then assignSt Γ st d o.type av else putSt st (some d) av) with
      | some st' => some (st', p)
      | none => none)
    | none => some (st, p))
  | none => stepMem Γ Φ st o
/-- Whether an operation under a guard is done. -/
def guardAV (st : St) (ops : List Oper) (j : Nat) (want : Bool) : Option Bool :=
  match ops[j]? with
  | some oj => (match oj.dst with
    | some d => (match get st.slots d with
      | some (.data .bool g) => some (g == want)
      | some (.opt g' (.data .bool g)) => some (g' && (g == want))
      | _ => none)
    | none => none)
  | none => none
/-- An operation under a guard: nothing is written. -/
def stepGuarded (Γ : Env) (Φ : Fns) (st : St) (o : Oper) (G : Bool) : Option (St × List Prop) :=
  match evOp Γ st o.op with
  | some (av, p) => (match putSt st o.dst (.opt G av) with
    | some st' => some (st', p.map fun x => (G = true → x))
    | none => none)
  | none => (match o.op with
    | .call c => (match callArgs st c with
      | some (f, l, p) => (match get Φ f with
        | some spec => (match lendAVs st l with
          | some (bs, st1, p2) => (match spec bs with
            | some (q, r, none) => if r.flatB then (match putSt st o.dst (.opt G r) with
                | some st' => some (st', (p ++ (p2 ++ q)).map fun x => (G = true → x))
                | none => none) else if r.pure then (match putSt st1 o.dst (.opt G r) with
                | some st' => some (st', (p ++ (p2 ++ q)).map fun x => (G = true → x))
                | none => none) else none
            | _ => none)
          | none => none)
        | none => none)
      | none => none)
    | _ => none)
def stepOp (Γ : Env) (Φ : Fns) (ops : List Oper) (st : St) (o : Oper) : Option (St × List Prop) :=
  match o.guard with
  | none => stepPlain Γ Φ st o
  | some (j, want) => (match guardAV st ops j want with
    | some G => stepGuarded Γ Φ st o G
    | none => none)
def runOps (Γ : Env) (Φ : Fns) (ops : List Oper) : List Oper → St → Option (St × List Prop)
  | [], st => some (st, [])
  | o :: os, st => (match stepOp Γ Φ ops st o with
    | some (st1, p) => (match runOps Γ Φ ops os st1 with
      | some (st2, q) => some (st2, p ++ q)
      | none => none)
    | none => none)

section
variable {S : Nat → Prop} {w : World} {γ : Nat → Value} {Γ : Env} {Φ : Fns} {w0 : World} {M S0 : Nat → Prop} {st : St} {a : Act}
theorem putSt_ok (hc : Core w0 M S0 S γ st a w) {d : Option Nat} {av : AV} {st' : St} (h : putSt st d av = some st') {v : Value} (hv : Match S w γ av v) : Core w0 M S0 S γ st' (a.put d v) w := by
  unfold putSt at h
  split at h
  · split at h
    · rename_i hd
      simp only [Option.some.injEq] at h
      subst h
      exact hc.put (by simpa using hd) hv
    · cases h
  · simp only [Option.some.injEq] at h
    subst h
    exact hc
theorem assignSt_ok (hc : Core w0 M S0 S γ st a w) {d : Nat} {T : TypeId} {av : AV} {st' : St} (h : assignSt Γ st d T av = some st') {v : Value} (hv : Match S w γ av v) : ∃ γ', Core w0 M S0 S γ' st' (a.put (some d) v) w := by
  unfold assignSt at h
  split at h
  · rename_i hd
    simp only [decide_eq_true_eq] at hd
    split at h
    · rename_i s t off n
      simp only [Option.some.injEq] at h
      subst h
      unfold St.rename
      by_cases hsd : s = d
      · subst hsd
        simp only [if_true]
        exact ⟨γ, hc.put hd hv⟩
      · simp only [if_neg hsd]
        have key := hc.rename s d
        obtain ⟨γ', h1, h2⟩ := key
        unfold St.rename at h1
        rw [if_neg hsd] at h1
        refine ⟨γ', h1.put hd ?_⟩
        simp only [Match] at hv ⊢
        rw [h2]
        exact hv
    · simp only [Match] at hv
      subst hv
      split at h
      · rename_i e t ht
        simp only [Option.some.injEq] at h
        subst h
        exact hc.adopt hd e t
      · simp only [Option.some.injEq] at h
        subst h
        exact ⟨γ, hc.put hd (by simp only [Match])⟩
    · simp only [Option.some.injEq] at h
      subst h
      exact ⟨γ, hc.put hd hv⟩
  · cases h
theorem wp_value {P : Program} {o : Oper} {next : Act → World → Prop} {Q : Exit → Act → World → Prop} {r : Value} {w' : World} (hr : (execOp a.eval o).run P w = .ok (.value r) w') (h : next (a.put o.dst r) w') : o.wp P a w next Q := by
  unfold Oper.wp
  rw [hr]
  exact h
theorem callArgs_ok (hc : Core w0 M S0 S γ st a w) {c : Call} {f : FuncId} {l : List AV} {p : List Prop} (h : callArgs st c = some (f, l, p)) (hp : ∀ x ∈ p, x) {P : Program} (hcall : Callable P f) (o : Oper) (ho : o.op = .call c) :
    ∃ vs : List Value, Matches S w γ l vs ∧ ∀ w', (execOp a.eval o).run P w' = .ok (.enter f vs.toArray) w' := by
  unfold callArgs at h
  split at h
  · rename_i x hcal
    split at h
    · rename_i f' caps p1 l1 q1 h1 h2
      simp only [Option.some.injEq, Prod.mk.injEq] at h
      obtain ⟨rfl, rfl, rfl⟩ := h
      have m1 := opd_ok hc h1 (fun x hx => hp x (List.mem_append.2 (.inl hx)))
      have m2 := opds_ok hc h2 (fun x hx => hp x (List.mem_append.2 (.inr hx)))
      simp only [Match] at m1
      obtain ⟨cv, e1, m3⟩ := m1
      refine ⟨c.args.toList.map a.eval ++ cv, matches_append m2 m3, fun w' => ?_⟩
      obtain ⟨fn, g1, g2, g3⟩ := hcall
      simp only [execOp, ho, resolve, hcal, e1, Deferred.ofValue, Sem.run_bind, Sem.run_pure, Result.andThen_ok, invoke, callFunc, run_program, g1, g3, Bool.false_eq_true, if_false]
      have : fn.body.isNone = false := by cases hb : fn.body <;> simp_all
      simp only [this, Bool.false_eq_true, if_false, Sem.run_pure]
      congr 2
      apply Array.toList_inj.1
      simp
    · cases h
  · cases h
theorem wp_skip {P : Program} {o : Oper} {next : Act → World → Prop} {Q : Exit → Act → World → Prop} {w' : World} (hr : (execOp a.eval o).run P w = .ok .skip w') (h : next (a.put o.dst undef) w') : o.wp P a w next Q := by
  unfold Oper.wp
  rw [hr]
  exact h
theorem wp_call {P : Program} {o : Oper} {next : Act → World → Prop} {Q : Exit → Act → World → Prop} {f : FuncId} {vs : Array Value} (hr : (execOp a.eval o).run P w = .ok (.enter f vs) w) (h : Calls P f vs w fun e w' => ∃ v, e = .returned v ∧ next (a.put o.dst v) w') : o.wp P a w next Q := by
  unfold Oper.wp
  rw [hr]
  refine Calls.mono h ?_
  rintro e w' ⟨v, rfl, hn⟩
  exact hn
theorem stepMem_ok (hΓ : EnvOk Γ) (hΦ : FnsOk Γ.P Φ) (hc : Core w0 M S0 S γ st a w) {o : Oper} {st' : St} {ps : List Prop} (h : stepMem Γ Φ st o = some (st', ps)) (hps : ∀ p ∈ ps, p) {next : Act → World → Prop} {Q : Exit → Act → World → Prop}
    (hn : ∀ a' w' S' γ', Core w0 M S0 S' γ' st' a' w' → next a' w') : o.wp Γ.P a w next Q := by
  have inl : ∀ {p q : List Prop}, (∀ x ∈ p ++ q, x) → ∀ x ∈ p, x := fun h x hx => h x (List.mem_append.2 (.inl hx))
  have inr : ∀ {p q : List Prop}, (∀ x ∈ p ++ q, x) → ∀ x ∈ q, x := fun h x hx => h x (List.mem_append.2 (.inr hx))
  unfold stepMem at h
  split at h
  · rename_i T d ho hd
    obtain ⟨r, w', γ', h1, h2⟩ := absAlloc_ok hΓ hc h
    rw [← hd] at h2
    exact wp_value (execOp_value (by simp only [execOp, ho]) h1) (hn _ _ _ _ h2)
  · rename_i T x d ho hd
    split at h
    · rename_i b p hb
      split at h
      · rename_i st1 q hst
        simp only [Option.some.injEq, Prod.mk.injEq] at h
        obtain ⟨rfl, rfl⟩ := h
        obtain ⟨r, w', γ', h1, h2⟩ := absBox_ok hΓ hc hst (opd_ok hc hb (inl hps))
        rw [← hd] at h2
        exact wp_value (execOp_value (by simp only [execOp, ho]) h1) (hn _ _ _ _ h2)
      · cases h
    · cases h
  · rename_i T x y ho hd
    split at h
    · rename_i b p b' p' hb hb'
      split at h
      · rename_i st1 q hst
        simp only [Option.some.injEq, Prod.mk.injEq] at h
        obtain ⟨rfl, rfl⟩ := h
        obtain ⟨w', h1, h2⟩ := absStore_ok hΓ hc hst (inr (inr hps)) (opd_ok hc hb (inl hps)) (opd_ok hc hb' (inl (inr hps)))
        refine wp_skip (w' := w') ?_ (hn _ _ S γ ?_)
        · simp only [execOp, ho]
          rw [Sem.run_bind, h1]
          rfl
        · rw [hd]; exact h2
      · cases h
    · cases h
  · rename_i T len parts d ho hd
    split at h
    · rename_i l p hl
      split at h
      · rename_i st1 q hst
        simp only [Option.some.injEq, Prod.mk.injEq] at h
        obtain ⟨rfl, rfl⟩ := h
        obtain ⟨r, w', γ', h1, h2⟩ := absBuildSlice_ok hΓ hc hst (vs := parts.map fun (i, x) => (i, a.eval x)) (by
          rw [Array.toList_map]
          exact opdn_ok hc hl (inl hps))
        rw [← hd] at h2
        exact wp_value (execOp_value (by simp only [execOp, ho]) h1) (hn _ _ _ _ h2)
      · cases h
    · cases h
  · rename_i T x y d ho hd
    split at h
    · rename_i b p b' p' hb hb'
      split at h
      · rename_i st1 q hst
        simp only [Option.some.injEq, Prod.mk.injEq] at h
        obtain ⟨rfl, rfl⟩ := h
        obtain ⟨r, w', γ', h1, h2⟩ := absMake_ok hΓ hc hst (inr (inr hps)) (opd_ok hc hb (inl hps)) (opd_ok hc hb' (inl (inr hps)))
        rw [← hd] at h2
        exact wp_value (execOp_value (by simp only [execOp, ho]) h1) (hn _ _ _ _ h2)
      · cases h
    · cases h
  · rename_i c ho
    split at h
    · rename_i x y T T' d hcal hargs hty hdst
      split at h
      · rename_i hTT
        subst hTT
        split at h
        · rename_i b p b' p' hb hb'
          split at h
          · rename_i st1 q hst
            simp only [Option.some.injEq, Prod.mk.injEq] at h
            obtain ⟨rfl, rfl⟩ := h
            obtain ⟨r, w', γ', h1, h2⟩ := absAppend_ok hΓ hc hst (inr (inr hps)) (opd_ok hc hb (inl hps)) (opd_ok hc hb' (inl (inr hps))) o.type
            have ha : c.args = #[x, y] := Array.toList_inj.1 (by simpa using hargs)
            have ht : c.argTypes = #[T, T] := Array.toList_inj.1 (by simpa using hty)
            refine wp_value (r := r) (w' := w') ?_ (hn _ _ S γ' ?_)
            · simp only [execOp, ho, resolve, hcal, Sem.run_bind, Sem.run_pure, Result.andThen_ok, invoke, builtin, ha, ht, List.map_toArray, List.map_cons, List.map_nil, h1]
            · rw [hdst]; exact h2
          · cases h
        · cases h
      · cases h
    · split at h
      · rename_i f l p hca
        split at h
        · rename_i spec hsp
          split at h
          · rename_i st1 r q hcl
            split at h
            · rename_i st2 hput
              simp only [Option.some.injEq, Prod.mk.injEq] at h
              obtain ⟨rfl, rfl⟩ := h
              obtain ⟨hcb, hfo⟩ := hΦ f spec hsp
              obtain ⟨vs, hm, hrun⟩ := callArgs_ok hc hca (inl hps) hcb o ho
              refine wp_call (hrun w) ((absCall_ok hfo hc hcl (inr hps) hm).mono ?_)
              rintro e w' ⟨v, S', γ', rfl, h1, h2, h3⟩
              exact ⟨v, rfl, hn _ _ S' γ' (putSt_ok h1 hput h2)⟩
            · cases h
          · cases h
        · cases h
      · cases h
    · cases h
  · cases h
theorem stepPlain_ok (hΓ : EnvOk Γ) (hΦ : FnsOk Γ.P Φ) (hc : Core w0 M S0 S γ st a w) {o : Oper} {st' : St} {ps : List Prop} (h : stepPlain Γ Φ st o = some (st', ps)) (hps : ∀ p ∈ ps, p) {next : Act → World → Prop} {Q : Exit → Act → World → Prop}
    (hn : ∀ a' w' S' γ', Core w0 M S0 S' γ' st' a' w' → next a' w') : o.wp Γ.P a w next Q := by
  unfold stepPlain at h
  split at h
  · rename_i av p hav
    split at h
    · rename_i d hd
      split at h
      · rename_i st1 hst
        simp only [Option.some.injEq, Prod.mk.injEq] at h
        obtain ⟨rfl, rfl⟩ := h
        obtain ⟨r, h1, h2⟩ := evOp_ok hΓ hc hav hps
        split at hst
        · obtain ⟨γ', h3⟩ := assignSt_ok hc hst h2
          rw [← hd] at h3
          exact wp_value (h1 w (SameOld.refl w)) (hn _ _ _ _ h3)
        · have h3 := putSt_ok hc hst h2
          rw [← hd] at h3
          exact wp_value (h1 w (SameOld.refl w)) (hn _ _ _ _ h3)
      · cases h
    · rename_i hd
      simp only [Option.some.injEq, Prod.mk.injEq] at h
      obtain ⟨rfl, rfl⟩ := h
      obtain ⟨r, h1, h2⟩ := evOp_ok hΓ hc hav hps
      exact wp_value (h1 w (SameOld.refl w)) (hn _ _ _ _ (by rw [hd]; exact hc))
  · exact stepMem_ok hΓ hΦ hc h hps hn
theorem tmps_bool {tmps : Array Value} {d : Nat} {g : Bool} (h : tmps.getD d undef = .bool g) : tmps[d]? = some (.bool g) := by
  rw [Array.getD_eq_getD_getElem?] at h
  cases h5 : tmps[d]? with
  | none => rw [h5] at h; simp [undef] at h
  | some u => rw [h5] at h; simpa using h
theorem guardAV_ok (hc : Core w0 M S0 S γ st a w) {ops : List Oper} {o : Oper} {j : Nat} {G want : Bool} (h : guardAV st ops j want = some G) (hg : o.guard = some (j, want)) : Region.wanted o (yielded ops.toArray a.tmps) = G := by
  unfold guardAV at h
  split at h
  · rename_i oj hoj
    split at h
    · rename_i d hd
      have e1 : (ops.toArray[j]?).bind (·.dst) = some d := by
        rw [List.getElem?_toArray, hoj]
        exact hd
      have yes : ∀ g, a.tmps.getD d undef = .bool g → Region.wanted o (yielded ops.toArray a.tmps) = (g == want) := by
        intro g h3
        have hy : yielded ops.toArray a.tmps j = some g := by
          unfold yielded
          rw [e1]
          simp only [Option.bind_some, tmps_bool h3]
        simp only [Region.wanted, hg, hy]
        cases g <;> cases want <;> rfl
      split at h
      · rename_i g hb
        simp only [Option.some.injEq] at h
        subst h
        exact yes g (match_bool.1 (hc.slot d _ hb))
      · rename_i g' g hb
        simp only [Option.some.injEq] at h
        subst h
        have h3 := hc.slot d _ hb
        simp only [Match] at h3
        cases g' with
        | true =>
          rw [yes g ((match_bool (γ := γ)).1 ((match_data (γ := γ)).2 (h3.1 rfl)))]
          rfl
        | false =>
          have hu := h3.2 rfl
          have hy : yielded ops.toArray a.tmps j = none := by
            unfold yielded
            rw [e1]
            simp only [Option.bind_some]
            rw [Array.getD_eq_getD_getElem?] at hu
            cases h5 : a.tmps[d]? with
            | none => rfl
            | some u => rw [h5] at hu; simp only [Option.getD_some] at hu; rw [hu]; rfl
          simp only [Region.wanted, hg, hy]
          cases want <;> rfl
      · cases h
    · cases h
  · cases h
end
end Go.Abs
