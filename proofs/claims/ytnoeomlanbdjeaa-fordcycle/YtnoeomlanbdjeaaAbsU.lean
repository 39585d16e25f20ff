/- Part of the proof of the law's row: YtnoeomlanbdjeaaAbsU. -/
import Derived.Test.YtnoeomlanbdjeaaAbsT4
import Derived.Laws.Cover3
set_option linter.all false
set_option linter.unusedVariables false
set_option linter.unusedSimpArgs false
namespace Go.Abs
open Go.RowKit

/-! ### What a piece of code computes -/
def All : List Prop → Prop
  | [] => True
  | [p] => p
  | p :: q :: r => p ∧ All (q :: r)
theorem all_mem : ∀ {ps : List Prop}, All ps → ∀ p ∈ ps, p
  | [], _, p, h => by cases h
  | [q], h, p, hp => by
    have : p = q := by simpa using hp
    subst this
    exact h
  | q :: q' :: r, h, p, hp => by
    rcases List.mem_cons.1 hp with rfl | hp
    · exact h.1
    · exact all_mem h.2 p hp
open Classical in
/-- Nothing, unless something holds. -/
noncomputable def need {R : Type} (p : Prop) (k : Option R) : Option R := if p then k else none
theorem need_some {R : Type} {p : Prop} {k : Option R} {r : R} (h : need p k = some r) : p ∧ k = some r := by
  unfold need at h
  split at h
  · rename_i hp; exact ⟨hp, h⟩
  · cases h
theorem need_pos {R : Type} {p : Prop} {k : Option R} (h : p) : need p k = k := by
  unfold need
  rw [if_pos h]
noncomputable def needs {R : Type} (ps : List Prop) (k : Option R) : Option R :=
  match ps with
  | [] => k
  | p :: r => need (All (p :: r)) k
theorem needs_some {R : Type} {ps : List Prop} {k : Option R} {r : R} (h : needs ps k = some r) : (∀ p ∈ ps, p) ∧ k = some r := by
  unfold needs at h
  split at h
  · exact ⟨fun p hp => (by cases hp), h⟩
  · obtain ⟨h1, h2⟩ := need_some h
    exact ⟨all_mem h1, h2⟩
def sel {R : Type} (b : Bool) (x y : Option R) : Option R := if b = true then x else y

open Classical in
/-- Both answers must lead to the same. -/
noncomputable def both {R : Type} (x y : Option R) : Option R := if x = y then x else none
/-- A slice of so many elements is held against nil: of one without elements nothing is known. -/
noncomputable def nilK {R : Type} (n : Nat) (k : Bool → Option R) : Option R := if n = 0 then both (k true) (k false) else k false
theorem nilK_some {R : Type} {n : Nat} {k : Bool → Option R} {r : R} (h : nilK n k = some r) : k false = some r ∧ (n = 0 → k true = some r) := by
  unfold nilK at h
  split at h
  · unfold both at h
    split at h
    · rename_i e
      exact ⟨e ▸ h, fun _ => h⟩
    · cases h
  · rename_i hn
    exact ⟨h, fun e => absurd e hn⟩
/-- Of a slice: nothing, if it is nil; else how long it is. -/
def nilLen (st : St) (av : AV) : Option (Option Nat) :=
  match av with
  | .nilS => some none
  | .data (.sl _ _) xs => some (some (List.length xs))
  | .full s t => (match get st.heap s with
    | some (.row _ t' xs _) => if Ty.beq t' t then some (some (List.length xs)) else none
    | _ => none)
  | .own _ _ _ n => some (some n)
  | .lent _ _ xs _ => some (some (List.length xs))
  | _ => none
noncomputable def nilTest (Γ : Env) (R : Type) (st : St) (o : Oper) (k : St → Option R) : Option R :=
  match o.op with
  | .binOp op T x y _ => (match Γ.ty T, opdRaw st y, (opdRaw st x).map bareAV with
    | some (.sl _ _), some .nilS, some (av, p) => (match op, nilLen st av with
      | .eql, some none => needs p (match putSt st o.dst (.data .bool true) with | some st' => k st' | none => none)
      | .neq, some none => needs p (match putSt st o.dst (.data .bool false) with | some st' => k st' | none => none)
      | .eql, some (some n) => needs p (nilK n fun b => match putSt st o.dst (.data .bool b) with | some st' => k st' | none => none)
      | .neq, some (some n) => needs p (nilK n fun b => match putSt st o.dst (.data .bool (!b)) with | some st' => k st' | none => none)
      | _, _ => none)
    | _, _, _ => none)
  | _ => none
def guardAV (st : St) (ops : List Oper) (j : Nat) (want : Bool) : Option Bool :=
  match ops[j]? with
  | some oj => (match oj.dst with
    | some d => (match st.at d with
      | some (.data .bool g) => some (if want then g else !g)
      | some (.opt g' (.data .bool g)) => some (g' && (if want then g else !g))
      | _ => none)
    | none => none)
  | none => none
def rawds (st : St) : List Operand → Option (List AV × List Prop)
  | [] => some ([], [])
  | x :: xs => (match (opdRaw st x).map bareAV, rawds st xs with
    | some (a, p), some (l, q) => some (a :: l, p ++ q)
    | _, _ => none)
def callArgs (st : St) (c : Call) : Option (FuncId × List AV × List Prop) :=
  match c.callee with
  | .value x => (match opd st x, rawds st c.args.toList with
    | some (.fn f caps, p), some (l, q) => some (f, l ++ caps, p ++ q)
    | _, _ => none)
  | _ => none
/-- The state behind a call. -/
def retSt (st st1 : St) (mp : List (Nat × Nat)) (d : Nat) (pre : List AV) (o : AV × Hp × List (Nat × AV)) : Option (St × AV) :=
  match mp, o.2.1, o.1.flatB with
  | [], [], true => some (st, o.1)
  | _, _, _ => afterCall st1 mp d pre o.1 o.2.1 o.2.2
noncomputable def callK (Φ : Sigs) (R : Type) (st : St) (c : Call) (dst : Option Nat) (k : St → Option R) : Option R :=
  match callArgs st c with
  | some (f, l, p) => (match get Φ f with
    | some sig => (match passAVs st sig.lend l with
      | some (bs, st1, p2) => (match heapIn st1 (namesIn st1 (AV.namess bs) 0) (namesIn st1 (AV.namess bs) 0) with
        | some H => if namesOkB (namesIn st1 (AV.namess bs) 0) (dst.getD st.nt) bs then
            needs (p ++ p2) (sig.run R (AV.mapNs (fwd (namesIn st1 (AV.namess bs) 0)) bs) H fun o =>
              match retSt st st1 (namesIn st1 (AV.namess bs) 0) (dst.getD st.nt) (AV.mapNs (fwd (namesIn st1 (AV.namess bs) 0)) bs) o with
              | some (st', r) => (match putSt st' dst r with
                | some st'' => k st''
                | none => none)
              | none => none)
          else none
        | none => none)
      | none => none)
    | none => none)
  | none => none
def isAssign : Op → Bool
  | .assign _ => true
  | _ => false
/-- An operation without a guard. -/
noncomputable def stepK (Γ : Env) (Φ : Sigs) (R : Type) (st : St) (o : Oper) (k : St → Option R) : Option R :=
  match evMore Γ st o.op with
  | some (av, p) => (match putSt st o.dst av with
    | some st' => needs p (k st')
    | none => none)
  | none => match evOp Γ st o.op with
  | some (av, p) => (match o.dst with
    | some d => (match (if isAssign o.op then assignSt Γ st d o.type av else putSt st (some d) av) with
      | some st' => needs p (k st')
      | none => none)
    | none => needs p (k st))
  | none => (match stepN Γ st o with
    | some (st', p) => needs p (k st')
    | none => (match o.op with
      | .call c => callK Φ R st c o.dst k
      | _ => (match stepMap Γ st o with
        | some (st', p) => needs p (k st')
        | none => nilTest Γ R st o k)))

section
variable {S : Nat → Prop} {w : World} {γ : Nat → Value} {Γ : Env} {Φ : Sigs} {w0 : World} {M S0 : Nat → Prop} {st : St} {a : Act}
theorem rawds_ok (hc : Core w0 M S0 S γ st a w) : ∀ {xs : List Operand} {l : List AV} {ps : List Prop}, rawds st xs = some (l, ps) → (∀ p ∈ ps, p) → Matches S w γ l (xs.map a.eval)
  | [], l, ps, h, _ => by
    simp only [rawds, Option.some.injEq, Prod.mk.injEq] at h
    obtain ⟨rfl, rfl⟩ := h
    simp only [Matches, List.map_nil]
  | x :: xs, l, ps, h, hps => by
    unfold rawds at h
    split at h
    · rename_i b p l1 q h1 h2
      simp only [Option.some.injEq, Prod.mk.injEq] at h
      obtain ⟨rfl, rfl⟩ := h
      simp only [Matches, List.map_cons]
      exact ⟨_, _, rfl, raw_ok hc h1 (fun p hp => hps p (List.mem_append.2 (.inl hp))), rawds_ok hc h2 (fun p hp => hps p (List.mem_append.2 (.inr hp)))⟩
    · cases h
theorem callArgs_ok (hc : Core w0 M S0 S γ st a w) {c : Call} {f : FuncId} {l : List AV} {p : List Prop} (h : callArgs st c = some (f, l, p)) (hp : ∀ x ∈ p, x) {P : Program} (hcall : Callable P f) (o : Oper) (ho : o.op = .call c) :
    ∃ vs : List Value, Matches S w γ l vs ∧ ∀ w', (execOp a.eval o).run P w' = .ok (.enter f vs.toArray) w' := by
  unfold callArgs at h
  split at h
  · rename_i x hcal
    split at h
    · rename_i f' caps p1 l1 q1 h1 h2
      simp only [Option.some.injEq, Prod.mk.injEq] at h
      obtain ⟨rfl, rfl, rfl⟩ := h
      have m1 := opd_ok hc h1 (fun x hx => hp x (List.mem_append.2 (.inl hx)))
      have m2 := rawds_ok hc h2 (fun x hx => hp x (List.mem_append.2 (.inr hx)))
      simp only [Match] at m1
      obtain ⟨cv, e1, m3⟩ := m1
      refine ⟨c.args.toList.map a.eval ++ cv, matches_append m2 m3, fun w' => ?_⟩
      obtain ⟨fn, g1, g2, g3⟩ := hcall
      simp only [execOp, ho, resolve, hcal, e1, Deferred.ofValue, Sem.run_bind, Sem.run_pure, Result.andThen_ok, invoke, callFunc, run_program, g1, g3, Bool.false_eq_true, if_false]
      have : fn.body.isNone = false := by cases hb : fn.body <;> simp_all
      simp only [this, Bool.false_eq_true, if_false, Sem.run_pure]
      congr 2
      apply Array.toList_inj.1
      simp
    · cases h
  · cases h
theorem retSt_ok (hc : Core w0 M S0 S γ st a w) {st1 : St} {S1 : Nat → Prop} (hc1 : Core w0 M S0 S1 γ st1 a w) (hnt : st1.fix = st.fix) {mp : List (Nat × Nat)} {d : Nat} {bs : List AV} {H : Hp} (hn : namesOkB mp d bs = true) (hH : heapIn st1 mp mp = some H) {vs : List Value} (hm : Matches S1 w γ bs vs)
    {r : AV} {H' : Hp} {post : List (Nat × AV)} {v : Value} {S' : Nat → Prop} {γ' : Nat → Value} {w' : World} (hd : Done S1 w (fun n => γ (bwd mp d n)) H r H' post vs v S' γ' w') {st' : St} {r' : AV} (h : retSt st st1 mp d (AV.mapNs (fwd mp) bs) (r, H', post) = some (st', r')) :
    ∃ S2 γ2, Core w0 M S0 S2 γ2 st' a w' ∧ Match S2 w' γ2 r' v ∧ st'.fix = st.fix := by
  obtain ⟨k1, _, _, k4⟩ := handIn_ok hc1 hn hH hm
  have slow : afterCall st1 mp d (AV.mapNs (fwd mp) bs) r H' post = some (st', r') → ∃ S2 γ2, Core w0 M S0 S2 γ2 st' a w' ∧ Match S2 w' γ2 r' v ∧ st'.fix = st.fix := by
    intro h
    obtain ⟨γ2, g1, g2, _, g4⟩ := after_ok hc1 k4 k1 hd h
    exact ⟨S', γ2, g1, g2, g4.trans hnt⟩
  unfold retSt at h
  split at h
  · simp only [Option.some.injEq, Prod.mk.injEq] at h
    obtain ⟨rfl, rfl⟩ := h
    have hflat : r.flatB = true := by assumption
    have hH0 : H = [] := by simpa [heapIn] using hH.symm
    subst hH0
    refine ⟨S, γ, hc.grown ⟨hd.os, hd.tape, hd.output, hd.size, fun b hb => hd.old b hb (by rintro ⟨s, o, h1, _⟩; simp [get] at h1)⟩, match_flat hflat hd.res, rfl⟩
  · exact slow h
theorem callK_ok (hΓ : HCtx Γ w0 M S0) (hΦ : SigsOk Γ.P Γ.gl Φ) (hc : Core w0 M S0 S γ st a w) {o : Oper} {c : Call} (ho : o.op = .call c) {R : Type} {k : St → Option R} {x : R} (h : callK Φ R st c o.dst k = some x) {next : Act → World → Prop} {Q : Exit → Act → World → Prop}
    (hn : ∀ st' a' w' S' γ', k st' = some x → st'.fix = st.fix → Core w0 M S0 S' γ' st' a' w' → next a' w') : o.wp Γ.P a w next Q := by
  unfold callK at h
  split at h
  · rename_i f l p hca
    split at h
    · rename_i sig hsig
      split at h
      · rename_i bs st1 p2 hpass
        split at h
        · rename_i H hH
          split at h
          · rename_i hnm
            obtain ⟨hps, h⟩ := needs_some h
            obtain ⟨hcb, hok⟩ := hΦ f sig hsig
            obtain ⟨r, H', post, hfn, hk⟩ := hok.run _ _ _ _ _ h
            obtain ⟨vs, hm, hrun⟩ := callArgs_ok hc hca (fun x hx => hps x (List.mem_append.2 (.inl hx))) hcb o ho
            obtain ⟨S1, k1, k2, k3, k4, k5⟩ := passAVs_ok hc hpass (fun x hx => hps x (List.mem_append.2 (.inr hx))) hm
            obtain ⟨m1, m2, m3, _⟩ := handIn_ok k2 hnm hH k3
            refine wp_call (hrun w) ((hfn S1 w _ vs k2.slt (hΓ.now k2) m1 m2 m3).mono ?_)
            rintro e w' ⟨v, S', γ', rfl, hd⟩
            refine ⟨v, rfl, ?_⟩
            split at hk
            · rename_i st' r' hret
              split at hk
              · rename_i st'' hput
                obtain ⟨S2, γ2, g1, g2, g3⟩ := retSt_ok hc k2 k5 hnm hH k3 hd hret
                exact hn st'' _ _ S2 γ2 hk ((putSt_fix hput).trans g3) (putSt_ok g1 hput g2)
              · cases hk
            · cases hk
          · cases h
        · cases h
      · cases h
    · cases h
  · cases h
theorem handed_not {S1 : Nat → Prop} {st1 : St} {H : Hp} {g : Nat → Nat} (hc : Core w0 M S0 S1 γ st1 a w) (hH : HOk S1 w (fun n => γ (g n)) H) (hl : ∀ s o, get H s = some o → o.loose = true) {b : Nat} (hb : S1 b) : ¬ Mof (fun n => γ (g n)) H b := by
  rintro ⟨n, o, h1, h2, h3⟩
  have g1 := hH.obj n o h1
  have g2 := hl n o h1
  cases o with
  | row e t xs f => have := (g1.2 b h3).1 hb; subst this; cases g2
  | map k0 e tk te l f => have := (g1.2 b h3).1 hb; subst this; cases g2
  | iter k0 e tk te l f => exact g1.2 b h3 hb
  | cell e av => exact g1.2 b h3 hb
  | rcd e t vs => exact g1.2 b h3 hb
  | deep e t c hole => exact g1.2 b h3 hb
  | fam e t xss => exact g1.2 b h3 hb
  | dead => cases h2
theorem retSt_more (hc : Core w0 M S0 S γ st a w) {st1 : St} {S1 : Nat → Prop} (hc1 : Core w0 M S0 S1 γ st1 a w) (hnt : st1.fix = st.fix) (hSS : ∀ b, S b → S1 b) {mp : List (Nat × Nat)} {d : Nat} {bs : List AV} {H : Hp} (hn : namesOkB mp d bs = true) (hH : heapIn st1 mp mp = some H) {vs : List Value} (hm : Matches S1 w γ bs vs)
    {r : AV} {H' : Hp} {post : List (Nat × AV)} {v : Value} {S' : Nat → Prop} {γ' : Nat → Value} {w' : World} (hd : Done S1 w (fun n => γ (bwd mp d n)) H r H' post vs v S' γ' w') {st' : St} {r' : AV} (h : retSt st st1 mp d (AV.mapNs (fwd mp) bs) (r, H', post) = some (st', r')) :
    ∃ S2 γ2, Core w0 M S0 S2 γ2 st' a w' ∧ Match S2 w' γ2 r' v ∧ st'.fix = st.fix ∧ ∀ b, S b → S2 b := by
  obtain ⟨k1, _, _, k4⟩ := handIn_ok hc1 hn hH hm
  have slow : afterCall st1 mp d (AV.mapNs (fwd mp) bs) r H' post = some (st', r') → ∃ S2 γ2, Core w0 M S0 S2 γ2 st' a w' ∧ Match S2 w' γ2 r' v ∧ st'.fix = st.fix ∧ ∀ b, S b → S2 b := by
    intro h
    obtain ⟨γ2, g1, g2, _, g4⟩ := after_ok hc1 k4 k1 hd h
    exact ⟨S', γ2, g1, g2, g4.trans hnt, fun b hb => hd.sub b (hSS b hb)⟩
  unfold retSt at h
  split at h
  · simp only [Option.some.injEq, Prod.mk.injEq] at h
    obtain ⟨rfl, rfl⟩ := h
    have hflat : r.flatB = true := by assumption
    have hH0 : H = [] := by simpa [heapIn] using hH.symm
    subst hH0
    refine ⟨S, γ, hc.grown ⟨hd.os, hd.tape, hd.output, hd.size, fun b hb => hd.old b hb (by rintro ⟨s, o, h1, _⟩; simp [get] at h1)⟩, match_flat hflat hd.res, rfl, fun _ h => h⟩
  · exact slow h
theorem callK_more (hΓ : HCtx Γ w0 M S0) (hΦ : SigsOk Γ.P Γ.gl Φ) (hc : Core w0 M S0 S γ st a w) {o : Oper} {c : Call} (ho : o.op = .call c) {R : Type} {k : St → Option R} {x : R} (h : callK Φ R st c o.dst k = some x) {next : Act → World → Prop} {Q : Exit → Act → World → Prop}
    (hn : ∀ st' a' w' S' γ', k st' = some x → st'.fix = st.fix → Core w0 M S0 S' γ' st' a' w' → (w.heap.size ≤ w'.heap.size ∧ (∀ b, S b → w'.heap[b]? = w.heap[b]?)) → (∀ b, S b → S' b) → next a' w') : o.wp Γ.P a w next Q := by
  unfold callK at h
  split at h
  · rename_i f l p hca
    split at h
    · rename_i sig hsig
      split at h
      · rename_i bs st1 p2 hpass
        split at h
        · rename_i H hH
          split at h
          · rename_i hnm
            obtain ⟨hps, h⟩ := needs_some h
            obtain ⟨hcb, hok⟩ := hΦ f sig hsig
            obtain ⟨r, H', post, hfn, hk⟩ := hok.run _ _ _ _ _ h
            obtain ⟨vs, hm, hrun⟩ := callArgs_ok hc hca (fun x hx => hps x (List.mem_append.2 (.inl hx))) hcb o ho
            obtain ⟨S1, k1, k2, k3, k4, k5⟩ := passAVs_ok hc hpass (fun x hx => hps x (List.mem_append.2 (.inr hx))) hm
            obtain ⟨m1, m2, m3, m4⟩ := handIn_ok k2 hnm hH k3
            refine wp_call (hrun w) ((hfn S1 w _ vs k2.slt (hΓ.now k2) m1 m2 m3).mono ?_)
            rintro e w' ⟨v, S', γ', rfl, hd⟩
            refine ⟨v, rfl, ?_⟩
            split at hk
            · rename_i st' r' hret
              split at hk
              · rename_i st'' hput
                obtain ⟨S2, γ2, g1, g2, g3, g4⟩ := retSt_more hc k2 k5 k1 hnm hH k3 hd hret
                exact hn st'' _ _ S2 γ2 hk ((putSt_fix hput).trans g3) (putSt_ok g1 hput g2) ⟨hd.size, fun b hb => hd.old b (hc.slt b hb) (handed_not k2 m2 m3 (k1 b hb))⟩ g4
              · cases hk
            · cases hk
          · cases h
        · cases h
      · cases h
    · cases h
  · cases h
theorem hok_nil {S : Nat → Prop} {w : World} {γ : Nat → Value} : HOk S w γ [] := ⟨fun s o h => by simp [get] at h, fun s s' o o' h => by simp [get] at h⟩
theorem done_below {S : Nat → Prop} {w : World} {γ : Nat → Value} {r : AV} {H' : Hp} {post : List (Nat × AV)} {vs : List Value} {v : Value} {S' : Nat → Prop} {γ' : Nat → Value} {w' : World} (hd : Done S w γ [] r H' post vs v S' γ' w') : Below w.heap.size w w' :=
  ⟨hd.os, hd.tape, hd.output, hd.size, fun b hb => hd.old b hb (by rintro ⟨s, o, h1, _⟩; simp [get] at h1)⟩
theorem tmps_bool {tmps : Array Value} {d : Nat} {g : Bool} (h : tmps.getD d undef = .bool g) : tmps[d]? = some (.bool g) := by
  rw [Array.getD_eq_getD_getElem?] at h
  cases h5 : tmps[d]? with
  | none => rw [h5] at h; simp [undef] at h
  | some u => rw [h5] at h; simpa using h
theorem guardAV_ok (hc : Core w0 M S0 S γ st a w) {ops : List Oper} {o : Oper} {j : Nat} {G want : Bool} (h : guardAV st ops j want = some G) (hg : o.guard = some (j, want)) : Region.wanted o (yielded ops.toArray a.tmps) = G := by
  unfold guardAV at h
  split at h
  · rename_i oj hoj
    split at h
    · rename_i d hd
      have e1 : (ops.toArray[j]?).bind (·.dst) = some d := by
        rw [List.getElem?_toArray, hoj]
        exact hd
      have yes : ∀ g, a.tmps.getD d undef = .bool g → Region.wanted o (yielded ops.toArray a.tmps) = (if want then g else !g) := by
        intro g h3
        have hy : yielded ops.toArray a.tmps j = some g := by
          unfold yielded
          rw [e1]
          simp only [Option.bind_some, tmps_bool h3]
        simp only [Region.wanted, hg, hy]
        cases g <;> cases want <;> rfl
      split at h
      · rename_i g hb
        simp only [Option.some.injEq] at h
        subst h
        exact yes g (match_bool.1 (hc.at hb))
      · rename_i g' g hb
        simp only [Option.some.injEq] at h
        subst h
        have h3 := hc.at hb
        simp only [Match] at h3
        cases g' with
        | true =>
          rw [yes g ((match_bool (γ := γ)).1 ((match_data (γ := γ)).2 (h3.1 rfl)))]
          rfl
        | false =>
          have hu := h3.2 rfl
          have hy : yielded ops.toArray a.tmps j = none := by
            unfold yielded
            rw [e1]
            simp only [Option.bind_some]
            rw [Array.getD_eq_getD_getElem?] at hu
            cases h5 : a.tmps[d]? with
            | none => rfl
            | some u => rw [h5] at hu; simp only [Option.getD_some] at hu; rw [hu]; rfl
          simp only [Region.wanted, hg, hy]
          cases want <;> rfl
      · cases h
    · cases h
  · cases h
theorem cellsOf_ints {xs : List Int} {b o : Nat} (h : ∀ (j : Nat) (x : Int), xs[j]? = some x → w.cell? ⟨b, o + j, none⟩ = some (.int .u8 x)) : ∀ i, i < xs.length → w.cell? ⟨b, o + i, none⟩ = some (.int .u8 (xs.getD i 0)) := fun i hi => by
  rw [h i _ (List.getElem?_eq_getElem hi), List.getD_eq_getElem?_getD, List.getElem?_eq_getElem hi]
  rfl
theorem bytesAV_ok (hc : Core w0 M S0 S γ st a w) {av : AV} {xs : List Int} (h : bytesAV st av = some xs) {v : Value} (hm : Match S w γ av v) {src dst e : TypeId} (hs : Γ.P.underlying src = some (.slice e)) (he : Γ.P.underlying e = some (.int .u8)) (hd : Γ.P.underlying dst = some .string) :
    (convert src dst v).run Γ.P w = .ok (.string (ofNums xs)) w := by
  have hnil : ∀ A l c, v = .slice A l c → l = xs.length → (0 < l → ∃ b o, A = some ⟨b, o, none⟩ ∧ ∀ (j : Nat) (x : Int), xs[j]? = some x → w.cell? ⟨b, o + j, none⟩ = some (.int .u8 x)) → (convert src dst v).run Γ.P w = .ok (.string (ofNums xs)) w := by
    intro A l c e1 e2 e3
    subst e1
    cases xs with
    | nil =>
      simp only [List.length_nil] at e2
      subst e2
      rw [run_convert_bytes_string w src dst e A 0 c hs he hd]
      cases A with
      | none => simp [Conv.bytesToString, ofNums]; rfl
      | some ad =>
        rw [run_bytesToString w ad 0 c [] (by simp [loadCells, loadCellsFrom])]
        rfl
    | cons x r =>
      obtain ⟨b, o, rfl, h4⟩ := e3 (by rw [e2]; simp)
      exact run_convert_bytes_arg w src e hs he b o l c (x :: r) e2.symm (by rw [e2]; exact cellsOf_ints h4) dst hd
  unfold bytesAV at h
  split at h
  · simp only [Option.some.injEq] at h
    subst h
    simp only [Match] at hm
    exact hnil none 0 0 hm rfl (fun h => by omega)
  · rename_i e' ys
    simp only [Option.some.injEq] at h
    subst h
    obtain ⟨cs, hr, rfl⟩ := match_data.1 hm
    simp only [Rep] at hr
    obtain ⟨A, c, rfl, h1, h2⟩ := hr
    refine hnil A _ c rfl rfl (fun h0 => ?_)
    obtain ⟨ad, rfl, hsp, _, h3⟩ := h2 h0
    obtain ⟨b, o, sp⟩ := ad
    simp only at hsp
    subst hsp
    refine ⟨b, o, rfl, fun j x hj => ?_⟩
    obtain ⟨us, hu, hcell, hrep⟩ := h3 j x hj
    have hrep : us = [Value.int .u8 x] := by simpa only [Rep] using hrep
    subst hrep
    have := hcell 0 _ rfl
    simpa [Ty.sz] using this
  · rename_i s t
    split at h
    · rename_i e' ys f hsl
      split at h
      · simp only [Option.some.injEq] at h
        subst h
        simp only [Match] at hm
        obtain ⟨⟨cs, ho, hr⟩, _⟩ := (hc.obj s _ hsl).1
        obtain ⟨rfl, A, n, c, hA⟩ := hm
        rw [hA] at ho
        refine hnil A n c hA ho.len_is (fun h0 => ?_)
        have hn := ho.len_is
        subst hn
        rcases ho.2 with ⟨e1, e2⟩ | ⟨g, o, cap, cur, e1, _⟩
        · simp only [Value.slice.injEq] at e1
          omega
        · simp only [Value.slice.injEq] at e1
          obtain ⟨rfl, _, _⟩ := e1
          refine ⟨g, o, rfl, fun j x hj => ?_⟩
          have h4 : (cs.drop (j * (Ty.int IntKind.u8).sz)).take (Ty.int IntKind.u8).sz = [Value.int .u8 x] := by simpa only [Rep] using hr.2 j x hj
          refine ho.cells j _ ?_
          have h5 : ((cs.drop (j * (Ty.int IntKind.u8).sz)).take (Ty.int IntKind.u8).sz)[0]? = some (.int .u8 x) := by rw [h4]; rfl
          simpa [Ty.sz] using h5
      · cases h
    · cases h
  · cases h
theorem evMore_ok (hΓ : EnvOk Γ) (hc : Core w0 M S0 S γ st a w) {o : Oper} {av : AV} {ps : List Prop} (h : evMore Γ st o.op = some (av, ps)) (hps : ∀ p ∈ ps, p) : ∃ r, (execOp a.eval o).run Γ.P w = .ok (.value r) w ∧ Match S w γ av r := by
  unfold evMore at h
  split at h
  · rename_i T x lo hi ho
    split at h
    · rename_i e t ht hx
      split at h
      · rename_i l p h' q hl hh
        split at h
        · rename_i l' h2 hbl hbh
          simp only [Option.some.injEq, Prod.mk.injEq] at h
          obtain ⟨rfl, rfl⟩ := h
          have hx1 := opdRaw_ok hc hx
          simp only [Match] at hx1
          have e1 : l' = 0 := hps _ (by simp)
          have e2 : h2 = 0 := hps (h2 = 0) (by simp)
          have h3 := sliceAt_sl (hΓ.is ht) (A := none) (len := 0) (cap := 0) (bnd_ok hbl (opdo_ok hc hl (fun p hp => hps p (by simp [hp])))) (bnd_ok hbh (opdo_ok hc hh (fun p hp => hps p (by simp [hp])))) (by omega) (by omega) (by omega) w
          rw [e1, e2] at h3
          refine ⟨.slice none 0 0, execOp_value (s := Instr.sliceAt T (a.eval x) (lo.map a.eval) (hi.map a.eval) none) (by simp only [execOp, ho, Option.map_none]) ?_, by simp only [Match]⟩
          rw [hx1]
          simpa using h3
        · cases h
      · cases h
    · cases h
  · rename_i c ho
    split at h
    · rename_i x T hcal hargs hty
      split at h
      · rename_i e t ht hx
        simp only [Option.some.injEq, Prod.mk.injEq] at h
        obtain ⟨rfl, rfl⟩ := h
        have hx1 := opdRaw_ok hc hx
        simp only [Match] at hx1
        have ha : c.args = #[x] := Array.toList_inj.1 (by simpa using hargs)
        have ht' : c.argTypes = #[T] := Array.toList_inj.1 (by simpa using hty)
        refine ⟨.int .i64 0, ?_, match_int.2 rfl⟩
        simp only [execOp, ho, resolve, hcal, Sem.run_bind, Sem.run_pure, Result.andThen_ok, invoke, builtin, ha, ht', List.map_toArray, List.map_cons, List.map_nil, hx1]
        simp [Builtin.cap_, run_underlying (hΓ.is ht).1, goInt]
      · cases h
    · cases h
  · rename_i src dst x ho
    split at h
    · rename_i e av' h1 h2 hx
      obtain ⟨xs, h3, h4⟩ := Option.map_eq_some_iff.1 h
      simp only [Prod.mk.injEq] at h4
      obtain ⟨rfl, rfl⟩ := h4
      have k1 := hΓ.is h1
      have k2 := hΓ.is h2
      exact ⟨_, execOp_value (s := convert src dst (a.eval x)) (by simp only [execOp, ho]) (bytesAV_ok hc h3 (opdRaw_ok hc hx) k1.1 k1.2.2.1 k2.1), match_data.2 ⟨_, rfl, rfl⟩⟩
    · cases h
  · cases h
theorem nilLen_ok (hc : Core w0 M S0 S γ st a w) {av : AV} {n : Option Nat} (h : nilLen st av = some n) {v : Value} (hm : Match S w γ av v) : ∃ A l c, v = .slice A l c ∧ (n = none → A = none) ∧ ∀ k, n = some k → k ≠ 0 → A.isNone = false := by
  unfold nilLen at h
  split at h
  · simp only [Option.some.injEq] at h
    subst h
    simp only [Match] at hm
    exact ⟨none, 0, 0, hm, fun _ => rfl, fun k e => (by cases e)⟩
  · rename_i e t xs
    simp only [Option.some.injEq] at h
    subst h
    obtain ⟨cs, hr, rfl⟩ := match_data.1 hm
    simp only [Rep] at hr
    obtain ⟨A, c, rfl, h1, h2⟩ := hr
    refine ⟨A, _, c, rfl, fun e => (by cases e), fun k e hk => ?_⟩
    simp only [Option.some.injEq] at e
    subst e
    obtain ⟨ad, rfl, _⟩ := h2 (by omega)
    rfl
  · rename_i s t
    split at h
    · rename_i e t' xs f hs
      split at h
      · rename_i hb
        simp only [Option.some.injEq] at h
        subst h
        obtain rfl := Ty.eq_of_beq hb
        have := full_own hc hs hm
        simp only [Match] at this
        rcases this with ⟨_, h0, _, rfl⟩ | ⟨g, o, n, cap, _, _, A, rfl, _⟩
        · exact ⟨none, 0, 0, rfl, fun e => (by cases e), fun k e hk => (by simp only [Option.some.injEq] at e; omega)⟩
        · exact ⟨_, _, _, rfl, fun e => (by cases e), fun k e hk => rfl⟩
      · cases h
    · cases h
  · simp only [Option.some.injEq] at h
    subst h
    simp only [Match] at hm
    rcases hm with ⟨_, h0, _, rfl⟩ | ⟨g, o, n, cap, _, _, A, rfl, _⟩
    · exact ⟨none, 0, 0, rfl, fun e => (by cases e), fun k e hk => (by simp only [Option.some.injEq] at e; omega)⟩
    · exact ⟨_, _, _, rfl, fun e => (by cases e), fun k e hk => rfl⟩
  · rename_i e t xs n'
    simp only [Option.some.injEq] at h
    subst h
    simp only [Match] at hm
    obtain ⟨h0, A, c, rfl, hr⟩ := hm
    simp only [Rep] at hr
    obtain ⟨A', c', e1, h1, h2⟩ := hr
    simp only [List.cons.injEq, Value.slice.injEq, and_true] at e1
    obtain ⟨rfl, _, rfl⟩ := e1
    refine ⟨A, _, c, rfl, fun e => (by cases e), fun k e hk => ?_⟩
    simp only [Option.some.injEq] at e
    subst e
    obtain ⟨ad, rfl, _⟩ := h2 (by omega)
    rfl
  · cases h
theorem nilTest_ok (hΓ : EnvOk Γ) (hc : Core w0 M S0 S γ st a w) {o : Oper} {R : Type} {k : St → Option R} {x : R} (h : nilTest Γ R st o k = some x) {next : Act → World → Prop} {Q : Exit → Act → World → Prop}
    (hn : ∀ st' a' w' S' γ', k st' = some x → st'.fix = st.fix → Core w0 M S0 S' γ' st' a' w' → next a' w') : o.wp Γ.P a w next Q := by
  unfold nilTest at h
  split at h
  · rename_i op T y z yT ho
    split at h
    · rename_i e t av p ht hz hy
      have hz1 := opdRaw_ok hc hz
      simp only [Match] at hz1
      have run : ∀ (hp : ∀ q ∈ p, q) (nl : Option Nat), nilLen st av = some nl → ∃ A : Option Addr, (nl = none → A = none) ∧ (∀ k, nl = some k → k ≠ 0 → A.isNone = false) ∧
          (op = .eql → (execOp a.eval o).run Γ.P w = .ok (.value (.bool A.isNone)) w) ∧ (op = .neq → (execOp a.eval o).run Γ.P w = .ok (.value (.bool (!A.isNone))) w) := by
        intro hp nl hnl
        obtain ⟨A, l, c, e1, e2, e3⟩ := nilLen_ok hc hnl (raw_ok hc hy hp)
        refine ⟨A, e2, e3, fun hop => ?_, fun hop => ?_⟩
        · subst hop
          refine execOp_value (s := do eqGuard .eql T y z (a.eval y) (a.eval z); binOp .eql T (a.eval y) (a.eval z)) (by simp only [execOp, ho]) ?_
          rw [e1, hz1]
          have hg : (eqGuard .eql T y z (.slice A l c) (.slice none 0 0)).run Γ.P w = .ok () w := by simp [eqGuard]
          rw [Sem.run_bind, hg]
          simp only [Result.andThen_ok, binOp]
          simp [run_equal_slice_nil w T e A l c (hΓ.is ht).1]
        · subst hop
          refine execOp_value (s := do eqGuard .neq T y z (a.eval y) (a.eval z); binOp .neq T (a.eval y) (a.eval z)) (by simp only [execOp, ho]) ?_
          rw [e1, hz1]
          have hg : (eqGuard .neq T y z (.slice A l c) (.slice none 0 0)).run Γ.P w = .ok () w := by simp [eqGuard]
          rw [Sem.run_bind, hg]
          simp only [Result.andThen_ok]
          exact run_neq_slice_nil w T e A l c (hΓ.is ht).1
      have fin : ∀ (b : Bool), (match putSt st o.dst (.data .bool b) with | some st' => k st' | none => none) = some x → (execOp a.eval o).run Γ.P w = .ok (.value (.bool b)) w → o.wp Γ.P a w next Q := by
        intro b hb hr
        split at hb
        · rename_i st1 hput
          exact wp_value hr (hn _ _ _ _ _ hb (putSt_fix hput) (putSt_ok hc hput (match_bool.2 rfl)))
        · cases hb
      split at h
      · rename_i hnl
        obtain ⟨hp, h⟩ := needs_some h
        obtain ⟨A, e2, _, e4, _⟩ := run hp _ hnl
        have := e4 rfl
        rw [e2 rfl] at this
        exact fin true h this
      · rename_i hnl
        obtain ⟨hp, h⟩ := needs_some h
        obtain ⟨A, e2, _, _, e4⟩ := run hp _ hnl
        have := e4 rfl
        rw [e2 rfl] at this
        exact fin false h this
      · rename_i n hnl
        obtain ⟨hp, h⟩ := needs_some h
        obtain ⟨A, _, e3, e4, _⟩ := run hp _ hnl
        obtain ⟨g1, g2⟩ := nilK_some h
        have := e4 rfl
        cases hA : A.isNone with
        | false => rw [hA] at this; exact fin false g1 this
        | true =>
          rw [hA] at this
          have hn0 : n = 0 := Classical.byContradiction fun hne => by rw [e3 n rfl hne] at hA; cases hA
          exact fin true (g2 hn0) this
      · rename_i n hnl
        obtain ⟨hp, h⟩ := needs_some h
        obtain ⟨A, _, e3, _, e4⟩ := run hp _ hnl
        obtain ⟨g1, g2⟩ := nilK_some h
        have := e4 rfl
        cases hA : A.isNone with
        | false => rw [hA] at this; exact fin true g1 this
        | true =>
          rw [hA] at this
          have hn0 : n = 0 := Classical.byContradiction fun hne => by rw [e3 n rfl hne] at hA; cases hA
          exact fin false (g2 hn0) this
      · cases h
    · cases h
  · cases h
theorem stepK_op (hΓ : HCtx Γ w0 M S0) (hΦ : SigsOk Γ.P Γ.gl Φ) (hc : Core w0 M S0 S γ st a w) {o : Oper} {R : Type} {k : St → Option R} {x : R} (h : stepK Γ Φ R st o k = some x) {Q : Exit → Act → World → Prop} {K : Act → World → Prop}
    (hn' : ∀ st' a' w' S' γ', k st' = some x → st'.fix = st.fix → Core w0 M S0 S' γ' st' a' w' → K a' w') : o.wp Γ.P a w K Q := by
  unfold stepK at h
  split at h
  · rename_i av p hav
    split at h
    · rename_i st1 hput
      obtain ⟨hps, h⟩ := needs_some h
      obtain ⟨r, h1, h2⟩ := evMore_ok hΓ.toEnvOk hc hav hps
      exact wp_value h1 (hn' _ _ _ _ _ h (putSt_fix hput) (putSt_ok hc hput h2))
    · cases h
  split at h
  · rename_i av p hav
    split at h
    · rename_i d hd
      split at h
      · rename_i st1 hst
        obtain ⟨hps, h⟩ := needs_some h
        obtain ⟨r, h1, h2⟩ := evOp_ok hΓ hc hav hps
        split at hst
        · obtain ⟨γ', h3⟩ := assignSt_ok hc hst h2
          rw [← hd] at h3
          exact wp_value (h1 w (SameAt.refl S γ st w)) (hn' _ _ _ _ _ h (assignSt_fix hst) h3)
        · have h3 := putSt_ok hc hst h2
          rw [← hd] at h3
          exact wp_value (h1 w (SameAt.refl S γ st w)) (hn' _ _ _ _ _ h (putSt_fix hst) h3)
      · cases h
    · rename_i hd
      obtain ⟨hps, h⟩ := needs_some h
      obtain ⟨r, h1, h2⟩ := evOp_ok hΓ hc hav hps
      exact wp_value (h1 w (SameAt.refl S γ st w)) (hn' _ _ _ _ _ h rfl (by rw [hd]; exact hc))
  · split at h
    · rename_i st1 p hst
      obtain ⟨hps, h⟩ := needs_some h
      have hf := (stepN_ok (next := fun _ _ => True) (Q := fun _ _ _ => True) hΓ.toEnvOk hc hst hps (fun _ _ _ _ _ => trivial)).2
      exact (stepN_ok hΓ.toEnvOk hc hst hps (fun a' w' S' γ' hc' => hn' st1 a' w' S' γ' h hf hc')).1
    · split at h
      · rename_i c ho
        exact callK_ok hΓ hΦ hc ho h hn'
      · split at h
        · rename_i st1 p hst
          obtain ⟨hps, h⟩ := needs_some h
          have hf := (stepMap_ok (next := fun _ _ => True) (Q := fun _ _ _ => True) hΓ.toEnvOk hc hst hps (fun _ _ _ _ _ => trivial)).2
          exact (stepMap_ok hΓ.toEnvOk hc hst hps (fun a' w' S' γ' hc' => hn' st1 a' w' S' γ' h hf hc')).1
        · exact nilTest_ok hΓ.toEnvOk hc h hn'
theorem stepK_ok (hΓ : HCtx Γ w0 M S0) (hΦ : SigsOk Γ.P Γ.gl Φ) (hc : Core w0 M S0 S γ st a w) {ops rest : List Oper} {o : Oper} (hg : o.guard = none) {R : Type} {k : St → Option R} {x : R} (h : stepK Γ Φ R st o k = some x) {Q : Exit → Act → World → Prop}
    (hn : ∀ st' a' w' S' γ', k st' = some x → st'.fix = st.fix → Core w0 M S0 S' γ' st' a' w' → wpList Γ.P ops.toArray Q rest a' w') : wpList Γ.P ops.toArray Q (o :: rest) a w := by
  refine wpList_step fun K hK => ?_
  have hn' : ∀ st' a' w' S' γ', k st' = some x → st'.fix = st.fix → Core w0 M S0 S' γ' st' a' w' → K a' w' := fun st' a' w' S' γ' h1 h2 hc' => hK _ _ (hn st' a' w' S' γ' h1 h2 hc')
  rw [if_pos (by simp [Region.wanted, hg])]
  exact stepK_op hΓ hΦ hc h hn'
end
end Go.Abs
