/- Part of the proof of the law's row: YtnoeomlanbdjeaaAbsV. -/
import Derived.Test.YtnoeomlanbdjeaaAbsU
set_option linter.all false
set_option linter.unusedVariables false
set_option linter.unusedSimpArgs false
namespace Go.Abs
open Go.RowKit

/-! ### Quiet operations, operations under guards -/
/-- An operation that writes nothing, or a call that gives plain data without slices. -/
noncomputable def quietK (Γ : Env) (Φ : Sigs) (R : Type) (st : St) (o : Oper) (k : St → Option R) : Option R :=
  match evOp Γ st o.op with
  | some (av, p) => (match putSt st o.dst av with
    | some st' => needs p (k st')
    | none => none)
  | none => (match o.op with
    | .call c => (match callArgs st c with
      | some (f, l, p) => (match get Φ f with
        | some sig => (match passAVs st sig.lend l with
          | some (bs, _, p2) => (match AV.namess bs with
            | [] => needs (p ++ p2) (sig.run R bs [] fun o' => match o'.1 with
              | .data t x => if t.flat then (match putSt st o.dst (.data t x) with
                | some st' => k st'
                | none => none) else none
              | _ => none)
            | _ => none)
          | none => none)
        | none => none)
      | none => none)
    | _ => none)
/-- The operations under a guard, and under guards among them. -/
def takeB (j : Nat) (want : Bool) : List Oper → List Oper
  | [] => []
  | o :: os => (match o.guard with
    | some (j', w') => if decide (j < j') || (j' == j && w' == want) then o :: takeB j want os else []
    | none => [])
def boolAt (st : St) (x : Operand) : Option Bool :=
  match opd st x with
  | some (.data .bool v, []) => some v
  | _ => none
/-- What a choice gives where the guard is 'b'. -/
def pickV (st : St) (c : Nat) (b : Bool) (x y : Operand) : Option Bool :=
  match st.at c with
  | some (.data .bool b') => if b' = b then boolAt st (if b then x else y) else none
  | _ => none
/-- None of these is done. -/
def skips (ops : List Oper) : List Oper → St → Option St
  | [], st => some st
  | o :: os, st => (match o.guard with
    | some (j, want) => (match (ops[j]?).bind (·.dst) with
      | some d => (match st.at d with
        | some (.data .bool g) => if g = want then none else (match putSt st o.dst (.val undef) with
          | some st' => skips ops os st'
          | none => none)
        | some (.val (.tuple vs)) => if vs.size = 0 then (match putSt st o.dst (.val undef) with
          | some st' => skips ops os st'
          | none => none) else none
        | _ => none)
      | none => none)
    | none => none)
def undefAll : List Oper → St → Option St
  | [], st => some st
  | o :: os, st => (match putSt st o.dst .undef with
    | some st' => undefAll os st'
    | none => none)
/-- A choice's own guard holds. -/
def guardOk (st : St) (ops : List Oper) (kn : List (Nat × Bool)) (p : Oper) : Bool :=
  match p.guard with
  | none => true
  | some g => kn.contains g && (match guardAV st ops g.1 g.2 with
    | some G => G
    | none => false)
noncomputable def runG (Γ : Env) (Φ : Sigs) (ops : List Oper) : Nat → List (Nat × Bool) → (R : Type) → List Oper → St → (St → Option R) → Option R
  | 0, _, _, _, _, _ => none
  | _ + 1, _, _, [], st, k => k st
  | n + 1, kn, R, o :: os, st, k => (match o.guard with
    | none => quietK Γ Φ R st o fun st' => runG Γ Φ ops n kn R os st' k
    | some (j, want) => if kn.contains (j, want) then (match guardAV st ops j want with
        | some G => if G = true then quietK Γ Φ R st o fun st' => runG Γ Φ ops n kn R os st' k else none
        | none => none)
      else (match (o :: os).drop (takeB j want (o :: os)).length, (ops[j]?).bind (·.dst) with
        | p :: rest, some c => (match p.op, st.at c, undefAll (takeB j want (o :: os)) st with
          | .pick (.tmp c') x y, some (.data .bool b), some stO =>
            if (c' == c && guardOk stO ops kn p) = true then
              Option.bind (sel b
                (if want then runG Γ Φ ops n ((j, want) :: kn) Bool (takeB j want (o :: os)) { st with slots := (c, .data .bool true) :: st.slots } fun st' => pickV st' c true x y
                 else (match skips ops (takeB j want (o :: os)) { st with slots := (c, .data .bool true) :: st.slots } with
                  | some st' => pickV st' c true x y
                  | none => none))
                (if want then (match skips ops (takeB j want (o :: os)) { st with slots := (c, .data .bool false) :: st.slots } with
                  | some st' => pickV st' c false x y
                  | none => none)
                 else runG Γ Φ ops n ((j, want) :: kn) Bool (takeB j want (o :: os)) { st with slots := (c, .data .bool false) :: st.slots } fun st' => pickV st' c false x y))
              fun v => match putSt stO p.dst (.data .bool v) with
                | some st2 => runG Γ Φ ops n kn R rest st2 k
                | none => none
            else none
          | _, _, _ => none)
        | _, _ => none))
/-- Operations that are all wanted. -/
noncomputable def loudL (Γ : Env) (Φ : Sigs) (R : Type) : List Oper → St → (St → Option R) → Option R
  | [], st, k => k st
  | o :: os, st, k => stepK Γ Φ R st o fun st' => loudL Γ Φ R os st' k
/-- .. that are all left out. -/
def skipL : List Oper → St → Option St
  | [], st => some st
  | o :: os, st => (match putSt st o.dst .undef with
    | some st' => skipL os st'
    | none => none)
/-- Is a guarded call told by what it sets (and 200000)? -/
def loudB (Γ : Env) (l : List Oper) : Bool := l.any fun o => match o.dst with
  | some d => Γ.nam.contains (200000 + d)
  | none => false
def guardB (j : Nat) (want : Bool) (o : Oper) : Bool := match o.guard with
  | some (j', w') => Nat.beq j' j && w' == want
  | none => false
def setsNo (d : Nat) (o : Oper) : Bool := match o.dst with
  | some d' => !Nat.beq d' d
  | none => true
/-- As a truth value is, or is not. -/
def selW {R : Type} (want b : Bool) (x y : Option R) : Option R := match want with
  | true => sel b x y
  | false => sel b y x
theorem selW_same {R : Type} {b : Bool} {x y : Option R} : selW b b x y = x := by cases b <;> rfl
theorem selW_other {R : Type} {want b : Bool} {x y : Option R} (h : b ≠ want) : selW want b x y = y := by cases b <;> cases want <;> first | rfl | exact absurd rfl h
/-- Operations under one guard, and what is picked behind them: either all of them, or none. -/
noncomputable def loudK (Γ : Env) (Φ : Sigs) (ops : List Oper) (R : Type) (j : Nat) (want : Bool) (grp : List Oper) (p : Oper) (st : St) (k : St → Option R) : Option R :=
  match (ops[j]?).bind (·.dst), p.op with
  | some d, .pick (.tmp t) x y => (match st.at d with
    | some (.data .bool b) => if Nat.beq t d && (p.guard.isNone && ((get st.fix d).isNone && (grp.all (guardB j want) && grp.all (setsNo d)))) then
        selW want b
          (loudL Γ Φ R grp { st with fix := (d, .data .bool want) :: st.fix } fun st' => stepK Γ Φ R { st' with fix := st.fix } { p with op := .move (if want then x else y) } k)
          (match skipL grp st with
          | some st' => stepK Γ Φ R st' { p with op := .move (if want then y else x) } k
          | none => none)
      else none
    | _ => none)
  | _, _ => none
/-- A region's operations, in their order. -/
noncomputable def runK (Γ : Env) (Φ : Sigs) (ops : List Oper) : Nat → (R : Type) → List Oper → St → (St → Option R) → Option R
  | 0, _, _, _, _ => none
  | _ + 1, _, [], st, k => k st
  | n + 1, R, o :: os, st, k => (match o.guard with
    | none => stepK Γ Φ R st o fun st' => runK Γ Φ ops n R os st' k
    | some (j, want) => (match (o :: os).drop (takeB j want (o :: os)).length with
      | p :: rest => if loudB Γ (takeB j want (o :: os)) then loudK Γ Φ ops R j want (takeB j want (o :: os)) p st fun st' => runK Γ Φ ops n R rest st' k
        else runG Γ Φ ops (2 * (n + 1)) [] R (takeB j want (o :: os) ++ [p]) st fun st' => runK Γ Φ ops n R rest st' k
      | [] => none))
section
variable {S : Nat → Prop} {w : World} {γ : Nat → Value} {Γ : Env} {Φ : Sigs} {w0 : World} {M S0 : Nat → Prop} {st : St} {a : Act}
theorem sameOld_of {w w' : World} (h : Below w.heap.size w w') : SameOld w w' := h.block
theorem quiet_value {P : Program} {o : Oper} {C : World → Prop} {K : Act → Prop} {r : Value} (hr : ∀ w', C w' → (execOp a.eval o).run P w' = .ok (.value r) w') (h : K (a.put o.dst r)) : o.quiet P a C K :=
  ⟨r, fun w' hw' => by unfold Oper.quietAt; rw [hr w' hw']; exact ⟨rfl, rfl⟩, h⟩
theorem quiet_enter {P : Program} {o : Oper} {C : World → Prop} {K : Act → Prop} {r : Value} {f : FuncId} {vs : Array Value} (hr : ∀ w', (execOp a.eval o).run P w' = .ok (.enter f vs) w') (hcall : ∀ w', C w' → Calls P f vs w' fun e w'' => e = .returned r ∧ C w'') (h : K (a.put o.dst r)) : o.quiet P a C K :=
  ⟨r, fun w' hw' => by unfold Oper.quietAt; rw [hr w']; exact ⟨rfl, hcall w' hw'⟩, h⟩
/-- A call that gives plain data without slices, in any world that is the old one and more. -/
theorem quiet_call {f : FuncId} {bs l : List AV} {fl : List Bool} {st1 : St} {p2 : List Prop} {t : Ty} {x : t.Den} {H' : Hp} {post : List (Nat × AV)} (hΓ : HCtx Γ w0 M S0) (hfn : FnH Γ.P Γ.gl f bs [] (.data t x) H' post) (hc : Core w0 M S0 S γ st a w) {vs : List Value} (hpass : passAVs st fl l = some (bs, st1, p2)) (hm : Matches S w γ l vs) (hq : ∀ p ∈ p2, p) (hfl : t.flat = true) {w' : World} (hb : Below w.heap.size w w') :
    Calls Γ.P f vs.toArray w' fun e w'' => e = .returned (toVal t (flatCells t x)) ∧ Below w.heap.size w w'' := by
  have hag : Agree S w w' := fun b hS => hb.block b (hc.slt b hS)
  obtain ⟨S1, k1, k2, k3, k4, k5⟩ := passAVs_ok (hc.grown hb) hpass hq (hm.mono (fun _ h => h) hag (fun _ _ => rfl))
  refine (hfn S1 w' γ vs k2.slt (hΓ.now k2) k3 hok_nil (fun s o h => by simp [get] at h)).mono ?_
  rintro e w'' ⟨v, S', γ', rfl, hd⟩
  obtain ⟨cs, hr, rfl⟩ := match_data.1 hd.res
  rw [flat_cells hfl hr]
  have hb' := done_below hd
  exact ⟨rfl, hb.trans ⟨hb'.os, hb'.tape, hb'.output, hb'.size, fun k hk => hb'.block k (Nat.lt_of_lt_of_le hk hb.size)⟩⟩
theorem quietK_ok (hΓ : HCtx Γ w0 M S0) (hΦ : SigsOk Γ.P Γ.gl Φ) (hc : Core w0 M S0 S γ st a w) {o : Oper} {R : Type} {k : St → Option R} {x : R} (h : quietK Γ Φ R st o k = some x) {K : Act → Prop}
    (hn' : ∀ st' r, k st' = some x → st'.fix = st.fix → Core w0 M S0 S γ st' (a.put o.dst r) w → K (a.put o.dst r)) : o.quiet Γ.P a (fun w' => Below w.heap.size w w') K := by
  unfold quietK at h
  split at h
  · rename_i av p hav
    split at h
    · rename_i st1 hput
      obtain ⟨hps, h⟩ := needs_some h
      obtain ⟨r, h1, h2⟩ := evOp_ok hΓ hc hav hps
      exact quiet_value (fun w' hw' => h1 w' (SameAt.of_old hc (sameOld_of hw'))) (hn' _ _ h (putSt_fix hput) (putSt_ok hc hput h2))
    · cases h
  · split at h
    · rename_i c ho
      split at h
      · rename_i f l p hca
        split at h
        · rename_i sig hsig
          split at h
          · rename_i bs st1 p2 hpass
            split at h
            · rename_i hnil
              obtain ⟨hps, h⟩ := needs_some h
              obtain ⟨hcb, hok⟩ := hΦ f sig hsig
              obtain ⟨r, H', post, hfn, hk⟩ := hok.run _ _ _ _ _ h
              obtain ⟨vs, hm, hrun⟩ := callArgs_ok hc hca (fun x hx => hps x (List.mem_append.2 (.inl hx))) hcb o ho
              simp only at hk
              split at hk
              · rename_i t y
                split at hk
                · rename_i hfl
                  split at hk
                  · rename_i st2 hput
                    exact quiet_enter hrun (fun w' hw' => quiet_call hΓ hfn hc hpass hm (fun x hx => hps x (List.mem_append.2 (.inr hx))) hfl hw') (hn' _ _ hk (putSt_fix hput) (putSt_ok hc hput (match_data.2 ⟨_, flat_rep hfl, rfl⟩)))
                  · cases hk
                · cases hk
              · cases hk
            · cases h
          · cases h
        · cases h
      · cases h
    · cases h
/-- Temporaries that were set by these. -/
inductive PutAll : List Oper → Act → Act → Prop
  | nil (a : Act) : PutAll [] a a
  | cons {o : Oper} {os : List Oper} {a a' : Act} (v : Value) (h : PutAll os (a.put o.dst v) a') : PutAll (o :: os) a a'
theorem PutAll.trans {l m : List Oper} {a b c : Act} (h : PutAll l a b) (k : PutAll m b c) : PutAll (l ++ m) a c := by
  induction h with
  | nil a => exact k
  | cons v _ ih => exact .cons v (ih k)
theorem undefAll_ok : ∀ {l : List Oper} {st stO : St} {a a' : Act}, Core w0 M S0 S γ st a w → undefAll l st = some stO → PutAll l a a' → Core w0 M S0 S γ stO a' w ∧ stO.fix = st.fix
  | [], st, stO, a, a', hc, h, hp => by
    simp only [undefAll, Option.some.injEq] at h
    subst h
    cases hp
    exact ⟨hc, rfl⟩
  | o :: os, st, stO, a, a', hc, h, hp => by
    unfold undefAll at h
    split at h
    · rename_i st1 hput
      cases hp with
      | cons v hp =>
        obtain ⟨g1, g2⟩ := undefAll_ok (putSt_ok hc hput (v := v) (by simp only [Match])) h hp
        exact ⟨g1, g2.trans (putSt_fix hput)⟩
    · cases h
theorem takeB_prefix {j : Nat} {want : Bool} : ∀ {l : List Oper}, l = takeB j want l ++ l.drop (takeB j want l).length
  | [] => rfl
  | o :: os => by
    unfold takeB
    split
    · split
      · simpa using takeB_prefix (l := os)
      · rfl
    · rfl
theorem skips_ok {ops rest : List Oper} {C : World → Prop} {Q : Act → Prop} : ∀ {l : List Oper} {st stS : St} {a : Act}, Core w0 M S0 S γ st a w → skips ops l st = some stS →
    (∀ a', Core w0 M S0 S γ stS a' w → PutAll l a a' → wpQuiet Γ.P ops.toArray C Q rest a') → wpQuiet Γ.P ops.toArray C Q (l ++ rest) a
  | [], st, stS, a, hc, h, hQ => by
    simp only [skips, Option.some.injEq] at h
    subst h
    exact hQ a hc (.nil a)
  | o :: os, st, stS, a, hc, h, hQ => by
    refine wpQuiet_step fun K hK => ?_
    unfold skips at h
    split at h
    · rename_i j want hg
      split at h
      · rename_i d hd
        have e1 : (ops.toArray[j]?).bind (·.dst) = some d := by
          rw [List.getElem?_toArray]
          exact hd
        have no : Region.wanted o (yielded ops.toArray a.tmps) = false → (match putSt st o.dst (.val undef) with
            | some st' => skips ops os st'
            | none => none) = some stS → if Region.wanted o (yielded ops.toArray a.tmps) then o.quiet Γ.P a C K else K (a.put o.dst undef) := by
          intro hw h
          rw [hw, if_neg (by simp)]
          split at h
          · rename_i st1 hput
            exact hK _ (skips_ok (putSt_ok hc hput (v := undef) (by simp only [Match])) h fun a' hc' hp => hQ a' hc' (.cons undef hp))
          · cases h
        split at h
        · rename_i g hat
          split at h
          · cases h
          · rename_i hgw
            have h3 := match_bool.1 (hc.at hat)
            refine no ?_ h
            have hy : yielded ops.toArray a.tmps j = some g := by
              unfold yielded
              rw [e1]
              simp only [Option.bind_some, tmps_bool h3]
            simp only [Region.wanted, hg, hy]
            cases g <;> cases want <;> simp_all
        · rename_i vs hat
          split at h
          · rename_i hsz
            have h3 := hc.at hat
            simp only [Match] at h3
            refine no ?_ h
            have hy : yielded ops.toArray a.tmps j = none := by
              unfold yielded
              rw [e1]
              simp only [Option.bind_some]
              rw [Array.getD_eq_getD_getElem?] at h3
              cases h5 : a.tmps[d]? with
              | none => rfl
              | some u => rw [h5] at h3; simp only [Option.getD_some] at h3; rw [h3]
            simp only [Region.wanted, hg, hy]
            cases want <;> rfl
          · cases h
        · cases h
      · cases h
    · cases h
theorem boolAt_ok (hc : Core w0 M S0 S γ st a w) {x : Operand} {v : Bool} (h : boolAt st x = some v) : a.eval x = .bool v := by
  unfold boolAt at h
  split at h
  · rename_i v' hv
    simp only [Option.some.injEq] at h
    subst h
    exact match_bool.1 (opd_ok hc hv (fun p hp => by cases hp))
  · cases h
theorem pickV_ok (hc : Core w0 M S0 S γ st a w) {c : Nat} {b : Bool} {x y : Operand} {v : Bool} (h : pickV st c b x y = some v) {o : Oper} (ho : o.op = .pick (.tmp c) x y) {P : Program} (w' : World) : (execOp a.eval o).run P w' = .ok (.value (.bool v)) w' := by
  unfold pickV at h
  split at h
  · rename_i b' hb'
    split at h
    · rename_i e
      subst e
      have h1 := boolAt_ok hc h
      have h2 : a.eval (.tmp c) = .bool b' := match_bool.1 (hc.at hb')
      simp only [execOp, ho, h2, asBool, Sem.run_bind, Sem.run_pure, Result.andThen_ok]
      cases b'
      · simp only [Bool.false_eq_true, if_false] at h1 ⊢
        rw [h1]
      · simp only [if_true] at h1 ⊢
        rw [h1]
    · cases h
  · cases h
theorem Core.refine (hc : Core w0 M S0 S γ st a w) {c : Nat} {av : AV} (h : Match S w γ av (a.tmps.getD c undef)) : Core w0 M S0 S γ { st with slots := (c, av) :: st.slots } a w := by
  refine ⟨hc.os, hc.tape, hc.output, hc.size, hc.old, hc.s0, hc.sold, hc.slt, ?_, hc.obj, hc.dis, hc.defers, hc.nt, hc.fixs⟩
  intro i av' hi
  simp only [get] at hi
  split at hi
  · rename_i e
    simp only [Option.some.injEq] at hi
    subst e hi
    exact h
  · exact hc.slot i av' hi
theorem runG_ok (hΓ : HCtx Γ w0 M S0) (hΦ : SigsOk Γ.P Γ.gl Φ) {ops : List Oper} {Q : Act → Prop} : ∀ {n : Nat} {kn : List (Nat × Bool)} {R : Type} {l rest : List Oper} {st : St} {k : St → Option R} {x : R} {a : Act}, Core w0 M S0 S γ st a w → runG Γ Φ ops n kn R l st k = some x →
    (∀ st' a', k st' = some x → st'.fix = st.fix → Core w0 M S0 S γ st' a' w → PutAll l a a' → wpQuiet Γ.P ops.toArray (fun w' => Below w.heap.size w w') Q rest a') → wpQuiet Γ.P ops.toArray (fun w' => Below w.heap.size w w') Q (l ++ rest) a := by
  intro n
  induction n with
  | zero => intro kn R l rest st k x a hc h; simp [runG] at h
  | succ n ih =>
    intro kn R l rest st k x a hc h hQ
    rcases l with _ | ⟨o, os⟩
    · simp only [runG] at h
      exact hQ st a h rfl hc (.nil a)
    · have one : Region.wanted o (yielded ops.toArray a.tmps) = true → quietK Γ Φ R st o (fun st' => runG Γ Φ ops n kn R os st' k) = some x → wpQuiet Γ.P ops.toArray (fun w' => Below w.heap.size w w') Q (o :: os ++ rest) a := by
        intro hw h
        refine wpQuiet_step fun K hK => ?_
        rw [hw, if_pos rfl]
        exact quietK_ok hΓ hΦ hc h fun st' r h1 h2 hc' => hK _ (ih hc' h1 fun st2 a' k1 k2 k3 k4 => hQ st2 a' k1 (k2.trans h2) k3 (.cons r k4))
      simp only [runG] at h
      split at h
      · rename_i hg
        exact one (by simp [Region.wanted, hg]) h
      · rename_i j want hg
        split at h
        · split at h
          · rename_i G hG
            split at h
            · rename_i hGt
              exact one (by rw [guardAV_ok hc hG hg, hGt]) h
            · cases h
          · cases h
        · split at h
          · rename_i p rest' c hdrop hcd
            split at h
            · rename_i c' y z b stO hop hat hund
              split at h
              · rename_i hcond
                simp only [Bool.and_eq_true, beq_iff_eq] at hcond
                obtain ⟨rfl, hpg⟩ := hcond
                obtain ⟨v, h1, h2⟩ := Option.bind_eq_some_iff.1 h
                have hB : o :: os = takeB j want (o :: os) ++ p :: rest' := by
                  have := takeB_prefix (j := j) (want := want) (l := o :: os)
                  rw [hdrop] at this
                  exact this
                generalize hBB : takeB j want (o :: os) = B at *
                rw [hB, List.append_assoc]
                have hbv := match_bool.1 (hc.at hat)
                have tail : ∀ a', PutAll B a a' → (∀ w', (execOp a'.eval p).run Γ.P w' = .ok (.value (.bool v)) w') → wpQuiet Γ.P ops.toArray (fun w' => Below w.heap.size w w') Q (p :: rest' ++ rest) a' := by
                  intro a' hp hrun
                  obtain ⟨hcO, hfO⟩ := undefAll_ok hc hund hp
                  refine wpQuiet_step fun K hK => ?_
                  have hw : Region.wanted p (yielded ops.toArray a'.tmps) = true := by
                    unfold guardOk at hpg
                    split at hpg
                    · rename_i hpgd
                      simp [Region.wanted, hpgd]
                    · rename_i g hpgd
                      obtain ⟨j2, w2⟩ := g
                      simp only [Bool.and_eq_true] at hpg
                      obtain ⟨_, hpg⟩ := hpg
                      split at hpg
                      · rename_i G hG
                        rw [guardAV_ok hcO hG hpgd]; exact hpg
                      · cases hpg
                  rw [hw, if_pos rfl]
                  split at h2
                  · rename_i st2 hput
                    exact quiet_value (fun w' _ => hrun w') (hK _ (ih (putSt_ok hcO hput (match_bool.2 rfl)) h2 fun st3 a3 k1 k2 k3 k4 => hQ st3 a3 k1 (k2.trans ((putSt_fix hput).trans hfO)) k3 (by
                      rw [hB]
                      exact hp.trans (.cons (.bool v) k4))))
                  · cases h2
                have done : ∀ (bb : Bool), b = bb → runG Γ Φ ops n ((j, want) :: kn) Bool B { st with slots := (c', .data .bool bb) :: st.slots } (fun st' => pickV st' c' bb y z) = some v → wpQuiet Γ.P ops.toArray (fun w' => Below w.heap.size w w') Q (B ++ (p :: rest' ++ rest)) a := by
                  intro bb hbb hr
                  subst hbb
                  exact ih (hc.refine (match_bool.2 hbv)) hr fun st' a' k1 k2 k3 k4 => tail a' k4 (pickV_ok k3 k1 hop)
                have skip : ∀ (bb : Bool), b = bb → (match skips ops B { st with slots := (c', .data .bool bb) :: st.slots } with
                    | some st' => pickV st' c' bb y z
                    | none => none) = some v → wpQuiet Γ.P ops.toArray (fun w' => Below w.heap.size w w') Q (B ++ (p :: rest' ++ rest)) a := by
                  intro bb hbb hr
                  subst hbb
                  split at hr
                  · rename_i stS hsk
                    exact skips_ok (hc.refine (match_bool.2 hbv)) hsk fun a' k3 k4 => tail a' k4 (pickV_ok k3 hr hop)
                  · cases hr
                unfold sel at h1
                split at h1
                · rename_i hb
                  split at h1
                  · exact done true hb h1
                  · exact skip true hb h1
                · rename_i hb
                  have hb : b = false := by simpa using hb
                  split at h1
                  · exact skip false hb h1
                  · exact done false hb h1
              · cases h
            · cases h
          · cases h
/-- Quiet operations, among others. -/
theorem quiet_list {ops rest : List Oper} {Q : Exit → Act → World → Prop} {C : World → Prop} {P : Program} : ∀ {l : List Oper} {a : Act} {w : World}, C w → wpQuiet P ops.toArray C (fun a' => ∀ w', C w' → wpList P ops.toArray Q rest a' w') l a → wpList P ops.toArray Q (l ++ rest) a w
  | [], a, w, hC, h => h w hC
  | o :: os, a, w, hC, h => by
    refine wpList_step fun K hK => ?_
    unfold wpQuiet at h
    split at h
    · rename_i hw
      rw [if_pos hw]
      obtain ⟨r, h1, h2⟩ := h
      have h3 := h1 w hC
      unfold Oper.quietAt at h3
      have key : ∀ w', C w' → K (a.put o.dst r) w' := fun w' hw' => hK _ _ (quiet_list hw' h2)
      unfold Oper.wp
      generalize (execOp a.eval o).run P w = res at h3
      unfold Oper.quietUpon at h3
      split at h3
      · obtain ⟨rfl, rfl⟩ := h3
        exact key _ hC
      · obtain ⟨rfl, rfl⟩ := h3
        exact key _ hC
      · obtain ⟨rfl, h4⟩ := h3
        refine Calls.mono h4 ?_
        rintro e w'' ⟨rfl, hc⟩
        exact key _ hc
      · cases h3
    · rename_i hw
      rw [if_neg hw]
      exact hK _ _ (quiet_list hC h)
theorem guardB_is {j : Nat} {want : Bool} {o : Oper} (h : guardB j want o = true) : o.guard = some (j, want) := by
  unfold guardB at h
  split at h
  · rename_i j' w' hg
    rw [Bool.and_eq_true] at h
    rw [hg, Nat.eq_of_beq_eq_true h.1, eq_of_beq h.2]
  · cases h
theorem yields {st : St} {ops : List Oper} {j d : Nat} {b : Bool} (hd : (ops[j]?).bind (·.dst) = some d) (h : a.tmps.getD d undef = .bool b) : yielded ops.toArray a.tmps j = some b := by
  have h1 : a.tmps[d]? = some (.bool b) := by
    rw [Array.getD_eq_getD_getElem?] at h
    cases h2 : a.tmps[d]? with
    | none => rw [h2] at h; simp at h; cases h
    | some v => rw [h2] at h; simp at h; rw [h]
  unfold yielded
  rw [show (ops.toArray[j]?) = ops[j]? by simp, hd]
  simp [h1]
theorem loudL_ok (hΓ : HCtx Γ w0 M S0) (hΦ : SigsOk Γ.P Γ.gl Φ) {ops rest : List Oper} {j d : Nat} {want : Bool} (hd : (ops[j]?).bind (·.dst) = some d) {R : Type} {k : St → Option R} {x : R} {Q : Exit → Act → World → Prop} : ∀ {grp : List Oper} {st : St} {S : Nat → Prop} {γ : Nat → Value} {a : Act} {w : World}, Core w0 M S0 S γ st a w → get st.fix d = some (.data .bool want) → (∀ o ∈ grp, o.guard = some (j, want)) → loudL Γ Φ R grp st k = some x →
    (∀ st' a' w' S' γ', k st' = some x → st'.fix = st.fix → Core w0 M S0 S' γ' st' a' w' → wpList Γ.P ops.toArray Q rest a' w') → wpList Γ.P ops.toArray Q (grp ++ rest) a w
  | [], st, S, γ, a, w, hc, _, _, h, hn => hn st a w S γ h rfl hc
  | o :: os, st, S, γ, a, w, hc, hf, hg, h, hn => by
    simp only [List.cons_append, wpList]
    have hy := yields (st := st) hd (match_bool.1 (hc.fixs _ _ hf).2)
    rw [if_pos (by simp [Region.wanted, hg o (List.mem_cons_self ..), hy])]
    refine .inl (stepK_op hΓ hΦ hc h ?_)
    intro st' a' w' S' γ' h1 h2 hc'
    exact loudL_ok hΓ hΦ hd hc' (by rw [h2]; exact hf) (fun o ho => hg o (List.mem_cons_of_mem _ ho)) h1 fun st2 a2 w2 S2 γ2 m1 m2 m3 => hn st2 a2 w2 S2 γ2 m1 (m2.trans h2) m3
theorem skipL_ok {ops rest : List Oper} {j d : Nat} {want b : Bool} (hd : (ops[j]?).bind (·.dst) = some d) (hb : b ≠ want) {Q : Exit → Act → World → Prop} : ∀ {grp : List Oper} {st st1 : St} {a : Act}, Core w0 M S0 S γ st a w → a.tmps.getD d undef = .bool b → (∀ o ∈ grp, o.guard = some (j, want) ∧ o.dst ≠ some d) → skipL grp st = some st1 →
    (∀ a', Core w0 M S0 S γ st1 a' w → a'.tmps.getD d undef = .bool b → wpList Γ.P ops.toArray Q rest a' w) → wpList Γ.P ops.toArray Q (grp ++ rest) a w
  | [], st, st1, a, hc, ht, _, h, hn => by
    simp only [skipL, Option.some.injEq] at h
    subst h
    exact hn a hc ht
  | o :: os, st, st1, a, hc, ht, hg, h, hn => by
    simp only [List.cons_append, wpList]
    have hy := yields (st := st) hd ht
    obtain ⟨hgo, hdo⟩ := hg o (List.mem_cons_self ..)
    rw [if_neg (by simp [Region.wanted, hgo, hy, hb])]
    unfold skipL at h
    split at h
    · rename_i st' hp
      have hc' := putSt_ok hc hp (v := undef) (av := .undef) (by simp only [Match])
      refine skipL_ok hd hb hc' ?_ (fun o ho => hg o (List.mem_cons_of_mem _ ho)) h hn
      cases hdst : o.dst with
      | none => exact ht
      | some d' =>
        have hne : d' ≠ d := fun e => hdo (by rw [hdst, e])
        show (a.tmps.setIfInBounds d' undef).getD d undef = _
        rw [Array.getD_eq_getD_getElem?, Array.getElem?_setIfInBounds_ne hne, ← Array.getD_eq_getD_getElem?]
        exact ht
    · cases h
theorem loudK_ok (hΓ : HCtx Γ w0 M S0) (hΦ : SigsOk Γ.P Γ.gl Φ) {ops rest : List Oper} {j : Nat} {want : Bool} {grp : List Oper} {p : Oper} {R : Type} {k : St → Option R} {x : R} {Q : Exit → Act → World → Prop} {st : St} (hc : Core w0 M S0 S γ st a w) (h : loudK Γ Φ ops R j want grp p st k = some x)
    (hn : ∀ st' a' w' S' γ', k st' = some x → st'.fix = st.fix → Core w0 M S0 S' γ' st' a' w' → wpList Γ.P ops.toArray Q rest a' w') : wpList Γ.P ops.toArray Q (grp ++ p :: rest) a w := by
  unfold loudK at h
  split at h
  · rename_i d t y z hd hp
    split at h
    · rename_i b hb
      split at h
      · rename_i hcond
        simp only [Bool.and_eq_true, Option.isNone_iff_eq_none, List.all_eq_true] at hcond
        obtain ⟨ht, hpg, hfx, hall, hno⟩ := hcond
        have ht : t = d := Nat.eq_of_beq_eq_true ht
        subst ht
        have hval := match_bool.1 (hc.at hb)
        have hpick : ∀ {a' : Act} {w' : World} {v : Bool} {K : Act → World → Prop}, a'.tmps.getD t undef = .bool v → ({ p with op := .move (if v then y else z) } : Oper).wp Γ.P a' w' K Q → p.wp Γ.P a' w' K Q := by
          intro a' w' v K hv hK
          unfold Oper.wp at hK ⊢
          have e1 : execOp a'.eval p = pure (.value (a'.eval (if v then y else z))) := by
            simp only [execOp, hp, Act.eval, hv]
            cases v <;> rfl
          have e2 : execOp a'.eval ({ p with op := .move (if v then y else z) } : Oper) = pure (.value (a'.eval (if v then y else z))) := by simp only [execOp]
          rw [e2] at hK
          rw [e1]
          exact hK
        have last : ∀ {a' : Act} {w' : World} {S' : Nat → Prop} {γ' : Nat → Value} {st' : St} {v : Bool}, Core w0 M S0 S' γ' st' a' w' → st'.fix = st.fix → a'.tmps.getD t undef = .bool v → stepK Γ Φ R st' ({ p with op := .move (if v then y else z) } : Oper) k = some x → wpList Γ.P ops.toArray Q (p :: rest) a' w' := by
          intro a' w' S' γ' st' v hc' hfx' hv hst
          simp only [wpList]
          rw [if_pos (by simp [Region.wanted, hpg])]
          refine .inl (hpick hv (stepK_op hΓ hΦ hc' hst ?_))
          intro st2 a2 w2 S2 γ2 m1 m2 m3
          exact hn st2 a2 w2 S2 γ2 m1 (m2.trans hfx') m3
        cases hbw : (b == want) with
        | true =>
          have hbw : b = want := eq_of_beq hbw
          subst hbw
          rw [selW_same] at h
          have h : loudL Γ Φ R grp { st with fix := (t, .data .bool b) :: st.fix } (fun st' => stepK Γ Φ R { st' with fix := st.fix } { p with op := .move (if b then y else z) } k) = some x := h
          have hc1 : Core w0 M S0 S γ { st with fix := (t, .data .bool b) :: st.fix } a w := ⟨hc.os, hc.tape, hc.output, hc.size, hc.old, hc.s0, hc.sold, hc.slt, hc.slot, hc.obj, hc.dis, hc.defers, hc.nt, fun i av hi => by
            simp only [get] at hi
            split at hi
            · rename_i e
              simp only [Option.some.injEq] at hi
              subst e hi
              exact ⟨rfl, match_bool.2 hval⟩
            · exact hc.fixs i av hi⟩
          refine loudL_ok hΓ hΦ hd hc1 (by simp [get]) (fun o ho => guardB_is (hall o ho)) h ?_
          intro st' a' w' S' γ' h1 h2 hc'
          have hv := match_bool.1 (hc'.fixs t (.data .bool b) (by rw [h2]; simp [get])).2
          refine last (st' := { st' with fix := st.fix }) ⟨hc'.os, hc'.tape, hc'.output, hc'.size, hc'.old, hc'.s0, hc'.sold, hc'.slt, hc'.slot, hc'.obj, hc'.dis, hc'.defers, hc'.nt, fun i av hi => ?_⟩ rfl hv h1
          refine hc'.fixs i av ?_
          rw [h2]
          simp only [get]
          split
          · rename_i e
            subst e
            have hi : get st.fix i = some av := hi
            rw [hfx] at hi
            cases hi
          · exact hi
        | false =>
          have hbw' : b ≠ want := fun e => by subst e; simp at hbw
          rw [selW_other hbw'] at h
          have h : (match skipL grp st with
            | some st' => stepK Γ Φ R st' { p with op := .move (if want then z else y) } k
            | none => none) = some x := h
          split at h
          · rename_i st1 hsk
            have e : (if want then z else y) = (if b then y else z) := by cases b <;> cases want <;> first | rfl | exact absurd rfl hbw'
            rw [e] at h
            have hfix : ∀ {l : List Oper} {s s' : St}, skipL l s = some s' → s'.fix = s.fix := by
              intro l
              induction l with
              | nil => intro s s' hs; simp only [skipL, Option.some.injEq] at hs; rw [hs]
              | cons o os ih =>
                intro s s' hs
                unfold skipL at hs
                split at hs
                · rename_i s2 h2
                  exact (ih hs).trans (putSt_fix h2)
                · cases hs
            have hds : ∀ o ∈ grp, o.dst ≠ some t := fun o ho e => by
              have := hno o ho
              unfold setsNo at this
              rw [e] at this
              simp at this
            exact skipL_ok (want := want) hd hbw' hc hval (fun o ho => ⟨guardB_is (hall o ho), hds o ho⟩) hsk fun a' hc' hv => last hc' (hfix hsk) hv h
          · cases h
      · cases h
    · cases h
  · cases h
theorem runK_ok (hΓ : HCtx Γ w0 M S0) (hΦ : SigsOk Γ.P Γ.gl Φ) {ops : List Oper} {R : Type} {k : St → Option R} {x : R} {Q : Exit → Act → World → Prop} : ∀ {n : Nat} {l : List Oper} {st : St} {S : Nat → Prop} {γ : Nat → Value} {a : Act} {w : World}, Core w0 M S0 S γ st a w → runK Γ Φ ops n R l st k = some x →
    (∀ st' a' w' S' γ', k st' = some x → st'.fix = st.fix → Core w0 M S0 S' γ' st' a' w' → Q .normal a' w') → wpList Γ.P ops.toArray Q l a w := by
  intro n
  induction n with
  | zero => intro l st S γ a w hc h; simp [runK] at h
  | succ n ih =>
    intro l st S γ a w hc h hQ
    rcases l with _ | ⟨o, os⟩
    · simp only [runK] at h
      exact hQ st a w S γ h rfl hc
    · simp only [runK] at h
      split at h
      · rename_i hg
        exact stepK_ok hΓ hΦ hc hg h fun st1 a' w' S' γ' h1 h2 hc' => ih hc' h1 fun st' a' w' S' γ' k1 k2 k3 => hQ st' a' w' S' γ' k1 (k2.trans h2) k3
      · rename_i j want hg
        split at h
        · rename_i p rest hdrop
          have hB : o :: os = (takeB j want (o :: os) ++ [p]) ++ rest := by
            have := takeB_prefix (j := j) (want := want) (l := o :: os)
            rw [hdrop] at this
            rw [List.append_assoc]
            exact this
          rw [hB]
          split at h
          · rw [List.append_assoc]
            exact loudK_ok hΓ hΦ hc h fun st1 a' w' S' γ' h1 h2 hc' => ih hc' h1 fun st' a' w' S' γ' k1 k2 k3 => hQ st' a' w' S' γ' k1 (k2.trans h2) k3
          refine quiet_list (C := fun w' => Below w.heap.size w w') ⟨rfl, rfl, rfl, Nat.le_refl _, fun _ _ => rfl⟩ ?_
          have := runG_ok (rest := []) (Q := fun a' => ∀ w', Below w.heap.size w w' → wpList Γ.P ops.toArray Q rest a' w') hΓ hΦ hc h fun st' a' k1 k2 k3 _ => wpQuiet_nil fun w' hw' => ih (k3.grown hw') k1 fun st2 a2 w2 S2 γ2 m1 m2 m3 => hQ st2 a2 w2 S2 γ2 m1 (m2.trans k2) m3
          simpa using this
        · cases h
end

/-! ### States as data -/
/-- What is known of a temporary at a loop's head. -/
inductive SK where
  | data (t : Ty)
  | own (s : Nat) (t : Ty)
  | same (av : AV)
/-- What is known of a struct's cell there. -/
inductive CK where
  | data (t : Ty)
  | same (av : AV)
/-- What is known of an object there. -/
inductive OK where
  | row (e : TypeId) (t : Ty) (f : Bool)
  | var (e : TypeId) (t : Ty)
  | cdata (e : TypeId) (t : Ty)
  | csame (e : TypeId) (av : AV)
  | rcd (e : TypeId) (t : Ty) (ks : List CK)
  | map (k e : TypeId) (tk te : Ty) (f : Bool)
  | deep (e : TypeId) (t : Ty) (c : Nat)
  | fam (e : TypeId) (t : Ty)
@[reducible] def DenC : List CK → Type
  | [] => Unit
  | .data t :: r => t.Den × DenC r
  | .same _ :: r => DenC r
def encC : (l : List CK) → DenC l → List AV
  | [], _ => []
  | .data t :: r, x => .data t x.1 :: encC r x.2
  | .same av :: r, x => av :: encC r x
@[reducible] def DenS : List (Nat × SK) → Type
  | [] => Unit
  | (_, .data t) :: r => t.Den × DenS r
  | (_, .own _ _) :: r => (Nat × Nat) × DenS r
  | (_, .same _) :: r => DenS r
@[reducible] def DenO : List (Nat × OK) → Type
  | [] => Unit
  | (_, .row _ t _) :: r => List t.Den × DenO r
  | (_, .var _ t) :: r => t.Den × DenO r
  | (_, .cdata _ t) :: r => t.Den × DenO r
  | (_, .csame _ _) :: r => DenO r
  | (_, .rcd _ _ ks) :: r => DenC ks × DenO r
  | (_, .map _ _ tk te _) :: r => List (tk.Den × te.Den) × DenO r
  | (_, .deep _ _ _) :: r => DenO r
  | (_, .fam _ t) :: r => List (List t.Den) × DenO r
abbrev Tpl := List (Nat × SK) × List (Nat × OK)
abbrev DenT (T : Tpl) : Type := DenS T.1 × DenO T.2
def encS : (l : List (Nat × SK)) → DenS l → List (Nat × AV)
  | [], _ => []
  | (i, .data t) :: r, x => (i, .data t x.1) :: encS r x.2
  | (i, .own s t) :: r, x => (i, .own s t x.1.1 x.1.2) :: encS r x.2
  | (i, .same av) :: r, x => (i, av) :: encS r x
def encO : (l : List (Nat × OK)) → DenO l → Hp
  | [], _ => []
  | (s, .row e t f) :: r, x => (s, .row e t x.1 f) :: encO r x.2
  | (s, .var e t) :: r, x => (s, .row e t [x.1] false) :: encO r x.2
  | (s, .cdata e t) :: r, x => (s, .cell e (.data t x.1)) :: encO r x.2
  | (s, .csame e av) :: r, x => (s, .cell e av) :: encO r x
  | (s, .rcd e t ks) :: r, x => (s, .rcd e t (encC ks x.1)) :: encO r x.2
  | (s, .map k e tk te f) :: r, x => (s, .map k e tk te x.1 f) :: encO r x.2
  | (s, .deep e t c) :: r, x => (s, .deep e t c none) :: encO r x
  | (s, .fam e t) :: r, x => (s, .fam e t x.1) :: encO r x.2
def enc (T : Tpl) (x : DenT T) (nt : Nat) (fx : List (Nat × AV)) : St := ⟨encS T.1 x.1, encO T.2 x.2, nt, fx⟩
mutual
/-- The same, of values that bear no data. -/
def AV.eqB : AV → AV → Bool
  | .full s t, .full s' t' => s == s' && Ty.beq t t'
  | .cptr s, .cptr s' => s == s'
  | .mptr s, .mptr s' => s == s'
  | .lst vs, .lst vs' => AV.eqsB vs vs'
  | .optr s t j p, .optr s' t' j' p' => s == s' && (Ty.beq t t' && (j == j' && p == p'))
  | .nilS, .nilS => true
  | .fn f c, .fn f' c' => f == f' && AV.eqsB c c'
  | .undef, _ => true
  | _, _ => false
def AV.eqsB : List AV → List AV → Bool
  | [], [] => true
  | a :: as, b :: bs => AV.eqB a b && AV.eqsB as bs
  | _, _ => false
end
theorem AV.eqsB_len : ∀ {as bs : List AV}, AV.eqsB as bs = true → as.length = bs.length
  | [], [], _ => rfl
  | [], _ :: _, h => by simp [AV.eqsB] at h
  | _ :: _, [], h => by simp [AV.eqsB] at h
  | a :: as, b :: bs, h => by
    simp only [AV.eqsB, Bool.and_eq_true] at h
    simp only [List.length_cons, AV.eqsB_len h.2]
mutual
theorem eqB_ok {S : Nat → Prop} {w : World} {γ : Nat → Value} : ∀ {a b : AV} {v : Value}, AV.eqB a b = true → Match S w γ b v → Match S w γ a v
  | .full s t, b, v, h, hm => by
    cases b <;> first | (simp [AV.eqB] at h; done) | skip
    simp only [AV.eqB, Bool.and_eq_true, beq_iff_eq] at h
    obtain ⟨rfl, h2⟩ := h
    obtain rfl := Ty.eq_of_beq h2
    exact hm
  | .cptr s, b, v, h, hm => by
    cases b <;> first | (simp [AV.eqB] at h; done) | skip
    simp only [AV.eqB, beq_iff_eq] at h
    subst h
    exact hm
  | .mptr s, b, v, h, hm => by
    cases b <;> first | (simp [AV.eqB] at h; done) | skip
    simp only [AV.eqB, beq_iff_eq] at h
    subst h
    exact hm
  | .lst vs, b, v, h, hm => by
    cases b <;> first | (simp [AV.eqB] at h; done) | skip
    simp only [AV.eqB] at h
    simp only [Match] at hm ⊢
    obtain ⟨A, c, h1, us, h2, h3⟩ := hm
    have hl := AV.eqsB_len h
    exact ⟨A, c, by rw [hl]; exact h1, us, eqsB_ok h h2, fun h0 => h3 (by rw [hl] at h0; exact h0)⟩
  | .optr s t j p, b, v, h, hm => by
    cases b <;> first | (simp [AV.eqB] at h; done) | skip
    simp only [AV.eqB, Bool.and_eq_true, beq_iff_eq] at h
    obtain ⟨rfl, h2, rfl, rfl⟩ := h
    obtain rfl := Ty.eq_of_beq h2
    exact hm
  | .nilS, b, v, h, hm => by
    cases b <;> first | (simp [AV.eqB] at h; done) | exact hm
  | .fn f c, b, v, h, hm => by
    cases b <;> first | (simp [AV.eqB] at h; done) | skip
    simp only [AV.eqB, Bool.and_eq_true, beq_iff_eq] at h
    obtain ⟨rfl, h2⟩ := h
    simp only [Match] at hm ⊢
    obtain ⟨vs, h3, h4⟩ := hm
    exact ⟨vs, h3, eqsB_ok h2 h4⟩
  | .undef, b, v, _, _ => by simp only [Match]
  | .data _ _, b, v, h, _ | .lent _ _ _ _, b, v, h, _ | .clip _ _ _, b, v, h, _ | .inn _ _ _ _, b, v, h, _ | .iptr _ _ _ _ _, b, v, h, _ | .rptr _ _, b, v, h, _ | .val _, b, v, h, _ | .lenS _, b, v, h, _ | .tup _, b, v, h, _ | .opt _ _, b, v, h, _ | .own _ _ _ _, b, v, h, _ | .agg _ _, b, v, h, _ => by cases b <;> simp [AV.eqB] at h
theorem eqsB_ok {S : Nat → Prop} {w : World} {γ : Nat → Value} : ∀ {as bs : List AV} {vs : List Value}, AV.eqsB as bs = true → Matches S w γ bs vs → Matches S w γ as vs
  | [], bs, vs, h, hm => by
    cases bs <;> first | exact hm | simp [AV.eqsB] at h
  | a :: as, bs, vs, h, hm => by
    cases bs with
    | nil => simp [AV.eqsB] at h
    | cons b bs =>
      simp only [AV.eqsB, Bool.and_eq_true] at h
      simp only [Matches] at hm ⊢
      obtain ⟨u, us, h1, h2, h3⟩ := hm
      exact ⟨u, us, h1, eqB_ok h.1 h2, eqsB_ok h.2 h3⟩
end
def decS (st : St) : (l : List (Nat × SK)) → Option (DenS l)
  | [] => some ()
  | (i, .data t) :: r => (match get st.slots i with
    | some av => (match castTo t av, decS st r with
      | some x, some y => some (x, y)
      | _, _ => none)
    | none => none)
  | (i, .own s t) :: r => (match get st.slots i with
    | some av => (match wholeAV st av with
      | some (.own s' t' off n) => if s == s' && Ty.beq t t' then (match decS st r with
        | some y => some ((off, n), y)
        | none => none) else none
      | _ => none)
    | none => none)
  | (i, .same av) :: r => (match get st.slots i with
    | some av' => if AV.eqB av av' then decS st r else none
    | none => none)
def decC : (l : List CK) → List AV → Option (DenC l)
  | [], [] => some ()
  | .data t :: r, av :: avs => (match castTo t av, decC r avs with
    | some x, some y => some (x, y)
    | _, _ => none)
  | .same av' :: r, av :: avs => if AV.eqB av' av then decC r avs else none
  | _, _ => none
theorem decC_ok {S : Nat → Prop} {w : World} {γ : Nat → Value} : ∀ {l : List CK} {avs : List AV} {x : DenC l} {us : List Value}, decC l avs = some x → Matches S w γ avs us → Matches S w γ (encC l x) us
  | [], [], x, us, _, hm => hm
  | [], _ :: _, x, us, h, _ => by simp [decC] at h
  | .data t :: r, [], x, us, h, _ => by simp [decC] at h
  | .same av' :: r, [], x, us, h, _ => by simp [decC] at h
  | .data t :: r, av :: avs, x, us, h, hm => by
    unfold decC at h
    split at h
    · rename_i y z h1 h2
      have h : (y, z) = x := Option.some.inj h
      subst h
      simp only [Matches] at hm
      obtain ⟨u, us', rfl, m1, m2⟩ := hm
      simp only [encC, Matches]
      exact ⟨u, us', rfl, match_data.2 (castTo_ok m1 h1), decC_ok h2 m2⟩
    · cases h
  | .same av' :: r, av :: avs, x, us, h, hm => by
    unfold decC at h
    split at h
    · rename_i he
      simp only [Matches] at hm
      obtain ⟨u, us', rfl, m1, m2⟩ := hm
      simp only [encC, Matches]
      exact ⟨u, us', rfl, eqB_ok he m1, decC_ok h m2⟩
    · cases h
def decO (st : St) : (l : List (Nat × OK)) → Option (DenO l)
  | [] => some ()
  | (s, .row e t f) :: r => (match get st.heap s with
    | some (.row e' t' xs f') => if e == e' && f == f' then (match Ty.cast (.sl e t') (.sl e t) xs, decO st r with
      | some x, some y => some (x, y)
      | _, _ => none) else none
    | _ => none)
  | (s, .var e t) :: r => (match get st.heap s with
    | some (.row e' t' xs false) => (match xs with
      | [x0] => if e == e' then (match Ty.cast t' t x0, decO st r with
        | some x, some y => some (x, y)
        | _, _ => none) else none
      | _ => none)
    | _ => none)
  | (s, .cdata e t) :: r => (match get st.heap s with
    | some (.cell e' av) => if e == e' then (match castTo t av, decO st r with
      | some x, some y => some (x, y)
      | _, _ => none) else none
    | _ => none)
  | (s, .csame e av) :: r => (match get st.heap s with
    | some (.cell e' av') => if e == e' && AV.eqB av av' then decO st r else none
    | _ => none)
  | (s, .rcd e t ks) :: r => (match get st.heap s with
    | some (.rcd e' t' vs) => if e == e' && Ty.beq t t' then (match decC ks vs, decO st r with
      | some x, some y => some (x, y)
      | _, _ => none) else none
    | _ => none)
  | (s, .map k e tk te f) :: r => (match get st.heap s with
    | some (.map k' e' tk' te' l f') => if f == f' then (match Ty.cast (.map k' e' tk' te') (.map k e tk te) l, decO st r with
      | some x, some y => some (x, y)
      | _, _ => none) else none
    | _ => none)
  | (s, .deep e t c) :: r => (match get st.heap s with
    | some (.deep e' t' c' none) => if e == e' && (Ty.beq t t' && c == c') then decO st r else none
    | _ => none)
  | (s, .fam e t) :: r => (match get st.heap s with
    | some (.fam e' t' xss) => if e == e' then (match Ty.cast (.sl 0 (.sl 0 t')) (.sl 0 (.sl 0 t)) xss, decO st r with
      | some x, some y => some (x, y)
      | _, _ => none) else none
    | _ => none)
def dec (T : Tpl) (nt : Nat) (st : St) : Option (DenT T) :=
  if st.nt = nt then (match decS st T.1, decO st T.2 with
    | some x, some y => some (x, y)
    | _, _ => none) else none
section
variable {S : Nat → Prop} {w : World} {γ : Nat → Value} {Γ : Env} {Φ : Sigs} {w0 : World} {M S0 : Nat → Prop} {st : St} {a : Act}
theorem decS_ok (hc : Core w0 M S0 S γ st a w) : ∀ {l : List (Nat × SK)} {x : DenS l}, decS st l = some x → ∀ i av, get (encS l x) i = some av → Match S w γ av (a.tmps.getD i undef)
  | [], x, _, i, av, hi => by simp [encS, get] at hi
  | (j, .data t) :: r, x, h, i, av, hi => by
    unfold decS at h
    split at h
    · rename_i av0 h0
      split at h
      · rename_i y z h1 h2
        have h : (y, z) = x := Option.some.inj h
        subst h
        simp only [encS, get] at hi
        split at hi
        · rename_i e
          simp only [Option.some.injEq] at hi
          subst e hi
          exact match_data.2 (castTo_ok (hc.slot i _ h0) h1)
        · exact decS_ok hc h2 i av hi
      · cases h
    · cases h
  | (j, .own s t) :: r, x, h, i, av, hi => by
    unfold decS at h
    split at h
    · rename_i av0 h0
      split at h
      · rename_i s' t' off n hw
        split at h
        · rename_i hcond
          simp only [Bool.and_eq_true, beq_iff_eq] at hcond
          obtain ⟨rfl, hb⟩ := hcond
          obtain rfl := Ty.eq_of_beq hb
          split at h
          · rename_i z h2
            have h : ((off, n), z) = x := Option.some.inj h
            subst h
            simp only [encS, get] at hi
            split at hi
            · rename_i e
              simp only [Option.some.injEq] at hi
              subst e hi
              exact wholeAV_ok hc hw (hc.slot i _ h0)
            · exact decS_ok hc h2 i av hi
          · cases h
        · cases h
      · cases h
    · cases h
  | (j, .same av1) :: r, x, h, i, av, hi => by
    unfold decS at h
    split at h
    · rename_i av0 h0
      split at h
      · rename_i he
        simp only [encS, get] at hi
        split at hi
        · rename_i e
          simp only [Option.some.injEq] at hi
          subst e hi
          exact eqB_ok he (hc.slot i _ h0)
        · exact decS_ok hc h i av hi
      · cases h
    · cases h
theorem decO_ok (hc : ∀ s o, get st.heap s = some o → ObOk S w γ (γ s) o) : ∀ {l : List (Nat × OK)} {x : DenO l}, decO st l = some x → ∀ s o, get (encO l x) s = some o → ∃ o', get st.heap s = some o' ∧ o.live = true ∧ o'.live = true ∧ ObOk S w γ (γ s) o
  | [], x, _, i, av, hi => by simp [encO, get] at hi
  | (j, .row e t f) :: r, x, h, i, o, hi => by
    unfold decO at h
    split at h
    · rename_i e' t' xs f' h0
      split at h
      · rename_i hcond
        simp only [Bool.and_eq_true, beq_iff_eq] at hcond
        obtain ⟨rfl, rfl⟩ := hcond
        split at h
        · rename_i y z h1 h2
          have h : (y, z) = x := Option.some.inj h
          subst h
          obtain ⟨e1, e2⟩ := Ty.cast_some h1
          injection e1 with _ e3
          subst e3
          have e2 : xs = y := e2
          subst e2
          simp only [encO, get] at hi
          split at hi
          · rename_i e4
            simp only [Option.some.injEq] at hi
            subst e4 hi
            exact ⟨_, h0, rfl, rfl, (hc i _ h0)⟩
          · exact decO_ok hc h2 i o hi
        · cases h
      · cases h
    · cases h
  | (j, .var e t) :: r, x, h, i, o, hi => by
    unfold decO at h
    split at h
    · rename_i e' t' xs h0
      split at h
      · rename_i x0
        split at h
        · rename_i hcond
          simp only [beq_iff_eq] at hcond
          subst hcond
          split at h
          · rename_i y z h1 h2
            have h : (y, z) = x := Option.some.inj h
            subst h
            obtain ⟨e1, e2⟩ := Ty.cast_some h1
            subst e1
            have e2 : x0 = y := e2
            subst e2
            simp only [encO, get] at hi
            split at hi
            · rename_i e4
              simp only [Option.some.injEq] at hi
              subst e4 hi
              exact ⟨_, h0, rfl, rfl, (hc i _ h0)⟩
            · exact decO_ok hc h2 i o hi
          · cases h
        · cases h
      · cases h
    · cases h
  | (j, .cdata e t) :: r, x, h, i, o, hi => by
    unfold decO at h
    split at h
    · rename_i e' av h0
      split at h
      · rename_i hcond
        simp only [beq_iff_eq] at hcond
        subst hcond
        split at h
        · rename_i y z h1 h2
          have h : (y, z) = x := Option.some.inj h
          subst h
          simp only [encO, get] at hi
          split at hi
          · rename_i e4
            simp only [Option.some.injEq] at hi
            subst e4 hi
            obtain ⟨⟨u, g1, g2, g4⟩, g3⟩ := (hc i _ h0)
            exact ⟨_, h0, rfl, rfl, ⟨⟨u, g1, match_data.2 (castTo_ok g2 h1), g4⟩, g3⟩⟩
          · exact decO_ok hc h2 i o hi
        · cases h
      · cases h
    · cases h
  | (j, .csame e av) :: r, x, h, i, o, hi => by
    unfold decO at h
    split at h
    · rename_i e' av' h0
      split at h
      · rename_i hcond
        simp only [Bool.and_eq_true, beq_iff_eq] at hcond
        obtain ⟨rfl, he⟩ := hcond
        simp only [encO, get] at hi
        split at hi
        · rename_i e4
          simp only [Option.some.injEq] at hi
          subst e4 hi
          obtain ⟨⟨u, g1, g2, g4⟩, g3⟩ := (hc i _ h0)
          exact ⟨_, h0, rfl, rfl, ⟨⟨u, g1, eqB_ok he g2, g4⟩, g3⟩⟩
        · exact decO_ok hc h i o hi
      · cases h
    · cases h
  | (j, .rcd e t ks) :: r, x, h, i, o, hi => by
    unfold decO at h
    split at h
    · rename_i e' t' vs h0
      split at h
      · rename_i hcond
        simp only [Bool.and_eq_true, beq_iff_eq] at hcond
        obtain ⟨rfl, hb⟩ := hcond
        obtain rfl := Ty.eq_of_beq hb
        split at h
        · rename_i y z h1 h2
          have h : (y, z) = x := Option.some.inj h
          subst h
          simp only [encO, get] at hi
          split at hi
          · rename_i e4
            simp only [Option.some.injEq] at hi
            subst e4 hi
            obtain ⟨⟨us, g1, g2, g4⟩, g3⟩ := (hc i _ h0)
            exact ⟨_, h0, rfl, rfl, ⟨⟨us, g1, decC_ok h1 g2, g4⟩, g3⟩⟩
          · exact decO_ok hc h2 i o hi
        · cases h
      · cases h
    · cases h
  | (j, .map k e tk te f) :: r, x, h, i, o, hi => by
    unfold decO at h
    split at h
    · rename_i k' e' tk' te' l f' h0
      split at h
      · rename_i hcond
        simp only [beq_iff_eq] at hcond
        subst hcond
        split at h
        · rename_i y z h1 h2
          have h : (y, z) = x := Option.some.inj h
          subst h
          obtain ⟨e1, e2⟩ := Ty.cast_some h1
          injection e1 with q1 q2 q3 q4
          subst q1 q2 q3 q4
          have e2 : l = y := e2
          subst e2
          simp only [encO, get] at hi
          split at hi
          · rename_i e4
            simp only [Option.some.injEq] at hi
            subst e4 hi
            exact ⟨_, h0, rfl, rfl, hc i _ h0⟩
          · exact decO_ok hc h2 i o hi
        · cases h
      · cases h
    · cases h
  | (j, .deep e t c) :: r, x, h, i, o, hi => by
    unfold decO at h
    split at h
    · rename_i e' t' c' h0
      split at h
      · rename_i hcond
        simp only [Bool.and_eq_true, beq_iff_eq] at hcond
        obtain ⟨rfl, hb, rfl⟩ := hcond
        obtain rfl := Ty.eq_of_beq hb
        simp only [encO, get] at hi
        split at hi
        · rename_i e4
          simp only [Option.some.injEq] at hi
          subst e4 hi
          exact ⟨_, h0, rfl, rfl, hc i _ h0⟩
        · exact decO_ok hc h i o hi
      · cases h
    · cases h
  | (j, .fam e t) :: r, x, h, i, o, hi => by
    unfold decO at h
    split at h
    · rename_i e' t' xss h0
      split at h
      · rename_i hcond
        simp only [beq_iff_eq] at hcond
        subst hcond
        split at h
        · rename_i y z h1 h2
          have h : (y, z) = x := Option.some.inj h
          subst h
          obtain ⟨e1, e2⟩ := Ty.cast_some h1
          injection e1 with _ q4
          injection q4 with _ q4
          subst q4
          have e2 : xss = y := e2
          subst e2
          simp only [encO, get] at hi
          split at hi
          · rename_i e4
            simp only [Option.some.injEq] at hi
            subst e4 hi
            exact ⟨_, h0, rfl, rfl, hc i _ h0⟩
          · exact decO_ok hc h2 i o hi
        · cases h
      · cases h
    · cases h
theorem dec_ok (hc : Core w0 M S0 S γ st a w) {T : Tpl} {x : DenT T} {nt : Nat} (h : dec T nt st = some x) {fx : List (Nat × AV)} (hfx : ∀ i av, get fx i = some av → av.pure = true ∧ Match S w γ av (a.tmps.getD i undef)) : Core w0 M S0 S γ (enc T x nt fx) a w := by
  unfold dec at h
  split at h
  · rename_i hnt
    subst hnt
    split at h
    rotate_left
    · cases h
    rename_i y z h1 h2
    have h : (y, z) = x := Option.some.inj h
    subst h
    refine ⟨hc.os, hc.tape, hc.output, hc.size, hc.old, hc.s0, hc.sold, hc.slt, fun i av hi => decS_ok hc h1 i av hi, ?_, ?_, hc.defers, hc.nt, hfx⟩
    · intro s o hs
      obtain ⟨o', k1, k2, k3, k4⟩ := decO_ok (fun s o h => (hc.obj s o h).1) h2 s o hs
      exact ⟨k4, fun _ => (hc.obj s o' k1).2 k3⟩
    · intro s s' o1 o2 g1 g2 l1 l2 hne
      obtain ⟨o1', k1, _, k3, _⟩ := decO_ok (fun s o h => (hc.obj s o h).1) h2 s o1 g1
      obtain ⟨o2', m1, _, m3, _⟩ := decO_ok (fun s o h => (hc.obj s o h).1) h2 s' o2 g2
      exact hc.dis s s' o1' o2' k1 m1 k3 m3 hne
  · cases h
end
end Go.Abs
