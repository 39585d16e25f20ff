/- Part of the proof of the law's row: YtnoeomlanbdjeaaAbsV3. -/
import Derived.Test.YtnoeomlanbdjeaaAbsV2
set_option linter.all false
set_option linter.unusedVariables false
set_option linter.unusedSimpArgs false
namespace Go
open Go.RowKit
/-! ### Regions that draw: reads and moves that may stand on either side of a call that makes new memory alone -/
section
variable {P : Program} {ops : Array Oper} {soft : Nat → World → World → Prop}
def wpAnyF (P : Program) (ops : Array Oper) (soft : Nat → World → World → Prop) (Q : Act → World → Prop) : Nat → Array Bool → Act → World → Prop
  | 0, listed, a, w => Region.ready .any ops listed = [] ∧ Q a w
  | fuel + 1, listed, a, w => (Region.ready .any ops listed = [] → Q a w) ∧ ∀ i ∈ Region.ready .any ops listed,
      wpOp P ops (fun _ _ _ => False) i (fun a' w' => soft i w w' ∧ wpAnyF P ops soft Q fuel (listed.setIfInBounds i true) a' w') a w
theorem Oper.wp_exits {o : Oper} {a : Act} {K : Act → World → Prop} {Q' : Exit → Act → World → Prop} {w : World} (h : o.wp P a w K (fun _ _ _ => False)) : o.wp P a w K Q' := by
  unfold Oper.wp at *
  generalize (execOp a.eval o).run P w = r at *
  cases r with
  | ok n w' =>
    cases n <;> simp only [Oper.upon] at h ⊢ <;> first
      | exact h
      | (refine Calls.mono h fun e w'' he => ?_
         cases e with
         | returned v => exact he
         | panicked c => exact he.elim
         | outgrown => obtain ⟨_, _, he⟩ := he; exact he.elim)
  | halt x w' => cases x <;> simp only [Oper.upon] at h ⊢
theorem wpAny_of_F {Q : Act → World → Prop} {Q' : Exit → Act → World → Prop} (hQ : ∀ a w, Q a w → Q' .normal a w) : ∀ (n : Nat) (listed : Array Bool) (a : Act) (w : World), wpAnyF P ops soft Q n listed a w → wpAny P .any ops Q' n listed a w
  | 0, _, _, _, h => ⟨h.1, hQ _ _ h.2⟩
  | n + 1, listed, a, w, h => by
    refine ⟨fun h0 => hQ _ _ (h.1 h0), fun i hi => ?_⟩
    have := wpOp_mono (fun a' w' h' => wpAny_of_F hQ n _ a' w' h'.2) (h.2 i hi)
    unfold wpOp at this ⊢
    split
    · rename_i e; simp only [e] at this; exact this
    · rename_i o e
      simp only [e] at this
      split
      · rename_i hw
        rw [if_pos hw] at this
        rcases this with h1 | ⟨_, _, _, h2⟩
        · exact .inl (Oper.wp_exits h1)
        · exact h2.elim
      · rename_i hw; rw [if_neg hw] at this; exact this
/-- In state 'a', in every world of the class, the operation leaves 'v', and the world as it was. -/
def YieldsW (P : Program) (ops : Array Oper) (C : World → Prop) (o : Oper) (v : Value) (a : Act) : Prop :=
  (Region.wanted o (yielded ops a.tmps) = true ∧ ∀ w, C w → (execOp a.eval o).run P w = .ok (.value v) w) ∨ (Region.wanted o (yielded ops a.tmps) = false ∧ v = undef)
theorem YieldsW.wpOp {C : World → Prop} {i : Nat} {o : Oper} {v : Value} {a : Act} (hi : ops[i]? = some o) (hy : YieldsW P ops C o v a) {Q : Exit → Act → World → Prop}
    {K : Act → World → Prop} {w : World} (hw : C w) (h : K (a.put o.dst v) w) : wpOp P ops Q i K a w := by
  unfold Go.wpOp
  simp only [hi]
  rcases hy with ⟨hwt, hv⟩ | ⟨hwt, rfl⟩
  · simp only [hwt, if_true, Oper.wp, hv w hw, Oper.upon]; exact .inl h
  · simp only [hwt, Bool.false_eq_true, if_false]; exact h
theorem YieldsW.of_same {C : World → Prop} {o : Oper} {v : Value} {a a' : Act} (hy : YieldsW P ops C o v a) (he : execOp a'.eval o = execOp a.eval o)
    (hw : Region.wanted o (yielded ops a'.tmps) = Region.wanted o (yielded ops a.tmps)) : YieldsW P ops C o v a' := by
  unfold YieldsW at *
  rw [he, hw]
  exact hy
theorem wpOp_putW {C : World → Prop} {j : Nat} {oi oj : Oper} {v : Value} (hj : ops[j]? = some oj) (hap : oi.apart ops oj = true)
    (hsi : ∀ cs b, oi.op ≠ .select cs b) (hsj : ∀ cs b, oj.op ≠ .select cs b) {K : Act → World → Prop} {a : Act} {w : World}
    (hy : YieldsW P ops C oi v a) (h : wpOp P ops (fun _ _ _ => False) j K (a.put oi.dst v) w) :
    wpOp P ops (fun _ _ _ => False) j (fun a' w' => YieldsW P ops C oi v a' ∧ K (a'.put oi.dst v) w') a w := by
  obtain ⟨h1, h2, h3⟩ := Oper.apart_spec hap
  have keep : ∀ (a : Act), YieldsW P ops C oi v a → ∀ u, YieldsW P ops C oi v (a.put oj.dst u) := fun a hy u =>
    hy.of_same (execOp_put oi hsi a oj.dst u h3) (wanted_put oi a oj.dst u h3)
  have keepD : ∀ d, YieldsW P ops C oi v { a with defers := d :: a.defers } := fun d => hy.of_same rfl rfl
  unfold Go.wpOp at *
  simp only [hj] at *
  rw [wanted_put oj a oi.dst v h1] at h
  split
  · rename_i hw
    simp only [hw, if_true] at h
    rcases h with h | ⟨_, _, _, h⟩
    case inr => exact h.elim
    refine .inl ?_
    unfold Oper.wp at *
    rw [execOp_put oj hsj a oi.dst v h1] at h
    generalize (execOp a.eval oj).run P w = r at *
    cases r with
    | ok n w' =>
      cases n <;> simp only [Oper.upon] at h ⊢
      case value u => exact ⟨keep a hy u, by rw [← Act.put_comm a v u h2]; exact h⟩
      case skip => exact ⟨keep a hy _, by rw [← Act.put_comm a v undef h2]; exact h⟩
      case defer d =>
        refine ⟨keep _ (keepD d) _, ?_⟩
        rw [← Act.put_comm _ v undef h2, ← Act.put_defers]
        exact h
      case enter f args =>
        refine Calls.mono h fun e w'' he => ?_
        cases e with
        | returned u => exact ⟨keep a hy u, by rw [← Act.put_comm a v u h2]; exact he⟩
        | panicked c => exact he.elim
        | outgrown => exact he
      case row row args => exact Rows.mono h fun u w'' he => ⟨keep a hy u, by rw [← Act.put_comm a v u h2]; exact he⟩
    | halt x w' => cases x <;> simp only [Oper.upon] at h ⊢
  · rename_i hw
    simp only [hw] at h
    exact ⟨keep a hy _, by rw [← Act.put_comm a v undef h2]; exact h⟩
/-- An operation that may come up now may be taken first. -/
theorem wpAnyF_first {C : World → Prop} {Q : Act → World → Prop} {i : Nat} {oi : Oper} {v : Value} (hi : ops[i]? = some oi) (hsel : ∀ (j : Nat) (o : Oper) cs b, ops[j]? = some o → o.op ≠ .select cs b)
    {L0 : Array Bool} (hstep : ∀ listed : Array Bool, Closed ops listed → (∀ k, L0.getD k false = true → listed.getD k false = true) → listed.getD i true = false → ∀ j ∈ Region.ready .any ops listed, j ≠ i → ∀ w1 w2, C w1 → soft j w1 w2 → C w2) (hself : ∀ w, soft i w w) :
    ∀ (fuel : Nat) (listed : Array Bool) (a : Act) (w : World), (∀ k, L0.getD k false = true → listed.getD k false = true) →
      (∀ j oj, ops[j]? = some oj → j ≠ i → listed.getD j true = false → (∀ e ∈ oj.after, Region.binds .any e = true → e.on ≠ i) → oi.apart ops oj = true) →
      Closed ops listed → i ∈ Region.ready .any ops listed → YieldsW P ops C oi v a → C w →
      wpAnyF P ops soft Q fuel (listed.setIfInBounds i true) (a.put oi.dst v) w → wpAnyF P ops soft Q (fuel + 1) listed a w := by
  intro fuel
  induction fuel with
  | zero =>
    intro listed a w _ _ _ hr hy hC H
    refine ⟨fun h => (by rw [h] at hr; cases hr), fun j hj => ?_⟩
    by_cases hji : j = i
    · subst hji; exact hy.wpOp hi hC ⟨hself w, H⟩
    · have := ready_mono hj hji
      rw [H.1] at this
      cases this
  | succ fuel ih =>
    intro listed a w hL0 hfree hcl hr hy hC H
    refine ⟨fun h => (by rw [h] at hr; cases hr), fun j hj => ?_⟩
    by_cases hji : j = i
    · subst hji; exact hy.wpOp hi hC ⟨hself w, H⟩
    · have h1 := H.2 j (ready_mono hj hji)
      obtain ⟨hjun, oj, hoj, hall⟩ := mem_ready.1 hj
      have hui := (mem_ready.1 hr).1
      have hnot : ∀ e ∈ oj.after, Region.binds .any e = true → e.on ≠ i := fun e he hb heq => by
        have h1 := hall e he hb
        have h0 := hui
        rw [heq] at h1
        rcases Nat.lt_or_ge i listed.size with h' | h'
        · simp [h'] at h0 h1; rw [h0] at h1; cases h1
        · simp [Array.getElem?_eq_none h'] at h1
      have h2 := wpOp_putW hoj (hfree j oj hoj hji hjun hnot) (fun cs b => hsel i oi cs b hi) (fun cs b => hsel j oj cs b hoj) hy h1
      have hfree' : ∀ k ok, ops[k]? = some ok → k ≠ i → (listed.setIfInBounds j true).getD k true = false →
          (∀ e ∈ ok.after, Region.binds .any e = true → e.on ≠ i) → oi.apart ops ok = true := fun k ok hk hki hun hno => by
        refine hfree k ok hk hki ?_ hno
        by_cases hjk : j = k
        · subst hjk; exact hjun
        · rw [getD_set_ne true hjk] at hun; exact hun
      refine wpOp_mono (fun a' w' h3 => ⟨h3.2.1, ih (listed.setIfInBounds j true) a' w' (fun k hk => getD_set_true (hL0 k hk)) hfree' (hcl.set hj) (ready_mono hr (Ne.symm hji)) h3.1 (hstep listed hcl hL0 hui j hj hji w w' hC h3.2.1) ?_⟩) h2
      rw [Array.setIfInBounds_comm _ _ hji]
      exact h3.2.2
/-- Which operations must stand ahead of one. -/
def Region.dep (ops : Array Oper) (m k : Nat) : Bool := match ops[m]? with
  | some o => o.after.any fun e => Region.binds .any e && e.on == k
  | none => false
def Region.preds (ops : Array Oper) (j : Nat) : Nat → List Nat → List Nat
  | 0, acc => acc
  | k + 1, acc => if Region.dep ops j k || acc.any (fun m => Region.dep ops m k) then Region.preds ops j k (k :: acc) else Region.preds ops j k acc
theorem dep_listed {listed : Array Bool} {m k : Nat} (hd : Region.dep ops m k = true) (h : ∀ o, ops[m]? = some o → ∀ e ∈ o.after, Region.binds .any e = true → listed.getD e.on false = true) : listed.getD k false = true := by
  unfold Region.dep at hd
  split at hd
  · rename_i o ho
    obtain ⟨e, he, hb⟩ := Array.any_eq_true'.1 hd
    simp only [Bool.and_eq_true, beq_iff_eq] at hb
    have := h o ho e he hb.1
    rw [hb.2] at this
    exact this
  · cases hd
theorem preds_listed {listed : Array Bool} {j : Nat} (hcl : Closed ops listed) (hj : j ∈ Region.ready .any ops listed) : ∀ {n : Nat} {acc : List Nat}, (∀ k ∈ acc, listed.getD k false = true) → ∀ k ∈ Region.preds ops j n acc, listed.getD k false = true
  | 0, acc, hacc, k, hk => hacc k hk
  | n + 1, acc, hacc, k, hk => by
    unfold Region.preds at hk
    split at hk
    · rename_i hd
      refine preds_listed hcl hj (fun m hm => ?_) k hk
      rcases List.mem_cons.1 hm with rfl | hm
      · simp only [Bool.or_eq_true, List.any_eq_true] at hd
        rcases hd with hd | ⟨m', hm', hd⟩
        · refine dep_listed hd fun o ho e he hb => ?_
          obtain ⟨_, o', ho', hall⟩ := mem_ready.1 hj
          rw [ho] at ho'
          simp only [Option.some.injEq] at ho'
          subst ho'
          exact hall e he hb
        · exact dep_listed hd fun o ho e he hb => hcl m' o ho (hacc m' hm') e he hb
      · exact hacc m hm
    · exact preds_listed hcl hj hacc k hk
theorem listed_not {listed : Array Bool} {i : Nat} (h : listed.getD i false = true) (hu : listed.getD i true = false) : False := by
  rcases Nat.lt_or_ge i listed.size with h' | h'
  · simp [h'] at h hu; rw [hu] at h; cases h
  · simp [Array.getElem?_eq_none h'] at h
end
end Go
namespace Go.Abs
open Go.RowKit
/-- Moves of temporaries: no memory is read. -/
def moveOp (o : Oper) : Bool := match o.op with
  | .move _ => true
  | .assign _ => true
  | _ => false
/-- Barriers on either side of which a read may stand. -/
def softList (ops : Array Oper) (bar : Oper → Bool) : List Nat := (List.range ops.size).filter fun j => match ops[j]? with
  | some oj => bar oj && ((List.range ops.size).any fun i => match ops[i]? with
    | some oi => !bar oi && (!moveOp oi && (!(Region.preds ops j j []).contains i && !(Region.preds ops i i []).contains j))
    | none => false)
  | none => false
def floatB (ops : Array Oper) (bar : Oper → Bool) (softs : List Nat) : List Nat → Array Bool → Bool
  | [], listed => (Region.ready .any ops listed).isEmpty
  | i :: r, listed => (match ops[i]? with
    | some o => o.guard.isNone && (if bar o then Region.ready .any ops listed == [i] else (Region.ready .any ops listed).contains i && (Region.free .any ops listed i &&
        (moveOp o || (List.range ops.size).all fun j => match ops[j]? with
          | some oj => !bar oj || (softs.contains j || ((Region.preds ops j j []).contains i || listed.getD j false))
          | none => true)))
    | none => false) && floatB ops bar softs r (listed.setIfInBounds i true)
/-- An order: what is no barrier first. -/
def orderE (ops : Array Oper) (bar : Oper → Bool) : Nat → Array Bool → List Nat
  | 0, _ => []
  | n + 1, listed => (match (Region.ready .any ops listed).find? (fun i => match ops[i]? with | some o => !bar o | none => false) with
    | some i => i :: orderE ops bar n (listed.setIfInBounds i true)
    | none => (match Region.ready .any ops listed with
      | i :: _ => i :: orderE ops bar n (listed.setIfInBounds i true)
      | [] => []))
noncomputable def softK (Γ : Env) (Φ : Sigs) (R : Type) (st : St) (o : Oper) (k : St → Option R) : Option R :=
  match o.op with
  | .call c => (match callArgs st c with
    | some (_, l, _) => (match (match c.callee with | .value x => opd st x | _ => none) with
      | some (.fn f _, _) => (match get Φ f with
        | some sig => (match passAVs st sig.lend l with
          | some (bs, _, _) => if (AV.namess bs).isEmpty then callK Φ R st c o.dst k else none
          | none => none)
        | none => none)
      | _ => none)
    | none => none)
  | .buildSlice T len parts => (match o.dst with
    | some d => (match rawdn st parts.toList with
      | some (l, p) => (match pureParts st l with
        | some (l', st1, p1) => (match absBuildSlice Γ st1 d T len l' with
          | some (st', q) => needs (p ++ (p1 ++ q)) (k st')
          | none => none)
        | none => none)
      | none => none)
    | none => none)
  | .build T parts => (match o.dst with
    | some d => (match rawdn st parts.toList with
      | some (l, p) => if Γ.recs.contains T then (match evBuildA Γ T l with
        | some (r, q) => (match putSt st (some d) r with
          | some st' => needs (p ++ q) (k st')
          | none => none)
        | none => none) else (match pureParts st l with
        | some (l', st1, p1) => (match evBuild Γ T l' with
          | some (r, q) => (match putSt st1 (some d) r with
            | some st' => needs (p ++ (p1 ++ q)) (k st')
            | none => none)
          | none => none)
        | none => none)
      | none => none)
    | none => none)
  | _ => none
noncomputable def valueK (Γ : Env) (R : Type) (st : St) (o : Oper) (k : St → Option R) : Option R :=
  match evOp Γ st o.op with
  | some (av, p) => (match putSt st o.dst av with
    | some st' => needs p (k st')
    | none => none)
  | none => none
noncomputable def runE (Γ : Env) (Φ : Sigs) (ops : Array Oper) (bar : Oper → Bool) (softs : List Nat) (R : Type) : List Nat → St → (St → Option R) → Option R
  | [], st, k => k st
  | i :: r, st, k => (match ops[i]? with
    | some o => if bar o then (if softs.contains i then softK Γ Φ R st o fun st' => runE Γ Φ ops bar softs R r st' k else stepK Γ Φ R st o fun st' => runE Γ Φ ops bar softs R r st' k)
        else valueK Γ R st o fun st' => runE Γ Φ ops bar softs R r st' k
    | none => none)
section
variable {Γ : Env} {Φ : Sigs} {w0 : World} {M S0 : Nat → Prop} {S : Nat → Prop} {γ : Nat → Value} {st : St} {a : Act} {w : World}
theorem heapIn_nil {st1 : St} {H : Hp} {bs : List AV} (h0 : AV.namess bs = []) (h : heapIn st1 (namesIn st1 (AV.namess bs) 0) (namesIn st1 (AV.namess bs) 0) = some H) : H = [] := by
  rw [h0] at h
  simpa [namesIn, heapIn] using h.symm
theorem softK_ok (hΓ : HCtx Γ w0 M S0) (hΦ : SigsOk Γ.P Γ.gl Φ) (hc : Core w0 M S0 S γ st a w) {o : Oper} {R : Type} {k : St → Option R} {x : R} (h : softK Γ Φ R st o k = some x) {next : Act → World → Prop} {Q : Exit → Act → World → Prop}
    (hn : ∀ st' a' w' S' γ', k st' = some x → st'.fix = st.fix → Core w0 M S0 S' γ' st' a' w' → Below w.heap.size w w' → (∀ b, S b → S' b) → next a' w') : o.wp Γ.P a w next Q := by
  unfold softK at h
  have inl : ∀ {p q : List Prop}, (∀ x ∈ p ++ q, x) → ∀ x ∈ p, x := fun h x hx => h x (List.mem_append.2 (.inl hx))
  have inr : ∀ {p q : List Prop}, (∀ x ∈ p ++ q, x) → ∀ x ∈ q, x := fun h x hx => h x (List.mem_append.2 (.inr hx))
  split at h
  rotate_left
  · rename_i T len parts ho
    split at h
    · rename_i d hd
      split at h
      · rename_i l p hl
        split at h
        · rename_i l' st1 p1 hl'
          split at h
          · rename_i st2 q hst
            obtain ⟨hps, h⟩ := needs_some h
            obtain ⟨S1, k1, k2, k3, k4⟩ := pureParts_ok hc hl' (inl (inr hps)) (vs := (parts.map fun (i, x) => (i, a.eval x)).toList) (by
              rw [Array.toList_map]
              exact rawdn_ok hc hl (inl hps))
            obtain ⟨r, w', γ', h1, hb, h2⟩ := absBuildSlice_new hΓ.toEnvOk k2 hst (vs := parts.map fun (i, x) => (i, a.eval x)) k3
            rw [← hd] at h2
            exact wp_value (execOp_value (by simp only [execOp, ho]) h1) (hn _ _ _ _ _ h ((absBuildSlice_fix hst).trans k4) h2 hb k1)
          · cases h
        · cases h
      · cases h
    · cases h
  · rename_i T parts ho
    split at h
    · rename_i d hd
      split at h
      · rename_i l p hl
        split at h
        · split at h
          · rename_i r q hev
            split at h
            · rename_i st2 hput
              obtain ⟨hps, h⟩ := needs_some h
              obtain ⟨rv, h1, h2⟩ := evBuildA_ok hΓ.toEnvOk hev (vs := parts.map fun (i, x) => (i, a.eval x)) (by
                rw [Array.toList_map]
                exact rawdn_ok hc hl (inl hps))
              have h3 := putSt_ok hc hput h2
              rw [← hd] at h3
              exact wp_value (execOp_value (by simp only [execOp, ho]) (h1 w)) (hn _ _ _ _ _ h (putSt_fix hput) h3 ⟨rfl, rfl, rfl, Nat.le_refl _, fun _ _ => rfl⟩ (fun _ h => h))
            · cases h
          · cases h
        split at h
        · rename_i l' st1 p1 hl'
          split at h
          · rename_i r q hev
            split at h
            · rename_i st2 hput
              obtain ⟨hps, h⟩ := needs_some h
              obtain ⟨S1, k1, k2, k3, k4⟩ := pureParts_ok hc hl' (inl (inr hps)) (vs := (parts.map fun (i, x) => (i, a.eval x)).toList) (by
                rw [Array.toList_map]
                exact rawdn_ok hc hl (inl hps))
              obtain ⟨rv, h1, h2⟩ := evBuild_ok hΓ.toEnvOk hev (vs := parts.map fun (i, x) => (i, a.eval x)) k3
              have h3 := putSt_ok k2 hput h2
              rw [← hd] at h3
              exact wp_value (execOp_value (by simp only [execOp, ho]) (h1 w)) (hn _ _ _ _ _ h ((putSt_fix hput).trans k4) h3 ⟨rfl, rfl, rfl, Nat.le_refl _, fun _ _ => rfl⟩ k1)
            · cases h
          · cases h
        · cases h
      · cases h
    · cases h
  · cases h
  rename_i c ho
  split at h
  rotate_left
  · cases h
  rename_i f0 l0 p0 hca0
  split at h
  rotate_left
  · cases h
  rename_i f1 caps1 q1 hop
  split at h
  rotate_left
  · cases h
  rename_i sig0 hsig0
  split at h
  rotate_left
  · cases h
  rename_i bs0 st10 p20 hpass0
  split at h
  rotate_left
  · cases h
  rename_i hemp
  unfold callK at h
  split at h
  · rename_i f l p hca
    rw [hca] at hca0
    simp only [Option.some.injEq, Prod.mk.injEq] at hca0
    obtain ⟨rfl, rfl, rfl⟩ := hca0
    have hff : f1 = f := by
      unfold callArgs at hca
      split at hca
      · rename_i y hcal
        rw [hcal] at hop
        simp only at hop
        rw [hop] at hca
        split at hca
        · rename_i f' caps' p1 l1 q h1 h2
          simp only [Option.some.injEq, Prod.mk.injEq] at h1 hca
          rw [← hca.1]
          have := h1.1
          injection this
        · cases hca
      · cases hca
    subst hff
    split at h
    · rename_i sig hsig
      rw [hsig] at hsig0
      simp only [Option.some.injEq] at hsig0
      subst hsig0
      split at h
      · rename_i bs st1 p2 hpass
        rw [hpass] at hpass0
        simp only [Option.some.injEq, Prod.mk.injEq] at hpass0
        obtain ⟨rfl, rfl, rfl⟩ := hpass0
        have hemp : AV.namess bs = [] := by simpa using hemp
        split at h
        · rename_i H hH
          have hH0 := heapIn_nil hemp hH
          split at h
          · rename_i hnm
            obtain ⟨hps, h⟩ := needs_some h
            obtain ⟨hcb, hok⟩ := hΦ f1 sig hsig
            obtain ⟨r, H', post, hfn, hk⟩ := hok.run _ _ _ _ _ h
            obtain ⟨vs, hm, hrun⟩ := callArgs_ok hc hca (fun x hx => hps x (List.mem_append.2 (.inl hx))) hcb o ho
            obtain ⟨S1, k1, k2, k3, k4, k5⟩ := passAVs_ok hc hpass (fun x hx => hps x (List.mem_append.2 (.inr hx))) hm
            obtain ⟨m1, m2, m3, _⟩ := handIn_ok k2 hnm hH k3
            refine wp_call (hrun w) ((hfn S1 w _ vs k2.slt (hΓ.now k2) m1 m2 m3).mono ?_)
            rintro e w' ⟨v, S', γ', rfl, hd⟩
            refine ⟨v, rfl, ?_⟩
            split at hk
            · rename_i st' r' hret
              split at hk
              · rename_i st'' hput
                obtain ⟨S2, γ2, g1, g2, g3, g4⟩ := retSt_more hc k2 k5 k1 hnm hH k3 hd hret
                have hbel : Below w.heap.size w w' := by
                  rw [hH0] at hd
                  exact done_below hd
                exact hn st'' _ _ S2 γ2 hk ((putSt_fix hput).trans g3) (putSt_ok g1 hput g2) hbel g4
              · cases hk
            · cases hk
          · cases h
        · cases h
      · cases h
    · cases h
  · cases h
theorem runE_any (hΓ : HCtx Γ w0 M S0) (hΦ : SigsOk Γ.P Γ.gl Φ) {ops : Array Oper} {bar : Oper → Bool} (hs : Region.noSelect ops = true) {softs : List Nat} {R : Type} {k : St → Option R} {x : R} {Q : Act → World → Prop} {fx : List (Nat × AV)}
    (hQ : ∀ st' a' w' S' γ', k st' = some x → st'.fix = fx → Core w0 M S0 S' γ' st' a' w' → Q a' w') : ∀ {l : List Nat} {listed : Array Bool} {st : St} {S : Nat → Prop} {γ : Nat → Value} {a : Act} {w : World}, Core w0 M S0 S γ st a w → st.fix = fx → Closed ops listed →
    floatB ops bar softs l listed = true → runE Γ Φ ops bar softs R l st k = some x → wpAnyF Γ.P ops (fun j w w' => (match ops[j]? with | some oj => !bar oj || softs.contains j | none => true) = true → Below w.heap.size w w') Q l.length listed a w := by
  intro l
  induction l with
  | nil =>
    intro listed st S γ a w hc hfx hcl hB h
    exact ⟨by simpa [floatB] using hB, hQ st a w S γ h hfx hc⟩
  | cons i r ih =>
    intro listed st S γ a w hc hfx hcl hB h
    simp only [floatB, Bool.and_eq_true] at hB
    obtain ⟨hB1, hB2⟩ := hB
    simp only [runE] at h
    cases hi : ops[i]? with
    | none => rw [hi] at h; cases h
    | some o =>
      rw [hi] at h hB1
      simp only [Bool.and_eq_true] at hB1 h
      obtain ⟨hg, hB1⟩ := hB1
      have hg : o.guard = none := by simpa using hg
      cases hbar : bar o with
      | true =>
        rw [hbar] at h hB1
        simp only [if_true, beq_iff_eq] at h hB1
        have hri : i ∈ Region.ready .any ops listed := by rw [hB1]; simp
        refine ⟨fun h0 => (by rw [hB1] at h0; cases h0), fun j hj => ?_⟩
        rw [hB1, List.mem_singleton] at hj
        subst hj
        unfold wpOp
        simp only [hi]
        rw [if_pos (by simp [Region.wanted, hg])]
        refine .inl ?_
        split at h
        · refine softK_ok hΓ hΦ hc h ?_
          intro st' a' w' S' γ' h1 h2 h3 h4 _
          exact ⟨fun _ => h4, ih h3 (h2.trans hfx) (hcl.set hri) hB2 h1⟩
        · rename_i hns
          refine stepK_op hΓ hΦ hc h ?_
          intro st' a' w' S' γ' h1 h2 h3
          refine ⟨fun hsf => ?_, ih h3 (h2.trans hfx) (hcl.set hri) hB2 h1⟩
          simp only [hbar, Bool.not_true, Bool.false_or] at hsf
          exact absurd hsf hns
      | false =>
        rw [hbar] at h hB1
        simp only [Bool.false_eq_true, if_false, Bool.and_eq_true] at h hB1
        obtain ⟨hr, hf, hj⟩ := hB1
        have hr : i ∈ Region.ready .any ops listed := by simpa using hr
        unfold valueK at h
        split at h
        · rename_i av p hav
          split at h
          · rename_i st1 hput
            obtain ⟨hps, h⟩ := needs_some h
            obtain ⟨rv, h1, h2⟩ := evOp_ok hΓ hc hav hps
            have hcore := putSt_ok hc hput h2
            have hrest := ih hcore ((putSt_fix hput).trans hfx) (hcl.set hr) hB2 h
            have hwant : Region.wanted o (yielded ops a.tmps) = true := by simp [Region.wanted, hg]
            by_cases hmv : moveOp o = true
            · have hall : ∀ w', (execOp a.eval o).run Γ.P w' = .ok (.value rv) w' := by
                have h0 := h1 w (SameAt.refl _ _ _ w)
                unfold moveOp at hmv
                split at hmv
                · rename_i y hop
                  simp only [execOp, hop, Sem.run_pure] at h0 ⊢
                  injection h0 with h0
                  intro w'
                  rw [h0]
                · rename_i y hop
                  simp only [execOp, hop, Sem.run_pure] at h0 ⊢
                  injection h0 with h0
                  intro w'
                  rw [h0]
                · cases hmv
              exact wpAnyF_first (C := fun _ => True) hi (Region.noSelect_spec hs) (L0 := listed) (fun _ _ _ _ _ _ _ _ _ _ _ => trivial) (fun w _ => ⟨rfl, rfl, rfl, Nat.le_refl _, fun _ _ => rfl⟩) r.length listed a w (fun _ h => h) (Region.free_spec hi hf) hcl hr (.inl ⟨hwant, fun w' _ => hall w'⟩) trivial hrest
            · rw [Bool.or_eq_true] at hj
              have hj := hj.resolve_left hmv
              simp only [List.all_eq_true, List.mem_range] at hj
              refine wpAnyF_first (C := fun w' => Below w.heap.size w w') hi (Region.noSelect_spec hs) (L0 := listed) ?_ (fun w _ => ⟨rfl, rfl, rfl, Nat.le_refl _, fun _ _ => rfl⟩) r.length listed a w (fun _ h => h) (Region.free_spec hi hf) hcl hr (.inl ⟨hwant, fun w' hw' => h1 w' (SameAt.of_old hc (sameOld_of hw'))⟩) ⟨rfl, rfl, rfl, Nat.le_refl _, fun _ _ => rfl⟩ hrest
              intro L hL hL0 hu j hjr hji w1 w2 hw1 hsf
              obtain ⟨_, oj, hoj, _⟩ := mem_ready.1 hjr
              have hjs : j < ops.size := (Array.getElem?_eq_some_iff.1 hoj).1
              have h5 := hj j hjs
              rw [hoj] at h5
              simp only [Bool.or_eq_true, Bool.not_eq_true'] at h5
              have hb : Below w1.heap.size w1 w2 := by
                apply hsf
                rw [hoj]
                simp only [Bool.or_eq_true, Bool.not_eq_true']
                rcases h5 with h5 | h5 | h5 | h5
                · exact .inl h5
                · exact .inr h5
                · exfalso
                  have := preds_listed hL hjr (acc := []) (fun k hk => by cases hk) i (by simpa using h5)
                  exact listed_not this hu
                · exact (listed_not (hL0 j h5) (mem_ready.1 hjr).1).elim
              exact hw1.trans ⟨hb.os, hb.tape, hb.output, hb.size, fun b hlt => hb.block b (Nat.lt_of_lt_of_le hlt hw1.size)⟩
          · cases h
        · cases h
def floatsB (ops : Array Oper) (bar : Oper → Bool) : Bool := Region.noSelect ops && (decide ((orderE ops bar ops.size (Array.replicate ops.size false)).length = ops.size) && floatB ops bar (softList ops bar) (orderE ops bar ops.size (Array.replicate ops.size false)) (Array.replicate ops.size false))
theorem runE_ok (hΓ : HCtx Γ w0 M S0) (hΦ : SigsOk Γ.P Γ.gl Φ) {ops : Array Oper} {bar : Oper → Bool} (hB : floatsB ops bar = true) {R : Type} {k : St → Option R} {x : R} {Q : Exit → Act → World → Prop} {id : Nat} (hc : Core w0 M S0 S γ st a w)
    (h : runE Γ Φ ops bar (softList ops bar) R (orderE ops bar ops.size (Array.replicate ops.size false)) st k = some x) (hQ : ∀ st' a' w' S' γ', k st' = some x → st'.fix = st.fix → Core w0 M S0 S' γ' st' a' w' → Q .normal a' w') : (Code.region id ops true).wp Γ.P Q a w := by
  simp only [floatsB, Bool.and_eq_true, decide_eq_true_eq] at hB
  refine wp_region_any hΓ.mixed ?_
  have hc' : Core w0 M S0 S γ st a { w with drawn := w.drawn + 1 } := hc.grown ⟨rfl, rfl, rfl, Nat.le_refl _, fun _ _ => rfl⟩
  have hcl : Closed ops (Array.replicate ops.size false) := by
    intro j oj _ hl
    simp [Array.getD_eq_getD_getElem?, Array.getElem?_replicate] at hl
    split at hl <;> simp at hl
  have := runE_any hΓ hΦ hB.1 (Q := fun a w => Q .normal a w) hQ hc' rfl hcl hB.2.2 h
  rw [hB.2.1] at this
  exact wpAny_of_F (fun _ _ h => h) _ _ _ _ this
end
end Go.Abs
