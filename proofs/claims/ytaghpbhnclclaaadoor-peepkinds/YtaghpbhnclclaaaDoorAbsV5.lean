/- Part of the proof of the law's row: YtaghpbhnclclaaaDoorAbsV5. -/
import Derived.Test.YtaghpbhnclclaaaDoorAbsV4
set_option linter.all false
set_option linter.unusedVariables false
set_option linter.unusedSimpArgs false
/-! Drawing regions in which several barriers are ready at once: every order must lead to the same. -/
namespace Go.Abs
open Go.RowKit
section
variable {P : Program} {ops : Array Oper}
theorem alloc_below {T : TypeId} {x r : Value} {w w' : World} (h : (Instr.alloc T true x).run P w = .ok r w') : Below w.heap.size w w' := by
  cases hi : P.info? T with
  | none => simp [Instr.alloc, zeroValue, typeInfo, hi] at h
  | some i =>
    cases hz : i.zero with
    | none => simp [Instr.alloc, zeroValue, typeInfo, hi, hz] at h
    | some z =>
      simp [Instr.alloc, zeroValue, typeInfo, hi, hz, newVar, newRow] at h
      obtain ⟨_, rfl⟩ := h
      exact (Below.refl _ w).alloc (Nat.le_refl _) _
theorem extract_any {u v : Value} {k : Nat} {w : World} (h : (Instr.extract u k).run P w = .ok v w) (w' : World) : (Instr.extract u k).run P w' = .ok v w' := by
  cases u with
  | tuple vs =>
    cases hk : vs[k]? with
    | none => simp [Instr.extract, hk] at h
    | some z =>
      simp [Instr.extract, hk] at h ⊢
      exact h
  | _ => simp [Instr.extract] at h
/-- What asks nothing of the heap. -/
def moveOp2 (o : Oper) : Bool := match o.op with
  | .move _ => true
  | .assign _ => true
  | .extract _ _ => true
  | _ => false
def softList2 (ops : Array Oper) (bar : Oper → Bool) : List Nat := (List.range ops.size).filter fun j => match ops[j]? with
  | some oj => bar oj && ((List.range ops.size).any fun i => match ops[i]? with
    | some oi => !bar oi && (!moveOp2 oi && (!(Region.preds ops j j []).contains i && !(Region.preds ops i i []).contains j))
    | none => false)
  | none => false
def plainB (ops : Array Oper) (bar : Oper → Bool) (softs : List Nat) (listed : Array Bool) (i : Nat) (o : Oper) : Bool := o.guard.isNone && (Region.free .any ops listed i &&
        (moveOp2 o || (List.range ops.size).all fun j => match ops[j]? with
          | some oj => !bar oj || (softs.contains j || ((Region.preds ops j j []).contains i || listed.getD j false))
          | none => true))
noncomputable def softK2 (Γ : Env) (Φ : Sigs) (R : Type) (st : St) (o : Oper) (k : St → Option R) : Option R :=
  match o.op, o.dst with
  | .alloc T, some d => (match absAlloc Γ st d T with
    | some (st', _) => k (adoptRcd (adoptCell Γ st' d T) d)
    | none => none)
  | _, _ => softK Γ Φ R st o k
noncomputable def allB {R : Type} : List Nat → (Nat → Option R) → Option R
  | [], _ => none
  | j :: r, f => (match r with
    | [] => f j
    | _ :: _ => both (f j) (allB r f))
noncomputable def runT (Γ : Env) (Φ : Sigs) (ops : Array Oper) (bar : Oper → Bool) (softs : List Nat) (R : Type) : Nat → Array Bool → St → (St → Option R) → Option R
  | 0, listed, st, k => if (Region.ready .any ops listed).isEmpty then k st else none
  | n + 1, listed, st, k => (match Region.ready .any ops listed with
    | [] => k st
    | j0 :: r0 => (match (j0 :: r0).find? (fun i => match ops[i]? with | some o => !bar o | none => false) with
      | some i => (match ops[i]? with
        | some o => if plainB ops bar softs listed i o then valueK Γ R st o fun st' => runT Γ Φ ops bar softs R n (listed.setIfInBounds i true) st' k else none
        | none => none)
      | none => allB (j0 :: r0) fun j => match ops[j]? with
        | some o => if o.guard.isNone then (if softs.contains j then softK2 Γ Φ R st o fun st' => runT Γ Φ ops bar softs R n (listed.setIfInBounds j true) st' k
            else stepK Γ Φ R st o fun st' => runT Γ Φ ops bar softs R n (listed.setIfInBounds j true) st' k) else none
        | none => none))
theorem allB_some {R : Type} {f : Nat → Option R} {x : R} : ∀ {l : List Nat}, allB l f = some x → ∀ j ∈ l, f j = some x
  | [], _, j, hj => by cases hj
  | i :: r, h, j, hj => by
    unfold allB at h
    split at h
    · simp only [List.mem_singleton] at hj
      subst hj
      exact h
    · unfold both at h
      split at h
      · rename_i e
        rcases List.mem_cons.1 hj with rfl | hj
        · exact h
        · exact allB_some (e ▸ h) j hj
      · cases h
end
section
variable {Γ : Env} {Φ : Sigs} {w0 : World} {M S0 : Nat → Prop} {S : Nat → Prop} {γ : Nat → Value} {st : St} {a : Act} {w : World}
theorem softK2_ok (hΓ : HCtx Γ w0 M S0) (hΦ : SigsOk Γ.P Γ.gl Φ) (hc : Core w0 M S0 S γ st a w) {o : Oper} {R : Type} {k : St → Option R} {x : R} (h : softK2 Γ Φ R st o k = some x) {next : Act → World → Prop} {Q : Exit → Act → World → Prop}
    (hn : ∀ st' a' w' S' γ', k st' = some x → st'.fix = st.fix → Core w0 M S0 S' γ' st' a' w' → Below w.heap.size w w' → next a' w') : o.wp Γ.P a w next Q := by
  unfold softK2 at h
  split at h
  · rename_i T d ho hd
    split at h
    · rename_i st1 p hst
      obtain ⟨r, w', γ', h1, h2⟩ := absAlloc_ok hΓ.toEnvOk hc hst
      obtain ⟨γ2, h3⟩ := adoptCell_ok (Γ := Γ) h2 d T
      obtain ⟨⟨γ3, h4⟩, _⟩ := adoptRcd_ok h3 d
      rw [← hd] at h4
      exact wp_value (execOp_value (by simp only [execOp, ho]) h1) (hn _ _ _ _ _ h (adoptRcd_fix.trans (adoptCell_fix.trans (absAlloc_fix hst))) h4 (alloc_below h1))
    · cases h
  · exact softK_ok hΓ hΦ hc h hn
theorem runT_any (hΓ : HCtx Γ w0 M S0) (hΦ : SigsOk Γ.P Γ.gl Φ) {ops : Array Oper} {bar : Oper → Bool} (hs : Region.noSelect ops = true) {softs : List Nat} {R : Type} {k : St → Option R} {x : R} {Q : Act → World → Prop} {fx : List (Nat × AV)}
    (hQ : ∀ st' a' w' S' γ', k st' = some x → st'.fix = fx → Core w0 M S0 S' γ' st' a' w' → Q a' w') : ∀ {n : Nat} {listed : Array Bool} {st : St} {S : Nat → Prop} {γ : Nat → Value} {a : Act} {w : World}, Core w0 M S0 S γ st a w → st.fix = fx → Closed ops listed →
    runT Γ Φ ops bar softs R n listed st k = some x → wpAnyF Γ.P ops (fun j => match ops[j]? with | some oj => !bar oj || softs.contains j | none => true) Q n listed a w := by
  intro n
  induction n with
  | zero =>
    intro listed st S γ a w hc hfx hcl h
    simp only [runT] at h
    split at h
    · rename_i hB
      exact ⟨by simpa using hB, hQ st a w S γ h hfx hc⟩
    · cases h
  | succ n ih =>
    intro listed st S γ a w hc hfx hcl h
    simp only [runT] at h
    split at h
    · rename_i hB
      exact ⟨fun _ => hQ st a w S γ h hfx hc, fun j hj => by rw [hB] at hj; cases hj⟩
    · rename_i j0 r0 hB
      split at h
      · rename_i i hfi
        split at h
        rotate_left
        · cases h
        rename_i o hi
        split at h
        rotate_left
        · cases h
        rename_i hpl
        simp only [plainB, Bool.and_eq_true] at hpl
        obtain ⟨hg, hf, hj⟩ := hpl
        have hg : o.guard = none := by simpa using hg
        have hr : i ∈ Region.ready .any ops listed := by rw [hB]; exact List.mem_of_find?_eq_some hfi
        unfold valueK at h
        split at h
        · rename_i av p hav
          split at h
          · rename_i st1 hput
            obtain ⟨hps, h⟩ := needs_some h
            obtain ⟨rv, h1, h2⟩ := evOp_ok hΓ hc hav hps
            have hcore := putSt_ok hc hput h2
            have hrest := ih hcore ((putSt_fix hput).trans hfx) (hcl.set hr) h
            have hwant : Region.wanted o (yielded ops a.tmps) = true := by simp [Region.wanted, hg]
            by_cases hmv : moveOp2 o = true
            · have hall : ∀ w', (execOp a.eval o).run Γ.P w' = .ok (.value rv) w' := by
                have h0 := h1 w (SameOld.refl w)
                unfold moveOp2 at hmv
                split at hmv
                · rename_i y hop
                  simp only [execOp, hop, Sem.run_pure] at h0 ⊢
                  injection h0 with h0
                  intro w'
                  rw [h0]
                · rename_i y hop
                  simp only [execOp, hop, Sem.run_pure] at h0 ⊢
                  injection h0 with h0
                  intro w'
                  rw [h0]
                · rename_i y kk hop
                  intro w'
                  refine execOp_value (s := Instr.extract (a.eval y) kk) (by simp only [execOp, hop]) ?_
                  refine extract_any (w := w) ?_ w'
                  have e0 : execOp a.eval o = (do pure (.value (← Instr.extract (a.eval y) kk))) := by simp only [execOp, hop]
                  rw [e0, Sem.run_bind] at h0
                  cases hs : (Instr.extract (a.eval y) kk).run Γ.P w with
                  | ok v w2 =>
                    rw [hs] at h0
                    injection h0 with e1 e2
                    injection e1 with e1
                    rw [e1, e2]
                  | halt z w2 => rw [hs] at h0; cases h0
                · cases hmv
              exact wpAnyF_first (C := fun _ => True) hi (Region.noSelect_spec hs) (L0 := listed) (fun _ _ _ _ _ _ _ _ _ _ _ => trivial) n listed a w (fun _ h => h) (Region.free_spec hi hf) hcl hr (.inl ⟨hwant, fun w' _ => hall w'⟩) trivial hrest
            · rw [Bool.or_eq_true] at hj
              have hj := hj.resolve_left hmv
              simp only [List.all_eq_true, List.mem_range] at hj
              refine wpAnyF_first (C := fun w' => Below w.heap.size w w') hi (Region.noSelect_spec hs) (L0 := listed) ?_ n listed a w (fun _ h => h) (Region.free_spec hi hf) hcl hr (.inl ⟨hwant, fun w' hw' => h1 w' (sameOld_of hw')⟩) ⟨rfl, rfl, rfl, Nat.le_refl _, fun _ _ => rfl⟩ hrest
              intro L hL hL0 hu j hjr hji w1 w2 hw1 hsf
              obtain ⟨_, oj, hoj, _⟩ := mem_ready.1 hjr
              have hjs : j < ops.size := (Array.getElem?_eq_some_iff.1 hoj).1
              have h5 := hj j hjs
              rw [hoj] at h5
              simp only [Bool.or_eq_true, Bool.not_eq_true'] at h5
              have hb : Below w1.heap.size w1 w2 := by
                apply hsf
                rw [hoj]
                simp only [Bool.or_eq_true, Bool.not_eq_true']
                rcases h5 with h5 | h5 | h5 | h5
                · exact .inl h5
                · exact .inr h5
                · exfalso
                  have := preds_listed hL hjr (acc := []) (fun k hk => by cases hk) i (by simpa using h5)
                  exact listed_not this hu
                · exact (listed_not (hL0 j h5) (mem_ready.1 hjr).1).elim
              exact hw1.trans ⟨hb.os, hb.tape, hb.output, hb.size, fun b hlt => hb.block b (Nat.lt_of_lt_of_le hlt hw1.size)⟩
          · cases h
        · cases h
      · rename_i hnone
        have hbar : ∀ j ∈ Region.ready .any ops listed, ∀ o, ops[j]? = some o → bar o = true := by
          intro j hj o ho
          rw [hB] at hj
          have := List.find?_eq_none.1 hnone j hj
          rw [ho] at this
          simpa using this
        refine ⟨fun h0 => (by rw [hB] at h0; cases h0), fun j hj => ?_⟩
        have hj' := hj
        rw [hB] at hj'
        have h := allB_some h j hj'
        split at h
        rotate_left
        · cases h
        rename_i o hi
        split at h
        rotate_left
        · cases h
        rename_i hg
        have hg : o.guard = none := by simpa using hg
        unfold wpOp
        simp only [hi]
        rw [if_pos (by simp [Region.wanted, hg])]
        refine .inl ?_
        split at h
        · refine softK2_ok hΓ hΦ hc h ?_
          intro st' a' w' S' γ' h1 h2 h3 h4
          exact ⟨fun _ => h4, ih h3 (h2.trans hfx) (hcl.set hj) h1⟩
        · rename_i hns
          refine stepK_op hΓ hΦ hc h ?_
          intro st' a' w' S' γ' h1 h2 h3
          refine ⟨fun hsf => ?_, ih h3 (h2.trans hfx) (hcl.set hj) h1⟩
          simp only [hbar j hj o hi, Bool.not_true, Bool.false_or] at hsf
          exact absurd hsf hns
theorem runT_ok (hΓ : HCtx Γ w0 M S0) (hΦ : SigsOk Γ.P Γ.gl Φ) {ops : Array Oper} {bar : Oper → Bool} (hB : Region.noSelect ops = true) {R : Type} {k : St → Option R} {x : R} {Q : Exit → Act → World → Prop} {id : Nat} (hc : Core w0 M S0 S γ st a w)
    (h : runT Γ Φ ops bar (softList2 ops bar) R ops.size (Array.replicate ops.size false) st k = some x) (hQ : ∀ st' a' w' S' γ', k st' = some x → st'.fix = st.fix → Core w0 M S0 S' γ' st' a' w' → Q .normal a' w') : (Code.region id ops true).wp Γ.P Q a w := by
  refine wp_region_any hΓ.mixed ?_
  have hc' : Core w0 M S0 S γ st a { w with drawn := w.drawn + 1 } := hc.grown ⟨rfl, rfl, rfl, Nat.le_refl _, fun _ _ => rfl⟩
  have hcl : Closed ops (Array.replicate ops.size false) := by
    intro j oj _ hl
    simp [Array.getD_eq_getD_getElem?, Array.getElem?_replicate] at hl
    split at hl <;> simp at hl
  have := runT_any hΓ hΦ hB (Q := fun a w => Q .normal a w) hQ hc' rfl hcl h
  exact wpAny_of_F (fun _ _ h => h) _ _ _ _ this
end
end Go.Abs
