/- Part of the proof of the law's row: YtnoeomlanbdjeaaAbsV5. -/
import Derived.Test.YtnoeomlanbdjeaaAbsV4
set_option linter.all false
set_option linter.unusedVariables false
set_option linter.unusedSimpArgs false
/-! Drawing regions in which several barriers are ready at once: every order must lead to the same. -/
namespace Go.Abs
open Go.RowKit
section
variable {P : Program} {ops : Array Oper}
theorem alloc_below {T : TypeId} {x r : Value} {w w' : World} (h : (Instr.alloc T true x).run P w = .ok r w') : Below w.heap.size w w' := by
  cases hi : P.info? T with
  | none => simp [Instr.alloc, zeroValue, typeInfo, hi] at h
  | some i =>
    cases hz : i.zero with
    | none => simp [Instr.alloc, zeroValue, typeInfo, hi, hz] at h
    | some z =>
      simp [Instr.alloc, zeroValue, typeInfo, hi, hz, newVar, newRow] at h
      obtain ⟨_, rfl⟩ := h
      exact (Below.refl _ w).alloc (Nat.le_refl _) _
theorem extract_any {u v : Value} {k : Nat} {w : World} (h : (Instr.extract u k).run P w = .ok v w) (w' : World) : (Instr.extract u k).run P w' = .ok v w' := by
  cases u with
  | tuple vs =>
    cases hk : vs[k]? with
    | none => simp [Instr.extract, hk] at h
    | some z =>
      simp [Instr.extract, hk] at h ⊢
      exact h
  | _ => simp [Instr.extract] at h
/-- What asks nothing of the heap. -/
def moveOp2 (o : Oper) : Bool := match o.op with
  | .move _ => true
  | .assign _ => true
  | .extract _ _ => true
  | _ => false
def softList2 (ops : Array Oper) (bar : Oper → Bool) : List Nat := (List.range ops.size).filter fun j => match ops[j]? with
  | some oj => bar oj && ((List.range ops.size).any fun i => match ops[i]? with
    | some oi => !bar oi && (!moveOp2 oi && (!(Region.preds ops j j []).contains i && !(Region.preds ops i i []).contains j))
    | none => false)
  | none => false
def plainB (ops : Array Oper) (bar : Oper → Bool) (softs : List Nat) (listed : Array Bool) (i : Nat) (o : Oper) : Bool := o.guard.isNone && (Region.free .any ops listed i &&
        (moveOp2 o || (List.range ops.size).all fun j => match ops[j]? with
          | some oj => !bar oj || (softs.contains j || ((Region.preds ops j j []).contains i || listed.getD j false))
          | none => true))
noncomputable def softK2 (Γ : Env) (Φ : Sigs) (R : Type) (st : St) (o : Oper) (k : St → Option R) : Option R :=
  match o.op, o.dst with
  | .alloc T, some d => (match absAlloc Γ st d T with
    | some (st', _) => k (adoptRcd (adoptCell Γ st' d T) d)
    | none => none)
  | _, _ => softK Γ Φ R st o k
noncomputable def allB {R : Type} : List Nat → (Nat → Option R) → Option R
  | [], _ => none
  | j :: r, f => (match r with
    | [] => f j
    | _ :: _ => both (f j) (allB r f))
def Ob.still : Ob → Bool
  | .row _ _ _ f => f
  | .map _ _ _ _ _ f => f
  | _ => false
/-- What is written no more. -/
def St.still (st : St) : St := { st with heap := st.heap.map fun p => (p.1, if p.2.still then p.2 else .dead) }
/-- A read of what is written no more. -/
noncomputable def stillK (Γ : Env) (R : Type) (st : St) (o : Oper) (k : St → Option R) : Option R :=
  match evOp Γ st.still o.op with
  | some (av, p) => (match putSt st o.dst av with
    | some st' => needs p (k st')
    | none => none)
  | none => none
noncomputable def namK (Γ : Env) (Φ : Sigs) (R : Type) (st : St) (o : Oper) (k : St → Option R) : Option R :=
  match o.op with
  | .call c => callK Φ R st c o.dst k
  | .store T x y => (match o.dst, opd st x, opd st y with
    | none, some (a, p), some (b, p') => (match absStore Γ st T a b with
      | some (st', q) => needs (p ++ (p' ++ q)) (k st')
      | none => none)
    | _, _, _ => none)
  | _ => none
/-- A store that is told by its place. -/
def storeNam (Γ : Env) (o : Oper) : Bool := match o.op with
  | .store _ (.tmp t) _ => Γ.nam.contains (100000 + t)
  | _ => false
/-- The calls that are handed variables, and stores into variables that are told by their places. -/
def namList (Γ : Env) (ops : Array Oper) : List Nat := (List.range ops.size).filter fun j => match ops[j]? with
  | some oj => (match oj.dst with
    | some d => Γ.nam.contains d
    | none => storeNam Γ oj)
  | none => false
/-- 'ph': no barrier yet (0), none but soft ones (1), others (2). -/
noncomputable def runT (Γ : Env) (Φ : Sigs) (ops : Array Oper) (bar : Oper → Bool) (softs nams : List Nat) (R : Type) : Nat → Nat → Array Bool → St → (St → Option R) → Option R
  | _, 0, listed, st, k => if (Region.ready .any ops listed).isEmpty then k st else none
  | ph, n + 1, listed, st, k => (match Region.ready .any ops listed with
    | [] => k st
    | j0 :: r0 => (match (j0 :: r0).find? (fun i => match ops[i]? with | some o => !bar o | none => false) with
      | some i => (match ops[i]? with
        | some o => if plainB ops bar softs listed i o then valueK Γ R st o fun st' => runT Γ Φ ops bar softs nams R ph n (listed.setIfInBounds i true) st' k
            else if Nat.beq ph 0 && plainB ops bar (softs ++ nams) listed i o then stillK Γ R st o fun st' => runT Γ Φ ops bar softs nams R ph n (listed.setIfInBounds i true) st' k else none
        | none => none)
      | none => allB (j0 :: r0) fun j => match ops[j]? with
        | some o => if o.guard.isNone then (if nams.contains j then (if Nat.beq ph 2 then none else namK Γ Φ R st o fun st' => runT Γ Φ ops bar softs nams R 1 n (listed.setIfInBounds j true) st' k)
            else if softs.contains j then softK2 Γ Φ R st o fun st' => runT Γ Φ ops bar softs nams R (if Nat.beq ph 2 then 2 else 1) n (listed.setIfInBounds j true) st' k
            else stepK Γ Φ R st o fun st' => runT Γ Φ ops bar softs nams R 2 n (listed.setIfInBounds j true) st' k) else none
        | none => none))
theorem allB_some {R : Type} {f : Nat → Option R} {x : R} : ∀ {l : List Nat}, allB l f = some x → ∀ j ∈ l, f j = some x
  | [], _, j, hj => by cases hj
  | i :: r, h, j, hj => by
    unfold allB at h
    split at h
    · simp only [List.mem_singleton] at hj
      subst hj
      exact h
    · unfold both at h
      split at h
      · rename_i e
        rcases List.mem_cons.1 hj with rfl | hj
        · exact h
        · exact allB_some (e ▸ h) j hj
      · cases h
end
section
variable {Γ : Env} {Φ : Sigs} {w0 : World} {M S0 : Nat → Prop} {S : Nat → Prop} {γ : Nat → Value} {st : St} {a : Act} {w : World}
theorem softK2_ok (hΓ : HCtx Γ w0 M S0) (hΦ : SigsOk Γ.P Γ.gl Φ) (hc : Core w0 M S0 S γ st a w) {o : Oper} {R : Type} {k : St → Option R} {x : R} (h : softK2 Γ Φ R st o k = some x) {next : Act → World → Prop} {Q : Exit → Act → World → Prop}
    (hn : ∀ st' a' w' S' γ', k st' = some x → st'.fix = st.fix → Core w0 M S0 S' γ' st' a' w' → Below w.heap.size w w' → (∀ b, S b → S' b) → next a' w') : o.wp Γ.P a w next Q := by
  unfold softK2 at h
  split at h
  · rename_i T d ho hd
    split at h
    · rename_i st1 p hst
      obtain ⟨r, w', γ', h1, h2⟩ := absAlloc_ok hΓ.toEnvOk hc hst
      obtain ⟨γ2, h3⟩ := adoptCell_ok (Γ := Γ) h2 d T
      obtain ⟨⟨γ3, h4⟩, _⟩ := adoptRcd_ok h3 d
      rw [← hd] at h4
      exact wp_value (execOp_value (by simp only [execOp, ho]) h1) (hn _ _ _ _ _ h (adoptRcd_fix.trans (adoptCell_fix.trans (absAlloc_fix hst))) h4 (alloc_below h1) (fun _ h => h))
    · cases h
  · exact softK_ok hΓ hΦ hc h hn
theorem still_core (hc : Core w0 M S0 S γ st a w) : Core w0 M S0 S γ st.still a w := by
  have key : ∀ s o, get st.still.heap s = some o → o.live = true → get st.heap s = some o := by
    intro s o hs hl
    obtain ⟨u, h1, h2⟩ := get_map (f := fun x : Ob => if x.still then x else .dead) hs
    split at h2
    · rw [h2]; exact h1
    · subst h2; cases hl
  refine ⟨hc.os, hc.tape, hc.output, hc.size, hc.old, hc.s0, hc.sold, hc.slt, hc.slot, ?_, ?_, hc.defers, hc.nt, hc.fixs⟩
  · intro s o hs
    cases hl : o.live with
    | false => cases o <;> first | (cases hl; done) | exact ⟨trivial, fun h => by cases h⟩
    | true => exact ⟨(hc.obj s o (key s o hs hl)).1, fun _ => (hc.obj s o (key s o hs hl)).2 hl⟩
  · exact fun s s' o o' h1 h2 l1 l2 => hc.dis s s' o o' (key s o h1 l1) (key s' o' h2 l2) l1 l2
/-- What is written no more is read alike wherever what is read is as it was. -/
theorem still_same (hc : Core w0 M S0 S γ st a w) {w' : World} (h : ∀ b, S b → w'.heap[b]? = w.heap[b]?) : SameAt S γ st.still w w' := by
  rintro b (hb | ⟨s, o, h1, h2, h3⟩)
  · exact h b hb
  · refine h b ?_
    obtain ⟨u, k1, k2⟩ := get_map (f := fun x : Ob => if x.still then x else .dead) h1
    split at k2
    · rename_i hst
      subst k2
      have g1 := (hc.obj s o k1).1
      cases o with
      | row e t xs f => exact (g1.2 b h3).2 hst
      | map k0 e tk te l f => exact (g1.2 b h3).2 hst
      | _ => cases hst
    · subst k2; cases h2
theorem namK_ok (hΓ : HCtx Γ w0 M S0) (hΦ : SigsOk Γ.P Γ.gl Φ) (hc : Core w0 M S0 S γ st a w) {o : Oper} {R : Type} {k : St → Option R} {x : R} (h : namK Γ Φ R st o k = some x) {next : Act → World → Prop} {Q : Exit → Act → World → Prop}
    (hn : ∀ st' a' w' S' γ', k st' = some x → st'.fix = st.fix → Core w0 M S0 S' γ' st' a' w' → (w.heap.size ≤ w'.heap.size ∧ (∀ b, S b → w'.heap[b]? = w.heap[b]?)) → (∀ b, S b → S' b) → next a' w') : o.wp Γ.P a w next Q := by
  unfold namK at h
  split at h
  · rename_i c ho
    exact callK_more hΓ hΦ hc ho h hn
  · rename_i T x y ho
    split at h
    · rename_i b p b' p' hd hb hb'
      split at h
      · rename_i st1 q hst
        obtain ⟨hps, h⟩ := needs_some h
        obtain ⟨w', h1, h2, h3, h4⟩ := absStore_more hΓ.toEnvOk hc hst (fun z hz => hps z (by simp [hz])) (opd_ok hc hb (fun z hz => hps z (by simp [hz]))) (opd_ok hc hb' (fun z hz => hps z (by simp [hz])))
        refine wp_skip (w' := w') ?_ (hn st1 _ w' S γ h (absStore_fix hst) ?_ ⟨h3, h4⟩ (fun _ h => h))
        · simp only [execOp, ho]
          rw [Sem.run_bind, h1]
          rfl
        · rw [hd]; exact h2
      · cases h
    · cases h
  · cases h
/-- What an operation leaves alone. -/
def softRel (ops : Array Oper) (bar : Oper → Bool) (softs nams : List Nat) (Sf : Nat → Prop) (j : Nat) (w w' : World) : Prop :=
  ((match ops[j]? with | some oj => !bar oj || (softs.contains j && !nams.contains j) | none => true) = true → Below w.heap.size w w') ∧
  (nams.contains j = true → w.heap.size ≤ w'.heap.size ∧ ∀ b, Sf b → w'.heap[b]? = w.heap[b]?)
theorem plainB_mono {ops : Array Oper} {bar : Oper → Bool} {softs nams : List Nat} {listed : Array Bool} {i : Nat} {o : Oper} (h : plainB ops bar softs listed i o = true) : o.guard = none ∧ Region.free .any ops listed i = true ∧ (moveOp2 o = true ∨ ∀ j, j < ops.size → ∀ oj, ops[j]? = some oj → bar oj = false ∨ softs.contains j = true ∨ (Region.preds ops j j []).contains i = true ∨ listed.getD j false = true) := by
  simp only [plainB, Bool.and_eq_true, Bool.or_eq_true, List.all_eq_true, List.mem_range] at h
  obtain ⟨h1, h2, h3⟩ := h
  refine ⟨by simpa using h1, h2, h3.imp (fun h => h) (fun h j hj oj hoj => ?_)⟩
  have := h j hj
  rw [hoj] at this
  simpa only [Bool.or_eq_true, Bool.not_eq_true'] using this
theorem move_all {o : Oper} {rv : Value} (hmv : moveOp2 o = true) {P : Program} (h0 : (execOp a.eval o).run P w = .ok (.value rv) w) : ∀ w', (execOp a.eval o).run P w' = .ok (.value rv) w' := by
  unfold moveOp2 at hmv
  split at hmv
  · rename_i y hop
    simp only [execOp, hop, Sem.run_pure] at h0 ⊢
    injection h0 with h0
    intro w'
    rw [h0]
  · rename_i y hop
    simp only [execOp, hop, Sem.run_pure] at h0 ⊢
    injection h0 with h0
    intro w'
    rw [h0]
  · rename_i y kk hop
    intro w'
    refine execOp_value (s := Instr.extract (a.eval y) kk) (by simp only [execOp, hop]) ?_
    refine extract_any (w := w) ?_ w'
    have e0 : execOp a.eval o = (do pure (.value (← Instr.extract (a.eval y) kk))) := by simp only [execOp, hop]
    rw [e0, Sem.run_bind] at h0
    cases hs : (Instr.extract (a.eval y) kk).run P w with
    | ok v w2 =>
      rw [hs] at h0
      injection h0 with e1 e2
      injection e1 with e1
      rw [e1, e2]
    | halt z w2 => rw [hs] at h0; cases h0
  · cases hmv
theorem runT_any (hΓ : HCtx Γ w0 M S0) (hΦ : SigsOk Γ.P Γ.gl Φ) {ops : Array Oper} {bar : Oper → Bool} (hs : Region.noSelect ops = true) {softs nams : List Nat} {R : Type} {k : St → Option R} {x : R} {Q : Act → World → Prop} {fx : List (Nat × AV)} {Sf : Nat → Prop} {m0 : Nat} (hSf : ∀ b, Sf b → b < m0)
    (hdisj : ∀ j, nams.contains j = true → softs.contains j = false)
    (hQ : ∀ st' a' w' S' γ', k st' = some x → st'.fix = fx → Core w0 M S0 S' γ' st' a' w' → Q a' w') : ∀ {n ph : Nat} {listed : Array Bool} {st : St} {S : Nat → Prop} {γ : Nat → Value} {a : Act} {w : World}, Core w0 M S0 S γ st a w → st.fix = fx → Closed ops listed → (ph = 0 → m0 ≤ w.heap.size) → (ph ≠ 2 → ∀ b, Sf b → S b) → (ph = 0 → ∀ b, S b → Sf b) →
    runT Γ Φ ops bar softs nams R ph n listed st k = some x → wpAnyF Γ.P ops (softRel ops bar softs nams Sf) Q n listed a w := by
  intro n
  have hself : ∀ j w, softRel ops bar softs nams Sf j w w := fun j w => ⟨fun _ => ⟨rfl, rfl, rfl, Nat.le_refl _, fun _ _ => rfl⟩, fun _ => ⟨Nat.le_refl _, fun _ _ => rfl⟩⟩
  induction n with
  | zero =>
    intro ph listed st S γ a w hc hfx hcl hm0 hp1 hp0 h
    simp only [runT] at h
    split at h
    · rename_i hB
      exact ⟨by simpa using hB, hQ st a w S γ h hfx hc⟩
    · cases h
  | succ n ih =>
    intro ph listed st S γ a w hc hfx hcl hm0 hp1 hp0 h
    simp only [runT] at h
    split at h
    · rename_i hB
      exact ⟨fun _ => hQ st a w S γ h hfx hc, fun j hj => by rw [hB] at hj; cases hj⟩
    · rename_i j0 r0 hB
      split at h
      · rename_i i hfi
        split at h
        rotate_left
        · cases h
        rename_i o hi
        have hr : i ∈ Region.ready .any ops listed := by rw [hB]; exact List.mem_of_find?_eq_some hfi
        split at h
        · rename_i hpl
          obtain ⟨hg, hf, hj⟩ := plainB_mono (nams := nams) hpl
          unfold valueK at h
          split at h
          · rename_i av p hav
            split at h
            · rename_i st1 hput
              obtain ⟨hps, h⟩ := needs_some h
              obtain ⟨rv, h1, h2⟩ := evOp_ok hΓ hc hav hps
              have hcore := putSt_ok hc hput h2
              have hrest := ih hcore ((putSt_fix hput).trans hfx) (hcl.set hr) hm0 hp1 hp0 h
              have hwant : Region.wanted o (yielded ops a.tmps) = true := by simp [Region.wanted, hg]
              rcases hj with hmv | hj
              · have hall := move_all hmv (h1 w (SameAt.refl _ _ _ w))
                exact wpAnyF_first (C := fun _ => True) hi (Region.noSelect_spec hs) (L0 := listed) (fun _ _ _ _ _ _ _ _ _ _ _ => trivial) (hself i) n listed a w (fun _ h => h) (Region.free_spec hi hf) hcl hr (.inl ⟨hwant, fun w' _ => hall w'⟩) trivial hrest
              · refine wpAnyF_first (C := fun w' => Below w.heap.size w w') hi (Region.noSelect_spec hs) (L0 := listed) ?_ (hself i) n listed a w (fun _ h => h) (Region.free_spec hi hf) hcl hr (.inl ⟨hwant, fun w' hw' => h1 w' (SameAt.of_old hc (sameOld_of hw'))⟩) ⟨rfl, rfl, rfl, Nat.le_refl _, fun _ _ => rfl⟩ hrest
                intro L hL hL0 hu j hjr hji w1 w2 hw1 hsf
                obtain ⟨_, oj, hoj, _⟩ := mem_ready.1 hjr
                have hjs : j < ops.size := (Array.getElem?_eq_some_iff.1 hoj).1
                have hb : Below w1.heap.size w1 w2 := by
                  apply hsf.1
                  rw [hoj]
                  simp only [Bool.or_eq_true, Bool.not_eq_true', Bool.and_eq_true]
                  rcases hj j hjs oj hoj with h5 | h5 | h5 | h5
                  · exact .inl h5
                  · refine .inr ⟨h5, ?_⟩
                    cases hnj : nams.contains j with
                    | false => rfl
                    | true => rw [hdisj j hnj] at h5; cases h5
                  · exfalso
                    have := preds_listed hL hjr (acc := []) (fun k hk => by cases hk) i (by simpa using h5)
                    exact listed_not this hu
                  · exact (listed_not (hL0 j h5) (mem_ready.1 hjr).1).elim
                exact hw1.trans ⟨hb.os, hb.tape, hb.output, hb.size, fun b hlt => hb.block b (Nat.lt_of_lt_of_le hlt hw1.size)⟩
            · cases h
          · cases h
        · split at h
          rotate_left
          · cases h
          rename_i hpl
          rw [Bool.and_eq_true] at hpl
          have hph : ph = 0 := Nat.eq_of_beq_eq_true hpl.1
          obtain ⟨hg, hf, hj⟩ := plainB_mono (nams := nams) hpl.2
          unfold stillK at h
          split at h
          · rename_i av p hav
            split at h
            · rename_i st1 hput
              obtain ⟨hps, h⟩ := needs_some h
              obtain ⟨rv, h1, h2⟩ := evOp_ok hΓ (still_core hc) hav hps
              have hcore := putSt_ok hc hput h2
              have hrest := ih hcore ((putSt_fix hput).trans hfx) (hcl.set hr) hm0 hp1 hp0 h
              have hwant : Region.wanted o (yielded ops a.tmps) = true := by simp [Region.wanted, hg]
              rcases hj with hmv | hj
              · have hall := move_all hmv (h1 w (SameAt.refl _ _ _ w))
                exact wpAnyF_first (C := fun _ => True) hi (Region.noSelect_spec hs) (L0 := listed) (fun _ _ _ _ _ _ _ _ _ _ _ => trivial) (hself i) n listed a w (fun _ h => h) (Region.free_spec hi hf) hcl hr (.inl ⟨hwant, fun w' _ => hall w'⟩) trivial hrest
              · refine wpAnyF_first (C := fun w' => m0 ≤ w'.heap.size ∧ ∀ b, Sf b → w'.heap[b]? = w.heap[b]?) hi (Region.noSelect_spec hs) (L0 := listed) ?_ (hself i) n listed a w (fun _ h => h) (Region.free_spec hi hf) hcl hr (.inl ⟨hwant, fun w' hw' => h1 w' (still_same hc (fun b hb => hw'.2 b (hp0 hph b hb)))⟩) ⟨hm0 hph, fun _ _ => rfl⟩ hrest
                intro L hL hL0 hu j hjr hji w1 w2 hw1 hsf
                obtain ⟨_, oj, hoj, _⟩ := mem_ready.1 hjr
                have hjs : j < ops.size := (Array.getElem?_eq_some_iff.1 hoj).1
                have viaB : Below w1.heap.size w1 w2 → m0 ≤ w2.heap.size ∧ ∀ b, Sf b → w2.heap[b]? = w.heap[b]? := fun hb =>
                  ⟨Nat.le_trans hw1.1 hb.size, fun b hb' => (hb.block b (Nat.lt_of_lt_of_le (hSf b hb') hw1.1)).trans (hw1.2 b hb')⟩
                cases hnj : nams.contains j with
                | true =>
                  obtain ⟨q1, q2⟩ := hsf.2 hnj
                  exact ⟨Nat.le_trans hw1.1 q1, fun b hb => (q2 b hb).trans (hw1.2 b hb)⟩
                | false =>
                  refine viaB (hsf.1 ?_)
                  rw [hoj]
                  simp only [Bool.or_eq_true, Bool.not_eq_true', Bool.and_eq_true]
                  rcases hj j hjs oj hoj with h5 | h5 | h5 | h5
                  · exact .inl h5
                  · refine .inr ⟨?_, hnj⟩
                    have h6 : j ∈ softs ∨ j ∈ nams := by simpa using h5
                    have h7 : j ∉ nams := by simpa using hnj
                    simpa using h6.resolve_right h7
                  · exfalso
                    have := preds_listed hL hjr (acc := []) (fun k hk => by cases hk) i (by simpa using h5)
                    exact listed_not this hu
                  · exact (listed_not (hL0 j h5) (mem_ready.1 hjr).1).elim
            · cases h
          · cases h
      · rename_i hnone
        have hbar : ∀ j ∈ Region.ready .any ops listed, ∀ o, ops[j]? = some o → bar o = true := by
          intro j hj o ho
          rw [hB] at hj
          have := List.find?_eq_none.1 hnone j hj
          rw [ho] at this
          simpa using this
        refine ⟨fun h0 => (by rw [hB] at h0; cases h0), fun j hj => ?_⟩
        have hj' := hj
        rw [hB] at hj'
        have h := allB_some h j hj'
        split at h
        rotate_left
        · cases h
        rename_i o hi
        split at h
        rotate_left
        · cases h
        rename_i hg
        have hg : o.guard = none := by simpa using hg
        unfold wpOp
        simp only [hi]
        rw [if_pos (by simp [Region.wanted, hg])]
        refine .inl ?_
        split at h
        · rename_i hnj
          split at h
          · cases h
          · rename_i hph
            have hph : ph ≠ 2 := fun e => hph (by rw [e]; rfl)
            refine namK_ok hΓ hΦ hc h ?_
            intro st' a' w' S' γ' h1 h2 h3 h4 h5
            refine ⟨⟨fun hsf => ?_, fun _ => ⟨h4.1, fun b hb => h4.2 b (hp1 hph b hb)⟩⟩, ih h3 (h2.trans hfx) (hcl.set hj) (fun e => by cases e) (fun _ b hb => h5 b (hp1 hph b hb)) (fun e => by cases e) h1⟩
            simp only [hi, hbar j hj o hi, Bool.not_true, Bool.false_or, hnj, Bool.and_false, Bool.false_eq_true] at hsf
        · rename_i hnn
          have hnn : nams.contains j = false := by simpa using hnn
          split at h
          · refine softK2_ok hΓ hΦ hc h ?_
            intro st' a' w' S' γ' h1 h2 h3 h4 h5
            refine ⟨⟨fun _ => h4, fun e => (by rw [hnn] at e; cases e)⟩, ih h3 (h2.trans hfx) (hcl.set hj) (fun e => ?_) (fun hne b hb => h5 b (hp1 (fun e => hne (by rw [e]; rfl)) b hb)) (fun e => ?_) h1⟩
            · split at e <;> cases e
            · split at e <;> cases e
          · rename_i hns
            refine stepK_op hΓ hΦ hc h ?_
            intro st' a' w' S' γ' h1 h2 h3
            refine ⟨⟨fun hsf => ?_, fun e => (by rw [hnn] at e; cases e)⟩, ih h3 (h2.trans hfx) (hcl.set hj) (fun e => by cases e) (fun hne => absurd rfl hne) (fun e => by cases e) h1⟩
            simp only [hi, hbar j hj o hi, Bool.not_true, Bool.false_or, Bool.and_eq_true] at hsf
            exact absurd hsf.1 hns
theorem runT_ok (hΓ : HCtx Γ w0 M S0) (hΦ : SigsOk Γ.P Γ.gl Φ) {ops : Array Oper} {bar : Oper → Bool} (hB : Region.noSelect ops = true) {R : Type} {k : St → Option R} {x : R} {Q : Exit → Act → World → Prop} {id : Nat} (hc : Core w0 M S0 S γ st a w)
    (h : runT Γ Φ ops bar ((softList2 ops bar).filter fun j => !(namList Γ ops).contains j) (namList Γ ops) R 0 ops.size (Array.replicate ops.size false) st k = some x) (hQ : ∀ st' a' w' S' γ', k st' = some x → st'.fix = st.fix → Core w0 M S0 S' γ' st' a' w' → Q .normal a' w') : (Code.region id ops true).wp Γ.P Q a w := by
  refine wp_region_any hΓ.mixed ?_
  have hc' : Core w0 M S0 S γ st a { w with drawn := w.drawn + 1 } := hc.grown ⟨rfl, rfl, rfl, Nat.le_refl _, fun _ _ => rfl⟩
  have hcl : Closed ops (Array.replicate ops.size false) := by
    intro j oj _ hl
    simp [Array.getD_eq_getD_getElem?, Array.getElem?_replicate] at hl
    split at hl <;> simp at hl
  have := runT_any (Sf := S) (m0 := w.heap.size) hΓ hΦ hB (fun b hb => hc.slt b hb) (fun j hj => by
    have hj : j ∈ namList Γ ops := by simpa using hj
    simp [hj]) (Q := fun a w => Q .normal a w) hQ hc' rfl hcl (fun _ => Nat.le_refl _) (fun _ _ h => h) (fun _ _ h => h) h
  exact wpAny_of_F (fun _ _ h => h) _ _ _ _ this
end
end Go.Abs
