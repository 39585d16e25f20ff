/- Part of the proof of the law's row: YtlelhklalainfaaAbsR. -/
import Derived.Test.YtlelhklalainfaaAbsQ
import Derived.Lib.QuietBelow
set_option linter.all false
set_option linter.unusedVariables false
set_option linter.unusedSimpArgs false
namespace Go.Abs
open Go.RowKit

/-! ### Regions -/
/-- In a region that draws its order: an operation that writes nothing, or a call that gives plain data without slices. -/
def stepQuiet (Γ : Env) (Φ : Fns) (ops : List Oper) (st : St) (o : Oper) : Option (St × List Prop) :=
  match o.guard with
  | none => (match evOp Γ st o.op with
    | some (av, p) => if isAssign o.op && !av.pure then none else (match putSt st o.dst av with
      | some st' => some (st', p)
      | none => none)
    | none => (match o.op with
      | .call c => (match callArgs st c with
        | some (f, l, p) => (match get Φ f with
          | some spec => (match lendAVs st l with
            | some (bs, _, p2) => (match spec bs with
              | some (q, .data t x, none) => if t.flat then (match putSt st o.dst (.data t x) with
                  | some st' => some (st', p ++ (p2 ++ q))
                  | none => none) else none
              | _ => none)
            | none => none)
          | none => none)
        | none => none)
      | _ => none))
  | some (j, want) => (match guardAV st ops j want with
    | some G => (match evOp Γ st o.op with
      | some (av, p) => (match putSt st o.dst (.opt G av) with
        | some st' => some (st', p.map fun x => (G = true → x))
        | none => none)
      | none => (match o.op with
        | .call c => (match callArgs st c with
          | some (f, l, p) => (match get Φ f with
            | some spec => (match lendAVs st l with
              | some (bs, _, p2) => (match spec bs with
                | some (q, .data t x, none) => if t.flat then (match putSt st o.dst (.opt G (.data t x)) with
                    | some st' => some (st', (p ++ (p2 ++ q)).map fun x => (G = true → x))
                    | none => none) else none
                | _ => none)
              | none => none)
            | none => none)
          | none => none)
        | _ => none))
    | none => none)
def runQuiet (Γ : Env) (Φ : Fns) (ops : List Oper) : List Oper → St → Option (St × List Prop)
  | [], st => some (st, [])
  | o :: os, st => (match stepQuiet Γ Φ ops st o with
    | some (st1, p) => (match runQuiet Γ Φ ops os st1 with
      | some (st2, q) => some (st2, p ++ q)
      | none => none)
    | none => none)

section
variable {S : Nat → Prop} {w : World} {γ : Nat → Value} {Γ : Env} {Φ : Fns} {w0 : World} {M S0 : Nat → Prop} {st : St} {a : Act}
theorem opt_some {av : AV} {G : Bool} (hG : G = true) {v : Value} (h : Match S w γ av v) : Match S w γ (.opt G av) v := by
  simp only [Match]
  exact ⟨fun _ => h, fun h => by rw [hG] at h; cases h⟩
theorem opt_none {av : AV} {G : Bool} (hG : G = false) : Match S w γ (.opt G av) undef := by
  simp only [Match]
  refine ⟨fun h => ?_, ?_⟩
  · rw [hG] at h; cases h
  · simp
theorem stepOp_ok (hΓ : EnvOk Γ) (hΦ : FnsOk Γ.P Φ) (hc : Core w0 M S0 S γ st a w) {ops rest : List Oper} {o : Oper} {st' : St} {ps : List Prop} (h : stepOp Γ Φ ops st o = some (st', ps)) (hps : ∀ p ∈ ps, p) {Q : Exit → Act → World → Prop}
    (hn : ∀ a' w' S' γ', Core w0 M S0 S' γ' st' a' w' → wpList Γ.P ops.toArray Q rest a' w') : wpList Γ.P ops.toArray Q (o :: rest) a w := by
  refine wpList_step fun K hK => ?_
  have hn' : ∀ a' w' S' γ', Core w0 M S0 S' γ' st' a' w' → K a' w' := fun a' w' S' γ' hc' => hK _ _ (hn a' w' S' γ' hc')
  unfold stepOp at h
  split at h
  · rename_i hg
    rw [if_pos (by simp [Region.wanted, hg])]
    exact stepPlain_ok hΓ hΦ hc h hps hn'
  · rename_i j want hg
    split at h
    · rename_i G hgav
      have hwant := guardAV_ok hc hgav hg
      unfold stepGuarded at h
      split at h
      · rename_i av p hav
        split at h
        · rename_i st1 hput
          simp only [Option.some.injEq, Prod.mk.injEq] at h
          obtain ⟨rfl, rfl⟩ := h
          have hp : G = true → ∀ x ∈ p, x := fun hG x hx => hps (G = true → x) (List.mem_map.2 ⟨x, hx, rfl⟩) hG
          rw [hwant]
          cases hG : G with
          | true =>
            rw [if_pos rfl]
            obtain ⟨r, h1, h2⟩ := evOp_ok hΓ hc hav (hp hG)
            exact wp_value (h1 w (SameOld.refl w)) (hn' _ _ _ _ (putSt_ok hc hput (opt_some hG h2)))
          | false =>
            rw [if_neg (by simp)]
            exact hn' _ _ _ _ (putSt_ok hc hput (opt_none hG))
        · cases h
      · split at h
        · rename_i c ho
          split at h
          · rename_i f l p hca
            split at h
            · rename_i spec hsp
              split at h
              · rename_i bs stl p2 hlend
                split at h
                · rename_i q r hspec
                  split at h
                  · rename_i hflat
                    split at h
                    · rename_i st1 hput
                      simp only [Option.some.injEq, Prod.mk.injEq] at h
                      obtain ⟨rfl, rfl⟩ := h
                      have hpq : G = true → ∀ x ∈ p ++ (p2 ++ q), x := fun hG x hx => hps (G = true → x) (List.mem_map.2 ⟨x, hx, rfl⟩) hG
                      rw [hwant]
                      cases hG : G with
                      | true =>
                        rw [if_pos rfl]
                        have hpq := hpq hG
                        obtain ⟨hcb, hfo⟩ := hΦ f spec hsp
                        obtain ⟨vs, hm, hrun⟩ := callArgs_ok hc hca (fun x hx => hpq x (List.mem_append.2 (.inl hx))) hcb o ho
                        obtain ⟨S1, k1, k2, k3, k4, k5⟩ := lendAVs_ok hc hlend (fun x hx => hpq x (List.mem_append.2 (.inr (List.mem_append.2 (.inl hx))))) hm
                        refine wp_call (hrun w) ((hfo S1 w bs vs q r none k2.slt k4 (pures_any k4 k3) hspec (fun x hx => hpq x (List.mem_append.2 (.inr (List.mem_append.2 (.inr hx)))))).mono ?_)
                        rintro e w' ⟨v, S', hv, rfl, hb, h1, h2, h3, h4, _⟩
                        exact ⟨v, rfl, hn' _ _ S γ (putSt_ok (hc.grown hb) hput (opt_some hG (match_flat hflat h4)))⟩
                      | false =>
                        rw [if_neg (by simp)]
                        exact hn' _ _ _ _ (putSt_ok hc hput (opt_none hG))
                    · cases h
                  split at h
                  · rename_i hrp
                    split at h
                    · rename_i st1 hput
                      simp only [Option.some.injEq, Prod.mk.injEq] at h
                      obtain ⟨rfl, rfl⟩ := h
                      have hpq : G = true → ∀ x ∈ p ++ (p2 ++ q), x := fun hG x hx => hps (G = true → x) (List.mem_map.2 ⟨x, hx, rfl⟩) hG
                      rw [hwant]
                      cases hG : G with
                      | true =>
                        rw [if_pos rfl]
                        have hpq := hpq hG
                        obtain ⟨hcb, hfo⟩ := hΦ f spec hsp
                        obtain ⟨vs, hm, hrun⟩ := callArgs_ok hc hca (fun x hx => hpq x (List.mem_append.2 (.inl hx))) hcb o ho
                        obtain ⟨S1, k1, k2, k3, k4, k5⟩ := lendAVs_ok hc hlend (fun x hx => hpq x (List.mem_append.2 (.inr (List.mem_append.2 (.inl hx))))) hm
                        refine wp_call (hrun w) ((hfo S1 w bs vs q r none k2.slt k4 (pures_any k4 k3) hspec (fun x hx => hpq x (List.mem_append.2 (.inr (List.mem_append.2 (.inr hx)))))).mono ?_)
                        rintro e w' ⟨v, S', hv, rfl, hb, h1, h2, h3, h4, _⟩
                        exact ⟨v, rfl, hn' _ _ S' γ (putSt_ok (k2.grownS hb h1 h2 h3) hput (opt_some hG (pure_any hrp h4)))⟩
                      | false =>
                        obtain ⟨S1, k2⟩ := lendAVs_core hc hlend
                        rw [if_neg (by simp)]
                        exact hn' _ _ _ _ (putSt_ok k2 hput (opt_none hG))
                    · cases h
                  · cases h
                · cases h
              · cases h
            · cases h
          · cases h
        · cases h
    · cases h
theorem runOps_ok (hΓ : EnvOk Γ) (hΦ : FnsOk Γ.P Φ) {ops : List Oper} {Q : Exit → Act → World → Prop} : ∀ {l : List Oper} {st st' : St} {ps : List Prop} {S : Nat → Prop} {γ : Nat → Value} {a : Act} {w : World}, Core w0 M S0 S γ st a w → runOps Γ Φ ops l st = some (st', ps) → (∀ p ∈ ps, p) →
    (∀ a' w' S' γ', Core w0 M S0 S' γ' st' a' w' → Q .normal a' w') → wpList Γ.P ops.toArray Q l a w
  | [], st, st', ps, S, γ, a, w, hc, h, _, hQ => by
    simp only [runOps, Option.some.injEq, Prod.mk.injEq] at h
    obtain ⟨rfl, rfl⟩ := h
    exact hQ _ _ _ _ hc
  | o :: os, st, st', ps, S, γ, a, w, hc, h, hps, hQ => by
    unfold runOps at h
    split at h
    · rename_i st1 p hst
      split at h
      · rename_i st2 q hrest
        simp only [Option.some.injEq, Prod.mk.injEq] at h
        obtain ⟨rfl, rfl⟩ := h
        exact stepOp_ok hΓ hΦ hc hst (fun x hx => hps x (List.mem_append.2 (.inl hx))) (fun a' w' S' γ' hc' => runOps_ok hΓ hΦ hc' hrest (fun x hx => hps x (List.mem_append.2 (.inr hx))) hQ)
      · cases h
    · cases h

/-! A region that draws its order. -/
theorem sameOld_of {w w' : World} (h : Below w.heap.size w w') : SameOld w w' := h.block
/-- A call that gives plain data without slices, in any world that is the old one and more. -/
theorem quiet_call {f : FuncId} {spec : Spec} (hfo : FnOk Γ.P f spec) (hc : Core w0 M S0 S γ st a w) {l bs : List AV} {st1 : St} {p2 : List Prop} {vs : List Value} {q : List Prop} {t : Ty} {x : t.Den} (hlend : lendAVs st l = some (bs, st1, p2)) (hm : Matches S w γ l vs) (hspec : spec bs = some (q, .data t x, none)) (hq : ∀ p ∈ p2 ++ q, p) (hfl : t.flat = true) {w' : World} (hb : Below w.heap.size w w') :
    Calls Γ.P f vs.toArray w' fun e w'' => e = .returned (toVal t (flatCells t x)) ∧ Below w.heap.size w w'' := by
  have hag : Agree S w w' := fun b hS => hb.block b (hc.slt b hS)
  obtain ⟨S1, k1, k2, k3, k4, k5⟩ := lendAVs_ok (hc.grown hb) hlend (fun x hx => hq x (List.mem_append.2 (.inl hx))) (hm.mono (fun _ h => h) hag (fun _ _ => rfl))
  refine (hfo S1 w' bs vs q _ none k2.slt k4 (pures_any k4 k3) hspec (fun x hx => hq x (List.mem_append.2 (.inr hx)))).mono ?_
  rintro e w'' ⟨v, S', hv, rfl, hb', _, _, _, h4, _⟩
  obtain ⟨cs, hr, rfl⟩ := match_data.1 h4
  rw [flat_cells hfl hr]
  exact ⟨rfl, hb.trans ⟨hb'.os, hb'.tape, hb'.output, hb'.size, fun k hk => hb'.block k (Nat.lt_of_lt_of_le hk hb.size)⟩⟩
theorem quiet_value {P : Program} {o : Oper} {C : World → Prop} {K : Act → Prop} {r : Value} (hr : ∀ w', C w' → (execOp a.eval o).run P w' = .ok (.value r) w') (h : K (a.put o.dst r)) : o.quiet P a C K :=
  ⟨r, fun w' hw' => by unfold Oper.quietAt; rw [hr w' hw']; exact ⟨rfl, rfl⟩, h⟩
theorem quiet_enter {P : Program} {o : Oper} {C : World → Prop} {K : Act → Prop} {r : Value} {f : FuncId} {vs : Array Value} (hr : ∀ w', (execOp a.eval o).run P w' = .ok (.enter f vs) w') (hcall : ∀ w', C w' → Calls P f vs w' fun e w'' => e = .returned r ∧ C w'') (h : K (a.put o.dst r)) : o.quiet P a C K :=
  ⟨r, fun w' hw' => by unfold Oper.quietAt; rw [hr w']; exact ⟨rfl, hcall w' hw'⟩, h⟩
theorem stepQuiet_ok (hΓ : EnvOk Γ) (hΦ : FnsOk Γ.P Φ) (hc : Core w0 M S0 S γ st a w) {ops rest : List Oper} {o : Oper} {st' : St} {ps : List Prop} (h : stepQuiet Γ Φ ops st o = some (st', ps)) (hps : ∀ p ∈ ps, p) {Q : Act → Prop}
    (hn : ∀ a', Core w0 M S0 S γ st' a' w → wpQuiet Γ.P ops.toArray (fun w' => Below w.heap.size w w') Q rest a') : wpQuiet Γ.P ops.toArray (fun w' => Below w.heap.size w w') Q (o :: rest) a := by
  refine wpQuiet_step fun K hK => ?_
  have hn' : ∀ a', Core w0 M S0 S γ st' a' w → K a' := fun a' hc' => hK _ (hn a' hc')
  unfold stepQuiet at h
  split at h
  · rename_i hg
    rw [if_pos (by simp [Region.wanted, hg])]
    split at h
    · rename_i av p hav
      split at h
      · cases h
      · split at h
        · rename_i st1 hput
          simp only [Option.some.injEq, Prod.mk.injEq] at h
          obtain ⟨rfl, rfl⟩ := h
          obtain ⟨r, h1, h2⟩ := evOp_ok hΓ hc hav hps
          exact quiet_value (fun w' hw' => h1 w' (sameOld_of hw')) (hn' _ (putSt_ok hc hput h2))
        · cases h
    · split at h
      · rename_i c ho
        split at h
        · rename_i f l p hca
          split at h
          · rename_i spec hsp
            split at h
            · rename_i bs stl p2 hlend
              split at h
              · rename_i q t x hspec
                split at h
                · rename_i hfl
                  split at h
                  · rename_i st1 hput
                    simp only [Option.some.injEq, Prod.mk.injEq] at h
                    obtain ⟨rfl, rfl⟩ := h
                    obtain ⟨hcb, hfo⟩ := hΦ f spec hsp
                    obtain ⟨vs, hm, hrun⟩ := callArgs_ok hc hca (fun x hx => hps x (List.mem_append.2 (.inl hx))) hcb o ho
                    exact quiet_enter hrun (fun w' hw' => quiet_call hfo hc hlend hm hspec (fun x hx => hps x (List.mem_append.2 (.inr hx))) hfl hw') (hn' _ (putSt_ok hc hput (match_data.2 ⟨_, flat_rep hfl, rfl⟩)))
                  · cases h
                · cases h
              · cases h
            · cases h
          · cases h
        · cases h
      · cases h
  · rename_i j want hg
    split at h
    · rename_i G hgav
      have hwant := guardAV_ok hc hgav hg
      split at h
      · rename_i av p hav
        split at h
        · rename_i st1 hput
          simp only [Option.some.injEq, Prod.mk.injEq] at h
          obtain ⟨rfl, rfl⟩ := h
          have hp : G = true → ∀ x ∈ p, x := fun hG x hx => hps (G = true → x) (List.mem_map.2 ⟨x, hx, rfl⟩) hG
          rw [hwant]
          cases hG : G with
          | true =>
            rw [if_pos rfl]
            obtain ⟨r, h1, h2⟩ := evOp_ok hΓ hc hav (hp hG)
            exact quiet_value (fun w' hw' => h1 w' (sameOld_of hw')) (hn' _ (putSt_ok hc hput (opt_some hG h2)))
          | false =>
            rw [if_neg (by simp)]
            exact hn' _ (putSt_ok hc hput (opt_none hG))
        · cases h
      · split at h
        · rename_i c ho
          split at h
          · rename_i f l p hca
            split at h
            · rename_i spec hsp
              split at h
              · rename_i bs stl p2 hlend
                split at h
                · rename_i q t x hspec
                  split at h
                  · rename_i hfl
                    split at h
                    · rename_i st1 hput
                      simp only [Option.some.injEq, Prod.mk.injEq] at h
                      obtain ⟨rfl, rfl⟩ := h
                      have hpq : G = true → ∀ x ∈ p ++ (p2 ++ q), x := fun hG x hx => hps (G = true → x) (List.mem_map.2 ⟨x, hx, rfl⟩) hG
                      rw [hwant]
                      cases hG : G with
                      | true =>
                        rw [if_pos rfl]
                        have hpq := hpq hG
                        obtain ⟨hcb, hfo⟩ := hΦ f spec hsp
                        obtain ⟨vs, hm, hrun⟩ := callArgs_ok hc hca (fun x hx => hpq x (List.mem_append.2 (.inl hx))) hcb o ho
                        exact quiet_enter hrun (fun w' hw' => quiet_call hfo hc hlend hm hspec (fun x hx => hpq x (List.mem_append.2 (.inr hx))) hfl hw') (hn' _ (putSt_ok hc hput (opt_some hG (match_data.2 ⟨_, flat_rep hfl, rfl⟩))))
                      | false =>
                        rw [if_neg (by simp)]
                        exact hn' _ (putSt_ok hc hput (opt_none hG))
                    · cases h
                  · cases h
                · cases h
              · cases h
            · cases h
          · cases h
        · cases h
    · cases h
theorem runQuiet_ok (hΓ : EnvOk Γ) (hΦ : FnsOk Γ.P Φ) {ops : List Oper} {Q : Act → Prop} : ∀ {l : List Oper} {st st' : St} {ps : List Prop} {a : Act}, Core w0 M S0 S γ st a w → runQuiet Γ Φ ops l st = some (st', ps) → (∀ p ∈ ps, p) →
    (∀ a', Core w0 M S0 S γ st' a' w → Q a') → wpQuiet Γ.P ops.toArray (fun w' => Below w.heap.size w w') Q l a
  | [], st, st', ps, a, hc, h, _, hQ => by
    simp only [runQuiet, Option.some.injEq, Prod.mk.injEq] at h
    obtain ⟨rfl, rfl⟩ := h
    exact hQ _ hc
  | o :: os, st, st', ps, a, hc, h, hps, hQ => by
    unfold runQuiet at h
    split at h
    · rename_i st1 p hst
      split at h
      · rename_i st2 q hrest
        simp only [Option.some.injEq, Prod.mk.injEq] at h
        obtain ⟨rfl, rfl⟩ := h
        exact stepQuiet_ok hΓ hΦ hc hst (fun x hx => hps x (List.mem_append.2 (.inl hx))) (fun a' hc' => runQuiet_ok hΓ hΦ hc' hrest (fun x hx => hps x (List.mem_append.2 (.inr hx))) hQ)
      · cases h
    · cases h
end

/-! ### Code -/
/-- Of every frame and world of which the state tells the truth: the code comes to 'Q'. -/
def AW (Γ : Env) (w0 : World) (M S0 : Nat → Prop) (c : Code) (Q : Exit → St → Prop) (st : St) : Prop :=
  ∀ a w, Sat w0 M S0 st a w → c.wp Γ.P (fun e a' w' => ∃ st', Q e st' ∧ Sat w0 M S0 st' a' w') a w
/-- What the one state tells the other tells, too. -/
def Le (st st' : St) : Prop := ∀ w0 M S0 a w, Sat w0 M S0 st a w → Sat w0 M S0 st' a w
theorem Le.refl (st : St) : Le st st := fun _ _ _ _ _ h => h
theorem Le.trans {a b c : St} (h : Le a b) (k : Le b c) : Le a c := fun w0 M S0 x w hx => k w0 M S0 x w (h w0 M S0 x w hx)
theorem Le.rename (st : St) (s d : Nat) : Le st (st.rename s d) := fun _ _ _ _ _ ⟨S, _, h⟩ => by
  obtain ⟨γ', h1, _⟩ := h.rename s d
  exact ⟨S, γ', h1⟩
/-- Less is told. -/
theorem Le.drop {st : St} {slots : List (Nat × AV)} {heap : List (Nat × Ob)} {nt : Nat} (h1 : ∀ p ∈ slots, get st.slots p.1 = some p.2) (h2 : ∀ p ∈ heap, get st.heap p.1 = some p.2) (h3 : st.nt = nt) : Le st ⟨slots, heap, nt⟩ := by
  have mem : ∀ {α : Type} {l : List (Nat × α)} {i : Nat} {v : α}, get l i = some v → (i, v) ∈ l := by
    intro α l
    induction l with
    | nil => intro i v h; simp [get] at h
    | cons p l ih =>
      intro i v h
      obtain ⟨k, u⟩ := p
      simp only [get] at h
      split at h
      · rename_i e
        simp only [Option.some.injEq] at h
        subst e h
        exact List.mem_cons_self ..
      · exact List.mem_cons_of_mem _ (ih h)
  rintro w0 M S0 a w ⟨S, γ, h⟩
  refine ⟨S, γ, h.os, h.tape, h.output, h.size, h.old, h.s0, h.sold, h.slt, ?_, ?_, ?_, h.defers, h.nt.trans h3⟩
  · exact fun i av hi => h.slot i av (h1 _ (mem hi))
  · exact fun s o hs => h.obj s o (h2 _ (mem hs))
  · exact fun s s' o o' hs hs' => h.dis s s' o o' (h2 _ (mem hs)) (h2 _ (mem hs'))
def thenQ (next : St → Prop) (Q : Exit → St → Prop) : Exit → St → Prop
  | .normal, st => next st
  | e, st => Q e st
def blockQ (id : Nat) (Q : Exit → St → Prop) : Exit → St → Prop
  | .exit id', st => if id' = id then Q .normal st else Q (.exit id') st
  | e, st => Q e st
section
variable {Γ : Env} {Φ : Fns} {w0 : World} {M S0 : Nat → Prop} {st : St} {Q : Exit → St → Prop}
theorem AW.le {c : Code} {st' : St} (hle : Le st st') (h : AW Γ w0 M S0 c Q st') : AW Γ w0 M S0 c Q st := fun a w hs => h a w (hle _ _ _ _ _ hs)
theorem AW.mono {c : Code} {Q' : Exit → St → Prop} (h : AW Γ w0 M S0 c Q st) (hq : ∀ e st, Q e st → Q' e st) : AW Γ w0 M S0 c Q' st := fun a w hs =>
  wp_mono (h a w hs) fun e a' w' ⟨st', h1, h2⟩ => ⟨st', hq _ _ h1, h2⟩
theorem aw_skip (h : Q .normal st) : AW Γ w0 M S0 .skip Q st := fun _ _ hs => Go.wp_skip ⟨st, h, hs⟩
theorem aw_ret (h : Q .ret st) : AW Γ w0 M S0 .ret Q st := fun _ _ hs => wp_ret ⟨st, h, hs⟩
theorem aw_exit {id : Nat} (h : Q (.exit id) st) : AW Γ w0 M S0 (.exit id) Q st := fun _ _ hs => wp_exit ⟨st, h, hs⟩
theorem aw_label {l : Nat} (h : Q .normal st) : AW Γ w0 M S0 (.label l) Q st := fun _ _ hs => wp_label ⟨st, h, hs⟩
theorem aw_seq {x y : Code} (h : AW Γ w0 M S0 x (thenQ (AW Γ w0 M S0 y Q) Q) st) : AW Γ w0 M S0 (.seq x y) Q st := fun a w hs => by
  refine wp_seq (wp_mono (h a w hs) ?_)
  rintro e a' w' ⟨st', h1, h2⟩
  cases e with
  | normal => exact h1 a' w' h2
  | _ => exact ⟨st', h1, h2⟩
theorem aw_block {id : Nat} {c : Code} (h : AW Γ w0 M S0 c (blockQ id Q) st) : AW Γ w0 M S0 (.block id c) Q st := fun a w hs => by
  refine wp_block (wp_mono (h a w hs) ?_)
  rintro e a' w' ⟨st', h1, h2⟩
  cases e with
  | exit id' =>
    simp only [Exit.inBlock]
    simp only [blockQ] at h1
    split
    · rename_i e; rw [if_pos e] at h1; exact ⟨st', h1, h2⟩
    · rename_i e; rw [if_neg e] at h1; exact ⟨st', h1, h2⟩
  | _ => exact ⟨st', h1, h2⟩
theorem aw_cond {c : Operand} {x y : Code} {b : Bool} {p : List Prop} (hc : opd st c = some (.data .bool b, p)) (hp : ∀ q ∈ p, q) (ht : b = true → AW Γ w0 M S0 x Q st) (hf : b = false → AW Γ w0 M S0 y Q st) : AW Γ w0 M S0 (.cond c x y) Q st := fun a w hs => by
  obtain ⟨S, γ, h⟩ := hs
  have := match_bool.1 (opd_ok h hc hp)
  exact wp_cond_split this (fun e => ht e a w ⟨S, γ, h⟩) (fun e => hf e a w ⟨S, γ, h⟩)
theorem aw_region (hΓ : EnvOk Γ) (hΦ : FnsOk Γ.P Φ) {id : Nat} {ops : Array Oper} {l : List Oper} {st' : St} {ps : List Prop} (hl : ops.toList = l) (h : runOps Γ Φ l l st = some (st', ps)) (hps : ∀ p ∈ ps, p) (hQ : Q .normal st') : AW Γ w0 M S0 (.region id ops false) Q st := fun a w hs => by
  obtain ⟨S, γ, hc⟩ := hs
  have he : ops = l.toArray := by rw [← hl]
  subst he
  refine wp_region_lit (runOps_ok hΓ hΦ hc h hps ?_)
  exact fun a' w' S' γ' hc' => ⟨st', hQ, S', γ', hc'⟩
theorem aw_draw (hΓ : EnvOk Γ) (hΦ : FnsOk Γ.P Φ) {id : Nat} {ops : Array Oper} {l : List Oper} {st' : St} {ps : List Prop} (hl : ops.toList = l) (hB : Region.lexB .any ops = true) (h : runQuiet Γ Φ l l st = some (st', ps)) (hps : ∀ p ∈ ps, p) (hQ : Q .normal st') : AW Γ w0 M S0 (.region id ops true) Q st := fun a w hs => by
  obtain ⟨S, γ, hc⟩ := hs
  have he : ops = l.toArray := by rw [← hl]
  subst he
  refine wp_region_quiet (C := fun w' => Below w.heap.size w w') hΓ.mixed hB ⟨rfl, rfl, rfl, Nat.le_refl _, fun _ _ => rfl⟩ ?_
  simp only
  refine runQuiet_ok hΓ hΦ hc h hps ?_
  exact fun a' hc' w' hw' => ⟨st', hQ, S, γ, hc'.grown hw'⟩
theorem least_of {p : Nat → Prop} (h : ∃ n, p n) : ∃ n, p n ∧ ∀ m, p m → n ≤ m := by
  classical
  obtain ⟨n, hn⟩ := h
  induction n using Nat.strongRecOn with
  | _ n ih =>
    by_cases hex : ∃ m, m < n ∧ p m
    · obtain ⟨m, hm, hp⟩ := hex
      exact ih m hm hp
    · refine ⟨n, hn, fun m hp => ?_⟩
      rcases Nat.lt_or_ge m n with h | h
      · exact absurd ⟨m, h, hp⟩ hex
      · exact h
theorem aw_loop {body : Code} {σ : Type} (inv : σ → St) (μ : σ → Nat) (x0 : σ) (h0 : Le st (inv x0))
    (round : ∀ x, AW Γ w0 M S0 body (thenQ (fun st' => ∃ x', Le st' (inv x') ∧ μ x' < μ x) Q) (inv x)) : AW Γ w0 M S0 (.loop body) Q st := fun a w hs => by
  classical
  let R : Act → World → Nat → Prop := fun a w n => ∃ x, Sat w0 M S0 (inv x) a w ∧ μ x = n
  let m : Act → World → Nat := fun a w => if h : ∃ n, R a w n then Classical.choose (least_of h) else 0
  refine wp_loop (fun a w => ∃ x, Sat w0 M S0 (inv x) a w) m ⟨x0, h0 _ _ _ _ _ hs⟩ ?_
  rintro a w ⟨x1, hx1⟩
  have hex : ∃ n, R a w n := ⟨μ x1, x1, hx1, rfl⟩
  have hm : m a w = Classical.choose (least_of hex) := by simp only [m]; rw [dif_pos hex]
  obtain ⟨⟨x, hx, hmx⟩, _⟩ := Classical.choose_spec (least_of hex)
  refine wp_mono (round x a w hx) ?_
  rintro e a' w' ⟨st', h1, h2⟩
  cases e with
  | normal =>
    obtain ⟨x', hle, hlt⟩ := h1
    have hs' := hle _ _ _ _ _ h2
    refine ⟨⟨x', hs'⟩, ?_⟩
    have hex' : ∃ n, R a' w' n := ⟨μ x', x', hs', rfl⟩
    have : m a' w' ≤ μ x' := by
      simp only [m]
      rw [dif_pos hex']
      exact (Classical.choose_spec (least_of hex')).2 _ ⟨x', hs', rfl⟩
    rw [hm, ← hmx]
    omega
  | _ => exact ⟨st', h1, h2⟩
end
end Go.Abs
