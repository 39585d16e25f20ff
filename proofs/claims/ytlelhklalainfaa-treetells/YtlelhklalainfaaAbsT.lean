/- Part of the proof of the law's row: YtlelhklalainfaaAbsT. -/
import Derived.Test.YtlelhklalainfaaAbsR
set_option linter.all false
set_option linter.unusedVariables false
set_option linter.unusedSimpArgs false
namespace Go.Abs
open Go.RowKit

def single : List AV → AV
  | [v] => v
  | vs => .tup vs
def finAVs (st : St) : List ResultVar → Option (List AV)
  | [] => some []
  | .tmp t :: rs => (match get st.slots t, finAVs st rs with
    | some v, some vs => some (v :: vs)
    | _, _ => none)
  | .cell _ _ :: _ => none
def finPure (st : St) (rs : List ResultVar) : Option (AV × List Prop) :=
  match finAVs st rs with
  | some vs => (match pureAVs st vs with
    | some (bs, _, ps) => some (single bs, ps)
    | none => none)
  | none => none
def own0 : List AV → Option (List AV × Nat)
  | [] => none
  | .own s t off n :: vs => if AV.pures vs then some (.own 0 t off n :: vs, s) else none
  | v :: vs => if v.pure then (match own0 vs with
    | some (us, s) => some (v :: us, s)
    | none => none) else none
def finOwn (st : St) (rs : List ResultVar) : Option (AV × Ob) :=
  match finAVs st rs with
  | some vs => (match own0 vs with
    | some (us, s) => (match get st.heap s with
      | some (.row e t xs false) => some (single us, .row e t xs false)
      | _ => none)
    | none => none)
  | none => none
/-- What a function ends with. -/
def Fin (rs : List ResultVar) (r : AV) (ob : Option Ob) (e : Exit) (st : St) : Prop :=
  (e = .ret ∨ e = .normal) ∧ match ob with
    | none => ∃ r' ps, finPure st rs = some (r', ps) ∧ (∀ p ∈ ps, p) ∧ r' = r
    | some o => ∃ r' o', finOwn st rs = some (r', o') ∧ r' = r ∧ o' = o
def argSlots : List AV → Nat → List (Nat × AV)
  | [], _ => []
  | v :: vs, i => (i, v) :: argSlots vs (i + 1)
def initSt (args : List AV) (nt : Nat) : St := ⟨argSlots args 0, [], nt⟩
section
variable {S : Nat → Prop} {w : World} {γ : Nat → Value} {Γ : Env} {Φ : Fns} {w0 : World} {M S0 : Nat → Prop} {st : St} {a : Act}
theorem get_argSlots {args : List AV} : ∀ {k i : Nat} {av : AV}, get (argSlots args k) i = some av → k ≤ i ∧ args[i - k]? = some av := by
  induction args with
  | nil => intro k i av h; simp [argSlots, get] at h
  | cons v vs ih =>
    intro k i av h
    simp only [argSlots, get] at h
    by_cases hik : i = k
    · rw [if_pos hik] at h
      subst hik
      exact ⟨Nat.le_refl _, by simpa using h⟩
    · rw [if_neg hik] at h
      obtain ⟨h1, h2⟩ := ih h
      refine ⟨by omega, ?_⟩
      rw [show i - k = (i - (k + 1)) + 1 by omega, List.getElem?_cons_succ]
      exact h2
theorem Matches.length : ∀ {l : List AV} {vs : List Value}, Matches S w γ l vs → l.length = vs.length
  | [], vs, h => by simp only [Matches] at h; subst h; rfl
  | x :: l, vs, h => by
    simp only [Matches] at h
    obtain ⟨u, us, rfl, _, h2⟩ := h
    simp [Matches.length h2]
theorem init_ok {args : List AV} {vs : List Value} {nt : Nat} (hS : ∀ b, S b → b < w.heap.size) (hm : Matches S w γ args vs) (hn : vs.length ≤ nt) :
    Core w (fun _ => False) S S γ (initSt args nt) { tmps := vs.toArray ++ Array.replicate (nt - vs.toArray.size) undef, defers := [] } w := by
  refine ⟨rfl, rfl, rfl, Nat.le_refl _, fun _ _ _ => rfl, fun _ h => h, fun _ h _ => .inl h, hS, ?_, ?_, ?_, rfl, ?_⟩
  · intro i av hi
    obtain ⟨_, h2⟩ := get_argSlots hi
    rw [Nat.sub_zero] at h2
    obtain ⟨u, h3, h4⟩ := matches_get hm h2
    have hlt : i < vs.length := (List.getElem?_eq_some_iff.1 h3).1
    have : (vs.toArray ++ Array.replicate (nt - vs.toArray.size) undef).getD i undef = u := by
      rw [Array.getD_eq_getD_getElem?, Array.getElem?_append_left (by simpa using hlt), List.getElem?_toArray, h3]
      rfl
    rw [this]
    exact h4
  · intro s o hs
    simp [initSt, get] at hs
  · intro s s' o o' hs
    simp [initSt, get] at hs
  · simp [initSt]
    omega
def valSingle : List Value → Value
  | [v] => v
  | vs => .tuple vs.toArray
theorem match_single : ∀ {l : List AV} {vs : List Value}, Matches S w γ l vs → Match S w γ (single l) (valSingle vs)
  | [], vs, h => by
    simp only [Matches] at h
    subst h
    simp only [single, valSingle, Match]
    exact ⟨[], rfl, by simp only [Matches]⟩
  | [x], vs, h => by
    simp only [Matches] at h
    obtain ⟨u, us, rfl, h1, rfl⟩ := h
    exact h1
  | x :: y :: l, vs, h => by
    have h0 := h
    simp only [Matches] at h
    obtain ⟨u, us, rfl, h1, u2, us2, rfl, h2⟩ := h
    simp only [single, valSingle, Match]
    exact ⟨_, rfl, h0⟩
def rv (tmps : Array Value) : ResultVar → Value
  | .tmp t => tmps.getD t undef
  | .cell _ _ => undef
def rvS (tmps : Array Value) : ResultVar → Sem Value
  | .tmp t => pure (tmps.getD t undef)
  | .cell a t => do loadVar t (← asAddr (tmps.getD a undef))
theorem results_run {P : Program} {fn : Func} {tmps : Array Value} {rs : List ResultVar} (hr : fn.results.toList = rs) (hall : ∀ r ∈ rs, ∃ t, r = .tmp t) : (results fn tmps).run P w = .ok (valSingle (rs.map (rv tmps))) w := by
  have he : fn.results = rs.toArray := Array.toList_inj.1 (by simpa using hr)
  have key : ∀ (rs : List ResultVar), (∀ r ∈ rs, ∃ t, r = .tmp t) → ∀ w, (rs.mapM (rvS tmps)).run P w = .ok (rs.map (rv tmps)) w := by
    intro rs
    induction rs with
    | nil => intro _ w; rfl
    | cons r rs ih =>
      intro h w
      obtain ⟨t, rfl⟩ := h r (List.mem_cons_self ..)
      simp only [List.mapM_cons, Sem.run_bind, rvS, Sem.run_pure, Result.andThen_ok, ih (fun r' h' => h r' (List.mem_cons_of_mem _ h')) w, List.map_cons, rv]
  have e1 : results fn tmps = (do
      let vs ← fn.results.mapM (rvS tmps)
      pure (if h : vs.size = 1 then vs[0] else .tuple vs)) := by
    unfold results
    rfl
  rw [e1, he, List.mapM_toArray]
  simp only [map_eq_pure_bind, Sem.run_bind, key rs hall w, Result.andThen_ok, Sem.run_pure]
  congr 1
  rcases rs with _ | ⟨r, _ | ⟨r2, rs⟩⟩
  · rfl
  · rfl
  · simp [valSingle]
theorem finAVs_ok (hc : Core w0 M S0 S γ st a w) : ∀ {rs : List ResultVar} {l : List AV}, finAVs st rs = some l → Matches S w γ l (rs.map (rv a.tmps)) ∧ ∀ r ∈ rs, ∃ t, r = .tmp t
  | [], l, h => by
    simp only [finAVs, Option.some.injEq] at h
    subst h
    exact ⟨by simp only [Matches, List.map_nil], by simp⟩
  | .tmp t :: rs, l, h => by
    unfold finAVs at h
    split at h
    · rename_i v vs h1 h2
      simp only [Option.some.injEq] at h
      subst h
      obtain ⟨g1, g2⟩ := finAVs_ok hc h2
      refine ⟨?_, fun r hr => ?_⟩
      · simp only [Matches, List.map_cons]
        exact ⟨_, _, rfl, hc.slot t v h1, g1⟩
      · rcases List.mem_cons.1 hr with rfl | hr
        · exact ⟨t, rfl⟩
        · exact g2 r hr
    · cases h
  | .cell _ _ :: rs, l, h => by simp [finAVs] at h
theorem single_pure {l : List AV} (h : AV.pures l = true) : (single l).pure = true := by
  rcases l with _ | ⟨x, _ | ⟨y, l⟩⟩
  · rfl
  · simpa [AV.pures, single] using h
  · simpa [AV.pure, single] using h
theorem own0_ok : ∀ {l us : List AV} {s : Nat} {vs : List Value}, own0 l = some (us, s) → Matches S w γ l vs → Matches S w (fun _ => γ s) us vs
  | [], us, s, vs, h, _ => by simp [own0] at h
  | x :: l, us, s, vs, h, hm => by
    simp only [Matches] at hm
    obtain ⟨u, us', rfl, h1, h2⟩ := hm
    unfold own0 at h
    split at h
    · cases h
    · rename_i heq
      split at h
      · rename_i hp
        simp only [Option.some.injEq, Prod.mk.injEq] at h
        obtain ⟨rfl, rfl⟩ := h
        simp only [List.cons.injEq] at heq
        obtain ⟨rfl, rfl⟩ := heq
        simp only [Matches]
        refine ⟨u, us', rfl, ?_, pures_any hp h2⟩
        simp only [Match] at h1 ⊢
        exact h1
      · cases h
    · rename_i heq
      simp only [List.cons.injEq] at heq
      obtain ⟨rfl, rfl⟩ := heq
      split at h
      · rename_i hp
        split at h
        · rename_i us2 s2 ho
          simp only [Option.some.injEq, Prod.mk.injEq] at h
          obtain ⟨rfl, rfl⟩ := h
          simp only [Matches]
          exact ⟨u, us', rfl, pure_any hp h1, own0_ok ho h2⟩
        · cases h
      · cases h
/-- A function's contract, out of what its code comes to. -/
theorem fn_rule {f : FuncId} {fn : Func} {c : Code} {spec : Spec} {rs : List ResultVar} (hf : Γ.P.funcs[f]? = some fn) (hb : fn.body = some c) (hrs : fn.results.toList = rs)
    (h : ∀ (S0 : Nat → Prop) (w0 : World) (args : List AV) (ps : List Prop) (r : AV) (ob : Option Ob), AV.pures args = true → spec args = some (ps, r, ob) → (∀ p ∈ ps, p) →
      args.length ≤ fn.ntmps ∧ AW Γ w0 (fun _ => False) S0 c (Fin rs r ob) (initSt args fn.ntmps)) : FnOk Γ.P f spec := by
  intro S w args vs ps r ob hS hpure hm hsp hps
  obtain ⟨hlen, haw⟩ := h S w args ps r ob hpure hsp hps
  refine calls_of_wp hf hb ?_
  have hinit := init_ok (nt := fn.ntmps) hS hm (by rw [← hm.length]; exact hlen)
  refine wp_mono (haw _ w ⟨S, _, hinit⟩) ?_
  rintro e a' w' ⟨st', ⟨he, hfin⟩, S', γ', hc⟩
  have fin : ∀ v, (∀ P : Program, (results fn a'.tmps).run P w' = .ok v w') → (∃ S2 hv, (∀ b, S b → S2 b) ∧ (∀ b, S2 b → b < w.heap.size → S b) ∧ (∀ b, S2 b → b < w'.heap.size) ∧ Match S2 w' (fun _ => hv) r v ∧ (∀ o, ob = some o → ObOk S2 w' (fun _ => hv) hv o ∧ ∀ k, hv.ownBlock = some k → w.heap.size ≤ k)) →
      bodyPost Γ.P fn (fun e w' => ∃ v S' hv, e = .returned v ∧ Below w.heap.size w w' ∧ (∀ b, S b → S' b) ∧ (∀ b, S' b → b < w.heap.size → S b) ∧ (∀ b, S' b → b < w'.heap.size) ∧ Match S' w' (fun _ => hv) r v ∧ (∀ o, ob = some o → ObOk S' w' (fun _ => hv) hv o ∧ ∀ k, hv.ownBlock = some k → w.heap.size ≤ k)) e a' w' := by
    rintro v hv ⟨S2, hvv, g1, g2, g3, g4, g5⟩
    have hbl : Below w.heap.size w w' := ⟨hc.os, hc.tape, hc.output, hc.size, fun k hk => hc.old k hk (by simp)⟩
    rcases he with rfl | rfl
    · exact ⟨hc.defers, v, hv Γ.P, v, S2, hvv, rfl, hbl, g1, g2, g3, g4, g5⟩
    · exact ⟨hc.defers, v, hv Γ.P, v, S2, hvv, rfl, hbl, g1, g2, g3, g4, g5⟩
  cases ob with
  | none =>
    obtain ⟨r', qs, h1, h2, rfl⟩ := hfin
    unfold finPure at h1
    split at h1
    · rename_i l hl
      split at h1
      · rename_i bs st2 ps2 hbs
        simp only [Option.some.injEq, Prod.mk.injEq] at h1
        obtain ⟨rfl, rfl⟩ := h1
        obtain ⟨g1, g2⟩ := finAVs_ok hc hl
        obtain ⟨S2, k1, k2, k3, k4, k5⟩ := pureAVs_ok hc hbs h2 g1
        refine fin _ (fun P => results_run hrs g2) ⟨S2, undef, fun b hb => k2.s0 b hb, fun b hb hlt => (k2.sold b hb hlt).resolve_right (by simp), k2.slt, pure_any (single_pure k4) (match_single k3), fun o ho => by cases ho⟩
      · cases h1
    · cases h1
  | some o =>
    obtain ⟨r', o', h1, rfl, rfl⟩ := hfin
    unfold finOwn at h1
    split at h1
    · rename_i l hl
      split at h1
      · rename_i us s hus
        split at h1
        · rename_i e2 t xs hs
          simp only [Option.some.injEq, Prod.mk.injEq] at h1
          obtain ⟨rfl, rfl⟩ := h1
          obtain ⟨g1, g2⟩ := finAVs_ok hc hl
          have g3 := own0_ok hus g1
          obtain ⟨k1, k2⟩ := hc.obj s _ hs
          refine fin _ (fun P => results_run hrs g2) ⟨S', γ' s, hc.s0, fun b hb hlt => (hc.sold b hb hlt).resolve_right (by simp), hc.slt, match_single g3, fun o ho => ?_⟩
          simp only [Option.some.injEq] at ho
          subst ho
          exact ⟨k1, fun k hk => (k2 rfl k hk).resolve_left (by simp)⟩
        · cases h1
      · cases h1
    · cases h1
end
end Go.Abs
