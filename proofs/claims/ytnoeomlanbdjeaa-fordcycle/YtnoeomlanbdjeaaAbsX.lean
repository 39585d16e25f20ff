/- Part of the proof of the law's row: YtnoeomlanbdjeaaAbsX. -/
import Derived.Test.YtnoeomlanbdjeaaAbsW
set_option linter.all false
set_option linter.unusedVariables false
set_option linter.unusedSimpArgs false
namespace Go.Abs
open Go.RowKit

def single : List AV → AV
  | [v] => v
  | vs => .tup vs
def finAVs (Γ : Env) (st : St) : List ResultVar → Option (List AV)
  | [] => some []
  | .tmp t :: rs => (match st.at t, finAVs Γ st rs with
    | some v, some vs => some (v :: vs)
    | _, _ => none)
  | .cell t T :: rs => (match st.at t with
    | some p => (match evLoad Γ st T p, finAVs Γ st rs with
      | some (v, []), some vs => some (v :: vs)
      | _, _ => none)
    | none => none)
def argSlots : List AV → Nat → List (Nat × AV)
  | [], _ => []
  | v :: vs, i => (i, v) :: argSlots vs (i + 1)

def pinVals (pin : List Nat) (vs : List Value) : List (Nat × AV) := pin.map fun i => (i, .val (vs.getD i undef))
def initSt (pre : List AV) (H : Hp) (nt : Nat) (pin : List Nat) (vs : List Value) : St := ⟨argSlots pre 0, H, nt, pinVals pin vs⟩
/-- Results that are handed back as data. -/
def freezeAVs (st : St) : List Bool → List AV → Option (List AV × St × List Prop)
  | _, [] => some ([], st, [])
  | [], av :: avs => (match freezeAVs st [] avs with
    | some (bs, st2, q) => some (av :: bs, st2, q)
    | none => none)
  | false :: fl, av :: avs => (match freezeAVs st fl avs with
    | some (bs, st2, q) => some (av :: bs, st2, q)
    | none => none)
  | true :: fl, av :: avs => (match pureAV st av with
    | some (b, st1, p) => (match freezeAVs st1 fl avs with
      | some (bs, st2, q) => some (b :: bs, st2, p ++ q)
      | none => none)
    | none => none)
def nub : List Nat → List Nat → List Nat
  | [], _ => []
  | x :: xs, seen => if seen.contains x then nub xs seen else x :: nub xs (x :: seen)
def outHeap (st : St) : List Nat → Option Hp
  | [] => some []
  | s :: r => (match get st.heap s, outHeap st r with
    | some o, some H => some ((s, o) :: H)
    | _, _ => none)
def outPost (st : St) : List Nat → List (Nat × AV)
  | [] => []
  | i :: r => (match st.at i with
    | some av => (i, av) :: outPost st r
    | none => outPost st r)
/-- A row of which a result is the beginning is cut there. -/
def cutTmp (st : St) (t : Nat) : Option (St × List Prop) :=
  match get st.slots t with
  | some (.own s ty off n) => (match get st.heap s with
    | some (.row e t' xs false) => if Ty.beq t' ty then some (appRow st s t e t' (List.take n (dropZ off xs)), [addZ off n ≤ List.length xs]) else none
    | _ => none)
  | some _ => some (st, [])
  | none => none
def cutTmps (st : St) : List Nat → Option (St × List Prop)
  | [] => some (st, [])
  | t :: ts => (match cutTmp st t with
    | some (st1, p) => (match cutTmps st1 ts with
      | some (st2, q) => some (st2, p ++ q)
      | none => none)
    | none => none)
/-- What a function gives: its results, what it made and what was handed in, the arguments that are as they were. -/
noncomputable def finK (Γ : Env) (rs : List ResultVar) (hs : List Nat) (pin : List Nat) (cs : List Nat) (fl : List Bool) (e : Exit) (st : St) : Option (AV × Hp × List (Nat × AV)) :=
  match (match e with
    | .ret => true
    | .normal => true
    | _ => false) with
  | true => (match cutTmps st cs with
    | some (st0, p0) => needs p0 (match finAVs Γ st0 rs with
      | some l => (match freezeAVs st0 fl l with
        | some (l', st1, ps) => (match outHeap st1 (nub (AV.namess l' ++ (hs ++ inCells (AV.namess l' ++ hs) (dedup st1.heap []))) []) with
          | some H => needs ps (some (single l', H, outPost st1 pin))
          | none => none)
        | none => none)
      | none => none)
    | none => none)
  | false => none
/-- Likewise, and on. -/
noncomputable def finC {R : Type} (Γ : Env) (rs : List ResultVar) (hs : List Nat) (pin : List Nat) (cs : List Nat) (fl : List Bool) (e : Exit) (st : St) (k : AV × Hp × List (Nat × AV) → Option R) : Option R :=
  match (match e with
    | .ret => true
    | .normal => true
    | _ => false) with
  | true => (match cutTmps st cs with
    | some (st0, p0) => needs p0 (match finAVs Γ st0 rs with
      | some l => (match freezeAVs st0 fl l with
        | some (l', st1, ps) => (match outHeap st1 (nub (AV.namess l' ++ (hs ++ inCells (AV.namess l' ++ hs) (dedup st1.heap []))) []) with
          | some H => needs ps (k (single l', H, outPost st1 pin))
          | none => none)
        | none => none)
      | none => none)
    | none => none)
  | false => none
theorem needs_bind {R R' : Type} {ps : List Prop} {o : Option R} {k : R → Option R'} : needs ps (Option.bind o k) = Option.bind (needs ps o) k := by
  unfold needs
  split
  · rfl
  · unfold need
    split <;> rfl
theorem finC_eq {R : Type} {Γ : Env} {rs : List ResultVar} {hs pin cs : List Nat} {fl : List Bool} {e : Exit} {st : St} {k : AV × Hp × List (Nat × AV) → Option R} : finC Γ rs hs pin cs fl e st k = Option.bind (finK Γ rs hs pin cs fl e st) k := by
  unfold finC finK
  split
  · split
    · rw [← needs_bind]
      congr 1
      split
      · split
        · split
          · rw [← needs_bind]; rfl
          · rfl
        · rfl
      · rfl
    · rfl
  · rfl
section
variable {S : Nat → Prop} {w : World} {γ : Nat → Value} {Γ : Env} {Φ : Sigs} {J : Opt} {w0 : World} {M S0 : Nat → Prop} {st : St} {a : Act}
theorem Core.label (hc : Core w0 M S0 S γ st a w) {i : Nat} {av : AV} (hm : Match S w γ av (a.tmps.getD i undef)) : Core w0 M S0 S γ { st with slots := (i, av) :: st.slots } a w :=
  ⟨hc.os, hc.tape, hc.output, hc.size, hc.old, hc.s0, hc.sold, hc.slt, fun j av' hj => by
    simp only [get] at hj
    split at hj
    · rename_i e
      simp only [Option.some.injEq] at hj
      subst e hj
      exact hm
    · exact hc.slot j av' hj, hc.obj, hc.dis, hc.defers, hc.nt, hc.fixs⟩
theorem cutTmp_ok (hc : Core w0 M S0 S γ st a w) {t : Nat} {st' : St} {ps : List Prop} (h : cutTmp st t = some (st', ps)) (hps : ∀ p ∈ ps, p) : ∃ γ', Core w0 M S0 S γ' st' a w ∧ st'.fix = st.fix := by
  unfold cutTmp at h
  split at h
  · rename_i s ty off n hsl
    split at h
    · rename_i e t' xs hs
      split at h
      · rename_i hb
        simp only [Option.some.injEq, Prod.mk.injEq] at h
        obtain ⟨rfl, rfl⟩ := h
        obtain rfl := Ty.eq_of_beq hb
        have hn : addZ off n ≤ List.length xs := hps _ (by simp)
        rw [addZ_eq] at hn
        rw [dropZ_eq]
        have hx := hc.slot t _ hsl
        obtain ⟨⟨_, hmut⟩, hM⟩ := hc.obj s _ hs
        generalize hv : a.tmps.getD t undef = v at hx
        obtain ⟨cs, ho, hr, hob⟩ := own_owns hc hs hx hn
        have hlen : (List.take n (List.drop off xs)).length = n := by rw [List.length_take, List.length_drop]; omega
        have hcore := hc.moved (w' := w) (s := s) (d := t) (hv := v) (o := .row e t' (List.take n (List.drop off xs)) false) hs ⟨rfl, rfl, rfl, Nat.le_refl _, fun _ _ _ => rfl⟩ ⟨⟨cs, by rw [hlen]; exact ho, hr⟩, fun k hk => by rw [ho.blk, hob] at hk; exact hmut k (.inl hk)⟩ (fun k hk => .inl (by rw [ho.blk, hob] at hk; exact .inl hk))
        have hl := hcore.label (i := t) (av := .full t t') (by rw [hv]; exact header_full ho (upd_same γ t v))
        exact ⟨_, hl, rfl⟩
      · cases h
    · cases h
  · simp only [Option.some.injEq, Prod.mk.injEq] at h
    obtain ⟨rfl, rfl⟩ := h
    exact ⟨γ, hc, rfl⟩
  · cases h
theorem cutTmps_ok : ∀ {ts : List Nat} {γ : Nat → Value} {st st' : St} {ps : List Prop}, Core w0 M S0 S γ st a w → cutTmps st ts = some (st', ps) → (∀ p ∈ ps, p) → ∃ γ', Core w0 M S0 S γ' st' a w ∧ st'.fix = st.fix
  | [], γ, st, st', ps, hc, h, _ => by
    simp only [cutTmps, Option.some.injEq, Prod.mk.injEq] at h
    obtain ⟨rfl, rfl⟩ := h
    exact ⟨γ, hc, rfl⟩
  | t :: ts, γ, st, st', ps, hc, h, hps => by
    unfold cutTmps at h
    split at h
    · rename_i st1 p h1
      split at h
      · rename_i st2 q h2
        simp only [Option.some.injEq, Prod.mk.injEq] at h
        obtain ⟨rfl, rfl⟩ := h
        obtain ⟨γ1, k1, k2⟩ := cutTmp_ok hc h1 (fun p hp => hps p (List.mem_append.2 (.inl hp)))
        obtain ⟨γ2, m1, m2⟩ := cutTmps_ok k1 h2 (fun p hp => hps p (List.mem_append.2 (.inr hp)))
        exact ⟨γ2, m1, m2.trans k2⟩
      · cases h
    · cases h
theorem get_argSlots {args : List AV} : ∀ {k i : Nat} {av : AV}, get (argSlots args k) i = some av → k ≤ i ∧ args[i - k]? = some av := by
  induction args with
  | nil => intro k i av h; simp [argSlots, get] at h
  | cons v vs ih =>
    intro k i av h
    simp only [argSlots, get] at h
    by_cases hik : i = k
    · rw [if_pos hik] at h
      subst hik
      exact ⟨Nat.le_refl _, by simpa using h⟩
    · rw [if_neg hik] at h
      obtain ⟨h1, h2⟩ := ih h
      refine ⟨by omega, ?_⟩
      rw [show i - k = (i - (k + 1)) + 1 by omega, List.getElem?_cons_succ]
      exact h2
theorem Matches.length : ∀ {l : List AV} {vs : List Value}, Matches S w γ l vs → l.length = vs.length
  | [], vs, h => by simp only [Matches] at h; subst h; rfl
  | x :: l, vs, h => by
    simp only [Matches] at h
    obtain ⟨u, us, rfl, _, h2⟩ := h
    simp [Matches.length h2]
def valSingle : List Value → Value
  | [v] => v
  | vs => .tuple vs.toArray
theorem match_single : ∀ {l : List AV} {vs : List Value}, Matches S w γ l vs → Match S w γ (single l) (valSingle vs)
  | [], vs, h => by
    simp only [Matches] at h
    subst h
    simp only [single, valSingle, Match]
    exact ⟨[], rfl, by simp only [Matches]⟩
  | [x], vs, h => by
    simp only [Matches] at h
    obtain ⟨u, us, rfl, h1, rfl⟩ := h
    exact h1
  | x :: y :: l, vs, h => by
    have h0 := h
    simp only [Matches] at h
    obtain ⟨u, us, rfl, h1, u2, us2, rfl, h2⟩ := h
    simp only [single, valSingle, Match]
    exact ⟨_, rfl, h0⟩
def rvS (tmps : Array Value) : ResultVar → Sem Value
  | .tmp t => pure (tmps.getD t undef)
  | .cell a t => do loadVar t (← asAddr (tmps.getD a undef))
theorem results_run {P : Program} {fn : Func} {tmps : Array Value} {rs : List ResultVar} {us : List Value} (hr : fn.results.toList = rs) (hall : (rs.mapM (rvS tmps)).run P w = .ok us w) : (results fn tmps).run P w = .ok (valSingle us) w := by
  have he : fn.results = rs.toArray := Array.toList_inj.1 (by simpa using hr)
  have e1 : results fn tmps = (do
      let vs ← fn.results.mapM (rvS tmps)
      pure (if h : vs.size = 1 then vs[0] else .tuple vs)) := by
    unfold results
    rfl
  rw [e1, he, List.mapM_toArray]
  simp only [map_eq_pure_bind, Sem.run_bind, hall, Result.andThen_ok, Sem.run_pure]
  congr 1
  rcases us with _ | ⟨r, _ | ⟨r2, rs⟩⟩
  · rfl
  · rfl
  · simp [valSingle]
theorem evLoad_ptr {T : TypeId} {x av : AV} {ps : List Prop} (h : evLoad Γ st T x = some (av, ps)) {u : Value} (hx : Match S w γ x u) : ∃ ad, u = .pointer (some ad) := by
  unfold evLoad at h
  split at h
  · simp only [Match] at hx; obtain ⟨ad, _, h, _⟩ := hx; exact ⟨ad, h⟩
  · simp only [Match] at hx; obtain ⟨g, o, n, cap, _, h⟩ := hx; exact ⟨_, h⟩
  · simp only [Match] at hx; obtain ⟨us, g, o, n, cap, _, _, h⟩ := hx; exact ⟨_, h⟩
  · simp only [Match] at hx; obtain ⟨g, o, n, cap, _, h⟩ := hx; exact ⟨_, h⟩
  · cases h
theorem finAVs_ok (hΓ : EnvOk Γ) (hc : Core w0 M S0 S γ st a w) : ∀ {rs : List ResultVar} {l : List AV}, finAVs Γ st rs = some l → ∃ us, Matches S w γ l us ∧ (rs.mapM (rvS a.tmps)).run Γ.P w = .ok us w
  | [], l, h => by
    simp only [finAVs, Option.some.injEq] at h
    subst h
    exact ⟨[], by simp only [Matches], rfl⟩
  | .tmp t :: rs, l, h => by
    unfold finAVs at h
    split at h
    · rename_i v vs h1 h2
      simp only [Option.some.injEq] at h
      subst h
      obtain ⟨us, g1, g2⟩ := finAVs_ok hΓ hc h2
      refine ⟨a.tmps.getD t undef :: us, ?_, by simp only [List.mapM_cons, Sem.run_bind, rvS, Sem.run_pure, Result.andThen_ok, g2]⟩
      simp only [Matches]
      exact ⟨_, _, rfl, hc.at h1, g1⟩
    · cases h
  | .cell t T :: rs, l, h => by
    unfold finAVs at h
    split at h
    · rename_i p hp
      split at h
      · rename_i v vs h1 h2
        simp only [Option.some.injEq] at h
        subst h
        obtain ⟨us, g1, g2⟩ := finAVs_ok hΓ hc h2
        have hm := hc.at hp
        obtain ⟨ad, had⟩ := evLoad_ptr h1 hm
        obtain ⟨r, k1, k2⟩ := evLoad_ok hΓ hc h1 (fun p hp => by cases hp) hm
        have k3 := k1 w (SameAt.refl S γ st w)
        rw [had] at k3
        simp only [Instr.loadAt, Instr.sureAddr, Sem.run_bind, Sem.run_pure, Result.andThen_ok] at k3
        refine ⟨r :: us, ?_, by simp only [List.mapM_cons, Sem.run_bind, rvS, had, asAddr, Sem.run_pure, Result.andThen_ok, k3, g2]⟩
        simp only [Matches]
        exact ⟨_, _, rfl, k2, g1⟩
      · cases h
    · cases h
theorem freezeAVs_ok : ∀ {fl : List Bool} {avs bs : List AV} {st st' : St} {ps : List Prop} {S : Nat → Prop} {vs : List Value}, Core w0 M S0 S γ st a w → freezeAVs st fl avs = some (bs, st', ps) → (∀ p ∈ ps, p) → Matches S w γ avs vs →
    ∃ S', (∀ k, S k → S' k) ∧ Core w0 M S0 S' γ st' a w ∧ Matches S' w γ bs vs ∧ st'.fix = st.fix
  | fl, [], bs, st, st', ps, S, vs, hc, h, _, hm => by
    have h : some (([] : List AV), st, ([] : List Prop)) = some (bs, st', ps) := by cases fl with
      | nil => simpa only [freezeAVs] using h
      | cons b fl => cases b <;> simpa only [freezeAVs] using h
    simp only [Option.some.injEq, Prod.mk.injEq] at h
    obtain ⟨rfl, rfl, rfl⟩ := h
    exact ⟨S, fun _ h => h, hc, by simpa only [Matches] using hm, rfl⟩
  | [], av :: avs, bs, st, st', ps, S, vs, hc, h, hps, hm => by
    unfold freezeAVs at h
    split at h
    · rename_i bs' st2 q hbs
      simp only [Option.some.injEq, Prod.mk.injEq] at h
      obtain ⟨rfl, rfl, rfl⟩ := h
      simp only [Matches] at hm
      obtain ⟨u, us', rfl, h1, h2⟩ := hm
      obtain ⟨S2, l1, l2, l3, l4⟩ := freezeAVs_ok hc hbs hps h2
      refine ⟨S2, l1, l2, ?_, l4⟩
      simp only [Matches]
      exact ⟨u, us', rfl, h1.mono l1 (fun _ _ => rfl) (fun _ _ => rfl), l3⟩
    · cases h
  | false :: fl, av :: avs, bs, st, st', ps, S, vs, hc, h, hps, hm => by
    unfold freezeAVs at h
    split at h
    · rename_i bs' st2 q hbs
      simp only [Option.some.injEq, Prod.mk.injEq] at h
      obtain ⟨rfl, rfl, rfl⟩ := h
      simp only [Matches] at hm
      obtain ⟨u, us', rfl, h1, h2⟩ := hm
      obtain ⟨S2, l1, l2, l3, l4⟩ := freezeAVs_ok hc hbs hps h2
      refine ⟨S2, l1, l2, ?_, l4⟩
      simp only [Matches]
      exact ⟨u, us', rfl, h1.mono l1 (fun _ _ => rfl) (fun _ _ => rfl), l3⟩
    · cases h
  | true :: fl, av :: avs, bs, st, st', ps, S, vs, hc, h, hps, hm => by
    unfold freezeAVs at h
    split at h
    · rename_i b st1 p hb
      split at h
      · rename_i bs' st2 q hbs
        simp only [Option.some.injEq, Prod.mk.injEq] at h
        obtain ⟨rfl, rfl, rfl⟩ := h
        simp only [Matches] at hm
        obtain ⟨u, us', rfl, h1, h2⟩ := hm
        obtain ⟨S1, k1, k2, k3, k4, k5⟩ := pureAV_ok hc hb (fun p hp => hps p (List.mem_append.2 (.inl hp))) h1
        obtain ⟨S2, l1, l2, l3, l4⟩ := freezeAVs_ok k2 hbs (fun p hp => hps p (List.mem_append.2 (.inr hp))) (h2.mono k1 (fun _ _ => rfl) (fun _ _ => rfl))
        refine ⟨S2, fun k hk => l1 k (k1 k hk), l2, ?_, l4.trans (pureAV_fix hb).1⟩
        simp only [Matches]
        exact ⟨u, us', rfl, k3.mono l1 (fun _ _ => rfl) (fun _ _ => rfl), l3⟩
      · cases h
    · cases h
theorem outHeap_get : ∀ {l : List Nat} {H : Hp}, outHeap st l = some H → ∀ s o, get H s = some o → get st.heap s = some o
  | [], H, h, s, o, hg => by
    simp only [outHeap, Option.some.injEq] at h
    subst h
    simp [get] at hg
  | i :: r, H, h, s, o, hg => by
    unfold outHeap at h
    split at h
    · rename_i o1 H1 h1 h2
      simp only [Option.some.injEq] at h
      subst h
      simp only [get] at hg
      split at hg
      · rename_i e
        simp only [Option.some.injEq] at hg
        subst e hg
        exact h1
      · exact outHeap_get h2 s o hg
    · cases h
theorem outPost_get : ∀ {l : List Nat} {i : Nat} {av : AV}, get (outPost st l) i = some av → i ∈ l ∧ st.at i = some av
  | [], i, av, h => by simp [outPost, get] at h
  | j :: r, i, av, h => by
    unfold outPost at h
    split at h
    · rename_i av1 h1
      simp only [get] at h
      split at h
      · rename_i e
        simp only [Option.some.injEq] at h
        subst e h
        exact ⟨List.mem_cons_self .., h1⟩
      · obtain ⟨h2, h3⟩ := outPost_get h
        exact ⟨List.mem_cons_of_mem _ h2, h3⟩
    · obtain ⟨h2, h3⟩ := outPost_get h
      exact ⟨List.mem_cons_of_mem _ h2, h3⟩
theorem get_pinVals {pin : List Nat} {vs : List Value} {i : Nat} : (i ∈ pin → get (pinVals pin vs) i = some (.val (vs.getD i undef))) ∧ ∀ av, get (pinVals pin vs) i = some av → i ∈ pin ∧ av = .val (vs.getD i undef) := by
  induction pin with
  | nil => simp [pinVals, get]
  | cons j r ih =>
    simp only [pinVals, List.map_cons, get] at ih ⊢
    by_cases e : i = j
    · subst e
      simp only [if_true]
      exact ⟨fun _ => (by first | rfl | trivial), fun av h => ⟨List.mem_cons_self .., by simpa using h.symm⟩⟩
    · simp only [if_neg e]
      refine ⟨fun h => ih.1 ((List.mem_cons.1 h).resolve_left e), fun av h => ?_⟩
      obtain ⟨h1, h2⟩ := ih.2 av h
      exact ⟨List.mem_cons_of_mem _ h1, h2⟩
theorem init_ok {pre : List AV} {H : Hp} {vs : List Value} {nt : Nat} {pin : List Nat} (hS : ∀ b, S b → b < w.heap.size) (hm : Matches S w γ pre vs) (hH : HOk S w γ H) (hn : vs.length ≤ nt) (hpin : ∀ i, i ∈ pin → i < vs.length) :
    Core w (Mof γ H) S S γ (initSt pre H nt pin vs) { tmps := vs.toArray ++ Array.replicate (nt - vs.toArray.size) undef, defers := [] } w := by
  have hat : ∀ i u, vs[i]? = some u → (vs.toArray ++ Array.replicate (nt - vs.toArray.size) undef).getD i undef = u := by
    intro i u h3
    have hlt : i < vs.length := (List.getElem?_eq_some_iff.1 h3).1
    rw [Array.getD_eq_getD_getElem?, Array.getElem?_append_left (by simpa using hlt), List.getElem?_toArray, h3]
    rfl
  refine ⟨rfl, rfl, rfl, Nat.le_refl _, fun _ _ _ => rfl, fun _ h => h, fun _ h _ => .inl h, hS, ?_, ?_, ?_, rfl, ?_, ?_⟩
  · intro i av hi
    obtain ⟨_, h2⟩ := get_argSlots hi
    rw [Nat.sub_zero] at h2
    obtain ⟨u, h3, h4⟩ := matches_get hm h2
    rw [hat i u h3]
    exact h4
  · intro s o hs
    exact ⟨hH.obj s o hs, fun hl k hk => .inl ⟨s, o, hs, hl, hk⟩⟩
  · exact hH.dis
  · simp [initSt]
    omega
  · intro i av hi
    obtain ⟨h1, rfl⟩ := get_pinVals.2 av hi
    refine ⟨rfl, ?_⟩
    simp only [Match]
    have := List.getElem?_eq_getElem (hpin i h1)
    rw [hat i _ this, List.getD_eq_getElem?_getD, this]
    rfl
/-- A function's contract, out of what its code computes. -/
theorem fnH_rule' (hΓ : EnvOk Γ) (hΦ : SigsOk Γ.P Γ.gl Φ) {f : FuncId} {fn : Func} {c : Code} {pre : List AV} {H H' : Hp} {r : AV} {post : List (Nat × AV)} {rs : List ResultVar} {nt : Nat} {L : Lv} {pin hs cs : List Nat} {fl : List Bool} {R : Type} {K : Exit → St → Option R} {x : R} (hf : Γ.P.funcs[f]? = some fn) (hb : fn.body = some c) (hrs : fn.results.toList = rs) (hnt : fn.ntmps = nt) (hlen : pre.length ≤ nt) (hpin : ∀ i, i ∈ pin → i < pre.length)
    (h : ∀ vs, denS Γ Φ J L c R (initSt pre H nt pin vs) K = some x) (hK : ∀ e st, K e st = some x → ∃ o, finK Γ rs hs pin cs fl e st = some o ∧ ∀ S w γ vs v S' γ' w', Done S w γ H o.1 o.2.1 o.2.2 vs v S' γ' w' → Done S w γ H r H' post vs v S' γ' w') : FnH Γ.P Γ.gl f pre H r H' post := by
  intro S w γ vs hS hG hm hH hloose
  have hapart : ∀ b, S b → ¬ Mof γ H b := by
    rintro b hb ⟨s, o, h1, h2, h3⟩
    have g1 := hH.obj s o h1
    have g2 := hloose s o h1
    cases o with
    | row e t xs f => have := (g1.2 b h3).1 hb; subst this; cases g2
    | map k0 e tk te l f => have := (g1.2 b h3).1 hb; subst this; cases g2
    | iter k0 e tk te l f => exact g1.2 b h3 hb
    | cell e av => exact g1.2 b h3 hb
    | rcd e t vs => exact g1.2 b h3 hb
    | deep e t c hole => exact g1.2 b h3 hb
    | fam e t xss => exact g1.2 b h3 hb
    | dead => cases h2
  have hctx : HCtx Γ w (Mof γ H) S := ⟨hΓ, hG, hapart, hS⟩
  refine calls_of_wp hf hb ?_
  subst hnt
  have hl := Matches.length hm
  have hinit := init_ok (nt := fn.ntmps) (pin := pin) hS hm hH (by rw [← hl]; exact hlen) (fun i hi => by rw [← hl]; exact hpin i hi)
  refine wp_mono (denS_ok (w0 := w) (M := Mof γ H) (S0 := S) (Q := fun e st' => K e st' = some x ∧ st'.fix = pinVals pin vs) hctx hΦ c (h vs) (fun e st' g1 g2 => ⟨g1, g2⟩) _ w ⟨S, γ, hinit⟩) ?_
  rintro e a' w' ⟨st', ⟨hKe, hfx⟩, S', γ', hc⟩
  obtain ⟨⟨r1, H1', post1⟩, hfin, hconv⟩ := hK _ _ hKe
  unfold finK at hfin
  split at hfin
  rotate_left
  · cases hfin
  rename_i he
  split at hfin
  rotate_left
  · cases hfin
  rename_i st0 p0 hcut
  obtain ⟨hp0, hfin⟩ := needs_some hfin
  have hdef := hc.defers
  obtain ⟨γ', hc, hfx0⟩ := cutTmps_ok hc hcut hp0
  rw [← hfx0] at hfx
  split at hfin
  · rename_i l hl2
    split at hfin
    · rename_i l' st1 ps hfr
      split at hfin
      · rename_i H1 hH1
        obtain ⟨hps, hfin⟩ := needs_some hfin
        simp only [Option.some.injEq, Prod.mk.injEq] at hfin
        obtain ⟨rfl, rfl, rfl⟩ := hfin
        obtain ⟨us, g1, g2⟩ := finAVs_ok hΓ hc hl2
        obtain ⟨S2, k1, k2, k3, k4⟩ := freezeAVs_ok hc hfr hps g1
        have hdone : Done S w γ H (single l') H1 (outPost st1 pin) vs (valSingle us) S2 γ' w' := by
          refine ⟨k2.os, k2.tape, k2.output, k2.size, k2.old, k2.s0, fun b hb hlt => k2.sold b hb hlt, k2.slt, match_single k3, ⟨?_, ?_⟩, ?_, ?_⟩
          · exact fun s o hg => (k2.obj s o (outHeap_get hH1 s o hg)).1
          · exact fun s s' o o' h1 h2 => k2.dis s s' o o' (outHeap_get hH1 s o h1) (outHeap_get hH1 s' o' h2)
          · exact fun s o hg => (k2.obj s o (outHeap_get hH1 s o hg)).2
          · intro i av hi
            obtain ⟨h1, h2⟩ := outPost_get hi
            have h3 := k2.at h2
            have h4 := (k2.fixs i _ (by rw [k4, hfx]; exact get_pinVals.1 h1)).2
            simp only [Match] at h4
            have hlt : i < vs.length := by rw [← hl]; exact hpin i h1
            refine ⟨_, List.getElem?_eq_getElem hlt, ?_⟩
            rw [h4, List.getD_eq_getElem?_getD, List.getElem?_eq_getElem hlt] at h3
            exact h3
        cases e with
        | ret => exact ⟨hc.defers, _, results_run hrs g2, _, S2, γ', rfl, hconv _ _ _ _ _ _ _ _ hdone⟩
        | normal => exact ⟨hc.defers, _, results_run hrs g2, _, S2, γ', rfl, hconv _ _ _ _ _ _ _ _ hdone⟩
        | _ => cases he
      · cases hfin
    · cases hfin
  · cases hfin
end
end Go.Abs
