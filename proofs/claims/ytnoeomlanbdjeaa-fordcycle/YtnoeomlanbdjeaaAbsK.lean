/- Part of the proof of the law's row: YtnoeomlanbdjeaaAbsK. -/
import Derived.Test.YtnoeomlanbdjeaaAbsJ
set_option linter.all false
set_option linter.unusedVariables false
set_option linter.unusedSimpArgs false
namespace Go.Abs
open Go.RowKit

def ev1 (st : St) (x : Operand) (f : AV → Ev) : Ev :=
  match opd st x with
  | some (a, p) => (match f a with
    | some (r, q) => some (r, p ++ q)
    | none => none)
  | none => none
def ev2 (st : St) (x y : Operand) (f : AV → AV → Ev) : Ev :=
  match opd st x, opd st y with
  | some (a, p), some (b, p') => (match f a b with
    | some (r, q) => some (r, p ++ (p' ++ q))
    | none => none)
  | _, _ => none
def ev1g (Γ : Env) (st : St) (x : Operand) (f : AV → Ev) : Ev :=
  match opdG Γ st x with
  | some (a, p) => (match f a with
    | some (r, q) => some (r, p ++ q)
    | none => none)
  | none => none
def ev2g (Γ : Env) (st : St) (x y : Operand) (f : AV → AV → Ev) : Ev :=
  match opdG Γ st x, opd st y with
  | some (a, p), some (b, p') => (match f a b with
    | some (r, q) => some (r, p ++ (p' ++ q))
    | none => none)
  | _, _ => none
def opdo (st : St) : Option Operand → Option (Option AV × List Prop)
  | none => some (none, [])
  | some x => (match opd st x with
    | some (a, p) => some (some a, p)
    | none => none)
def opds (st : St) : List Operand → Option (List AV × List Prop)
  | [] => some ([], [])
  | x :: xs => (match opd st x, opds st xs with
    | some (a, p), some (l, q) => some (a :: l, p ++ q)
    | _, _ => none)
def opdn (st : St) : List (Nat × Operand) → Option (List (Nat × AV) × List Prop)
  | [] => some ([], [])
  | (k, x) :: xs => (match opd st x, opdn st xs with
    | some (a, p), some (l, q) => some ((k, a) :: l, p ++ q)
    | _, _ => none)
def opdRaw (st : St) : Operand → Option AV
  | .tmp t => st.at t
  | .const v => constAV v
  | .func f => some (.fn f [])
  | .global _ => none
def sureAV : AV → Bool
  | .rptr _ _ => true
  | .optr _ _ _ _ => true
  | .cptr _ => true
  | .fn _ _ => true
  | _ => false
/-- A map's entries. -/
def mapAV (st : St) (k e : TypeId) (tk te : Ty) : AV → Option (List (tk.Den × te.Den))
  | .data t l => Ty.cast t (.map k e tk te) l
  | .mptr s => (match get st.heap s with
    | some (.map k' e' tk' te' l _) => Ty.cast (.map k' e' tk' te') (.map k e tk te) l
    | _ => none)
  | .val (.map none) => some ([] : List _)
  | _ => none
def evLookup (Γ : Env) (st : St) (T : TypeId) (ok : Bool) (x y : AV) : Ev :=
  match Γ.ty T with
  | some (.map k e tk te) => if tk.keyB then (match mapAV st k e tk te x, castTo tk y with
    | some l, some z => some (lookAV te (mfind (Ty.eqb tk) l z) ok, [])
    | _, _ => none) else none
  | _ => none
def evLenM (Γ : Env) (st : St) (T : TypeId) (x : AV) : Ev :=
  match Γ.ty T with
  | some (.map k e tk te) => (mapAV st k e tk te x).map fun l => (.data (.int .i64) ((List.length l : Nat) : Int), [])
  | _ => evLen Γ T x
/-- Where a walk over a map stands. -/
def evEntry (st : St) (x : AV) : Ev :=
  match x with
  | .cptr s => (match get st.heap s with
    | some (.iter _ _ tk te _ (some c)) => some (.tup [.data tk c.1, .data te c.2], [])
    | _ => none)
  | _ => none
/-- What an operation that writes nothing gives, and what must hold for it. -/
def evOp (Γ : Env) (st : St) : Op → Ev
  | .move x => (opdRaw st x).map bareAV
  | .assign x => (opdRaw st x).map bareAV
  | .pick c x y => (match opd st c, opdRaw st x, opdRaw st y with
    | some (a, p), some b, some d => (match evPick a b d with
      | some (r, q) => some (r, p ++ q)
      | none => none)
    | _, _, _ => none)
  | .binOp op T x y _ => ev2 st x y (evBin Γ op T)
  | .unOp op _ x => ev1 st x (evUn op)
  | .convert src dst x => ev1 st x (evConvert Γ src dst)
  | .extract x k => ev1 st x (fun a => evExtract a k)
  | .indexAddr T x i => ev2g Γ st x i (evIndexAddr Γ T)
  | .index T x i => ev2 st x i (evIndex Γ T)
  | .load T x => ev1g Γ st x (evLoad Γ st T)
  | .fieldAddr T x k => ev1g Γ st x (fun a => evFieldAddr Γ T a k)
  | .field T x k => ev1 st x (fun a => evField Γ T a k)
  | .slice T x lo hi none => (match opdo st lo, opdo st hi with
    | some (l, p), some (h, q) => (match ev1 st x (fun a => evSlice Γ st T a l h) with
      | some (r, s) => some (r, p ++ (q ++ s))
      | none => none)
    | _, _ => none)
  | .build T parts => if Γ.rown.contains T then none else (match opdn st parts.toList with
    | some (l, p) => (match evBuild Γ T l with
      | some (r, q) => some (r, p ++ q)
      | none => none)
    | none => none)
  | .makeFunc (.func f) first caps => (match first.toList, opds st caps.toList with
    | [], some (l, p) => some (.fn f l, p)
    | _, _ => none)
  | .nilCheck x => ev1 st x (fun a => if sureAV a then some (a, []) else none)
  | .lookup T x y ok => ev2 st x y (evLookup Γ st T ok)
  | .entry x => ev1 st x (evEntry st)
  | .call c => (match c.callee, c.args.toList, c.argTypes.toList with
    | .builtin .len, [x], [T] => ev1 st x (evLenM Γ st T)
    | .builtin .max, [x, y], _ => ev2 st x y (evMax true)
    | .builtin .min, [x, y], _ => ev2 st x y (evMax false)
    | _, _, _ => none)
  | _ => none

theorem raw_ok {w0 : World} {M S0 S : Nat → Prop} {γ : Nat → Value} {st : St} {a : Act} {w : World} (hc : Core w0 M S0 S γ st a w) {x : Operand} {av : AV} {ps : List Prop} (h : (opdRaw st x).map bareAV = some (av, ps)) (hps : ∀ p ∈ ps, p) : Match S w γ av (a.eval x) := by
  obtain ⟨av', h1, h2⟩ := Option.map_eq_some_iff.1 h
  refine bareAV_ok ?_ h2 hps
  unfold opdRaw at h1
  split at h1
  · exact hc.at h1
  · exact constAV_ok h1
  · simp only [Option.some.injEq] at h1
    subst h1
    simp only [Match, Act.eval]
    exact ⟨[], rfl, by simp only [Matches]⟩
  · cases h1
section
variable {P : Program} {S : Nat → Prop} {w : World} {γ : Nat → Value} {Γ : Env} {w0 : World} {M S0 : Nat → Prop} {st : St} {a : Act}
theorem mapAV_ok (hc : Core w0 M S0 S γ st a w) {k e : TypeId} {tk te : Ty} {av : AV} {l : List (tk.Den × te.Den)} (h : mapAV st k e tk te av = some l) {u : Value} (hm : Match S w γ av u) :
    ∃ m, u = .map m ∧ (m = none → l = []) ∧ ∀ b, m = some b → (S b ∨ ∃ s o, get st.heap s = some o ∧ o.live = true ∧ Blk (γ s) b) ∧ ∃ es : Array MapEntry, w.heap[b]? = some (.map es es.size) ∧ EntOk S w tk te l es := by
  unfold mapAV at h
  split at h
  · rename_i t l0
    obtain ⟨rfl, h2⟩ := Ty.cast_some h
    have h2 : l0 = l := h2
    subst h2
    simp only [Match] at hm
    obtain ⟨cs, hr, rfl⟩ := hm
    obtain ⟨m, rfl, h1, h2⟩ := rep_map.1 hr
    refine ⟨m, rfl, fun e => List.length_eq_zero_iff.1 (h1 e), fun b hb => ?_⟩
    obtain ⟨g1, es, g2, g3⟩ := h2 b hb
    exact ⟨.inl g1, es, g2, g3⟩
  · rename_i s
    split at h
    · rename_i k' e' tk' te' l' f hs
      obtain ⟨e1, h2⟩ := Ty.cast_some h
      injection e1 with q1 q2 q3 q4
      subst q1 q2 q3 q4
      have h2 : l' = l := h2
      subst h2
      obtain ⟨⟨g, h1, es, h2, h3⟩, _⟩ := (hc.obj s _ hs).1
      simp only [Match] at hm
      obtain ⟨g', h4, rfl⟩ := hm
      rw [h1] at h4
      simp only [Value.slice.injEq, Option.some.injEq, Addr.mk.injEq, and_true] at h4
      subst h4
      refine ⟨some g, rfl, fun e => (by cases e), fun b hb => ?_⟩
      simp only [Option.some.injEq] at hb
      subst hb
      exact ⟨.inr ⟨s, _, hs, rfl, by rw [h1]; exact blk_at⟩, es, h2, h3⟩
    · cases h
  · simp only [Match] at hm
    have h : ([] : List (tk.Den × te.Den)) = l := Option.some.inj h
    exact ⟨none, hm, fun _ => h.symm, fun b hb => by cases hb⟩
  · cases h
theorem evLookup_ok (hΓ : EnvOk Γ) (hc : Core w0 M S0 S γ st a w) {T : TypeId} {ok : Bool} {x y av : AV} {ps : List Prop} (h : evLookup Γ st T ok x y = some (av, ps)) {u v : Value} (hx : Match S w γ x u) (hy : Match S w γ y v) :
    ∃ r, (∀ w', SameAt S γ st w w' → (Instr.lookup T u v ok).run Γ.P w' = .ok r w') ∧ Match S w γ av r := by
  unfold evLookup at h
  split at h
  · rename_i k e tk te ht
    split at h
    · rename_i hk
      split at h
      · rename_i l z hl hz
        simp only [Option.some.injEq, Prod.mk.injEq] at h
        obtain ⟨rfl, rfl⟩ := h
        obtain ⟨cx, hcx, rfl⟩ := castTo_ok hy hz
        obtain ⟨m, rfl, h1, h2⟩ := mapAV_ok hc hl hx
        cases m with
        | none =>
          obtain ⟨r, g1, g2⟩ := look_nil (S := S) (w := w) (hΓ.is ht) hk (toVal tk cx) ok γ
          have : l = [] := h1 rfl
          subst this
          exact ⟨r, fun w' _ => g1 w', g2⟩
        | some b =>
          obtain ⟨hlt, es, g1, g2⟩ := h2 b rfl
          obtain ⟨r, g3, g4⟩ := look_ok (hΓ.is ht) hk g2 hcx ok γ
          exact ⟨r, fun w' hw' => g3 w' b es.size ((hw' b hlt).trans g1), g4⟩
      · cases h
    · cases h
  · cases h
theorem evLenM_ok (hΓ : EnvOk Γ) (hc : Core w0 M S0 S γ st a w) {T : TypeId} {x av : AV} {ps : List Prop} (h : evLenM Γ st T x = some (av, ps)) {u : Value} (hx : Match S w γ x u) (ty : TypeId) :
    ∃ r, (∀ w', SameAt S γ st w w' → (Builtin.len_ #[T] ty #[u]).run Γ.P w' = .ok r w') ∧ Match S w γ av r := by
  unfold evLenM at h
  split at h
  · rename_i k e tk te ht
    obtain ⟨l, hl, h2⟩ := Option.map_eq_some_iff.1 h
    simp only [Prod.mk.injEq] at h2
    obtain ⟨rfl, rfl⟩ := h2
    obtain ⟨m, rfl, h1, h2⟩ := mapAV_ok hc hl hx
    have hu := (hΓ.is ht).1
    cases m with
    | none =>
      have : l = [] := h1 rfl
      subst this
      exact ⟨_, fun w' _ => by simp [Builtin.len_, run_underlying hu, goInt], match_int.2 rfl⟩
    | some b =>
      obtain ⟨hlt, es, g1, g2⟩ := h2 b rfl
      refine ⟨.int .i64 ((List.length l : Nat) : Int), fun w' hw' => ?_, match_int.2 rfl⟩
      have hb := (hw' b hlt).trans g1
      have hg : (getObj b).run Γ.P w' = .ok (.map es es.size) w' := by simp [getObj, Sem.run, hb]
      simp [Builtin.len_, run_underlying hu, goInt, g2.1, hg]
  · obtain ⟨r, h1, h2⟩ := evLen_ok hΓ h hx ty
    exact ⟨r, fun w' _ => h1 w', h2⟩
theorem evEntry_ok (hc : Core w0 M S0 S γ st a w) {x av : AV} {ps : List Prop} (h : evEntry st x = some (av, ps)) {u : Value} (hx : Match S w γ x u) :
    ∃ r, (∀ w', SameAt S γ st w w' → (Instr.entry u).run P w' = .ok r w') ∧ Match S w γ av r := by
  unfold evEntry at h
  split at h
  · rename_i s
    split at h
    · rename_i k e tk te rem c hs
      simp only [Option.some.injEq, Prod.mk.injEq] at h
      obtain ⟨rfl, rfl⟩ := h
      obtain ⟨⟨r, h1, h2⟩, _⟩ := (hc.obj s _ hs).1
      simp only [Match] at hx
      obtain ⟨g, o, n, cap, h3, rfl⟩ := hx
      rw [h1] at h3
      simp only [Value.slice.injEq, Option.some.injEq, Addr.mk.injEq, and_true] at h3
      obtain ⟨⟨rfl, rfl⟩, _⟩ := h3
      rcases h2 with ⟨_, _, h4⟩ | ⟨b, es, seen, last, l, k1, k2, k3, k4, k5, _, k7⟩
      · cases h4
      · obtain ⟨i, seen', rfl, rfl, hi⟩ := k7 c rfl
        obtain ⟨e0, m1, m2, ⟨ck, m3, m4⟩, cv, m5, m6⟩ := k3.2 i c hi
        refine ⟨.tuple #[e0.key, e0.val], fun w' hw' => entry_ok k3 m1 w' ((hw' r (.inr ⟨s, _, hs, rfl, by rw [h1]; exact blk_at⟩)).trans k4) ((hw' b (.inl k1)).trans k2), ?_⟩
        simp only [Match, Matches]
        exact ⟨[_, _], rfl, _, _, rfl, ⟨ck, m3, m4⟩, _, _, rfl, ⟨cv, m5, m6⟩, rfl⟩
    · cases h
  · cases h
theorem ev1_ok (hc : Core w0 M S0 S γ st a w) {x : Operand} {f : AV → Ev} {av : AV} {ps : List Prop} (h : ev1 st x f = some (av, ps)) (hps : ∀ p ∈ ps, p) :
    ∃ b q, f b = some (av, q) ∧ (∀ p ∈ q, p) ∧ Match S w γ b (a.eval x) := by
  unfold ev1 at h
  split at h
  · rename_i b p hb
    split at h
    · rename_i r q hr
      simp only [Option.some.injEq, Prod.mk.injEq] at h
      obtain ⟨rfl, rfl⟩ := h
      exact ⟨b, q, hr, fun p hp => hps p (List.mem_append.2 (.inr hp)), opd_ok hc hb (fun p hp => hps p (List.mem_append.2 (.inl hp)))⟩
    · cases h
  · cases h
theorem ev2_ok (hc : Core w0 M S0 S γ st a w) {x y : Operand} {f : AV → AV → Ev} {av : AV} {ps : List Prop} (h : ev2 st x y f = some (av, ps)) (hps : ∀ p ∈ ps, p) :
    ∃ b d q, f b d = some (av, q) ∧ (∀ p ∈ q, p) ∧ Match S w γ b (a.eval x) ∧ Match S w γ d (a.eval y) := by
  unfold ev2 at h
  split at h
  · rename_i b p d p' hb hd
    split at h
    · rename_i r q hr
      simp only [Option.some.injEq, Prod.mk.injEq] at h
      obtain ⟨rfl, rfl⟩ := h
      exact ⟨b, d, q, hr, fun p hp => hps p (List.mem_append.2 (.inr (List.mem_append.2 (.inr hp)))), opd_ok hc hb (fun p hp => hps p (List.mem_append.2 (.inl hp))),
        opd_ok hc hd (fun p hp => hps p (List.mem_append.2 (.inr (List.mem_append.2 (.inl hp)))))⟩
    · cases h
  · cases h
theorem ev1g_ok (hΓ : HCtx Γ w0 M S0) (hc : Core w0 M S0 S γ st a w) {x : Operand} {f : AV → Ev} {av : AV} {ps : List Prop} (h : ev1g Γ st x f = some (av, ps)) (hps : ∀ p ∈ ps, p) :
    ∃ b q, f b = some (av, q) ∧ (∀ p ∈ q, p) ∧ Match S w γ b (a.eval x) := by
  unfold ev1g at h
  split at h
  · rename_i b p hb
    split at h
    · rename_i r q hr
      simp only [Option.some.injEq, Prod.mk.injEq] at h
      obtain ⟨rfl, rfl⟩ := h
      exact ⟨b, q, hr, fun p hp => hps p (List.mem_append.2 (.inr hp)), opdG_ok hΓ hc hb (fun p hp => hps p (List.mem_append.2 (.inl hp)))⟩
    · cases h
  · cases h
theorem ev2g_ok (hΓ : HCtx Γ w0 M S0) (hc : Core w0 M S0 S γ st a w) {x y : Operand} {f : AV → AV → Ev} {av : AV} {ps : List Prop} (h : ev2g Γ st x y f = some (av, ps)) (hps : ∀ p ∈ ps, p) :
    ∃ b d q, f b d = some (av, q) ∧ (∀ p ∈ q, p) ∧ Match S w γ b (a.eval x) ∧ Match S w γ d (a.eval y) := by
  unfold ev2g at h
  split at h
  · rename_i b p d p' hb hd
    split at h
    · rename_i r q hr
      simp only [Option.some.injEq, Prod.mk.injEq] at h
      obtain ⟨rfl, rfl⟩ := h
      exact ⟨b, d, q, hr, fun p hp => hps p (List.mem_append.2 (.inr (List.mem_append.2 (.inr hp)))), opdG_ok hΓ hc hb (fun p hp => hps p (List.mem_append.2 (.inl hp))),
        opd_ok hc hd (fun p hp => hps p (List.mem_append.2 (.inr (List.mem_append.2 (.inl hp)))))⟩
    · cases h
  · cases h
theorem opdRaw_ok (hc : Core w0 M S0 S γ st a w) {x : Operand} {av : AV} (h : opdRaw st x = some av) : Match S w γ av (a.eval x) := by
  unfold opdRaw at h
  split at h
  · exact hc.at h
  · exact constAV_ok h
  · simp only [Option.some.injEq] at h
    subst h
    simp only [Match, Act.eval]
    exact ⟨[], rfl, by simp only [Matches]⟩
  · cases h
theorem opdo_ok (hc : Core w0 M S0 S γ st a w) {x : Option Operand} {o : Option AV} {ps : List Prop} (h : opdo st x = some (o, ps)) (hps : ∀ p ∈ ps, p) : OptMatch S w γ o (x.map a.eval) := by
  unfold opdo at h
  split at h
  · simp only [Option.some.injEq, Prod.mk.injEq] at h
    obtain ⟨rfl, rfl⟩ := h
    trivial
  · split at h
    · rename_i b p hb
      simp only [Option.some.injEq, Prod.mk.injEq] at h
      obtain ⟨rfl, rfl⟩ := h
      exact opd_ok hc hb hps
    · cases h
theorem opds_ok (hc : Core w0 M S0 S γ st a w) : ∀ {xs : List Operand} {l : List AV} {ps : List Prop}, opds st xs = some (l, ps) → (∀ p ∈ ps, p) → Matches S w γ l (xs.map a.eval)
  | [], l, ps, h, _ => by
    simp only [opds, Option.some.injEq, Prod.mk.injEq] at h
    obtain ⟨rfl, rfl⟩ := h
    simp only [Matches, List.map_nil]
  | x :: xs, l, ps, h, hps => by
    unfold opds at h
    split at h
    · rename_i b p l' q hb hl
      simp only [Option.some.injEq, Prod.mk.injEq] at h
      obtain ⟨rfl, rfl⟩ := h
      simp only [Matches, List.map_cons]
      exact ⟨_, _, rfl, opd_ok hc hb (fun p hp => hps p (List.mem_append.2 (.inl hp))), opds_ok hc hl (fun p hp => hps p (List.mem_append.2 (.inr hp)))⟩
    · cases h
theorem opdn_ok (hc : Core w0 M S0 S γ st a w) : ∀ {xs : List (Nat × Operand)} {l : List (Nat × AV)} {ps : List Prop}, opdn st xs = some (l, ps) → (∀ p ∈ ps, p) → PartsMatch S w γ l (xs.map fun x => (x.1, a.eval x.2))
  | [], l, ps, h, _ => by
    simp only [opdn, Option.some.injEq, Prod.mk.injEq] at h
    obtain ⟨rfl, rfl⟩ := h
    simp only [PartsMatch, List.map_nil]
  | (k, x) :: xs, l, ps, h, hps => by
    unfold opdn at h
    split at h
    · rename_i b p l' q hb hl
      simp only [Option.some.injEq, Prod.mk.injEq] at h
      obtain ⟨rfl, rfl⟩ := h
      simp only [PartsMatch, List.map_cons]
      exact ⟨_, _, rfl, opd_ok hc hb (fun p hp => hps p (List.mem_append.2 (.inl hp))), opdn_ok hc hl (fun p hp => hps p (List.mem_append.2 (.inr hp)))⟩
    · cases h

theorem execOp_value {o : Oper} {s : Sem Value} {r : Value} {w' w'' : World} {ρ : Operand → Value} (ho : execOp ρ o = (do pure (.value (← s)))) (hs : s.run P w' = .ok r w'') : (execOp ρ o).run P w' = .ok (.value r) w'' := by
  rw [ho, Sem.run_bind, hs]
  rfl
theorem evOp_ok (hΓ' : HCtx Γ w0 M S0) (hc : Core w0 M S0 S γ st a w) {o : Oper} {av : AV} {ps : List Prop} (h : evOp Γ st o.op = some (av, ps)) (hps : ∀ p ∈ ps, p) :
    ∃ r, (∀ w', SameAt S γ st w w' → (execOp a.eval o).run Γ.P w' = .ok (.value r) w') ∧ Match S w γ av r := by
  have hΓ := hΓ'.toEnvOk
  unfold evOp at h
  split at h
  · rename_i x ho
    exact ⟨_, fun w' _ => by simp only [execOp, ho, Sem.run_pure], raw_ok hc h hps⟩
  · rename_i x ho
    exact ⟨_, fun w' _ => by simp only [execOp, ho, Sem.run_pure], raw_ok hc h hps⟩
  · rename_i c x y ho
    split at h
    · rename_i ac p b d hac hb hd
      split at h
      · rename_i r q hr
        simp only [Option.some.injEq, Prod.mk.injEq] at h
        obtain ⟨rfl, rfl⟩ := h
        obtain ⟨bb, e1, h1⟩ := evPick_ok hr (fun p hp => hps p (List.mem_append.2 (.inr hp))) (opd_ok hc hac (fun p hp => hps p (List.mem_append.2 (.inl hp)))) (opdRaw_ok hc hb) (opdRaw_ok hc hd)
        refine ⟨_, fun w' _ => ?_, h1⟩
        simp only [execOp, ho, e1, asBool, Sem.run_bind, Sem.run_pure, Result.andThen_ok]
      · cases h
    · cases h
  · rename_i op T x y T2 ho
    obtain ⟨b, d, q, hf, hq, hb, hd⟩ := ev2_ok hc h hps
    obtain ⟨r, h1, h2⟩ := evBin_ok hΓ hf hq hb hd x y
    exact ⟨r, fun w' _ => execOp_value (by simp only [execOp, ho]) (h1 w'), h2⟩
  · rename_i op T x ho
    obtain ⟨b, q, hf, hq, hb⟩ := ev1_ok hc h hps
    obtain ⟨r, h1, h2⟩ := evUn_ok (Γ := Γ) hf hq hb
    exact ⟨r, fun w' _ => execOp_value (by simp only [execOp, ho]) (h1 w'), h2⟩
  · rename_i src dst x ho
    obtain ⟨b, q, hf, hq, hb⟩ := ev1_ok hc h hps
    obtain ⟨r, h1, h2⟩ := evConvert_ok hΓ hf hq hb
    exact ⟨r, fun w' _ => execOp_value (by simp only [execOp, ho]) (h1 w'), h2⟩
  · rename_i x k ho
    obtain ⟨b, q, hf, hq, hb⟩ := ev1_ok hc h hps
    obtain ⟨r, h1, h2⟩ := evExtract_ok (Γ := Γ) hf hb
    exact ⟨r, fun w' _ => execOp_value (by simp only [execOp, ho]) (h1 w'), h2⟩
  · rename_i T x i ho
    obtain ⟨b, d, q, hf, hq, hb, hd⟩ := ev2g_ok hΓ' hc h hps
    obtain ⟨r, h1, h2⟩ := evIndexAddr_ok hΓ hf hq hb hd
    exact ⟨r, fun w' _ => execOp_value (by simp only [execOp, ho]) (h1 w'), h2⟩
  · rename_i T x i ho
    obtain ⟨b, d, q, hf, hq, hb, hd⟩ := ev2_ok hc h hps
    obtain ⟨r, h1, h2⟩ := evIndex_ok hΓ hf hq hb hd
    exact ⟨r, fun w' _ => execOp_value (by simp only [execOp, ho]) (h1 w'), h2⟩
  · rename_i T x ho
    obtain ⟨b, q, hf, hq, hb⟩ := ev1g_ok hΓ' hc h hps
    obtain ⟨r, h1, h2⟩ := evLoad_ok hΓ hc hf hq hb
    exact ⟨r, fun w' hw => execOp_value (by simp only [execOp, ho]) (h1 w' hw), h2⟩
  · rename_i T x k ho
    obtain ⟨b, q, hf, hq, hb⟩ := ev1g_ok hΓ' hc h hps
    obtain ⟨r, h1, h2⟩ := evFieldAddr_ok hΓ hf hb
    exact ⟨r, fun w' _ => execOp_value (by simp only [execOp, ho]) (h1 w'), h2⟩
  · rename_i T x k ho
    obtain ⟨b, q, hf, hq, hb⟩ := ev1_ok hc h hps
    obtain ⟨r, h1, h2⟩ := evField_ok hΓ hf hb
    exact ⟨r, fun w' _ => execOp_value (by simp only [execOp, ho]) (h1 w'), h2⟩
  · rename_i T x lo hi ho
    split at h
    · rename_i l p h' q hl hh
      split at h
      · rename_i r s hr
        simp only [Option.some.injEq, Prod.mk.injEq] at h
        obtain ⟨rfl, rfl⟩ := h
        obtain ⟨b, q', hf, hq, hb⟩ := ev1_ok hc hr (fun p hp => hps p (by simp [hp]))
        obtain ⟨r', h1, h2⟩ := evSlice_ok hΓ hc hf hq hb (opdo_ok hc hl (fun p hp => hps p (by simp [hp]))) (opdo_ok hc hh (fun p hp => hps p (by simp [hp])))
        exact ⟨r', fun w' _ => execOp_value (by simp only [execOp, ho, Option.map_none]) (h1 w'), h2⟩
      · cases h
    · cases h
  · rename_i T parts ho
    split at h
    · cases h
    split at h
    · rename_i l p hl
      split at h
      · rename_i r q hr
        simp only [Option.some.injEq, Prod.mk.injEq] at h
        obtain ⟨rfl, rfl⟩ := h
        obtain ⟨r', h1, h2⟩ := evBuild_ok hΓ hr (vs := parts.map fun (i, x) => (i, a.eval x)) (by
          have := opdn_ok hc hl (fun p hp => hps p (List.mem_append.2 (.inl hp)))
          rw [Array.toList_map]
          exact this)
        exact ⟨r', fun w' _ => execOp_value (by simp only [execOp, ho]) (h1 w'), h2⟩
      · cases h
    · cases h
  · rename_i f first caps ho
    split at h
    · rename_i l p hfirst hl
      simp only [Option.some.injEq, Prod.mk.injEq] at h
      obtain ⟨rfl, rfl⟩ := h
      have hfe : first = #[] := by
        apply Array.toList_inj.1
        simpa using hfirst
      subst hfe
      refine ⟨.func (.func f) #[] (caps.map a.eval), fun w' _ => execOp_value (s := Instr.makeFunc (.func f) (Array.map a.eval #[]) (caps.map a.eval)) (by simp only [execOp, ho]) (by simp [Instr.makeFunc]), ?_⟩
      simp only [Match]
      exact ⟨caps.toList.map a.eval, by congr 1; apply Array.toList_inj.1; simp, opds_ok hc hl hps⟩
    · cases h
  · rename_i x ho
    obtain ⟨b, q, hf, hq, hb⟩ := ev1_ok hc h hps
    split at hf
    · rename_i hs
      simp only [Option.some.injEq, Prod.mk.injEq] at hf
      obtain ⟨rfl, rfl⟩ := hf
      refine ⟨a.eval x, fun w' _ => ?_, hb⟩
      have hv : (∃ ad, a.eval x = .pointer (some ad)) ∨ ∃ f vs, a.eval x = .func (.func f) #[] vs := by
        cases b <;> first | (cases hs; done) | skip
        · simp only [Match] at hb; obtain ⟨ad, _, h, _⟩ := hb; exact .inl ⟨ad, h⟩
        · simp only [Match] at hb; obtain ⟨g, o, n, cap, _, h⟩ := hb; exact .inl ⟨_, h⟩
        · simp only [Match] at hb; obtain ⟨g, o, n, cap, _, h⟩ := hb; exact .inl ⟨_, h⟩
        · simp only [Match] at hb; obtain ⟨vs, h, _⟩ := hb; exact .inr ⟨_, _, h⟩
      rcases hv with ⟨ad, e⟩ | ⟨f, vs, e⟩
      · simp only [execOp, ho, e, Sem.run_pure]
      · simp only [execOp, ho, e, Sem.run_pure]
    · cases hf
  · rename_i T x y ok ho
    obtain ⟨b, d, q, hf, hq, hb, hd⟩ := ev2_ok hc h hps
    obtain ⟨r, h1, h2⟩ := evLookup_ok hΓ hc hf hb hd
    exact ⟨r, fun w' hw' => execOp_value (s := Instr.lookup T (a.eval x) (a.eval y) ok) (by simp only [execOp, ho]) (h1 w' hw'), h2⟩
  · rename_i x ho
    obtain ⟨b, q, hf, hq, hb⟩ := ev1_ok hc h hps
    obtain ⟨r, h1, h2⟩ := evEntry_ok hc hf hb
    exact ⟨r, fun w' hw' => execOp_value (s := Instr.entry (a.eval x)) (by simp only [execOp, ho]) (h1 w' hw'), h2⟩
  · rename_i c ho
    split at h
    · rename_i x T hcal hargs hty
      obtain ⟨b, q, hf, hq, hb⟩ := ev1_ok hc h hps
      obtain ⟨r, h1, h2⟩ := evLenM_ok hΓ hc hf hb o.type
      have ha : c.args = #[x] := Array.toList_inj.1 (by simpa using hargs)
      have ht : c.argTypes = #[T] := Array.toList_inj.1 (by simpa using hty)
      refine ⟨r, fun w' hw' => ?_, h2⟩
      simp only [execOp, ho, resolve, hcal, Sem.run_bind, Sem.run_pure, Result.andThen_ok, invoke, builtin, ha, ht, List.map_toArray, List.map_cons, List.map_nil, h1 w' hw']
    · rename_i x y hcal hargs
      obtain ⟨b, d, q, hf, hq, hb, hd⟩ := ev2_ok hc h hps
      have ha : c.args = #[x, y] := Array.toList_inj.1 (by simpa using hargs)
      obtain ⟨r, h1, h2⟩ := evMax_ok (Γ := Γ) hf hb hd c.argTypes o.type
      simp only [if_true] at h1
      refine ⟨r, fun w' _ => ?_, h2⟩
      simp only [execOp, ho, resolve, hcal, Sem.run_bind, Sem.run_pure, Result.andThen_ok, invoke, builtin, ha, List.map_toArray, List.map_cons, List.map_nil, h1 w']
    · rename_i x y hcal hargs
      obtain ⟨b, d, q, hf, hq, hb, hd⟩ := ev2_ok hc h hps
      have ha : c.args = #[x, y] := Array.toList_inj.1 (by simpa using hargs)
      obtain ⟨r, h1, h2⟩ := evMax_ok (Γ := Γ) hf hb hd c.argTypes o.type
      simp only [Bool.false_eq_true, if_false] at h1
      refine ⟨r, fun w' _ => ?_, h2⟩
      simp only [execOp, ho, resolve, hcal, Sem.run_bind, Sem.run_pure, Result.andThen_ok, invoke, builtin, ha, List.map_toArray, List.map_cons, List.map_nil, h1 w']
    · cases h
  · cases h
end
end Go.Abs
