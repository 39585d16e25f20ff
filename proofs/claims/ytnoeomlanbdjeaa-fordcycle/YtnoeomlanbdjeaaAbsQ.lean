/- Part of the proof of the law's row: YtnoeomlanbdjeaaAbsQ. -/
import Derived.Test.YtnoeomlanbdjeaaAbsP
set_option linter.all false
set_option linter.unusedVariables false
set_option linter.unusedSimpArgs false
namespace Go.Abs
open Go.RowKit

/-! ### Names -/
mutual
/-- The objects of which a value speaks. -/
def AV.names : AV → List Nat
  | .own s _ _ _ => [s]
  | .full s _ => [s]
  | .optr s _ _ _ => [s]
  | .cptr s => [s]
  | .mptr s => [s]
  | .inn c _ _ _ => [c]
  | .iptr c _ _ _ _ => [c]
  | .lst vs => AV.namess vs
  | .fn _ caps => AV.namess caps
  | .tup vs => AV.namess vs
  | .agg _ vs => AV.namess vs
  | .opt _ v => AV.names v
  | .data _ _ => []
  | .nilS => []
  | .lent _ _ _ _ => []
  | .clip _ _ _ => []
  | .rptr _ _ => []
  | .val _ => []
  | .lenS _ => []
  | .undef => []
def AV.namess : List AV → List Nat
  | [] => []
  | v :: vs => AV.names v ++ AV.namess vs
end
mutual
/-- Other names. -/
def AV.mapN (f : Nat → Nat) : AV → AV
  | .own s t off n => .own (f s) t off n
  | .full s t => .full (f s) t
  | .optr s t j p => .optr (f s) t j p
  | .cptr s => .cptr (f s)
  | .mptr s => .mptr (f s)
  | .inn c i t n => .inn (f c) i t n
  | .iptr c i j t p => .iptr (f c) i j t p
  | .lst vs => .lst (AV.mapNs f vs)
  | .fn g caps => .fn g (AV.mapNs f caps)
  | .tup vs => .tup (AV.mapNs f vs)
  | .agg t vs => .agg t (AV.mapNs f vs)
  | .opt g v => .opt g (AV.mapN f v)
  | .data t x => .data t x
  | .nilS => .nilS
  | .lent e t xs n => .lent e t xs n
  | .clip e t xs => .clip e t xs
  | .rptr t x => .rptr t x
  | .val u => .val u
  | .lenS n => .lenS n
  | .undef => .undef
def AV.mapNs (f : Nat → Nat) : List AV → List AV
  | [] => []
  | v :: vs => AV.mapN f v :: AV.mapNs f vs
end
theorem AV.mapNs_len {f : Nat → Nat} : ∀ vs : List AV, (AV.mapNs f vs).length = vs.length
  | [] => rfl
  | _ :: vs => by simp only [AV.mapNs, List.length_cons, AV.mapNs_len vs]
mutual
theorem match_map {S : Nat → Prop} {w : World} {γ γ' : Nat → Value} {f : Nat → Nat} : ∀ {av : AV} {v : Value}, (∀ s, s ∈ av.names → γ' (f s) = γ s) → Match S w γ av v → Match S w γ' (av.mapN f) v
  | .own s t off n, v, hf, h => by simp only [AV.mapN, Match] at h ⊢; rw [hf s (by simp [AV.names])]; exact h
  | .full s t, v, hf, h => by simp only [AV.mapN, Match] at h ⊢; rw [hf s (by simp [AV.names])]; exact h
  | .optr s t j p, v, hf, h => by simp only [AV.mapN, Match] at h ⊢; rw [hf s (by simp [AV.names])]; exact h
  | .cptr s, v, hf, h => by simp only [AV.mapN, Match] at h ⊢; rw [hf s (by simp [AV.names])]; exact h
  | .mptr s, v, hf, h => by simp only [AV.mapN, Match] at h ⊢; rw [hf s (by simp [AV.names])]; exact h
  | .inn s i t n, v, hf, h => by simp only [AV.mapN, Match] at h ⊢; rw [hf s (by simp [AV.names])]; exact h
  | .iptr s i j t p, v, hf, h => by simp only [AV.mapN, Match] at h ⊢; rw [hf s (by simp [AV.names])]; exact h
  | .lst vs, v, hf, h => by
    simp only [AV.mapN, Match] at h ⊢
    obtain ⟨A, c, h1, us, h2, h3⟩ := h
    have hl : (AV.mapNs f vs).length = vs.length := AV.mapNs_len vs
    exact ⟨A, c, by rw [hl]; exact h1, us, matches_map (fun s hs => hf s (by simpa [AV.names] using hs)) h2, fun h0 => h3 (by rw [hl] at h0; exact h0)⟩
  | .fn g caps, v, hf, h => by
    simp only [AV.mapN, Match] at h ⊢
    obtain ⟨vs, h1, h2⟩ := h
    exact ⟨vs, h1, matches_map (fun s hs => hf s (by simpa [AV.names] using hs)) h2⟩
  | .tup vs, v, hf, h => by
    simp only [AV.mapN, Match] at h ⊢
    obtain ⟨us, h1, h2⟩ := h
    exact ⟨us, h1, matches_map (fun s hs => hf s (by simpa [AV.names] using hs)) h2⟩
  | .agg _ vs, v, hf, h => by
    simp only [AV.mapN, Match] at h ⊢
    obtain ⟨us, h1, h2⟩ := h
    exact ⟨us, h1, matches_map (fun s hs => hf s (by simpa [AV.names] using hs)) h2⟩
  | .opt g av, v, hf, h => by
    simp only [AV.mapN, Match] at h ⊢
    exact ⟨fun hg => match_map (fun s hs => hf s (by simpa [AV.names] using hs)) (h.1 hg), h.2⟩
  | .data t x, v, _, h => by simpa only [AV.mapN, Match] using h
  | .nilS, v, _, h => by simpa only [AV.mapN, Match] using h
  | .lent e t xs n, v, _, h => by simpa only [AV.mapN, Match] using h
  | .clip e t xs, v, _, h => by simpa only [AV.mapN, Match] using h
  | .rptr t x, v, _, h => by simpa only [AV.mapN, Match] using h
  | .val _, v, _, h => by simpa only [AV.mapN, Match] using h
  | .lenS _, v, _, h => by simpa only [AV.mapN, Match] using h
  | .undef, v, _, h => by simp only [AV.mapN, Match]
theorem matches_map {S : Nat → Prop} {w : World} {γ γ' : Nat → Value} {f : Nat → Nat} : ∀ {avs : List AV} {vs : List Value}, (∀ s, s ∈ AV.namess avs → γ' (f s) = γ s) → Matches S w γ avs vs → Matches S w γ' (AV.mapNs f avs) vs
  | [], vs, _, h => by simpa only [AV.mapNs, Matches] using h
  | av :: avs, vs, hf, h => by
    simp only [AV.mapNs, Matches] at h ⊢
    obtain ⟨u, us', h1, h2, h3⟩ := h
    exact ⟨u, us', h1, match_map (fun s hs => hf s (by simp [AV.namess, hs])) h2, matches_map (fun s hs => hf s (by simp [AV.namess, hs])) h3⟩
end
def Ob.names : Ob → List Nat
  | .cell _ v => v.names
  | .rcd _ _ vs => AV.namess vs
  | .deep _ _ c hole => (match hole with
    | some (_, some x) => [c, x]
    | _ => [c])
  | _ => []
def Ob.mapN (f : Nat → Nat) : Ob → Ob
  | .cell e v => .cell e (v.mapN f)
  | .rcd e t vs => .rcd e t (AV.mapNs f vs)
  | .deep e t c hole => .deep e t (f c) (match hole with
    | some (i, some x) => some (i, some (f x))
    | h => h)
  | o => o
theorem Ob.mapN_live {f : Nat → Nat} {o : Ob} : (o.mapN f).live = o.live := by cases o <;> rfl
theorem obOk_map {S : Nat → Prop} {w : World} {γ γ' : Nat → Value} {f : Nat → Nat} {hv : Value} {o : Ob} (hf : ∀ s, s ∈ o.names → γ' (f s) = γ s) (h : ObOk S w γ hv o) : ObOk S w γ' hv (o.mapN f) := by
  cases o with
  | row e t xs fro => exact h
  | map k e tk te l f => exact h
  | iter k e tk te l f => exact h
  | cell e av =>
    obtain ⟨⟨u, h1, h2, h4⟩, h3⟩ := h
    exact ⟨⟨u, h1, match_map hf h2, h4⟩, h3⟩
  | rcd e t vs =>
    obtain ⟨⟨u, h1, h2, h4⟩, h3⟩ := h
    exact ⟨⟨u, h1, matches_map hf h2, h4⟩, h3⟩
  | deep e t c hole =>
    obtain ⟨⟨us, cs, k1, k2, k3⟩, k4⟩ := h
    refine ⟨⟨us, cs, ?_, k2, ?_⟩, k4⟩
    · rw [hf c (by simp only [Ob.names]; split <;> simp)]; exact k1
    · rcases hole with _ | ⟨i, _ | x⟩
      · exact k3
      · exact k3
      · simp only [HoleOk] at k3 ⊢
        rw [hf x (by simp [Ob.names])]; exact k3
  | fam e t xss => exact h
  | dead => trivial

/-! ### Contracts -/
abbrev Hp := List (Nat × Ob)
def Ob.loose : Ob → Bool
  | .row _ _ _ f => !f
  | .map _ _ _ _ _ f => !f
  | _ => true
structure HOk (S : Nat → Prop) (w : World) (γ : Nat → Value) (H : Hp) : Prop where
  obj : ∀ s o, get H s = some o → ObOk S w γ (γ s) o
  dis : ∀ s s' o o', get H s = some o → get H s' = some o' → o.live = true → o'.live = true → s ≠ s' → ∀ k, Blk (γ s) k → ¬ Blk (γ s') k
def Mof (γ : Nat → Value) (H : Hp) (k : Nat) : Prop := ∃ s o, get H s = some o ∧ o.live = true ∧ Blk (γ s) k
/-- What holds behind a call. -/
structure Done (S : Nat → Prop) (w : World) (γ : Nat → Value) (H : Hp) (r : AV) (H' : Hp) (post : List (Nat × AV)) (vs : List Value) (v : Value) (S' : Nat → Prop) (γ' : Nat → Value) (w' : World) : Prop where
  os : w'.os = w.os
  tape : w'.tape = w.tape
  output : w'.output = w.output
  size : w.heap.size ≤ w'.heap.size
  old : ∀ b, b < w.heap.size → ¬ Mof γ H b → w'.heap[b]? = w.heap[b]?
  sub : ∀ b, S b → S' b
  sold : ∀ b, S' b → b < w.heap.size → S b ∨ Mof γ H b
  slt : ∀ b, S' b → b < w'.heap.size
  res : Match S' w' γ' r v
  heap : HOk S' w' γ' H'
  fresh : ∀ s o, get H' s = some o → o.live = true → ∀ k, Blk (γ' s) k → Mof γ H k ∨ w.heap.size ≤ k
  post : ∀ i av, get post i = some av → ∃ u, vs[i]? = some u ∧ Match S' w' γ' av u
/-- A function, called with such values and objects, gives that. -/
def FnH (P : Program) (gl : List (Nat × AV)) (f : FuncId) (pre : List AV) (H : Hp) (r : AV) (H' : Hp) (post : List (Nat × AV)) : Prop :=
  ∀ (S : Nat → Prop) (w : World) (γ : Nat → Value) (vs : List Value), (∀ b, S b → b < w.heap.size) → GOk gl S w → Matches S w γ pre vs → HOk S w γ H → (∀ s o, get H s = some o → o.loose = true) →
    Calls P f vs.toArray w fun e w' => ∃ v S' γ', e = .returned v ∧ Done S w γ H r H' post vs v S' γ' w'

/-- A function's contract, all that it can do: what it reads as data; what it gives. -/
structure Sig where
  lend : List Bool
  run : (R : Type) → List AV → Hp → ((AV × Hp × List (Nat × AV)) → Option R) → Option R
structure SigOk (P : Program) (gl : List (Nat × AV)) (f : FuncId) (sig : Sig) : Prop where
  run : ∀ (R : Type) pre H k (x : R), sig.run R pre H k = some x → ∃ r H' post, FnH P gl f pre H r H' post ∧ k (r, H', post) = some x
abbrev Sigs := List (Nat × Sig)
def Callable (P : Program) (f : FuncId) : Prop := ∃ fn, P.funcs[f]? = some fn ∧ fn.body.isSome = true ∧ (fn.name == "runtime.NumGoroutine") = false
def SigsOk (P : Program) (gl : List (Nat × AV)) (Φ : Sigs) : Prop := ∀ f sig, get Φ f = some sig → Callable P f ∧ SigOk P gl f sig

/-! ### What is handed in -/
def passAVs (st : St) : List Bool → List AV → Option (List AV × St × List Prop)
  | _, [] => some ([], st, [])
  | [], av :: avs => (match passAVs st [] avs with
    | some (bs, st2, q) => some (av :: bs, st2, q)
    | none => none)
  | false :: fl, av :: avs => (match passAVs st fl avs with
    | some (bs, st2, q) => some (av :: bs, st2, q)
    | none => none)
  | true :: fl, av :: avs => (match lendAV st av with
    | some (b, st1, p) => (match passAVs st1 fl avs with
      | some (bs, st2, q) => some (b :: bs, st2, p ++ q)
      | none => none)
    | none => none)
theorem lendAV_fix {st st' : St} {av b : AV} {ps : List Prop} (h : lendAV st av = some (b, st', ps)) : st'.fix = st.fix ∧ st'.nt = st.nt := by
  unfold lendAV at h
  split at h
  · exact pureAV_fix h
  · split at h
    · split at h
      · simp only [Option.some.injEq, Prod.mk.injEq] at h
        obtain ⟨rfl, rfl, rfl⟩ := h
        exact ⟨rfl, rfl⟩
      · cases h
    · cases h
  · split at h
    · split at h
      · simp only [Option.some.injEq, Prod.mk.injEq] at h
        obtain ⟨rfl, rfl, rfl⟩ := h
        exact ⟨rfl, rfl⟩
      · cases h
    · cases h
  · split at h
    · simp only [Option.some.injEq, Prod.mk.injEq] at h
      obtain ⟨rfl, rfl, rfl⟩ := h
      exact ⟨rfl, rfl⟩
    · cases h
  · split at h
    · simp only [Option.some.injEq, Prod.mk.injEq] at h
      obtain ⟨rfl, rfl, rfl⟩ := h
      exact ⟨rfl, rfl⟩
    · cases h
section
variable {P : Program} {S : Nat → Prop} {w : World} {γ : Nat → Value} {Γ : Env} {w0 : World} {M S0 : Nat → Prop} {st : St} {a : Act}
theorem passAVs_ok : ∀ {fl : List Bool} {avs bs : List AV} {st st' : St} {ps : List Prop} {S : Nat → Prop} {vs : List Value}, Core w0 M S0 S γ st a w → passAVs st fl avs = some (bs, st', ps) → (∀ p ∈ ps, p) → Matches S w γ avs vs →
    ∃ S', (∀ k, S k → S' k) ∧ Core w0 M S0 S' γ st' a w ∧ Matches S' w γ bs vs ∧ st'.nt = st.nt ∧ st'.fix = st.fix
  | fl, [], bs, st, st', ps, S, vs, hc, h, _, hm => by
    have h : some (([] : List AV), st, ([] : List Prop)) = some (bs, st', ps) := by cases fl with
      | nil => simpa only [passAVs] using h
      | cons b fl => cases b <;> simpa only [passAVs] using h
    simp only [Option.some.injEq, Prod.mk.injEq] at h
    obtain ⟨rfl, rfl, rfl⟩ := h
    exact ⟨S, fun _ h => h, hc, by simpa only [Matches] using hm, rfl, rfl⟩
  | [], av :: avs, bs, st, st', ps, S, vs, hc, h, hps, hm => by
    unfold passAVs at h
    split at h
    · rename_i bs' st2 q hbs
      simp only [Option.some.injEq, Prod.mk.injEq] at h
      obtain ⟨rfl, rfl, rfl⟩ := h
      simp only [Matches] at hm
      obtain ⟨u, us', rfl, h1, h2⟩ := hm
      obtain ⟨S2, l1, l2, l3, l4, l5⟩ := passAVs_ok hc hbs hps h2
      refine ⟨S2, l1, l2, ?_, l4, l5⟩
      simp only [Matches]
      exact ⟨u, us', rfl, h1.mono l1 (fun _ _ => rfl) (fun _ _ => rfl), l3⟩
    · cases h
  | false :: fl, av :: avs, bs, st, st', ps, S, vs, hc, h, hps, hm => by
    unfold passAVs at h
    split at h
    · rename_i bs' st2 q hbs
      simp only [Option.some.injEq, Prod.mk.injEq] at h
      obtain ⟨rfl, rfl, rfl⟩ := h
      simp only [Matches] at hm
      obtain ⟨u, us', rfl, h1, h2⟩ := hm
      obtain ⟨S2, l1, l2, l3, l4, l5⟩ := passAVs_ok hc hbs hps h2
      refine ⟨S2, l1, l2, ?_, l4, l5⟩
      simp only [Matches]
      exact ⟨u, us', rfl, h1.mono l1 (fun _ _ => rfl) (fun _ _ => rfl), l3⟩
    · cases h
  | true :: fl, av :: avs, bs, st, st', ps, S, vs, hc, h, hps, hm => by
    unfold passAVs at h
    split at h
    · rename_i b st1 p hb
      split at h
      · rename_i bs' st2 q hbs
        simp only [Option.some.injEq, Prod.mk.injEq] at h
        obtain ⟨rfl, rfl, rfl⟩ := h
        simp only [Matches] at hm
        obtain ⟨u, us', rfl, h1, h2⟩ := hm
        obtain ⟨S1, k1, k2, k3, k4, k5⟩ := lendAV_ok hc hb (fun p hp => hps p (List.mem_append.2 (.inl hp))) h1
        obtain ⟨S2, l1, l2, l3, l4, l5⟩ := passAVs_ok k2 hbs (fun p hp => hps p (List.mem_append.2 (.inr hp))) (h2.mono k1 (fun _ _ => rfl) (fun _ _ => rfl))
        refine ⟨S2, fun k hk => l1 k (k1 k hk), l2, ?_, l4.trans k5, l5.trans (lendAV_fix hb).1⟩
        simp only [Matches]
        exact ⟨u, us', rfl, k3.mono l1 (fun _ _ => rfl) (fun _ _ => rfl), l3⟩
      · cases h
    · cases h
end
/-- The rows of a struct's slices, by its name and theirs. -/
def fld (s k : Nat) : Nat := 100000 + (100 * s + k)
def fldNames (s : Nat) : List AV → Nat → List (Nat × Nat)
  | [], _ => []
  | .full c _ :: vs, k => (c, fld s k) :: fldNames s vs (k + 1)
  | _ :: vs, k => fldNames s vs (k + 1)
/-- Which of the caller's objects are handed in: (the caller's name, the callee's). A variable's row goes with it. -/
def namesIn (st : St) : List Nat → Nat → List (Nat × Nat)
  | [], _ => []
  | s :: ss, k => (match get st.heap s with
    | some (.cell _ (.full c _)) => (s, 1000 + k) :: (c, 1500 + k) :: namesIn st ss (k + 1)
    | some (.cell _ (.mptr c)) => (s, 1000 + k) :: (c, 1500 + k) :: namesIn st ss (k + 1)
    | some (.rcd _ _ vs) => (s, 1000 + k) :: (fldNames (1000 + k) vs 0 ++ namesIn st ss (k + 1))
    | _ => (s, 1000 + k) :: namesIn st ss (k + 1))
def fwd (mp : List (Nat × Nat)) (s : Nat) : Nat := (get mp s).getD 0
def flip (mp : List (Nat × Nat)) : List (Nat × Nat) := mp.map fun p => (p.2, p.1)
def bwd (mp : List (Nat × Nat)) (d : Nat) (n : Nat) : Nat := (get (flip mp) n).getD (10000 + 100 * d + n)
/-- The objects that are handed in, by the callee's names. -/
def heapIn (st : St) (mp : List (Nat × Nat)) : List (Nat × Nat) → Option Hp
  | [] => some []
  | (s, n) :: r => (match get st.heap s, heapIn st mp r with
    | some o, some H => if o.loose && (o.live && (o.names.all fun x => (get mp x).isSome)) then some ((n, o.mapN (fwd mp)) :: H) else none
    | _, _ => none)
def keys {α : Type} (l : List (Nat × α)) : List Nat := l.map (·.1)
mutual
/-- A value that a call leaves as it was. -/
def AV.keepB (bad ptr : Nat → Bool) : AV → Bool
  | .own s _ _ _ => !bad s
  | .full s _ => !bad s
  | .optr s _ _ _ => !bad s || ptr s
  | .cptr s => !bad s || ptr s
  | .mptr s => !bad s
  | .inn c _ _ _ => !bad c
  | .iptr c _ _ _ _ => !bad c
  | .lst vs => AV.keepsB bad ptr vs
  | .fn _ caps => AV.keepsB bad ptr caps
  | .tup vs => AV.keepsB bad ptr vs
  | .agg _ vs => AV.keepsB bad ptr vs
  | .opt _ v => AV.keepB bad ptr v
  | .data _ _ => true
  | .nilS => true
  | .lent _ _ _ _ => true
  | .clip _ _ _ => true
  | .rptr _ _ => true
  | .val _ => true
  | .lenS _ => true
  | .undef => true
def AV.keepsB (bad ptr : Nat → Bool) : List AV → Bool
  | [] => true
  | v :: vs => AV.keepB bad ptr v && AV.keepsB bad ptr vs
end
def SameBlock (x y : Value) : Prop := ∀ g o n c, x = .slice (some ⟨g, o, none⟩) n c → ∃ n' c', y = .slice (some ⟨g, o, none⟩) n' c'
mutual
theorem match_keep {S S' : Nat → Prop} {w w' : World} {γ γ' : Nat → Value} {bad ptr : Nat → Bool} (hS : ∀ b, S b → S' b) (ha : Agree S w w') (hb : ∀ s, bad s = false → γ' s = γ s) (hp : ∀ s, ptr s = true → SameBlock (γ s) (γ' s)) :
    ∀ {av : AV} {v : Value}, av.keepB bad ptr = true → Match S w γ av v → Match S' w' γ' av v
  | .own s t off n, v, hk, h => h.mono hS ha (fun s' hs => by
    simp only [AV.has, beq_iff_eq] at hs
    simp only [AV.keepB, Bool.not_eq_true'] at hk
    subst hs
    exact hb _ hk)
  | .full s t, v, hk, h => h.mono hS ha (fun s' hs => by
    simp only [AV.has, beq_iff_eq] at hs
    simp only [AV.keepB, Bool.not_eq_true'] at hk
    subst hs
    exact hb _ hk)
  | .optr s t j p, v, hk, h => by
    simp only [AV.keepB, Bool.or_eq_true, Bool.not_eq_true'] at hk
    simp only [Match] at h ⊢
    obtain ⟨g, o, n, cap, h1, h2⟩ := h
    rcases hk with hk | hk
    · exact ⟨g, o, n, cap, by rw [hb s hk]; exact h1, h2⟩
    · obtain ⟨n', c', h3⟩ := hp s hk g o n cap h1
      exact ⟨g, o, n', c', h3, h2⟩
  | .cptr s, v, hk, h => by
    simp only [AV.keepB, Bool.or_eq_true, Bool.not_eq_true'] at hk
    simp only [Match] at h ⊢
    obtain ⟨g, o, n, cap, h1, h2⟩ := h
    rcases hk with hk | hk
    · exact ⟨g, o, n, cap, by rw [hb s hk]; exact h1, h2⟩
    · obtain ⟨n', c', h3⟩ := hp s hk g o n cap h1
      exact ⟨g, o, n', c', h3, h2⟩
  | .inn s i t n, v, hk, h => h.mono hS ha (fun s' hs => by
    simp only [AV.has, beq_iff_eq] at hs
    simp only [AV.keepB, Bool.not_eq_true'] at hk
    subst hs
    exact hb _ hk)
  | .iptr s i j t p, v, hk, h => h.mono hS ha (fun s' hs => by
    simp only [AV.has, beq_iff_eq] at hs
    simp only [AV.keepB, Bool.not_eq_true'] at hk
    subst hs
    exact hb _ hk)
  | .mptr s, v, hk, h => h.mono hS ha (fun s' hs => by
    simp only [AV.has, beq_iff_eq] at hs
    simp only [AV.keepB, Bool.not_eq_true'] at hk
    subst hs
    exact hb _ hk)
  | .lst vs, v, hk, h => by
    simp only [AV.keepB] at hk
    simp only [Match] at h ⊢
    obtain ⟨A, c, h1, us, h2, h3⟩ := h
    refine ⟨A, c, h1, us, matches_keep hS ha hb hp hk h2, fun h0 => ?_⟩
    obtain ⟨ad, g1, g2, g3, g4⟩ := h3 h0
    exact ⟨ad, g1, g2, hS _ g3, fun k u hk => (World.cell?_of_block (a := ⟨ad.block, _, none⟩) (ha _ g3)).trans (g4 k u hk)⟩
  | .fn g caps, v, hk, h => by
    simp only [AV.keepB] at hk
    simp only [Match] at h ⊢
    obtain ⟨vs, h1, h2⟩ := h
    exact ⟨vs, h1, matches_keep hS ha hb hp hk h2⟩
  | .tup vs, v, hk, h => by
    simp only [AV.keepB] at hk
    simp only [Match] at h ⊢
    obtain ⟨us, h1, h2⟩ := h
    exact ⟨us, h1, matches_keep hS ha hb hp hk h2⟩
  | .agg _ vs, v, hk, h => by
    simp only [AV.keepB] at hk
    simp only [Match] at h ⊢
    obtain ⟨us, h1, h2⟩ := h
    exact ⟨us, h1, matches_keep hS ha hb hp hk h2⟩
  | .opt g av, v, hk, h => by
    simp only [AV.keepB] at hk
    simp only [Match] at h ⊢
    exact ⟨fun hg => match_keep hS ha hb hp hk (h.1 hg), h.2⟩
  | .data t x, v, _, h => h.mono hS ha (fun s hs => by simp [AV.has] at hs)
  | .nilS, v, _, h => h.mono hS ha (fun s hs => by simp [AV.has] at hs)
  | .lent e t xs n, v, _, h => h.mono hS ha (fun s hs => by simp [AV.has] at hs)
  | .clip e t xs, v, _, h => h.mono hS ha (fun s hs => by simp [AV.has] at hs)
  | .rptr t x, v, _, h => h.mono hS ha (fun s hs => by simp [AV.has] at hs)
  | .val _, v, _, h => h.mono hS ha (fun s hs => by simp [AV.has] at hs)
  | .lenS _, v, _, h => h.mono hS ha (fun s hs => by simp [AV.has] at hs)
  | .undef, v, _, h => by simp only [Match]
theorem matches_keep {S S' : Nat → Prop} {w w' : World} {γ γ' : Nat → Value} {bad ptr : Nat → Bool} (hS : ∀ b, S b → S' b) (ha : Agree S w w') (hb : ∀ s, bad s = false → γ' s = γ s) (hp : ∀ s, ptr s = true → SameBlock (γ s) (γ' s)) :
    ∀ {avs : List AV} {vs : List Value}, AV.keepsB bad ptr avs = true → Matches S w γ avs vs → Matches S' w' γ' avs vs
  | [], vs, _, h => by simpa only [Matches] using h
  | av :: avs, vs, hk, h => by
    simp only [AV.keepsB, Bool.and_eq_true] at hk
    simp only [Matches] at h ⊢
    obtain ⟨u, us', h1, h2, h3⟩ := h
    exact ⟨u, us', h1, match_keep hS ha hb hp hk.1 h2, matches_keep hS ha hb hp hk.2 h3⟩
end
def Ob.keep (bad ptr : Nat → Bool) : Ob → Ob
  | .cell e v => if v.keepB bad ptr then .cell e v else .cell e .undef
  | .rcd e t vs => .rcd e t (vs.map fun v => if v.keepB bad ptr then v else .undef)
  | .deep e t c hole => if bad c then .dead else .deep e t c (match hole with
    | some (i, some x) => if bad x then some (i, none) else some (i, some x)
    | h => h)
  | o => o
theorem Ob.keep_live {bad ptr : Nat → Bool} {o : Ob} (h : (o.keep bad ptr).live = true) : o.live = true := by
  cases o with
  | dead => exact h
  | _ => rfl
end Go.Abs
