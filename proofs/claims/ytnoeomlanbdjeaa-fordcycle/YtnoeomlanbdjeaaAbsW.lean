/- Part of the proof of the law's row: YtnoeomlanbdjeaaAbsW. -/
import Derived.Test.YtnoeomlanbdjeaaAbsV5
import Derived.ScopeJumps
set_option linter.all false
set_option linter.unusedVariables false
set_option linter.unusedSimpArgs false
namespace Go.Abs
open Go.RowKit
open Go.ChangeMaps (setBlock)

/-! ### Loops -/
def iter {σ ρ : Type} (B : σ → Option (σ ⊕ ρ)) : Nat → σ → Option ρ
  | 0, _ => none
  | n + 1, s => match B s with
    | none => none
    | some (.inl s') => iter B n s'
    | some (.inr r) => some r
open Classical in
/-- What a loop gives, if it ends. -/
noncomputable def loopC {σ ρ : Type} (B : σ → Option (σ ⊕ ρ)) (s : σ) : Option ρ := if h : ∃ n, (iter B n s).isSome = true then iter B (Classical.choose h) s else none
theorem iter_mono {σ ρ : Type} {B : σ → Option (σ ⊕ ρ)} : ∀ {n m : Nat} {s : σ} {r : ρ}, iter B n s = some r → n ≤ m → iter B m s = some r
  | 0, _, _, _, h, _ => by simp [iter] at h
  | n + 1, 0, _, _, _, h => by omega
  | n + 1, m + 1, s, r, h, hle => by
    unfold iter at h ⊢
    split at h
    · cases h
    · exact iter_mono h (by omega)
    · exact h
theorem loopC_some {σ ρ : Type} {B : σ → Option (σ ⊕ ρ)} {s : σ} {r : ρ} : loopC B s = some r ↔ ∃ n, iter B n s = some r := by
  unfold loopC
  constructor
  · intro h
    split at h
    · exact ⟨_, h⟩
    · cases h
  · rintro ⟨n, hn⟩
    have hex : ∃ n, (iter B n s).isSome = true := ⟨n, by rw [hn]; rfl⟩
    rw [dif_pos hex]
    obtain ⟨r', hr'⟩ := Option.isSome_iff_exists.1 (Classical.choose_spec hex)
    rw [hr']
    have h1 := iter_mono hr' (Nat.le_max_left (Classical.choose hex) n)
    have h2 := iter_mono hn (Nat.le_max_right (Classical.choose hex) n)
    rw [h1] at h2
    exact h2
theorem loopC_eq {σ ρ : Type} (B : σ → Option (σ ⊕ ρ)) (s : σ) : loopC B s = match B s with
    | none => none
    | some (.inl s') => loopC B s'
    | some (.inr r) => some r := by
  apply Option.ext
  intro r
  rw [loopC_some]
  constructor
  · rintro ⟨n, hn⟩
    cases n with
    | zero => simp [iter] at hn
    | succ n =>
      unfold iter at hn
      split at hn
      · cases hn
      · rename_i h; exact loopC_some.2 ⟨n, hn⟩
      · exact hn
  · intro h
    cases hB : B s with
    | none => rw [hB] at h; cases h
    | some o =>
      rw [hB] at h
      cases o with
      | inl s' =>
        obtain ⟨n, hn⟩ := loopC_some.1 h
        exact ⟨n + 1, by unfold iter; rw [hB]; exact hn⟩
      | inr r' => exact ⟨1, by unfold iter; rw [hB]; exact h⟩
/-- A loop whose every round comes nearer to its end. -/
theorem loopC_ends {σ ρ : Type} {B : σ → Option (σ ⊕ ρ)} (I : σ → Prop) (μ : σ → Nat) (Q : ρ → Prop) (h : ∀ s, I s → (∃ s', B s = some (.inl s') ∧ I s' ∧ μ s' < μ s) ∨ ∃ r, B s = some (.inr r) ∧ Q r) : ∀ s, I s → ∃ r, loopC B s = some r ∧ Q r := by
  intro s
  generalize hn : μ s = n
  induction n using Nat.strongRecOn generalizing s with
  | _ n ih =>
    intro hI
    rcases h s hI with ⟨s', h1, h2, h3⟩ | ⟨r, h1, h2⟩
    · obtain ⟨r, h4, h5⟩ := ih (μ s') (by omega) s' rfl h2
      exact ⟨r, by rw [loopC_eq, h1]; exact h4, h5⟩
    · exact ⟨r, by rw [loopC_eq, h1], h2⟩

/-! ### Code -/
def dsts : Code → List Nat
  | .region _ ops _ => ops.toList.filterMap (·.dst)
  | .seq a b => dsts a ++ dsts b
  | .cond _ a b => dsts a ++ dsts b
  | .block _ c => dsts c
  | .loop c => dsts c
  | .scope c => dsts c
  | .rangeFunc _ ps a b => ps.toList ++ (dsts a ++ dsts b)
  | .skip => []
  | .exit _ => []
  | .label _ => []
  | .goto _ => []
  | .ret => []
  | .refuse _ => []
def exitsOf (id : Nat) : Code → Nat
  | .seq a b => exitsOf id a + exitsOf id b
  | .cond _ a b => exitsOf id a + exitsOf id b
  | .block _ c => exitsOf id c
  | .loop c => exitsOf id c
  | .scope c => exitsOf id c
  | .exit i => if i = id then 1 else 0
  | .region _ _ _ => 0
  | .rangeFunc _ _ _ _ => 0
  | .skip => 0
  | .label _ => 0
  | .goto _ => 0
  | .ret => 0
  | .refuse _ => 0
/-- In how many ways a code comes to its end. -/
def paths : Code → Nat
  | .seq a b => paths a * paths b
  | .cond _ a b => paths a + paths b
  | .block id c => paths c + exitsOf id c
  | .loop _ => 0
  | .scope c => paths c
  | .exit _ => 0
  | .region _ _ _ => 1
  | .rangeFunc _ _ _ _ => 1
  | .skip => 1
  | .label _ => 1
  | .goto _ => 0
  | .ret => 0
  | .refuse _ => 0
def cost : Code → Nat
  | .seq a b => cost a + cost b
  | .cond _ a b => cost a + cost b + 1
  | .block _ c => cost c
  | .loop c => cost c
  | .scope c => cost c
  | .region _ ops _ => ops.size
  | .exit _ => 0
  | .rangeFunc _ _ _ _ => 1
  | .skip => 0
  | .label _ => 0
  | .goto _ => 0
  | .ret => 0
  | .refuse _ => 0
def joins (J : Nat) (a b : Code) : Bool := decide (2 ≤ paths a) && decide (J ≤ cost b)
def dedup {α : Type} : List (Nat × α) → List Nat → List (Nat × α)
  | [], _ => []
  | (i, v) :: r, seen => if seen.contains i then dedup r seen else (i, v) :: dedup r (i :: seen)
theorem dedup_mem {α : Type} : ∀ {l : List (Nat × α)} {seen : List Nat} {i : Nat} {v : α}, (i, v) ∈ dedup l seen → i ∉ seen ∧ get l i = some v
  | [], _, _, _, h => by simp [dedup] at h
  | (k, u) :: r, seen, i, v, h => by
    unfold dedup at h
    split at h
    · rename_i hk
      obtain ⟨h1, h2⟩ := dedup_mem h
      refine ⟨h1, ?_⟩
      simp only [get]
      rw [if_neg (by rintro rfl; exact h1 (by simpa using hk))]
      exact h2
    · rename_i hk
      rcases List.mem_cons.1 h with h | h
      · injection h with h1 h2
        subst h1 h2
        exact ⟨by simpa using hk, by simp [get]⟩
      · obtain ⟨h1, h2⟩ := dedup_mem h
        simp only [List.mem_cons, not_or] at h1
        refine ⟨h1.2, ?_⟩
        simp only [get]
        rw [if_neg h1.1]
        exact h2
def tmpsM : List Operand → Nat → Nat
  | [], m => m
  | .tmp t :: r, m => tmpsM r (Nat.lor (Nat.shiftLeft 1 t) m)
  | _ :: r, m => tmpsM r m
def opsM : List Oper → Nat → Nat
  | [], m => m
  | o :: r, m => opsM r (tmpsM o.op.operands.toList m)
/-- The temporaries that a piece of code uses, as bits. -/
def useM : Code → Nat → Nat
  | .region _ ops _, m => opsM ops.toList m
  | .seq a b, m => useM a (useM b m)
  | .cond c a b, m => (match c with
    | .tmp t => Nat.lor (Nat.shiftLeft 1 t) (useM a (useM b m))
    | _ => useM a (useM b m))
  | .block _ c, m => useM c m
  | .loop c, m => useM c m
  | .scope c, m => useM c m
  | .rangeFunc _ _ a b, m => useM a (useM b m)
  | .skip, m => m
  | .exit _, m => m
  | .label _, m => m
  | .goto _, m => m
  | .ret, m => m
  | .refuse _, m => m
def liveB (L i : Nat) : Bool := Nat.beq (Nat.mod (Nat.shiftRight L i) 2) 1
def clearB (m d : Nat) : Nat := if Nat.beq (Nat.mod (Nat.shiftRight m d) 2) 1 then Nat.xor m (Nat.shiftLeft 1 d) else m
/-- What is live ahead of some operations. -/
def opsL : List Oper → Nat → Nat
  | [], m => m
  | o :: r, m => tmpsM o.op.operands.toList (match o.dst, o.guard with
    | some d, none => clearB (opsL r m) d
    | _, _ => opsL r m)
def exM : List (Nat × Nat) → Nat → Nat
  | [], _ => 0
  | (i, m) :: r, k => if i = k then m else exM r k
/-- What is live ahead of a piece of code: 'm' behind it, 'ex' behind each block, 'rt' at the end. -/
def liveI : Code → Nat → List (Nat × Nat) → Nat → Nat
  | .region _ ops _, m, _, _ => opsL ops.toList m
  | .seq a b, m, ex, rt => liveI a (liveI b m ex rt) ex rt
  | .cond c a b, m, ex, rt => (match c with
    | .tmp t => Nat.lor (Nat.shiftLeft 1 t) (Nat.lor (liveI a m ex rt) (liveI b m ex rt))
    | _ => Nat.lor (liveI a m ex rt) (liveI b m ex rt))
  | .block id c, m, ex, rt => liveI c m ((id, m) :: ex) rt
  | .loop c, _, ex, rt => liveI c 0 ex rt
  | .scope c, m, ex, rt => liveI c m ex rt
  | .rangeFunc _ _ a b, m, ex, rt => liveI a (liveI b m ex rt) ex rt
  | .skip, m, _, _ => m
  | .exit id, _, ex, _ => exM ex id
  | .label _, m, _, _ => m
  | .goto l, _, ex, _ => exM ex (1000000 + l)
  | .ret, _, _, rt => rt
  | .refuse _, m, _, _ => m
/-- What is live behind a piece of code. -/
structure Lv where
  m : Nat
  ex : List (Nat × Nat) := []
  rt : Nat := 0
/-- The values that a piece of code leaves as they are. -/
def moved (L : Nat) (asg : List Nat) (st : St) : List (Nat × AV) := (dedup st.slots []).filter fun p => liveB L p.1 && (!asg.contains p.1 && (p.2.pure && (get st.fix p.1).isNone))
def kindS : AV → Option SK
  | .data t _ => some (.data t)
  | .own s t _ _ => some (.own s t)
  | .optr _ _ (some _) _ => none
  | av => if AV.eqB av av then some (.same av) else none
/-- How loops and joins are read: what is behind many ways is joined if it costs so much; the slices that are kept as parts of rows. -/
structure Opt where
  J : Nat
  own : List Nat := []
  /-- rows that are written no more, from a loop on -/
  frz : List Nat := []
  /-- what is live is told closely -/
  lv : Bool := false
  /-- slices that are data where ways meet -/
  dat : List Nat := []
  /-- rows that are written no more from a region on (by the region, as there) -/
  frr : List Nat := []
def frzAll : List Nat → St → St
  | [], st => st
  | s :: r, st => (match get st.heap s with
    | some (.row e t xs _) => frzAll r { st with heap := (s, .row e t xs true) :: st.heap }
    | some (.deep _ _ _ _) => (match frzD st s with
      | some st' => frzAll r st'
      | none => frzAll r st)
    | some (.rcd e t vs) => (match gather t vs with
      | some x => frzAll r { st with heap := (s, .row e t [x] true) :: (s, .row e t [x] false) :: st.heap }
      | none => frzAll r st)
    | some (.map k e tk te l _) => frzAll r { st with heap := (s, .map k e tk te l true) :: st.heap }
    | _ => frzAll r st)
def ownK (O : Opt) (i : Nat) : AV → Option SK
  | .full s t => if O.own.contains i then some (.own s t) else kindS (.full s t)
  | av => kindS av
def kindsS (O : Opt) : List (Nat × AV) → List (Nat × SK)
  | [] => []
  | (i, av) :: r => (match ownK O i av with
    | some k => (i, k) :: kindsS O r
    | none => kindsS O r)
def isVar (s : Nat) : List (Nat × AV) → Bool
  | [] => false
  | (_, .optr s' _ none _) :: r => s' == s || isVar s r
  | _ :: r => isVar s r
def kindsC : List AV → List CK
  | [] => []
  | .data t _ :: r => .data t :: kindsC r
  | av :: r => (if AV.eqB av av then .same av else .same .undef) :: kindsC r
def kindO (s : Nat) (l : List (Nat × AV)) : Ob → Option OK
  | .row e t _ f => some (if isVar s l then .var e t else .row e t f)
  | .cell e (.data t _) => some (.cdata e t)
  | .cell e (.optr _ _ (some _) _) => some (.csame e .undef)
  | .cell e av => if AV.eqB av av then some (.csame e av) else some (.csame e .undef)
  | .rcd e t vs => some (.rcd e t (kindsC vs))
  | .map k e tk te _ f => some (.map k e tk te f)
  | .deep e t c _ => some (.deep e t c)
  | .fam e t _ => some (.fam e t)
  | .iter _ _ _ _ _ _ => none
  | .dead => none
def kindsO (l : List (Nat × AV)) (refs : List Nat) : Hp → List (Nat × OK)
  | [] => []
  | (s, o) :: r => if refs.contains s then (match kindO s l o with
    | some k => (s, k) :: kindsO l refs r
    | none => kindsO l refs r) else kindsO l refs r
def inCells (refs : List Nat) : Hp → List Nat
  | [] => []
  | (s, o) :: r => if refs.contains s then o.names ++ inCells refs r else inCells refs r
def stays (L : Nat) (asg : List Nat) (st : St) : List (Nat × AV) := (dedup st.slots []).filter fun p => liveB L p.1 && !(!asg.contains p.1 && (p.2.pure && (get st.fix p.1).isNone))
def handedK (O : Opt) (H : Hp) : List Nat := if O.lv then (keys H).filter (fun k => decide (1000 ≤ k) && decide (k < 10000)) else []
def tplOn (O : Opt) (l : List (Nat × AV)) (H : Hp) : Tpl :=
  (kindsS O l, kindsO l (AV.namess (l.map (·.2)) ++ (inCells (AV.namess (l.map (·.2))) H ++ handedK O H)) H)
def datL (O : Opt) (H : Hp) : List (Nat × AV) → List (Nat × AV)
  | [] => []
  | (i, av) :: r => (if O.dat.contains i then (match av with
    | .full s t => (match get H s with
      | some (.row e t' _ _) => (i, .data (.sl e t') [])
      | _ => (i, .full s t))
    | av => (i, av)) else (i, av)) :: datL O H r
def tplWith (O : Opt) (l0 : List (Nat × AV)) (H : Hp) : Tpl := tplOn O (datL O H l0) H
def tplOf (O : Opt) (L : Nat) (asg : List Nat) (st : St) : Tpl := tplWith O (stays L asg st) (dedup st.heap [])
def usesOf : Code → List Nat
  | .region _ ops _ => ops.toList.flatMap fun o => o.op.operands.toList.filterMap fun x => match x with
    | .tmp t => some t
    | _ => none
  | .seq a b => usesOf a ++ usesOf b
  | .cond c a b => (match c with
    | .tmp t => [t]
    | _ => []) ++ (usesOf a ++ usesOf b)
  | .block _ c => usesOf c
  | .loop c => usesOf c
  | .scope c => usesOf c
  | .rangeFunc _ _ a b => usesOf a ++ usesOf b
  | .skip => []
  | .exit _ => []
  | .label _ => []
  | .goto _ => []
  | .ret => []
  | .refuse _ => []
def assignsOf : Code → List (Nat × TypeId)
  | .region _ ops _ => ops.toList.filterMap fun o => match o.op, o.dst with
    | .assign _, some d => some (d, o.type)
    | _, _ => none
  | .seq a b => assignsOf a ++ assignsOf b
  | .cond _ a b => assignsOf a ++ assignsOf b
  | .block _ c => assignsOf c
  | .loop c => assignsOf c
  | .scope c => assignsOf c
  | .rangeFunc _ _ a b => assignsOf a ++ assignsOf b
  | .skip => []
  | .exit _ => []
  | .label _ => []
  | .goto _ => []
  | .ret => []
  | .refuse _ => []
/-- Temporaries that a piece sets first and another one uses. -/
def extras (Γ : Env) (uses have_ : List Nat) : List (Nat × TypeId) → List (Nat × SK)
  | [] => []
  | (d, T) :: r => (match uses.contains d && !have_.contains d, Γ.ty T with
    | true, some t => (d, .data t) :: extras Γ uses (d :: have_) r
    | _, _ => extras Γ uses have_ r)
def joinTpl (Γ : Env) (O : Opt) (L : Nat) (a b : Code) (st : St) : Tpl :=
  ((tplOf O L (dsts a) st).1 ++ extras Γ (usesOf b) (keys st.slots) (assignsOf a), (tplOf O L (dsts a) st).2)
def useL (O : Opt) (c : Code) (L : Lv) : Lv := if O.lv then { L with m := liveI c L.m L.ex L.rt } else { L with m := useM c L.m }
def headL (O : Opt) (c : Code) (L : Lv) : Lv := if O.lv then { L with m := liveI c 0 L.ex L.rt } else { L with m := useM c L.m }
/-- What is live behind a piece with a label, and at the label. -/
def scopeL (O : Opt) (c r : Code) (l : Nat) (L : Lv) : Lv := if O.lv then { L with ex := (1000000 + l, liveI r L.m L.ex L.rt) :: L.ex } else { L with m := useM c L.m, rt := useM c L.m }
def labM (O : Opt) (l : Nat) (L : Lv) : Nat := if O.lv then exM L.ex (1000000 + l) else L.m
def blockL (id : Nat) (L : Lv) : Lv := { L with ex := (id, L.m) :: L.ex }
def restore (st : St) (mv fx : List (Nat × AV)) : St := { st with slots := st.slots ++ mv, fix := fx }
/-- The live ones, each once. -/
def fltL : Nat → List (Nat × AV) → List (Nat × AV)
  | _, [] => []
  | m, (i, v) :: r => if liveB m i then (i, v) :: fltL (clearB m i) r else fltL m r
def fltK {R : Type} : Nat → List (Nat × AV) → (List (Nat × AV) → R) → R
  | _, [], k => k []
  | m, (i, v) :: r, k => if liveB m i then fltK (clearB m i) r (fun l => k ((i, v) :: l)) else fltK m r k
/-- What is dead is forgotten. -/
def pruneK {R : Type} (O : Opt) (m : Nat) (st : St) (k : St → R) : R := if O.lv then fltK m st.slots (fun l => k { st with slots := l }) else k st
def prune (O : Opt) (m : Nat) (st : St) : St := if O.lv then { st with slots := fltL m st.slots } else st
/-- What must be data behind is made so: its row is written no more. -/
def thaw : List (Nat × SK) → St → St
  | [], st => st
  | (i, .data _) :: r, st => (match get st.slots i with
    | some (.full s t) => (match get st.heap s with
      | some (.row e t' xs _) => if Ty.beq t' t then thaw r { st with slots := (i, .data (.sl e t') xs) :: st.slots, heap := (s, .row e t' xs true) :: st.heap } else thaw r st
      | _ => thaw r st)
    | _ => thaw r st)
  | (_, .own _ _) :: r, st => thaw r st
  | (_, .same _) :: r, st => thaw r st
/-- Rows that stand at a family's places go back. -/
def thawD : List (Nat × OK) → St → St
  | [], st => st
  | (s, .deep _ _ _) :: r, st => (match mergeD st s with
    | some st' => thawD r st'
    | none => thawD r st)
  | _ :: r, st => thawD r st
def noIter : Option Ob → Bool
  | some (.iter _ _ _ _ _ _) => false
  | _ => true
/-- A row that bears another number takes the one it bears there. -/
def renTo (st : St) (s j : Nat) : St :=
  if Nat.beq s j then st else (match get st.heap s with
    | some (.row _ _ _ _) => if noIter (get st.heap j) then st.rename s j else st
    | _ => st)
def thawR : List (Nat × SK) → St → St
  | [], st => st
  | (i, .same (.full j _)) :: r, st => (match get st.slots i with
    | some (.full s _) => thawR r (renTo st s j)
    | _ => thawR r st)
  | (i, .own j _) :: r, st => (match get st.slots i with
    | some (.full s _) => thawR r (renTo st s j)
    | some (.own s _ _ _) => thawR r (renTo st s j)
    | _ => thawR r st)
  | _ :: r, st => thawR r st
def decF (T : Tpl) (nt : Nat) (st : St) : Option (DenT T) := match dec T nt st with
  | some x => some x
  | none => (match dec T nt (thaw T.1 st) with
    | some x => some x
    | none => dec T nt (thawR T.1 (thawD T.2 (thaw T.1 st))))
/-- What a walk over a map gives, whichever entry comes next. -/
def rangeOK {X σ R : Type} (B : X → List X → σ → Option (σ ⊕ R)) (B0 : σ → Option (σ ⊕ R)) (r : R) : Nat → List X → σ → Prop
  | 0, _, s => B0 s = some (.inr r)
  | n + 1, l, s => ∀ x rem, l.Perm (x :: rem) → match B x rem s with
    | some (.inl s') => rangeOK B B0 r n rem s'
    | some (.inr r') => r' = r
    | none => False
open Classical in
noncomputable def rangeC {X σ R : Type} (B : X → List X → σ → Option (σ ⊕ R)) (B0 : σ → Option (σ ⊕ R)) (l : List X) (s : σ) : Option R :=
  if h : ∃ r, rangeOK B B0 r l.length l s then some (Classical.choose h) else none
theorem rangeC_some {X σ R : Type} {B : X → List X → σ → Option (σ ⊕ R)} {B0 : σ → Option (σ ⊕ R)} {l : List X} {s : σ} {r : R} (h : rangeC B B0 l s = some r) : rangeOK B B0 r l.length l s := by
  unfold rangeC at h
  split at h
  · rename_i hex
    simp only [Option.some.injEq] at h
    rw [← h]
    exact Classical.choose_spec hex
  · cases h
/-- A loop over a map: what its first operations set, and what stands where in the map. -/
def iterOps (st : St) : List Oper → Option (Nat × Nat × Nat × Nat)
  | [o1, o2] => (match o1.op, o1.dst, o1.guard with
    | .next (.tmp t) false, some d1, none => (match o2.op, o2.dst, o2.guard with
      | .extract (.tmp d) 0, some d2, none => if Nat.beq d d1 then (match get st.slots t with
        | some (.cptr s) => some (t, d1, d2, s)
        | _ => none) else none
      | _, _, _ => none)
    | _, _, _ => none)
  | _ => none
def iterAt (st : St) : Code → Option (Nat × Nat × Nat × Nat)
  | .region _ ops false => iterOps st ops.toList
  | _ => none
def itSt (st : St) (d1 d2 s : Nat) (k e : TypeId) (tk te : Ty) (rem : List (tk.Den × te.Den)) (cur : Option (tk.Den × te.Den)) (b : Bool) : St :=
  { st with slots := (d2, .data .bool b) :: (d1, .undef) :: st.slots, heap := (s, .iter k e tk te rem cur) :: st.heap }
/-- A loop, by what its body gives. -/
noncomputable def loopD {R : Type} (J : Opt) (L : Lv) (c : Code) (st : St) (k : Exit → St → Option R) (D : (R' : Type) → St → (Exit → St → Option R') → Option R') : Option R :=
  match decF (tplOf J (headL J c L).m (dsts c) st) st.nt st with
  | some s0 => loopC (fun s => D (DenT (tplOf J (headL J c L).m (dsts c) st) ⊕ R) (enc (tplOf J (headL J c L).m (dsts c) st) s st.nt (st.fix ++ moved (headL J c L).m (dsts c) st)) fun e st' => match e with
      | .normal => (decF (tplOf J (headL J c L).m (dsts c) st) st.nt st').map .inl
      | e => (k e (restore st' (moved (headL J c L).m (dsts c) st) st.fix)).map .inr) s0
  | none => none
/-- A loop over a map. -/
noncomputable def rangeT {R : Type} (T : Tpl) (mv : List (Nat × AV)) (st : St) (p : Nat × Nat × Nat × Nat) (k : Exit → St → Option R) (D : (R' : Type) → St → (Exit → St → Option R') → Option R') : Option R :=
  match get st.heap p.2.2.2 with
  | some (.iter kt et tk te rem _) =>
    if (match get T.1 p.1 with | some (.same (.cptr s)) => Nat.beq s p.2.2.2 | _ => false) &&
      ((decide (p.2.1 < st.nt) && (get (st.fix ++ mv) p.2.1).isNone) && (decide (p.2.2.1 < st.nt) && (get (st.fix ++ mv) p.2.2.1).isNone)) then
      (match decF T st.nt st with
      | some s0 => rangeC
        (fun x r s => D (DenT T ⊕ R) (itSt (enc T s st.nt (st.fix ++ mv)) p.2.1 p.2.2.1 p.2.2.2 kt et tk te r (some x) true) fun e st' => match e with
          | .normal => (match get st'.heap p.2.2.2 with
            | some (.iter kt' et' tk' te' r' _) => (match Ty.cast (.map kt' et' tk' te') (.map kt et tk te) r' with
              | some r2 => needs [r2 = r] ((decF T st.nt st').map .inl)
              | none => none)
            | _ => none)
          | e => (k e (restore st' mv st.fix)).map .inr)
        (fun s => D (DenT T ⊕ R) (itSt (enc T s st.nt (st.fix ++ mv)) p.2.1 p.2.2.1 p.2.2.2 kt et tk te [] none false) fun e st' => match e with
          | .normal => none
          | e => (k e (restore st' mv st.fix)).map .inr) rem s0
      | none => none)
    else none
  | _ => none
noncomputable def rangeD {R : Type} (J : Opt) (L : Lv) (c : Code) (st : St) (p : Nat × Nat × Nat × Nat) (k : Exit → St → Option R) (D : (R' : Type) → St → (Exit → St → Option R') → Option R') : Option R :=
  rangeT (tplOf J (headL J c L).m (dsts c) st) (moved (headL J c L).m (dsts c) st) st p k D
/-- The first region of a piece of code. -/
def firstReg : Code → Option Nat
  | .region id _ _ => some id
  | .seq a b => (match firstReg a with
    | some i => some i
    | none => firstReg b)
  | .block _ c => firstReg c
  | .loop c => firstReg c
  | .scope c => firstReg c
  | _ => none
/-- The rows that are written no more from a loop on: those of all loops, and (by the loop's first region, and one, times 1024) its own. -/
def frzOf (l : List Nat) (c : Code) : List Nat := l.filterMap fun n => if Nat.beq (Nat.shiftRight n 10) 0 then some n else (match firstReg c with
  | some i => if Nat.beq (Nat.shiftRight n 10) (i + 1) then some (Nat.mod n 1024) else none
  | none => none)
def datJ (J : Opt) (c : Code) : Opt := { J with dat := frzOf J.dat c }
/-- Barriers, all calls among them. -/
def barC (Γ : Env) (o : Oper) : Bool := barOp Γ o || (match o.op with
  | .call c => (match c.callee with
    | .value _ => true
    | _ => false)
  | _ => false)
/-- A call that is no barrier. -/
def hiddenB (Γ : Env) (ops : Array Oper) : Bool := ops.toList.any fun o => barC Γ o && !barOp Γ o
/-- Stores and calls beside which reads stand. -/
def storesN (Γ : Env) (ops : Array Oper) : Bool := !(namList Γ ops).isEmpty
/-- A region, from a state on. -/
noncomputable def regD (Γ : Env) (Φ : Sigs) (id : Nat) (ops : Array Oper) (draw : Bool) (R : Type) (st : St) (k : Exit → St → Option R) : Option R :=
  if draw then (if ops.toList.any (barOp Γ) then (if drawB ops (barOp Γ) then runD Γ Φ ops.toList (barOp Γ) (ops.size + 1) R ops.toList st (fun st' => k .normal (settle Γ st' (assignsOf (.region id ops draw)))) else if floatsB ops (barOp Γ) && !(hiddenB Γ ops || storesN Γ ops) then runE Γ Φ ops (barOp Γ) (softList ops (barOp Γ)) R (orderE ops (barOp Γ) ops.size (Array.replicate ops.size false)) st (fun st' => k .normal (settle Γ st' (assignsOf (.region id ops draw)))) else if hiddenB Γ ops && floatsB ops (barC Γ) then runE Γ Φ ops (barC Γ) (softList ops (barC Γ)) R (orderE ops (barC Γ) ops.size (Array.replicate ops.size false)) st (fun st' => k .normal (settle Γ st' (assignsOf (.region id ops draw)))) else if Region.noSelect ops then runT Γ Φ ops (barOp Γ) ((softList2 ops (barOp Γ)).filter fun j => !(namList Γ ops).contains j) (namList Γ ops) R 0 ops.size (Array.replicate ops.size false) st (fun st' => k .normal (settle Γ st' (assignsOf (.region id ops draw)))) else none) else if lexC ops then runG Γ Φ ops.toList (2 * ops.size + 2) [] R ops.toList st (fun st' => k .normal (settle Γ st' (assignsOf (.region id ops draw)))) else none) else runK Γ Φ ops.toList (ops.size + 1) R ops.toList st (k .normal)
noncomputable def den (Γ : Env) (Φ : Sigs) (J : Opt) : Lv → Code → (R : Type) → St → (Exit → St → Option R) → Option R
  | _, .skip, _, st, k => k .normal st
  | _, .label _, _, st, k => k .normal st
  | _, .exit id, _, st, k => k (.exit id) st
  | _, .ret, _, st, k => k .ret st
  | _, .region id ops draw, R, st, k => regD Γ Φ id ops draw R (frzAll (frzOf J.frr (.region id ops draw)) st) k
  | L, .seq a b, R, st, k =>
    if joins J.J a b then
      (match decF (tplOf J (useL J a (useL J b L)).m (dsts a) st) st.nt st with
      | some s0 => Option.bind (den Γ Φ J (useL J b L) a (DenT (joinTpl Γ J (useL J b L).m a b st) ⊕ R) (enc (tplOf J (useL J a (useL J b L)).m (dsts a) st) s0 st.nt (st.fix ++ moved (useL J a (useL J b L)).m (dsts a) st)) fun e st' => match e with
          | .normal => (decF (joinTpl Γ J (useL J b L).m a b st) st.nt st').map .inl
          | e => (k e (restore st' (moved (useL J a (useL J b L)).m (dsts a) st) st.fix)).map .inr) fun o => match o with
        | .inl s => den Γ Φ J L b R (restore (enc (joinTpl Γ J (useL J b L).m a b st) s st.nt (st.fix ++ moved (useL J a (useL J b L)).m (dsts a) st)) (moved (useL J a (useL J b L)).m (dsts a) st) st.fix) k
        | .inr r => some r
      | none => none)
    else den Γ Φ J (useL J b L) a R st fun e st' => match e with
      | .normal => pruneK J (useL J b L).m st' fun st'' => den Γ Φ J L b R st'' k
      | e => k e st'
  | L, .cond c a b, R, st, k => (match opd st c with
    | some (.data .bool v, ps) => needs ps (sel v (den Γ Φ J L a R st k) (den Γ Φ J L b R st k))
    | _ => none)
  | L, .block id c, R, st, k => den Γ Φ J (blockL id L) c R st fun e st' => match e with
    | .exit i => if i = id then k .normal st' else k (.exit i) st'
    | e => k e st'
  | L, .loop (.seq a c2), R, st, k => (match iterAt (frzAll (frzOf J.frz (.seq a c2)) st) a with
    | some p => rangeD (datJ J (.seq a c2)) L (.seq a c2) (frzAll (frzOf J.frz (.seq a c2)) st) p k (fun R' st' k' => den Γ Φ J (headL J (.seq a c2) L) c2 R' st' k')
    | none => loopD (datJ J (.seq a c2)) L (.seq a c2) (frzAll (frzOf J.frz (.seq a c2)) st) k (fun R' st' k' => den Γ Φ J (headL J (.seq a c2) L) (.seq a c2) R' st' k'))
  | L, .loop c, R, st, k => loopD (datJ J c) L c (frzAll (frzOf J.frz c) st) k (fun R' st' k' => den Γ Φ J (headL J c L) c R' st' k')
  | L, .scope c, R, st, k => den Γ Φ J L c R st fun e st' => match e with
    | .goto _ => none
    | e => k e st'
  | _, .goto l, _, st, k => k (.goto l) st
  | _, .refuse _, _, _, _ => none
  | _, .rangeFunc _ _ _ _, _, _, _ => none

/-- The first label of a piece of code. -/
def firstLabel : Code → Option Nat
  | .seq a b => (match firstLabel a with
    | some l => some l
    | none => firstLabel b)
  | .label l => some l
  | _ => none
/-- What is behind a label, over and over, as long as it jumps back to it. -/
noncomputable def denJ (Γ : Env) (Φ : Sigs) (J : Opt) (L : Lv) (l : Nat) (r : Code) (R : Type) (st : St) (k : Exit → St → Option R) : Option R :=
  match decF (tplOf J (labM J l L) (dsts r) st) st.nt st with
  | some s0 => loopC (fun s => den Γ Φ J L r (DenT (tplOf J (labM J l L) (dsts r) st) ⊕ R) (enc (tplOf J (labM J l L) (dsts r) st) s st.nt (st.fix ++ moved (labM J l L) (dsts r) st)) fun e st' => match e with
      | .goto l' => if l' = l then (decF (tplOf J (labM J l L) (dsts r) st) st.nt st').map .inl else none
      | e => (k e (restore st' (moved (labM J l L) (dsts r) st) st.fix)).map .inr) s0
  | none => none
/-- A piece with a label to which it jumps back. -/
noncomputable def denSc (Γ : Env) (Φ : Sigs) (J : Opt) (L : Lv) (c : Code) (R : Type) (st : St) (k : Exit → St → Option R) : Option R :=
  match firstLabel c with
    | some l => (match findLabel c l with
      | some r => den Γ Φ J (scopeL J c r l L) c R st fun e st' => match e with
        | .goto l' => if l' = l then denJ Γ Φ J (scopeL J c r l L) l r R st' k else none
        | e => k e st'
      | none => none)
    | none => none
/-- A whole body: perhaps one with a label to which it jumps back. -/
noncomputable def denS (Γ : Env) (Φ : Sigs) (J : Opt) (L : Lv) (c : Code) (R : Type) (st : St) (k : Exit → St → Option R) : Option R :=
  match c with
  | .scope c => denSc Γ Φ J L c R st k
  | .seq a (.scope c) => den Γ Φ J { L with m := useM c L.m, rt := useM c L.m } a R st fun e st' => match e with
    | .normal => denSc Γ Φ J L c R st' k
    | e => k e st'
  | c => den Γ Φ J L c R st k

/-- Of every frame and world of which the state tells the truth: the code comes to 'Q'. -/
def AW (Γ : Env) (w0 : World) (M S0 : Nat → Prop) (c : Code) (Q : Exit → St → Prop) (st : St) : Prop :=
  ∀ a w, Sat w0 M S0 st a w → c.wp Γ.P (fun e a' w' => ∃ st', Q e st' ∧ Sat w0 M S0 st' a' w') a w
section
variable {S : Nat → Prop} {w : World} {γ : Nat → Value} {Γ : Env} {Φ : Sigs} {J : Opt} {w0 : World} {M S0 : Nat → Prop} {st : St} {a : Act}
theorem moved_get {L : Nat} {asg : List Nat} {i : Nat} {av : AV} (h : get (moved L asg st) i = some av) : get st.slots i = some av ∧ av.pure = true ∧ get st.fix i = none := by
  have h1 := get_mem h
  simp only [moved, List.mem_filter, Bool.and_eq_true] at h1
  exact ⟨(dedup_mem h1.1).2, h1.2.2.2.1, by simpa using h1.2.2.2.2⟩
theorem moved_fix (hc : Core w0 M S0 S γ st a w) {L : Nat} {asg : List Nat} : ∀ i av, get (st.fix ++ moved L asg st) i = some av → av.pure = true ∧ Match S w γ av (a.tmps.getD i undef) := by
  intro i av hi
  rw [get_append] at hi
  split at hi
  · rename_i av' h
    simp only [Option.some.injEq] at hi
    subst hi
    exact hc.fixs i _ h
  · obtain ⟨h1, h2, _⟩ := moved_get hi
    exact ⟨h2, hc.slot i _ h1⟩
theorem restore_ok {S : Nat → Prop} {γ : Nat → Value} {w : World} {a : Act} {st' : St} (hc : Core w0 M S0 S γ st' a w) {L : Nat} {asg : List Nat} (hf : st'.fix = st.fix ++ moved L asg st) : Core w0 M S0 S γ (restore st' (moved L asg st) st.fix) a w := by
  refine ⟨hc.os, hc.tape, hc.output, hc.size, hc.old, hc.s0, hc.sold, hc.slt, ?_, hc.obj, hc.dis, hc.defers, hc.nt, ?_⟩
  · intro i av hi
    simp only [restore] at hi
    rw [get_append] at hi
    split at hi
    · rename_i av' h
      simp only [Option.some.injEq] at hi
      subst hi
      exact hc.slot i _ h
    · refine (hc.fixs i av ?_).2
      rw [hf, get_append, (moved_get hi).2.2]
      exact hi
  · intro i av hi
    refine hc.fixs i av ?_
    rw [hf, get_append, show get st.fix i = some av from hi]
theorem map_some {α β : Type} {o : Option α} {f : α → β} {y : β} (h : o.map f = some y) : ∃ x, o = some x ∧ f x = y := Option.map_eq_some_iff.1 h
theorem least_of {p : Nat → Prop} (h : ∃ n, p n) : ∃ n, p n ∧ ∀ m, p m → n ≤ m := by
  classical
  obtain ⟨n, hn⟩ := h
  induction n using Nat.strongRecOn with
  | _ n ih =>
    by_cases hex : ∃ m, m < n ∧ p m
    · obtain ⟨m, hm, hp⟩ := hex
      exact ih m hm hp
    · refine ⟨n, hn, fun m hp => ?_⟩
      rcases Nat.lt_or_ge m n with h | h
      · exact absurd ⟨m, h, hp⟩ hex
      · exact h
theorem aw_loop {body : Code} {Q : Exit → St → Prop} {σ : Type} (inv : σ → St) (μ : σ → Nat) (x0 : σ) {a : Act} {w : World} (h0 : Sat w0 M S0 (inv x0) a w)
    (round : ∀ x a w, Sat w0 M S0 (inv x) a w → body.wp Γ.P (fun e a' w' => match e with
      | .normal => ∃ x', Sat w0 M S0 (inv x') a' w' ∧ μ x' < μ x
      | e => ∃ st', Q e st' ∧ Sat w0 M S0 st' a' w') a w) : (Code.loop body).wp Γ.P (fun e a' w' => ∃ st', Q e st' ∧ Sat w0 M S0 st' a' w') a w := by
  classical
  let R : Act → World → Nat → Prop := fun a w n => ∃ x, Sat w0 M S0 (inv x) a w ∧ μ x = n
  let m : Act → World → Nat := fun a w => if h : ∃ n, R a w n then Classical.choose (least_of h) else 0
  refine wp_loop (fun a w => ∃ x, Sat w0 M S0 (inv x) a w) m ⟨x0, h0⟩ ?_
  rintro a w ⟨x1, hx1⟩
  have hex : ∃ n, R a w n := ⟨μ x1, x1, hx1, rfl⟩
  have hm : m a w = Classical.choose (least_of hex) := by simp only [m]; rw [dif_pos hex]
  obtain ⟨⟨x, hx, hmx⟩, _⟩ := Classical.choose_spec (least_of hex)
  refine wp_mono (round x a w hx) ?_
  rintro e a' w' h1
  cases e with
  | normal =>
    obtain ⟨x', hs', hlt⟩ := h1
    refine ⟨⟨x', hs'⟩, ?_⟩
    have hex' : ∃ n, R a' w' n := ⟨μ x', x', hs', rfl⟩
    have : m a' w' ≤ μ x' := by
      simp only [m]
      rw [dif_pos hex']
      exact (Classical.choose_spec (least_of hex')).2 _ ⟨x', hs', rfl⟩
    rw [hm, ← hmx]
    omega
  | _ => exact h1
theorem frzAll_ok : ∀ {l : List Nat} {st : St} {S : Nat → Prop} {γ : Nat → Value}, Core w0 M S0 S γ st a w → (∃ S' γ', Core w0 M S0 S' γ' (frzAll l st) a w) ∧ (frzAll l st).fix = st.fix
  | [], st, S, γ, hc => ⟨⟨S, γ, hc⟩, rfl⟩
  | s :: r, st, S, γ, hc => by
    unfold frzAll
    split
    · rename_i e t xs f hs
      obtain ⟨h1, h2⟩ := frzAll_ok (l := r) (hc.freeze hs)
      exact ⟨h1, h2⟩
    · split
      · rename_i st' hst
        obtain ⟨S1, γ1, _, h2, h3, _⟩ := frzD_ok hc hst
        obtain ⟨k1, k2⟩ := frzAll_ok (l := r) h2
        exact ⟨k1, k2.trans h3⟩
      · exact frzAll_ok hc
    · rename_i e t vs hs
      split
      · rename_i x hx
        obtain ⟨⟨⟨us, g1, g2, _⟩, hmut⟩, _⟩ := hc.obj s _ hs
        have hr := gather_ok g2 hx
        have h0 := hc.wroteOb (w' := w) (o1 := .row e t [x] false) hs rfl hmut (World.grownBy.refl w _) ⟨⟨us, g1, by rw [List.length_singleton, Nat.one_mul]; exact hr.len, fun j y hj => by
          cases j with
          | zero =>
            simp only [List.getElem?_cons_zero, Option.some.injEq] at hj
            subst hj
            rw [Nat.zero_mul, List.drop_zero, List.take_of_length_le (by rw [hr.len]; exact Nat.le_refl _)]
            exact hr
          | succ j => simp at hj⟩, fun k hk => ⟨fun h => absurd h (hmut k hk), fun h => by cases h⟩⟩
        have hg : get ((s, Ob.row e t [x] false) :: st.heap) s = some (.row e t [x] false) := by simp [get]
        have h1 := h0.freeze hg
        obtain ⟨k1, k2⟩ := frzAll_ok (l := r) h1
        exact ⟨k1, k2⟩
      · exact frzAll_ok hc
    · rename_i k e tk te l f hs
      obtain ⟨h1, h2⟩ := frzAll_ok (l := r) (hc.freezeM hs)
      exact ⟨h1, h2⟩
    · exact frzAll_ok hc
theorem thawD_ok : ∀ {l : List (Nat × OK)} {st : St} {γ : Nat → Value}, Core w0 M S0 S γ st a w → ∃ γ', Core w0 M S0 S γ' (thawD l st) a w
  | [], st, γ, hc => ⟨γ, hc⟩
  | (s, .deep _ _ _) :: r, st, γ, hc => by
    unfold thawD
    split
    · rename_i st' h
      obtain ⟨γ1, h1, _⟩ := mergeD_ok hc h
      exact thawD_ok h1
    · exact thawD_ok hc
  | (_, .row _ _ _) :: r, st, γ, hc => thawD_ok (l := r) hc
  | (_, .var _ _) :: r, st, γ, hc => thawD_ok (l := r) hc
  | (_, .cdata _ _) :: r, st, γ, hc => thawD_ok (l := r) hc
  | (_, .csame _ _) :: r, st, γ, hc => thawD_ok (l := r) hc
  | (_, .rcd _ _ _) :: r, st, γ, hc => thawD_ok (l := r) hc
  | (_, .map _ _ _ _ _) :: r, st, γ, hc => thawD_ok (l := r) hc
  | (_, .fam _ _) :: r, st, γ, hc => thawD_ok (l := r) hc
theorem thaw_ok : ∀ {l : List (Nat × SK)} {st : St} {S : Nat → Prop}, Core w0 M S0 S γ st a w → ∃ S', (∀ k, S k → S' k) ∧ Core w0 M S0 S' γ (thaw l st) a w
  | [], st, S, hc => ⟨S, fun _ h => h, hc⟩
  | (i, .own _ _) :: r, st, S, hc => thaw_ok (l := r) hc
  | (i, .same _) :: r, st, S, hc => thaw_ok (l := r) hc
  | (i, .data _) :: r, st, S, hc => by
    unfold thaw
    split
    · rename_i s t hi
      split
      · rename_i e t' xs f hs
        split
        · rename_i hb
          have hm := hc.slot i _ hi
          obtain ⟨S1, h1, h2, h3, _, _⟩ := pureAV0_ok (av := .full s t) (b := .data (.sl e t') xs) (st' := { st with heap := (s, .row e t' xs true) :: st.heap }) (ps := []) hc (by unfold pureAV0; simp only; rw [hs]; simp only [hb, if_true]) (by simp) hm
          have hc1 : Core w0 M S0 S1 γ { st with slots := (i, .data (.sl e t') xs) :: st.slots, heap := (s, .row e t' xs true) :: st.heap } a w := by
            refine ⟨h2.os, h2.tape, h2.output, h2.size, h2.old, h2.s0, h2.sold, h2.slt, ?_, h2.obj, h2.dis, h2.defers, h2.nt, h2.fixs⟩
            intro j av hj
            simp only [get] at hj
            split at hj
            · rename_i e1
              subst e1
              simp only [Option.some.injEq] at hj
              subst hj
              exact h3
            · exact h2.slot j av hj
          obtain ⟨S2, h4, h5⟩ := thaw_ok (l := r) hc1
          exact ⟨S2, fun k h => h4 k (h1 k h), h5⟩
        · exact thaw_ok (l := r) hc
      · exact thaw_ok (l := r) hc
    · exact thaw_ok (l := r) hc
theorem renTo_ok (hc : Core w0 M S0 S γ st a w) (s j : Nat) : ∃ γ', Core w0 M S0 S γ' (renTo st s j) a w := by
  unfold renTo
  split
  · exact ⟨γ, hc⟩
  · split
    · split
      · obtain ⟨γ', h, _⟩ := hc.rename s j
        exact ⟨γ', h⟩
      · exact ⟨γ, hc⟩
    · exact ⟨γ, hc⟩
theorem thawR_ok : ∀ {l : List (Nat × SK)} {st : St} {γ : Nat → Value}, Core w0 M S0 S γ st a w → ∃ γ', Core w0 M S0 S γ' (thawR l st) a w
  | [], st, γ, hc => ⟨γ, hc⟩
  | (i, k) :: r, st, γ, hc => by
    unfold thawR
    split
    · rename_i h; cases h
    · rename_i h
      split
      · obtain ⟨γ1, h1⟩ := renTo_ok hc _ _
        cases h
        exact thawR_ok h1
      · cases h; exact thawR_ok hc
    · rename_i h
      split
      · obtain ⟨γ1, h1⟩ := renTo_ok hc _ _
        cases h
        exact thawR_ok h1
      · obtain ⟨γ1, h1⟩ := renTo_ok hc _ _
        cases h
        exact thawR_ok h1
      · cases h; exact thawR_ok hc
    · rename_i h; cases h; exact thawR_ok hc
theorem decF_ok {S : Nat → Prop} (hc : Core w0 M S0 S γ st a w) {T : Tpl} {x : DenT T} {nt : Nat} (h : decF T nt st = some x) {fx : List (Nat × AV)} (hfx : ∀ i av, get fx i = some av → av.pure = true ∧ Match S w γ av (a.tmps.getD i undef)) : ∃ S' γ', Core w0 M S0 S' γ' (enc T x nt fx) a w := by
  unfold decF at h
  split at h
  · rename_i y hy
    cases h
    exact ⟨S, γ, dec_ok hc hy hfx⟩
  · obtain ⟨S1, h1, h2⟩ := thaw_ok (l := T.1) hc
    have hfx1 : ∀ i av, get fx i = some av → av.pure = true ∧ Match S1 w γ av (a.tmps.getD i undef) := fun i av hi => ⟨(hfx i av hi).1, (hfx i av hi).2.mono h1 (fun _ _ => rfl) (fun _ _ => rfl)⟩
    split at h
    · rename_i y hy
      cases h
      exact ⟨S1, γ, dec_ok h2 hy hfx1⟩
    · obtain ⟨γ0, h3⟩ := thawD_ok (l := T.2) h2
      obtain ⟨γ1, h3⟩ := thawR_ok (l := T.1) h3
      exact ⟨S1, γ1, dec_ok h3 h fun i av hi => ⟨(hfx1 i av hi).1, pure_any (hfx1 i av hi).1 (hfx1 i av hi).2⟩⟩
theorem sat_of {st' : St} {a' : Act} {w' : World} (h : ∃ S' γ', Core w0 M S0 S' γ' st' a' w') : Sat w0 M S0 st' a' w' := h
theorem fltK_eq {R : Type} : ∀ {l : List (Nat × AV)} {m : Nat} {k : List (Nat × AV) → R}, fltK m l k = k (fltL m l)
  | [], _, _ => rfl
  | (i, v) :: r, m, k => by
    unfold fltK fltL
    split
    · exact fltK_eq
    · exact fltK_eq
theorem pruneK_eq {R : Type} {O : Opt} {m : Nat} {st : St} {k : St → R} : pruneK O m st k = k (prune O m st) := by
  unfold pruneK prune
  split
  · exact fltK_eq
  · rfl
theorem liveB_bit {m i : Nat} : liveB m i = true ↔ m.testBit i = true := by
  rw [Nat.testBit_eq_decide_div_mod_eq, decide_eq_true_eq, ← Nat.shiftRight_eq_div_pow]
  exact ⟨fun h => Nat.eq_of_beq_eq_true h, fun h => by show Nat.beq ((m >>> i) % 2) 1 = true; rw [h]; rfl⟩
theorem clearB_live {m i j : Nat} (h : liveB (clearB m i) j = true) : liveB m j = true ∨ i = j := by
  unfold clearB at h
  split at h
  · by_cases hne : i = j
    · exact .inr hne
    · left
      rw [liveB_bit] at h ⊢
      have h : (m ^^^ (1 <<< i)).testBit j = true := h
      rwa [Nat.testBit_xor, Nat.shiftLeft_eq, Nat.one_mul, Nat.testBit_two_pow_of_ne hne, Bool.xor_false] at h
  · exact .inl h
theorem get_flt : ∀ {l : List (Nat × AV)} {m i : Nat} {av : AV}, get (fltL m l) i = some av → get l i = some av ∧ liveB m i = true
  | [], _, _, _, h => by simp [fltL, get] at h
  | (k, u) :: r, m, i, av, h => by
    unfold fltL at h
    split at h
    · rename_i hk
      simp only [get] at h ⊢
      split at h
      · rename_i e
        subst e
        exact ⟨by rw [if_pos rfl]; exact h, hk⟩
      · rename_i e
        obtain ⟨h1, h2⟩ := get_flt h
        exact ⟨by rw [if_neg e]; exact h1, (clearB_live h2).resolve_right fun e2 => e e2.symm⟩
    · rename_i hk
      obtain ⟨h1, h2⟩ := get_flt h
      simp only [get]
      rw [if_neg (fun e => hk (by rw [← e]; exact h2))]
      exact ⟨h1, h2⟩
theorem prune_ok {S : Nat → Prop} {γ : Nat → Value} {w : World} {a : Act} {st : St} (hc : Core w0 M S0 S γ st a w) {O : Opt} {m : Nat} : Core w0 M S0 S γ (prune O m st) a w ∧ (prune O m st).fix = st.fix := by
  unfold prune
  split
  · exact ⟨⟨hc.os, hc.tape, hc.output, hc.size, hc.old, hc.s0, hc.sold, hc.slt, fun i av hi => hc.slot i av (get_flt hi).1, hc.obj, hc.dis, hc.defers, hc.nt, hc.fixs⟩, rfl⟩
  · exact ⟨hc, rfl⟩
theorem loopD_ok {c : Code} {L : Lv} {R : Type} {st : St} {k : Exit → St → Option R} {x : R} {Q : Exit → St → Prop} {D : (R' : Type) → St → (Exit → St → Option R') → Option R'}
    (hD : ∀ (R' : Type) (st' : St) (k' : Exit → St → Option R') (x' : R') (Q' : Exit → St → Prop), D R' st' k' = some x' → (∀ e st'', k' e st'' = some x' → st''.fix = st'.fix → Q' e st'') → AW Γ w0 M S0 c Q' st')
    (h : loopD J L c st k D = some x) (hQ : ∀ e st', k e st' = some x → st'.fix = st.fix → Q e st') : AW Γ w0 M S0 (.loop c) Q st := by
  intro a w hs
  obtain ⟨S, γ, hc⟩ := hs
  unfold loopD at h
  split at h
  · rename_i s0 hs0
    obtain ⟨S1, γ1, hc0⟩ := decF_ok hc hs0 (moved_fix hc (L := (headL J c L).m) (asg := dsts c))
    obtain ⟨n, hn⟩ := loopC_some.1 h
    refine aw_loop (σ := { p : Nat × DenT (tplOf J (headL J c L).m (dsts c) st) // iter _ p.1 p.2 = some x }) (fun p => enc (tplOf J (headL J c L).m (dsts c) st) p.1.2 st.nt (st.fix ++ moved (headL J c L).m (dsts c) st)) (fun p => p.1.1) ⟨(n, s0), hn⟩ ⟨S1, γ1, hc0⟩ ?_
    rintro ⟨⟨m, s⟩, hm⟩ a w hs
    cases m with
    | zero => simp [iter] at hm
    | succ m =>
      simp only [iter] at hm
      split at hm
      · cases hm
      · rename_i s' hB
        refine wp_mono (hD _ _ _ _ (fun e st' => st'.fix = st.fix ++ moved (headL J c L).m (dsts c) st ∧ (match e with
          | .normal => (decF (tplOf J (headL J c L).m (dsts c) st) st.nt st').map Sum.inl
          | e => (k e (restore st' (moved (headL J c L).m (dsts c) st) st.fix)).map Sum.inr) = some (.inl s')) hB (fun e st' g1 g2 => ⟨g2, g1⟩) a w hs) ?_
        rintro e a' w' ⟨st', ⟨g1, g2⟩, S', γ', hc'⟩
        cases e with
        | normal =>
          obtain ⟨s2, g3, g4⟩ := map_some g2
          injection g4 with g4
          subst g4
          exact ⟨⟨(m, s2), hm⟩, sat_of (decF_ok hc' g3 (fun i av hi => hc'.fixs i av (by rw [g1]; exact hi))), Nat.lt_succ_self m⟩
        | _ => obtain ⟨r, _, g4⟩ := map_some g2; cases g4
      · rename_i r hB
        refine wp_mono (hD _ _ _ _ (fun e st' => st'.fix = st.fix ++ moved (headL J c L).m (dsts c) st ∧ (match e with
          | .normal => (decF (tplOf J (headL J c L).m (dsts c) st) st.nt st').map Sum.inl
          | e => (k e (restore st' (moved (headL J c L).m (dsts c) st) st.fix)).map Sum.inr) = some (.inr r)) hB (fun e st' g1 g2 => ⟨g2, g1⟩) a w hs) ?_
        simp only [Option.some.injEq] at hm
        subst hm
        rintro e a' w' ⟨st', ⟨g1, g2⟩, S', γ', hc'⟩
        cases e with
        | normal => obtain ⟨s2, _, g4⟩ := map_some g2; cases g4
        | _ =>
          obtain ⟨r', g3, g4⟩ := map_some g2
          injection g4 with g4
          subst g4
          exact ⟨_, hQ _ _ g3 rfl, S', γ', restore_ok hc' g1⟩
  · cases h
/-- What goes over a map stays beside what is decoded. -/
theorem dec_iter (hc : Core w0 M S0 S γ st a w) {T : Tpl} {x : DenT T} {nt : Nat} (h : dec T nt st = some x) {fx : List (Nat × AV)} (hfx : ∀ i av, get fx i = some av → av.pure = true ∧ Match S w γ av (a.tmps.getD i undef)) {s : Nat} {k e : TypeId} {tk te : Ty} {rem : List (tk.Den × te.Den)} {cur : Option (tk.Den × te.Den)}
    (hs : get st.heap s = some (.iter k e tk te rem cur)) : Core w0 M S0 S γ { enc T x nt fx with heap := (s, .iter k e tk te rem cur) :: (enc T x nt fx).heap } a w := by
  have hc1 := dec_ok hc h hfx
  have hobj : ∀ i o, get (encO T.2 x.2) i = some o → ∃ o', get st.heap i = some o' ∧ o.live = true ∧ o'.live = true ∧ ObOk S w γ (γ i) o := by
    unfold dec at h
    split at h
    · split at h
      · rename_i y z h1 h2
        have h : (y, z) = x := Option.some.inj h
        subst h
        exact fun i o hi => decO_ok (fun s o h => (hc.obj s o h).1) h2 i o hi
      · cases h
    · cases h
  refine ⟨hc1.os, hc1.tape, hc1.output, hc1.size, hc1.old, hc1.s0, hc1.sold, hc1.slt, hc1.slot, ?_, ?_, hc1.defers, hc1.nt, hc1.fixs⟩
  · intro i o hi
    simp only [get] at hi
    split at hi
    · rename_i e1
      subst e1
      have e1 : Ob.iter k e tk te rem cur = o := by simpa using hi
      subst e1
      exact hc.obj i _ hs
    · exact hc1.obj i o hi
  · have key : ∀ i o', get ((s, Ob.iter k e tk te rem cur) :: (enc T x nt fx).heap) i = some o' → o'.live = true → ∃ o'', get st.heap i = some o'' ∧ o''.live = true := by
      intro i o' hi hl
      simp only [get] at hi
      split at hi
      · rename_i e'; subst e'; exact ⟨_, hs, rfl⟩
      · obtain ⟨o2, h1, _, h3, _⟩ := hobj i o' hi
        exact ⟨o2, h1, h3⟩
    intro i j o1 o2 h1 h2 l1 l2 hne
    obtain ⟨o1', h1', l1'⟩ := key i o1 h1 l1
    obtain ⟨o2', h2', l2'⟩ := key j o2 h2 l2
    exact hc.dis i j o1' o2' h1' h2' l1' l2' hne
theorem thaw_iter {s : Nat} {k e : TypeId} {tk te : Ty} {rem : List (tk.Den × te.Den)} {cur : Option (tk.Den × te.Den)} : ∀ {l : List (Nat × SK)} {st : St}, get st.heap s = some (.iter k e tk te rem cur) → get (thaw l st).heap s = some (.iter k e tk te rem cur)
  | [], st, h => h
  | (i, .own _ _) :: r, st, h => thaw_iter (l := r) h
  | (i, .same _) :: r, st, h => thaw_iter (l := r) h
  | (i, .data _) :: r, st, h => by
    unfold thaw
    split
    · rename_i s1 t hi
      split
      · rename_i e1 t' xs f hs
        split
        · refine thaw_iter (l := r) ?_
          simp only [get]
          rw [if_neg (by rintro rfl; rw [h] at hs; cases hs)]
          exact h
        · exact thaw_iter (l := r) h
      · exact thaw_iter (l := r) h
    · exact thaw_iter (l := r) h
theorem get_killH_iter {s d : Nat} {k e : TypeId} {tk te : Ty} {rem : List (tk.Den × te.Den)} {cur : Option (tk.Den × te.Den)} : ∀ {l : Hp}, get l s = some (.iter k e tk te rem cur) → s ≠ d → get (killH d l) s = some (.iter k e tk te rem cur)
  | [], h, _ => by simp [get] at h
  | (j, o) :: l, h, hne => by
    simp only [killH, List.map_cons, get] at h ⊢
    by_cases e1 : s = j
    · rw [if_pos e1] at h ⊢
      simp only [Option.some.injEq] at h
      subst h
      rw [if_neg (by rw [← e1]; exact hne)]
      rfl
    · rw [if_neg e1] at h ⊢
      exact get_killH_iter h hne
theorem mergeD_iter {st st' : St} {s s1 : Nat} {k e : TypeId} {tk te : Ty} {rem : List (tk.Den × te.Den)} {cur : Option (tk.Den × te.Den)} (hs : get st.heap s = some (.iter k e tk te rem cur)) (h : mergeD st s1 = some st') : get st'.heap s = some (.iter k e tk te rem cur) := by
  unfold mergeD at h
  split at h
  · simp only [Option.some.injEq] at h
    subst h
    exact hs
  · rename_i e1 t c i d hd1
    split at h
    · rename_i e2 t2 xs e3 t3 xss hd hcc
      split at h
      · split at h
        · simp only [Option.some.injEq] at h
          subst h
          simp only [get]
          rw [if_neg (by rintro rfl; rw [hs] at hd1; cases hd1), if_neg (by rintro rfl; rw [hs] at hcc; cases hcc)]
          exact get_killH_iter (get_killH_iter hs (by rintro rfl; rw [hs] at hd; cases hd)) (by rintro rfl; rw [hs] at hcc; cases hcc)
        · cases h
      · cases h
    · cases h
  · cases h
theorem thawD_iter {s : Nat} {k e : TypeId} {tk te : Ty} {rem : List (tk.Den × te.Den)} {cur : Option (tk.Den × te.Den)} : ∀ {l : List (Nat × OK)} {st : St}, get st.heap s = some (.iter k e tk te rem cur) → get (thawD l st).heap s = some (.iter k e tk te rem cur)
  | [], st, hs => hs
  | (s1, .deep _ _ _) :: r, st, hs => by
    unfold thawD
    split
    · rename_i st' h
      exact thawD_iter (mergeD_iter hs h)
    · exact thawD_iter hs
  | (_, .row _ _ _) :: r, st, hc => thawD_iter (l := r) hc
  | (_, .var _ _) :: r, st, hc => thawD_iter (l := r) hc
  | (_, .cdata _ _) :: r, st, hc => thawD_iter (l := r) hc
  | (_, .csame _ _) :: r, st, hc => thawD_iter (l := r) hc
  | (_, .rcd _ _ _) :: r, st, hc => thawD_iter (l := r) hc
  | (_, .map _ _ _ _ _) :: r, st, hc => thawD_iter (l := r) hc
  | (_, .fam _ _) :: r, st, hc => thawD_iter (l := r) hc
theorem get_renH_iter {s d x : Nat} {k e : TypeId} {tk te : Ty} {rem : List (tk.Den × te.Den)} {cur : Option (tk.Den × te.Den)} : ∀ {l : Hp}, get l x = some (.iter k e tk te rem cur) → x ≠ s → x ≠ d → get (renH s d l) x = some (.iter k e tk te rem cur)
  | [], h, _, _ => by simp [get] at h
  | (j, o) :: l, h, h1, h2 => by
    simp only [get] at h
    by_cases hj : j = d
    · have : renH s d ((j, o) :: l) = renH s d l := by simp [renH, List.filter_cons, hj]
      rw [this]
      rw [if_neg (fun e => h2 (e.trans hj))] at h
      exact get_renH_iter h h1 h2
    · have : renH s d ((j, o) :: l) = (if j = s then d else j, o.ren s d) :: renH s d l := by simp [renH, List.filter_cons, hj]
      rw [this]
      simp only [get]
      by_cases hx : x = j
      · rw [if_pos hx] at h
        simp only [Option.some.injEq] at h
        subst h
        rw [if_pos (by rw [if_neg (by rw [← hx]; exact h1)]; exact hx)]
        rfl
      · rw [if_neg hx] at h
        rw [if_neg (by
          split
          · exact h2
          · exact hx)]
        exact get_renH_iter h h1 h2
theorem renTo_iter {st : St} {s j x : Nat} {k e : TypeId} {tk te : Ty} {rem : List (tk.Den × te.Den)} {cur : Option (tk.Den × te.Den)} (h : get st.heap x = some (.iter k e tk te rem cur)) : get (renTo st s j).heap x = some (.iter k e tk te rem cur) := by
  unfold renTo
  split
  · exact h
  · rename_i hsj
    split
    · rename_i hrow
      split
      · rename_i hn
        have hxs : x ≠ s := by rintro rfl; rw [h] at hrow; cases hrow
        have hxj : x ≠ j := by rintro rfl; rw [h] at hn; cases hn
        unfold St.rename
        split
        · exact h
        · exact get_renH_iter (get_killH_iter h hxj) hxs hxj
      · exact h
    · exact h
theorem thawR_iter {s : Nat} {k e : TypeId} {tk te : Ty} {rem : List (tk.Den × te.Den)} {cur : Option (tk.Den × te.Den)} : ∀ {l : List (Nat × SK)} {st : St}, get st.heap s = some (.iter k e tk te rem cur) → get (thawR l st).heap s = some (.iter k e tk te rem cur)
  | [], st, h => h
  | (i, kk) :: r, st, hs => by
    unfold thawR
    split
    · rename_i h; cases h
    · rename_i h
      split
      · cases h; exact thawR_iter (renTo_iter hs)
      · cases h; exact thawR_iter hs
    · rename_i h
      split
      · cases h; exact thawR_iter (renTo_iter hs)
      · cases h; exact thawR_iter (renTo_iter hs)
      · cases h; exact thawR_iter hs
    · rename_i h; cases h; exact thawR_iter hs
theorem decF_iter {S : Nat → Prop} (hc : Core w0 M S0 S γ st a w) {T : Tpl} {x : DenT T} {nt : Nat} (h : decF T nt st = some x) {fx : List (Nat × AV)} (hfx : ∀ i av, get fx i = some av → av.pure = true ∧ Match S w γ av (a.tmps.getD i undef)) {s : Nat} {k e : TypeId} {tk te : Ty} {rem : List (tk.Den × te.Den)} {cur : Option (tk.Den × te.Den)}
    (hs : get st.heap s = some (.iter k e tk te rem cur)) : ∃ S' γ', Core w0 M S0 S' γ' { enc T x nt fx with heap := (s, .iter k e tk te rem cur) :: (enc T x nt fx).heap } a w := by
  unfold decF at h
  split at h
  · rename_i y hy
    cases h
    exact ⟨S, γ, dec_iter hc hy hfx hs⟩
  · obtain ⟨S1, h1, h2⟩ := thaw_ok (l := T.1) hc
    have hfx1 : ∀ i av, get fx i = some av → av.pure = true ∧ Match S1 w γ av (a.tmps.getD i undef) := fun i av hi => ⟨(hfx i av hi).1, (hfx i av hi).2.mono h1 (fun _ _ => rfl) (fun _ _ => rfl)⟩
    split at h
    · rename_i y hy
      cases h
      exact ⟨S1, γ, dec_iter h2 hy hfx1 (thaw_iter hs)⟩
    · obtain ⟨γ0, h3⟩ := thawD_ok (l := T.2) h2
      obtain ⟨γ1, h3⟩ := thawR_ok (l := T.1) h3
      exact ⟨S1, γ1, dec_iter h3 h (fun i av hi => ⟨(hfx1 i av hi).1, pure_any (hfx1 i av hi).1 (hfx1 i av hi).2⟩) (thawR_iter (thawD_iter (thaw_iter hs)))⟩
theorem encS_same : ∀ {l : List (Nat × SK)} {x : DenS l} {i : Nat} {av : AV}, get l i = some (.same av) → get (encS l x) i = some av
  | [], _, _, _, h => by simp [get] at h
  | (j, .data t) :: r, x, i, av, h => by
    simp only [get, encS] at h ⊢
    split at h
    · cases h
    · rename_i hne
      rw [if_neg hne]
      exact encS_same h
  | (j, .own s t) :: r, x, i, av, h => by
    simp only [get, encS] at h ⊢
    split at h
    · cases h
    · rename_i hne
      rw [if_neg hne]
      exact encS_same h
  | (j, .same av') :: r, x, i, av, h => by
    simp only [get, encS] at h ⊢
    split at h
    · rename_i e
      rw [if_pos e]
      simp only [Option.some.injEq, SK.same.injEq] at h
      rw [h]
    · rename_i hne
      rw [if_neg hne]
      exact encS_same h
theorem Core.heapEq {S : Nat → Prop} {γ : Nat → Value} {w : World} {a : Act} {st : St} {H : Hp} (hc : Core w0 M S0 S γ st a w) (h : ∀ i, get H i = get st.heap i) : Core w0 M S0 S γ { st with heap := H } a w :=
  ⟨hc.os, hc.tape, hc.output, hc.size, hc.old, hc.s0, hc.sold, hc.slt, hc.slot, fun s o hs => hc.obj s o ((h s).symm.trans hs), fun s s' o o' h1 h2 => hc.dis s s' o o' ((h s).symm.trans h1) ((h s').symm.trans h2), hc.defers, hc.nt, hc.fixs⟩
theorem run_extract {P : Program} {a : Act} {o : Oper} {d : Nat} {v : Value} {vs : Array Value} {w : World} (ho : o.op = .extract (.tmp d) 0) (ha : a.tmps.getD d undef = .tuple vs) (hv : vs[0]? = some v) : (execOp a.eval o).run P w = .ok (.value v) w := by
  refine execOp_value (s := Instr.extract (a.eval (.tmp d)) 0) (by simp only [execOp, ho]) ?_
  have : a.eval (.tmp d) = .tuple vs := ha
  rw [this]
  simp [Instr.extract, hv]
theorem ite_some {α : Type} {b : Prop} [Decidable b] {x : Option α} {y : α} (h : (if b then x else none) = some y) : b ∧ x = some y := by
  split at h
  · rename_i hb; exact ⟨hb, h⟩
  · cases h
theorem rangeT_ok (hΓ : HCtx Γ w0 M S0) {c1 c2 : Code} {T : Tpl} {mv : List (Nat × AV)} {R : Type} {st : St} {k : Exit → St → Option R} {x : R} {Q : Exit → St → Prop} {D : (R' : Type) → St → (Exit → St → Option R') → Option R'} {p : Nat × Nat × Nat × Nat} (hp : iterAt st c1 = some p)
    (hD : ∀ (R' : Type) (st' : St) (k' : Exit → St → Option R') (x' : R') (Q' : Exit → St → Prop), D R' st' k' = some x' → (∀ e st'', k' e st'' = some x' → st''.fix = st'.fix → Q' e st'') → AW Γ w0 M S0 c2 Q' st')
    (hfxm : ∀ {S : Nat → Prop} {γ : Nat → Value} {w : World} {a : Act}, Core w0 M S0 S γ st a w → ∀ i av, get (st.fix ++ mv) i = some av → av.pure = true ∧ Match S w γ av (a.tmps.getD i undef))
    (hrest : ∀ {S : Nat → Prop} {γ : Nat → Value} {w : World} {a : Act} {st' : St}, Core w0 M S0 S γ st' a w → st'.fix = st.fix ++ mv → Core w0 M S0 S γ (restore st' mv st.fix) a w)
    (h : rangeT T mv st p k D = some x) (hQ : ∀ e st', k e st' = some x → st'.fix = st.fix → Q e st') : AW Γ w0 M S0 (.loop (.seq c1 c2)) Q st := by
  intro a w hs
  obtain ⟨S, γ, hc⟩ := hs
  unfold iterAt at hp
  split at hp
  rotate_left
  · cases hp
  rename_i id ops
  generalize hops : ops.toList = l at hp
  have he : ops = l.toArray := by rw [← hops]
  subst he
  unfold iterOps at hp
  split at hp
  rotate_left
  · cases hp
  rename_i o1 o2
  split at hp
  rotate_left
  · cases hp
  rename_i t d1 ho1 hd1 hg1
  split at hp
  rotate_left
  · cases hp
  rename_i d d2 ho2 hd2 hg2
  split at hp
  rotate_left
  · cases hp
  rename_i hdd
  have hdd : d = d1 := Nat.eq_of_beq_eq_true hdd
  subst hdd
  split at hp
  rotate_left
  · cases hp
  rename_i s hts
  simp only [Option.some.injEq] at hp
  subst hp
  unfold rangeT at h
  split at h
  rotate_left
  · cases h
  rename_i kt et tk te rem cur hhs
  obtain ⟨hcond, h⟩ := ite_some h
  simp only [Bool.and_eq_true, decide_eq_true_eq] at hcond
  obtain ⟨hslot, ⟨hd1a, hd1b⟩, hd2a, hd2b⟩ := hcond
  have hslot : get T.1 t = some (.same (.cptr s)) := by
    split at hslot
    · rename_i s' hk
      have : s' = s := Nat.eq_of_beq_eq_true hslot
      rw [hk, this]
    · cases hslot
  split at h
  rotate_left
  · cases h
  rename_i s0 hs0
  have hOK := rangeC_some h
  clear h
  obtain ⟨S1, γ1, hc0⟩ := decF_iter hc hs0 (hfxm hc) hhs
  refine aw_loop (σ := { q : List (tk.Den × te.Den) × (Option (tk.Den × te.Den) × DenT T) // rangeOK _ _ x q.1.length q.1 q.2.2 }) (fun q => { enc T q.1.2.2 st.nt (st.fix ++ mv) with heap := (s, .iter kt et tk te q.1.1 q.1.2.1) :: (enc T q.1.2.2 st.nt (st.fix ++ mv)).heap }) (fun q => q.1.1.length) ⟨(rem, cur, s0), hOK⟩ ⟨S1, γ1, hc0⟩ ?_
  clear hc0 hOK hs0 hc hhs hts
  rintro ⟨⟨rem, cur, q⟩, hq⟩ a w ⟨S, γ, hc⟩
  simp only at hq hc
  have hsl := hc.slot t (.cptr s) (encS_same hslot)
  obtain ⟨⟨⟨r, hγ, hit⟩, hmut⟩, _⟩ := hc.obj s (.iter kt et tk te rem cur) (by simp [get])
  simp only [Match] at hsl
  obtain ⟨g, o, n, cap, h3, hv⟩ := hsl
  rw [hγ] at h3
  simp only [Value.slice.injEq, Option.some.injEq, Addr.mk.injEq, and_true] at h3
  obtain ⟨⟨rfl, rfl⟩, _⟩ := h3
  have hob : Blk (γ s) r := by rw [hγ]; exact blk_at
  have hns : ¬ S r := hmut r hob
  -- what the first two operations leave
  have first : ∀ (w' : World) (b : Bool) (vs : Array Value) (rem' : List (tk.Den × te.Den)) (cur' : Option (tk.Den × te.Den)), (Instr.next (.pointer (some ⟨r, 0, none⟩)) false o1.type).run Γ.P w = .ok (.tuple vs) w' → vs[0]? = some (.bool b) →
      w.grownBy w' (some r) → IterOk S w' tk te rem' cur' r → ∀ (Q1 : Exit → Act → World → Prop), (∀ a' , Core w0 M S0 S γ (itSt (enc T q st.nt (st.fix ++ mv)) d d2 s kt et tk te rem' cur' b) a' w' → c2.wp Γ.P Q1 a' w') → (Code.seq (.region id [o1, o2].toArray false) c2).wp Γ.P Q1 a w := by
    intro w' b vs rem' cur' hrun hvs hgr hio Q1 hk
    refine wp_seq (wp_region_lit ?_)
    refine wpList_step fun K hK => ?_
    rw [if_pos (by simp [Region.wanted, hg1])]
    have e1 : (execOp a.eval o1).run Γ.P w = .ok (.value (.tuple vs)) w' := execOp_value (s := Instr.next (a.eval (.tmp t)) false o1.type) (by simp only [execOp, ho1]) (by
      have : a.eval (.tmp t) = .pointer (some ⟨r, 0, none⟩) := hv
      rw [this]; exact hrun)
    refine wp_value e1 (hK _ _ ?_)
    rw [hd1]
    have hc1 := hc.wroteOb (o := .iter kt et tk te rem cur) (o1 := .iter kt et tk te rem' cur') (w' := w') (by simp [get]) rfl hmut (by rw [hγ]; exact hgr) ⟨⟨r, hγ, hio⟩, hmut⟩
    have hc2 := hc1.put (d := d) (by simp only [St.ok, Bool.and_eq_true, decide_eq_true_eq]; exact ⟨hd1a, hd1b⟩) (av := .undef) (v := .tuple vs) (by simp only [Match])
    have hd : (a.put (some d) (.tuple vs)).tmps.getD d undef = .tuple vs := by
      have hsz : d < a.tmps.size := by rw [hc.nt]; exact hd1a
      simp [Act.put, Array.getD_eq_getD_getElem?, Array.getElem?_setIfInBounds, hsz]
    refine wpList_step fun K2 hK2 => ?_
    rw [if_pos (by simp [Region.wanted, hg2])]
    refine wp_value (run_extract ho2 hd hvs) (hK2 _ _ (wpList_nil ?_))
    rw [hd2]
    have hc3 := hc2.put (d := d2) (by simp only [St.ok, Bool.and_eq_true, decide_eq_true_eq]; exact ⟨hd2a, hd2b⟩) (av := .data .bool b) (v := .bool b) (match_bool.2 rfl)
    refine hk _ (hc3.heapEq (H := (itSt (enc T q st.nt (st.fix ++ mv)) d d2 s kt et tk te rem' cur' b).heap) fun i => ?_)
    simp only [itSt, get]
    split <;> rfl
  -- the end
  have last : rem = [] → (Instr.next (.pointer (some ⟨r, 0, none⟩)) false o1.type).run Γ.P w = .ok (.tuple #[.bool false]) w → IterOk S w tk te [] none r → ∀ Q2 : Exit → Act → World → Prop, (∀ e a' w' st', e ≠ .normal → Q e st' → Sat w0 M S0 st' a' w' → Q2 e a' w') → (Code.seq (.region id [o1, o2].toArray false) c2).wp Γ.P Q2 a w := by
    intro hr0 hrun hio Q2 hQ2
    subst hr0
    have hB : _ = some (Sum.inr x) := hq
    refine first w false _ [] none hrun rfl ⟨rfl, rfl, rfl, Nat.le_refl _, fun _ _ _ => rfl⟩ hio _ fun a' hc' => ?_
    refine wp_mono (hD _ _ _ _ (fun e st' => st'.fix = st.fix ++ mv ∧ (match e with
      | .normal => none
      | e => (k e (restore st' mv st.fix)).map Sum.inr) = some (Sum.inr x : DenT T ⊕ R)) hB (fun e st' g1 g2 => ⟨g2, g1⟩) a' w ⟨S, γ, hc'⟩) ?_
    rintro e a2 w2 ⟨st', ⟨g1, g2⟩, S', γ', hc2⟩
    cases e with
    | normal => cases g2
    | _ =>
      obtain ⟨r', g3, g4⟩ := map_some g2
      injection g4 with g4
      subst g4
      exact hQ2 _ _ _ _ (by simp) (hQ _ _ g3 rfl) ⟨S', γ', hrest hc2 g1⟩
  rcases hit with ⟨i1, rfl, rfl⟩ | ⟨b, es, seen, lst, l, i1, i2, i3, i4, i5, i6, i7⟩
  · refine last rfl ?_ (.inl ⟨i1, rfl, rfl⟩) _ (fun e a' w' st' h1 h2 h3 => by cases e <;> first | exact absurd rfl h1 | exact ⟨st', h2, h3⟩)
    simp [Instr.next, getObj, Sem.run, i1]
  · rcases next_ok (P := Γ.P) i3 i4 i2 i5 o1.type with ⟨j1, j2⟩ | ⟨i, e0, j1, j2, j3, w1, j4, j5⟩
    · have hr0 := rem_nil i6 (fun i hi => j1 i hi)
      exact last hr0 j2 (.inr ⟨b, es, seen, lst, l, i1, i2, i3, i4, i5, by rw [← hr0]; exact i6, fun x hx => by cases hx⟩) _ (fun e a' w' st' h1 h2 h3 => by cases e <;> first | exact absurd rfl h1 | exact ⟨st', h2, h3⟩)
    · obtain ⟨x0, rem', k1, k2, k3⟩ := rem_step i6 j1 j2
      have hlen : rem.length = rem'.length + 1 := by rw [k2.length_eq]; rfl
      rw [hlen] at hq
      have hq' := hq x0 rem' k2
      have hgr : w.grownBy (setBlock w1 r (.mapIter (some b) es.size (seen.push i) es.size)) (some r) := by
        rcases j4 with rfl | rfl
        · exact grown_setBlock _ _ _
        · have h0 := grown_setBlock w.drew r (.mapIter (some b) es.size (seen.push i) es.size)
          exact ⟨h0.os, h0.tape, h0.output, h0.size, h0.block⟩
      have hag : Agree S w (setBlock w1 r (.mapIter (some b) es.size (seen.push i) es.size)) := fun i' hi' => hgr.block i' (hc.slt i' hi') (by rintro e; simp only [Option.some.injEq] at e; exact hns (e ▸ hi'))
      have hlt : r < w1.heap.size := by
        have := (Array.getElem?_eq_some_iff.1 i4).1
        rcases j4 with rfl | rfl <;> exact this
      have hio : IterOk S (setBlock w1 r (.mapIter (some b) es.size (seen.push i) es.size)) tk te rem' (some x0) r := by
        refine .inr ⟨b, es, seen.push i, es.size, l, i1, (hag b i1).trans i2, i3.mono (fun _ h => h) hag, set_block_same hlt _, Nat.le_refl _, by rw [Array.toList_push]; exact k3, fun y hy => ?_⟩
        simp only [Option.some.injEq] at hy
        subst hy
        exact ⟨i, seen, rfl, rfl, k1⟩
      refine first _ true _ rem' (some x0) j5 rfl hgr hio _ fun a' hc' => ?_
      split at hq'
      · rename_i s' hB
        refine wp_mono (hD _ _ _ _ (fun e st' => st'.fix = st.fix ++ mv ∧ (match e with
          | .normal => (match get st'.heap s with
            | some (.iter kt' et' tk' te' r' _) => (match Ty.cast (.map kt' et' tk' te') (.map kt et tk te) r' with
              | some r2 => needs [r2 = rem'] ((decF T st.nt st').map Sum.inl)
              | none => none)
            | _ => none)
          | e => (k e (restore st' mv st.fix)).map Sum.inr) = some (Sum.inl s' : DenT T ⊕ R)) hB (fun e st' g1 g2 => ⟨g2, g1⟩) a' _ ⟨S, γ, hc'⟩) ?_
        rintro e a2 w2 ⟨st', ⟨g1, g2⟩, S', γ', hc2⟩
        cases e with
        | normal =>
          simp only at g2
          split at g2
          · rename_i kt' et' tk' te' r' cur' hget
            split at g2
            · rename_i r2 hr2
              obtain ⟨hps, g5⟩ := needs_some g2
              clear g2
              have hr3 : r2 = rem' := hps _ (by simp)
              obtain ⟨e1, e2⟩ := Ty.cast_some hr2
              injection e1 with q1 q2 q3 q4
              subst q1 q2 q3 q4
              have e2 : r' = r2 := e2
              subst e2
              subst hr3
              obtain ⟨s2, g3, g4⟩ := map_some g5
              injection g4 with g4
              subst g4
              exact ⟨⟨(r', cur', s2), hq'⟩, sat_of (decF_iter hc2 g3 (fun i av hi => hc2.fixs i av (by rw [g1]; exact hi)) hget), by rw [hlen]; exact Nat.lt_succ_self _⟩
            · cases g2
          · cases g2
        | _ => obtain ⟨r', _, g4⟩ := map_some g2; cases g4
      · rename_i r' hB
        subst hq'
        refine wp_mono (hD _ _ _ _ (fun e st' => st'.fix = st.fix ++ mv ∧ (match e with
          | .normal => (match get st'.heap s with
            | some (.iter kt' et' tk' te' r' _) => (match Ty.cast (.map kt' et' tk' te') (.map kt et tk te) r' with
              | some r2 => needs [r2 = rem'] ((decF T st.nt st').map Sum.inl)
              | none => none)
            | _ => none)
          | e => (k e (restore st' mv st.fix)).map Sum.inr) = some (Sum.inr r' : DenT T ⊕ R)) hB (fun e st' g1 g2 => ⟨g2, g1⟩) a' _ ⟨S, γ, hc'⟩) ?_
        rintro e a2 w2 ⟨st', ⟨g1, g2⟩, S', γ', hc2⟩
        cases e with
        | normal =>
          simp only at g2
          split at g2
          · split at g2
            · obtain ⟨_, g2⟩ := needs_some g2
              obtain ⟨_, _, g4⟩ := map_some g2
              cases g4
            · cases g2
          · cases g2
        | _ =>
          obtain ⟨r2, g3, g4⟩ := map_some g2
          injection g4 with g4
          subst g4
          exact ⟨_, hQ _ _ g3 rfl, S', γ', hrest hc2 g1⟩
      · exact hq'.elim
theorem rangeD_ok (hΓ : HCtx Γ w0 M S0) {c1 c2 : Code} {L : Lv} {R : Type} {st : St} {k : Exit → St → Option R} {x : R} {Q : Exit → St → Prop} {D : (R' : Type) → St → (Exit → St → Option R') → Option R'} {p : Nat × Nat × Nat × Nat} (hp : iterAt st c1 = some p)
    (hD : ∀ (R' : Type) (st' : St) (k' : Exit → St → Option R') (x' : R') (Q' : Exit → St → Prop), D R' st' k' = some x' → (∀ e st'', k' e st'' = some x' → st''.fix = st'.fix → Q' e st'') → AW Γ w0 M S0 c2 Q' st')
    (h : rangeD J L (.seq c1 c2) st p k D = some x) (hQ : ∀ e st', k e st' = some x → st'.fix = st.fix → Q e st') : AW Γ w0 M S0 (.loop (.seq c1 c2)) Q st :=
  rangeT_ok hΓ hp hD (fun hc => moved_fix hc) (fun h1 h2 => restore_ok h1 h2) h hQ
theorem regD_ok (hΓ : HCtx Γ w0 M S0) (hΦ : SigsOk Γ.P Γ.gl Φ) (id : Nat) (ops : Array Oper) (draw : Bool) {R : Type} {st : St} {k : Exit → St → Option R} {x : R} {Q : Exit → St → Prop} (h : regD Γ Φ id ops draw R st k = some x) (hQ : ∀ e st', k e st' = some x → st'.fix = st.fix → Q e st') : AW Γ w0 M S0 (.region id ops draw) Q st := by
    intro a w hs
    obtain ⟨S, γ, hc⟩ := hs
    have he : ops = ops.toList.toArray := by simp
    unfold regD at h
    cases draw with
    | true =>
      simp only [if_true] at h
      split at h
      · split at h
        · rename_i hB
          exact runD_ok hΓ hΦ hB hc h fun st' a' w' S' γ' h1 h2 hc' => by
            obtain ⟨γ2, h3, h4⟩ := settle_ok (Γ := Γ) (l := assignsOf (.region id ops true)) hc'
            exact ⟨_, hQ _ _ h1 (h4.trans h2), S', γ2, h3⟩
        · split at h
          · rename_i hB
            rw [Bool.and_eq_true] at hB
            exact runE_ok hΓ hΦ hB.1 hc h fun st' a' w' S' γ' h1 h2 hc' => by
              obtain ⟨γ2, h3, h4⟩ := settle_ok (Γ := Γ) (l := assignsOf (.region id ops true)) hc'
              exact ⟨_, hQ _ _ h1 (h4.trans h2), S', γ2, h3⟩
          · split at h
            · rename_i hB
              rw [Bool.and_eq_true] at hB
              exact runE_ok hΓ hΦ hB.2 hc h fun st' a' w' S' γ' h1 h2 hc' => by
                obtain ⟨γ2, h3, h4⟩ := settle_ok (Γ := Γ) (l := assignsOf (.region id ops true)) hc'
                exact ⟨_, hQ _ _ h1 (h4.trans h2), S', γ2, h3⟩
            split at h
            · rename_i hB
              exact runT_ok hΓ hΦ hB hc h fun st' a' w' S' γ' h1 h2 hc' => by
                obtain ⟨γ2, h3, h4⟩ := settle_ok (Γ := Γ) (l := assignsOf (.region id ops true)) hc'
                exact ⟨_, hQ _ _ h1 (h4.trans h2), S', γ2, h3⟩
            · cases h
      split at h
      · rename_i hB0
        have hB := lexC_ok hB0
        clear hB0
        generalize hl : ops.toList = l at *
        subst he
        refine wp_region_quiet (C := fun w' => Below w.heap.size w w') hΓ.mixed hB ⟨rfl, rfl, rfl, Nat.le_refl _, fun _ _ => rfl⟩ ?_
        simp only
        have := runG_ok (rest := []) (Q := fun a' => ∀ w', Below w.heap.size w w' → ∃ st', Q .normal st' ∧ Sat w0 M S0 st' a' w') hΓ hΦ hc h fun st' a' h1 h2 hc' _ => wpQuiet_nil fun w' hw' => by
          obtain ⟨γ2, h3, h4⟩ := settle_ok (Γ := Γ) (l := assignsOf (.region id l.toArray true)) (hc'.grown hw')
          exact ⟨_, hQ _ _ h1 (h4.trans h2), S, γ2, h3⟩
        simpa using this
      · cases h
    | false =>
      simp only [Bool.false_eq_true, if_false] at h
      generalize hl : ops.toList = l at *
      subst he
      refine wp_region_lit (runK_ok hΓ hΦ hc h ?_)
      exact fun st' a' w' S' γ' h1 h2 hc' => ⟨st', hQ _ _ h1 h2, S', γ', hc'⟩
theorem den_both (hΓ : HCtx Γ w0 M S0) (hΦ : SigsOk Γ.P Γ.gl Φ) (c : Code) : (∀ {L : Lv} {R : Type} {st : St} {k : Exit → St → Option R} {x : R} {Q : Exit → St → Prop}, den Γ Φ J L c R st k = some x → (∀ e st', k e st' = some x → st'.fix = st.fix → Q e st') → AW Γ w0 M S0 c Q st) ∧
    ∀ c1 c2, c = .seq c1 c2 → ∀ {L : Lv} {R : Type} {st : St} {k : Exit → St → Option R} {x : R} {Q : Exit → St → Prop}, den Γ Φ J L c2 R st k = some x → (∀ e st', k e st' = some x → st'.fix = st.fix → Q e st') → AW Γ w0 M S0 c2 Q st := by
  induction c with
  | skip => exact ⟨fun h hQ a w hs => Go.wp_skip ⟨_, hQ _ _ (by simpa only [den] using h) rfl, hs⟩, fun _ _ h => by cases h⟩
  | label l => exact ⟨fun h hQ a w hs => wp_label ⟨_, hQ _ _ (by simpa only [den] using h) rfl, hs⟩, fun _ _ h => by cases h⟩
  | exit id => exact ⟨fun h hQ a w hs => wp_exit ⟨_, hQ _ _ (by simpa only [den] using h) rfl, hs⟩, fun _ _ h => by cases h⟩
  | ret => exact ⟨fun h hQ a w hs => wp_ret ⟨_, hQ _ _ (by simpa only [den] using h) rfl, hs⟩, fun _ _ h => by cases h⟩
  | region id ops draw =>
    refine ⟨?_, fun _ _ h => by cases h⟩
    intro L R st k x Q h hQ a w hs
    obtain ⟨S1, γ1, hc1⟩ := hs
    simp only [den] at h
    obtain ⟨⟨S, γ, hc⟩, hfz⟩ := frzAll_ok (l := frzOf J.frr (.region id ops draw)) hc1
    exact regD_ok hΓ hΦ id ops draw h (fun e st' h1 h2 => hQ e st' h1 (h2.trans hfz)) a w ⟨S, γ, hc⟩
  | seq c1 c2 ih1 ih2 =>
    refine ⟨?_, fun _ _ h => by cases h; exact ih2.1⟩
    intro L R st k x Q h hQ a w hs
    simp only [den] at h
    split at h
    · split at h
      · rename_i s0 hs0
        obtain ⟨S, γ, hc⟩ := hs
        obtain ⟨o, h1, h2⟩ := Option.bind_eq_some_iff.1 h
        obtain ⟨S1, γ1, hc0⟩ := decF_ok hc hs0 (moved_fix hc (L := (useL J c1 (useL J c2 L)).m) (asg := dsts c1))
        refine wp_seq (wp_mono (ih1.1 (Q := fun e st' => st'.fix = st.fix ++ moved (useL J c1 (useL J c2 L)).m (dsts c1) st ∧ (match e with
          | .normal => (decF (joinTpl Γ J (useL J c2 L).m c1 c2 st) st.nt st').map Sum.inl
          | e => (k e (restore st' (moved (useL J c1 (useL J c2 L)).m (dsts c1) st) st.fix)).map Sum.inr) = some o) h1 (fun e st' g1 g2 => ⟨g2, g1⟩) a w ⟨S1, γ1, hc0⟩) ?_)
        rintro e a' w' ⟨st', ⟨g1, g2⟩, S', γ', hc'⟩
        cases e with
        | normal =>
          obtain ⟨s, g3, rfl⟩ := map_some g2
          obtain ⟨S2, γ2, hc2⟩ := decF_ok hc' g3 (fx := st.fix ++ moved (useL J c1 (useL J c2 L)).m (dsts c1) st) (fun i av hi => hc'.fixs i av (by rw [g1]; exact hi))
          have hc3 := restore_ok hc2 rfl
          exact ih2.1 h2 hQ a' w' ⟨S2, γ2, hc3⟩
        | _ =>
          obtain ⟨r, g3, rfl⟩ := map_some g2
          simp only [Option.some.injEq] at h2
          subst h2
          exact ⟨_, hQ _ _ g3 rfl, S', γ', restore_ok hc' g1⟩
      · cases h
    · refine wp_seq (wp_mono (ih1.1 (Q := fun e st' => st'.fix = st.fix ∧ (match e with
        | .normal => pruneK J (useL J c2 L).m st' fun st'' => den Γ Φ J L c2 R st'' k
        | e => k e st') = some x) h (fun e st' g1 g2 => ⟨g2, g1⟩) a w hs) ?_)
      rintro e a' w' ⟨st', ⟨g1, g2⟩, hs'⟩
      cases e with
      | normal =>
        obtain ⟨S', γ', hc'⟩ := hs'
        simp only [pruneK_eq] at g2
        obtain ⟨hp1, hp2⟩ := prune_ok hc' (O := J) (m := (useL J c2 L).m)
        exact ih2.1 g2 (fun e st2 k1 k2 => hQ e st2 k1 (k2.trans (hp2.trans g1))) a' w' ⟨S', γ', hp1⟩
      | _ => exact ⟨st', hQ _ _ g2 g1, hs'⟩
  | cond c c1 c2 ih1 ih2 =>
    refine ⟨?_, fun _ _ h => by cases h⟩
    intro L R st k x Q h hQ a w hs
    obtain ⟨S, γ, hc⟩ := hs
    simp only [den] at h
    split at h
    · rename_i v ps hv
      obtain ⟨hps, h⟩ := needs_some h
      have := match_bool.1 (opd_ok hc hv hps)
      unfold sel at h
      refine wp_cond_split this (fun e => ?_) (fun e => ?_)
      · rw [if_pos e] at h
        exact ih1.1 h hQ a w ⟨S, γ, hc⟩
      · rw [if_neg (by rw [e]; simp)] at h
        exact ih2.1 h hQ a w ⟨S, γ, hc⟩
    · cases h
  | block id c ih =>
    refine ⟨?_, fun _ _ h => by cases h⟩
    intro L R st k x Q h hQ a w hs
    simp only [den] at h
    refine wp_block (wp_mono (ih.1 (Q := fun e st' => st'.fix = st.fix ∧ (match e with
      | .exit i => if i = id then k .normal st' else k (.exit i) st'
      | e => k e st') = some x) h (fun e st' g1 g2 => ⟨g2, g1⟩) a w hs) ?_)
    rintro e a' w' ⟨st', ⟨g1, g2⟩, hs'⟩
    cases e with
    | exit i =>
      simp only [Exit.inBlock]
      simp only at g2
      split at g2
      · rename_i e; rw [if_pos e]; exact ⟨st', hQ _ _ g2 g1, hs'⟩
      · rename_i e; rw [if_neg e]; exact ⟨st', hQ _ _ g2 g1, hs'⟩
    | _ => exact ⟨st', hQ _ _ g2 g1, hs'⟩
  | loop c ih =>
    refine ⟨?_, fun _ _ h => by cases h⟩
    intro L R st k x Q h hQ a w hs
    obtain ⟨S1, γ1, hc1⟩ := hs
    obtain ⟨⟨S, γ, hc⟩, hfz⟩ := frzAll_ok (l := frzOf J.frz c) hc1
    replace hQ : ∀ e st', k e st' = some x → st'.fix = (frzAll (frzOf J.frz c) st).fix → Q e st' := fun e st' h1 h2 => hQ e st' h1 (h2.trans hfz)
    have plain : loopD (datJ J c) L c (frzAll (frzOf J.frz c) st) k (fun R' st' k' => den Γ Φ J (headL J c L) c R' st' k') = some x → (Code.loop c).wp Γ.P (fun e a' w' => ∃ st', Q e st' ∧ Sat w0 M S0 st' a' w') a w := fun h =>
      loopD_ok (fun R' st' k' x' Q' h1 h2 => ih.1 h1 h2) h hQ a w ⟨S, γ, hc⟩
    cases c with
    | seq c1 c2 =>
      simp only [den] at h
      split at h
      · rename_i p hp
        exact rangeD_ok hΓ hp (fun R' st' k' x' Q' h1 h2 => ih.2 c1 c2 rfl h1 h2) h hQ a w ⟨S, γ, hc⟩
      · exact plain h
    | _ => exact plain (by simpa only [den] using h)
  | scope c ih =>
    refine ⟨?_, fun _ _ h => by cases h⟩
    intro L R st k x Q h hQ a w hs
    simp only [den] at h
    refine wp_scope_straight (wp_mono (ih.1 (Q := fun e st' => (match e with
      | .goto _ => none
      | e => k e st') = some x ∧ st'.fix = st.fix) h (fun e st' h1 h2 => ⟨h1, h2⟩) a w hs) ?_)
    rintro e a' w' ⟨st', ⟨g1, g2⟩, hs'⟩
    cases e with
    | goto l => cases g1
    | _ => exact ⟨st', hQ _ _ g1 g2, hs'⟩
  | goto l => exact ⟨fun h hQ a w hs => Go.wp_goto ⟨_, hQ _ _ (by simpa only [den] using h) rfl, hs⟩, fun _ _ h => by cases h⟩
  | refuse s => exact ⟨fun h => by simp [den] at h, fun _ _ h => by cases h⟩
  | rangeFunc f ps a b _ _ => exact ⟨fun h => by simp [den] at h, fun _ _ h => by cases h⟩
theorem den_ok (hΓ : HCtx Γ w0 M S0) (hΦ : SigsOk Γ.P Γ.gl Φ) (c : Code) : ∀ {L : Lv} {R : Type} {st : St} {k : Exit → St → Option R} {x : R} {Q : Exit → St → Prop}, den Γ Φ J L c R st k = some x → (∀ e st', k e st' = some x → st'.fix = st.fix → Q e st') → AW Γ w0 M S0 c Q st := (den_both hΓ hΦ c).1
theorem aw_scope {c r : Code} {Q : Exit → St → Prop} {σ : Type} {l : Nat} (hf : findLabel c l = some r) (inv : σ → St) (μ : σ → Nat) {a : Act} {w : World}
    (first : c.wp Γ.P (fun e a' w' => match e with
      | .goto l' => l' = l ∧ ∃ x, Sat w0 M S0 (inv x) a' w'
      | e => ∃ st', Q e st' ∧ Sat w0 M S0 st' a' w') a w)
    (round : ∀ x a w, Sat w0 M S0 (inv x) a w → r.wp Γ.P (fun e a' w' => match e with
      | .goto l' => l' = l ∧ ∃ x', Sat w0 M S0 (inv x') a' w' ∧ μ x' < μ x
      | e => ∃ st', Q e st' ∧ Sat w0 M S0 st' a' w') a w) : (Code.scope c).wp Γ.P (fun e a' w' => ∃ st', Q e st' ∧ Sat w0 M S0 st' a' w') a w := by
  classical
  let R : Act → World → Nat → Prop := fun a w n => ∃ x, Sat w0 M S0 (inv x) a w ∧ μ x = n
  let m : Act → World → Nat := fun a w => if h : ∃ n, R a w n then Classical.choose (least_of h) else 0
  refine wp_scope_jumps l (fun a w => ∃ x, Sat w0 M S0 (inv x) a w) m hf (wp_mono first ?_) ?_
  · intro e a' w' h
    cases e <;> exact h
  · rintro a w ⟨x1, hx1⟩
    have hex : ∃ n, R a w n := ⟨μ x1, x1, hx1, rfl⟩
    have hm : m a w = Classical.choose (least_of hex) := by simp only [m]; rw [dif_pos hex]
    obtain ⟨⟨x, hx, hmx⟩, _⟩ := Classical.choose_spec (least_of hex)
    refine wp_mono (round x a w hx) ?_
    rintro e a' w' h1
    cases e with
    | goto l' =>
      obtain ⟨hl, x', hs', hlt⟩ := h1
      refine ⟨hl, ⟨x', hs'⟩, ?_⟩
      have hex' : ∃ n, R a' w' n := ⟨μ x', x', hs', rfl⟩
      have : m a' w' ≤ μ x' := by
        simp only [m]
        rw [dif_pos hex']
        exact (Classical.choose_spec (least_of hex')).2 _ ⟨x', hs', rfl⟩
      rw [hm, ← hmx]
      omega
    | _ => exact h1
theorem denSc_ok (hΓ : HCtx Γ w0 M S0) (hΦ : SigsOk Γ.P Γ.gl Φ) (c : Code) {L : Lv} {R : Type} {st : St} {k : Exit → St → Option R} {x : R} {Q : Exit → St → Prop} (h : denSc Γ Φ J L c R st k = some x) (hQ : ∀ e st', k e st' = some x → st'.fix = st.fix → Q e st') : AW Γ w0 M S0 (.scope c) Q st := by
  unfold denSc at h
  · split at h
    · rename_i l hl
      split at h
      · rename_i r hr
        intro a w hs
        let T : St → Tpl := fun st' => tplOf J (labM J l (scopeL J c r l L)) (dsts r) st'
        let B : (st' : St) → DenT (T st') → Option (DenT (T st') ⊕ R) := fun st' s => den Γ Φ J (scopeL J c r l L) r (DenT (T st') ⊕ R) (enc (T st') s st'.nt (st'.fix ++ moved (labM J l (scopeL J c r l L)) (dsts r) st')) fun e st'' => match e with
          | .goto l' => if l' = l then (decF (T st') st'.nt st'').map .inl else none
          | e => (k e (restore st'' (moved (labM J l (scopeL J c r l L)) (dsts r) st') st'.fix)).map .inr
        refine aw_scope (σ := { p : (st' : St) × (Nat × DenT (T st')) // p.1.fix = st.fix ∧ iter (B p.1) p.2.1 p.2.2 = some x }) hr (fun p => enc (T p.1.1) p.1.2.2 p.1.1.nt (p.1.1.fix ++ moved (labM J l (scopeL J c r l L)) (dsts r) p.1.1)) (fun p => p.1.2.1) ?_ ?_
        · refine wp_mono (den_ok hΓ hΦ c (Q := fun e st' => st'.fix = st.fix ∧ (match e with
            | .goto l' => if l' = l then denJ Γ Φ J (scopeL J c r l L) l r R st' k else none
            | e => k e st') = some x) h (fun e st' g1 g2 => ⟨g2, g1⟩) a w hs) ?_
          rintro e a' w' ⟨st', ⟨g1, g2⟩, S', γ', hc'⟩
          cases e with
          | goto l' =>
            simp only at g2
            split at g2
            · rename_i hl'
              refine ⟨hl', ?_⟩
              unfold denJ at g2
              split at g2
              · rename_i s0 hs0
                obtain ⟨S1, γ1, hc0⟩ := decF_ok hc' hs0 (moved_fix hc' (L := labM J l (scopeL J c r l L)) (asg := dsts r))
                obtain ⟨n, hn⟩ := loopC_some.1 g2
                exact ⟨⟨⟨st', n, s0⟩, g1, hn⟩, S1, γ1, hc0⟩
              · cases g2
            · cases g2
          | _ => exact ⟨st', hQ _ _ g2 g1, S', γ', hc'⟩
        · rintro ⟨⟨st1, m, s⟩, hfx, hm⟩ a w hs
          cases m with
          | zero => simp [iter] at hm
          | succ m =>
            simp only [iter] at hm
            simp only at hfx
            split at hm
            · cases hm
            · rename_i s' hB
              refine wp_mono (den_ok hΓ hΦ r (Q := fun e st' => st'.fix = st1.fix ++ moved (labM J l (scopeL J c r l L)) (dsts r) st1 ∧ (match e with
                | .goto l' => if l' = l then (decF (T st1) st1.nt st').map Sum.inl else none
                | e => (k e (restore st' (moved (labM J l (scopeL J c r l L)) (dsts r) st1) st1.fix)).map Sum.inr) = some (.inl s')) hB (fun e st' g1 g2 => ⟨g2, g1⟩) a w hs) ?_
              rintro e a' w' ⟨st', ⟨g1, g2⟩, S', γ', hc'⟩
              cases e with
              | goto l' =>
                simp only at g2
                split at g2
                · rename_i hl'
                  obtain ⟨s2, g3, g4⟩ := map_some g2
                  injection g4 with g4
                  subst g4
                  exact ⟨hl', ⟨⟨st1, m, s2⟩, hfx, hm⟩, sat_of (decF_ok hc' g3 (fun i av hi => hc'.fixs i av (by rw [g1]; exact hi))), Nat.lt_succ_self m⟩
                · cases g2
              | _ => obtain ⟨r, _, g4⟩ := map_some g2; cases g4
            · rename_i r' hB
              refine wp_mono (den_ok hΓ hΦ r (Q := fun e st' => st'.fix = st1.fix ++ moved (labM J l (scopeL J c r l L)) (dsts r) st1 ∧ (match e with
                | .goto l' => if l' = l then (decF (T st1) st1.nt st').map Sum.inl else none
                | e => (k e (restore st' (moved (labM J l (scopeL J c r l L)) (dsts r) st1) st1.fix)).map Sum.inr) = some (.inr r')) hB (fun e st' g1 g2 => ⟨g2, g1⟩) a w hs) ?_
              simp only [Option.some.injEq] at hm
              subst hm
              rintro e a' w' ⟨st', ⟨g1, g2⟩, S', γ', hc'⟩
              cases e with
              | goto l' =>
                simp only at g2
                split at g2
                · obtain ⟨s2, _, g4⟩ := map_some g2; cases g4
                · cases g2
              | _ =>
                obtain ⟨r2, g3, g4⟩ := map_some g2
                injection g4 with g4
                subst g4
                exact ⟨_, hQ _ _ g3 hfx, S', γ', restore_ok hc' g1⟩
      · cases h
    · cases h
theorem denS_ok (hΓ : HCtx Γ w0 M S0) (hΦ : SigsOk Γ.P Γ.gl Φ) (c : Code) {L : Lv} {R : Type} {st : St} {k : Exit → St → Option R} {x : R} {Q : Exit → St → Prop} (h : denS Γ Φ J L c R st k = some x) (hQ : ∀ e st', k e st' = some x → st'.fix = st.fix → Q e st') : AW Γ w0 M S0 c Q st := by
  unfold denS at h
  split at h
  · exact denSc_ok hΓ hΦ _ h hQ
  · rename_i c1 c2
    intro a w hs
    refine wp_seq (wp_mono (den_ok hΓ hΦ c1 (Q := fun e st' => st'.fix = st.fix ∧ (match e with
      | .normal => denSc Γ Φ J L c2 R st' k
      | e => k e st') = some x) h (fun e st' g1 g2 => ⟨g2, g1⟩) a w hs) ?_)
    rintro e a' w' ⟨st', ⟨g1, g2⟩, hs'⟩
    cases e with
    | normal => exact denSc_ok hΓ hΦ c2 g2 (fun e st2 k1 k2 => hQ e st2 k1 (k2.trans g1)) a' w' hs'
    | _ => exact ⟨st', hQ _ _ g2 g1, hs'⟩
  · exact den_ok hΓ hΦ c h hQ
end
end Go.Abs
