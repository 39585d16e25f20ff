/- Part of the proof of the law's row: YtnoeomlanbdjeaaAbsS. -/
import Derived.Test.YtnoeomlanbdjeaaAbsR
set_option linter.all false
set_option linter.unusedVariables false
set_option linter.unusedSimpArgs false
namespace Go.Abs
open Go.RowKit

def putSt (st : St) (d : Option Nat) (av : AV) : Option St :=
  match d with
  | some d => if st.ok d then some { st with slots := (d, av) :: st.slots } else none
  | none => some st
/-- A new, empty row of a name. -/
def newRow (st : St) (x : Nat) (e : TypeId) (t : Ty) : St := { st.kill x with heap := (x, .row e t [] false) :: (st.kill x).heap }
/-- A slice variable's row bears the variable's number. -/
def assignSt (Γ : Env) (st : St) (d : Nat) (T : TypeId) (av : AV) : Option St :=
  if st.ok d then
    (match av with
    | .own s t off n => some { st.rename s d with slots := (d, .own d t off n) :: (st.rename s d).slots }
    | .full s t => some { st.rename s d with slots := (d, .full d t) :: (st.rename s d).slots }
    | .nilS => (match Γ.ty T with
      | some (.sl e t) => some (newSt st d (.row e t [] false) (.full d t))
      | _ => some { st with slots := (d, .nilS) :: st.slots })
    | av => some { st with slots := (d, av) :: st.slots })
  else none
/-- A slice variable in memory: its row bears the variable's number and 500. -/
def adoptCell (Γ : Env) (st : St) (s : Nat) (T : TypeId) : St :=
  match Γ.ty T with
  | some (.sl e t) => (match get (newRow st (s + 500) e t).heap s with
    | some (.cell e' .nilS) => { newRow st (s + 500) e t with heap := (s, .cell e' (.full (s + 500) t)) :: (newRow st (s + 500) e t).heap }
    | _ => st)
  | _ => st
def adopt1 (st : St) (s k : Nat) (e : TypeId) (t : Ty) : St :=
  match get (newRow st (fld s k) e t).heap s with
  | some (.rcd e' t' vs) => (match vs[k]? with
    | some .nilS => { newRow st (fld s k) e t with heap := (s, .rcd e' t' (vs.set k (.full (fld s k) t))) :: (newRow st (fld s k) e t).heap }
    | _ => st)
  | _ => st
mutual
/-- Where a struct's slices lie. -/
def slOf : Ty → Nat → List (Nat × (TypeId × Ty))
  | .st fs, o => slOfs fs o
  | .sl e t, o => [(o, e, t)]
  | .int _, _ => []
  | .bool, _ => []
  | .str, _ => []
  | .map _ _ _ _, _ => []
  | .arr _ _, _ => []
  | .opq _, _ => []
  | .len _ _, _ => []
def slOfs : List Ty → Nat → List (Nat × (TypeId × Ty))
  | [], _ => []
  | t :: ts, o => slOf t o ++ slOfs ts (o + t.sz)
end
def adoptAll (s : Nat) : List (Nat × (TypeId × Ty)) → St → St
  | [], st => st
  | (k, e, t) :: r, st => adoptAll s r (adopt1 st s k e t)
/-- The slices of a struct that are nil: rows of their own. -/
def adoptRcd (st : St) (s : Nat) : St :=
  match get st.heap s with
  | some (.rcd _ t _) => adoptAll s (slOf t 0) st
  | _ => st
def ownsIn : List AV → Nat → List (Nat × Nat)
  | [], _ => []
  | .full c _ :: vs, k => (c, k) :: ownsIn vs (k + 1)
  | _ :: vs, k => ownsIn vs (k + 1)
def ownAt : AV → List (Nat × Nat)
  | .full c _ => [(c, 0)]
  | .agg _ vs => ownsIn vs 0
  | _ => []
/-- Rows that come to lie in a struct bear its number and theirs. -/
def renAll (s o : Nat) : List (Nat × Nat) → St → AV → Option (St × AV)
  | [], st, y => some (st, y)
  | (c, i) :: r, st, y => if c == fld s (o + i) then renAll s o r st y
    else if y.has (fld s (o + i)) then none
    else renAll s o r (st.rename c (fld s (o + i))) (y.ren c (fld s (o + i)))
def isRcd (st : St) (s : Nat) : Bool := match get st.heap s with
  | some (.rcd _ _ _) => true
  | _ => false
def storeRcd (Γ : Env) (st : St) (T : TypeId) (s : Nat) (t : Ty) (p : List Nat) (y : AV) : Option (St × List Prop) :=
  match renAll s (t.offs p) (ownAt y) st y with
  | some (st1, y1) => (match absStore Γ st1 T (.optr s t none p) y1 with
    | some (st', q) => some (adoptRcd st' s, q)
    | none => none)
  | none => none
def storeSt0 (Γ : Env) (st : St) (T : TypeId) (x y : AV) : Option (St × List Prop) :=
  match x, y with
  | .cptr s, .full s1 t => absStore Γ (st.rename s1 (s + 500)) T (.cptr s) (.full (s + 500) t)
  | .cptr s, .nilS => (match absStore Γ st T x y with
    | some (st', ps) => some (adoptCell Γ st' s T, ps)
    | none => none)
  | .optr _ _ _ _, .full _ _ => (match pureAV st y with
    | some (b, st1, p) => (match absStore Γ st1 T x b with
      | some (st', q) => some (st', p ++ q)
      | none => none)
    | none => none)
  | .optr _ _ _ _, .own _ _ _ _ => (match pureAV st y with
    | some (b, st1, p) => (match absStore Γ st1 T x b with
      | some (st', q) => some (st', p ++ q)
      | none => none)
    | none => none)
  | _, _ => absStore Γ st T x y
def storeSt (Γ : Env) (st : St) (T : TypeId) (x y : AV) : Option (St × List Prop) :=
  match x with
  | .optr s t j p => if isRcd st s then (match j with
    | none => storeRcd Γ st T s t p y
    | some _ => none) else storeSt0 Γ st T x y
  | _ => storeSt0 Γ st T x y
def pureParts (st : St) : List (Nat × AV) → Option (List (Nat × AV) × St × List Prop)
  | [] => some ([], st, [])
  | (k, av) :: r => (match lendAV st av with
    | some (b, st1, p) => (match pureParts st1 r with
      | some (bs, st2, q) => some ((k, b) :: bs, st2, p ++ q)
      | none => none)
    | none => none)
def rawdn (st : St) : List (Nat × Operand) → Option (List (Nat × AV) × List Prop)
  | [] => some ([], [])
  | (k, x) :: xs => (match (opdRaw st x).map bareAV, rawdn st xs with
    | some (a, p), some (l, q) => some ((k, a) :: l, p ++ q)
    | _, _ => none)
def absAppendZ (Γ : Env) (st : St) (d : Nat) (T T' : TypeId) (x y : AV) : Option (St × List Prop) :=
  match Γ.ty T, Γ.ty T', x, castTo (.int .i64) y with
  | some (.sl e t), some (.int _), .nilS, some n => (match get Γ.tys e with
    | some (t1, b) => if Ty.beq t1 t && (decide (0 < t.sz) && (decide (0 < b) && st.ok d)) then
        some (newSt st d (.row e t (List.replicate (Int.toNat n) t.dflt) false) (.full d t), [(0 : Int) ≤ n, Int.toNat n * b ≤ 140737488355328])
      else none
    | none => none)
  | _, _, _, _ => none
/-- Slices that an append gives up: their lengths. -/
def lenSlots (st st' : St) (d : Nat) : List (Nat × AV) → List (Nat × AV)
  | [] => []
  | (i, _) :: r => (match get st.slots i, get st'.slots i with
    | some (.full s t), some .undef => (match get st.heap s with
      | some (.row _ t' xs _) => if Ty.beq t' t && (!(i == d) && (get st'.fix i).isNone) then (i, .lenS (List.length xs)) :: lenSlots st st' d r else lenSlots st st' d r
      | _ => lenSlots st st' d r)
    | _, _ => lenSlots st st' d r)
def absAppendK (Γ : Env) (st : St) (d : Nat) (T : TypeId) (x y : AV) : Option (St × List Prop) :=
  match absAppend Γ st d T x y with
  | some (st', ps) => some (if Γ.kln then { st' with slots := lenSlots st st' d st.slots ++ st'.slots } else st', ps)
  | none => none
def stepM (Γ : Env) (st : St) (o : Oper) : Option (St × List Prop) :=
  match o.op, o.dst with
  | .alloc T, some d => (match absAlloc Γ st d T with
    | some (st', p) => some (adoptRcd (adoptCell Γ st' d T) d, p)
    | none => none)
  | .box T x, some d => (match (opdRaw st x).map bareAV with
    | some (a, p) => (match absBox Γ st d T a with
      | some (st', q) => some (st', p ++ q)
      | none => none)
    | none => none)
  | .store T x y, none => (match opd st x, (opdRaw st y).map bareAV with
    | some (a, p), some (b, p') => (match storeSt Γ st T a b with
      | some (st', q) => some (st', p ++ (p' ++ q))
      | none => none)
    | _, _ => none)
  | .buildSlice T len parts, some d => (match rawdn st parts.toList with
    | some (l, p) => (match pureParts st l with
      | some (l', st1, p1) => (match absBuildSlice Γ st1 d T len l' with
        | some (st', q) => some (st', p ++ (p1 ++ q))
        | none => none)
      | none => none)
    | none => none)
  | .build T parts, some d => (match rawdn st parts.toList with
    | some (l, p) => if Γ.recs.contains T then (match evBuildA Γ T l with
      | some (r, q) => (match putSt st (some d) r with
        | some st' => some (st', p ++ q)
        | none => none)
      | none => none) else (match pureParts st l with
      | some (l', st1, p1) => (match evBuild Γ T l' with
        | some (r, q) => (match putSt st1 (some d) r with
          | some st' => some (st', p ++ (p1 ++ q))
          | none => none)
        | none => none)
      | none => none)
    | none => none)
  | .slice T x lo (some hi) (some mx), some d => (match opd st x, opdo st lo, opd st hi, opd st mx with
    | some (a, p), some (l, p1), some (h, p2), some (m, p3) => (match absCut3 Γ st d T a l h m with
      | some (st', q) => some (st', p ++ (p1 ++ (p2 ++ (p3 ++ q))))
      | none => none)
    | _, _, _, _ => none)
  | .makeSlice T x y, some d => if Γ.deep.contains d then none else (match opd st x, opd st y with
    | some (a, p), some (b, p') => (match absMake Γ st d T a b with
      | some (st', q) => some (st', p ++ (p' ++ q))
      | none => none)
    | _, _ => none)
  | .call c, some d => (match c.callee, c.args.toList, c.argTypes.toList with
    | .builtin .append, [x, y], [T, T'] => if T = T' then (match (opdRaw st x).map bareAV, opd st y with
      | some (a, p), some (b, p') => if Γ.inpl.contains d then (match absAppIn Γ st d T a b with
        | some (st', q) => some (st', p ++ (p' ++ q))
        | none => none) else (match absAppendK Γ st d T a b with
        | some (st', q) => some (st', p ++ (p' ++ q))
        | none => none)
      | _, _ => none) else (match (opdRaw st x).map bareAV, opd st y with
      | some (a, p), some (b, p') => (match absAppendZ Γ st d T T' a b with
        | some (st', q) => some (st', p ++ (p' ++ q))
        | none => none)
      | _, _ => none)
    | .builtin .copy, [x, y], [T, _] => (match opd st x, opd st y with
      | some (a, p), some (b, p') => (match absCopy Γ st d T a b with
        | some (st', q) => some (st', p ++ (p' ++ q))
        | none => none)
      | _, _ => none)
    | _, _, _ => none)
  | _, _ => none
section
variable {S : Nat → Prop} {w : World} {γ : Nat → Value} {Γ : Env} {w0 : World} {M S0 : Nat → Prop} {st : St} {a : Act}
theorem putSt_ok (hc : Core w0 M S0 S γ st a w) {d : Option Nat} {av : AV} {st' : St} (h : putSt st d av = some st') {v : Value} (hv : Match S w γ av v) : Core w0 M S0 S γ st' (a.put d v) w := by
  unfold putSt at h
  split at h
  · split at h
    · rename_i hd
      simp only [Option.some.injEq] at h
      subst h
      exact hc.put hd hv
    · cases h
  · simp only [Option.some.injEq] at h
    subst h
    exact hc
theorem newRow_ok (hc : Core w0 M S0 S γ st a w) (x : Nat) (e : TypeId) (t : Ty) : Core w0 M S0 S (upd γ x (.slice none 0 0)) (newRow st x e t) a w :=
  hc.new (d := x) (hv := .slice none 0 0) (o := .row e t [] false) (Below.refl _ w) ⟨⟨[], Owns.nil w e t.sz, ⟨by simp, fun j x h => by simp at h⟩⟩, fun k hk => by simp [blk_slice, Value.ownBlock] at hk⟩ (fun k hk => by simp [blk_slice, Value.ownBlock] at hk)
theorem Core.recell (hc : Core w0 M S0 S γ st a w) {s : Nat} {e : TypeId} {av av' : AV} (hs : get st.heap s = some (.cell e av)) (himp : ∀ u, Match S w γ av u → Match S w γ av' u) : Core w0 M S0 S γ { st with heap := (s, .cell e av') :: st.heap } a w := by
  refine ⟨hc.os, hc.tape, hc.output, hc.size, hc.old, hc.s0, hc.sold, hc.slt, hc.slot, ?_, ?_, hc.defers, hc.nt, hc.fixs⟩
  · intro s' o' hs'
    simp only [get] at hs'
    split at hs'
    · rename_i e'
      subst e'
      have e' : Ob.cell e av' = o' := by simpa using hs'
      subst e'
      obtain ⟨⟨⟨u, h1, h2, h4⟩, h3⟩, h5⟩ := hc.obj s' _ hs
      exact ⟨⟨⟨u, h1, himp u h2, h4⟩, h3⟩, h5⟩
    · exact hc.obj s' o' hs'
  · have key : ∀ i o', get ((s, Ob.cell e av') :: st.heap) i = some o' → o'.live = true → ∃ o'', get st.heap i = some o'' ∧ o''.live = true := by
      intro i o' hi hl
      simp only [get] at hi
      split at hi
      · rename_i e'; subst e'; exact ⟨_, hs, rfl⟩
      · exact ⟨o', hi, hl⟩
    intro i j o1 o2 h1 h2 l1 l2 hne
    obtain ⟨o1', h1', l1'⟩ := key i o1 h1 l1
    obtain ⟨o2', h2', l2'⟩ := key j o2 h2 l2
    exact hc.dis i j o1' o2' h1' h2' l1' l2' hne
theorem Core.rerec (hc : Core w0 M S0 S γ st a w) {s : Nat} {e : TypeId} {t : Ty} {vs vs' : List AV} (hs : get st.heap s = some (.rcd e t vs)) (himp : ∀ us, Matches S w γ vs us → Matches S w γ vs' us) : Core w0 M S0 S γ { st with heap := (s, .rcd e t vs') :: st.heap } a w := by
  refine ⟨hc.os, hc.tape, hc.output, hc.size, hc.old, hc.s0, hc.sold, hc.slt, hc.slot, ?_, ?_, hc.defers, hc.nt, hc.fixs⟩
  · intro s' o' hs'
    simp only [get] at hs'
    split at hs'
    · rename_i e'
      subst e'
      have e' : Ob.rcd e t vs' = o' := by simpa using hs'
      subst e'
      obtain ⟨⟨⟨u, h1, h2, h4⟩, h3⟩, h5⟩ := hc.obj s' _ hs
      exact ⟨⟨⟨u, h1, himp u h2, h4⟩, h3⟩, h5⟩
    · exact hc.obj s' o' hs'
  · have key : ∀ i o', get ((s, Ob.rcd e t vs') :: st.heap) i = some o' → o'.live = true → ∃ o'', get st.heap i = some o'' ∧ o''.live = true := by
      intro i o' hi hl
      simp only [get] at hi
      split at hi
      · rename_i e'; subst e'; exact ⟨_, hs, rfl⟩
      · exact ⟨o', hi, hl⟩
    intro i j o1 o2 h1 h2 l1 l2 hne
    obtain ⟨o1', h1', l1'⟩ := key i o1 h1 l1
    obtain ⟨o2', h2', l2'⟩ := key j o2 h2 l2
    exact hc.dis i j o1' o2' h1' h2' l1' l2' hne
theorem matches_set : ∀ {vs : List AV} {us : List Value} {k : Nat} {x y : AV}, vs[k]? = some x → (∀ u, Match S w γ x u → Match S w γ y u) → Matches S w γ vs us → Matches S w γ (vs.set k y) us
  | [], _, _, _, _, h, _, _ => by simp at h
  | v :: vs, us, 0, x, y, h, hi, hm => by
    have h : v = x := by simpa using h
    subst h
    simp only [Matches, List.set_cons_zero] at hm ⊢
    obtain ⟨u, us', e, h1, h2⟩ := hm
    exact ⟨u, us', e, hi u h1, h2⟩
  | v :: vs, us, k + 1, x, y, h, hi, hm => by
    simp only [Matches, List.set_cons_succ] at hm ⊢
    obtain ⟨u, us', e, h1, h2⟩ := hm
    exact ⟨u, us', e, h1, matches_set (k := k) (by simpa using h) hi h2⟩
theorem adopt1_ok (hc : Core w0 M S0 S γ st a w) (s k : Nat) (e : TypeId) (t : Ty) : (∃ γ', Core w0 M S0 S γ' (adopt1 st s k e t) a w) ∧ (adopt1 st s k e t).fix = st.fix := by
  unfold adopt1
  split
  · rename_i e' t' vs hs
    split
    · rename_i hk
      refine ⟨⟨_, (newRow_ok hc (fld s k) e t).rerec hs fun us hus => matches_set hk (fun u hu => ?_) hus⟩, rfl⟩
      simp only [Match] at hu ⊢
      subst hu
      exact ⟨(upd_same ..).symm, _, _, _, rfl⟩
    · exact ⟨⟨γ, hc⟩, rfl⟩
  · exact ⟨⟨γ, hc⟩, rfl⟩
theorem adoptAll_ok {s : Nat} : ∀ {l : List (Nat × (TypeId × Ty))} {st : St} {γ : Nat → Value}, Core w0 M S0 S γ st a w → (∃ γ', Core w0 M S0 S γ' (adoptAll s l st) a w) ∧ (adoptAll s l st).fix = st.fix
  | [], st, γ, hc => ⟨⟨γ, hc⟩, rfl⟩
  | (k, e, t) :: r, st, γ, hc => by
    obtain ⟨⟨γ1, h1⟩, h2⟩ := adopt1_ok hc s k e t
    obtain ⟨h3, h4⟩ := adoptAll_ok (s := s) (l := r) h1
    exact ⟨h3, h4.trans h2⟩
theorem adoptRcd_ok (hc : Core w0 M S0 S γ st a w) (s : Nat) : (∃ γ', Core w0 M S0 S γ' (adoptRcd st s) a w) ∧ (adoptRcd st s).fix = st.fix := by
  unfold adoptRcd
  split
  · exact adoptAll_ok hc
  · exact ⟨⟨γ, hc⟩, rfl⟩
theorem renAll_ok {s o : Nat} : ∀ {l : List (Nat × Nat)} {st st' : St} {y y' : AV} {γ : Nat → Value} {v : Value}, Core w0 M S0 S γ st a w → renAll s o l st y = some (st', y') → Match S w γ y v →
    ∃ γ', Core w0 M S0 S γ' st' a w ∧ Match S w γ' y' v ∧ γ' s = γ s ∧ st'.fix = st.fix
  | [], st, st', y, y', γ, v, hc, h, hm => by
    simp only [renAll, Option.some.injEq, Prod.mk.injEq] at h
    obtain ⟨rfl, rfl⟩ := h
    exact ⟨γ, hc, hm, rfl, rfl⟩
  | (c, i) :: r, st, st', y, y', γ, v, hc, h, hm => by
    unfold renAll at h
    split at h
    · exact renAll_ok hc h hm
    · split at h
      · cases h
      · rename_i hh
        obtain ⟨γ1, k1, k2, k3⟩ := hc.rename' c (fld s (o + i))
        obtain ⟨γ2, m1, m2, m3, m4⟩ := renAll_ok k1 h (match_ren k2 (fun j h1 h2 => k3 j h2) (by simpa using hh) hm)
        refine ⟨γ2, m1, m2, m3.trans (k3 s (by simp only [fld]; omega)), m4.trans ?_⟩
        unfold St.rename
        split <;> rfl
theorem adoptCell_ok (hc : Core w0 M S0 S γ st a w) (s : Nat) (T : TypeId) : ∃ γ', Core w0 M S0 S γ' (adoptCell Γ st s T) a w := by
  unfold adoptCell
  split
  · rename_i e t ht
    split
    · rename_i e' hs
      refine ⟨_, (newRow_ok hc (s + 500) e t).recell hs fun u hu => ?_⟩
      simp only [Match] at hu ⊢
      subst hu
      exact ⟨(upd_same ..).symm, _, _, _, rfl⟩
    · exact ⟨γ, hc⟩
  · exact ⟨γ, hc⟩
theorem assignSt_ok (hc : Core w0 M S0 S γ st a w) {d : Nat} {T : TypeId} {av : AV} {st' : St} (h : assignSt Γ st d T av = some st') {v : Value} (hv : Match S w γ av v) : ∃ γ', Core w0 M S0 S γ' st' (a.put (some d) v) w := by
  unfold assignSt at h
  split at h
  · rename_i hd
    have ren : ∀ s t, (∀ γ' : Nat → Value, γ' d = γ s → ∀ av', Match S w γ av v → (av' = AV.full d t → av = .full s t → Match S w γ' av' v)) := by
      intro s t γ' hg av' hv e1 e2
      subst e1 e2
      simp only [Match] at hv ⊢
      rw [hg]; exact hv
    split at h
    · rename_i s t off n
      simp only [Option.some.injEq] at h
      subst h
      unfold St.rename
      by_cases hsd : s = d
      · subst hsd
        simp only [if_true]
        exact ⟨γ, hc.put hd hv⟩
      · simp only [if_neg hsd]
        have key := hc.rename s d
        obtain ⟨γ', h1, h2⟩ := key
        unfold St.rename at h1
        rw [if_neg hsd] at h1
        refine ⟨γ', h1.put hd ?_⟩
        simp only [Match] at hv ⊢
        rw [h2]
        exact hv
    · rename_i s t
      simp only [Option.some.injEq] at h
      subst h
      unfold St.rename
      by_cases hsd : s = d
      · subst hsd
        simp only [if_true]
        exact ⟨γ, hc.put hd hv⟩
      · simp only [if_neg hsd]
        have key := hc.rename s d
        obtain ⟨γ', h1, h2⟩ := key
        unfold St.rename at h1
        rw [if_neg hsd] at h1
        refine ⟨γ', h1.put hd ?_⟩
        simp only [Match] at hv ⊢
        rw [h2]
        exact hv
    · simp only [Match] at hv
      subst hv
      split at h
      · rename_i e t ht
        simp only [Option.some.injEq] at h
        subst h
        exact hc.adopt hd e t
      · simp only [Option.some.injEq] at h
        subst h
        exact ⟨γ, hc.put hd (by simp only [Match])⟩
    · simp only [Option.some.injEq] at h
      subst h
      exact ⟨γ, hc.put hd hv⟩
  · cases h
theorem storeSt0_ok (hΓ : EnvOk Γ) (hc : Core w0 M S0 S γ st a w) {T : TypeId} {x y : AV} {st' : St} {ps : List Prop} (h : storeSt0 Γ st T x y = some (st', ps)) (hps : ∀ p ∈ ps, p) {ux uy : Value} (hx : Match S w γ x ux) (hy : Match S w γ y uy) :
    ∃ w' S' γ', (Instr.storeAt T ux uy).run Γ.P w = .ok () w' ∧ Core w0 M S0 S' γ' st' a w' := by
  have pur : ∀ {x : AV}, (match pureAV st y with
      | some (b, st1, p) => (match absStore Γ st1 T x b with
        | some (st', q) => some (st', p ++ q)
        | none => none)
      | none => none) = some (st', ps) → Match S w γ x ux → ∃ w' S' γ', (Instr.storeAt T ux uy).run Γ.P w = .ok () w' ∧ Core w0 M S0 S' γ' st' a w' := by
    intro x h hx
    split at h
    · rename_i b st1 p hb
      split at h
      · rename_i st2 q hst
        simp only [Option.some.injEq, Prod.mk.injEq] at h
        obtain ⟨rfl, rfl⟩ := h
        obtain ⟨S1, k1, k2, k3, _, _⟩ := pureAV_ok hc hb (fun p hp => hps p (List.mem_append.2 (.inl hp))) hy
        obtain ⟨w', g1, g2⟩ := absStore_ok hΓ k2 hst (fun p hp => hps p (List.mem_append.2 (.inr hp))) (hx.mono k1 (fun _ _ => rfl) (fun _ _ => rfl)) k3
        exact ⟨w', _, _, g1, g2⟩
      · cases h
    · cases h
  unfold storeSt0 at h
  split at h
  · rename_i s s1 t
    obtain ⟨γ', h1, h2, h3⟩ := hc.rename' s1 (s + 500)
    have hx' : Match S w γ' (.cptr s) ux := by
      simp only [Match] at hx ⊢
      rw [h3 s (by omega)]
      exact hx
    obtain ⟨w', g1, g2⟩ := absStore_ok hΓ h1 h hps hx' (by
      simp only [Match] at hy ⊢
      rw [h2]; exact hy)
    exact ⟨w', _, _, g1, g2⟩
  · split at h
    · rename_i st1 q hst
      simp only [Option.some.injEq, Prod.mk.injEq] at h
      obtain ⟨rfl, rfl⟩ := h
      obtain ⟨w', g1, g2⟩ := absStore_ok hΓ hc hst hps hx hy
      obtain ⟨γ', g3⟩ := adoptCell_ok (Γ := Γ) g2 _ T
      exact ⟨w', _, _, g1, g3⟩
    · cases h
  · exact pur h hx
  · exact pur h hx
  · obtain ⟨w', g1, g2⟩ := absStore_ok hΓ hc h hps hx hy
    exact ⟨w', _, _, g1, g2⟩
theorem storeRcd_ok (hΓ : EnvOk Γ) (hc : Core w0 M S0 S γ st a w) {T : TypeId} {s : Nat} {t : Ty} {p : List Nat} {y : AV} {st' : St} {ps : List Prop} (h : storeRcd Γ st T s t p y = some (st', ps)) (hps : ∀ p ∈ ps, p) {ux uy : Value} (hx : Match S w γ (.optr s t none p) ux) (hy : Match S w γ y uy) :
    ∃ w' γ', (Instr.storeAt T ux uy).run Γ.P w = .ok () w' ∧ Core w0 M S0 S γ' st' a w' := by
  unfold storeRcd at h
  split at h
  · rename_i st1 y1 hr
    split at h
    · rename_i st2 q hst
      simp only [Option.some.injEq, Prod.mk.injEq] at h
      obtain ⟨rfl, rfl⟩ := h
      obtain ⟨γ1, k1, k2, k3, _⟩ := renAll_ok hc hr hy
      have hx' : Match S w γ1 (.optr s t none p) ux := by
        simp only [Match] at hx ⊢
        rw [k3]; exact hx
      obtain ⟨w', g1, g2⟩ := absStore_ok hΓ k1 hst hps hx' k2
      obtain ⟨⟨γ2, g3⟩, _⟩ := adoptRcd_ok g2 s
      exact ⟨w', γ2, g1, g3⟩
    · cases h
  · cases h
theorem storeSt_ok (hΓ : EnvOk Γ) (hc : Core w0 M S0 S γ st a w) {T : TypeId} {x y : AV} {st' : St} {ps : List Prop} (h : storeSt Γ st T x y = some (st', ps)) (hps : ∀ p ∈ ps, p) {ux uy : Value} (hx : Match S w γ x ux) (hy : Match S w γ y uy) :
    ∃ w' S' γ', (Instr.storeAt T ux uy).run Γ.P w = .ok () w' ∧ Core w0 M S0 S' γ' st' a w' := by
  unfold storeSt at h
  split at h
  · split at h
    · split at h
      · obtain ⟨w', γ', h1, h2⟩ := storeRcd_ok hΓ hc h hps hx hy
        exact ⟨w', S, γ', h1, h2⟩
      · cases h
    · exact storeSt0_ok hΓ hc h hps hx hy
  · exact storeSt0_ok hΓ hc h hps hx hy
end
end Go.Abs
