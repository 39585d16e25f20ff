/- Part of the proof of the law's row: YtnoeomlanbdjeaaAbsY. -/
import Derived.Test.YtnoeomlanbdjeaaAbsX
set_option linter.all false
set_option linter.unusedVariables false
set_option linter.unusedSimpArgs false
namespace Go.Abs
open Go.RowKit
def callB (P : Program) (f : FuncId) : Bool := (match P.funcs[f]? with | some fn => fn.body.isSome && !(fn.name == "runtime.NumGoroutine") | none => false)
theorem callB_ok {P : Program} {f : FuncId} (h : callB P f = true) : Callable P f := by
  unfold callB at h
  split at h
  · rename_i fn hf
    simp only [Bool.and_eq_true, Bool.not_eq_true'] at h
    exact ⟨fn, hf, h.1, h.2⟩
  · cases h
theorem sigs_nil {P : Program} {gl : List (Nat × AV)} : SigsOk P gl [] := fun f sig h => by simp [get] at h
theorem sigs_cons {P : Program} {gl : List (Nat × AV)} {f : FuncId} {sig : Sig} {Φ : Sigs} (h : SigOk P gl f sig) (hc : callB P f = true) (hr : SigsOk P gl Φ) : SigsOk P gl ((f, sig) :: Φ) := fun g s hg => by
  simp only [get] at hg
  split at hg
  · rename_i e
    simp only [Option.some.injEq] at hg
    subst hg e
    exact ⟨callB_ok hc, h⟩
  · exact hr g s hg
@[reducible] def zStr : ByteArray := ⟨#[]⟩
/-- The text of these bytes. -/
@[reducible] def byt (l : List Nat) : ByteArray := ⟨(l.map UInt8.ofNat).toArray⟩
/-! ### Results as plain data -/
inductive RD where
  | data (t : Ty)
  | full (s : Nat) (t : Ty)
  | own (s : Nat) (t : Ty)
  /-- just this -/
  | same (av : AV)
  /-- a struct, cell by cell -/
  | agg (t : Ty) (ks : List CK)
@[reducible] def DenR : List RD → Type → Type
  | [], R => R
  | .data t :: r, R => t.Den × DenR r R
  | .full _ _ :: r, R => DenR r R
  | .same _ :: r, R => DenR r R
  | .own _ _ :: r, R => (Nat × Nat) × DenR r R
  | .agg _ ks :: r, R => DenC ks × DenR r R
def encR {R : Type} : (l : List RD) → DenR l R → List AV × R
  | [], x => ([], x)
  | .data t :: r, x => (.data t x.1 :: (encR r x.2).1, (encR r x.2).2)
  | .full s t :: r, x => (.full s t :: (encR r x).1, (encR r x).2)
  | .same av :: r, x => (av :: (encR r x).1, (encR r x).2)
  | .own s t :: r, x => (.own s t x.1.1 x.1.2 :: (encR r x.2).1, (encR r x.2).2)
  | .agg t ks :: r, x => (.agg t (encC ks x.1) :: (encR r x.2).1, (encR r x.2).2)
def decR {R : Type} (h : R) : (l : List RD) → List AV → Option (DenR l R)
  | [], [] => some h
  | .data t :: r, av :: avs => (match castTo t av, decR h r avs with
    | some x, some y => some (x, y)
    | _, _ => none)
  | .full s t :: r, av :: avs => if AV.eqB (.full s t) av then decR h r avs else none
  | .same av0 :: r, av :: avs => if AV.eqB av0 av then decR h r avs else none
  | .own s t :: r, av :: avs => (match av with
    | .own s' t' off n => if s == s' && Ty.beq t t' then (match decR h r avs with
      | some y => some ((off, n), y)
      | none => none) else none
    | _ => none)
  | .agg t ks :: r, av :: avs => (match av with
    | .agg t' vs => if Ty.beq t t' then (match decC ks vs, decR h r avs with
      | some x, some y => some (x, y)
      | _, _ => none) else none
    | _ => none)
  | _, _ => none
/-- What a function gives: its results, the objects, the arguments that are as they were. -/
structure OutD where
  res : List RD
  heap : List (Nat × OK)
  post : List (Nat × AV)
@[reducible] def OutD.Y (d : OutD) : Type := DenR d.res (DenO d.heap)
def OutD.out (d : OutD) (y : d.Y) : AV × Hp × List (Nat × AV) := (single (encR d.res y).1, encO d.heap (encR d.res y).2, d.post)
def unsingle (n : Nat) (av : AV) : Option (List AV) := if n = 1 then some [av] else (match av with
  | .tup l => some l
  | _ => none)
def postB : List (Nat × AV) → List (Nat × AV) → Bool
  | [], _ => true
  | (i, av) :: r, q => (match get q i with
    | some av' => AV.eqB av av' && postB r q
    | none => false)
def OutD.dec (d : OutD) (o : AV × Hp × List (Nat × AV)) : Option d.Y :=
  match unsingle d.res.length o.1 with
  | some l => (match decO ⟨[], o.2.1, 0, []⟩ d.heap with
    | some h => if postB d.post o.2.2 then decR h d.res l else none
    | none => none)
  | none => none
section
variable {S : Nat → Prop} {w : World} {γ : Nat → Value}
theorem decR_ok {R : Type} {h : R} : ∀ {l : List RD} {avs : List AV} {y : DenR l R} {vs : List Value}, decR h l avs = some y → Matches S w γ avs vs → Matches S w γ (encR l y).1 vs ∧ (encR l y).2 = h ∧ (encR l y).1.length = l.length
  | [], [], y, vs, hd, hm => by
    simp only [decR, Option.some.injEq] at hd
    subst hd
    exact ⟨hm, rfl, rfl⟩
  | [], _ :: _, y, vs, hd, _ => by simp [decR] at hd
  | .data t :: r, [], y, vs, hd, _ => by simp [decR] at hd
  | .full s t :: r, [], y, vs, hd, _ => by simp [decR] at hd
  | .same av :: r, [], y, vs, hd, _ => by simp [decR] at hd
  | .same av0 :: r, av :: avs, y, vs, hd, hm => by
    unfold decR at hd
    split at hd
    · rename_i he
      simp only [Matches] at hm
      obtain ⟨u, us, rfl, m1, m2⟩ := hm
      obtain ⟨k1, k2, k3⟩ := decR_ok hd m2
      simp only [encR, Matches]
      exact ⟨⟨u, us, rfl, eqB_ok he m1, k1⟩, k2, by simp [k3]⟩
    · cases hd
  | .agg t ks :: r, [], y, vs, hd, _ => by simp [decR] at hd
  | .agg t ks :: r, av :: avs, y, vs, hd, hm => by
    unfold decR at hd
    split at hd
    · rename_i t' ws
      split at hd
      · rename_i hb
        obtain rfl := Ty.eq_of_beq hb
        split at hd
        · rename_i x z h1 h2
          have hd : (x, z) = y := Option.some.inj hd
          subst hd
          simp only [Matches] at hm
          obtain ⟨u, us, rfl, m1, m2⟩ := hm
          obtain ⟨k1, k2, k3⟩ := decR_ok h2 m2
          simp only [Match] at m1
          obtain ⟨cs, rfl, m3⟩ := m1
          simp only [encR, Matches, Match]
          exact ⟨⟨_, us, rfl, ⟨cs, rfl, decC_ok h1 m3⟩, k1⟩, k2, by simp [k3]⟩
        · cases hd
      · cases hd
    · cases hd
  | .own s t :: r, [], y, vs, hd, _ => by simp [decR] at hd
  | .own s t :: r, av :: avs, y, vs, hd, hm => by
    unfold decR at hd
    split at hd
    · rename_i s' t' off n
      split at hd
      · rename_i hcond
        simp only [Bool.and_eq_true, beq_iff_eq] at hcond
        obtain ⟨rfl, hb⟩ := hcond
        obtain rfl := Ty.eq_of_beq hb
        split at hd
        · rename_i z h2
          have hd : ((off, n), z) = y := Option.some.inj hd
          subst hd
          simp only [Matches] at hm
          obtain ⟨u, us, rfl, m1, m2⟩ := hm
          obtain ⟨k1, k2, k3⟩ := decR_ok h2 m2
          simp only [encR, Matches]
          exact ⟨⟨u, us, rfl, m1, k1⟩, k2, by simp [k3]⟩
        · cases hd
      · cases hd
    · cases hd
  | .data t :: r, av :: avs, y, vs, hd, hm => by
    unfold decR at hd
    split at hd
    · rename_i x z h1 h2
      have hd : (x, z) = y := Option.some.inj hd
      subst hd
      simp only [Matches] at hm
      obtain ⟨u, us, rfl, m1, m2⟩ := hm
      obtain ⟨k1, k2, k3⟩ := decR_ok h2 m2
      simp only [encR, Matches]
      exact ⟨⟨u, us, rfl, match_data.2 (castTo_ok m1 h1), k1⟩, k2, by simp [k3]⟩
    · cases hd
  | .full s t :: r, av :: avs, y, vs, hd, hm => by
    unfold decR at hd
    split at hd
    · rename_i he
      simp only [Matches] at hm
      obtain ⟨u, us, rfl, m1, m2⟩ := hm
      obtain ⟨k1, k2, k3⟩ := decR_ok hd m2
      simp only [encR, Matches]
      exact ⟨⟨u, us, rfl, eqB_ok he m1, k1⟩, k2, by simp [k3]⟩
    · cases hd
theorem postB_ok {vs : List Value} : ∀ {p q : List (Nat × AV)}, postB p q = true → (∀ i av, get q i = some av → ∃ u, vs[i]? = some u ∧ Match S w γ av u) → ∀ i av, get p i = some av → ∃ u, vs[i]? = some u ∧ Match S w γ av u
  | [], q, _, _, i, av, hi => by simp [get] at hi
  | (j, av1) :: r, q, h, hq, i, av, hi => by
    unfold postB at h
    split at h
    · rename_i av' hav'
      simp only [Bool.and_eq_true] at h
      simp only [get] at hi
      split at hi
      · rename_i e
        simp only [Option.some.injEq] at hi
        subst e hi
        obtain ⟨u, h1, h2⟩ := hq _ _ hav'
        exact ⟨u, h1, eqB_ok h.1 h2⟩
      · exact postB_ok h.2 hq i av hi
    · cases h
end
theorem single_ne {l : List AV} (h : l.length ≠ 1) : single l = .tup l := by
  rcases l with _ | ⟨x, _ | ⟨y, l⟩⟩
  · rfl
  · simp at h
  · rfl
theorem OutD.dec_ok {d : OutD} {H H' : Hp} {r : AV} {post : List (Nat × AV)} {y : d.Y} (h : d.dec (r, H', post) = some y) {S : Nat → Prop} {w : World} {γ : Nat → Value} {vs : List Value} {v : Value} {S' : Nat → Prop} {γ' : Nat → Value} {w' : World} (hd : Done S w γ H r H' post vs v S' γ' w') : Done S w γ H (d.out y).1 (d.out y).2.1 (d.out y).2.2 vs v S' γ' w' := by
  unfold OutD.dec at h
  split at h
  · rename_i l hl2
    split at h
    · rename_i hh hho
      split at h
      · rename_i hpost
        have hres : Match S' w' γ' (single (encR d.res y).1) v ∧ (encR d.res y).2 = hh := by
          unfold unsingle at hl2
          split at hl2
          · rename_i hn
            simp only [Option.some.injEq] at hl2
            subst hl2
            obtain ⟨k1, k2, k3⟩ := decR_ok h (vs := [v]) (by simp only [Matches]; exact ⟨v, [], rfl, hd.res, rfl⟩)
            refine ⟨?_, k2⟩
            rw [hn] at k3
            generalize (encR d.res y).1 = l1 at k1 k3
            rcases l1 with _ | ⟨x, _ | ⟨y, l1⟩⟩
            · simp at k3
            · simp only [Matches] at k1
              obtain ⟨u, us, e, m1, rfl⟩ := k1
              injection e with e1 e2
              subst e1
              exact m1
            · simp at k3
          · rename_i hn
            split at hl2
            · rename_i l' hr
              simp only [Option.some.injEq] at hl2
              subst hl2
              have hres := hd.res
              rw [show r = .tup l' from hr] at hres
              simp only [Match] at hres
              obtain ⟨us, rfl, hms⟩ := hres
              obtain ⟨k1, k2, k3⟩ := decR_ok h hms
              refine ⟨?_, k2⟩
              rw [single_ne (by rw [k3]; exact hn)]
              simp only [Match]
              exact ⟨us, rfl, k1⟩
            · cases hl2
        have hob := decO_ok (S := S') (w := w') (γ := γ') (st := ⟨[], H', 0, []⟩) (fun s o hs => hd.heap.obj s o hs) hho
        refine ⟨hd.os, hd.tape, hd.output, hd.size, hd.old, hd.sub, hd.sold, hd.slt, hres.1, ⟨?_, ?_⟩, ?_, ?_⟩
        · intro s o hs
          simp only [OutD.out, hres.2] at hs
          obtain ⟨o', k1, k2, k3, k4⟩ := hob s o hs
          exact k4
        · intro s s' o o' h1 h2 l1 l2 hne
          simp only [OutD.out, hres.2] at h1 h2
          obtain ⟨o1, k1, _, k3, _⟩ := hob s o h1
          obtain ⟨o2, m1, _, m3, _⟩ := hob s' o' h2
          exact hd.heap.dis s s' o1 o2 k1 m1 k3 m3 hne
        · intro s o hs hlv
          simp only [OutD.out, hres.2] at hs
          obtain ⟨o', k1, k2, k3, k4⟩ := hob s o hs
          exact hd.fresh s o' k1 k3
        · exact postB_ok hpost hd.post
      · cases h
    · cases h
  · cases h
/-! ### Arguments as plain data -/
inductive AD where
  | data (t : Ty)
  /-- a slice of which more can be read than its length says -/
  | lent (e : TypeId) (t : Ty)
  | same (av : AV)
  /-- a part of a row that is handed in -/
  | own (s : Nat) (t : Ty)
@[reducible] def DenA : List AD → Type → Type
  | [], R => R
  | .data t :: r, R => t.Den × DenA r R
  | .lent _ t :: r, R => List t.Den × Nat × DenA r R
  | .same _ :: r, R => DenA r R
  | .own _ _ :: r, R => (Nat × Nat) × DenA r R
def encA {R : Type} : (l : List AD) → DenA l R → List AV × R
  | [], x => ([], x)
  | .data t :: r, x => (.data t x.1 :: (encA r x.2).1, (encA r x.2).2)
  | .lent e t :: r, x => (.lent e t x.1 x.2.1 :: (encA r x.2.2).1, (encA r x.2.2).2)
  | .same av :: r, x => (av :: (encA r x).1, (encA r x).2)
  | .own s t :: r, x => (.own s t x.1.1 x.1.2 :: (encA r x.2).1, (encA r x.2).2)
def decA {R : Type} (h : R) : (l : List AD) → List AV → Option (DenA l R)
  | [], [] => some h
  | .data t :: r, av :: avs => (match castTo t av, decA h r avs with
    | some x, some y => some (x, y)
    | _, _ => none)
  | .lent e t :: r, av :: avs => (match av with
    | .lent e' t' xs n => if e == e' then (match Ty.cast (.sl e t') (.sl e t) xs, decA h r avs with
      | some x, some y => some (x, n, y)
      | _, _ => none) else none
    | _ => none)
  | .same av' :: r, av :: avs => if AV.eqB av' av then decA h r avs else none
  | .own s t :: r, av :: avs => (match av with
    | .own s' t' off n => if s == s' && Ty.beq t t' then (match decA h r avs with
      | some y => some ((off, n), y)
      | none => none) else none
    | _ => none)
  | _, _ => none
def AD.lends : AD → Bool
  | .same _ => false
  | .own _ _ => false
  | _ => true
section
variable {S : Nat → Prop} {w : World} {γ : Nat → Value}
theorem decA_ok {R : Type} {h : R} : ∀ {l : List AD} {avs : List AV} {y : DenA l R} {vs : List Value}, decA h l avs = some y → Matches S w γ avs vs → Matches S w γ (encA l y).1 vs ∧ (encA l y).2 = h
  | [], [], y, vs, hd, hm => by
    simp only [decA, Option.some.injEq] at hd
    subst hd
    exact ⟨hm, rfl⟩
  | [], _ :: _, y, vs, hd, _ => by simp [decA] at hd
  | .data t :: r, [], y, vs, hd, _ => by simp [decA] at hd
  | .lent e t :: r, [], y, vs, hd, _ => by simp [decA] at hd
  | .same av :: r, [], y, vs, hd, _ => by simp [decA] at hd
  | .own s t :: r, [], y, vs, hd, _ => by simp [decA] at hd
  | .own s t :: r, av :: avs, y, vs, hd, hm => by
    unfold decA at hd
    split at hd
    · rename_i s' t' off n
      split at hd
      · rename_i hcond
        simp only [Bool.and_eq_true, beq_iff_eq] at hcond
        obtain ⟨rfl, hb⟩ := hcond
        obtain rfl := Ty.eq_of_beq hb
        split at hd
        · rename_i z h2
          have hd : ((off, n), z) = y := Option.some.inj hd
          subst hd
          simp only [Matches] at hm
          obtain ⟨u, us, rfl, m1, m2⟩ := hm
          obtain ⟨k1, k2⟩ := decA_ok h2 m2
          simp only [encA, Matches]
          exact ⟨⟨u, us, rfl, m1, k1⟩, k2⟩
        · cases hd
      · cases hd
    · cases hd
  | .data t :: r, av :: avs, y, vs, hd, hm => by
    unfold decA at hd
    split at hd
    · rename_i x z h1 h2
      have hd : (x, z) = y := Option.some.inj hd
      subst hd
      simp only [Matches] at hm
      obtain ⟨u, us, rfl, m1, m2⟩ := hm
      obtain ⟨k1, k2⟩ := decA_ok h2 m2
      simp only [encA, Matches]
      exact ⟨⟨u, us, rfl, match_data.2 (castTo_ok m1 h1), k1⟩, k2⟩
    · cases hd
  | .lent e t :: r, av :: avs, y, vs, hd, hm => by
    unfold decA at hd
    split at hd
    · rename_i e' t' xs n
      split at hd
      · rename_i he
        simp only [beq_iff_eq] at he
        subst he
        split at hd
        · rename_i x z h1 h2
          have hd : (x, n, z) = y := Option.some.inj hd
          subst hd
          obtain ⟨e1, e2⟩ := Ty.cast_some h1
          injection e1 with _ e3
          subst e3
          have e2 : xs = x := e2
          subst e2
          simp only [Matches] at hm
          obtain ⟨u, us, rfl, m1, m2⟩ := hm
          obtain ⟨k1, k2⟩ := decA_ok h2 m2
          simp only [encA, Matches]
          exact ⟨⟨u, us, rfl, m1, k1⟩, k2⟩
        · cases hd
      · cases hd
    · cases hd
  | .same av' :: r, av :: avs, y, vs, hd, hm => by
    unfold decA at hd
    split at hd
    · rename_i he
      simp only [Matches] at hm
      obtain ⟨u, us, rfl, m1, m2⟩ := hm
      obtain ⟨k1, k2⟩ := decA_ok hd m2
      simp only [encA, Matches]
      exact ⟨⟨u, us, rfl, eqB_ok he m1, k1⟩, k2⟩
    · cases hd
theorem encA_length {R : Type} : ∀ {l : List AD} {y : DenA l R}, (encA l y).1.length = l.length
  | [], _ => rfl
  | .data t :: r, y => by simp only [encA, List.length_cons, encA_length]
  | .lent e t :: r, y => by simp only [encA, List.length_cons, encA_length]
  | .same av :: r, y => by simp only [encA, List.length_cons, encA_length]
  | .own s t :: r, y => by simp only [encA, List.length_cons, encA_length]
theorem decO_more {st : St} : ∀ {l : List (Nat × OK)} {x : DenO l}, decO st l = some x → ∀ s o, get (encO l x) s = some o → ∃ o', get st.heap s = some o' ∧ (o'.loose = true → o.loose = true)
  | [], x, _, i, av, hi => by simp [encO, get] at hi
  | (j, .row e t f) :: r, x, h, i, o, hi => by
    unfold decO at h
    split at h
    · rename_i e' t' xs f' h0
      split at h
      · rename_i hcond
        simp only [Bool.and_eq_true, beq_iff_eq] at hcond
        obtain ⟨rfl, rfl⟩ := hcond
        split at h
        · rename_i y z h1 h2
          have h : (y, z) = x := Option.some.inj h
          subst h
          simp only [encO, get] at hi
          split at hi
          · rename_i e4
            simp only [Option.some.injEq] at hi
            subst e4 hi
            exact ⟨_, h0, fun h => h⟩
          · exact decO_more h2 i o hi
        · cases h
      · cases h
    · cases h
  | (j, .var e t) :: r, x, h, i, o, hi => by
    unfold decO at h
    split at h
    · rename_i e' t' xs h0
      split at h
      · rename_i x0
        split at h
        · split at h
          · rename_i y z h1 h2
            have h : (y, z) = x := Option.some.inj h
            subst h
            simp only [encO, get] at hi
            split at hi
            · rename_i e4
              simp only [Option.some.injEq] at hi
              subst e4 hi
              exact ⟨_, h0, fun h => h⟩
            · exact decO_more h2 i o hi
          · cases h
        · cases h
      · cases h
    · cases h
  | (j, .cdata e t) :: r, x, h, i, o, hi => by
    unfold decO at h
    split at h
    · rename_i e' av h0
      split at h
      · split at h
        · rename_i y z h1 h2
          have h : (y, z) = x := Option.some.inj h
          subst h
          simp only [encO, get] at hi
          split at hi
          · rename_i e4
            simp only [Option.some.injEq] at hi
            subst e4 hi
            exact ⟨_, h0, fun h => h⟩
          · exact decO_more h2 i o hi
        · cases h
      · cases h
    · cases h
  | (j, .csame e av) :: r, x, h, i, o, hi => by
    unfold decO at h
    split at h
    · rename_i e' av' h0
      split at h
      · simp only [encO, get] at hi
        split at hi
        · rename_i e4
          simp only [Option.some.injEq] at hi
          subst e4 hi
          exact ⟨_, h0, fun h => h⟩
        · exact decO_more h i o hi
      · cases h
    · cases h
  | (j, .rcd e t ks) :: r, x, h, i, o, hi => by
    unfold decO at h
    split at h
    · rename_i e' t' vs h0
      split at h
      · split at h
        · rename_i y z h1 h2
          have h : (y, z) = x := Option.some.inj h
          subst h
          simp only [encO, get] at hi
          split at hi
          · rename_i e4
            simp only [Option.some.injEq] at hi
            subst e4 hi
            exact ⟨_, h0, fun h => h⟩
          · exact decO_more h2 i o hi
        · cases h
      · cases h
    · cases h
  | (j, .map k e tk te f) :: r, x, h, i, o, hi => by
    unfold decO at h
    split at h
    · rename_i k' e' tk' te' l f' h0
      split at h
      · rename_i hcond
        simp only [beq_iff_eq] at hcond
        subst hcond
        split at h
        · rename_i y z h1 h2
          have h : (y, z) = x := Option.some.inj h
          subst h
          simp only [encO, get] at hi
          split at hi
          · rename_i e4
            simp only [Option.some.injEq] at hi
            subst e4 hi
            exact ⟨_, h0, fun h => h⟩
          · exact decO_more h2 i o hi
        · cases h
      · cases h
    · cases h
  | (j, .deep e t c) :: r, x, h, i, o, hi => by
    unfold decO at h
    split at h
    · rename_i e' t' c' h0
      split at h
      · rename_i hcond
        simp only [Bool.and_eq_true, beq_iff_eq] at hcond
        obtain ⟨rfl, hb, rfl⟩ := hcond
        obtain rfl := Ty.eq_of_beq hb
        simp only [encO, get] at hi
        split at hi
        · rename_i e4
          simp only [Option.some.injEq] at hi
          subst e4 hi
          exact ⟨_, h0, fun h => h⟩
        · exact decO_more h i o hi
      · cases h
    · cases h
  | (j, .fam e t) :: r, x, h, i, o, hi => by
    unfold decO at h
    split at h
    · rename_i e' t' xss h0
      split at h
      · rename_i hcond
        simp only [beq_iff_eq] at hcond
        subst hcond
        split at h
        · rename_i y z h1 h2
          have h : (y, z) = x := Option.some.inj h
          subst h
          obtain ⟨e1, e2⟩ := Ty.cast_some h1
          injection e1 with _ q4
          injection q4 with _ q4
          subst q4
          have e2 : xss = y := e2
          subst e2
          simp only [encO, get] at hi
          split at hi
          · rename_i e4
            simp only [Option.some.injEq] at hi
            subst e4 hi
            exact ⟨_, h0, fun h => h⟩
          · exact decO_more h2 i o hi
        · cases h
      · cases h
    · cases h
end
/-- What a function is handed, and what it gives. -/
structure SigD where
  args : List AD
  hin : List (Nat × OK)
  pin : List Nat
  out : OutD
@[reducible] def SigD.X (d : SigD) : Type := DenA d.args (DenO d.hin)
def SigD.pre (d : SigD) (x : d.X) : List AV := (encA d.args x).1
def SigD.heap (d : SigD) (x : d.X) : Hp := encO d.hin (encA d.args x).2
def SigD.dec (d : SigD) (pre : List AV) (H : Hp) : Option d.X :=
  match decO ⟨[], H, 0, []⟩ d.hin with
  | some h => decA h d.args pre
  | none => none
/-- A contract: 'F' says what a function gives for what it is handed. -/
def gsig (d : SigD) (F : d.X → Option d.out.Y) : Sig where
  lend := d.args.map AD.lends
  run := fun _ pre H k => match d.dec pre H with
    | some x => Option.bind (F x) fun y => k (d.out.out y)
    | none => none
theorem SigD.dec_ok {P : Program} {gl : List (Nat × AV)} {f : FuncId} {d : SigD} {pre : List AV} {x : d.X} {H H' : Hp} {r : AV} {post : List (Nat × AV)} (hx : d.dec pre H = some x) (h : FnH P gl f (d.pre x) (d.heap x) r H' post) : FnH P gl f pre H r H' post := by
  intro S w γ vs hS hG hm hH hl
  unfold SigD.dec at hx
  split at hx
  · rename_i hh hho
    obtain ⟨k1, k2⟩ := decA_ok hx hm
    have hob := decO_ok (S := S) (w := w) (γ := γ) (st := ⟨[], H, 0, []⟩) (fun s o hs => hH.obj s o hs) hho
    have hmo := decO_more hho
    have hheap : d.heap x = encO d.hin hh := by unfold SigD.heap; rw [k2]
    have hM : ∀ k, Mof γ (d.heap x) k → Mof γ H k := by
      rintro k ⟨s, o, h1, h2, h3⟩
      rw [hheap] at h1
      obtain ⟨o', g1, g2, g3, _⟩ := hob s o h1
      exact ⟨s, o', g1, g3, h3⟩
    refine (h S w γ vs hS hG k1 ⟨?_, ?_⟩ ?_).mono ?_
    · intro s o hs
      rw [hheap] at hs
      obtain ⟨o', g1, g2, g3, g4⟩ := hob s o hs
      exact g4
    · intro s s' o o' h1 h2 l1 l2 hne
      rw [hheap] at h1 h2
      obtain ⟨o1, g1, _, g3, _⟩ := hob s o h1
      obtain ⟨o2, m1, _, m3, _⟩ := hob s' o' h2
      exact hH.dis s s' o1 o2 g1 m1 g3 m3 hne
    · intro s o hs
      rw [hheap] at hs
      obtain ⟨o', g1, g2⟩ := hmo s o hs
      exact g2 (hl s o' g1)
    · rintro e w' ⟨v, S', γ', rfl, hd⟩
      exact ⟨v, S', γ', rfl, hd.os, hd.tape, hd.output, hd.size, fun b h1 h2 => hd.old b h1 (fun hm => h2 (hM b hm)), hd.sub, fun b h1 h2 => (hd.sold b h1 h2).imp id (hM b), hd.slt, hd.res, hd.heap, fun s o h1 h2 k hk => (hd.fresh s o h1 h2 k hk).imp (hM k) id, hd.post⟩
  · cases hx
/-- A function's contract, out of what its code computes. -/
theorem gfn {Γ : Env} {Φ : Sigs} {J : Opt} {L : Lv} {f : FuncId} {fn : Func} {c : Code} {d : SigD} {F : d.X → Option d.out.Y} {rs : List ResultVar} {nt : Nat} {hs cs : List Nat} {fl : List Bool} (hΓ : EnvOk Γ) (hΦ : SigsOk Γ.P Γ.gl Φ) (hf : Γ.P.funcs[f]? = some fn) (hb : fn.body = some c) (hrs : fn.results.toList = rs) (hnt : fn.ntmps = nt) (hlen : d.args.length ≤ nt) (hpin : d.pin.all (fun i => decide (i < d.args.length)) = true)
    (h : ∀ x vs, denS Γ Φ J L c d.out.Y (initSt (d.pre x) (d.heap x) nt d.pin vs) (fun e st => finC Γ rs hs d.pin cs fl e st d.out.dec) = F x) : SigOk Γ.P Γ.gl f (gsig d F) := by
  have hlen' : ∀ x, (d.pre x).length = d.args.length := fun x => encA_length
  simp only [finC_eq] at h
  have key : ∀ x y, F x = some y → FnH Γ.P Γ.gl f (d.pre x) (d.heap x) (d.out.out y).1 (d.out.out y).2.1 (d.out.out y).2.2 := by
    intro x y hy
    refine fnH_rule' hΓ hΦ hf hb hrs hnt (pin := d.pin) (hs := hs) (cs := cs) (fl := fl) (x := y) (by rw [hlen']; exact hlen) (fun i hi => by
      rw [hlen']
      simp only [List.all_eq_true, decide_eq_true_eq] at hpin
      exact hpin i hi) (fun vs => (h x vs).trans hy) fun e st he => ?_
    obtain ⟨o, h1, h2⟩ := Option.bind_eq_some_iff.1 he
    exact ⟨o, h1, fun S w γ vs v S' γ' w' hd => OutD.dec_ok h2 hd⟩
  constructor
  · intro R pre H k x hr
    simp only [gsig] at hr
    split at hr
    · rename_i x1 hx
      obtain ⟨y, h1, h2⟩ := Option.bind_eq_some_iff.1 hr
      exact ⟨_, _, _, SigD.dec_ok hx (key _ _ h1), h2⟩
    · cases hr
theorem gfnH {Γ : Env} {Φ : Sigs} {J : Opt} {L : Lv} {f : FuncId} {fn : Func} {c : Code} {d : SigD} {F : d.X → Option d.out.Y} {rs : List ResultVar} {nt : Nat} {hs cs : List Nat} {fl : List Bool} (hΓ : EnvOk Γ) (hΦ : SigsOk Γ.P Γ.gl Φ) (hf : Γ.P.funcs[f]? = some fn) (hb : fn.body = some c) (hrs : fn.results.toList = rs) (hnt : fn.ntmps = nt) (hlen : d.args.length ≤ nt) (hpin : d.pin.all (fun i => decide (i < d.args.length)) = true)
    (h : ∀ x vs, denS Γ Φ J L c d.out.Y (initSt (d.pre x) (d.heap x) nt d.pin vs) (fun e st => finC Γ rs hs d.pin cs fl e st d.out.dec) = F x) {x : d.X} {y : d.out.Y} (hy : F x = some y) : FnH Γ.P Γ.gl f (d.pre x) (d.heap x) (d.out.out y).1 (d.out.out y).2.1 (d.out.out y).2.2 := by
  have hlen' : ∀ x, (d.pre x).length = d.args.length := fun x => encA_length
  simp only [finC_eq] at h
  refine fnH_rule' hΓ hΦ hf hb hrs hnt (pin := d.pin) (hs := hs) (cs := cs) (fl := fl) (x := y) (by rw [hlen']; exact hlen) (fun i hi => by
    rw [hlen']
    simp only [List.all_eq_true, decide_eq_true_eq] at hpin
    exact hpin i hi) (fun vs => (h x vs).trans hy) fun e st he => ?_
  obtain ⟨o, h1, h2⟩ := Option.bind_eq_some_iff.1 he
  exact ⟨o, h1, fun S w γ vs v S' γ' w' hd => OutD.dec_ok h2 hd⟩
/-! ### Types tables -/
def notArr : Option TypeDesc → Bool
  | some (.array _ _) => false
  | _ => true
def isArr : Option TypeDesc → Bool
  | some (.array _ _) => true
  | _ => false
def tysB (P : Program) (arrs : List TypeId) : List (Nat × (Ty × Nat)) → Bool
  | [] => true
  | (T, t, b) :: r => tyB P t T && ((match (P.info? T).map (·.bytes) with | some b' => b' == b | none => false) && ((if arrs.contains T then isArr (P.underlying T) else notArr (P.underlying T)) && tysB P arrs r))
def oneB (P : Program) (T : TypeId) : Bool := (match P.underlying T with | some d => !d.isRow | none => false) &&
  (match P.info? T with | some i => (match i.zero with | some z => infoB P T z 1 && z.oneCell' | none => false) | none => false)
theorem tysB_ok {P : Program} {arrs : List TypeId} : ∀ {l : List (Nat × (Ty × Nat))}, tysB P arrs l = true → ∀ T t b, get l T = some (t, b) →
    TyIs P t T ∧ (P.info? T).map (·.bytes) = some b ∧ (arrs.contains T = false → ∀ n e, P.underlying T ≠ some (.array n e)) ∧ (arrs.contains T = true → ∃ n e, P.underlying T = some (.array n e))
  | [], _, _, _, _, h => by simp [get] at h
  | (T', t', b') :: r, h, T, t, b, hg => by
    simp only [tysB, Bool.and_eq_true] at h
    simp only [get] at hg
    split at hg
    · rename_i e
      simp only [Option.some.injEq, Prod.mk.injEq] at hg
      obtain ⟨rfl, rfl⟩ := hg
      subst e
      refine ⟨tyB_is h.1, ?_, fun hn n e he => ?_, fun hn => ?_⟩
      · have h2 := h.2.1
        split at h2
        · rename_i hb; rw [hb]; simp only [beq_iff_eq] at h2; rw [h2]
        · cases h2
      · have h3 := h.2.2.1
        rw [hn, he] at h3
        simp [notArr] at h3
      · have h3 := h.2.2.1
        rw [if_pos hn] at h3
        unfold isArr at h3
        split at h3
        · rename_i n e hu; exact ⟨n, e, hu⟩
        · cases h3
    · exact tysB_ok h.2.2.2 T t b hg
theorem oneB_ok {P : Program} {T : TypeId} (h : oneB P T = true) : (∃ d, P.underlying T = some d ∧ d.isRow = false) ∧ ∃ z, InfoIs P T z 1 ∧ z.oneCell' = true := by
  simp only [oneB, Bool.and_eq_true] at h
  obtain ⟨h1, h2⟩ := h
  constructor
  · split at h1
    · rename_i d hd; exact ⟨d, hd, by simpa using h1⟩
    · cases h1
  · split at h2
    · split at h2
      · rename_i z hz
        simp only [Bool.and_eq_true] at h2
        exact ⟨z, infoB_is h2.1, h2.2⟩
      · cases h2
    · cases h2
theorem env_ok {Γ : Env} (h1 : tysB Γ.P Γ.arrs Γ.tys = true) (h2 : Γ.P.follows .mixedOrders = true) (h3 : Γ.ones.all (oneB Γ.P) = true) : EnvOk Γ := by
  refine ⟨fun T t b h => ⟨(tysB_ok h1 T t b h).1, (tysB_ok h1 T t b h).2.1⟩, h2, fun T hT => oneB_ok (List.all_eq_true.1 h3 T hT), ?_, ?_⟩
  · intro T t ht hn
    unfold Env.ty at ht
    obtain ⟨⟨t', b⟩, k1, k2⟩ := Option.map_eq_some_iff.1 ht
    exact (tysB_ok h1 T _ _ k1).2.2.1 hn
  · intro T t ht hn
    unfold Env.ty at ht
    obtain ⟨⟨t', b⟩, k1, k2⟩ := Option.map_eq_some_iff.1 ht
    exact (tysB_ok h1 T _ _ k1).2.2.2 hn
/-- Is a function handed in? -/
def hasFn (f : FuncId) : List AV → Bool
  | [] => false
  | .fn g _ :: r => Nat.beq g f || hasFn f r
  | _ :: r => hasFn f r
/-- One contract or another, as the arguments are. -/
def sigOr (p : List AV → Bool) (a b : Sig) : Sig where
  lend := a.lend
  run := fun R pre H k => cond (p pre) (a.run R pre H k) (b.run R pre H k)
theorem sigOr_ok {P : Program} {gl : List (Nat × AV)} {f : FuncId} {p : List AV → Bool} {a b : Sig} (ha : SigOk P gl f a) (hb : SigOk P gl f b) : SigOk P gl f (sigOr p a b) := ⟨fun R pre H k x h => by
  simp only [sigOr] at h
  cases hp : p pre with
  | true => rw [hp] at h; exact ha.run R pre H k x h
  | false => rw [hp] at h; exact hb.run R pre H k x h⟩
end Go.Abs
