/- Part of the proof of the law's row: YtlelhklalainfaaAbsY. -/
import Derived.Test.YtlelhklalainfaaAbsW
set_option linter.all false
set_option linter.unusedVariables false
set_option linter.unusedSimpArgs false
namespace Go.Abs
/-! ### Contracts of which each argument has a kind -/
inductive Kd where
  | dat (t : Ty)
  | len (e : TypeId) (t : Ty)
  | fnc (g : FuncId)
@[reducible] def Kd.Den : Kd → Type
  | .dat t => t.Den
  | .len _ t => List t.Den × Nat
  | .fnc _ => Unit
@[reducible] def Kd.Dens : List Kd → Type
  | [] => Unit
  | k :: ks => k.Den × Kd.Dens ks
def castLen (e : TypeId) (t : Ty) : AV → Option (List t.Den × Nat)
  | .lent e' t' xs n => (match Ty.cast (.sl e' t') (.sl e t) xs with
    | some ys => some (ys, n)
    | none => none)
  | _ => none
def castK : (k : Kd) → AV → Option k.Den
  | .dat t, a => castTo t a
  | .len e t, a => castLen e t a
  | .fnc g, a => if isFn g [a] then some () else none
def castKs : (ks : List Kd) → List AV → Option (Kd.Dens ks)
  | [], [] => some ()
  | k :: ks, a :: as => (match castK k a, castKs ks as with
    | some x, some xs => some (x, xs)
    | _, _ => none)
  | _, _ => none
def avK : (k : Kd) → k.Den → AV
  | .dat t, x => .data t x
  | .len e t, x => .lent e t x.1 x.2
  | .fnc g, _ => .fn g []
def avKs : (ks : List Kd) → Kd.Dens ks → List AV
  | [], _ => []
  | k :: ks, x => avK k x.1 :: avKs ks x.2
def kspec (ks : List Kd) (f : Kd.Dens ks → Option (List Prop × AV × Option Ob)) : Spec := fun args => match castKs ks args with
  | some x => f x
  | none => none
section
variable {S : Nat → Prop} {w : World} {γ : Nat → Value}
theorem castK_ok {k : Kd} {a : AV} {x : k.Den} {v : Value} (hm : Match S w γ a v) (h : castK k a = some x) : Match S w γ (avK k x) v := by
  cases k with
  | dat t => exact match_data.2 (castTo_ok hm h)
  | len e t =>
    simp only [castK] at h
    unfold castLen at h
    split at h
    · rename_i e' t' xs n
      split at h
      · rename_i ys hys
        have h : (ys, n) = x := Option.some.inj h
        subst h
        obtain ⟨e1, e2⟩ := Ty.cast_some hys
        injection e1 with e3 e4
        subst e3 e4
        have e2 : xs = ys := e2
        subst e2
        exact hm
      · cases h
    · cases h
  | fnc g =>
    simp only [castK] at h
    split at h
    · rename_i e
      unfold isFn at e
      split at e
      · rename_i g' heq
        simp only [List.cons.injEq, and_true] at heq
        subst heq
        simp only [beq_iff_eq] at e
        subst e
        exact hm
      · cases e
    · cases h
theorem castKs_ok : ∀ {ks : List Kd} {args : List AV} {x : Kd.Dens ks} {vs : List Value}, castKs ks args = some x → Matches S w γ args vs → Matches S w γ (avKs ks x) vs
  | [], [], x, vs, _, hm => hm
  | [], _ :: _, _, _, h, _ => by simp [castKs] at h
  | _ :: _, [], _, _, h, _ => by simp [castKs] at h
  | k :: ks, a :: as, x, vs, h, hm => by
    unfold castKs at h
    split at h
    · rename_i y ys h1 h2
      have h : (y, ys) = x := Option.some.inj h
      subst h
      simp only [Matches] at hm
      obtain ⟨u, us, rfl, m1, m2⟩ := hm
      simp only [avKs, Matches]
      exact ⟨u, us, rfl, castK_ok m1 h1, castKs_ok h2 m2⟩
    · cases h
theorem castK_av {k : Kd} {x : k.Den} : castK k (avK k x) = some x := by
  cases k with
  | dat t => simp only [castK, avK, castTo, Ty.cast_self]
  | len e t => simp only [castK, avK, castLen, Ty.cast_self]
  | fnc g => simp [castK, avK, isFn]
theorem castKs_av : ∀ {ks : List Kd} {x : Kd.Dens ks}, castKs ks (avKs ks x) = some x
  | [], _ => rfl
  | k :: ks, x => by simp only [avKs, castKs, castK_av, castKs_av]
theorem avKs_pure : ∀ {ks : List Kd} {x : Kd.Dens ks}, AV.pures (avKs ks x) = true
  | [], _ => rfl
  | k :: ks, x => by cases k <;> simp [avKs, avK, AV.pures, AV.pure, avKs_pure]
theorem avKs_length : ∀ {ks : List Kd} {x : Kd.Dens ks}, (avKs ks x).length = ks.length
  | [], _ => rfl
  | k :: ks, x => by simp [avKs, avKs_length]
end
theorem kspec_av {ks : List Kd} {F : Kd.Dens ks → Option (List Prop × AV × Option Ob)} {x : Kd.Dens ks} : kspec ks F (avKs ks x) = F x := by
  simp only [kspec, castKs_av]
open Classical in
theorem fn_k {Γ : Env} {f : FuncId} {fn : Func} {c : Code} {ks : List Kd} {F : Kd.Dens ks → Option (List Prop × AV × Option Ob)} {rs : List ResultVar} {nt : Nat} (hf : Γ.P.funcs[f]? = some fn) (hb : fn.body = some c) (hrs : fn.results.toList = rs) (hnt : fn.ntmps = nt) (hlen : ks.length ≤ nt)
    (h : ∀ (S0 : Nat → Prop) (w0 : World) (x : Kd.Dens ks) (ps : List Prop) (r : AV) (ob : Option Ob), F x = some (ps, r, ob) → (∀ p ∈ ps, p) → AW Γ w0 (fun _ => False) S0 c (Fin rs r ob) (initSt (avKs ks x) nt)) : FnOk Γ.P f (kspec ks F) := by
  have key : FnOk Γ.P f (fun args => match castKs ks args with
      | some x => if args = avKs ks x then F x else none
      | none => none) := by
    refine fn_rule hf hb hrs fun S0 w0 args ps r ob _ hsp hps => ?_
    split at hsp
    · rename_i x hx
      split at hsp
      · rename_i he
        subst he
        exact ⟨by rw [avKs_length, hnt]; exact hlen, by rw [hnt]; exact h S0 w0 x ps r ob hsp hps⟩
      · cases hsp
    · cases hsp
  intro S w args vs ps r ob hS hpure hm hsp hps
  unfold kspec at hsp
  split at hsp
  · rename_i x hx
    refine key S w (avKs ks x) vs ps r ob hS avKs_pure (castKs_ok hx hm) ?_ hps
    simp only [castKs_av, if_true]
    exact hsp
  · cases hsp
section
variable {Γ : Env} {w0 : World} {M S0 : Nat → Prop} {st : St} {Q : Exit → St → Prop} {c : Code}
theorem aw_lent {i : Nat} {e : TypeId} {t : Ty} {xs : List t.Den} {n : Nat} (hi : get st.slots i = some (.lent e t xs n)) (h : n ≤ List.length xs → Wf (.sl e t) xs → AW Γ w0 M S0 c Q st) : AW Γ w0 M S0 c Q st := fun a w hs => by
  have hs0 := hs
  obtain ⟨S, γ, hc⟩ := hs
  have hm := hc.slot i _ hi
  simp only [Match] at hm
  obtain ⟨h1, A, cc, _, h3⟩ := hm
  exact h h1 (rep_wf h3) a w hs0
end
attribute [go_sem] kspec castKs castK castLen avKs avK finOwn own0 List.take_left List.drop_left List.append_assoc
end Go.Abs
