/- Part of the proof of the law's row: YtlelhklalainfaaAbsV. -/
import Derived.Test.YtlelhklalainfaaAbsU
set_option linter.all false
set_option linter.unusedVariables false
set_option linter.unusedSimpArgs false
namespace Go.Abs
def castArgs : (tys : List Ty) → List AV → Option (Ty.Dens tys)
  | [], [] => some ()
  | t :: ts, a :: as => (match castTo t a, castArgs ts as with
    | some x, some xs => some (x, xs)
    | _, _ => none)
  | _, _ => none
def dataArgs : (tys : List Ty) → Ty.Dens tys → List AV
  | [], _ => []
  | t :: ts, x => .data t x.1 :: dataArgs ts x.2
/-- A contract over plain data. -/
def dspec (tys : List Ty) (f : Ty.Dens tys → Option (List Prop × AV × Option Ob)) : Spec := fun args => match castArgs tys args with
  | some x => f x
  | none => none
section
variable {S : Nat → Prop} {w : World} {γ : Nat → Value}
theorem castArgs_ok : ∀ {tys : List Ty} {args : List AV} {x : Ty.Dens tys} {vs : List Value}, castArgs tys args = some x → Matches S w γ args vs → Matches S w γ (dataArgs tys x) vs
  | [], [], x, vs, _, hm => hm
  | [], _ :: _, _, _, h, _ => by simp [castArgs] at h
  | _ :: _, [], _, _, h, _ => by simp [castArgs] at h
  | t :: ts, a :: as, x, vs, h, hm => by
    unfold castArgs at h
    split at h
    · rename_i y ys h1 h2
      have h : (y, ys) = x := Option.some.inj h
      subst h
      simp only [Matches] at hm
      obtain ⟨u, us, rfl, m1, m2⟩ := hm
      simp only [dataArgs, Matches]
      exact ⟨u, us, rfl, match_data.2 (castTo_ok m1 h1), castArgs_ok h2 m2⟩
    · cases h
theorem castArgs_data : ∀ {tys : List Ty} {x : Ty.Dens tys}, castArgs tys (dataArgs tys x) = some x
  | [], _ => rfl
  | t :: ts, x => by
    simp only [dataArgs, castArgs, castTo, Ty.cast_self, castArgs_data]
theorem dspec_data {tys : List Ty} {F : Ty.Dens tys → Option (List Prop × AV × Option Ob)} {x : Ty.Dens tys} : dspec tys F (dataArgs tys x) = F x := by
  simp only [dspec, castArgs_data]
theorem dataArgs_pure : ∀ {tys : List Ty} {x : Ty.Dens tys}, AV.pures (dataArgs tys x) = true
  | [], _ => rfl
  | t :: ts, x => by simp [dataArgs, AV.pures, AV.pure, dataArgs_pure]
theorem dataArgs_length : ∀ {tys : List Ty} {x : Ty.Dens tys}, (dataArgs tys x).length = tys.length
  | [], _ => rfl
  | t :: ts, x => by simp [dataArgs, dataArgs_length]
end
mutual
/-- What holds of all data that lies in memory. -/
def Wf : (t : Ty) → t.Den → Prop
  | .int _, _ => True
  | .bool, _ => True
  | .str, _ => True
  | .st fs, x => Wfs fs x
  | .sl _ t, xs => List.length xs ≤ 9223372036854775807 ∧ ∀ x : t.Den, x ∈ xs → Wf t x
def Wfs : (ts : List Ty) → Ty.Dens ts → Prop
  | [], _ => True
  | t :: ts, x => Wf t x.1 ∧ Wfs ts x.2
end
mutual
theorem rep_wf {S : Nat → Prop} {w : World} : ∀ {t : Ty} {x : t.Den} {cs : List Value}, Rep S w t x cs → Wf t x
  | .int _, _, _, _ => by simp only [Wf]
  | .bool, _, _, _ => by simp only [Wf]
  | .str, _, _, _ => by simp only [Wf]
  | .st fs, x, cs, h => by
    simp only [Rep] at h
    simp only [Wf]
    exact reps_wf h
  | .sl e t, xs, cs, h => by
    simp only [Rep] at h
    simp only [Wf]
    obtain ⟨A, c, _, hc, hx⟩ := h
    refine ⟨Nat.le_trans hc.1 hc.2, fun x hmem => ?_⟩
    obtain ⟨j, hj⟩ := List.getElem?_of_mem hmem
    have hpos : 0 < List.length xs := List.length_pos_of_mem hmem
    obtain ⟨_, _, _, _, h1⟩ := hx hpos
    obtain ⟨us, _, _, h2⟩ := h1 j x hj
    exact rep_wf h2
theorem reps_wf {S : Nat → Prop} {w : World} : ∀ {ts : List Ty} {x : Ty.Dens ts} {cs : List Value}, Reps S w ts x cs → Wfs ts x
  | [], _, _, _ => by simp only [Wfs]
  | t :: ts, x, cs, h => by
    simp only [Reps] at h
    obtain ⟨c1, c2, _, h1, h2⟩ := h
    simp only [Wfs]
    exact ⟨rep_wf h1, reps_wf h2⟩
end
section
variable {Γ : Env} {w0 : World} {M S0 : Nat → Prop} {st : St} {Q : Exit → St → Prop} {c : Code}
theorem aw_know {i : Nat} {t : Ty} {x : t.Den} (hi : get st.slots i = some (.data t x)) (h : Wf t x → AW Γ w0 M S0 c Q st) : AW Γ w0 M S0 c Q st := fun a w hs => by
  have hs0 := hs
  obtain ⟨S, γ, hc⟩ := hs
  obtain ⟨cs, h1, _⟩ := match_data.1 (hc.slot i _ hi)
  exact h (rep_wf h1) a w hs0
theorem aw_row {s : Nat} {e : TypeId} {t : Ty} {xs : List t.Den} {f : Bool} (hi : get st.heap s = some (.row e t xs f)) (h : Wf (.sl e t) xs → AW Γ w0 M S0 c Q st) : AW Γ w0 M S0 c Q st := fun a w hs => by
  have hs0 := hs
  obtain ⟨S, γ, hc⟩ := hs
  refine h ?_ a w hs0
  obtain ⟨⟨⟨cs, ho, _, hr⟩, _⟩, _⟩ := hc.obj s _ hi
  simp only [Wf]
  constructor
  · rcases ho.2 with ⟨_, h0⟩ | ⟨g, cap, cur, _, _, _, h3, h4, _⟩
    · omega
    · exact Nat.le_trans h3 h4
  · intro x hx
    obtain ⟨j, hj⟩ := List.getElem?_of_mem hx
    exact rep_wf (hr j x hj)
theorem args_wf {S : Nat → Prop} {w : World} {γ : Nat → Value} : ∀ {tys : List Ty} {x : Ty.Dens tys} {k : Nat}, (∀ i av, get (argSlots (dataArgs tys x) k) i = some av → ∃ v, Match S w γ av v) → Wfs tys x
  | [], _, _, _ => by simp only [Wfs]
  | t :: ts, x, k, h => by
    simp only [Wfs]
    constructor
    · obtain ⟨v, hv⟩ := h k (.data t x.1) (by simp [dataArgs, argSlots, get])
      obtain ⟨cs, h1, _⟩ := match_data.1 hv
      exact rep_wf h1
    · refine args_wf (k := k + 1) fun i av hi => h i av ?_
      have := (get_argSlots hi).1
      simp only [dataArgs, argSlots, get]
      rw [if_neg (by omega)]
      exact hi
theorem aw_args {tys : List Ty} {x : Ty.Dens tys} {nt : Nat} (h : Wfs tys x → AW Γ w0 M S0 c Q (initSt (dataArgs tys x) nt)) : AW Γ w0 M S0 c Q (initSt (dataArgs tys x) nt) := fun a w hs => by
  have hs0 := hs
  obtain ⟨S, γ, hc⟩ := hs
  exact h (args_wf (S := S) (w := w) (γ := γ) (k := 0) fun i av hi => ⟨_, hc.slot i av hi⟩) a w hs0
end
open Classical in
theorem fn_data {Γ : Env} {f : FuncId} {fn : Func} {c : Code} {tys : List Ty} {F : Ty.Dens tys → Option (List Prop × AV × Option Ob)} {rs : List ResultVar} {nt : Nat} (hf : Γ.P.funcs[f]? = some fn) (hb : fn.body = some c) (hrs : fn.results.toList = rs) (hnt : fn.ntmps = nt) (hlen : tys.length ≤ nt)
    (h : ∀ (S0 : Nat → Prop) (w0 : World) (x : Ty.Dens tys) (ps : List Prop) (r : AV) (ob : Option Ob), F x = some (ps, r, ob) → (∀ p ∈ ps, p) → Wfs tys x → AW Γ w0 (fun _ => False) S0 c (Fin rs r ob) (initSt (dataArgs tys x) nt)) : FnOk Γ.P f (dspec tys F) := by
  have key : FnOk Γ.P f (fun args => match castArgs tys args with
      | some x => if args = dataArgs tys x then F x else none
      | none => none) := by
    refine fn_rule hf hb hrs fun S0 w0 args ps r ob _ hsp hps => ?_
    split at hsp
    · rename_i x hx
      split at hsp
      · rename_i he
        subst he
        exact ⟨by rw [dataArgs_length, hnt]; exact hlen, by rw [hnt]; exact aw_args (h S0 w0 x ps r ob hsp hps)⟩
      · cases hsp
    · cases hsp
  intro S w args vs ps r ob hS hpure hm hsp hps
  unfold dspec at hsp
  split at hsp
  · rename_i x hx
    refine key S w (dataArgs tys x) vs ps r ob hS dataArgs_pure (castArgs_ok hx hm) ?_ hps
    simp only [castArgs_data, if_true]
    exact hsp
  · cases hsp
/-- Plain data and, last, a function without captures. -/
def isFn (g : FuncId) : List AV → Bool
  | [.fn g' []] => g' == g
  | _ => false
def castArgsF : (tys : List Ty) → FuncId → List AV → Option (Ty.Dens tys)
  | [], g, as => if isFn g as then some () else none
  | t :: ts, g, a :: as => (match castTo t a, castArgsF ts g as with
    | some x, some xs => some (x, xs)
    | _, _ => none)
  | _, _, _ => none
def dspecF (tys : List Ty) (g : FuncId) (f : Ty.Dens tys → Option (List Prop × AV × Option Ob)) : Spec := fun args => match castArgsF tys g args with
  | some x => f x
  | none => none
section
variable {S : Nat → Prop} {w : World} {γ : Nat → Value}
theorem castArgsF_ok : ∀ {tys : List Ty} {g : FuncId} {args : List AV} {x : Ty.Dens tys} {vs : List Value}, castArgsF tys g args = some x → Matches S w γ args vs → Matches S w γ (dataArgs tys x ++ [.fn g []]) vs
  | [], g, args, x, vs, h, hm => by
    simp only [castArgsF] at h
    split at h
    · rename_i e
      unfold isFn at e
      split at e
      · rename_i g'
        simp only [beq_iff_eq] at e
        subst e
        exact hm
      · cases e
    · cases h
  | t :: ts, g, [], x, vs, h, hm => by simp [castArgsF] at h
  | t :: ts, g, a :: as, x, vs, h, hm => by
    simp only [castArgsF] at h
    split at h
    · rename_i y ys h1 h2
      have h : (y, ys) = x := Option.some.inj h
      subst h
      simp only [Matches] at hm
      obtain ⟨u, us, rfl, m1, m2⟩ := hm
      simp only [dataArgs, Matches, List.cons_append]
      exact ⟨u, us, rfl, match_data.2 (castTo_ok m1 h1), castArgsF_ok h2 m2⟩
    · cases h
theorem castArgsF_data : ∀ {tys : List Ty} {g : FuncId} {x : Ty.Dens tys}, castArgsF tys g (dataArgs tys x ++ [.fn g []]) = some x
  | [], _, _ => by simp [dataArgs, castArgsF, isFn]
  | t :: ts, g, x => by
    simp only [dataArgs, List.cons_append, castArgsF, castTo, Ty.cast_self, castArgsF_data]
theorem pures_append : ∀ {a b : List AV}, AV.pures (a ++ b) = (AV.pures a && AV.pures b)
  | [], _ => by simp [AV.pures]
  | x :: a, b => by simp [AV.pures, pures_append, Bool.and_assoc]
end
open Classical in
theorem fn_dataF {Γ : Env} {f : FuncId} {fn : Func} {c : Code} {tys : List Ty} {g : FuncId} {F : Ty.Dens tys → Option (List Prop × AV × Option Ob)} {rs : List ResultVar} {nt : Nat} (hf : Γ.P.funcs[f]? = some fn) (hb : fn.body = some c) (hrs : fn.results.toList = rs) (hnt : fn.ntmps = nt) (hlen : tys.length < nt)
    (h : ∀ (S0 : Nat → Prop) (w0 : World) (x : Ty.Dens tys) (ps : List Prop) (r : AV) (ob : Option Ob), F x = some (ps, r, ob) → (∀ p ∈ ps, p) → AW Γ w0 (fun _ => False) S0 c (Fin rs r ob) (initSt (dataArgs tys x ++ [.fn g []]) nt)) : FnOk Γ.P f (dspecF tys g F) := by
  have key : FnOk Γ.P f (fun args => match castArgsF tys g args with
      | some x => if args = dataArgs tys x ++ [.fn g []] then F x else none
      | none => none) := by
    refine fn_rule hf hb hrs fun S0 w0 args ps r ob _ hsp hps => ?_
    split at hsp
    · rename_i x hx
      split at hsp
      · rename_i he
        subst he
        exact ⟨by simp [dataArgs_length, hnt]; omega, by rw [hnt]; exact h S0 w0 x ps r ob hsp hps⟩
      · cases hsp
    · cases hsp
  intro S w args vs ps r ob hS hpure hm hsp hps
  unfold dspecF at hsp
  split at hsp
  · rename_i x hx
    refine key S w (dataArgs tys x ++ [.fn g []]) vs ps r ob hS (by rw [pures_append, dataArgs_pure]; rfl) (castArgsF_ok hx hm) ?_ hps
    simp only [castArgsF_data, if_true]
    exact hsp
  · cases hsp
theorem fin_data {rs : List ResultVar} {t : Ty} {x y : t.Den} {e : Exit} {st : St} {ps : List Prop} (he : e = .ret ∨ e = .normal) (h : finPure st rs = some (.data t y, ps)) (hps : ∀ p ∈ ps, p) (hxy : y = x) : Fin rs (.data t x) none e st :=
  ⟨he, _, _, h, hps, by rw [hxy]⟩
section
variable {Q : Exit → St → Prop} {n : St → Prop} {st : St} {id id' : Nat}
theorem bq_ret (h : Q .ret st) : blockQ id Q .ret st := h
theorem bq_normal (h : Q .normal st) : blockQ id Q .normal st := h
theorem bq_exit (h : Q .normal st) : blockQ id Q (.exit id) st := by simpa [blockQ] using h
theorem bq_out (hn : id' ≠ id) (h : Q (.exit id') st) : blockQ id Q (.exit id') st := by simpa [blockQ, hn] using h
theorem tq_ret (h : Q .ret st) : thenQ n Q .ret st := h
theorem tq_exit (h : Q (.exit id) st) : thenQ n Q (.exit id) st := h
theorem tq_normal (h : n st) : thenQ n Q .normal st := h
end
theorem fits_i64 {n : Int} (h1 : -9223372036854775808 ≤ n) (h2 : n ≤ 9223372036854775807) : Fits .i64 n := by
  unfold Fits
  rw [IntKind.wrap_i64]
  omega
theorem fits_u64 {n : Int} (h1 : 0 ≤ n) (h2 : n ≤ 18446744073709551615) : Fits .u64 n := by
  unfold Fits
  rw [IntKind.wrap_u64]
  omega
theorem fits_u8 {n : Int} (h1 : 0 ≤ n) (h2 : n ≤ 255) : Fits .u8 n := by
  unfold Fits
  rw [IntKind.wrap_u8]
  omega
theorem fin_pure {rs : List ResultVar} {r r' : AV} {e : Exit} {st : St} {ps : List Prop} (he : e = .ret ∨ e = .normal) (h : finPure st rs = some (r', ps)) (hps : ∀ p ∈ ps, p) (hxy : r' = r) : Fin rs r none e st :=
  ⟨he, _, _, h, hps, hxy⟩
theorem fin_own {rs : List ResultVar} {r r' : AV} {o o' : Ob} {e : Exit} {st : St} (he : e = .ret ∨ e = .normal) (h : finOwn st rs = some (r', o')) (hr : r' = r) (ho : o' = o) : Fin rs r (some o) e st :=
  ⟨he, _, _, h, hr, ho⟩
theorem data_congr {t : Ty} {x y : t.Den} (h : x = y) : AV.data t x = AV.data t y := by rw [h]
theorem tup_congr {x y : List AV} (h : x = y) : AV.tup x = AV.tup y := by rw [h]
theorem cons_congr {x y : AV} {l m : List AV} (h : x = y) (h2 : l = m) : x :: l = y :: m := by rw [h, h2]
theorem nop : ∀ p : Prop, p ∈ ([] : List Prop) → p := fun _ h => by cases h
end Go.Abs
