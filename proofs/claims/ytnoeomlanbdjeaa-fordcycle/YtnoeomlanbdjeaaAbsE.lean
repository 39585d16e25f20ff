/- Part of the proof of the law's row: YtnoeomlanbdjeaaAbsE. -/
import Derived.Test.YtnoeomlanbdjeaaAbsD
import Derived.Laws.Strings
import Derived.Deep.MidRow
set_option linter.all false
set_option linter.unusedVariables false
set_option linter.unusedSimpArgs false
namespace Go.Abs
open Go.RowKit

instance decEqBytes : DecidableEq ByteArray := fun x y =>
  if h : x.data = y.data then .isTrue (by cases x; cases y; simp only at h; rw [h]) else .isFalse (fun e => h (by rw [e]))
structure Env where
  P : Program
  tys : List (Nat × (Ty × Nat))
  /-- types of one cell that are no data -/
  ones : List TypeId
  /-- those of its types that are arrays -/
  arrs : List TypeId
  /-- package variables that are only read -/
  gl : List (Nat × AV) := []
  /-- structs whose variables hold rows of their own -/
  recs : List TypeId := []
  /-- appends (by what they set) that find room: the row stays whose part it was -/
  inpl : List Nat := []
  /-- structs that are made apart: their slices are rows of their own till then -/
  bars : List TypeId := []
  /-- a slice that an append gives up: its length is still known -/
  kln : Bool := false
  /-- makes (by what they set) whose rows of slices have rows of their own -/
  deep : List Nat := []
  /-- calls (by what they set) that are handed variables, beside which reads stand of what is written no more -/
  nam : List Nat := []
  /-- structs that are told cell by cell where they are made -/
  rown : List TypeId := []
def Env.ty (Γ : Env) (T : TypeId) : Option Ty := (get Γ.tys T).map (·.1)
structure EnvOk (Γ : Env) : Prop where
  ty : ∀ T t b, get Γ.tys T = some (t, b) → TyIs Γ.P t T ∧ (Γ.P.info? T).map (·.bytes) = some b
  mixed : Γ.P.follows .mixedOrders = true
  ones : ∀ T, T ∈ Γ.ones → (∃ d, Γ.P.underlying T = some d ∧ d.isRow = false) ∧ ∃ z, InfoIs Γ.P T z 1 ∧ z.oneCell' = true
  arrs : ∀ T t, Γ.ty T = some t → Γ.arrs.contains T = false → ∀ n e, Γ.P.underlying T ≠ some (.array n e)
  arr : ∀ T t, Γ.ty T = some t → Γ.arrs.contains T = true → ∃ n e, Γ.P.underlying T = some (.array n e)
theorem EnvOk.inpl {Γ : Env} (h : EnvOk Γ) (l : List Nat) : EnvOk { Γ with inpl := l } := ⟨h.ty, h.mixed, h.ones, h.arrs, h.arr⟩
theorem EnvOk.nam {Γ : Env} (h : EnvOk Γ) (l : List Nat) : EnvOk { Γ with nam := l } := ⟨h.ty, h.mixed, h.ones, h.arrs, h.arr⟩
theorem EnvOk.deep {Γ : Env} (h : EnvOk Γ) (l : List Nat) : EnvOk { Γ with deep := l } := ⟨h.ty, h.mixed, h.ones, h.arrs, h.arr⟩
theorem EnvOk.is {Γ : Env} (h : EnvOk Γ) {T : TypeId} {t : Ty} (ht : Γ.ty T = some t) : TyIs Γ.P t T := by
  unfold Env.ty at ht
  obtain ⟨⟨t', b⟩, h1, h2⟩ := Option.map_eq_some_iff.1 ht
  simp only at h2
  subst h2
  exact (h.ty T _ b h1).1

/-- What package variables hold. -/
def GOk (gl : List (Nat × AV)) (S : Nat → Prop) (w : World) : Prop := ∀ g av, get gl g = some av → av.pure = true ∧ Match S w (fun _ => undef) av (.pointer (some ⟨g, 0, none⟩))
theorem GOk.mono {gl : List (Nat × AV)} {S S' : Nat → Prop} {w w' : World} (h : GOk gl S w) (hs : ∀ b, S b → S' b) (ha : Agree S w w') : GOk gl S' w' := fun g av hg =>
  ⟨(h g av hg).1, (h g av hg).2.mono hs ha (fun _ _ => rfl)⟩
/-- What holds all the way through a call: 'w0', 'M' and 'S0' as a Core has them. -/
structure HCtx (Γ : Env) (w0 : World) (M S0 : Nat → Prop) : Prop extends EnvOk Γ where
  gl : GOk Γ.gl S0 w0
  apart : ∀ b, S0 b → ¬ M b
  lt : ∀ b, S0 b → b < w0.heap.size
theorem HCtx.now {Γ : Env} {w0 : World} {M S0 S : Nat → Prop} {γ : Nat → Value} {st : St} {a : Act} {w : World} (h : HCtx Γ w0 M S0) (hc : Core w0 M S0 S γ st a w) : GOk Γ.gl S w :=
  h.gl.mono hc.s0 (fun b hb => hc.old b (h.lt b hb) (h.apart b hb))
def isSl : Ty → Bool
  | .sl _ _ => true
  | _ => false
def isOne : Ty → Bool
  | .sl _ _ => true
  | .map _ _ _ _ => true
  | .opq _ => true
  | .len _ _ => true
  | _ => false
/-- A type of one cell, of a slice or of what is no data. -/
def Env.one (Γ : Env) (T : TypeId) : Bool := Γ.ones.contains T || ((Γ.ty T).map isOne).getD false
theorem cellT {Γ : Env} {T : TypeId} (hΓ : EnvOk Γ) (h : Γ.one T = true) : (∃ z, InfoIs Γ.P T z 1 ∧ z.oneCell' = true) ∧ ∃ d, Γ.P.underlying T = some d ∧ d.isRow = false := by
  unfold Env.one at h
  rw [Bool.or_eq_true] at h
  rcases h with h | h
  · obtain ⟨h1, h2⟩ := hΓ.ones T (by simpa using h)
    exact ⟨h2, h1⟩
  · cases ht : Γ.ty T with
    | none => rw [ht] at h; simp at h
    | some t =>
      rw [ht] at h
      cases t <;> first | (simp [isOne] at h; done) | exact ⟨⟨_, (hΓ.is ht).info, rfl⟩, _, (hΓ.is ht).1, rfl⟩ | exact ⟨⟨_, (hΓ.is ht).info, opqZero_one _⟩, (hΓ.is ht).1⟩
abbrev Ev := Option (AV × List Prop)
/-- What holds only under a guard, under that guard. -/
def bareAV : AV → AV × List Prop
  | .opt g v => (v, [g = true])
  | v => (v, [])
def constAV : Value → Option AV
  | .int k n => some (.data (.int k) n)
  | .bool b => some (.data .bool b)
  | .string s => some (.data .str s)
  | .slice none 0 0 => some .nilS
  | .map none => some (.val (.map none))
  | .nilFunc => some (.val .nilFunc)
  | .pointer none => some (.val (.pointer none))
  | .nilIface => some (.val .nilIface)
  | _ => none
/-- A slice that is a row's whole, as a part of it. -/
def wholeAV (st : St) : AV → Option AV
  | .full s t => (match get st.heap s with
    | some (.row _ t' xs _) => if Ty.beq t' t then some (.own s t 0 (List.length xs)) else none
    | some (.deep _ t' c _) => (match get st.heap c with
      | some (.fam _ _ xss) => if Ty.beq t' t then some (.own s t 0 (List.length xss)) else none
      | _ => none)
    | _ => none)
  | av => some av
def opd (st : St) : Operand → Ev
  | .tmp t => (match st.at t with
    | some av => (match wholeAV st (bareAV av).1 with
      | some av' => some (av', (bareAV av).2)
      | none => none)
    | none => none)
  | .const v => (constAV v).map fun x => (x, [])
  | .func f => some (.fn f [], [])
  | .global _ => none
def Ty.agg : Ty → Bool
  | .st _ => true
  | .arr _ _ => true
  | _ => false
/-- Or a package variable's place. -/
def opdG (Γ : Env) (st : St) : Operand → Ev
  | .global g => (get Γ.gl g).map fun x => (x, [])
  | x => opd st x
def nilDen : (t : Ty) → Option t.Den
  | .sl _ _ => some ([] : List _)
  | .len _ _ => some (([] : List _), (0 : Nat))
  | _ => none
/-- As it is, or without what lies behind slices. -/
def castD (t' t : Ty) (x : t'.Den) : Option t.Den :=
  match Ty.cast t' t x with
  | some y => some y
  | none => if convOk t' t then some (conv t' t x) else none
def castLent (e : TypeId) (t' t : Ty) (xs : List t'.Den) (n : Nat) : Option t.Den :=
  match Ty.cast (.sl e t') t (List.take n xs) with
  | some y => some y
  | none => (match Ty.cast (.len e t') t (xs, n) with
    | some y => some y
    | none => if convOk (.sl e t') t then some (conv (.sl e t') t (List.take n xs)) else none)
def castTo1 (t : Ty) : AV → Option t.Den
  | .data t' x => castD t' t x
  | .nilS => nilDen t
  | .lent e t' xs n => castLent e t' t xs n
  | .clip e t' xs => castD (.sl e t') t xs
  | _ => none
def gather1 (t : Ty) : List AV → Option t.Den
  | [v] => castTo1 t v
  | _ => none
/-- An array as a whole. -/
def gatherArr (t : Ty) : List AV → Option t.Den
  | _ => none
def oneVal : Value → Bool
  | .agg _ => false
  | .tuple _ => false
  | _ => true
def gatherO (z : Nat) : List AV → Option (Ty.opq z).Den
  | [.data (.opq _) _] => some ()
  | [.mptr _] => some ()
  | [.cptr _] => some ()
  | [.fn _ _] => some ()
  | [.val v] => if oneVal v then some () else none
  | _ => none
mutual
/-- Data of its cells. -/
def gather : (t : Ty) → List AV → Option t.Den
  | .st fs, vs => gathers fs vs
  | .int k, vs => gather1 (.int k) vs
  | .bool, vs => gather1 .bool vs
  | .str, vs => gather1 .str vs
  | .sl e t, vs => gather1 (.sl e t) vs
  | .map k e tk te, vs => gather1 (.map k e tk te) vs
  | .arr n t, vs => gatherArr (.arr n t) vs
  | .opq z, vs => gatherO z vs
  | .len e t, vs => gather1 (.len e t) vs
def gathers : (fs : List Ty) → List AV → Option (Ty.Dens fs)
  | [], [] => some ()
  | [], _ :: _ => none
  | t :: ts, vs => (match gather t (vs.take t.sz), gathers ts (vs.drop t.sz) with
    | some x, some y => some (x, y)
    | _, _ => none)
end
def castTo (t : Ty) : AV → Option t.Den
  | .data t' x => castD t' t x
  | .nilS => nilDen t
  | .lent e t' xs n => castLent e t' t xs n
  | .clip e t' xs => castD (.sl e t') t xs
  | .agg t' vs => if Ty.beq t' t && t.agg then gather t vs else none
  | _ => none
mutual
/-- Data, cell by cell. -/
def splitD : (t : Ty) → t.Den → List AV
  | .st fs, x => splitDs fs x
  | .int k, x => [.data (.int k) x]
  | .bool, x => [.data .bool x]
  | .str, x => [.data .str x]
  | .sl e t, x => [.data (.sl e t) x]
  | .map k e tk te, x => [.data (.map k e tk te) x]
  | .arr n t, _ => List.replicate (n * t.sz) .undef
  | .opq z, _ => [.data (.opq z) ()]
  | .len e t, x => [.lent e t x.1 x.2]
def splitDs : (fs : List Ty) → Ty.Dens fs → List AV
  | [], _ => []
  | t :: ts, x => splitD t x.1 ++ splitDs ts x.2
end
mutual
/-- The zero value, cell by cell. -/
def zeroC : Ty → List AV
  | .st fs => zeroCs fs
  | .int k => [.data (.int k) (0 : Int)]
  | .bool => [.data .bool false]
  | .str => [.data .str (⟨#[]⟩ : ByteArray)]
  | .sl _ _ => [.nilS]
  | .map k e tk te => [.data (.map k e tk te) []]
  | .arr n t => List.replicate (n * t.sz) .undef
  | .opq z => [.val (opqZero z)]
  | .len _ _ => [.nilS]
def zeroCs : List Ty → List AV
  | [] => []
  | t :: ts => zeroC t ++ zeroCs ts
end

section
variable {S : Nat → Prop} {w : World} {γ : Nat → Value}
theorem add_mul_sz (g o n : Nat) : (⟨g, o, none⟩ : Addr).add n = ⟨g, o + n, none⟩ := by unfold Addr.add; split <;> simp_all
theorem add_spot {ad : Addr} (h : ad.spot = none) (n : Nat) : ad.add n = ⟨ad.block, ad.off + n, none⟩ := by
  obtain ⟨b, o, s⟩ := ad
  simp only at h
  subst h
  exact add_mul_sz b o n
theorem rep_cut {e : TypeId} {t : Ty} {xs : List t.Den} {l h : Nat} (hlh : l ≤ h) (hh : h ≤ xs.length) {A : Option Addr} {c : Nat} (hr : Rep S w (.sl e t) xs [.slice A xs.length c]) :
    Rep S w (.sl e t) ((xs.take h).drop l) [.slice (if c = l then A else A.map (·.add (l * t.sz))) (h - l) (c - l)] := by
  simp only [Rep] at hr ⊢
  obtain ⟨A', c', e1, hc, hx⟩ := hr
  simp only [List.cons.injEq, Value.slice.injEq, and_true] at e1
  obtain ⟨rfl, _, rfl⟩ := e1
  have hlen : ((xs.take h).drop l).length = h - l := by rw [List.length_drop, List.length_take]; omega
  refine ⟨_, _, by rw [hlen], by rw [hlen]; omega, fun hpos => ?_⟩
  rw [hlen] at hpos
  rw [if_neg (by omega)]
  obtain ⟨ad, rfl, hsp, hS, hel⟩ := hx (by omega)
  refine ⟨ad.add (l * t.sz), rfl, by rw [add_spot hsp], by rw [add_spot hsp]; exact hS, fun j x hj => ?_⟩
  have hj' : xs[l + j]? = some x := by
    rw [List.getElem?_drop, List.getElem?_take] at hj
    split at hj
    · exact hj
    · cases hj
  obtain ⟨us, h1, h2, h3⟩ := hel (l + j) x hj'
  refine ⟨us, h1, fun k v hk => ?_, h3⟩
  rw [add_spot hsp]
  have := h2 k v hk
  rw [show ad.off + l * t.sz + (j * t.sz + k) = ad.off + ((l + j) * t.sz + k) by rw [Nat.add_mul]; omega]
  exact this
theorem rep_cut0 {e : TypeId} {t : Ty} {xs : List t.Den} {h : Nat} (hh : h ≤ xs.length) {A : Option Addr} {c : Nat} (hr : Rep S w (.sl e t) xs [.slice A xs.length c]) :
    Rep S w (.sl e t) (xs.take h) [.slice A h c] := by
  simp only [Rep] at hr ⊢
  obtain ⟨A', c', e1, hc, hx⟩ := hr
  simp only [List.cons.injEq, Value.slice.injEq, and_true] at e1
  obtain ⟨rfl, _, rfl⟩ := e1
  have hlen : (xs.take h).length = h := by rw [List.length_take]; omega
  refine ⟨_, _, by rw [hlen], by rw [hlen]; omega, fun hpos => ?_⟩
  rw [hlen] at hpos
  obtain ⟨ad, rfl, hsp, hS, hel⟩ := hx (by omega)
  refine ⟨ad, rfl, hsp, hS, fun j x hj => hel j x ?_⟩
  rw [List.getElem?_take] at hj
  split at hj
  · exact hj
  · cases hj
theorem bareAV_ok {av av' : AV} {ps : List Prop} {v : Value} (h : Match S w γ av v) (hb : bareAV av = (av', ps)) (hps : ∀ p ∈ ps, p) : Match S w γ av' v := by
  unfold bareAV at hb
  split at hb
  · simp only [Prod.mk.injEq] at hb
    obtain ⟨rfl, rfl⟩ := hb
    simp only [Match] at h
    exact h.1 (hps _ (by simp))
  · simp only [Prod.mk.injEq] at hb
    obtain ⟨rfl, rfl⟩ := hb
    exact h
theorem constAV_ok {v : Value} {av : AV} (h : constAV v = some av) : Match S w γ av v := by
  unfold constAV at h
  split at h <;> first | (simp only [Option.some.injEq] at h; subst h; simp [Match, Rep, toVal]) | cases h
theorem castD_ok {t' t : Ty} {x : t'.Den} {y : t.Den} {cs : List Value} (hr : Rep S w t' x cs) (h : castD t' t x = some y) : Rep S w t y cs ∧ toVal t' cs = toVal t cs := by
  unfold castD at h
  split at h
  · rename_i z hz
    simp only [Option.some.injEq] at h
    subst h
    obtain ⟨e, e'⟩ := Ty.cast_some hz
    subst e
    have e' := e'
    subst e'
    exact ⟨hr, rfl⟩
  · split at h
    · rename_i hk
      simp only [Option.some.injEq] at h
      subst h
      refine ⟨rep_conv hk hr, ?_⟩
      cases t' <;> cases t <;> first | rfl | (simp [convOk] at hk; done)
    · cases h
theorem rep_lent {e : TypeId} {t : Ty} {xs : List t.Den} {n : Nat} {cs : List Value} : Rep S w (.len e t) (xs, n) cs ↔ n ≤ xs.length ∧ ∃ A c, cs = [.slice A n c] ∧ Rep S w (.sl e t) xs [.slice A xs.length c] := by
  simp only [Rep]
  constructor
  · rintro ⟨h1, A, c, h2, h3, h4⟩
    exact ⟨h1, A, c, h2, A, c, rfl, h3, h4⟩
  · rintro ⟨h1, A, c, h2, A', c', h3, h4, h5⟩
    simp only [List.cons.injEq, Value.slice.injEq, and_true] at h3
    obtain ⟨rfl, _, rfl⟩ := h3
    exact ⟨h1, A, c, h2, h4, h5⟩
theorem castTo1_ok {t : Ty} {av : AV} {x : t.Den} {v : Value} (h : Match S w γ av v) (hc : castTo1 t av = some x) : ∃ cs, Rep S w t x cs ∧ v = toVal t cs := by
  unfold castTo1 at hc
  split at hc
  · simp only [Match] at h
    obtain ⟨cs, h1, rfl⟩ := h
    obtain ⟨g1, g2⟩ := castD_ok h1 hc
    exact ⟨cs, g1, g2⟩
  · cases t with
    | sl e t =>
      simp only [nilDen] at hc
      have hc : ([] : List t.Den) = x := Option.some.inj hc
      subst hc
      simp only [Match] at h
      subst h
      exact ⟨_, rep_zero S w (.sl e t), rfl⟩
    | len e t =>
      simp only [nilDen] at hc
      have hc : (([] : List t.Den), (0 : Nat)) = x := Option.some.inj hc
      subst hc
      simp only [Match] at h
      subst h
      exact ⟨_, rep_zero S w (.len e t), rfl⟩
    | _ => simp [nilDen] at hc
  · rename_i e t' xs n
    simp only [Match] at h
    obtain ⟨h1, A, c, rfl, h3⟩ := h
    unfold castLent at hc
    split at hc
    · rename_i y hy
      simp only [Option.some.injEq] at hc
      subst hc
      obtain ⟨e1, e2⟩ := Ty.cast_some hy
      subst e1
      have e2 : List.take n xs = y := e2
      subst e2
      exact ⟨[.slice A n c], rep_cut0 h1 h3, rfl⟩
    · split at hc
      · rename_i y hy
        simp only [Option.some.injEq] at hc
        subst hc
        obtain ⟨e1, e2⟩ := Ty.cast_some hy
        subst e1
        have e2 : (xs, n) = y := e2
        subst e2
        exact ⟨[.slice A n c], rep_lent.2 ⟨h1, A, c, rfl, h3⟩, rfl⟩
      · split at hc
        · rename_i hk
          simp only [Option.some.injEq] at hc
          subst hc
          refine ⟨[.slice A n c], rep_conv hk (rep_cut0 h1 h3), ?_⟩
          cases t <;> first | rfl | (simp [convOk] at hk; done)
        · cases hc
  · simp only [Match] at h
    obtain ⟨g, o, rfl, h3⟩ := h
    obtain ⟨g1, g2⟩ := castD_ok h3 hc
    exact ⟨_, g1, g2⟩
  · cases hc
theorem toVal_agg {t : Ty} (h : t.agg = true) (cs : List Value) : toVal t cs = .agg cs.toArray := by
  cases t <;> first | rfl | cases h
theorem toVal_one {S : Nat → Prop} {w : World} {t : Ty} (h : t.agg = false) {x : t.Den} {cs : List Value} (hr : Rep S w t x cs) : cs = [toVal t cs] := by
  cases t with
  | st ts => cases h
  | int k => simp only [Rep] at hr; subst hr; rfl
  | bool => simp only [Rep] at hr; subst hr; rfl
  | str => simp only [Rep] at hr; subst hr; rfl
  | sl e t => simp only [Rep] at hr; obtain ⟨A, c, rfl, _⟩ := hr; rfl
  | map k e tk te => simp only [Rep] at hr; obtain ⟨m, rfl, _⟩ := hr; rfl
  | arr n t => cases h
  | opq z => simp only [Rep] at hr; obtain ⟨v, rfl, _⟩ := hr; rfl
  | len e t => simp only [Rep] at hr; obtain ⟨_, A, c, rfl, _⟩ := hr; rfl
theorem gather1_ok {t : Ty} (ht : t.agg = false) {vs : List AV} {x : t.Den} {us : List Value} (h : Matches S w γ vs us) (hc : gather1 t vs = some x) : Rep S w t x us := by
  unfold gather1 at hc
  split at hc
  · simp only [Matches] at h
    obtain ⟨u, us', rfl, h1, rfl⟩ := h
    obtain ⟨cs, h2, rfl⟩ := castTo1_ok h1 hc
    have := toVal_one ht h2
    rw [this] at h2
    exact h2
  · cases hc
theorem matches_take : ∀ {n : Nat} {vs : List AV} {us : List Value}, Matches S w γ vs us → Matches S w γ (vs.take n) (us.take n) ∧ Matches S w γ (vs.drop n) (us.drop n)
  | 0, vs, us, h => ⟨by simp [Matches], by simpa using h⟩
  | n + 1, [], us, h => by simp only [Matches] at h; subst h; simp [Matches]
  | n + 1, v :: vs, us, h => by
    simp only [Matches] at h
    obtain ⟨u, us', rfl, h1, h2⟩ := h
    obtain ⟨g1, g2⟩ := matches_take (n := n) h2
    simp only [List.take_succ_cons, List.drop_succ_cons, Matches]
    exact ⟨⟨u, _, rfl, h1, g1⟩, g2⟩
theorem gatherO_ok {z : Nat} {vs : List AV} {x : (Ty.opq z).Den} {us : List Value} (h : Matches S w γ vs us) (hc : gatherO z vs = some x) : Rep S w (.opq z) x us := by
  unfold gatherO at hc
  have key : ∀ v : AV, Matches S w γ [v] us → (∀ u, Match S w γ v u → u.oneCell' = true) → Rep S w (.opq z) x us := by
    intro v hm hv
    simp only [Matches] at hm
    obtain ⟨u, us', rfl, h1, rfl⟩ := hm
    simp only [Rep]
    exact ⟨u, rfl, hv u h1⟩
  split at hc
  · refine key _ h fun u hu => ?_
    simp only [Match] at hu
    obtain ⟨cs, h1, rfl⟩ := hu
    simp only [Rep] at h1
    obtain ⟨v, rfl, h1⟩ := h1
    exact h1
  · refine key _ h fun u hu => ?_
    simp only [Match] at hu
    obtain ⟨g, _, rfl⟩ := hu
    rfl
  · refine key _ h fun u hu => ?_
    simp only [Match] at hu
    obtain ⟨g, o, n, c, _, rfl⟩ := hu
    rfl
  · refine key _ h fun u hu => ?_
    simp only [Match] at hu
    obtain ⟨vs, rfl, _⟩ := hu
    rfl
  · split at hc
    · rename_i v hv
      refine key _ h fun u hu => ?_
      simp only [Match] at hu
      subst hu
      cases u <;> first | rfl | cases hv
    · cases hc
  · cases hc
mutual
theorem gather_ok : ∀ {t : Ty} {vs : List AV} {x : t.Den} {us : List Value}, Matches S w γ vs us → gather t vs = some x → Rep S w t x us
  | .st fs, vs, x, us, h, hc => by
    simp only [gather] at hc
    simp only [Rep]
    exact gathers_ok h hc
  | .int _, vs, x, us, h, hc => gather1_ok rfl h (by simpa only [gather] using hc)
  | .bool, vs, x, us, h, hc => gather1_ok rfl h (by simpa only [gather] using hc)
  | .str, vs, x, us, h, hc => gather1_ok rfl h (by simpa only [gather] using hc)
  | .sl _ _, vs, x, us, h, hc => gather1_ok rfl h (by simpa only [gather] using hc)
  | .map _ _ _ _, vs, x, us, h, hc => gather1_ok rfl h (by simpa only [gather] using hc)
  | .arr _ _, vs, x, us, h, hc => by simp [gather, gatherArr] at hc
  | .opq _, vs, x, us, h, hc => gatherO_ok h (by simpa only [gather] using hc)
  | .len _ _, vs, x, us, h, hc => gather1_ok rfl h (by simpa only [gather] using hc)
theorem gathers_ok : ∀ {fs : List Ty} {vs : List AV} {x : Ty.Dens fs} {us : List Value}, Matches S w γ vs us → gathers fs vs = some x → Reps S w fs x us
  | [], [], x, us, h, _ => by simpa only [Reps, Matches] using h
  | [], _ :: _, _, _, _, hc => by simp [gathers] at hc
  | t :: ts, vs, x, us, h, hc => by
    simp only [gathers] at hc
    split at hc
    · rename_i y z h1 h2
      have hc : (y, z) = x := Option.some.inj hc
      subst hc
      obtain ⟨g1, g2⟩ := matches_take (n := t.sz) h
      simp only [Reps]
      exact ⟨_, _, (List.take_append_drop t.sz us).symm, gather_ok g1 h1, gathers_ok g2 h2⟩
    · cases hc
end
theorem castTo_ok {t : Ty} {av : AV} {x : t.Den} {v : Value} (h : Match S w γ av v) (hc : castTo t av = some x) : ∃ cs, Rep S w t x cs ∧ v = toVal t cs := by
  unfold castTo at hc
  split at hc
  · exact castTo1_ok (av := .data _ _) h (by simpa only [castTo1] using hc)
  · exact castTo1_ok (av := .nilS) h (by simpa only [castTo1] using hc)
  · exact castTo1_ok (av := .lent _ _ _ _) h (by simpa only [castTo1] using hc)
  · exact castTo1_ok (av := .clip _ _ _) h (by simpa only [castTo1] using hc)
  · split at hc
    · rename_i hcond
      simp only [Bool.and_eq_true] at hcond
      simp only [Match] at h
      obtain ⟨us, rfl, h2⟩ := h
      exact ⟨us, gather_ok h2 hc, (toVal_agg hcond.2 us).symm⟩
    · cases hc
  · cases hc
theorem matches_app : ∀ {l1 l2 : List AV} {v1 v2 : List Value}, Matches S w γ l1 v1 → Matches S w γ l2 v2 → Matches S w γ (l1 ++ l2) (v1 ++ v2)
  | [], l2, v1, v2, h1, h2 => by simp only [Matches] at h1; subst h1; simpa using h2
  | x :: l1, l2, v1, v2, h1, h2 => by
    simp only [Matches, List.cons_append] at h1 ⊢
    obtain ⟨u, us, rfl, g1, g2⟩ := h1
    exact ⟨u, us ++ v2, rfl, g1, matches_app g2 h2⟩
theorem undefs_ok : ∀ {n : Nat} {us : List Value}, us.length = n → Matches S w γ (List.replicate n .undef) us
  | 0, [], _ => by simp only [List.replicate, Matches]
  | n + 1, u :: us, h => by
    simp only [List.replicate, Matches]
    exact ⟨u, us, rfl, by simp only [Match], undefs_ok (by simpa using h)⟩
mutual
theorem splitD_ok : ∀ {t : Ty} {x : t.Den} {cs : List Value}, Rep S w t x cs → Matches S w γ (splitD t x) cs
  | .st fs, x, cs, h => by simp only [Rep] at h; simp only [splitD]; exact splitDs_ok h
  | .int k, x, cs, h => by
    have h0 := h
    simp only [Rep] at h0; subst h0
    simp only [splitD, Matches]
    exact ⟨_, [], rfl, by simp only [Match]; exact ⟨_, h, rfl⟩, rfl⟩
  | .bool, x, cs, h => by
    have h0 := h
    simp only [Rep] at h0; subst h0
    simp only [splitD, Matches]
    exact ⟨_, [], rfl, by simp only [Match]; exact ⟨_, h, rfl⟩, rfl⟩
  | .str, x, cs, h => by
    have h0 := h
    simp only [Rep] at h0; subst h0
    simp only [splitD, Matches]
    exact ⟨_, [], rfl, by simp only [Match]; exact ⟨_, h, rfl⟩, rfl⟩
  | .sl e t, x, cs, h => by
    have h0 := h
    simp only [Rep] at h0
    obtain ⟨A, c, rfl, _⟩ := h0
    simp only [splitD, Matches]
    exact ⟨_, [], rfl, by simp only [Match]; exact ⟨_, h, rfl⟩, rfl⟩
  | .map k e tk te, x, cs, h => by
    have h0 := h
    simp only [Rep] at h0
    obtain ⟨m, rfl, _⟩ := h0
    simp only [splitD, Matches]
    exact ⟨_, [], rfl, by simp only [Match]; exact ⟨_, h, rfl⟩, rfl⟩
  | .arr n t, x, cs, h => by
    simp only [splitD]
    exact undefs_ok h.len
  | .opq z, x, cs, h => by
    have h0 := h
    simp only [Rep] at h0
    obtain ⟨v, rfl, _⟩ := h0
    simp only [splitD, Matches]
    exact ⟨_, [], rfl, by simp only [Match]; exact ⟨_, h, rfl⟩, rfl⟩
  | .len e t, x, cs, h => by
    obtain ⟨h1, A, c, rfl, h2⟩ := rep_lent.1 h
    simp only [splitD, Matches]
    exact ⟨_, [], rfl, by simp only [Match]; exact ⟨h1, A, c, rfl, h2⟩, rfl⟩
theorem splitDs_ok : ∀ {ts : List Ty} {x : Ty.Dens ts} {cs : List Value}, Reps S w ts x cs → Matches S w γ (splitDs ts x) cs
  | [], x, cs, h => by simpa only [Reps, splitDs, Matches] using h
  | t :: ts, x, cs, h => by
    simp only [Reps] at h
    obtain ⟨c1, c2, rfl, h1, h2⟩ := h
    simp only [splitDs]
    exact matches_app (splitD_ok h1) (splitDs_ok h2)
end
mutual
theorem zeroC_ok : ∀ t : Ty, Matches S w γ (zeroC t) (zeros t)
  | .st fs => by simp only [zeroC, zeros]; exact zeroCs_ok fs
  | .int k => by simp only [zeroC, zeros, Matches]; exact ⟨_, [], rfl, by simp only [Match]; exact ⟨[.int k 0], by simp only [Rep], rfl⟩, rfl⟩
  | .bool => by simp only [zeroC, zeros, Matches]; exact ⟨_, [], rfl, by simp only [Match]; exact ⟨[.bool false], by simp only [Rep], rfl⟩, rfl⟩
  | .str => by simp only [zeroC, zeros, Matches]; exact ⟨_, [], rfl, by simp only [Match]; exact ⟨[.string ⟨#[]⟩], by simp only [Rep], rfl⟩, rfl⟩
  | .sl e t => by simp only [zeroC, zeros, Matches]; exact ⟨_, [], rfl, by simp only [Match], rfl⟩
  | .map k e tk te => by simp only [zeroC, zeros, Matches]; exact ⟨_, [], rfl, by simp only [Match]; exact ⟨_, rep_zero S w (.map k e tk te), rfl⟩, rfl⟩
  | .arr n t => by simp only [zeroC]; exact undefs_ok (Ty.zeros_len (.arr n t))
  | .opq z => by simp only [zeroC, zeros, Matches]; exact ⟨_, [], rfl, by simp only [Match], rfl⟩
  | .len e t => by simp only [zeroC, zeros, Matches]; exact ⟨_, [], rfl, by simp only [Match], rfl⟩
theorem zeroCs_ok : ∀ ts : List Ty, Matches S w γ (zeroCs ts) (zeross ts)
  | [] => by simp only [zeroCs, zeross, Matches]
  | t :: ts => by simp only [zeroCs, zeross]; exact matches_app (zeroC_ok t) (zeroCs_ok ts)
end
theorem castTo_int {k : IntKind} {av : AV} {x : Int} {v : Value} (h : Match S w γ av v) (hc : castTo (.int k) av = some x) : v = .int k x := by
  obtain ⟨cs, h1, rfl⟩ := castTo_ok h hc
  simp only [Rep] at h1
  subst h1
  rfl
theorem castTo_bool {av : AV} {x : Bool} {v : Value} (h : Match S w γ av v) (hc : castTo .bool av = some x) : v = .bool x := by
  obtain ⟨cs, h1, rfl⟩ := castTo_ok h hc
  simp only [Rep] at h1
  subst h1
  rfl
theorem castTo_str {av : AV} {x : ByteArray} {v : Value} (h : Match S w γ av v) (hc : castTo .str av = some x) : v = .string x := by
  obtain ⟨cs, h1, rfl⟩ := castTo_ok h hc
  simp only [Rep] at h1
  subst h1
  rfl
theorem match_data {t : Ty} {x : t.Den} {v : Value} : Match S w γ (.data t x) v ↔ ∃ cs, Rep S w t x cs ∧ v = toVal t cs := by simp only [Match]
theorem match_int {k : IntKind} {x : Int} {v : Value} : Match S w γ (.data (.int k) x) v ↔ v = .int k x := by
  rw [match_data]
  constructor
  · rintro ⟨cs, h, rfl⟩; simp only [Rep] at h; subst h; rfl
  · rintro rfl; exact ⟨[.int k x], by simp only [Rep], rfl⟩
theorem match_bool {x : Bool} {v : Value} : Match S w γ (.data .bool x) v ↔ v = .bool x := by
  rw [match_data]
  constructor
  · rintro ⟨cs, h, rfl⟩; simp only [Rep] at h; subst h; rfl
  · rintro rfl; exact ⟨[.bool x], by simp only [Rep], rfl⟩
theorem match_str {x : ByteArray} {v : Value} : Match S w γ (.data .str x) v ↔ v = .string x := by
  rw [match_data]
  constructor
  · rintro ⟨cs, h, rfl⟩; simp only [Rep] at h; subst h; rfl
  · rintro rfl; exact ⟨[.string x], by simp only [Rep], rfl⟩
end
theorem full_own {w0 : World} {M S0 S : Nat → Prop} {γ : Nat → Value} {st : St} {a : Act} {w : World} (h : Core w0 M S0 S γ st a w) {s : Nat} {e : TypeId} {t : Ty} {xs : List t.Den} {f : Bool} (hs : get st.heap s = some (.row e t xs f)) {v : Value} (hm : Match S w γ (.full s t) v) : Match S w γ (.own s t 0 (List.length xs)) v := by
  obtain ⟨⟨⟨cs, ho, _⟩, _⟩, _⟩ := h.obj s _ hs
  simp only [Match] at hm ⊢
  rcases ho.2 with ⟨h1, h2⟩ | ⟨g, o, cap, cur, h1, _, h3, _⟩
  · exact .inl ⟨trivial, h2, h1, hm.1.trans h1⟩
  · refine .inr ⟨g, o, _, cap, h1, by omega, o, ?_, by omega, fun _ => by simp⟩
    rw [hm.1, h1, Nat.sub_zero]
theorem tuple_inj {us us' : List Value} (h : Value.tuple us.toArray = Value.tuple us'.toArray) : us = us' := by
  injection h with h
  simpa using congrArg Array.toList h
theorem deep_own {w0 : World} {M S0 S : Nat → Prop} {γ : Nat → Value} {st : St} {a : Act} {w : World} (h : Core w0 M S0 S γ st a w) {s c : Nat} {e e2 : TypeId} {t t2 : Ty} {hole : Option (Nat × Option Nat)} {xss : List (List t2.Den)} (hs : get st.heap s = some (.deep e t c hole)) (hcc : get st.heap c = some (.fam e2 t2 xss)) {v : Value} (hm : Match S w γ (.full s t) v) : Match S w γ (.own s t 0 (List.length xss)) v := by
  obtain ⟨⟨⟨us, cs, h0, ho, _⟩, _⟩, _⟩ := h.obj s _ hs
  obtain ⟨⟨⟨us', h0', hl, _⟩, _⟩, _⟩ := h.obj c _ hcc
  rw [h0] at h0'
  obtain rfl := tuple_inj h0'
  simp only [Match] at hm ⊢
  rcases ho.2 with ⟨h1, h2⟩ | ⟨g, o, cap, cur, h1, _, h3, _⟩
  · exact .inl ⟨trivial, by omega, h1, hm.1.trans h1⟩
  · refine .inr ⟨g, o, _, cap, h1, by omega, o, ?_, by omega, fun _ => by simp⟩
    rw [hm.1, h1, Nat.sub_zero, hl]
theorem wholeAV_ok {w0 : World} {M S0 S : Nat → Prop} {γ : Nat → Value} {st : St} {a : Act} {w : World} (h : Core w0 M S0 S γ st a w) {av av' : AV} (hw : wholeAV st av = some av') {v : Value} (hm : Match S w γ av v) : Match S w γ av' v := by
  unfold wholeAV at hw
  split at hw
  · split at hw
    · rename_i e t' xs f hs
      split at hw
      · rename_i hb
        obtain rfl := Ty.eq_of_beq hb
        simp only [Option.some.injEq] at hw
        subst hw
        exact full_own h hs hm
      · cases hw
    · rename_i e t' c hole hs
      split at hw
      · rename_i e2 t2 xss hcc
        split at hw
        · rename_i hb
          obtain rfl := Ty.eq_of_beq hb
          simp only [Option.some.injEq] at hw
          subst hw
          exact deep_own h hs hcc hm
        · cases hw
      · cases hw
    · cases hw
  · simp only [Option.some.injEq] at hw
    subst hw
    exact hm
theorem opd_ok {w0 : World} {M S0 S : Nat → Prop} {γ : Nat → Value} {st : St} {a : Act} {w : World} (h : Core w0 M S0 S γ st a w) {x : Operand} {av : AV} {ps : List Prop} (hx : opd st x = some (av, ps)) (hps : ∀ p ∈ ps, p) :
    Match S w γ av (a.eval x) := by
  unfold opd at hx
  split at hx
  · split at hx
    · rename_i av1 h1
      split at hx
      · rename_i av2 h2
        simp only [Option.some.injEq, Prod.mk.injEq] at hx
        obtain ⟨rfl, rfl⟩ := hx
        exact wholeAV_ok h h2 (bareAV_ok (h.at h1) rfl hps)
      · cases hx
    · cases hx
  · obtain ⟨av', h1, h2⟩ := Option.map_eq_some_iff.1 hx
    simp only [Prod.mk.injEq] at h2
    obtain ⟨rfl, rfl⟩ := h2
    exact constAV_ok h1
  · simp only [Option.some.injEq, Prod.mk.injEq] at hx
    obtain ⟨rfl, rfl⟩ := hx
    simp only [Match, Act.eval]
    exact ⟨[], rfl, by simp only [Matches]⟩
  · cases hx

theorem opdG_ok {Γ : Env} {w0 : World} {M S0 S : Nat → Prop} {γ : Nat → Value} {st : St} {a : Act} {w : World} (hΓ : HCtx Γ w0 M S0) (h : Core w0 M S0 S γ st a w) {x : Operand} {av : AV} {ps : List Prop} (hx : opdG Γ st x = some (av, ps)) (hps : ∀ p ∈ ps, p) :
    Match S w γ av (a.eval x) := by
  unfold opdG at hx
  split at hx
  · rename_i g
    obtain ⟨av', h1, h2⟩ := Option.map_eq_some_iff.1 hx
    simp only [Prod.mk.injEq] at h2
    obtain ⟨rfl, rfl⟩ := h2
    obtain ⟨h3, h4⟩ := hΓ.now h g _ h1
    exact pure_any h3 h4
  · exact opd_ok h hx hps

/-! ### Arithmetic, tests -/
/-- A wrapped number is itself. -/
def Fits (k : IntKind) (n : Int) : Prop := k.wrap n = n
def bitv (op : BinOp) (k : IntKind) (x y : Int) : Int :=
  match op with
  | .and => k.wrap (BitVec.ofInt k.bits x &&& BitVec.ofInt k.bits y).toNat
  | .or => k.wrap (BitVec.ofInt k.bits x ||| BitVec.ofInt k.bits y).toNat
  | .xor => k.wrap (BitVec.ofInt k.bits x ^^^ BitVec.ofInt k.bits y).toNat
  | .andNot => k.wrap (BitVec.ofInt k.bits x &&& ~~~BitVec.ofInt k.bits y).toNat
  | _ => 0
def binInt (op : BinOp) (k : IntKind) (x y : Int) : Ev :=
  match op with
  | .add => some (.data (.int k) (x + y), [Fits k (x + y)])
  | .sub => some (.data (.int k) (x - y), [Fits k (x - y)])
  | .mul => some (.data (.int k) (x * y), [Fits k (x * y)])
  | .quo => some (.data (.int k) (x / y), [0 ≤ x, 0 < y, Fits k (x / y)])
  | .rem => some (.data (.int k) (x % y), [0 ≤ x, 0 < y])
  | .and => some (.data (.int k) (bitv .and k x y), [])
  | .or => some (.data (.int k) (bitv .or k x y), [])
  | .xor => some (.data (.int k) (bitv .xor k x y), [])
  | .andNot => some (.data (.int k) (bitv .andNot k x y), [])
  | .eql => some (.data .bool (decide (x = y)), [])
  | .neq => some (.data .bool (!decide (x = y)), [])
  | .lss => some (.data .bool (decide (x < y)), [])
  | .leq => some (.data .bool (decide (x ≤ y)), [])
  | .gtr => some (.data .bool (decide (x > y)), [])
  | .geq => some (.data .bool (decide (x ≥ y)), [])
  | _ => none
def shInt (op : BinOp) (k : IntKind) (x y : Int) : Ev :=
  match op with
  | .shl => some (.data (.int k) (k.wrap (x * 2 ^ (min y.toNat k.bits))), [0 ≤ y])
  | .shr => some (.data (.int k) (x.fdiv (2 ^ (min y.toNat k.bits))), [0 ≤ y])
  | _ => none
def isShift : BinOp → Bool
  | .shl => true
  | .shr => true
  | _ => false
def binStr (op : BinOp) (x y : ByteArray) : Ev :=
  match op with
  | .add => some (.data .str (x ++ y), [((x.size + y.size : Nat) : Int) ≤ 9223372036854775807])
  | .eql => some (.data .bool (decide (x = y)), [])
  | .neq => some (.data .bool (!decide (x = y)), [])
  | .lss => some (.data .bool (Op.bytesLess x.toList y.toList), [])
  | _ => none
def binBool (op : BinOp) (x y : Bool) : Ev :=
  match op with
  | .eql => some (.data .bool (x == y), [])
  | .neq => some (.data .bool (!(x == y)), [])
  | _ => none
mutual
/-- '==' of data. -/
def Ty.eqb : (t : Ty) → t.Den → t.Den → Bool
  | .int _, x, y => @decide (@Eq Int x y) (Int.instDecidableEq x y)
  | .bool, x, y => @BEq.beq Bool _ x y
  | .str, x, y => @decide (@Eq ByteArray x y) inferInstance
  | .st fs, x, y => Ty.eqbs fs x y
  | .sl _ _, _, _ => false
  | .map _ _ _ _, _, _ => false
  | .arr _ _, _, _ => false
  | .opq _, _, _ => false
  | .len _ _, _, _ => false
def Ty.eqbs : (fs : List Ty) → Ty.Dens fs → Ty.Dens fs → Bool
  | [], _, _ => true
  | t :: ts, x, y => Ty.eqb t x.1 y.1 && Ty.eqbs ts x.2 y.2
end
mutual
/-- Without slices: may be compared. -/
def Ty.flat : Ty → Bool
  | .st fs => Ty.flats fs
  | .sl _ _ => false
  | .map _ _ _ _ => false
  | .arr _ _ => false
  | .opq _ => false
  | .len _ _ => false
  | .int _ => true
  | .bool => true
  | .str => true
def Ty.flats : List Ty → Bool
  | [] => true
  | t :: ts => t.flat && Ty.flats ts
end
mutual
def Ty.height : Ty → Nat
  | .st fs => Ty.heights fs + 1
  | _ => 1
def Ty.heights : List Ty → Nat
  | [] => 0
  | t :: ts => max t.height (Ty.heights ts)
end
def binSt (op : BinOp) (t : Ty) (x y : t.Den) : Ev :=
  match op with
  | .eql => some (.data .bool (Ty.eqb t x y), [])
  | .neq => some (.data .bool (!Ty.eqb t x y), [])
  | _ => none
def evBin (Γ : Env) (op : BinOp) (T : TypeId) (a b : AV) : Ev :=
  match Γ.ty T with
  | some (.int k) =>
    match castTo (.int k) a with
    | some x =>
      if isShift op then
        (match b with
        | .data (.int _) y => shInt op k x y
        | _ => none)
      else (match castTo (.int k) b with
        | some y => binInt op k x y
        | none => none)
    | none => none
  | some .bool => (match castTo .bool a, castTo .bool b with
    | some x, some y => binBool op x y
    | _, _ => none)
  | some .str => (match castTo .str a, castTo .str b with
    | some x, some y => binStr op x y
    | _, _ => none)
  | some (.st fs) =>
    if Ty.flats fs && decide (Ty.heights fs + 2 ≤ 9000) then
      (match castTo (.st fs) a, castTo (.st fs) b with
      | some x, some y => binSt op (.st fs) x y
      | _, _ => none)
    else none
  | _ => none

theorem bytes_beq (x y : ByteArray) : (x.toList == y.toList) = decide (x = y) := by
  by_cases h : x = y
  · subst h; simp
  · have : x.toList ≠ y.toList := by
      intro e
      apply h
      have e2 : x.data.toList = y.data.toList := by rw [← ByteArray.toList_eq, ← ByteArray.toList_eq]; exact e
      have := Array.toList_inj.1 e2
      cases x; cases y; simp only at this; rw [this]
    simp [h, this]
end Go.Abs
