/- Part of the proof of the law's row: YtnoeomlanbdjeaaAbsB. -/
import Derived.Test.YtnoeomlanbdjeaaAbsA
set_option linter.all false
set_option linter.unusedVariables false
set_option linter.unusedSimpArgs false
namespace Go.Abs
open Go.RowKit

/-- What is known of a value. 's': an object of the state. -/
inductive AV where
  | data (t : Ty) (x : t.Den)
  | nilS
  /-- a slice of which more can be read than its length says -/
  | lent (e : TypeId) (t : Ty) (xs : List t.Den) (n : Nat)
  /-- a slice without spare room -/
  | clip (e : TypeId) (t : Ty) (xs : List t.Den)
  | rptr (t : Ty) (x : t.Den)
  | own (s : Nat) (t : Ty) (off len : Nat)
  /-- the whole of a row -/
  | full (s : Nat) (t : Ty)
  /-- an element's part; without a number: of a variable -/
  | optr (s : Nat) (t : Ty) (j : Option Nat) (p : List Nat)
  | cptr (s : Nat)
  /-- a map -/
  | mptr (s : Nat)
  /-- a family's slice, so long -/
  | inn (c i : Nat) (t : Ty) (n : Nat)
  /-- an element's part, of a family's slice -/
  | iptr (c i j : Nat) (t : Ty) (p : List Nat)
  /-- a list, written no more, whose members are told one by one -/
  | lst (vs : List AV)
  | fn (f : FuncId) (caps : List AV)
  | tup (vs : List AV)
  /-- a struct's cells -/
  | agg (t : Ty) (vs : List AV)
  | opt (g : Bool) (v : AV)
  /-- just this value -/
  | val (v : Value)
  /-- a slice of which only the length is known -/
  | lenS (n : Nat)
  | undef

mutual
def AV.has (s : Nat) : AV → Bool
  | .own s' _ _ _ => s' == s
  | .full s' _ => s' == s
  | .optr s' _ _ _ => s' == s
  | .cptr s' => s' == s
  | .mptr s' => s' == s
  | .inn c _ _ _ => c == s
  | .iptr c _ _ _ _ => c == s
  | .lst vs => AV.hass s vs
  | .fn _ caps => AV.hass s caps
  | .tup vs => AV.hass s vs
  | .agg _ vs => AV.hass s vs
  | .opt _ v => AV.has s v
  | .data _ _ => false
  | .nilS => false
  | .lent _ _ _ _ => false
  | .clip _ _ _ => false
  | .rptr _ _ => false
  | .val _ => false
  | .lenS _ => false
  | .undef => false
def AV.hass (s : Nat) : List AV → Bool
  | [] => false
  | v :: vs => AV.has s v || AV.hass s vs
end

mutual
/-- Where in a value's cells a path leads. -/
def Ty.offs : Ty → List Nat → Nat
  | .st fs, i :: p => Ty.offss fs i p
  | .arr _ t, i :: p => i * t.sz + t.offs p
  | _, _ => 0
def Ty.offss : List Ty → Nat → List Nat → Nat
  | [], _, _ => 0
  | t :: _, 0, p => t.offs p
  | t :: ts, i + 1, p => t.sz + Ty.offss ts i p
end

mutual
def Match (S : Nat → Prop) (w : World) (γ : Nat → Value) : AV → Value → Prop
  | .data t x, v => ∃ cs, Rep S w t x cs ∧ v = toVal t cs
  | .nilS, v => v = .slice none 0 0
  | .lent e t xs n, v => n ≤ List.length xs ∧ ∃ A c, v = .slice A n c ∧ Rep S w (.sl e t) xs [.slice A (List.length xs) c]
  | .clip e t xs, v => ∃ g o, v = .slice (some ⟨g, o, none⟩) (List.length xs) (List.length xs) ∧ Rep S w (.sl e t) xs [v]
  | .rptr t x, v => ∃ (ad : Addr) (cs : List Value), v = .pointer (some ad) ∧ ad.spot = none ∧ S ad.block ∧
      (∀ k u, cs[k]? = some u → w.cell? ⟨ad.block, ad.off + k, none⟩ = some u) ∧ Rep S w t x cs
  | .own s t off len, v => (off = 0 ∧ len = 0 ∧ γ s = .slice none 0 0 ∧ v = .slice none 0 0) ∨
      (∃ g o n cap, γ s = .slice (some ⟨g, o, none⟩) n cap ∧ off + len ≤ cap ∧ ∃ p : Nat, v = .slice (some ⟨g, p, none⟩) len (cap - off) ∧ p ≤ o + off * t.sz ∧ (off = 0 ∨ off < cap → p = o + off * t.sz))
  | .full s _, v => v = γ s ∧ ∃ A n c, v = .slice A n c
  | .optr s t j p, v => ∃ g o n cap, γ s = .slice (some ⟨g, o, none⟩) n cap ∧ v = .pointer (some ⟨g, o + (j.getD 0 * t.sz + t.offs p), none⟩)
  | .cptr s, v => ∃ g o n cap, γ s = .slice (some ⟨g, o, none⟩) n cap ∧ v = .pointer (some ⟨g, o, none⟩)
  | .mptr s, v => ∃ g, γ s = .slice (some ⟨g, 0, none⟩) 0 0 ∧ v = .map (some g)
  | .inn c i _ n, v => ∃ (us : List Value) (A : Option Addr) (cap : Nat), γ c = .tuple us.toArray ∧ us[i]? = some v ∧ v = .slice A n cap ∧ (n = 0 ∨ ∃ g o, A = some ⟨g, o, none⟩)
  | .iptr c i j t p, v => ∃ (us : List Value) (g o n cap : Nat), γ c = .tuple us.toArray ∧ us[i]? = some (.slice (some ⟨g, o, none⟩) n cap) ∧ v = .pointer (some ⟨g, o + (j * t.sz + t.offs p), none⟩)
  | .lst vs, v => ∃ A c, v = .slice A (List.length vs) c ∧ ∃ us : List Value, Matches S w γ vs us ∧ (0 < List.length vs → ∃ ad : Addr, A = some ad ∧ ad.spot = none ∧ S ad.block ∧ ∀ (k : Nat) (u : Value), us[k]? = some u → w.cell? ⟨ad.block, ad.off + k, none⟩ = some u)
  | .fn f caps, v => ∃ vs : List Value, v = .func (.func f) #[] vs.toArray ∧ Matches S w γ caps vs
  | .tup vs, v => ∃ us : List Value, v = .tuple us.toArray ∧ Matches S w γ vs us
  | .agg _ vs, v => ∃ us : List Value, v = .agg us.toArray ∧ Matches S w γ vs us
  | .opt g av, v => (g = true → Match S w γ av v) ∧ (g = false → v = undef)
  | .val u, v => v = u
  | .lenS n, v => ∃ A c, v = .slice A n c
  | .undef, _ => True
def Matches (S : Nat → Prop) (w : World) (γ : Nat → Value) : List AV → List Value → Prop
  | [], us => us = []
  | v :: vs, us => ∃ u us', us = u :: us' ∧ Match S w γ v u ∧ Matches S w γ vs us'
end

mutual
theorem Match.mono {S S' : Nat → Prop} {w w' : World} {γ γ' : Nat → Value} (hs : ∀ b, S b → S' b) (ha : Agree S w w') :
    ∀ {av : AV} {v : Value}, (∀ s, av.has s = true → γ' s = γ s) → Match S w γ av v → Match S' w' γ' av v
  | .data t x, _, _, h => by
    simp only [Match] at h ⊢
    obtain ⟨cs, h1, h2⟩ := h
    exact ⟨cs, h1.mono hs ha, h2⟩
  | .nilS, _, _, h => by simpa only [Match] using h
  | .lent e t xs n, _, _, h => by
    simp only [Match] at h ⊢
    obtain ⟨h1, A, c, h2, h3⟩ := h
    exact ⟨h1, A, c, h2, h3.mono hs ha⟩
  | .clip e t xs, _, _, h => by
    simp only [Match] at h ⊢
    obtain ⟨g, o, h2, h3⟩ := h
    exact ⟨g, o, h2, h3.mono hs ha⟩
  | .rptr t x, _, _, h => by
    simp only [Match] at h ⊢
    obtain ⟨ad, cs, h1, h2, h3, h4, h5⟩ := h
    exact ⟨ad, cs, h1, h2, hs _ h3, fun k u hk => (World.cell?_of_block (a := ⟨ad.block, _, none⟩) (ha _ h3)).trans (h4 k u hk), h5.mono hs ha⟩
  | .own s t off len, _, hg, h => by
    simp only [Match] at h ⊢
    rw [hg s (by simp [AV.has])]
    exact h
  | .full s t, _, hg, h => by
    simp only [Match] at h ⊢
    rw [hg s (by simp [AV.has])]
    exact h
  | .optr s t j p, _, hg, h => by
    simp only [Match] at h ⊢
    rw [hg s (by simp [AV.has])]
    exact h
  | .cptr s, _, hg, h => by
    simp only [Match] at h ⊢
    rw [hg s (by simp [AV.has])]
    exact h
  | .inn c i t n, _, hg, h => by
    simp only [Match] at h ⊢
    rw [hg c (by simp [AV.has])]
    exact h
  | .iptr c i j t p, _, hg, h => by
    simp only [Match] at h ⊢
    rw [hg c (by simp [AV.has])]
    exact h
  | .mptr s, _, hg, h => by
    simp only [Match] at h ⊢
    rw [hg s (by simp [AV.has])]
    exact h
  | .lst vs, _, hg, h => by
    simp only [Match] at h ⊢
    obtain ⟨A, c, h1, us, h2, h3⟩ := h
    refine ⟨A, c, h1, us, Matches.mono hs ha (fun s h => hg s (by simpa [AV.has] using h)) h2, fun h0 => ?_⟩
    obtain ⟨ad, g1, g2, g3, g4⟩ := h3 h0
    exact ⟨ad, g1, g2, hs _ g3, fun k u hk => (World.cell?_of_block (a := ⟨ad.block, _, none⟩) (ha _ g3)).trans (g4 k u hk)⟩
  | .fn f caps, _, hg, h => by
    simp only [Match] at h ⊢
    obtain ⟨vs, h1, h2⟩ := h
    exact ⟨vs, h1, Matches.mono hs ha (fun s h => hg s (by simpa [AV.has] using h)) h2⟩
  | .tup vs, _, hg, h => by
    simp only [Match] at h ⊢
    obtain ⟨us, h1, h2⟩ := h
    exact ⟨us, h1, Matches.mono hs ha (fun s h => hg s (by simpa [AV.has] using h)) h2⟩
  | .agg _ vs, _, hg, h => by
    simp only [Match] at h ⊢
    obtain ⟨us, h1, h2⟩ := h
    exact ⟨us, h1, Matches.mono hs ha (fun s h => hg s (by simpa [AV.has] using h)) h2⟩
  | .opt g av, _, hg, h => by
    simp only [Match] at h ⊢
    exact ⟨fun h1 => Match.mono hs ha (fun s h => hg s (by simpa [AV.has] using h)) (h.1 h1), h.2⟩
  | .val _, _, _, h => by simpa only [Match] using h
  | .lenS _, _, _, h => by simpa only [Match] using h
  | .undef, _, _, _ => by simp only [Match]
theorem Matches.mono {S S' : Nat → Prop} {w w' : World} {γ γ' : Nat → Value} (hs : ∀ b, S b → S' b) (ha : Agree S w w') :
    ∀ {avs : List AV} {vs : List Value}, (∀ s, AV.hass s avs = true → γ' s = γ s) → Matches S w γ avs vs → Matches S' w' γ' avs vs
  | [], _, _, h => by simpa only [Matches] using h
  | _ :: _, _, hg, h => by
    simp only [Matches] at h ⊢
    obtain ⟨u, us', h1, h2, h3⟩ := h
    exact ⟨u, us', h1, Match.mono hs ha (fun s h => hg s (by simp [AV.hass, h])) h2, Matches.mono hs ha (fun s h => hg s (by simp [AV.hass, h])) h3⟩
end

/-- An object: a row of elements (a variable: of one), or a variable of one cell that holds what is no plain data. -/
inductive Ob where
  | row (e : TypeId) (t : Ty) (xs : List t.Den) (fro : Bool)
  | cell (e : TypeId) (v : AV)
  /-- a struct's variable, cell by cell -/
  | rcd (e : TypeId) (t : Ty) (vs : List AV)
  /-- a map: its entries in the order of their making -/
  | map (k e : TypeId) (tk te : Ty) (l : List (tk.Den × te.Den)) (fro : Bool)
  /-- what goes over a map: the entries that are left, and the one it stands at -/
  | iter (k e : TypeId) (tk te : Ty) (rem : List (tk.Den × te.Den)) (cur : Option (tk.Den × te.Den))
  /-- a row of slices that are a family's; at one place it may be another row's, or one of which nobody speaks -/
  | deep (e : TypeId) (t : Ty) (c : Nat) (hole : Option (Nat × Option Nat))
  /-- a family of rows, each in memory of its own -/
  | fam (e : TypeId) (t : Ty) (xss : List (List t.Den))
  | dead
def Ob.has (s : Nat) : Ob → Bool
  | .cell _ v => v.has s
  | .rcd _ _ vs => AV.hass s vs
  | .deep _ _ c hole => c == s || (match hole with
    | some (_, some d) => d == s
    | _ => false)
  | _ => false

/-- The first that is told of a number. -/
def get {α : Type _} : List (Nat × α) → Nat → Option α
  | [], _ => none
  | (k, v) :: l, i => if i = k then some v else get l i

mutual
def AV.pure : AV → Bool
  | .data _ _ => true
  | .nilS => true
  | .lent _ _ _ _ => true
  | .clip _ _ _ => true
  | .rptr _ _ => true
  | .fn _ caps => AV.pures caps
  | .lst vs => AV.pures vs
  | .tup vs => AV.pures vs
  | .agg _ vs => AV.pures vs
  | .val _ => true
  | .lenS _ => true
  | _ => false
def AV.pures : List AV → Bool
  | [] => true
  | v :: vs => AV.pure v && AV.pures vs
end
mutual
theorem AV.pure_has {s : Nat} : ∀ {av : AV}, av.pure = true → av.has s = false
  | .data _ _, _ => by simp [AV.has]
  | .nilS, _ => by simp [AV.has]
  | .lent _ _ _ _, _ => by simp [AV.has]
  | .clip _ _ _, _ => by simp [AV.has]
  | .rptr _ _, _ => by simp [AV.has]
  | .val _, _ => by simp [AV.has]
  | .lenS _, _ => by simp [AV.has]
  | .fn _ caps, h => by simp only [AV.has]; exact AV.pures_has (by simpa [AV.pure] using h)
  | .lst vs, h => by simp only [AV.has]; exact AV.pures_has (by simpa [AV.pure] using h)
  | .tup vs, h => by simp only [AV.has]; exact AV.pures_has (by simpa [AV.pure] using h)
  | .agg _ vs, h => by simp only [AV.has]; exact AV.pures_has (by simpa [AV.pure] using h)
  | .own _ _ _ _, h | .full _ _, h | .optr _ _ _ _, h | .cptr _, h | .mptr _, h | .inn _ _ _ _, h | .iptr _ _ _ _ _, h | .opt _ _, h | .undef, h => by simp [AV.pure] at h
theorem AV.pures_has {s : Nat} : ∀ {avs : List AV}, AV.pures avs = true → AV.hass s avs = false
  | [], _ => by simp [AV.hass]
  | v :: vs, h => by
    simp only [AV.pures, Bool.and_eq_true] at h
    simp only [AV.hass, Bool.or_eq_false_iff]
    exact ⟨AV.pure_has h.1, AV.pures_has h.2⟩
end
theorem pure_any {S : Nat → Prop} {w : World} {γ γ' : Nat → Value} {av : AV} {v : Value} (hp : av.pure = true) (h : Match S w γ av v) : Match S w γ' av v :=
  h.mono (fun _ h => h) (fun _ _ => rfl) (fun s hs => by rw [AV.pure_has hp] at hs; cases hs)
/-- 'fix': values of temporaries that nobody sets. -/
structure St where
  slots : List (Nat × AV)
  heap : List (Nat × Ob)
  nt : Nat
  fix : List (Nat × AV)
/-- A temporary that may be set. -/
def St.ok (st : St) (d : Nat) : Bool := decide (d < st.nt) && (get st.fix d).isNone
def St.at (st : St) (i : Nat) : Option AV := match get st.slots i with
  | some v => some v
  | none => get st.fix i
/-- What an object is where its old parts are no more: a variable's memory stays. -/
def Ob.forget (s : Nat) : Ob → Ob
  | .cell e v => if v.has s then .cell e .undef else .cell e v
  | .rcd e t vs => .rcd e t (vs.map fun v => if v.has s then .undef else v)
  | .deep e t c hole => if c = s then .dead else .deep e t c (match hole with
    | some (i, some d) => if d = s then some (i, none) else some (i, some d)
    | h => h)
  | o => o
def killS (s : Nat) (l : List (Nat × AV)) : List (Nat × AV) := l.map fun p => (p.1, if p.2.has s then .undef else p.2)
def killH (s : Nat) (l : List (Nat × Ob)) : List (Nat × Ob) := l.map fun p => (p.1, if p.1 = s then .dead else p.2.forget s)
theorem hass_forget {s : Nat} : ∀ vs : List AV, AV.hass s (vs.map fun v => if v.has s then .undef else v) = false
  | [] => rfl
  | v :: vs => by
    simp only [List.map_cons, AV.hass, Bool.or_eq_false_iff]
    refine ⟨?_, hass_forget vs⟩
    split
    · simp [AV.has]
    · rename_i h; simpa using h
theorem hass_forget_sub {s s' : Nat} : ∀ vs : List AV, AV.hass s' vs = false → AV.hass s' (vs.map fun v => if v.has s then .undef else v) = false
  | [], _ => rfl
  | v :: vs, h => by
    simp only [AV.hass, Bool.or_eq_false_iff] at h
    simp only [List.map_cons, AV.hass, Bool.or_eq_false_iff]
    refine ⟨?_, hass_forget_sub vs h.2⟩
    split
    · simp [AV.has]
    · exact h.1
theorem Ob.forget_has {s : Nat} {o : Ob} : (o.forget s).has s = false := by
  cases o with
  | cell e v =>
    simp only [Ob.forget]
    split
    · simp [Ob.has, AV.has]
    · rename_i h; simpa [Ob.has] using h
  | rcd e t vs => exact hass_forget vs
  | deep e t c hole =>
    simp only [Ob.forget]
    split
    · rfl
    · rename_i hc
      simp only [Ob.has, Bool.or_eq_false_iff, beq_eq_false_iff_ne, ne_eq]
      refine ⟨hc, ?_⟩
      rcases hole with _ | ⟨i, _ | d⟩
      · rfl
      · rfl
      · by_cases hd : d = s
        · simp only [if_pos hd]
        · simp only [if_neg hd]; simpa using hd
  | fam e t xss => rfl
  | row e t xs f => rfl
  | map k e tk te l f => rfl
  | iter k e tk te l f => rfl
  | dead => rfl
theorem Ob.forget_sub {s s' : Nat} {o : Ob} (h : o.has s' = false) : (o.forget s).has s' = false := by
  cases o with
  | cell e v =>
    simp only [Ob.forget]
    split
    · simp [Ob.has, AV.has]
    · exact h
  | rcd e t vs => exact hass_forget_sub vs h
  | deep e t c hole =>
    simp only [Ob.forget]
    split
    · rfl
    · simp only [Ob.has, Bool.or_eq_false_iff] at h ⊢
      refine ⟨h.1, ?_⟩
      rcases hole with _ | ⟨i, _ | d⟩
      · rfl
      · rfl
      · by_cases hd : d = s
        · simp only [if_pos hd]
        · simp only [if_neg hd]; exact h.2
  | fam e t xss => rfl
  | row e t xs f => rfl
  | map k e tk te l f => rfl
  | iter k e tk te l f => rfl
  | dead => rfl
theorem get_killS {s : Nat} : ∀ {l : List (Nat × AV)} {i : Nat} {v : AV}, get (killS s l) i = some v → v = .undef ∨ (get l i = some v ∧ v.has s = false)
  | [], _, _, h => by simp [killS, get] at h
  | (k, u) :: l, i, v, h => by
    simp only [killS, List.map_cons, get] at h ⊢
    by_cases hik : i = k
    · rw [if_pos hik] at h
      rw [if_pos hik]
      split at h
      · left; simpa using h.symm
      · rename_i hn
        right
        have e : u = v := by simpa using h
        subst e
        exact ⟨rfl, by simpa using hn⟩
    · rw [if_neg hik] at h
      rw [if_neg hik]
      exact get_killS h
theorem get_killH {s : Nat} : ∀ {l : List (Nat × Ob)} {i : Nat} {v : Ob}, get (killH s l) i = some v → v = .dead ∨ (∃ v', get l i = some v' ∧ v = v'.forget s ∧ i ≠ s)
  | [], _, _, h => by simp [killH, get] at h
  | (k, u) :: l, i, v, h => by
    simp only [killH, List.map_cons, get] at h ⊢
    by_cases hik : i = k
    · rw [if_pos hik] at h
      rw [if_pos hik]
      subst hik
      split at h
      · left; simpa using h.symm
      · rename_i hn
        right
        have e : u.forget s = v := by simpa using h
        exact ⟨u, rfl, e.symm, hn⟩
    · rw [if_neg hik] at h
      rw [if_neg hik]
      exact get_killH h

/-- Whose block that is: a slice's, or one of those of a family of slices. -/
def Blk (v : Value) (k : Nat) : Prop := v.ownBlock = some k ∨ ∃ us : List Value, v = .tuple us.toArray ∧ ∃ u ∈ us, u.ownBlock = some k
theorem blk_slice {A : Option Addr} {n c k : Nat} : Blk (.slice A n c) k ↔ (Value.slice A n c).ownBlock = some k := by
  unfold Blk
  constructor
  · rintro (h | ⟨us, h, _⟩)
    · exact h
    · cases h
  · exact fun h => .inl h
theorem blk_at {g o n c : Nat} : Blk (.slice (some ⟨g, o, none⟩) n c) g := .inl rfl
theorem blk_some {A : Addr} {n c k : Nat} (h : Blk (.slice (some A) n c) k) : k = A.block := by
  rw [blk_slice] at h
  simp only [Value.ownBlock, Option.some.injEq] at h
  exact h.symm
theorem blk_none {n c k : Nat} : ¬ Blk (.slice none n c) k := by
  rw [blk_slice]
  simp [Value.ownBlock]
theorem blk_tuple {us : List Value} {k : Nat} : Blk (.tuple us.toArray) k ↔ ∃ u ∈ us, u.ownBlock = some k := by
  unfold Blk
  constructor
  · rintro (h | ⟨us', h, h2⟩)
    · cases h
    · injection h with h
      have h : us = us' := by simpa using congrArg Array.toList h
      subst h
      exact h2
  · exact fun h => .inr ⟨us, rfl, h⟩
/-- A slice's elements, in a row that is nobody else's: at a place in it, with some room behind. -/
def Owns (w : World) (e : TypeId) (size : Nat) (v : Value) (n : Nat) (xs : List Value) : Prop :=
  xs.length = n * size ∧ ((v = .slice none 0 0 ∧ n = 0) ∨
    ∃ g o cap cur, v = .slice (some ⟨g, o, none⟩) n cap ∧ w.heap[g]? = some (.cells cur e (0, 0)) ∧ n ≤ cap ∧ cap ≤ maxLen ∧ o + cap * size ≤ cur.size ∧ (cur.toList.drop o).take (n * size) = xs)
section
variable {w : World} {e : TypeId} {size : Nat} {v : Value} {n : Nat} {xs : List Value}
theorem Owns.of {base : Nat} (h : w.ownsRow base e size v n xs) : Owns w e size v n xs := by
  refine ⟨h.1, ?_⟩
  rcases h.2 with hn | ⟨g, cap, cur, hv, _, hg, h1, h2, h3, h4⟩
  · exact .inl hn
  · exact .inr ⟨g, 0, cap, cur, hv, hg, h1, h2, by omega, by simpa using h4⟩
theorem Owns.nil (w : World) (e : TypeId) (size : Nat) : Owns w e size (.slice none 0 0) 0 [] := ⟨by simp, .inl ⟨rfl, rfl⟩⟩
theorem Owns.lt (h : Owns w e size v n xs) : ∀ k, Blk v k → k < w.heap.size := by
  intro k hk
  rcases h.2 with ⟨rfl, _⟩ | ⟨g, o, cap, cur, rfl, hg, _⟩
  · exact absurd hk blk_none
  · obtain rfl := blk_some hk
    exact (Array.getElem?_eq_some_iff.1 hg).1
theorem Owns.same {w' : World} (h : Owns w e size v n xs) (hb : ∀ k, Blk v k → w'.heap[k]? = w.heap[k]?) : Owns w' e size v n xs := by
  refine ⟨h.1, ?_⟩
  rcases h.2 with hn | ⟨g, o, cap, cur, rfl, hgg, rest⟩
  · exact .inl hn
  · refine .inr ⟨g, o, cap, cur, rfl, ?_, rest⟩
    rw [hb g blk_at]
    exact hgg
theorem Owns.kept {w' : World} {row : Option Nat} (h : Owns w e size v n xs) (hg : w.grownBy w' row) (hne : ∀ k, Blk v k → some k ≠ row) : Owns w' e size v n xs :=
  h.same fun k hk => hg.block k (h.lt k hk) (hne k hk)
theorem Owns.blk (h : Owns w e size v n xs) {k : Nat} : Blk v k ↔ v.ownBlock = some k := by
  rcases h.2 with ⟨rfl, _⟩ | ⟨g, o, cap, cur, rfl, _⟩ <;> exact blk_slice
/-- Its cells. -/
theorem Owns.cells {g o m cap : Nat} (h : Owns w e size (.slice (some ⟨g, o, none⟩) m cap) n xs) : ∀ j u, xs[j]? = some u → w.cell? ⟨g, o + j, none⟩ = some u := by
  intro j u hu
  rcases h.2 with ⟨h', _⟩ | ⟨g', o', cap', cur, h', hgg, _, _, _, htake⟩
  · simp at h'
  · simp only [Value.slice.injEq, Option.some.injEq, Addr.mk.injEq, and_true] at h'
    obtain ⟨⟨rfl, rfl⟩, rfl, rfl⟩ := h'
    rw [cell_of_row w g (o + j) cur e (0, 0) hgg]
    rw [← htake, List.getElem?_take] at hu
    split at hu
    · simpa [List.getElem?_drop] using hu
    · cases hu
theorem Owns.frozenAt {g o m cap : Nat} (h : Owns w e size (.slice (some ⟨g, o, none⟩) m cap) n xs) (j : Nat) : w.frozen? ⟨g, j, none⟩ = false := by
  rcases h.2 with ⟨h', _⟩ | ⟨g', o', cap', cur, h', hg, _⟩
  · simp at h'
  · simp only [Value.slice.injEq, Option.some.injEq, Addr.mk.injEq, and_true] at h'
    obtain ⟨⟨rfl, rfl⟩, rfl, rfl⟩ := h'
    exact frozen_of_row w g j cur e hg
theorem Owns.len_is {A : Option Addr} {m cap : Nat} (h : Owns w e size (.slice A m cap) n xs) : m = n := by
  rcases h.2 with ⟨h', h2⟩ | ⟨g', o', cap', cur, h', _⟩
  · injection h' with _ h3; omega
  · injection h'
/-- A cell is written. -/
theorem Owns.stored {g o m cap : Nat} (h : Owns w e size (.slice (some ⟨g, o, none⟩) m cap) n xs) (j : Nat) (u : Value) :
    Owns (w.setCell ⟨g, o + j, none⟩ u) e size (.slice (some ⟨g, o, none⟩) m cap) n (xs.set j u) ∧ w.grownBy (w.setCell ⟨g, o + j, none⟩ u) (some g) := by
  rcases h.2 with ⟨h', _⟩ | ⟨g', o', cap', cur, h', hg, hnc, hcm, hcs, htake⟩
  · simp at h'
  · simp only [Value.slice.injEq, Option.some.injEq, Addr.mk.injEq, and_true] at h'
    obtain ⟨⟨rfl, rfl⟩, rfl, rfl⟩ := h'
    refine ⟨⟨by simpa using h.1, .inr ⟨g, o, cap, cur.setIfInBounds (o + j) u, rfl, heap_setCell_same w g (o + j) cur e u hg, hnc, hcm, by simpa using hcs, ?_⟩⟩,
      ⟨rfl, rfl, rfl, by simp, fun k _ hk => heap_setCell_other w ⟨g, o + j, none⟩ k u (fun e => hk (by simp [e]))⟩⟩
    rw [Array.toList_setIfInBounds, ← htake, ← List.take_set]
    congr 1
    rw [List.drop_set, if_neg (by omega), Nat.add_sub_cancel_left]
/-- A part of it, as a row of its own. -/
theorem Owns.part {g o m cap off k p : Nat} (h : Owns w e size (.slice (some ⟨g, o, none⟩) m cap) n xs) (hk : off + k ≤ n) (hp : p ≤ o + off * size) (hpp : off = 0 ∨ off < cap → p = o + off * size) :
    Owns w e size (.slice (some ⟨g, p, none⟩) k (cap - off)) k ((xs.drop (off * size)).take (k * size)) := by
  have hb : off * size + k * size ≤ n * size := by rw [← Nat.add_mul]; exact Nat.mul_le_mul_right _ hk
  refine ⟨by rw [List.length_take, List.length_drop, h.1]; omega, ?_⟩
  rcases h.2 with ⟨h', _⟩ | ⟨g', o', cap', cur, h', hg, hnc, hcm, hcs, htake⟩
  · simp at h'
  · simp only [Value.slice.injEq, Option.some.injEq, Addr.mk.injEq, and_true] at h'
    obtain ⟨⟨rfl, rfl⟩, rfl, rfl⟩ := h'
    have hcc : off * size + (cap - off) * size = cap * size := by rw [← Nat.add_mul]; congr 1; omega
    refine .inr ⟨g, p, cap - off, cur, rfl, hg, by omega, by omega, by omega, ?_⟩
    by_cases hlt : off = 0 ∨ off < cap
    · rw [hpp hlt, ← htake, List.drop_take, List.take_take, List.drop_drop]
      congr 1
      omega
    · have hk0 : k = 0 := by omega
      subst hk0
      simp
/-- With less room. -/
theorem Owns.clip {g o m cap cap' : Nat} (h : Owns w e size (.slice (some ⟨g, o, none⟩) m cap) n xs) (h1 : n ≤ cap') (h2 : cap' ≤ cap) : Owns w e size (.slice (some ⟨g, o, none⟩) m cap') n xs := by
  refine ⟨h.1, ?_⟩
  rcases h.2 with ⟨h', _⟩ | ⟨g', o', cap2, cur, h', hg, hnc, hcm, hcs, htake⟩
  · simp at h'
  · simp only [Value.slice.injEq, Option.some.injEq, Addr.mk.injEq, and_true] at h'
    obtain ⟨⟨rfl, rfl⟩, rfl, rfl⟩ := h'
    have : cap' * size ≤ cap * size := Nat.mul_le_mul_right _ h2
    exact .inr ⟨g, o, cap', cur, rfl, hg, h1, by omega, by omega, htake⟩
end
/-- What goes over a map stands where. -/
def IterOk (S : Nat → Prop) (w : World) (tk te : Ty) (rem : List (tk.Den × te.Den)) (cur : Option (tk.Den × te.Den)) (r : Nat) : Prop :=
  (w.heap[r]? = some (.mapIter none 0 #[] 0) ∧ rem = [] ∧ cur = none) ∨
  ∃ (b : Nat) (es : Array MapEntry) (seen : Array Nat) (last : Nat) (l : List (tk.Den × te.Den)), S b ∧ w.heap[b]? = some (.map es es.size) ∧ EntOk S w tk te l es ∧
    w.heap[r]? = some (.mapIter (some b) es.size seen last) ∧ es.size ≤ last ∧ Rem l seen.toList rem ∧ ∀ x, cur = some x → ∃ (i : Nat) (seen' : Array Nat), seen = seen'.push i ∧ last = es.size ∧ l[i]? = some x
theorem IterOk.mono {S S' : Nat → Prop} {w w' : World} (hs : ∀ b, S b → S' b) (ha : Agree S w w') {tk te : Ty} {rem : List (tk.Den × te.Den)} {cur : Option (tk.Den × te.Den)} {r : Nat} (hr : w'.heap[r]? = w.heap[r]?) (h : IterOk S w tk te rem cur r) : IterOk S' w' tk te rem cur r := by
  rcases h with h | ⟨b, es, seen, last, l, h1, h2, h3, h4, h5⟩
  · exact .inl ⟨hr.trans h.1, h.2⟩
  · exact .inr ⟨b, es, seen, last, l, hs _ h1, (ha _ h1).trans h2, h3.mono hs ha, hr.trans h4, h5⟩
theorem IterOk.lt {S : Nat → Prop} {w : World} {tk te : Ty} {rem : List (tk.Den × te.Den)} {cur : Option (tk.Den × te.Den)} {r : Nat} (h : IterOk S w tk te rem cur r) : r < w.heap.size := by
  rcases h with h | ⟨b, es, seen, last, l, h1, h2, h3, h4, h5⟩
  · exact (Array.getElem?_eq_some_iff.1 h.1).1
  · exact (Array.getElem?_eq_some_iff.1 h4).1
/-- A family's row of slices, but for one place. -/
def HoleOk (γ : Nat → Value) (us cs : List Value) : Option (Nat × Option Nat) → Prop
  | none => cs = us
  | some (i, none) => ∃ x, cs = us.set i x
  | some (i, some d) => cs = us.set i (γ d)
theorem HoleOk.len {γ : Nat → Value} {us cs : List Value} : ∀ {hole : Option (Nat × Option Nat)}, HoleOk γ us cs hole → cs.length = us.length
  | none, h => by rw [show cs = us from h]
  | some (i, none), h => by obtain ⟨x, h⟩ := h; rw [h, List.length_set]
  | some (i, some d), h => by rw [show cs = us.set i (γ d) from h, List.length_set]
/-- A family of rows: each is nobody else's. -/
def FamOk (S : Nat → Prop) (w : World) (e : TypeId) (t : Ty) (us : List Value) (xss : List (List t.Den)) : Prop :=
  us.length = xss.length ∧ (∀ (i : Nat) (u : Value) (xs : List t.Den), us[i]? = some u → xss[i]? = some xs → ∃ cs, Owns w e t.sz u xs.length cs ∧ RepRow S w t xs cs) ∧
    ∀ (i j : Nat) (u u' : Value), i ≠ j → us[i]? = some u → us[j]? = some u' → ∀ k, u.ownBlock = some k → ¬ u'.ownBlock = some k
/-- What an object's memory is. -/
def ObOk (S : Nat → Prop) (w : World) (γ : Nat → Value) (hv : Value) : Ob → Prop
  | .row e t xs fro => (∃ cs, Owns w e t.sz hv xs.length cs ∧ RepRow S w t xs cs) ∧ ∀ k, Blk hv k → (S k ↔ fro = true)
  | .cell e av => (∃ u, Owns w e 1 hv 1 [u] ∧ Match S w γ av u ∧ u.oneCell' = true) ∧ ∀ k, Blk hv k → ¬ S k
  | .rcd e t vs => (∃ us, Owns w e t.sz hv 1 us ∧ Matches S w γ vs us ∧ ∀ u ∈ us, u.oneCell' = true) ∧ ∀ k, Blk hv k → ¬ S k
  | .map _ _ tk te l fro => (∃ g, hv = .slice (some ⟨g, 0, none⟩) 0 0 ∧ ∃ es : Array MapEntry, w.heap[g]? = some (.map es es.size) ∧ EntOk S w tk te l es) ∧ ∀ k, Blk hv k → (S k ↔ fro = true)
  | .iter _ _ tk te rem cur => (∃ r, hv = .slice (some ⟨r, 0, none⟩) 0 0 ∧ IterOk S w tk te rem cur r) ∧ ∀ k, Blk hv k → ¬ S k
  | .deep e _ c hole => (∃ us cs : List Value, γ c = .tuple us.toArray ∧ Owns w e 1 hv us.length cs ∧ HoleOk γ us cs hole) ∧ ∀ k, Blk hv k → ¬ S k
  | .fam e t xss => (∃ us : List Value, hv = .tuple us.toArray ∧ FamOk S w e t us xss) ∧ ∀ k, Blk hv k → ¬ S k
  | .dead => True
/-- The same, but for some of which nothing is told. -/
def WeakL : List AV → List AV → Prop
  | [], [] => True
  | a :: as, b :: bs => (a = b ∨ a = .undef) ∧ WeakL as bs
  | _, _ => False
theorem WeakL.refl : ∀ l : List AV, WeakL l l
  | [] => trivial
  | _ :: l => ⟨.inl rfl, WeakL.refl l⟩
theorem WeakL.trans : ∀ {a b c : List AV}, WeakL a b → WeakL b c → WeakL a c
  | [], [], [], _, _ => trivial
  | x :: a, y :: b, z :: c, h, k => by
    refine ⟨?_, WeakL.trans h.2 k.2⟩
    rcases h.1 with h | h
    · rw [h]; exact k.1
    · exact .inr h
  | [], _ :: _, _, h, _ => h.elim
  | _ :: _, [], _, h, _ => h.elim
  | [], [], _ :: _, _, k => k.elim
  | _ :: _, _ :: _, [], _, k => k.elim
theorem WeakL.map {f : AV → AV} (hf : ∀ v, f v = v ∨ f v = .undef) : ∀ l : List AV, WeakL (l.map f) l
  | [] => trivial
  | v :: l => ⟨hf v, WeakL.map hf l⟩
theorem WeakL.match {S : Nat → Prop} {w : World} {γ : Nat → Value} : ∀ {a b : List AV} {us : List Value}, WeakL a b → Matches S w γ b us → Matches S w γ a us
  | [], [], _, _, h => h
  | x :: a, y :: b, us, k, h => by
    simp only [Matches] at h ⊢
    obtain ⟨u, us', rfl, h1, h2⟩ := h
    refine ⟨u, us', rfl, ?_, WeakL.match k.2 h2⟩
    rcases k.1 with e | e
    · rw [e]; exact h1
    · rw [e]; simp only [Match]
  | [], _ :: _, _, k, _ => k.elim
  | _ :: _, [], _, k, _ => k.elim
/-- An object, or, of a variable's, the memory alone. -/
def Ob.Weak (o o' : Ob) : Prop := o = o' ∨ (∃ e v, o' = .cell e v ∧ o = .cell e .undef) ∨ (∃ e t vs vs', o' = .rcd e t vs' ∧ o = .rcd e t vs ∧ WeakL vs vs') ∨ ∃ e t c i d, o' = .deep e t c (some (i, some d)) ∧ o = .deep e t c (some (i, none))
theorem Ob.Weak.trans {a b c : Ob} (h : Ob.Weak a b) (k : Ob.Weak b c) : Ob.Weak a c := by
  rcases h with rfl | ⟨e, v, rfl, rfl⟩ | ⟨e, t, vs, vs', rfl, rfl, hw⟩ | ⟨e, t, c0, i, d, rfl, rfl⟩
  · exact k
  · rcases k with h | ⟨e', v', rfl, h⟩ | ⟨_, _, _, _, _, h, _⟩ | ⟨_, _, _, _, _, _, h⟩
    · exact .inr (.inl ⟨e, v, h.symm, rfl⟩)
    · injection h with h1 h2
      subst h1
      exact .inr (.inl ⟨e, v', rfl, rfl⟩)
    · cases h
    · cases h
  · rcases k with h | ⟨e', v', rfl, h⟩ | ⟨e', t', vs2, vs3, rfl, h, hk⟩ | ⟨_, _, _, _, _, _, h⟩
    · exact .inr (.inr (.inl ⟨e, t, vs, vs', h.symm, rfl, hw⟩))
    · cases h
    · injection h with h1 h2 h3
      subst h1 h2 h3
      exact .inr (.inr (.inl ⟨_, _, _, _, rfl, rfl, hw.trans hk⟩))
    · cases h
  · rcases k with h | ⟨e', v', rfl, h⟩ | ⟨e', t', vs2, vs3, rfl, h, hk⟩ | ⟨_, _, _, _, _, _, h⟩
    · exact .inr (.inr (.inr ⟨e, t, c0, i, d, h.symm, rfl⟩))
    · cases h
    · cases h
    · cases h
theorem Ob.forget_weak {o : Ob} {s : Nat} : o.forget s = .dead ∨ Ob.Weak (o.forget s) o := by
  cases o with
  | cell e v =>
    refine .inr ?_
    simp only [Ob.forget]
    split
    · exact .inr (.inl ⟨e, v, rfl, rfl⟩)
    · exact .inl rfl
  | rcd e t vs => exact .inr (.inr (.inr (.inl ⟨e, t, _, vs, rfl, rfl, WeakL.map (fun v => by split <;> simp) vs⟩)))
  | deep e t c hole =>
    simp only [Ob.forget]
    split
    · exact .inl rfl
    · refine .inr ?_
      rcases hole with _ | ⟨i, _ | d⟩
      · exact .inl rfl
      · exact .inl rfl
      · simp only
        split
        · exact .inr (.inr (.inr ⟨e, t, c, i, d, rfl, rfl⟩))
        · exact .inl rfl
  | fam e t xss => exact .inr (.inl rfl)
  | row e t xs f => exact .inr (.inl rfl)
  | map k e tk te l f => exact .inr (.inl rfl)
  | iter k e tk te l f => exact .inr (.inl rfl)
  | dead => exact .inl rfl
theorem ObOk.weak {S : Nat → Prop} {w : World} {γ : Nat → Value} {hv : Value} {o o' : Ob} (h : ObOk S w γ hv o') (k : Ob.Weak o o') : ObOk S w γ hv o := by
  rcases k with rfl | ⟨e, v, rfl, rfl⟩ | ⟨e, t, vs, vs', rfl, rfl, hw⟩ | ⟨e, t, c, i, d, rfl, rfl⟩
  · exact h
  · obtain ⟨⟨u, h1, _, h3⟩, h4⟩ := h
    exact ⟨⟨u, h1, by simp only [Match], h3⟩, h4⟩
  · obtain ⟨⟨us, h1, h2, h3⟩, h4⟩ := h
    exact ⟨⟨us, h1, hw.match h2, h3⟩, h4⟩
  · obtain ⟨⟨us, cs, h1, h2, h3⟩, h4⟩ := h
    exact ⟨⟨us, cs, h1, h2, ⟨_, h3⟩⟩, h4⟩
def Ob.live : Ob → Bool
  | .dead => false
  | _ => true

/-- The state tells the truth of a frame and a world: 'w0' is the world at the function's begin, 'M' what of it may be written, 'S0' what of it is read. -/
structure Core (w0 : World) (M S0 : Nat → Prop) (S : Nat → Prop) (γ : Nat → Value) (st : St) (a : Act) (w : World) : Prop where
  os : w.os = w0.os
  tape : w.tape = w0.tape
  output : w.output = w0.output
  size : w0.heap.size ≤ w.heap.size
  old : ∀ b, b < w0.heap.size → ¬ M b → w.heap[b]? = w0.heap[b]?
  s0 : ∀ b, S0 b → S b
  sold : ∀ b, S b → b < w0.heap.size → S0 b ∨ M b
  slt : ∀ b, S b → b < w.heap.size
  slot : ∀ i av, get st.slots i = some av → Match S w γ av (a.tmps.getD i undef)
  obj : ∀ s o, get st.heap s = some o → ObOk S w γ (γ s) o ∧ (o.live = true → ∀ k, Blk (γ s) k → M k ∨ w0.heap.size ≤ k)
  dis : ∀ s s' o o', get st.heap s = some o → get st.heap s' = some o' → o.live = true → o'.live = true → s ≠ s' → ∀ k, Blk (γ s) k → ¬ Blk (γ s') k
  defers : a.defers = []
  nt : a.tmps.size = st.nt
  fixs : ∀ i av, get st.fix i = some av → av.pure = true ∧ Match S w γ av (a.tmps.getD i undef)
theorem Core.at {w0 : World} {M S0 : Nat → Prop} {S : Nat → Prop} {γ : Nat → Value} {st : St} {a : Act} {w : World} (h : Core w0 M S0 S γ st a w) {i : Nat} {av : AV} (hi : st.at i = some av) : Match S w γ av (a.tmps.getD i undef) := by
  unfold St.at at hi
  split at hi
  · rename_i v hv
    simp only [Option.some.injEq] at hi
    subst hi
    exact h.slot i _ hv
  · exact (h.fixs i av hi).2
theorem Ob.Weak.live {o o' : Ob} (h : Ob.Weak o o') : o.live = o'.live := by
  rcases h with rfl | ⟨e, v, rfl, rfl⟩ | ⟨e, t, vs, vs', rfl, rfl, _⟩ | ⟨e, t, c, i, d, rfl, rfl⟩ <;> rfl
def Sat (w0 : World) (M S0 : Nat → Prop) (st : St) (a : Act) (w : World) : Prop := ∃ S γ, Core w0 M S0 S γ st a w

theorem own_ob {S : Nat → Prop} {w : World} {γ : Nat → Value} {hv : Value} {o : Ob} (h : ObOk S w γ hv o) (hl : o.live = true) : ∀ k, Blk hv k → k < w.heap.size := by
  intro k hk
  cases o with
  | row e t xs fro => obtain ⟨⟨cs, h1, _⟩, _⟩ := h; exact h1.lt k hk
  | cell e av => obtain ⟨⟨u, h1, _⟩, _⟩ := h; exact h1.lt k hk
  | rcd e t vs => obtain ⟨⟨u, h1, _⟩, _⟩ := h; exact h1.lt k hk
  | map _ _ tk te l f =>
    obtain ⟨⟨g, rfl, es, h1, _⟩, _⟩ := h
    obtain rfl := blk_some hk
    exact (Array.getElem?_eq_some_iff.1 h1).1
  | iter _ _ tk te l f =>
    obtain ⟨⟨r, rfl, h1⟩, _⟩ := h
    obtain rfl := blk_some hk
    exact h1.lt
  | deep e t c hole => obtain ⟨⟨us, cs, _, h1, _⟩, _⟩ := h; exact h1.lt k hk
  | fam e t xss =>
    obtain ⟨⟨us, rfl, h1, h2, _⟩, _⟩ := h
    obtain ⟨u, hu, hb⟩ := blk_tuple.1 hk
    obtain ⟨i, hi, rfl⟩ := List.getElem_of_mem hu
    obtain ⟨cs, h3, _⟩ := h2 i us[i] _ (List.getElem?_eq_getElem hi) (List.getElem?_eq_getElem (by omega))
    exact h3.lt k (.inl hb)
  | dead => cases hl

/-- An object lives on where its block, and what is read, stays. -/
theorem ObOk.kept {S S' : Nat → Prop} {w w' : World} {γ γ' : Nat → Value} {hv : Value} {o : Ob} {row : Option Nat} (hs : ∀ b, S b → S' b) (ha : Agree S w w') (hg : w.grownBy w' row) (hne : ∀ k, Blk hv k → some k ≠ row)
    (hS : ∀ k, Blk hv k → S' k → S k) (hγ : ∀ s, o.has s = true → γ' s = γ s) (h : ObOk S w γ hv o) : ObOk S' w' γ' hv o := by
  have hk := hne
  cases o with
  | row e t xs fro =>
    obtain ⟨⟨cs, h1, h2⟩, h3⟩ := h
    exact ⟨⟨cs, h1.kept hg hk, h2.mono hs ha⟩, fun k hk => ⟨fun h => (h3 k hk).1 (hS k hk h), fun h => hs _ ((h3 k hk).2 h)⟩⟩
  | cell e av =>
    obtain ⟨⟨u, h1, h2, h4⟩, h3⟩ := h
    exact ⟨⟨u, h1.kept hg hk, h2.mono hs ha (fun s h => hγ s (by simpa [Ob.has] using h)), h4⟩, fun k hk h => h3 k hk (hS k hk h)⟩
  | rcd e t vs =>
    obtain ⟨⟨u, h1, h2, h4⟩, h3⟩ := h
    exact ⟨⟨u, h1.kept hg hk, h2.mono hs ha (fun s h => hγ s (by simpa [Ob.has] using h)), h4⟩, fun k hk h => h3 k hk (hS k hk h)⟩
  | map _ _ tk te l f =>
    obtain ⟨⟨g, rfl, es, h1, h2⟩, h3⟩ := h
    refine ⟨⟨g, rfl, es, ?_, h2.mono hs ha⟩, fun k hk => ⟨fun h => (h3 k hk).1 (hS k hk h), fun h => hs _ ((h3 k hk).2 h)⟩⟩
    rw [hg.block g (Array.getElem?_eq_some_iff.1 h1).1 (hne g blk_at)]
    exact h1
  | iter _ _ tk te l f =>
    obtain ⟨⟨r, rfl, h1⟩, h3⟩ := h
    exact ⟨⟨r, rfl, h1.mono hs ha (hg.block r h1.lt (hne r blk_at))⟩, fun k hk h => h3 k hk (hS k hk h)⟩
  | deep e t c hole =>
    obtain ⟨⟨us, cs, h0, h1, h2⟩, h3⟩ := h
    refine ⟨⟨us, cs, ?_, h1.kept hg hk, ?_⟩, fun k hk h => h3 k hk (hS k hk h)⟩
    · rw [hγ c (by simp [Ob.has])]; exact h0
    · rcases hole with _ | ⟨i, _ | d⟩
      · exact h2
      · exact h2
      · have e1 : γ' d = γ d := hγ d (by simp [Ob.has])
        simp only [HoleOk] at h2 ⊢
        rw [e1]; exact h2
  | fam e t xss =>
    obtain ⟨⟨us, rfl, h1, h2, h4⟩, h3⟩ := h
    refine ⟨⟨us, rfl, h1, fun i u xs hu hx => ?_, h4⟩, fun k hk h => h3 k hk (hS k hk h)⟩
    obtain ⟨cs, g1, g2⟩ := h2 i u xs hu hx
    exact ⟨cs, g1.kept hg (fun k hk => hne k (blk_tuple.2 ⟨u, List.mem_of_getElem? hu, g1.blk.1 hk⟩)), g2.mono hs ha⟩
  | dead => trivial

/-- The world has grown by memory alone that nobody here knows. -/
theorem Core.grown {w0 : World} {M S0 S : Nat → Prop} {γ : Nat → Value} {st : St} {a : Act} {w w' : World} (h : Core w0 M S0 S γ st a w) (hb : Below w.heap.size w w') : Core w0 M S0 S γ st a w' := by
  have hag : Agree S w w' := fun b hS => hb.block b (h.slt b hS)
  have hg : w.grownBy w' none := ⟨hb.os, hb.tape, hb.output, hb.size, fun k hk _ => hb.block k hk⟩
  refine ⟨hb.os.trans h.os, hb.tape.trans h.tape, hb.output.trans h.output, Nat.le_trans h.size hb.size, fun b h1 h2 => (hb.block b (Nat.lt_of_lt_of_le h1 h.size)).trans (h.old b h1 h2), h.s0, h.sold, fun b hS => Nat.lt_of_lt_of_le (h.slt b hS) hb.size, ?_, ?_, h.dis, h.defers, h.nt, fun i av hi => ⟨(h.fixs i av hi).1, (h.fixs i av hi).2.mono (fun _ h => h) hag (fun _ _ => rfl)⟩⟩
  · exact fun i av hi => (h.slot i av hi).mono (fun _ h => h) hag (fun _ _ => rfl)
  · exact fun s o hs => ⟨(h.obj s o hs).1.kept (fun _ h => h) hag hg (by simp) (fun _ _ h => h) (fun _ _ => rfl), (h.obj s o hs).2⟩
theorem Sat.grown {w0 : World} {M S0 : Nat → Prop} {st : St} {a : Act} {w w' : World} (h : Sat w0 M S0 st a w) (hb : Below w.heap.size w w') : Sat w0 M S0 st a w' := by
  obtain ⟨S, γ, h⟩ := h
  exact ⟨S, γ, h.grown hb⟩

/-- A slot is set. -/
theorem Core.put {w0 : World} {M S0 S : Nat → Prop} {γ : Nat → Value} {st : St} {a : Act} {w : World} (h : Core w0 M S0 S γ st a w) {d : Nat} (hd0 : st.ok d = true) {av : AV} {v : Value} (hv : Match S w γ av v) :
    Core w0 M S0 S γ { st with slots := (d, av) :: st.slots } (a.put (some d) v) w := by
  simp only [St.ok, Bool.and_eq_true, decide_eq_true_eq] at hd0
  obtain ⟨hd, hfx⟩ := hd0
  refine ⟨h.os, h.tape, h.output, h.size, h.old, h.s0, h.sold, h.slt, ?_, h.obj, h.dis, h.defers, by simpa [Act.put] using h.nt, ?_⟩
  intro i av' hi
  simp only [get] at hi
  split at hi
  · rename_i e
    subst e
    have e : av = av' := by simpa using hi
    subst e
    have hsz : i < a.tmps.size := by rw [h.nt]; exact hd
    simpa [Act.put, Array.getD_eq_getD_getElem?, Array.getElem?_setIfInBounds, hsz] using hv
  · rename_i e
    have := h.slot i av' hi
    have hne : d ≠ i := fun h => e h.symm
    simpa [Act.put, Array.getD_eq_getD_getElem?, Array.getElem?_setIfInBounds, hne] using this
  intro i av' hi
  refine ⟨(h.fixs i av' hi).1, ?_⟩
  have hne : d ≠ i := by
    rintro rfl
    have hi : get st.fix d = some av' := hi
    rw [hi] at hfx
    cases hfx
  have := (h.fixs i av' hi).2
  simpa [Act.put, Array.getD_eq_getD_getElem?, Array.getElem?_setIfInBounds, hne] using this
end Go.Abs
