/- Part of the proof of the law's row: YtnoeomlanbdjeaaAbsA. -/
import Derived.Below
import Derived.Maps.AppendAt
import Derived.OwnWalk
import Derived.Laws.OwnMore
import Derived.Laws.MakeOwn
import Derived.Deep.Quiet
import Derived.WalkKit
set_option linter.all false
set_option linter.unusedVariables false
set_option linter.unusedSimpArgs false
namespace Go.Abs

/-- Types of plain data. -/
inductive Ty where
  | int (k : IntKind)
  | bool
  | str
  | st (fs : List Ty)
  | sl (e : TypeId) (t : Ty)
  /-- a map that is written no more -/
  | map (k e : TypeId) (tk te : Ty)
  /-- an array whose elements are found by number -/
  | arr (n : Nat) (t : Ty)
  /-- a slice of which more can be read than its length says -/
  | len (e : TypeId) (t : Ty)
  /-- one cell of which nothing is known -/
  | opq (z : Nat)

/-- The zero value of a cell of which nothing is known. -/
def opqZero : Nat → Value
  | 0 => .pointer none
  | 1 => .nilIface
  | 2 => .map none
  | _ => .nilFunc

theorem opqZero_one (z : Nat) : (opqZero z).oneCell' = true := by unfold opqZero; split <;> rfl

mutual
/-- What a value of a type is, without memory. -/
@[reducible] def Ty.Den : Ty → Type
  | .int _ => Int
  | .bool => Bool
  | .str => ByteArray
  | .st fs => Ty.Dens fs
  | .sl _ t => List t.Den
  | .map _ _ tk te => List (tk.Den × te.Den)
  | .arr _ t => List t.Den
  | .len _ t => List t.Den × Nat
  | .opq _ => Unit
@[reducible] def Ty.Dens : List Ty → Type
  | [] => Unit
  | t :: ts => t.Den × Ty.Dens ts
end

mutual
/-- How many cells. -/
def Ty.sz : Ty → Nat
  | .int _ => 1
  | .bool => 1
  | .str => 1
  | .st fs => Ty.szs fs
  | .sl _ _ => 1
  | .map _ _ _ _ => 1
  | .arr n t => n * t.sz
  | .len _ _ => 1
  | .opq _ => 1
def Ty.szs : List Ty → Nat
  | [] => 0
  | t :: ts => t.sz + Ty.szs ts
end

mutual
/-- The zero value. -/
def Ty.dflt : (t : Ty) → t.Den
  | .int _ => (0 : Int)
  | .bool => false
  | .str => (⟨#[]⟩ : ByteArray)
  | .st fs => Ty.dflts fs
  | .sl _ _ => ([] : List _)
  | .map _ _ _ _ => ([] : List _)
  | .arr n t => List.replicate n t.dflt
  | .len _ _ => (([] : List _), (0 : Nat))
  | .opq _ => ()
def Ty.dflts : (ts : List Ty) → Ty.Dens ts
  | [] => ()
  | t :: ts => (t.dflt, Ty.dflts ts)
end

/-- The value that a struct's, an array's or another value's cells make. -/
def toVal : Ty → List Value → Value
  | .st _, cs => .agg cs.toArray
  | .arr _ _, cs => .agg cs.toArray
  | _, cs => cs.headD undef
mutual
/-- The cells 'cs' read as 'x' in 'w', all memory that is looked into lying in 'S'. -/
def Rep (S : Nat → Prop) (w : World) : (t : Ty) → t.Den → List Value → Prop
  | .int k, n, cs => cs = [.int k n]
  | .bool, b, cs => cs = [.bool b]
  | .str, s, cs => cs = [.string s]
  | .st fs, x, cs => Reps S w fs x cs
  | .sl _ t, xs, cs => ∃ A c, cs = [.slice A (List.length xs) c] ∧ (List.length xs ≤ c ∧ c ≤ maxLen) ∧
      (0 < List.length xs → ∃ ad : Addr, A = some ad ∧ ad.spot = none ∧ S ad.block ∧
        ∀ (j : Nat) (x : t.Den), @getElem? (List t.Den) Nat t.Den _ _ xs j = some x → ∃ us : List Value, us.length = t.sz ∧ (∀ k v, us[k]? = some v → w.cell? ⟨ad.block, ad.off + (j * t.sz + k), none⟩ = some v) ∧ Rep S w t x us)
  | .map _ _ tk te, l, cs => ∃ m, cs = [.map m] ∧ (m = none → List.length l = 0) ∧ ∀ b, m = some b → S b ∧ ∃ es : Array MapEntry, w.heap[b]? = some (.map es es.size) ∧ es.size = List.length l ∧
      ∀ (i : Nat) (x : tk.Den × te.Den), @getElem? (List (tk.Den × te.Den)) Nat (tk.Den × te.Den) _ _ l i = some x → ∃ e : MapEntry, es[i]? = some e ∧ e.born = i ∧ (∃ ck : List Value, Rep S w tk x.1 ck ∧ e.key = toVal tk ck) ∧ ∃ cv : List Value, Rep S w te x.2 cv ∧ e.val = toVal te cv
  | .arr n t, xs, cs => List.length xs = n ∧ cs.length = n * t.sz ∧ ∀ (j : Nat) (x : t.Den), @getElem? (List t.Den) Nat t.Den _ _ xs j = some x → Rep S w t x ((cs.drop (j * t.sz)).take t.sz)
  | .len _ t, xs, cs => xs.2 ≤ List.length xs.1 ∧ ∃ A c, cs = [.slice A xs.2 c] ∧ (List.length xs.1 ≤ c ∧ c ≤ maxLen) ∧
      (0 < List.length xs.1 → ∃ ad : Addr, A = some ad ∧ ad.spot = none ∧ S ad.block ∧
        ∀ (j : Nat) (x : t.Den), @getElem? (List t.Den) Nat t.Den _ _ xs.1 j = some x → ∃ us : List Value, us.length = t.sz ∧ (∀ k v, us[k]? = some v → w.cell? ⟨ad.block, ad.off + (j * t.sz + k), none⟩ = some v) ∧ Rep S w t x us)
  | .opq _, _, cs => ∃ v : Value, cs = [v] ∧ v.oneCell' = true
def Reps (S : Nat → Prop) (w : World) : (fs : List Ty) → Ty.Dens fs → List Value → Prop
  | [], _, cs => cs = []
  | t :: ts, x, cs => ∃ c1 c2, cs = c1 ++ c2 ∧ Rep S w t x.1 c1 ∧ Reps S w ts x.2 c2
end

mutual
theorem Rep.len {S : Nat → Prop} {w : World} : ∀ {t : Ty} {x : t.Den} {cs : List Value}, Rep S w t x cs → cs.length = t.sz
  | .int _, _, _, h => by simp only [Rep] at h; subst h; rfl
  | .bool, _, _, h => by simp only [Rep] at h; subst h; rfl
  | .str, _, _, h => by simp only [Rep] at h; subst h; rfl
  | .st _, _, _, h => by simp only [Rep] at h; simpa [Ty.sz] using Reps.len h
  | .sl _ _, _, _, h => by simp only [Rep] at h; obtain ⟨A, c, rfl, _⟩ := h; rfl
  | .map _ _ _ _, _, _, h => by simp only [Rep] at h; obtain ⟨m, rfl, _⟩ := h; rfl
  | .arr _ _, _, _, h => by simp only [Rep] at h; exact h.2.1
  | .len _ _, _, _, h => by simp only [Rep] at h; obtain ⟨_, A, c, rfl, _⟩ := h; rfl
  | .opq _, _, _, h => by simp only [Rep] at h; obtain ⟨v, rfl, _⟩ := h; rfl
theorem Reps.len {S : Nat → Prop} {w : World} : ∀ {fs : List Ty} {x : Ty.Dens fs} {cs : List Value}, Reps S w fs x cs → cs.length = Ty.szs fs
  | [], _, _, h => by simp only [Reps] at h; subst h; rfl
  | _ :: _, _, _, h => by
    simp only [Reps] at h
    obtain ⟨c1, c2, rfl, h1, h2⟩ := h
    simp [Ty.szs, Rep.len h1, Reps.len h2]
end

/-- Two worlds that agree on 'S'. -/
def Agree (S : Nat → Prop) (w w' : World) : Prop := ∀ b, S b → w'.heap[b]? = w.heap[b]?

mutual
theorem Rep.mono {S S' : Nat → Prop} {w w' : World} (hs : ∀ b, S b → S' b) (ha : Agree S w w') : ∀ {t : Ty} {x : t.Den} {cs : List Value}, Rep S w t x cs → Rep S' w' t x cs
  | .int _, _, _, h => by simpa only [Rep] using h
  | .bool, _, _, h => by simpa only [Rep] using h
  | .str, _, _, h => by simpa only [Rep] using h
  | .st _, _, _, h => by simp only [Rep] at h ⊢; exact Reps.mono hs ha h
  | .sl _ t, _, _, h => by
    simp only [Rep] at h ⊢
    obtain ⟨A, c, e, hl, hc⟩ := h
    refine ⟨A, c, e, hl, fun h0 => ?_⟩
    obtain ⟨ad, hA, hsp, hS, hx⟩ := hc h0
    refine ⟨ad, hA, hsp, hs _ hS, fun j x hj => ?_⟩
    obtain ⟨us, hu, hcell, hr⟩ := hx j x hj
    exact ⟨us, hu, fun k v hk => (World.cell?_of_block (a := ⟨ad.block, _, none⟩) (ha _ hS)).trans (hcell k v hk), Rep.mono hs ha hr⟩
  | .map _ _ tk te, _, _, h => by
    simp only [Rep] at h ⊢
    obtain ⟨m, e, h0, h1⟩ := h
    refine ⟨m, e, h0, fun b hb => ?_⟩
    obtain ⟨hS, es, h2, h3, h4⟩ := h1 b hb
    refine ⟨hs _ hS, es, (ha _ hS).trans h2, h3, fun i x hi => ?_⟩
    obtain ⟨e, g1, g2, ⟨ck, g3, g4⟩, cv, g5, g6⟩ := h4 i x hi
    exact ⟨e, g1, g2, ⟨ck, Rep.mono hs ha g3, g4⟩, cv, Rep.mono hs ha g5, g6⟩
  | .arr _ t, _, _, h => by
    simp only [Rep] at h ⊢
    exact ⟨h.1, h.2.1, fun j x hj => Rep.mono hs ha (h.2.2 j x hj)⟩
  | .len _ t, _, _, h => by
    simp only [Rep] at h ⊢
    obtain ⟨hn, A, c, e, hl, hc⟩ := h
    refine ⟨hn, A, c, e, hl, fun h0 => ?_⟩
    obtain ⟨ad, hA, hsp, hS, hx⟩ := hc h0
    refine ⟨ad, hA, hsp, hs _ hS, fun j x hj => ?_⟩
    obtain ⟨us, hu, hcell, hr⟩ := hx j x hj
    exact ⟨us, hu, fun k v hk => (World.cell?_of_block (a := ⟨ad.block, _, none⟩) (ha _ hS)).trans (hcell k v hk), Rep.mono hs ha hr⟩
  | .opq _, _, _, h => by simpa only [Rep] using h
theorem Reps.mono {S S' : Nat → Prop} {w w' : World} (hs : ∀ b, S b → S' b) (ha : Agree S w w') : ∀ {fs : List Ty} {x : Ty.Dens fs} {cs : List Value}, Reps S w fs x cs → Reps S' w' fs x cs
  | [], _, _, h => by simpa only [Reps] using h
  | _ :: _, _, _, h => by
    simp only [Reps] at h ⊢
    obtain ⟨c1, c2, e, h1, h2⟩ := h
    exact ⟨c1, c2, e, Rep.mono hs ha h1, Reps.mono hs ha h2⟩
end

mutual
/-- No cell of data is a whole or a tuple. -/
theorem Rep.one {S : Nat → Prop} {w : World} : ∀ {t : Ty} {x : t.Den} {cs : List Value}, Rep S w t x cs → ∀ u ∈ cs, u.oneCell' = true
  | .int _, _, _, h => by simp only [Rep] at h; subst h; simp [Value.oneCell']
  | .bool, _, _, h => by simp only [Rep] at h; subst h; simp [Value.oneCell']
  | .str, _, _, h => by simp only [Rep] at h; subst h; simp [Value.oneCell']
  | .st _, _, _, h => by simp only [Rep] at h; exact Reps.one h
  | .sl _ _, _, _, h => by simp only [Rep] at h; obtain ⟨A, c, rfl, _⟩ := h; simp [Value.oneCell']
  | .map _ _ _ _, _, _, h => by simp only [Rep] at h; obtain ⟨m, rfl, _⟩ := h; simp [Value.oneCell']
  | .len _ _, _, _, h => by simp only [Rep] at h; obtain ⟨_, A, c, rfl, _⟩ := h; simp [Value.oneCell']
  | .opq _, _, _, h => by simp only [Rep] at h; obtain ⟨v, rfl, h⟩ := h; simpa using h
  | .arr n t, xs, cs, h => by
    simp only [Rep] at h
    obtain ⟨h1, h2, h3⟩ := h
    intro u hu
    obtain ⟨i, hi, rfl⟩ := List.getElem_of_mem hu
    have hz : 0 < t.sz := Nat.pos_of_ne_zero fun e => by rw [e] at h2; omega
    have hq : i / t.sz < n := by rw [Nat.div_lt_iff_lt_mul hz]; omega
    have hx : i / t.sz < List.length xs := by omega
    refine Rep.one (h3 (i / t.sz) _ (List.getElem?_eq_getElem hx)) _ ?_
    have hm : i % t.sz < t.sz := Nat.mod_lt _ hz
    have he : i / t.sz * t.sz + i % t.sz = i := by rw [Nat.mul_comm]; exact Nat.div_add_mod i t.sz
    have : cs[i] = ((cs.drop (i / t.sz * t.sz)).take t.sz)[i % t.sz]'(by rw [List.length_take, List.length_drop]; omega) := by
      rw [List.getElem_take, List.getElem_drop]
      congr 1
      exact he.symm
    rw [this]
    exact List.getElem_mem _
theorem Reps.one {S : Nat → Prop} {w : World} : ∀ {fs : List Ty} {x : Ty.Dens fs} {cs : List Value}, Reps S w fs x cs → ∀ u ∈ cs, u.oneCell' = true
  | [], _, _, h => by simp only [Reps] at h; subst h; simp
  | _ :: _, _, _, h => by
    simp only [Reps] at h
    obtain ⟨c1, c2, rfl, h1, h2⟩ := h
    intro u hu
    rcases List.mem_append.1 hu with hu | hu
    · exact Rep.one h1 u hu
    · exact Reps.one h2 u hu
end

theorem Rep.cells {S : Nat → Prop} {w : World} {t : Ty} {x : t.Den} {cs : List Value} (h : Rep S w t x cs) : (toVal t cs).cells.toList = cs := by
  cases t with
  | st fs => simp [toVal, Value.cells]
  | int k => simp only [Rep] at h; subst h; simp [toVal, Value.cells]
  | bool => simp only [Rep] at h; subst h; simp [toVal, Value.cells]
  | str => simp only [Rep] at h; subst h; simp [toVal, Value.cells]
  | sl e t => simp only [Rep] at h; obtain ⟨A, c, rfl, _⟩ := h; simp [toVal, Value.cells]
  | map k e tk te => simp only [Rep] at h; obtain ⟨m, rfl, _⟩ := h; simp [toVal, Value.cells]
  | arr n t => simp [toVal, Value.cells]
  | len e t => simp only [Rep] at h; obtain ⟨_, A, c, rfl, _⟩ := h; simp [toVal, Value.cells]
  | opq z =>
    simp only [Rep] at h
    obtain ⟨v, rfl, h⟩ := h
    cases v <;> first | (simp [toVal, Value.cells]; done) | (simp [Value.oneCell'] at h; done)

/-- A map's entries, in the order of their making. -/
def EntOk (S : Nat → Prop) (w : World) (tk te : Ty) (l : List (tk.Den × te.Den)) (es : Array MapEntry) : Prop :=
  es.size = l.length ∧ ∀ (i : Nat) (x : tk.Den × te.Den), l[i]? = some x → ∃ e : MapEntry, es[i]? = some e ∧ e.born = i ∧ (∃ ck : List Value, Rep S w tk x.1 ck ∧ e.key = toVal tk ck) ∧ ∃ cv : List Value, Rep S w te x.2 cv ∧ e.val = toVal te cv
theorem EntOk.mono {S S' : Nat → Prop} {w w' : World} (hs : ∀ b, S b → S' b) (ha : Agree S w w') {tk te : Ty} {l : List (tk.Den × te.Den)} {es : Array MapEntry} (h : EntOk S w tk te l es) : EntOk S' w' tk te l es :=
  ⟨h.1, fun i x hi => by
    obtain ⟨e, g1, g2, ⟨ck, g3, g4⟩, cv, g5, g6⟩ := h.2 i x hi
    exact ⟨e, g1, g2, ⟨ck, g3.mono hs ha, g4⟩, cv, g5.mono hs ha, g6⟩⟩
/-- These of its entries are left, in some order. -/
def Rem {α : Type} (l : List α) (seen : List Nat) (rem : List α) : Prop := ∃ idx : List Nat, idx.Nodup ∧ (∀ i, i ∈ idx ↔ (i < l.length ∧ i ∉ seen)) ∧ rem.map some = idx.map fun i => l[i]?
theorem rep_map {S : Nat → Prop} {w : World} {k e : TypeId} {tk te : Ty} {l : List (tk.Den × te.Den)} {cs : List Value} :
    Rep S w (.map k e tk te) l cs ↔ ∃ m, cs = [.map m] ∧ (m = none → l.length = 0) ∧ ∀ b, m = some b → S b ∧ ∃ es : Array MapEntry, w.heap[b]? = some (.map es es.size) ∧ EntOk S w tk te l es := by
  simp only [Rep, EntOk]
/-- A row of elements: the cells of each. -/
def RepRow (S : Nat → Prop) (w : World) (t : Ty) (xs : List t.Den) (cs : List Value) : Prop :=
  cs.length = xs.length * t.sz ∧ ∀ j x, xs[j]? = some x → Rep S w t x ((cs.drop (j * t.sz)).take t.sz)
theorem RepRow.mono {S S' : Nat → Prop} {w w' : World} (hs : ∀ b, S b → S' b) (ha : Agree S w w') {t : Ty} {xs : List t.Den} {cs : List Value} (h : RepRow S w t xs cs) : RepRow S' w' t xs cs :=
  ⟨h.1, fun j x hj => (h.2 j x hj).mono hs ha⟩
end Go.Abs
