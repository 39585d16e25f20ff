/- Part of the proof of the law's row: YtaghpbhnclclaaaDoorAbsA. -/
import Derived.Below
import Derived.Maps.AppendAt
import Derived.OwnWalk
import Derived.Laws.OwnMore
import Derived.Laws.MakeOwn
import Derived.Deep.Quiet
import Derived.WalkKit
set_option linter.all false
set_option linter.unusedVariables false
set_option linter.unusedSimpArgs false
namespace Go.Abs

/-- Types of plain data. -/
inductive Ty where
  | int (k : IntKind)
  | bool
  | str
  | st (fs : List Ty)
  | sl (e : TypeId) (t : Ty)

mutual
/-- What a value of a type is, without memory. -/
@[reducible] def Ty.Den : Ty → Type
  | .int _ => Int
  | .bool => Bool
  | .str => ByteArray
  | .st fs => Ty.Dens fs
  | .sl _ t => List t.Den
@[reducible] def Ty.Dens : List Ty → Type
  | [] => Unit
  | t :: ts => t.Den × Ty.Dens ts
end

mutual
/-- How many cells. -/
def Ty.sz : Ty → Nat
  | .int _ => 1
  | .bool => 1
  | .str => 1
  | .st fs => Ty.szs fs
  | .sl _ _ => 1
def Ty.szs : List Ty → Nat
  | [] => 0
  | t :: ts => t.sz + Ty.szs ts
end

mutual
/-- The zero value. -/
def Ty.dflt : (t : Ty) → t.Den
  | .int _ => (0 : Int)
  | .bool => false
  | .str => (⟨#[]⟩ : ByteArray)
  | .st fs => Ty.dflts fs
  | .sl _ _ => ([] : List _)
def Ty.dflts : (ts : List Ty) → Ty.Dens ts
  | [] => ()
  | t :: ts => (t.dflt, Ty.dflts ts)
end

mutual
/-- The cells 'cs' read as 'x' in 'w', all memory that is looked into lying in 'S'. -/
def Rep (S : Nat → Prop) (w : World) : (t : Ty) → t.Den → List Value → Prop
  | .int k, n, cs => cs = [.int k n]
  | .bool, b, cs => cs = [.bool b]
  | .str, s, cs => cs = [.string s]
  | .st fs, x, cs => Reps S w fs x cs
  | .sl _ t, xs, cs => ∃ A c, cs = [.slice A (List.length xs) c] ∧ (List.length xs ≤ c ∧ c ≤ maxLen) ∧
      (0 < List.length xs → ∃ ad : Addr, A = some ad ∧ ad.spot = none ∧ S ad.block ∧
        ∀ (j : Nat) (x : t.Den), @getElem? (List t.Den) Nat t.Den _ _ xs j = some x → ∃ us : List Value, us.length = t.sz ∧ (∀ k v, us[k]? = some v → w.cell? ⟨ad.block, ad.off + (j * t.sz + k), none⟩ = some v) ∧ Rep S w t x us)
def Reps (S : Nat → Prop) (w : World) : (fs : List Ty) → Ty.Dens fs → List Value → Prop
  | [], _, cs => cs = []
  | t :: ts, x, cs => ∃ c1 c2, cs = c1 ++ c2 ∧ Rep S w t x.1 c1 ∧ Reps S w ts x.2 c2
end

mutual
theorem Rep.len {S : Nat → Prop} {w : World} : ∀ {t : Ty} {x : t.Den} {cs : List Value}, Rep S w t x cs → cs.length = t.sz
  | .int _, _, _, h => by simp only [Rep] at h; subst h; rfl
  | .bool, _, _, h => by simp only [Rep] at h; subst h; rfl
  | .str, _, _, h => by simp only [Rep] at h; subst h; rfl
  | .st _, _, _, h => by simp only [Rep] at h; simpa [Ty.sz] using Reps.len h
  | .sl _ _, _, _, h => by simp only [Rep] at h; obtain ⟨A, c, rfl, _⟩ := h; rfl
theorem Reps.len {S : Nat → Prop} {w : World} : ∀ {fs : List Ty} {x : Ty.Dens fs} {cs : List Value}, Reps S w fs x cs → cs.length = Ty.szs fs
  | [], _, _, h => by simp only [Reps] at h; subst h; rfl
  | _ :: _, _, _, h => by
    simp only [Reps] at h
    obtain ⟨c1, c2, rfl, h1, h2⟩ := h
    simp [Ty.szs, Rep.len h1, Reps.len h2]
end

/-- Two worlds that agree on 'S'. -/
def Agree (S : Nat → Prop) (w w' : World) : Prop := ∀ b, S b → w'.heap[b]? = w.heap[b]?

mutual
theorem Rep.mono {S S' : Nat → Prop} {w w' : World} (hs : ∀ b, S b → S' b) (ha : Agree S w w') : ∀ {t : Ty} {x : t.Den} {cs : List Value}, Rep S w t x cs → Rep S' w' t x cs
  | .int _, _, _, h => by simpa only [Rep] using h
  | .bool, _, _, h => by simpa only [Rep] using h
  | .str, _, _, h => by simpa only [Rep] using h
  | .st _, _, _, h => by simp only [Rep] at h ⊢; exact Reps.mono hs ha h
  | .sl _ t, _, _, h => by
    simp only [Rep] at h ⊢
    obtain ⟨A, c, e, hl, hc⟩ := h
    refine ⟨A, c, e, hl, fun h0 => ?_⟩
    obtain ⟨ad, hA, hsp, hS, hx⟩ := hc h0
    refine ⟨ad, hA, hsp, hs _ hS, fun j x hj => ?_⟩
    obtain ⟨us, hu, hcell, hr⟩ := hx j x hj
    exact ⟨us, hu, fun k v hk => (World.cell?_of_block (a := ⟨ad.block, _, none⟩) (ha _ hS)).trans (hcell k v hk), Rep.mono hs ha hr⟩
theorem Reps.mono {S S' : Nat → Prop} {w w' : World} (hs : ∀ b, S b → S' b) (ha : Agree S w w') : ∀ {fs : List Ty} {x : Ty.Dens fs} {cs : List Value}, Reps S w fs x cs → Reps S' w' fs x cs
  | [], _, _, h => by simpa only [Reps] using h
  | _ :: _, _, _, h => by
    simp only [Reps] at h ⊢
    obtain ⟨c1, c2, e, h1, h2⟩ := h
    exact ⟨c1, c2, e, Rep.mono hs ha h1, Reps.mono hs ha h2⟩
end

mutual
/-- No cell of data is a whole or a tuple. -/
theorem Rep.one {S : Nat → Prop} {w : World} : ∀ {t : Ty} {x : t.Den} {cs : List Value}, Rep S w t x cs → ∀ u ∈ cs, u.oneCell' = true
  | .int _, _, _, h => by simp only [Rep] at h; subst h; simp [Value.oneCell']
  | .bool, _, _, h => by simp only [Rep] at h; subst h; simp [Value.oneCell']
  | .str, _, _, h => by simp only [Rep] at h; subst h; simp [Value.oneCell']
  | .st _, _, _, h => by simp only [Rep] at h; exact Reps.one h
  | .sl _ _, _, _, h => by simp only [Rep] at h; obtain ⟨A, c, rfl, _⟩ := h; simp [Value.oneCell']
theorem Reps.one {S : Nat → Prop} {w : World} : ∀ {fs : List Ty} {x : Ty.Dens fs} {cs : List Value}, Reps S w fs x cs → ∀ u ∈ cs, u.oneCell' = true
  | [], _, _, h => by simp only [Reps] at h; subst h; simp
  | _ :: _, _, _, h => by
    simp only [Reps] at h
    obtain ⟨c1, c2, rfl, h1, h2⟩ := h
    intro u hu
    rcases List.mem_append.1 hu with hu | hu
    · exact Rep.one h1 u hu
    · exact Reps.one h2 u hu
end

/-- The value that a struct's, an array's or another value's cells make. -/
def toVal : Ty → List Value → Value
  | .st _, cs => .agg cs.toArray
  | _, cs => cs.headD undef
theorem Rep.cells {S : Nat → Prop} {w : World} {t : Ty} {x : t.Den} {cs : List Value} (h : Rep S w t x cs) : (toVal t cs).cells.toList = cs := by
  cases t with
  | st fs => simp [toVal, Value.cells]
  | int k => simp only [Rep] at h; subst h; simp [toVal, Value.cells]
  | bool => simp only [Rep] at h; subst h; simp [toVal, Value.cells]
  | str => simp only [Rep] at h; subst h; simp [toVal, Value.cells]
  | sl e t => simp only [Rep] at h; obtain ⟨A, c, rfl, _⟩ := h; simp [toVal, Value.cells]

/-- A row of elements: the cells of each. -/
def RepRow (S : Nat → Prop) (w : World) (t : Ty) (xs : List t.Den) (cs : List Value) : Prop :=
  cs.length = xs.length * t.sz ∧ ∀ j x, xs[j]? = some x → Rep S w t x ((cs.drop (j * t.sz)).take t.sz)
theorem RepRow.mono {S S' : Nat → Prop} {w w' : World} (hs : ∀ b, S b → S' b) (ha : Agree S w w') {t : Ty} {xs : List t.Den} {cs : List Value} (h : RepRow S w t xs cs) : RepRow S' w' t xs cs :=
  ⟨h.1, fun j x hj => (h.2 j x hj).mono hs ha⟩
end Go.Abs
