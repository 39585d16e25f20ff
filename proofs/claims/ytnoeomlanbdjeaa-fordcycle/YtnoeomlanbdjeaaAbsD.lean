/- Part of the proof of the law's row: YtnoeomlanbdjeaaAbsD. -/
import Derived.Test.YtnoeomlanbdjeaaAbsC
import Derived.Deep.MidRow
import Derived.IntWalk
import Derived.ChangeKeysEq
set_option linter.all false
set_option linter.unusedVariables false
set_option linter.unusedSimpArgs false
namespace Go.Abs
open Go.RowKit

/-! ### Types: equality, casts -/
mutual
def Ty.beq : Ty → Ty → Bool
  | .int k, .int k' => k == k'
  | .bool, .bool => true
  | .str, .str => true
  | .st fs, .st fs' => Ty.beqs fs fs'
  | .sl e t, .sl e' t' => e == e' && Ty.beq t t'
  | .map k e tk te, .map k' e' tk' te' => (k == k' && e == e') && (Ty.beq tk tk' && Ty.beq te te')
  | .arr n t, .arr n' t' => n == n' && Ty.beq t t'
  | .len e t, .len e' t' => e == e' && Ty.beq t t'
  | .opq z, .opq z' => z == z'
  | _, _ => false
def Ty.beqs : List Ty → List Ty → Bool
  | [], [] => true
  | t :: ts, t' :: ts' => Ty.beq t t' && Ty.beqs ts ts'
  | _, _ => false
end
mutual
theorem Ty.eq_of_beq : ∀ {t t' : Ty}, Ty.beq t t' = true → t = t'
  | .int k, .int k', h => by simp only [Ty.beq, beq_iff_eq] at h; rw [h]
  | .bool, .bool, _ => rfl
  | .str, .str, _ => rfl
  | .st fs, .st fs', h => by simp only [Ty.beq] at h; rw [Ty.eq_of_beqs h]
  | .sl e t, .sl e' t', h => by
    simp only [Ty.beq, Bool.and_eq_true, beq_iff_eq] at h
    rw [h.1, Ty.eq_of_beq h.2]
  | .map k e tk te, .map k' e' tk' te', h => by
    simp only [Ty.beq, Bool.and_eq_true, beq_iff_eq] at h
    rw [h.1.1, h.1.2, Ty.eq_of_beq h.2.1, Ty.eq_of_beq h.2.2]
  | .arr n t, .arr n' t', h => by
    simp only [Ty.beq, Bool.and_eq_true, beq_iff_eq] at h
    rw [h.1, Ty.eq_of_beq h.2]
  | .len n t, .len n' t', h => by
    simp only [Ty.beq, Bool.and_eq_true, beq_iff_eq] at h
    rw [h.1, Ty.eq_of_beq h.2]
  | .opq z, .opq z', h => by simp only [Ty.beq, beq_iff_eq] at h; rw [h]
  | .int _, .bool, h | .int _, .str, h | .int _, .st _, h | .int _, .sl _ _, h | .int _, .map _ _ _ _, h | .int _, .arr _ _, h | .int _, .opq _, h | .int _, .len _ _, h => by simp [Ty.beq] at h
  | .bool, .int _, h | .bool, .str, h | .bool, .st _, h | .bool, .sl _ _, h | .bool, .map _ _ _ _, h | .bool, .arr _ _, h | .bool, .opq _, h | .bool, .len _ _, h => by simp [Ty.beq] at h
  | .str, .int _, h | .str, .bool, h | .str, .st _, h | .str, .sl _ _, h | .str, .map _ _ _ _, h | .str, .arr _ _, h | .str, .opq _, h | .str, .len _ _, h => by simp [Ty.beq] at h
  | .st _, .int _, h | .st _, .bool, h | .st _, .str, h | .st _, .sl _ _, h | .st _, .map _ _ _ _, h | .st _, .arr _ _, h | .st _, .opq _, h | .st _, .len _ _, h => by simp [Ty.beq] at h
  | .sl _ _, .int _, h | .sl _ _, .bool, h | .sl _ _, .str, h | .sl _ _, .st _, h | .sl _ _, .map _ _ _ _, h | .sl _ _, .arr _ _, h | .sl _ _, .opq _, h | .sl _ _, .len _ _, h => by simp [Ty.beq] at h
  | .map _ _ _ _, .int _, h | .map _ _ _ _, .bool, h | .map _ _ _ _, .str, h | .map _ _ _ _, .st _, h | .map _ _ _ _, .sl _ _, h | .map _ _ _ _, .arr _ _, h | .map _ _ _ _, .opq _, h | .map _ _ _ _, .len _ _, h => by simp [Ty.beq] at h
  | .arr _ _, .int _, h | .arr _ _, .bool, h | .arr _ _, .str, h | .arr _ _, .st _, h | .arr _ _, .sl _ _, h | .arr _ _, .map _ _ _ _, h | .arr _ _, .opq _, h | .arr _ _, .len _ _, h => by simp [Ty.beq] at h
  | .opq _, .int _, h | .opq _, .bool, h | .opq _, .str, h | .opq _, .st _, h | .opq _, .sl _ _, h | .opq _, .map _ _ _ _, h | .opq _, .arr _ _, h | .opq _, .len _ _, h => by simp [Ty.beq] at h
  | .len _ _, .int _, h | .len _ _, .bool, h | .len _ _, .str, h | .len _ _, .st _, h | .len _ _, .sl _ _, h | .len _ _, .map _ _ _ _, h | .len _ _, .arr _ _, h | .len _ _, .opq _, h => by simp [Ty.beq] at h
theorem Ty.eq_of_beqs : ∀ {ts ts' : List Ty}, Ty.beqs ts ts' = true → ts = ts'
  | [], [], _ => rfl
  | t :: ts, t' :: ts', h => by
    simp only [Ty.beqs, Bool.and_eq_true] at h
    rw [Ty.eq_of_beq h.1, Ty.eq_of_beqs h.2]
  | [], _ :: _, h => by simp [Ty.beqs] at h
  | _ :: _, [], h => by simp [Ty.beqs] at h
end
mutual
theorem Ty.beq_self : ∀ t : Ty, Ty.beq t t = true
  | .int _ => by simp [Ty.beq]
  | .bool => rfl
  | .str => rfl
  | .st fs => by simp [Ty.beq, Ty.beqs_self fs]
  | .sl _ t => by simp [Ty.beq, Ty.beq_self t]
  | .map _ _ tk te => by simp [Ty.beq, Ty.beq_self tk, Ty.beq_self te]
  | .arr _ t => by simp [Ty.beq, Ty.beq_self t]
  | .len _ t => by simp [Ty.beq, Ty.beq_self t]
  | .opq _ => by simp [Ty.beq]
theorem Ty.beqs_self : ∀ ts : List Ty, Ty.beqs ts ts = true
  | [] => rfl
  | t :: ts => by simp [Ty.beqs, Ty.beq_self t, Ty.beqs_self ts]
end
def Ty.cast (t t' : Ty) (x : t.Den) : Option t'.Den := if h : Ty.beq t t' = true then some (Ty.eq_of_beq h ▸ x) else none
theorem Ty.cast_some {t t' : Ty} {x : t.Den} {y : t'.Den} (h : Ty.cast t t' x = some y) : ∃ e : t = t', e ▸ x = y := by
  unfold Ty.cast at h
  split at h
  · rename_i hb; exact ⟨Ty.eq_of_beq hb, by simpa using h⟩
  · cases h

/-! ### Parts of data -/
mutual
def proj : (t : Ty) → t.Den → List Nat → Option (Sigma Ty.Den)
  | t, x, [] => some ⟨t, x⟩
  | .st fs, x, i :: p => projs fs x i p
  | .int _, _, _ :: _ => none
  | .bool, _, _ :: _ => none
  | .str, _, _ :: _ => none
  | .sl _ _, _, _ :: _ => none
  | .map _ _ _ _, _, _ :: _ => none
  | .arr _ t, x, i :: p => proj t (List.getD (α := t.Den) x i t.dflt) p
  | .opq _, _, _ :: _ => none
  | .len _ _, _, _ :: _ => none
def projs : (fs : List Ty) → Ty.Dens fs → Nat → List Nat → Option (Sigma Ty.Den)
  | [], _, _, _ => none
  | t :: _, x, 0, p => proj t x.1 p
  | _ :: ts, x, i + 1, p => projs ts x.2 i p
end
mutual
/-- A part is set. -/
def updp : (t : Ty) → t.Den → List Nat → Sigma Ty.Den → Option t.Den
  | t, _, [], y => Ty.cast y.1 t y.2
  | .st fs, x, i :: p, y => updps fs x i p y
  | .int _, _, _ :: _, _ => none
  | .bool, _, _ :: _, _ => none
  | .str, _, _ :: _, _ => none
  | .sl _ _, _, _ :: _, _ => none
  | .map _ _ _ _, _, _ :: _, _ => none
  | .arr _ t, x, i :: p, y => (updp t (List.getD (α := t.Den) x i t.dflt) p y).map fun z => List.set (α := t.Den) x i z
  | .opq _, _, _ :: _, _ => none
  | .len _ _, _, _ :: _, _ => none
def updps : (fs : List Ty) → Ty.Dens fs → Nat → List Nat → Sigma Ty.Den → Option (Ty.Dens fs)
  | [], _, _, _, _ => none
  | t :: _, x, 0, p, y => (updp t x.1 p y).map fun z => (z, x.2)
  | _ :: ts, x, i + 1, p, y => (updps ts x.2 i p y).map fun z => (x.1, z)
end
mutual
def Ty.sub : Ty → List Nat → Option Ty
  | t, [] => some t
  | .st fs, i :: p => Ty.subs fs i p
  | .int _, _ :: _ => none
  | .bool, _ :: _ => none
  | .str, _ :: _ => none
  | .sl _ _, _ :: _ => none
  | .map _ _ _ _, _ :: _ => none
  | .arr _ t, _ :: p => t.sub p
  | .opq _, _ :: _ => none
  | .len _ _, _ :: _ => none
def Ty.subs : List Ty → Nat → List Nat → Option Ty
  | [], _, _ => none
  | t :: _, 0, p => t.sub p
  | _ :: ts, i + 1, p => Ty.subs ts i p
end
mutual
/-- What must hold that a path stays in the arrays it passes. -/
def Ty.inR : Ty → List Nat → List Prop
  | .st fs, i :: p => Ty.inRs fs i p
  | .arr n t, i :: p => (i < n) :: t.inR p
  | _, _ => []
def Ty.inRs : List Ty → Nat → List Nat → List Prop
  | [], _, _ => []
  | t :: _, 0, p => t.inR p
  | _ :: ts, i + 1, p => Ty.inRs ts i p
end
theorem inR_nil (t : Ty) : t.inR [] = [] := by cases t <;> rfl
theorem inRs_nil : ∀ (ts : List Ty) (i : Nat), Ty.inRs ts i [] = []
  | [], _ => rfl
  | t :: _, 0 => inR_nil t
  | _ :: ts, i + 1 => inRs_nil ts i
mutual
theorem proj_sub : ∀ {t : Ty} {x : t.Den} {p : List Nat} {y : Sigma Ty.Den}, proj t x p = some y → t.sub p = some y.1
  | t, x, [], y, hp => by
    have e : (⟨t, x⟩ : Sigma Ty.Den) = y := by cases t <;> simpa [proj] using hp
    subst e
    cases t <;> rfl
  | .st fs, x, i :: p, y, hp => by
    simp only [proj] at hp
    simp only [Ty.sub]
    exact projs_sub hp
  | .arr n t, x, i :: p, y, hp => by
    simp only [proj] at hp
    simp only [Ty.sub]
    exact proj_sub hp
  | .int _, _, _ :: _, _, hp => by simp [proj] at hp
  | .bool, _, _ :: _, _, hp => by simp [proj] at hp
  | .str, _, _ :: _, _, hp => by simp [proj] at hp
  | .sl _ _, _, _ :: _, _, hp => by simp [proj] at hp
  | .map _ _ _ _, _, _ :: _, _, hp => by simp [proj] at hp
  | .opq _, _, _ :: _, _, hp => by simp [proj] at hp
  | .len _ _, _, _ :: _, _, hp => by simp [proj] at hp
theorem projs_sub : ∀ {fs : List Ty} {x : Ty.Dens fs} {i : Nat} {p : List Nat} {y : Sigma Ty.Den}, projs fs x i p = some y → Ty.subs fs i p = some y.1
  | [], _, _, _, _, hp => by simp [projs] at hp
  | t :: ts, x, 0, p, y, hp => by
    simp only [projs] at hp
    simp only [Ty.subs]
    exact proj_sub hp
  | t :: ts, x, i + 1, p, y, hp => by
    simp only [projs] at hp
    simp only [Ty.subs]
    exact projs_sub hp
end
theorem arr_fit {i n z : Nat} (h : i < n) : i * z + z ≤ n * z := by
  have := Nat.mul_le_mul_right z (Nat.succ_le_of_lt h)
  rw [Nat.succ_mul] at this
  exact this
theorem arr_get {α : Type _} {xs : List α} {i : Nat} {d : α} (h : i < xs.length) : xs[i]? = some (List.getD xs i d) := by
  rw [List.getD_eq_getElem?_getD, List.getElem?_eq_getElem h]; rfl
theorem take_drop_in (cs : List Value) {a sz o k : Nat} (h : o + k ≤ sz) : (((cs.drop a).take sz).drop o).take k = (cs.drop (a + o)).take k := by
  rw [List.drop_take, List.drop_drop, List.take_take, Nat.min_eq_left (by omega)]
/-- One element's cells are changed. -/
theorem arr_cells (cs c2 : List Value) {n z i : Nat} (hl : cs.length = n * z) (h2 : c2.length = z) (hi : i < n) {j : Nat} (hj : j < n) :
    ((cs.take (i * z) ++ c2 ++ cs.drop (i * z + z)).drop (j * z)).take z = if j = i then c2 else (cs.drop (j * z)).take z := by
  have f1 := arr_fit (z := z) hi
  have f2 := arr_fit (z := z) hj
  have hlen : (cs.take (i * z)).length = i * z := by rw [List.length_take]; omega
  split
  · rename_i e
    subst e
    rw [List.append_assoc, List.drop_append, List.drop_of_length_le (by omega), List.nil_append, hlen, Nat.sub_self, List.drop_zero, List.take_append_of_le_length (by omega), List.take_of_length_le (by omega)]
  · rename_i e
    apply List.ext_getElem?
    intro k
    rw [List.getElem?_take, List.getElem?_take]
    split
    · rename_i hk
      rw [List.getElem?_drop, List.getElem?_drop]
      rcases Nat.lt_or_gt_of_ne e with hlt | hgt
      · have f3 := arr_fit (z := z) hlt
        rw [List.append_assoc, List.getElem?_append_left (by omega), List.getElem?_take, if_pos (by omega)]
      · have f3 := arr_fit (z := z) hgt
        rw [List.getElem?_append_right (by simp only [List.length_append, hlen, h2]; omega), List.getElem?_drop]
        congr 1
        simp only [List.length_append, hlen, h2]
        omega
    · rfl
mutual
theorem rep_proj {S : Nat → Prop} {w : World} : ∀ {t : Ty} {x : t.Den} {p : List Nat} {y : Sigma Ty.Den} {cs : List Value}, Rep S w t x cs → (∀ q ∈ t.inR p, q) → proj t x p = some y →
    Rep S w y.1 y.2 ((cs.drop (t.offs p)).take y.1.sz) ∧ t.sub p = some y.1 ∧ t.offs p + y.1.sz ≤ t.sz
  | t, x, [], y, cs, h, _, hp => by
    have e : (⟨t, x⟩ : Sigma Ty.Den) = y := by cases t <;> simpa [proj] using hp
    subst e
    have ho : t.offs [] = 0 := by cases t <;> rfl
    rw [ho]
    refine ⟨?_, by cases t <;> rfl, by simp⟩
    rw [List.drop_zero, List.take_of_length_le (by rw [h.len]; exact Nat.le_refl _)]
    exact h
  | .st fs, x, i :: p, y, cs, h, hin, hp => by
    simp only [proj] at hp
    simp only [Rep] at h
    simp only [Ty.offs, Ty.sub, Ty.sz]
    simp only [Ty.inR] at hin
    exact reps_proj h hin hp
  | .arr n t, x, i :: p, y, cs, h, hin, hp => by
    simp only [proj] at hp
    simp only [Rep] at h
    simp only [Ty.offs, Ty.sub, Ty.sz]
    simp only [Ty.inR] at hin
    have hi : i < n := hin _ (List.mem_cons_self ..)
    obtain ⟨h1, h2, h3⟩ := h
    have hg := h3 i _ (arr_get (d := t.dflt) (by omega))
    obtain ⟨g1, g2, g3⟩ := rep_proj hg (fun q hq => hin q (List.mem_cons_of_mem _ hq)) hp
    have f1 := arr_fit (z := t.sz) hi
    refine ⟨?_, g2, by omega⟩
    rw [take_drop_in cs g3] at g1
    exact g1
  | .int _, _, _ :: _, _, _, _, _, hp => by simp [proj] at hp
  | .bool, _, _ :: _, _, _, _, _, hp => by simp [proj] at hp
  | .str, _, _ :: _, _, _, _, _, hp => by simp [proj] at hp
  | .sl _ _, _, _ :: _, _, _, _, _, hp => by simp [proj] at hp
  | .map _ _ _ _, _, _ :: _, _, _, _, _, hp => by simp [proj] at hp
  | .opq _, _, _ :: _, _, _, _, _, hp => by simp [proj] at hp
  | .len _ _, _, _ :: _, _, _, _, _, hp => by simp [proj] at hp
theorem reps_proj {S : Nat → Prop} {w : World} : ∀ {fs : List Ty} {x : Ty.Dens fs} {i : Nat} {p : List Nat} {y : Sigma Ty.Den} {cs : List Value}, Reps S w fs x cs → (∀ q ∈ Ty.inRs fs i p, q) → projs fs x i p = some y →
    Rep S w y.1 y.2 ((cs.drop (Ty.offss fs i p)).take y.1.sz) ∧ Ty.subs fs i p = some y.1 ∧ Ty.offss fs i p + y.1.sz ≤ Ty.szs fs
  | [], _, _, _, _, _, _, _, hp => by simp [projs] at hp
  | t :: ts, x, 0, p, y, cs, h, hin, hp => by
    simp only [projs] at hp
    simp only [Ty.inRs] at hin
    simp only [Reps] at h
    obtain ⟨c1, c2, rfl, h1, h2⟩ := h
    obtain ⟨g1, g2, g3⟩ := rep_proj h1 hin hp
    simp only [Ty.offss, Ty.subs, Ty.szs]
    refine ⟨?_, g2, by omega⟩
    have hl := h1.len
    rw [List.drop_append_of_le_length (by omega), List.take_append_of_le_length (by rw [List.length_drop]; omega)]
    exact g1
  | t :: ts, x, i + 1, p, y, cs, h, hin, hp => by
    simp only [projs] at hp
    simp only [Ty.inRs] at hin
    simp only [Reps] at h
    obtain ⟨c1, c2, rfl, h1, h2⟩ := h
    obtain ⟨g1, g2, g3⟩ := reps_proj h2 hin hp
    simp only [Ty.offss, Ty.subs, Ty.szs]
    refine ⟨?_, g2, by omega⟩
    have hl := h1.len
    have e : (c1 ++ c2).drop (t.sz + Ty.offss ts i p) = c2.drop (Ty.offss ts i p) := by
      rw [← hl, List.drop_append, List.drop_of_length_le (by omega), List.nil_append]
      congr 1
      omega
    rw [e]
    exact g1
end
theorem splice_eq (cs us : List Value) (a b o n : Nat) (hn : us.length = n) (hob : o + n ≤ b) (hab : a + b ≤ cs.length) :
    cs.take (a + o) ++ us ++ cs.drop (a + o + n) = cs.take a ++ (((cs.drop a).take b).take o ++ us ++ ((cs.drop a).take b).drop (o + us.length)) ++ cs.drop (a + b) := by
  have h1 : cs.take (a + o) = cs.take a ++ (cs.drop a).take o := List.take_add
  have h2 : cs.drop (a + o + n) = ((cs.drop a).take b).drop (o + n) ++ cs.drop (a + b) := by
    rw [List.drop_take, List.drop_drop, show a + (o + n) = a + o + n by omega]
    have : cs.drop (a + b) = (cs.drop (a + o + n)).drop (b - (o + n)) := by rw [List.drop_drop]; congr 1; omega
    rw [this, List.take_append_drop]
  rw [h1, h2, hn, List.take_take, Nat.min_eq_left (by omega)]
  simp [List.append_assoc]

mutual
theorem rep_updp {S : Nat → Prop} {w : World} : ∀ {t : Ty} {x x' : t.Den} {p : List Nat} {y : Sigma Ty.Den} {cs us : List Value}, Rep S w t x cs → Rep S w y.1 y.2 us → (∀ q ∈ t.inR p, q) → updp t x p y = some x' →
    Rep S w t x' (cs.take (t.offs p) ++ us ++ cs.drop (t.offs p + us.length)) ∧ t.sub p = some y.1 ∧ t.offs p + us.length ≤ t.sz
  | t, x, x', [], y, cs, us, h, hu, _, hp => by
    have hp' : Ty.cast y.1 t y.2 = some x' := by cases t <;> simpa [updp] using hp
    obtain ⟨e, e'⟩ := Ty.cast_some hp'
    obtain ⟨t', y'⟩ := y
    subst e
    have e' : y' = x' := e'
    subst e'
    have ho : t'.offs [] = 0 := by cases t' <;> rfl
    rw [ho]
    have hl := h.len
    have hl' : us.length = t'.sz := hu.len
    have hl : cs.length = t'.sz := hl
    refine ⟨?_, by cases t' <;> rfl, by show 0 + us.length ≤ t'.sz; omega⟩
    rw [List.take_zero, List.nil_append, List.drop_of_length_le (by rw [hl, hl']; omega), List.append_nil]
    exact hu
  | .st fs, x, x', i :: p, y, cs, us, h, hu, hin, hp => by
    simp only [updp] at hp
    simp only [Rep] at h ⊢
    simp only [Ty.offs, Ty.sub, Ty.sz]
    simp only [Ty.inR] at hin
    exact reps_updp h hu hin hp
  | .arr n t, x, x', i :: p, y, cs, us, h, hu, hin, hp => by
    simp only [updp] at hp
    obtain ⟨z, hz, rfl⟩ := Option.map_eq_some_iff.1 hp
    simp only [Rep] at h ⊢
    simp only [Ty.offs, Ty.sub, Ty.sz]
    simp only [Ty.inR] at hin
    have hi : i < n := hin _ (List.mem_cons_self ..)
    obtain ⟨h1, h2, h3⟩ := h
    have hg := h3 i _ (arr_get (d := t.dflt) (by omega))
    obtain ⟨g1, g2, g3⟩ := rep_updp hg hu (fun q hq => hin q (List.mem_cons_of_mem _ hq)) hz
    have f1 := arr_fit (z := t.sz) hi
    have hl2 := g1.len
    have esp := splice_eq cs us (i * t.sz) t.sz (t.offs p) us.length rfl g3 (by omega)
    rw [esp]
    refine ⟨⟨by rw [List.length_set]; exact h1, ?_, ?_⟩, g2, by omega⟩
    · simp only [List.length_append, hl2, List.length_take, List.length_drop, h2]
      simp only [List.length_append, List.length_take, List.length_drop, h2] at hl2
      omega
    · intro j x hj
      have hjn : j < n := by
        have := (List.getElem?_eq_some_iff.1 hj).1
        rw [List.length_set] at this
        omega
      rw [arr_cells cs _ h2 hl2 hi hjn]
      rw [List.getElem?_set] at hj
      split at hj
      · rename_i e
        subst e
        rw [if_pos (by omega)] at hj
        cases hj
        rw [if_pos rfl]
        exact g1
      · rename_i e
        rw [if_neg (fun e2 => e e2.symm)]
        exact h3 j x hj
  | .int _, _, _, _ :: _, _, _, _, _, _, _, hp => by simp [updp] at hp
  | .bool, _, _, _ :: _, _, _, _, _, _, _, hp => by simp [updp] at hp
  | .str, _, _, _ :: _, _, _, _, _, _, _, hp => by simp [updp] at hp
  | .sl _ _, _, _, _ :: _, _, _, _, _, _, _, hp => by simp [updp] at hp
  | .map _ _ _ _, _, _, _ :: _, _, _, _, _, _, _, hp => by simp [updp] at hp
  | .opq _, _, _, _ :: _, _, _, _, _, _, _, hp => by simp [updp] at hp
  | .len _ _, _, _, _ :: _, _, _, _, _, _, _, hp => by simp [updp] at hp
theorem reps_updp {S : Nat → Prop} {w : World} : ∀ {fs : List Ty} {x x' : Ty.Dens fs} {i : Nat} {p : List Nat} {y : Sigma Ty.Den} {cs us : List Value}, Reps S w fs x cs → Rep S w y.1 y.2 us → (∀ q ∈ Ty.inRs fs i p, q) → updps fs x i p y = some x' →
    Reps S w fs x' (cs.take (Ty.offss fs i p) ++ us ++ cs.drop (Ty.offss fs i p + us.length)) ∧ Ty.subs fs i p = some y.1 ∧ Ty.offss fs i p + us.length ≤ Ty.szs fs
  | [], _, _, _, _, _, _, _, _, _, _, hp => by simp [updps] at hp
  | t :: ts, x, x', 0, p, y, cs, us, h, hu, hin, hp => by
    simp only [updps] at hp
    simp only [Ty.inRs] at hin
    obtain ⟨z, hz, hz2⟩ := Option.map_eq_some_iff.1 hp
    subst hz2
    simp only [Reps] at h ⊢
    obtain ⟨c1, c2, rfl, h1, h2⟩ := h
    obtain ⟨g1, g2, g3⟩ := rep_updp h1 hu hin hz
    simp only [Ty.offss, Ty.subs, Ty.szs]
    have hl := h1.len
    refine ⟨⟨_, c2, ?_, g1, h2⟩, g2, by omega⟩
    rw [List.take_append_of_le_length (by omega), List.drop_append_of_le_length (by omega)]
    simp only [List.append_assoc]
  | t :: ts, x, x', i + 1, p, y, cs, us, h, hu, hin, hp => by
    simp only [updps] at hp
    simp only [Ty.inRs] at hin
    obtain ⟨z, hz, hz2⟩ := Option.map_eq_some_iff.1 hp
    subst hz2
    simp only [Reps] at h ⊢
    obtain ⟨c1, c2, rfl, h1, h2⟩ := h
    obtain ⟨g1, g2, g3⟩ := reps_updp h2 hu hin hz
    simp only [Ty.offss, Ty.subs, Ty.szs]
    have hl := h1.len
    refine ⟨⟨c1, _, ?_, h1, g1⟩, g2, by omega⟩
    have e1 : (c1 ++ c2).take (t.sz + Ty.offss ts i p) = c1 ++ c2.take (Ty.offss ts i p) := by
      rw [← hl, List.take_append, List.take_of_length_le (by omega)]
      congr 2
      omega
    have e2 : (c1 ++ c2).drop (t.sz + Ty.offss ts i p + us.length) = c2.drop (Ty.offss ts i p + us.length) := by
      rw [← hl, List.drop_append, List.drop_of_length_le (by omega), List.nil_append]
      congr 1
      omega
    rw [e1, e2]
    simp only [List.append_assoc]
end

/-! ### The zero value's cells -/
def zerosN (z : List Value) : Nat → List Value
  | 0 => []
  | n + 1 => z ++ zerosN z n
theorem zerosN_len (z : List Value) : ∀ n, (zerosN z n).length = n * z.length
  | 0 => by simp [zerosN]
  | n + 1 => by simp only [zerosN, List.length_append, zerosN_len z n, Nat.add_mul]; omega
theorem zerosN_take (z : List Value) : ∀ {n j : Nat}, j < n → ((zerosN z n).drop (j * z.length)).take z.length = z
  | 0, j, h => by omega
  | n + 1, 0, _ => by simp [zerosN]
  | n + 1, j + 1, h => by
    have e : (j + 1) * z.length = z.length + j * z.length := by rw [Nat.add_mul]; omega
    rw [e, zerosN, ← List.drop_drop, List.drop_left]
    exact zerosN_take z (n := n) (by omega)
mutual
def zeros : Ty → List Value
  | .int k => [.int k 0]
  | .bool => [.bool false]
  | .str => [.string ⟨#[]⟩]
  | .st fs => zeross fs
  | .sl _ _ => [.slice none 0 0]
  | .map _ _ _ _ => [.map none]
  | .arr n t => zerosN (zeros t) n
  | .opq z => [opqZero z]
  | .len _ _ => [.slice none 0 0]
def zeross : List Ty → List Value
  | [] => []
  | t :: ts => zeros t ++ zeross ts
end
mutual
theorem rep_zero (S : Nat → Prop) (w : World) : ∀ t : Ty, Rep S w t t.dflt (zeros t)
  | .int _ => by simp [Rep, zeros, Ty.dflt]
  | .bool => by simp [Rep, zeros, Ty.dflt]
  | .str => by simp [Rep, zeros, Ty.dflt]
  | .st fs => by simp only [Rep, zeros, Ty.dflt]; exact reps_zero S w fs
  | .sl _ _ => by
    simp only [Rep, zeros, Ty.dflt]
    exact ⟨none, 0, rfl, ⟨Nat.le_refl _, Nat.zero_le _⟩, fun h => absurd h (by simp)⟩
  | .map _ _ _ _ => by
    simp only [Rep, zeros, Ty.dflt]
    exact ⟨none, rfl, fun _ => rfl, fun b h => by cases h⟩
  | .arr n t => by
    have hl := (rep_zero S w t).len
    simp only [Rep, zeros, Ty.dflt]
    refine ⟨List.length_replicate .., by rw [zerosN_len, hl], fun j x hj => ?_⟩
    have hj : (List.replicate n t.dflt)[j]? = some x := hj
    rw [List.getElem?_replicate] at hj
    split at hj
    · rename_i hjn
      have hj : t.dflt = x := Option.some.inj hj
      subst hj
      have := zerosN_take (zeros t) hjn
      rw [hl] at this
      rw [this]
      exact rep_zero S w t
    · cases hj
  | .opq z => by
    simp only [Rep, zeros]
    exact ⟨_, rfl, by unfold opqZero; split <;> rfl⟩
  | .len _ _ => by
    simp only [Rep, zeros, Ty.dflt]
    exact ⟨Nat.le_refl _, none, 0, rfl, ⟨Nat.le_refl _, Nat.zero_le _⟩, fun h => absurd h (by simp)⟩
theorem reps_zero (S : Nat → Prop) (w : World) : ∀ ts : List Ty, Reps S w ts (Ty.dflts ts) (zeross ts)
  | [] => by simp [Reps, zeross]
  | t :: ts => by
    simp only [Reps, zeross, Ty.dflts]
    exact ⟨_, _, rfl, rep_zero S w t, reps_zero S w ts⟩
end

/-! ### What a program's table says of a type -/
def InfoIs (P : Program) (T : TypeId) (z : Value) (n : Nat) : Prop := (P.info? T).map (fun i => (i.zero, i.size)) = some (some z, n)
mutual
def TyIs (P : Program) : Ty → TypeId → Prop
  | .int k, T => P.underlying T = some (.int k) ∧ InfoIs P T (.int k 0) 1
  | .bool, T => P.underlying T = some .bool ∧ InfoIs P T (.bool false) 1
  | .str, T => P.underlying T = some .string ∧ InfoIs P T (.string ⟨#[]⟩) 1
  | .st ts, T => InfoIs P T (.agg (zeross ts).toArray) (Ty.szs ts) ∧ P.stoodInHeld T = false ∧ P.eqGuardType P.depth T = false ∧
      ((∃ fs, P.underlying T = some (.struct fs) ∧ FieldsIs P ts fs.toList 0) ∨ (∃ n e, P.underlying T = some (.array n e) ∧ (n = ts.length ∧ 0 < n) ∧ ElemsIs P ts e))
  | .sl e t, T => P.underlying T = some (.slice e) ∧ InfoIs P T (.slice none 0 0) 1 ∧ TyIs P t e
  | .map k e tk te, T => P.underlying T = some (.map k e) ∧ InfoIs P T (.map none) 1 ∧ TyIs P tk k ∧ TyIs P te e
  | .arr n t, T => InfoIs P T (.agg (zerosN (zeros t) n).toArray) (n * t.sz) ∧ P.stoodInHeld T = false ∧ P.eqGuardType P.depth T = false ∧ ∃ e, P.underlying T = some (.array n e) ∧ 0 < n ∧ TyIs P t e
  | .opq z, T => (∃ d, P.underlying T = some d ∧ d.isRow = false) ∧ InfoIs P T (opqZero z) 1
  | .len e t, T => P.underlying T = some (.slice e) ∧ InfoIs P T (.slice none 0 0) 1 ∧ TyIs P t e
def FieldsIs (P : Program) : List Ty → List Field → Nat → Prop
  | [], fs, _ => fs = []
  | t :: ts, fs, o => ∃ f fs', fs = f :: fs' ∧ (f.name == "_") = false ∧ f.offset = o ∧ TyIs P t f.type ∧ FieldsIs P ts fs' (o + t.sz)
def ElemsIs (P : Program) : List Ty → TypeId → Prop
  | [], _ => True
  | t :: ts, e => TyIs P t e ∧ ElemsIs P ts e
end
/-- Two values of one cell, by sight. -/
def leafB : Value → Value → Bool
  | .int k n, .int k' n' => k == k' && n == n'
  | .bool b, .bool b' => b == b'
  | .string s, .string s' => s.data.toList == s'.data.toList
  | .slice none n c, .slice none n' c' => n == n' && c == c'
  | .map none, .map none => true
  | .pointer none, .pointer none => true
  | .nilIface, .nilIface => true
  | .nilFunc, .nilFunc => true
  | _, _ => false
theorem leafB_eq {u v : Value} (h : leafB u v = true) : u = v := by
  unfold leafB at h
  split at h
  · simp only [Bool.and_eq_true, beq_iff_eq] at h; rw [h.1, h.2]
  · simp only [beq_iff_eq] at h; rw [h]
  · rename_i s s'
    have h2 : s.data.toList = s'.data.toList := by simpa using h
    have h3 : s.data = s'.data := Array.toList_inj.1 h2
    cases s; cases s'; simp only at h3; rw [h3]
  · simp only [Bool.and_eq_true, beq_iff_eq] at h; rw [h.1, h.2]
  · rfl
  · rfl
  · rfl
  · rfl
  · cases h
def leavesB : List Value → List Value → Bool
  | [], [] => true
  | u :: us, v :: vs => leafB u v && leavesB us vs
  | _, _ => false
theorem leavesB_eq : ∀ {us vs : List Value}, leavesB us vs = true → us = vs
  | [], [], _ => rfl
  | u :: us, v :: vs, h => by
    simp only [leavesB, Bool.and_eq_true] at h
    rw [leafB_eq h.1, leavesB_eq h.2]
  | [], _ :: _, h => by simp [leavesB] at h
  | _ :: _, [], h => by simp [leavesB] at h
def wholeB : Value → Value → Bool
  | .agg a, .agg b => leavesB a.toList b.toList
  | u, v => leafB u v
theorem wholeB_eq {u v : Value} (h : wholeB u v = true) : u = v := by
  unfold wholeB at h
  split at h
  · rw [Array.toList_inj.1 (leavesB_eq h)]
  · exact leafB_eq h
def infoB (P : Program) (T : TypeId) (z : Value) (n : Nat) : Bool :=
  match P.info? T with
  | some i => i.size == n && (match i.zero with
    | some u => wholeB u z
    | none => false)
  | none => false
theorem infoB_is {P : Program} {T : TypeId} {z : Value} {n : Nat} (h : infoB P T z n = true) : InfoIs P T z n := by
  unfold infoB at h
  unfold InfoIs
  split at h
  · rename_i i hi
    simp only [Bool.and_eq_true, beq_iff_eq] at h
    rw [hi]
    simp only [Option.map_some, Option.some.injEq, Prod.mk.injEq]
    refine ⟨?_, h.1⟩
    have h2 := h.2
    split at h2
    · rename_i u hz
      rw [hz, wholeB_eq h2]
    · cases h2
  · cases h
mutual
def tyB (P : Program) : Ty → TypeId → Bool
  | .int k, T => (match P.underlying T with | some (.int k') => k' == k | _ => false) && infoB P T (.int k 0) 1
  | .bool, T => (match P.underlying T with | some .bool => true | _ => false) && infoB P T (.bool false) 1
  | .str, T => (match P.underlying T with | some .string => true | _ => false) && infoB P T (.string ⟨#[]⟩) 1
  | .st ts, T => infoB P T (.agg (zeross ts).toArray) (Ty.szs ts) && (!P.stoodInHeld T && (!P.eqGuardType P.depth T && (match P.underlying T with
      | some (.struct fs) => fieldsB P ts fs.toList 0
      | some (.array n e) => (n == ts.length && decide (0 < n)) && elemsB P ts e
      | _ => false)))
  | .sl e t, T => (match P.underlying T with | some (.slice e') => e' == e | _ => false) && (infoB P T (.slice none 0 0) 1 && tyB P t e)
  | .map k e tk te, T => (match P.underlying T with | some (.map k' e') => k' == k && e' == e | _ => false) && (infoB P T (.map none) 1 && (tyB P tk k && tyB P te e))
  | .arr n t, T => infoB P T (.agg (zerosN (zeros t) n).toArray) (n * t.sz) && (!P.stoodInHeld T && (!P.eqGuardType P.depth T && (match P.underlying T with
      | some (.array m e) => (m == n && decide (0 < n)) && tyB P t e
      | _ => false)))
  | .opq z, T => (match P.underlying T with | some d => !d.isRow | none => false) && infoB P T (opqZero z) 1
  | .len e t, T => (match P.underlying T with | some (.slice e') => e' == e | _ => false) && (infoB P T (.slice none 0 0) 1 && tyB P t e)
def fieldsB (P : Program) : List Ty → List Field → Nat → Bool
  | [], fs, _ => fs.isEmpty
  | t :: ts, fs, o => match fs with
    | f :: fs' => !(f.name == "_") && (f.offset == o && (tyB P t f.type && fieldsB P ts fs' (o + t.sz)))
    | [] => false
def elemsB (P : Program) : List Ty → TypeId → Bool
  | [], _ => true
  | t :: ts, e => tyB P t e && elemsB P ts e
end
mutual
theorem tyB_is {P : Program} : ∀ {t : Ty} {T : TypeId}, tyB P t T = true → TyIs P t T
  | .int k, T, h => by
    simp only [tyB, Bool.and_eq_true] at h
    refine ⟨?_, infoB_is h.2⟩
    have h1 := h.1
    split at h1
    · rename_i k' hu; rw [hu]; simp only [beq_iff_eq] at h1; rw [h1]
    · cases h1
  | .bool, T, h => by
    simp only [tyB, Bool.and_eq_true] at h
    refine ⟨?_, infoB_is h.2⟩
    have h1 := h.1
    split at h1
    · assumption
    · cases h1
  | .str, T, h => by
    simp only [tyB, Bool.and_eq_true] at h
    refine ⟨?_, infoB_is h.2⟩
    have h1 := h.1
    split at h1
    · assumption
    · cases h1
  | .st ts, T, h => by
    simp only [tyB, Bool.and_eq_true, Bool.not_eq_true'] at h
    refine ⟨infoB_is h.1, h.2.1, h.2.2.1, ?_⟩
    have h1 := h.2.2.2
    split at h1
    · rename_i fs hu; exact .inl ⟨fs, hu, fieldsB_is h1⟩
    · rename_i n e hu
      simp only [Bool.and_eq_true, beq_iff_eq, decide_eq_true_eq] at h1
      exact .inr ⟨n, e, hu, h1.1, elemsB_is h1.2⟩
    · cases h1
  | .sl e t, T, h => by
    simp only [tyB, Bool.and_eq_true] at h
    refine ⟨?_, infoB_is h.2.1, tyB_is h.2.2⟩
    have h1 := h.1
    split at h1
    · rename_i k' hu; rw [hu]; simp only [beq_iff_eq] at h1; rw [h1]
    · cases h1
  | .map k e tk te, T, h => by
    simp only [tyB, Bool.and_eq_true] at h
    refine ⟨?_, infoB_is h.2.1, tyB_is h.2.2.1, tyB_is h.2.2.2⟩
    have h1 := h.1
    split at h1
    · rename_i k' e' hu; rw [hu]; simp only [Bool.and_eq_true, beq_iff_eq] at h1; rw [h1.1, h1.2]
    · cases h1
  | .arr n t, T, h => by
    simp only [tyB, Bool.and_eq_true, Bool.not_eq_true'] at h
    refine ⟨infoB_is h.1, h.2.1, h.2.2.1, ?_⟩
    have h1 := h.2.2.2
    split at h1
    · rename_i m e hu
      simp only [Bool.and_eq_true, beq_iff_eq, decide_eq_true_eq] at h1
      obtain ⟨⟨rfl, h0⟩, h2⟩ := h1
      exact ⟨e, hu, h0, tyB_is h2⟩
    · cases h1
  | .opq z, T, h => by
    simp only [tyB, Bool.and_eq_true] at h
    refine ⟨?_, infoB_is h.2⟩
    have h1 := h.1
    split at h1
    · rename_i d hu; exact ⟨d, hu, by simpa using h1⟩
    · cases h1
  | .len e t, T, h => by
    simp only [tyB, Bool.and_eq_true] at h
    refine ⟨?_, infoB_is h.2.1, tyB_is h.2.2⟩
    have h1 := h.1
    split at h1
    · rename_i k' hu; rw [hu]; simp only [beq_iff_eq] at h1; rw [h1]
    · cases h1
theorem fieldsB_is {P : Program} : ∀ {ts : List Ty} {fs : List Field} {o : Nat}, fieldsB P ts fs o = true → FieldsIs P ts fs o
  | [], fs, o, h => by simpa [fieldsB, FieldsIs] using h
  | t :: ts, [], o, h => by simp [fieldsB] at h
  | t :: ts, f :: fs, o, h => by
    simp only [fieldsB, Bool.and_eq_true, Bool.not_eq_true', beq_iff_eq] at h
    exact ⟨f, fs, rfl, h.1, h.2.1, tyB_is h.2.2.1, fieldsB_is h.2.2.2⟩
theorem elemsB_is {P : Program} : ∀ {ts : List Ty} {e : TypeId}, elemsB P ts e = true → ElemsIs P ts e
  | [], _, _ => trivial
  | t :: ts, e, h => by
    simp only [elemsB, Bool.and_eq_true] at h
    exact ⟨tyB_is h.1, elemsB_is h.2⟩
end
theorem ElemsIs.all {P : Program} {e : TypeId} : ∀ {ts : List Ty}, ElemsIs P ts e → ∀ t ∈ ts, TyIs P t e
  | [], _, _, h => by simp at h
  | t :: ts, h, t', h' => by
    rcases List.mem_cons.1 h' with rfl | h'
    · exact h.1
    · exact ElemsIs.all h.2 t' h'
/-- Of any type: its cells, its zero value. -/
theorem TyIs.info {P : Program} {t : Ty} {T : TypeId} (h : TyIs P t T) : InfoIs P T (toVal t (zeros t)) t.sz := by
  cases t with
  | int k => exact h.2
  | bool => exact h.2
  | str => exact h.2
  | st ts => exact h.1
  | sl e t => exact h.2.1
  | map k e tk te => exact h.2.1
  | arr n t => exact h.1
  | opq z => exact h.2
  | len e t => exact h.2.1
theorem InfoIs.get {P : Program} {T : TypeId} {z : Value} {n : Nat} (h : InfoIs P T z n) : ∃ i, P.info? T = some i ∧ i.zero = some z ∧ i.size = n := by
  unfold InfoIs at h
  obtain ⟨i, hi, h2⟩ := Option.map_eq_some_iff.1 h
  simp only [Prod.mk.injEq] at h2
  exact ⟨i, hi, h2.1, h2.2⟩
theorem Ty.zeros_len (t : Ty) : (zeros t).length = t.sz := (rep_zero (fun _ => True) default t).len

/-! ### Slices with more behind them, and plain ones -/
/-- All of one type. -/
def allT (t : Ty) : List Ty → Bool
  | [] => true
  | f :: fs => Ty.beq f t && allT t fs
mutual
/-- Of what a type bears only its plain part; a plain one as one with nothing behind it. -/
def convOk : Ty → Ty → Bool
  | .len e t, .sl e' t' => e == e' && (Ty.beq t t' || convOk t t')
  | .sl e t, .len e' t' => e == e' && (Ty.beq t t' || convOk t t')
  | .sl e t, .sl e' t' => e == e' && convOk t t'
  | .st fs, .st fs' => convOks fs fs'
  | .st fs, .arr n t => allT t fs && Nat.beq fs.length n
  | .arr n t, .st fs => allT t fs && Nat.beq fs.length n
  | _, _ => false
def convOks : List Ty → List Ty → Bool
  | [], [] => true
  | t :: ts, t' :: ts' => (Ty.beq t t' || convOk t t') && convOks ts ts'
  | _, _ => false
end
/-- All members, or as they are. -/
def convL (t t' : Ty) (f : t.Den → t'.Den) (l : List t.Den) : List t'.Den := if h : Ty.beq t t' = true then Ty.eq_of_beq h ▸ l else List.map f l
def conv1 (t t' : Ty) (f : t.Den → t'.Den) (x : t.Den) : t'.Den := if h : Ty.beq t t' = true then Ty.eq_of_beq h ▸ x else f x
/-- A struct's fields as a list. -/
def toL (t : Ty) : (fs : List Ty) → Ty.Dens fs → List t.Den
  | [], _ => []
  | f :: fs, x => conv1 f t (fun _ => t.dflt) x.1 :: toL t fs x.2
/-- A list's members as fields. -/
def ofL (t : Ty) (l : List t.Den) : (fs : List Ty) → Nat → Ty.Dens fs
  | [], _ => ()
  | f :: fs, k => (conv1 t f (fun _ => f.dflt) (List.getD l k t.dflt), ofL t l fs (k + 1))
mutual
def conv : (t t' : Ty) → t.Den → t'.Den
  | .len _ t, .sl _ t', x => convL t t' (fun y => conv t t' y) (List.take x.2 x.1)
  | .sl _ t, .len _ t', x => (convL t t' (fun y => conv t t' y) x, List.length x)
  | .sl _ t, .sl _ t', x => List.map (fun y => conv t t' y) x
  | .st fs, .st fs', x => convs fs fs' x
  | .st fs, .arr _ t, x => toL t fs x
  | .arr _ t, .st fs, x => ofL t x fs 0
  | _, t', _ => t'.dflt
def convs : (fs fs' : List Ty) → Ty.Dens fs → Ty.Dens fs'
  | t :: ts, t' :: ts', x => (conv1 t t' (fun y => conv t t' y) x.1, convs ts ts' x.2)
  | _, fs', _ => Ty.dflts fs'
end
theorem Ty.szs_cons (t : Ty) (ts : List Ty) : Ty.szs (t :: ts) = t.sz + Ty.szs ts := rfl
theorem beq_or_sz {t t' : Ty} (h : (Ty.beq t t' || convOk t t') = true) (k : convOk t t' = true → t.sz = t'.sz) : t.sz = t'.sz := by
  rw [Bool.or_eq_true] at h
  rcases h with h | h
  · rw [Ty.eq_of_beq h]
  · exact k h
theorem allT_sz {t : Ty} : ∀ {fs : List Ty}, allT t fs = true → Ty.szs fs = fs.length * t.sz
  | [], _ => by simp [Ty.szs]
  | f :: fs, h => by
    simp only [allT, Bool.and_eq_true] at h
    obtain rfl := Ty.eq_of_beq h.1
    rw [Ty.szs_cons, allT_sz h.2, List.length_cons, Nat.succ_mul]
    omega
mutual
theorem conv_sz : ∀ {t t' : Ty}, convOk t t' = true → t.sz = t'.sz
  | .len _ t, .sl _ t', _ => rfl
  | .sl _ t, .len _ t', _ => rfl
  | .sl _ t, .sl _ t', _ => rfl
  | .st fs, .st fs', h => by simp only [convOk] at h; simp only [Ty.sz]; exact conv_szs h
  | .st fs, .arr n t, h => by simp only [convOk, Bool.and_eq_true] at h; simp only [Ty.sz]; rw [allT_sz h.1, Nat.eq_of_beq_eq_true h.2]
  | .arr n t, .st fs, h => by simp only [convOk, Bool.and_eq_true] at h; simp only [Ty.sz]; rw [allT_sz h.1, Nat.eq_of_beq_eq_true h.2]
  | .int _, _, h | .bool, _, h | .str, _, h | .map _ _ _ _, _, h | .opq _, _, h => by simp [convOk] at h
  | .arr _ _, .int _, h | .arr _ _, .bool, h | .arr _ _, .str, h | .arr _ _, .sl _ _, h | .arr _ _, .map _ _ _ _, h | .arr _ _, .arr _ _, h | .arr _ _, .opq _, h | .arr _ _, .len _ _, h => by simp [convOk] at h
  | .len _ _, .int _, h | .len _ _, .bool, h | .len _ _, .str, h | .len _ _, .st _, h | .len _ _, .map _ _ _ _, h | .len _ _, .arr _ _, h | .len _ _, .opq _, h | .len _ _, .len _ _, h => by simp [convOk] at h
  | .sl _ _, .int _, h | .sl _ _, .bool, h | .sl _ _, .str, h | .sl _ _, .st _, h | .sl _ _, .map _ _ _ _, h | .sl _ _, .arr _ _, h | .sl _ _, .opq _, h => by simp [convOk] at h
  | .st _, .int _, h | .st _, .bool, h | .st _, .str, h | .st _, .sl _ _, h | .st _, .map _ _ _ _, h | .st _, .opq _, h | .st _, .len _ _, h => by simp [convOk] at h
theorem conv_szs : ∀ {fs fs' : List Ty}, convOks fs fs' = true → Ty.szs fs = Ty.szs fs'
  | [], [], _ => rfl
  | [], _ :: _, h => by simp [convOks] at h
  | _ :: _, [], h => by simp [convOks] at h
  | t :: ts, t' :: ts', h => by
    simp only [convOks, Bool.and_eq_true] at h
    simp only [Ty.szs]
    rw [beq_or_sz h.1 conv_sz, conv_szs h.2]
end
theorem rep_conv1 {S : Nat → Prop} {w : World} {t t' : Ty} {f : t.Den → t'.Den} {x : t.Den} {cs : List Value} (h : (Ty.beq t t' || convOk t t') = true) (k : convOk t t' = true → Rep S w t' (f x) cs) (hr : Rep S w t x cs) : Rep S w t' (conv1 t t' f x) cs := by
  unfold conv1
  split
  · rename_i hb
    obtain rfl := Ty.eq_of_beq hb
    exact hr
  · rename_i hb
    rw [Bool.or_eq_true] at h
    exact k (h.resolve_left hb)
theorem convL_len {t t' : Ty} {f : t.Den → t'.Den} {l : List t.Den} : (convL t t' f l).length = l.length := by
  unfold convL
  split
  · rename_i hb
    obtain rfl := Ty.eq_of_beq hb
    rfl
  · exact List.length_map ..
theorem convL_get {t t' : Ty} {f : t.Den → t'.Den} {l : List t.Den} {j : Nat} {y : t'.Den} (h : (convL t t' f l)[j]? = some y) : ∃ x, l[j]? = some x ∧ y = conv1 t t' f x := by
  unfold convL at h
  split at h
  · rename_i hb
    obtain rfl := Ty.eq_of_beq hb
    refine ⟨y, h, ?_⟩
    unfold conv1
    rw [dif_pos hb]
  · rename_i hb
    rw [List.getElem?_map] at h
    obtain ⟨x, h1, rfl⟩ := Option.map_eq_some_iff.1 h
    refine ⟨x, h1, ?_⟩
    unfold conv1
    rw [dif_neg hb]
/-- What a slice's elements are. -/
def ElsOk (S : Nat → Prop) (w : World) (t : Ty) (A : Option Addr) (xs : List t.Den) : Prop :=
  0 < xs.length → ∃ ad : Addr, A = some ad ∧ ad.spot = none ∧ S ad.block ∧
    ∀ (j : Nat) (x : t.Den), xs[j]? = some x → ∃ us : List Value, us.length = t.sz ∧ (∀ k v, us[k]? = some v → w.cell? ⟨ad.block, ad.off + (j * t.sz + k), none⟩ = some v) ∧ Rep S w t x us
theorem ElsOk.conv {S : Nat → Prop} {w : World} {t t' : Ty} {A : Option Addr} {xs : List t.Den} (h : ElsOk S w t A xs) (hz : t.sz = t'.sz) {ys : List t'.Den} (hy : 0 < ys.length → 0 < xs.length) (hg : ∀ (j : Nat) (y : t'.Den), ys[j]? = some y → ∃ x, xs[j]? = some x ∧ ∀ cs, Rep S w t x cs → Rep S w t' y cs) : ElsOk S w t' A ys := by
  intro h0
  obtain ⟨ad, h1, h2, h3, h4⟩ := h (hy h0)
  refine ⟨ad, h1, h2, h3, fun j y hj => ?_⟩
  obtain ⟨x, g1, g2⟩ := hg j y hj
  obtain ⟨us, k1, k2, k3⟩ := h4 j x g1
  exact ⟨us, by rw [← hz]; exact k1, fun k v hk => by rw [← hz]; exact k2 k v hk, g2 us k3⟩
theorem toL_row {S : Nat → Prop} {w : World} {t : Ty} : ∀ {fs : List Ty} {x : Ty.Dens fs} {cs : List Value}, allT t fs = true → Reps S w fs x cs → (toL t fs x).length = fs.length ∧ ∀ (j : Nat) (y : t.Den), (toL t fs x)[j]? = some y → Rep S w t y ((cs.drop (j * t.sz)).take t.sz)
  | [], x, cs, _, h => ⟨rfl, fun j y hj => by simp [toL] at hj⟩
  | f :: fs, x, cs, ha, h => by
    simp only [allT, Bool.and_eq_true] at ha
    obtain rfl := Ty.eq_of_beq ha.1
    simp only [Reps] at h
    obtain ⟨c1, c2, rfl, h1, h2⟩ := h
    obtain ⟨g1, g2⟩ := toL_row ha.2 h2
    have hl := h1.len
    refine ⟨by simp [toL, g1], fun j y hj => ?_⟩
    cases j with
    | zero =>
      simp only [toL, List.getElem?_cons_zero, Option.some.injEq] at hj
      subst hj
      rw [Nat.zero_mul, List.drop_zero, List.take_append_of_le_length (by omega), List.take_of_length_le (by omega)]
      unfold conv1
      rw [dif_pos (Ty.beq_self f)]
      exact h1
    | succ j =>
      simp only [toL, List.getElem?_cons_succ] at hj
      have := g2 j y hj
      rw [Nat.succ_mul, Nat.add_comm, ← hl, ← List.drop_drop, List.drop_left]
      rw [hl]
      exact this
theorem ofL_reps {S : Nat → Prop} {w : World} {t : Ty} {l : List t.Den} {cs : List Value} {n : Nat} (h1 : l.length = n) (h2 : cs.length = n * t.sz) (h3 : ∀ (j : Nat) (y : t.Den), l[j]? = some y → Rep S w t y ((cs.drop (j * t.sz)).take t.sz)) : ∀ {fs : List Ty} {k : Nat}, allT t fs = true → k + fs.length = n → Reps S w fs (ofL t l fs k) (cs.drop (k * t.sz))
  | [], k, _, hk => by
    have hk : k = n := by simpa using hk
    simp only [Reps]
    exact List.drop_of_length_le (by rw [h2, hk]; exact Nat.le_refl _)
  | f :: fs, k, ha, hk => by
    simp only [allT, Bool.and_eq_true] at ha
    obtain rfl := Ty.eq_of_beq ha.1
    rw [List.length_cons] at hk
    simp only [Reps, ofL]
    have hkn : k < l.length := by omega
    have g := h3 k _ (arr_get (d := f.dflt) hkn)
    refine ⟨(cs.drop (k * f.sz)).take f.sz, cs.drop ((k + 1) * f.sz), ?_, ?_, ofL_reps h1 h2 h3 ha.2 (by omega)⟩
    · rw [Nat.succ_mul, ← List.drop_drop, List.take_append_drop]
    · unfold conv1
      rw [dif_pos (Ty.beq_self f)]
      exact g
mutual
theorem rep_conv {S : Nat → Prop} {w : World} : ∀ {t t' : Ty} {x : t.Den} {cs : List Value}, convOk t t' = true → Rep S w t x cs → Rep S w t' (conv t t' x) cs
  | .len e t, .sl e' t', x, cs, h, hr => by
    simp only [convOk, Bool.and_eq_true, beq_iff_eq] at h
    obtain ⟨rfl, h⟩ := h
    simp only [Rep] at hr
    obtain ⟨hn, A, c, rfl, hc, hel⟩ := hr
    have hlen : (convL t t' (fun y => Go.Abs.conv t t' y) (List.take x.2 x.1)).length = x.2 := by rw [convL_len, List.length_take]; omega
    simp only [Rep, Go.Abs.conv]
    refine ⟨A, c, by rw [hlen], by omega, ?_⟩
    exact ElsOk.conv (t := t) (xs := x.1) hel (beq_or_sz h conv_sz) (fun h0 => by rw [hlen] at h0; omega) fun j y hj => by
      obtain ⟨z, g1, rfl⟩ := convL_get hj
      rw [List.getElem?_take] at g1
      split at g1
      · exact ⟨z, g1, fun cs hz => rep_conv1 h (fun hk => rep_conv hk hz) hz⟩
      · cases g1
  | .sl e t, .len e' t', x, cs, h, hr => by
    simp only [convOk, Bool.and_eq_true, beq_iff_eq] at h
    obtain ⟨rfl, h⟩ := h
    simp only [Rep] at hr
    obtain ⟨A, c, rfl, hc, hel⟩ := hr
    have hlen : (convL t t' (fun y => Go.Abs.conv t t' y) x).length = List.length x := convL_len
    simp only [Rep, Go.Abs.conv]
    refine ⟨by rw [hlen]; exact Nat.le_refl _, A, c, rfl, by omega, ?_⟩
    exact ElsOk.conv (t := t) (xs := x) hel (beq_or_sz h conv_sz) (fun h0 => by rw [hlen] at h0; exact h0) fun j y hj => by
      obtain ⟨z, g1, rfl⟩ := convL_get hj
      exact ⟨z, g1, fun cs hz => rep_conv1 h (fun hk => rep_conv hk hz) hz⟩
  | .sl e t, .sl e' t', x, cs, h, hr => by
    simp only [convOk, Bool.and_eq_true, beq_iff_eq] at h
    obtain ⟨rfl, h⟩ := h
    simp only [Rep] at hr
    obtain ⟨A, c, rfl, hc, hel⟩ := hr
    simp only [Rep, Go.Abs.conv]
    have hlen : (List.map (fun y => Go.Abs.conv t t' y) x).length = List.length x := List.length_map ..
    refine ⟨A, c, by rw [hlen], by rw [hlen]; exact hc, ?_⟩
    exact ElsOk.conv (t := t) (xs := x) hel (conv_sz h) (fun h0 => by rw [hlen] at h0; exact h0) fun j y hj => by
      rw [List.getElem?_map] at hj
      obtain ⟨z, g1, rfl⟩ := Option.map_eq_some_iff.1 hj
      exact ⟨z, g1, fun cs hz => rep_conv h hz⟩
  | .st fs, .st fs', x, cs, h, hr => by
    simp only [convOk] at h
    simp only [Rep, Go.Abs.conv] at hr ⊢
    exact reps_conv h hr
  | .st fs, .arr n t, x, cs, h, hr => by
    simp only [convOk, Bool.and_eq_true] at h
    simp only [Rep, Go.Abs.conv] at hr ⊢
    obtain ⟨g1, g2⟩ := toL_row h.1 hr
    have e := Nat.eq_of_beq_eq_true h.2
    exact ⟨by rw [g1, e], by rw [hr.len, allT_sz h.1, e], g2⟩
  | .arr n t, .st fs, x, cs, h, hr => by
    simp only [convOk, Bool.and_eq_true] at h
    simp only [Rep, Go.Abs.conv] at hr ⊢
    have e := Nat.eq_of_beq_eq_true h.2
    have := ofL_reps (k := 0) hr.1 hr.2.1 hr.2.2 h.1 (by omega)
    rwa [Nat.zero_mul, List.drop_zero] at this
  | .int _, _, _, _, h, _ | .bool, _, _, _, h, _ | .str, _, _, _, h, _ | .map _ _ _ _, _, _, _, h, _ | .opq _, _, _, _, h, _ => by simp [convOk] at h
  | .arr _ _, .int _, _, _, h, _ | .arr _ _, .bool, _, _, h, _ | .arr _ _, .str, _, _, h, _ | .arr _ _, .sl _ _, _, _, h, _ | .arr _ _, .map _ _ _ _, _, _, h, _ | .arr _ _, .arr _ _, _, _, h, _ | .arr _ _, .opq _, _, _, h, _ | .arr _ _, .len _ _, _, _, h, _ => by simp [convOk] at h
  | .len _ _, .int _, _, _, h, _ | .len _ _, .bool, _, _, h, _ | .len _ _, .str, _, _, h, _ | .len _ _, .st _, _, _, h, _ | .len _ _, .map _ _ _ _, _, _, h, _ | .len _ _, .arr _ _, _, _, h, _ | .len _ _, .opq _, _, _, h, _ | .len _ _, .len _ _, _, _, h, _ => by simp [convOk] at h
  | .sl _ _, .int _, _, _, h, _ | .sl _ _, .bool, _, _, h, _ | .sl _ _, .str, _, _, h, _ | .sl _ _, .st _, _, _, h, _ | .sl _ _, .map _ _ _ _, _, _, h, _ | .sl _ _, .arr _ _, _, _, h, _ | .sl _ _, .opq _, _, _, h, _ => by simp [convOk] at h
  | .st _, .int _, _, _, h, _ | .st _, .bool, _, _, h, _ | .st _, .str, _, _, h, _ | .st _, .sl _ _, _, _, h, _ | .st _, .map _ _ _ _, _, _, h, _ | .st _, .opq _, _, _, h, _ | .st _, .len _ _, _, _, h, _ => by simp [convOk] at h
theorem reps_conv {S : Nat → Prop} {w : World} : ∀ {fs fs' : List Ty} {x : Ty.Dens fs} {cs : List Value}, convOks fs fs' = true → Reps S w fs x cs → Reps S w fs' (convs fs fs' x) cs
  | [], [], x, cs, _, hr => by simpa only [Reps] using hr
  | [], _ :: _, _, _, h, _ => by simp [convOks] at h
  | _ :: _, [], _, _, h, _ => by simp [convOks] at h
  | t :: ts, t' :: ts', x, cs, h, hr => by
    simp only [convOks, Bool.and_eq_true] at h
    simp only [Reps, convs] at hr ⊢
    obtain ⟨c1, c2, rfl, h1, h2⟩ := hr
    exact ⟨c1, c2, rfl, rep_conv1 h.1 (fun hk => rep_conv hk h1) h1, reps_conv h.2 h2⟩
end
end Go.Abs
