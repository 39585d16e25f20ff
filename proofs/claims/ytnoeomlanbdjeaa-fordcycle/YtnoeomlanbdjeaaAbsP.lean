/- Part of the proof of the law's row: YtnoeomlanbdjeaaAbsP. -/
import Derived.Test.YtnoeomlanbdjeaaAbsO2
set_option linter.all false
set_option linter.unusedVariables false
set_option linter.unusedSimpArgs false
namespace Go.Abs
open Go.RowKit
mutual
/-- The cells of data without slices. -/
def flatCells : (t : Ty) → t.Den → List Value
  | .int k, n => [.int k n]
  | .bool, b => [.bool b]
  | .str, s => [.string s]
  | .st fs, x => flatCellss fs x
  | .sl _ _, _ => []
  | .map _ _ _ _, _ => []
  | .arr _ _, _ => []
  | .opq _, _ => []
  | .len _ _, _ => []
def flatCellss : (fs : List Ty) → Ty.Dens fs → List Value
  | [], _ => []
  | t :: ts, x => flatCells t x.1 ++ flatCellss ts x.2
end
mutual
theorem flat_cells {S : Nat → Prop} {w : World} : ∀ {t : Ty} {x : t.Den} {cs : List Value}, t.flat = true → Rep S w t x cs → cs = flatCells t x
  | .int k, x, cs, _, h => by simpa only [Rep, flatCells] using h
  | .bool, x, cs, _, h => by simpa only [Rep, flatCells] using h
  | .str, x, cs, _, h => by simpa only [Rep, flatCells] using h
  | .st fs, x, cs, hf, h => by
    simp only [Rep, flatCells, Ty.flat] at h hf ⊢
    exact flat_cellss hf h
  | .sl _ _, _, _, hf, _ => by simp [Ty.flat] at hf
  | .map _ _ _ _, _, _, hf, _ => by simp [Ty.flat] at hf
  | .arr _ _, _, _, hf, _ => by simp [Ty.flat] at hf
  | .opq _, _, _, hf, _ => by simp [Ty.flat] at hf
  | .len _ _, _, _, hf, _ => by simp [Ty.flat] at hf
theorem flat_cellss {S : Nat → Prop} {w : World} : ∀ {ts : List Ty} {x : Ty.Dens ts} {cs : List Value}, Ty.flats ts = true → Reps S w ts x cs → cs = flatCellss ts x
  | [], x, cs, _, h => by simpa only [Reps, flatCellss] using h
  | t :: ts, x, cs, hf, h => by
    simp only [Reps, flatCellss, Ty.flats, Bool.and_eq_true] at h hf ⊢
    obtain ⟨c1, c2, rfl, h1, h2⟩ := h
    rw [flat_cells hf.1 h1, flat_cellss hf.2 h2]
end
mutual
theorem flat_rep {S : Nat → Prop} {w : World} : ∀ {t : Ty} {x : t.Den}, t.flat = true → Rep S w t x (flatCells t x)
  | .int _, _, _ => by simp only [Rep, flatCells]
  | .bool, _, _ => by simp only [Rep, flatCells]
  | .str, _, _ => by simp only [Rep, flatCells]
  | .st fs, x, h => by
    simp only [Rep, flatCells, Ty.flat] at h ⊢
    exact flat_reps h
  | .sl _ _, _, h => by simp [Ty.flat] at h
  | .map _ _ _ _, _, h => by simp [Ty.flat] at h
  | .arr _ _, _, h => by simp [Ty.flat] at h
  | .opq _, _, h => by simp [Ty.flat] at h
  | .len _ _, _, h => by simp [Ty.flat] at h
theorem flat_reps {S : Nat → Prop} {w : World} : ∀ {ts : List Ty} {x : Ty.Dens ts}, Ty.flats ts = true → Reps S w ts x (flatCellss ts x)
  | [], _, _ => by simp only [Reps, flatCellss]
  | t :: ts, x, h => by
    simp only [Reps, flatCellss, Ty.flats, Bool.and_eq_true] at h ⊢
    exact ⟨_, _, rfl, flat_rep h.1, flat_reps h.2⟩
end
mutual
/-- A value that leans on no memory. -/
def AV.flatB : AV → Bool
  | .data t _ => t.flat
  | .tup vs => AV.flatsB vs
  | _ => false
def AV.flatsB : List AV → Bool
  | [] => true
  | v :: vs => AV.flatB v && AV.flatsB vs
end
mutual
theorem match_flat {S S' : Nat → Prop} {w w' : World} {γ γ' : Nat → Value} : ∀ {av : AV} {v : Value}, av.flatB = true → Match S w γ av v → Match S' w' γ' av v
  | .data t x, v, hf, h => by
    simp only [AV.flatB] at hf
    simp only [Match] at h ⊢
    obtain ⟨cs, h1, h2⟩ := h
    rw [flat_cells hf h1] at h2
    exact ⟨_, flat_rep hf, h2⟩
  | .tup vs, v, hf, h => by
    simp only [AV.flatB] at hf
    simp only [Match] at h ⊢
    obtain ⟨us, h1, h2⟩ := h
    exact ⟨us, h1, matches_flat hf h2⟩
  | .nilS, _, h, _ | .lent _ _ _ _, _, h, _ | .clip _ _ _, _, h, _ | .inn _ _ _ _, _, h, _ | .iptr _ _ _ _ _, _, h, _ | .rptr _ _, _, h, _ | .own _ _ _ _, _, h, _ | .full _ _, _, h, _ | .optr _ _ _ _, _, h, _ | .cptr _, _, h, _ | .mptr _, _, h, _ | .lst _, _, h, _ | .fn _ _, _, h, _ | .lenS _, _, h, _ | .opt _ _, _, h, _ | .val _, _, h, _ | .undef, _, h, _ | .agg _ _, _, h, _ => by simp [AV.flatB] at h
theorem matches_flat {S S' : Nat → Prop} {w w' : World} {γ γ' : Nat → Value} : ∀ {avs : List AV} {vs : List Value}, AV.flatsB avs = true → Matches S w γ avs vs → Matches S' w' γ' avs vs
  | [], vs, _, h => by simpa only [Matches] using h
  | av :: avs, vs, hf, h => by
    simp only [AV.flatsB, Bool.and_eq_true] at hf
    simp only [Matches] at h ⊢
    obtain ⟨u, us, h1, h2, h3⟩ := h
    exact ⟨u, us, h1, match_flat hf.1 h2, matches_flat hf.2 h3⟩
end

/-! ### Renaming an object -/
mutual
def AV.ren (s d : Nat) : AV → AV
  | .own s' t off n => .own (if s' = s then d else s') t off n
  | .full s' t => .full (if s' = s then d else s') t
  | .optr s' t j p => .optr (if s' = s then d else s') t j p
  | .cptr s' => .cptr (if s' = s then d else s')
  | .mptr s' => .mptr (if s' = s then d else s')
  | .inn c i t n => .inn (if c = s then d else c) i t n
  | .iptr c i j t p => .iptr (if c = s then d else c) i j t p
  | .lst vs => .lst (AV.rens s d vs)
  | .fn f caps => .fn f (AV.rens s d caps)
  | .tup vs => .tup (AV.rens s d vs)
  | .agg t vs => .agg t (AV.rens s d vs)
  | .opt g v => .opt g (AV.ren s d v)
  | .data t x => .data t x
  | .nilS => .nilS
  | .lent e t xs n => .lent e t xs n
  | .clip e t xs => .clip e t xs
  | .rptr t x => .rptr t x
  | .val u => .val u
  | .lenS n => .lenS n
  | .undef => .undef
def AV.rens (s d : Nat) : List AV → List AV
  | [] => []
  | v :: vs => AV.ren s d v :: AV.rens s d vs
end
theorem AV.rens_len {s d : Nat} : ∀ vs : List AV, (AV.rens s d vs).length = vs.length
  | [] => rfl
  | _ :: vs => by simp only [AV.rens, List.length_cons, AV.rens_len vs]
def Ob.ren (s d : Nat) : Ob → Ob
  | .cell e v => .cell e (v.ren s d)
  | .rcd e t vs => .rcd e t (AV.rens s d vs)
  | .row e t xs f => .row e t xs f
  | .map k e tk te l f => .map k e tk te l f
  | .iter k e tk te l f => .iter k e tk te l f
  | .deep e t c hole => .deep e t (if c = s then d else c) (match hole with
    | some (i, some x) => some (i, some (if x = s then d else x))
    | h => h)
  | .fam e t xss => .fam e t xss
  | .dead => .dead
def renS (s d : Nat) (l : List (Nat × AV)) : List (Nat × AV) := l.map fun p => (p.1, p.2.ren s d)
def renH (s d : Nat) (l : List (Nat × Ob)) : List (Nat × Ob) := (l.filter fun p => !(p.1 == d)).map fun p => (if p.1 = s then d else p.1, p.2.ren s d)
mutual
theorem match_ren {S : Nat → Prop} {w : World} {γ γ' : Nat → Value} {s d : Nat} (hd : γ' d = γ s) (ho : ∀ i, i ≠ s → i ≠ d → γ' i = γ i) : ∀ {av : AV} {v : Value}, av.has d = false → Match S w γ av v → Match S w γ' (av.ren s d) v
  | .own s' t off n, v, hh, h => by
    simp only [AV.ren, Match] at h ⊢
    simp only [AV.has, beq_eq_false_iff_ne, ne_eq] at hh
    by_cases e : s' = s
    · rw [if_pos e, hd, ← e]; exact h
    · rw [if_neg e, ho s' e hh]; exact h
  | .full s' t, v, hh, h => by
    simp only [AV.ren, Match] at h ⊢
    simp only [AV.has, beq_eq_false_iff_ne, ne_eq] at hh
    by_cases e : s' = s
    · rw [if_pos e, hd, ← e]; exact h
    · rw [if_neg e, ho s' e hh]; exact h
  | .optr s' t j p, v, hh, h => by
    simp only [AV.ren, Match] at h ⊢
    simp only [AV.has, beq_eq_false_iff_ne, ne_eq] at hh
    by_cases e : s' = s
    · rw [if_pos e, hd, ← e]; exact h
    · rw [if_neg e, ho s' e hh]; exact h
  | .cptr s', v, hh, h => by
    simp only [AV.ren, Match] at h ⊢
    simp only [AV.has, beq_eq_false_iff_ne, ne_eq] at hh
    by_cases e : s' = s
    · rw [if_pos e, hd, ← e]; exact h
    · rw [if_neg e, ho s' e hh]; exact h
  | .inn s' i t n, v, hh, h => by
    simp only [AV.ren, Match] at h ⊢
    simp only [AV.has, beq_eq_false_iff_ne, ne_eq] at hh
    by_cases e : s' = s
    · rw [if_pos e, hd, ← e]; exact h
    · rw [if_neg e, ho s' e hh]; exact h
  | .iptr s' i j t p, v, hh, h => by
    simp only [AV.ren, Match] at h ⊢
    simp only [AV.has, beq_eq_false_iff_ne, ne_eq] at hh
    by_cases e : s' = s
    · rw [if_pos e, hd, ← e]; exact h
    · rw [if_neg e, ho s' e hh]; exact h
  | .mptr s', v, hh, h => by
    simp only [AV.ren, Match] at h ⊢
    simp only [AV.has, beq_eq_false_iff_ne, ne_eq] at hh
    by_cases e : s' = s
    · rw [if_pos e, hd, ← e]; exact h
    · rw [if_neg e, ho s' e hh]; exact h
  | .lst vs, v, hh, h => by
    simp only [AV.ren, Match] at h ⊢
    obtain ⟨A, c, h1, us, h2, h3⟩ := h
    have hl : (AV.rens s d vs).length = vs.length := AV.rens_len vs
    exact ⟨A, c, by rw [hl]; exact h1, us, matches_ren hd ho (by simpa [AV.has] using hh) h2, fun h0 => h3 (by rw [hl] at h0; exact h0)⟩
  | .fn f caps, v, hh, h => by
    simp only [AV.ren, Match] at h ⊢
    obtain ⟨vs, h1, h2⟩ := h
    exact ⟨vs, h1, matches_ren hd ho (by simpa [AV.has] using hh) h2⟩
  | .tup vs, v, hh, h => by
    simp only [AV.ren, Match] at h ⊢
    obtain ⟨us, h1, h2⟩ := h
    exact ⟨us, h1, matches_ren hd ho (by simpa [AV.has] using hh) h2⟩
  | .agg _ vs, v, hh, h => by
    simp only [AV.ren, Match] at h ⊢
    obtain ⟨us, h1, h2⟩ := h
    exact ⟨us, h1, matches_ren hd ho (by simpa [AV.has] using hh) h2⟩
  | .opt g av, v, hh, h => by
    simp only [AV.ren, Match] at h ⊢
    exact ⟨fun hg => match_ren hd ho (by simpa [AV.has] using hh) (h.1 hg), h.2⟩
  | .data t x, v, _, h => by simpa only [AV.ren, Match] using h
  | .nilS, v, _, h => by simpa only [AV.ren, Match] using h
  | .lent e t xs n, v, _, h => by simpa only [AV.ren, Match] using h
  | .clip e t xs, v, _, h => by simpa only [AV.ren, Match] using h
  | .rptr t x, v, _, h => by simpa only [AV.ren, Match] using h
  | .val _, v, _, h => by simpa only [AV.ren, Match] using h
  | .lenS _, v, _, h => by simpa only [AV.ren, Match] using h
  | .undef, v, _, h => by simp only [AV.ren, Match]
theorem matches_ren {S : Nat → Prop} {w : World} {γ γ' : Nat → Value} {s d : Nat} (hd : γ' d = γ s) (ho : ∀ i, i ≠ s → i ≠ d → γ' i = γ i) : ∀ {avs : List AV} {vs : List Value}, AV.hass d avs = false → Matches S w γ avs vs → Matches S w γ' (AV.rens s d avs) vs
  | [], vs, _, h => by simpa only [AV.rens, Matches] using h
  | av :: avs, vs, hh, h => by
    simp only [AV.rens, Matches] at h ⊢
    simp only [AV.hass, Bool.or_eq_false_iff] at hh
    obtain ⟨u, us', h1, h2, h3⟩ := h
    exact ⟨u, us', h1, match_ren hd ho hh.1 h2, matches_ren hd ho hh.2 h3⟩
end
theorem get_renS {s d : Nat} : ∀ {l : List (Nat × AV)} {i : Nat} {v : AV}, get (renS s d l) i = some v → ∃ v', get l i = some v' ∧ v = v'.ren s d
  | [], _, _, h => by simp [renS, get] at h
  | (k, u) :: l, i, v, h => by
    simp only [renS, List.map_cons, get] at h ⊢
    by_cases hik : i = k
    · rw [if_pos hik] at h ⊢
      exact ⟨u, rfl, by simpa using h.symm⟩
    · rw [if_neg hik] at h ⊢
      exact get_renS h
theorem get_renH {s d : Nat} : ∀ {l : List (Nat × Ob)} {i : Nat} {o : Ob}, get (renH s d l) i = some o → ∃ k o', get l k = some o' ∧ o = o'.ren s d ∧ k ≠ d ∧ ((k = s ∧ i = d) ∨ (k ≠ s ∧ k = i))
  | [], _, _, h => by simp [renH, get] at h
  | (k, u) :: l, i, o, h => by
    have step : ∀ {i o}, get (renH s d l) i = some o → (∃ k' o', get l k' = some o' ∧ o = o'.ren s d ∧ k' ≠ d ∧ ((k' = s ∧ i = d) ∨ (k' ≠ s ∧ k' = i))) := fun h => get_renH h
    by_cases hkd : k = d
    · have h' : get (renH s d l) i = some o := by simpa [renH, List.filter_cons, hkd] using h
      obtain ⟨k', o', h1, h2, h3, h4⟩ := step h'
      exact ⟨k', o', by rw [get, if_neg (fun e => h3 (e.trans hkd))]; exact h1, h2, h3, h4⟩
    · have h' : get ((if k = s then d else k, u.ren s d) :: renH s d l) i = some o := by simpa [renH, List.filter_cons, hkd] using h
      simp only [get] at h'
      by_cases hi : i = (if k = s then d else k)
      · rw [if_pos hi] at h'
        have h' : u.ren s d = o := by simpa using h'
        refine ⟨k, u, by simp [get], h'.symm, hkd, ?_⟩
        by_cases hks : k = s
        · rw [if_pos hks] at hi; exact .inl ⟨hks, hi⟩
        · rw [if_neg hks] at hi; exact .inr ⟨hks, hi.symm⟩
      · rw [if_neg hi] at h'
        obtain ⟨k', o', h1, h2, h3, h4⟩ := step h'
        refine ⟨k', o', ?_, h2, h3, h4⟩
        rw [get]
        by_cases e : k' = k
        · exfalso
          subst e
          rcases h4 with ⟨h5, h6⟩ | ⟨h5, h6⟩
          · rw [if_pos h5] at hi; exact hi h6
          · rw [if_neg h5] at hi; exact hi h6.symm
        · rw [if_neg e]; exact h1
/-- An object takes another's number. -/
def St.rename (st : St) (s d : Nat) : St := if s = d then st else
  { st with slots := renS s d (killS d st.slots), heap := renH s d (killH d st.heap) }
section
variable {P : Program} {S : Nat → Prop} {w : World} {γ : Nat → Value} {Γ : Env} {w0 : World} {M S0 : Nat → Prop} {st : St} {a : Act}
theorem Core.rename' (hc : Core w0 M S0 S γ st a w) (s d : Nat) : ∃ γ', Core w0 M S0 S γ' (st.rename s d) a w ∧ γ' d = γ s ∧ ∀ i, i ≠ d → γ' i = γ i := by
  unfold St.rename
  by_cases hsd : s = d
  · rw [if_pos hsd]; exact ⟨γ, hc, by rw [hsd], fun _ _ => rfl⟩
  rw [if_neg hsd]
  refine ⟨upd γ d (γ s), ⟨hc.os, hc.tape, hc.output, hc.size, hc.old, hc.s0, hc.sold, hc.slt, ?_, ?_, ?_, hc.defers, hc.nt, hc.fixs' (st1 := { st with slots := renS s d (killS d st.slots), heap := renH s d (killH d st.heap) }) (fun _ h => h) (fun _ _ => rfl) rfl⟩, upd_same .., fun _ h => upd_ne h⟩
  · intro i av hi
    obtain ⟨v', h1, rfl⟩ := get_renS hi
    rcases get_killS h1 with rfl | ⟨h1, h2⟩
    · simp only [AV.ren, Match]
    · exact match_ren (upd_same ..) (fun i _ h => upd_ne h) h2 (hc.slot i v' h1)
  · intro i o hi
    obtain ⟨k, o', h1, rfl, hkd, h4⟩ := get_renH hi
    rcases get_killH h1 with rfl | ⟨o2, h1, h9, h3⟩
    · exact ⟨trivial, fun h => by cases h⟩
    · have h2 : o'.has d = false := by rw [h9]; exact Ob.forget_has
      rcases Ob.forget_weak (o := o2) (s := d) with hf | hf
      · rw [h9, hf]; exact ⟨trivial, fun h => by cases h⟩
      have hwk : Ob.Weak o' o2 := by rw [h9]; exact hf
      obtain ⟨g1, g2⟩ := hc.obj k o2 h1
      have g1 := g1.weak hwk
      rw [← hwk.live] at g2
      have hg : upd γ d (γ s) i = γ k := by
        rcases h4 with ⟨rfl, rfl⟩ | ⟨h5, rfl⟩
        · exact upd_same ..
        · exact upd_ne hkd
      rw [hg]
      refine ⟨?_, fun hl => g2 (by cases o' <;> first | rfl | cases hl)⟩
      cases o' with
      | row e t xs f => exact g1
      | map k e tk te l f => exact g1
      | iter k e tk te l f => exact g1
      | cell e av =>
        obtain ⟨⟨u, k1, k2, k3⟩, k4⟩ := g1
        exact ⟨⟨u, k1, match_ren (upd_same ..) (fun i _ h => upd_ne h) (by simpa [Ob.has] using h2) k2, k3⟩, k4⟩
      | rcd e t vs =>
        obtain ⟨⟨u, k1, k2, k3⟩, k4⟩ := g1
        exact ⟨⟨u, k1, matches_ren (upd_same ..) (fun i _ h => upd_ne h) (by simpa [Ob.has] using h2) k2, k3⟩, k4⟩
      | deep e t c hole =>
        obtain ⟨⟨us, cs, k1, k2, k3⟩, k4⟩ := g1
        have hγ : ∀ x, x ≠ d → upd γ d (γ s) (if x = s then d else x) = γ x := fun x hx => by
          by_cases e : x = s
          · rw [if_pos e, e]; exact upd_same ..
          · rw [if_neg e]; exact upd_ne hx
        simp only [Ob.has, Bool.or_eq_false_iff, beq_eq_false_iff_ne, ne_eq] at h2
        refine ⟨⟨us, cs, ?_, k2, ?_⟩, k4⟩
        · rw [hγ c h2.1]; exact k1
        · rcases hole with _ | ⟨i, _ | x⟩
          · exact k3
          · exact k3
          · simp only [HoleOk] at k3 ⊢
            rw [hγ x (by simpa using h2.2)]; exact k3
      | fam e t xss => exact g1
      | dead => trivial
  · intro i j o1 o2 h1 h2 l1 l2 hne
    obtain ⟨k1, o1', g1, rfl, hk1, h1'⟩ := get_renH h1
    obtain ⟨k2, o2', g2, rfl, hk2, h2'⟩ := get_renH h2
    have hg1 : upd γ d (γ s) i = γ k1 := by
      rcases h1' with ⟨rfl, rfl⟩ | ⟨h5, rfl⟩
      · exact upd_same ..
      · exact upd_ne hk1
    have hg2 : upd γ d (γ s) j = γ k2 := by
      rcases h2' with ⟨rfl, rfl⟩ | ⟨h5, rfl⟩
      · exact upd_same ..
      · exact upd_ne hk2
    rw [hg1, hg2]
    have hk : k1 ≠ k2 := fun e => hne (by
      subst e
      rcases h1' with ⟨a1, b1⟩ | ⟨a1, b1⟩ <;> rcases h2' with ⟨a2, b2⟩ | ⟨a2, b2⟩
      · rw [b1, b2]
      · exact absurd a1 a2
      · exact absurd a2 a1
      · rw [← b1, ← b2])
    rcases get_killH g1 with rfl | ⟨o3, g1, e1, _⟩
    · cases l1
    rcases get_killH g2 with rfl | ⟨o4, g2, e2, _⟩
    · cases l2
    have w1 : Ob.Weak o1' o3 := by
      rcases Ob.forget_weak (o := o3) (s := d) with hf | hf
      · rw [← e1] at hf; subst hf; cases l1
      · rw [e1]; exact hf
    have w2 : Ob.Weak o2' o4 := by
      rcases Ob.forget_weak (o := o4) (s := d) with hf | hf
      · rw [← e2] at hf; subst hf; cases l2
      · rw [e2]; exact hf
    exact hc.dis k1 k2 o3 o4 g1 g2 (by rw [← w1.live]; cases o1' <;> first | rfl | cases l1) (by rw [← w2.live]; cases o2' <;> first | rfl | cases l2) hk
theorem Core.rename (hc : Core w0 M S0 S γ st a w) (s d : Nat) : ∃ γ', Core w0 M S0 S γ' (st.rename s d) a w ∧ γ' d = γ s := by
  obtain ⟨γ', h1, h2, _⟩ := hc.rename' s d
  exact ⟨γ', h1, h2⟩
/-- A nil slice is a row of one's own, without elements. -/
theorem Core.adopt (hc : Core w0 M S0 S γ st a w) {d : Nat} (hd : st.ok d = true) (e : TypeId) (t : Ty) :
    ∃ γ', Core w0 M S0 S γ' (newSt st d (.row e t [] false) (.full d t)) (a.put (some d) (.slice none 0 0)) w := by
  have hcore := hc.new (d := d) (hv := .slice none 0 0) (o := .row e t [] false) (Below.refl _ w) ⟨⟨[], Owns.nil w e t.sz, ⟨by simp, fun j x h => by simp at h⟩⟩, fun k hk => by simp [blk_slice, Value.ownBlock] at hk⟩ (fun k hk => by simp [blk_slice, Value.ownBlock] at hk)
  refine ⟨_, hcore.put hd ?_⟩
  simp only [Match]
  exact ⟨(upd_same ..).symm, _, _, _, rfl⟩
end

theorem matches_append {S : Nat → Prop} {w : World} {γ : Nat → Value} : ∀ {l1 l2 : List AV} {v1 v2 : List Value}, Matches S w γ l1 v1 → Matches S w γ l2 v2 → Matches S w γ (l1 ++ l2) (v1 ++ v2)
  | [], l2, v1, v2, h1, h2 => by simp only [Matches] at h1; subst h1; simpa using h2
  | x :: l1, l2, v1, v2, h1, h2 => by
    simp only [Matches, List.cons_append] at h1 ⊢
    obtain ⟨u, us, rfl, g1, g2⟩ := h1
    exact ⟨u, us ++ v2, rfl, g1, matches_append g2 h2⟩
/-! ### What a state's values are as plain data -/
/-- A value as plain data: a row of one's own is written no more. -/
def pureAV0 (st : St) (av : AV) : Option (AV × St × List Prop) :=
  match av with
  | .own s t off n => (match get st.heap s with
    | some (.row e t' xs _) => if Ty.beq t' t then some (.data (.sl e t') (List.take n (List.drop off xs)), { st with heap := (s, .row e t' xs true) :: st.heap }, [off + n ≤ List.length xs]) else none
    | _ => none)
  | .full s t => (match get st.heap s with
    | some (.row e t' xs _) => if Ty.beq t' t then some (.data (.sl e t') xs, { st with heap := (s, .row e t' xs true) :: st.heap }, []) else none
    | _ => none)
  | .mptr s => (match get st.heap s with
    | some (.map k e tk te l _) => some (.data (.map k e tk te) l, { st with heap := (s, .map k e tk te l true) :: st.heap }, [])
    | _ => none)
  | av => if av.pure then some (av, st, []) else none
def pureAVs (st : St) : List AV → Option (List AV × St × List Prop)
  | [] => some ([], st, [])
  | av :: avs => (match pureAV0 st av with
    | some (b, st1, p) => (match pureAVs st1 avs with
      | some (bs, st2, q) => some (b :: bs, st2, p ++ q)
      | none => none)
    | none => none)
/-- A value as plain data: rows of one's own are written no more. -/
def pureAV (st : St) (av : AV) : Option (AV × St × List Prop) :=
  match av with
  | .agg t vs => if t.agg then (match pureAVs st vs with
    | some (bs, st1, p) => (match gather t bs with
      | some x => some (.data t x, st1, p)
      | none => none)
    | none => none) else none
  | av => pureAV0 st av
section
variable {P : Program} {S : Nat → Prop} {w : World} {γ : Nat → Value} {Γ : Env} {w0 : World} {M S0 : Nat → Prop} {st : St} {a : Act}
theorem pureAV0_ok (hc : Core w0 M S0 S γ st a w) {av b : AV} {st' : St} {ps : List Prop} (h : pureAV0 st av = some (b, st', ps)) (hps : ∀ p ∈ ps, p) {v : Value} (hm : Match S w γ av v) :
    ∃ S', (∀ k, S k → S' k) ∧ Core w0 M S0 S' γ st' a w ∧ Match S' w γ b v ∧ b.pure = true ∧ st'.nt = st.nt := by
  unfold pureAV0 at h
  split at h
  · rename_i s t off n
    split at h
    · rename_i e t' xs f hs
      split at h
      · rename_i hb
        simp only [Option.some.injEq, Prod.mk.injEq] at h
        obtain ⟨rfl, rfl, rfl⟩ := h
        obtain rfl := Ty.eq_of_beq hb
        have hle : off + n ≤ List.length xs := hps _ (List.mem_cons_self ..)
        refine ⟨_, fun k hk => .inl hk, hc.freeze hs, ?_, by simp [AV.pure], rfl⟩
        exact match_data.2 ⟨[v], own_rep hc hs hm hle, rfl⟩
      · cases h
    · cases h
  · rename_i s t
    split at h
    · rename_i e t' xs f hs
      split at h
      · rename_i hb
        simp only [Option.some.injEq, Prod.mk.injEq] at h
        obtain ⟨rfl, rfl, rfl⟩ := h
        obtain rfl := Ty.eq_of_beq hb
        refine ⟨_, fun k hk => .inl hk, hc.freeze hs, ?_, by simp [AV.pure], rfl⟩
        have := own_rep hc hs (full_own hc hs hm) (by omega)
        rw [List.drop_zero, List.take_length] at this
        exact match_data.2 ⟨[v], this, rfl⟩
      · cases h
    · cases h
  · rename_i s
    split at h
    · rename_i k e tk te l f hs
      simp only [Option.some.injEq, Prod.mk.injEq] at h
      obtain ⟨rfl, rfl, rfl⟩ := h
      exact ⟨_, fun k hk => .inl hk, hc.freezeM hs, map_rep hc hs hm, by simp [AV.pure], rfl⟩
    · cases h
  · split at h
    · rename_i hp
      simp only [Option.some.injEq, Prod.mk.injEq] at h
      obtain ⟨rfl, rfl, rfl⟩ := h
      exact ⟨S, fun _ h => h, hc, hm, hp, rfl⟩
    · cases h
theorem pureAVs_ok : ∀ {avs bs : List AV} {st st' : St} {ps : List Prop} {S : Nat → Prop} {vs : List Value}, Core w0 M S0 S γ st a w → pureAVs st avs = some (bs, st', ps) → (∀ p ∈ ps, p) → Matches S w γ avs vs →
    ∃ S', (∀ k, S k → S' k) ∧ Core w0 M S0 S' γ st' a w ∧ Matches S' w γ bs vs ∧ AV.pures bs = true ∧ st'.nt = st.nt
  | [], bs, st, st', ps, S, vs, hc, h, _, hm => by
    simp only [pureAVs, Option.some.injEq, Prod.mk.injEq] at h
    obtain ⟨rfl, rfl, rfl⟩ := h
    exact ⟨S, fun _ h => h, hc, by simpa only [Matches] using hm, rfl, rfl⟩
  | av :: avs, bs, st, st', ps, S, vs, hc, h, hps, hm => by
    unfold pureAVs at h
    split at h
    · rename_i b st1 p hb
      split at h
      · rename_i bs' st2 q hbs
        simp only [Option.some.injEq, Prod.mk.injEq] at h
        obtain ⟨rfl, rfl, rfl⟩ := h
        simp only [Matches] at hm
        obtain ⟨u, us', rfl, h1, h2⟩ := hm
        obtain ⟨S1, k1, k2, k3, k4, k5⟩ := pureAV0_ok hc hb (fun p hp => hps p (List.mem_append.2 (.inl hp))) h1
        obtain ⟨S2, l1, l2, l3, l4, l5⟩ := pureAVs_ok k2 hbs (fun p hp => hps p (List.mem_append.2 (.inr hp))) (h2.mono k1 (fun _ _ => rfl) (fun _ _ => rfl))
        refine ⟨S2, fun k hk => l1 k (k1 k hk), l2, ?_, by simp [AV.pures, k4, l4], l5.trans k5⟩
        simp only [Matches]
        exact ⟨u, us', rfl, k3.mono l1 (fun _ _ => rfl) (fun _ _ => rfl), l3⟩
      · cases h
    · cases h
theorem pureAV_ok {S : Nat → Prop} (hc : Core w0 M S0 S γ st a w) {av b : AV} {st' : St} {ps : List Prop} (h : pureAV st av = some (b, st', ps)) (hps : ∀ p ∈ ps, p) {v : Value} (hm : Match S w γ av v) :
    ∃ S', (∀ k, S k → S' k) ∧ Core w0 M S0 S' γ st' a w ∧ Match S' w γ b v ∧ b.pure = true ∧ st'.nt = st.nt := by
  unfold pureAV at h
  split at h
  · rename_i t vs
    split at h
    · rename_i hag
      split at h
      · rename_i bs st1 p hbs
        split at h
        · rename_i x hx
          simp only [Option.some.injEq, Prod.mk.injEq] at h
          obtain ⟨rfl, rfl, rfl⟩ := h
          simp only [Match] at hm
          obtain ⟨us, rfl, h2⟩ := hm
          obtain ⟨S', k1, k2, k3, k4, k5⟩ := pureAVs_ok hc hbs hps h2
          exact ⟨S', k1, k2, match_data.2 ⟨us, gather_ok k3 hx, (toVal_agg hag us).symm⟩, by simp [AV.pure], k5⟩
        · cases h
      · cases h
    · cases h
  · exact pureAV0_ok hc h hps hm
end

/-- An argument: all that can be read of a row of one's own. -/
def lendAV (st : St) (av : AV) : Option (AV × St × List Prop) :=
  match av with
  | .agg t vs => pureAV st (.agg t vs)
  | .own s t off n => (match get st.heap s with
    | some (.row e t' xs _) => if Ty.beq t' t then some (.lent e t' (List.drop off xs) n, { st with heap := (s, .row e t' xs true) :: st.heap }, [off + n ≤ List.length xs]) else none
    | _ => none)
  | .full s t => (match get st.heap s with
    | some (.row e t' xs _) => if Ty.beq t' t then some (.data (.sl e t') xs, { st with heap := (s, .row e t' xs true) :: st.heap }, []) else none
    | _ => none)
  | .mptr s => (match get st.heap s with
    | some (.map k e tk te l _) => some (.data (.map k e tk te) l, { st with heap := (s, .map k e tk te l true) :: st.heap }, [])
    | _ => none)
  | av => if av.pure then some (av, st, []) else none
section
variable {P : Program} {S : Nat → Prop} {w : World} {γ : Nat → Value} {Γ : Env} {w0 : World} {M S0 : Nat → Prop} {st : St} {a : Act}
theorem own_lent (hc : Core w0 M S0 S γ st a w) {s : Nat} {e : TypeId} {t : Ty} {xs : List t.Den} {f : Bool} (hs : get st.heap s = some (.row e t xs f)) {off n : Nat} {v : Value} (hm : Match S w γ (.own s t off n) v) (hle : off + n ≤ xs.length) :
    Match (fun b => S b ∨ Blk (γ s) b) w γ (.lent e t (List.drop off xs) n) v := by
  have hlen : (List.drop off xs).length = xs.length - off := List.length_drop
  obtain ⟨⟨⟨cs, ho, hr⟩, _⟩, _⟩ := hc.obj s _ hs
  have hm0 := hm
  simp only [Match] at hm ⊢
  refine ⟨by rw [hlen]; omega, ?_⟩
  rcases hm with ⟨rfl, rfl, hg, rfl⟩ | ⟨g, o, m, cap, hg, hoc, p, rfl, hp, hA⟩
  · rw [hg] at ho
    rcases ho.2 with ⟨_, h0⟩ | ⟨g, o, cap, cur, h1, _⟩
    · have hx : xs = [] := by
        rcases xs with _ | ⟨x, xs⟩
        · rfl
        · simp at h0
      subst hx
      exact ⟨none, 0, rfl, rep_zero _ w (.sl e t)⟩
    · cases h1
  · refine ⟨some ⟨g, p, none⟩, cap - off, rfl, ?_⟩
    rw [hg] at ho
    have hcap : xs.length ≤ cap := by
      rcases ho.2 with ⟨h1, _⟩ | ⟨g', o', cap', cur, h1, _, h3, _⟩
      · cases h1
      · injection h1 with _ _ h4; omega
    have h2 : Match S w γ (.own s t off (xs.length - off)) (.slice (some ⟨g, p, none⟩) (xs.length - off) (cap - off)) := by
      simp only [Match]
      exact .inr ⟨g, o, m, cap, hg, by omega, p, rfl, hp, hA⟩
    have := own_rep hc hs h2 (by omega)
    rw [List.take_of_length_le (by rw [hlen]; exact Nat.le_refl _)] at this
    rw [hlen]
    exact this
theorem lendAV_ok (hc : Core w0 M S0 S γ st a w) {av b : AV} {st' : St} {ps : List Prop} (h : lendAV st av = some (b, st', ps)) (hps : ∀ p ∈ ps, p) {v : Value} (hm : Match S w γ av v) :
    ∃ S', (∀ k, S k → S' k) ∧ Core w0 M S0 S' γ st' a w ∧ Match S' w γ b v ∧ b.pure = true ∧ st'.nt = st.nt := by
  unfold lendAV at h
  split at h
  · exact pureAV_ok hc h hps hm
  · rename_i s t off n
    split at h
    · rename_i e t' xs f hs
      split at h
      · rename_i hb
        simp only [Option.some.injEq, Prod.mk.injEq] at h
        obtain ⟨rfl, rfl, rfl⟩ := h
        obtain rfl := Ty.eq_of_beq hb
        have hle : off + n ≤ List.length xs := hps _ (List.mem_cons_self ..)
        exact ⟨_, fun k hk => .inl hk, hc.freeze hs, own_lent hc hs hm hle, by simp [AV.pure], rfl⟩
      · cases h
    · cases h
  · rename_i s t
    split at h
    · rename_i e t' xs f hs
      split at h
      · rename_i hb
        simp only [Option.some.injEq, Prod.mk.injEq] at h
        obtain ⟨rfl, rfl, rfl⟩ := h
        obtain rfl := Ty.eq_of_beq hb
        refine ⟨_, fun k hk => .inl hk, hc.freeze hs, ?_, by simp [AV.pure], rfl⟩
        have := own_rep hc hs (full_own hc hs hm) (by omega)
        rw [List.drop_zero, List.take_length] at this
        exact match_data.2 ⟨[v], this, rfl⟩
      · cases h
    · cases h
  · rename_i s
    split at h
    · rename_i k e tk te l f hs
      simp only [Option.some.injEq, Prod.mk.injEq] at h
      obtain ⟨rfl, rfl, rfl⟩ := h
      exact ⟨_, fun k hk => .inl hk, hc.freezeM hs, map_rep hc hs hm, by simp [AV.pure], rfl⟩
    · cases h
  · split at h
    · rename_i hp
      simp only [Option.some.injEq, Prod.mk.injEq] at h
      obtain ⟨rfl, rfl, rfl⟩ := h
      exact ⟨S, fun _ h => h, hc, hm, hp, rfl⟩
    · cases h
theorem pureAV0_fix {st st' : St} {av b : AV} {ps : List Prop} (h : pureAV0 st av = some (b, st', ps)) : st'.fix = st.fix ∧ st'.nt = st.nt := by
  unfold pureAV0 at h
  split at h
  · split at h
    · split at h
      · simp only [Option.some.injEq, Prod.mk.injEq] at h
        obtain ⟨rfl, rfl, rfl⟩ := h
        exact ⟨rfl, rfl⟩
      · cases h
    · cases h
  · split at h
    · split at h
      · simp only [Option.some.injEq, Prod.mk.injEq] at h
        obtain ⟨rfl, rfl, rfl⟩ := h
        exact ⟨rfl, rfl⟩
      · cases h
    · cases h
  · split at h
    · simp only [Option.some.injEq, Prod.mk.injEq] at h
      obtain ⟨rfl, rfl, rfl⟩ := h
      exact ⟨rfl, rfl⟩
    · cases h
  · split at h
    · simp only [Option.some.injEq, Prod.mk.injEq] at h
      obtain ⟨rfl, rfl, rfl⟩ := h
      exact ⟨rfl, rfl⟩
    · cases h
theorem pureAVs_fix : ∀ {avs bs : List AV} {st st' : St} {ps : List Prop}, pureAVs st avs = some (bs, st', ps) → st'.fix = st.fix ∧ st'.nt = st.nt
  | [], bs, st, st', ps, h => by
    simp only [pureAVs, Option.some.injEq, Prod.mk.injEq] at h
    obtain ⟨rfl, rfl, rfl⟩ := h
    exact ⟨rfl, rfl⟩
  | av :: avs, bs, st, st', ps, h => by
    unfold pureAVs at h
    split at h
    · rename_i b st1 p hb
      split at h
      · rename_i bs' st2 q hbs
        simp only [Option.some.injEq, Prod.mk.injEq] at h
        obtain ⟨rfl, rfl, rfl⟩ := h
        exact ⟨(pureAVs_fix hbs).1.trans (pureAV0_fix hb).1, (pureAVs_fix hbs).2.trans (pureAV0_fix hb).2⟩
      · cases h
    · cases h
theorem pureAV_fix {st st' : St} {av b : AV} {ps : List Prop} (h : pureAV st av = some (b, st', ps)) : st'.fix = st.fix ∧ st'.nt = st.nt := by
  unfold pureAV at h
  split at h
  · split at h
    · split at h
      · rename_i bs st1 p hbs
        split at h
        · simp only [Option.some.injEq, Prod.mk.injEq] at h
          obtain ⟨rfl, rfl, rfl⟩ := h
          exact pureAVs_fix hbs
        · cases h
      · cases h
    · cases h
  · exact pureAV0_fix h
end

end Go.Abs
