/- Part of the proof of the law's row: YtnoeomlanbdjeaaAbsC. -/
import Derived.Test.YtnoeomlanbdjeaaAbsB
set_option linter.all false
set_option linter.unusedVariables false
set_option linter.unusedSimpArgs false
namespace Go.Abs
open Go.RowKit

def upd (γ : Nat → Value) (d : Nat) (hv : Value) : Nat → Value := fun s => if s = d then hv else γ s
theorem upd_same (γ : Nat → Value) (d : Nat) (hv : Value) : upd γ d hv d = hv := by simp [upd]
theorem upd_ne {γ : Nat → Value} {d s : Nat} {hv : Value} (h : s ≠ d) : upd γ d hv s = γ s := by simp [upd, h]

/-- What of a state is left where nothing speaks of 'd' any more. -/
structure Sub (st st1 : St) (d : Nat) : Prop where
  slot : ∀ i av, get st1.slots i = some av → av = .undef ∨ (get st.slots i = some av ∧ av.has d = false)
  obj : ∀ s o, get st1.heap s = some o → o = .dead ∨ (∃ o', get st.heap s = some o' ∧ Ob.Weak o o' ∧ o.has d = false ∧ s ≠ d)
  nt : st1.nt = st.nt
  fix : st1.fix = st.fix
theorem Core.fixs' {w0 : World} {M S0 S S' : Nat → Prop} {γ γ' : Nat → Value} {st st1 : St} {a : Act} {w w' : World} (h : Core w0 M S0 S γ st a w) (hSS : ∀ b, S b → S' b) (hag : Agree S w w') (hf : st1.fix = st.fix) :
    ∀ i av, get st1.fix i = some av → av.pure = true ∧ Match S' w' γ' av (a.tmps.getD i undef) := fun i av hi => by
  rw [hf] at hi
  obtain ⟨h1, h2⟩ := h.fixs i av hi
  exact ⟨h1, h2.mono hSS hag (fun s hs => by rw [AV.pure_has h1] at hs; cases hs)⟩
def St.kill (st : St) (d : Nat) : St := { st with slots := killS d st.slots, heap := killH d st.heap }
theorem Sub.kill (st : St) (d : Nat) : Sub st (st.kill d) d :=
  ⟨fun _ _ h => get_killS h, fun _ _ h => by
    rcases get_killH h with h | ⟨o', h1, rfl, h3⟩
    · exact .inl h
    · rcases Ob.forget_weak (o := o') (s := d) with hf | hf
      · exact .inl hf
      · exact .inr ⟨o', h1, hf, Ob.forget_has, h3⟩, rfl, rfl⟩
theorem Sub.kill2 (st : St) (s d : Nat) : Sub st ((st.kill s).kill d) d := by
  refine ⟨fun i av h => ?_, fun i o h => ?_, rfl, rfl⟩
  · rcases get_killS h with h | ⟨h, h2⟩
    · exact .inl h
    · rcases get_killS h with h | ⟨h, _⟩
      · exact .inl h
      · exact .inr ⟨h, h2⟩
  · rcases get_killH h with h | ⟨o1, h5, h6, h3⟩
    · exact .inl h
    · subst h6
      rcases get_killH h5 with rfl | ⟨o', h7, rfl, _⟩
      · exact .inl rfl
      · rcases Ob.forget_weak (o := o'.forget s) (s := d) with hf | hf
        · exact .inl hf
        · rcases Ob.forget_weak (o := o') (s := s) with hf' | hf'
          · exact .inl (by rw [hf']; rfl)
          · exact .inr ⟨o', h7, hf.trans hf', Ob.forget_has, h3⟩
theorem kill2_ne {st : St} {s d i : Nat} {o : Ob} (h : get ((st.kill s).kill d).heap i = some o) (hl : o.live = true) : i ≠ s := by
  rcases get_killH h with h | ⟨o1, h5, h6, _⟩
  · subst h; cases hl
  · subst h6
    rcases get_killH h5 with rfl | ⟨_, _, _, h7⟩
    · cases hl
    · exact h7
theorem Core.subobj {w0 : World} {M S0 S : Nat → Prop} {γ : Nat → Value} {st st1 : St} {a : Act} {w : World} {d : Nat} (h : Core w0 M S0 S γ st a w) (hsub : Sub st st1 d) {s : Nat} {o : Ob} (hs : get st1.heap s = some o) (hl : o.live = true) :
    ObOk S w γ (γ s) o ∧ (∀ k, Blk (γ s) k → M k ∨ w0.heap.size ≤ k) ∧ o.has d = false ∧ s ≠ d ∧ ∃ o', get st.heap s = some o' ∧ o'.live = true := by
  rcases hsub.obj s o hs with rfl | ⟨o', h1, h2, h3, h4⟩
  · cases hl
  · obtain ⟨g1, g2⟩ := h.obj s o' h1
    have hl' : o'.live = true := by rw [← h2.live]; exact hl
    exact ⟨g1.weak h2, g2 hl', h3, h4, o', h1, hl'⟩

/-- An object is made, out of new memory or out of the row 'row', of which nothing speaks any more. -/
theorem Core.makeS {w0 : World} {M S0 S S' : Nat → Prop} {γ : Nat → Value} {st st1 : St} {a : Act} {w w' : World} {row : Option Nat} {d : Nat} {hv : Value} {o : Ob}
    (h : Core w0 M S0 S γ st a w) (hSS : ∀ b, S b → S' b) (hSo : ∀ b, S' b → b < w.heap.size → S b) (hSl : ∀ b, S' b → b < w'.heap.size) (hg : w.grownBy w' row) (hsub : Sub st st1 d)
    (hrow : ∀ k, row = some k → ¬ S k ∧ (M k ∨ w0.heap.size ≤ k))
    (hother : ∀ s o', get st1.heap s = some o' → o'.live = true → ∀ k, Blk (γ s) k → some k ≠ row)
    (ho : ObOk S' w' (upd γ d hv) hv o) (hb : ∀ k, Blk hv k → row = some k ∨ w.heap.size ≤ k) :
    Core w0 M S0 S' (upd γ d hv) { st1 with heap := (d, o) :: st1.heap } a w' := by
  have hag : Agree S w w' := fun b hS => hg.block b (h.slt b hS) (fun e => (hrow b e.symm).1 hS)
  have hnew : ∀ k, Blk hv k → M k ∨ w0.heap.size ≤ k := fun k hk => by
    rcases hb k hk with e | e
    · exact (hrow k e).2
    · exact .inr (Nat.le_trans h.size e)
  refine ⟨hg.os.trans h.os, hg.tape.trans h.tape, hg.output.trans h.output, Nat.le_trans h.size hg.size, ?_, fun b hb => hSS b (h.s0 b hb), fun b hS hlt => h.sold b (hSo b hS (Nat.lt_of_lt_of_le hlt h.size)) hlt, hSl, ?_, ?_, ?_, h.defers, h.nt.trans hsub.nt.symm, h.fixs' hSS hag hsub.fix⟩
  · intro b h1 h2
    refine (hg.block b (Nat.lt_of_lt_of_le h1 h.size) (fun e => ?_)).trans (h.old b h1 h2)
    rcases (hrow b e.symm).2 with h | h
    · exact h2 h
    · omega
  · intro i av hi
    rcases hsub.slot i av hi with rfl | ⟨hi, hd⟩
    · simp only [Match]
    · exact (h.slot i av hi).mono hSS hag (fun s hs => upd_ne (fun e => by subst e; rw [hd] at hs; cases hs))
  · intro s o' hs
    simp only [get] at hs
    split at hs
    · rename_i e
      subst e
      have e : o = o' := by simpa using hs
      subst e
      rw [upd_same]
      exact ⟨ho, fun _ => hnew⟩
    · rename_i hne
      rw [upd_ne hne]
      cases hl : o'.live with
      | false => cases o' <;> first | (cases hl; done) | exact ⟨trivial, fun h => by cases h⟩
      | true =>
        obtain ⟨h1, h2, hd, _, _⟩ := h.subobj hsub hs hl
        exact ⟨h1.kept hSS hag hg (hother s o' hs hl) (fun k hk hS => hSo k hS (own_ob h1 hl k hk)) (fun s' hs' => upd_ne (fun e => by subst e; rw [hd] at hs'; cases hs')), fun _ => h2⟩
  · intro s s' o1 o2 h1 h2 l1 l2 hne k hk hk'
    simp only [get] at h1 h2
    by_cases e1 : s = d
    · have e2 : s' ≠ d := fun e => hne (e1.trans e.symm)
      rw [e1, upd_same] at hk
      rw [upd_ne e2] at hk'
      rw [if_neg e2] at h2
      rcases hb k hk with e | e
      · exact hother s' o2 h2 l2 k hk' e.symm
      · have := own_ob (h.subobj hsub h2 l2).1 l2 k hk'
        omega
    · rw [upd_ne e1] at hk
      rw [if_neg e1] at h1
      by_cases e2 : s' = d
      · rw [e2, upd_same] at hk'
        rcases hb k hk' with e | e
        · exact hother s o1 h1 l1 k hk e.symm
        · have := own_ob (h.subobj hsub h1 l1).1 l1 k hk
          omega
      · rw [upd_ne e2] at hk'
        rw [if_neg e2] at h2
        obtain ⟨_, _, _, _, o1', h1', l1'⟩ := h.subobj hsub h1 l1
        obtain ⟨_, _, _, _, o2', h2', l2'⟩ := h.subobj hsub h2 l2
        exact h.dis s s' o1' o2' h1' h2' l1' l2' hne k hk hk'

theorem Core.make {w0 : World} {M S0 S : Nat → Prop} {γ : Nat → Value} {st st1 : St} {a : Act} {w w' : World} {row : Option Nat} {d : Nat} {hv : Value} {o : Ob}
    (h : Core w0 M S0 S γ st a w) (hg : w.grownBy w' row) (hsub : Sub st st1 d)
    (hrow : ∀ k, row = some k → ¬ S k ∧ (M k ∨ w0.heap.size ≤ k))
    (hother : ∀ s o', get st1.heap s = some o' → o'.live = true → ∀ k, Blk (γ s) k → some k ≠ row)
    (ho : ObOk S w' (upd γ d hv) hv o) (hb : ∀ k, Blk hv k → row = some k ∨ w.heap.size ≤ k) :
    Core w0 M S0 S (upd γ d hv) { st1 with heap := (d, o) :: st1.heap } a w' :=
  h.makeS (fun _ h => h) (fun _ h _ => h) (fun b hS => Nat.lt_of_lt_of_le (h.slt b hS) hg.size) hg hsub hrow hother ho hb
/-- The world has grown by memory that nobody here knows; some of it is read from now on. -/
theorem Core.grownS {w0 : World} {M S0 S S' : Nat → Prop} {γ : Nat → Value} {st : St} {a : Act} {w w' : World} (h : Core w0 M S0 S γ st a w) (hb : Below w.heap.size w w') (hSS : ∀ b, S b → S' b) (hSo : ∀ b, S' b → b < w.heap.size → S b) (hSl : ∀ b, S' b → b < w'.heap.size) : Core w0 M S0 S' γ st a w' := by
  have hag : Agree S w w' := fun b hS => hb.block b (h.slt b hS)
  have hg : w.grownBy w' none := ⟨hb.os, hb.tape, hb.output, hb.size, fun k hk _ => hb.block k hk⟩
  refine ⟨hb.os.trans h.os, hb.tape.trans h.tape, hb.output.trans h.output, Nat.le_trans h.size hb.size, fun b h1 h2 => (hb.block b (Nat.lt_of_lt_of_le h1 h.size)).trans (h.old b h1 h2), fun b hb => hSS b (h.s0 b hb), fun b hS hlt => h.sold b (hSo b hS (Nat.lt_of_lt_of_le hlt h.size)) hlt, hSl, ?_, ?_, h.dis, h.defers, h.nt, h.fixs' hSS hag rfl⟩
  · exact fun i av hi => (h.slot i av hi).mono hSS hag (fun _ _ => rfl)
  · intro s o hs
    obtain ⟨h1, h2⟩ := h.obj s o hs
    cases hl : o.live with
    | false => cases o <;> first | (cases hl; done) | exact ⟨trivial, fun h => by cases h⟩
    | true => exact ⟨h1.kept hSS hag hg (by simp) (fun k hk hS => hSo k hS (own_ob h1 hl k hk)) (fun _ _ => rfl), fun _ => h2 hl⟩

/-- Out of new memory. -/
theorem Core.new {w0 : World} {M S0 S : Nat → Prop} {γ : Nat → Value} {st : St} {a : Act} {w w' : World} {d : Nat} {hv : Value} {o : Ob}
    (h : Core w0 M S0 S γ st a w) (hg : Below w.heap.size w w') (ho : ObOk S w' (upd γ d hv) hv o) (hb : ∀ k, Blk hv k → w.heap.size ≤ k) :
    Core w0 M S0 S (upd γ d hv) { st.kill d with heap := (d, o) :: (st.kill d).heap } a w' :=
  h.make (row := none) ⟨hg.os, hg.tape, hg.output, hg.size, fun k hk _ => hg.block k hk⟩ (Sub.kill st d) (by simp) (by simp) ho (fun k hk => .inr (hb k hk))

/-- Out of the row of an object that is given up. -/
theorem Core.moved {w0 : World} {M S0 S : Nat → Prop} {γ : Nat → Value} {st : St} {a : Act} {w w' : World} {s d : Nat} {hv : Value} {o : Ob} {e : TypeId} {t : Ty} {xs : List t.Den}
    (h : Core w0 M S0 S γ st a w) (hs : get st.heap s = some (.row e t xs false)) (hg : w.grownBy w' (γ s).ownBlock)
    (ho : ObOk S w' (upd γ d hv) hv o) (hb : ∀ k, Blk hv k → Blk (γ s) k ∨ w.heap.size ≤ k) :
    Core w0 M S0 S (upd γ d hv) { (st.kill s).kill d with heap := (d, o) :: ((st.kill s).kill d).heap } a w' := by
  obtain ⟨⟨⟨_, h0, _⟩, h1⟩, h2⟩ := h.obj s _ hs
  refine h.make hg (Sub.kill2 st s d) (fun k hk => ⟨fun hS => (by have := (h1 k (.inl hk)).1 hS; cases this), h2 rfl k (.inl hk)⟩) ?_ ho (fun k hk => (hb k hk).imp (fun h => h0.blk.1 h) (fun h => h))
  intro s' o' hs' hl k hk e
  have hne : s' ≠ s := kill2_ne hs' hl
  obtain ⟨_, _, _, _, o2, hs'', hl2⟩ := h.subobj (Sub.kill2 st s d) hs' hl
  exact h.dis s' s o2 _ hs'' hs hl2 rfl hne k hk (.inl e.symm)

/-- An object's cells are written: its head stays, and all that speaks of it. -/
theorem Core.wroteAt {w0 : World} {M S0 S : Nat → Prop} {γ : Nat → Value} {st : St} {a : Act} {w w' : World} {s : Nat} {o o1 : Ob}
    (h : Core w0 M S0 S γ st a w) (hs : get st.heap s = some o) (hlive : o.live = true) (hmut : ∀ k, Blk (γ s) k → ¬ S k) {row : Option Nat} (hrow : ∀ k, row = some k → Blk (γ s) k) (hg : w.grownBy w' row)
    (ho : ObOk S w' γ (γ s) o1) :
    Core w0 M S0 S γ { st with heap := (s, o1) :: st.heap } a w' := by
  obtain ⟨_, h2⟩ := h.obj s _ hs
  have hag : Agree S w w' := fun b hS => hg.block b (h.slt b hS) (fun e => hmut b (hrow b e.symm) hS)
  refine ⟨hg.os.trans h.os, hg.tape.trans h.tape, hg.output.trans h.output, Nat.le_trans h.size hg.size, ?_, h.s0, h.sold, fun b hS => Nat.lt_of_lt_of_le (h.slt b hS) hg.size, ?_, ?_, ?_, h.defers, h.nt, h.fixs' (fun _ h => h) hag rfl⟩
  · intro b hb1 hb2
    refine (hg.block b (Nat.lt_of_lt_of_le hb1 h.size) (fun e => ?_)).trans (h.old b hb1 hb2)
    rcases h2 hlive b (hrow b e.symm) with h | h
    · exact hb2 h
    · omega
  · exact fun i av hi => (h.slot i av hi).mono (fun _ h => h) hag (fun _ _ => rfl)
  · intro s' o' hs'
    simp only [get] at hs'
    split at hs'
    · rename_i e'
      subst e'
      have e' : o1 = o' := by simpa using hs'
      subst e'
      exact ⟨ho, fun _ => h2 hlive⟩
    · rename_i hne
      obtain ⟨g1, g2⟩ := h.obj s' o' hs'
      cases hl : o'.live with
      | false => cases o' <;> first | (cases hl; done) | exact ⟨trivial, fun h => by cases h⟩
      | true => exact ⟨g1.kept (fun _ h => h) hag hg (fun k hk e => h.dis s' s o' _ hs' hs hl hlive hne k hk (hrow k e.symm)) (fun _ _ h => h) (fun _ _ => rfl), fun _ => g2 hl⟩
  · have key : ∀ i o', get ((s, o1) :: st.heap) i = some o' → o'.live = true → ∃ o'', get st.heap i = some o'' ∧ o''.live = true := by
      intro i o' hi hl
      simp only [get] at hi
      split at hi
      · rename_i e'; subst e'; exact ⟨_, hs, hlive⟩
      · exact ⟨o', hi, hl⟩
    intro i j o1 o2 h1 h2 l1 l2 hne
    obtain ⟨o1', h1', l1'⟩ := key i o1 h1 l1
    obtain ⟨o2', h2', l2'⟩ := key j o2 h2 l2
    exact h.dis i j o1' o2' h1' h2' l1' l2' hne
theorem Core.wroteOb {w0 : World} {M S0 S : Nat → Prop} {γ : Nat → Value} {st : St} {a : Act} {w w' : World} {s : Nat} {o o1 : Ob}
    (h : Core w0 M S0 S γ st a w) (hs : get st.heap s = some o) (hlive : o.live = true) (hmut : ∀ k, Blk (γ s) k → ¬ S k) (hg : w.grownBy w' (γ s).ownBlock)
    (ho : ObOk S w' γ (γ s) o1) : Core w0 M S0 S γ { st with heap := (s, o1) :: st.heap } a w' := h.wroteAt hs hlive hmut (fun _ h => .inl h) hg ho
theorem Core.wrote {w0 : World} {M S0 S : Nat → Prop} {γ : Nat → Value} {st : St} {a : Act} {w w' : World} {s : Nat} {e : TypeId} {t : Ty} {xs ys : List t.Den}
    (h : Core w0 M S0 S γ st a w) (hs : get st.heap s = some (.row e t xs false)) (hg : w.grownBy w' (γ s).ownBlock)
    (ho : ∃ cs, Owns w' e t.sz (γ s) ys.length cs ∧ RepRow S w' t ys cs) :
    Core w0 M S0 S γ { st with heap := (s, .row e t ys false) :: st.heap } a w' := by
  obtain ⟨⟨_, h1⟩, _⟩ := h.obj s _ hs
  exact h.wroteOb hs rfl (fun k hk hS => by have := (h1 k hk).1 hS; cases this) hg ⟨ho, h1⟩

/-- A row is written no more: it is read as data from now on. -/
theorem Core.freeze {w0 : World} {M S0 S : Nat → Prop} {γ : Nat → Value} {st : St} {a : Act} {w : World} {s : Nat} {e : TypeId} {t : Ty} {xs : List t.Den} {f : Bool}
    (h : Core w0 M S0 S γ st a w) (hs : get st.heap s = some (.row e t xs f)) :
    Core w0 M S0 (fun b => S b ∨ Blk (γ s) b) γ { st with heap := (s, .row e t xs true) :: st.heap } a w := by
  have hag : Agree S w w := fun b _ => rfl
  obtain ⟨⟨h0, h1⟩, h2⟩ := h.obj s _ hs
  have hlt : ∀ k, Blk (γ s) k → k < w.heap.size := own_ob (h.obj s _ hs).1 rfl
  refine ⟨h.os, h.tape, h.output, h.size, h.old, fun b hb => .inl (h.s0 b hb), ?_, ?_, ?_, ?_, ?_, h.defers, h.nt, h.fixs' (fun _ h => .inl h) hag rfl⟩
  · rintro b (hb | hb) hlt
    · exact h.sold b hb hlt
    · rcases h2 rfl b hb with h | h
      · exact .inr h
      · omega
  · rintro b (hb | hb)
    · exact h.slt b hb
    · exact hlt b hb
  · exact fun i av hi => (h.slot i av hi).mono (fun _ h => .inl h) hag (fun _ _ => rfl)
  · intro s' o' hs'
    simp only [get] at hs'
    split at hs'
    · rename_i e'
      subst e'
      have e' : Ob.row e t xs true = o' := by simpa using hs'
      subst e'
      obtain ⟨cs, h3, h4⟩ := h0
      exact ⟨⟨⟨cs, h3, h4.mono (fun _ h => .inl h) hag⟩, fun k hk => ⟨fun _ => rfl, fun _ => .inr hk⟩⟩, h2⟩
    · rename_i hne
      obtain ⟨g1, g2⟩ := h.obj s' o' hs'
      cases hl : o'.live with
      | false => cases o' <;> first | (cases hl; done) | exact ⟨trivial, fun h => by cases h⟩
      | true =>
        refine ⟨g1.kept (row := none) (fun _ h => .inl h) hag ⟨rfl, rfl, rfl, Nat.le_refl _, fun _ _ _ => rfl⟩ (by simp) ?_ (fun _ _ => rfl), fun _ => g2 hl⟩
        rintro k hk (hS | hS)
        · exact hS
        · exact absurd hS (h.dis s' s o' _ hs' hs hl rfl hne k hk)
  · have key : ∀ i o', get ((s, Ob.row e t xs true) :: st.heap) i = some o' → o'.live = true → ∃ o'', get st.heap i = some o'' ∧ o''.live = true := by
      intro i o' hi hl
      simp only [get] at hi
      split at hi
      · rename_i e'; subst e'; exact ⟨_, hs, rfl⟩
      · exact ⟨o', hi, hl⟩
    intro i j o1 o2 h1 h2 l1 l2 hne
    obtain ⟨o1', h1', l1'⟩ := key i o1 h1 l1
    obtain ⟨o2', h2', l2'⟩ := key j o2 h2 l2
    exact h.dis i j o1' o2' h1' h2' l1' l2' hne
/-- A map is written no more. -/
theorem Core.freezeM {w0 : World} {M S0 S : Nat → Prop} {γ : Nat → Value} {st : St} {a : Act} {w : World} {s : Nat} {k0 e : TypeId} {tk te : Ty} {l : List (tk.Den × te.Den)} {f : Bool}
    (h : Core w0 M S0 S γ st a w) (hs : get st.heap s = some (.map k0 e tk te l f)) :
    Core w0 M S0 (fun b => S b ∨ Blk (γ s) b) γ { st with heap := (s, .map k0 e tk te l true) :: st.heap } a w := by
  have hag : Agree S w w := fun b _ => rfl
  obtain ⟨⟨h0, h1⟩, h2⟩ := h.obj s _ hs
  have hlt : ∀ k, Blk (γ s) k → k < w.heap.size := own_ob (h.obj s _ hs).1 rfl
  refine ⟨h.os, h.tape, h.output, h.size, h.old, fun b hb => .inl (h.s0 b hb), ?_, ?_, ?_, ?_, ?_, h.defers, h.nt, h.fixs' (fun _ h => .inl h) hag rfl⟩
  · rintro b (hb | hb) hlt
    · exact h.sold b hb hlt
    · rcases h2 rfl b hb with h | h
      · exact .inr h
      · omega
  · rintro b (hb | hb)
    · exact h.slt b hb
    · exact hlt b hb
  · exact fun i av hi => (h.slot i av hi).mono (fun _ h => .inl h) hag (fun _ _ => rfl)
  · intro s' o' hs'
    simp only [get] at hs'
    split at hs'
    · rename_i e'
      subst e'
      have e' : Ob.map k0 e tk te l true = o' := by simpa using hs'
      subst e'
      obtain ⟨g0, h3, es, h4, h5⟩ := h0
      exact ⟨⟨⟨g0, h3, es, h4, h5.mono (fun _ h => .inl h) hag⟩, fun k hk => ⟨fun _ => rfl, fun _ => .inr hk⟩⟩, h2⟩
    · rename_i hne
      obtain ⟨g1, g2⟩ := h.obj s' o' hs'
      cases hl : o'.live with
      | false => cases o' <;> first | (cases hl; done) | exact ⟨trivial, fun h => by cases h⟩
      | true =>
        refine ⟨g1.kept (row := none) (fun _ h => .inl h) hag ⟨rfl, rfl, rfl, Nat.le_refl _, fun _ _ _ => rfl⟩ (by simp) ?_ (fun _ _ => rfl), fun _ => g2 hl⟩
        rintro k hk (hS | hS)
        · exact hS
        · exact absurd hS (h.dis s' s o' _ hs' hs hl rfl hne k hk)
  · have key : ∀ i o', get ((s, Ob.map k0 e tk te l true) :: st.heap) i = some o' → o'.live = true → ∃ o'', get st.heap i = some o'' ∧ o''.live = true := by
      intro i o' hi hl
      simp only [get] at hi
      split at hi
      · rename_i e'; subst e'; exact ⟨_, hs, rfl⟩
      · exact ⟨o', hi, hl⟩
    intro i j o1 o2 h1 h2 l1 l2 hne
    obtain ⟨o1', h1', l1'⟩ := key i o1 h1 l1
    obtain ⟨o2', h2', l2'⟩ := key j o2 h2 l2
    exact h.dis i j o1' o2' h1' h2' l1' l2' hne
/-- .. and is data. -/
theorem map_rep {w0 : World} {M S0 S : Nat → Prop} {γ : Nat → Value} {st : St} {a : Act} {w : World} {s : Nat} {k0 e : TypeId} {tk te : Ty} {l : List (tk.Den × te.Den)} {f : Bool}
    (h : Core w0 M S0 S γ st a w) (hs : get st.heap s = some (.map k0 e tk te l f)) {v : Value} (hm : Match S w γ (.mptr s) v) : Match (fun b => S b ∨ Blk (γ s) b) w γ (.data (.map k0 e tk te) l) v := by
  obtain ⟨⟨g, h1, es, h2, h3⟩, _⟩ := (h.obj s _ hs).1
  simp only [Match] at hm ⊢
  obtain ⟨g', h4, rfl⟩ := hm
  rw [h1] at h4
  simp only [Value.slice.injEq, Option.some.injEq, Addr.mk.injEq, and_true] at h4
  subst h4
  refine ⟨[.map (some g)], rep_map.2 ⟨some g, rfl, fun h => (by cases h), fun b hb => ?_⟩, rfl⟩
  simp only [Option.some.injEq] at hb
  subst hb
  exact ⟨.inr (by rw [h1]; exact blk_at), es, h2, h3.mono (fun _ h => .inl h) (fun _ _ => rfl)⟩
end Go.Abs
