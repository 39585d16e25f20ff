/- Part of the proof of the law's row: YtnoeomlanbdjeaaAbsV2. -/
import Derived.Test.YtnoeomlanbdjeaaAbsV
set_option linter.all false
set_option linter.unusedVariables false
set_option linter.unusedSimpArgs false
namespace Go
/-! ### Regions that draw: quiet operations in any order, up to one behind which all others stand -/
section
variable {P : Program} {ops : Array Oper} {C : World → Prop}
def wpAnyP (P : Program) (ops : Array Oper) (C : World → Prop) (B : Nat) (Q : Array Bool → Act → Prop) : Nat → Array Bool → Act → Prop
  | 0, listed, a => Q listed a
  | fuel + 1, listed, a => Region.ready .any ops listed ≠ [] ∧ ∀ i ∈ Region.ready .any ops listed, qOp P ops C i (wpAnyP P ops C B Q fuel (listed.setIfInBounds i true)) a
theorem wpAny_of_phase {B : Nat} {Q : Array Bool → Act → Prop} {Q' : Exit → Act → World → Prop} {f : Nat} (hQ : ∀ listed a w, C w → Q listed a → wpAny P .any ops Q' f listed a w) : ∀ (n : Nat) (listed : Array Bool) (a : Act) (w : World), C w →
    wpAnyP P ops C B Q n listed a → wpAny P .any ops Q' (n + f) listed a w
  | 0, _, _, _, hw, h => by rw [Nat.zero_add]; exact hQ _ _ _ hw h
  | n + 1, _, _, _, hw, h => by
    rw [show n + 1 + f = (n + f) + 1 by omega]
    exact ⟨fun h0 => absurd h0 h.1, fun i hi => wpOp_of_qOp hw (fun a' w' hw' => wpAny_of_phase hQ n _ a' w' hw') (h.2 i hi)⟩
def Closed (ops : Array Oper) (listed : Array Bool) : Prop := ∀ (j : Nat) oj, ops[j]? = some oj → listed.getD j false = true → ∀ e ∈ oj.after, Region.binds .any e = true → listed.getD e.on false = true
theorem Closed.set {listed : Array Bool} (h : Closed ops listed) {i : Nat} (hi : i ∈ Region.ready .any ops listed) : Closed ops (listed.setIfInBounds i true) := by
  intro j oj hj hl e he hb
  obtain ⟨h1, oi, hoi, hall⟩ := mem_ready.1 hi
  by_cases hij : i = j
  · subst hij
    rw [hj] at hoi
    simp only [Option.some.injEq] at hoi
    subst hoi
    exact getD_set_true (hall e he hb)
  · rw [getD_set_ne false hij] at hl
    exact getD_set_true (h j oj hj hl e he hb)
/-- How many of the first 'B' are not listed. -/
def unl (listed : Array Bool) (B : Nat) : List Nat := (List.range B).filter fun i => !listed.getD i true
/-- No other is ready, while one of these is not done. -/
def BarAt (ops : Array Oper) (k0 B : Nat) : Prop := ∀ listed : Array Bool, Closed ops listed → (∀ j, B ≤ j → listed.getD j false = false) → (∃ i, k0 ≤ i ∧ i < B ∧ listed.getD i true = false) → ∀ j ∈ Region.ready .any ops listed, j < B
theorem unl_set {listed : Array Bool} {B j : Nat} (hj : j < B) (hu : listed.getD j true = false) : (unl (listed.setIfInBounds j true) B).length + 1 = (unl listed B).length := by
  unfold unl
  have key : ∀ (l : List Nat), l.Nodup → j ∈ l → (l.filter fun i => !(listed.setIfInBounds j true).getD i true).length + 1 = (l.filter fun i => !listed.getD i true).length := by
    intro l
    induction l with
    | nil => intro _ h; cases h
    | cons x l ih =>
      intro hnd hm
      rw [List.nodup_cons] at hnd
      have hjs : (listed.setIfInBounds j true).getD j true = true := by
        rcases Nat.lt_or_ge j listed.size with h | h
        · simp [h]
        · simp [Array.getElem?_eq_none h]
      by_cases hx : x = j
      · subst hx
        have h2 : (l.filter fun i => !(listed.setIfInBounds x true).getD i true) = l.filter fun i => !listed.getD i true := by
          apply List.filter_congr
          intro y hy
          rw [getD_set_ne true (by rintro rfl; exact hnd.1 hy)]
        rw [List.filter_cons, List.filter_cons, hjs, hu, h2]
        simp
      · have hm' : j ∈ l := (List.mem_cons.1 hm).resolve_left (fun e => hx e.symm)
        have := ih hnd.2 hm'
        rw [List.filter_cons, List.filter_cons, getD_set_ne true (fun e => hx e.symm)]
        split
        · simp only [List.length_cons]; omega
        · exact this
  exact key _ List.nodup_range (List.mem_range.2 hj)
theorem unl_two {listed : Array Bool} {B i j : Nat} (hi : i < B) (hj : j < B) (hne : j ≠ i) (hui : listed.getD i true = false) (huj : listed.getD j true = false) : 2 ≤ (unl listed B).length := by
  have h1 := unl_set hi hui
  have h2 := unl_set (listed := listed.setIfInBounds i true) hj (by rw [getD_set_ne true (Ne.symm hne)]; exact huj)
  omega
theorem wpAnyP_first {B k0 : Nat} {Q : Array Bool → Act → Prop} {i : Nat} {oi : Oper} {v : Value} (hi : ops[i]? = some oi) (hiB : i < B) (hk0 : k0 ≤ i) (hbar : BarAt ops k0 B) (hsel : ∀ (j : Nat) (o : Oper) cs b, ops[j]? = some o → o.op ≠ .select cs b) :
    ∀ (fuel : Nat) (listed : Array Bool) (a : Act),
      (∀ j oj, ops[j]? = some oj → j ≠ i → listed.getD j true = false → (∀ e ∈ oj.after, Region.binds .any e = true → e.on ≠ i) → oi.apart ops oj = true) →
      Closed ops listed → (∀ j, B ≤ j → listed.getD j false = false) → (unl listed B).length = fuel + 1 →
      i ∈ Region.ready .any ops listed → YieldsIn P ops C oi v a →
      wpAnyP P ops C B Q fuel (listed.setIfInBounds i true) (a.put oi.dst v) → wpAnyP P ops C B Q (fuel + 1) listed a := by
  intro fuel
  induction fuel with
  | zero =>
    intro listed a _ hcl hbe hcnt hr hy H
    refine ⟨fun h => (by rw [h] at hr; cases hr), fun j hj => ?_⟩
    by_cases hji : j = i
    · subst hji; exact hy.qOp hi H
    · exfalso
      have hui := (mem_ready.1 hr).1
      have hjB := hbar listed hcl hbe ⟨i, hk0, hiB, hui⟩ j hj
      have := unl_two hiB hjB hji hui (mem_ready.1 hj).1
      omega
  | succ fuel ih =>
    intro listed a hfree hcl hbe hcnt hr hy H
    refine ⟨fun h => (by rw [h] at hr; cases hr), fun j hj => ?_⟩
    by_cases hji : j = i
    · subst hji; exact hy.qOp hi H
    · have hui := (mem_ready.1 hr).1
      have hjB := hbar listed hcl hbe ⟨i, hk0, hiB, hui⟩ j hj
      have h1 := H.2 j (ready_mono hj hji)
      obtain ⟨hjun, oj, hoj, hall⟩ := mem_ready.1 hj
      have hnot : ∀ e ∈ oj.after, Region.binds .any e = true → e.on ≠ i := fun e he hb heq => by
        have h1 := hall e he hb
        have h0 := (mem_ready.1 hr).1
        rw [heq] at h1
        rcases Nat.lt_or_ge i listed.size with h' | h'
        · simp [h'] at h0 h1; rw [h0] at h1; cases h1
        · simp [Array.getElem?_eq_none h'] at h1
      have h2 := qOp_put hoj (hfree j oj hoj hji hjun hnot) (fun cs b => hsel i oi cs b hi) (fun cs b => hsel j oj cs b hoj) hy h1
      have hfree' : ∀ k ok, ops[k]? = some ok → k ≠ i → (listed.setIfInBounds j true).getD k true = false →
          (∀ e ∈ ok.after, Region.binds .any e = true → e.on ≠ i) → oi.apart ops ok = true := fun k ok hk hki hun hno => by
        refine hfree k ok hk hki ?_ hno
        by_cases hjk : j = k
        · subst hjk; exact hjun
        · rw [getD_set_ne true hjk] at hun; exact hun
      refine qOp_mono (fun a' h3 => ih (listed.setIfInBounds j true) a' hfree' (hcl.set hj) ?_ ?_ (ready_mono hr (Ne.symm hji)) h3.1 ?_) h2
      · intro k hk
        rw [getD_set_ne false (by omega)]
        exact hbe k hk
      · have := unl_set hjB hjun
        omega
      · rw [Array.setIfInBounds_comm _ _ hji]
        exact h3.2
/-- The first operations, in their order. -/
def Region.lexTo (ops : Array Oper) : Nat → Nat → Array Bool → Bool
  | 0, _, _ => true
  | n + 1, k, listed => (Region.ready .any ops listed).contains k && Region.free .any ops listed k && Region.lexTo ops n (k + 1) (listed.setIfInBounds k true)
def Region.mark : Nat → Nat → Array Bool → Array Bool
  | 0, _, listed => listed
  | n + 1, k, listed => Region.mark n (k + 1) (listed.setIfInBounds k true)
theorem wpAnyP_lex {B k0 : Nat} {Q : Array Bool → Act → Prop} {Q1 : Act → Prop} (hbar : BarAt ops k0 B) (hs : Region.noSelect ops = true) : ∀ (l : List Oper) (k : Nat) (listed : Array Bool) (a : Act), k0 ≤ k → k + l.length = B → (∀ j, j < l.length → l[j]? = ops[k + j]?) →
    Closed ops listed → (∀ j, B ≤ j → listed.getD j false = false) → (unl listed B).length = l.length →
    Region.lexTo ops l.length k listed = true → (∀ a, Q1 a → Q (Region.mark l.length k listed) a) → wpQuiet P ops C Q1 l a → wpAnyP P ops C B Q l.length listed a
  | [], _, _, _, _, _, _, _, _, _, _, hQ, h => hQ _ h
  | o :: l, k, listed, a, hk, hB, hl, hcl, hbe, hcnt, hx, hQ, h => by
    simp only [List.length_cons] at hB hcnt
    have h0 : ops[k]? = some o := by simpa using (hl 0 (by simp)).symm
    simp only [List.length_cons, Region.lexTo, Bool.and_eq_true] at hx
    obtain ⟨⟨hr, hf⟩, hx'⟩ := hx
    have hr : k ∈ Region.ready .any ops listed := by simpa using hr
    have hst : qOp P ops C k (wpQuiet P ops C Q1 l) a := by unfold qOp; simp only [h0]; exact h
    obtain ⟨v, hy, hK⟩ := yieldsIn_of_qOp h0 hst
    refine wpAnyP_first h0 (by omega) hk hbar (Region.noSelect_spec hs) l.length listed a (Region.free_spec h0 hf) hcl hbe (by omega) hr hy
      (wpAnyP_lex hbar hs l (k + 1) _ _ (by omega) (by omega) (fun j hj => by have := hl (j + 1) (by simp; omega); simpa [Nat.add_assoc, Nat.add_comm 1 j] using this) (hcl.set hr) ?_ ?_ hx' (fun a ha => hQ a ha) hK)
    · intro j hj
      rw [getD_set_ne false (by omega)]
      exact hbe j hj
    · have := unl_set (B := B) (by omega) (mem_ready.1 hr).1
      omega
/-- Each of these is waited for, up to 'B'; all behind 'B' wait for some that are not ahead of it. -/
def Region.barB (ops : Array Oper) (k0 B : Nat) : Bool :=
  ((List.range (B - k0)).all fun d => (List.range (B - (k0 + d))).any fun x => match ops[k0 + d + 1 + x]? with
    | some oj => oj.after.any fun e => Region.binds .any e && e.on == k0 + d
    | none => false) &&
  ((List.range (ops.size - (B + 1))).all fun d => match ops[B + 1 + d]? with
    | some oj => oj.after.any fun e => Region.binds .any e && decide (B ≤ e.on)
    | none => false)
theorem barAt_of {k0 B : Nat} (h : Region.barB ops k0 B = true) : BarAt ops k0 B := by
  intro listed hcl hbe ⟨i, hk, hiB, hui⟩ j hj
  simp only [Region.barB, Bool.and_eq_true, List.all_eq_true, List.mem_range] at h
  obtain ⟨h1, h2⟩ := h
  obtain ⟨hjun, oj, hoj, hall⟩ := mem_ready.1 hj
  have hjs : j < ops.size := (Array.getElem?_eq_some_iff.1 hoj).1
  rcases Nat.lt_or_ge j B with hlt | hge
  · exact hlt
  exfalso
  rcases Nat.lt_or_ge B j with hgt | hle
  · have := h2 (j - (B + 1)) (by omega)
    rw [show B + 1 + (j - (B + 1)) = j by omega, hoj] at this
    obtain ⟨e, he, hb⟩ := Array.any_eq_true'.1 this
    simp only [Bool.and_eq_true, decide_eq_true_eq] at hb
    have h3 := hall e he hb.1
    rw [hbe _ hb.2] at h3
    cases h3
  · have hjB : j = B := by omega
    subst hjB
    have key : ∀ n i', k0 ≤ i' → i' < j → j - i' ≤ n → listed.getD i' false = true := by
      intro n
      induction n with
      | zero => intro i' _ h4 h5; omega
      | succ n ih =>
        intro i' h3 h4 h5
        have h6 := h1 (i' - k0) (by omega)
        rw [show k0 + (i' - k0) = i' by omega] at h6
        obtain ⟨x, hx, h7⟩ := List.any_eq_true.1 h6
        rw [List.mem_range] at hx
        split at h7
        · rename_i oj' hoj'
          obtain ⟨e, he, hb⟩ := Array.any_eq_true'.1 h7
          simp only [Bool.and_eq_true, beq_iff_eq] at hb
          by_cases hxe : i' + 1 + x = j
          · rw [hxe, hoj] at hoj'
            simp only [Option.some.injEq] at hoj'
            subst hoj'
            have := hall e he hb.1
            rw [hb.2] at this
            exact this
          · have := hcl _ oj' hoj' (ih (i' + 1 + x) (by omega) (by omega) (by omega)) e he hb.1
            rw [hb.2] at this
            exact this
        · cases h7
    have h8 := key (j - i) i hk hiB (Nat.le_refl _)
    rcases Nat.lt_or_ge i listed.size with h9 | h9
    · simp [h9] at h8 hui; rw [h8] at hui; cases hui
    · simp [Array.getElem?_eq_none h9] at h8
def Region.closedB (ops : Array Oper) (k : Nat) : Bool := (List.range k).all fun j => match ops[j]? with
  | some oj => oj.after.all fun e => !Region.binds .any e || decide (e.on < k)
  | none => true
/-- The first 'k' are listed. -/
def Inv (ops : Array Oper) (k : Nat) (listed : Array Bool) : Prop := listed.size = ops.size ∧ (∀ j, j < k → listed.getD j false = true) ∧ ∀ j, k ≤ j → listed.getD j false = false
theorem Inv.set {k : Nat} {listed : Array Bool} (h : Inv ops k listed) (hk : k < ops.size) : Inv ops (k + 1) (listed.setIfInBounds k true) := by
  refine ⟨by simpa using h.1, fun j hj => ?_, fun j hj => ?_⟩
  · by_cases e : k = j
    · subst e
      have : k < listed.size := by rw [h.1]; exact hk
      simp [this]
    · exact getD_set_true (h.2.1 j (by omega))
  · rw [getD_set_ne false (by omega)]
    exact h.2.2 j (by omega)
theorem Inv.mark : ∀ {n k : Nat} {listed : Array Bool}, Inv ops k listed → k + n ≤ ops.size → Inv ops (k + n) (Region.mark n k listed)
  | 0, _, _, h, _ => h
  | n + 1, k, listed, h, hn => by
    rw [show k + (n + 1) = k + 1 + n by omega]
    exact Inv.mark (h.set (by omega)) (by omega)
theorem Inv.closed {k : Nat} {listed : Array Bool} (h : Inv ops k listed) (hb : Region.closedB ops k = true) : Closed ops listed := by
  intro j oj hj hl e he hbd
  have hjk : j < k := by
    rcases Nat.lt_or_ge j k with h1 | h1
    · exact h1
    · rw [h.2.2 j h1] at hl; cases hl
  simp only [Region.closedB, List.all_eq_true, List.mem_range] at hb
  have := hb j hjk
  rw [hj] at this
  have := Array.all_eq_true_iff_forall_mem.1 this e he
  rw [hbd] at this
  simp at this
  exact h.2.1 _ this
theorem Inv.unlisted {k : Nat} {listed : Array Bool} (h : Inv ops k listed) {j : Nat} (hj : j < ops.size) : listed.getD j true = decide (j < k) := by
  have hs : j < listed.size := by rw [h.1]; exact hj
  by_cases hk : j < k
  · have := h.2.1 j hk
    simp [hs] at this ⊢
    simp [this, hk]
  · have := h.2.2 j (by omega)
    simp [hs] at this ⊢
    simp [this, hk]
theorem Inv.count {k B : Nat} {listed : Array Bool} (h : Inv ops k listed) (hk : k ≤ B) (hB : B ≤ ops.size) : (unl listed B).length = B - k := by
  have : unl listed B = (List.range B).filter fun i => decide (k ≤ i) := by
    unfold unl
    apply List.filter_congr
    intro x hx
    rw [List.mem_range] at hx
    rw [h.unlisted (by omega)]
    by_cases hxk : x < k
    · simp [hxk]
    · simp [hxk]; omega
  rw [this]
  clear this hB
  induction B with
  | zero => simp
  | succ B ih =>
    rw [List.range_succ, List.filter_append, List.length_append]
    by_cases e : k = B + 1
    · subst e
      have h0 : ((List.range B).filter fun i => decide (B + 1 ≤ i)) = [] := by
        rw [List.filter_eq_nil_iff]
        intro x hx
        rw [List.mem_range] at hx
        simp; omega
      rw [h0]
      simp
    · rw [ih (by omega)]
      have : k ≤ B := by omega
      simp [this]
      omega
end
end Go
namespace Go.Abs
open Go.RowKit
/-- Operations that stand alone: all ahead of them are done, all behind them wait. -/
def barOp (Γ : Env) (o : Oper) : Bool := match o.op with
  | .alloc _ => true
  | .box _ _ => true
  | .buildSlice _ _ _ => true
  | .makeSlice _ _ _ => true
  | .store _ _ _ => true
  | .insert _ _ _ _ => true
  | .mapUpdate _ _ _ _ => true
  | .makeMap _ _ => true
  | .range _ _ => true
  | .build T _ => Γ.bars.contains T
  | .call c => (match c.callee with
    | .builtin b => (match b with
      | .len => false
      | .cap => false
      | .max => false
      | .min => false
      | _ => true)
    | .value _ => (match Γ.ty o.type with
      | some t => !t.flat
      | none => true)
    | .invoke _ _ => true)
  | _ => false
def planB (ops : Array Oper) (bar : Oper → Bool) : Nat → List Oper → Nat → Array Bool → Bool
  | 0, _, _, _ => false
  | n + 1, l, k, listed =>
    Region.lexTo ops (l.takeWhile fun o => !bar o).length k listed && (Region.closedB ops k && (match l.drop (l.takeWhile fun o => !bar o).length with
      | [] => (Region.ready .any ops (Region.mark (l.takeWhile fun o => !bar o).length k listed)).isEmpty
      | _ :: rest => Region.barB ops k (k + (l.takeWhile fun o => !bar o).length) && ((Region.ready .any ops (Region.mark (l.takeWhile fun o => !bar o).length k listed) == [k + (l.takeWhile fun o => !bar o).length]) &&
        planB ops bar n rest (k + (l.takeWhile fun o => !bar o).length + 1) ((Region.mark (l.takeWhile fun o => !bar o).length k listed).setIfInBounds (k + (l.takeWhile fun o => !bar o).length) true))))
def drawB (ops : Array Oper) (bar : Oper → Bool) : Bool := Region.noSelect ops && planB ops bar (ops.size + 1) ops.toList 0 (Array.replicate ops.size false)
noncomputable def runD (Γ : Env) (Φ : Sigs) (ops : List Oper) (bar : Oper → Bool) : Nat → (R : Type) → List Oper → St → (St → Option R) → Option R
  | 0, _, _, _, _ => none
  | n + 1, R, l, st, k => runG Γ Φ ops (2 * l.length + 2) [] R (l.takeWhile fun o => !bar o) st fun st1 =>
      (match l.drop (l.takeWhile fun o => !bar o).length with
      | [] => k st1
      | b :: rest => if b.guard.isNone then stepK Γ Φ R st1 b fun st2 => runD Γ Φ ops bar n R rest st2 k else none)
section
variable {Γ : Env} {Φ : Sigs} {w0 : World} {M S0 : Nat → Prop}
theorem takeWhile_le {α : Type _} {p : α → Bool} : ∀ {l : List α}, (l.takeWhile p).length ≤ l.length
  | [] => by simp
  | x :: l => by
    rw [List.takeWhile_cons]
    split
    · simp only [List.length_cons]; have := takeWhile_le (p := p) (l := l); omega
    · simp
theorem take_takeWhile {α : Type _} {p : α → Bool} : ∀ {l : List α}, l.takeWhile p = l.take (l.takeWhile p).length
  | [] => by simp
  | x :: l => by
    rw [List.takeWhile_cons]
    split
    · rw [List.length_cons, List.take_succ_cons, ← take_takeWhile]
    · simp
theorem runD_any (hΓ : HCtx Γ w0 M S0) (hΦ : SigsOk Γ.P Γ.gl Φ) {ops : List Oper} {bar : Oper → Bool} (hs : Region.noSelect ops.toArray = true) {R : Type} {k : St → Option R} {x : R} {Q : Exit → Act → World → Prop} {fx : List (Nat × AV)}
    (hQ : ∀ st' a' w' S' γ', k st' = some x → st'.fix = fx → Core w0 M S0 S' γ' st' a' w' → Q .normal a' w') : ∀ (n : Nat) {l : List Oper} {p : Nat} {listed : Array Bool} {st : St} {S : Nat → Prop} {γ : Nat → Value} {a : Act} {w : World}, Core w0 M S0 S γ st a w → st.fix = fx →
    (∀ j, l[j]? = ops.toArray[p + j]?) → p + l.length = ops.length → Inv ops.toArray p listed → planB ops.toArray bar n l p listed = true → runD Γ Φ ops bar n R l st k = some x → wpAny Γ.P .any ops.toArray Q l.length listed a w := by
  intro n
  induction n with
  | zero => intro l p listed st S γ a w _ _ _ _ _ hp; simp [planB] at hp
  | succ n ih =>
    intro l p listed st S γ a w hc hfx hl hlen hinv hp h
    simp only [planB, Bool.and_eq_true] at hp
    obtain ⟨hlex, hclosed, hp⟩ := hp
    simp only [runD] at h
    generalize hm : (l.takeWhile fun o => !bar o).length = m at *
    have hph : (l.takeWhile fun o => !bar o) = l.take m := by rw [← hm]; exact take_takeWhile
    have hml : m ≤ l.length := by rw [← hm]; exact takeWhile_le
    rw [hph] at h
    have hlt : (l.take m).length = m := by rw [List.length_take]; omega
    have hcl := hinv.closed hclosed
    have hsz : ops.toArray.size = ops.length := by simp
    -- the phase
    have phase : ∀ (f : Nat), l.length = m + f → BarAt ops.toArray p (p + m) → (∀ st1 a1 w1, Below w.heap.size w w1 → (match l.drop m with
        | [] => k st1
        | b :: rest => if b.guard.isNone then stepK Γ Φ R st1 b fun st2 => runD Γ Φ ops bar n R rest st2 k else none) = some x → st1.fix = fx → Core w0 M S0 S γ st1 a1 w1 → wpAny Γ.P .any ops.toArray Q f (Region.mark m p listed) a1 w1) → wpAny Γ.P .any ops.toArray Q l.length listed a w := by
      intro f hf hbar hgo
      rw [hf]
      refine wpAny_of_phase (C := fun w' => Below w.heap.size w w') (B := p + m) (Q := fun L a' => L = Region.mark m p listed ∧ ∀ w', Below w.heap.size w w' → wpAny Γ.P .any ops.toArray Q f (Region.mark m p listed) a' w') ?_ m listed a w ⟨rfl, rfl, rfl, Nat.le_refl _, fun _ _ => rfl⟩ ?_
      · rintro L a' w' hw' ⟨rfl, h2⟩
        exact h2 w' hw'
      · have hq := runG_ok (rest := []) (Q := fun a' => ∀ w', Below w.heap.size w w' → wpAny Γ.P .any ops.toArray Q f (Region.mark m p listed) a' w') hΓ hΦ hc h fun st' a' k1 k2 k3 _ => wpQuiet_nil fun w' hw' => hgo st' a' w' hw' k1 (k2.trans hfx) (k3.grown hw')
        rw [List.append_nil] at hq
        have := wpAnyP_lex (C := fun w' => Below w.heap.size w w') (k0 := p) (B := p + m) (Q := fun L a' => L = Region.mark m p listed ∧ ∀ w', Below w.heap.size w w' → wpAny Γ.P .any ops.toArray Q f (Region.mark m p listed) a' w') hbar hs (l.take m) p listed a (Nat.le_refl _) (by rw [hlt]) (fun j hj => by rw [hlt] at hj; rw [List.getElem?_take_of_lt hj]; exact hl j) hcl (fun j hj => hinv.2.2 j (by omega)) (by rw [hinv.count (by omega) (by rw [hsz]; omega), hlt]; omega) (by rw [hlt]; exact hlex) (fun a' ha' => by rw [hlt]; exact ⟨rfl, ha'⟩) hq
        rw [hlt] at this
        exact this
    cases hd : l.drop m with
    | nil =>
      rw [hd] at hp
      have hf : l.length = m + 0 := by
        have := List.length_drop (i := m) (l := l)
        rw [hd] at this
        simp at this
        omega
      refine phase 0 hf ?_ ?_
      · intro L _ hbe _ j hj
        obtain ⟨_, oj, hoj, _⟩ := mem_ready.1 hj
        have := (Array.getElem?_eq_some_iff.1 hoj).1
        rw [hsz] at this
        omega
      · intro st1 a1 w1 _ h1 h2 h3
        rw [hd] at h1
        exact wpAny_done (by simpa using hp) (hQ st1 a1 w1 S γ h1 h2 h3) 0
    | cons b rest =>
      rw [hd] at hp
      simp only [Bool.and_eq_true, beq_iff_eq] at hp
      obtain ⟨hbar, hready, hp⟩ := hp
      have hf : l.length = m + (rest.length + 1) := by
        have := List.length_drop (i := m) (l := l)
        rw [hd] at this
        simp at this
        omega
      refine phase (rest.length + 1) hf (barAt_of hbar) ?_
      intro st1 a1 w1 _ h1 h2 h3
      rw [hd] at h1
      simp only at h1
      split at h1
      rotate_left
      · cases h1
      rename_i hg
      have hg : b.guard = none := by simpa using hg
      refine wpAny_all hready (by simp) ?_
      intro i hi
      rw [List.mem_singleton] at hi
      subst hi
      have hb : ops.toArray[p + m]? = some b := by
        rw [← hl m]
        have := List.getElem?_drop (xs := l) (i := m) (j := 0)
        rw [hd] at this
        simpa using this.symm
      unfold wpOp
      simp only [hb]
      rw [if_pos (by simp [Region.wanted, hg])]
      refine .inl (stepK_op hΓ hΦ h3 h1 ?_)
      intro st2 a2 w2 S2 γ2 g1 g2 g3
      refine ih g3 (g2.trans h2) (fun j => ?_) (by omega) ((hinv.mark (by rw [hsz]; omega)).set (by rw [hsz]; omega)) hp g1
      have := hl (m + 1 + j)
      rw [show p + m + 1 + j = p + (m + 1 + j) by omega, ← this]
      have h5 := List.getElem?_drop (xs := l) (i := m) (j := j + 1)
      rw [hd, List.getElem?_cons_succ] at h5
      rw [h5]
      congr 1
      omega
theorem runD_ok (hΓ : HCtx Γ w0 M S0) (hΦ : SigsOk Γ.P Γ.gl Φ) {ops : Array Oper} {bar : Oper → Bool} (hB : drawB ops bar = true) {R : Type} {k : St → Option R} {x : R} {Q : Exit → Act → World → Prop} {st : St} {S : Nat → Prop} {γ : Nat → Value} {a : Act} {w : World} {id : Nat} (hc : Core w0 M S0 S γ st a w)
    (h : runD Γ Φ ops.toList bar (ops.size + 1) R ops.toList st k = some x) (hQ : ∀ st' a' w' S' γ', k st' = some x → st'.fix = st.fix → Core w0 M S0 S' γ' st' a' w' → Q .normal a' w') : (Code.region id ops true).wp Γ.P Q a w := by
  simp only [drawB, Bool.and_eq_true] at hB
  refine wp_region_any hΓ.mixed ?_
  have hops : ops.toList.toArray = ops := by simp
  have hc' : Core w0 M S0 S γ st a { w with drawn := w.drawn + 1 } := hc.grown ⟨rfl, rfl, rfl, Nat.le_refl _, fun _ _ => rfl⟩
  have := runD_any (ops := ops.toList) (bar := bar) hΓ hΦ (by rw [hops]; exact hB.1) (Q := Q) (fx := st.fix) hQ (ops.size + 1) (l := ops.toList) (p := 0) (listed := Array.replicate ops.size false) hc' rfl (by simp) (by simp) ⟨by simp, by simp, fun j _ => by simp [Array.getD_eq_getD_getElem?, Array.getElem?_replicate]; split <;> simp⟩ (by rw [hops]; exact hB.2) h
  rw [hops] at this
  simpa using this
/-- Behind a region that draws: variables bear their rows' names. -/
def settles : AV → Bool
  | .own _ _ _ _ => true
  | .full _ _ => true
  | .nilS => true
  | _ => false
def settle (Γ : Env) (st : St) : List (Nat × TypeId) → St
  | [] => st
  | (d, T) :: r => (match get st.slots d with
    | some av => if settles av then (match assignSt Γ st d T av with
      | some st' => settle Γ st' r
      | none => settle Γ st r) else settle Γ st r
    | none => settle Γ st r)
theorem put_own {a : Act} {d : Nat} (hd : d < a.tmps.size) : a.put (some d) (a.tmps.getD d undef) = a := by
  have h : a.tmps.setIfInBounds d a.tmps[d] = a.tmps := by
    apply Array.ext
    · simp
    · intro i h1 h2
      rw [Array.getElem_setIfInBounds]
      split
      · rename_i e; subst e; rfl
      · rfl
  simp [Act.put, Array.getD_eq_getD_getElem?, hd, h]
theorem settle_ok : ∀ {l : List (Nat × TypeId)} {st : St} {S : Nat → Prop} {γ : Nat → Value} {a : Act} {w : World}, Core w0 M S0 S γ st a w → ∃ γ', Core w0 M S0 S γ' (settle Γ st l) a w ∧ (settle Γ st l).fix = st.fix
  | [], st, S, γ, a, w, hc => ⟨γ, hc, rfl⟩
  | (d, T) :: r, st, S, γ, a, w, hc => by
    unfold settle
    split
    · rename_i av hav
      split
      · split
        · rename_i st' hst
          have hlt : d < a.tmps.size := by
            unfold assignSt at hst
            split at hst
            · rename_i hd
              simp only [St.ok, Bool.and_eq_true, decide_eq_true_eq] at hd
              rw [hc.nt]
              exact hd.1
            · cases hst
          obtain ⟨γ1, h1⟩ := assignSt_ok hc hst (hc.slot d av hav)
          rw [put_own hlt] at h1
          obtain ⟨γ2, h2, h3⟩ := settle_ok (l := r) h1
          exact ⟨γ2, h2, h3.trans (assignSt_fix hst)⟩
        · exact settle_ok hc
      · exact settle_ok hc
    · exact settle_ok hc
end
end Go.Abs
