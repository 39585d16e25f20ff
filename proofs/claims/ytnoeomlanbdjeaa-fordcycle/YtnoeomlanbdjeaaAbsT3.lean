/- Part of the proof of the law's row: YtnoeomlanbdjeaaAbsT3. -/
import Derived.Test.YtnoeomlanbdjeaaAbsT2
set_option linter.all false
set_option linter.unusedVariables false
set_option linter.unusedSimpArgs false
namespace Go.Abs
open Go.RowKit

/-! ### Rows of slices, each of which has a row of its own -/
/-- The name of a family of rows. -/
def famName (d : Nat) : Nat := 200000 + d
/-- A row that stands at a place of a family's goes back to the family. -/
def mergeD (st : St) (s : Nat) : Option St :=
  match get st.heap s with
  | some (.deep _ _ _ none) => some st
  | some (.deep e t c (some (i, some d))) => (match get st.heap d, get st.heap c with
    | some (.row e2 t2 xs false), some (.fam e3 t3 xss) => if Nat.beq e2 e3 && (Ty.beq t2 t3 && (!Nat.beq d c && (!Nat.beq s c && !Nat.beq d s))) then
        (match Ty.cast (.sl 0 t2) (.sl 0 t3) xs with
        | some ys => some { (st.kill d).kill c with heap := (s, .deep e t c none) :: (c, .fam e3 t3 (xss.set i ys)) :: ((st.kill d).kill c).heap }
        | none => none)
      else none
    | _, _ => none)
  | _ => none
/-- A row is taken out of a family. -/
def takeD (st : St) (s i d : Nat) (t2 : Ty) : Option (St × List Prop) :=
  match get st.heap s with
  | some (.deep e t c none) => (match get st.heap c with
    | some (.fam e3 t3 xss) => if Ty.beq t2 t3 && (!Nat.beq d c && (!Nat.beq s c && !Nat.beq d s)) then
        some ({ (st.kill d).kill c with heap := (d, .row e3 t3 (List.getD (α := List t3.Den) xss i []) false) :: (s, .deep e t c (some (i, some d))) :: (c, .fam e3 t3 (xss.set i [])) :: ((st.kill d).kill c).heap }, [i < List.length xss])
      else none
    | _ => none)
  | _ => none
def findDeep (c : Nat) : Hp → Option Nat
  | [] => none
  | (s, .deep _ _ c' none) :: r => if Nat.beq c' c then some s else findDeep c r
  | _ :: r => findDeep c r
/-- Elements are put behind a family's slice: it stands alone from then on. -/
def absDeepApp (Γ : Env) (st : St) (d : Nat) (T : TypeId) (x y : AV) : Option (St × List Prop) :=
  match x, Γ.ty T with
  | .inn c i t _, some (.sl _ t2) => (match findDeep c st.heap with
    | some s => (match get st.heap s with
      | some (.deep _ _ c' none) => if Nat.beq c' c && (Ty.beq t t2 && (!AV.has c y && !AV.has d y)) then (match takeD st s i d t2 with
        | some (st1, p) => (match absAppend Γ st1 d T (.full d t2) y with
          | some (st2, q) => some (st2, p ++ q)
          | none => none)
        | none => none) else none
      | _ => none)
    | none => none)
  | _, _ => none
/-- An element of a family's slice is set. -/
def absInnStore (Γ : Env) (st : St) (T : TypeId) (x y : AV) : Option (St × List Prop) :=
  match x with
  | .iptr c i j t p => (match get st.heap c, t.sub p, Γ.ty T with
    | some (.fam e t' xss), some tp, some t2 => if Ty.beq t' t && Ty.beq t2 tp then
        (match castTo tp y with
        | some z => (match updp t' (List.getD (α := t'.Den) (List.getD (α := List t'.Den) xss i []) j t'.dflt) p ⟨tp, z⟩ with
          | some x' => some ({ st with heap := (c, .fam e t' (xss.set i (List.set (α := t'.Den) (List.getD (α := List t'.Den) xss i []) j x'))) :: st.heap }, [i < List.length xss, j < List.length (List.getD (α := List t'.Den) xss i [])] ++ t'.inR p)
          | none => none)
        | none => none)
      else none
    | _, _, _ => none)
  | _ => none
/-- A slice is set at a place: what stood there is given up. -/
def fillD (st : St) (s i d : Nat) (t : Ty) (e2 : TypeId) (t2 : Ty) : Option (St × List Prop) :=
  match get st.heap s with
  | some (.deep e t' c hole) => (match get st.heap c, get st.heap d with
    | some (.fam e3 t3 xss), some (.row e4 t4 _ false) => if Ty.beq t t' && (Ty.beq t (.sl e2 t2) && (Ty.beq t2 t3 && (Ty.beq t2 t4 && Nat.beq e3 e4))) then
        (match hole with
        | none => some ({ st with heap := (s, .deep e t' c (some (i, some d))) :: st.heap }, [i < List.length xss])
        | some (j, _) => some ({ st with heap := (s, .deep e t' c (some (i, some d))) :: st.heap }, [i < List.length xss, i = j]))
      else none
    | _, _ => none)
  | _ => none
def absDeepStore (Γ : Env) (st : St) (T : TypeId) (x y : AV) : Option (St × List Prop) :=
  match x, y, Γ.ty T with
  | .optr s t (some i) [], .full d _, some (.sl e2 t2) => (match fillD st s i d t e2 t2 with
    | some (st1, p) => (match mergeD st1 s with
      | some st2 => some (st2, p)
      | none => none)
    | none => none)
  | _, _, _ => none
def absDeepMake (Γ : Env) (st : St) (d : Nat) (T : TypeId) (l c : AV) : Option (St × List Prop) :=
  match Γ.ty T, castTo (.int .i64) l, castTo (.int .i64) c with
  | some (.sl e (.sl e2 t2)), some n, some m => (match get Γ.tys e with
    | some (t1, b) => if st.ok d && (Ty.beq t1 (.sl e2 t2) && !Nat.beq d (famName d)) then
        some (newSt { st.kill (famName d) with heap := (famName d, .fam e2 t2 (List.replicate (Int.toNat n) ([] : List t2.Den))) :: (st.kill (famName d)).heap } d (.deep e (.sl e2 t2) (famName d) none) (.full d (.sl e2 t2)), [(0 : Int) ≤ n, n ≤ m, ((b : Nat) : Int) * m ≤ 281474976710656, m ≤ 9223372036854775807])
      else none
    | none => none)
  | _, _, _ => none
def stepDeep (Γ : Env) (st : St) (o : Oper) : Option (St × List Prop) :=
  match o.op, o.dst with
  | .store T x y, none => (match opd st x, (opdRaw st y).map bareAV with
    | some (a, p), some (b, p') => (match absDeepStore Γ st T a b with
      | some (st', q) => some (st', p ++ (p' ++ q))
      | none => (match absInnStore Γ st T a b with
        | some (st', q) => some (st', p ++ (p' ++ q))
        | none => none))
    | _, _ => none)
  | .makeSlice T x y, some d => if Γ.deep.contains d then (match opd st x, opd st y with
    | some (a, p), some (b, p') => (match absDeepMake Γ st d T a b with
      | some (st', q) => some (st', p ++ (p' ++ q))
      | none => none)
    | _, _ => none) else none
  | .call c, some d => (match c.callee, c.args.toList, c.argTypes.toList with
    | .builtin .append, [x, y], [T, T'] => if T = T' then (match (opdRaw st x).map bareAV, opd st y with
      | some (a, p), some (b, p') => (match absDeepApp Γ st d T a b with
        | some (st', q) => some (st', p ++ (p' ++ q))
        | none => none)
      | _, _ => none) else none
    | _, _, _ => none)
  | _, _ => none
/-- A row of slices is written no more. -/
def frzD (st : St) (s : Nat) : Option St :=
  match mergeD st s with
  | some st1 => (match get st1.heap s with
    | some (.deep e t c none) => (match get st1.heap c with
      | some (.fam e3 t3 xss) => if Ty.beq t (.sl e3 t3) && !Nat.beq s c then some { st1 with heap := (s, .row e (.sl e3 t3) xss true) :: (c, .dead) :: st1.heap } else none
      | _ => none)
    | _ => none)
  | none => none

section
variable {S : Nat → Prop} {w : World} {γ : Nat → Value} {Γ : Env} {w0 : World} {M S0 : Nat → Prop} {st : St} {a : Act}
/-- The same memory, told otherwise. -/
theorem Core.retell (h : Core w0 M S0 S γ st a w) {st' : St} {γ' : Nat → Value} {S' : Nat → Prop} (hnt : st'.nt = st.nt) (hfix : st'.fix = st.fix) (hSS : ∀ b, S b → S' b)
    (hSn : ∀ b, S' b → S b ∨ ∃ s o, get st.heap s = some o ∧ o.live = true ∧ Blk (γ s) b) (hslot : ∀ i av, get st'.slots i = some av → Match S' w γ' av (a.tmps.getD i undef))
    (hobj : ∀ s o, get st'.heap s = some o → o.live = true → ObOk S' w γ' (γ' s) o) (hsrc : ∀ s o, get st'.heap s = some o → o.live = true → ∀ k, Blk (γ' s) k → ∃ s1 o1, get st.heap s1 = some o1 ∧ o1.live = true ∧ Blk (γ s1) k)
    (hdis : ∀ s s' o o', get st'.heap s = some o → get st'.heap s' = some o' → o.live = true → o'.live = true → s ≠ s' → ∀ k, Blk (γ' s) k → ¬ Blk (γ' s') k) : Core w0 M S0 S' γ' st' a w := by
  refine ⟨h.os, h.tape, h.output, h.size, h.old, fun b hb => hSS b (h.s0 b hb), ?_, ?_, hslot, ?_, hdis, h.defers, h.nt.trans hnt.symm, h.fixs' hSS (fun _ _ => rfl) hfix⟩
  · intro b hb hlt
    rcases hSn b hb with hb | ⟨s, o, h1, h2, h3⟩
    · exact h.sold b hb hlt
    · rcases (h.obj s o h1).2 h2 b h3 with h | h
      · exact .inr h
      · omega
  · intro b hb
    rcases hSn b hb with hb | ⟨s, o, h1, h2, h3⟩
    · exact h.slt b hb
    · exact own_ob (h.obj s o h1).1 h2 b h3
  · intro s o hs
    cases hl : o.live with
    | false => cases o <;> first | (cases hl; done) | exact ⟨trivial, fun h => by cases h⟩
    | true =>
      refine ⟨hobj s o hs hl, fun _ k hk => ?_⟩
      obtain ⟨s1, o1, h1, h2, h3⟩ := hsrc s o hs hl k hk
      exact (h.obj s1 o1 h1).2 h2 k h3
/-- What is left of an object where two names are given up. -/
theorem kill2_get {d c s : Nat} {o : Ob} (h : get ((st.kill d).kill c).heap s = some o) (hl : o.live = true) : s ≠ d ∧ s ≠ c ∧ o.has d = false ∧ o.has c = false ∧ ∃ o', get st.heap s = some o' ∧ Ob.Weak o o' := by
  rcases get_killH h with h | ⟨o1, h5, h6, h3⟩
  · subst h; cases hl
  · rcases get_killH h5 with h | ⟨o', h7, h8, h4⟩
    · subst h; subst h6; cases hl
    · have g1 : o1.has d = false := by rw [h8]; exact Ob.forget_has
      have g2 : o.has d = false := by rw [h6]; exact Ob.forget_sub g1
      have g3 : o.has c = false := by rw [h6]; exact Ob.forget_has
      refine ⟨h4, h3, g2, g3, o', h7, ?_⟩
      have w1 : Ob.Weak o o1 := by
        rcases Ob.forget_weak (o := o1) (s := c) with hf | hf
        · rw [← h6] at hf; subst hf; cases hl
        · rw [h6]; exact hf
      have w2 : Ob.Weak o1 o' := by
        rcases Ob.forget_weak (o := o') (s := d) with hf | hf
        · rw [← h8] at hf; rw [hf] at w1; have := w1.live; rw [hl] at this; cases this
        · rw [h8]; exact hf
      exact w1.trans w2
theorem kill2_slot {d c i : Nat} {av : AV} (h : get ((st.kill d).kill c).slots i = some av) : av = .undef ∨ (get st.slots i = some av ∧ av.has d = false ∧ av.has c = false) := by
  rcases get_killS h with h | ⟨h, h2⟩
  · exact .inl h
  · rcases get_killS h with h | ⟨h, h1⟩
    · exact .inl h
    · exact .inr ⟨h, h1, h2⟩
theorem mergeD_ok (hc : Core w0 M S0 S γ st a w) {s : Nat} {st' : St} (h : mergeD st s = some st') : ∃ γ', Core w0 M S0 S γ' st' a w ∧ γ' s = γ s ∧ st'.fix = st.fix ∧ st'.nt = st.nt := by
  unfold mergeD at h
  split at h
  · simp only [Option.some.injEq] at h
    subst h
    exact ⟨γ, hc, rfl, rfl, rfl⟩
  · rename_i e t c i d hs
    split at h
    · rename_i e2 t2 xs e3 t3 xss hd hcc
      split at h
      · rename_i hcond
        simp only [Bool.and_eq_true, Bool.not_eq_true'] at hcond
        obtain ⟨c1, c2, c3, c4, c5⟩ := hcond
        have hdc : d ≠ c := fun e => by rw [e, Nat.beq_refl] at c3; cases c3
        have hsc : s ≠ c := fun e => by rw [e, Nat.beq_refl] at c4; cases c4
        have hds : d ≠ s := fun e => by rw [e, Nat.beq_refl] at c5; cases c5
        obtain rfl := Nat.eq_of_beq_eq_true c1
        obtain rfl := Ty.eq_of_beq c2
        split at h
        · rename_i ys hys
          obtain ⟨_, e2'⟩ := Ty.cast_some hys
          have e2' : xs = ys := e2'
          subst e2'
          simp only [Option.some.injEq] at h
          subst h
          obtain ⟨⟨⟨us, cs, g1, g2, g3⟩, g4⟩, _⟩ := hc.obj s _ hs
          obtain ⟨⟨⟨ds, k1, k2⟩, k3⟩, _⟩ := hc.obj d _ hd
          obtain ⟨⟨⟨us', m1, m2, m3, m4⟩, m5⟩, _⟩ := hc.obj c _ hcc
          rw [g1] at m1
          obtain rfl := tuple_inj m1
          simp only [HoleOk] at g3
          have dc : ∀ k, Blk (γ d) k → ¬ Blk (γ c) k := hc.dis d c _ _ hd hcc rfl rfl hdc
          have hγc : upd γ c (.tuple (us.set i (γ d)).toArray) c = .tuple (us.set i (γ d)).toArray := upd_same ..
          have hγo : ∀ x, x ≠ c → upd γ c (.tuple (us.set i (γ d)).toArray) x = γ x := fun x hx => upd_ne hx
          have hbc : ∀ k, Blk (.tuple (us.set i (γ d)).toArray) k → Blk (γ c) k ∨ Blk (γ d) k := fun k hk => by
            obtain ⟨u, hu, hb⟩ := blk_tuple.1 hk
            rcases List.mem_or_eq_of_mem_set hu with hu | rfl
            · exact .inl (by rw [g1]; exact blk_tuple.2 ⟨u, hu, hb⟩)
            · exact .inr (.inl hb)
          -- whence the blocks of what is left come
          have src : ∀ x o, get ((s, Ob.deep e t c none) :: (c, .fam e2 t2 (xss.set i xs)) :: ((st.kill d).kill c).heap) x = some o → o.live = true →
              x ≠ d ∧ (∃ o0, get st.heap x = some o0 ∧ o0.live = true) ∧ ∀ k, Blk (upd γ c (.tuple (us.set i (γ d)).toArray) x) k → Blk (γ x) k ∨ (x = c ∧ Blk (γ d) k) := by
            intro x o hx hl
            simp only [get] at hx
            split at hx
            · rename_i ex
              subst ex
              exact ⟨fun e => hds e.symm, ⟨_, hs, rfl⟩, fun k hk => .inl (by rw [hγo x hsc] at hk; exact hk)⟩
            · split at hx
              · rename_i ex
                subst ex
                refine ⟨fun e => hdc e.symm, ⟨_, hcc, rfl⟩, fun k hk => ?_⟩
                rw [hγc] at hk
                rcases hbc k hk with h | h
                · exact .inl h
                · exact .inr ⟨rfl, h⟩
              · obtain ⟨q1, q2, q3, q4, o', q5, q6⟩ := kill2_get hx hl
                exact ⟨q1, ⟨o', q5, by rw [← q6.live]; exact hl⟩, fun k hk => .inl (by rw [hγo x q2] at hk; exact hk)⟩
          refine ⟨upd γ c (.tuple (us.set i (γ d)).toArray), hc.retell rfl rfl (fun _ h => h) (fun _ h => .inl h) ?_ ?_ ?_ ?_, hγo s hsc, rfl, rfl⟩
          · intro j av hj
            rcases kill2_slot hj with rfl | ⟨hj, _, q⟩
            · simp only [Match]
            · exact (hc.slot j av hj).mono (fun _ h => h) (fun _ _ => rfl) (fun x hx => hγo x (by rintro rfl; rw [q] at hx; cases hx))
          · intro x o hx hl
            simp only [get] at hx
            split at hx
            · rename_i ex
              subst ex
              simp only [Option.some.injEq] at hx
              subst hx
              rw [hγo x hsc]
              exact ⟨⟨us.set i (γ d), cs, hγc, by rw [List.length_set]; exact g2, g3⟩, g4⟩
            · split at hx
              · rename_i ex
                subst ex
                simp only [Option.some.injEq] at hx
                subst hx
                rw [hγc]
                refine ⟨⟨_, rfl, by simp [m2], fun j u zs hu hz => ?_, fun j j' u u' hne hu hu' k hk hk' => ?_⟩, fun k hk hS => ?_⟩
                · rw [List.getElem?_set] at hu hz
                  split at hu
                  · rename_i hij
                    subst hij
                    rw [if_pos rfl] at hz
                    split at hu
                    · rename_i hlt
                      rw [if_pos (by omega)] at hz
                      simp only [Option.some.injEq] at hu hz
                      subst hu hz
                      exact ⟨ds, k1, k2⟩
                    · cases hu
                  · rename_i hij
                    rw [if_neg hij] at hz
                    exact m3 j u zs hu hz
                · rw [List.getElem?_set] at hu hu'
                  split at hu <;> split at hu'
                  · omega
                  · rename_i a1 a2
                    split at hu
                    · simp only [Option.some.injEq] at hu
                      subst hu
                      exact dc k (.inl hk) (by rw [g1]; exact blk_tuple.2 ⟨u', List.mem_of_getElem? hu', hk'⟩)
                    · cases hu
                  · split at hu'
                    · simp only [Option.some.injEq] at hu'
                      subst hu'
                      exact dc k (.inl hk') (by rw [g1]; exact blk_tuple.2 ⟨u, List.mem_of_getElem? hu, hk⟩)
                    · cases hu'
                  · exact m4 j j' u u' hne hu hu' k hk hk'
                · rcases hbc k hk with h | h
                  · exact m5 k h hS
                  · have := (k3 k h).1 hS; cases this
              · obtain ⟨q1, q2, q3, q4, o', q5, q6⟩ := kill2_get hx hl
                rw [hγo x q2]
                exact ((hc.obj x o' q5).1.weak q6).kept (row := none) (fun _ h => h) (fun _ _ => rfl) ⟨rfl, rfl, rfl, Nat.le_refl _, fun _ _ _ => rfl⟩ (by simp) (fun _ _ h => h) (fun y hy => hγo y (by rintro rfl; rw [q4] at hy; cases hy))
          · intro x o hx hl k hk
            obtain ⟨_, ⟨o0, q1, q2⟩, q3⟩ := src x o hx hl
            rcases q3 k hk with h | ⟨_, h⟩
            · exact ⟨x, o0, q1, q2, h⟩
            · exact ⟨d, _, hd, rfl, h⟩
          · intro x y o o' hx hy l1 l2 hne k hk hk'
            obtain ⟨p1, ⟨o0, p2, p3⟩, p4⟩ := src x o hx l1
            obtain ⟨q1, ⟨o0', q2, q3⟩, q4⟩ := src y o' hy l2
            rcases p4 k hk with h1 | ⟨e1, h1⟩ <;> rcases q4 k hk' with h2 | ⟨e2, h2⟩
            · exact hc.dis x y _ _ p2 q2 p3 q3 hne k h1 h2
            · exact hc.dis x d _ _ p2 hd p3 rfl p1 k h1 h2
            · exact hc.dis d y _ _ hd q2 rfl q3 (Ne.symm q1) k h1 h2
            · exact hne (e1.trans e2.symm)
        · cases h
      · cases h
    · cases h
  · cases h
theorem takeD_ok (hc : Core w0 M S0 S γ st a w) {s i d : Nat} {t2 : Ty} {st' : St} {ps : List Prop} (h : takeD st s i d t2 = some (st', ps)) (hps : ∀ p ∈ ps, p) :
    ∃ γ', Core w0 M S0 S γ' st' a w ∧ γ' s = γ s ∧ st'.fix = st.fix ∧ st'.nt = st.nt ∧ (∀ x, x ≠ d → (∀ (c : Nat) (e : TypeId) (t : Ty), get st.heap s = some (.deep e t c none) → x ≠ c) → γ' x = γ x) ∧ ∃ (u : Value) (A : Option Addr) (n cap : Nat), γ' d = u ∧ u = .slice A n cap ∧ ∀ (c : Nat) (e : TypeId) (t : Ty) (us : List Value), get st.heap s = some (.deep e t c none) → γ c = .tuple us.toArray → us[i]? = some u := by
  unfold takeD at h
  split at h
  · rename_i e t c hs
    split at h
    · rename_i e3 t3 xss hcc
      split at h
      · rename_i hcond
        simp only [Bool.and_eq_true, Bool.not_eq_true'] at hcond
        obtain ⟨c2, c3, c4, c5⟩ := hcond
        have hdc : d ≠ c := fun e => by rw [e, Nat.beq_refl] at c3; cases c3
        have hsc : s ≠ c := fun e => by rw [e, Nat.beq_refl] at c4; cases c4
        have hds : d ≠ s := fun e => by rw [e, Nat.beq_refl] at c5; cases c5
        obtain rfl := Ty.eq_of_beq c2
        simp only [Option.some.injEq, Prod.mk.injEq] at h
        obtain ⟨rfl, rfl⟩ := h
        have hi : i < xss.length := hps _ (by simp)
        obtain ⟨⟨⟨us, cs, g1, g2, g3⟩, g4⟩, _⟩ := hc.obj s _ hs
        obtain ⟨⟨⟨us', m1, m2, m3, m4⟩, m5⟩, _⟩ := hc.obj c _ hcc
        rw [g1] at m1
        obtain rfl := tuple_inj m1
        simp only [HoleOk] at g3
        subst g3
        have hiu : i < cs.length := by omega
        have hxi : xss[i]? = some xss[i] := List.getElem?_eq_getElem hi
        have hui : cs[i]? = some cs[i] := List.getElem?_eq_getElem hiu
        have hgd : List.getD (α := List t2.Den) xss i [] = xss[i] := by rw [List.getD_eq_getElem?_getD, hxi]; rfl
        obtain ⟨ds, n1, n2⟩ := m3 i _ _ hui hxi
        let us2 := cs.set i (.slice none 0 0)
        let γ2 := upd (upd γ c (.tuple us2.toArray)) d cs[i]
        have hγd : γ2 d = cs[i] := upd_same ..
        have hγc : γ2 c = .tuple us2.toArray := (upd_ne (Ne.symm hdc)).trans (upd_same ..)
        have hγo : ∀ x, x ≠ c → x ≠ d → γ2 x = γ x := fun x hx hx2 => (upd_ne hx2).trans (upd_ne hx)
        have inC : ∀ k, Blk (.tuple us2.toArray) k → ∃ j u, j ≠ i ∧ cs[j]? = some u ∧ u.ownBlock = some k := fun k hk => by
          obtain ⟨u, hu, hb⟩ := blk_tuple.1 hk
          obtain ⟨j, hj⟩ := List.getElem?_of_mem hu
          rw [List.getElem?_set] at hj
          split at hj
          · simp only [Option.some.injEq] at hj
            subst hj
            simp [Value.ownBlock] at hb
          · rename_i hne
            exact ⟨j, u, fun e => hne e.symm, hj, hb⟩
        have inC' : ∀ k, Blk (.tuple us2.toArray) k → Blk (γ c) k := fun k hk => by
          obtain ⟨j, u, _, hu, hb⟩ := inC k hk
          rw [g1]
          exact blk_tuple.2 ⟨u, List.mem_of_getElem? hu, hb⟩
        have inD : ∀ k, Blk cs[i] k → Blk (γ c) k := fun k hk => by
          rw [g1]
          exact blk_tuple.2 ⟨_, List.getElem_mem _, n1.blk.1 hk⟩
        have cd : ∀ k, Blk cs[i] k → ¬ Blk (.tuple us2.toArray) k := fun k hk hk' => by
          obtain ⟨j, u, hne, hu, hb⟩ := inC k hk'
          exact m4 i j _ _ (Ne.symm hne) hui hu k (n1.blk.1 hk) hb
        -- whence the blocks of what is left come
        have src : ∀ x o, get ((d, Ob.row e3 t2 (List.getD (α := List t2.Den) xss i []) false) :: (s, Ob.deep e t c (some (i, some d))) :: (c, .fam e3 t2 (xss.set i [])) :: ((st.kill d).kill c).heap) x = some o → o.live = true →
            (x = d ∧ γ2 x = cs[i]) ∨ (x = c ∧ γ2 x = .tuple us2.toArray) ∨ (x ≠ d ∧ x ≠ c ∧ γ2 x = γ x ∧ ∃ o0, get st.heap x = some o0 ∧ o0.live = true) := by
          intro x o hx hl
          simp only [get] at hx
          split at hx
          · rename_i ex
            subst ex
            exact .inl ⟨rfl, hγd⟩
          · rename_i hxd
            split at hx
            · rename_i ex
              subst ex
              exact .inr (.inr ⟨hxd, hsc, hγo x hsc hxd, _, hs, rfl⟩)
            · split at hx
              · rename_i ex
                subst ex
                exact .inr (.inl ⟨rfl, hγc⟩)
              · obtain ⟨q1, q2, q3, q4, o', q5, q6⟩ := kill2_get hx hl
                exact .inr (.inr ⟨q1, q2, hγo x q2 q1, o', q5, by rw [← q6.live]; exact hl⟩)
        refine ⟨γ2, hc.retell rfl rfl (fun _ h => h) (fun _ h => .inl h) ?_ ?_ ?_ ?_, hγo s hsc (Ne.symm hds), rfl, rfl, fun x hx hx2 => hγo x (hx2 c e t hs) hx, ?_⟩
        · intro j av hj
          rcases kill2_slot hj with rfl | ⟨hj, q1, q2⟩
          · simp only [Match]
          · exact (hc.slot j av hj).mono (fun _ h => h) (fun _ _ => rfl) (fun x hx => hγo x (by rintro rfl; rw [q2] at hx; cases hx) (by rintro rfl; rw [q1] at hx; cases hx))
        · intro x o hx hl
          simp only [get] at hx
          split at hx
          · rename_i ex
            subst ex
            simp only [Option.some.injEq] at hx
            subst hx
            rw [hγd, hgd]
            exact ⟨⟨ds, n1, n2⟩, fun k hk => ⟨fun hS => absurd hS (m5 k (inD k hk)), fun h => by cases h⟩⟩
          · rename_i hxd
            split at hx
            · rename_i ex
              subst ex
              simp only [Option.some.injEq] at hx
              subst hx
              rw [hγo x hsc hxd]
              refine ⟨⟨us2, cs, hγc, by simp only [us2, List.length_set]; exact g2, ?_⟩, g4⟩
              simp only [HoleOk]
              rw [hγd]
              simp only [us2, List.set_set, List.set_getElem_self]
            · split at hx
              · rename_i ex
                subst ex
                simp only [Option.some.injEq] at hx
                subst hx
                rw [hγc]
                refine ⟨⟨us2, rfl, by simp [us2, m2], fun j u zs hu hz => ?_, fun j j' u u' hne hu hu' k hk hk' => ?_⟩, fun k hk hS => m5 k (inC' k hk) hS⟩
                · simp only [us2] at hu
                  rw [List.getElem?_set] at hu hz
                  split at hu
                  · rename_i hij
                    subst hij
                    rw [if_pos rfl, if_pos hi] at hz
                    simp only [Option.some.injEq] at hu hz
                    subst hu hz
                    exact ⟨[], Owns.nil w e3 t2.sz, ⟨by simp, fun j x h => by simp at h⟩⟩
                  · rename_i hij
                    rw [if_neg hij] at hz
                    exact m3 j u zs hu hz
                · simp only [us2] at hu hu'
                  rw [List.getElem?_set] at hu hu'
                  split at hu
                  · simp only [Option.some.injEq] at hu
                    subst hu
                    simp [Value.ownBlock] at hk
                  · split at hu'
                    · simp only [Option.some.injEq] at hu'
                      subst hu'
                      simp [Value.ownBlock] at hk'
                    · exact m4 j j' u u' hne hu hu' k hk hk'
              · obtain ⟨q1, q2, q3, q4, o', q5, q6⟩ := kill2_get hx hl
                rw [hγo x q2 q1]
                exact ((hc.obj x o' q5).1.weak q6).kept (row := none) (fun _ h => h) (fun _ _ => rfl) ⟨rfl, rfl, rfl, Nat.le_refl _, fun _ _ _ => rfl⟩ (by simp) (fun _ _ h => h) (fun y hy => hγo y (by rintro rfl; rw [q4] at hy; cases hy) (by rintro rfl; rw [q3] at hy; cases hy))
        · intro x o hx hl k hk
          rcases src x o hx hl with ⟨_, e1⟩ | ⟨_, e1⟩ | ⟨_, _, e1, o0, h1, h2⟩
          · rw [e1] at hk; exact ⟨c, _, hcc, rfl, inD k hk⟩
          · rw [e1] at hk; exact ⟨c, _, hcc, rfl, inC' k hk⟩
          · rw [e1] at hk; exact ⟨x, o0, h1, h2, hk⟩
        · intro x y o o' hx hy l1 l2 hne k hk hk'
          rcases src x o hx l1 with ⟨e0, e1⟩ | ⟨e0, e1⟩ | ⟨d1, d2, e1, o0, h1, h2⟩ <;> rcases src y o' hy l2 with ⟨f0, f1⟩ | ⟨f0, f1⟩ | ⟨d1', d2', f1, o1, k1, k2⟩ <;> rw [e1] at hk <;> rw [f1] at hk'
          · exact hne (e0.trans f0.symm)
          · exact cd k hk hk'
          · exact hc.dis c y _ _ hcc k1 rfl k2 (Ne.symm d2') k (inD k hk) hk'
          · exact cd k hk' hk
          · exact hne (e0.trans f0.symm)
          · exact hc.dis c y _ _ hcc k1 rfl k2 (Ne.symm d2') k (inC' k hk) hk'
          · exact hc.dis x c _ _ h1 hcc h2 rfl d2 k hk (inD k hk')
          · exact hc.dis x c _ _ h1 hcc h2 rfl d2 k hk (inC' k hk')
          · exact hc.dis x y _ _ h1 k1 h2 k2 hne k hk hk'
        · have hsl : ∃ A n cap, cs[i] = .slice A n cap := by
            rcases n1.2 with ⟨q, _⟩ | ⟨_, _, _, _, q, _⟩ <;> exact ⟨_, _, _, q⟩
          obtain ⟨A, n, cap, hsl⟩ := hsl
          refine ⟨cs[i], A, n, cap, hγd, hsl, fun c' e' t' us' q1 q2 => ?_⟩
          rw [hs] at q1
          simp only [Option.some.injEq, Ob.deep.injEq] at q1
          obtain ⟨_, _, rfl, _⟩ := q1
          rw [g1] at q2
          obtain rfl := tuple_inj q2
          exact hui
      · cases h
    · cases h
  · cases h
theorem absDeepApp_ok (hΓ : EnvOk Γ) (hc : Core w0 M S0 S γ st a w) {d : Nat} {T : TypeId} {x y : AV} {st' : St} {ps : List Prop} (h : absDeepApp Γ st d T x y = some (st', ps)) (hps : ∀ p ∈ ps, p) {ux uy : Value} (hx : Match S w γ x ux) (hy : Match S w γ y uy) (ty : TypeId) :
    ∃ r w' γ', (Builtin.append_ #[T, T] ty #[ux, uy]).run Γ.P w = .ok r w' ∧ Core w0 M S0 S γ' st' (a.put (some d) r) w' ∧ st'.fix = st.fix := by
  unfold absDeepApp at h
  split at h
  · rename_i c i t n e2 t2 ht
    split at h
    · rename_i s hfd
      split at h
      · rename_i e t' c' hs
        split at h
        · rename_i hb
          simp only [Bool.and_eq_true, Bool.not_eq_true'] at hb
          obtain ⟨hb1, hb2, hyc, hyd⟩ := hb
          obtain rfl := Nat.eq_of_beq_eq_true hb1
          obtain rfl := Ty.eq_of_beq hb2
          split at h
          · rename_i st1 p htk
            split at h
            · rename_i st2 q hap
              simp only [Option.some.injEq, Prod.mk.injEq] at h
              obtain ⟨rfl, rfl⟩ := h
              obtain ⟨γ1, m1, m2, m3, m4, m8, u, A, n', cap, m5, m6, m7⟩ := takeD_ok hc htk (fun p hp => hps p (List.mem_append.2 (.inl hp)))
              simp only [Match] at hx
              obtain ⟨us, A', cap', k1, k2, rfl, _⟩ := hx
              have hu := m7 _ _ _ us hs k1
              rw [k2] at hu
              simp only [Option.some.injEq] at hu
              obtain ⟨r, w', γ', g1, g2⟩ := absAppend_ok hΓ m1 hap (fun p hp => hps p (List.mem_append.2 (.inr hp))) (ux := .slice A' n cap') (uy := uy) (by
                simp only [Match]
                exact ⟨by rw [m5, ← hu], _, _, _, rfl⟩) (hy.mono (fun _ h => h) (fun _ _ => rfl) (fun x hx => m8 x (by rintro rfl; rw [hyd] at hx; cases hx) (fun c2 e2 t3 hs2 => by
                  rw [hs] at hs2
                  simp only [Option.some.injEq, Ob.deep.injEq] at hs2
                  obtain ⟨_, _, rfl, _⟩ := hs2
                  rintro rfl
                  rw [hyc] at hx
                  cases hx))) ty
              exact ⟨r, w', γ', g1, g2, (absAppend_fix hap).trans m3⟩
            · cases h
          · cases h
        · cases h
      · cases h
    · cases h
  · cases h
theorem absInnStore_ok (hΓ : EnvOk Γ) (hc : Core w0 M S0 S γ st a w) {T : TypeId} {x y : AV} {st' : St} {ps : List Prop} (h : absInnStore Γ st T x y = some (st', ps)) (hps : ∀ p ∈ ps, p) {ux uy : Value} (hx : Match S w γ x ux) (hy : Match S w γ y uy) :
    ∃ w', (Instr.storeAt T ux uy).run Γ.P w = .ok () w' ∧ Core w0 M S0 S γ st' a w' ∧ st'.fix = st.fix := by
  unfold absInnStore at h
  split at h
  · rename_i c i j t p
    split at h
    · rename_i e t' xss tp t2 hcc htp ht
      split at h
      · rename_i hb
        simp only [Bool.and_eq_true] at hb
        obtain rfl := Ty.eq_of_beq hb.1
        obtain rfl := Ty.eq_of_beq hb.2
        split at h
        · rename_i z hz
          split at h
          · rename_i x' hx'
            simp only [Option.some.injEq, Prod.mk.injEq] at h
            obtain ⟨rfl, rfl⟩ := h
            have hi : i < xss.length := hps _ (by simp)
            have hxi : xss[i]? = some xss[i] := List.getElem?_eq_getElem hi
            have hgd : List.getD (α := List t'.Den) xss i [] = xss[i] := by rw [List.getD_eq_getElem?_getD, hxi]; rfl
            have hj : j < (List.getD (α := List t'.Den) xss i []).length := hps (j < (List.getD (α := List t'.Den) xss i []).length) (by simp)
            rw [hgd] at hj hx' ⊢
            obtain ⟨⟨⟨us', m1, m2, m3, m4⟩, m5⟩, _⟩ := hc.obj c _ hcc
            simp only [Match] at hx
            obtain ⟨us, g, o, n, cap, k1, k2, rfl⟩ := hx
            rw [k1] at m1
            obtain rfl := tuple_inj m1
            obtain ⟨cs, ho, hr⟩ := m3 i _ _ k2 hxi
            obtain ⟨vs, hus, rfl⟩ := castTo_ok hy hz
            have hn := ho.len_is
            have hxj := hr.2 j (xss[i][j]) (List.getElem?_eq_getElem hj)
            rw [List.getD_eq_getElem?_getD, List.getElem?_eq_getElem hj, Option.getD_some] at hx'
            obtain ⟨h1, _, h3⟩ := rep_updp hxj hus (fun q hq => hps q (List.mem_append_right _ hq)) hx'
            have hb2 : j * t'.sz + t'.sz ≤ cs.length := by rw [hr.1, ← Nat.succ_mul]; exact Nat.mul_le_mul_right _ hj
            obtain ⟨g1, g2⟩ := ho.setCells vs (j * t'.sz + t'.offs p) (by omega)
            have hcell : ∀ k, k < vs.length → (w.cell? ⟨g, o + (j * t'.sz + t'.offs p) + k, none⟩).isSome = true := fun k hk => by
              have hlt : j * t'.sz + t'.offs p + k < cs.length := by omega
              have := own_cellAt ho _ _ (List.getElem?_eq_getElem hlt)
              rw [Nat.add_assoc, this]; rfl
            refine ⟨_, store_run hus.cells (by rw [hus.len]; exact (hΓ.is ht).sizeOf w) hcell (fun i _ => ho.frozenAt _) hus.one, ?_, rfl⟩
            have hbg : Blk (γ c) g := by rw [k1]; exact blk_tuple.2 ⟨_, List.mem_of_getElem? k2, rfl⟩
            have hag : Agree S w (w.setCells g (o + (j * t'.sz + t'.offs p)) vs) := fun k hk => g2.block k (hc.slt k hk) (fun e => by
              simp only [Option.some.injEq] at e
              subst e
              exact m5 _ hbg hk)
            refine hc.wroteAt hcc rfl m5 (row := some g) (fun k hk => by simp only [Option.some.injEq] at hk; subst hk; exact hbg) g2 ⟨⟨us, k1, by simp [m2], fun l u zs hu hzs => ?_, m4⟩, m5⟩
            rw [List.getElem?_set] at hzs
            split at hzs
            · rename_i hil
              subst hil
              simp only [Option.some.injEq] at hzs
              subst hzs
              rw [k2] at hu
              simp only [Option.some.injEq] at hu
              subst hu
              refine ⟨_, ?_, (hr.set hj h1).mono (fun _ h => h) hag⟩
              rw [List.length_set]
              have := splice_eq cs vs (j * t'.sz) t'.sz (t'.offs p) vs.length rfl h3 hb2
              rw [← this]
              exact g1
            · rename_i hil
              obtain ⟨cs2, q1, q2⟩ := m3 l u zs hu hzs
              refine ⟨cs2, q1.kept g2 (fun k hk e => ?_), q2.mono (fun _ h => h) hag⟩
              simp only [Option.some.injEq] at e
              subst e
              exact m4 i l _ _ hil k2 hu k rfl (q1.blk.1 hk)
          · cases h
        · cases h
      · cases h
    · cases h
  · cases h
theorem absDeepStore_ok (hΓ : EnvOk Γ) (hc : Core w0 M S0 S γ st a w) {T : TypeId} {x y : AV} {st' : St} {ps : List Prop} (h : absDeepStore Γ st T x y = some (st', ps)) (hps : ∀ p ∈ ps, p) {ux uy : Value} (hx : Match S w γ x ux) (hy : Match S w γ y uy) :
    ∃ w' γ', (Instr.storeAt T ux uy).run Γ.P w = .ok () w' ∧ Core w0 M S0 S γ' st' a w' ∧ st'.fix = st.fix := by
  unfold absDeepStore at h
  split at h
  · rename_i s t i d t0 e2 t2 ht
    split at h
    · rename_i st1 p hf
      split at h
      · rename_i st2 hm
        simp only [Option.some.injEq, Prod.mk.injEq] at h
        obtain ⟨rfl, rfl⟩ := h
        unfold fillD at hf
        split at hf
        · rename_i e t' c hole hs
          split at hf
          · rename_i e3 t3 xss e4 t4 xs hcc hd
            split at hf
            · rename_i hcond
              simp only [Bool.and_eq_true] at hcond
              obtain ⟨b1, b2, b3, b4, b5⟩ := hcond
              obtain rfl := Ty.eq_of_beq b1
              obtain rfl := Ty.eq_of_beq b2
              have key : st1 = { st with heap := (s, .deep e (.sl e2 t2) c (some (i, some d))) :: st.heap } ∧ i < xss.length ∧ ∀ j x, hole = some (j, x) → i = j := by
                split at hf
                · simp only [Option.some.injEq, Prod.mk.injEq] at hf
                  obtain ⟨rfl, rfl⟩ := hf
                  exact ⟨rfl, hps _ (by simp), fun j x h => by cases h⟩
                · rename_i j x
                  simp only [Option.some.injEq, Prod.mk.injEq] at hf
                  obtain ⟨rfl, rfl⟩ := hf
                  refine ⟨rfl, hps _ (by simp), fun j' x' h => ?_⟩
                  simp only [Option.some.injEq, Prod.mk.injEq] at h
                  rw [← h.1]
                  exact hps _ (by simp)
              obtain ⟨rfl, hi, hj⟩ := key
              obtain ⟨⟨⟨us, cs, g1, g2, g3⟩, g4⟩, _⟩ := hc.obj s _ hs
              obtain ⟨⟨⟨us', m1, m2, _⟩, _⟩, _⟩ := hc.obj c _ hcc
              rw [g1] at m1
              obtain rfl := tuple_inj m1
              have hcl := g3.len
              simp only [Match] at hx hy
              obtain ⟨g, o, n, cap, hg, rfl⟩ := hx
              obtain ⟨rfl, A', n', c', hsl⟩ := hy
              rw [hg] at g2
              have hn := g2.len_is
              have hoff : (some i).getD 0 * (Ty.sl e2 t2).sz + (Ty.sl e2 t2).offs [] = i := by simp [Ty.sz, Ty.offs]
              rw [hoff]
              have hone : (γ d).oneCell' = true := by rw [hsl]; rfl
              have hcells : (γ d).cells.toList = [γ d] := by rw [hsl]; rfl
              obtain ⟨z1, z2⟩ := g2.setCells [γ d] i (by simp only [List.length_cons, List.length_nil]; omega)
              have hsz : (Go.sizeOf T).run Γ.P w = .ok 1 w := InfoIs.sizeOf (hΓ.is ht).info w
              have hrun := store_run (P := Γ.P) (w := w) (T := T) (b := g) (o := o + i) hcells hsz (fun j hj => by
                have hj0 : j = 0 := by simpa using hj
                subst hj0
                have := own_cellAt g2 i cs[i] (List.getElem?_eq_getElem (by omega))
                rw [Nat.add_zero, this]; rfl) (fun j _ => g2.frozenAt _) (by simpa using hone)
              have hgrown : w.grownBy (w.setCells g (o + i) [γ d]) (γ s).ownBlock := by rw [hg]; exact z2
              have hset : cs.take i ++ [γ d] ++ cs.drop (i + [γ d].length) = us.set i (γ d) := by
                have e1 : cs.take i ++ [γ d] ++ cs.drop (i + [γ d].length) = cs.set i (γ d) := by
                  rw [List.set_eq_take_append_cons_drop, if_pos (by omega)]; simp
                rw [e1]
                rcases hole with _ | ⟨j, _ | x⟩
                · rw [show cs = us from g3]
                · obtain ⟨x, rfl⟩ := g3
                  rw [hj j none rfl, List.set_set]
                · rw [show cs = us.set j (γ x) from g3, hj j _ rfl, List.set_set]
              rw [hset] at z1
              have hcore := hc.wroteOb (o1 := .deep e (.sl e2 t2) c (some (i, some d))) hs rfl g4 hgrown ⟨⟨us, us.set i (γ d), g1, by rw [hg]; exact z1, rfl⟩, g4⟩
              obtain ⟨γ', k1, _, k3, _⟩ := mergeD_ok hcore hm
              exact ⟨_, γ', hrun, k1, k3⟩
            · cases hf
          · cases hf
        · cases hf
      · cases h
    · cases h
  · cases h
theorem made_nil : ∀ m : Nat, (madeCells #[Value.slice none 0 0] m).toList = List.replicate m (.slice none 0 0) := fun m => by
  apply List.ext_getElem
  · rw [Array.length_toList, size_madeCells, List.length_replicate]
  · intro i h1 h2
    simp [madeCells, Nat.mod_one]
theorem absDeepMake_ok (hΓ : EnvOk Γ) (hc : Core w0 M S0 S γ st a w) {d : Nat} {T : TypeId} {l c : AV} {st' : St} {ps : List Prop} (h : absDeepMake Γ st d T l c = some (st', ps)) (hps : ∀ p ∈ ps, p) {ul uc : Value} (hl : Match S w γ l ul) (hcc : Match S w γ c uc) :
    ∃ r w' γ', (Instr.makeSlice T ul uc).run Γ.P w = .ok r w' ∧ Core w0 M S0 S γ' st' (a.put (some d) r) w' ∧ st'.fix = st.fix := by
  unfold absDeepMake at h
  split at h
  · rename_i e e2 t2 n m ht hn hm
    obtain ⟨n', hn'⟩ : ∃ x : Int, x = n := ⟨n, rfl⟩
    subst hn'
    obtain ⟨m', hm'⟩ : ∃ x : Int, x = m := ⟨m, rfl⟩
    subst hm'
    obtain rfl := castTo_int hl hn
    obtain rfl := castTo_int hcc hm
    split at h
    · rename_i t1 b hte
      split at h
      · rename_i hcond
        simp only [Bool.and_eq_true, Bool.not_eq_true'] at hcond
        obtain ⟨hd, hb, hdf⟩ := hcond
        have hdf : d ≠ famName d := fun e => by rw [← e, Nat.beq_refl] at hdf; cases hdf
        obtain rfl := Ty.eq_of_beq hb
        simp only [Option.some.injEq, Prod.mk.injEq] at h
        obtain ⟨rfl, rfl⟩ := h
        have l0 : (0 : Int) ≤ n' := hps _ (by simp)
        have l1 : n' ≤ m' := hps (n' ≤ m') (by simp)
        have l2 : ((b : Nat) : Int) * m' ≤ 281474976710656 := hps (((b : Nat) : Int) * m' ≤ 281474976710656) (by simp)
        have l3 : m' ≤ 9223372036854775807 := hps (m' ≤ 9223372036854775807) (by simp)
        obtain ⟨hu, _, _⟩ := hΓ.is ht
        obtain ⟨hte1, hby⟩ := hΓ.ty e _ b hte
        obtain ⟨i, hi, hz0, hsz⟩ := hte1.info.get
        have hb2 : i.bytes = b := by simpa [hi] using hby
        have hrun := run_make (P := Γ.P) w T e i _ hu hi hz0 .i64 .i64 n' m' l0 l1 (by rw [hb2]; exact l2) l3
        have hsz1 : i.size = 1 := hsz
        rw [hsz1, Nat.mul_one] at hrun
        have hfam : Core w0 M S0 S (upd γ (famName d) (.tuple (List.replicate n'.toNat (Value.slice none 0 0)).toArray)) { st.kill (famName d) with heap := (famName d, .fam e2 t2 (List.replicate n'.toNat ([] : List t2.Den))) :: (st.kill (famName d)).heap } a w := by
          have noB : ∀ k, ¬ Blk (.tuple (List.replicate n'.toNat (Value.slice none 0 0)).toArray) k := fun k hk => by
            obtain ⟨u, hu, hb⟩ := blk_tuple.1 hk
            obtain ⟨_, rfl⟩ := List.mem_replicate.1 hu
            simp [Value.ownBlock] at hb
          refine hc.new (Below.refl _ w) ⟨⟨_, rfl, by simp, fun j u xs hu hx => ?_, fun j j' u u' hne hu hu' k hk => ?_⟩, fun k hk => absurd hk (noB k)⟩ (fun k hk => absurd hk (noB k))
          · rw [List.getElem?_replicate] at hu hx
            split at hu
            · rename_i hj
              rw [if_pos hj] at hx
              simp only [Option.some.injEq] at hu hx
              subst hu hx
              exact ⟨[], Owns.nil w e2 t2.sz, ⟨by simp, fun j x h => by simp at h⟩⟩
            · cases hu
          · rw [List.getElem?_replicate] at hu
            split at hu
            · simp only [Option.some.injEq] at hu
              subst hu
              simp [Value.ownBlock] at hk
            · cases hu
        generalize hst1 : ({ st.kill (famName d) with heap := (famName d, .fam e2 t2 (List.replicate n'.toNat ([] : List t2.Den))) :: (st.kill (famName d)).heap } : St) = st1 at hfam
        have hd1 : st1.ok d = true := by subst hst1; exact hd
        obtain ⟨γ', h2⟩ := newSt_ok' hfam hd1 (cells := madeCells #[Value.slice none 0 0] m'.toNat) (e := e) (o := .deep e (.sl e2 t2) (famName d) none) (av := .full d (.sl e2 t2)) (n := n'.toNat) (c := m'.toNat) (v := .slice (some ⟨w.heap.size, 0, none⟩) n'.toNat m'.toNat) (by
          rintro hv rfl
          refine ⟨⟨List.replicate n'.toNat (.slice none 0 0), List.replicate n'.toNat (.slice none 0 0), (upd_ne (Ne.symm hdf)).trans (upd_same ..), Owns.of (base := 0) ⟨by simp, .inr ⟨w.heap.size, m'.toNat, _, by rw [List.length_replicate], Nat.zero_le _, heap_alloc_new w _, by rw [List.length_replicate]; omega, by simp only [maxLen]; omega, by rw [size_madeCells]; omega, ?_⟩⟩, rfl⟩, fun k hk => ?_⟩
          · rw [made_nil, List.length_replicate, Nat.mul_one, List.take_replicate, Nat.min_eq_left (by omega)]
          · simp [blk_slice, Value.ownBlock] at hk
            intro hS
            have := hc.slt k hS
            omega) (fun γ' h => new_full γ' h)
        subst hst1
        exact ⟨_, _, γ', hrun, h2, rfl⟩
      · cases h
    · cases h
  · cases h
theorem frzD_ok (hc : Core w0 M S0 S γ st a w) {s : Nat} {st' : St} (h : frzD st s = some st') : ∃ S' γ', (∀ k, S k → S' k) ∧ Core w0 M S0 S' γ' st' a w ∧ st'.fix = st.fix ∧ st'.nt = st.nt := by
  unfold frzD at h
  split at h
  · rename_i st1 hm
    obtain ⟨γ1, k1, k2, k3, k4⟩ := mergeD_ok hc hm
    split at h
    · rename_i e t c hs
      split at h
      · rename_i e3 t3 xss hcc
        split at h
        · rename_i hcond
          simp only [Bool.and_eq_true, Bool.not_eq_true'] at hcond
          obtain ⟨hb, c4⟩ := hcond
          have hsc : s ≠ c := fun e => by rw [e, Nat.beq_refl] at c4; cases c4
          obtain rfl := Ty.eq_of_beq hb
          simp only [Option.some.injEq] at h
          subst h
          obtain ⟨⟨⟨us, cs, g1, g2, g3⟩, g4⟩, _⟩ := k1.obj s _ hs
          obtain ⟨⟨⟨us', m1, m2, m3, m4⟩, m5⟩, _⟩ := k1.obj c _ hcc
          rw [g1] at m1
          obtain rfl := tuple_inj m1
          simp only [HoleOk] at g3
          subst g3
          have hSS : ∀ b, S b → S b ∨ (Blk (γ1 s) b ∨ Blk (γ1 c) b) := fun b hb => .inl hb
          have key : ∀ x o, get ((s, Ob.row e (.sl e3 t3) xss true) :: (c, .dead) :: st1.heap) x = some o → o.live = true → (x = s ∧ o = .row e (.sl e3 t3) xss true) ∨ (x ≠ s ∧ x ≠ c ∧ get st1.heap x = some o) := by
            intro x o hx hl
            simp only [get] at hx
            split at hx
            · rename_i ex
              simp only [Option.some.injEq] at hx
              exact .inl ⟨ex, hx.symm⟩
            · rename_i h1
              split at hx
              · simp only [Option.some.injEq] at hx
                subst hx
                cases hl
              · rename_i h2
                exact .inr ⟨h1, h2, hx⟩
          refine ⟨_, γ1, hSS, k1.retell rfl rfl hSS ?_ ?_ ?_ ?_ ?_, k3, k4⟩
          · rintro b (hb | hb | hb)
            · exact .inl hb
            · exact .inr ⟨s, _, hs, rfl, hb⟩
            · exact .inr ⟨c, _, hcc, rfl, hb⟩
          · exact fun i av hi => (k1.slot i av hi).mono hSS (fun _ _ => rfl) (fun _ _ => rfl)
          · intro x o hx hl
            rcases key x o hx hl with ⟨rfl, rfl⟩ | ⟨h1, h2, h3⟩
            · refine ⟨⟨cs, by rw [← m2]; exact g2, by rw [g2.1, m2]; rfl, fun j xs hj => ?_⟩, fun k hk => ⟨fun _ => rfl, fun _ => .inr (.inl hk)⟩⟩
              have hlt : j < xss.length := (List.getElem?_eq_some_iff.1 hj).1
              have hu : cs[j]? = some (cs[j]'(by omega)) := List.getElem?_eq_getElem (by omega)
              obtain ⟨ds, n1, n2⟩ := m3 j _ xs hu hj
              have e1 : (cs.drop (j * (Ty.sl e3 t3).sz)).take (Ty.sl e3 t3).sz = [cs[j]'(by omega)] := by
                simp only [Ty.sz, Nat.mul_one]
                rw [List.drop_eq_getElem_cons (by omega)]
                rfl
              rw [e1]
              exact inner_rep n1 rfl n2 hSS (fun k hk => .inr (.inr (by rw [g1]; exact blk_tuple.2 ⟨_, List.mem_of_getElem? hu, hk⟩)))
            · refine (k1.obj x o h3).1.kept (row := none) hSS (fun _ _ => rfl) ⟨rfl, rfl, rfl, Nat.le_refl _, fun _ _ _ => rfl⟩ (by simp) ?_ (fun _ _ => rfl)
              rintro k hk (hS | hS | hS)
              · exact hS
              · exact absurd hS (k1.dis x s _ _ h3 hs hl rfl h1 k hk)
              · exact absurd hS (k1.dis x c _ _ h3 hcc hl rfl h2 k hk)
          · intro x o hx hl k hk
            rcases key x o hx hl with ⟨rfl, rfl⟩ | ⟨h1, h2, h3⟩
            · exact ⟨x, _, hs, rfl, hk⟩
            · exact ⟨x, o, h3, hl, hk⟩
          · intro x y o o' hx hy l1 l2 hne k hk
            rcases key x o hx l1 with ⟨rfl, rfl⟩ | ⟨h1, h2, h3⟩ <;> rcases key y o' hy l2 with ⟨rfl, rfl⟩ | ⟨h1', h2', h3'⟩
            · exact absurd rfl hne
            · exact k1.dis x y _ _ hs h3' rfl l2 hne k hk
            · exact k1.dis x y _ _ h3 hs l1 rfl hne k hk
            · exact k1.dis x y _ _ h3 h3' l1 l2 hne k hk
        · cases h
      · cases h
    · cases h
  · cases h
theorem stepDeep_ok (hΓ : EnvOk Γ) (hc : Core w0 M S0 S γ st a w) {o : Oper} {st' : St} {ps : List Prop} (h : stepDeep Γ st o = some (st', ps)) (hps : ∀ p ∈ ps, p) {next : Act → World → Prop} {Q : Exit → Act → World → Prop}
    (hn : ∀ a' w' S' γ', Core w0 M S0 S' γ' st' a' w' → next a' w') : o.wp Γ.P a w next Q ∧ st'.fix = st.fix := by
  have inl : ∀ {p q : List Prop}, (∀ x ∈ p ++ q, x) → ∀ x ∈ p, x := fun h x hx => h x (List.mem_append.2 (.inl hx))
  have inr : ∀ {p q : List Prop}, (∀ x ∈ p ++ q, x) → ∀ x ∈ q, x := fun h x hx => h x (List.mem_append.2 (.inr hx))
  unfold stepDeep at h
  split at h
  · rename_i T x y ho hd
    split at h
    · rename_i b p b' p' hb hb'
      split at h
      · rename_i st1 q hst
        simp only [Option.some.injEq, Prod.mk.injEq] at h
        obtain ⟨rfl, rfl⟩ := h
        obtain ⟨w', γ', h1, h2, h3⟩ := absDeepStore_ok hΓ hc hst (inr (inr hps)) (opd_ok hc hb (inl hps)) (raw_ok hc hb' (inl (inr hps)))
        refine ⟨wp_skip (w' := w') ?_ (hn _ _ S γ' ?_), h3⟩
        · simp only [execOp, ho]
          rw [Sem.run_bind, h1]
          rfl
        · rw [hd]; exact h2
      · split at h
        · rename_i st1 q hst
          simp only [Option.some.injEq, Prod.mk.injEq] at h
          obtain ⟨rfl, rfl⟩ := h
          obtain ⟨w', h1, h2, h3⟩ := absInnStore_ok hΓ hc hst (inr (inr hps)) (opd_ok hc hb (inl hps)) (raw_ok hc hb' (inl (inr hps)))
          refine ⟨wp_skip (w' := w') ?_ (hn _ _ S γ ?_), h3⟩
          · simp only [execOp, ho]
            rw [Sem.run_bind, h1]
            rfl
          · rw [hd]; exact h2
        · cases h
    · cases h
  · rename_i T x y d ho hd
    split at h
    · split at h
      · rename_i b p b' p' hb hb'
        split at h
        · rename_i st1 q hst
          simp only [Option.some.injEq, Prod.mk.injEq] at h
          obtain ⟨rfl, rfl⟩ := h
          obtain ⟨r, w', γ', h1, h2, h3⟩ := absDeepMake_ok hΓ hc hst (inr (inr hps)) (opd_ok hc hb (inl hps)) (opd_ok hc hb' (inl (inr hps)))
          rw [← hd] at h2
          exact ⟨wp_value (execOp_value (by simp only [execOp, ho]) h1) (hn _ _ _ _ h2), h3⟩
        · cases h
      · cases h
    · cases h
  · rename_i c d ho hdst
    split at h
    · rename_i x y T T' hcal hargs hty
      split at h
      · rename_i hTT
        subst hTT
        split at h
        · rename_i b p b' p' hb hb'
          split at h
          · rename_i st1 q hst
            simp only [Option.some.injEq, Prod.mk.injEq] at h
            obtain ⟨rfl, rfl⟩ := h
            obtain ⟨r, w', γ', h1, h2, h3⟩ := absDeepApp_ok hΓ hc hst (inr (inr hps)) (raw_ok hc hb (inl hps)) (opd_ok hc hb' (inl (inr hps))) o.type
            have ha : c.args = #[x, y] := Array.toList_inj.1 (by simpa using hargs)
            have ht : c.argTypes = #[T, T] := Array.toList_inj.1 (by simpa using hty)
            refine ⟨wp_value (r := r) (w' := w') ?_ (hn _ _ S γ' ?_), h3⟩
            · simp only [execOp, ho, resolve, hcal, Sem.run_bind, Sem.run_pure, Result.andThen_ok, invoke, builtin, ha, ht, List.map_toArray, List.map_cons, List.map_nil, h1]
            · rw [hdst]; exact h2
          · cases h
        · cases h
      · cases h
    · cases h
  · cases h
end
end Go.Abs
