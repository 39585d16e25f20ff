/- Part of the proof of the law's row: YtnoeomlanbdjeaaAbsO. -/
import Derived.Test.YtnoeomlanbdjeaaAbsN
set_option linter.all false
set_option linter.unusedVariables false
set_option linter.unusedSimpArgs false
namespace Go.Abs
open Go.RowKit

def newSt (st : St) (d : Nat) (o : Ob) (av : AV) : St := { st.kill d with slots := (d, av) :: (st.kill d).slots, heap := (d, o) :: (st.kill d).heap }
def absAlloc (Γ : Env) (st : St) (d : Nat) (T : TypeId) : Option (St × List Prop) :=
  if st.ok d then
    (if Γ.recs.contains T then (match Γ.ty T with
      | some t => if t.agg then some (newSt st d (.rcd T t (zeroC t)) (.optr d t none []), []) else none
      | none => none)
    else if Γ.one T then some (newSt st d (.cell T (if ((Γ.ty T).map isSl).getD false then .nilS else .undef)) (.cptr d), [])
    else (match Γ.ty T with
      | some t => some (newSt st d (.row T t [t.dflt] false) (.optr d t none []), [])
      | none => none))
  else none
def absBox (Γ : Env) (st : St) (d : Nat) (T : TypeId) (x : AV) : Option (St × List Prop) :=
  if st.ok d then
    (if Γ.recs.contains T then (match Γ.ty T with
      | some t => if t.agg && !x.has d then (match storeCellsA t x with
        | some l => if AV.hass d l then none else some (newSt st d (.rcd T t l) (.optr d t none []), [])
        | none => none) else none
      | none => none)
    else if Γ.one T then (if cellAV x && !x.has d then some (newSt st d (.cell T x) (.cptr d), []) else none)
    else (match Γ.ty T with
      | some t => (match castTo t x with
        | some y => some (newSt st d (.row T t [y] false) (.optr d t none []), [])
        | none => none)
      | none => none))
  else none
def castAll (t : Ty) : List (Nat × AV) → Nat → Option (List t.Den)
  | [], _ => some ([] : List _)
  | (k, av) :: r, i => if k = i then (match castTo t av, castAll t r (i + 1) with
    | some x, some xs => some (x :: xs)
    | _, _ => none) else none
def absBuildSlice (Γ : Env) (st : St) (d : Nat) (T : TypeId) (len : Nat) (parts : List (Nat × AV)) : Option (St × List Prop) :=
  match Γ.ty T with
  | some (.sl e t) => if st.ok d && (decide (0 < t.sz) && (decide (len * t.sz ≤ 16777216) && decide (parts.length = len))) then
      (match castAll t parts 0 with
      | some xs => some (newSt st d (.row e t xs false) (.full d t), [])
      | none => none)
    else none
  | _ => none
def absMake (Γ : Env) (st : St) (d : Nat) (T : TypeId) (l c : AV) : Option (St × List Prop) :=
  match Γ.ty T, castTo (.int .i64) l, castTo (.int .i64) c with
  | some (.sl e t), some n, some m => (match get Γ.tys e with
    | some (t1, b) => if st.ok d && (decide (0 < t.sz) && Ty.beq t1 t) then
        some (newSt st d (.row e t (List.replicate (Int.toNat n) t.dflt) false) (.full d t), [(0 : Int) ≤ n, n ≤ m, ((b : Nat) : Int) * m ≤ 281474976710656, m ≤ 9223372036854775807])
      else none
    | none => none)
  | _, _, _ => none

section
variable {P : Program} {S : Nat → Prop} {w : World} {γ : Nat → Value} {Γ : Env} {w0 : World} {M S0 : Nat → Prop} {st : St} {a : Act}
theorem newSt_ok' (hc : Core w0 M S0 S γ st a w) {d : Nat} (hd : st.ok d = true) {cells : Array Value} {e : TypeId} {o : Ob} {av : AV} {n c : Nat} {v : Value} (ho : ∀ hv : Value, hv = .slice (some ⟨w.heap.size, 0, none⟩) n c → ObOk S (w.alloc (.cells cells e)) (upd γ d hv) hv o)
    (hm : ∀ γ' : Nat → Value, γ' d = .slice (some ⟨w.heap.size, 0, none⟩) n c → Match S (w.alloc (.cells cells e)) γ' av v) :
    ∃ γ', Core w0 M S0 S γ' (newSt st d o av) (a.put (some d) v) (w.alloc (.cells cells e)) := by
  have hcore := hc.new (d := d) (hv := .slice (some ⟨w.heap.size, 0, none⟩) n c) ((Below.refl _ w).alloc (Nat.le_refl _) (.cells cells e)) (ho _ rfl) (fun k hk => by simp [blk_slice, Value.ownBlock] at hk; omega)
  exact ⟨_, hcore.put hd (hm _ (upd_same ..))⟩
theorem newSt_ok (hc : Core w0 M S0 S γ st a w) {d : Nat} (hd : st.ok d = true) {cells : Array Value} {e : TypeId} {o : Ob} {av : AV} {n : Nat} {v : Value} (ho : ∀ hv : Value, hv = .slice (some ⟨w.heap.size, 0, none⟩) n n → ObOk S (w.alloc (.cells cells e)) (upd γ d hv) hv o)
    (hm : ∀ γ' : Nat → Value, γ' d = .slice (some ⟨w.heap.size, 0, none⟩) n n → Match S (w.alloc (.cells cells e)) γ' av v) :
    ∃ γ', Core w0 M S0 S γ' (newSt st d o av) (a.put (some d) v) (w.alloc (.cells cells e)) := newSt_ok' hc hd ho hm
theorem new_row (hc : Core w0 M S0 S γ st a w) {e : TypeId} {t : Ty} {xs : List t.Den} {cs : Array Value} (hr : RepRow S w t xs cs.toList) (hm : xs.length ≤ maxLen) (f : Nat → Value) :
    ObOk S (w.alloc (.cells cs e)) f (.slice (some ⟨w.heap.size, 0, none⟩) xs.length xs.length) (.row e t xs false) := by
  have hag : Agree S w (w.alloc (.cells cs e)) := fun k hk => (World.grownBy_alloc w _ none).block k (hc.slt k hk) (by simp)
  refine ⟨⟨cs.toList, Owns.of (World.ownsRow_lit (base := 0) w cs xs.length (Nat.zero_le _) hm (by rw [← Array.length_toList]; exact hr.1)), hr.mono (fun _ h => h) hag⟩, fun k hk => ⟨fun hS => ?_, fun h => by cases h⟩⟩
  simp [blk_slice, Value.ownBlock] at hk
  have := hc.slt k hS
  omega
theorem hass_append {s : Nat} : ∀ {a b : List AV}, AV.hass s (a ++ b) = (AV.hass s a || AV.hass s b)
  | [], _ => rfl
  | x :: a, b => by simp [AV.hass, hass_append (a := a), Bool.or_assoc]
theorem undefs_has {s : Nat} : ∀ n : Nat, AV.hass s (List.replicate n .undef) = false
  | 0 => rfl
  | n + 1 => by simp [List.replicate, AV.hass, AV.has, undefs_has n]
mutual
theorem zeroC_has {s : Nat} : ∀ t : Ty, AV.hass s (zeroC t) = false
  | .st fs => by simp only [zeroC]; exact zeroCs_has fs
  | .int _ => rfl
  | .bool => rfl
  | .str => rfl
  | .sl _ _ => rfl
  | .map _ _ _ _ => rfl
  | .len _ _ => rfl
  | .arr n t => by simp only [zeroC]; exact undefs_has _
  | .opq _ => rfl
theorem zeroCs_has {s : Nat} : ∀ ts : List Ty, AV.hass s (zeroCs ts) = false
  | [] => rfl
  | t :: ts => by simp only [zeroCs, hass_append, zeroC_has t, zeroCs_has ts, Bool.or_self]
end
theorem new_rcd (hc : Core w0 M S0 S γ st a w) {d : Nat} {e : TypeId} {t : Ty} {vs : List AV} {us : List Value} {cs : Array Value} (hm : Matches S w γ vs us) (he : cs.toList = us) (hl : us.length = t.sz) (hone : ∀ u ∈ us, u.oneCell' = true) (hhas : ∀ s, AV.hass s vs = true → s ≠ d) (hv : Value) :
    ObOk S (w.alloc (.cells cs e)) (upd γ d hv) (.slice (some ⟨w.heap.size, 0, none⟩) 1 1) (.rcd e t vs) := by
  have hag : Agree S w (w.alloc (.cells cs e)) := fun k hk => (World.grownBy_alloc w _ none).block k (hc.slt k hk) (by simp)
  refine ⟨⟨us, ?_, hm.mono (fun _ h => h) hag (fun s hs => upd_ne (hhas s hs)), hone⟩, fun k hk hS => ?_⟩
  · have := Owns.of (World.ownsRow_lit (base := 0) (e := e) (size := t.sz) w cs 1 (Nat.zero_le _) (by simp [maxLen]) (by rw [← Array.length_toList, he, hl, Nat.one_mul]))
    rw [he] at this
    exact this
  · simp [blk_slice, Value.ownBlock] at hk
    have := hc.slt k hS
    omega
theorem repRow_one {t : Ty} {x : t.Den} {cs : List Value} (h : Rep S w t x cs) : RepRow S w t [x] cs := by
  refine ⟨by simp [h.len], fun j y hj => ?_⟩
  cases j with
  | zero => simp at hj; subst hj; rw [Nat.zero_mul, List.drop_zero, List.take_of_length_le (by rw [h.len]; exact Nat.le_refl _)]; exact h
  | succ j => simp at hj
theorem new_optr {d : Nat} {t : Ty} {g n : Nat} {w' : World} (γ' : Nat → Value) (h : γ' d = .slice (some ⟨g, 0, none⟩) n n) : Match S w' γ' (.optr d t none []) (.pointer (some ⟨g, 0, none⟩)) := by
  simp only [Match]
  exact ⟨g, 0, n, n, h, by rw [offs_nil]; simp⟩
theorem new_cptr {d : Nat} {g n : Nat} {w' : World} (γ' : Nat → Value) (h : γ' d = .slice (some ⟨g, 0, none⟩) n n) : Match S w' γ' (.cptr d) (.pointer (some ⟨g, 0, none⟩)) := by
  simp only [Match]
  exact ⟨g, 0, n, n, h, rfl⟩
theorem new_full {d : Nat} {t : Ty} {g n c : Nat} {w' : World} (γ' : Nat → Value) (h : γ' d = .slice (some ⟨g, 0, none⟩) n c) : Match S w' γ' (.full d t) (.slice (some ⟨g, 0, none⟩) n c) := by
  simp only [Match]
  exact ⟨h.symm, _, _, _, rfl⟩
theorem absAlloc_ok (hΓ : EnvOk Γ) (hc : Core w0 M S0 S γ st a w) {d : Nat} {T : TypeId} {st' : St} {ps : List Prop} (h : absAlloc Γ st d T = some (st', ps)) :
    ∃ r w' γ', (Instr.alloc T true (.tuple #[])).run Γ.P w = .ok r w' ∧ Core w0 M S0 S γ' st' (a.put (some d) r) w' := by
  unfold absAlloc at h
  split at h
  · rename_i hd
    have run : ∀ {z : Value} {n : Nat}, InfoIs Γ.P T z n → (Instr.alloc T true (.tuple #[])).run Γ.P w = .ok (.pointer (some ⟨w.heap.size, 0, none⟩)) (w.alloc (.cells z.cells T)) := fun {z n} hi => by
      obtain ⟨i, h1, h2, _⟩ := hi.get
      simp [Instr.alloc, zeroValue, typeInfo, h1, h2, newVar, newRow]
    split at h
    · split at h
      · rename_i t ht
        split at h
        · rename_i hag
          simp only [Option.some.injEq, Prod.mk.injEq] at h
          obtain ⟨rfl, rfl⟩ := h
          have hi := (hΓ.is ht).info
          have hzr := rep_zero S w t
          obtain ⟨γ', h2⟩ := newSt_ok hc hd (cells := (toVal t (zeros t)).cells) (e := T) (o := .rcd T t (zeroC t)) (av := .optr d t none []) (n := 1) (v := .pointer (some ⟨w.heap.size, 0, none⟩)) (by
            rintro hv rfl
            exact new_rcd hc (zeroC_ok t) hzr.cells (Ty.zeros_len t) hzr.one (fun s hs => by rw [zeroC_has] at hs; cases hs) _) (fun γ' h => new_optr γ' h)
          exact ⟨_, _, γ', run hi, h2⟩
        · cases h
      · cases h
    split at h
    · rename_i hone
      simp only [Option.some.injEq, Prod.mk.injEq] at h
      obtain ⟨rfl, rfl⟩ := h
      obtain ⟨⟨z, hz, hz1⟩, _⟩ := cellT hΓ hone
      have hzc : z.cells = #[z] := by cases z <;> first | rfl | cases hz1
      obtain ⟨γ', h2⟩ := newSt_ok hc hd (cells := z.cells) (e := T) (o := .cell T (if ((Γ.ty T).map isSl).getD false then .nilS else .undef)) (av := .cptr d) (n := 1) (v := .pointer (some ⟨w.heap.size, 0, none⟩)) (by
        rintro hv rfl
        refine ⟨⟨z, ?_, ?_, hz1⟩, fun k hk hS => ?_⟩
        · have := Owns.of (World.ownsRow_lit (base := 0) (e := T) (size := 1) w z.cells 1 (Nat.zero_le _) (by simp [maxLen]) (by rw [hzc]; rfl))
          rw [hzc] at this ⊢
          exact this
        · split
          · rename_i hs
            cases ht : Γ.ty T with
            | none => rw [ht] at hs; cases hs
            | some t =>
              rw [ht] at hs
              cases t with
              | sl e t' =>
                have hi2 : InfoIs Γ.P T (.slice none 0 0) 1 := (hΓ.is ht).2.1
                obtain ⟨i, g1, g2, g3⟩ := hz.get
                obtain ⟨i', k1, k2, k3⟩ := hi2.get
                rw [g1] at k1
                simp only [Option.some.injEq] at k1
                subst k1
                rw [g2] at k2
                simp only [Option.some.injEq] at k2
                subst k2
                simp only [Match]
              | _ => simp [isSl] at hs
          · simp only [Match]
        · simp [blk_slice, Value.ownBlock] at hk
          have := hc.slt k hS
          omega) (fun γ' h => new_cptr γ' h)
      exact ⟨_, _, γ', run hz, h2⟩
    · split at h
      · rename_i t ht
        simp only [Option.some.injEq, Prod.mk.injEq] at h
        obtain ⟨rfl, rfl⟩ := h
        have hi := (hΓ.is ht).info
        have hzr := rep_zero S w t
        obtain ⟨γ', h2⟩ := newSt_ok hc hd (cells := (toVal t (zeros t)).cells) (e := T) (o := .row T t [t.dflt] false) (av := .optr d t none []) (n := 1) (v := .pointer (some ⟨w.heap.size, 0, none⟩)) (by
          rintro hv rfl
          exact new_row hc (repRow_one (by rw [hzr.cells]; exact hzr)) (by simp [maxLen]) _) (fun γ' h => new_optr γ' h)
        exact ⟨_, _, γ', run hi, h2⟩
      · cases h
  · cases h
theorem absBox_ok (hΓ : EnvOk Γ) (hc : Core w0 M S0 S γ st a w) {d : Nat} {T : TypeId} {x : AV} {st' : St} {ps : List Prop} (h : absBox Γ st d T x = some (st', ps)) {u : Value} (hx : Match S w γ x u) :
    ∃ r w' γ', (Instr.box T u).run Γ.P w = .ok r w' ∧ Core w0 M S0 S γ' st' (a.put (some d) r) w' := by
  unfold absBox at h
  split at h
  · rename_i hd
    have run : (Instr.box T u).run Γ.P w = .ok (.pointer (some ⟨w.heap.size, 0, none⟩)) (w.alloc (.cells u.cells T)) := by
      simp [Instr.box, newVar, newRow]
    have hag : Agree S w (w.alloc (.cells u.cells T)) := fun k hk => (World.grownBy_alloc w _ none).block k (hc.slt k hk) (by simp)
    split at h
    · split at h
      · rename_i t ht
        split at h
        · split at h
          · rename_i l hl
            split at h
            · cases h
            · rename_i hhas
              simp only [Option.some.injEq, Prod.mk.injEq] at h
              obtain ⟨rfl, rfl⟩ := h
              obtain ⟨us, h1, h2, h3, h4⟩ := storeCellsA_ok hl hx
              obtain ⟨γ', h5⟩ := newSt_ok hc hd (cells := u.cells) (e := T) (o := .rcd T t l) (av := .optr d t none []) (n := 1) (v := .pointer (some ⟨w.heap.size, 0, none⟩)) (by
                rintro hv rfl
                exact new_rcd hc h2 h1 h3 h4 (fun s hs => by rintro rfl; exact hhas hs) _) (fun γ' h => new_optr γ' h)
              exact ⟨_, _, γ', run, h5⟩
          · cases h
        · cases h
      · cases h
    split at h
    · split at h
      · rename_i hcx
        simp only [Bool.and_eq_true, Bool.not_eq_true'] at hcx
        simp only [Option.some.injEq, Prod.mk.injEq] at h
        obtain ⟨rfl, rfl⟩ := h
        obtain ⟨h1, h2⟩ := cellAV_one hcx.1 hx
        have hzc : u.cells = #[u] := Array.toList_inj.1 h2
        obtain ⟨γ', h3⟩ := newSt_ok hc hd (cells := u.cells) (e := T) (o := .cell T x) (av := .cptr d) (n := 1) (v := .pointer (some ⟨w.heap.size, 0, none⟩)) (by
          rintro hv rfl
          refine ⟨⟨u, ?_, hx.mono (fun _ h => h) hag (fun s hs => upd_ne (fun e => by subst e; rw [hcx.2] at hs; cases hs)), h1⟩, fun k hk hS => ?_⟩
          · have := Owns.of (World.ownsRow_lit (base := 0) (e := T) (size := 1) w u.cells 1 (Nat.zero_le _) (by simp [maxLen]) (by rw [hzc]; rfl))
            rw [hzc] at this ⊢
            exact this
          · simp [blk_slice, Value.ownBlock] at hk
            have := hc.slt k hS
            omega) (fun γ' h => new_cptr γ' h)
        exact ⟨_, _, γ', run, h3⟩
      · cases h
    · split at h
      · rename_i t ht
        split at h
        · rename_i y hy
          simp only [Option.some.injEq, Prod.mk.injEq] at h
          obtain ⟨rfl, rfl⟩ := h
          obtain ⟨cs, hr, rfl⟩ := castTo_ok hx hy
          obtain ⟨γ', h2⟩ := newSt_ok hc hd (cells := (toVal t cs).cells) (e := T) (o := .row T t [y] false) (av := .optr d t none []) (n := 1) (v := .pointer (some ⟨w.heap.size, 0, none⟩)) (by
            rintro hv rfl
            exact new_row hc (repRow_one (by rw [hr.cells]; exact hr)) (by simp [maxLen]) _) (fun γ' h => new_optr γ' h)
          exact ⟨_, _, γ', run, h2⟩
        · cases h
      · cases h
  · cases h
theorem castAll_ok {t : Ty} : ∀ {parts : List (Nat × AV)} {i : Nat} {xs : List t.Den} {vs : List (Nat × Value)}, castAll t parts i = some xs → PartsMatch S w γ parts vs →
    ∃ cs : List (List Value), cs.length = xs.length ∧ xs.length = parts.length ∧ (∀ (j : Nat) (x : t.Den) (c : List Value), xs[j]? = some x → cs[j]? = some c → Rep S w t x c) ∧ vs = (cs.zipIdx i).map fun x => (x.2, toVal t x.1)
  | [], i, xs, vs, h, hm => by
    have h : [] = xs := Option.some.inj h
    subst h
    simp only [PartsMatch] at hm
    subst hm
    exact ⟨[], rfl, rfl, fun j x c h => by simp at h, rfl⟩
  | (k, av) :: r, i, xs, vs, h, hm => by
    unfold castAll at h
    split at h
    · rename_i hk
      subst hk
      split at h
      · rename_i x xs' hx hxs
        have h : x :: xs' = xs := Option.some.inj h
        subst h
        obtain ⟨v, vs', rfl, h1, h2⟩ := hm
        obtain ⟨c, hc, rfl⟩ := castTo_ok h1 hx
        obtain ⟨cs, g1, g2, g3, rfl⟩ := castAll_ok hxs h2
        refine ⟨c :: cs, by simp [g1], by simp [g2], fun j y d hj hd => ?_, by simp⟩
        cases j with
        | zero => simp at hj hd; subst hj hd; exact hc
        | succ j => exact g3 j y d (by simpa using hj) (by simpa using hd)
      · cases h
    · cases h
theorem fill_all {t : Ty} : ∀ {cs : List (List Value)} {xs : List t.Den} {i : Nat} {cells : Array Value}, cs.length = xs.length → (∀ (j : Nat) (x : t.Den) (c : List Value), xs[j]? = some x → cs[j]? = some c → Rep S w t x c) → (i + cs.length) * t.sz ≤ cells.size →
    ∃ cells', Instr.fill (fun k => some (k * t.sz, t.sz)) cells ((cs.zipIdx i).map fun x => (x.2, toVal t x.1)) = some cells' ∧ cells'.toList = cells.toList.take (i * t.sz) ++ cs.flatten ++ cells.toList.drop ((i + cs.length) * t.sz)
  | [], xs, i, cells, _, _, _ => ⟨cells, rfl, by simp⟩
  | c :: cs, [], i, cells, hl, _, _ => by simp at hl
  | c :: cs, x :: xs, i, cells, hl, hr, hsz => by
    have hc := hr 0 x c rfl rfl
    have hcl := hc.len
    have hcc : (toVal t c).cells.toList = c := hc.cells
    have hcs : (toVal t c).cells.size = t.sz := by rw [← Array.length_toList, hcc, hcl]
    simp only [List.length_cons] at hsz
    have e0 : (i + (cs.length + 1)) * t.sz = i * t.sz + t.sz + cs.length * t.sz := by rw [Nat.add_mul, Nat.add_mul, Nat.one_mul]; omega
    have hset : ((toVal t c).cells.zipIdx.foldl (fun (cs : Array Value) (x : Value × Nat) => cs.setIfInBounds (i * t.sz + x.2) x.1) cells).toList = cells.toList.take (i * t.sz) ++ c ++ cells.toList.drop (i * t.sz + c.length) := by
      rw [← Array.foldl_toList, Array.toList_zipIdx, hcc]
      have := foldl_set c 0 (i * t.sz) cells (by omega)
      simpa using this
    obtain ⟨cells', h1, h2⟩ := fill_all (cs := cs) (xs := xs) (i := i + 1) (cells := (toVal t c).cells.zipIdx.foldl (fun (cs : Array Value) (x : Value × Nat) => cs.setIfInBounds (i * t.sz + x.2) x.1) cells) (by simpa using hl)
      (fun j y d hj hd => hr (j + 1) y d (by simpa using hj) (by simpa using hd)) (by
        rw [← Array.length_toList, hset]
        simp only [List.length_append, List.length_take, List.length_drop, Array.length_toList]
        rw [show i + 1 + cs.length = i + (cs.length + 1) by omega, e0]
        omega)
    refine ⟨cells', ?_, ?_⟩
    · simp only [List.zipIdx_cons, List.map_cons]
      unfold Instr.fill
      simp only [hcs]
      rw [if_neg (by simp; omega)]
      exact h1
    · rw [h2, hset]
      have hlt : (cells.toList.take (i * t.sz)).length = i * t.sz := by simp; omega
      have e1 : (cells.toList.take (i * t.sz) ++ c ++ cells.toList.drop (i * t.sz + c.length)).take ((i + 1) * t.sz) = cells.toList.take (i * t.sz) ++ c := by
        rw [List.take_append_of_le_length (by simp; rw [Nat.add_mul]; omega), List.take_of_length_le (by simp; rw [Nat.add_mul]; omega)]
      have e2 : (cells.toList.take (i * t.sz) ++ c ++ cells.toList.drop (i * t.sz + c.length)).drop ((i + 1 + cs.length) * t.sz) = cells.toList.drop ((i + (cs.length + 1)) * t.sz) := by
        rw [show i + 1 + cs.length = i + (cs.length + 1) by omega, e0, List.drop_append, List.drop_of_length_le (by simp; omega), List.nil_append, List.drop_drop]
        congr 1
        simp
        omega
      rw [e1, e2]
      simp [List.append_assoc]
theorem absBuildSlice_new (hΓ : EnvOk Γ) (hc : Core w0 M S0 S γ st a w) {d : Nat} {T : TypeId} {len : Nat} {parts : List (Nat × AV)} {st' : St} {ps : List Prop} (h : absBuildSlice Γ st d T len parts = some (st', ps)) {vs : Array (Nat × Value)} (hm : PartsMatch S w γ parts vs.toList) :
    ∃ r w' γ', (Instr.buildSlice T len vs).run Γ.P w = .ok r w' ∧ Below w.heap.size w w' ∧ Core w0 M S0 S γ' st' (a.put (some d) r) w' := by
  unfold absBuildSlice at h
  split at h
  · rename_i e t ht
    split at h
    · rename_i hcond
      simp only [Bool.and_eq_true, decide_eq_true_eq] at hcond
      obtain ⟨hd, hz, hsm, hlen⟩ := hcond
      split at h
      · rename_i xs hxs
        simp only [Option.some.injEq, Prod.mk.injEq] at h
        obtain ⟨rfl, rfl⟩ := h
        obtain ⟨cs, g1, g2, g3, g4⟩ := castAll_ok hxs hm
        obtain ⟨hu, _, hte⟩ := hΓ.is ht
        obtain ⟨i, hi, hz0, hsz⟩ := hte.info.get
        have hxl : xs.length = len := by omega
        have hrow : RepRow S w t xs cs.flatten := repRow_of g1.symm g3
        have fin : ∀ cells : Array Value, cells.toList = cs.flatten → (Instr.buildSlice T len vs).run Γ.P w = .ok (.slice (some ⟨w.heap.size, 0, none⟩) len len) (w.alloc (.cells cells e)) →
            ∃ r w' γ', (Instr.buildSlice T len vs).run Γ.P w = .ok r w' ∧ Below w.heap.size w w' ∧ Core w0 M S0 S γ' (newSt st d (.row e t xs false) (.full d t)) (a.put (some d) r) w' := by
          intro cells hcl hrun
          obtain ⟨γ', h2⟩ := newSt_ok hc hd (cells := cells) (e := e) (o := .row e t xs false) (av := .full d t) (n := len) (v := .slice (some ⟨w.heap.size, 0, none⟩) len len) (by
            rintro hv rfl
            have hmx : xs.length ≤ maxLen := by
              have : len * 1 ≤ len * t.sz := Nat.mul_le_mul_left _ hz
              simp only [maxLen]; omega
            have := new_row hc (e := e) (t := t) (xs := xs) (cs := cells) (by rw [hcl]; exact hrow) hmx (upd γ d (.slice (some ⟨w.heap.size, 0, none⟩) len len))
            rw [hxl] at this
            exact this) (fun γ' h => new_full γ' h)
          exact ⟨_, _, γ', hrun, (Below.refl _ w).alloc (Nat.le_refl _) _, h2⟩
        by_cases h0 : len * i.size = 0
        · have hl0 : len = 0 := by
            rcases Nat.mul_eq_zero.1 h0 with h | h
            · exact h
            · omega
          subst hl0
          have hx0 : xs = [] := List.eq_nil_of_length_eq_zero hxl
          subst hx0
          have hc0 : cs = [] := List.eq_nil_of_length_eq_zero (by simpa using g1)
          subst hc0
          refine fin #[] (by simp) ?_
          have hv0 : vs.toList = [] := by simpa using g4
          simp [Instr.buildSlice, run_underlying hu, Go.sizeOf, typeInfo, hi, hv0, Instr.fill, newRow, Array.range_zero']
        · have hzl : (toVal t (zeros t)).cells.size = t.sz := by rw [← Array.length_toList, (rep_zero S w t).cells, Ty.zeros_len]
          obtain ⟨cells', k1, k2⟩ := fill_all (S := S) (w := w) (cs := cs) (xs := xs) (i := 0) (cells := (Array.range (len * i.size)).map ((toVal t (zeros t)).cells[· % (toVal t (zeros t)).cells.size]!)) g1 g3 (by simp [g1, hxl, hsz])
          refine fin cells' ?_ (run_buildSlice w T e len vs cells' i _ hu hi hz0 (by rw [hsz]; omega) h0 (by rw [g4]; rw [hsz] at k1 ⊢; exact k1))
          rw [k2]
          simp [g1, hxl, hsz]
      · cases h
    · cases h
  · cases h
theorem absBuildSlice_ok (hΓ : EnvOk Γ) (hc : Core w0 M S0 S γ st a w) {d : Nat} {T : TypeId} {len : Nat} {parts : List (Nat × AV)} {st' : St} {ps : List Prop} (h : absBuildSlice Γ st d T len parts = some (st', ps)) {vs : Array (Nat × Value)} (hm : PartsMatch S w γ parts vs.toList) :
    ∃ r w' γ', (Instr.buildSlice T len vs).run Γ.P w = .ok r w' ∧ Core w0 M S0 S γ' st' (a.put (some d) r) w' := by
  obtain ⟨r, w', γ', h1, _, h2⟩ := absBuildSlice_new hΓ hc h hm
  exact ⟨r, w', γ', h1, h2⟩
theorem made_take {z : Array Value} {zs : List Value} (hz : z.toList = zs) {n N : Nat} (hs : 0 < zs.length) (hn : n * zs.length ≤ N) {j : Nat} (hj : j < n) : ((((madeCells z N).toList.take (n * zs.length)).drop (j * zs.length)).take zs.length) = zs := by
  have hzs : z.size = zs.length := by rw [← Array.length_toList, hz]
  have hb : j * zs.length + zs.length ≤ n * zs.length := by rw [← Nat.succ_mul]; exact Nat.mul_le_mul_right _ hj
  apply List.ext_getElem?
  intro k
  rw [List.getElem?_take]
  split
  · rename_i hk
    rw [List.getElem?_drop, List.getElem?_take, if_pos (by omega), Array.getElem?_toList]
    simp only [madeCells, Array.getElem?_map]
    rw [Array.getElem?_range, if_pos (by omega)]
    simp only [Option.map_some]
    rw [hzs, Nat.mul_comm j, Nat.mul_add_mod, Nat.mod_eq_of_lt hk, ← hz, Array.getElem?_toList]
    have : k < z.size := by omega
    simp [this]
  · rename_i hk
    rw [List.getElem?_eq_none (by omega)]
theorem absMake_ok (hΓ : EnvOk Γ) (hc : Core w0 M S0 S γ st a w) {d : Nat} {T : TypeId} {l c : AV} {st' : St} {ps : List Prop} (h : absMake Γ st d T l c = some (st', ps)) (hps : ∀ p ∈ ps, p) {ul uc : Value} (hl : Match S w γ l ul) (hcc : Match S w γ c uc) :
    ∃ r w' γ', (Instr.makeSlice T ul uc).run Γ.P w = .ok r w' ∧ Core w0 M S0 S γ' st' (a.put (some d) r) w' := by
  unfold absMake at h
  split at h
  · rename_i e t n m ht hn hm
    obtain ⟨n', hn'⟩ : ∃ x : Int, x = n := ⟨n, rfl⟩
    subst hn'
    obtain ⟨m', hm'⟩ : ∃ x : Int, x = m := ⟨m, rfl⟩
    subst hm'
    obtain rfl := castTo_int hl hn
    obtain rfl := castTo_int hcc hm
    split at h
    · rename_i t1 b hte
      split at h
      · rename_i hcond
        simp only [Bool.and_eq_true, decide_eq_true_eq] at hcond
        obtain ⟨hd, hz, hb⟩ := hcond
        obtain rfl := Ty.eq_of_beq hb
        simp only [Option.some.injEq, Prod.mk.injEq] at h
        obtain ⟨rfl, rfl⟩ := h
        have l0 : (0 : Int) ≤ n' := hps _ (by simp)
        have l1 : n' ≤ m' := hps (n' ≤ m') (by simp)
        have l2 : ((b : Nat) : Int) * m' ≤ 281474976710656 := hps (((b : Nat) : Int) * m' ≤ 281474976710656) (by simp)
        have l3 : m' ≤ 9223372036854775807 := hps (m' ≤ 9223372036854775807) (by simp)
        obtain ⟨hu, _, _⟩ := hΓ.is ht
        obtain ⟨hte1, hby⟩ := hΓ.ty e _ b hte
        obtain ⟨i, hi, hz0, hsz⟩ := hte1.info.get
        have hb2 : i.bytes = b := by simpa [hi] using hby
        have hrun := run_make (P := Γ.P) w T e i _ hu hi hz0 .i64 .i64 n' m' l0 l1 (by rw [hb2]; exact l2) l3
        have hzc : (toVal t1 (zeros t1)).cells.toList = zeros t1 := (rep_zero S w t1).cells
        have hzl : (toVal t1 (zeros t1)).cells.size = t1.sz := by rw [← Array.length_toList, hzc, Ty.zeros_len]
        have hzs : (zeros t1).length = t1.sz := Ty.zeros_len t1
        have hcap : n'.toNat * (zeros t1).length ≤ m'.toNat * i.size := by rw [hzs, hsz]; exact Nat.mul_le_mul_right _ (by omega)
        have hlm : (madeCells (toVal t1 (zeros t1)).cells (m'.toNat * i.size)).toList.length = m'.toNat * i.size := by rw [Array.length_toList, size_madeCells]
        have hrow : RepRow S w t1 (List.replicate n'.toNat t1.dflt) ((madeCells (toVal t1 (zeros t1)).cells (m'.toNat * i.size)).toList.take (n'.toNat * (zeros t1).length)) := by
          refine ⟨by rw [List.length_take, hlm, List.length_replicate, Nat.min_eq_left hcap, hzs], fun j x hj => ?_⟩
          rw [List.getElem?_replicate] at hj
          split at hj
          · rename_i hjn
            have hj : t1.dflt = x := Option.some.inj hj
            subst hj
            have := made_take hzc (n := n'.toNat) (N := m'.toNat * i.size) (by omega) hcap hjn
            rw [hzs] at this ⊢
            rw [this]
            exact rep_zero S w t1
          · cases hj
        obtain ⟨γ', h2⟩ := newSt_ok' hc hd (cells := madeCells (toVal t1 (zeros t1)).cells (m'.toNat * i.size)) (e := e) (o := .row e t1 (List.replicate n'.toNat t1.dflt) false) (av := .full d t1) (n := n'.toNat) (c := m'.toNat) (v := .slice (some ⟨w.heap.size, 0, none⟩) n'.toNat m'.toNat) (by
          rintro hv rfl
          have hag : Agree S w (w.alloc (.cells (madeCells (toVal t1 (zeros t1)).cells (m'.toNat * i.size)) e)) := fun k hk => (World.grownBy_alloc w _ none).block k (hc.slt k hk) (by simp)
          refine ⟨⟨_, Owns.of (base := 0) ⟨?_, .inr ⟨w.heap.size, m'.toNat, _, by rw [List.length_replicate], Nat.zero_le _, heap_alloc_new w _, by rw [List.length_replicate]; omega, by simp only [maxLen]; omega, by rw [size_madeCells, hsz], rfl⟩⟩, ?_⟩, fun k hk => ⟨fun hS => ?_, fun h => by cases h⟩⟩
          · rw [List.length_take, hlm, List.length_replicate, ← hzs, Nat.min_eq_left hcap]
          · rw [List.length_replicate, ← hzs]
            exact hrow.mono (fun _ h => h) hag
          · simp [blk_slice, Value.ownBlock] at hk
            have := hc.slt k hS
            omega) (fun γ' h => new_full γ' h)
        exact ⟨_, _, γ', hrun, h2⟩
      · cases h
    · cases h
  · cases h
end
end Go.Abs
