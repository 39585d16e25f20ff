/- Part of the proof of the law's row: YtnoeomlanbdjeaaAbsH. -/
import Derived.Test.YtnoeomlanbdjeaaAbsG
set_option linter.all false
set_option linter.unusedVariables false
set_option linter.unusedSimpArgs false
namespace Go.Abs
open Go.RowKit

/-- A byte of a text. -/
@[reducible] def chr (s : ByteArray) (i : Nat) : Int := ((s.data.getD i 0).toNat : Int)
/-- What was there is there still. -/
def SameOld (w w' : World) : Prop := ∀ b, b < w.heap.size → w'.heap[b]? = w.heap[b]?
theorem SameOld.refl (w : World) : SameOld w w := fun _ _ => rfl
/-- What the state knows of a world is as it was in another one. -/
def SameAt (S : Nat → Prop) (γ : Nat → Value) (st : St) (w w' : World) : Prop := ∀ b, (S b ∨ ∃ s o, get st.heap s = some o ∧ o.live = true ∧ Blk (γ s) b) → w'.heap[b]? = w.heap[b]?
theorem SameAt.refl (S : Nat → Prop) (γ : Nat → Value) (st : St) (w : World) : SameAt S γ st w w := fun _ _ => rfl
theorem SameAt.of_old {w0 : World} {M S0 S : Nat → Prop} {γ : Nat → Value} {st : St} {a : Act} {w w' : World} (hc : Core w0 M S0 S γ st a w) (h : SameOld w w') : SameAt S γ st w w' := by
  rintro b (hb | ⟨s, o, h1, h2, h3⟩)
  · exact h b (hc.slt b hb)
  · exact h b (own_ob (hc.obj s o h1).1 h2 b h3)

def idx : AV → Option Int
  | .data (.int _) n => some n
  | _ => none
def evUn (op : UnOp) (x : AV) : Ev :=
  match op with
  | .not => (castTo .bool x).map fun b => (.data .bool (!b), [])
  | .neg => (match x with
    | .data (.int k) n => some (.data (.int k) (0 - n), [Fits k (0 - n)])
    | _ => none)
  | .xor => (match x with
    | .data (.int k) n => some (.data (.int k) (bitv .xor k (if k.signed then -1 else k.max) n), [])
    | _ => none)
  | _ => none
def evLen (Γ : Env) (T : TypeId) (x : AV) : Ev :=
  match Γ.ty T with
  | some .str => (castTo .str x).map fun s => (.data (.int .i64) ((s.size : Nat) : Int), [])
  | some (.sl e t) =>
    (match castTo (.sl e t) x with
    | some xs => some (.data (.int .i64) ((List.length xs : Nat) : Int), [])
    | none => (match x with
      | .own _ _ _ len => some (.data (.int .i64) ((len : Nat) : Int), [])
      | .lenS len => some (.data (.int .i64) ((len : Nat) : Int), [])
      | .inn _ _ _ len => some (.data (.int .i64) ((len : Nat) : Int), [])
      | _ => none))
  | _ => none
def evMax (mx : Bool) (x y : AV) : Ev :=
  match x with
  | .data (.int k) a => (castTo (.int k) y).map fun b => (.data (.int k) (if mx then max a b else min a b), [])
  | _ => none
def evPick (c x y : AV) : Ev :=
  match castTo .bool c with
  | some b =>
    match bareAV x with
    | (.data t u, ps) => (castTo t (bareAV y).1).map fun v => (.data t (if b = true then u else v), (ps.map fun p => (b = true → p)) ++ ((bareAV y).2.map fun p => (b = false → p)))
    | _ => none
  | none => none
/-- An array's elements. -/
def arrL (t : Ty) : (ts : List Ty) → Ty.Dens ts → Option (List t.Den)
  | [], _ => some ([] : List _)
  | t' :: ts, x => (match Ty.cast t' t x.1, arrL t ts x.2 with
    | some a, some l => some (a :: l)
    | _, _ => none)
def evArrAddr (Γ : Env) (T : TypeId) (ts : List Ty) (n : Int) (x : AV) : Ev :=
  match ts, x with
  | t0 :: ts', .rptr t y => if Γ.arrs.contains T then (match Ty.cast t (.st (t0 :: ts')) y with
    | some y' => (match arrL t0 (t0 :: ts') y' with
      | some l => some (.rptr t0 (List.getD (α := t0.Den) l n.toNat t0.dflt), [0 ≤ n, n < ((List.length l : Nat) : Int)])
      | none => none)
    | none => none) else none
  | _, _ => none
/-- The place of an array's element. -/
def evArrIx (n : Nat) (t : Ty) (i : Int) (x : AV) : Ev :=
  match x with
  | .rptr t' y => (match Ty.cast t' (.arr n t) y with
    | some xs => some (.rptr t (List.getD (α := t.Den) xs i.toNat t.dflt), [0 ≤ i, i < ((n : Nat) : Int)])
    | none => none)
  | .optr s t' j p => (match t'.sub p with
    | some tp => if Ty.beq tp (.arr n t) then some (.optr s t' j (p ++ [i.toNat]), [0 ≤ i, i < ((n : Nat) : Int)]) else none
    | none => none)
  | _ => none
def evIndexAddr (Γ : Env) (T : TypeId) (x i : AV) : Ev :=
  match Γ.ty T, idx i with
  | some (.sl e t), some n =>
    (match castTo (.sl e t) x with
    | some xs => some (.rptr t (List.getD (α := t.Den) xs n.toNat t.dflt), [0 ≤ n, n < ((List.length xs : Nat) : Int)])
    | none => (match x with
      | .own s t' off len => if Ty.beq t' t then some (.optr s t (some (off + n.toNat)) [], [0 ≤ n, n < ((len : Nat) : Int)]) else none
      | .inn c i t' len => if Ty.beq t' t then some (.iptr c i n.toNat t [], [0 ≤ n, n < ((len : Nat) : Int)]) else none
      | _ => none))
  | some (.st ts), some n => evArrAddr Γ T ts n x
  | some (.arr m t), some n => evArrIx m t n x
  | _, _ => none
def evIndex (Γ : Env) (T : TypeId) (x i : AV) : Ev :=
  match Γ.ty T, idx i with
  | some .str, some n => (castTo .str x).map fun s => (.data (.int .u8) (chr s n.toNat), [0 ≤ n, n < ((s.size : Nat) : Int)])
  | some (.arr m t), some n => (castTo (.arr m t) x).map fun xs => (.data t (List.getD (α := t.Den) xs n.toNat t.dflt), [0 ≤ n, n < ((m : Nat) : Int)])
  | _, _ => none
def evExtract (x : AV) (k : Nat) : Ev :=
  match x with
  | .tup vs => (vs[k]?).map fun v => (v, [])
  | _ => none
def evConvert (Γ : Env) (src dst : TypeId) (x : AV) : Ev :=
  match Γ.ty src, Γ.ty dst with
  | some (.int k), some (.int k') => (castTo (.int k) x).map fun n => (.data (.int k') n, [Fits k' n])
  | _, _ => none

section
variable {S : Nat → Prop} {w : World} {γ : Nat → Value} {Γ : Env}
theorem evUn_ok {op : UnOp} {x av : AV} {ps : List Prop} (h : evUn op x = some (av, ps)) (hps : ∀ p ∈ ps, p) {u : Value} (hx : Match S w γ x u) :
    ∃ r, (∀ w', (Op.unary op u).run Γ.P w' = .ok r w') ∧ Match S w γ av r := by
  unfold evUn at h
  split at h
  · obtain ⟨b, hb, h2⟩ := Option.map_eq_some_iff.1 h
    simp only [Prod.mk.injEq] at h2
    obtain ⟨rfl, rfl⟩ := h2
    obtain rfl := castTo_bool hx hb
    exact ⟨_, fun w' => by simp [Op.unary], match_bool.2 rfl⟩
  · split at h
    · simp only [Option.some.injEq, Prod.mk.injEq] at h
      obtain ⟨rfl, rfl⟩ := h
      obtain rfl := match_int.1 hx
      have h1 := hps _ (List.mem_cons_self ..)
      simp only [Fits] at h1
      exact ⟨_, fun w' => by simp only [Op.unary, Op.intArith, h1, Sem.run_pure], match_int.2 rfl⟩
    · cases h
  · split at h
    · simp only [Option.some.injEq, Prod.mk.injEq] at h
      obtain ⟨rfl, rfl⟩ := h
      obtain rfl := match_int.1 hx
      exact ⟨_, fun w' => by simp only [Op.unary, Op.intBits, Sem.run_pure]; rfl, match_int.2 rfl⟩
    · cases h
  · cases h
theorem own_slice {s : Nat} {t : Ty} {off len : Nat} {v : Value} (h : Match S w γ (.own s t off len) v) : ∃ A c, v = .slice A len c ∧ len ≤ c := by
  simp only [Match] at h
  rcases h with ⟨_, rfl, _, rfl⟩ | ⟨g, o, n, cap, _, hle, p, rfl, _⟩
  · exact ⟨none, 0, rfl, Nat.le_refl _⟩
  · exact ⟨some ⟨g, p, none⟩, cap - off, rfl, by omega⟩
theorem evLen_ok (hΓ : EnvOk Γ) {T : TypeId} {x av : AV} {ps : List Prop} (h : evLen Γ T x = some (av, ps)) {u : Value} (hx : Match S w γ x u) (ty : TypeId) :
    ∃ r, (∀ w', (Builtin.len_ #[T] ty #[u]).run Γ.P w' = .ok r w') ∧ Match S w γ av r := by
  unfold evLen at h
  split at h
  · rename_i ht
    obtain ⟨b, hb, h2⟩ := Option.map_eq_some_iff.1 h
    simp only [Prod.mk.injEq] at h2
    obtain ⟨rfl, rfl⟩ := h2
    obtain rfl := castTo_str hx hb
    exact ⟨_, fun w' => by simp [Builtin.len_, run_underlying (hΓ.is ht).1, goInt], match_int.2 rfl⟩
  · rename_i e t ht
    have hu := (hΓ.is ht).1
    split at h
    · rename_i xs hxs
      simp only [Option.some.injEq, Prod.mk.injEq] at h
      obtain ⟨rfl, rfl⟩ := h
      obtain ⟨cs, h1, rfl⟩ := castTo_ok hx hxs
      simp only [Rep] at h1
      obtain ⟨A, c, rfl, _⟩ := h1
      exact ⟨_, fun w' => by simp [Builtin.len_, run_underlying hu, toVal, goInt], match_int.2 rfl⟩
    · split at h
      · simp only [Option.some.injEq, Prod.mk.injEq] at h
        obtain ⟨rfl, rfl⟩ := h
        obtain ⟨A, c, rfl, _⟩ := own_slice hx
        exact ⟨_, fun w' => by simp [Builtin.len_, run_underlying hu, goInt], match_int.2 rfl⟩
      · simp only [Option.some.injEq, Prod.mk.injEq] at h
        obtain ⟨rfl, rfl⟩ := h
        simp only [Match] at hx
        obtain ⟨A, c, rfl⟩ := hx
        exact ⟨_, fun w' => by simp [Builtin.len_, run_underlying hu, goInt], match_int.2 rfl⟩
      · simp only [Option.some.injEq, Prod.mk.injEq] at h
        obtain ⟨rfl, rfl⟩ := h
        simp only [Match] at hx
        obtain ⟨_, A, c, _, _, rfl, _⟩ := hx
        exact ⟨_, fun w' => by simp [Builtin.len_, run_underlying hu, goInt], match_int.2 rfl⟩
      · cases h
  · cases h
theorem evMax_ok {mx : Bool} {x y av : AV} {ps : List Prop} (h : evMax mx x y = some (av, ps)) {u v : Value} (hx : Match S w γ x u) (hy : Match S w γ y v) (ats : Array TypeId) (ty : TypeId) :
    ∃ r, (∀ w', ((if mx then Builtin.max_ ats ty #[u, v] else Builtin.min_ ats ty #[u, v]) : Sem Value).run Γ.P w' = .ok r w') ∧ Match S w γ av r := by
  unfold evMax at h
  split at h
  · rename_i k a
    obtain ⟨b, hb, h2⟩ := Option.map_eq_some_iff.1 h
    simp only [Prod.mk.injEq] at h2
    obtain ⟨rfl, rfl⟩ := h2
    obtain rfl := match_int.1 hx
    obtain rfl := castTo_int hy hb
    cases mx with
    | true =>
      refine ⟨_, fun w' => ?_, match_int.2 rfl⟩
      simp only [if_true, Builtin.max_, List.foldlM_cons, List.foldlM_nil, Builtin.max2, Sem.run_bind, Sem.run_pure, Result.andThen_ok]
      congr 2
      split <;> omega
    | false =>
      refine ⟨_, fun w' => ?_, match_int.2 rfl⟩
      simp only [Bool.false_eq_true, if_false, Builtin.min_, List.foldlM_cons, List.foldlM_nil, Builtin.min2, Sem.run_bind, Sem.run_pure, Result.andThen_ok]
      congr 2
      split <;> omega
  · cases h
theorem evPick_ok {c x y av : AV} {ps : List Prop} (h : evPick c x y = some (av, ps)) (hps : ∀ p ∈ ps, p) {uc ux uy : Value} (hc : Match S w γ c uc) (hx : Match S w γ x ux) (hy : Match S w γ y uy) :
    ∃ b, uc = .bool b ∧ Match S w γ av (if b then ux else uy) := by
  unfold evPick at h
  split at h
  · rename_i b hb
    obtain rfl := castTo_bool hc hb
    refine ⟨b, rfl, ?_⟩
    split at h
    · rename_i t u qs hbx
      obtain ⟨v, hv, h2⟩ := Option.map_eq_some_iff.1 h
      simp only [Prod.mk.injEq] at h2
      obtain ⟨rfl, rfl⟩ := h2
      cases b with
      | true =>
        simp only [if_true]
        refine bareAV_ok hx hbx (fun p hp => ?_)
        exact hps (true = true → p) (List.mem_append.2 (.inl (List.mem_map.2 ⟨p, hp, rfl⟩))) rfl
      | false =>
        simp only [Bool.false_eq_true, if_false]
        have hy' : Match S w γ (bareAV y).1 uy := bareAV_ok hy (av' := (bareAV y).1) (ps := (bareAV y).2) rfl (fun p hp =>
          hps (false = false → p) (List.mem_append.2 (.inr (List.mem_map.2 ⟨p, hp, rfl⟩))) rfl)
        exact match_data.2 (castTo_ok hy' hv)
    · cases h
  · cases h
theorem idx_ok {i : AV} {n : Int} {u : Value} (h : idx i = some n) (hi : Match S w γ i u) : ∃ k, u = .int k n := by
  unfold idx at h
  split at h
  · have h : _ = n := Option.some.inj h
    subst h
    exact ⟨_, match_int.1 hi⟩
  · cases h
theorem arrL_row {S : Nat → Prop} {w : World} {t : Ty} : ∀ {ts : List Ty} {x : Ty.Dens ts} {l : List t.Den} {cs : List Value}, arrL t ts x = some l → Reps S w ts x cs → l.length = ts.length ∧ cs.length = l.length * t.sz ∧ ∀ j y, l[j]? = some y → Rep S w t y ((cs.drop (j * t.sz)).take t.sz)
  | [], x, l, cs, h, hr => by
    have h : [] = l := Option.some.inj h
    subst h
    simp only [Reps] at hr
    subst hr
    exact ⟨rfl, by simp, fun j y h => by simp at h⟩
  | t' :: ts, x, l, cs, h, hr => by
    unfold arrL at h
    split at h
    · rename_i a l' h1 h2
      have h : a :: l' = l := Option.some.inj h
      subst h
      obtain ⟨e1, e2⟩ := Ty.cast_some h1
      subst e1
      have e2 : x.1 = a := e2
      simp only [Reps] at hr
      obtain ⟨c1, c2, rfl, g1, g2⟩ := hr
      obtain ⟨k1, k2, k3⟩ := arrL_row h2 g2
      have hl := g1.len
      refine ⟨by simp [k1], by rw [List.length_append, hl, k2, List.length_cons, Nat.add_mul, Nat.one_mul, Nat.add_comm], fun j y hj => ?_⟩
      cases j with
      | zero =>
        simp at hj
        subst hj
        rw [Nat.zero_mul, List.drop_zero, ← hl, List.take_left, ← e2]
        exact g1
      | succ j =>
        rw [Nat.add_mul, Nat.one_mul, Nat.add_comm, ← hl, List.drop_append, List.drop_of_length_le (by omega), List.nil_append, hl, show t'.sz + j * t'.sz - t'.sz = j * t'.sz by omega]
        exact k3 j y (by simpa using hj)
    · cases h
theorem evArrAddr_ok (hΓ : EnvOk Γ) {T : TypeId} {ts : List Ty} {n : Int} {x av : AV} {ps : List Prop} (ht : Γ.ty T = some (.st ts)) (h : evArrAddr Γ T ts n x = some (av, ps)) (hps : ∀ p ∈ ps, p) {u : Value} {k : IntKind} (hx : Match S w γ x u) :
    ∃ r, (∀ w', (Instr.indexAt T u (.int k n)).run Γ.P w' = .ok r w') ∧ Match S w γ av r := by
  unfold evArrAddr at h
  split at h
  · rename_i t0 ts' t y
    split at h
    · rename_i hc
      split at h
      · rename_i y' hy
        split at h
        · rename_i l hl
          simp only [Option.some.injEq, Prod.mk.injEq] at h
          obtain ⟨rfl, rfl⟩ := h
          have h0 := hps _ (List.mem_cons_self ..)
          have h1 := hps _ (List.mem_cons_of_mem _ (List.mem_cons_self ..))
          obtain ⟨e1, e2⟩ := Ty.cast_some hy
          subst e1
          have e2 : y = y' := e2
          subst e2
          simp only [Match] at hx
          obtain ⟨ad, cs, rfl, hsp, hS, hcell, hr⟩ := hx
          simp only [Rep] at hr
          obtain ⟨k1, k2, k3⟩ := arrL_row hl hr
          obtain ⟨nn, e, hu⟩ := hΓ.arr T _ ht hc
          have his := hΓ.is ht
          obtain ⟨_, _, _, hh⟩ := his
          rcases hh with ⟨fs, hu', _⟩ | ⟨nn', e', hu', hn', hel⟩
          · rw [hu] at hu'; cases hu'
          · rw [hu] at hu'
            simp only [Option.some.injEq, TypeDesc.array.injEq] at hu'
            obtain ⟨rfl, rfl⟩ := hu'
            have hte := hel.1
            have hn2 : n.toNat < List.length l := by omega
            have hlt : n < (nn : Int) := by rw [hn'.1, ← k1]; exact h1
            refine ⟨.pointer (some (ad.add (n.toNat * t0.sz))), fun w' => ?_, ?_⟩
            · simp only [Instr.indexAt, asIntOf, Instr.sureAddr, Sem.run_bind, Sem.run_pure, Result.andThen_ok, run_underlying hu]
              rw [if_pos ⟨h0, hlt⟩]
              simp only [Sem.run_bind, hte.sizeOf w', Result.andThen_ok, Sem.run_pure]
            · simp only [Match]
              refine ⟨_, (cs.drop (n.toNat * t0.sz)).take t0.sz, rfl, by rw [add_spot hsp], by rw [add_spot hsp]; exact hS, ?_, ?_⟩
              · intro k' u' hk'
                rw [add_spot hsp]
                rw [List.getElem?_take] at hk'
                split at hk'
                · rw [List.getElem?_drop] at hk'
                  have := hcell _ _ hk'
                  rw [← Nat.add_assoc] at this
                  exact this
                · cases hk'
              · rw [List.getD_eq_getElem?_getD, List.getElem?_eq_getElem hn2]
                exact k3 _ _ (List.getElem?_eq_getElem hn2)
        · cases h
      · cases h
    · cases h
  · cases h
theorem offs_nil (t : Ty) : t.offs [] = 0 := by cases t <;> rfl
mutual
theorem arr_offs : ∀ {t : Ty} {p : List Nat} {n : Nat} {t0 : Ty} (i : Nat), t.sub p = some (.arr n t0) → t.offs (p ++ [i]) = t.offs p + i * t0.sz
  | t, [], n, t0, i, h => by
    have : t = .arr n t0 := by cases t <;> simpa [Ty.sub] using h
    subst this
    simp [Ty.offs, offs_nil]
  | .st ts, j :: p, n, t0, i, h => by
    simp only [Ty.sub, List.cons_append, Ty.offs] at h ⊢
    exact arrs_offs i h
  | .arr m t, j :: p, n, t0, i, h => by
    simp only [Ty.sub, List.cons_append, Ty.offs] at h ⊢
    rw [arr_offs i h, Nat.add_assoc]
  | .int _, _ :: _, _, _, _, h => by simp [Ty.sub] at h
  | .bool, _ :: _, _, _, _, h => by simp [Ty.sub] at h
  | .str, _ :: _, _, _, _, h => by simp [Ty.sub] at h
  | .sl _ _, _ :: _, _, _, _, h => by simp [Ty.sub] at h
  | .map _ _ _ _, _ :: _, _, _, _, h => by simp [Ty.sub] at h
  | .opq _, _ :: _, _, _, _, h => by simp [Ty.sub] at h
  | .len _ _, _ :: _, _, _, _, h => by simp [Ty.sub] at h
theorem arrs_offs : ∀ {ts : List Ty} {j : Nat} {p : List Nat} {n : Nat} {t0 : Ty} (i : Nat), Ty.subs ts j p = some (.arr n t0) → Ty.offss ts j (p ++ [i]) = Ty.offss ts j p + i * t0.sz
  | [], _, _, _, _, _, h => by simp [Ty.subs] at h
  | t :: ts, 0, p, n, t0, i, h => by
    simp only [Ty.subs, Ty.offss] at h ⊢
    exact arr_offs i h
  | t :: ts, j + 1, p, n, t0, i, h => by
    simp only [Ty.subs, Ty.offss] at h ⊢
    rw [arrs_offs (ts := ts) i h, Nat.add_assoc]
end
theorem evArrIx_ok (hΓ : EnvOk Γ) {T : TypeId} {m : Nat} {t : Ty} {n : Int} {x av : AV} {ps : List Prop} (ht : Γ.ty T = some (.arr m t)) (h : evArrIx m t n x = some (av, ps)) (hps : ∀ p ∈ ps, p) {u : Value} {k : IntKind} (hx : Match S w γ x u) :
    ∃ r, (∀ w', (Instr.indexAt T u (.int k n)).run Γ.P w' = .ok r w') ∧ Match S w γ av r := by
  obtain ⟨_, _, _, e, hu, hpos, hte⟩ := hΓ.is ht
  unfold evArrIx at h
  split at h
  · rename_i t' y
    split at h
    · rename_i xs hy
      simp only [Option.some.injEq, Prod.mk.injEq] at h
      obtain ⟨rfl, rfl⟩ := h
      have h0 := hps _ (List.mem_cons_self ..)
      have h1 := hps _ (List.mem_cons_of_mem _ (List.mem_cons_self ..))
      obtain ⟨e1, e2⟩ := Ty.cast_some hy
      subst e1
      have e2 : y = xs := e2
      subst e2
      simp only [Match] at hx
      obtain ⟨ad, cs, rfl, hsp, hS, hcell, hr⟩ := hx
      simp only [Rep] at hr
      obtain ⟨k1, k2, k3⟩ := hr
      have hn2 : n.toNat < List.length y := by omega
      refine ⟨.pointer (some (ad.add (n.toNat * t.sz))), fun w' => ?_, ?_⟩
      · simp only [Instr.indexAt, asIntOf, Instr.sureAddr, Sem.run_bind, Sem.run_pure, Result.andThen_ok, run_underlying hu]
        rw [if_pos ⟨h0, h1⟩]
        simp only [Sem.run_bind, hte.sizeOf w', Result.andThen_ok, Sem.run_pure]
      · simp only [Match]
        refine ⟨_, (cs.drop (n.toNat * t.sz)).take t.sz, rfl, by rw [add_spot hsp], by rw [add_spot hsp]; exact hS, ?_, ?_⟩
        · intro k' u' hk'
          rw [add_spot hsp]
          rw [List.getElem?_take] at hk'
          split at hk'
          · rw [List.getElem?_drop] at hk'
            have := hcell _ _ hk'
            rw [← Nat.add_assoc] at this
            exact this
          · cases hk'
        · exact k3 _ _ (arr_get hn2)
    · cases h
  · rename_i s t' j p
    split at h
    · rename_i tp htp
      split at h
      · rename_i hb
        simp only [Option.some.injEq, Prod.mk.injEq] at h
        obtain ⟨rfl, rfl⟩ := h
        obtain rfl := Ty.eq_of_beq hb
        have h0 := hps _ (List.mem_cons_self ..)
        have h1 := hps _ (List.mem_cons_of_mem _ (List.mem_cons_self ..))
        simp only [Match] at hx
        obtain ⟨g, o, m', cap, hg, rfl⟩ := hx
        refine ⟨.pointer (some ⟨g, o + (j.getD 0 * t'.sz + t'.offs p) + n.toNat * t.sz, none⟩), fun w' => ?_, ?_⟩
        · simp only [Instr.indexAt, asIntOf, Instr.sureAddr, Sem.run_bind, Sem.run_pure, Result.andThen_ok, run_underlying hu]
          rw [if_pos ⟨h0, h1⟩]
          simp only [Sem.run_bind, hte.sizeOf w', Result.andThen_ok, Sem.run_pure, add_mul_sz]
        · simp only [Match]
          exact ⟨g, o, m', cap, hg, by rw [arr_offs _ htp, Nat.add_assoc, Nat.add_assoc]⟩
      · cases h
    · cases h
  · cases h
theorem evIndexAddr_ok (hΓ : EnvOk Γ) {T : TypeId} {x i av : AV} {ps : List Prop} (h : evIndexAddr Γ T x i = some (av, ps)) (hps : ∀ p ∈ ps, p) {u v : Value} (hx : Match S w γ x u) (hi : Match S w γ i v) :
    ∃ r, (∀ w', (Instr.indexAt T u v).run Γ.P w' = .ok r w') ∧ Match S w γ av r := by
  unfold evIndexAddr at h
  split at h
  · rename_i e t n ht hn
    obtain ⟨k, rfl⟩ := idx_ok hn hi
    obtain ⟨hu, _, hte⟩ := hΓ.is ht
    split at h
    · rename_i xs hxs
      simp only [Option.some.injEq, Prod.mk.injEq] at h
      obtain ⟨rfl, rfl⟩ := h
      have h0 := hps _ (List.mem_cons_self ..)
      have h1 := hps _ (List.mem_cons_of_mem _ (List.mem_cons_self ..))
      obtain ⟨cs, hr, rfl⟩ := castTo_ok hx hxs
      simp only [Rep] at hr
      obtain ⟨A, c, rfl, hlc, hcell⟩ := hr
      obtain ⟨ad, rfl, hsp, hS, hel⟩ := hcell (by omega)
      have hn2 : n.toNat < List.length xs := by omega
      obtain ⟨us, hul, huc, hur⟩ := hel n.toNat _ (List.getElem?_eq_getElem hn2)
      refine ⟨.pointer (some (ad.add (n.toNat * t.sz))), fun w' => ?_, ?_⟩
      · simp only [Instr.indexAt, asIntOf, Sem.run_bind, Sem.run_pure, Result.andThen_ok, run_underlying hu, toVal, List.headD_cons]
        rw [if_pos ⟨h0, h1⟩]
        simp only [Sem.run_bind, hte.sizeOf w', Result.andThen_ok, Sem.run_pure]
      · simp only [Match]
        refine ⟨_, us, rfl, by rw [add_spot hsp], by rw [add_spot hsp]; exact hS, ?_, ?_⟩
        · intro k' u' hk'
          rw [add_spot hsp]
          rw [show ad.off + n.toNat * t.sz + k' = ad.off + (n.toNat * t.sz + k') from Nat.add_assoc ..]
          exact huc k' u' hk'
        · rw [List.getD_eq_getElem?_getD, List.getElem?_eq_getElem hn2]
          exact hur
    · split at h
      · rename_i s t' off len _
        split at h
        · rename_i hb
          simp only [Option.some.injEq, Prod.mk.injEq] at h
          obtain ⟨rfl, rfl⟩ := h
          obtain rfl := Ty.eq_of_beq hb
          have h0 := hps _ (List.mem_cons_self ..)
          have h1 := hps _ (List.mem_cons_of_mem _ (List.mem_cons_self ..))
          simp only [Match] at hx
          rcases hx with ⟨_, rfl, _⟩ | ⟨g, o, m, cap, hg, hle, p, rfl, _, hA⟩
          · omega
          · obtain rfl := hA (.inr (by omega))
            refine ⟨.pointer (some ⟨g, o + off * t'.sz + n.toNat * t'.sz, none⟩), fun w' => ?_, ?_⟩
            · simp only [Instr.indexAt, asIntOf, Sem.run_bind, Sem.run_pure, Result.andThen_ok, run_underlying hu]
              rw [if_pos ⟨h0, h1⟩]
              simp only [Sem.run_bind, hte.sizeOf w', Result.andThen_ok, Sem.run_pure, add_mul_sz]
            · simp only [Match]
              exact ⟨g, o, m, cap, hg, by rw [offs_nil, Nat.add_zero, Option.getD_some, Nat.add_mul, Nat.add_assoc]⟩
        · cases h
      · rename_i c i t' len _
        split at h
        · rename_i hb
          simp only [Option.some.injEq, Prod.mk.injEq] at h
          obtain ⟨rfl, rfl⟩ := h
          obtain rfl := Ty.eq_of_beq hb
          have h0 := hps _ (List.mem_cons_self ..)
          have h1 := hps _ (List.mem_cons_of_mem _ (List.mem_cons_self ..))
          simp only [Match] at hx
          obtain ⟨us, A, cap, k1, k2, rfl, k3⟩ := hx
          rcases k3 with k3 | ⟨g, o, rfl⟩
          · omega
          · refine ⟨.pointer (some ⟨g, o + n.toNat * t'.sz, none⟩), fun w' => ?_, ?_⟩
            · simp only [Instr.indexAt, asIntOf, Sem.run_bind, Sem.run_pure, Result.andThen_ok, run_underlying hu]
              rw [if_pos ⟨h0, h1⟩]
              simp only [Sem.run_bind, hte.sizeOf w', Result.andThen_ok, Sem.run_pure, add_mul_sz]
            · simp only [Match]
              exact ⟨us, g, o, len, cap, k1, k2, by rw [offs_nil, Nat.add_zero]⟩
        · cases h
      · cases h
  · rename_i ts n ht hn
    obtain ⟨k, rfl⟩ := idx_ok hn hi
    exact evArrAddr_ok hΓ ht h hps hx
  · rename_i m t n ht hn
    obtain ⟨k, rfl⟩ := idx_ok hn hi
    exact evArrIx_ok hΓ ht h hps hx
  · cases h
theorem evIndex_ok (hΓ : EnvOk Γ) {T : TypeId} {x i av : AV} {ps : List Prop} (h : evIndex Γ T x i = some (av, ps)) (hps : ∀ p ∈ ps, p) {u v : Value} (hx : Match S w γ x u) (hi : Match S w γ i v) :
    ∃ r, (∀ w', (Instr.index T u v).run Γ.P w' = .ok r w') ∧ Match S w γ av r := by
  unfold evIndex at h
  split at h
  · rename_i n ht hn
    obtain ⟨k, rfl⟩ := idx_ok hn hi
    obtain ⟨s, hs, h2⟩ := Option.map_eq_some_iff.1 h
    simp only [Prod.mk.injEq] at h2
    obtain ⟨rfl, rfl⟩ := h2
    obtain rfl := castTo_str hx hs
    have h0 := hps _ (List.mem_cons_self ..)
    have h1 := hps _ (List.mem_cons_of_mem _ (List.mem_cons_self ..))
    refine ⟨_, fun w' => ?_, match_int.2 rfl⟩
    have hlt : n.toNat < s.size := by omega
    simp only [Instr.index, asIntOf, Sem.run_bind, Sem.run_pure, Result.andThen_ok, run_underlying (hΓ.is ht).1]
    rw [if_pos h0, show s[n.toNat]? = some (s[n.toNat]'hlt) from getElem?_pos s n.toNat hlt]
    simp only [Sem.run_pure]
    congr 3
    rw [Array.getD_eq_getD_getElem?, Array.getElem?_eq_getElem (by exact hlt)]
    rfl
  · rename_i m t n ht hn
    obtain ⟨k, rfl⟩ := idx_ok hn hi
    obtain ⟨xs, hs, h2⟩ := Option.map_eq_some_iff.1 h
    simp only [Prod.mk.injEq] at h2
    obtain ⟨rfl, rfl⟩ := h2
    obtain ⟨cs, hr, rfl⟩ := castTo_ok hx hs
    have h0 := hps _ (List.mem_cons_self ..)
    have h1 := hps _ (List.mem_cons_of_mem _ (List.mem_cons_self ..))
    have hty := hΓ.is ht
    simp only [TyIs] at hty
    obtain ⟨_, _, _, e, hu, _, he⟩ := hty
    simp only [Rep] at hr
    obtain ⟨r1, r2, r3⟩ := hr
    obtain ⟨j, rfl⟩ : ∃ j : Nat, n = (j : Int) := ⟨n.toNat, by omega⟩
    have hj : j < m := by omega
    have hx0 : List.length xs = m := r1
    have hel := r3 j _ (arr_get (d := t.dflt) (by omega))
    have hfit := arr_fit (z := t.sz) hj
    have hcut : cs = cs.take (j * t.sz) ++ ((cs.drop (j * t.sz)).take t.sz ++ cs.drop (j * t.sz + t.sz)) := by
      rw [← List.drop_drop, List.take_append_drop, List.take_append_drop]
    have htl : (cs.take (j * t.sz)).length = j * t.sz := by rw [List.length_take]; omega
    refine ⟨_, fun w' => ?_, match_data.2 ⟨_, hel, rfl⟩⟩
    have hp := part_ok he hel (xs := cs.toArray) (pre := cs.take (j * t.sz)) (post := cs.drop (j * t.sz + t.sz)) (by simpa using hcut) htl w'
    simp only [Instr.index, asIntOf, Sem.run_bind, Sem.run_pure, Result.andThen_ok, run_underlying hu, toVal]
    rw [if_pos ⟨h0, h1⟩, Sem.run_bind, he.sizeOf w', Result.andThen_ok, Int.toNat_natCast]
    exact hp
  · cases h
theorem matches_get : ∀ {vs : List AV} {us : List Value} {v : AV}, Matches S w γ vs us → ∀ {k : Nat}, vs[k]? = some v → ∃ u, us[k]? = some u ∧ Match S w γ v u
  | [], _, _, _, k, h => by simp at h
  | v' :: vs, us, v, hm, k, h => by
    simp only [Matches] at hm
    obtain ⟨u, us', rfl, h1, h2⟩ := hm
    cases k with
    | zero => simp at h; subst h; exact ⟨u, rfl, h1⟩
    | succ k => simp at h; simpa using matches_get (k := k) h2 h
theorem evExtract_ok {x av : AV} {k : Nat} {ps : List Prop} (h : evExtract x k = some (av, ps)) {u : Value} (hx : Match S w γ x u) :
    ∃ r, (∀ w', (Instr.extract u k).run Γ.P w' = .ok r w') ∧ Match S w γ av r := by
  unfold evExtract at h
  split at h
  · obtain ⟨v, hv, h2⟩ := Option.map_eq_some_iff.1 h
    simp only [Prod.mk.injEq] at h2
    obtain ⟨rfl, rfl⟩ := h2
    simp only [Match] at hx
    obtain ⟨us, rfl, hm⟩ := hx
    obtain ⟨r, hr, h3⟩ := matches_get (k := k) hm hv
    refine ⟨r, fun w' => ?_, h3⟩
    simp [Instr.extract, hr]
  · cases h
theorem evConvert_ok (hΓ : EnvOk Γ) {src dst : TypeId} {x av : AV} {ps : List Prop} (h : evConvert Γ src dst x = some (av, ps)) (hps : ∀ p ∈ ps, p) {u : Value} (hx : Match S w γ x u) :
    ∃ r, (∀ w', (convert src dst u).run Γ.P w' = .ok r w') ∧ Match S w γ av r := by
  unfold evConvert at h
  split at h
  · rename_i k k' h1 h2
    obtain ⟨n, hn, h3⟩ := Option.map_eq_some_iff.1 h
    simp only [Prod.mk.injEq] at h3
    obtain ⟨rfl, rfl⟩ := h3
    obtain rfl := castTo_int hx hn
    have h4 := hps _ (List.mem_cons_self ..)
    simp only [Fits] at h4
    refine ⟨_, fun w' => ?_, match_int.2 rfl⟩
    simp only [convert, Sem.run_bind, run_underlying (hΓ.is h1).1, run_underlying (hΓ.is h2).1, Result.andThen_ok, Conv.intToInt, Sem.run_pure, h4]
  · cases h
end
end Go.Abs
