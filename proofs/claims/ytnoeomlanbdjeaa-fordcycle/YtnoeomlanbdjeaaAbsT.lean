/- Part of the proof of the law's row: YtnoeomlanbdjeaaAbsT. -/
import Derived.Test.YtnoeomlanbdjeaaAbsS
import Derived.Lib.QuietBelow
import Derived.Laws.BytesArg
set_option linter.all false
set_option linter.unusedVariables false
set_option linter.unusedSimpArgs false
namespace Go.Abs
open Go.RowKit

/-- The text of numbers. -/
def ofNums (xs : List Int) : ByteArray := ⟨(xs.map fun n => UInt8.ofNat n.toNat).toArray⟩
/-- A slice's bytes. -/
def bytesAV (st : St) : AV → Option (List Int)
  | .nilS => some []
  | .data (.sl _ (.int .u8)) xs => some xs
  | .full s t => (match get st.heap s with
    | some (.row _ (.int .u8) xs _) => if Ty.beq (.int .u8) t then some xs else none
    | _ => none)
  | _ => none
/-- What 'evOp' does not know. -/
def evMore (Γ : Env) (st : St) (o : Op) : Ev :=
  match o with
  | .slice T x lo hi none => (match Γ.ty T, opdRaw st x with
    | some (.sl _ _), some .nilS => (match opdo st lo, opdo st hi with
      | some (l, p), some (h, q) => (match bnd 0 l, bnd 0 h with
        | some l', some h' => some (.nilS, p ++ (q ++ [l' = 0, h' = 0]))
        | _, _ => none)
      | _, _ => none)
    | _, _ => none)
  | .call c => (match c.callee, c.args.toList, c.argTypes.toList with
    | .builtin .cap, [x], [T] => (match Γ.ty T, opdRaw st x with
      | some (.sl _ _), some .nilS => some (.data (.int .i64) (0 : Int), [])
      | _, _ => none)
    | _, _, _ => none)
  | .convert src dst x => (match Γ.ty src, Γ.ty dst, opdRaw st x with
    | some (.sl _ (.int .u8)), some .str, some av => (bytesAV st av).map fun xs => (.data .str (ofNums xs), [])
    | _, _, _ => none)
  | _ => none
section
variable {S : Nat → Prop} {w : World} {γ : Nat → Value} {Γ : Env} {w0 : World} {M S0 : Nat → Prop} {st : St} {a : Act}
theorem rawdn_ok (hc : Core w0 M S0 S γ st a w) : ∀ {xs : List (Nat × Operand)} {l : List (Nat × AV)} {ps : List Prop}, rawdn st xs = some (l, ps) → (∀ p ∈ ps, p) → PartsMatch S w γ l (xs.map fun x => (x.1, a.eval x.2))
  | [], l, ps, h, _ => by
    simp only [rawdn, Option.some.injEq, Prod.mk.injEq] at h
    obtain ⟨rfl, rfl⟩ := h
    simp only [PartsMatch, List.map_nil]
  | (k, x) :: xs, l, ps, h, hps => by
    unfold rawdn at h
    split at h
    · rename_i b p l1 q h1 h2
      simp only [Option.some.injEq, Prod.mk.injEq] at h
      obtain ⟨rfl, rfl⟩ := h
      simp only [PartsMatch, List.map_cons]
      exact ⟨_, _, rfl, raw_ok hc h1 (fun p hp => hps p (List.mem_append.2 (.inl hp))), rawdn_ok hc h2 (fun p hp => hps p (List.mem_append.2 (.inr hp)))⟩
    · cases h
theorem partsMatch_mono {S S' : Nat → Prop} {w : World} {γ : Nat → Value} (hs : ∀ b, S b → S' b) : ∀ {l : List (Nat × AV)} {vs : List (Nat × Value)}, PartsMatch S w γ l vs → PartsMatch S' w γ l vs
  | [], _, h => h
  | (k, av) :: l, vs, h => by
    simp only [PartsMatch] at h ⊢
    obtain ⟨v, vs', h1, h2, h3⟩ := h
    exact ⟨v, vs', h1, h2.mono hs (fun _ _ => rfl) (fun _ _ => rfl), partsMatch_mono hs h3⟩
theorem pureParts_ok : ∀ {l l' : List (Nat × AV)} {st st' : St} {ps : List Prop} {S : Nat → Prop} {vs : List (Nat × Value)}, Core w0 M S0 S γ st a w → pureParts st l = some (l', st', ps) → (∀ p ∈ ps, p) → PartsMatch S w γ l vs →
    ∃ S', (∀ k, S k → S' k) ∧ Core w0 M S0 S' γ st' a w ∧ PartsMatch S' w γ l' vs ∧ st'.fix = st.fix
  | [], l', st, st', ps, S, vs, hc, h, _, hm => by
    simp only [pureParts, Option.some.injEq, Prod.mk.injEq] at h
    obtain ⟨rfl, rfl, rfl⟩ := h
    exact ⟨S, fun _ h => h, hc, hm, rfl⟩
  | (k, av) :: r, l', st, st', ps, S, vs, hc, h, hps, hm => by
    unfold pureParts at h
    split at h
    · rename_i b st1 p hb
      split at h
      · rename_i bs st2 q hbs
        simp only [Option.some.injEq, Prod.mk.injEq] at h
        obtain ⟨rfl, rfl, rfl⟩ := h
        simp only [PartsMatch] at hm
        obtain ⟨u, us', rfl, h1, h2⟩ := hm
        obtain ⟨S1, k1, k2, k3, k4, k5⟩ := lendAV_ok hc hb (fun p hp => hps p (List.mem_append.2 (.inl hp))) h1
        obtain ⟨S2, l1, l2, l3, l4⟩ := pureParts_ok k2 hbs (fun p hp => hps p (List.mem_append.2 (.inr hp))) (partsMatch_mono k1 h2)
        refine ⟨S2, fun k hk => l1 k (k1 k hk), l2, ?_, l4.trans (lendAV_fix hb).1⟩
        simp only [PartsMatch]
        exact ⟨u, us', rfl, k3.mono l1 (fun _ _ => rfl) (fun _ _ => rfl), l3⟩
      · cases h
    · cases h
theorem putSt_fix {d : Option Nat} {av : AV} {st' : St} (h : putSt st d av = some st') : st'.fix = st.fix := by
  unfold putSt at h
  split at h
  · split at h
    · simp only [Option.some.injEq] at h; subst h; rfl
    · cases h
  · simp only [Option.some.injEq] at h; subst h; rfl
theorem rename_fix {s d : Nat} : (st.rename s d).fix = st.fix := by
  unfold St.rename
  split <;> rfl
theorem assignSt_fix {d : Nat} {T : TypeId} {av : AV} {st' : St} (h : assignSt Γ st d T av = some st') : st'.fix = st.fix := by
  unfold assignSt at h
  split at h
  · split at h
    · simp only [Option.some.injEq] at h; subst h; exact rename_fix
    · simp only [Option.some.injEq] at h; subst h; exact rename_fix
    · split at h
      · simp only [Option.some.injEq] at h; subst h; rfl
      · simp only [Option.some.injEq] at h; subst h; rfl
    · simp only [Option.some.injEq] at h; subst h; rfl
  · cases h
theorem adoptCell_fix {s : Nat} {T : TypeId} : (adoptCell Γ st s T).fix = st.fix := by
  unfold adoptCell
  split
  · split <;> rfl
  · rfl
theorem absStore_fix {T : TypeId} {x y : AV} {st' : St} {ps : List Prop} (h : absStore Γ st T x y = some (st', ps)) : st'.fix = st.fix := by
  unfold absStore at h
  repeat' split at h
  all_goals first | (cases h; done) | (simp only [Option.some.injEq, Prod.mk.injEq] at h; obtain ⟨rfl, _⟩ := h; rfl)
theorem adopt1_fix {s k : Nat} {e : TypeId} {t : Ty} : (adopt1 st s k e t).fix = st.fix := by
  unfold adopt1
  split
  · split <;> rfl
  · rfl
theorem adoptAll_fix {s : Nat} : ∀ {l : List (Nat × (TypeId × Ty))} {st : St}, (adoptAll s l st).fix = st.fix
  | [], _ => rfl
  | (k, e, t) :: r, st => by simp only [adoptAll]; exact adoptAll_fix.trans adopt1_fix
theorem adoptRcd_fix {s : Nat} : (adoptRcd st s).fix = st.fix := by
  unfold adoptRcd
  split
  · exact adoptAll_fix
  · rfl
theorem renAll_fix {s o : Nat} : ∀ {l : List (Nat × Nat)} {st st' : St} {y y' : AV}, renAll s o l st y = some (st', y') → st'.fix = st.fix
  | [], st, st', y, y', h => by
    simp only [renAll, Option.some.injEq, Prod.mk.injEq] at h
    obtain ⟨rfl, rfl⟩ := h
    rfl
  | (c, i) :: r, st, st', y, y', h => by
    unfold renAll at h
    split at h
    · exact renAll_fix h
    · split at h
      · cases h
      · exact (renAll_fix h).trans rename_fix
theorem storeSt0_fix {T : TypeId} {x y : AV} {st' : St} {ps : List Prop} (h : storeSt0 Γ st T x y = some (st', ps)) : st'.fix = st.fix := by
  unfold storeSt0 at h
  split at h
  · exact (absStore_fix h).trans rename_fix
  · split at h
    · rename_i h2
      simp only [Option.some.injEq, Prod.mk.injEq] at h
      obtain ⟨rfl, _⟩ := h
      exact adoptCell_fix.trans (absStore_fix h2)
    · cases h
  · split at h
    · rename_i h1
      split at h
      · rename_i h2
        simp only [Option.some.injEq, Prod.mk.injEq] at h
        obtain ⟨rfl, _⟩ := h
        exact (absStore_fix h2).trans (pureAV_fix h1).1
      · cases h
    · cases h
  · split at h
    · rename_i h1
      split at h
      · rename_i h2
        simp only [Option.some.injEq, Prod.mk.injEq] at h
        obtain ⟨rfl, _⟩ := h
        exact (absStore_fix h2).trans (pureAV_fix h1).1
      · cases h
    · cases h
  · exact absStore_fix h
theorem storeSt_fix {T : TypeId} {x y : AV} {st' : St} {ps : List Prop} (h : storeSt Γ st T x y = some (st', ps)) : st'.fix = st.fix := by
  unfold storeSt at h
  split at h
  · split at h
    · split at h
      · unfold storeRcd at h
        split at h
        · rename_i h1
          split at h
          · rename_i h2
            simp only [Option.some.injEq, Prod.mk.injEq] at h
            obtain ⟨rfl, _⟩ := h
            exact adoptRcd_fix.trans ((absStore_fix h2).trans (renAll_fix h1))
          · cases h
        · cases h
      · cases h
    · exact storeSt0_fix h
  · exact storeSt0_fix h
theorem absAppIn_fix {d : Nat} {T : TypeId} {x y : AV} {st' : St} {ps : List Prop} (h : absAppIn Γ st d T x y = some (st', ps)) : st'.fix = st.fix := by
  unfold absAppIn at h
  repeat' split at h
  all_goals first | (cases h; done) | (simp only [Option.some.injEq, Prod.mk.injEq] at h; obtain ⟨rfl, _⟩ := h; rfl)
theorem absCut3_fix {d : Nat} {T : TypeId} {x hi mx : AV} {lo : Option AV} {st' : St} {ps : List Prop} (h : absCut3 Γ st d T x lo hi mx = some (st', ps)) : st'.fix = st.fix := by
  unfold absCut3 at h
  repeat' split at h
  all_goals first | (cases h; done) | (simp only [Option.some.injEq, Prod.mk.injEq] at h; obtain ⟨rfl, _⟩ := h; rfl)
theorem absCopy_fix {d : Nat} {T : TypeId} {x y : AV} {st' : St} {ps : List Prop} (h : absCopy Γ st d T x y = some (st', ps)) : st'.fix = st.fix := by
  unfold absCopy at h
  repeat' split at h
  all_goals first | (cases h; done) | (simp only [Option.some.injEq, Prod.mk.injEq] at h; obtain ⟨rfl, _⟩ := h; rfl)
theorem absAlloc_fix {d : Nat} {T : TypeId} {st' : St} {ps : List Prop} (h : absAlloc Γ st d T = some (st', ps)) : st'.fix = st.fix := by
  unfold absAlloc at h
  repeat' split at h
  all_goals first | (cases h; done) | (simp only [Option.some.injEq, Prod.mk.injEq] at h; obtain ⟨rfl, _⟩ := h; rfl)
theorem absBox_fix {d : Nat} {T : TypeId} {x : AV} {st' : St} {ps : List Prop} (h : absBox Γ st d T x = some (st', ps)) : st'.fix = st.fix := by
  unfold absBox at h
  repeat' split at h
  all_goals first | (cases h; done) | (simp only [Option.some.injEq, Prod.mk.injEq] at h; obtain ⟨rfl, _⟩ := h; rfl)
theorem absBuildSlice_fix {d : Nat} {T : TypeId} {len : Nat} {l : List (Nat × AV)} {st' : St} {ps : List Prop} (h : absBuildSlice Γ st d T len l = some (st', ps)) : st'.fix = st.fix := by
  unfold absBuildSlice at h
  repeat' split at h
  all_goals first | (cases h; done) | (simp only [Option.some.injEq, Prod.mk.injEq] at h; obtain ⟨rfl, _⟩ := h; rfl)
theorem absMake_fix {d : Nat} {T : TypeId} {x y : AV} {st' : St} {ps : List Prop} (h : absMake Γ st d T x y = some (st', ps)) : st'.fix = st.fix := by
  unfold absMake at h
  repeat' split at h
  all_goals first | (cases h; done) | (simp only [Option.some.injEq, Prod.mk.injEq] at h; obtain ⟨rfl, _⟩ := h; rfl)
theorem absAppend_fix {d : Nat} {T : TypeId} {x y : AV} {st' : St} {ps : List Prop} (h : absAppend Γ st d T x y = some (st', ps)) : st'.fix = st.fix := by
  unfold absAppend at h
  repeat' split at h
  all_goals first | (cases h; done) | (simp only [Option.some.injEq, Prod.mk.injEq] at h; obtain ⟨rfl, _⟩ := h; rfl)
theorem absAppendK_fix {d : Nat} {T : TypeId} {x y : AV} {st' : St} {ps : List Prop} (h : absAppendK Γ st d T x y = some (st', ps)) : st'.fix = st.fix := by
  unfold absAppendK at h
  split at h
  · rename_i st1 ps1 h1
    simp only [Option.some.injEq, Prod.mk.injEq] at h
    obtain ⟨rfl, rfl⟩ := h
    have := absAppend_fix h1
    split <;> exact this
  · cases h
theorem full_len {S : Nat → Prop} {γ : Nat → Value} {w : World} (hc : Core w0 M S0 S γ st a w) {s : Nat} {e : TypeId} {t : Ty} {xs : List t.Den} {f : Bool} (hs : get st.heap s = some (.row e t xs f)) {v : Value} (hm : Match S w γ (.full s t) v) : ∃ A c, v = .slice A (List.length xs) c := by
  obtain ⟨A, c, h, _⟩ := own_slice (full_own hc hs hm)
  exact ⟨A, c, h⟩
theorem lenSlots_ok {S : Nat → Prop} {γ : Nat → Value} {w : World} (hc : Core w0 M S0 S γ st a w) {st' : St} {d : Nat} : ∀ {l : List (Nat × AV)} {i : Nat} {av : AV}, get (lenSlots st st' d l) i = some av → i ≠ d ∧ ∀ (S' : Nat → Prop) (w' : World) (γ' : Nat → Value), Match S' w' γ' av (a.tmps.getD i undef)
  | [], _, _, h => by simp [lenSlots, get] at h
  | (k, _) :: r, i, av, h => by
    unfold lenSlots at h
    split at h
    · rename_i s t hk hk'
      split at h
      · rename_i e t' xs f hs
        split at h
        · rename_i hcond
          simp only [Bool.and_eq_true, Bool.not_eq_true', beq_eq_false_iff_ne, ne_eq] at hcond
          simp only [get] at h
          split at h
          · rename_i e1
            subst e1
            simp only [Option.some.injEq] at h
            subst h
            obtain rfl := Ty.eq_of_beq hcond.1
            refine ⟨hcond.2.1, fun S' w' γ' => ?_⟩
            simp only [Match]
            exact full_len hc hs (hc.slot i _ hk)
          · exact lenSlots_ok hc h
        · exact lenSlots_ok hc h
      · exact lenSlots_ok hc h
    · exact lenSlots_ok hc h
theorem absAppendK_ok (hΓ : EnvOk Γ) (hc : Core w0 M S0 S γ st a w) {d : Nat} {T : TypeId} {x y : AV} {st' : St} {ps : List Prop} (h : absAppendK Γ st d T x y = some (st', ps)) (hps : ∀ p ∈ ps, p) {ux uy : Value} (hx : Match S w γ x ux) (hy : Match S w γ y uy) (ty : TypeId) :
    ∃ r w' γ', (Builtin.append_ #[T, T] ty #[ux, uy]).run Γ.P w = .ok r w' ∧ Core w0 M S0 S γ' st' (a.put (some d) r) w' := by
  unfold absAppendK at h
  split at h
  · rename_i st1 ps1 h1
    simp only [Option.some.injEq, Prod.mk.injEq] at h
    obtain ⟨rfl, rfl⟩ := h
    obtain ⟨r, w', γ', g1, g2⟩ := absAppend_ok hΓ hc h1 hps hx hy ty
    refine ⟨r, w', γ', g1, ?_⟩
    split
    · refine ⟨g2.os, g2.tape, g2.output, g2.size, g2.old, g2.s0, g2.sold, g2.slt, ?_, g2.obj, g2.dis, g2.defers, g2.nt, g2.fixs⟩
      intro i av hi
      simp only at hi
      rw [get_append] at hi
      split at hi
      · rename_i av' h2
        simp only [Option.some.injEq] at hi
        subst hi
        obtain ⟨k1, k2⟩ := lenSlots_ok hc h2
        have hne : d ≠ i := fun e => k1 e.symm
        have := k2 S w' γ'
        simpa [Act.put, Array.getD_eq_getD_getElem?, Array.getElem?_setIfInBounds, hne] using this
      · exact g2.slot i av hi
    · exact g2
  · cases h
theorem run_append_zeros {P : Program} (w : World) (t u ty e : TypeId) (i : TypeInfo) (z : Value) {k k' : IntKind} (ht : P.underlying t = some (.slice e)) (hu : P.underlying u = some (.int k)) (hi : P.info? e = some i) (hz : i.zero = some z) (n : Nat) (h0 : 0 < n) (hs : 0 < i.size)
    (h63 : (n : Int) ≤ 9223372036854775807) (hb : 0 < i.bytes) (h48 : n * i.bytes ≤ 140737488355328) :
    (Builtin.append_ #[t, u] ty #[.slice none 0 0, .int .i64 n]).run P w =
      .ok (.slice (some ⟨w.heap.size, 0, none⟩) n (grownCap w n 0 e)) (w.drew.alloc (.cells (Builtin.zeroCells z.cells n ++ Builtin.zeroCells z.cells (grownCap w n 0 e - n)) e)) := by
  have hn : n ≠ 0 := by omega
  have h63' : ¬ (9223372036854775807 < (n : Int)) := by omega
  have hwrap : IntKind.wrap .i64 (n : Int) = n := by rw [IntKind.wrap_i64]; omega
  have h48' : ¬ (281474976710656 < Builtin.nextslicecap n 0 * i.bytes) := by rw [nextslicecap_zero h0]; omega
  have h49 : ¬ ((281474976710656 : Int) < (n : Int) * (i.bytes : Int)) := by
    have : ((n * i.bytes : Nat) : Int) = (n : Int) * (i.bytes : Int) := Int.natCast_mul n i.bytes
    omega
  have hnz : ¬ (n * i.size = 0) := by
    have := Nat.mul_pos h0 hs
    omega
  have hne : ¬ ((n : Int) < 0) := by omega
  simp [Builtin.append_, run_underlying ht, run_underlying hu, sizeOf, typeInfo, zeroValue, hi, hz, asInt, hwrap, hn, h63', h48', h49, hnz, hne, Question.forced, run_firstCells_none, Go.newRow, grownCap, asIntOf]
theorem wp_value {P : Program} {o : Oper} {next : Act → World → Prop} {Q : Exit → Act → World → Prop} {r : Value} {w' : World} (hr : (execOp a.eval o).run P w = .ok (.value r) w') (h : next (a.put o.dst r) w') : o.wp P a w next Q := by
  unfold Oper.wp
  rw [hr]
  exact h
theorem wp_skip {P : Program} {o : Oper} {next : Act → World → Prop} {Q : Exit → Act → World → Prop} {w' : World} (hr : (execOp a.eval o).run P w = .ok .skip w') (h : next (a.put o.dst undef) w') : o.wp P a w next Q := by
  unfold Oper.wp
  rw [hr]
  exact h
theorem wp_call {P : Program} {o : Oper} {next : Act → World → Prop} {Q : Exit → Act → World → Prop} {f : FuncId} {vs : Array Value} (hr : (execOp a.eval o).run P w = .ok (.enter f vs) w) (h : Calls P f vs w fun e w' => ∃ v, e = .returned v ∧ next (a.put o.dst v) w') : o.wp P a w next Q := by
  unfold Oper.wp
  rw [hr]
  refine Calls.mono h ?_
  rintro e w' ⟨v, rfl, hn⟩
  exact hn
theorem absAppendZ_ok (hΓ : EnvOk Γ) (hc : Core w0 M S0 S γ st a w) {d : Nat} {T T' : TypeId} {x y : AV} {st' : St} {ps : List Prop} (h : absAppendZ Γ st d T T' x y = some (st', ps)) (hps : ∀ p ∈ ps, p) {ux uy : Value} (hx : Match S w γ x ux) (hy : Match S w γ y uy) (ty : TypeId) :
    ∃ r w' γ', (Builtin.append_ #[T, T'] ty #[ux, uy]).run Γ.P w = .ok r w' ∧ Core w0 M S0 S γ' st' (a.put (some d) r) w' ∧ st'.fix = st.fix := by
  unfold absAppendZ at h
  split at h
  · rename_i e t kk n ht ht' hn
    obtain ⟨n', hn'⟩ : ∃ x : Int, x = n := ⟨n, rfl⟩
    subst hn'
    obtain rfl := castTo_int hy hn
    simp only [Match] at hx
    subst hx
    split at h
    · rename_i t1 b hte
      split at h
      · rename_i hcond
        simp only [Bool.and_eq_true, decide_eq_true_eq] at hcond
        obtain ⟨hb1, hz, hb0, hd⟩ := hcond
        obtain rfl := Ty.eq_of_beq hb1
        simp only [Option.some.injEq, Prod.mk.injEq] at h
        obtain ⟨rfl, rfl⟩ := h
        have l0 : (0 : Int) ≤ n' := hps _ (by simp)
        have l1 : Int.toNat n' * b ≤ 140737488355328 := hps (Int.toNat n' * b ≤ 140737488355328) (by simp)
        have l2 := small_of hb0 l1
        have hn1 : n' = ((Int.toNat n' : Nat) : Int) := by omega
        generalize Int.toNat n' = m at *
        subst hn1
        obtain ⟨hu, _, hte1⟩ := hΓ.is ht
        obtain ⟨hte2, hby⟩ := hΓ.ty e _ b hte
        obtain ⟨i, hi, hz0, hsz⟩ := hte2.info.get
        have hb2 : i.bytes = b := by simpa [hi] using hby
        have hu' := (hΓ.is ht')
        simp only [TyIs] at hu'
        have hzc : (toVal t1 (zeros t1)).cells.toList = zeros t1 := (rep_zero S w t1).cells
        have hzs : (zeros t1).length = t1.sz := Ty.zeros_len t1
        have hzl : (toVal t1 (zeros t1)).cells.size = t1.sz := by rw [← Array.length_toList, hzc, hzs]
        rcases Nat.eq_zero_or_pos m with rfl | hm
        · have hrun : (Builtin.append_ #[T, T'] ty #[.slice none 0 0, .int .i64 ((0 : Nat) : Int)]).run Γ.P w = .ok (.slice none 0 0) w := by
            have hwrap : IntKind.wrap .i64 0 = 0 := by rw [IntKind.wrap_i64]; omega
            simp [Builtin.append_, run_underlying hu, run_underlying hu'.1, sizeOf, typeInfo, zeroValue, hi, hz0, asInt, asIntOf, hwrap, Builtin.lenOf]
          have hcore := (newRow_ok hc d e t1).put (d := d) hd (av := .full d t1) (v := .slice none 0 0) (by
            simp only [Match]
            exact ⟨(upd_same ..).symm, _, _, _, rfl⟩)
          exact ⟨_, _, _, hrun, hcore, rfl⟩
        · have hrun := run_append_zeros (P := Γ.P) w T T' ty e i _ (k' := .i64) hu hu'.1 hi hz0 m hm (by rw [hsz]; exact hz) (by omega) (by rw [hb2]; exact hb0) (by rw [hb2]; exact l1)
          have hge := grownCap_ge w m 0 e
          have hcm : grownCap w m 0 e ≤ maxLen := grownCap_le_maxLen w m 0 e (by simp only [maxLen]; omega)
          have hcells : ∀ k, Builtin.zeroCells (toVal t1 (zeros t1)).cells k = madeCells (toVal t1 (zeros t1)).cells (k * t1.sz) := fun k => by
            unfold Builtin.zeroCells madeCells
            rw [hzl]
          have hlm : ∀ k, (madeCells (toVal t1 (zeros t1)).cells k).toList.length = k := fun k => by rw [Array.length_toList, size_madeCells]
          have htake : ((Builtin.zeroCells (toVal t1 (zeros t1)).cells m ++ Builtin.zeroCells (toVal t1 (zeros t1)).cells (grownCap w m 0 e - m)).toList.take (m * t1.sz)) = (madeCells (toVal t1 (zeros t1)).cells (m * t1.sz)).toList := by
            rw [hcells, hcells, Array.toList_append, List.take_append_of_le_length (by rw [hlm]; exact Nat.le_refl _), List.take_of_length_le (by rw [hlm]; exact Nat.le_refl _)]
          have hrow : RepRow S w t1 (List.replicate m t1.dflt) (madeCells (toVal t1 (zeros t1)).cells (m * t1.sz)).toList := by
            refine ⟨by rw [hlm, List.length_replicate], fun j x hj => ?_⟩
            rw [List.getElem?_replicate] at hj
            split at hj
            · rename_i hjn
              have hj : t1.dflt = x := Option.some.inj hj
              subst hj
              have := made_take hzc (n := m) (N := m * t1.sz) (by omega) (by rw [hzs]; exact Nat.le_refl _) hjn
              have ht2 : List.take (m * t1.sz) (madeCells (toVal t1 (zeros t1)).cells (m * t1.sz)).toList = (madeCells (toVal t1 (zeros t1)).cells (m * t1.sz)).toList := List.take_of_length_le (by rw [hlm]; exact Nat.le_refl _)
              rw [hzs, ht2] at this
              rw [this]
              exact rep_zero S w t1
            · cases hj
          have hbl : Below w.heap.size w (w.drew.alloc (.cells (Builtin.zeroCells (toVal t1 (zeros t1)).cells m ++ Builtin.zeroCells (toVal t1 (zeros t1)).cells (grownCap w m 0 e - m)) e)) :=
            ⟨rfl, rfl, rfl, by simp, fun k hk => by first | exact heap_alloc_old w.drew _ k hk | exact heap_alloc_old w.drew _ hk⟩
          have hag : Agree S w (w.drew.alloc (.cells (Builtin.zeroCells (toVal t1 (zeros t1)).cells m ++ Builtin.zeroCells (toVal t1 (zeros t1)).cells (grownCap w m 0 e - m)) e)) := fun k hk => hbl.block k (hc.slt k hk)
          have hcore := hc.new (d := d) (hv := .slice (some ⟨w.heap.size, 0, none⟩) m (grownCap w m 0 e)) (o := .row e t1 (List.replicate m t1.dflt) false) hbl ⟨⟨(madeCells (toVal t1 (zeros t1)).cells (m * t1.sz)).toList, Owns.of (base := 0) ⟨?_, .inr ⟨w.heap.size, grownCap w m 0 e, _, by rw [List.length_replicate], Nat.zero_le _, heap_alloc_new w.drew _, by rw [List.length_replicate]; exact hge, hcm, ?_, ?_⟩⟩, hrow.mono (fun _ h => h) hag⟩, fun k hk => ⟨fun hS => ?_, fun h => by cases h⟩⟩ (fun k hk => by simp [blk_slice, Value.ownBlock] at hk; omega)
          · refine ⟨_, _, _, hrun, hcore.put (d := d) hd (av := .full d t1) ?_, rfl⟩
            simp only [Match]
            exact ⟨(upd_same ..).symm, _, _, _, rfl⟩
          · rw [hlm, List.length_replicate]
          · rw [hcells, hcells]
            simp only [Array.size_append, size_madeCells, ← Nat.add_mul]
            congr 1
            omega
          · rw [List.length_replicate, htake]
          · simp [blk_slice, Value.ownBlock] at hk
            have := hc.slt k hS
            omega
      · cases h
    · cases h
  · cases h
theorem stepM_ok (hΓ : EnvOk Γ) (hc : Core w0 M S0 S γ st a w) {o : Oper} {st' : St} {ps : List Prop} (h : stepM Γ st o = some (st', ps)) (hps : ∀ p ∈ ps, p) {next : Act → World → Prop} {Q : Exit → Act → World → Prop}
    (hn : ∀ a' w' S' γ', Core w0 M S0 S' γ' st' a' w' → next a' w') : o.wp Γ.P a w next Q ∧ st'.fix = st.fix := by
  have inl : ∀ {p q : List Prop}, (∀ x ∈ p ++ q, x) → ∀ x ∈ p, x := fun h x hx => h x (List.mem_append.2 (.inl hx))
  have inr : ∀ {p q : List Prop}, (∀ x ∈ p ++ q, x) → ∀ x ∈ q, x := fun h x hx => h x (List.mem_append.2 (.inr hx))
  unfold stepM at h
  split at h
  · rename_i T d ho hd
    split at h
    · rename_i st1 p hst
      simp only [Option.some.injEq, Prod.mk.injEq] at h
      obtain ⟨rfl, rfl⟩ := h
      obtain ⟨r, w', γ', h1, h2⟩ := absAlloc_ok hΓ hc hst
      obtain ⟨γ2, h3⟩ := adoptCell_ok (Γ := Γ) h2 d T
      obtain ⟨⟨γ3, h4⟩, _⟩ := adoptRcd_ok h3 d
      rw [← hd] at h4
      exact ⟨wp_value (execOp_value (by simp only [execOp, ho]) h1) (hn _ _ _ _ h4), adoptRcd_fix.trans (adoptCell_fix.trans (absAlloc_fix hst))⟩
    · cases h
  · rename_i T x d ho hd
    split at h
    · rename_i b p hb
      split at h
      · rename_i st1 q hst
        simp only [Option.some.injEq, Prod.mk.injEq] at h
        obtain ⟨rfl, rfl⟩ := h
        obtain ⟨r, w', γ', h1, h2⟩ := absBox_ok hΓ hc hst (raw_ok hc hb (inl hps))
        rw [← hd] at h2
        exact ⟨wp_value (execOp_value (by simp only [execOp, ho]) h1) (hn _ _ _ _ h2), absBox_fix hst⟩
      · cases h
    · cases h
  · rename_i T x y ho hd
    split at h
    · rename_i b p b' p' hb hb'
      split at h
      · rename_i st1 q hst
        simp only [Option.some.injEq, Prod.mk.injEq] at h
        obtain ⟨rfl, rfl⟩ := h
        obtain ⟨w', S', γ', h1, h2⟩ := storeSt_ok hΓ hc hst (inr (inr hps)) (opd_ok hc hb (inl hps)) (raw_ok hc hb' (inl (inr hps)))
        refine ⟨wp_skip (w' := w') ?_ (hn _ _ S' γ' ?_), storeSt_fix hst⟩
        · simp only [execOp, ho]
          rw [Sem.run_bind, h1]
          rfl
        · rw [hd]; exact h2
      · cases h
    · cases h
  · rename_i T len parts d ho hd
    split at h
    · rename_i l p hl
      split at h
      · rename_i l' st1 p1 hl'
        split at h
        · rename_i st2 q hst
          simp only [Option.some.injEq, Prod.mk.injEq] at h
          obtain ⟨rfl, rfl⟩ := h
          obtain ⟨S1, k1, k2, k3, k4⟩ := pureParts_ok hc hl' (inl (inr hps)) (vs := (parts.map fun (i, x) => (i, a.eval x)).toList) (by
            rw [Array.toList_map]
            exact rawdn_ok hc hl (inl hps))
          obtain ⟨r, w', γ', h1, h2⟩ := absBuildSlice_ok hΓ k2 hst (vs := parts.map fun (i, x) => (i, a.eval x)) k3
          rw [← hd] at h2
          exact ⟨wp_value (execOp_value (by simp only [execOp, ho]) h1) (hn _ _ _ _ h2), (absBuildSlice_fix hst).trans k4⟩
        · cases h
      · cases h
    · cases h
  · rename_i T parts d ho hd
    split at h
    · rename_i l p hl
      split at h
      · split at h
        · rename_i r q hev
          split at h
          · rename_i st2 hput
            simp only [Option.some.injEq, Prod.mk.injEq] at h
            obtain ⟨rfl, rfl⟩ := h
            obtain ⟨rv, h1, h2⟩ := evBuildA_ok hΓ hev (vs := parts.map fun (i, x) => (i, a.eval x)) (by
              rw [Array.toList_map]
              exact rawdn_ok hc hl (inl hps))
            have h3 := putSt_ok hc hput h2
            rw [← hd] at h3
            exact ⟨wp_value (execOp_value (by simp only [execOp, ho]) (h1 w)) (hn _ _ _ _ h3), putSt_fix hput⟩
          · cases h
        · cases h
      split at h
      · rename_i l' st1 p1 hl'
        split at h
        · rename_i r q hev
          split at h
          · rename_i st2 hput
            simp only [Option.some.injEq, Prod.mk.injEq] at h
            obtain ⟨rfl, rfl⟩ := h
            obtain ⟨S1, k1, k2, k3, k4⟩ := pureParts_ok hc hl' (inl (inr hps)) (vs := (parts.map fun (i, x) => (i, a.eval x)).toList) (by
              rw [Array.toList_map]
              exact rawdn_ok hc hl (inl hps))
            obtain ⟨rv, h1, h2⟩ := evBuild_ok hΓ hev (vs := parts.map fun (i, x) => (i, a.eval x)) k3
            have h3 := putSt_ok k2 hput h2
            rw [← hd] at h3
            exact ⟨wp_value (execOp_value (by simp only [execOp, ho]) (h1 w)) (hn _ _ _ _ h3), (putSt_fix hput).trans k4⟩
          · cases h
        · cases h
      · cases h
    · cases h
  · rename_i T x lo hi mx d ho hd
    split at h
    · rename_i b p l p1 hh p2 m p3 hb hl hhi hm
      split at h
      · rename_i st1 q hst
        simp only [Option.some.injEq, Prod.mk.injEq] at h
        obtain ⟨rfl, rfl⟩ := h
        obtain ⟨r, γ', h1, h2⟩ := absCut3_ok hΓ hc hst (inr (inr (inr (inr hps)))) (opd_ok hc hb (inl hps)) (opdo_ok hc hl (inl (inr hps))) (opd_ok hc hhi (inl (inr (inr hps)))) (opd_ok hc hm (inl (inr (inr (inr hps)))))
        rw [← hd] at h2
        exact ⟨wp_value (execOp_value (by simp only [execOp, ho, Option.map_some]) h1) (hn _ _ _ _ h2), absCut3_fix hst⟩
      · cases h
    · cases h
  · rename_i T x y d ho hd
    split at h
    · cases h
    split at h
    · rename_i b p b' p' hb hb'
      split at h
      · rename_i st1 q hst
        simp only [Option.some.injEq, Prod.mk.injEq] at h
        obtain ⟨rfl, rfl⟩ := h
        obtain ⟨r, w', γ', h1, h2⟩ := absMake_ok hΓ hc hst (inr (inr hps)) (opd_ok hc hb (inl hps)) (opd_ok hc hb' (inl (inr hps)))
        rw [← hd] at h2
        exact ⟨wp_value (execOp_value (by simp only [execOp, ho]) h1) (hn _ _ _ _ h2), absMake_fix hst⟩
      · cases h
    · cases h
  · rename_i c d ho hdst
    split at h
    · rename_i x y T T' hcal hargs hty
      split at h
      · rename_i hTT
        subst hTT
        split at h
        · rename_i b p b' p' hb hb'
          split at h
          · split at h
            · rename_i st1 q hst
              simp only [Option.some.injEq, Prod.mk.injEq] at h
              obtain ⟨rfl, rfl⟩ := h
              obtain ⟨r, w', h1, h2⟩ := absAppIn_ok hΓ hc hst (inr (inr hps)) (raw_ok hc hb (inl hps)) (opd_ok hc hb' (inl (inr hps))) o.type
              have ha : c.args = #[x, y] := Array.toList_inj.1 (by simpa using hargs)
              have ht : c.argTypes = #[T, T] := Array.toList_inj.1 (by simpa using hty)
              refine ⟨wp_value (r := r) (w' := w') ?_ (hn _ _ S γ ?_), absAppIn_fix hst⟩
              · simp only [execOp, ho, resolve, hcal, Sem.run_bind, Sem.run_pure, Result.andThen_ok, invoke, builtin, ha, ht, List.map_toArray, List.map_cons, List.map_nil, h1]
              · rw [hdst]; exact h2
            · cases h
          split at h
          · rename_i st1 q hst
            simp only [Option.some.injEq, Prod.mk.injEq] at h
            obtain ⟨rfl, rfl⟩ := h
            obtain ⟨r, w', γ', h1, h2⟩ := absAppendK_ok hΓ hc hst (inr (inr hps)) (raw_ok hc hb (inl hps)) (opd_ok hc hb' (inl (inr hps))) o.type
            have ha : c.args = #[x, y] := Array.toList_inj.1 (by simpa using hargs)
            have ht : c.argTypes = #[T, T] := Array.toList_inj.1 (by simpa using hty)
            refine ⟨wp_value (r := r) (w' := w') ?_ (hn _ _ S γ' ?_), absAppendK_fix hst⟩
            · simp only [execOp, ho, resolve, hcal, Sem.run_bind, Sem.run_pure, Result.andThen_ok, invoke, builtin, ha, ht, List.map_toArray, List.map_cons, List.map_nil, h1]
            · rw [hdst]; exact h2
          · cases h
        · cases h
      · split at h
        · rename_i b p b' p' hb hb'
          split at h
          · rename_i st1 q hst
            simp only [Option.some.injEq, Prod.mk.injEq] at h
            obtain ⟨rfl, rfl⟩ := h
            obtain ⟨r, w', γ', h1, h2, h3⟩ := absAppendZ_ok hΓ hc hst (inr (inr hps)) (raw_ok hc hb (inl hps)) (opd_ok hc hb' (inl (inr hps))) o.type
            have ha : c.args = #[x, y] := Array.toList_inj.1 (by simpa using hargs)
            have ht : c.argTypes = #[T, T'] := Array.toList_inj.1 (by simpa using hty)
            refine ⟨wp_value (r := r) (w' := w') ?_ (hn _ _ S γ' ?_), h3⟩
            · simp only [execOp, ho, resolve, hcal, Sem.run_bind, Sem.run_pure, Result.andThen_ok, invoke, builtin, ha, ht, List.map_toArray, List.map_cons, List.map_nil, h1]
            · rw [hdst]; exact h2
          · cases h
        · cases h
    · rename_i x y T T' hcal hargs hty
      split at h
      · rename_i b p b' p' hb hb'
        split at h
        · rename_i st1 q hst
          simp only [Option.some.injEq, Prod.mk.injEq] at h
          obtain ⟨rfl, rfl⟩ := h
          obtain ⟨r, w', h1, h2⟩ := absCopy_ok hΓ hc hst (inr (inr hps)) (opd_ok hc hb (inl hps)) (opd_ok hc hb' (inl (inr hps))) (T' := T') o.type
          have ha : c.args = #[x, y] := Array.toList_inj.1 (by simpa using hargs)
          have ht : c.argTypes = #[T, T'] := Array.toList_inj.1 (by simpa using hty)
          refine ⟨wp_value (r := r) (w' := w') ?_ (hn _ _ S γ ?_), absCopy_fix hst⟩
          · simp only [execOp, ho, resolve, hcal, Sem.run_bind, Sem.run_pure, Result.andThen_ok, invoke, builtin, ha, ht, List.map_toArray, List.map_cons, List.map_nil, h1]
          · rw [hdst]; exact h2
        · cases h
      · cases h
    · cases h
  · cases h
end
end Go.Abs
