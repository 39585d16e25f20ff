/- Part of the proof of the law's row: YtnoeomlanbdjeaaAbsG. -/
import Derived.Test.YtnoeomlanbdjeaaAbsF3
set_option linter.all false
set_option linter.unusedVariables false
set_option linter.unusedSimpArgs false
namespace Go.Abs
open Go.RowKit

section
variable {S : Nat → Prop} {w0 : World} {γ : Nat → Value} {Γ : Env}

theorem binInt_ok {op : BinOp} {k : IntKind} {x y : Int} {av : AV} {ps : List Prop} (h : binInt op k x y = some (av, ps)) (hps : ∀ p ∈ ps, p) (T : TypeId) :
    ∃ v, (∀ w, (binOp op T (.int k x) (.int k y)).run Γ.P w = .ok v w) ∧ Match S w0 γ av v := by
  unfold binInt at h
  split at h <;> first
    | (simp only [Option.some.injEq, Prod.mk.injEq] at h
       obtain ⟨rfl, rfl⟩ := h
       first
         | (refine ⟨_, fun w => ?_, match_int.2 rfl⟩
            have h1 := hps _ (List.mem_cons_self ..)
            simp only [Fits] at h1
            simp [binOp, Op.intArith, h1]; done)
         | (refine ⟨_, fun w => ?_, match_bool.2 rfl⟩
            first | (simp [binOp, Op.intCmp]; done) | (simp [binOp, Op.intCmp]; rfl))
         | (refine ⟨_, fun w => ?_, match_int.2 rfl⟩
            have h1 := hps _ (List.mem_cons_self ..)
            have h2 := hps _ (List.mem_cons_of_mem _ (List.mem_cons_self ..))
            have h3 := hps _ (List.mem_cons_of_mem _ (List.mem_cons_of_mem _ (List.mem_cons_self ..)))
            simp only [Fits] at h3
            have h4 : y ≠ 0 := by omega
            simp [binOp, Op.intDiv, h4, Int.tdiv_eq_ediv_of_nonneg h1, h3]; done)
         | (refine ⟨_, fun w => ?_, match_int.2 rfl⟩
            have h1 := hps _ (List.mem_cons_self ..)
            have h2 := hps _ (List.mem_cons_of_mem _ (List.mem_cons_self ..))
            have h4 : y ≠ 0 := by omega
            simp [binOp, Op.intDiv, h4, Int.tmod_eq_emod_of_nonneg h1]; done)
         | (refine ⟨_, fun w => ?_, match_int.2 rfl⟩
            simp [binOp, Op.intBits, bitv]; done))
    | cases h
theorem shInt_ok {op : BinOp} {k k' : IntKind} {x y : Int} {av : AV} {ps : List Prop} (h : shInt op k x y = some (av, ps)) (hps : ∀ p ∈ ps, p) (T : TypeId) :
    ∃ v, (∀ w, (binOp op T (.int k x) (.int k' y)).run Γ.P w = .ok v w) ∧ Match S w0 γ av v := by
  unfold shInt at h
  split at h <;> first
    | (simp only [Option.some.injEq, Prod.mk.injEq] at h
       obtain ⟨rfl, rfl⟩ := h
       have h1 := hps _ (List.mem_cons_self ..)
       have h2 : ¬ y < 0 := by omega
       exact ⟨_, fun w => by simp [binOp, Op.shift, h2], match_int.2 rfl⟩)
    | cases h
theorem binStr_ok {op : BinOp} {x y : ByteArray} {av : AV} {ps : List Prop} (h : binStr op x y = some (av, ps)) (hps : ∀ p ∈ ps, p) (T : TypeId) :
    ∃ v, (∀ w, (binOp op T (.string x) (.string y)).run Γ.P w = .ok v w) ∧ Match S w0 γ av v := by
  unfold binStr at h
  split at h
  · simp only [Option.some.injEq, Prod.mk.injEq] at h
    obtain ⟨rfl, rfl⟩ := h
    have h1 := hps _ (List.mem_cons_self ..)
    have h2 : ¬ ((x.size + y.size : Nat) : Int) > IntKind.i64.max := by
      rw [show IntKind.i64.max = 9223372036854775807 from rfl]; omega
    exact ⟨_, fun w => by simp only [binOp, Op.stringOp, if_neg h2, Sem.run_pure], match_str.2 rfl⟩
  · simp only [Option.some.injEq, Prod.mk.injEq] at h
    obtain ⟨rfl, rfl⟩ := h
    exact ⟨_, fun w => by simp only [binOp, Op.stringOp, Sem.run_pure, bytes_beq], match_bool.2 rfl⟩
  · simp only [Option.some.injEq, Prod.mk.injEq] at h
    obtain ⟨rfl, rfl⟩ := h
    exact ⟨_, fun w => by simp only [binOp, Op.stringOp, Sem.run_pure, bytes_beq], match_bool.2 rfl⟩
  · simp only [Option.some.injEq, Prod.mk.injEq] at h
    obtain ⟨rfl, rfl⟩ := h
    exact ⟨_, fun w => by simp only [binOp, Op.stringOp, Sem.run_pure], match_bool.2 rfl⟩
  · cases h
theorem binBool_ok {op : BinOp} {x y : Bool} {av : AV} {ps : List Prop} (h : binBool op x y = some (av, ps)) (T : TypeId) (ht : Γ.P.underlying T = some .bool) :
    ∃ v, (∀ w, (binOp op T (.bool x) (.bool y)).run Γ.P w = .ok v w) ∧ Match S w0 γ av v := by
  unfold binBool at h
  split at h
  · simp only [Option.some.injEq, Prod.mk.injEq] at h
    obtain ⟨rfl, rfl⟩ := h
    exact ⟨.bool (x == y), fun w => by simp [binOp, Op.equal, Op.maxDepth, run_equalIn_bool' w 9999 T x y ht], match_bool.2 rfl⟩
  · simp only [Option.some.injEq, Prod.mk.injEq] at h
    obtain ⟨rfl, rfl⟩ := h
    exact ⟨.bool (!(x == y)), fun w => by simp [binOp, Op.equal, Op.maxDepth, run_equalIn_bool' w 9999 T x y ht], match_bool.2 rfl⟩
  · cases h
theorem binSt_ok {op : BinOp} {t : Ty} {x y : t.Den} {av : AV} {ps : List Prop} (h : binSt op t x y = some (av, ps)) {T : TypeId} (hag : t.agg = true) (ht : TyIs Γ.P t T) (hf : t.flat = true) (hh : t.height ≤ 10000) {S1 S2 : Nat → Prop} {w1 w2 : World} {cs cs' : List Value} (h1 : Rep S1 w1 t x cs) (h2 : Rep S2 w2 t y cs') :
    ∃ v, (∀ w, (binOp op T (toVal t cs) (toVal t cs')).run Γ.P w = .ok v w) ∧ Match S w0 γ av v := by
  have he := fun w => eq_ok (P := Γ.P) w (d := 10000) ht hf hh h1 h2
  rw [toVal_agg hag, toVal_agg hag] at he ⊢
  unfold binSt at h
  split at h
  · simp only [Option.some.injEq, Prod.mk.injEq] at h
    obtain ⟨rfl, rfl⟩ := h
    exact ⟨.bool (Ty.eqb t x y), fun w => by rw [run_eql_struct, he w]; rfl, match_bool.2 rfl⟩
  · simp only [Option.some.injEq, Prod.mk.injEq] at h
    obtain ⟨rfl, rfl⟩ := h
    exact ⟨.bool (!Ty.eqb t x y), fun w => by rw [run_neq_struct, he w]; rfl, match_bool.2 rfl⟩
  · cases h
theorem eqGuard_int {op : BinOp} {T : TypeId} {x y : Operand} {k k' : IntKind} {a b : Int} (w : World) : (eqGuard op T x y (.int k a) (.int k' b)).run Γ.P w = .ok () w := by
  cases op <;> simp [eqGuard]
theorem eqGuard_str {op : BinOp} {T : TypeId} {x y : Operand} {a b : ByteArray} (w : World) : (eqGuard op T x y (.string a) (.string b)).run Γ.P w = .ok () w := by
  cases op <;> simp [eqGuard]
theorem eqGuard_bool {op : BinOp} {T : TypeId} {x y : Operand} {a b : Bool} (w : World) : (eqGuard op T x y (.bool a) (.bool b)).run Γ.P w = .ok () w := by
  cases op <;> simp [eqGuard]
theorem seq_ok {s1 : Sem Unit} {s2 : Sem Value} {r : Value} (h1 : ∀ w, s1.run Γ.P w = .ok () w) (h2 : ∀ w, s2.run Γ.P w = .ok r w) : ∀ w, (do s1; s2 : Sem Value).run Γ.P w = .ok r w := fun w => by
  rw [Sem.run_bind, h1 w]; exact h2 w
theorem evBin_ok (hΓ : EnvOk Γ) {op : BinOp} {T : TypeId} {a b av : AV} {ps : List Prop} (h : evBin Γ op T a b = some (av, ps)) (hps : ∀ p ∈ ps, p) {u v : Value} (ha : Match S w0 γ a u) (hb : Match S w0 γ b v) (x y : Operand) :
    ∃ r, (∀ w, (do eqGuard op T x y u v; binOp op T u v : Sem Value).run Γ.P w = .ok r w) ∧ Match S w0 γ av r := by
  unfold evBin at h
  split at h
  · rename_i k ht
    split at h
    · rename_i xi hx
      obtain rfl := castTo_int ha hx
      split at h
      · split at h
        · rename_i k' yi
          obtain rfl := match_int.1 hb
          obtain ⟨r, h1, h2⟩ := shInt_ok (Γ := Γ) (S := S) (w0 := w0) (γ := γ) (k' := k') h hps T
          exact ⟨r, seq_ok eqGuard_int h1, h2⟩
        · cases h
      · split at h
        · rename_i yi hy
          obtain rfl := castTo_int hb hy
          obtain ⟨r, h1, h2⟩ := binInt_ok (Γ := Γ) (S := S) (w0 := w0) (γ := γ) h hps T
          exact ⟨r, seq_ok eqGuard_int h1, h2⟩
        · cases h
    · cases h
  · rename_i ht
    split at h
    · rename_i xi yi hx hy
      obtain rfl := castTo_bool ha hx
      obtain rfl := castTo_bool hb hy
      obtain ⟨r, h1, h2⟩ := binBool_ok (Γ := Γ) (S := S) (w0 := w0) (γ := γ) h T (hΓ.is ht).1
      exact ⟨r, seq_ok eqGuard_bool h1, h2⟩
    · cases h
  · rename_i ht
    split at h
    · rename_i xi yi hx hy
      obtain rfl := castTo_str ha hx
      obtain rfl := castTo_str hb hy
      obtain ⟨r, h1, h2⟩ := binStr_ok (Γ := Γ) (S := S) (w0 := w0) (γ := γ) h hps T
      exact ⟨r, seq_ok eqGuard_str h1, h2⟩
    · cases h
  · rename_i fs ht
    split at h
    · rename_i hc
      simp only [Bool.and_eq_true, decide_eq_true_eq] at hc
      split at h
      · rename_i xi yi hx hy
        obtain ⟨cs, g1, rfl⟩ := castTo_ok ha hx
        obtain ⟨cs', g2, rfl⟩ := castTo_ok hb hy
        have his := hΓ.is ht
        obtain ⟨r, h1, h2⟩ := binSt_ok (Γ := Γ) (S := S) (w0 := w0) (γ := γ) h rfl his (by simpa [Ty.flat] using hc.1) (by simp only [Ty.height]; omega) g1 g2
        exact ⟨r, seq_ok (fun w => run_eqGuard_agg w op T x y _ _ his.2.2.1) h1, h2⟩
      · cases h
    · cases h
  · cases h
end
end Go.Abs
