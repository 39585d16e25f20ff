/- Part of the proof of the law's row: YtaghpbhnclclaaaDoorWq20l. -/
import Derived.Test.YtaghpbhnclclaaaDoorWq20j
import Derived.Test.YtaghpbhnclclaaaDoorWq18o
set_option linter.all false
set_option linter.unusedVariables false
set_option linter.unusedSimpArgs false
/-! Chapter 20: the program's Better; the laws of Better. -/
namespace Go.Proofs
open Go Go.Abs
theorem bits_all : ∀ n : Fin 128, decide (bitv Go.BinOp.and Go.IntKind.i64 ((n.val : Nat) : Int) (32 : Int) = 0) = !decide (((n.val : Nat) : Int) / 32 % 2 = 1) ∧ decide (bitv Go.BinOp.and Go.IntKind.i64 ((n.val : Nat) : Int) (64 : Int) = 0) = !decide (((n.val : Nat) : Int) / 64 % 2 = 1) := by decide +kernel
theorem bit_of {f : Int} (hf : 0 ≤ f ∧ f ≤ 127) : (!pb (bitv Go.BinOp.and Go.IntKind.i64 f (32 : Int) = (0 : Int))) = pb (f / 32 % 2 = 1) ∧ (!pb (bitv Go.BinOp.and Go.IntKind.i64 f (64 : Int) = (0 : Int))) = pb (f / 64 % 2 = 1) := by
  have h := bits_all ⟨f.toNat, by omega⟩
  have e : ((f.toNat : Nat) : Int) = f := by omega
  dsimp only at h
  rw [e] at h
  simp only [toPb] at h
  rw [h.1, h.2, Bool.not_not, Bool.not_not]
  exact ⟨rfl, rfl⟩
theorem tailP_step {p : List InstrD} {t : Bool} (hp : OkP p) {R : Type} : (sel t (Option.bind (F_peep_tails (p, ())) (fun (y2 : List InstrD × Unit) => some (Sum.inl ((y2.1, ()), ())))) (some (Sum.inl ((p, ()), ()))) : Option (((List InstrD × Unit) × Unit) ⊕ R)) = some (Sum.inl (((if t = true then tailsL p else p), ()), ())) := by
  cases t with
  | true => rw [sel_t, q_tailsP hp]; rfl
  | false => rfl
theorem jumpP_step {q : List InstrD} {j : Bool} (hq : OkP q) {R : Type} : (sel j (Option.bind (F_peep_threads (q, ())) (fun (y3 : List InstrD × Unit) => Option.bind (F_peep_dead (y3.1, ())) (fun (y4 : List InstrD × Unit) => Option.bind (F_peep_hops (y4.1, ())) (fun (y5 : List InstrD × Unit) => some (Sum.inl ((y5.1, ()), ())))))) (some (Sum.inl ((q, ()), ()))) : Option (((List InstrD × Unit) × Unit) ⊕ R)) = some (Sum.inl (((if j = true then jumpsL q else q), ()), ())) := by
  cases j with
  | true =>
    rw [sel_t, q_thrP hq, bind_t]
    dsimp only
    rw [q_deadP (ok_thr hq), bind_t]
    dsimp only
    rw [q_hopsP (ok_dead (ok_thr hq)), bind_t]
    rfl
  | false => rfl
theorem q_betP {p r : List InstrD} {t j : Bool} (hb : Bet t j p r) (hp : OkP p) : loopC (fun (s : (List InstrD × Unit) × Unit) => Option.bind (sel t (Option.bind (F_peep_tails (s.1.1, ())) (fun (y7 : List InstrD × Unit) => some (Sum.inl ((y7.1, ()), ())))) (some (Sum.inl ((s.1.1, ()), ())))) (fun (o2 : (List InstrD × Unit) × Unit ⊕ (List InstrD × Unit) × Unit ⊕ (Int × List InstrD × Unit)) => (match o2 with | Sum.inl val2 => Option.bind (sel j (Option.bind (F_peep_threads (val2.1.1, ())) (fun (y8 : List InstrD × Unit) => Option.bind (F_peep_dead (y8.1, ())) (fun (y9 : List InstrD × Unit) => Option.bind (F_peep_hops (y9.1, ())) (fun (y10 : List InstrD × Unit) => some (Sum.inl ((y10.1, ()), ())))))) (some (Sum.inl ((val2.1.1, ()), ())))) (fun (o3 : (List InstrD × Unit) × Unit ⊕ (List InstrD × Unit) × Unit ⊕ (Int × List InstrD × Unit)) => (match o3 with | Sum.inl val3 => Option.bind (F_instr_Same (s.1.1, val3.1.1, ())) (fun (y11 : Bool × Unit) => sel (!y11.1) (some (Sum.inl ((val3.1.1, ()), ()))) (Option.bind (F_slices_Clone_Instr_Instr (val3.1.1, ())) (fun (y12 : List InstrD × Unit) => some (Sum.inr ((0 : Int), y12.1, ()))))) | Sum.inr val4 => some val4)) | Sum.inr val5 => some val5))) ((p, ()), ()) = some ((0 : Int), r, ()) := by
  induction hb with
  | @done p he =>
    have hlen := hp.len
    have hq := ok_tail (t := t) hp
    rw [loopC_eq]
    dsimp only
    rw [tailP_step hp, bind_t]
    dsimp only
    rw [jumpP_step hq, bind_t, show (if j = true then jumpsL (if t = true then tailsL p else p) else (if t = true then tailsL p else p)) = p from he]
    dsimp only
    rw [q_instrSame p p hlen, bind_t, pb_t rfl, q_cloneI p (by omega)]
    rfl
  | @step p r hne hb ih =>
    have hlen := hp.len
    have hq := ok_tail (t := t) hp
    have hok := ok_pass (t := t) (j := j) hp
    have ih := ih hok
    rw [loopC_eq]
    dsimp only
    rw [tailP_step hp, bind_t]
    dsimp only
    rw [jumpP_step hq, bind_t, show (if j = true then jumpsL (if t = true then tailsL p else p) else (if t = true then tailsL p else p)) = passL t j p from rfl]
    dsimp only
    rw [q_instrSame p _ hlen, bind_t, pb_f (Ne.symm hne)]
    exact ih
theorem q_Better (p : List InstrD) (f : Int) : F_peep_Better (p, f, ()) = some (betR p f) := by
  unfold F_peep_Better betR
  simp only [toPb]
  rw [q_icheck, bind_t]
  dsimp only
  by_cases h0 : (checkI p).2 = 0
  · have hp := okP h0
    have hlen := hp.len
    rw [npos h0, if_neg (by simpa using h0)]
    by_cases hf : f < 0
    · rw [pos hf, bind_t, sel_t, if_pos (.inl hf)]
    · rw [neg hf, bind_t]
      by_cases hf2 : f > 127
      · rw [pb_t hf2, sel_t, if_pos (.inr hf2)]
      · rw [pb_f hf2, sel_f, if_neg (by omega)]
        obtain ⟨b1, b2⟩ := bit_of (f := f) ⟨by omega, by omega⟩
        rw [b1, b2]
        generalize pb (f / 32 % 2 = 1) = t
        generalize pb (f / 64 % 2 = 1) = j
        have hB := betL_is (t := t) (j := j) hp
        generalize betL t j p = r at *
        rw [q_cloneI p (by omega), bind_t]
        dsimp only
        have e1 : (sel t (Option.bind (F_peep_tails (p, ())) (fun (y2 : List InstrD × Unit) => some (Sum.inl ((p, y2.1, ()), ())))) (some (Sum.inl ((p, p, ()), ()))) : Option (((List InstrD × List InstrD × Unit) × Unit) ⊕ (Int × List InstrD × Unit))) = some (Sum.inl ((p, (if t = true then tailsL p else p), ()), ())) := by
          cases t with
          | true => rw [sel_t, q_tailsP hp]; rfl
          | false => rfl
        rw [e1, bind_t]
        dsimp only
        rw [jumpP_step (ok_tail hp), bind_t, show (if j = true then jumpsL (if t = true then tailsL p else p) else (if t = true then tailsL p else p)) = passL t j p from rfl]
        dsimp only
        rw [q_instrSame p _ hlen, bind_t]
        dsimp only
        have hpl := pass_len (t := t) (j := j) (p := p)
        cases hB with
        | done he =>
          rw [he, pb_t rfl, Bool.not_true, sel_f, q_cloneI p (by omega)]
          rfl
        | step hne hb =>
          rw [pb_f (Ne.symm hne), Bool.not_false, sel_t]
          exact q_betP hb (ok_pass hp)
  · rw [nneg h0, if_pos h0]
theorem betR_len {p : List InstrD} {f : Int} : (betR p f).2.1.length ≤ p.length := by
  unfold betR
  split
  · simp
  · rename_i h0
    split
    · simp
    · exact (bet_ok (betL_is (okP (by simpa using h0))) (okP (by simpa using h0))).2.1
theorem law_PeepBetter (p : List InstrD) (f : Int) (h : p.length * 80 ≤ 140737488351232) : F_law20_PeepBetter (p, f, ()) = some (true, ()) := by
  unfold F_law20_PeepBetter
  simp only [toPb]
  have h1 := betR_len (p := p) (f := f)
  rw [q_lendC p (by omega), bind_t]
  simp only [lentI_take, List.length_append, List.length_cons, List.length_nil]
  simp (disch := omega) only [need_pos]
  rw [q_Better, q_Better20, q_lives20]
  simp only [bind_t, sel_t]
  rw [q_sameC _ (by omega), q_keptC p (by omega)]
  simp only [bind_t, sel_t, pb_t]
end Go.Proofs

/-! Chapter 18: the law of what Link and Unlink give. -/
namespace Go.Proofs
open Go Go.Abs
theorem q_spoilC (v : Int) (p : List InstrD) (h : p.length ≤ 16384) : F_book_SpoilCode (v, p, ()) = some () := by
  unfold F_book_SpoilCode
  refine (loopC_gh (γ := Nat) (σ := (Int × Unit) × List InstrD × Unit) (ρ := Unit) (I := fun i s => s.1.1 = (i : Int) ∧ i ≤ p.length ∧ s.2.1.length = p.length) (μ := fun g => p.length - g) (F := fun _ => ()) ?_ 0 _ ⟨rfl, by omega, rfl⟩)
  rintro i ⟨⟨i', ⟨⟩⟩, L, ⟨⟩⟩ ⟨e, hi, hL⟩
  simp only at e hi hL ⊢
  subst e
  by_cases hlt : i < p.length
  · rw [sel_pos (by omega), need_pos ⟨by omega, by omega⟩, need_pos (by omega), need64 (by omega) (by omega)]
    exact .inl ⟨i + 1, (((i : Int) + 1, ()), _, ()), rfl, ⟨by simp, by omega, by rw [List.length_set]; exact hL⟩, by omega, by trivial⟩
  · rw [sel_neg (by omega), need_pos ⟨by omega, by omega⟩]
    exact .inr rfl
end Go.Proofs

/-! Chapter 20: PeepOwn, PeepSettles. -/
namespace Go.Proofs
open Go Go.Abs
theorem onR_small {p q : List InstrD} (h : q.length ≤ p.length) : (onR p q).2.1.length ≤ 16384 := by
  unfold onR
  split
  · rename_i h0
    have := (okP h0).len
    dsimp only
    omega
  · simp
theorem betR_small {p : List InstrD} {f : Int} : (betR p f).2.1.length ≤ 16384 := by
  unfold betR
  split
  · simp
  · rename_i h0
    have h0 : (checkI p).2 = 0 := by simpa using h0
    have := (okP h0).len
    split
    · simp
    · have := (bet_ok (betL_is (t := pb (f / 32 % 2 = 1)) (j := pb (f / 64 % 2 = 1)) (okP h0)) (okP h0)).2.1
      dsimp only
      omega
theorem law_PeepOwn (p : List InstrD) (f : Int) (h : p.length * 80 ≤ 140737488351232) : F_law20_PeepOwn (p, f, ()) = some (true, ()) := by
  unfold F_law20_PeepOwn
  simp only [toPb]
  rw [q_lendC p (by omega), bind_t]
  refine loop_up 2 (fun i => (((i : Int), (0, p.length), ()), p ++ [markI], ())) rfl (fun i hi => ?_) ?_
  · dsimp only
    simp only [lentI_take]
    rw [pos (by omega), need_pos (by simp), q_Tails, bind_t, q_spoilC _ _ (onR_small (Nat.le_of_eq tails_len)), bind_t, need_pos (by simp), q_Threads, bind_t, q_spoilC _ _ (onR_small (Nat.le_of_eq thr_len)), bind_t, need_pos (by simp), q_Dead, bind_t, q_spoilC _ _ (onR_small dead_len), bind_t, need_pos (by simp), q_Hops, bind_t, q_spoilC _ _ (onR_small hops_len), bind_t, need_pos (by simp), q_Better, bind_t, q_spoilC _ _ betR_small, bind_t, need64 (by omega) (by omega)]
    rfl
  · dsimp only
    rw [neg (by omega), law_PeepTails p h, law_PeepDead p h, law_PeepBetter p f h]
    simp only [bind_t, sel_t]
    rw [need_pos (by simp), q_keptC p (by omega)]
    rfl
end Go.Proofs
