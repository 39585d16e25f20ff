/- Part of the proof of the law's row: YtaghpbhnclclaaaDoorWq20l. -/
import Derived.Test.YtaghpbhnclclaaaDoorWq20j
import Derived.Test.YtaghpbhnclclaaaDoorWq18o
set_option linter.all false
set_option linter.unusedVariables false
set_option linter.unusedSimpArgs false
/-! Chapter 20: the program's Better; the laws of Better. -/
namespace Go.Proofs
open Go Go.Abs
theorem bits_all : ∀ n : Fin 128, decide (bitv Go.BinOp.and Go.IntKind.i64 ((n.val : Nat) : Int) (32 : Int) = 0) = !decide (((n.val : Nat) : Int) / 32 % 2 = 1) ∧ decide (bitv Go.BinOp.and Go.IntKind.i64 ((n.val : Nat) : Int) (64 : Int) = 0) = !decide (((n.val : Nat) : Int) / 64 % 2 = 1) := by decide +kernel
theorem bit_of {f : Int} (hf : 0 ≤ f ∧ f ≤ 127) : (!pb (bitv Go.BinOp.and Go.IntKind.i64 f (32 : Int) = (0 : Int))) = pb (f / 32 % 2 = 1) ∧ (!pb (bitv Go.BinOp.and Go.IntKind.i64 f (64 : Int) = (0 : Int))) = pb (f / 64 % 2 = 1) := by
  have h := bits_all ⟨f.toNat, by omega⟩
  have e : ((f.toNat : Nat) : Int) = f := by omega
  dsimp only at h
  rw [e] at h
  simp only [toPb] at h
  rw [h.1, h.2, Bool.not_not, Bool.not_not]
  exact ⟨rfl, rfl⟩
theorem tailP_step {p : List InstrD} {t : Bool} (hp : OkP p) {R : Type} : (sel t (Option.bind (F_peep_tails (p, ())) (fun (y2 : List InstrD × Unit) => some (Sum.inl ((y2.1, ()), ())))) (some (Sum.inl ((p, ()), ()))) : Option (((List InstrD × Unit) × Unit) ⊕ R)) = some (Sum.inl (((if t = true then tailsL p else p), ()), ())) := by
  cases t with
  | true => rw [sel_t, q_tailsP hp]; rfl
  | false => rfl
theorem jumpP_step {q : List InstrD} {j : Bool} (hq : OkP q) {R : Type} : (sel j (Option.bind (F_peep_threads (q, ())) (fun (y3 : List InstrD × Unit) => Option.bind (F_peep_dead (y3.1, ())) (fun (y4 : List InstrD × Unit) => Option.bind (F_peep_hops (y4.1, ())) (fun (y5 : List InstrD × Unit) => some (Sum.inl ((y5.1, ()), ())))))) (some (Sum.inl ((q, ()), ()))) : Option (((List InstrD × Unit) × Unit) ⊕ R)) = some (Sum.inl (((if j = true then jumpsL q else q), ()), ())) := by
  cases j with
  | true =>
    rw [sel_t, q_thrP hq, bind_t]
    dsimp only
    rw [q_deadP (ok_thr hq), bind_t]
    dsimp only
    rw [q_hopsP (ok_dead (ok_thr hq)), bind_t]
    rfl
  | false => rfl
theorem q_betP {p r : List InstrD} {t j : Bool} (hb : Bet t j p r) (hp : OkP p) : loopC (fun (s : (List InstrD × Unit) × Unit) => Option.bind (sel t (Option.bind (F_peep_tails (s.1.1, ())) (fun (y7 : List InstrD × Unit) => some (Sum.inl ((y7.1, ()), ())))) (some (Sum.inl ((s.1.1, ()), ())))) (fun (o2 : (List InstrD × Unit) × Unit ⊕ (List InstrD × Unit) × Unit ⊕ (Int × List InstrD × Unit)) => (match o2 with | Sum.inl val2 => Option.bind (sel j (Option.bind (F_peep_threads (val2.1.1, ())) (fun (y8 : List InstrD × Unit) => Option.bind (F_peep_dead (y8.1, ())) (fun (y9 : List InstrD × Unit) => Option.bind (F_peep_hops (y9.1, ())) (fun (y10 : List InstrD × Unit) => some (Sum.inl ((y10.1, ()), ())))))) (some (Sum.inl ((val2.1.1, ()), ())))) (fun (o3 : (List InstrD × Unit) × Unit ⊕ (List InstrD × Unit) × Unit ⊕ (Int × List InstrD × Unit)) => (match o3 with | Sum.inl val3 => Option.bind (F_instr_Same (s.1.1, val3.1.1, ())) (fun (y11 : Bool × Unit) => sel (!y11.1) (some (Sum.inl ((val3.1.1, ()), ()))) (Option.bind (F_slices_Clone_Instr_Instr (val3.1.1, ())) (fun (y12 : List InstrD × Unit) => some (Sum.inr ((0 : Int), y12.1, ()))))) | Sum.inr val4 => some val4)) | Sum.inr val5 => some val5))) ((p, ()), ()) = some ((0 : Int), r, ()) := by
  induction hb with
  | @done p he =>
    have hlen := hp.len
    have hq := ok_tail (t := t) hp
    rw [loopC_eq]
    dsimp only
    rw [tailP_step hp, bind_t]
    dsimp only
    rw [jumpP_step hq, bind_t, show (if j = true then jumpsL (if t = true then tailsL p else p) else (if t = true then tailsL p else p)) = p from he]
    dsimp only
    rw [q_instrSame p p hlen, bind_t, pb_t rfl, q_cloneI p (by omega)]
    rfl
  | @step p r hne hb ih =>
    have hlen := hp.len
    have hq := ok_tail (t := t) hp
    have hok := ok_pass (t := t) (j := j) hp
    have ih := ih hok
    rw [loopC_eq]
    dsimp only
    rw [tailP_step hp, bind_t]
    dsimp only
    rw [jumpP_step hq, bind_t, show (if j = true then jumpsL (if t = true then tailsL p else p) else (if t = true then tailsL p else p)) = passL t j p from rfl]
    dsimp only
    rw [q_instrSame p _ hlen, bind_t, pb_f (Ne.symm hne)]
    exact ih
theorem q_Better (p : List InstrD) (f : Int) : F_peep_Better (p, f, ()) = some (betR p f) := by
  unfold F_peep_Better betR
  simp only [toPb]
  rw [q_icheck, bind_t]
  dsimp only
  by_cases h0 : (checkI p).2 = 0
  · have hp := okP h0
    have hlen := hp.len
    rw [npos h0, if_neg (by simpa using h0)]
    by_cases hf : f < 0
    · rw [pos hf, bind_t, sel_t, if_pos (.inl hf)]
    · rw [neg hf, bind_t]
      by_cases hf2 : f > 127
      · rw [pb_t hf2, sel_t, if_pos (.inr hf2)]
      · rw [pb_f hf2, sel_f, if_neg (by omega)]
        obtain ⟨b1, b2⟩ := bit_of (f := f) ⟨by omega, by omega⟩
        rw [b1, b2]
        generalize pb (f / 32 % 2 = 1) = t
        generalize pb (f / 64 % 2 = 1) = j
        have hB := betL_is (t := t) (j := j) hp
        generalize betL t j p = r at *
        rw [q_cloneI p (by omega), bind_t]
        dsimp only
        have e1 : (sel t (Option.bind (F_peep_tails (p, ())) (fun (y2 : List InstrD × Unit) => some (Sum.inl ((p, y2.1, ()), ())))) (some (Sum.inl ((p, p, ()), ()))) : Option (((List InstrD × List InstrD × Unit) × Unit) ⊕ (Int × List InstrD × Unit))) = some (Sum.inl ((p, (if t = true then tailsL p else p), ()), ())) := by
          cases t with
          | true => rw [sel_t, q_tailsP hp]; rfl
          | false => rfl
        rw [e1, bind_t]
        dsimp only
        rw [jumpP_step (ok_tail hp), bind_t, show (if j = true then jumpsL (if t = true then tailsL p else p) else (if t = true then tailsL p else p)) = passL t j p from rfl]
        dsimp only
        rw [q_instrSame p _ hlen, bind_t]
        dsimp only
        have hpl := pass_len (t := t) (j := j) (p := p)
        cases hB with
        | done he =>
          rw [he, pb_t rfl, Bool.not_true, sel_f, q_cloneI p (by omega)]
          rfl
        | step hne hb =>
          rw [pb_f (Ne.symm hne), Bool.not_false, sel_t]
          exact q_betP hb (ok_pass hp)
  · rw [nneg h0, if_pos h0]
end Go.Proofs

/-! Chapter 20: PeepOwn, PeepSettles. -/
namespace Go.Proofs
open Go Go.Abs
theorem q_round {p : List InstrD} (h : OkP p) {a : Nat} (ha : a < p.length) (hj : ∀ k, jumpP p (nxP p k a)) : F_law20_round (p, (a : Int), ()) = some (true, ()) := by
  have hlen := h.len
  unfold F_law20_round
  simp only [toPb]
  refine loop_up (p.length + 1) (fun i => (((i : Int), (nxP p i a : Int), ()), ())) rfl (fun i hi => ?_) ?_
  · have hlt := nx_lt (k := i) h ha fun j _ => hj j
    have h14 : (ith p (nxP p i a)).1 = 14 := hj i
    obtain ⟨g1, g2⟩ := aim_lt h hlt (by rw [h14]; exact goes_jump)
    dsimp only
    simp only [Int.toNat_natCast, getD_ith]
    rw [pos (by omega), need_pos ⟨by omega, by omega⟩, npos h14, need_pos ⟨by omega, by omega⟩, need64 (by omega) (by omega), need64 (by omega) (by omega), ← g2]
    have : nxP p (i + 1) a = aimP p (nxP p i a) := nxP_add i 1 a
    rw [this]
    rfl
  · dsimp only
    rw [neg (by omega)]
/-- What is known of code that jumps have been gone over of. -/
theorem settled {p : List InstrD} {t : Bool} (h : OkP p) (he : passL t true p = p) : (∀ i, i < p.length → Reach p i ∧ ¬ hopC p i) ∧ thrL p = p := by
  have hq := ok_tail (t := t) h
  have hql := tail_len (t := t) (p := p)
  have he : jumpsL (if t = true then tailsL p else p) = p := he
  generalize (if t = true then tailsL p else p) = q at *
  obtain ⟨h1, h2, h3⟩ := jumps_full hq (by rw [he, hql])
  have h4 : thrL q = p := by rw [← h1]; exact he
  rw [h4] at h2 h3
  refine ⟨fun i hi => ⟨h2 i (by omega), h3 i (by omega)⟩, ?_⟩
  rw [← h4]
  exact thr_twice hq
theorem thr_fixed {p : List InstrD} (h : OkP p) (he : thrL p = p) {i : Nat} (hi : i < p.length) (hg : goesB (ith p i).1 = true) : (ith p (aimP p i)).1 ≠ 14 ∨ ∀ k, jumpP p (nxP p k (aimP p i)) := by
  have e : thrX p i = ith p i := by rw [← thr_ith hi, he]
  rcases thr_cases h hi with ⟨_, h2⟩ | ⟨t, _, _, ht, hn, ⟨_, h2, h3⟩ | ⟨_, h3⟩⟩
  · exact .inr (h2 hg)
  · exfalso
    rw [← e, h3] at hg
    exact absurd hg (by rw [show (bareI (ith p t).1).1 = (ith p t).1 from rfl, (stop_ok h2).2.2.2]; simp)
  · left
    have hA : (ith p i).2.1 = (t : Int) - (i : Int) := by rw [← e, h3]
    have : aimP p i = t := by unfold aimP; omega
    rw [this]
    exact hn
theorem law_PeepSettles (p : List InstrD) (f : Int) (h : p.length * 80 ≤ 140737488351232) : F_law20_PeepSettles (p, f, ()) = some (true, ()) := by
  unfold F_law20_PeepSettles
  simp only [toPb]
  rw [q_Better, bind_t, q_icheckR, q_icheckR, q_lives20]
  simp only [bind_t]
  unfold betR
  by_cases h0 : (checkI p).2 = 0
  · have hp := okP h0
    by_cases hf : f < 0 ∨ f > 127
    · have e : (if (checkI p).2 ≠ 0 then ((checkI p).2, [], ()) else if f < 0 ∨ f > 127 then (1, [], ()) else (0, betL (pb (f / 32 % 2 = 1)) (pb (f / 64 % 2 = 1)) p, ()) : Int × List InstrD × Unit) = (1, [], ()) := by rw [if_neg (by simpa using h0), if_pos hf]
      rw [e]
      dsimp only
      rw [nneg (by omega), sel_t, bind_t, pos (by simp), h0, neg (by omega), pos rfl, bind_t, pos rfl]
      rcases hf with hf | hf
      · rw [pos hf]; rfl
      · rw [neg (by omega), pb_t hf]; rfl
    · have e : (if (checkI p).2 ≠ 0 then ((checkI p).2, [], ()) else if f < 0 ∨ f > 127 then (1, [], ()) else (0, betL (pb (f / 32 % 2 = 1)) (pb (f / 64 % 2 = 1)) p, ()) : Int × List InstrD × Unit) = (0, betL (pb (f / 32 % 2 = 1)) (pb (f / 64 % 2 = 1)) p, ()) := by rw [if_neg (by simpa using h0), if_neg hf]
      rw [e]
      dsimp only
      obtain ⟨hr, hrl, hrp⟩ := bet_ok (betL_is (t := pb (f / 32 % 2 = 1)) (j := pb (f / 64 % 2 = 1)) hp) hp
      have e2 : F_peep_Better (betL (pb (f / 32 % 2 = 1)) (pb (f / 64 % 2 = 1)) p, f, ()) = some (0, betL (pb (f / 32 % 2 = 1)) (pb (f / 64 % 2 = 1)) p, ()) := by
        rw [q_Better]
        unfold betR
        have hc := okP_check hr
        rw [if_neg (by simpa using hc), if_neg hf, bet_fix (betL_is hr) hrp]
      rw [e2]
      generalize betL (pb (f / 32 % 2 = 1)) (pb (f / 64 % 2 = 1)) p = r at *
      have hlen := hr.len
      rw [npos rfl, bind_t]
      dsimp only
      rw [okP_check hr, npos rfl, pb_t rfl, Bool.not_true, bind_t, sel_f, bind_t, neg (by omega), q_sameC r (by omega), bind_t]
      dsimp only
      rw [bind_t, Bool.not_true, sel_f, need_pos ⟨by omega, by omega, fits64 (by omega) (by omega)⟩, need_pos ⟨by omega, by omega⟩]
      by_cases hj : f / 64 % 2 = 0
      · rw [pos hj]
      · rw [neg hj]
        have hj1 : f / 64 % 2 = 1 := by omega
        rw [pb_t hj1] at hrp
        obtain ⟨s1, s2⟩ := settled hr hrp
        have hll := live_len (p := r)
        rw [q_liveP hr, bind_t]
        dsimp only
        rw [npos rfl, bind_t, npos (by omega)]
        refine loop_up r.length (fun i => (((i : Int), ()), liveL r, r, ())) rfl (fun i hi => ?_) ?_
        · obtain ⟨t1, t2⟩ := s1 i hi
          have hlv : List.getD (liveL r) i false = true := by
            unfold liveL
            rw [genR_get hi]
            exact pb_t t1
          dsimp only
          simp only [Int.toNat_natCast, Nat.zero_add, getD_ith]
          rw [pos (by omega), need_pos ⟨by omega, by omega⟩, need_pos (by omega), hlv, Bool.not_true, sel_f, need_pos ⟨by omega, by omega⟩, need_pos (by omega), need_pos ⟨by omega, by omega⟩, need_pos (by omega), hop_bool, bind_t, bind_t, pb_f t2, sel_f, need_pos ⟨by omega, by omega⟩, need_pos (by omega), q_targets, bind_t]
          dsimp only
          cases hg : goesB (ith r i).1 with
          | false =>
            rw [sel_f, bind_t, sel_f, bind_t, sel_f, need64 (by omega) (by omega)]
            rfl
          | true =>
            obtain ⟨a1, a2⟩ := aim_lt hr hi hg
            have ea : Int.toNat ((i : Int) + (ith r i).2.1) = aimP r i := rfl
            rw [sel_t, need_pos ⟨by omega, by omega⟩, need_pos (by omega), need64 (by omega) (by omega), need_pos ⟨by omega, by omega⟩, need_pos (by omega), bind_t, ea]
            rcases thr_fixed hr s2 hi hg with h1 | h1
            · rw [neg h1, bind_t, sel_f, need64 (by omega) (by omega)]
              rfl
            · rw [pos (show (ith r (aimP r i)).1 = 14 from h1 0), need_pos ⟨by omega, by omega⟩, need_pos (by omega), need64 (by omega) (by omega), ← a2, q_round hr a1 h1, bind_t, bind_t]
              dsimp only
              rw [Bool.not_true, sel_f, need64 (by omega) (by omega)]
              rfl
        · dsimp only
          rw [neg (by omega)]
  · have e : (if (checkI p).2 ≠ 0 then ((checkI p).2, [], ()) else if f < 0 ∨ f > 127 then (1, [], ()) else (0, betL (pb (f / 32 % 2 = 1)) (pb (f / 64 % 2 = 1)) p, ()) : Int × List InstrD × Unit) = ((checkI p).2, [], ()) := by rw [if_pos h0]
    rw [e]
    dsimp only
    rw [nneg h0, sel_t, bind_t, pos (by simp), pos rfl]
    rfl
end Go.Proofs
