/- Part of the proof of the law's row: YtaghpbhnclclaaaDoorWq20g. -/
import Derived.Test.YtaghpbhnclclaaaDoorWq20e
set_option linter.all false
set_option linter.unusedVariables false
set_option linter.unusedSimpArgs false
/-! Chapter 16: what can be come to, by the book. -/
namespace Go.Proofs
open Go Go.Abs
theorem take_first {W : List Int} {o m : Nat} (h : o + (m + 1) ≤ W.length) : List.take (m + 1) (List.drop o W) = List.getD W o 0 :: List.take m (List.drop (o + 1) W) := by
  rw [List.drop_eq_getElem_cons (by omega), List.take_succ_cons, List.getD_eq_getElem?_getD, List.getElem?_eq_getElem (by omega)]
  rfl
structure LvI (p : List InstrD) (o n : Nat) (W : List Int) (out : List Bool) (b : Nat) (T : Option Nat) : Prop where
  len : o + n ≤ W.length
  outl : out.length = p.length
  cnt : n + cntF out + b ≤ p.length
  a : ∀ j, j < p.length → List.getD out j false = true → Reach p j
  w : ∀ k ∈ List.take n (List.drop o W), 0 ≤ k ∧ k < (p.length : Int) ∧ List.getD out k.toNat false = true
  z : List.getD out 0 false = true
  c : ∀ j, j < p.length → List.getD out j false = true → T = some j ∨ (j : Int) ∈ List.take n (List.drop o W) ∨ ∀ k ∈ waysL p j, List.getD out k.toNat false = true
theorem q_liveR {p : List InstrD} (h : OkP p) : F_ref16_Live (p, ()) = some (0, liveL p, ()) := by
  have hlen := h.len
  have hpos := h.pos
  unfold F_ref16_Live
  simp only [toPb]
  rw [q_icheckR, bind_t]
  dsimp only
  rw [okP_check h, npos rfl, need_pos ⟨by omega, by omega, by omega, by omega⟩, need_pos ⟨by omega, by simp; omega⟩, need_pos (by simp; omega)]
  refine loopC_run (I := fun s => LvI p s.1.1.1 s.1.1.2 s.2.1 s.2.2.1 0 none) (μ := fun s => s.1.1.2 + 2 * cntF s.2.2.1) (F := fun _ => (0, liveL p, ())) ?_ _ ?_
  · rintro ⟨⟨⟨o, n⟩, ⟨⟩⟩, W, out, ⟨⟩⟩ hI
    dsimp only at hI ⊢
    cases n with
    | zero =>
      right
      rw [neg (by simp)]
      rw [closed_live h hI.outl hI.a hI.z fun j hj ho k hk => by
        rcases hI.c j hj ho with h1 | h1 | h1
        · cases h1
        · simp at h1
        · exact h1 k hk]
    | succ m =>
      left
      have hl1 := hI.len
      have hw0 := hI.w
      rw [take_first hl1] at hw0
      generalize hT : List.getD W o 0 = T at *
      obtain ⟨hb0, hb1, hb2⟩ := hw0 T (by simp)
      have hTn : ((T.toNat : Nat) : Int) = T := by omega
      have hTl : T.toNat < p.length := by omega
      have hway : F_ref16_ways (p, T, ()) = some (waysL p T.toNat, ()) := by
        have := q_waysR h hTl
        rwa [hTn] at this
      have hw := ways_len (p := p) (i := T.toNat)
      rw [pos (by omega), need_pos ⟨by omega, by omega⟩, need_pos (by omega), hway, bind_t]
      dsimp only
      rw [need_pos ⟨by omega, by omega, by omega⟩, show Int.toNat ((m + 1 : Nat) : Int) - 1 = m by omega]
      generalize hL : waysL p T.toNat = L at *
      refine loopC_ex
        (I := fun s1 => ∃ i : Nat, s1.1.1 = (i : Int) ∧ i ≤ L.length ∧ s1.2.1 = L ∧ LvI p s1.1.2.1.1 s1.1.2.1.2 s1.2.2.1 s1.2.2.2.1 1 (some T.toNat) ∧ (∀ k ∈ List.take i L, List.getD s1.2.2.2.1 k.toNat false = true) ∧ s1.1.2.1.2 + 2 * cntF s1.2.2.2.1 ≤ m + 2 * cntF out)
        (μ := fun s1 => L.length - s1.1.1.toNat) ?_ ?_
      · rintro ⟨⟨i', ⟨o1, n1⟩, ⟨⟩⟩, L', W1, out1, ⟨⟩⟩ ⟨i, hi, hil, hLL, hJ, hdone, hmu⟩
        dsimp only at hi hil hLL hJ hdone hmu ⊢
        subst hi
        rw [hLL]
        clear hLL L'
        have hj1 := hJ.len
        have hj2 := hJ.outl
        have hj3 := hJ.cnt
        by_cases hlt : i < L.length
        · left
          rw [pos (by omega)]
          simp only [Int.toNat_natCast, Nat.zero_add, dropZ_eq, addZ_eq]
          have hkL : List.getD L i 0 ∈ L := by
            rw [List.getD_eq_getElem?_getD, List.getElem?_eq_getElem hlt]
            exact List.getElem_mem hlt
          have htk : List.take (i + 1) L = List.take i L ++ [List.getD L i 0] := take_top hlt
          generalize hK : List.getD L i 0 = K at *
          obtain ⟨hk0, hk1⟩ := ways_mem h hTl (by rw [hL]; exact hkL)
          rw [need_pos ⟨by omega, by omega⟩, need_pos (by omega), need_pos ⟨by omega, by omega⟩, need_pos (by omega)]
          cases hob : List.getD out1 K.toNat false with
          | true =>
            rw [Bool.not_true, sel_f, need64 (by omega) (by omega)]
            refine ⟨_, rfl, ⟨i + 1, by simp, hlt, rfl, hJ, ?_, hmu⟩, by dsimp only; omega⟩
            dsimp only
            rw [htk]
            intro k hk
            rcases List.mem_append.1 hk with hk | hk
            · exact hdone k hk
            · rw [List.mem_singleton.1 hk]
              exact hob
          | false =>
            have hcs := cntF_set (l := out1) (i := K.toNat) (by omega) hob
            have hwl : (List.take n1 (List.drop o1 W1)).length = n1 := by rw [List.length_take, List.length_drop]; omega
            rw [Bool.not_false, sel_t, need_pos ⟨by omega, by omega⟩, need_pos (by omega), need_pos ⟨by omega, by omega⟩, need_pos (by omega), need_pos ⟨by omega, by omega⟩, need_pos (by omega), need_pos ⟨by omega, by omega, by omega⟩, need64 (by omega) (by omega)]
            have hset : ∀ j, List.getD out1 j false = true → List.getD (List.set out1 K.toNat true) j false = true := by
              intro j hj
              rw [getD_set (by omega)]
              split
              · rfl
              · exact hj
            refine ⟨_, rfl, ⟨i + 1, by simp, hlt, rfl, ⟨?_, by simpa using hj2, ?_, ?_, ?_, hset 0 hJ.z, ?_⟩, ?_, ?_⟩, by dsimp only; omega⟩
            · simp
            · dsimp only
              rw [List.length_append, hwl, List.length_singleton]
              omega
            · intro j hj
              dsimp only
              rw [getD_set (by omega)]
              split
              · rename_i e1
                intro _
                rw [← e1]
                refine Reach.step (hI.a _ hTl hb2) hTl ?_
                rw [hL, show ((K.toNat : Nat) : Int) = K by omega]
                exact hkL
              · exact hJ.a j hj
            · dsimp only
              rw [List.drop_zero, List.take_length]
              intro k hk
              rcases List.mem_append.1 hk with hk | hk
              · have := hJ.w k hk
                exact ⟨this.1, this.2.1, hset _ this.2.2⟩
              · rw [List.mem_singleton.1 hk]
                exact ⟨hk0, hk1, by rw [getD_set (by omega), if_pos rfl]⟩
            · dsimp only
              rw [List.drop_zero, List.take_length]
              intro j hj ho
              by_cases hjK : K.toNat = j
              · right
                left
                rw [← hjK, show ((K.toNat : Nat) : Int) = K by omega]
                simp
              · rw [getD_set (by omega), if_neg hjK] at ho
                rcases hJ.c j hj ho with h1 | h1 | h1
                · exact .inl h1
                · exact .inr (.inl (List.mem_append_left _ h1))
                · exact .inr (.inr fun k hk => hset _ (h1 k hk))
            · dsimp only
              rw [htk]
              intro k hk
              rcases List.mem_append.1 hk with hk | hk
              · exact hset _ (hdone k hk)
              · rw [List.mem_singleton.1 hk, getD_set (by omega), if_pos rfl]
            · dsimp only
              rw [List.length_append, hwl, List.length_singleton]
              omega
        · right
          rw [neg (by omega)]
          refine ⟨_, rfl, ⟨hj1, hj2, by dsimp only; omega, hJ.a, hJ.w, hJ.z, ?_⟩, by dsimp only; omega, by trivial⟩
          intro j hj ho
          rcases hJ.c j hj ho with h1 | h1 | h1
          · injection h1 with h1
            right
            right
            intro k hk
            rw [← h1, hL] at hk
            rw [show i = L.length by omega, List.take_length] at hdone
            exact hdone k hk
          · exact .inr (.inl h1)
          · exact .inr (.inr h1)
      · refine ⟨0, rfl, Nat.zero_le _, rfl, ⟨by dsimp only; omega, hI.outl, by dsimp only; have := hI.cnt; omega, hI.a, fun k hk => hw0 k (List.mem_cons_of_mem _ hk), hI.z, fun j hj ho => ?_⟩, fun k hk => by simp at hk, Nat.le_refl _⟩
        rcases hI.c j hj ho with h1 | h1 | h1
        · cases h1
        · rw [take_first hl1, hT] at h1
          rcases List.mem_cons.1 h1 with h1 | h1
          · left
            rw [← h1, Int.toNat_natCast]
          · exact .inr (.inl h1)
        · exact .inr (.inr h1)
  · dsimp only
    have hrep : ∀ j, List.getD (List.replicate p.length false) j false = false := by
      intro j
      rw [List.getD_eq_getElem?_getD, List.getElem?_replicate]
      split <;> rfl
    rw [Int.toNat_natCast]
    have hcs := cntF_set (l := List.replicate p.length false) (i := 0) (by simpa using hpos) (hrep 0)
    rw [cntF_rep] at hcs
    have h00 : List.getD (List.set (List.replicate p.length false) 0 true) 0 false = true := by rw [getD_set (by simpa using hpos), if_pos rfl]
    refine ⟨Nat.le_refl _, by simp, by omega, ?_, ?_, h00, ?_⟩
    · intro j hj ho
      rw [getD_set (by simpa using hpos)] at ho
      split at ho
      · rename_i e; rw [← e]; exact Reach.zero
      · rw [hrep] at ho; cases ho
    · intro k hk
      have : k = 0 := by simpa using hk
      subst this
      exact ⟨by omega, by omega, h00⟩
    · intro j hj ho
      right
      left
      rw [getD_set (by simpa using hpos)] at ho
      split at ho
      · rename_i e; rw [← e]; simp
      · rw [hrep] at ho; cases ho
end Go.Proofs

/-! Chapter 20: the passes; the laws of one pass. -/
namespace Go.Proofs
open Go Go.Abs
noncomputable def deadG (p : List InstrD) : List Bool := genR p.length fun j => !List.getD (liveL p) j false
noncomputable def deadL (p : List InstrD) : List InstrD := woR p (deadG p)
def hopC (p : List InstrD) (j : Nat) : Prop := (ith p j).1 = 14 ∧ (ith p j).2.1 = 1
noncomputable def hopG (p : List InstrD) : List Bool := genR p.length fun j => pb (hopC p j)
noncomputable def hopsL (p : List InstrD) : List InstrD := woR p (hopG p)
theorem live_len {p : List InstrD} : (liveL p).length = p.length := genR_len
theorem q_deadP {p : List InstrD} (h : OkP p) : F_peep_dead (p, ()) = some (deadL p, ()) := by
  have hlen := h.len
  have hl := live_len (p := p)
  unfold F_peep_dead
  simp only [toPb]
  rw [q_liveP h, bind_t]
  dsimp only
  rw [need_pos ⟨by omega, by omega, by omega, by omega⟩, Int.toNat_natCast]
  simp only [List.length_replicate]
  refine loop_up p.length (fun i => (((i : Int), ()), gone (List.replicate p.length false) (fun j => !List.getD (liveL p) j false) i, liveL p, ())) rfl (fun i hi => ?_) ?_
  · have hg := gone_len (p := List.replicate p.length false) (f := fun j => !List.getD (liveL p) j false) (i := i) (by simp; omega)
    rw [List.length_replicate] at hg
    dsimp only
    simp only [Int.toNat_natCast, Nat.zero_add]
    rw [pos (by omega), need_pos ⟨by omega, by omega⟩, need_pos (by omega), need_pos ⟨by omega, by omega⟩, need_pos (by omega), need64 (by omega) (by omega), ← gone_set (by simpa using hi)]
    rfl
  · dsimp only
    have hall := gone_all (p := List.replicate p.length false) (f := fun j => !List.getD (liveL p) j false)
    rw [List.length_replicate] at hall
    rw [neg (by omega), hall, bind_id_some]
    refine map_inr ?_
    have := q_woP (g := deadG p) h genR_len
    unfold deadG at this
    rw [this]
    rfl
theorem q_deadR {p : List InstrD} (h : OkP p) : F_ref20_dead (p, ()) = some (deadL p, ()) := by
  have hlen := h.len
  have hl := live_len (p := p)
  unfold F_ref20_dead
  simp only [toPb]
  rw [q_liveR h, bind_t]
  dsimp only
  rw [need_pos ⟨by omega, by omega, by omega, by omega⟩, Int.toNat_natCast]
  refine loop_up p.length (fun i => (((i : Int), ()), gone (List.replicate p.length false) (fun j => !List.getD (liveL p) j false) i, liveL p, ())) rfl (fun i hi => ?_) ?_
  · have hg := gone_len (p := List.replicate p.length false) (f := fun j => !List.getD (liveL p) j false) (i := i) (by simp; omega)
    rw [List.length_replicate] at hg
    dsimp only
    simp only [Int.toNat_natCast, Nat.zero_add]
    rw [pos (by omega), need_pos ⟨by omega, by omega⟩, need_pos (by omega), need_pos ⟨by omega, by omega⟩, need_pos (by omega), need64 (by omega) (by omega), ← gone_set (by simpa using hi)]
    rfl
  · dsimp only
    have hall := gone_all (p := List.replicate p.length false) (f := fun j => !List.getD (liveL p) j false)
    rw [List.length_replicate] at hall
    rw [neg (by omega), hall, bind_id_some]
    refine map_inr ?_
    have := q_woQ (g := deadG p) h genR_len
    unfold deadG at this
    rw [this]
    rfl
theorem hop_bool {p : List InstrD} {i : Nat} : (sel (pb ((ith p i).1 = 14)) (some (pb ((ith p i).2.1 = 1))) (some false)) = some (pb (hopC p i)) := by
  by_cases h14 : (ith p i).1 = 14
  · rw [pos h14]
    congr 1
    rw [Bool.eq_iff_iff, pb_iff, pb_iff]
    exact ⟨fun h => ⟨h14, h⟩, fun h => h.2⟩
  · rw [neg h14, pb_f (fun h => h14 h.1)]
theorem q_hopsP {p : List InstrD} (h : OkP p) : F_peep_hops (p, ()) = some (hopsL p, ()) := by
  have hlen := h.len
  unfold F_peep_hops
  simp only [toPb]
  rw [need_pos ⟨by omega, by omega, by omega, by omega⟩, Int.toNat_natCast]
  refine loop_up p.length (fun i => (((i : Int), ()), gone (List.replicate p.length false) (fun j => pb (hopC p j)) i, ())) rfl (fun i hi => ?_) ?_
  · have hg := gone_len (p := List.replicate p.length false) (f := fun j => pb (hopC p j)) (i := i) (by simp; omega)
    rw [List.length_replicate] at hg
    dsimp only
    simp only [Int.toNat_natCast, Nat.zero_add, getD_ith]
    rw [pos (by omega), need_pos ⟨by omega, by omega⟩, hop_bool, bind_t, need_pos ⟨by omega, by omega⟩, need_pos (by omega), need64 (by omega) (by omega), ← gone_set (by simpa using hi)]
    rfl
  · dsimp only
    have hall := gone_all (p := List.replicate p.length false) (f := fun j => pb (hopC p j))
    rw [List.length_replicate] at hall
    rw [neg (by omega), hall, bind_id_some]
    refine map_inr ?_
    have := q_woP (g := hopG p) h genR_len
    unfold hopG at this
    rw [this]
    rfl
theorem q_hopsR {p : List InstrD} (h : OkP p) : F_ref20_hops (p, ()) = some (hopsL p, ()) := by
  have hlen := h.len
  unfold F_ref20_hops
  simp only [toPb]
  rw [need_pos ⟨by omega, by omega, by omega, by omega⟩, Int.toNat_natCast]
  refine loop_up p.length (fun i => (((i : Int), ()), gone (List.replicate p.length false) (fun j => pb (hopC p j)) i, ())) rfl (fun i hi => ?_) ?_
  · have hg := gone_len (p := List.replicate p.length false) (f := fun j => pb (hopC p j)) (i := i) (by simp; omega)
    rw [List.length_replicate] at hg
    dsimp only
    simp only [Int.toNat_natCast, Nat.zero_add, getD_ith]
    rw [pos (by omega), need_pos ⟨by omega, by omega⟩, need_pos ⟨by omega, by omega⟩, hop_bool, bind_t, need_pos ⟨by omega, by omega⟩, need_pos (by omega), need64 (by omega) (by omega), ← gone_set (by simpa using hi)]
    rfl
  · dsimp only
    have hall := gone_all (p := List.replicate p.length false) (f := fun j => pb (hopC p j))
    rw [List.length_replicate] at hall
    rw [neg (by omega), hall, bind_id_some]
    refine map_inr ?_
    have := q_woQ (g := hopG p) h genR_len
    unfold hopG at this
    rw [this]
    rfl
/-- What a pass over code tells. -/
def onR (p q : List InstrD) : Int × List InstrD × Unit := if (checkI p).2 = 0 then (0, q, ()) else ((checkI p).2, [], ())
theorem on_bind {p q : List InstrD} {m : Option (List InstrD × Unit)} (hm : OkP p → m = some (q, ())) :
    Option.bind (some ((checkI p).1, (checkI p).2, ())) (fun (y : shapeD) => sel (!pb (y.2.1 = (0 : Int))) (some (y.2.1, [], ())) (Option.bind m (fun (y1 : List InstrD × Unit) => some ((0 : Int), y1.1, ())))) = some (onR p q) := by
  rw [bind_t]
  dsimp only
  unfold onR
  by_cases h0 : (checkI p).2 = 0
  · rw [npos h0, hm (okP h0), if_pos h0]
    rfl
  · rw [nneg h0, if_neg h0]
theorem q_Tails (p : List InstrD) : F_peep_Tails (p, ()) = some (onR p (tailsL p)) := by
  unfold F_peep_Tails F_peep_on_tails
  simp only [toPb]
  rw [q_icheck, on_bind (q_tailsP ·)]
  rfl
theorem q_Threads (p : List InstrD) : F_peep_Threads (p, ()) = some (onR p (thrL p)) := by
  unfold F_peep_Threads F_peep_on_threads
  simp only [toPb]
  rw [q_icheck, on_bind (q_thrP ·)]
  rfl
theorem q_Dead (p : List InstrD) : F_peep_Dead (p, ()) = some (onR p (deadL p)) := by
  unfold F_peep_Dead F_peep_on_dead
  simp only [toPb]
  rw [q_icheck, on_bind (q_deadP ·)]
  rfl
theorem q_Hops (p : List InstrD) : F_peep_Hops (p, ()) = some (onR p (hopsL p)) := by
  unfold F_peep_Hops F_peep_on_hops
  simp only [toPb]
  rw [q_icheck, on_bind (q_hopsP ·)]
  rfl
theorem q_Tails20 (p : List InstrD) : F_ref20_Tails (p, ()) = some (onR p (tailsL p)) := by
  unfold F_ref20_Tails
  simp only [toPb]
  rw [q_icheckR, on_bind (q_tailsR ·)]
theorem q_Threads20 (p : List InstrD) : F_ref20_Threads (p, ()) = some (onR p (thrL p)) := by
  unfold F_ref20_Threads
  simp only [toPb]
  rw [q_icheckR, on_bind (q_thrR ·)]
theorem q_Dead20 (p : List InstrD) : F_ref20_Dead (p, ()) = some (onR p (deadL p)) := by
  unfold F_ref20_Dead
  simp only [toPb]
  rw [q_icheckR, on_bind (q_deadR ·)]
theorem q_Hops20 (p : List InstrD) : F_ref20_Hops (p, ()) = some (onR p (hopsL p)) := by
  unfold F_ref20_Hops
  simp only [toPb]
  rw [q_icheckR, on_bind (q_hopsR ·)]
/-! ### How long -/
theorem wo_len {p : List InstrD} {g : List Bool} : (woR p g).length ≤ p.length := by
  unfold woR
  rw [woL_len]
  exact stayN_le _
theorem onR_len {p q : List InstrD} (h : q.length ≤ p.length) : (onR p q).2.1.length ≤ p.length := by
  unfold onR
  split
  · exact h
  · simp
def liveP20 : List InstrD := [bareI 17, bareI 16]
theorem lives_reach {k : Nat} (h : Reach liveP20 k) : k = 0 := by
  induction h with
  | zero => rfl
  | step h1 h2 h3 ih =>
    subst ih
    have : waysL liveP20 0 = [] := by decide
    rw [this] at h3
    cases h3
theorem lives_dead : deadL liveP20 = [bareI 17] := by
  have : deadG liveP20 = [false, true] := by
    have h0 : liveL liveP20 = [true, false] := by
      show [pb (Reach liveP20 0), pb (Reach liveP20 1)] = _
      rw [pb_t Reach.zero, pb_f (fun h => by have := lives_reach h; omega)]
    unfold deadG
    rw [h0]
    rfl
  unfold deadL
  rw [this]
  rfl
theorem lives_check : (checkI liveP20).2 = 0 := by decide +kernel
theorem q_lives20 : F_law20_lives () = some (true, ()) := by
  unfold F_law20_lives
  simp only [toPb]
  rw [show [((17 : Int), (0 : Int), (0 : Int), (0 : Int), zStr, ((0 : Int), (0 : Int), (0 : Int), (0 : Int), ()), ()), ((16 : Int), (0 : Int), (0 : Int), (0 : Int), zStr, ((0 : Int), (0 : Int), (0 : Int), (0 : Int), ()), ())] = liveP20 from rfl, q_Dead, bind_t, lives_dead]
  unfold onR
  rw [if_pos lives_check]
  dsimp only
  rw [pos rfl, bind_t, pos (by decide), need_pos (by decide), need_pos (by decide), bind_t, pb_t (by decide)]
theorem tails_len {p : List InstrD} : (tailsL p).length = p.length := genR_len
theorem thr_len {p : List InstrD} : (thrL p).length = p.length := genR_len
theorem law_PeepTails (p : List InstrD) (h : p.length * 80 ≤ 140737488351232) : F_law20_PeepTails (p, ()) = some (true, ()) := by
  unfold F_law20_PeepTails
  simp only [toPb]
  have h1 := onR_len (p := p) (q := tailsL p) (Nat.le_of_eq tails_len)
  have h2 := onR_len (p := p) (q := thrL p) (Nat.le_of_eq thr_len)
  rw [q_lendC p (by omega), bind_t]
  simp only [lentI_take, List.length_append, List.length_cons, List.length_nil]
  simp (disch := omega) only [need_pos]
  rw [q_Tails, q_Tails20, q_Threads, q_Threads20, q_lives20]
  simp only [bind_t, sel_t]
  rw [q_sameC _ (by omega), q_sameC _ (by omega), q_keptC p (by omega)]
  simp only [bind_t, sel_t, pb_t]
theorem law_PeepDead (p : List InstrD) (h : p.length * 80 ≤ 140737488351232) : F_law20_PeepDead (p, ()) = some (true, ()) := by
  unfold F_law20_PeepDead
  simp only [toPb]
  have h1 := onR_len (p := p) (q := deadL p) wo_len
  have h2 := onR_len (p := p) (q := hopsL p) wo_len
  rw [q_lendC p (by omega), bind_t]
  simp only [lentI_take, List.length_append, List.length_cons, List.length_nil]
  simp (disch := omega) only [need_pos]
  rw [q_Dead, q_Dead20, q_Hops, q_Hops20, q_lives20]
  simp only [bind_t, sel_t]
  rw [q_sameC _ (by omega), q_sameC _ (by omega), q_keptC p (by omega)]
  simp only [bind_t, sel_t, pb_t]
end Go.Proofs
