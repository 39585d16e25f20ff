/- Part of the proof of the law's row: YtaghpbhnclclaaaDoorWq20j. -/
import Derived.Test.YtaghpbhnclclaaaDoorWq20e
set_option linter.all false
set_option linter.unusedVariables false
set_option linter.unusedSimpArgs false
/-! Chapter 16: what can be come to, by the book. -/
namespace Go.Proofs
open Go Go.Abs
theorem take_first {W : List Int} {o m : Nat} (h : o + (m + 1) ≤ W.length) : List.take (m + 1) (List.drop o W) = List.getD W o 0 :: List.take m (List.drop (o + 1) W) := by
  rw [List.drop_eq_getElem_cons (by omega), List.take_succ_cons, List.getD_eq_getElem?_getD, List.getElem?_eq_getElem (by omega)]
  rfl
structure LvI (p : List InstrD) (o n : Nat) (W : List Int) (out : List Bool) (b : Nat) (T : Option Nat) : Prop where
  len : o + n ≤ W.length
  outl : out.length = p.length
  cnt : n + cntF out + b ≤ p.length
  a : ∀ j, j < p.length → List.getD out j false = true → Reach p j
  w : ∀ k ∈ List.take n (List.drop o W), 0 ≤ k ∧ k < (p.length : Int) ∧ List.getD out k.toNat false = true
  z : List.getD out 0 false = true
  c : ∀ j, j < p.length → List.getD out j false = true → T = some j ∨ (j : Int) ∈ List.take n (List.drop o W) ∨ ∀ k ∈ waysL p j, List.getD out k.toNat false = true
theorem q_liveR {p : List InstrD} (h : OkP p) : F_ref16_Live (p, ()) = some (0, liveL p, ()) := by
  have hlen := h.len
  have hpos := h.pos
  unfold F_ref16_Live
  simp only [toPb]
  rw [q_icheckR, bind_t]
  dsimp only
  rw [okP_check h, npos rfl, need_pos ⟨by omega, by omega, by omega, by omega⟩, need_pos ⟨by omega, by simp; omega⟩, need_pos (by simp; omega)]
  refine loopC_run (I := fun s => LvI p s.1.1.1 s.1.1.2 s.2.1 s.2.2.1 0 none) (μ := fun s => s.1.1.2 + 2 * cntF s.2.2.1) (F := fun _ => (0, liveL p, ())) ?_ _ ?_
  · rintro ⟨⟨⟨o, n⟩, ⟨⟩⟩, W, out, ⟨⟩⟩ hI
    dsimp only at hI ⊢
    cases n with
    | zero =>
      right
      rw [neg (by simp)]
      rw [closed_live h hI.outl hI.a hI.z fun j hj ho k hk => by
        rcases hI.c j hj ho with h1 | h1 | h1
        · cases h1
        · simp at h1
        · exact h1 k hk]
    | succ m =>
      left
      have hl1 := hI.len
      have hw0 := hI.w
      rw [take_first hl1] at hw0
      generalize hT : List.getD W o 0 = T at *
      obtain ⟨hb0, hb1, hb2⟩ := hw0 T (by simp)
      have hTn : ((T.toNat : Nat) : Int) = T := by omega
      have hTl : T.toNat < p.length := by omega
      have hway : F_ref16_ways (p, T, ()) = some (waysL p T.toNat, ()) := by
        have := q_waysR h hTl
        rwa [hTn] at this
      have hw := ways_len (p := p) (i := T.toNat)
      rw [pos (by omega), need_pos ⟨by omega, by omega⟩, need_pos (by omega), hway, bind_t]
      dsimp only
      rw [need_pos ⟨by omega, by omega, by omega⟩, show Int.toNat ((m + 1 : Nat) : Int) - 1 = m by omega]
      generalize hL : waysL p T.toNat = L at *
      refine loopC_ex
        (I := fun s1 => ∃ i : Nat, s1.1.1 = (i : Int) ∧ i ≤ L.length ∧ s1.2.1 = L ∧ LvI p s1.1.2.1.1 s1.1.2.1.2 s1.2.2.1 s1.2.2.2.1 1 (some T.toNat) ∧ (∀ k ∈ List.take i L, List.getD s1.2.2.2.1 k.toNat false = true) ∧ s1.1.2.1.2 + 2 * cntF s1.2.2.2.1 ≤ m + 2 * cntF out)
        (μ := fun s1 => L.length - s1.1.1.toNat) ?_ ?_
      · rintro ⟨⟨i', ⟨o1, n1⟩, ⟨⟩⟩, L', W1, out1, ⟨⟩⟩ ⟨i, hi, hil, hLL, hJ, hdone, hmu⟩
        dsimp only at hi hil hLL hJ hdone hmu ⊢
        subst hi
        rw [hLL]
        clear hLL L'
        have hj1 := hJ.len
        have hj2 := hJ.outl
        have hj3 := hJ.cnt
        by_cases hlt : i < L.length
        · left
          rw [pos (by omega)]
          simp only [Int.toNat_natCast, Nat.zero_add, dropZ_eq, addZ_eq]
          have hkL : List.getD L i 0 ∈ L := by
            rw [List.getD_eq_getElem?_getD, List.getElem?_eq_getElem hlt]
            exact List.getElem_mem hlt
          have htk : List.take (i + 1) L = List.take i L ++ [List.getD L i 0] := take_top hlt
          generalize hK : List.getD L i 0 = K at *
          obtain ⟨hk0, hk1⟩ := ways_mem h hTl (by rw [hL]; exact hkL)
          rw [need_pos ⟨by omega, by omega⟩, need_pos (by omega), need_pos ⟨by omega, by omega⟩, need_pos (by omega)]
          cases hob : List.getD out1 K.toNat false with
          | true =>
            rw [Bool.not_true, sel_f, need64 (by omega) (by omega)]
            refine ⟨_, rfl, ⟨i + 1, by simp, hlt, rfl, hJ, ?_, hmu⟩, by dsimp only; omega⟩
            dsimp only
            rw [htk]
            intro k hk
            rcases List.mem_append.1 hk with hk | hk
            · exact hdone k hk
            · rw [List.mem_singleton.1 hk]
              exact hob
          | false =>
            have hcs := cntF_set (l := out1) (i := K.toNat) (by omega) hob
            have hwl : (List.take n1 (List.drop o1 W1)).length = n1 := by rw [List.length_take, List.length_drop]; omega
            rw [Bool.not_false, sel_t, need_pos ⟨by omega, by omega⟩, need_pos (by omega), need_pos ⟨by omega, by omega⟩, need_pos (by omega), need_pos ⟨by omega, by omega⟩, need_pos (by omega), need_pos ⟨by omega, by omega, by omega⟩, need64 (by omega) (by omega)]
            have hset : ∀ j, List.getD out1 j false = true → List.getD (List.set out1 K.toNat true) j false = true := by
              intro j hj
              rw [getD_set (by omega)]
              split
              · rfl
              · exact hj
            refine ⟨_, rfl, ⟨i + 1, by simp, hlt, rfl, ⟨?_, by simpa using hj2, ?_, ?_, ?_, hset 0 hJ.z, ?_⟩, ?_, ?_⟩, by dsimp only; omega⟩
            · simp
            · dsimp only
              rw [List.length_append, hwl, List.length_singleton]
              omega
            · intro j hj
              dsimp only
              rw [getD_set (by omega)]
              split
              · rename_i e1
                intro _
                rw [← e1]
                refine Reach.step (hI.a _ hTl hb2) hTl ?_
                rw [hL, show ((K.toNat : Nat) : Int) = K by omega]
                exact hkL
              · exact hJ.a j hj
            · dsimp only
              rw [List.drop_zero, List.take_length]
              intro k hk
              rcases List.mem_append.1 hk with hk | hk
              · have := hJ.w k hk
                exact ⟨this.1, this.2.1, hset _ this.2.2⟩
              · rw [List.mem_singleton.1 hk]
                exact ⟨hk0, hk1, by rw [getD_set (by omega), if_pos rfl]⟩
            · dsimp only
              rw [List.drop_zero, List.take_length]
              intro j hj ho
              by_cases hjK : K.toNat = j
              · right
                left
                rw [← hjK, show ((K.toNat : Nat) : Int) = K by omega]
                simp
              · rw [getD_set (by omega), if_neg hjK] at ho
                rcases hJ.c j hj ho with h1 | h1 | h1
                · exact .inl h1
                · exact .inr (.inl (List.mem_append_left _ h1))
                · exact .inr (.inr fun k hk => hset _ (h1 k hk))
            · dsimp only
              rw [htk]
              intro k hk
              rcases List.mem_append.1 hk with hk | hk
              · exact hset _ (hdone k hk)
              · rw [List.mem_singleton.1 hk, getD_set (by omega), if_pos rfl]
            · dsimp only
              rw [List.length_append, hwl, List.length_singleton]
              omega
        · right
          rw [neg (by omega)]
          refine ⟨_, rfl, ⟨hj1, hj2, by dsimp only; omega, hJ.a, hJ.w, hJ.z, ?_⟩, by dsimp only; omega, by trivial⟩
          intro j hj ho
          rcases hJ.c j hj ho with h1 | h1 | h1
          · injection h1 with h1
            right
            right
            intro k hk
            rw [← h1, hL] at hk
            rw [show i = L.length by omega, List.take_length] at hdone
            exact hdone k hk
          · exact .inr (.inl h1)
          · exact .inr (.inr h1)
      · refine ⟨0, rfl, Nat.zero_le _, rfl, ⟨by dsimp only; omega, hI.outl, by dsimp only; have := hI.cnt; omega, hI.a, fun k hk => hw0 k (List.mem_cons_of_mem _ hk), hI.z, fun j hj ho => ?_⟩, fun k hk => by simp at hk, Nat.le_refl _⟩
        rcases hI.c j hj ho with h1 | h1 | h1
        · cases h1
        · rw [take_first hl1, hT] at h1
          rcases List.mem_cons.1 h1 with h1 | h1
          · left
            rw [← h1, Int.toNat_natCast]
          · exact .inr (.inl h1)
        · exact .inr (.inr h1)
  · dsimp only
    have hrep : ∀ j, List.getD (List.replicate p.length false) j false = false := by
      intro j
      rw [List.getD_eq_getElem?_getD, List.getElem?_replicate]
      split <;> rfl
    rw [Int.toNat_natCast]
    have hcs := cntF_set (l := List.replicate p.length false) (i := 0) (by simpa using hpos) (hrep 0)
    rw [cntF_rep] at hcs
    have h00 : List.getD (List.set (List.replicate p.length false) 0 true) 0 false = true := by rw [getD_set (by simpa using hpos), if_pos rfl]
    refine ⟨Nat.le_refl _, by simp, by omega, ?_, ?_, h00, ?_⟩
    · intro j hj ho
      rw [getD_set (by simpa using hpos)] at ho
      split at ho
      · rename_i e; rw [← e]; exact Reach.zero
      · rw [hrep] at ho; cases ho
    · intro k hk
      have : k = 0 := by simpa using hk
      subst this
      exact ⟨by omega, by omega, h00⟩
    · intro j hj ho
      right
      left
      rw [getD_set (by simpa using hpos)] at ho
      split at ho
      · rename_i e; rw [← e]; simp
      · rw [hrep] at ho; cases ho
end Go.Proofs

/-! Chapter 20: the passes; the laws of one pass. -/
namespace Go.Proofs
open Go Go.Abs
noncomputable def deadG (p : List InstrD) : List Bool := genR p.length fun j => !List.getD (liveL p) j false
noncomputable def deadL (p : List InstrD) : List InstrD := woR p (deadG p)
def hopC (p : List InstrD) (j : Nat) : Prop := (ith p j).1 = 14 ∧ (ith p j).2.1 = 1
noncomputable def hopG (p : List InstrD) : List Bool := genR p.length fun j => pb (hopC p j)
noncomputable def hopsL (p : List InstrD) : List InstrD := woR p (hopG p)
theorem live_len {p : List InstrD} : (liveL p).length = p.length := genR_len
theorem q_deadP {p : List InstrD} (h : OkP p) : F_peep_dead (p, ()) = some (deadL p, ()) := by
  have hlen := h.len
  have hl := live_len (p := p)
  unfold F_peep_dead
  simp only [toPb]
  rw [q_liveP h, bind_t]
  dsimp only
  rw [need_pos ⟨by omega, by omega, by omega, by omega⟩, Int.toNat_natCast]
  simp only [List.length_replicate]
  refine loop_up p.length (fun i => (((i : Int), ()), gone (List.replicate p.length false) (fun j => !List.getD (liveL p) j false) i, liveL p, ())) rfl (fun i hi => ?_) ?_
  · have hg := gone_len (p := List.replicate p.length false) (f := fun j => !List.getD (liveL p) j false) (i := i) (by simp; omega)
    rw [List.length_replicate] at hg
    dsimp only
    simp only [Int.toNat_natCast, Nat.zero_add]
    rw [pos (by omega), need_pos ⟨by omega, by omega⟩, need_pos (by omega), need_pos ⟨by omega, by omega⟩, need_pos (by omega), need64 (by omega) (by omega), ← gone_set (by simpa using hi)]
    rfl
  · dsimp only
    have hall := gone_all (p := List.replicate p.length false) (f := fun j => !List.getD (liveL p) j false)
    rw [List.length_replicate] at hall
    rw [neg (by omega), hall, bind_id_some]
    refine map_inr ?_
    have := q_woP (g := deadG p) h genR_len
    unfold deadG at this
    rw [this]
    rfl
theorem q_deadR {p : List InstrD} (h : OkP p) : F_ref20_dead (p, ()) = some (deadL p, ()) := by
  have hlen := h.len
  have hl := live_len (p := p)
  unfold F_ref20_dead
  simp only [toPb]
  rw [q_liveR h, bind_t]
  dsimp only
  rw [need_pos ⟨by omega, by omega, by omega, by omega⟩, Int.toNat_natCast]
  refine loop_up p.length (fun i => (((i : Int), ()), gone (List.replicate p.length false) (fun j => !List.getD (liveL p) j false) i, liveL p, ())) rfl (fun i hi => ?_) ?_
  · have hg := gone_len (p := List.replicate p.length false) (f := fun j => !List.getD (liveL p) j false) (i := i) (by simp; omega)
    rw [List.length_replicate] at hg
    dsimp only
    simp only [Int.toNat_natCast, Nat.zero_add]
    rw [pos (by omega), need_pos ⟨by omega, by omega⟩, need_pos (by omega), need_pos ⟨by omega, by omega⟩, need_pos (by omega), need64 (by omega) (by omega), ← gone_set (by simpa using hi)]
    rfl
  · dsimp only
    have hall := gone_all (p := List.replicate p.length false) (f := fun j => !List.getD (liveL p) j false)
    rw [List.length_replicate] at hall
    rw [neg (by omega), hall, bind_id_some]
    refine map_inr ?_
    have := q_woQ (g := deadG p) h genR_len
    unfold deadG at this
    rw [this]
    rfl
theorem hop_bool {p : List InstrD} {i : Nat} : (sel (pb ((ith p i).1 = 14)) (some (pb ((ith p i).2.1 = 1))) (some false)) = some (pb (hopC p i)) := by
  by_cases h14 : (ith p i).1 = 14
  · rw [pos h14]
    congr 1
    rw [Bool.eq_iff_iff, pb_iff, pb_iff]
    exact ⟨fun h => ⟨h14, h⟩, fun h => h.2⟩
  · rw [neg h14, pb_f (fun h => h14 h.1)]
theorem q_hopsP {p : List InstrD} (h : OkP p) : F_peep_hops (p, ()) = some (hopsL p, ()) := by
  have hlen := h.len
  unfold F_peep_hops
  simp only [toPb]
  rw [need_pos ⟨by omega, by omega, by omega, by omega⟩, Int.toNat_natCast]
  refine loop_up p.length (fun i => (((i : Int), ()), gone (List.replicate p.length false) (fun j => pb (hopC p j)) i, ())) rfl (fun i hi => ?_) ?_
  · have hg := gone_len (p := List.replicate p.length false) (f := fun j => pb (hopC p j)) (i := i) (by simp; omega)
    rw [List.length_replicate] at hg
    dsimp only
    simp only [Int.toNat_natCast, Nat.zero_add, getD_ith]
    rw [pos (by omega), need_pos ⟨by omega, by omega⟩, hop_bool, bind_t, need_pos ⟨by omega, by omega⟩, need_pos (by omega), need64 (by omega) (by omega), ← gone_set (by simpa using hi)]
    rfl
  · dsimp only
    have hall := gone_all (p := List.replicate p.length false) (f := fun j => pb (hopC p j))
    rw [List.length_replicate] at hall
    rw [neg (by omega), hall, bind_id_some]
    refine map_inr ?_
    have := q_woP (g := hopG p) h genR_len
    unfold hopG at this
    rw [this]
    rfl
theorem q_hopsR {p : List InstrD} (h : OkP p) : F_ref20_hops (p, ()) = some (hopsL p, ()) := by
  have hlen := h.len
  unfold F_ref20_hops
  simp only [toPb]
  rw [need_pos ⟨by omega, by omega, by omega, by omega⟩, Int.toNat_natCast]
  refine loop_up p.length (fun i => (((i : Int), ()), gone (List.replicate p.length false) (fun j => pb (hopC p j)) i, ())) rfl (fun i hi => ?_) ?_
  · have hg := gone_len (p := List.replicate p.length false) (f := fun j => pb (hopC p j)) (i := i) (by simp; omega)
    rw [List.length_replicate] at hg
    dsimp only
    simp only [Int.toNat_natCast, Nat.zero_add, getD_ith]
    rw [pos (by omega), need_pos ⟨by omega, by omega⟩, need_pos ⟨by omega, by omega⟩, hop_bool, bind_t, need_pos ⟨by omega, by omega⟩, need_pos (by omega), need64 (by omega) (by omega), ← gone_set (by simpa using hi)]
    rfl
  · dsimp only
    have hall := gone_all (p := List.replicate p.length false) (f := fun j => pb (hopC p j))
    rw [List.length_replicate] at hall
    rw [neg (by omega), hall, bind_id_some]
    refine map_inr ?_
    have := q_woQ (g := hopG p) h genR_len
    unfold hopG at this
    rw [this]
    rfl
/-- What a pass over code tells. -/
def onR (p q : List InstrD) : Int × List InstrD × Unit := if (checkI p).2 = 0 then (0, q, ()) else ((checkI p).2, [], ())
theorem on_bind {p q : List InstrD} {m : Option (List InstrD × Unit)} (hm : OkP p → m = some (q, ())) :
    Option.bind (some ((checkI p).1, (checkI p).2, ())) (fun (y : shapeD) => sel (!pb (y.2.1 = (0 : Int))) (some (y.2.1, [], ())) (Option.bind m (fun (y1 : List InstrD × Unit) => some ((0 : Int), y1.1, ())))) = some (onR p q) := by
  rw [bind_t]
  dsimp only
  unfold onR
  by_cases h0 : (checkI p).2 = 0
  · rw [npos h0, hm (okP h0), if_pos h0]
    rfl
  · rw [nneg h0, if_neg h0]
theorem q_Tails (p : List InstrD) : F_peep_Tails (p, ()) = some (onR p (tailsL p)) := by
  unfold F_peep_Tails F_peep_on_tails
  simp only [toPb]
  rw [q_icheck, on_bind (q_tailsP ·)]
  rfl
theorem q_Threads (p : List InstrD) : F_peep_Threads (p, ()) = some (onR p (thrL p)) := by
  unfold F_peep_Threads F_peep_on_threads
  simp only [toPb]
  rw [q_icheck, on_bind (q_thrP ·)]
  rfl
theorem q_Dead (p : List InstrD) : F_peep_Dead (p, ()) = some (onR p (deadL p)) := by
  unfold F_peep_Dead F_peep_on_dead
  simp only [toPb]
  rw [q_icheck, on_bind (q_deadP ·)]
  rfl
theorem q_Hops (p : List InstrD) : F_peep_Hops (p, ()) = some (onR p (hopsL p)) := by
  unfold F_peep_Hops F_peep_on_hops
  simp only [toPb]
  rw [q_icheck, on_bind (q_hopsP ·)]
  rfl
theorem q_Tails20 (p : List InstrD) : F_ref20_Tails (p, ()) = some (onR p (tailsL p)) := by
  unfold F_ref20_Tails
  simp only [toPb]
  rw [q_icheckR, on_bind (q_tailsR ·)]
theorem q_Threads20 (p : List InstrD) : F_ref20_Threads (p, ()) = some (onR p (thrL p)) := by
  unfold F_ref20_Threads
  simp only [toPb]
  rw [q_icheckR, on_bind (q_thrR ·)]
theorem q_Dead20 (p : List InstrD) : F_ref20_Dead (p, ()) = some (onR p (deadL p)) := by
  unfold F_ref20_Dead
  simp only [toPb]
  rw [q_icheckR, on_bind (q_deadR ·)]
theorem q_Hops20 (p : List InstrD) : F_ref20_Hops (p, ()) = some (onR p (hopsL p)) := by
  unfold F_ref20_Hops
  simp only [toPb]
  rw [q_icheckR, on_bind (q_hopsR ·)]
/-! ### How long -/
theorem wo_len {p : List InstrD} {g : List Bool} : (woR p g).length ≤ p.length := by
  unfold woR
  rw [woL_len]
  exact stayN_le _
theorem onR_len {p q : List InstrD} (h : q.length ≤ p.length) : (onR p q).2.1.length ≤ p.length := by
  unfold onR
  split
  · exact h
  · simp
def liveP20 : List InstrD := [bareI 17, bareI 16]
theorem lives_reach {k : Nat} (h : Reach liveP20 k) : k = 0 := by
  induction h with
  | zero => rfl
  | step h1 h2 h3 ih =>
    subst ih
    have : waysL liveP20 0 = [] := by decide
    rw [this] at h3
    cases h3
theorem lives_dead : deadL liveP20 = [bareI 17] := by
  have : deadG liveP20 = [false, true] := by
    have h0 : liveL liveP20 = [true, false] := by
      show [pb (Reach liveP20 0), pb (Reach liveP20 1)] = _
      rw [pb_t Reach.zero, pb_f (fun h => by have := lives_reach h; omega)]
    unfold deadG
    rw [h0]
    rfl
  unfold deadL
  rw [this]
  rfl
theorem lives_check : (checkI liveP20).2 = 0 := by decide +kernel
theorem q_lives20 : F_law20_lives () = some (true, ()) := by
  unfold F_law20_lives
  simp only [toPb]
  rw [show [((17 : Int), (0 : Int), (0 : Int), (0 : Int), zStr, ((0 : Int), (0 : Int), (0 : Int), (0 : Int), ()), ()), ((16 : Int), (0 : Int), (0 : Int), (0 : Int), zStr, ((0 : Int), (0 : Int), (0 : Int), (0 : Int), ()), ())] = liveP20 from rfl, q_Dead, bind_t, lives_dead]
  unfold onR
  rw [if_pos lives_check]
  dsimp only
  rw [pos rfl, bind_t, pos (by decide), need_pos (by decide), need_pos (by decide), bind_t, pb_t (by decide)]
theorem tails_len {p : List InstrD} : (tailsL p).length = p.length := genR_len
theorem thr_len {p : List InstrD} : (thrL p).length = p.length := genR_len
theorem law_PeepTails (p : List InstrD) (h : p.length * 80 ≤ 140737488351232) : F_law20_PeepTails (p, ()) = some (true, ()) := by
  unfold F_law20_PeepTails
  simp only [toPb]
  have h1 := onR_len (p := p) (q := tailsL p) (Nat.le_of_eq tails_len)
  have h2 := onR_len (p := p) (q := thrL p) (Nat.le_of_eq thr_len)
  rw [q_lendC p (by omega), bind_t]
  simp only [lentI_take, List.length_append, List.length_cons, List.length_nil]
  simp (disch := omega) only [need_pos]
  rw [q_Tails, q_Tails20, q_Threads, q_Threads20, q_lives20]
  simp only [bind_t, sel_t]
  rw [q_sameC _ (by omega), q_sameC _ (by omega), q_keptC p (by omega)]
  simp only [bind_t, sel_t, pb_t]
theorem law_PeepDead (p : List InstrD) (h : p.length * 80 ≤ 140737488351232) : F_law20_PeepDead (p, ()) = some (true, ()) := by
  unfold F_law20_PeepDead
  simp only [toPb]
  have h1 := onR_len (p := p) (q := deadL p) wo_len
  have h2 := onR_len (p := p) (q := hopsL p) wo_len
  rw [q_lendC p (by omega), bind_t]
  simp only [lentI_take, List.length_append, List.length_cons, List.length_nil]
  simp (disch := omega) only [need_pos]
  rw [q_Dead, q_Dead20, q_Hops, q_Hops20, q_lives20]
  simp only [bind_t, sel_t]
  rw [q_sameC _ (by omega), q_sameC _ (by omega), q_keptC p (by omega)]
  simp only [bind_t, sel_t, pb_t]
end Go.Proofs

/-! Chapter 20: jumps that end, and jumps that do not. -/
namespace Go.Proofs
open Go Go.Abs
theorem pigeon : ∀ (n : Nat) (l : List Nat), l.Nodup → (∀ x ∈ l, x < n) → l.length ≤ n
  | 0, l, _, h => by
    cases l with
    | nil => exact Nat.le_refl _
    | cons x r => exact absurd (h x (by simp)) (by omega)
  | n + 1, l, hn, h => by
    have h1 := pigeon n (l.erase n) (hn.erase n) (fun x hx => by
      have := (hn.mem_erase_iff).1 hx
      have := h x this.2
      omega)
    rw [List.length_erase] at h1
    split at h1 <;> omega
/-- So many jumps on. -/
def nxP (p : List InstrD) : Nat → Nat → Nat
  | 0, a => a
  | k + 1, a => nxP p k (aimP p a)
theorem nxP_add {p : List InstrD} : ∀ (i j a : Nat), nxP p (i + j) a = nxP p j (nxP p i a)
  | 0, j, a => by rw [Nat.zero_add]; rfl
  | i + 1, j, a => by
    rw [Nat.succ_add]
    exact nxP_add i j (aimP p a)
def jumpP (p : List InstrD) (a : Nat) : Prop := (ith p a).1 = 14
/-- It ends there. -/
def Ends (p : List InstrD) (a m : Nat) : Prop := (∀ k, k < m → jumpP p (nxP p k a)) ∧ ¬ jumpP p (nxP p m a)
theorem nx_lt {p : List InstrD} (h : OkP p) : ∀ {k a : Nat}, a < p.length → (∀ j, j < k → jumpP p (nxP p j a)) → nxP p k a < p.length
  | 0, a, ha, _ => ha
  | k + 1, a, ha, hj => by
    show nxP p k (aimP p a) < p.length
    exact nx_lt (k := k) (a := aimP p a) h (aim_lt h ha (by have := hj 0 (by omega); rw [show (ith p a).1 = 14 from this]; exact goes_jump)).1 (fun j hjk => hj (j + 1) (by omega))
theorem ends_few {p : List InstrD} (h : OkP p) {a m : Nat} (ha : a < p.length) (he : Ends p a m) : m < p.length := by
  have hnd : ((List.range (m + 1)).map fun k => nxP p k a).Nodup := by
    unfold List.Nodup
    rw [List.pairwise_map]
    refine List.Pairwise.imp_of_mem ?_ (List.pairwise_lt_range (n := m + 1))
    intro i j hi hj hij e
    have hj := List.mem_range.1 hj
    have h1 : nxP p (i + (m - j)) a = nxP p (j + (m - j)) a := by rw [nxP_add, nxP_add, e]
    rw [show j + (m - j) = m by omega] at h1
    exact he.2 (by rw [← h1]; exact he.1 _ (by omega))
  have := pigeon p.length _ hnd (fun x hx => by
    obtain ⟨k, hk, rfl⟩ := List.mem_map.1 hx
    have hk := List.mem_range.1 hk
    exact nx_lt h ha fun j hj => he.1 j (by omega))
  rw [List.length_map, List.length_range] at this
  omega
theorem endF_some {p : List InstrD} : ∀ {f a t : Nat}, endF p f a = some t → ∃ m, m ≤ f ∧ Ends p a m ∧ nxP p m a = t
  | 0, a, t, e => by
    unfold endF at e
    split at e
    · cases e
    · rename_i h1
      cases e
      exact ⟨0, Nat.le_refl _, ⟨fun k hk => by omega, h1⟩, rfl⟩
  | f + 1, a, t, e => by
    unfold endF at e
    split at e
    · rename_i h1
      obtain ⟨m, h2, h3, h4⟩ := endF_some e
      refine ⟨m + 1, by omega, ⟨fun k hk => ?_, h3.2⟩, h4⟩
      cases k with
      | zero => exact h1
      | succ k => exact h3.1 k (by omega)
    · rename_i h1
      cases e
      exact ⟨0, by omega, ⟨fun k hk => by omega, h1⟩, rfl⟩
theorem endF_of {p : List InstrD} : ∀ {m f a : Nat}, Ends p a m → m ≤ f → endF p f a = some (nxP p m a)
  | 0, f, a, h, _ => by
    have : ¬ (ith p a).1 = 14 := h.2
    cases f <;> (unfold endF; rw [if_neg this]; rfl)
  | m + 1, 0, a, h, hf => by omega
  | m + 1, f + 1, a, h, hf => by
    have h1 : (ith p a).1 = 14 := h.1 0 (by omega)
    unfold endF
    rw [if_pos h1]
    exact endF_of (m := m) ⟨fun k hk => h.1 (k + 1) (by omega), h.2⟩ (by omega)
/-- The end with as many steps as there may be. -/
theorem endF_none {p : List InstrD} (h : OkP p) {f a : Nat} (ha : a < p.length) (hf : p.length ≤ f) : endF p f a = none ↔ ∀ k, jumpP p (nxP p k a) := by
  constructor
  · intro hn
    have : ∀ n k, k < n → jumpP p (nxP p k a) := by
      intro n
      induction n with
      | zero => intro k hk; omega
      | succ n ih =>
        intro k hk
        refine Classical.byContradiction fun hj => ?_
        have hk' : k = n := by
          rcases Nat.lt_or_ge k n with h1 | h1
          · exact absurd (ih k h1) hj
          · omega
        subst hk'
        have he : Ends p a k := ⟨ih, hj⟩
        have := ends_few h ha he
        rw [endF_of he (by omega)] at hn
        cases hn
    exact fun k => this (k + 1) k (by omega)
  · intro hk
    cases he : endF p f a with
    | none => rfl
    | some t =>
      obtain ⟨m, _, h2, _⟩ := endF_some he
      exact absurd (hk m) h2.2
theorem genR_ith {n i : Nat} {f : Nat → InstrD} (h : i < n) : ith (genR n f) i = f i := genR_get h
theorem thr_ith {p : List InstrD} {i : Nat} (h : i < p.length) : ith (thrL p) i = thrX p i := genR_ith h
theorem tails_ith {p : List InstrD} {i : Nat} (h : i < p.length) : ith (tailsL p) i = tailX p i := genR_ith h
/-! ### Right code stays right -/
theorem fits_jump {r : Int × Int × Int × ByteArray × SetD × Unit} (h : fitsB (15, r) = true) : fitsB (14, r) = true := by
  unfold fitsB at h ⊢
  rw [Bool.and_eq_true] at h ⊢
  refine ⟨?_, rfl⟩
  have e := eqI_iff.1 h.1
  obtain ⟨a, b, n, t, s, ⟨⟩⟩ := r
  have e2 : plainI (15, a, b, n, t, s, ()) = (15, a, 0, 0, zStr, (0, 0, 0, 0, ()), ()) := by kernel_rfl
  have e3 : plainI (14, a, b, n, t, s, ()) = (14, a, 0, 0, zStr, (0, 0, 0, 0, ()), ()) := by kernel_rfl
  rw [e2] at e
  rw [eqI_iff, e3]
  simp only [Prod.mk.injEq, true_and] at e
  rw [e.1, e.2.1, e.2.2.1, e.2.2.2.1]
theorem ok_tails {p : List InstrD} (h : OkP p) : OkP (tailsL p) := by
  have hl := tails_len (p := p)
  have hX : ∀ i, i < p.length → isB (tailX p i).1 = true ∧ fitsB (tailX p i) = true ∧ (goesB (tailX p i).1 = true → goesB (ith p i).1 = true) ∧ (tailX p i).2.1 = (ith p i).2.1 := by
    intro i hi
    unfold tailX
    split
    · rename_i hc
      have hf := h.fits i hi
      have h15 : (ith p i).1 = 15 := hc.1
      refine ⟨rfl, fits_jump ?_, fun _ => by rw [h15]; decide, rfl⟩
      have : ith p i = (15, (ith p i).2) := Prod.ext h15 rfl
      rwa [this] at hf
    · exact ⟨h.is_ i hi, h.fits i hi, fun h => h, rfl⟩
  refine ⟨by rw [hl]; exact h.len, by rw [hl]; exact h.pos, fun i hi => ?_, fun i hi => ?_, fun i hi => ?_, ?_⟩
  · rw [hl] at hi
    rw [tails_ith hi]
    exact (hX i hi).1
  · rw [hl] at hi
    rw [tails_ith hi]
    exact (hX i hi).2.1
  · rw [hl] at hi ⊢
    rw [tails_ith hi]
    intro hg
    rw [(hX i hi).2.2.2]
    exact h.aim i hi ((hX i hi).2.2.1 hg)
  · have := h.pos
    rw [hl, tails_ith (by omega)]
    unfold tailX
    split
    · rfl
    · exact h.last
theorem stop_ok {op : Int} (h : stopB op) : isB op = true ∧ fitsB (bareI op) = true ∧ onB op = false ∧ goesB op = false := by
  rcases h with rfl | rfl | rfl | rfl <;> exact ⟨by decide, by decide +kernel, by decide, by decide⟩
/-- What a member becomes. -/
theorem thr_cases {p : List InstrD} (h : OkP p) {i : Nat} (hi : i < p.length) :
    (thrX p i = ith p i ∧ (goesB (ith p i).1 = true → ∀ k, jumpP p (nxP p k (aimP p i)))) ∨
    ∃ t, goesB (ith p i).1 = true ∧ endF p (p.length + 1) (aimP p i) = some t ∧ t < p.length ∧ ¬ jumpP p t ∧
      (((ith p i).1 = 14 ∧ stopB (ith p t).1 ∧ thrX p i = bareI (ith p t).1) ∨ (¬ ((ith p i).1 = 14 ∧ stopB (ith p t).1) ∧ thrX p i = ((ith p i).1, (t : Int) - (i : Int), (ith p i).2.2))) := by
  by_cases hg : goesB (ith p i).1 = true
  · have ha := (aim_lt h hi hg).1
    cases he : endF p (p.length + 1) (aimP p i) with
    | none =>
      left
      refine ⟨?_, fun _ => (endF_none h ha (by omega)).1 he⟩
      unfold thrX
      rw [if_pos hg, he]
    | some t =>
      right
      obtain ⟨h1, h2⟩ := end_lt h ha he
      refine ⟨t, hg, rfl, h1, h2, ?_⟩
      unfold thrX
      rw [if_pos hg, he]
      dsimp only
      by_cases hc : (ith p i).1 = 14 ∧ stopB (ith p t).1
      · left
        rw [if_pos hc]
        exact ⟨hc.1, hc.2, rfl⟩
      · right
        rw [if_neg hc]
        exact ⟨hc, rfl⟩
  · left
    refine ⟨?_, fun h => absurd h hg⟩
    unfold thrX
    rw [if_neg hg]
theorem thr_op {p : List InstrD} (h : OkP p) {i : Nat} (hi : i < p.length) : (thrX p i).1 = (ith p i).1 ∨ ((ith p i).1 = 14 ∧ stopB (thrX p i).1) := by
  rcases thr_cases h hi with ⟨h1, _⟩ | ⟨t, _, _, _, _, ⟨h1, h2, h3⟩ | ⟨_, h3⟩⟩
  · rw [h1]; exact .inl rfl
  · rw [h3]; exact .inr ⟨h1, h2⟩
  · rw [h3]; exact .inl rfl
theorem ok_thr {p : List InstrD} (h : OkP p) : OkP (thrL p) := by
  have hl := thr_len (p := p)
  refine ⟨by rw [hl]; exact h.len, by rw [hl]; exact h.pos, fun i hi => ?_, fun i hi => ?_, fun i hi => ?_, ?_⟩
  · rw [hl] at hi
    rw [thr_ith hi]
    rcases thr_op h hi with h1 | h1
    · rw [h1]; exact h.is_ i hi
    · exact (stop_ok h1.2).1
  · rw [hl] at hi
    rw [thr_ith hi]
    rcases thr_cases h hi with ⟨h1, _⟩ | ⟨t, hg, _, _, _, ⟨h1, h2, h3⟩ | ⟨_, h3⟩⟩
    · rw [h1]; exact h.fits i hi
    · rw [h3]; exact (stop_ok h2).2.1
    · rw [h3, fits_target hg]; exact h.fits i hi
  · rw [hl] at hi ⊢
    rw [thr_ith hi]
    intro hg
    rcases thr_cases h hi with ⟨h1, _⟩ | ⟨t, hg', _, ht, _, ⟨h1, h2, h3⟩ | ⟨_, h3⟩⟩
    · rw [h1] at hg ⊢; exact h.aim i hi hg
    · rw [h3] at hg
      exact absurd hg (by rw [show (bareI (ith p t).1).1 = (ith p t).1 from rfl, (stop_ok h2).2.2.2]; simp)
    · rw [h3]
      dsimp only
      omega
  · have := h.pos
    rw [hl, thr_ith (by omega)]
    rcases thr_op h (show p.length - 1 < p.length by omega) with h1 | h1
    · rw [h1]; exact h.last
    · exact (stop_ok h1.2).2.2.1
/-! ### Threads twice -/
theorem jump_thr {p : List InstrD} (h : OkP p) {i : Nat} (hi : i < p.length) (hn : ¬ jumpP p i) : ¬ jumpP (thrL p) i := by
  unfold jumpP
  rw [thr_ith hi]
  rcases thr_op h hi with h1 | h1
  · rw [h1]; exact hn
  · exact absurd h1.1 hn
theorem endless_thr {p : List InstrD} (h : OkP p) : ∀ k {a : Nat}, a < p.length → (∀ k, jumpP p (nxP p k a)) → jumpP (thrL p) (nxP (thrL p) k a)
  | k, a, ha, hj => by
    have h14 : (ith p a).1 = 14 := hj 0
    have hg : goesB (ith p a).1 = true := by rw [h14]; exact goes_jump
    have haim := (aim_lt h ha hg).1
    have hn : endF p (p.length + 1) (aimP p a) = none := (endF_none h haim (by omega)).2 fun k => hj (k + 1)
    have hx : thrX p a = ith p a := by
      unfold thrX
      rw [if_pos hg, hn]
    have he : ith (thrL p) a = ith p a := by rw [thr_ith ha, hx]
    cases k with
    | zero =>
      show (ith (thrL p) a).1 = 14
      rw [he]; exact h14
    | succ k =>
      show jumpP (thrL p) (nxP (thrL p) k (aimP (thrL p) a))
      have : aimP (thrL p) a = aimP p a := by unfold aimP; rw [he]
      rw [this]
      exact endless_thr h k haim fun k => hj (k + 1)
theorem thr_twice {p : List InstrD} (h : OkP p) : thrL (thrL p) = thrL p := by
  have hq := ok_thr h
  have hl := thr_len (p := p)
  unfold thrL
  rw [genR_len]
  refine genR_ext fun i hi => ?_
  show thrX (thrL p) i = thrX p i
  have e := thr_ith (p := p) hi
  rcases thr_cases h hi with ⟨h1, h2⟩ | ⟨t, hg, _, ht, hnj, ⟨h1, h2, h3⟩ | ⟨hc, h3⟩⟩
  · rw [h1] at e ⊢
    by_cases hg : goesB (ith p i).1 = true
    · have haim := (aim_lt h hi hg).1
      have ea : aimP (thrL p) i = aimP p i := by unfold aimP; rw [e]
      have hn : endF (thrL p) ((thrL p).length + 1) (aimP (thrL p) i) = none := by
        rw [ea]
        exact (endF_none hq (by rw [hl]; exact haim) (by omega)).2 fun k => endless_thr h k haim (h2 hg)
      unfold thrX
      rw [e, if_pos hg, hn]
    · unfold thrX
      rw [e, if_neg hg]
  · rw [h3] at e ⊢
    have : goesB (ith (thrL p) i).1 = false := by rw [e]; exact (stop_ok h2).2.2.2
    unfold thrX
    rw [if_neg (by rw [this]; simp), e]
  · rw [h3] at e ⊢
    have hgq : goesB (ith (thrL p) i).1 = true := by rw [e]; exact hg
    have ea : aimP (thrL p) i = t := by
      unfold aimP
      rw [e]
      dsimp only
      omega
    have hnq := jump_thr h ht hnj
    have hn : endF (thrL p) ((thrL p).length + 1) (aimP (thrL p) i) = some t := by
      rw [ea]
      unfold endF
      rw [if_neg (show ¬ (ith (thrL p) t).1 = 14 from hnq)]
    have hop : (ith (thrL p) t).1 = (ith p t).1 := by
      rw [thr_ith ht]
      exact (thr_op h ht).resolve_right fun hh => hnj hh.1
    unfold thrX
    rw [if_pos hgq, hn]
    dsimp only
    rw [e, hop, if_neg hc]
end Go.Proofs

/-! Chapter 20: code from which something is taken away. -/
namespace Go.Proofs
open Go Go.Abs
/-- Where a member of what stays comes from. -/
theorem wo_from {p : List InstrD} {g : List Bool} : ∀ {n k : Nat}, k < stayN g n → ∃ i, i < n ∧ List.getD g i false = false ∧ stayN g i = k ∧ ith (woL p g n) k = woX p g i
  | 0, k, h => by simp [stayN] at h
  | n + 1, k, h => by
    have hwl := woL_len (p := p) (g := g) n
    by_cases hk : k < stayN g n
    · obtain ⟨i, h1, h2, h3, h4⟩ := wo_from (p := p) hk
      refine ⟨i, by omega, h2, h3, ?_⟩
      rw [← h4, wo_succ]
      unfold ith
      rw [List.getD_eq_getElem?_getD, List.getElem?_append_left (by omega), ← List.getD_eq_getElem?_getD]
    · have h : k < stayN g n + (if List.getD g n false = true then 0 else 1) := h
      cases hg : List.getD g n false with
      | true => rw [hg] at h; simp at h; omega
      | false =>
        rw [hg] at h
        have h : k < stayN g n + 1 := h
        refine ⟨n, by omega, hg, by omega, ?_⟩
        rw [wo_succ, hg, if_neg (by simp)]
        unfold ith
        rw [List.getD_eq_getElem?_getD, List.getElem?_append_right (by omega), hwl, show k - stayN g n = 0 by omega]
        rfl
theorem stayN_step {g : List Bool} {i : Nat} (h : List.getD g i false = false) : stayN g (i + 1) = stayN g i + 1 := by
  show stayN g i + _ = _
  rw [h]
  rfl
theorem stayN_lt {g : List Bool} {i j n : Nat} (hij : i ≤ j) (hjn : j < n) (h : List.getD g j false = false) : stayN g i < stayN g n := by
  have h1 := stayN_mono (g := g) (i := i) (j - i)
  have h2 := stayN_mono (g := g) (i := j + 1) (n - (j + 1))
  rw [show i + (j - i) = j by omega] at h1
  rw [show j + 1 + (n - (j + 1)) = n by omega, stayN_step h] at h2
  omega
theorem stayN_inj {g : List Bool} {i j : Nat} (hi : List.getD g i false = false) (hij : i < j) : stayN g i < stayN g j := stayN_lt (Nat.le_refl i) hij hi
theorem woX_op {p : List InstrD} {g : List Bool} {i : Nat} : (woX p g i).1 = (ith p i).1 := by unfold woX; split <;> rfl
theorem ok_wo {p : List InstrD} {g : List Bool} (h : OkP p) (hk : ∀ i, i < p.length → List.getD g i false = false → goesB (ith p i).1 = true → ∃ j, aimP p i ≤ j ∧ j < p.length ∧ List.getD g j false = false) (h0 : ∃ j, j < p.length ∧ List.getD g j false = false)
    (hl : ∀ i, i < p.length → List.getD g i false = false → (∀ j, i < j → j < p.length → List.getD g j false = true) → onB (ith p i).1 = false) : OkP (woR p g) := by
  have hwl : (woR p g).length = stayN g p.length := woL_len _
  have hle := stayN_le (g := g) p.length
  have hpos : 0 < stayN g p.length := by
    obtain ⟨j, h1, h2⟩ := h0
    exact Nat.lt_of_le_of_lt (Nat.zero_le _) (stayN_lt (Nat.le_refl j) h1 h2)
  refine ⟨by have := h.len; omega, by omega, fun k hkl => ?_, fun k hkl => ?_, fun k hkl => ?_, ?_⟩
  · obtain ⟨i, h1, h2, h3, h4⟩ := wo_from (p := p) (g := g) (n := p.length) (k := k) (by omega)
    rw [show ith (woR p g) k = woX p g i from h4, woX_op]
    exact h.is_ i h1
  · obtain ⟨i, h1, h2, h3, h4⟩ := wo_from (p := p) (g := g) (n := p.length) (k := k) (by omega)
    rw [show ith (woR p g) k = woX p g i from h4]
    unfold woX
    split
    · rename_i hg
      rw [fits_target hg]
      exact h.fits i h1
    · exact h.fits i h1
  · obtain ⟨i, h1, h2, h3, h4⟩ := wo_from (p := p) (g := g) (n := p.length) (k := k) (by omega)
    rw [show ith (woR p g) k = woX p g i from h4, woX_op]
    intro hg
    obtain ⟨j, j1, j2, j3⟩ := hk i h1 h2 hg
    have := stayN_lt j1 j2 j3
    unfold woX
    rw [if_pos hg]
    dsimp only
    omega
  · obtain ⟨i, h1, h2, h3, h4⟩ := wo_from (p := p) (g := g) (n := p.length) (k := stayN g p.length - 1) (by omega)
    rw [hwl, show ith (woR p g) (stayN g p.length - 1) = woX p g i from h4, woX_op]
    refine hl i h1 h2 fun j hij hjn => ?_
    refine Classical.byContradiction fun hj => ?_
    have hj : List.getD g j false = false := by simpa using hj
    have e1 := stayN_inj h2 hij
    have e2 := stayN_lt (Nat.le_refl j) hjn hj
    omega
theorem dead_get {p : List InstrD} {i : Nat} (hi : i < p.length) : List.getD (deadG p) i false = false ↔ Reach p i := by
  unfold deadG
  rw [genR_get hi]
  unfold liveL
  rw [genR_get hi, Bool.not_eq_false', pb_iff]
theorem aim_way {p : List InstrD} (h : OkP p) {i : Nat} (hi : i < p.length) (hg : goesB (ith p i).1 = true) : ((aimP p i : Nat) : Int) ∈ waysL p i := by
  obtain ⟨h1, h2⟩ := aim_lt h hi hg
  rw [h2]
  unfold waysL
  by_cases h3 : (ith p i).2.1 < 1
  · rw [if_pos ⟨hg, h3⟩]; simp
  · by_cases h4 : (ith p i).2.1 > 1 ∨ ((ith p i).2.1 = 1 ∧ onB (ith p i).1 = false)
    · rw [if_pos (c := goesB (ith p i).1 = true ∧ _) ⟨hg, h4⟩]; simp
    · have h5 : (ith p i).2.1 = 1 := Classical.byContradiction fun hne => h4 (.inl (by omega))
      have hon : onB (ith p i).1 = true := by
        cases ho : onB (ith p i).1 with
        | true => rfl
        | false => exact absurd (.inr ⟨h5, ho⟩) h4
      rw [if_pos hon, h5]; simp
theorem ok_dead {p : List InstrD} (h : OkP p) : OkP (deadL p) := by
  refine ok_wo h (fun i hi hg hgo => ?_) ⟨0, h.pos, (dead_get h.pos).2 .zero⟩ (fun i hi hg hall => ?_)
  · obtain ⟨h1, h2⟩ := aim_lt h hi hgo
    exact ⟨aimP p i, Nat.le_refl _, h1, (dead_get h1).2 (.step ((dead_get hi).1 hg) hi (aim_way h hi hgo))⟩
  · cases ho : onB (ith p i).1 with
    | false => rfl
    | true =>
      exfalso
      have hn := call_next h hi ho
      have hr : Reach p (i + 1) := .step ((dead_get hi).1 hg) hi (by unfold waysL; rw [if_pos ho]; simp)
      have := hall (i + 1) (by omega) hn
      rw [(dead_get hn).2 hr] at this
      cases this
theorem hop_get {p : List InstrD} {i : Nat} (hi : i < p.length) : List.getD (hopG p) i false = false ↔ ¬ hopC p i := by
  unfold hopG
  rw [genR_get hi, pb_iff_f]
theorem hop_last {p : List InstrD} (h : OkP p) : ¬ hopC p (p.length - 1) := by
  rintro ⟨h1, h2⟩
  have hpos := h.pos
  have := h.aim (p.length - 1) (by omega) (by rw [h1]; exact goes_jump)
  omega
theorem ok_hops {p : List InstrD} (h : OkP p) : OkP (hopsL p) := by
  have hpos := h.pos
  have hlast : List.getD (hopG p) (p.length - 1) false = false := (hop_get (by omega)).2 (hop_last h)
  refine ok_wo h (fun i hi hg hgo => ?_) ⟨p.length - 1, by omega, hlast⟩ (fun i hi hg hall => ?_)
  · obtain ⟨h1, h2⟩ := aim_lt h hi hgo
    exact ⟨p.length - 1, by omega, by omega, hlast⟩
  · by_cases he : i = p.length - 1
    · rw [he]; exact h.last
    · have := hall (p.length - 1) (by omega) (by omega)
      rw [hlast] at this
      cases this
/-! ### Nothing is taken away -/
theorem stayN_all {g : List Bool} {n : Nat} (h : ∀ i, i < n → List.getD g i false = false) : ∀ i, i ≤ n → stayN g i = i
  | 0, _ => rfl
  | i + 1, hi => by rw [stayN_step (h i (by omega)), stayN_all h i (by omega)]
theorem wo_same {p : List InstrD} {g : List Bool} (hp : OkP p) (h : ∀ i, i < p.length → List.getD g i false = false) : woR p g = p := by
  have hs := stayN_all h
  have key : ∀ i, i ≤ p.length → woL p g i = List.take i p := by
    intro i
    induction i with
    | zero => intro _; rfl
    | succ i ih =>
      intro hi
      rw [wo_succ, h i (by omega), if_neg (by simp), ih (by omega), take_ith (by omega)]
      congr 2
      unfold woX
      split
      · rename_i hg
        obtain ⟨h1, h2⟩ := aim_lt hp (show i < p.length by omega) hg
        rw [hs _ (by omega), hs _ (by omega)]
        have : ((aimP p i : Nat) : Int) - (i : Int) = (ith p i).2.1 := by omega
        rw [this]
      · rfl
  have := key p.length (Nat.le_refl _)
  rwa [List.take_length] at this
theorem stayN_some {g : List Bool} {n : Nat} : stayN g n = n → ∀ i, i < n → List.getD g i false = false := by
  induction n with
  | zero => intro _ i hi; omega
  | succ n ih =>
    intro h i hi
    have h : stayN g n + (if List.getD g n false = true then 0 else 1) = n + 1 := h
    have hle := stayN_le (g := g) n
    cases hg : List.getD g n false with
    | true => rw [hg] at h; simp at h; omega
    | false =>
      rw [hg] at h
      have h : stayN g n + 1 = n + 1 := h
      rcases Nat.lt_or_ge i n with h1 | h1
      · exact ih (by omega) i h1
      · rw [show i = n by omega]; exact hg
theorem wo_full {p : List InstrD} {g : List Bool} (hp : OkP p) (h : (woR p g).length = p.length) : woR p g = p ∧ ∀ i, i < p.length → List.getD g i false = false := by
  have h1 := stayN_some (g := g) (n := p.length) (by rw [← woL_len (p := p)]; exact h)
  exact ⟨wo_same hp h1, h1⟩
theorem dead_len {p : List InstrD} : (deadL p).length ≤ p.length := wo_len
theorem hops_len {p : List InstrD} : (hopsL p).length ≤ p.length := wo_len
/-! ### A pass -/
noncomputable def jumpsL (p : List InstrD) : List InstrD := hopsL (deadL (thrL p))
noncomputable def passL (t j : Bool) (p : List InstrD) : List InstrD := if j = true then jumpsL (if t = true then tailsL p else p) else (if t = true then tailsL p else p)
theorem ok_jumps {p : List InstrD} (h : OkP p) : OkP (jumpsL p) := ok_hops (ok_dead (ok_thr h))
theorem ok_tail {t : Bool} {p : List InstrD} (h : OkP p) : OkP (if t = true then tailsL p else p) := by
  split
  · exact ok_tails h
  · exact h
theorem ok_pass {t j : Bool} {p : List InstrD} (h : OkP p) : OkP (passL t j p) := by
  unfold passL
  split
  · exact ok_jumps (ok_tail h)
  · exact ok_tail h
theorem tail_len {t : Bool} {p : List InstrD} : (if t = true then tailsL p else p).length = p.length := by
  split
  · exact tails_len
  · rfl
theorem jumps_len {p : List InstrD} : (jumpsL p).length ≤ p.length := by
  have h1 := hops_len (p := deadL (thrL p))
  have h2 := dead_len (p := thrL p)
  have h3 := thr_len (p := p)
  unfold jumpsL
  omega
theorem pass_len {t j : Bool} {p : List InstrD} : (passL t j p).length ≤ p.length := by
  unfold passL
  split
  · have := jumps_len (p := if t = true then tailsL p else p)
    rw [tail_len] at this
    exact this
  · rw [tail_len]; exact Nat.le_refl _
theorem jumps_full {p : List InstrD} (h : OkP p) (hl : (jumpsL p).length = p.length) : jumpsL p = thrL p ∧ (∀ i, i < p.length → Reach (thrL p) i) ∧ ∀ i, i < p.length → ¬ hopC (thrL p) i := by
  have h1 := hops_len (p := deadL (thrL p))
  have h2 := dead_len (p := thrL p)
  have h3 := thr_len (p := p)
  have hl : (hopsL (deadL (thrL p))).length = p.length := hl
  obtain ⟨d1, d2⟩ := wo_full (g := deadG (thrL p)) (ok_thr h) (by show (deadL (thrL p)).length = _; omega)
  have d1 : deadL (thrL p) = thrL p := d1
  unfold jumpsL
  rw [d1] at hl ⊢
  obtain ⟨e1, e2⟩ := wo_full (g := hopG (thrL p)) (ok_thr h) (by show (hopsL (thrL p)).length = _; omega)
  refine ⟨e1, fun i hi => (dead_get (by omega)).1 (d2 i (by omega)), fun i hi => (hop_get (by omega)).1 (e2 i (by omega))⟩
/-! ### Calls -/
def callN : List InstrD → Nat
  | [] => 0
  | x :: r => (if x.1 = 15 then 1 else 0) + callN r
theorem callN_le : ∀ p : List InstrD, callN p ≤ p.length
  | [] => Nat.le_refl _
  | x :: r => by
    have := callN_le r
    show (if x.1 = 15 then 1 else 0) + callN r ≤ r.length + 1
    split <;> omega
theorem callN_mono : ∀ {p q : List InstrD}, p.length = q.length → (∀ i, i < p.length → (ith q i).1 = 15 → (ith p i).1 = 15) → callN q ≤ callN p ∧ ((∃ i, i < p.length ∧ (ith p i).1 = 15 ∧ ¬ (ith q i).1 = 15) → callN q < callN p)
  | [], [], _, _ => ⟨Nat.le_refl _, fun ⟨i, hi, _⟩ => by simp at hi⟩
  | x :: p, y :: q, hl, h => by
    obtain ⟨h1, h2⟩ := callN_mono (p := p) (q := q) (by simpa using hl) (fun i hi => h (i + 1) (by simp; omega))
    have h0 : y.1 = 15 → x.1 = 15 := h 0 (by simp)
    constructor
    · show (if y.1 = 15 then 1 else 0) + callN q ≤ (if x.1 = 15 then 1 else 0) + callN p
      split
      · rename_i hy; rw [if_pos (h0 hy)]; omega
      · omega
    · rintro ⟨i, hi, a, b⟩
      show (if y.1 = 15 then 1 else 0) + callN q < (if x.1 = 15 then 1 else 0) + callN p
      cases i with
      | zero =>
        have a : x.1 = 15 := a
        have b : ¬ y.1 = 15 := b
        rw [if_pos a, if_neg b]
        omega
      | succ i =>
        have := h2 ⟨i, by simpa using hi, a, b⟩
        split
        · rename_i hy; rw [if_pos (h0 hy)]; omega
        · omega
  | [], _ :: _, hl, _ => by simp at hl
  | _ :: _, [], hl, _ => by simp at hl
theorem list_ext {p q : List InstrD} (hl : p.length = q.length) (h : ∀ i, i < p.length → ith p i = ith q i) : p = q := by
  apply List.ext_getElem hl
  intro i h1 h2
  have := h i h1
  unfold ith at this
  rw [List.getD_eq_getElem?_getD, List.getD_eq_getElem?_getD, List.getElem?_eq_getElem h1, List.getElem?_eq_getElem h2] at this
  exact this
theorem calls_tails {p : List InstrD} : callN (tailsL p) ≤ callN p ∧ (tailsL p ≠ p → callN (tailsL p) < callN p) := by
  have hX : ∀ i, i < p.length → (ith (tailsL p) i).1 = 15 → (ith p i).1 = 15 := by
    intro i hi
    rw [tails_ith hi]
    unfold tailX
    split
    · intro h; cases h
    · exact id
  obtain ⟨h1, h2⟩ := callN_mono (p := p) (q := tailsL p) tails_len.symm hX
  refine ⟨h1, fun hne => h2 ?_⟩
  refine Classical.byContradiction fun hno => hne ?_
  refine list_ext tails_len fun i hi => ?_
  rw [tails_len] at hi
  rw [tails_ith hi]
  unfold tailX
  split
  · rename_i hc
    exact absurd ⟨i, hi, hc.1, by rw [tails_ith hi]; unfold tailX; rw [if_pos hc]; simp⟩ hno
  · rfl
theorem calls_thr {p : List InstrD} (h : OkP p) : callN (thrL p) ≤ callN p := by
  refine (callN_mono (p := p) (q := thrL p) thr_len.symm fun i hi hc => ?_).1
  rw [thr_ith hi] at hc
  rcases thr_op h hi with h1 | h1
  · rw [← h1]; exact hc
  · rcases h1.2 with h2 | h2 | h2 | h2 <;> omega
open Classical in
/-- What falls with each pass. -/
noncomputable def passM (p : List InstrD) : Nat := (p.length * 8193 + callN p) * 2 + (if thrL p = p then 0 else 1)
open Classical in
theorem pass_less {t j : Bool} {p : List InstrD} (h : OkP p) (hne : passL t j p ≠ p) : passM (passL t j p) < passM p := by
  have hc1 := callN_le p
  have hlen := h.len
  have hc2 := callN_le (passL t j p)
  have hpl := pass_len (t := t) (j := j) (p := p)
  have bit : ∀ q, (if thrL q = q then 0 else 1) ≤ 1 := fun q => by split <;> omega
  have b1 := bit (passL t j p)
  rcases Nat.lt_or_ge (passL t j p).length p.length with hlt | hge
  · unfold passM
    have : ((passL t j p).length + 1) * 8193 ≤ p.length * 8193 := Nat.mul_le_mul_right _ hlt
    omega
  · have hle : (passL t j p).length = p.length := by omega
    unfold passM
    rw [hle]
    suffices hs : callN (passL t j p) < callN p ∨ (callN (passL t j p) ≤ callN p ∧ thrL (passL t j p) = passL t j p ∧ thrL p ≠ p) by
      rcases hs with hs | ⟨h1, h2, h3⟩
      · omega
      · rw [if_pos h2, if_neg h3]
        omega
    have hq : OkP (if t = true then tailsL p else p) := ok_tail h
    have hql := tail_len (t := t) (p := p)
    have hqc : callN (if t = true then tailsL p else p) ≤ callN p ∧ ((if t = true then tailsL p else p) ≠ p → callN (if t = true then tailsL p else p) < callN p) := by
      split
      · exact calls_tails
      · exact ⟨Nat.le_refl _, fun h => absurd rfl h⟩
    have hP : passL t j p = if j = true then jumpsL (if t = true then tailsL p else p) else (if t = true then tailsL p else p) := rfl
    rw [hP] at hle hne ⊢
    generalize (if t = true then tailsL p else p) = q at *
    cases j with
    | false =>
      simp only [Bool.false_eq_true, if_false] at hle hne ⊢
      exact .inl (hqc.2 hne)
    | true =>
      simp only [if_true] at hle hne ⊢
      obtain ⟨h1, _, _⟩ := jumps_full hq (by omega)
      rw [h1] at hne ⊢
      have hct := calls_thr hq
      by_cases hqp : q = p
      · right
        refine ⟨by omega, thr_twice hq, ?_⟩
        rw [hqp] at hne
        exact hne
      · left
        have := hqc.2 hqp
        omega
end Go.Proofs

/-! Chapter 20: Better. -/
namespace Go.Proofs
open Go Go.Abs
theorem q_equalI (p q : List InstrD) (hp : p.length ≤ 8192) : F_slices_Equal_Instr_Instr (p, q, ()) = some (pb (p = q), ()) := by
  unfold F_slices_Equal_Instr_Instr
  simp only [toPb]
  by_cases hl : (p.length : Int) = (q.length : Int)
  · rw [npos hl]
    refine loopC_gh (γ := Nat) (I := fun i s => i ≤ p.length ∧ s = (((i : Int), ()), ()) ∧ ∀ j, j < i → ith p j = ith q j) (μ := fun i => p.length - i) (F := fun _ => (pb (p = q), ())) ?_ 0 _ ⟨Nat.zero_le _, rfl, fun j hj => by omega⟩
    rintro i s ⟨hi, rfl, hs⟩
    dsimp only
    simp only [Int.toNat_natCast, getD_ith]
    by_cases hlt : i < p.length
    · rw [pos (by omega), need_pos ⟨by omega, by omega⟩, need_pos ⟨by omega, by omega⟩]
      cases he : Ty.eqb (Ty.st [Ty.int Go.IntKind.i64, Ty.int Go.IntKind.i64, Ty.int Go.IntKind.i64, Ty.int Go.IntKind.i64, Ty.str, tSet]) (ith p i) (ith q i) with
      | true =>
        have he : ith p i = ith q i := eqI_iff.1 he
        left
        rw [Bool.not_true, sel_f, need64 (by omega) (by omega)]
        refine ⟨i + 1, _, rfl, ⟨hlt, by simp, fun j hj => ?_⟩, by omega, by trivial⟩
        rcases Nat.lt_or_ge j i with h1 | h1
        · exact hs j h1
        · rw [show j = i by omega]; exact he
      | false =>
        right
        rw [Bool.not_false, sel_t, pb_f]
        intro e
        rw [← e] at he
        have : eqInstr (ith p i) (ith p i) = true := eqI_iff.2 rfl
        have he : eqInstr (ith p i) (ith p i) = false := he
        rw [this] at he
        cases he
    · right
      rw [neg (by omega), pb_t]
      exact list_ext (by omega) fun j hj => hs j (by omega)
  · rw [nneg hl, pb_f]
    intro e
    rw [e] at hl
    exact hl rfl
theorem q_sameR (p q : List InstrD) (hp : p.length ≤ 8192) : F_ref20_same (p, q, ()) = some (pb (p = q), ()) := q_equalI p q hp
theorem q_instrSame (p q : List InstrD) (hp : p.length ≤ 8192) : F_instr_Same (p, q, ()) = some (pb (p = q), ()) := by
  unfold F_instr_Same
  rw [q_equalI p q hp]
  rfl
inductive Bet (t j : Bool) : List InstrD → List InstrD → Prop
  | done {p : List InstrD} : passL t j p = p → Bet t j p p
  | step {p r : List InstrD} : passL t j p ≠ p → Bet t j (passL t j p) r → Bet t j p r
theorem bet_ex {t j : Bool} : ∀ {p : List InstrD}, OkP p → ∃ r, Bet t j p r := by
  intro p
  generalize hn : passM p = n
  induction n using Nat.strongRecOn generalizing p with
  | _ n ih =>
    intro h
    by_cases he : passL t j p = p
    · exact ⟨p, .done he⟩
    · obtain ⟨r, hr⟩ := ih _ (by rw [← hn]; exact pass_less h he) rfl (ok_pass h)
      exact ⟨r, .step he hr⟩
theorem bet_ok {t j : Bool} {p r : List InstrD} (h : Bet t j p r) (hp : OkP p) : OkP r ∧ r.length ≤ p.length ∧ passL t j r = r := by
  induction h with
  | done h => exact ⟨hp, Nat.le_refl _, h⟩
  | step h1 h2 ih =>
    obtain ⟨a, b, c⟩ := ih (ok_pass hp)
    exact ⟨a, Nat.le_trans b pass_len, c⟩
open Classical in
noncomputable def betL (t j : Bool) (p : List InstrD) : List InstrD := if h : ∃ r, Bet t j p r then Classical.choose h else p
theorem betL_is {t j : Bool} {p : List InstrD} (h : OkP p) : Bet t j p (betL t j p) := by
  have hex := bet_ex (t := t) (j := j) h
  unfold betL
  rw [dif_pos hex]
  exact Classical.choose_spec hex
/-! ### The document's loop -/
theorem q_betR {p r : List InstrD} {f : Int} (hf : 0 ≤ f ∧ f ≤ 127) (hb : Bet (pb (f / 32 % 2 = 1)) (pb (f / 64 % 2 = 1)) p r) (hp : OkP p) : loopC (fun (s : (List InstrD × Unit) × Unit) => Option.bind (F_ref20_copied (s.1.1, ())) (fun (y1 : List InstrD × Unit) => Option.bind (need ((0 : Int) ≤ f ∧ ((0 : Int) < (32 : Int) ∧ Fits Go.IntKind.i64 (f / (32 : Int)))) (need ((0 : Int) ≤ f / (32 : Int) ∧ (0 : Int) < (2 : Int)) (sel (pb ((f / (32 : Int)) % (2 : Int) = (1 : Int))) (Option.bind (F_ref20_tails (y1.1, ())) (fun (y2 : List InstrD × Unit) => some (Sum.inl ((), y2.1, ())))) (some (Sum.inl ((), y1.1, ())))))) (fun (o : Unit × List InstrD × Unit ⊕ (List InstrD × Unit) × Unit ⊕ (Int × List InstrD × Unit)) => (match o with | Sum.inl val => Option.bind (need ((0 : Int) ≤ f ∧ ((0 : Int) < (64 : Int) ∧ Fits Go.IntKind.i64 (f / (64 : Int)))) (need ((0 : Int) ≤ f / (64 : Int) ∧ (0 : Int) < (2 : Int)) (sel (pb ((f / (64 : Int)) % (2 : Int) = (1 : Int))) (Option.bind (F_ref20_threads (val.2.1, ())) (fun (y3 : List InstrD × Unit) => Option.bind (F_ref20_dead (y3.1, ())) (fun (y4 : List InstrD × Unit) => Option.bind (F_ref20_hops (y4.1, ())) (fun (y5 : List InstrD × Unit) => some (Sum.inl ((), y5.1, ())))))) (some (Sum.inl ((), val.2.1, ())))))) (fun (o1 : Unit × List InstrD × Unit ⊕ (List InstrD × Unit) × Unit ⊕ (Int × List InstrD × Unit)) => (match o1 with | Sum.inl val1 => Option.bind (F_ref20_same (val1.2.1, s.1.1, ())) (fun (y6 : Bool × Unit) => sel y6.1 (some (Sum.inr ((0 : Int), val1.2.1, ()))) (some (Sum.inl ((val1.2.1, ()), ())))) | Sum.inr val2 => some val2)) | Sum.inr val3 => some val3)))) ((p, ()), ()) = some ((0 : Int), r, ()) := by
  induction hb with
  | @done p he =>
    rw [loopC_eq]
    have hlen := hp.len
    have hq := ok_tail (t := pb (f / 32 % 2 = 1)) hp
    have hlen2 := (ok_pass (t := pb (f / 32 % 2 = 1)) (j := pb (f / 64 % 2 = 1)) hp).len
    dsimp only
    rw [q_copied p (by omega), bind_t, need_pos ⟨by omega, by omega, fits64 (by omega) (by omega)⟩, need_pos ⟨by omega, by omega⟩]
    have e1 : (sel (pb (f / 32 % 2 = 1)) (Option.bind (F_ref20_tails (p, ())) (fun (y2 : List InstrD × Unit) => some (Sum.inl ((), y2.1, ())))) (some (Sum.inl ((), p, ()))) : Option ((Unit × List InstrD × Unit) ⊕ ((List InstrD × Unit) × Unit ⊕ (Int × List InstrD × Unit)))) = some (Sum.inl ((), (if pb (f / 32 % 2 = 1) = true then tailsL p else p), ())) := by
      cases pb (f / 32 % 2 = 1) with
      | true => rw [sel_t, q_tailsR hp]; rfl
      | false => rfl
    dsimp only
    rw [e1, bind_t]
    unfold passL at he hlen2
    generalize (if pb (f / 32 % 2 = 1) = true then tailsL p else p) = q at *
    dsimp only
    rw [need_pos ⟨by omega, by omega, fits64 (by omega) (by omega)⟩, need_pos ⟨by omega, by omega⟩]
    have e2 : (sel (pb (f / 64 % 2 = 1)) (Option.bind (F_ref20_threads (q, ())) (fun (y3 : List InstrD × Unit) => Option.bind (F_ref20_dead (y3.1, ())) (fun (y4 : List InstrD × Unit) => Option.bind (F_ref20_hops (y4.1, ())) (fun (y5 : List InstrD × Unit) => some (Sum.inl ((), y5.1, ())))))) (some (Sum.inl ((), q, ()))) : Option ((Unit × List InstrD × Unit) ⊕ ((List InstrD × Unit) × Unit ⊕ (Int × List InstrD × Unit)))) = some (Sum.inl ((), (if pb (f / 64 % 2 = 1) = true then jumpsL q else q), ())) := by
      cases pb (f / 64 % 2 = 1) with
      | true =>
        rw [sel_t, q_thrR hq, bind_t]
        dsimp only
        rw [q_deadR (ok_thr hq), bind_t]
        dsimp only
        rw [q_hopsR (ok_dead (ok_thr hq)), bind_t]
        rfl
      | false => rfl
    rw [e2, bind_t, he]
    dsimp only
    rw [q_sameR p p hlen, bind_t, pb_t rfl]
    rfl
  | @step p r hne hb ih =>
    rw [loopC_eq]
    have hlen := hp.len
    have hq := ok_tail (t := pb (f / 32 % 2 = 1)) hp
    have hok := ok_pass (t := pb (f / 32 % 2 = 1)) (j := pb (f / 64 % 2 = 1)) hp
    have ih := ih hok
    have hlen2 := hok.len
    dsimp only
    rw [q_copied p (by omega), bind_t, need_pos ⟨by omega, by omega, fits64 (by omega) (by omega)⟩, need_pos ⟨by omega, by omega⟩]
    have e1 : (sel (pb (f / 32 % 2 = 1)) (Option.bind (F_ref20_tails (p, ())) (fun (y2 : List InstrD × Unit) => some (Sum.inl ((), y2.1, ())))) (some (Sum.inl ((), p, ()))) : Option ((Unit × List InstrD × Unit) ⊕ ((List InstrD × Unit) × Unit ⊕ (Int × List InstrD × Unit)))) = some (Sum.inl ((), (if pb (f / 32 % 2 = 1) = true then tailsL p else p), ())) := by
      cases pb (f / 32 % 2 = 1) with
      | true => rw [sel_t, q_tailsR hp]; rfl
      | false => rfl
    dsimp only
    rw [e1, bind_t]
    unfold passL at hne hlen2 ih
    generalize (if pb (f / 32 % 2 = 1) = true then tailsL p else p) = q at *
    dsimp only
    rw [need_pos ⟨by omega, by omega, fits64 (by omega) (by omega)⟩, need_pos ⟨by omega, by omega⟩]
    have e2 : (sel (pb (f / 64 % 2 = 1)) (Option.bind (F_ref20_threads (q, ())) (fun (y3 : List InstrD × Unit) => Option.bind (F_ref20_dead (y3.1, ())) (fun (y4 : List InstrD × Unit) => Option.bind (F_ref20_hops (y4.1, ())) (fun (y5 : List InstrD × Unit) => some (Sum.inl ((), y5.1, ())))))) (some (Sum.inl ((), q, ()))) : Option ((Unit × List InstrD × Unit) ⊕ ((List InstrD × Unit) × Unit ⊕ (Int × List InstrD × Unit)))) = some (Sum.inl ((), (if pb (f / 64 % 2 = 1) = true then jumpsL q else q), ())) := by
      cases pb (f / 64 % 2 = 1) with
      | true =>
        rw [sel_t, q_thrR hq, bind_t]
        dsimp only
        rw [q_deadR (ok_thr hq), bind_t]
        dsimp only
        rw [q_hopsR (ok_dead (ok_thr hq)), bind_t]
        rfl
      | false => rfl
    rw [e2, bind_t]
    dsimp only
    rw [q_sameR _ p hlen2, bind_t, pb_f hne]
    exact ih
/-- What Better tells. -/
noncomputable def betR (p : List InstrD) (f : Int) : Int × List InstrD × Unit := if (checkI p).2 ≠ 0 then ((checkI p).2, [], ()) else if f < 0 ∨ f > 127 then (1, [], ()) else (0, betL (pb (f / 32 % 2 = 1)) (pb (f / 64 % 2 = 1)) p, ())
theorem q_Better20 (p : List InstrD) (f : Int) : F_ref20_Better (p, f, ()) = some (betR p f) := by
  unfold F_ref20_Better betR
  simp only [toPb]
  rw [q_icheckR, bind_t]
  dsimp only
  by_cases h0 : (checkI p).2 = 0
  · rw [npos h0, if_neg (by simpa using h0)]
    by_cases hf : f < 0
    · rw [pos hf, bind_t, sel_t, if_pos (.inl hf)]
    · rw [neg hf, bind_t]
      by_cases hf2 : f > 127
      · rw [pb_t hf2, sel_t, if_pos (.inr hf2)]
      · rw [pb_f hf2, sel_f, if_neg (by omega)]
        exact q_betR ⟨by omega, by omega⟩ (betL_is (okP h0)) (okP h0)
  · rw [nneg h0, if_pos h0]
end Go.Proofs
