/- Part of the proof of the law's row: YtnncmcdogmleiaaWq11h. -/
import Derived.Test.YtnncmcdogmleiaaWq11c
set_option linter.all false
set_option linter.unusedVariables false
set_option linter.unusedSimpArgs false
/-! Chapter 11: what is known of the beginnings of a pattern's parts. -/
namespace Go.Proofs
open Go Go.Abs
set_option linter.unusedSimpArgs false
theorem arity_cases {p : List NodeD} (hp : (chkP p).2 = 0) {k : Nat} (hk : k < p.length) : arity (nth p k).1 = 0 ∨ arity (nth p k).1 = 1 ∨ arity (nth p k).1 = 2 := by
 have h1 := (node_ok (look_of hp hk)).1
 have h2 := arity_le (nth p k).1
 omega
theorem gen_ind2 {β γ : Type} {z : β} {z' : γ} {f : NodeD → β → β → β} {f' : NodeD → γ → γ → γ} {p : List NodeD} (hp : (chkP p).2 = 0) (I : β → γ → Prop) (h0 : I z z') (h : ∀ k, k < p.length → ∀ a b a' b', I a a' → I b b' → I (f (nth p k) a b) (f' (nth p k) a' b')) : ∀ k, k < p.length → I (valOf z f p k) (valOf z' f' p k) := by
 intro k
 induction k using Nat.strongRecOn with
 | _ k ih =>
   intro hk
   rw [valOf_is z f p k, valOf_is z' f' p k]
   rcases arity_cases hp hk with h1 | h1 | h1
   ·refine h k hk _ _ _ _ ?_ ?_
    ·rw [(kid_zero _ _ h1 _).1, (kid_zero _ _ h1 _).1]; exact h0
    ·rw [(kid_zero _ _ h1 _).2, (kid_zero _ _ h1 _).2]; exact h0
   ·obtain ⟨m1, _⟩ := (ends_kids hp hk).2.1 h1
    refine h k hk _ _ _ _ ?_ ?_
    ·rw [kidA_one _ _ _ h1 m1, kidA_one _ _ _ h1 m1]
     exact ih _ (by omega) (by omega)
    ·unfold kidB
     rw [if_neg (by omega), if_neg (by omega)]
     exact h0
   ·obtain ⟨m1, m2, m3, _⟩ := (ends_kids hp hk).2.2 h1
    refine h k hk _ _ _ _ ?_ ?_
    ·rw [kidA_two _ _ _ h1 m2 m3, kidA_two _ _ _ h1 m2 m3]
     exact ih _ (by omega) (by omega)
    ·rw [kidB_two _ _ _ h1 m1, kidB_two _ _ _ h1 m1]
     exact ih _ (by omega) (by omega)
theorem gen_ind {β : Type} {z : β} {f : NodeD → β → β → β} {p : List NodeD} (hp : (chkP p).2 = 0) (I : β → Prop) (h0 : I z) (h : ∀ k, k < p.length → ∀ a b, I a → I b → I (f (nth p k) a b)) : ∀ k, k < p.length → I (valOf z f p k) :=
 gen_ind2 (z' := ()) (f' := fun _ _ _ => ()) hp (fun a _ => I a) h0 (fun k hk a b _ _ ha hb => h k hk a b ha hb)
theorem kidA_is {β : Type} (z : β) (f : NodeD → β → β → β) {p : List NodeD} (hp : (chkP p).2 = 0) {k : Nat} (hk : k < p.length) : kidA z p k (valsOf z f p k) = if arity (nth p k).1 = 1 then valOf z f p (k - 1) else if arity (nth p k).1 = 2 then valOf z f p (beginP p ((k : Int) - 1) - 1).toNat else z := by
 rcases arity_cases hp hk with h | h | h
 ·rw [(kid_zero _ _ h _).1, if_neg (by omega), if_neg (by omega)]
 ·rw [kidA_one _ _ _ h ((ends_kids hp hk).2.1 h).1, if_pos h]
 ·obtain ⟨m1, m2, m3, _⟩ := (ends_kids hp hk).2.2 h
  rw [kidA_two _ _ _ h m2 m3, if_neg (by omega), if_pos h]
abbrev PE := Em × Fi
abbrev zP : PE := (zEmptiness, zFirsts)
noncomputable def nodeP (cE : NodeD → Em) (cF : NodeD → Fi) (n : NodeD) (x y : PE) : PE := (nodeE n (cE n) x.1 y.1, nodeF n (cF n) x.2 y.2 y.1.2.1)
noncomputable abbrev valsP (cE : NodeD → Em) (cF : NodeD → Fi) (p : List NodeD) (k : Nat) : List PE := valsOf zP (nodeP cE cF) p k
noncomputable abbrev valP (cE : NodeD → Em) (cF : NodeD → Fi) (p : List NodeD) (k : Nat) : PE := valOf zP (nodeP cE cF) p k
section
variable {cE : NodeD → Em} {cF : NodeD → Fi} {p : List NodeD}
theorem valP_fst (hp : (chkP p).2 = 0) : ∀ k, k < p.length → (valP cE cF p k).1 = val9 cE p k :=
 gen_ind2 hp (fun (a : PE) (b : Em) => a.1 = b) rfl fun k _ a b a' b' ha hb => by subst ha hb; rfl
noncomputable def valF (cE : NodeD → Em) (cF : NodeD → Fi) (p : List NodeD) (k : Nat) : Fi := (valP cE cF p k).2
noncomputable def valsF (cE : NodeD → Em) (cF : NodeD → Fi) (p : List NodeD) (k : Nat) : List Fi := genR k (valF cE cF p)
theorem valsF_len {k : Nat} : (valsF cE cF p k).length = k := genR_len
theorem valsF_at {k i : Nat} (h : i < k) : List.getD (valsF cE cF p k) i zFirsts = valF cE cF p i := genR_get h
noncomputable def leftF (cE : NodeD → Em) (cF : NodeD → Fi) (p : List NodeD) (k : Nat) : Fi := if arity (nth p k).1 = 1 then valF cE cF p (k - 1) else if arity (nth p k).1 = 2 then valF cE cF p (beginP p ((k : Int) - 1) - 1).toNat else zFirsts
noncomputable def rightF (cE : NodeD → Em) (cF : NodeD → Fi) (p : List NodeD) (k : Nat) : Fi := if arity (nth p k).1 = 2 then valF cE cF p (k - 1) else zFirsts
theorem valF_is (hp : (chkP p).2 = 0) {k : Nat} (hk : k < p.length) {f : Bool} (hf : arity (nth p k).1 = 2 → f = (val9 cE p (k - 1)).2.1) : valF cE cF p k = nodeF (nth p k) (cF (nth p k)) (leftF cE cF p k) (rightF cE cF p k) f := by
 unfold valF
 rw [show valP cE cF p k = _ from valOf_is _ _ _ _]
 show nodeF _ _ (kidA zP p k (valsP cE cF p k)).2 (kidB zP p k (valsP cE cF p k)).2 (kidB zP p k (valsP cE cF p k)).1.2.1 = _
 have e1 : (kidA zP p k (valsP cE cF p k)).2 = leftF cE cF p k := by
  rw [kidA_is _ _ hp hk]
  unfold leftF
  split
  ·rfl
  ·split <;> rfl
 have e2 : (kidB zP p k (valsP cE cF p k)).2 = rightF cE cF p k := by
  unfold rightF
  rcases arity_cases hp hk with h | h | h
  ·rw [(kid_zero _ _ h _).2, if_neg (by omega)]
  ·rw [if_neg (by omega)]
   unfold kidB
   rw [if_neg (by omega)]
  ·rw [kidB_two _ _ _ h ((ends_kids hp hk).2.2 h).1, if_pos h]
   rfl
 rw [e1, e2]
 by_cases h7 : (nth p k).1 = 7
 ·have h : arity (nth p k).1 = 2 := by rw [h7]; rfl
  have h1 := ((ends_kids hp hk).2.2 h).1
  rw [hf h, kidB_two _ _ _ h h1, valP_fst hp _ (by omega)]
 ·exact nodeF_fails h7 _ _
/-! ### Sets are sets -/
theorem can_node {n : NodeD} {c a b : Fi} {f : Bool} (hn : CanS n.2.2.2.1) (hc : CanS c.1) (ha : CanS a.1) (hb : CanS b.1) : CanS (nodeF n c a b f).1 := by
 have h7 : CanS (if a.2.1 = true then unionS a.1 b.1 else a.1) := by
  split
  ·exact can_mk _
  ·exact ha
 generalize hu : (if a.2.1 = true then unionS a.1 b.1 else a.1) = u at h7
 unfold nodeF
 rw [hu]
 by_cases g0 : n.1 = 1 ∨ n.1 = 17 ∨ n.1 = 13
 ·rw [if_pos g0]; exact can_zero
 rw [if_neg g0]
 by_cases g1 : n.1 = 2
 ·rw [if_pos g1]; exact can_zero
 rw [if_neg g1]
 by_cases g2 : n.1 = 3
 ·rw [if_pos g2]; exact can_mk _
 rw [if_neg g2]
 by_cases g3 : n.1 = 4
 ·rw [if_pos g3]; exact can_mk _
 rw [if_neg g3]
 by_cases g4 : n.1 = 5
 ·rw [if_pos g4]; exact hn
 rw [if_neg g4]
 by_cases g5 : n.1 = 6
 ·rw [if_pos g5]; exact hc
 rw [if_neg g5]
 by_cases g6 : n.1 = 7
 ·rw [if_pos g6]; exact h7
 rw [if_neg g6]
 by_cases g7 : n.1 = 8
 ·rw [if_pos g7]; exact can_mk _
 rw [if_neg g7]
 by_cases g8 : n.1 = 9 ∨ n.1 = 11
 ·rw [if_pos g8]; exact ha
 rw [if_neg g8]
 by_cases e1 : n.1 = 16
 ·rw [if_pos e1]
  by_cases h0 : n.2.1 = 0
  ·rw [if_pos h0]; exact can_zero
  ·rw [if_neg h0]; exact ha
 rw [if_neg e1]
 by_cases e2 : n.1 = 14
 ·rw [if_pos e2]
  by_cases h0 : n.2.1 = 0
  ·rw [if_pos h0]; exact can_zero
  ·rw [if_neg h0]; exact ha
 rw [if_neg e2]
 by_cases e3 : n.1 = 15
 ·rw [if_pos e3]
  by_cases h0 : n.2.1 = 0
  ·rw [if_pos h0]; exact ha
  ·rw [if_neg h0]; exact ha
 rw [if_neg e3]
 exact ha
def CanP (p : List NodeD) : Prop := ∀ n, n ∈ p → CanS n.2.2.2.1
theorem can_nth {p : List NodeD} (h : CanP p) {k : Nat} (hk : k < p.length) : CanS (nth p k).2.2.2.1 := by
 refine h _ ?_
 rw [show nth p k = List.getD p k zNode by simp [nth]]
 exact getD_in hk
theorem can_val (hp : (chkP p).2 = 0) (hc : CanP p) (hF : ∀ k, k < p.length → CanS (cF (nth p k)).1) : ∀ k, k < p.length → CanS (valF cE cF p k).1 :=
 gen_ind hp (fun x : PE => CanS x.2.1) can_zero fun k hk a b ha hb => can_node (can_nth hc hk) (hF k hk) ha hb
theorem can_left (hp : (chkP p).2 = 0) (hc : CanP p) (hF : ∀ k, k < p.length → CanS (cF (nth p k)).1) {k : Nat} (hk : k < p.length) : CanS (leftF cE cF p k).1 := by
 unfold leftF
 split
 ·exact can_val hp hc hF _ (by omega)
 ·split
  ·rename_i h
   obtain ⟨m1, m2, m3, _⟩ := (ends_kids hp hk).2.2 h
   exact can_val hp hc hF _ (by omega)
  ·exact can_zero
theorem can_right (hp : (chkP p).2 = 0) (hc : CanP p) (hF : ∀ k, k < p.length → CanS (cF (nth p k)).1) {k : Nat} (hk : k < p.length) : CanS (rightF cE cF p k).1 := by
 unfold rightF
 split
 ·exact can_val hp hc hF _ (by omega)
 ·exact can_zero
end
/-! ### The last nodes of parts -/
theorem ends_parts {p : List NodeD} (hp : (chkP p).2 = 0) {k : Nat} (hk : k < p.length) : ∃ B Q : List Nat, endsI p k = B ++ Q ∧ endsI p (k + 1) = B ++ [k] ∧ castL Q = partsP p (k : Int) ∧ (Q.length : Int) = arity (nth p k).1 := by
 obtain ⟨h0, h1, h2⟩ := ends_kids hp hk
 refine ⟨endsI p (beginP p (k : Int)).toNat, ?_⟩
 rw [ends_succ hp hk]
 unfold partsP
 rcases arity_cases hp hk with h | h | h
 ·refine ⟨[], ?_, rfl, ?_, by rw [h]; rfl⟩
  ·rw [h0 h, Int.toNat_natCast, List.append_nil]
  ·rw [if_neg (by omega), if_neg (by omega)]; rfl
 ·obtain ⟨m1, m2⟩ := h1 h
  refine ⟨[k - 1], m2, rfl, ?_, by rw [h]; rfl⟩
  rw [if_pos h]
  simp [castL]; omega
 ·obtain ⟨m1, m2, m3, m4⟩ := h2 h
  refine ⟨_, m4, rfl, ?_, by rw [h]; rfl⟩
  rw [if_neg (by omega), if_pos h]
  simp [castL]; omega
theorem castL_app (a b : List Nat) : castL (a ++ b) = castL a ++ castL b := List.map_append
theorem q_gKids {p : List NodeD} (hp : (chkP p).2 = 0) : F_gist_Kids (p, ()) = some (genR p.length (fun k => partsP p (k : Int)), ()) := by
 obtain ⟨hlen, _⟩ := chk_len hp
 unfold F_gist_Kids
 simp only [toPb]
 refine loop_up (σ := (Int × Unit) × List Int × List (List Int) × Unit) p.length (fun k => (((k : Int), ()), castL (endsI p k), genR k (fun k => partsP p (k : Int)), ())) ?_ (fun k hk => ?_) ?_
 ·rw [ends_zero]; rfl
 ·obtain ⟨B, Q, e1, e2, e3, e4⟩ := ends_parts hp hk
  have hl := ends_len hp (show k ≤ p.length by omega)
  have hnth : List.getD p k zNode = nth p (k : Int) := by simp [nth]
  have hBl : (castL B).length = B.length := castL_len B
  have hQl : (castL Q).length = Q.length := castL_len Q
  rw [e1, List.length_append] at hl
  dsimp only
  simp only [Int.toNat_natCast, hnth, Nat.zero_add]
  rw [e2, e1, castL_app, castL_app]
  have h1 : ((castL B ++ castL Q).length : Int) - arity (nth p k).1 = (B.length : Int) := by rw [List.length_append, hBl, hQl]; omega
  have hL : (castL B ++ castL Q).length = B.length + Q.length := by rw [List.length_append, hBl, hQl]
  have d1 : List.drop B.length (castL B ++ castL Q) = castL Q := by rw [← hBl]; exact List.drop_left
  have t1 : List.take B.length (castL B ++ castL Q) = castL B := by rw [← hBl]; exact List.take_left
  rw [pos (by omega), need_pos (by omega), q_arity, bind_t]
  dsimp only
  rw [h1, hL]
  simp only [Int.toNat_natCast, d1, t1, genR_len]
  rw [need64 (by omega) (by omega), need_pos (by omega), need_pos ⟨by omega, by rw [List.length_take]; omega⟩, need_pos (by omega), need_pos (by omega), need_pos (by omega), need64 (by omega) (by omega), cast_succ, List.nil_append, List.take_of_length_le (by omega), e3, genR_succ]
  rfl
 ·dsimp only
  rw [neg (by omega)]
theorem gone_lt {α : Type} {p : List α} {f : Nat → α} {i j : Nat} {d : α} (h : j < i) : List.getD (gone p f i) j d = f j := by
 unfold gone
 rw [List.getD_eq_getElem?_getD, List.getElem?_append_left (by rw [genR_len]; exact h), ← List.getD_eq_getElem?_getD, genR_get h]
theorem q_begF {p : List NodeD} (hp : (chkP p).2 = 0) (hc : CanP p) {cE : NodeD → Em} {cF : NodeD → Fi} {m : List (ByteArray × Fi)} (hm : ∀ k, k < p.length → (nth p k).1 = 6 → Option.getD (mfind eqS m (nth p k).2.2.1) zFirsts = cF (nth p k)) (hF : ∀ k, k < p.length → CanS (cF (nth p k)).1) :
  F_gist_Beginnings_fi (p, vals9 cE p p.length, m, ()) = some (valsF cE cF p p.length, m, ()) := by
 obtain ⟨hlen, _⟩ := chk_len hp
 have hl9 : (vals9 cE p p.length).length = p.length := valsOf_len _ _ _ _
 unfold F_gist_Beginnings_fi
 simp only [toPb]
 rw [q_gKids hp, bind_t]
 dsimp only
 rw [need_pos (by omega)]
 have hR : (List.replicate p.length zFirsts).length = p.length := List.length_replicate
 refine loop_up (σ := (Int × Unit) × List FirstsD × List (List Int) × List (ByteArray × FirstsD) × Unit) p.length (fun i => (((i : Int), ()), gone (List.replicate p.length zFirsts) (valF cE cF p) i, genR p.length (fun k => partsP p (k : Int)), m, ())) ?_ (fun i hi => ?_) ?_
 ·rw [Int.toNat_natCast]; rfl
 ·have hG : (gone (List.replicate p.length zFirsts) (valF cE cF p) i).length = p.length := by rw [gone_len (by omega), hR]
  have hnth : List.getD p i zNode = nth p (i : Int) := by simp [nth]
  have hK : List.getD (genR p.length (fun k => partsP p (k : Int))) i [] = partsP p (i : Int) := genR_get hi
  dsimp only
  simp only [Int.toNat_natCast, Nat.zero_add, hK, hnth, genR_len, hG]
  rw [pos (by omega), need_pos (by omega), need_pos (by omega), need_pos (by omega)]
  have hset := gone_set (p := List.replicate p.length zFirsts) (f := valF cE cF p) (i := i) (by omega)
  have hno := nodeOk_of hp hi
  have fin : ∀ (b a : Fi) (f : Bool), valF cE cF p i = nodeF (nth p i) (cF (nth p i)) a b f → CanS a.1 → CanS b.1 →
    Option.bind (F_gist_node_fi (nth p i, a, b, f, m, ())) (fun (y1 : FirstsD × List (ByteArray × FirstsD) × Unit) => need ((0 : Int) ≤ (i : Int) ∧ (i : Int) < (p.length : Int)) (need (i < p.length) (need (Fits Go.IntKind.i64 ((i : Int) + (1 : Int))) (some (Sum.inl ((((i : Int) + (1 : Int), ()), List.set (gone (List.replicate p.length zFirsts) (valF cE cF p) i) i y1.1, genR p.length (fun k => partsP p (k : Int)), y1.2.1, ()) : (Int × Unit) × List FirstsD × List (List Int) × List (ByteArray × FirstsD) × Unit) : _ ⊕ (List FirstsD × List (ByteArray × FirstsD) × Unit)))))) =
     some (Sum.inl ((((i + 1 : Nat) : Int), ()), gone (List.replicate p.length zFirsts) (valF cE cF p) (i + 1), genR p.length (fun k => partsP p (k : Int)), m, ())) := by
   intro b a f hv ha hb
   rw [q_nodeF hno.op hno.txt ha hb, bind_t]
   dsimp only
   have e : nodeF (nth p i) (Option.getD (mfind eqS m (nth p i).2.2.1) zFirsts) a b f = valF cE cF p i := by
    rw [hv]
    by_cases h6 : (nth p i).1 = 6
    ·rw [hm i hi h6]
    ·unfold nodeF
     simp only [if_neg h6]
   rw [need_pos (by omega), need_pos hi, need64 (by omega) (by omega), cast_succ, ← hset, e]
  have hL : leftF cE cF p i = leftF cE cF p i := rfl
  rcases arity_cases hp hi with h | h | h
  ·have e : partsP p (i : Int) = [] := by unfold partsP; rw [if_neg (by omega), if_neg (by omega)]
   rw [e, neg (by simp), neg (by simp), bind_t, bind_t]
   dsimp only
   simp only [hG]
   exact fin zFirsts zFirsts false (by rw [valF_is hp hi (f := false) (fun h2 => by omega)]; unfold leftF rightF; rw [if_neg (by omega), if_neg (by omega), if_neg (by omega)]) can_zero can_zero
  ·have e : partsP p (i : Int) = [(i : Int) - 1] := by unfold partsP; rw [if_pos h]
   obtain ⟨m1, _⟩ := (ends_kids hp hi).2.1 h
   have e1 : Int.toNat ((i : Int) - 1) = i - 1 := by omega
   have g1 : List.getD (gone (List.replicate p.length zFirsts) (valF cE cF p) i) (i - 1) zFirsts = valF cE cF p (i - 1) := gone_lt (by omega)
   rw [e, neg (by simp), pos (by simp), bind_t]
   dsimp only
   simp only [List.getD_cons_zero, e1, hG, g1]
   rw [need_pos (by simp), need_pos (by omega), need_pos (by omega), bind_t]
   dsimp only
   simp only [hG]
   refine fin zFirsts (valF cE cF p (i - 1)) false ?_ (can_val hp hc hF _ (by omega)) can_zero
   rw [valF_is hp hi (f := false) (fun h2 => by omega)]
   unfold leftF rightF
   rw [if_pos h, if_neg (by omega)]
  ·obtain ⟨m1, m2, m3, _⟩ := (ends_kids hp hi).2.2 h
   have e : partsP p (i : Int) = [beginP p ((i : Int) - 1) - 1, (i : Int) - 1] := by unfold partsP; rw [if_neg (by omega), if_pos h]
   obtain ⟨x, hx⟩ : ∃ x : Nat, beginP p ((i : Int) - 1) - 1 = (x : Int) := ⟨(beginP p ((i : Int) - 1) - 1).toNat, by omega⟩
   have e1 : Int.toNat ((i : Int) - 1) = i - 1 := by omega
   have g1 : List.getD (gone (List.replicate p.length zFirsts) (valF cE cF p) i) (i - 1) zFirsts = valF cE cF p (i - 1) := gone_lt (by omega)
   have g2 : List.getD (gone (List.replicate p.length zFirsts) (valF cE cF p) i) x zFirsts = valF cE cF p x := gone_lt (by omega)
   have g3 : List.getD (vals9 cE p p.length) (i - 1) zEmptiness = val9 cE p (i - 1) := valsOf_at _ _ _ (by omega)
   rw [e, hx, pos (by simp), need_pos (by simp)]
   simp only [List.getD_cons_zero, List.getD_cons_succ, e1, hG, g1, hl9, g3]
   rw [need_pos (by omega), need_pos (by omega), need_pos (by simp), need_pos (by omega), bind_t]
   dsimp only
   simp only [List.getD_cons_zero, Int.toNat_natCast, hG, g2]
   rw [need_pos (by simp), need_pos (by omega), need_pos (by omega), bind_t]
   dsimp only
   simp only [hG]
   refine fin (valF cE cF p (i - 1)) (valF cE cF p x) (val9 cE p (i - 1)).2.1 ?_ (can_val hp hc hF _ (by omega)) (can_val hp hc hF _ (by omega))
   rw [valF_is hp hi (f := (val9 cE p (i - 1)).2.1) (fun _ => rfl)]
   unfold leftF rightF
   rw [if_neg (by omega), if_pos h, if_pos h, hx]
   rfl
 ·dsimp only
  rw [neg (by omega), gone_same]
  rfl
end Go.Proofs
/-! Chapter 11: the book's parts. -/
namespace Go.Proofs
open Go Go.Abs
set_option linter.unusedSimpArgs false
def callF (g : G) (rules : List Fi) (n : NodeD) : Fi := List.getD rules ((findR g n.2.2.1).getD 0) zFirsts
def cfOf (known : List Em) (P : List Int) : Nat → Bool
 | 0 => false
 | j + 1 => (List.getD known (Int.toNat (List.getD P j 0)) zEmptiness).2.1
section
variable {cE : NodeD → Em} {cF : NodeD → Fi} {p : List NodeD}
theorem kids_atF (hp : (chkP p).2 = 0) {k : Nat} (hk : k < p.length) :
  (partsP p (k : Int)).length = (kidsF (nth p k) (leftF cE cF p k) (rightF cE cF p k)).length ∧ (partsP p (k : Int)).length ≤ 2 ∧
  (∀ j, j < (partsP p (k : Int)).length → ∃ m : Nat, List.getD (partsP p (k : Int)) j 0 = (m : Int) ∧ m < k ∧ valF cE cF p m = List.getD (kidsF (nth p k) (leftF cE cF p k) (rightF cE cF p k)) j zFirsts) ∧
  (arity (nth p k).1 = 2 → cfOf (vals9 cE p p.length) (partsP p (k : Int)) (partsP p (k : Int)).length = (val9 cE p (k - 1)).2.1) := by
 unfold kidsF partsP leftF rightF
 rcases arity_cases hp hk with h | h | h
 ·rw [if_neg (by omega), if_neg (by omega), if_neg (by omega), if_neg (by omega)]
  exact ⟨rfl, by simp, fun j hj => absurd hj (Nat.not_lt_zero _), fun h2 => by omega⟩
 ·obtain ⟨k1, _⟩ := (ends_kids hp hk).2.1 h
  rw [if_pos h, if_pos h, if_pos h]
  refine ⟨rfl, by simp, fun j hj => ?_, fun h2 => by omega⟩
  have hj : j < 1 := hj
  obtain rfl : j = 0 := by omega
  refine ⟨k - 1, ?_, by omega, rfl⟩
  show (k : Int) - 1 = _; omega
 ·obtain ⟨k1, k2, k3, _⟩ := (ends_kids hp hk).2.2 h
  rw [if_neg (by omega), if_pos h, if_neg (by omega), if_pos h, if_neg (by omega), if_pos h, if_pos h]
  refine ⟨rfl, by simp, fun j hj => ?_, fun _ => ?_⟩
  ·have hj : j < 2 := hj
   rcases (show j = 0 ∨ j = 1 by omega) with rfl | rfl
   ·refine ⟨(beginP p ((k : Int) - 1) - 1).toNat, ?_, by omega, rfl⟩
    show beginP p ((k : Int) - 1) - 1 = _; omega
   ·refine ⟨k - 1, ?_, by omega, rfl⟩
    show (k : Int) - 1 = _; omega
  ·show (List.getD (vals9 cE p p.length) (Int.toNat ((k : Int) - 1)) zEmptiness).2.1 = _
   rw [show Int.toNat ((k : Int) - 1) = k - 1 by omega, show List.getD (vals9 cE p p.length) (k - 1) zEmptiness = val9 cE p (k - 1) from valsOf_at _ _ _ (by omega)]
theorem left_zero {k : Nat} (h : arity (nth p k).1 = 0) : leftF cE cF p k = zFirsts := by
 unfold leftF
 rw [if_neg (by omega), if_neg (by omega)]
end
theorem q_partsF {g : G} {p : List NodeD} (hp : (chkP p).2 = 0) (hcan : CanP p) (hg : g.length ≤ 200) {cE : NodeD → Em} {rules : List Fi} (hl : rules.length = g.length) (hR : ∀ q, q < g.length → CanS (List.getD rules q zFirsts).1) (hc : ∀ k, k < p.length → (nth p k).1 = 6 → ∃ q, findR g (nth p k).2.2.1 = some q) (hF : ∀ k, k < p.length → CanS (callF g rules (nth p k)).1) :
  F_ref11_parts ((g, ()), p, vals9 cE p p.length, rules, ()) = some (valsF cE (callF g rules) p p.length, ()) := by
 obtain ⟨hlen, _⟩ := chk_len hp
 have hl9 : (vals9 cE p p.length).length = p.length := valsOf_len _ _ _ _
 unfold F_ref11_parts
 simp only [toPb]
 rw [q_begins hp, bind_t]
 dsimp only
 refine loop_up (σ := (Int × Unit) × List Int × List FirstsD × GrammarD × Unit) p.length (fun i => (((i : Int), ()), (shP p).map (·.1), valsF cE (callF g rules) p i, (g, ()), ())) rfl ?_ ?_
 ·intro i hi
  have hno := nodeOk_of hp hi
  have hnth : List.getD p i zNode = nth p (i : Int) := by simp [nth]
  obtain ⟨kl, k2, kat, kcf⟩ := kids_atF (cE := cE) (cF := callF g rules) hp hi
  have hq : ∃ q, ((nth p i).1 = 6 → findR g (nth p i).2.2.1 = some q) ∧ ((nth p i).1 = 6 → List.getD rules q zFirsts = callF g rules (nth p i)) := by
   by_cases h6 : (nth p i).1 = 6
   ·obtain ⟨q, e⟩ := hc i hi h6
    exact ⟨q, fun _ => e, fun _ => by unfold callF; rw [e]; rfl⟩
   ·exact ⟨0, fun h => absurd h h6, fun h => absurd h h6⟩
  obtain ⟨q, hq1, hq2⟩ := hq
  have hw : valsF cE (callF g rules) p (i + 1) = valsF cE (callF g rules) p i ++ [valF cE (callF g rules) p i] := genR_succ
  have hwl : (valsF cE (callF g rules) p i).length = i := valsF_len
  have hat : ∀ m, m < i → List.getD (valsF cE (callF g rules) p i) m zFirsts = valF cE (callF g rules) p m := fun m hm => valsF_at hm
  have hnode := q_rnodeF (g := g) (rules := rules) (fails := cfOf (vals9 cE p p.length) (partsP p (i : Int)) (partsP p (i : Int)).length) hno.op hno.txt (can_left (cE := cE) hp hcan hF hi) (can_right (cE := cE) hp hcan hF hi) (fun h => left_zero h) (by omega) hl hq1
  have hne : nodeF (nth p i) (List.getD rules q zFirsts) (leftF cE (callF g rules) p i) (rightF cE (callF g rules) p i) (cfOf (vals9 cE p p.length) (partsP p (i : Int)) (partsP p (i : Int)).length) = valF cE (callF g rules) p i := by
   rw [valF_is hp hi (fun h => kcf h)]
   by_cases h6 : (nth p i).1 = 6
   ·rw [hq2 h6]
   ·unfold nodeF
    simp only [if_neg h6]
  rw [hne] at hnode
  dsimp only
  simp only [Int.toNat_natCast, hnth]
  rw [pos (by omega), q_kids p _ (look_of hp hi), bind_t]
  dsimp only
  generalize kidsF (nth p i) (leftF cE (callF g rules) p i) (rightF cE (callF g rules) p i) = K at kl kat hnode
  generalize partsP p (i : Int) = P at kl k2 kat hnode ⊢
  refine loop_up (σ := (Int × Bool × Unit) × List Int × List FirstsD × List Int × List FirstsD × GrammarD × Unit) P.length (fun j => (((j : Int), cfOf (vals9 cE p p.length) P j, ()), (shP p).map (·.1), List.take j K, P, valsF cE (callF g rules) p i, (g, ()), ())) rfl ?_ ?_
  ·intro j hj
   obtain ⟨m, m1, m2, m3⟩ := kat j hj
   have hjl : (List.take j K).length = j := by rw [List.length_take]; omega
   have hcf : cfOf (vals9 cE p p.length) P (j + 1) = (List.getD (vals9 cE p p.length) m zEmptiness).2.1 := by rw [cfOf, m1, Int.toNat_natCast]
   dsimp only
   simp only [Int.toNat_natCast, Nat.zero_add, m1, hat m m2, m3, hjl, hwl, hl9]
   rw [pos (by omega), need_pos (by omega), need_pos (by omega), need_pos (by omega), need_pos (by omega), need_pos (by omega), need_pos (by omega), need_pos (by omega), need_pos (by omega), need64 (by omega) (by omega), take_succD (d := zFirsts) (by omega), cast_succ, hcf]
  ·dsimp only
   rw [neg (by omega), need_pos (by omega), show List.take P.length K = K by rw [kl]; exact List.take_length, hnode]
   simp only [bind_t, hwl]
   rw [need_pos (by omega), need64 (by omega) (by omega), bind_t, hw, cast_succ]
 ·dsimp only
  rw [neg (by omega)]
end Go.Proofs
/-! Rounds that grow, and where they end: for any kind of knowledge. -/
namespace Go.Proofs
open Go Go.Abs
set_option linter.unusedSimpArgs false
section
variable {α : Type} (z : α) (n : Nat) (le : α → α → Prop) (ok : α → Prop) (rank : α → Nat) (R : Nat) (step : List α → Nat → α)
def OkX (l : List α) : Prop := l.length = n ∧ ∀ i, i < n → ok (List.getD l i z)
def LeX (l m : List α) : Prop := ∀ i, i < n → le (List.getD l i z) (List.getD m i z)
structure Fx : Prop where
 refl : ∀ a, le a a
 trans : ∀ a b c, le a b → le b c → le a c
 bot : ok z
 least : ∀ a, ok a → le z a
 rank_le : ∀ a, ok a → rank a ≤ R
 rank_mono : ∀ a b, ok a → ok b → le a b → rank a ≤ rank b ∧ (rank a = rank b → a = b)
 step_ok : ∀ l i, OkX z n ok l → i < n → ok (step l i)
 step_mono : ∀ l m i, OkX z n ok l → OkX z n ok m → LeX z n le l m → i < n → le (step l i) (step m i)
def roundX (l : List α) : List α := genR n (step l)
def itX : Nat → List α
 | 0 => List.replicate n z
 | k + 1 => roundX n step (itX k)
open Classical in
noncomputable def fixX : List α := if h : ∃ k, itX z n step (k + 1) = itX z n step k then itX z n step (Classical.choose h) else []
def rankX (l : List α) : Nat := sumTo (fun i => rank (List.getD l i z)) n
theorem zero_at {i : Nat} : List.getD (List.replicate n z) i z = z := by
 rw [List.getD_eq_getElem?_getD, List.getElem?_replicate]
 split <;> rfl
variable {z n le ok rank R step}
theorem Fx.anti (hF : Fx z n le ok rank R step) {a b : α} (ha : ok a) (hb : ok b) (h1 : le a b) (h2 : le b a) : a = b :=
 (hF.rank_mono a b ha hb h1).2 (Nat.le_antisymm (hF.rank_mono a b ha hb h1).1 (hF.rank_mono b a hb ha h2).1)
theorem Fx.round_ok (hF : Fx z n le ok rank R step) {l : List α} (h : OkX z n ok l) : OkX z n ok (roundX n step l) := ⟨genR_len, fun i hi => by unfold roundX; rw [genR_get hi]; exact hF.step_ok l i h hi⟩
theorem Fx.round_mono (hF : Fx z n le ok rank R step) {l m : List α} (h : OkX z n ok l) (h' : OkX z n ok m) (hl : LeX z n le l m) : LeX z n le (roundX n step l) (roundX n step m) := by
 intro i hi
 unfold roundX
 rw [genR_get hi, genR_get hi]
 exact hF.step_mono l m i h h' hl hi
theorem Fx.zero_ok (hF : Fx z n le ok rank R step) : OkX z n ok (List.replicate n z) := ⟨List.length_replicate, fun i _ => by rw [zero_at]; exact hF.bot⟩
theorem Fx.zero_le (hF : Fx z n le ok rank R step) {l : List α} (h : OkX z n ok l) : LeX z n le (List.replicate n z) l := fun i hi => by rw [zero_at]; exact hF.least _ (h.2 i hi)
theorem Fx.it_ok (hF : Fx z n le ok rank R step) : ∀ k, OkX z n ok (itX z n step k)
 | 0 => hF.zero_ok
 | k + 1 => hF.round_ok (hF.it_ok k)
theorem Fx.it_le (hF : Fx z n le ok rank R step) : ∀ k, LeX z n le (itX z n step k) (itX z n step (k + 1))
 | 0 => hF.zero_le (hF.it_ok 1)
 | k + 1 => hF.round_mono (hF.it_ok k) (hF.it_ok (k + 1)) (hF.it_le k)
theorem Fx.rank_lt (hF : Fx z n le ok rank R step) {l m : List α} (h : OkX z n ok l) (h' : OkX z n ok m) (hl : LeX z n le l m) : rankX z n rank l ≤ rankX z n rank m ∧ (m ≠ l → rankX z n rank l < rankX z n rank m) := by
 obtain ⟨h1, h2⟩ := sum_mono (f := fun i => rank (List.getD l i z)) (f' := fun i => rank (List.getD m i z)) (n := n) fun i hi => (hF.rank_mono _ _ (h.2 i hi) (h'.2 i hi) (hl i hi)).1
 refine ⟨h1, fun hne => Nat.lt_of_le_of_ne h1 fun e => hne ?_⟩
 exact getD_ext z h'.1 h.1 fun i hi => ((hF.rank_mono _ _ (h.2 i hi) (h'.2 i hi) (hl i hi)).2 (h2 e i hi)).symm
theorem Fx.rankX_le (hF : Fx z n le ok rank R step) {l : List α} (h : OkX z n ok l) : rankX z n rank l ≤ n * R := sum_le fun i hi => hF.rank_le _ (h.2 i hi)
theorem Fx.it_end (hF : Fx z n le ok rank R step) : ∃ k, itX z n step (k + 1) = itX z n step k := by
 refine Classical.byContradiction fun hno => ?_
 have key : ∀ k, k ≤ rankX z n rank (itX z n step k) := by
  intro k
  induction k with
  | zero => exact Nat.zero_le _
  | succ k ih =>
    have := (hF.rank_lt (hF.it_ok k) (hF.it_ok (k + 1)) (hF.it_le k)).2 fun e => hno ⟨k, e⟩
    omega
 have h1 := key (n * R + 1)
 have h2 := hF.rankX_le (hF.it_ok (n * R + 1))
 omega
theorem itX_stay {k : Nat} (h : itX z n step (k + 1) = itX z n step k) : ∀ m, itX z n step (k + m) = itX z n step k
 | 0 => rfl
 | m + 1 => by
   show roundX n step (itX z n step (k + m)) = _
   rw [itX_stay h m]
   exact h
theorem fixX_is {k : Nat} (h : itX z n step (k + 1) = itX z n step k) : fixX z n step = itX z n step k := by
 unfold fixX
 have hx : ∃ k, itX z n step (k + 1) = itX z n step k := ⟨k, h⟩
 rw [dif_pos hx]
 have h2 := Classical.choose_spec hx
 generalize Classical.choose hx = j at h2
 rcases Nat.le_total j k with hjk | hjk
 ·obtain ⟨d, rfl⟩ := Nat.exists_eq_add_of_le hjk
  exact (itX_stay h2 d).symm
 ·obtain ⟨d, rfl⟩ := Nat.exists_eq_add_of_le hjk
  exact itX_stay h d
theorem Fx.fix_ok (hF : Fx z n le ok rank R step) : OkX z n ok (fixX z n step) := by
 obtain ⟨k, h⟩ := hF.it_end
 rw [fixX_is h]
 exact hF.it_ok k
theorem Fx.fix_fix (hF : Fx z n le ok rank R step) : roundX n step (fixX z n step) = fixX z n step := by
 obtain ⟨k, h⟩ := hF.it_end
 rw [fixX_is h]
 exact h
theorem Fx.fix_at (hF : Fx z n le ok rank R step) {i : Nat} (hi : i < n) : step (fixX z n step) i = List.getD (fixX z n step) i z := by
 conv => rhs; rw [← hF.fix_fix]
 unfold roundX
 rw [genR_get hi]
theorem Fx.fix_ind (hF : Fx z n le ok rank R step) (I : List α → Prop) (h0 : I (List.replicate n z)) (h : ∀ l, OkX z n ok l → I l → I (roundX n step l)) : I (fixX z n step) := by
 obtain ⟨k, hk⟩ := hF.it_end
 rw [fixX_is hk]
 clear hk
 induction k with
 | zero => exact h0
 | succ k ih => exact h _ (hF.it_ok k) ih
theorem Fx.fix_least (hF : Fx z n le ok rank R step) {l : List α} (h : OkX z n ok l) (hl : ∀ i, i < n → le (step l i) (List.getD l i z)) : LeX z n le (fixX z n step) l := by
 refine hF.fix_ind (fun m => LeX z n le m l) (hF.zero_le h) fun m hm ih i hi => ?_
 unfold roundX
 rw [genR_get hi]
 exact hF.trans _ _ _ (hF.step_mono m l i hm h ih hi) (hl i hi)
structure Chaos (z : α) (n : Nat) (le : α → α → Prop) (ok : α → Prop) (step : List α → Nat → α) (l : List α) : Prop where
 ok : OkX z n ok l
 below : LeX z n le l (fixX z n step)
 grows : ∀ i, i < n → le (List.getD l i z) (step l i)
theorem Fx.chaos_zero (hF : Fx z n le ok rank R step) : Chaos z n le ok step (List.replicate n z) := ⟨hF.zero_ok, hF.zero_le hF.fix_ok, fun i hi => by rw [zero_at]; exact hF.least _ (hF.step_ok _ i hF.zero_ok hi)⟩
theorem setD_at {l : List α} {i j : Nat} {v : α} (hi : i < l.length) : List.getD (List.set l i v) j z = if i = j then v else List.getD l j z := by
 rw [getD_set]
 by_cases e : i = j
 ·rw [if_pos ⟨e, hi⟩, if_pos e]
 ·rw [if_neg (fun h => e h.1), if_neg e]
theorem Fx.chaos_set (hF : Fx z n le ok rank R step) {l : List α} (h : Chaos z n le ok step l) {i : Nat} (hi : i < n) : Chaos z n le ok step (List.set l i (step l i)) ∧ (step l i ≠ List.getD l i z → rankX z n rank l < rankX z n rank (List.set l i (step l i))) := by
 have hl := h.ok.1
 have hat : ∀ j, List.getD (List.set l i (step l i)) j z = if i = j then step l i else List.getD l j z := fun j => setD_at (by omega)
 have hok : OkX z n ok (List.set l i (step l i)) := ⟨by rw [List.length_set, hl], fun j hj => by
  rw [hat]
  split
  ·exact hF.step_ok l i h.ok hi
  ·exact h.ok.2 j hj⟩
 have hle : LeX z n le l (List.set l i (step l i)) := fun j hj => by
  rw [hat]
  split
  ·rename_i e; subst e; exact h.grows i hi
  ·exact hF.refl _
 refine ⟨⟨hok, fun j hj => ?_, fun j hj => ?_⟩, fun hne => ?_⟩
 ·rw [hat]
  split
  ·rename_i e
   subst e
   rw [← hF.fix_at hi]
   exact hF.step_mono _ _ i h.ok hF.fix_ok h.below hi
  ·exact h.below j hj
 ·rw [hat]
  split
  ·rename_i e
   subst e
   exact hF.step_mono _ _ i h.ok hok hle hi
  ·exact hF.trans _ _ _ (h.grows j hj) (hF.step_mono _ _ j h.ok hok hle hj)
 ·refine (hF.rank_lt h.ok hok hle).2 fun e => hne ?_
  rw [← hat i |>.trans (if_pos rfl), e]
theorem Fx.chaos_end (hF : Fx z n le ok rank R step) {l : List α} (h : Chaos z n le ok step l) (he : ∀ i, i < n → step l i = List.getD l i z) : l = fixX z n step := by
 have hge := hF.fix_least h.ok fun i hi => by rw [he i hi]; exact hF.refl _
 exact getD_ext z h.ok.1 hF.fix_ok.1 fun i hi => hF.anti (h.ok.2 i hi) (hF.fix_ok.2 i hi) (h.below i hi) (hge i hi)
end
end Go.Proofs
/-! Chapter 11: what is known of beginnings grows. -/
namespace Go.Proofs
open Go Go.Abs
set_option linter.unusedSimpArgs false
def leF (a b : Fi) : Prop := (∀ i, i < 256 → bitS a.1 i = true → bitS b.1 i = true) ∧ (a.2.1 = true → b.2.1 = true) ∧ (a.2.2.1 = true → b.2.2.1 = true)
theorem leF.refl (a : Fi) : leF a a := ⟨fun _ _ h => h, fun h => h, fun h => h⟩
theorem leF.trans {a b c : Fi} (h : leF a b) (k : leF b c) : leF a c := ⟨fun i hi g => k.1 i hi (h.1 i hi g), fun g => k.2.1 (h.2.1 g), fun g => k.2.2 (h.2.2 g)⟩
def okF (a : Fi) : Prop := CanS a.1
theorem leF.zero (a : Fi) : leF zFirsts a := ⟨fun i _ h => (by rw [show bitS zFirsts.1 i = false from bit_zero i] at h; cases h), fun h => (by cases h), fun h => (by cases h)⟩
def rankF (a : Fi) : Nat := sumTo (fun i => if bitS a.1 i = true then 1 else 0) 256 + (if a.2.1 = true then 1 else 0) + (if a.2.2.1 = true then 1 else 0)
theorem rankF_le (a : Fi) : rankF a ≤ 258 := by
 have h := sum_le (f := fun i => if bitS a.1 i = true then 1 else 0) (m := 1) (n := 256) fun i _ => by split <;> omega
 unfold rankF
 split <;> split <;> omega
theorem rankF_mono {a b : Fi} (ha : okF a) (hb : okF b) (h : leF a b) : rankF a ≤ rankF b ∧ (rankF a = rankF b → a = b) := by
 obtain ⟨h1, h2, h3⟩ := h
 obtain ⟨s1, s2⟩ := sum_mono (f := fun i => if bitS a.1 i = true then 1 else 0) (f' := fun i => if bitS b.1 i = true then 1 else 0) (n := 256) fun i hi => by
  by_cases hx : bitS a.1 i = true
  ·rw [if_pos hx, if_pos (h1 i hi hx)]; exact Nat.le_refl _
  ·rw [if_neg hx]; exact Nat.zero_le _
 obtain ⟨a0, ae, ah, _⟩ := a
 obtain ⟨b0, be, bh, _⟩ := b
 unfold rankF
 simp only at *
 have hE : (if ae = true then 1 else 0) ≤ (if be = true then 1 else 0) := by cases ae <;> cases be <;> simp at h2 ⊢
 have hH : (if ah = true then 1 else 0) ≤ (if bh = true then 1 else 0) := by cases ah <;> cases bh <;> simp at h3 ⊢
 refine ⟨by omega, fun e => ?_⟩
 have eS := s2 (by omega)
 have eE : (if ae = true then 1 else 0) = (if be = true then 1 else 0) := by omega
 have eH : (if ah = true then 1 else 0) = (if bh = true then 1 else 0) := by omega
 have hs : a0 = b0 := setS_ext ha hb fun i hi => by
  have := eS i hi
  cases hx : bitS a0 i <;> cases hy : bitS b0 i <;> simp [hx, hy] at this ⊢
 have he : ae = be := by cases ae <;> cases be <;> simp at eE ⊢
 have hh : ah = bh := by cases ah <;> cases bh <;> simp at eH ⊢
 rw [hs, he, hh]
theorem bit_union (a b : SetD) {i : Nat} (hi : i < 256) : bitS (unionS a b) i = (bitS a i || bitS b i) := bit_mk _ hi
theorem mono_nodeF {n : NodeD} {c a b c' a' b' : Fi} {f : Bool} (hc : leF c c') (ha : leF a a') (hb : leF b b') : leF (nodeF n c a b f) (nodeF n c' a' b' f) := by
 obtain ⟨a1, a2, a3⟩ := ha
 obtain ⟨b1, b2, b3⟩ := hb
 have hu : ∀ i, i < 256 → bitS (unionS a.1 b.1) i = true → bitS (unionS a'.1 b'.1) i = true := fun i hi h => by
  rw [bit_union _ _ hi, Bool.or_eq_true] at h ⊢
  exact h.imp (a1 i hi) (b1 i hi)
 have h7 : ∀ i, i < 256 → bitS (if a.2.1 = true then unionS a.1 b.1 else a.1) i = true → bitS (if a'.2.1 = true then unionS a'.1 b'.1 else a'.1) i = true := fun i hi h => by
  by_cases e : a.2.1 = true
  ·rw [if_pos e] at h
   rw [if_pos (a2 e)]
   exact hu i hi h
  ·rw [if_neg e] at h
   split
   ·rw [bit_union _ _ hi, a1 i hi h]; rfl
   ·exact a1 i hi h
 have hand : ∀ {x y x' y' : Bool}, (x = true → x' = true) → (y = true → y' = true) → (x && y) = true → (x' && y') = true := fun h1 h2 h => by
  rw [Bool.and_eq_true] at h ⊢
  exact ⟨h1 h.1, h2 h.2⟩
 have hor : ∀ {x y x' y' : Bool}, (x = true → x' = true) → (y = true → y' = true) → (x || y) = true → (x' || y') = true := fun h1 h2 h => by
  rw [Bool.or_eq_true] at h ⊢
  exact h.imp h1 h2
 unfold nodeF
 by_cases g0 : n.1 = 1 ∨ n.1 = 17 ∨ n.1 = 13
 ·rw [if_pos g0, if_pos g0]; exact leF.refl _
 rw [if_neg g0, if_neg g0]
 by_cases g1 : n.1 = 2
 ·rw [if_pos g1, if_pos g1]; exact leF.refl _
 rw [if_neg g1, if_neg g1]
 by_cases g2 : n.1 = 3
 ·rw [if_pos g2, if_pos g2]; exact leF.refl _
 rw [if_neg g2, if_neg g2]
 by_cases g3 : n.1 = 4
 ·rw [if_pos g3, if_pos g3]; exact leF.refl _
 rw [if_neg g3, if_neg g3]
 by_cases g4 : n.1 = 5
 ·rw [if_pos g4, if_pos g4]; exact leF.refl _
 rw [if_neg g4, if_neg g4]
 by_cases g5 : n.1 = 6
 ·rw [if_pos g5, if_pos g5]; exact hc
 rw [if_neg g5, if_neg g5]
 by_cases g6 : n.1 = 7
 ·rw [if_pos g6, if_pos g6]; exact ⟨h7, hand a2 b2, hand a3 fun h => h⟩
 rw [if_neg g6, if_neg g6]
 by_cases g7 : n.1 = 8
 ·rw [if_pos g7, if_pos g7]; exact ⟨hu, hor a2 b2, hand a3 b3⟩
 rw [if_neg g7, if_neg g7]
 by_cases g8 : n.1 = 9 ∨ n.1 = 11
 ·rw [if_pos g8, if_pos g8]; exact ⟨a1, fun h => h, fun h => h⟩
 rw [if_neg g8, if_neg g8]
 by_cases e1 : n.1 = 16
 ·rw [if_pos e1, if_pos e1]
  by_cases h0 : n.2.1 = 0
  ·rw [if_pos h0, if_pos h0]; exact leF.refl _
  ·rw [if_neg h0, if_neg h0]; exact ⟨a1, fun h => h, fun h => h⟩
 rw [if_neg e1, if_neg e1]
 by_cases e2 : n.1 = 14
 ·rw [if_pos e2, if_pos e2]
  by_cases h0 : n.2.1 = 0
  ·rw [if_pos h0, if_pos h0]; exact leF.refl _
  ·rw [if_neg h0, if_neg h0]; exact ⟨a1, a2, hand a3 fun h => h⟩
 rw [if_neg e2, if_neg e2]
 by_cases e3 : n.1 = 15
 ·rw [if_pos e3, if_pos e3]
  by_cases h0 : n.2.1 = 0
  ·rw [if_pos h0, if_pos h0]; exact ⟨a1, fun h => h, fun h => h⟩
  ·rw [if_neg h0, if_neg h0]; exact ⟨a1, a2, hand a3 fun h => h⟩
 rw [if_neg e3, if_neg e3]
 exact ⟨a1, a2, a3⟩
def CanG (g : G) : Prop := ∀ r, r ∈ g → CanP r.2.1
theorem canG_at {g : G} (h : CanG g) {i : Nat} (hi : i < g.length) : CanP (rth g i).2.1 := h _ (getD_memR hi)
theorem callF_in {g : G} (hg : RG g) (n : NodeD) : ∃ q, q < g.length ∧ ∀ now, callF g now n = List.getD now q zFirsts := by
 unfold callF
 cases h : findR g n.2.2.1 with
 | none => exact ⟨0, hg.pos, fun _ => rfl⟩
 | some q => exact ⟨q, (findR_at h).1, fun _ => rfl⟩
noncomputable def stepF (g : G) (now : List Fi) (i : Nat) : Fi := valF (callE g (fixE g)) (callF g now) (rth g i).2.1 ((rth g i).2.1.length - 1)
theorem callF_can {g : G} (hg : RG g) {now : List Fi} (h : OkX zFirsts g.length okF now) (n : NodeD) : CanS (callF g now n).1 := by
 obtain ⟨q, hq, e⟩ := callF_in hg n
 rw [e]
 exact h.2 q hq
theorem fxF {g : G} (hg : RG g) (hc : CanG g) : Fx zFirsts g.length leF okF rankF 258 (stepF g) where
 refl := leF.refl
 trans := fun _ _ _ h k => h.trans k
 bot := can_zero
 least := fun a _ => leF.zero a
 rank_le := fun a _ => rankF_le a
 rank_mono := fun a b ha hb h => rankF_mono ha hb h
 step_ok := fun l i hl hi => by
  obtain ⟨p1, p2, _⟩ := good_pos hg hi
  exact can_val p1 (canG_at hc hi) (fun k _ => callF_can hg hl _) _ (by omega)
 step_mono := fun l m i hl hm hle hi => by
  obtain ⟨p1, p2, _⟩ := good_pos hg hi
  have key := gen_ind2 (z := zP) (z' := zP) (f := nodeP (callE g (fixE g)) (callF g l)) (f' := nodeP (callE g (fixE g)) (callF g m)) p1 (fun x y => x.1 = y.1 ∧ leF x.2 y.2) ⟨rfl, leF.refl _⟩ (fun k _ a b a' b' ha hb => by
   obtain ⟨q, hq, e⟩ := callF_in hg (nth (rth g i).2.1 k)
   unfold nodeP
   rw [ha.1, hb.1, e, e]
   exact ⟨rfl, mono_nodeF (hle q hq) ha.2 hb.2⟩) ((rth g i).2.1.length - 1) (by omega)
  exact key.2
noncomputable def fixF (g : G) : List Fi := fixX zFirsts g.length (stepF g)
end Go.Proofs
/-! Chapter 11: what is known of all rules, by the book and by the program. -/
namespace Go.Proofs
open Go Go.Abs
set_option linter.unusedSimpArgs false
theorem eqbF (x y : Fi) : Ty.eqb (Ty.st [tSet, Ty.bool, Ty.bool]) x y = pb (x = y) := by
 by_cases h : x = y
 ·subst h
  rw [pb_t rfl]
  exact eqb_refl (t := Ty.st [tSet, Ty.bool, Ty.bool]) x rfl
 ·rw [pb_f h]
  cases e : Ty.eqb (Ty.st [tSet, Ty.bool, Ty.bool]) x y with
  | false => rfl
  | true => exact absurd (eqb_eq e) h
noncomputable def longE (g : G) : List (List Em) := genR g.length fun i => vals9 (callE g (fixE g)) (rth g i).2.1 (rth g i).2.1.length
theorem long_at {g : G} {i : Nat} (hi : i < g.length) : List.getD (longE g) i [] = vals9 (callE g (fixE g)) (rth g i).2.1 (rth g i).2.1.length := genR_get hi
theorem rule_calls {g : G} (hg : RG g) {i : Nat} (hi : i < g.length) : ∀ k, k < (rth g i).2.1.length → (nth (rth g i).2.1 k).1 = 6 → ∃ q, findR g (nth (rth g i).2.1 k).2.2.1 = some q := fun k hk h6 => hg.calls (rth g i) (getD_memR hi) _ (by rw [show nth (rth g i).2.1 k = List.getD (rth g i).2.1 k zNode by simp [nth]]; exact getD_in hk) h6
theorem partsF_at {g : G} (hg : RG g) (hc : CanG g) {now : List Fi} (h : OkX zFirsts g.length okF now) {i : Nat} (hi : i < g.length) : F_ref11_parts ((g, ()), (rth g i).2.1, vals9 (callE g (fixE g)) (rth g i).2.1 (rth g i).2.1.length, now, ()) = some (valsF (callE g (fixE g)) (callF g now) (rth g i).2.1 (rth g i).2.1.length, ()) :=
 q_partsF (good_pos hg hi).1 (canG_at hc hi) hg.len h.1 h.2 (rule_calls hg hi) (fun k _ => callF_can hg h _)
theorem lastF_at {g : G} {now : List Fi} {i : Nat} (h : 0 < (rth g i).2.1.length) : List.getD (valsF (callE g (fixE g)) (callF g now) (rth g i).2.1 (rth g i).2.1.length) ((rth g i).2.1.length - 1) zFirsts = stepF g now i := valsF_at (by omega)
theorem same_roundF {g : G} {now : List Fi} (h : now.length = g.length) : (∀ j, j < g.length → stepF g now j = List.getD now j zFirsts) ↔ roundX g.length (stepF g) now = now := by
 constructor
 ·intro hh
  exact getD_ext zFirsts genR_len h fun j hj => by unfold roundX; rw [genR_get hj]; exact hh j hj
 ·intro e j hj
  conv => rhs; rw [← e]
  unfold roundX
  rw [genR_get hj]
open Classical in
theorem q_Known11 {g : G} (hg : RG g) (hc : CanG g) : F_ref11_Known ((g, ()), ()) = some (fixF g, ()) := by
 have hn := hg.len
 have hm := hg.pos
 have hX := fxF hg hc
 unfold F_ref11_Known
 simp only [toPb, eqbF]
 rw [need_pos (by omega), q_Known9 hg, bind_t]
 dsimp only
 have hQ : (List.replicate g.length zFirsts).length = g.length := List.length_replicate
 refine loop_up (σ := (Int × Unit) × List (List EmptinessD) × List FirstsD × GrammarD × Unit) g.length (fun i => (((i : Int), ()), List.take i (longE g), List.replicate g.length zFirsts, (g, ()), ())) ?_ ?_ ?_
 ·rw [Int.toNat_natCast]; rfl
 ·intro i hi
  have hLl : (longE g).length = g.length := genR_len
  have hl : (List.take i (longE g)).length = i := by rw [List.length_take, hLl]; omega
  dsimp only
  simp only [Int.toNat_natCast, hl, hQ]
  rw [pos (by omega), need_pos (by omega)]
  unfold F_ref09_Nodes
  dsimp only
  rw [show List.getD g i zRule = rth g i from rfl, parts_at hg (fix_rg hg) hi, bind_t, bind_t]
  dsimp only
  rw [need_pos (by omega), need64 (by omega) (by omega), cast_succ, take_succD (d := []) (by omega), long_at hi]
 ·dsimp only
  have hLl : (longE g).length = g.length := genR_len
  rw [hQ, neg (by omega), show List.take g.length (longE g) = longE g by rw [← hLl]; exact List.take_length]
  refine (congrArg (fun o => Option.bind o (fun val1 => some (Sum.inr val1))) (a₂ := some (fixF g, ())) ?_).trans rfl
  refine loopC_gh (γ := Nat) (σ := (List (List EmptinessD) × List FirstsD × Unit) × GrammarD × Unit) (I := fun k s => s = ((longE g, itX zFirsts g.length (stepF g) k, ()), (g, ()), ())) (μ := fun k => g.length * 258 - rankX zFirsts g.length rankF (itX zFirsts g.length (stepF g) k)) (F := fun _ => (fixF g, ())) ?_ 0 _ rfl
  rintro k s rfl
  have hR := hX.it_ok k
  dsimp only
  rw [hR.1]
  simp only [Int.toNat_natCast, Nat.zero_add, hR.1]
  rw [need_pos (by omega)]
  refine or_of (fun a => a = if roundX g.length (stepF g) (itX zFirsts g.length (stepF g) k) = itX zFirsts g.length (stepF g) k then Sum.inr (fixF g, ()) else Sum.inl ((longE g, itX zFirsts g.length (stepF g) (k + 1), ()), (g, ()), ())) ⟨_, ?_, rfl⟩ ?_
  ·refine loop_up (σ := (Int × Bool × Unit) × List FirstsD × GrammarD × Unit) g.length (fun i => (((i : Int), pb (∀ j, j < i → stepF g (itX zFirsts g.length (stepF g) k) j = List.getD (itX zFirsts g.length (stepF g) k) j zFirsts), ()), gone (List.replicate g.length zFirsts) (stepF g (itX zFirsts g.length (stepF g) k)) i, (g, ()), ())) ?_ ?_ ?_
   ·rw [pb_t (by intro j hj; omega)]
    rfl
   ·intro i hi
    obtain ⟨p1, p2, p3⟩ := good_pos hg hi
    generalize itX zFirsts g.length (stepF g) k = now at hR ⊢
    have hGm : (gone (List.replicate g.length zFirsts) (stepF g now) i).length = g.length := by rw [gone_len (by omega), hQ]
    have hvl : (valsF (callE g (fixE g)) (callF g now) (rth g i).2.1 (rth g i).2.1.length).length = (rth g i).2.1.length := valsF_len
    have hbody : List.getD g i zRule = rth g i := rfl
    have e1 : Int.toNat (((rth g i).2.1.length : Int) - 1) = (rth g i).2.1.length - 1 := by omega
    dsimp only
    simp only [Int.toNat_natCast, hGm, hLl, hbody, long_at hi]
    rw [pos (by omega), need_pos (by omega), need_pos (by omega), need64 (by omega) (by omega), partsF_at hg hc hR hi, bind_t]
    dsimp only
    simp only [hvl, e1, lastF_at p2, List.length_set, hGm]
    have hset := gone_set (p := List.replicate g.length zFirsts) (f := stepF g now) (i := i) (by omega)
    have hA : List.getD (gone (List.replicate g.length zFirsts) (stepF g now) (i + 1)) i zFirsts = stepF g now i := by rw [← hset, set_at (by omega)]
    rw [need_pos (by omega), need_pos (by omega), need_pos (by omega), need_pos hi, need_pos (by omega), need_pos hi, need_pos (by omega), hset, hA]
    have hfl : sel (pb (∀ j, j < i → stepF g now j = List.getD now j zFirsts)) (some (pb (stepF g now i = List.getD now i zFirsts))) (some false) = some (pb (∀ j, j < i + 1 → stepF g now j = List.getD now j zFirsts)) := by
     by_cases h1 : ∀ j, j < i → stepF g now j = List.getD now j zFirsts
     ·rw [pos h1]
      congr 1
      apply pb_congr
      constructor
      ·intro h2 j hj
       by_cases e : j = i
       ·subst e; exact h2
       ·exact h1 j (by omega)
      ·intro h2; exact h2 i (by omega)
     ·rw [neg h1, pb_f fun h2 => h1 fun j hj => h2 j (by omega)]
    rw [hfl, bind_t, need64 (by omega) (by omega), cast_succ]
   ·dsimp only
    rw [neg (by omega), gone_same]
    by_cases h : roundX g.length (stepF g) (itX zFirsts g.length (stepF g) k) = itX zFirsts g.length (stepF g) k
    ·rw [if_pos h, pos ((same_roundF hR.1).2 h), ← fixX_is h]
     rfl
    ·rw [if_neg h, neg (fun h2 => h ((same_roundF hR.1).1 h2))]
     rfl
  ·rintro a rfl
   by_cases h : roundX g.length (stepF g) (itX zFirsts g.length (stepF g) k) = itX zFirsts g.length (stepF g) k
   ·rw [if_pos h]; exact .inr rfl
   ·rw [if_neg h]
    refine .inl ⟨k + 1, _, rfl, rfl, ?_, trivial⟩
    have h1 := (hX.rank_lt (hX.it_ok k) (hX.it_ok (k + 1)) (hX.it_le k)).2 h
    have h2 := hX.rankX_le (hX.it_ok (k + 1))
    omega
end Go.Proofs
