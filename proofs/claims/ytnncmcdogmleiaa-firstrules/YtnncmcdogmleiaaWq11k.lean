/- Part of the proof of the law's row: YtnncmcdogmleiaaWq11k. -/
import Derived.Test.YtnncmcdogmleiaaWq11h
set_option linter.all false
set_option linter.unusedVariables false
set_option linter.unusedSimpArgs false
/-! Chapter 11: what is known of all rules, by the program. -/
namespace Go.Proofs
open Go Go.Abs
set_option linter.unusedSimpArgs false
theorem mfind_put {β : Type} {x y : ByteArray} {v : β} : ∀ {l : List (ByteArray × β)}, mfind eqS (mput eqS l x v) y = if x = y then some v else mfind eqS l y
 | [] => by
   unfold mput mfind
   by_cases h : x = y
   ·rw [if_pos h, if_pos (eqS_iff.2 h.symm)]
   ·rw [if_neg h, if_neg (fun e => h (eqS_iff.1 e).symm)]
    rfl
 | (k, u) :: l => by
   unfold mput
   by_cases hk : eqS x k = true
   ·rw [if_pos hk]
    have e := eqS_iff.1 hk
    subst e
    unfold mfind
    by_cases h : x = y
    ·rw [if_pos h, if_pos (eqS_iff.2 h.symm)]
    ·rw [if_neg h, if_neg (fun e => h (eqS_iff.1 e).symm), if_neg (fun e => h (eqS_iff.1 e).symm)]
   ·rw [if_neg hk]
    unfold mfind
    by_cases h : eqS y k = true
    ·have e := eqS_iff.1 h
     subst e
     rw [if_pos h, if_pos h, if_neg (fun e => hk (eqS_iff.2 e))]
    ·rw [if_neg h, if_neg h]
     exact mfind_put
def MapOk (g : G) (m : List (ByteArray × Fi)) (l : List Fi) : Prop := ∀ i, i < g.length → Option.getD (mfind eqS m (rth g i).1) zFirsts = List.getD l i zFirsts
theorem name_inj {g : G} (hg : RG g) {i j : Nat} (hi : i < g.length) (hj : j < g.length) (h : (rth g i).1 = (rth g j).1) : i = j := by
 have h1 := find_name hg hi
 have h2 := find_name hg hj
 rw [h] at h1
 rw [h1] at h2
 exact Option.some.inj h2
theorem MapOk.call {g : G} {m : List (ByteArray × Fi)} {l : List Fi} (h : MapOk g m l) {n : NodeD} {q : Nat} (hq : findR g n.2.2.1 = some q) : Option.getD (mfind eqS m n.2.2.1) zFirsts = callF g l n := by
 obtain ⟨h1, h2, _⟩ := findR_at hq
 have := h q h1
 rw [show (rth g q).1 = n.2.2.1 from h2] at this
 rw [this]
 unfold callF
 rw [hq]
 rfl
theorem MapOk.put {g : G} (hg : RG g) {m : List (ByteArray × Fi)} {l : List Fi} (hl : l.length = g.length) (h : MapOk g m l) {i : Nat} (hi : i < g.length) (v : Fi) : MapOk g (mput eqS m (rth g i).1 v) (List.set l i v) := by
 intro j hj
 rw [mfind_put, setD_at (by omega)]
 by_cases e : i = j
 ·subst e
  rw [if_pos rfl, if_pos rfl]
  rfl
 ·rw [if_neg (fun h2 => e (name_inj hg hi hj h2)), if_neg e]
  exact h j hj
theorem begF_at {g : G} (hg : RG g) (hc : CanG g) {now : List Fi} (h : OkX zFirsts g.length okF now) {m : List (ByteArray × Fi)} (hm : MapOk g m now) {i : Nat} (hi : i < g.length) : F_gist_Beginnings_fi ((rth g i).2.1, vals9 (callE g (fixE g)) (rth g i).2.1 (rth g i).2.1.length, m, ()) = some (valsF (callE g (fixE g)) (callF g now) (rth g i).2.1 (rth g i).2.1.length, m, ()) :=
 q_begF (good_pos hg hi).1 (canG_at hc hi) (fun k hk h6 => by
  obtain ⟨q, hq⟩ := rule_calls hg hi k hk h6
  exact hm.call hq) (fun k _ => callF_can hg h _)
abbrev ChF (g : G) (l : List Fi) : Prop := Chaos zFirsts g.length leF okF (stepF g) l
theorem ex_pair {A : Type} {X : Option (A × Unit)} {Q : A → Prop} (h : ∃ r, X = some r ∧ Q r.1) : ∃ m, X = some (m, ()) ∧ Q m := by
 obtain ⟨⟨m, _⟩, h1, h2⟩ := h
 exact ⟨m, h1, h2⟩
theorem loop_up_ex {σ ρ : Type} {B : σ → Option (σ ⊕ ρ)} {P : ρ → Prop} (n : Nat) (st : Nat → σ) {s0 : σ} (h0 : st 0 = s0) (step : ∀ i, i < n → B (st i) = some (.inl (st (i + 1)))) (fin : ∃ r, B (st n) = some (.inr r) ∧ P r) : ∃ r, loopC B s0 = some r ∧ P r := by
 obtain ⟨r, h1, h2⟩ := fin
 exact ⟨r, loop_up n st h0 step h1, h2⟩
theorem bind_inr_ex {σ ρ : Type} {X : Option ρ} {P : ρ → Prop} (h : ∃ r, X = some r ∧ P r) : ∃ r, Option.bind X (fun v => some (Sum.inr v : σ ⊕ ρ)) = some (Sum.inr r) ∧ P r := by
 obtain ⟨r, rfl, h2⟩ := h
 exact ⟨r, rfl, h2⟩
open Classical in
theorem q_gFirsts {g : G} (hg : RG g) (hc : CanG g) : ∃ m, F_gist_Firsts ((g, ()), ()) = some (m, ()) ∧ MapOk g m (fixF g) := by
 have hn := hg.len
 have hm := hg.pos
 have hX := fxF hg hc
 unfold F_gist_Firsts
 simp only [toPb, eqbF, both_eq]
 rw [q_gEmpt hg, bind_t]
 dsimp only
 have hLl : (longE g).length = g.length := genR_len
 refine ex_pair (loop_up_ex (σ := (Int × Unit) × List (List EmptinessD) × List EmptinessD × List (ByteArray × Int) × List (ByteArray × FirstsD) × GrammarD × Unit) g.length (fun i => (((i : Int), ()), List.take i (longE g), fixE g, nums g, [], (g, ()), ())) rfl ?_ ?_)
 ·intro i hi
  have hl : (List.take i (longE g)).length = i := by rw [List.length_take, hLl]; omega
  dsimp only
  simp only [Int.toNat_natCast]
  rw [pos (by omega), need_pos (by omega), show List.getD g i zRule = rth g i from rfl, lengths_at hg (fix_rg hg) hi, bind_t]
  dsimp only
  rw [hl, need_pos (by omega), need64 (by omega) (by omega), cast_succ, take_succD (d := []) (by omega), long_at hi]
 dsimp only
 rw [neg (by omega), show List.take g.length (longE g) = longE g by rw [← hLl]; exact List.take_length]
 have hgen : ∀ {l : List Fi} {m : List (ByteArray × Fi)}, l.length = g.length → MapOk g m l → (genR g.length fun i => Option.getD (mfind eqS m (rth g i).1) zFirsts) = l := fun hl hm => getD_ext zFirsts genR_len hl fun i hi => by rw [genR_get hi]; exact hm i hi
 refine bind_inr_ex (loopC_ends (σ := (Bool × Unit) × List (List EmptinessD) × List (ByteArray × FirstsD) × GrammarD × Unit)
   (fun s => ∃ (l : List Fi) (m : List (ByteArray × Fi)) (b : Bool), s = ((b, ()), longE g, m, (g, ()), ()) ∧ MapOk g m l ∧ ChF g l ∧ (b = false → l = fixF g))
   (fun s => if s.1.1 = true then g.length * 258 - rankX zFirsts g.length rankF (genR g.length fun i => Option.getD (mfind eqS s.2.2.1 (rth g i).1) zFirsts) + 1 else 0)
   (fun (r : List (ByteArray × FirstsD) × Unit) => MapOk g r.1 (fixF g)) ?_ ((true, ()), longE g, [], (g, ()), ()) ⟨List.replicate g.length zFirsts, [], true, rfl, fun i hi => by rw [zero_at]; rfl, hX.chaos_zero, fun h => by cases h⟩)
 rintro s ⟨l, m, b, rfl, hM, hC, hb⟩
 dsimp only
 cases b with
 | false =>
   refine .inr ⟨_, by rw [sel_f], ?_⟩
   rw [← hb rfl]
   exact hM
 | true =>
   refine .inl ?_
   rw [sel_t, hgen hC.ok.1 hM]
   have wrap : ∀ {X : Option (((Bool × Unit) × List (List EmptinessD) × List (ByteArray × FirstsD) × GrammarD × Unit) ⊕ (List (ByteArray × FirstsD) × Unit))}, (∃ a, X = some (Sum.inl a) ∧ ∃ (l' : List Fi) (m' : List (ByteArray × Fi)) (b' : Bool), a = ((b', ()), longE g, m', (g, ()), ()) ∧ MapOk g m' l' ∧ ChF g l' ∧ (b' = false → l' = l ∧ ∀ j, j < g.length → stepF g l j = List.getD l j zFirsts) ∧ (b' = true → rankX zFirsts g.length rankF l < rankX zFirsts g.length rankF l')) →
     ∃ s', X = some (Sum.inl s') ∧ (∃ (l : List Fi) (m : List (ByteArray × Fi)) (b : Bool), s' = ((b, ()), longE g, m, (g, ()), ()) ∧ MapOk g m l ∧ ChF g l ∧ (b = false → l = fixF g)) ∧ (if s'.1.1 = true then g.length * 258 - rankX zFirsts g.length rankF (genR g.length fun i => Option.getD (mfind eqS s'.2.2.1 (rth g i).1) zFirsts) + 1 else 0) < (if (true : Bool) = true then g.length * 258 - rankX zFirsts g.length rankF l + 1 else 0) := by
    rintro X ⟨a, h1, l', m', b', rfl, hM', hC', hf, ht⟩
    refine ⟨_, h1, ⟨l', m', b', rfl, hM', hC', fun hb' => ?_⟩, ?_⟩
    ·obtain ⟨f1, f2⟩ := hf hb'
     subst f1
     exact hX.chaos_end hC f2
    ·dsimp only
     rw [hgen hC'.ok.1 hM', if_pos rfl]
     have hr := hX.rankX_le hC'.ok
     cases b' with
     | false => rw [if_neg (by simp)]; omega
     | true =>
       have := ht rfl
       rw [if_pos rfl]
       omega
   refine wrap (loopC_ex (f := Sum.inl)
      (fun s => ∃ (i : Nat) (l' : List Fi) (m' : List (ByteArray × Fi)) (b' : Bool), i ≤ g.length ∧ s = (((i : Int), b', ()), longE g, m', (g, ()), ()) ∧ MapOk g m' l' ∧ ChF g l' ∧ (b' = false → l' = l ∧ ∀ j, j < i → stepF g l j = List.getD l j zFirsts) ∧ (b' = true → rankX zFirsts g.length rankF l < rankX zFirsts g.length rankF l'))
      (fun s => g.length - Int.toNat s.1.1) ?_ ⟨0, l, m, false, by omega, rfl, hM, hC, fun _ => ⟨rfl, fun j hj => by omega⟩, fun h => by cases h⟩)
   rintro s ⟨i, l', m', b', hi, rfl, hM', hC', hf, ht⟩
   dsimp only
   simp only [Int.toNat_natCast, Nat.zero_add, hLl]
   by_cases hlt : i < g.length
   ·obtain ⟨p1, p2, p3⟩ := good_pos hg hlt
    have hvl : (valsF (callE g (fixE g)) (callF g l') (rth g i).2.1 (rth g i).2.1.length).length = (rth g i).2.1.length := valsF_len
    have e1 : Int.toNat (((rth g i).2.1.length : Int) - 1) = (rth g i).2.1.length - 1 := by omega
    have meas : g.length - Int.toNat ((i : Int) + 1) < g.length - i := by omega
    rw [pos (by omega), need_pos (by omega), need_pos (by omega), need_pos hlt, show List.getD g i zRule = rth g i from rfl, need64 (by omega) (by omega), long_at hlt, begF_at hg hc hC'.ok hM' hlt, bind_t]
    dsimp only
    rw [hvl, e1, lastF_at p2, need_pos (by omega), hM' i hlt]
    by_cases he : stepF g l' i = List.getD l' i zFirsts
    ·refine .inl ⟨_, by rw [npos he, need64 (by omega) (by omega)], ⟨i + 1, l', m', b', by omega, by rw [cast_succ], hM', hC', fun hb' => ?_, ht⟩, meas⟩
     obtain ⟨f1, f2⟩ := hf hb'
     refine ⟨f1, fun j hj => ?_⟩
     by_cases e : j = i
     ·subst e; rw [← f1]; exact he
     ·exact f2 j (by omega)
    ·obtain ⟨c1, c2⟩ := hX.chaos_set hC' hlt
     have c2 := c2 he
     refine .inl ⟨_, by rw [nneg he, need64 (by omega) (by omega)], ⟨i + 1, List.set l' i (stepF g l' i), _, true, by omega, by rw [cast_succ], hM'.put hg hC'.ok.1 hlt _, c1, fun h => (by cases h), fun _ => ?_⟩, meas⟩
     cases b' with
     | false => rw [← (hf rfl).1]; exact c2
     | true => exact Nat.lt_trans (ht rfl) c2
   ·have : i = g.length := by omega
    subst this
    exact .inr ⟨_, by rw [neg (by omega)], l', m', b', rfl, hM', hC', hf, ht⟩
end Go.Proofs
/-! Chapter 11: what the programs answer. -/
namespace Go.Proofs
open Go Go.Abs
set_option linter.unusedSimpArgs false
theorem q_look11 {g : G} (hg : RG g) (p : List NodeD) : F_first_look ((g, ()), p, ()) = some (lookV g p, ()) := by
 have := q_look9 hg p
 unfold F_empty_look at this
 unfold F_first_look
 exact this
theorem fixF_ok {g : G} (hg : RG g) (hc : CanG g) : OkX zFirsts g.length okF (fixF g) := (fxF hg hc).fix_ok
noncomputable def fixH (g : G) : List Fi := if (chkG g).2 = 0 then fixF g else []
theorem q_fRules (g : G) (hc : CanG g) : F_first_Rules ((g, ()), ()) = some ((chkG g).2, fixH g, ()) := by
 unfold F_first_Rules
 simp only [toPb, q_checkG, bind_t]
 dsimp only [outE]
 by_cases h : (chkG g).2 = 0
 ·have hg := rg_of h
  have hn := hg.len
  have hF := fixF_ok hg hc
  obtain ⟨m, hm1, hm2⟩ := q_gFirsts hg hc
  rw [npos h, hm1, bind_t]
  unfold fixH
  rw [if_pos h]
  refine loop_up (σ := (Int × Unit) × List FirstsD × List (ByteArray × FirstsD) × Unit) g.length (fun i => (((i : Int), ()), List.take i (fixF g), m, ())) rfl ?_ ?_
  ·intro i hi
   have htl : (List.take i (fixF g)).length = i := by rw [List.length_take, hF.1]; omega
   dsimp only
   simp only [Int.toNat_natCast]
   rw [pos (by omega), need_pos (by omega), show List.getD g i zRule = rth g i from rfl]
   unfold F_gist_Firsts_1
   dsimp only
   rw [bind_t]
   dsimp only
   rw [hm2 i hi, htl, need_pos (by omega), need64 (by omega) (by omega), cast_succ, take_succD (d := zFirsts) (by rw [hF.1]; exact hi)]
  ·dsimp only
   rw [neg (by omega), show List.take g.length (fixF g) = fixF g by rw [← hF.1]; exact List.take_length, h]
 ·rw [nneg h]
  unfold fixH
  rw [if_neg h]
theorem q_frRules (g : G) (hc : CanG g) : F_ref11_Rules ((g, ()), ()) = some (fixH g, (chkG g).2, ()) := by
 unfold F_ref11_Rules
 simp only [toPb, q_checkR8, bind_t]
 dsimp only [outE]
 unfold fixH
 by_cases h : (chkG g).2 = 0
 ·rw [npos h, if_pos h, q_Known11 (rg_of h) hc, bind_t, h]
 ·rw [nneg h, if_neg h]
noncomputable def partsVF (g : G) (p : List NodeD) : List Fi := valsF (callE g (fixE g)) (callF g (fixF g)) p p.length
theorem partsVF_len {g : G} {p : List NodeD} : (partsVF g p).length = p.length := valsF_len
theorem q_fparts {g : G} (hg : RG g) (hc : CanG g) {p : List NodeD} (hl : lookV g p = 0) (hp : CanP p) : F_first_parts ((g, ()), p, ()) = some (partsVF g p, ()) := by
 obtain ⟨h1, h2⟩ := look_zero hl
 obtain ⟨m, hm1, hm2⟩ := q_gFirsts hg hc
 have hF := fixF_ok hg hc
 unfold F_first_parts
 dsimp only
 rw [q_gEmpt hg, bind_t]
 dsimp only
 rw [(lengths_of hg hl).1, bind_t, hm1, bind_t]
 dsimp only
 have := q_begF (cE := callE g (fixE g)) (cF := callF g (fixF g)) (m := m) h1 hp (fun k hk h6 => by
  obtain ⟨q, hq⟩ := h2 k hk h6
  exact hm2.call hq) (fun k _ => callF_can hg hF _)
 unfold partsV
 rw [this, bind_t]
 rfl
theorem q_rAll {g : G} (hg : RG g) (hc : CanG g) {p : List NodeD} (hl : lookV g p = 0) (hp : CanP p) : F_ref11_All ((g, ()), p, ()) = some (partsVF g p, ()) := by
 obtain ⟨h1, h2⟩ := look_zero hl
 have hF := fixF_ok hg hc
 unfold F_ref11_All F_ref09_All
 dsimp only
 rw [q_Known9 hg, bind_t]
 dsimp only
 rw [(lengths_of hg hl).2, bind_t, bind_t]
 dsimp only
 rw [q_Known11 hg hc, bind_t]
 dsimp only
 have := q_partsF (cE := callE g (fixE g)) (rules := fixF g) h1 hp hg.len hF.1 hF.2 h2 (fun k _ => callF_can hg hF _)
 unfold partsV
 rw [this, bind_t]
 rfl
noncomputable def partsGF (g : G) (r : Int) : List Fi := if lookE g r = 0 then partsVF g (rth g (Int.toNat r)).2.1 else []
theorem q_fParts (g : G) (hc : CanG g) (r : Int) : F_first_Parts ((g, ()), r, ()) = some (partsGF g r, lookE g r, ()) := by
 unfold F_first_Parts partsGF
 simp only [toPb, q_checkG, bind_t]
 dsimp only [outE]
 by_cases h : (chkG g).2 = 0
 ·rw [npos h, look_or h]
  by_cases hl : lookE g r = 0
  ·obtain ⟨hg, h0, h1⟩ := lookE_ok hl
   have hr : Int.toNat r < g.length := by omega
   rw [if_pos hl, need_pos ⟨h0, h1⟩, show List.getD g (Int.toNat r) zRule = rth g (Int.toNat r) from rfl, q_fparts hg hc (look_rule hg hr) (canG_at hc hr), bind_t, if_pos hl, hl]
  ·rw [if_neg hl, if_neg hl, look_one h hl]
 ·have hl : lookE g r ≠ 0 := by rw [look_bad h]; exact h
  rw [nneg h, look_bad h, if_neg h]
theorem q_frParts (g : G) (hc : CanG g) (r : Int) : F_ref11_Parts ((g, ()), r, ()) = some (lookE g r, partsGF g r, ()) := by
 unfold F_ref11_Parts partsGF
 simp only [toPb, q_checkR8, bind_t]
 dsimp only [outE]
 by_cases h : (chkG g).2 = 0
 ·rw [npos h, look_or h]
  by_cases hl : lookE g r = 0
  ·obtain ⟨hg, h0, h1⟩ := lookE_ok hl
   have hr : Int.toNat r < g.length := by omega
   rw [if_pos hl, need_pos ⟨h0, h1⟩, show List.getD g (Int.toNat r) zRule = rth g (Int.toNat r) from rfl, q_rAll hg hc (look_rule hg hr) (canG_at hc hr), bind_t, if_pos hl, hl]
  ·rw [if_neg hl, if_neg hl, look_one h hl]
 ·have hl : lookE g r ≠ 0 := by rw [look_bad h]; exact h
  rw [nneg h, look_bad h, if_neg h]
noncomputable def valGF (g : G) (p : List NodeD) : Fi := List.getD (partsVF g p) (p.length - 1) zFirsts
open Classical in
noncomputable def ofVF (g : G) (p : List NodeD) : Fi := if ofC g p = 0 then valGF g p else zFirsts
theorem ofVF_ok {g : G} {p : List NodeD} (h : ofC g p = 0) : ofVF g p = valGF g p := by unfold ofVF; rw [if_pos h]
theorem ofVF_bad {g : G} {p : List NodeD} (h : ofC g p ≠ 0) : ofVF g p = zFirsts := by unfold ofVF; rw [if_neg h]
theorem q_fOf (g : G) (hc : CanG g) (p : List NodeD) (hp : CanP p) : F_first_Of ((g, ()), p, ()) = some (ofVF g p, ofC g p, ()) := by
 unfold F_first_Of
 simp only [toPb, q_checkG, bind_t]
 dsimp only [outE]
 by_cases h : (chkG g).2 = 0
 ·have hg := rg_of h
  have ho := ofC_ok (p := p) h
  rw [npos h, q_look11 hg, bind_t]
  dsimp only
  by_cases hl : lookV g p = 0
  ·obtain ⟨h1, _⟩ := look_zero hl
   obtain ⟨hlen, _, _, hp0, _⟩ := chk_len h1
   rw [npos hl, q_fparts hg hc hl hp, bind_t]
   dsimp only
   rw [partsVF_len, need64 (by omega) (by omega), need_pos (by omega), ofVF_ok (by rw [ho, hl]), ho, hl, show Int.toNat ((p.length : Int) - 1) = p.length - 1 by omega]
   rfl
  ·rw [nneg hl, ofVF_bad (by rw [ho]; exact hl), ho]
 ·rw [nneg h, ofVF_bad (by rw [ofC_bad h]; exact h), ofC_bad h]
noncomputable def decC (g : G) (p q : List NodeD) : Int := if ofC g p ≠ 0 then ofC g p else ofC g q
theorem decC_ok {g : G} {p q : List NodeD} (h : ofC g p = 0) : decC g p q = ofC g q := by unfold decC; rw [if_neg (fun h2 => h2 h)]
theorem q_same11 (a b : List Fi) (h : a.length ≤ 1000000) : F_law11_same (a, b, ()) = some (pb (a = b), ()) := by
 unfold F_law11_same
 simp only [toPb, eqbF]
 by_cases hl : (a.length : Int) = (b.length : Int)
 ·rw [npos hl]
  have e : pb (a = b) = pb (∀ i, i < a.length → List.getD a i zFirsts = List.getD b i zFirsts) := pb_congr ⟨fun h i _ => by rw [h], fun h => getD_ext zFirsts rfl (by omega) h⟩
  rw [e]
  by_cases h2 : ∀ i, i < a.length → List.getD a i zFirsts = List.getD b i zFirsts
  ·rw [pb_t h2]
   refine loop_up (σ := (Int × Unit) × Unit) a.length (fun i => (((i : Int), ()), ())) rfl (fun i hi => ?_) ?_
   ·dsimp only
    rw [pos (by omega), need_pos (by omega), need_pos (by omega), Int.toNat_natCast, npos (h2 i hi), need64 (by omega) (by omega), cast_succ]
   ·dsimp only
    rw [neg (by omega)]
  ·rw [pb_f h2]
   obtain ⟨m, hm⟩ := Classical.not_forall.1 h2
   obtain ⟨m1, m2⟩ := Classical.not_imp.1 hm
   refine loop_to (σ := (Int × Unit) × Unit) m (fun i => (((i : Int), ()), ())) rfl (fun i hi => ?_) ?_
   ·dsimp only
    rw [pos (by omega), need_pos (by omega), need_pos (by omega), Int.toNat_natCast]
    by_cases h3 : List.getD a i zFirsts = List.getD b i zFirsts
    ·exact .inl (by rw [npos h3, need64 (by omega) (by omega), cast_succ])
    ·exact .inr (by rw [nneg h3])
   ·dsimp only
    rw [pos (by omega), need_pos (by omega), need_pos (by omega), Int.toNat_natCast, nneg m2]
 ·rw [nneg hl, pb_f fun e => hl (by rw [e])]
end Go.Proofs
/-! Chapter 11: the laws. -/
namespace Go.Proofs
open Go Go.Abs
set_option linter.unusedSimpArgs false
def tA : NodeD := ((4 : Int), (0 : Int), byt [97], ((0 : Int), (0 : Int), (0 : Int), (0 : Int), ()), ())
def tB : NodeD := ((4 : Int), (0 : Int), byt [98], ((0 : Int), (0 : Int), (0 : Int), (0 : Int), ()), ())
def tStar : NodeD := ((9 : Int), (0 : Int), zStr, ((0 : Int), (0 : Int), (0 : Int), (0 : Int), ()), ())
def tSeq : NodeD := ((7 : Int), (0 : Int), zStr, ((0 : Int), (0 : Int), (0 : Int), (0 : Int), ()), ())
def wb : List NodeD := [tA, tB, tStar, tSeq]
def wp : List NodeD := [tA, tStar, tB, tSeq]
def wh : G := [(byt [115], wb, ())]
theorem wb_c : chkP wb = (0, 0) := by kernel_rfl
theorem wp_c : chkP wp = (0, 0) := by kernel_rfl
theorem node0 {p : List NodeD} {k : Nat} (hp : p = wb ∨ p = wp) (hk : k < 4) : ¬ (nth p k).1 = 6 := by
 rcases hp with rfl | rfl <;> rcases (show k = 0 ∨ k = 1 ∨ k = 2 ∨ k = 3 by omega) with rfl | rfl | rfl | rfl <;> decide
theorem wh_chk : (chkG wh).2 = 0 := by
 have hn : nameB (byt [115]) = true := by kernel_rfl
 have g0 : ¬ badName wh (rth wh 0) := fun h => by
  have h2 : nameB (byt [115]) = false := h.1
  rw [hn] at h2; cases h2
 have hf : findR wh (rth wh 0).1 = some 0 := by
  show findR wh (byt [115]) = some 0
  unfold findR wh findF
  rw [if_pos rfl]
 have r0 : ¬ numR wh (rth wh 0).1 < ((0 : Nat) : Int) := by
  unfold numR
  rw [hf]
  decide
 have c0 : ¬ (chkP (rth wh 0).2.1).2 ≠ 0 := fun h => h (congrArg (·.2) wb_c)
 have l0 : ¬ (0 : Int) + ((rth wh 0).2.1.length : Int) > 2048 := by
  show ¬ (0 : Int) + ((4 : Nat) : Int) > 2048
  decide
 unfold chkG
 rw [if_neg (by decide), if_neg (by decide)]
 show (restG wh (scanG wh 1 0 0)).2 = 0
 rw [scanG, if_neg g0, if_neg r0, if_neg c0, if_neg l0, scanG]
 show (spotE (unkG wh wh 0)).2 = 0
 have : unkG wh wh 0 = none := by
  have u0 : unkN wh wb 0 = none := by
   unfold wb
   rw [unkN, if_neg (by decide), unkN, if_neg (by decide), unkN, if_neg (by decide), unkN, if_neg (by decide), unkN]
  show unkG wh [(byt [115], wb, ())] 0 = none
  rw [unkG, u0, unkG]
 rw [this]
 rfl
theorem wh_rg : RG wh := rg_of wh_chk
theorem canP_of {p : List NodeD} (hp : p = wb ∨ p = wp) : CanP p := by
 intro n hn
 have : n.2.2.2.1 = zSet := by
  rcases hp with rfl | rfl <;> (simp only [wb, wp, List.mem_cons, List.not_mem_nil, or_false] at hn; rcases hn with rfl | rfl | rfl | rfl <;> rfl)
 rw [this]
 exact can_zero
theorem wh_can : CanG wh := by
 intro r hr
 have : r = (byt [115], wb, ()) := by simpa [wh] using hr
 rw [this]
 exact canP_of (.inl rfl)
section
variable {cE : NodeD → Em} {cF : NodeD → Fi}
theorem v_text {p : List NodeD} (hp : (chkP p).2 = 0) {k : Nat} (hk : k < p.length) (h4 : (nth p k).1 = 4) (hs : (nth p k).2.2.1.size = 1) : valF cE cF p k = mkF (mkS (spanF (firstC (nth p k).2.2.1) (firstC (nth p k).2.2.1))) false true := by
 rw [valF_is hp hk (f := false) (fun h => by rw [h4] at h; exact absurd h (by decide))]
 unfold nodeF
 rw [if_neg (by omega), if_neg (by omega), if_neg (by omega), if_pos h4, pb_t (by omega)]
theorem v_star {p : List NodeD} (hp : (chkP p).2 = 0) {k : Nat} (hk : k < p.length) (h9 : (nth p k).1 = 9) : valF cE cF p k = mkF (valF cE cF p (k - 1)).1 true false := by
 have ha : arity (nth p k).1 = 1 := by rw [h9]; rfl
 rw [valF_is hp hk (f := false) (fun h => by omega)]
 unfold nodeF
 rw [if_neg (by omega), if_neg (by omega), if_neg (by omega), if_neg (by omega), if_neg (by omega), if_neg (by omega), if_neg (by omega), if_neg (by omega), if_pos (by omega)]
 unfold leftF
 rw [if_pos ha]
theorem v_seq {p : List NodeD} (hp : (chkP p).2 = 0) {k : Nat} (hk : k < p.length) (h7 : (nth p k).1 = 7) {j : Nat} (hj : (beginP p ((k : Int) - 1) - 1).toNat = j) : valF cE cF p k = mkF (if (valF cE cF p j).2.1 = true then unionS (valF cE cF p j).1 (valF cE cF p (k - 1)).1 else (valF cE cF p j).1) ((valF cE cF p j).2.1 && (valF cE cF p (k - 1)).2.1) ((valF cE cF p j).2.2.1 && !(val9 cE p (k - 1)).2.1) := by
 have ha : arity (nth p k).1 = 2 := by rw [h7]; rfl
 have eL : leftF cE cF p k = valF cE cF p j := by unfold leftF; rw [if_neg (by omega), if_pos ha, hj]
 have eR : rightF cE cF p k = valF cE cF p (k - 1) := by unfold rightF; rw [if_pos ha]
 rw [valF_is hp hk (f := (val9 cE p (k - 1)).2.1) (fun h => rfl), eL, eR]
 generalize valF cE cF p j = a
 generalize valF cE cF p (k - 1) = b
 unfold nodeF
 rw [if_neg (by omega), if_neg (by omega), if_neg (by omega), if_neg (by omega), if_neg (by omega), if_neg (by omega), if_pos h7]
theorem c_star {p : List NodeD} {k : Nat} (h9 : (nth p k).1 = 9) : (val9 cE p k).2.1 = false := by
 rw [show val9 cE p k = _ from valOf_is _ _ _ _]
 unfold nodeE oneE
 rw [if_neg (by omega), if_neg (by omega), if_neg (by omega), if_neg (by omega), if_neg (by omega), if_neg (by omega), if_neg (by omega), if_pos h9]
 rfl
def sA : SetD := ((0 : Int), (8589934592 : Int), (0 : Int), (0 : Int), ())
def sB : SetD := ((0 : Int), (17179869184 : Int), (0 : Int), (0 : Int), ())
def sAB : SetD := ((0 : Int), (25769803776 : Int), (0 : Int), (0 : Int), ())
theorem mk_a : mkS (spanF 97 97) = sA := by kernel_rfl
theorem mk_b : mkS (spanF 98 98) = sB := by kernel_rfl
theorem mk_ab : unionS sA sB = sAB := by kernel_rfl
theorem of_a : mkS (hasC (byt [97]) (byt [97]).size) = sA := by kernel_rfl
theorem of_ab : mkS (hasC (byt [97, 98]) (byt [97, 98]).size) = sAB := by kernel_rfl
theorem wb_last : valF cE cF wb 3 = mkF sA false true := by
 have hp : (chkP wb).2 = 0 := by rw [wb_c]
 rw [v_seq hp (k := 3) (by decide) rfl (j := 0) (by kernel_rfl), c_star (k := 2) rfl, v_text hp (k := 0) (by decide) rfl rfl]
 show mkF (mkS (spanF 97 97)) false true = _
 rw [mk_a]
theorem wp_last : valF cE cF wp 3 = mkF sAB false false := by
 have hp : (chkP wp).2 = 0 := by rw [wp_c]
 have h0 : valF cE cF wp 0 = mkF sA false true := by
  rw [v_text hp (k := 0) (by decide) rfl rfl]
  show mkF (mkS (spanF 97 97)) false true = _
  rw [mk_a]
 have h2 : valF cE cF wp 2 = mkF sB false true := by
  rw [v_text hp (k := 2) (by decide) rfl rfl]
  show mkF (mkS (spanF 98 98)) false true = _
  rw [mk_b]
 have h1 : valF cE cF wp 1 = mkF sA true false := by
  rw [v_star hp (k := 1) (by decide) rfl, h0]
  rfl
 rw [v_seq hp (k := 3) (by decide) rfl (j := 1) (by kernel_rfl), h1, h2]
 show mkF (unionS sA sB) false false = _
 rw [mk_ab]
end
theorem wh_fix : fixH wh = [mkF sA false true] := by
 unfold fixH
 rw [if_pos wh_chk]
 have h := fixF_ok wh_rg wh_can
 have h0 : List.getD (fixF wh) 0 zFirsts = mkF sA false true := by
  have := (fxF wh_rg wh_can).fix_at (i := 0) (by decide)
  rw [show fixF wh = fixX zFirsts wh.length (stepF wh) from rfl, ← this]
  exact wb_last
 exact getD_ext zFirsts (n := 1) h.1 rfl fun i hi => by
  obtain rfl : i = 0 := by omega
  exact h0
theorem wp_look : ofC wh wp = 0 := by
 rw [ofC_ok wh_chk]
 refine lookV_ok (by rw [wp_c]) ?_
 rintro ⟨k, h1, h2, _⟩
 have e : List.getD wp k zNode = nth wp (k : Int) := by simp [nth]
 rw [e] at h2
 exact node0 (.inr rfl) h1 h2
theorem wp_val : ofVF wh wp = mkF sAB false false := by
 rw [ofVF_ok wp_look]
 unfold valGF partsVF
 show List.getD (valsF _ _ wp 4) 3 zFirsts = _
 rw [valsF_at (by omega)]
 exact wp_last
theorem q_works11 : F_law11_works () = some (true, ()) := by
 have e1 := q_fRules wh wh_can
 have e2 := q_fOf wh wh_can wp (canP_of (.inr rfl))
 rw [wh_fix, wh_chk] at e1
 rw [wp_val, wp_look] at e2
 have e3 := q_setOf (byt [97]) (by decide)
 have e4 := q_setOf (byt [97, 98]) (by decide)
 rw [of_a] at e3
 rw [of_ab] at e4
 unfold F_law11_works
 simp only [toPb, eqbF]
 refine (congrArg (fun o => Option.bind o _) e1).trans ?_
 rw [bind_t]
 refine (congrArg (fun o => Option.bind o _) e2).trans ?_
 rw [bind_t]
 dsimp only
 rw [pos rfl, bind_t, pb_t (by rfl), sel_t, need_pos (by decide), need_pos (by decide), e3, bind_t, bind_t]
 dsimp only
 rw [pb_t (show List.getD [mkF sA false true] 0 zFirsts = (sA, false, true, ()) from rfl), pb_t rfl, sel_t, bind_t, sel_t, e4, bind_t, bind_t]
 dsimp only
 rw [pb_t (show mkF sAB false false = (sAB, false, false, ()) from rfl)]
theorem fixH_len (g : G) (hc : CanG g) : (fixH g).length ≤ 200 := by
 unfold fixH
 split
 ·rename_i h
  have hg := rg_of h
  rw [(fixF_ok hg hc).1]
  exact hg.len
 ·simp
theorem partsGF_len (g : G) (r : Int) : (partsGF g r).length ≤ 2048 := by
 unfold partsGF
 split
 ·rename_i h
  obtain ⟨hg, h0, h1⟩ := lookE_ok h
  have := good_len (hg.good (Int.toNat r) (by omega))
  rw [partsVF_len]
  omega
 ·simp
theorem law_FirstRules (g : G) (r : Int) (h : SzG g) (hc : CanG g) : F_law11_FirstRules ((g, ()), r, ()) = some (true, ()) := by
 have hfl := fixH_len g hc
 have hpl := partsGF_len g r
 unfold F_law11_FirstRules
 dsimp only
 rw [show (fun (y : RuleD) => ((y.1, (y.2.1, List.length y.2.1), ()) : RuleLD)) = liftR from rfl, show (fun (y : RuleLD) => ((y.1, List.take y.2.1.2 y.2.1.1, ()) : RuleD)) = plainR from rfl, q_lendG g h, bind_t]
 dsimp only
 simp only [toPb]
 rw [plain_lent, plain_lift, q_fRules g hc, bind_t, bind_t, q_frRules g hc, bind_t, q_fParts g hc, bind_t, q_frParts g hc, bind_t]
 dsimp only
 rw [q_same11 _ _ (by omega), pb_t rfl, bind_t]
 dsimp only
 rw [Bool.not_true, sel_f, pb_t rfl, Bool.not_true, bind_t, sel_f, q_same11 _ _ (by omega), pb_t rfl, bind_t]
 dsimp only
 rw [Bool.not_true, bind_t, sel_f, pb_t rfl, Bool.not_true, bind_t, sel_f]
 refine loop_up (σ := (Int × Unit) × List FirstsD × List FirstsD × GrammarLD × GrammarLD × Unit) (fixH g).length (fun i => (((i : Int), ()), fixH g, gone (fixH g) (fun _ => ((((7 : Int), (0 : Int), (0 : Int), (0 : Int), ()), false, false, ()) : Fi)) i, ((lentG g, g.length), ()), ((List.map liftR g, g.length), ()), ())) rfl ?_ ?_
 ·intro i hi
  have hgl : (gone (fixH g) (fun _ => ((((7 : Int), (0 : Int), (0 : Int), (0 : Int), ()), false, false, ()) : Fi)) i).length = (fixH g).length := gone_len (by omega)
  dsimp only
  simp only [Int.toNat_natCast, Nat.zero_add, hgl]
  rw [pos (by omega), need_pos (by omega), need_pos hi, need64 (by omega) (by omega), cast_succ, ← gone_set (f := fun _ => ((((7 : Int), (0 : Int), (0 : Int), (0 : Int), ()), false, false, ()) : Fi)) hi]
 ·have hgl : (gone (fixH g) (fun _ => ((((7 : Int), (0 : Int), (0 : Int), (0 : Int), ()), false, false, ()) : Fi)) (fixH g).length).length = (fixH g).length := gone_len (by omega)
  dsimp only
  rw [hgl, neg (by omega), q_same11 _ _ (by omega), pb_t rfl, bind_t]
  dsimp only
  rw [sel_t, q_keptG g h, bind_t]
  dsimp only
  rw [bind_t, sel_t, q_works11]
  rfl
end Go.Proofs
