/- Part of the proof of the law's row: YtnoeomlanbdjeaaWq08b. -/
import Derived.Test.YtnoeomlanbdjeaaWq04c
import Derived.Test.YtnoeomlanbdjeaaWqKit2
import Derived.Test.YtnoeomlanbdjeaaWpC08
set_option linter.all false
set_option linter.unusedVariables false
set_option linter.unusedSimpArgs false
/-! Chapter 8: names, numbers. -/
namespace Go.Proofs
open Go Go.Abs
/-! ### Maps -/
section
variable {α β : Type} {q : α → α → Bool}
theorem mput_new {x : α} {v : β} : ∀ {l : List (α × β)}, mfind q l x = none → mput q l x v = l ++ [(x, v)]
  | [], _ => rfl
  | (k, u) :: l, h => by
    unfold mfind at h
    split at h
    · cases h
    · rename_i hq
      unfold mput
      rw [if_neg hq, mput_new h]
      rfl
theorem mfind_append {x : α} : ∀ {l m : List (α × β)}, mfind q (l ++ m) x = match mfind q l x with | some v => some v | none => mfind q m x
  | [], _ => rfl
  | (k, u) :: l, m => by
    simp only [List.cons_append, mfind]
    split
    · rfl
    · exact mfind_append
end
theorem eqS_iff {a b : ByteArray} : eqS a b = true ↔ a = b := decide_eq_true_iff
theorem eqI_iff {a b : Int} : eqI a b = true ↔ a = b := decide_eq_true_iff
/-! ### Names -/
theorem q_headK (u : UInt8) : F_rules_isHead ((u.toNat : Int), ()) = some (headB (u.toNat : Int), ()) := by
  have h : ∀ n : Nat, n < 256 → (((decide ((n : Int) ≥ 97) && decide ((n : Int) ≤ 122)) || (decide ((n : Int) ≥ 65) && decide ((n : Int) ≤ 90))) || decide ((n : Int) = 95)) = headB (n : Int) := fun n hn => by
    have := byte_all (p := fun n => (((decide ((n : Int) ≥ 97) && decide ((n : Int) ≤ 122)) || (decide ((n : Int) ≥ 65) && decide ((n : Int) ≤ 90))) || decide ((n : Int) = 95)) == headB (n : Int)) (by kernel_rfl) hn
    simpa using this
  unfold F_rules_isHead
  simp only [sel_and, sel_or, bind_t]
  rw [h _ u.toNat_lt]
theorem chr_byte (s : ByteArray) (i : Nat) : ∃ u : UInt8, chr s i = (u.toNat : Int) := ⟨_, rfl⟩
theorem q_head8 (s : ByteArray) (i : Nat) : F_rules_isHead (chr s i, ()) = some (headB (chr s i), ()) := by
  obtain ⟨u, hu⟩ := chr_byte s i
  rw [hu]
  exact q_headK u
theorem q_name8 (s : ByteArray) : F_rules_Name (s, ()) = some (nameB s, ()) := by
  unfold F_rules_Name nameB
  simp only [sel_or, bind_t]
  by_cases h1 : s = ⟨#[]⟩
  · subst h1; rfl
  have hp := size_pos h1
  by_cases h2 : (s.size : Int) > 32
  · simp [h1, h2, sel]
  simp (disch := omega) only [need_pos, q_head8, bind_t]
  simp only [h1, h2, decide_false, Bool.or_false, Bool.false_or, sel_f, bind_t]
  cases hh : headB (chr s 0) with
  | false => rfl
  | true =>
    simp only [Bool.not_true, sel_f, Bool.false_eq_true, if_false]
    refine (loopC_run (I := fun s' => 0 ≤ s'.1.1 ∧ s'.1.1 ≤ (s.size : Int)) (μ := fun s' => s.size - s'.1.1.toNat) (F := fun s' => (allFrom restB s (s.size - s'.1.1.toNat) s'.1.1.toNat, ())) ?_ _ (by simp)).trans (by simp)
    rintro ⟨⟨i, ⟨⟩⟩, ⟨⟩⟩ ⟨hi0, hi1⟩
    simp only at hi0 hi1 ⊢
    by_cases hi : i < (s.size : Int)
    · simp (disch := omega) only [sel_pos, need_pos, q_head8, bind_t, need64, sel_or, bind_id]
      rw [allFrom_step (i := i.toNat) (by omega)]
      unfold restB
      cases headB (chr s i.toNat) <;> simp only [Bool.not_true, Bool.not_false, sel_t, sel_f, bind_t, Bool.true_and, Bool.false_and, if_true, if_false, Bool.false_eq_true, Bool.not_not]
      · cases (decide (chr s i.toNat < 48) || decide (chr s i.toNat > 57)) <;> simp only [Bool.not_true, Bool.not_false, sel_t, sel_f, if_true, if_false, Bool.false_eq_true]
        · exact .inl ⟨_, rfl, ⟨by simp only; omega, by simp only; omega⟩, by simp only; omega, by rw [show (i + 1).toNat = i.toNat + 1 by omega]⟩
        · exact .inr trivial
      · exact .inl ⟨_, rfl, ⟨by simp only; omega, by simp only; omega⟩, by simp only; omega, by rw [show (i + 1).toNat = i.toNat + 1 by omega]⟩
    · simp (disch := omega) only [sel_neg]
      rw [show s.size - i.toNat = 0 by omega]
      exact .inr rfl
/-! ### The rules' numbers -/
/-- The number of the first rule of a name, from a place on. -/
def findF (s : ByteArray) : List RuleD → Nat → Option Nat
  | [], _ => none
  | r :: rs, i => if r.1 = s then some i else findF s rs (i + 1)
def findR (g : List RuleD) (s : ByteArray) : Option Nat := findF s g 0
def numR (g : List RuleD) (s : ByteArray) : Int := match findR g s with | some i => (i : Int) | none => -1
theorem findF_append {s : ByteArray} : ∀ {a b : List RuleD} {i : Nat}, findF s (a ++ b) i = match findF s a i with | some k => some k | none => findF s b (i + a.length)
  | [], b, i => by simp [findF]
  | r :: a, b, i => by
    simp only [List.cons_append, findF]
    split
    · rfl
    · rw [findF_append, List.length_cons, show i + 1 + a.length = i + (a.length + 1) by omega]
theorem findF_some {s : ByteArray} : ∀ {l : List RuleD} {i k : Nat}, findF s l i = some k → i ≤ k ∧ k < i + l.length ∧ (List.getD l (k - i) zRule).1 = s ∧ ∀ j, j < k - i → (List.getD l j zRule).1 ≠ s
  | [], _, _, h => by simp [findF] at h
  | r :: l, i, k, h => by
    unfold findF at h
    split at h
    · rename_i hr
      simp only [Option.some.injEq] at h
      subst h
      refine ⟨Nat.le_refl _, by simp, by rw [Nat.sub_self]; exact hr, fun j hj => by omega⟩
    · rename_i hr
      obtain ⟨h1, h2, h3, h4⟩ := findF_some h
      refine ⟨by omega, by simp; omega, ?_, fun j hj => ?_⟩
      · rw [show k - i = (k - (i + 1)) + 1 by omega]; exact h3
      · cases j with
        | zero => exact hr
        | succ j => exact h4 j (by omega)
theorem findF_none {s : ByteArray} : ∀ {l : List RuleD} {i : Nat}, findF s l i = none → ∀ r ∈ l, r.1 ≠ s
  | [], _, _, r, hr => by simp at hr
  | r0 :: l, i, h, r, hr => by
    unfold findF at h
    split at h
    · cases h
    · rename_i h0
      rcases List.mem_cons.1 hr with rfl | hr
      · exact h0
      · exact findF_none h r hr
theorem findR_at {g : List RuleD} {s : ByteArray} {k : Nat} (h : findR g s = some k) : k < g.length ∧ (List.getD g k zRule).1 = s ∧ ∀ j, j < k → (List.getD g j zRule).1 ≠ s := by
  obtain ⟨_, h2, h3, h4⟩ := findF_some h
  exact ⟨by omega, h3, h4⟩
theorem getD_memR {g : List RuleD} {i : Nat} (h : i < g.length) : List.getD g i zRule ∈ g := by
  rw [List.getD_eq_getElem?_getD, List.getElem?_eq_getElem h]
  exact List.getElem_mem h
theorem findR_le {g : List RuleD} {i : Nat} (h : i < g.length) : ∃ k, findR g (List.getD g i zRule).1 = some k ∧ k ≤ i := by
  cases hf : findR g (List.getD g i zRule).1 with
  | none => exact absurd rfl (findF_none hf _ (getD_memR h))
  | some k =>
    refine ⟨k, rfl, ?_⟩
    obtain ⟨_, _, h3⟩ := findR_at hf
    exact Nat.le_of_not_lt fun hlt => h3 i hlt rfl
/-- What 'numbers' has made of the first rules. -/
def numsF (g : List RuleD) : Nat → List (ByteArray × Int)
  | 0 => []
  | i + 1 => if mfind eqS (numsF g i) (List.getD g i zRule).1 = none then numsF g i ++ [((List.getD g i zRule).1, (i : Int))] else numsF g i
theorem take_succD {α : Type} {l : List α} {i : Nat} {d : α} (h : i < l.length) : List.take (i + 1) l = List.take i l ++ [List.getD l i d] := by
  rw [List.take_succ_eq_append_getElem h, List.getD_eq_getElem?_getD, List.getElem?_eq_getElem h]
  rfl
theorem numsF_find {g : List RuleD} : ∀ {i : Nat}, i ≤ g.length → ∀ s, mfind eqS (numsF g i) s = (findF s (List.take i g) 0).map (fun k : Nat => (k : Int))
  | 0, _, s => rfl
  | i + 1, h, s => by
    have ih := numsF_find (g := g) (i := i) (by omega)
    rw [take_succD (d := zRule) (by omega), findF_append]
    unfold numsF
    split
    · rename_i hn
      rw [mfind_append, ih s]
      cases hf : findF s (List.take i g) 0 with
      | some k => rfl
      | none =>
        simp only [Option.map_none, mfind, findF, List.length_take]
        by_cases he : s = (List.getD g i zRule).1
        · rw [if_pos (eqS_iff.2 he), if_pos he.symm]
          simp only [Option.map_some, Option.some.injEq]
          omega
        · rw [if_neg (fun e => he (eqS_iff.1 e)), if_neg (fun e => he e.symm)]
          rfl
    · rename_i hn
      rw [ih s]
      cases hf : findF s (List.take i g) 0 with
      | some k => rfl
      | none =>
        simp only [Option.map_none, findF]
        have : ¬ (List.getD g i zRule).1 = s := by
          intro e
          rw [ih, e, hf] at hn
          exact hn rfl
        rw [if_neg this]
        rfl
def nums (g : List RuleD) : List (ByteArray × Int) := numsF g g.length
theorem nums_find (g : List RuleD) (s : ByteArray) : mfind eqS (nums g) s = (findR g s).map (fun k : Nat => (k : Int)) := by
  unfold nums findR
  rw [numsF_find (Nat.le_refl _), List.take_length]
theorem q_numbers (g : List RuleD) (h : g.length < 9223372036854775807) : F_rules_numbers ((g, ()), ()) = some (nums g, ()) := by
  unfold F_rules_numbers
  simp only [toPb]
  refine loop_up (σ := (Int × Unit) × List (ByteArray × Int) × Unit) (ρ := List (ByteArray × Int) × Unit) g.length (fun i => (((i : Int), ()), numsF g i, ())) (s0 := (((0 : Int), ()), [], ())) rfl ?_ ?_
  · intro i hi
    simp (disch := omega) only [pos, need_pos, need64, Int.toNat_natCast]
    show sel (!Option.isSome (mfind eqS (numsF g i) (List.getD g i zRule).1)) _ _ = some (Sum.inl ((((i + 1 : Nat) : Int), ()), numsF g (i + 1), ()))
    rw [show (((i + 1 : Nat) : Int)) = (i : Int) + 1 by omega]
    cases hf : mfind eqS (numsF g i) (List.getD g i zRule).1 with
    | none =>
      simp only [Option.isSome_none, Bool.not_false, sel_t]
      rw [mput_new hf]
      simp only [numsF, hf, if_true]
    | some v =>
      simp only [Option.isSome_some, Bool.not_true, sel_f, numsF, hf]
      rfl
  · simp (disch := omega) only [neg]
    rfl
end Go.Proofs

/-! Chapter 8: which grammars are right. -/
namespace Go.Proofs
open Go Go.Abs
abbrev G := List RuleD
def rth (g : G) (i : Nat) : RuleD := List.getD g i zRule
def badName (g : G) (r : RuleD) : Prop := nameB r.1 = false ∧ (r.1 ≠ zStr ∨ (g.length : Int) > 1)
open Classical in
/-- What is wrong with a rule, from a place on. -/
noncomputable def scanG (g : G) : Nat → Nat → Int → Option (SpotD × Int)
  | 0, _, _ => none
  | k + 1, i, n =>
    if badName g (rth g i) then some (((i : Int), (0 : Int), ()), 6)
    else if numR g (rth g i).1 < i then some (((i : Int), (0 : Int), ()), 80)
    else if (chkP (rth g i).2.1).2 ≠ 0 then some (((i : Int), (chkP (rth g i).2.1).1, ()), (chkP (rth g i).2.1).2)
    else if n + ((rth g i).2.1.length : Int) > 2048 then some (((i : Int), (0 : Int), ()), 2)
    else scanG g k (i + 1) (n + ((rth g i).2.1.length : Int))
/-- The first call of what is no rule. -/
def unkN (g : G) : List NodeD → Nat → Option Nat
  | [], _ => none
  | n :: ns, k => if n.1 = 6 ∧ findR g n.2.2.1 = none then some k else unkN g ns (k + 1)
def unkG (g : G) : List RuleD → Nat → Option (Nat × Nat)
  | [], _ => none
  | r :: rs, i => match unkN g r.2.1 0 with
    | some k => some (i, k)
    | none => unkG g rs (i + 1)
def spotE (o : Option (Nat × Nat)) : SpotD × Int := match o with
  | some (i, k) => (((i : Int), (k : Int), ()), 81)
  | none => (((0 : Int), (0 : Int), ()), 0)
noncomputable def restG (g : G) (o : Option (SpotD × Int)) : SpotD × Int := match o with
  | some e => e
  | none => spotE (unkG g g 0)
noncomputable def chkG (g : G) : SpotD × Int :=
  if g.length = 0 then (((0 : Int), (0 : Int), ()), 3) else if 200 < g.length then (((0 : Int), (0 : Int), ()), 2) else restG g (scanG g g.length 0 0)
def outE (e : SpotD × Int) : SpotD × Int × Unit := (e.1, e.2, ())
theorem drop_cons {α : Type} {l : List α} {i : Nat} {d : α} (h : i < l.length) : List.drop i l = List.getD l i d :: List.drop (i + 1) l := by
  rw [List.drop_eq_getElem_cons h, List.getD_eq_getElem?_getD, List.getElem?_eq_getElem h]
  rfl
theorem bad_is {g : G} {r : RuleD} {A : Type} {x y : Option A} : Option.bind (sel (!nameB r.1) (sel (!pb (r.1 = zStr)) (some true) (some (pb ((g.length : Int) > 1)))) (some false)) (fun v => sel v x y) = sel (pb (badName g r)) x y := by
  unfold badName
  cases hn : nameB r.1 with
  | true => rw [neg (by simp)]; rfl
  | false =>
    simp only [Bool.not_false, sel_t]
    by_cases h1 : r.1 = zStr
    · rw [npos h1, bind_t]
      by_cases h2 : (g.length : Int) > 1
      · rw [pb_t h2, pos ⟨trivial, .inr h2⟩]; rfl
      · rw [pb_f h2, neg (fun h => h.2.elim (fun h => h h1) h2)]; rfl
    · rw [nneg h1, bind_t, pos ⟨trivial, .inl h1⟩]; rfl
theorem cast_succ (i : Nat) : ((i + 1 : Nat) : Int) = (i : Int) + 1 := by omega
theorem num_is {g : G} {s : ByteArray} : Option.getD (mfind eqS (nums g) s) (0 : Int) = if findR g s = none then 0 else numR g s := by
  rw [nums_find]
  unfold numR
  cases findR g s <;> rfl
theorem numR_le {g : G} {i : Nat} (h : i < g.length) : findR g (rth g i).1 ≠ none ∧ 0 ≤ numR g (rth g i).1 := by
  obtain ⟨k, h1, h2⟩ := findR_le h
  unfold rth numR
  rw [h1]
  exact ⟨by simp, by simp⟩
/-- Nothing is wrong with a rule by itself. -/
def goodR (g : G) (j : Nat) : Prop := ¬ badName g (rth g j) ∧ ¬ numR g (rth g j).1 < j ∧ (chkP (rth g j).2.1).2 = 0
theorem scan_good {g : G} : ∀ {k i : Nat} {n : Int}, scanG g k i n = none → ∀ j, i ≤ j → j < i + k → goodR g j
  | 0, _, _, _, j, h1, h2 => by omega
  | k + 1, i, n, h, j, h1, h2 => by
    unfold scanG at h
    split at h
    · cases h
    split at h
    · cases h
    split at h
    · cases h
    split at h
    · cases h
    rename_i g1 g2 g3 g4
    by_cases hj : j = i
    · subst hj
      exact ⟨g1, g2, by simpa using g3⟩
    · exact scan_good h j (by omega) (by omega)
theorem good_len {g : G} {j : Nat} (h : goodR g j) : ((rth g j).2.1.length : Int) ≤ 2048 := (chk_len h.2.2).1
/-- A row's nodes, one by one. -/
theorem nodes_loop {g : G} {σ ρ τ : Type} {body : List NodeD} (mk : Nat → σ) (bad : Nat → ρ) (fin : ρ) {B : σ → Option (σ ⊕ ρ)} (hm : ∀ k, k < body.length → B (mk k) = if (List.getD body k zNode).1 = 6 ∧ findR g (List.getD body k zNode).2.2.1 = none then some (.inr (bad k)) else some (.inl (mk (k + 1)))) (he : B (mk body.length) = some (.inr fin)) :
    loopC B (mk 0) = some (match unkN g body 0 with | some k => bad k | none => fin) := by
  refine (loopC_gh (γ := Nat) (I := fun k s => s = mk k ∧ k ≤ body.length) (μ := fun k => body.length - k) (F := fun k => match unkN g (List.drop k body) k with | some k => bad k | none => fin) ?_ 0 _ ⟨rfl, Nat.zero_le _⟩).trans rfl
  rintro k _ ⟨rfl, hk⟩
  by_cases hkl : k < body.length
  · rw [hm k hkl, drop_cons (d := zNode) hkl, unkN]
    by_cases hc : (List.getD body k zNode).1 = 6 ∧ findR g (List.getD body k zNode).2.2.1 = none
    · right
      rw [if_pos hc, if_pos hc]
    · left
      rw [if_neg hc, if_neg hc]
      exact ⟨k + 1, _, rfl, ⟨rfl, by omega⟩, by omega, rfl⟩
  · right
    have : k = body.length := by omega
    subst this
    rw [he, List.drop_length]
    rfl
theorem rules_loop {g : G} {σ ρ : Type} (mk : Nat → σ) (bad : Nat → Nat → ρ) (fin : ρ) {B : σ → Option (σ ⊕ ρ)} (hm : ∀ i, i < g.length → B (mk i) = some (match unkN g (rth g i).2.1 0 with | some k => .inr (bad i k) | none => .inl (mk (i + 1)))) (he : B (mk g.length) = some (.inr fin)) :
    loopC B (mk 0) = some (match unkG g g 0 with | some (i, k) => bad i k | none => fin) := by
  refine (loopC_gh (γ := Nat) (I := fun k s => s = mk k ∧ k ≤ g.length) (μ := fun k => g.length - k) (F := fun k => match unkG g (List.drop k g) k with | some (i, k) => bad i k | none => fin) ?_ 0 _ ⟨rfl, Nat.zero_le _⟩).trans rfl
  rintro i _ ⟨rfl, hk⟩
  by_cases hkl : i < g.length
  · rw [hm i hkl, drop_cons (d := zRule) hkl, unkG]
    change _ ∨ _
    cases hu : unkN g (rth g i).2.1 0 with
    | some k =>
      right
      rw [show unkN g (List.getD g i zRule).2.1 0 = some k from hu]
    | none =>
      left
      rw [show unkN g (List.getD g i zRule).2.1 0 = none from hu]
      exact ⟨i + 1, _, rfl, ⟨rfl, by omega⟩, by omega, rfl⟩
  · right
    have : i = g.length := by omega
    subst this
    rw [he, List.drop_length]
    rfl
theorem q_checkG (g : G) : F_rules_Check ((g, ()), ()) = some (outE (chkG g)) := by
  unfold F_rules_Check chkG
  simp only [toPb]
  by_cases h0 : g.length = 0
  · rw [pos (by omega), if_pos h0]; rfl
  rw [neg (by omega), if_neg h0]
  by_cases h2 : 200 < g.length
  · rw [pos (by omega), if_pos h2]; rfl
  rw [neg (by omega), if_neg h2, q_numbers g (by omega), bind_t]
  dsimp only
  refine (loopC_gh (γ := Nat × Int) (σ := shapeD × shapeD × GrammarD × Unit) (ρ := SpotD × Int × Unit) (I := fun p s => s = (((p.1 : Int), p.2, ()), zSpot, (g, ()), ()) ∧ p.1 ≤ g.length ∧ 0 ≤ p.2 ∧ p.2 ≤ 2048 ∧ ∀ j, j < p.1 → goodR g j) (μ := fun p => g.length - p.1)
    (F := fun p => outE (restG g (scanG g (g.length - p.1) p.1 p.2))) ?_ (0, 0) _ ⟨rfl, Nat.zero_le _, by omega, by omega, fun j hj => by omega⟩).trans rfl
  rintro ⟨i, n⟩ _ ⟨rfl, hi, hn0, hn, hgood⟩
  dsimp only at hi hn0 hn hgood ⊢
  have hfold : ∀ i, List.getD g i zRule = rth g i := fun _ => rfl
  by_cases hlt : i < g.length
  · simp (disch := omega) only [pos, need_pos, Int.toNat_natCast, q_name8, q_check, bind_t, bind_id]
    simp only [hfold]
    have hs : g.length - i = (g.length - (i + 1)) + 1 := by omega
    rw [bad_is, num_is, hs]
    obtain ⟨k1, k2⟩ := numR_le hlt
    rw [scanG]
    by_cases h3 : badName g (rth g i)
    · right
      rw [pos h3, if_pos h3]; rfl
    rw [neg h3, if_neg h3, if_neg k1]
    by_cases h4 : numR g (rth g i).1 < i
    · right
      rw [pos h4, if_pos h4]; rfl
    rw [neg h4, if_neg h4]
    by_cases h5 : (chkP (rth g i).2.1).2 = 0
    · have hl := (chk_len h5).1
      rw [npos h5, if_neg (by simpa using h5), need64 (by omega) (by omega)]
      by_cases h6 : n + ((rth g i).2.1.length : Int) > 2048
      · right
        rw [pos h6, if_pos h6]; rfl
      · left
        rw [neg h6, if_neg h6, need64 (by omega) (by omega)]
        refine ⟨(i + 1, n + ((rth g i).2.1.length : Int)), _, rfl, ⟨by rw [cast_succ], by dsimp only; omega, by dsimp only; omega, by dsimp only; omega, fun j hj => ?_⟩, by dsimp only; omega, rfl⟩
        by_cases hj2 : j = i
        · subst hj2; exact ⟨h3, h4, h5⟩
        · exact hgood j (by dsimp only at hj; omega)
    · right
      rw [nneg h5, if_pos (by simpa using h5)]; rfl
  · right
    have he : i = g.length := by omega
    subst he
    rw [neg (by omega), Nat.sub_self]
    rw [scanG]
    show Option.bind _ (fun v => some (Sum.inr v)) = some (Sum.inr (outE (spotE (unkG g g 0))))
    have fin : ∀ o : Option (Nat × Nat), outE (spotE o) = match o with | some (i, k) => (((i : Int), (k : Int), ()), (81 : Int), ()) | none => (((0 : Int), (0 : Int), ()), (0 : Int), ()) := fun o => by cases o <;> rfl
    rw [fin]
    refine (congrArg (fun o => Option.bind o (fun v => some (Sum.inr v))) (rules_loop (g := g) (σ := (Int × Unit) × shapeD × Unit) (ρ := SpotD × Int × Unit) (fun i => (((i : Int), ()), zSpot, ())) (fun i k => (((i : Int), (k : Int), ()), (81 : Int), ())) (((0 : Int), (0 : Int), ()), (0 : Int), ()) ?_ ?_)).trans rfl
    · intro i hlt
      have hb := good_len (hgood i hlt)
      dsimp only
      rw [pos (by omega), need_pos ⟨by omega, by omega⟩, Int.toNat_natCast]
      simp only [hfold]
      refine (nodes_loop (g := g) (τ := Unit) (body := (rth g i).2.1) (σ := (Int × Unit) × shapeD × Unit) (fun k => (((k : Int), ()), zSpot, ())) (fun k => Sum.inr (((i : Int), (k : Int), ()), (81 : Int), ())) (Sum.inl ((((i + 1 : Nat) : Int), ()), zSpot, ())) ?_ ?_)
      · intro k hk
        dsimp only
        rw [pos (by omega), need_pos ⟨by omega, by omega⟩, Int.toNat_natCast, need64 (by omega) (by omega), nums_find]
        by_cases h6 : (List.getD (rth g i).2.1 k zNode).1 = 6
        · rw [npos h6]
          cases hf : findR g (List.getD (rth g i).2.1 k zNode).2.2.1 with
          | none => rw [if_pos ⟨h6, rfl⟩]; rfl
          | some j => rw [if_neg (by simp)]; simp only [Option.map_some, Option.isSome_some, Bool.not_true, sel_f, cast_succ]
        · rw [nneg h6, if_neg (fun h => h6 h.1)]
          simp only [cast_succ]
      · dsimp only
        rw [neg (by omega), need64 (by omega) (by omega), cast_succ]
        rfl
    · dsimp only
      rw [neg (by omega)]
end Go.Proofs
