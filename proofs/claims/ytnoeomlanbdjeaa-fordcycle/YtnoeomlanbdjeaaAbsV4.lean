/- Part of the proof of the law's row: YtnoeomlanbdjeaaAbsV4. -/
import Derived.Test.YtnoeomlanbdjeaaAbsV3
set_option linter.all false
set_option linter.unusedVariables false
set_option linter.unusedSimpArgs false
/-! A region whose order as written may be taken: reckoned fast. -/
namespace Go.Abs
def bitsM : List Nat → Nat
  | [] => 0
  | t :: r => Nat.lor (Nat.shiftLeft 1 t) (bitsM r)
def dstM (o : Oper) : Nat := match o.dst with | some d => Nat.shiftLeft 1 d | none => 0
def rowQ (ops : Array Oper) (o : Oper) : Nat × Nat × Nat := (bitsM ((o.after.toList.filter (Region.binds .any)).map (·.on)), dstM o, bitsM (o.looksAt ops))
def bitB (a k : Nat) : Bool := Nat.beq (Nat.mod (Nat.shiftRight a k) 2) 1
def pairsQ (k d l : Nat) : List (Nat × Nat × Nat) → Bool
  | [] => true
  | (a', d', l') :: r => (bitB a' k || (Nat.beq (Nat.land d (Nat.lor l' d')) 0 && Nat.beq (Nat.land d' l) 0)) && pairsQ k d l r
def lexL : Nat → List (Nat × Nat × Nat) → Bool
  | _, [] => true
  | k, (a, d, l) :: r => Nat.beq (Nat.shiftRight a k) 0 && (pairsQ k d l r && lexL (k + 1) r)
def lexQ (ops : Array Oper) : Bool := Region.noSelect ops && lexL 0 (ops.toList.map (rowQ ops))
def lexC (ops : Array Oper) : Bool := lexQ ops || Region.lexB .any ops
theorem bitsM_bit : ∀ {l : List Nat} {i : Nat}, Nat.testBit (bitsM l) i = true ↔ i ∈ l
  | [], i => by simp [bitsM]
  | t :: r, i => by
    have h1 : bitsM (t :: r) = (1 <<< t) ||| bitsM r := rfl
    rw [h1, Nat.testBit_or, Bool.or_eq_true, bitsM_bit, Nat.testBit_shiftLeft]
    simp only [List.mem_cons]
    constructor
    · rintro (h | h)
      · left
        rw [Bool.and_eq_true, decide_eq_true_eq] at h
        rcases Nat.eq_or_lt_of_le h.1 with h1 | h1
        · exact h1.symm
        · exfalso
          have h2 := h.2
          have : Nat.testBit 1 (i - t) = false := by
            obtain ⟨m, hm⟩ : ∃ m, i - t = m + 1 := ⟨i - t - 1, by omega⟩
            rw [hm, Nat.testBit_succ]
            simp
          rw [this] at h2
          cases h2
      · exact .inr h
    · rintro (h | h)
      · subst h
        left
        simp
      · exact .inr h
theorem bitB_bit {a k : Nat} (h : bitB a k = true) : Nat.testBit a k = true := by
  have h := Nat.eq_of_beq_eq_true h
  have h : (a >>> k) % 2 = 1 := h
  rw [Nat.testBit_eq_decide_div_mod_eq, decide_eq_true_eq, ← Nat.shiftRight_eq_div_pow]
  exact h
theorem land_zero {a b : Nat} (h : Nat.beq (Nat.land a b) 0 = true) {i : Nat} (ha : Nat.testBit a i = true) : Nat.testBit b i = false := by
  have h := Nat.eq_of_beq_eq_true h
  have h2 : Nat.testBit (a &&& b) i = false := by
    rw [show a &&& b = Nat.land a b from rfl, h]
    simp
  rw [Nat.testBit_and, ha, Bool.true_and] at h2
  exact h2
theorem dstM_bit {o : Oper} {d : Nat} (h : o.dst = some d) : Nat.testBit (dstM o) d = true := by
  unfold dstM
  rw [h]
  show Nat.testBit (1 <<< d) d = true
  simp
theorem pairs_ok {ops : Array Oper} {k : Nat} {o : Oper} : ∀ {l : List Oper}, pairsQ k (rowQ ops o).2.1 (rowQ ops o).2.2 (l.map (rowQ ops)) = true → ∀ y ∈ l, (∃ e ∈ y.after, Region.binds .any e = true ∧ e.on = k) ∨ o.apart ops y = true
  | [], _, y, hy => by cases hy
  | x :: l, h, y, hy => by
    simp only [List.map_cons, rowQ, pairsQ, Bool.and_eq_true, Bool.or_eq_true] at h
    rcases List.mem_cons.1 hy with rfl | hy
    · rcases h.1 with h1 | ⟨h1, h2⟩
      · left
        have h1 := bitB_bit h1
        rw [bitsM_bit] at h1
        obtain ⟨e, he, rfl⟩ := List.mem_map.1 h1
        have := List.mem_filter.1 he
        exact ⟨e, by simpa using this.1, this.2, rfl⟩
      · right
        unfold Oper.apart
        rw [Bool.and_eq_true]
        constructor
        · split
          · rename_i d hd
            have h3 := land_zero h1 (dstM_bit hd)
            have h3 : Nat.testBit (bitsM (y.looksAt ops) ||| dstM y) d = false := h3
            rw [Nat.testBit_or, Bool.or_eq_false_iff] at h3
            rw [Bool.and_eq_true]
            constructor
            · rw [Bool.not_eq_true', ← Bool.not_eq_true]
              intro h4
              have := bitsM_bit.2 (List.contains_iff_mem.1 h4)
              rw [h3.1] at this
              cases this
            · rw [bne_iff_ne]
              intro h4
              have := dstM_bit h4
              rw [h3.2] at this
              cases this
          · rfl
        · split
          · rename_i d hd
            have h3 := land_zero h2 (dstM_bit hd)
            rw [Bool.not_eq_true', ← Bool.not_eq_true]
            intro h4
            have := bitsM_bit.2 (List.contains_iff_mem.1 h4)
            rw [h3] at this
            cases this
          · rfl
    · exact pairs_ok (by simpa only [rowQ] using h.2) y hy
theorem lexL_ok {ops : Array Oper} : ∀ {l : List Oper} {k : Nat}, lexL k (l.map (rowQ ops)) = true → ∀ i (o : Oper), l[i]? = some o → (∀ e ∈ o.after, Region.binds .any e = true → e.on < k + i) ∧ ∀ j y, i < j → l[j]? = some y → (∃ e ∈ y.after, Region.binds .any e = true ∧ e.on = k + i) ∨ o.apart ops y = true
  | [], k, _, i, o, hi => by simp at hi
  | x :: l, k, h, i, o, hi => by
    have h : (Nat.beq (Nat.shiftRight (rowQ ops x).1 k) 0 && (pairsQ k (rowQ ops x).2.1 (rowQ ops x).2.2 (l.map (rowQ ops)) && lexL (k + 1) (l.map (rowQ ops)))) = true := h
    simp only [Bool.and_eq_true] at h
    obtain ⟨h1, h2, h3⟩ := h
    cases i with
    | zero =>
      simp only [List.getElem?_cons_zero, Option.some.injEq] at hi
      subst hi
      refine ⟨fun e he hb => ?_, fun j y hj hy => ?_⟩
      · have h1 := Nat.eq_of_beq_eq_true h1
        rcases Nat.lt_or_ge e.on (k + 0) with h | h
        · exact h
        · exfalso
          have hbit : Nat.testBit (rowQ ops x).1 e.on = true := bitsM_bit.2 (List.mem_map.2 ⟨e, List.mem_filter.2 ⟨by simpa using he, hb⟩, rfl⟩)
          have : Nat.testBit ((rowQ ops x).1 >>> k) (e.on - k) = true := by
            rw [Nat.testBit_shiftRight, show k + (e.on - k) = e.on by omega]
            exact hbit
          rw [show (rowQ ops x).1 >>> k = Nat.shiftRight (rowQ ops x).1 k from rfl, h1] at this
          simp at this
      · cases j with
        | zero => omega
        | succ j =>
          rw [List.getElem?_cons_succ] at hy
          exact pairs_ok h2 y (List.mem_of_getElem? hy)
    | succ i =>
      rw [List.getElem?_cons_succ] at hi
      obtain ⟨g1, g2⟩ := lexL_ok h3 i o hi
      refine ⟨fun e he hb => by have := g1 e he hb; omega, fun j y hj hy => ?_⟩
      cases j with
      | zero => omega
      | succ j =>
        rw [List.getElem?_cons_succ] at hy
        rcases g2 j y (by omega) hy with ⟨e, a, b, c⟩ | h
        · exact .inl ⟨e, a, b, by omega⟩
        · exact .inr h
theorem lexFrom_ok {ops : Array Oper} (hg : ∀ i (o : Oper), ops[i]? = some o → (∀ e ∈ o.after, Region.binds .any e = true → e.on < i) ∧ ∀ j y, i < j → ops[j]? = some y → (∃ e ∈ y.after, Region.binds .any e = true ∧ e.on = i) ∨ o.apart ops y = true) :
    ∀ fuel k (listed : Array Bool), fuel + k = ops.size → listed.size = ops.size → (∀ j d, j < ops.size → listed.getD j d = decide (j < k)) → Region.lexFrom .any ops fuel k listed = true
  | 0, k, listed, hk, hs, hl => by
    unfold Region.lexFrom Region.ready
    rw [List.isEmpty_iff, List.filter_eq_nil_iff]
    intro i hi
    have hi := List.mem_range.1 hi
    rw [hl i true hi, decide_eq_true (by omega)]
    simp
  | fuel + 1, k, listed, hk, hs, hl => by
    have hklt : k < ops.size := by omega
    obtain ⟨g1, g2⟩ := hg k ops[k] (Array.getElem?_eq_getElem hklt)
    unfold Region.lexFrom
    rw [Bool.and_eq_true, Bool.and_eq_true]
    refine ⟨⟨?_, ?_⟩, ?_⟩
    · unfold Region.ready
      rw [List.contains_iff_mem, List.mem_filter]
      refine ⟨List.mem_range.2 hklt, ?_⟩
      rw [hl k true hklt, Array.getElem?_eq_getElem hklt]
      simp only [Nat.lt_irrefl, decide_false, Bool.not_false, Bool.true_and, Option.map_some, Option.getD_some]
      rw [Array.all_eq_true_iff_forall_mem]
      intro e he
      cases hb : Region.binds .any e with
      | false => rfl
      | true =>
        have := g1 e he hb
        rw [hl e.on false (by omega), decide_eq_true this]
        rfl
    · unfold Region.free
      rw [Array.getElem?_eq_getElem hklt]
      simp only [List.all_eq_true, List.mem_range]
      intro j hj
      by_cases hjk : j = k
      · simp [hjk]
      · by_cases hlt : j < k
        · rw [hl j true hj, decide_eq_true hlt]; simp
        · rw [Array.getElem?_eq_getElem hj]
          simp only [Bool.or_eq_true]
          right
          rcases g2 j ops[j] (by omega) (Array.getElem?_eq_getElem hj) with ⟨e, a, b, c⟩ | h
          · left
            rw [Array.any_eq_true']
            exact ⟨e, a, by simp [b, c]⟩
          · exact .inr h
    · refine lexFrom_ok hg fuel (k + 1) _ (by omega) (by simpa using hs) fun j d hj => ?_
      by_cases hjk : j = k
      · subst hjk
        simp [Array.getD_eq_getD_getElem?, Array.getElem?_setIfInBounds, hs, hj]
      · have := hl j d hj
        rw [Array.getD_eq_getD_getElem?] at this ⊢
        rw [Array.getElem?_setIfInBounds, if_neg (by omega), this]
        simp only [decide_eq_decide]
        omega
theorem lexC_ok {ops : Array Oper} (h : lexC ops = true) : Region.lexB .any ops = true := by
  unfold lexC at h
  rw [Bool.or_eq_true] at h
  rcases h with h | h
  · unfold lexQ at h
    rw [Bool.and_eq_true] at h
    unfold Region.lexB
    rw [Bool.and_eq_true]
    refine ⟨h.1, lexFrom_ok (fun i o hi => ?_) ops.size 0 _ rfl (by simp) fun j d hj => ?_⟩
    · obtain ⟨g1, g2⟩ := lexL_ok h.2 i o (by simpa using hi)
      refine ⟨fun e he hb => by have := g1 e he hb; omega, fun j y hj hy => ?_⟩
      rcases g2 j y hj (by simpa using hy) with ⟨e, a, b, c⟩ | h
      · exact .inl ⟨e, a, b, by omega⟩
      · exact .inr h
    · simp [Array.getD_eq_getD_getElem?, Array.getElem?_replicate, hj]
  · exact h
end Go.Abs
