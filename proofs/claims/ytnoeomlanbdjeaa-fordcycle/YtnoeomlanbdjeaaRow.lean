/- Part of the proof of the law's row: YtnoeomlanbdjeaaRow. -/
import Derived.Test.YtnoeomlanbdjeaaAbsY
import Derived.OpenShut
import Derived.ProofKit
import Derived.SizedLaws
set_option linter.all false
set_option linter.unusedVariables false
set_option linter.unusedSimpArgs false
namespace Go.Abs
open Go.RowKit
mutual
/-- No slice of elements of no cells. -/
def Ty.posB : Ty → Bool
  | .int _ => true
  | .bool => true
  | .str => true
  | .st fs => Ty.possB fs
  | .sl _ t => decide (0 < t.sz) && t.posB
  | .map _ _ _ _ => false
  | .arr _ _ => false
  | .opq _ => false
  | .len _ _ => false
def Ty.possB : List Ty → Bool
  | [] => true
  | t :: ts => t.posB && Ty.possB ts
end
theorem exists_list {α : Type} {p : Nat → α → Prop} : ∀ n : Nat, (∀ i, i < n → ∃ y, p i y) → ∃ l : List α, l.length = n ∧ ∀ i y, l[i]? = some y → p i y
  | 0, _ => ⟨[], rfl, fun i y h => by simp at h⟩
  | n + 1, h => by
    obtain ⟨l, h1, h2⟩ := exists_list n fun i hi => h i (by omega)
    obtain ⟨y, hy⟩ := h n (by omega)
    refine ⟨l ++ [y], by simp [h1], fun i z hz => ?_⟩
    rw [List.getElem?_append] at hz
    split at hz
    · exact h2 i z hz
    · rename_i hlt
      have hi : i = n := by
        have := (List.getElem?_eq_some_iff.1 hz).1
        simp at this
        omega
      subst hi
      rw [h1] at hz
      simp at hz
      subst hz
      exact hy
mutual
/-- No longer than a row's reach; numbers as their kinds. -/
def Sz (P : Program) : (t : Ty) → t.Den → Prop
  | .int k, n => k.min ≤ n ∧ n ≤ k.max
  | .bool, _ => True
  | .str, s => ByteArray.size s ≤ 140737488351232
  | .st ts, x => Szs P ts x
  | .sl e t, xs => List.length xs * P.bytesOf e ≤ 140737488351232 ∧ ∀ x : t.Den, x ∈ xs → Sz P t x
  | .map _ _ _ _, _ => False
  | .arr _ _, _ => False
  | .opq _, _ => False
  | .len _ _, _ => False
def Szs (P : Program) : (ts : List Ty) → Ty.Dens ts → Prop
  | [], _ => True
  | t :: ts, x => Sz P t x.1 ∧ Szs P ts x.2
end
theorem weightsAll_mem {H : Type} {P : Program} {e : TypeId} : ∀ {l : List (DataW H)} {d : DataW H}, d ∈ l → ∀ n ∈ d.weights P e, n ∈ DataW.weightsAll P e l
  | [], _, h, _, _ => by cases h
  | x :: l, d, h, n, hn => by
    simp only [DataW.weightsAll, List.mem_append]
    rcases List.mem_cons.1 h with rfl | h
    · exact .inl hn
    · exact .inr (weightsAll_mem h n hn)
section
variable {H : Type} {enc : TypeId × Value → H} {P : Program} {w : World} {spare : Nat → Bool} {held : Bool}
theorem cells?_get {a : Addr} {n : Nat} {cs : List Value} (h : w.cells? 0 a n = some cs) : cs.length = n ∧ ∀ k v, cs[k]? = some v → w.cell? (a.add k) = some v := by
  unfold World.cells? at h
  rw [if_pos (Nat.zero_le _)] at h
  have hl : cs.length = n := by simpa using mapM_some_length h
  refine ⟨hl, fun k v hk => ?_⟩
  have hlt := (List.getElem?_eq_some_iff.1 hk).1
  rw [mapM_some_get h k k (by rw [List.getElem?_range (by omega)]), hk]
mutual
theorem open_rep : ∀ {t : Ty} {T : TypeId} {fuel : Nat} {cs : List Value} {x : DataW H × List MemPlace}, t.posB = true → TyIs P t T → DataW.trod enc P w 0 spare held fuel T cs = some x → ∃ y : t.Den, Rep (fun b => b < w.heap.size) w t y cs ∧ ((∀ n ∈ x.1.weights P T, n ≤ 140737488351232) → Sz P t y)
  | .map _ _ _ _, T, fuel, cs, x, hp, ht, h => by simp [Ty.posB] at hp
  | .arr _ _, T, fuel, cs, x, hp, ht, h => by simp [Ty.posB] at hp
  | .opq _, T, fuel, cs, x, hp, ht, h => by simp [Ty.posB] at hp
  | .len _ _, T, fuel, cs, x, hp, ht, h => by simp [Ty.posB] at hp
  | .int k, T, fuel, cs, x, _, ht, h => by
    simp only [TyIs] at ht
    obtain ⟨n, rfl, _, hw⟩ := DataW.trod_int ht.1 h
    exact ⟨n, by simp only [Rep], fun _ => by simp only [Sz]; simpa [Lit.wf] using hw⟩
  | .bool, T, fuel, cs, x, _, ht, h => by
    simp only [TyIs] at ht
    obtain ⟨n, rfl, _⟩ := DataW.trod_bool ht.1 h
    exact ⟨n, by simp only [Rep], fun _ => by simp only [Sz]⟩
  | .str, T, fuel, cs, x, _, ht, h => by
    simp only [TyIs] at ht
    obtain ⟨n, rfl, rfl, _⟩ := DataW.trod_string ht.1 h
    refine ⟨n, by simp only [Rep], fun hw => ?_⟩
    simp only [Sz]
    have := hw n.data.toList.length (by simp [DataW.weights])
    simpa using this
  | .st ts, T, fuel, cs, x, hp, ht, h => by
    have hi := ht.cellsOf
    simp only [TyIs] at ht
    simp only [Ty.posB] at hp
    simp only [Rep, Sz]
    rcases ht.2.2.2 with ⟨fs, h1, h2⟩ | ⟨n, e, h1, h2, h3⟩
    · obtain ⟨xs, m, rfl, hxx, hl, hxl, hx⟩ := DataW.trod_struct h1 h
      have hl' : cs.length = 0 + Ty.szs ts := by rw [hl, hi]; simp [Ty.sz]
      obtain ⟨y, hy, hwy⟩ := open_fields (W := ∀ n ∈ x.1.weights P T, n ≤ 140737488351232) (m := m) (o := 0) (cs := cs) hp h2 (fun f hf => by
        obtain ⟨i, hi⟩ := List.getElem?_of_mem hf
        have hlt := (List.getElem?_eq_some_iff.1 hi).1
        have := hx i f (by simpa using hi)
        have hxi : i < xs.length := by rw [hxl]; simpa using hlt
        refine ⟨_, this.trans (List.getElem?_eq_getElem hxi), fun hW n hn => hW n ?_⟩
        rw [hxx]
        simp only [DataW.weights, h1]
        exact DataW.weights_mem_each (j := i) (by rw [List.getElem?_map, hi]; rfl) (by rw [List.getElem?_map, List.getElem?_eq_getElem hxi]; rfl) n hn) hl'
      exact ⟨y, by simpa using hy, hwy⟩
    · obtain ⟨xs, m, rfl, hxx, hl, hxl, hx⟩ := DataW.trod_array h1 h
      have hl' : cs.length = 0 * P.cellsOf e + Ty.szs ts := by rw [hl, hi]; simp [Ty.sz]
      obtain ⟨y, hy, hwy⟩ := open_elems (W := ∀ n ∈ x.1.weights P T, n ≤ 140737488351232) (m := m) (j := 0) (cs := cs) hp h3 (fun i hi => by
        have := hx i (by rw [h2.1]; simpa using hi)
        have hxi : i < xs.length := by rw [hxl, h2.1]; simpa using hi
        refine ⟨_, this.trans (List.getElem?_eq_getElem hxi), fun hW n hn => hW n ?_⟩
        rw [hxx]
        simp only [DataW.weights, h1]
        exact weightsAll_mem (List.mem_map.2 ⟨_, List.getElem_mem hxi, rfl⟩) n hn) hl'
      exact ⟨y, by simpa using hy, hwy⟩
  | .sl e t, T, fuel, cs, x, hp, ht, h => by
    simp only [TyIs] at ht
    simp only [Ty.posB, Bool.and_eq_true, decide_eq_true_eq] at hp
    simp only [Rep]
    have hce : P.cellsOf e = t.sz := ht.2.2.cellsOf
    rcases DataW.trod_slice ht.1 h with ⟨rfl, _⟩ | ⟨a, len, cap, elems, rest, n, rfl, rfl, rfl, _, hl, hm, hlen, hel, _⟩
    · exact ⟨[], ⟨none, 0, rfl, ⟨Nat.le_refl _, Nat.zero_le _⟩, fun h => absurd h (by simp)⟩, fun _ => by simp only [Sz]; exact ⟨by simp, fun x hx => by cases hx⟩⟩
    · obtain ⟨ys, hys, hy⟩ := exists_list (p := fun i (y : t.Den) => ∃ us, w.cells? 0 (a.add (i * t.sz)) t.sz = some us ∧ Rep (fun b => b < w.heap.size) w t y us ∧ (∀ z, elems[i]? = some z → (∀ n ∈ z.1.weights P e, n ≤ 140737488351232) → Sz P t y)) len fun i hi => by
        have h1 := hel i hi
        rw [hce, List.getElem?_eq_getElem (by omega), Option.bind_eq_some_iff] at h1
        obtain ⟨us, h2, h3⟩ := h1
        obtain ⟨y, hy, hwy⟩ := open_rep hp.2 ht.2.2 h3
        refine ⟨y, us, h2, hy, fun z hz => ?_⟩
        rw [List.getElem?_eq_getElem (by omega)] at hz
        have hz := Option.some.inj hz
        subst hz
        exact hwy
      refine ⟨ys, ⟨some a, cap, by rw [hys], by rw [hys]; exact ⟨hl, hm⟩, fun hpos => ?_⟩, fun hW => ?_⟩
      rotate_left
      · simp only [DataW.weights, ht.1] at hW
        simp only [Sz]
        constructor
        · have := hW _ (List.mem_cons_self ..)
          simp only [List.length_map] at this
          refine Nat.le_trans (Nat.mul_le_mul_right _ ?_) this
          omega
        · intro y hmem
          obtain ⟨i, hi⟩ := List.getElem?_of_mem hmem
          obtain ⟨us, _, _, hz⟩ := hy i y hi
          have hlt : i < elems.length := by
            have := (List.getElem?_eq_some_iff.1 hi).1
            omega
          refine hz _ (List.getElem?_eq_getElem hlt) fun n hn => hW n (List.mem_cons_of_mem _ (List.mem_append.2 (.inl ?_)))
          exact weightsAll_mem (List.mem_map.2 ⟨_, List.getElem_mem hlt, rfl⟩) n hn
      have h0 : ∃ y, ys[0]? = some y := ⟨_, List.getElem?_eq_getElem hpos⟩
      obtain ⟨y0, hy0⟩ := h0
      obtain ⟨us, hu, _⟩ := hy 0 y0 hy0
      obtain ⟨hul, hu2⟩ := cells?_get hu
      obtain ⟨u0, hu0⟩ : ∃ u, us[0]? = some u := ⟨_, List.getElem?_eq_getElem (by omega)⟩
      have hcell := hu2 0 u0 hu0
      rw [Nat.zero_mul] at hcell
      have hc0 : w.cell? a = some u0 := by simpa [Addr.add] using hcell
      have hsp : a.spot = none ∧ a.block < w.heap.size := by
        unfold World.cell? at hc0
        split at hc0
        · rename_i c _ _ hb
          refine ⟨?_, (Array.getElem?_eq_some_iff.1 hb).1⟩
          cases hs : a.spot with
          | none => rfl
          | some s => rw [hs] at hc0; simp at hc0
        · cases hc0
      refine ⟨a, rfl, hsp.1, hsp.2, fun j y hj => ?_⟩
      obtain ⟨us, hu, hr, _⟩ := hy j y hj
      obtain ⟨hul, hu2⟩ := cells?_get hu
      refine ⟨us, hul, fun k v hk => ?_, hr⟩
      have := hu2 k v hk
      rw [add_spot hsp.1, add_spot rfl] at this
      rw [← this, Nat.add_assoc]
theorem open_fields : ∀ {ts : List Ty} {fl : List Field} {o m : Nat} {cs : List Value} {W : Prop}, Ty.possB ts = true → FieldsIs P ts fl o → (∀ f ∈ fl, ∃ y : DataW H × List MemPlace, DataW.trod enc P w 0 spare held m f.type ((cs.drop f.offset).take (P.cellsOf f.type)) = some y ∧ (W → ∀ n ∈ y.1.weights P f.type, n ≤ 140737488351232)) → cs.length = o + Ty.szs ts → ∃ y : Ty.Dens ts, Reps (fun b => b < w.heap.size) w ts y (cs.drop o) ∧ (W → Szs P ts y)
  | [], fl, o, m, cs, W, _, _, _, hl => ⟨(), by simp only [Reps]; exact List.drop_of_length_le (by simp [Ty.szs] at hl; omega), fun _ => by simp only [Szs]⟩
  | t :: ts, [], o, m, cs, W, _, hf, _, _ => by simp [FieldsIs] at hf
  | t :: ts, f :: fl, o, m, cs, W, hp, hf, hx, hl => by
    simp only [FieldsIs] at hf
    simp only [Ty.possB, Bool.and_eq_true] at hp
    simp only [Ty.szs] at hl
    obtain ⟨f', fl', e', _, hoff, hty, hrest⟩ := hf
    injection e' with e1 e2
    subst e1 e2
    obtain ⟨y1, h1, hw1⟩ := hx f (List.mem_cons_self ..)
    obtain ⟨y, hy, hw2⟩ := open_rep hp.1 hty h1
    obtain ⟨ys, hys, hw3⟩ := open_fields (W := W) (o := o + t.sz) hp.2 hrest (fun g hg => hx g (List.mem_cons_of_mem _ hg)) (by omega)
    refine ⟨(y, ys), ?_, fun hW => by simp only [Szs]; exact ⟨hw2 (hw1 hW), hw3 hW⟩⟩
    simp only [Reps]
    rw [hoff, hty.cellsOf] at hy
    refine ⟨_, _, ?_, hy, hys⟩
    rw [← List.drop_drop, List.take_append_drop]
theorem open_elems : ∀ {ts : List Ty} {e : TypeId} {j m : Nat} {cs : List Value} {W : Prop}, Ty.possB ts = true → ElemsIs P ts e → (∀ i, i < j + ts.length → ∃ y : DataW H × List MemPlace, DataW.trod enc P w 0 spare held m e ((cs.drop (i * P.cellsOf e)).take (P.cellsOf e)) = some y ∧ (W → ∀ n ∈ y.1.weights P e, n ≤ 140737488351232)) → cs.length = j * P.cellsOf e + Ty.szs ts → ∃ y : Ty.Dens ts, Reps (fun b => b < w.heap.size) w ts y (cs.drop (j * P.cellsOf e)) ∧ (W → Szs P ts y)
  | [], e, j, m, cs, W, _, _, _, hl => ⟨(), by simp only [Reps]; exact List.drop_of_length_le (by simp [Ty.szs] at hl; omega), fun _ => by simp only [Szs]⟩
  | t :: ts, e, j, m, cs, W, hp, hf, hx, hl => by
    simp only [ElemsIs] at hf
    simp only [Ty.possB, Bool.and_eq_true] at hp
    simp only [Ty.szs] at hl
    have hce : P.cellsOf e = t.sz := hf.1.cellsOf
    obtain ⟨y1, h1, hw1⟩ := hx j (by simp)
    obtain ⟨y, hy, hw2⟩ := open_rep hp.1 hf.1 h1
    obtain ⟨ys, hys, hw3⟩ := open_elems (W := W) (j := j + 1) hp.2 hf.2 (fun i hi => hx i (by simp at hi ⊢; omega)) (by rw [Nat.add_mul, Nat.one_mul]; omega)
    refine ⟨(y, ys), ?_, fun hW => by simp only [Szs]; exact ⟨hw2 (hw1 hW), hw3 hW⟩⟩
    simp only [Reps]
    refine ⟨_, _, ?_, hy, hys⟩
    rw [Nat.add_mul, Nat.one_mul, ← List.drop_drop, List.take_append_drop]
end
theorem open_arg {t : Ty} {T : TypeId} {v : Value} {r : Reach} {base : Nat} {d : DataW H} {ps : List MemPlace} (hp : t.posB = true) (ht : TyIs P t T) (hv : Value.okWide P w r base T v) (h : DataW.Trod enc P w 0 spare held T v d ps) :
    ∃ x : t.Den, (∀ γ, Match (fun b => b < w.heap.size) w γ (.data t x) v) ∧ ((∀ n ∈ d.weights P T, n ≤ 140737488351232) → Sz P t x) := by
  obtain ⟨fuel, hf⟩ := h
  obtain ⟨x, hr, hsz⟩ := open_rep hp ht hf
  refine ⟨x, fun γ => match_data.2 ⟨_, hr, ?_⟩, hsz⟩
  cases t with
  | int k =>
    simp only [TyIs] at ht
    obtain ⟨n, rfl⟩ := Go.WideShapes.okWide_int ht.1 hv
    rfl
  | bool =>
    simp only [TyIs] at ht
    obtain ⟨n, rfl⟩ := Go.WideShapes.okWide_bool ht.1 hv
    rfl
  | str =>
    simp only [TyIs] at ht
    obtain ⟨n, rfl⟩ := Go.WideShapes.okWide_string ht.1 hv
    rfl
  | sl e t =>
    simp only [TyIs] at ht
    obtain ⟨a, l, c, rfl⟩ := Go.WideShapes.okWide_slice ht.1 hv
    rfl
  | st ts =>
    simp only [TyIs] at ht
    unfold Value.okWide at hv
    have : ∃ cs, v = .agg cs := by
      rcases ht.2.2.2 with ⟨fs, h1, _⟩ | ⟨n, e, h1, _⟩
      · rw [h1] at hv
        obtain ⟨cs, h2, _⟩ := hv
        exact ⟨cs, h2⟩
      · rw [h1] at hv
        obtain ⟨cs, h2, _⟩ := hv
        exact ⟨cs, h2⟩
    obtain ⟨cs, rfl⟩ := this
    simp [toVal, Value.cells]
  | map _ _ _ _ => simp [Ty.posB] at hp
  | arr _ _ => simp [Ty.posB] at hp
  | opq _ => simp [Ty.posB] at hp
  | len _ _ => simp [Ty.posB] at hp
theorem arg_sized {P : Program} {H : Type} {ts : List TypeId} {ds : List (DataW H)} (h : (DataW.weightsEach P ts ds).all (· ≤ reachBytes) = true) {j : Nat} {t : TypeId} {d : DataW H} (ht : ts[j]? = some t) (hd : ds[j]? = some d) : ∀ n ∈ d.weights P t, n ≤ 140737488351232 := fun n hn => by
  have := List.all_eq_true.1 h n (DataW.weights_mem_each ht hd n hn)
  have h2 : n ≤ reachBytes := of_decide_eq_true this
  exact Nat.le_trans h2 (by decide)
end
theorem gok_nil {S : Nat → Prop} {w : World} : GOk [] S w := fun g av h => by simp [get] at h
theorem loose_nil : ∀ s o, get ([] : Hp) s = some o → o.loose = true := fun s o h => by simp [get] at h
end Go.Abs
