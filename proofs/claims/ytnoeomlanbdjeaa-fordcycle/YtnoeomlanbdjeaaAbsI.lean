/- Part of the proof of the law's row: YtnoeomlanbdjeaaAbsI. -/
import Derived.Test.YtnoeomlanbdjeaaAbsH
set_option linter.all false
set_option linter.unusedVariables false
set_option linter.unusedSimpArgs false
namespace Go.Abs
open Go.RowKit

/-- An element of a row, or what a variable holds. -/
def elemAt (t : Ty) (xs : List t.Den) : Option Nat → Option (t.Den × List Prop)
  | some j => some (List.getD (α := t.Den) xs j t.dflt, [j < List.length xs])
  | none => (match xs with
    | [x] => some (x, [])
    | _ => none)
def setAt (t : Ty) (xs : List t.Den) (x : t.Den) : Option Nat → List t.Den
  | some j => List.set xs j x
  | none => [x]
theorem elemAt_ok {t : Ty} {xs : List t.Den} {j : Option Nat} {x : t.Den} {ps : List Prop} (h : elemAt t xs j = some (x, ps)) (hps : ∀ p ∈ ps, p) : xs[j.getD 0]? = some x ∧ ∀ y : t.Den, setAt t xs y j = List.set xs (j.getD 0) y := by
  unfold elemAt at h
  split at h
  · rename_i j
    simp only [Option.some.injEq, Prod.mk.injEq] at h
    obtain ⟨rfl, rfl⟩ := h
    have hj : j < List.length xs := hps _ (List.mem_cons_self ..)
    refine ⟨?_, fun y => rfl⟩
    rw [Option.getD_some, List.getD_eq_getElem?_getD, List.getElem?_eq_getElem hj]
    rfl
  · split at h
    · rename_i x'
      simp only [Option.some.injEq, Prod.mk.injEq] at h
      obtain ⟨rfl, rfl⟩ := h
      exact ⟨rfl, fun y => rfl⟩
    · cases h
/-- A part of a struct that lies cell by cell. -/
def loadRcd (tp : Ty) (o : Nat) (vs : List AV) : Ev :=
  if tp.agg then (if tp.flat then (match gather tp ((vs.drop o).take tp.sz) with
      | some x => some (.data tp x, [])
      | none => none)
    else some (.agg tp ((vs.drop o).take tp.sz), []))
  else (match vs[o]? with
    | some v => some (v, [])
    | none => none)
/-- A slice with more behind it, where a slice is read. -/
def lentOf (t2 : Ty) : (t : Ty) → t.Den → Option AV
  | .len e t', x => if Ty.beq t2 (.sl e t') then some (.lent e t' x.1 x.2) else none
  | _, _ => none
def loadAV (t2 t : Ty) (x : t.Den) : Option AV := if Ty.beq t2 t then some (.data t x) else lentOf t2 t x
def evLoad (Γ : Env) (st : St) (T : TypeId) (x : AV) : Ev :=
  match x with
  | .rptr t y => (match Γ.ty T with
    | some t' => (loadAV t' t y).map fun av => (av, [])
    | none => none)
  | .optr s t j p => (match get st.heap s with
    | some (.row _ t' xs _) => if Ty.beq t' t then
        (match elemAt t' xs j with
        | some (x, ps) => (match proj t' x p, Γ.ty T with
          | some y, some t2 => (loadAV t2 y.1 y.2).map fun av => (av, ps ++ t'.inR p)
          | _, _ => none)
        | none => none)
      else none
    | some (.rcd _ t' vs) => (match j, t.sub p, Γ.ty T with
      | none, some tp, some t2 => if Ty.beq t' t && (Ty.beq t2 tp && (t.inR p).isEmpty) then loadRcd tp (t.offs p) vs else none
      | _, _, _ => none)
    | some (.deep _ t' c none) => (match get st.heap c, j, p, Γ.ty T with
      | some (.fam e3 t3 xss), some i, [], some (.sl e2 t2) => if Ty.beq t' t && (Ty.beq t (.sl e2 t2) && (Ty.beq t2 t3 && Nat.beq e2 e3)) then some (.inn c i t3 (List.length (List.getD (α := List t3.Den) xss i [])), [i < List.length xss]) else none
      | _, _, _, _ => none)
    | _ => none)
  | .iptr c i j t p => (match get st.heap c with
    | some (.fam _ t' xss) => if Ty.beq t' t then
        (match proj t' (List.getD (α := t'.Den) (List.getD (α := List t'.Den) xss i []) j t'.dflt) p, Γ.ty T with
        | some y, some t2 => (loadAV t2 y.1 y.2).map fun av => (av, [i < List.length xss, j < List.length (List.getD (α := List t'.Den) xss i [])] ++ t'.inR p)
        | _, _ => none)
      else none
    | _ => none)
  | .cptr s => (match get st.heap s with
    | some (.cell _ v) => if Γ.one T then some (v, []) else none
    | _ => none)
  | _ => none
def evFieldAddr (Γ : Env) (T : TypeId) (x : AV) (k : Nat) : Ev :=
  match Γ.ty T with
  | some t' => (match x with
    | .rptr t y => if Ty.beq t' t then
        (match proj t y [k] with
        | some z => if decide (0 < z.1.sz) && !Γ.arrs.contains T then some (.rptr z.1 z.2, []) else none
        | none => none)
      else none
    | .optr s t j p => (match t.sub p, t.sub (p ++ [k]) with
      | some tp, some tk => if Ty.beq t' tp && (decide (0 < tk.sz) && !Γ.arrs.contains T) then some (.optr s t j (p ++ [k]), []) else none
      | _, _ => none)
    | _ => none)
  | none => none
def evField (Γ : Env) (T : TypeId) (x : AV) (k : Nat) : Ev :=
  match Γ.ty T with
  | some (.st fs) => (match x with
   | .agg t' vs => (match (Ty.st fs).sub [k] with
      | some tk => if Ty.beq t' (.st fs) && (!Γ.arrs.contains T && decide (vs.length = Ty.szs fs)) then loadRcd tk ((Ty.st fs).offs [k]) vs else none
      | none => none)
   | x => match castTo (.st fs) x with
    | some y => (match proj (.st fs) y [k] with
      | some z => if !Γ.arrs.contains T then some (.data z.1 z.2, []) else none
      | none => none)
    | none => none)
  | _ => none

section
variable {P : Program} {S : Nat → Prop} {w : World} {γ : Nat → Value} {Γ : Env}
theorem rangeAt_of {b o : Nat} {cs : List Value} (h : ∀ k u, cs[k]? = some u → w.cell? ⟨b, o + k, none⟩ = some u) : w.rangeAt b o cs := h
theorem rangeAt_same {w' : World} {b o : Nat} {cs : List Value} (h : w.rangeAt b o cs) (hb : w'.heap[b]? = w.heap[b]?) : w'.rangeAt b o cs := fun j v hj =>
  (World.cell?_of_block (a := ⟨b, _, none⟩) hb).trans (h j v hj)
/-- What lies at a place is loaded. -/
theorem load_ok {t : Ty} {T : TypeId} (h : TyIs P t T) {x : t.Den} {b o : Nat} {cs : List Value} (hr : Rep S w t x cs) {w' : World} (hc : w'.rangeAt b o cs) :
    (Instr.loadAt T (.pointer (some ⟨b, o, none⟩))).run P w' = .ok (toVal t cs) w' := by
  cases hag : t.agg with
  | true =>
    rw [toVal_agg hag]
    cases t with
    | st ts =>
      obtain ⟨hi, _, _, hu⟩ := h
      obtain ⟨i, h1, _, h3⟩ := hi.get
      have hsz : (P.info? T).map (·.size) = some cs.length := by
        rw [h1, hr.len]; simp [h3, Ty.sz]
      rcases hu with ⟨fs, hu, _⟩ | ⟨n, e, hu, _⟩
      · exact run_loadAt_mid w' b o T cs _ hc hu rfl hsz
      · exact run_loadAt_mid w' b o T cs _ hc hu rfl hsz
    | arr n t =>
      obtain ⟨hi, _, _, e, hu, _⟩ := h
      obtain ⟨i, h1, _, h3⟩ := hi.get
      have hsz : (P.info? T).map (·.size) = some cs.length := by
        rw [h1, hr.len]; simp [h3, Ty.sz]
      exact run_loadAt_mid w' b o T cs _ hc hu rfl hsz
    | _ => cases hag
  | false =>
    obtain ⟨u, hu⟩ : ∃ u, cs = [u] := ⟨_, toVal_one hag hr⟩
    have hv : toVal t cs = u := by
      subst hu
      cases t <;> first | rfl | cases hag
    have hc0 := hc 0 u (by rw [hu]; rfl)
    simp only [Nat.add_zero] at hc0
    simp only [Instr.loadAt, Instr.sureAddr, Sem.run_bind, Sem.run_pure, Result.andThen_ok, loadVar, h.isAgg w', hag, Bool.false_eq_true, if_false, hv]
    rw [run_load P w' _]
    simp [hc0]
theorem own_cellAt {e : TypeId} {size n : Nat} {cs : List Value} {g o m cap : Nat} (h : Owns w e size (.slice (some ⟨g, o, none⟩) m cap) n cs) : w.rangeAt g o cs := fun j v hj => h.cells j v hj
theorem rangeAt_part {b o k n : Nat} {cs : List Value} (h : w.rangeAt b o cs) : w.rangeAt b (o + k) ((cs.drop k).take n) := fun j v hj => by
  rw [Nat.add_assoc]
  refine h (k + j) v ?_
  rw [List.getElem?_take] at hj
  split at hj
  · simpa [List.getElem?_drop] using hj
  · cases hj
/-- What lies at a place is loaded, cell by cell. -/
theorem load_cells {t : Ty} {T : TypeId} (h : TyIs P t T) {b o : Nat} {cs : List Value} (hl : cs.length = t.sz) {w' : World} (hc : w'.rangeAt b o cs) :
    (Instr.loadAt T (.pointer (some ⟨b, o, none⟩))).run P w' = .ok (toVal t cs) w' := by
  cases hag : t.agg with
  | true =>
    rw [toVal_agg hag]
    cases t with
    | st ts =>
      obtain ⟨hi, _, _, hu⟩ := h
      obtain ⟨i, h1, _, h3⟩ := hi.get
      have hsz : (P.info? T).map (·.size) = some cs.length := by
        rw [h1, hl]; simp [h3, Ty.sz]
      rcases hu with ⟨fs, hu, _⟩ | ⟨n, e, hu, _⟩
      · exact run_loadAt_mid w' b o T cs _ hc hu rfl hsz
      · exact run_loadAt_mid w' b o T cs _ hc hu rfl hsz
    | arr n t =>
      obtain ⟨hi, _, _, e, hu, _⟩ := h
      obtain ⟨i, h1, _, h3⟩ := hi.get
      have hsz : (P.info? T).map (·.size) = some cs.length := by
        rw [h1, hl]; simp [h3, Ty.sz]
      exact run_loadAt_mid w' b o T cs _ hc hu rfl hsz
    | _ => cases hag
  | false =>
    have hsz : t.sz = 1 := by cases t <;> first | rfl | cases hag
    obtain ⟨u, rfl⟩ : ∃ u, cs = [u] := List.length_eq_one_iff.1 (hl.trans hsz)
    have hv : toVal t [u] = u := by cases t <;> first | rfl | cases hag
    have hc0 := hc 0 u rfl
    simp only [Nat.add_zero] at hc0
    simp only [Instr.loadAt, Instr.sureAddr, Sem.run_bind, Sem.run_pure, Result.andThen_ok, loadVar, h.isAgg w', hag, Bool.false_eq_true, if_false, hv]
    rw [run_load P w' _]
    simp [hc0]
theorem Matches.len {S : Nat → Prop} {w : World} {γ : Nat → Value} : ∀ {l : List AV} {vs : List Value}, Matches S w γ l vs → l.length = vs.length
  | [], vs, h => by simp only [Matches] at h; subst h; rfl
  | x :: l, vs, h => by
    simp only [Matches] at h
    obtain ⟨u, us, rfl, _, h2⟩ := h
    simp [Matches.len h2]
theorem loadRcd_ok {tp : Ty} {o : Nat} {vs : List AV} {av : AV} {ps : List Prop} (h : loadRcd tp o vs = some (av, ps)) {us : List Value} (hm : Matches S w γ vs us) (hl : ((us.drop o).take tp.sz).length = tp.sz) : Match S w γ av (toVal tp ((us.drop o).take tp.sz)) := by
  unfold loadRcd at h
  have hp := (matches_take (n := tp.sz) (matches_take (n := o) hm).2).1
  split at h
  · rename_i hag
    split at h
    · split at h
      · rename_i x hx
        simp only [Option.some.injEq, Prod.mk.injEq] at h
        obtain ⟨rfl, rfl⟩ := h
        exact match_data.2 ⟨_, gather_ok hp hx, rfl⟩
      · cases h
    · simp only [Option.some.injEq, Prod.mk.injEq] at h
      obtain ⟨rfl, rfl⟩ := h
      rw [toVal_agg hag]
      simp only [Match]
      exact ⟨_, rfl, hp⟩
  · rename_i hag
    have hag : tp.agg = false := by simpa using hag
    have hsz : tp.sz = 1 := by cases tp <;> first | rfl | cases hag
    split at h
    · rename_i v hv
      simp only [Option.some.injEq, Prod.mk.injEq] at h
      obtain ⟨rfl, rfl⟩ := h
      obtain ⟨u, hu, hmu⟩ := matches_get hm hv
      have : (us.drop o).take tp.sz = [u] := by
        rw [hsz]
        have h0 : o < us.length := (List.getElem?_eq_some_iff.1 hu).1
        rw [List.drop_eq_getElem_cons h0]
        have : us[o] = u := by rw [List.getElem?_eq_getElem h0] at hu; simpa using hu
        simp [this]
      rw [this]
      have hv : toVal tp [u] = u := by cases tp <;> first | rfl | cases hag
      rw [hv]
      exact hmu
    · cases h
mutual
theorem sub_offs : ∀ {t : Ty} {p : List Nat} {tp : Ty}, (∀ q ∈ t.inR p, q) → t.sub p = some tp → t.offs p + tp.sz ≤ t.sz
  | t, [], tp, _, h => by
    have : t = tp := by cases t <;> simpa [Ty.sub] using h
    subst this
    rw [offs_nil]; simp
  | .st ts, i :: p, tp, hin, h => by
    simp only [Ty.sub, Ty.offs, Ty.sz] at h ⊢
    simp only [Ty.inR] at hin
    exact subs_offs hin h
  | .arr n t, i :: p, tp, hin, h => by
    simp only [Ty.sub, Ty.offs, Ty.sz] at h ⊢
    simp only [Ty.inR] at hin
    have hi : i < n := hin _ (List.mem_cons_self ..)
    have f1 := arr_fit (z := t.sz) hi
    have := sub_offs (fun q hq => hin q (List.mem_cons_of_mem _ hq)) h
    omega
  | .int _, _ :: _, _, _, h => by simp [Ty.sub] at h
  | .bool, _ :: _, _, _, h => by simp [Ty.sub] at h
  | .str, _ :: _, _, _, h => by simp [Ty.sub] at h
  | .sl _ _, _ :: _, _, _, h => by simp [Ty.sub] at h
  | .map _ _ _ _, _ :: _, _, _, h => by simp [Ty.sub] at h
  | .opq _, _ :: _, _, _, h => by simp [Ty.sub] at h
  | .len _ _, _ :: _, _, _, h => by simp [Ty.sub] at h
theorem subs_offs : ∀ {ts : List Ty} {i : Nat} {p : List Nat} {tp : Ty}, (∀ q ∈ Ty.inRs ts i p, q) → Ty.subs ts i p = some tp → Ty.offss ts i p + tp.sz ≤ Ty.szs ts
  | [], _, _, _, _, h => by simp [Ty.subs] at h
  | t :: ts, 0, p, tp, hin, h => by
    simp only [Ty.subs, Ty.offss, Ty.szs] at h ⊢
    simp only [Ty.inRs] at hin
    have := sub_offs hin h
    omega
  | t :: ts, i + 1, p, tp, hin, h => by
    simp only [Ty.subs, Ty.offss, Ty.szs] at h ⊢
    simp only [Ty.inRs] at hin
    have := subs_offs (ts := ts) (i := i) hin h
    omega
end
theorem loadAV_ok {t2 t : Ty} {x : t.Den} {av : AV} (h : loadAV t2 t x = some av) {T : TypeId} (ht : TyIs P t2 T) : TyIs P t T ∧ ∀ cs, Rep S w t x cs → Match S w γ av (toVal t cs) := by
  unfold loadAV at h
  split at h
  · rename_i hb
    simp only [Option.some.injEq] at h
    subst h
    obtain rfl := Ty.eq_of_beq hb
    exact ⟨ht, fun cs hr => match_data.2 ⟨cs, hr, rfl⟩⟩
  · cases t with
    | len e t' =>
      simp only [lentOf] at h
      split at h
      · rename_i hb
        simp only [Option.some.injEq] at h
        subst h
        obtain rfl := Ty.eq_of_beq hb
        refine ⟨ht, fun cs hr => ?_⟩
        obtain ⟨h1, A, c, rfl, h2⟩ := rep_lent.1 hr
        simp only [Match]
        exact ⟨h1, A, c, rfl, h2⟩
      · cases h
    | _ => simp [lentOf] at h
theorem inner_rep {e e' : TypeId} {t : Ty} {u : Value} {n : Nat} {xs : List t.Den} {cs : List Value} (ho : Owns w e' t.sz u n cs) (hn : xs.length = n) (hr : RepRow S w t xs cs) {S' : Nat → Prop} (hS : ∀ b, S b → S' b) (hb : ∀ k, u.ownBlock = some k → S' k) : Rep S' w (.sl e t) xs [u] := by
  simp only [Rep]
  rcases ho.2 with ⟨rfl, h2⟩ | ⟨g, o, cap, cur, rfl, hg, h3, h4, h5, h6⟩
  · exact ⟨none, 0, by simp; omega, by omega, fun h => absurd h (by omega)⟩
  · refine ⟨some ⟨g, o, none⟩, cap, by simp [hn], by omega, fun hpos => ⟨_, rfl, rfl, hb g rfl, fun j x hj => ?_⟩⟩
    have h1 := hr.2 j x hj
    refine ⟨_, h1.len, ?_, h1.mono hS (fun _ _ => rfl)⟩
    intro k v hk
    have h2 := rangeAt_part (k := j * t.sz) (n := t.sz) (own_cellAt ho) k v hk
    rw [Nat.add_assoc] at h2
    exact h2
theorem evLoad_ok (hΓ : EnvOk Γ) {w0 : World} {M S0 : Nat → Prop} {st : St} {a : Act} (hc : Core w0 M S0 S γ st a w) {T : TypeId} {x av : AV} {ps : List Prop} (h : evLoad Γ st T x = some (av, ps)) (hps : ∀ p ∈ ps, p) {u : Value} (hx : Match S w γ x u) :
    ∃ r, (∀ w', SameAt S γ st w w' → (Instr.loadAt T u).run Γ.P w' = .ok r w') ∧ Match S w γ av r := by
  unfold evLoad at h
  split at h
  · rename_i t y
    split at h
    · rename_i t' ht
      obtain ⟨av1, hl1, h⟩ := Option.map_eq_some_iff.1 h
      simp only [Prod.mk.injEq] at h
      obtain ⟨rfl, rfl⟩ := h
      obtain ⟨hti, hmt⟩ := loadAV_ok (S := S) (w := w) (γ := γ) hl1 (hΓ.is ht)
      simp only [Match] at hx
      obtain ⟨ad, cs, rfl, hsp, hS, hcell, hr⟩ := hx
      refine ⟨toVal t cs, fun w' hw => ?_, hmt cs hr⟩
      have had : ad = ⟨ad.block, ad.off, none⟩ := by
        obtain ⟨b, o, s⟩ := ad
        simp only at hsp
        subst hsp
        rfl
      rw [had]
      exact load_ok hti hr (rangeAt_same (rangeAt_of hcell) (hw _ (.inl hS)))
    · cases h
  · rename_i s t j p
    split at h
    · rename_i e t' xs fro hs
      split at h
      · rename_i hb
        obtain rfl := Ty.eq_of_beq hb
        split at h
        · rename_i x0 ps0 hel
          split at h
          · rename_i y t2 hy ht
            · obtain ⟨av1, hl1, h⟩ := Option.map_eq_some_iff.1 h
              simp only [Prod.mk.injEq] at h
              obtain ⟨rfl, rfl⟩ := h
              obtain ⟨hti, hmt⟩ := loadAV_ok (S := S) (w := w) (γ := γ) hl1 (hΓ.is ht)
              obtain ⟨hj, _⟩ := elemAt_ok hel (fun q hq => hps q (List.mem_append_left _ hq))
              simp only [Match] at hx
              obtain ⟨g, o, n, cap, hg, rfl⟩ := hx
              obtain ⟨⟨⟨cs, ho, hl, hrep⟩, _⟩, _⟩ := hc.obj s _ hs
              rw [hg] at ho
              have hlt : g < w.heap.size := ho.lt g blk_at
              have hxj := hrep _ _ hj
              obtain ⟨h1, h2, h3⟩ := rep_proj hxj (fun q hq => hps q (List.mem_append_right _ hq)) hy
              refine ⟨_, fun w' hw => ?_, hmt _ h1⟩
              refine load_ok hti h1 ?_
              have hra := rangeAt_same (own_cellAt ho) (hw g (.inr ⟨s, _, hs, rfl, by rw [hg]; exact blk_at⟩))
              have hrb := rangeAt_part (k := j.getD 0 * t'.sz) (n := t'.sz) hra
              have hrc := rangeAt_part (k := t'.offs p) (n := y.1.sz) hrb
              rw [Nat.add_assoc] at hrc
              exact hrc
          · cases h
        · cases h
      · cases h
    · rename_i e t' vs hs
      split at h
      · rename_i tp t2 htp ht
        split at h
        · rename_i hb
          simp only [Bool.and_eq_true] at hb
          obtain rfl := Ty.eq_of_beq hb.1
          obtain rfl := Ty.eq_of_beq hb.2.1
          simp only [Match] at hx
          obtain ⟨g, o, n, cap, hg, rfl⟩ := hx
          obtain ⟨⟨⟨us, ho, hm, _⟩, _⟩, _⟩ := hc.obj s _ hs
          have hul : us.length = t'.sz := by rw [ho.1, Nat.one_mul]
          rw [hg] at ho
          have hlt : g < w.heap.size := ho.lt g blk_at
          have hle := sub_offs (fun q hq => by rw [List.isEmpty_iff.1 hb.2.2] at hq; cases hq) htp
          have hl : ((us.drop (t'.offs p)).take t2.sz).length = t2.sz := by rw [List.length_take, List.length_drop]; omega
          refine ⟨_, fun w' hw => ?_, loadRcd_ok h hm hl⟩
          refine load_cells (hΓ.is ht) hl ?_
          have hra := rangeAt_same (own_cellAt ho) (hw g (.inr ⟨s, _, hs, rfl, by rw [hg]; exact blk_at⟩))
          have hrb := rangeAt_part (k := t'.offs p) (n := t2.sz) hra
          simpa using hrb
        · cases h
      · cases h
    · rename_i e t' c hs
      split at h
      · rename_i e3 t3 xss i e2 t2 hcc ht
        split at h
        · rename_i hb
          simp only [Bool.and_eq_true] at hb
          obtain ⟨b1, b2, b3, b4⟩ := hb
          obtain rfl := Ty.eq_of_beq b1
          obtain rfl := Ty.eq_of_beq b2
          obtain rfl := Ty.eq_of_beq b3
          simp only [Option.some.injEq, Prod.mk.injEq] at h
          obtain ⟨rfl, rfl⟩ := h
          have hi : i < xss.length := hps _ (by simp)
          obtain ⟨⟨⟨us, cs, g1, g2, g3⟩, _⟩, _⟩ := hc.obj s _ hs
          obtain ⟨⟨⟨us', m1, m2, m3, _⟩, _⟩, _⟩ := hc.obj c _ hcc
          rw [g1] at m1
          obtain rfl := tuple_inj m1
          simp only [HoleOk] at g3
          subst g3
          have hiu : i < cs.length := by omega
          have hxi : xss[i]? = some xss[i] := List.getElem?_eq_getElem hi
          have hui : cs[i]? = some cs[i] := List.getElem?_eq_getElem hiu
          have hgd : List.getD (α := List t2.Den) xss i [] = xss[i] := by rw [List.getD_eq_getElem?_getD, hxi]; rfl
          obtain ⟨ds, n1, n2⟩ := m3 i _ _ hui hxi
          simp only [Match] at hx
          obtain ⟨g, o, n, cap, hg, rfl⟩ := hx
          rw [hg] at g2
          have hlt : g < w.heap.size := g2.lt g blk_at
          have hrep := inner_rep (e := e2) n1 rfl n2 (S' := fun b => S b ∨ cs[i].ownBlock = some b) (fun _ h => .inl h) (fun _ h => .inr h)
          refine ⟨cs[i], fun w' hw => ?_, ?_⟩
          · refine load_ok (hΓ.is ht) hrep ?_
            have hra := rangeAt_same (own_cellAt g2) (hw g (.inr ⟨s, _, hs, rfl, by rw [hg]; exact blk_at⟩))
            intro k v' hk
            have hk0 : k = 0 := by
              have := (List.getElem?_eq_some_iff.1 hk).1
              simp at this
              exact this
            subst hk0
            have e1 : o + ((some i).getD 0 * (Ty.sl e2 t2).sz + (Ty.sl e2 t2).offs []) + 0 = o + i := by simp [Ty.sz, Ty.offs]
            rw [e1]
            simp only [List.getElem?_cons_zero, Option.some.injEq] at hk
            subst hk
            exact hra i _ hui
          · simp only [Match]
            rw [hgd]
            rcases n1.2 with ⟨q, q2⟩ | ⟨g', o', cap', _, q, _⟩
            · exact ⟨cs, none, 0, g1, hui, by rw [q, q2], .inl q2⟩
            · exact ⟨cs, some ⟨g', o', none⟩, cap', g1, hui, q, .inr ⟨g', o', rfl⟩⟩
        · cases h
      · cases h
    · cases h
  · rename_i c i j t p
    split at h
    · rename_i e t' xss hcc
      split at h
      · rename_i hb
        obtain rfl := Ty.eq_of_beq hb
        split at h
        · rename_i y t2 hy ht
          obtain ⟨av1, hl1, h⟩ := Option.map_eq_some_iff.1 h
          simp only [Prod.mk.injEq] at h
          obtain ⟨rfl, rfl⟩ := h
          obtain ⟨hti, hmt⟩ := loadAV_ok (S := S) (w := w) (γ := γ) hl1 (hΓ.is ht)
          have hi : i < xss.length := hps _ (by simp)
          have hxi : xss[i]? = some xss[i] := List.getElem?_eq_getElem hi
          have hgd : List.getD (α := List t'.Den) xss i [] = xss[i] := by rw [List.getD_eq_getElem?_getD, hxi]; rfl
          have hj : j < (List.getD (α := List t'.Den) xss i []).length := hps (j < (List.getD (α := List t'.Den) xss i []).length) (by simp)
          rw [hgd] at hj hy
          obtain ⟨⟨⟨us', m1, m2, m3, _⟩, _⟩, _⟩ := hc.obj c _ hcc
          simp only [Match] at hx
          obtain ⟨us, g, o, n, cap, k1, k2, rfl⟩ := hx
          rw [k1] at m1
          obtain rfl := tuple_inj m1
          obtain ⟨ds, n1, n2⟩ := m3 i _ _ k2 hxi
          have hlt : g < w.heap.size := n1.lt g blk_at
          have hxj := n2.2 j (xss[i][j]) (List.getElem?_eq_getElem hj)
          rw [List.getD_eq_getElem?_getD, List.getElem?_eq_getElem hj, Option.getD_some] at hy
          obtain ⟨h1, h2, h3⟩ := rep_proj hxj (fun q hq => hps q (List.mem_append_right _ hq)) hy
          refine ⟨_, fun w' hw => ?_, hmt _ h1⟩
          refine load_ok hti h1 ?_
          have hra := rangeAt_same (own_cellAt n1) (hw g (.inr ⟨c, _, hcc, rfl, by rw [k1]; exact blk_tuple.2 ⟨_, List.mem_of_getElem? k2, rfl⟩⟩))
          have hrb := rangeAt_part (k := j * t'.sz) (n := t'.sz) hra
          have hrc := rangeAt_part (k := t'.offs p) (n := y.1.sz) hrb
          rw [Nat.add_assoc] at hrc
          exact hrc
        · cases h
      · cases h
    · cases h
  · rename_i s
    split at h
    · rename_i e v hs
      split at h
      · rename_i hone
        simp only [Option.some.injEq, Prod.mk.injEq] at h
        obtain ⟨rfl, rfl⟩ := h
        simp only [Match] at hx
        obtain ⟨g, o, n, cap, hg, rfl⟩ := hx
        obtain ⟨⟨⟨u, ho, hm, _⟩, _⟩, _⟩ := hc.obj s _ hs
        rw [hg] at ho
        have hlt : g < w.heap.size := ho.lt g blk_at
        refine ⟨u, fun w' hw => ?_, hm⟩
        obtain ⟨_, d, hd, hrow⟩ := cellT hΓ hone
        have hag : (Go.isAgg T).run Γ.P w' = .ok false w' := by
          unfold Go.isAgg
          rw [Sem.run_bind, run_underlying hd w']
          cases d <;> simp_all
        have hra := rangeAt_same (own_cellAt ho) (hw g (.inr ⟨s, _, hs, rfl, by rw [hg]; exact blk_at⟩)) 0 u rfl
        simp only [Nat.add_zero] at hra
        simp only [Instr.loadAt, Instr.sureAddr, Sem.run_bind, Sem.run_pure, Result.andThen_ok, loadVar, hag, Bool.false_eq_true, if_false]
        rw [run_load Γ.P w' _]
        simp [hra]
      · cases h
    · cases h
  · cases h

/-- Where a struct's field lies. -/
theorem fields_at : ∀ {ts : List Ty} {fs : List Field} {o k : Nat} {tk : Ty}, FieldsIs P ts fs o → Ty.subs ts k [] = some tk → ∃ f, fs[k]? = some f ∧ f.offset = o + Ty.offss ts k [] ∧ TyIs P tk f.type
  | [], _, _, _, _, _, h => by simp [Ty.subs] at h
  | t :: ts, fs, o, 0, tk, h, hs => by
    obtain ⟨f, fs', rfl, _, ho, ht, _⟩ := h
    have : t = tk := by
      have : t.sub [] = some tk := hs
      cases t <;> simpa [Ty.sub] using this
    subst this
    exact ⟨f, rfl, by rw [ho]; simp [Ty.offss, offs_nil], ht⟩
  | t :: ts, fs, o, k + 1, tk, h, hs => by
    obtain ⟨f, fs', rfl, _, ho, ht, hfs⟩ := h
    obtain ⟨f', h1, h2, h3⟩ := fields_at hfs (k := k) (by simpa [Ty.subs] using hs)
    exact ⟨f', by simpa using h1, by rw [h2]; simp [Ty.offss, Nat.add_assoc], h3⟩
theorem fieldAt_ok {t tk : Ty} {T : TypeId} (h : TyIs P t T) {k : Nat} (hs : t.sub [k] = some tk) (hz : 0 < tk.sz) (ad : Addr) (hsp : ad.spot = none) (w' : World) (hst : ∃ ts fs, t = .st ts ∧ P.underlying T = some (.struct fs)) :
    (Instr.fieldAt T (.pointer (some ad)) k).run P w' = .ok (.pointer (some ⟨ad.block, ad.off + t.offs [k], none⟩)) w' := by
  obtain ⟨ts, fs, rfl, hu⟩ := hst
  obtain ⟨_, _, _, hh⟩ := h
  rcases hh with ⟨fs', hu', hfs⟩ | ⟨n, e, hu', _⟩
  · rw [hu] at hu'
    have : fs = fs' := by simpa using hu'
    subst this
    have hs' : Ty.subs ts k [] = some tk := by simpa [Ty.sub] using hs
    obtain ⟨f, h1, h2, h3⟩ := fields_at hfs hs'
    have h1' : fs[k]? = some f := by rw [← Array.getElem?_toList]; exact h1
    simp only [Instr.fieldAt, Sem.run_bind, run_underlying hu, Result.andThen_ok, h1', Instr.sureAddr, Sem.run_pure, fieldPlace, h3.sizeOf w']
    rw [if_neg (by omega)]
    simp only [Sem.run_pure, Result.andThen_ok, h2, add_spot hsp, Nat.zero_add, Ty.offs]
  · rw [hu] at hu'
    simp at hu'
mutual
theorem sub_append : ∀ {t : Ty} {p : List Nat} {k : Nat} {tp tk : Ty}, t.sub p = some tp → t.sub (p ++ [k]) = some tk → tp.sub [k] = some tk ∧ t.offs (p ++ [k]) = t.offs p + tp.offs [k]
  | t, [], k, tp, tk, h1, h2 => by
    have : t = tp := by cases t <;> simpa [Ty.sub] using h1
    subst this
    exact ⟨h2, by rw [offs_nil]; simp⟩
  | .st ts, i :: p, k, tp, tk, h1, h2 => by
    simp only [Ty.sub, List.cons_append, Ty.offs] at h1 h2 ⊢
    exact subs_append h1 h2
  | .int _, _ :: _, _, _, _, h, _ => by simp [Ty.sub] at h
  | .bool, _ :: _, _, _, _, h, _ => by simp [Ty.sub] at h
  | .str, _ :: _, _, _, _, h, _ => by simp [Ty.sub] at h
  | .sl _ _, _ :: _, _, _, _, h, _ => by simp [Ty.sub] at h
  | .map _ _ _ _, _ :: _, _, _, _, h, _ => by simp [Ty.sub] at h
  | .arr n t, i :: p, k, tp, tk, h1, h2 => by
    simp only [Ty.sub, List.cons_append, Ty.offs] at h1 h2 ⊢
    obtain ⟨g1, g2⟩ := sub_append h1 h2
    exact ⟨g1, by rw [g2, Nat.add_assoc]⟩
  | .opq _, _ :: _, _, _, _, h, _ => by simp [Ty.sub] at h
  | .len _ _, _ :: _, _, _, _, h, _ => by simp [Ty.sub] at h
theorem subs_append : ∀ {ts : List Ty} {i : Nat} {p : List Nat} {k : Nat} {tp tk : Ty}, Ty.subs ts i p = some tp → Ty.subs ts i (p ++ [k]) = some tk → tp.sub [k] = some tk ∧ Ty.offss ts i (p ++ [k]) = Ty.offss ts i p + tp.offs [k]
  | [], _, _, _, _, _, h, _ => by simp [Ty.subs] at h
  | t :: ts, 0, p, k, tp, tk, h1, h2 => by
    simp only [Ty.subs, Ty.offss] at h1 h2 ⊢
    exact sub_append h1 h2
  | t :: ts, i + 1, p, k, tp, tk, h1, h2 => by
    simp only [Ty.subs, Ty.offss] at h1 h2 ⊢
    obtain ⟨g1, g2⟩ := subs_append (ts := ts) (i := i) h1 h2
    exact ⟨g1, by rw [g2, Nat.add_assoc]⟩
end
theorem struct_of (hΓ : EnvOk Γ) {T : TypeId} {t : Ty} (ht : Γ.ty T = some t) (ha : Γ.arrs.contains T = false) {k : Nat} {tk : Ty} (hs : t.sub [k] = some tk) : ∃ ts fs, t = .st ts ∧ Γ.P.underlying T = some (.struct fs) := by
  cases t with
  | st ts =>
    obtain ⟨_, _, _, hh⟩ := hΓ.is ht
    rcases hh with ⟨fs, hu, _⟩ | ⟨n, e, hu, _⟩
    · exact ⟨ts, fs, rfl, hu⟩
    · exact absurd hu (hΓ.arrs T _ ht ha n e)
  | arr n t =>
    obtain ⟨_, _, _, e, hu, _⟩ := hΓ.is ht
    exact absurd hu (hΓ.arrs T _ ht ha n e)
  | _ => simp [Ty.sub] at hs
theorem st_in {t : Ty} {ts : List Ty} (h : t = .st ts) (k : Nat) : ∀ q ∈ t.inR [k], q := by
  subst h
  intro q hq
  have hq : q ∈ Ty.inRs ts k [] := hq
  rw [inRs_nil] at hq
  cases hq
theorem evFieldAddr_ok (hΓ : EnvOk Γ) {T : TypeId} {x av : AV} {k : Nat} {ps : List Prop} (h : evFieldAddr Γ T x k = some (av, ps)) {u : Value} (hx : Match S w γ x u) :
    ∃ r, (∀ w', (Instr.fieldAt T u k).run Γ.P w' = .ok r w') ∧ Match S w γ av r := by
  unfold evFieldAddr at h
  split at h
  · rename_i t' ht
    split at h
    · rename_i t y
      split at h
      · rename_i hb
        obtain rfl := Ty.eq_of_beq hb
        split at h
        · rename_i z hz
          split at h
          · rename_i hc
            simp only [Bool.and_eq_true, decide_eq_true_eq, Bool.not_eq_true'] at hc
            simp only [Option.some.injEq, Prod.mk.injEq] at h
            obtain ⟨rfl, rfl⟩ := h
            simp only [Match] at hx
            obtain ⟨ad, cs, rfl, hsp, hS, hcell, hr⟩ := hx
            obtain ⟨ts0, fs0, e0, _⟩ := struct_of hΓ ht hc.2 (proj_sub hz)
            obtain ⟨h1, h2, h3⟩ := rep_proj hr (st_in e0 k) hz
            refine ⟨_, fun w' => fieldAt_ok (hΓ.is ht) h2 hc.1 ad hsp w' (struct_of hΓ ht hc.2 h2), ?_⟩
            simp only [Match]
            exact ⟨_, _, rfl, rfl, hS, rangeAt_part (rangeAt_of hcell), h1⟩
          · cases h
        · cases h
      · cases h
    · rename_i s t j p
      split at h
      · rename_i tp tk h1 h2
        split at h
        · rename_i hc
          simp only [Bool.and_eq_true, decide_eq_true_eq, Bool.not_eq_true'] at hc
          simp only [Option.some.injEq, Prod.mk.injEq] at h
          obtain ⟨rfl, rfl⟩ := h
          obtain rfl := Ty.eq_of_beq hc.1
          simp only [Match] at hx
          obtain ⟨g, o, n, cap, hg, rfl⟩ := hx
          obtain ⟨h3, h4⟩ := sub_append h1 h2
          refine ⟨_, fun w' => fieldAt_ok (hΓ.is ht) h3 hc.2.1 _ rfl w' (struct_of hΓ ht hc.2.2 h3), ?_⟩
          simp only [Match]
          exact ⟨g, o, n, cap, hg, by rw [h4, Nat.add_assoc, Nat.add_assoc]⟩
        · cases h
      · cases h
    · cases h
  · cases h
/-- A part of a struct's cells. -/
theorem part_cells {t : Ty} {T : TypeId} (h : TyIs P t T) {c pre post : List Value} (hl : c.length = t.sz) {xs : Array Value} (hx : xs.toList = pre ++ (c ++ post)) {off : Nat} (ho : pre.length = off) (w : World) :
    (part T xs off).run P w = .ok (toVal t c) w := by
  unfold part
  rw [Sem.run_bind, h.isAgg w]
  cases hag : t.agg with
  | true =>
    simp only [Result.andThen_ok, if_true, Sem.run_bind, h.sizeOf w, Sem.run_pure]
    rw [toVal_agg hag]
    congr 2
    apply Array.toList_inj.1
    rw [Array.toList_extract, hx]
    simp only [List.extract_eq_drop_take', ← ho]
    rw [← hl, ← List.append_assoc, List.take_append_of_le_length (by simp), List.take_of_length_le (by simp), List.drop_left]
  | false =>
    have hsz : t.sz = 1 := by cases t <;> first | rfl | cases hag
    obtain ⟨u, rfl⟩ : ∃ u, c = [u] := List.length_eq_one_iff.1 (hl.trans hsz)
    have hv : toVal t [u] = u := by cases t <;> first | rfl | cases hag
    have : xs[off]? = some u := by
      rw [← Array.getElem?_toList, hx, ← ho, List.getElem?_append_right (Nat.le_refl _), Nat.sub_self]
      simp
    simp [this, hv]
theorem evField_ok (hΓ : EnvOk Γ) {T : TypeId} {x av : AV} {k : Nat} {ps : List Prop} (h : evField Γ T x k = some (av, ps)) {u : Value} (hx : Match S w γ x u) :
    ∃ r, (∀ w', (Instr.field T u k).run Γ.P w' = .ok r w') ∧ Match S w γ av r := by
  unfold evField at h
  split at h
  · rename_i ts ht
    split at h
    · rename_i t' vs
      split at h
      · rename_i tk hk
        split at h
        · rename_i hc
          simp only [Bool.and_eq_true, Bool.not_eq_true', decide_eq_true_eq] at hc
          obtain rfl := Ty.eq_of_beq hc.1
          simp only [Match] at hx
          obtain ⟨us, rfl, hm⟩ := hx
          have hul : us.length = Ty.szs ts := by rw [← hm.len]; exact hc.2.2
          obtain ⟨ts', fs, e, hu⟩ := struct_of hΓ ht hc.2.1 hk
          obtain ⟨_, _, _, hh⟩ := hΓ.is ht
          rcases hh with ⟨fs', hu', hfs⟩ | ⟨n, e', hu', _⟩
          · rw [hu] at hu'
            have : fs = fs' := by simpa using hu'
            subst this
            obtain ⟨f, g1, g2, g3⟩ := fields_at hfs (k := k) (tk := tk) (by simpa [Ty.sub] using hk)
            have g1' : fs[k]? = some f := by rw [← Array.getElem?_toList]; exact g1
            have hle := sub_offs (st_in rfl k) hk
            simp only [Ty.sz] at hle
            have hl : ((us.drop ((Ty.st ts).offs [k])).take tk.sz).length = tk.sz := by rw [List.length_take, List.length_drop]; omega
            refine ⟨_, fun w' => ?_, loadRcd_ok h hm hl⟩
            simp only [Instr.field, Sem.run_bind, run_underlying hu, Result.andThen_ok, g1', asAgg, Sem.run_pure]
            refine part_cells g3 hl (pre := us.take ((Ty.st ts).offs [k])) (post := (us.drop ((Ty.st ts).offs [k])).drop tk.sz) ?_ ?_ w'
            · rw [List.take_append_drop, List.take_append_drop]
            · rw [List.length_take, g2]
              simp only [Ty.offs, Nat.zero_add] at hle ⊢
              omega
          · rw [hu] at hu'
            simp at hu'
        · cases h
      · cases h
    split at h
    · rename_i y hy
      split at h
      · rename_i z hz
        split at h
        · rename_i hc
          simp only [Bool.not_eq_true'] at hc
          simp only [Option.some.injEq, Prod.mk.injEq] at h
          obtain ⟨rfl, rfl⟩ := h
          obtain ⟨cs, hr, rfl⟩ := castTo_ok hx hy
          obtain ⟨h1, h2, h3⟩ := rep_proj hr (st_in rfl k) hz
          obtain ⟨ts', fs, e, hu⟩ := struct_of hΓ ht hc h2
          obtain ⟨_, _, _, hh⟩ := hΓ.is ht
          rcases hh with ⟨fs', hu', hfs⟩ | ⟨n, e', hu', _⟩
          · rw [hu] at hu'
            have : fs = fs' := by simpa using hu'
            subst this
            obtain ⟨f, g1, g2, g3⟩ := fields_at hfs (k := k) (tk := z.1) (by simpa [Ty.sub] using h2)
            have g1' : fs[k]? = some f := by rw [← Array.getElem?_toList]; exact g1
            refine ⟨_, fun w' => ?_, match_data.2 ⟨_, h1, rfl⟩⟩
            simp only [Instr.field, Sem.run_bind, run_underlying hu, Result.andThen_ok, g1', toVal, asAgg, Sem.run_pure]
            refine part_ok g3 h1 (pre := cs.take ((Ty.st ts).offs [k])) (post := (cs.drop ((Ty.st ts).offs [k])).drop z.1.sz) ?_ ?_ w'
            · rw [List.take_append_drop, List.take_append_drop]
            · rw [List.length_take, g2, hr.len]
              simp only [Ty.offs, Nat.zero_add] at h3 ⊢
              omega
          · rw [hu] at hu'
            simp at hu'
        · cases h
      · cases h
    · cases h
  · cases h
end
end Go.Abs
