/- Part of the proof of the law's row: YtnoeomlanbdjeaaAbsR. -/
import Derived.Test.YtnoeomlanbdjeaaAbsQ
set_option linter.all false
set_option linter.unusedVariables false
set_option linter.unusedSimpArgs false
namespace Go.Abs
open Go.RowKit

mutual
/-- Whose head, and whose block, is as it was, as an argument shows that is as it was. -/
def pinAV : AV → AV → List Nat × List Nat
  | .full s _, .full s' _ => if s = s' then ([s], [s]) else ([], [])
  | .cptr s, .cptr s' => if s = s' then ([], [s]) else ([], [])
  | .mptr s, .mptr s' => if s = s' then ([s], [s]) else ([], [])
  | .optr s t j p, .optr s' t' j' p' => if s == s' && (Ty.beq t t' && (j == j' && p == p')) then ([], [s]) else ([], [])
  | .fn _ c, .fn _ c' => pinAVs c c'
  | _, _ => ([], [])
def pinAVs : List AV → List AV → List Nat × List Nat
  | a :: as, b :: bs => ((pinAV a b).1 ++ (pinAVs as bs).1, (pinAV a b).2 ++ (pinAVs as bs).2)
  | _, _ => ([], [])
end
mutual
theorem pinAV_ok {S S' : Nat → Prop} {w w' : World} {γ γ' : Nat → Value} : ∀ {a b : AV} {u : Value}, Match S w γ a u → Match S' w' γ' b u → (∀ s, s ∈ (pinAV a b).1 → γ' s = γ s) ∧ (∀ s, s ∈ (pinAV a b).2 → SameBlock (γ s) (γ' s))
  | .full s t, b, u, h1, h2 => by
    cases b <;> first | (simp [pinAV]; done) | skip
    rename_i s' t'
    simp only [pinAV]
    split
    · rename_i e
      subst e
      simp only [Match] at h1 h2
      have e : γ' s = γ s := h2.1.symm.trans h1.1
      simp only [List.mem_singleton, forall_eq]
      refine ⟨e, fun g o n c hg => ⟨n, c, by rw [e]; exact hg⟩⟩
    · simp
  | .mptr s, b, u, h1, h2 => by
    cases b <;> first | (simp [pinAV]; done) | skip
    rename_i s'
    simp only [pinAV]
    split
    · rename_i e
      subst e
      simp only [Match] at h1 h2
      obtain ⟨g, e1, rfl⟩ := h1
      obtain ⟨g', e2, e3⟩ := h2
      simp only [Value.map.injEq, Option.some.injEq] at e3
      subst e3
      have e : γ' s = γ s := e2.trans e1.symm
      simp only [List.mem_singleton, forall_eq]
      refine ⟨e, fun g o n c hg => ⟨n, c, by rw [e]; exact hg⟩⟩
    · simp
  | .cptr s, b, u, h1, h2 => by
    cases b <;> first | (simp [pinAV]; done) | skip
    rename_i s'
    simp only [pinAV]
    split
    · rename_i e
      subst e
      simp only [Match] at h1 h2
      obtain ⟨g, o, n, c, e1, rfl⟩ := h1
      obtain ⟨g', o', n', c', e2, e3⟩ := h2
      simp only [Value.pointer.injEq, Option.some.injEq, Addr.mk.injEq, and_true] at e3
      obtain ⟨rfl, rfl⟩ := e3
      simp only [List.mem_singleton, forall_eq, List.not_mem_nil, false_implies, implies_true, true_and]
      intro g2 o2 n2 c2 hg
      rw [e1] at hg
      injection hg with hg1 hg2 hg3
      simp only [Option.some.injEq, Addr.mk.injEq, and_true] at hg1
      obtain ⟨rfl, rfl⟩ := hg1
      exact ⟨_, _, e2⟩
    · simp
  | .optr s t j p, b, u, h1, h2 => by
    cases b <;> first | (simp [pinAV]; done) | skip
    rename_i s' t' j' p'
    simp only [pinAV]
    split
    · rename_i e
      simp only [Bool.and_eq_true, beq_iff_eq] at e
      obtain ⟨rfl, et, rfl, rfl⟩ := e
      obtain rfl := Ty.eq_of_beq et
      simp only [Match] at h1 h2
      obtain ⟨g, o, n, c, e1, rfl⟩ := h1
      obtain ⟨g', o', n', c', e2, e3⟩ := h2
      simp only [Value.pointer.injEq, Option.some.injEq, Addr.mk.injEq, and_true] at e3
      obtain ⟨rfl, e3⟩ := e3
      have e3 : o = o' := by omega
      subst e3
      simp only [List.mem_singleton, forall_eq, List.not_mem_nil, false_implies, implies_true, true_and]
      intro g2 o2 n2 c2 hg
      rw [e1] at hg
      injection hg with hg1 hg2 hg3
      simp only [Option.some.injEq, Addr.mk.injEq, and_true] at hg1
      obtain ⟨rfl, rfl⟩ := hg1
      exact ⟨_, _, e2⟩
    · simp
  | .fn f c, b, u, h1, h2 => by
    cases b <;> first | (simp [pinAV]; done) | skip
    rename_i f' c'
    simp only [pinAV]
    simp only [Match] at h1 h2
    obtain ⟨vs, rfl, h3⟩ := h1
    obtain ⟨vs', e, h4⟩ := h2
    simp only [Value.func.injEq, Fn.func.injEq, true_and] at e
    obtain ⟨_, e⟩ := e
    have e : vs = vs' := by simpa using congrArg Array.toList e
    subst e
    exact pinAVs_ok h3 h4
  | .data _ _, _, _, _, _ | .nilS, _, _, _, _ | .lent _ _ _ _, _, _, _, _ | .clip _ _ _, _, _, _, _ | .inn _ _ _ _, _, _, _, _ | .iptr _ _ _ _ _, _, _, _, _ | .rptr _ _, _, _, _, _ | .val _, _, _, _, _ | .lenS _, _, _, _, _ | .undef, _, _, _, _ | .tup _, _, _, _, _ | .opt _ _, _, _, _, _ | .own _ _ _ _, _, _, _, _ | .lst _, _, _, _, _ | .agg _ _, _, _, _, _ => by simp [pinAV]
theorem pinAVs_ok {S S' : Nat → Prop} {w w' : World} {γ γ' : Nat → Value} : ∀ {as bs : List AV} {us : List Value}, Matches S w γ as us → Matches S' w' γ' bs us → (∀ s, s ∈ (pinAVs as bs).1 → γ' s = γ s) ∧ (∀ s, s ∈ (pinAVs as bs).2 → SameBlock (γ s) (γ' s))
  | [], _, _, _, _ => by simp [pinAVs]
  | _ :: _, [], _, _, _ => by simp [pinAVs]
  | a :: as, b :: bs, us, h1, h2 => by
    simp only [Matches] at h1 h2
    obtain ⟨u, us', rfl, g1, g2⟩ := h1
    obtain ⟨u', us2, e, g3, g4⟩ := h2
    injection e with e1 e2
    subst e1 e2
    obtain ⟨k1, k2⟩ := pinAV_ok g1 g3
    obtain ⟨k3, k4⟩ := pinAVs_ok g2 g4
    simp only [pinAVs, List.mem_append]
    exact ⟨fun s hs => hs.elim (k1 s) (k3 s), fun s hs => hs.elim (k2 s) (k4 s)⟩
end
def pins (post : List (Nat × AV)) : List AV → Nat → List Nat × List Nat
  | [], _ => ([], [])
  | a :: as, i => (match get post i with
    | some b => ((pinAV a b).1 ++ (pins post as (i + 1)).1, (pinAV a b).2 ++ (pins post as (i + 1)).2)
    | none => pins post as (i + 1))
theorem pins_ok {S S' : Nat → Prop} {w w' : World} {γ γ' : Nat → Value} {post : List (Nat × AV)} {vs : List Value} (hpost : ∀ i av, get post i = some av → ∃ u, vs[i]? = some u ∧ Match S' w' γ' av u) :
    ∀ {pre : List AV} {us : List Value} {i : Nat}, us = vs.drop i → Matches S w γ pre us → (∀ s, s ∈ (pins post pre i).1 → γ' s = γ s) ∧ (∀ s, s ∈ (pins post pre i).2 → SameBlock (γ s) (γ' s))
  | [], _, _, _, _ => by simp [pins]
  | a :: as, us, i, hus, h => by
    simp only [Matches] at h
    obtain ⟨u, us', rfl, h1, h2⟩ := h
    have hi : vs[i]? = some u := by
      have := congrArg (fun l => l[0]?) hus
      simpa using this.symm
    have hd : us' = vs.drop (i + 1) := by
      have := congrArg (List.drop 1) hus
      simpa [List.drop_drop, Nat.add_comm] using this
    obtain ⟨k3, k4⟩ := pins_ok hpost hd h2
    unfold pins
    split
    · rename_i b hb
      obtain ⟨u', e1, e2⟩ := hpost i b hb
      rw [hi] at e1
      injection e1 with e1
      subst e1
      obtain ⟨k1, k2⟩ := pinAV_ok h1 e2
      simp only [List.mem_append]
      exact ⟨fun s hs => hs.elim (k1 s) (k3 s), fun s hs => hs.elim (k2 s) (k4 s)⟩
    · exact ⟨k3, k4⟩
def targets (g : Nat → Nat) (H : Hp) : List (Nat × Nat) := H.map fun p => (g p.1, p.1)
/-- The state behind a call: 'g' gives the callee's names as the caller's. -/
def afterCall (st : St) (mp : List (Nat × Nat)) (d : Nat) (pre : List AV) (r : AV) (H' : Hp) (post : List (Nat × AV)) : Option (St × AV) :=
  if (keys H').all (fun n => match get (targets (bwd mp d) H') (bwd mp d n) with | some m => m == n | none => false) && (r.names.all (fun s => (keys H').contains s) && H'.all (fun p => p.2.names.all fun s => (keys H').contains s)) then
    some ({ slots := st.slots.map fun p => (p.1, if p.2.keepB (fun s => ((keys (targets (bwd mp d) H')).contains s || (keys mp).contains s) && !(((pins post pre 0).1.filter (fun n => (keys H').contains n)).map (bwd mp d)).contains s) (fun s => (((pins post pre 0).2.filter (fun n => (keys H').contains n)).map (bwd mp d)).contains s) then p.2 else .undef), heap := H'.map (fun p => (bwd mp d p.1, p.2.mapN (bwd mp d))) ++ (st.heap.filter fun p => !((keys (targets (bwd mp d) H')).contains p.1 || (keys mp).contains p.1)).map fun p => (p.1, p.2.keep (fun s => ((keys (targets (bwd mp d) H')).contains s || (keys mp).contains s) && !(((pins post pre 0).1.filter (fun n => (keys H').contains n)).map (bwd mp d)).contains s) (fun s => (((pins post pre 0).2.filter (fun n => (keys H').contains n)).map (bwd mp d)).contains s)), nt := st.nt, fix := st.fix }, r.mapN (bwd mp d))
  else none
theorem matches_keepU {S S' : Nat → Prop} {w w' : World} {γ γ' : Nat → Value} {bad ptr : Nat → Bool} (hS : ∀ b, S b → S' b) (ha : Agree S w w') (hb : ∀ s, bad s = false → γ' s = γ s) (hp : ∀ s, ptr s = true → SameBlock (γ s) (γ' s)) :
    ∀ {avs : List AV} {vs : List Value}, Matches S w γ avs vs → Matches S' w' γ' (avs.map fun v => if v.keepB bad ptr then v else .undef) vs
  | [], vs, h => by simpa only [List.map_nil, Matches] using h
  | av :: avs, vs, h => by
    simp only [List.map_cons, Matches] at h ⊢
    obtain ⟨u, us', h1, h2, h3⟩ := h
    refine ⟨u, us', h1, ?_, matches_keepU hS ha hb hp h3⟩
    split
    · rename_i hk; exact match_keep hS ha hb hp hk h2
    · simp only [Match]
theorem get_mem {α : Type _} : ∀ {l : List (Nat × α)} {i : Nat} {v : α}, get l i = some v → (i, v) ∈ l
  | [], _, _, h => by simp [get] at h
  | (k, u) :: l, i, v, h => by
    simp only [get] at h
    split at h
    · rename_i e
      simp only [Option.some.injEq] at h
      subst h e
      exact List.mem_cons_self ..
    · exact List.mem_cons_of_mem _ (get_mem h)
theorem get_keys {α : Type _} : ∀ {l : List (Nat × α)} {i : Nat} {v : α}, get l i = some v → i ∈ keys l := fun h => by
  simp only [keys, List.mem_map]
  exact ⟨_, get_mem h, rfl⟩
theorem get_none {α : Type _} {l : List (Nat × α)} {i : Nat} (h : i ∉ keys l) : get l i = none := by
  cases hg : get l i with
  | none => rfl
  | some v => exact absurd (get_keys hg) h
theorem get_append {α : Type _} : ∀ {l m : List (Nat × α)} {i : Nat}, get (l ++ m) i = match get l i with | some v => some v | none => get m i
  | [], m, i => rfl
  | (k, u) :: l, m, i => by
    simp only [List.cons_append, get]
    by_cases e : i = k
    · rw [if_pos e, if_pos e]
    · rw [if_neg e, if_neg e]; exact get_append
theorem get_map {α β : Type _} {f : α → β} : ∀ {l : List (Nat × α)} {i : Nat} {v : β}, get (l.map fun p => (p.1, f p.2)) i = some v → ∃ u, get l i = some u ∧ v = f u
  | [], _, _, h => by simp [get] at h
  | (k, u) :: l, i, v, h => by
    simp only [List.map_cons, get] at h ⊢
    by_cases e : i = k
    · rw [if_pos e] at h ⊢; exact ⟨u, rfl, by simpa using h.symm⟩
    · rw [if_neg e] at h ⊢; exact get_map h
theorem get_filter {α : Type _} {q : Nat → Bool} : ∀ {l : List (Nat × α)} {i : Nat} {v : α}, get (l.filter fun p => q p.1) i = some v → get l i = some v ∧ q i = true
  | [], _, _, h => by simp [get] at h
  | (k, u) :: l, i, v, h => by
    simp only [List.filter_cons] at h
    split at h
    · rename_i hq
      simp only [get] at h ⊢
      by_cases e : i = k
      · rw [if_pos e] at h ⊢; subst e; exact ⟨h, hq⟩
      · rw [if_neg e] at h ⊢; exact get_filter h
    · rename_i hq
      obtain ⟨h1, h2⟩ := get_filter h
      simp only [get]
      by_cases e : i = k
      · subst e; rw [h2] at hq; exact absurd rfl hq
      · rw [if_neg e]; exact ⟨h1, h2⟩
theorem get_mapg {g : Nat → Nat} {f : Ob → Ob} : ∀ {H : Hp} {s : Nat} {x : Ob}, get (H.map fun p => (g p.1, f p.2)) s = some x → ∃ n o, get H n = some o ∧ g n = s ∧ x = f o
  | [], _, _, h => by simp [get] at h
  | (k, u) :: H, s, x, h => by
    simp only [List.map_cons, get] at h
    by_cases e : s = g k
    · rw [if_pos e] at h
      exact ⟨k, u, by simp [get], e.symm, by simpa using h.symm⟩
    · rw [if_neg e] at h
      obtain ⟨n, o, h1, h2, h3⟩ := get_mapg h
      refine ⟨n, o, ?_, h2, h3⟩
      simp only [get]
      rw [if_neg (by rintro rfl; exact e h2.symm)]
      exact h1
theorem heapIn_ok {st : St} {mp : List (Nat × Nat)} : ∀ {l : List (Nat × Nat)} {H : Hp}, heapIn st mp l = some H → ∀ n o', get H n = some o' → ∃ s o, (s, n) ∈ l ∧ get st.heap s = some o ∧ o' = o.mapN (fwd mp) ∧ o.loose = true ∧ o.live = true ∧ ∀ x, x ∈ o.names → (get mp x).isSome = true
  | [], H, h, n, o', hg => by
    simp only [heapIn, Option.some.injEq] at h
    subst h
    simp [get] at hg
  | (s, m) :: r, H, h, n, o', hg => by
    unfold heapIn at h
    split at h
    · rename_i o H1 h1 h2
      split at h
      · rename_i hcond
        simp only [Bool.and_eq_true, List.all_eq_true] at hcond
        simp only [Option.some.injEq] at h
        subst h
        simp only [get] at hg
        split at hg
        · rename_i e
          simp only [Option.some.injEq] at hg
          subst e hg
          exact ⟨s, o, List.mem_cons_self .., h1, rfl, hcond.1, hcond.2.1, hcond.2.2⟩
        · obtain ⟨s', o2, k1, k2⟩ := heapIn_ok h2 n o' hg
          exact ⟨s', o2, List.mem_cons_of_mem _ k1, k2⟩
      · cases h
    · cases h
/-- What is asked of the names that are handed in. -/
def namesOkB (mp : List (Nat × Nat)) (d : Nat) (bs : List AV) : Bool :=
  mp.all (fun p => bwd mp d p.2 == p.1 && fwd mp p.1 == p.2) && (AV.namess bs).all (fun s => (get mp s).isSome)
section
variable {P : Program} {S : Nat → Prop} {w : World} {γ : Nat → Value} {Γ : Env} {w0 : World} {M S0 : Nat → Prop} {st : St} {a : Act}
theorem namesOk {mp : List (Nat × Nat)} {d : Nat} {bs : List AV} (h : namesOkB mp d bs = true) : (∀ s n, (s, n) ∈ mp → bwd mp d n = s ∧ fwd mp s = n) ∧ ∀ s, (get mp s).isSome = true → bwd mp d (fwd mp s) = s := by
  simp only [namesOkB, Bool.and_eq_true, List.all_eq_true, beq_iff_eq] at h
  have h1 : ∀ s n, (s, n) ∈ mp → bwd mp d n = s ∧ fwd mp s = n := fun s n hm => h.1 _ hm
  refine ⟨h1, fun s hs => ?_⟩
  obtain ⟨n, hn⟩ := Option.isSome_iff_exists.1 hs
  have := h1 s n (get_mem hn)
  rw [this.2]; exact this.1
/-- What is handed in is as the callee asks for. -/
theorem handIn_ok (hc : Core w0 M S0 S γ st a w) {mp : List (Nat × Nat)} {d : Nat} {bs : List AV} {H : Hp} (hn : namesOkB mp d bs = true) (hH : heapIn st mp mp = some H) {vs : List Value} (hm : Matches S w γ bs vs) :
    Matches S w (fun n => γ (bwd mp d n)) (AV.mapNs (fwd mp) bs) vs ∧ HOk S w (fun n => γ (bwd mp d n)) H ∧ (∀ s o, get H s = some o → o.loose = true) ∧
    ∀ n o, get H n = some o → ∃ o', get st.heap (bwd mp d n) = some o' ∧ o'.live = true ∧ o'.loose = true ∧ bwd mp d n ∈ keys mp := by
  obtain ⟨h1, h2⟩ := namesOk hn
  have hin := heapIn_ok hH
  have hn' := hn
  simp only [namesOkB, Bool.and_eq_true, List.all_eq_true] at hn'
  refine ⟨matches_map (fun s hs => by rw [h2 s (hn'.2 s hs)]) hm, ⟨?_, ?_⟩, ?_, ?_⟩
  · intro n o' hg
    obtain ⟨s, o, k1, k2, rfl, _, _, k5⟩ := hin n o' hg
    simp only [(h1 s n k1).1]
    exact obOk_map (fun x hx => by rw [h2 x (k5 x hx)]) (hc.obj s o k2).1
  · intro n n' o1 o2 g1 g2 l1 l2 hne k e1 e2
    obtain ⟨s, o, k1, k2, rfl, _, k4, _⟩ := hin n o1 g1
    obtain ⟨s', o', k1', k2', rfl, _, k4', _⟩ := hin n' o2 g2
    simp only [(h1 s n k1).1] at e1
    simp only [(h1 s' n' k1').1] at e2
    exact hc.dis s s' o o' k2 k2' k4 k4' (fun e => hne (by rw [← (h1 s n k1).2, ← (h1 s' n' k1').2, e])) k e1 e2
  · intro n o' hg
    obtain ⟨s, o, _, _, rfl, k3, _⟩ := hin n o' hg
    cases o <;> exact k3
  · intro n o' hg
    obtain ⟨s, o, k1, k2, rfl, k3, k4, _⟩ := hin n o' hg
    rw [(h1 s n k1).1]
    exact ⟨o, k2, k4, k3, by simp only [keys, List.mem_map]; exact ⟨_, k1, rfl⟩⟩
theorem after_ok (hc : Core w0 M S0 S γ st a w) {mp : List (Nat × Nat)} {d : Nat} {pre : List AV} {H H' : Hp} {r r' : AV} {post : List (Nat × AV)} {st' : St} {vs : List Value} {v : Value} {S' : Nat → Prop} {γ' : Nat → Value} {w' : World}
    (hin : ∀ n o, get H n = some o → ∃ o', get st.heap (bwd mp d n) = some o' ∧ o'.live = true ∧ o'.loose = true ∧ bwd mp d n ∈ keys mp)
    (hm : Matches S w (fun n => γ (bwd mp d n)) pre vs) (hd : Done S w (fun n => γ (bwd mp d n)) H r H' post vs v S' γ' w') (h : afterCall st mp d pre r H' post = some (st', r')) :
    ∃ γ'', Core w0 M S0 S' γ'' st' a w' ∧ Match S' w' γ'' r' v ∧ st'.nt = st.nt ∧ st'.fix = st.fix := by
  unfold afterCall at h
  split at h
  · rename_i hcond
    simp only [Bool.and_eq_true, List.all_eq_true, List.contains_eq_mem, decide_eq_true_eq] at hcond
    obtain ⟨hinv, hrn, hHn⟩ := hcond
    simp only [Option.some.injEq, Prod.mk.injEq] at h
    obtain ⟨rfl, rfl⟩ := h
    generalize hg : bwd mp d = g at *
    have hinv' : ∀ n, n ∈ keys H' → get (targets g H') (g n) = some n := fun n hn => by
      have := hinv n hn
      split at this
      · rename_i m hm; rw [hm]; simp only [beq_iff_eq] at this; rw [this]
      · cases this
    let γ2 : Nat → Value := fun s => match get (targets g H') s with | some n => γ' n | none => γ s
    have hγ1 : ∀ n, n ∈ keys H' → γ2 (g n) = γ' n := fun n hn => by simp only [γ2, hinv' n hn]
    have hγ2 : ∀ s, s ∉ keys (targets g H') → γ2 s = γ s := fun s hs => by simp only [γ2, get_none hs]
    have hMof : ∀ k, Mof (fun n => γ (g n)) H k → ∃ s o, get st.heap s = some o ∧ o.live = true ∧ o.loose = true ∧ s ∈ keys mp ∧ Blk (γ s) k := by
      rintro k ⟨n, o, h1, h2, h3⟩
      obtain ⟨o', k1, k2, k3, k4⟩ := hin n o h1
      exact ⟨g n, o', k1, k2, k3, k4, h3⟩
    have hMS : ∀ k, Mof (fun n => γ (g n)) H k → ¬ S k := by
      intro k hk hS
      obtain ⟨s, o, h1, h2, h3, _, h5⟩ := hMof k hk
      obtain ⟨g1, _⟩ := hc.obj s o h1
      cases o with
      | row e t xs f => have := (g1.2 k h5).1 hS; subst this; cases h3
      | map k0 e tk te l f => have := (g1.2 k h5).1 hS; subst this; cases h3
      | iter k0 e tk te l f => exact g1.2 k h5 hS
      | cell e av => exact g1.2 k h5 hS
      | rcd e t vs => exact g1.2 k h5 hS
      | deep e t c hole => exact g1.2 k h5 hS
      | fam e t xss => exact g1.2 k h5 hS
      | dead => cases h2
    have hMM : ∀ k, Mof (fun n => γ (g n)) H k → M k ∨ w0.heap.size ≤ k := by
      intro k hk
      obtain ⟨s, o, h1, h2, _, _, h5⟩ := hMof k hk
      exact (hc.obj s o h1).2 h2 k h5
    have hag : Agree S w w' := fun b hb => hd.old b (hc.slt b hb) (fun hm => hMS b hm hb)
    obtain ⟨hpf, hpp⟩ := pins_ok (S := S) (w := w) (γ := fun n => γ (g n)) hd.post (pre := pre) (us := vs) (i := 0) (by simp) hm
    have hbad : ∀ s, (((keys (targets g H')).contains s || (keys mp).contains s) && !(((pins post pre 0).1.filter (fun n => (keys H').contains n)).map g).contains s) = false → γ2 s = γ s := by
      intro s hs
      simp only [Bool.and_eq_false_iff, Bool.or_eq_false_iff, Bool.not_eq_false'] at hs
      rcases hs with ⟨hs, _⟩ | hs
      · exact hγ2 s (by simpa using hs)
      · simp only [List.contains_eq_mem, decide_eq_true_eq, List.mem_map, List.mem_filter] at hs
        obtain ⟨n, ⟨h1, h2⟩, rfl⟩ := hs
        rw [hγ1 n h2]
        exact hpf n h1
    have hptr : ∀ s, (((pins post pre 0).2.filter (fun n => (keys H').contains n)).map g).contains s = true → SameBlock (γ s) (γ2 s) := by
      intro s hs
      simp only [List.contains_eq_mem, decide_eq_true_eq, List.mem_map, List.mem_filter] at hs
      obtain ⟨n, ⟨h1, h2⟩, rfl⟩ := hs
      rw [hγ1 n h2]
      exact hpp n h1
    have hkept : ∀ {s : Nat} {o : Ob}, get ((st.heap.filter fun p => !((keys (targets g H')).contains p.1 || (keys mp).contains p.1)).map fun p => (p.1, p.2.keep (fun s => ((keys (targets g H')).contains s || (keys mp).contains s) && !(((pins post pre 0).1.filter (fun n => (keys H').contains n)).map g).contains s) (fun s => (((pins post pre 0).2.filter (fun n => (keys H').contains n)).map g).contains s))) s = some o →
        ∃ o0, get st.heap s = some o0 ∧ o = o0.keep (fun s => ((keys (targets g H')).contains s || (keys mp).contains s) && !(((pins post pre 0).1.filter (fun n => (keys H').contains n)).map g).contains s) (fun s => (((pins post pre 0).2.filter (fun n => (keys H').contains n)).map g).contains s) ∧ s ∉ keys (targets g H') ∧ s ∉ keys mp := by
      intro s o hs
      obtain ⟨o0, h1, rfl⟩ := get_map hs
      obtain ⟨h2, h3⟩ := get_filter (q := fun x => !((keys (targets g H')).contains x || (keys mp).contains x)) h1
      simp only [Bool.not_eq_true', Bool.or_eq_false_iff, List.contains_eq_mem, decide_eq_false_iff_not] at h3
      exact ⟨o0, h2, rfl, h3.1, h3.2⟩
    have hblk : ∀ {s : Nat} {o : Ob}, get st.heap s = some o → o.live = true → s ∉ keys mp → ∀ k, Blk (γ s) k → k < w.heap.size ∧ ¬ Mof (fun n => γ (g n)) H k := by
      intro s o hs hl hne k hk
      refine ⟨own_ob (hc.obj s o hs).1 hl k hk, fun hM => ?_⟩
      obtain ⟨s', o', h1, h2, _, h4, h5⟩ := hMof k hM
      exact hc.dis s s' o o' hs h1 hl h2 (by rintro rfl; exact hne h4) k hk h5
    refine ⟨γ2, ⟨hd.os.trans hc.os, hd.tape.trans hc.tape, hd.output.trans hc.output, Nat.le_trans hc.size hd.size, ?_, fun b hb => hd.sub b (hc.s0 b hb), ?_, hd.slt, ?_, ?_, ?_, hc.defers, hc.nt, ?_⟩, ?_, rfl, rfl⟩
    · intro b h1 h2
      refine (hd.old b (Nat.lt_of_lt_of_le h1 hc.size) (fun hM => ?_)).trans (hc.old b h1 h2)
      rcases hMM b hM with h | h
      · exact h2 h
      · omega
    · intro b hb hlt
      rcases hd.sold b hb (Nat.lt_of_lt_of_le hlt hc.size) with h | h
      · exact hc.sold b h hlt
      · rcases hMM b h with h | h
        · exact .inr h
        · omega
    · intro i av hi
      obtain ⟨av0, h1, rfl⟩ := get_map (f := fun x : AV => if x.keepB (fun s => ((keys (targets g H')).contains s || (keys mp).contains s) && !(((pins post pre 0).1.filter (fun n => (keys H').contains n)).map g).contains s) (fun s => (((pins post pre 0).2.filter (fun n => (keys H').contains n)).map g).contains s) then x else .undef) hi
      split
      · rename_i hk
        exact match_keep hd.sub hag hbad hptr hk (hc.slot i av0 h1)
      · simp only [Match]
    · intro s o hs
      rw [get_append] at hs
      split at hs
      · rename_i o1 ho1
        simp only [Option.some.injEq] at hs
        subst hs
        obtain ⟨n, o2, k1, rfl, rfl⟩ := get_mapg ho1
        have hnk := get_keys k1
        rw [hγ1 n hnk]
        refine ⟨obOk_map (fun x hx => hγ1 x (hHn _ (get_mem k1) x hx)) (hd.heap.obj n o2 k1), fun hl k hk => ?_⟩
        rw [Ob.mapN_live] at hl
        rcases hd.fresh n o2 k1 hl k hk with h | h
        · exact hMM k h
        · exact .inr (Nat.le_trans hc.size h)
      · obtain ⟨o0, k1, rfl, k2, k3⟩ := hkept hs
        rw [hγ2 s k2]
        cases hl : o0.live with
        | false => cases o0 <;> first | (cases hl; done) | exact ⟨trivial, fun h => by cases h⟩
        | true =>
          obtain ⟨g1, g2⟩ := hc.obj s o0 k1
          have hb := hblk k1 hl k3
          have hsame : ∀ k, Blk (γ s) k → w'.heap[k]? = w.heap[k]? := fun k hk => hd.old k (hb k hk).1 (hb k hk).2
          have hSk : ∀ k, Blk (γ s) k → S' k → S k := fun k hk hS => (hd.sold k hS (hb k hk).1).resolve_right (hb k hk).2
          refine ⟨?_, fun _ => g2 hl⟩
          cases o0 with
          | row e t xs fro =>
            obtain ⟨⟨cs, h1, h2⟩, h3⟩ := g1
            exact ⟨⟨cs, h1.same hsame, h2.mono hd.sub hag⟩, fun k hk => ⟨fun h => (h3 k hk).1 (hSk k hk h), fun h => hd.sub _ ((h3 k hk).2 h)⟩⟩
          | cell e av =>
            obtain ⟨⟨u, h1, h2, h4⟩, h3⟩ := g1
            simp only [Ob.keep]
            split
            · rename_i hk
              exact ⟨⟨u, h1.same hsame, match_keep hd.sub hag hbad hptr hk h2, h4⟩, fun k hk h => h3 k hk (hSk k hk h)⟩
            · exact ⟨⟨u, h1.same hsame, by simp only [Match], h4⟩, fun k hk h => h3 k hk (hSk k hk h)⟩
          | rcd e t vs =>
            obtain ⟨⟨us, h1, h2, h4⟩, h3⟩ := g1
            simp only [Ob.keep]
            exact ⟨⟨us, h1.same hsame, matches_keepU hd.sub hag hbad hptr h2, h4⟩, fun k hk h => h3 k hk (hSk k hk h)⟩
          | map k0 e tk te l f =>
            obtain ⟨⟨g0, h1, es, h2, h4⟩, h3⟩ := g1
            exact ⟨⟨g0, h1, es, (hsame g0 (by rw [h1]; exact blk_at)).trans h2, h4.mono hd.sub hag⟩, fun k hk => ⟨fun h => (h3 k hk).1 (hSk k hk h), fun h => hd.sub _ ((h3 k hk).2 h)⟩⟩
          | iter k0 e tk te l f =>
            obtain ⟨⟨r0, h1, h2⟩, h3⟩ := g1
            exact ⟨⟨r0, h1, h2.mono hd.sub hag (hsame r0 (by rw [h1]; exact blk_at))⟩, fun k hk h => h3 k hk (hSk k hk h)⟩
          | deep e t c hole =>
            obtain ⟨⟨us, cs, h1, h2, h4⟩, h3⟩ := g1
            simp only [Ob.keep]
            split
            · trivial
            · rename_i hbc
              refine ⟨⟨us, cs, ?_, h2.same hsame, ?_⟩, fun k hk h => h3 k hk (hSk k hk h)⟩
              · rw [hbad c (Bool.eq_false_iff.2 hbc)]; exact h1
              · rcases hole with _ | ⟨i, _ | x⟩
                · exact h4
                · exact h4
                · simp only [HoleOk] at h4
                  by_cases hbx : (((keys (targets g H')).contains x || (keys mp).contains x) && !(((pins post pre 0).1.filter (fun n => (keys H').contains n)).map g).contains x) = true
                  · simp only [hbx, if_true]
                    exact ⟨_, h4⟩
                  · have hbx := Bool.eq_false_iff.2 hbx
                    simp only [hbx, Bool.false_eq_true, if_false, HoleOk]
                    rw [hbad x hbx]; exact h4
          | fam e t xss =>
            obtain ⟨⟨us, h1, h2, h4, h5⟩, h3⟩ := g1
            refine ⟨⟨us, h1, h2, fun i u xs hu hx => ?_, h5⟩, fun k hk h => h3 k hk (hSk k hk h)⟩
            obtain ⟨cs, m1, m2⟩ := h4 i u xs hu hx
            refine ⟨cs, m1.same (fun k hk => hsame k ?_), m2.mono hd.sub hag⟩
            rw [h1]
            exact blk_tuple.2 ⟨u, List.mem_of_getElem? hu, m1.blk.1 hk⟩
          | dead => cases hl
    · have key : ∀ {s : Nat} {o : Ob}, get (H'.map (fun p => (g p.1, p.2.mapN g)) ++ (st.heap.filter fun p => !((keys (targets g H')).contains p.1 || (keys mp).contains p.1)).map fun p => (p.1, p.2.keep (fun s => ((keys (targets g H')).contains s || (keys mp).contains s) && !(((pins post pre 0).1.filter (fun n => (keys H').contains n)).map g).contains s) (fun s => (((pins post pre 0).2.filter (fun n => (keys H').contains n)).map g).contains s))) s = some o → o.live = true →
          (∃ n o', get H' n = some o' ∧ o'.live = true ∧ g n = s ∧ γ2 s = γ' n) ∨ (∃ o', get st.heap s = some o' ∧ o'.live = true ∧ s ∉ keys mp ∧ γ2 s = γ s) := by
        intro s o hs hl
        rw [get_append] at hs
        split at hs
        · rename_i o1 ho1
          simp only [Option.some.injEq] at hs
          subst hs
          obtain ⟨n, o2, k1, rfl, rfl⟩ := get_mapg ho1
          rw [Ob.mapN_live] at hl
          exact .inl ⟨n, o2, k1, hl, rfl, hγ1 n (get_keys k1)⟩
        · obtain ⟨o0, k1, rfl, k2, k3⟩ := hkept hs
          exact .inr ⟨o0, k1, Ob.keep_live hl, k3, hγ2 s k2⟩
      intro s s' o1 o2 h1 h2 l1 l2 hne k hk hk'
      rcases key h1 l1 with ⟨n, o1', a1, a2, a3, a4⟩ | ⟨o1', a1, a2, a3, a4⟩ <;> rcases key h2 l2 with ⟨n', o2', b1, b2, b3, b4⟩ | ⟨o2', b1, b2, b3, b4⟩
      · rw [a4] at hk
        rw [b4] at hk'
        exact hd.heap.dis n n' o1' o2' a1 b1 a2 b2 (by rintro rfl; exact hne (a3.symm.trans b3)) k hk hk'
      · rw [a4] at hk
        rw [b4] at hk'
        obtain ⟨c1, c2⟩ := hblk b1 b2 b3 k hk'
        rcases hd.fresh n o1' a1 a2 k hk with h | h
        · exact c2 h
        · omega
      · rw [a4] at hk
        rw [b4] at hk'
        obtain ⟨c1, c2⟩ := hblk a1 a2 a3 k hk
        rcases hd.fresh n' o2' b1 b2 k hk' with h | h
        · exact c2 h
        · omega
      · rw [a4] at hk
        rw [b4] at hk'
        exact hc.dis s s' o1' o2' a1 b1 a2 b2 hne k hk hk'
    · intro i av hi
      obtain ⟨h1, h2⟩ := hc.fixs i av hi
      exact ⟨h1, h2.mono hd.sub hag (fun s hs => by rw [AV.pure_has h1] at hs; cases hs)⟩
    · exact match_map (fun s hs => hγ1 s (hrn s hs)) hd.res
  · cases h
end
end Go.Abs
