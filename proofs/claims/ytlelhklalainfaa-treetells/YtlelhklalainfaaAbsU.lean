/- Part of the proof of the law's row: YtlelhklalainfaaAbsU. -/
import Derived.Test.YtlelhklalainfaaAbsT
set_option linter.all false
set_option linter.unusedVariables false
set_option linter.unusedSimpArgs false
namespace Go.Abs
def notArr : Option TypeDesc → Bool
  | some (.array _ _) => false
  | _ => true
def tysB (P : Program) (arrs : List TypeId) : List (Nat × (Ty × Nat)) → Bool
  | [] => true
  | (T, t, b) :: r => tyB P t T && ((match (P.info? T).map (·.bytes) with | some b' => b' == b | none => false) && ((arrs.contains T || notArr (P.underlying T)) && tysB P arrs r))
def oneB (P : Program) (T : TypeId) : Bool := (match P.underlying T with | some d => !d.isRow | none => false) &&
  (match P.info? T with | some i => (match i.zero with | some z => infoB P T z 1 && z.oneCell' | none => false) | none => false)
theorem tysB_ok {P : Program} {arrs : List TypeId} : ∀ {l : List (Nat × (Ty × Nat))}, tysB P arrs l = true → ∀ T t b, get l T = some (t, b) →
    TyIs P t T ∧ (P.info? T).map (·.bytes) = some b ∧ (arrs.contains T = false → ∀ n e, P.underlying T ≠ some (.array n e))
  | [], _, _, _, _, h => by simp [get] at h
  | (T', t', b') :: r, h, T, t, b, hg => by
    simp only [tysB, Bool.and_eq_true] at h
    simp only [get] at hg
    split at hg
    · rename_i e
      simp only [Option.some.injEq, Prod.mk.injEq] at hg
      obtain ⟨rfl, rfl⟩ := hg
      subst e
      refine ⟨tyB_is h.1, ?_, fun hn n e he => ?_⟩
      · have h2 := h.2.1
        split at h2
        · rename_i hb; rw [hb]; simp only [beq_iff_eq] at h2; rw [h2]
        · cases h2
      · have h3 := h.2.2.1
        rw [hn, he] at h3
        simp [notArr] at h3
    · exact tysB_ok h.2.2.2 T t b hg
theorem oneB_ok {P : Program} {T : TypeId} (h : oneB P T = true) : (∃ d, P.underlying T = some d ∧ d.isRow = false) ∧ ∃ z, InfoIs P T z 1 ∧ z.oneCell' = true := by
  simp only [oneB, Bool.and_eq_true] at h
  obtain ⟨h1, h2⟩ := h
  constructor
  · split at h1
    · rename_i d hd; exact ⟨d, hd, by simpa using h1⟩
    · cases h1
  · split at h2
    · split at h2
      · rename_i z hz
        simp only [Bool.and_eq_true] at h2
        exact ⟨z, infoB_is h2.1, h2.2⟩
      · cases h2
    · cases h2
theorem env_ok {Γ : Env} (h1 : tysB Γ.P Γ.arrs Γ.tys = true) (h2 : Γ.P.follows .mixedOrders = true) (h3 : Γ.ones.all (oneB Γ.P) = true) : EnvOk Γ := by
  refine ⟨fun T t b h => ⟨(tysB_ok h1 T t b h).1, (tysB_ok h1 T t b h).2.1⟩, h2, fun T hT => oneB_ok (List.all_eq_true.1 h3 T hT), ?_⟩
  intro T t ht hn
  unfold Env.ty at ht
  obtain ⟨⟨t', b⟩, k1, k2⟩ := Option.map_eq_some_iff.1 ht
  exact (tysB_ok h1 T _ _ k1).2.2 hn
def callB (P : Program) (f : FuncId) : Bool := (match P.funcs[f]? with | some fn => fn.body.isSome && !(fn.name == "runtime.NumGoroutine") | none => false)
theorem callB_ok {P : Program} {f : FuncId} (h : callB P f = true) : Callable P f := by
  unfold callB at h
  split at h
  · rename_i fn hf
    simp only [Bool.and_eq_true, Bool.not_eq_true'] at h
    exact ⟨fn, hf, h.1, h.2⟩
  · cases h
theorem fns_nil {P : Program} : FnsOk P [] := fun f spec h => by simp [get] at h
theorem fns_cons {P : Program} {f : FuncId} {spec : Spec} {Φ : Fns} (h : FnOk P f spec) (hc : callB P f = true) (hr : FnsOk P Φ) : FnsOk P ((f, spec) :: Φ) := fun g s hg => by
  simp only [get] at hg
  split at hg
  · rename_i e
    simp only [Option.some.injEq] at hg
    subst hg e
    exact ⟨callB_ok hc, h⟩
  · exact hr g s hg
end Go.Abs
