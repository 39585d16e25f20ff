/- Part of the proof of the law's row: YtnncmcdogmleiaaWq11k. -/
import Derived.Test.YtnncmcdogmleiaaWq11i
set_option linter.all false
set_option linter.unusedVariables false
set_option linter.unusedSimpArgs false
/-! Chapter 11: what the programs answer. -/
namespace Go.Proofs
open Go Go.Abs
set_option linter.unusedSimpArgs false
theorem q_look11 {g : G} (hg : RG g) (p : List NodeD) : F_first_look ((g, ()), p, ()) = some (lookV g p, ()) := by
 have := q_look9 hg p
 unfold F_empty_look at this
 unfold F_first_look
 exact this
theorem fixF_ok {g : G} (hg : RG g) (hc : CanG g) : OkX zFirsts g.length okF (fixF g) := (fxF hg hc).fix_ok
noncomputable def fixH (g : G) : List Fi := if (chkG g).2 = 0 then fixF g else []
theorem q_fRules (g : G) (hc : CanG g) : F_first_Rules ((g, ()), ()) = some ((chkG g).2, fixH g, ()) := by
 unfold F_first_Rules
 simp only [toPb, q_checkG, bind_t]
 dsimp only [outE]
 by_cases h : (chkG g).2 = 0
 ·have hg := rg_of h
  have hn := hg.len
  have hF := fixF_ok hg hc
  obtain ⟨m, hm1, hm2⟩ := q_gFirsts hg hc
  rw [npos h, hm1, bind_t]
  unfold fixH
  rw [if_pos h]
  refine loop_up (σ := (Int × Unit) × List FirstsD × List (ByteArray × FirstsD) × Unit) g.length (fun i => (((i : Int), ()), List.take i (fixF g), m, ())) rfl ?_ ?_
  ·intro i hi
   have htl : (List.take i (fixF g)).length = i := by rw [List.length_take, hF.1]; omega
   dsimp only
   simp only [Int.toNat_natCast]
   rw [pos (by omega), need_pos (by omega), show List.getD g i zRule = rth g i from rfl]
   unfold F_gist_Firsts_1
   dsimp only
   rw [bind_t]
   dsimp only
   rw [hm2 i hi, htl, need_pos (by omega), need64 (by omega) (by omega), cast_succ, take_succD (d := zFirsts) (by rw [hF.1]; exact hi)]
  ·dsimp only
   rw [neg (by omega), show List.take g.length (fixF g) = fixF g by rw [← hF.1]; exact List.take_length, h]
 ·rw [nneg h]
  unfold fixH
  rw [if_neg h]
noncomputable def partsVF (g : G) (p : List NodeD) : List Fi := valsF (callE g (fixE g)) (callF g (fixF g)) p p.length
theorem partsVF_len {g : G} {p : List NodeD} : (partsVF g p).length = p.length := valsF_len
theorem q_fparts {g : G} (hg : RG g) (hc : CanG g) {p : List NodeD} (hl : lookV g p = 0) (hp : CanP p) : F_first_parts ((g, ()), p, ()) = some (partsVF g p, ()) := by
 obtain ⟨h1, h2⟩ := look_zero hl
 obtain ⟨m, hm1, hm2⟩ := q_gFirsts hg hc
 have hF := fixF_ok hg hc
 unfold F_first_parts
 dsimp only
 rw [q_gEmpt hg, bind_t]
 dsimp only
 rw [(lengths_of hg hl).1, bind_t, hm1, bind_t]
 dsimp only
 have := q_begF (cE := callE g (fixE g)) (cF := callF g (fixF g)) (m := m) h1 hp (fun k hk h6 => by
  obtain ⟨q, hq⟩ := h2 k hk h6
  exact hm2.call hq) (fun k _ => callF_can hg hF _)
 unfold partsV
 rw [this, bind_t]
 rfl
theorem q_rAll {g : G} (hg : RG g) (hc : CanG g) {p : List NodeD} (hl : lookV g p = 0) (hp : CanP p) : F_ref11_All ((g, ()), p, ()) = some (partsVF g p, ()) := by
 obtain ⟨h1, h2⟩ := look_zero hl
 have hF := fixF_ok hg hc
 unfold F_ref11_All F_ref09_All
 dsimp only
 rw [q_Known9 hg, bind_t]
 dsimp only
 rw [(lengths_of hg hl).2, bind_t, bind_t]
 dsimp only
 rw [q_Known11 hg hc, bind_t]
 dsimp only
 have := q_partsF (cE := callE g (fixE g)) (rules := fixF g) h1 hp hg.len hF.1 hF.2 h2 (fun k _ => callF_can hg hF _)
 unfold partsV
 rw [this, bind_t]
 rfl
noncomputable def valGF (g : G) (p : List NodeD) : Fi := List.getD (partsVF g p) (p.length - 1) zFirsts
open Classical in
noncomputable def ofVF (g : G) (p : List NodeD) : Fi := if ofC g p = 0 then valGF g p else zFirsts
theorem ofVF_ok {g : G} {p : List NodeD} (h : ofC g p = 0) : ofVF g p = valGF g p := by unfold ofVF; rw [if_pos h]
theorem ofVF_bad {g : G} {p : List NodeD} (h : ofC g p ≠ 0) : ofVF g p = zFirsts := by unfold ofVF; rw [if_neg h]
theorem ofC_zero {g : G} {p : List NodeD} (h : ofC g p = 0) : RG g ∧ lookV g p = 0 := by
 by_cases h1 : (chkG g).2 = 0
 ·rw [ofC_ok h1] at h
  exact ⟨rg_of h1, h⟩
 ·rw [ofC_bad h1] at h; exact absurd h h1
theorem ofVF_can {g : G} (hc : CanG g) {p : List NodeD} (hp : CanP p) : CanS (ofVF g p).1 := by
 by_cases h : ofC g p = 0
 ·obtain ⟨hg, hl⟩ := ofC_zero h
  obtain ⟨h1, h2⟩ := look_zero hl
  obtain ⟨_, _, _, hp0, _⟩ := chk_len h1
  rw [ofVF_ok h]
  unfold valGF partsVF
  rw [valsF_at (by omega)]
  exact can_val h1 hp (fun k _ => callF_can hg (fixF_ok hg hc) _) _ (by omega)
 ·rw [ofVF_bad h]; exact can_zero
theorem q_fOf (g : G) (hc : CanG g) (p : List NodeD) (hp : CanP p) : F_first_Of ((g, ()), p, ()) = some (ofVF g p, ofC g p, ()) := by
 unfold F_first_Of
 simp only [toPb, q_checkG, bind_t]
 dsimp only [outE]
 by_cases h : (chkG g).2 = 0
 ·have hg := rg_of h
  have ho := ofC_ok (p := p) h
  rw [npos h, q_look11 hg, bind_t]
  dsimp only
  by_cases hl : lookV g p = 0
  ·obtain ⟨h1, _⟩ := look_zero hl
   obtain ⟨hlen, _, _, hp0, _⟩ := chk_len h1
   rw [npos hl, q_fparts hg hc hl hp, bind_t]
   dsimp only
   rw [partsVF_len, need64 (by omega) (by omega), need_pos (by omega), ofVF_ok (by rw [ho, hl]), ho, hl, show Int.toNat ((p.length : Int) - 1) = p.length - 1 by omega]
   rfl
  ·rw [nneg hl, ofVF_bad (by rw [ho]; exact hl), ho]
 ·rw [nneg h, ofVF_bad (by rw [ofC_bad h]; exact h), ofC_bad h]
theorem q_frOf (g : G) (hc : CanG g) (p : List NodeD) (hp : CanP p) : F_ref11_Of ((g, ()), p, ()) = some (ofVF g p, ofC g p, ()) := by
 unfold F_ref11_Of
 dsimp only
 simp only [toPb]
 rw [q_rOf, bind_t]
 dsimp only
 by_cases h : ofC g p = 0
 ·obtain ⟨hg, hl⟩ := ofC_zero h
  obtain ⟨h1, _⟩ := look_zero hl
  obtain ⟨hlen, _, _, hp0, _⟩ := chk_len h1
  rw [npos h, q_rAll hg hc hl hp, bind_t]
  dsimp only
  rw [partsVF_len, need64 (by omega) (by omega), need_pos (by omega), need_pos (by omega), ofVF_ok h, h, Nat.zero_add, show Int.toNat ((p.length : Int) - 1) = p.length - 1 by omega]
  rfl
 ·rw [nneg h, ofVF_bad h]
noncomputable def decV (x y : Fi) : Bool := !x.2.1 && (x.2.2.1 || (!y.2.1 && pb (meetS x.1 y.1 = zSet)))
noncomputable def decC (g : G) (p q : List NodeD) : Int := if ofC g p ≠ 0 then ofC g p else ofC g q
noncomputable def decB (g : G) (p q : List NodeD) : Bool := if decC g p q = 0 then decV (ofVF g p) (ofVF g q) else false
theorem decC_bad {g : G} {p q : List NodeD} (h : ofC g p ≠ 0) : decC g p q = ofC g p := by unfold decC; rw [if_pos h]
theorem decC_ok {g : G} {p q : List NodeD} (h : ofC g p = 0) : decC g p q = ofC g q := by unfold decC; rw [if_neg (fun h2 => h2 h)]
theorem decV_sel {x y : Fi} {ap : Option Bool} (ha : ap = some (pb (meetS x.1 y.1 = zSet))) : (Option.bind (sel (!x.2.1) (Option.bind (sel x.2.2.1 (some true) (Option.bind (sel (!y.2.1) ap (some false)) (fun (v : Bool) => some v))) (fun (v1 : Bool) => some v1)) (some false)) (fun (v2 : Bool) => some (v2))) = some (decV x y) := by
 subst ha
 obtain ⟨x0, xe, xh, _⟩ := x
 obtain ⟨y0, ye, yh, _⟩ := y
 unfold decV
 cases xe <;> cases xh <;> cases ye <;> simp [sel_t, sel_f, bind_t]
theorem q_fDecided (g : G) (hc : CanG g) (p q : List NodeD) (hp : CanP p) (hq : CanP q) : F_first_Decided ((g, ()), p, q, ()) = some (decB g p q, decC g p q, ()) := by
 unfold F_first_Decided decB
 simp only [toPb]
 rw [q_fOf g hc p hp, bind_t]
 dsimp only
 by_cases h : ofC g p = 0
 ·rw [npos h, q_fOf g hc q hq, bind_t, decC_ok h]
  dsimp only
  by_cases h2 : ofC g q = 0
  ·rw [npos h2, if_pos h2, h2]
   have hv := decV_sel (x := ofVF g p) (y := ofVF g q) (ap := Option.bind (F_charset_Apart ((ofVF g p).1, (ofVF g q).1, ())) (fun (y2 : Bool × Unit) => some y2.1)) (by rw [q_apart (ofVF_can hc hp) (ofVF_can hc hq)]; rfl)
   rw [bind_id] at hv
   rw [hv]
   rfl
  ·rw [nneg h2, if_neg h2]
 ·rw [nneg h, decC_bad h, if_neg h]
theorem q_Decides {x y : Fi} (hx : CanS x.1) (hy : CanS y.1) : F_ref11_Decides (x, y, ()) = some (decV x y, ()) := by
 unfold F_ref11_Decides
 simp only [toPb]
 have hv := decV_sel (x := x) (y := y) (ap := Option.bind (F_ref01_Meet (x.1, y.1, ())) (fun (y : SetD × Unit) => Option.bind (F_ref01_Count (y.1, ())) (fun (y1 : Int × Unit) => some (pb (y1.1 = (0 : Int)))))) (by
  rw [q_MeetR hx hy, bind_t]
  dsimp only
  have hcm : CanS (meetS x.1 y.1) := can_mk _
  rw [q_Count hcm, bind_t]
  dsimp only
  rw [pb_congr (count_zero hcm)])
 rw [bind_id] at hv
 rw [hv]
 rfl
theorem q_frDecided (g : G) (hc : CanG g) (p q : List NodeD) (hp : CanP p) (hq : CanP q) : F_ref11_Decided ((g, ()), p, q, ()) = some (decB g p q, decC g p q, ()) := by
 unfold F_ref11_Decided decB
 simp only [toPb]
 rw [q_frOf g hc p hp, bind_t]
 dsimp only
 by_cases h : ofC g p = 0
 ·rw [npos h, q_frOf g hc q hq, bind_t, decC_ok h]
  dsimp only
  by_cases h2 : ofC g q = 0
  ·rw [npos h2, if_pos h2, h2, q_Decides (ofVF_can hc hp) (ofVF_can hc hq), bind_t]
  ·rw [nneg h2, if_neg h2]
 ·rw [nneg h, decC_bad h, if_neg h]
end Go.Proofs
/-! Chapter 11: the laws. -/
namespace Go.Proofs
open Go Go.Abs
set_option linter.unusedSimpArgs false
def tA : NodeD := ((4 : Int), (0 : Int), byt [97], ((0 : Int), (0 : Int), (0 : Int), (0 : Int), ()), ())
def tB : NodeD := ((4 : Int), (0 : Int), byt [98], ((0 : Int), (0 : Int), (0 : Int), (0 : Int), ()), ())
def tStar : NodeD := ((9 : Int), (0 : Int), zStr, ((0 : Int), (0 : Int), (0 : Int), (0 : Int), ()), ())
def tSeq : NodeD := ((7 : Int), (0 : Int), zStr, ((0 : Int), (0 : Int), (0 : Int), (0 : Int), ()), ())
def wb : List NodeD := [tA, tB, tStar, tSeq]
def wp : List NodeD := [tA, tStar, tB, tSeq]
def wh : G := [(byt [115], wb, ())]
theorem wb_c : chkP wb = (0, 0) := by kernel_rfl
theorem wp_c : chkP wp = (0, 0) := by kernel_rfl
theorem node0 {p : List NodeD} {k : Nat} (hp : p = wb ∨ p = wp) (hk : k < 4) : ¬ (nth p k).1 = 6 := by
 rcases hp with rfl | rfl <;> rcases (show k = 0 ∨ k = 1 ∨ k = 2 ∨ k = 3 by omega) with rfl | rfl | rfl | rfl <;> decide
theorem wh_chk : (chkG wh).2 = 0 := by
 have hn : nameB (byt [115]) = true := by kernel_rfl
 have g0 : ¬ badName wh (rth wh 0) := fun h => by
  have h2 : nameB (byt [115]) = false := h.1
  rw [hn] at h2; cases h2
 have hf : findR wh (rth wh 0).1 = some 0 := by
  show findR wh (byt [115]) = some 0
  unfold findR wh findF
  rw [if_pos rfl]
 have r0 : ¬ numR wh (rth wh 0).1 < ((0 : Nat) : Int) := by
  unfold numR
  rw [hf]
  decide
 have c0 : ¬ (chkP (rth wh 0).2.1).2 ≠ 0 := fun h => h (congrArg (·.2) wb_c)
 have l0 : ¬ (0 : Int) + ((rth wh 0).2.1.length : Int) > 2048 := by
  show ¬ (0 : Int) + ((4 : Nat) : Int) > 2048
  decide
 unfold chkG
 rw [if_neg (by decide), if_neg (by decide)]
 show (restG wh (scanG wh 1 0 0)).2 = 0
 rw [scanG, if_neg g0, if_neg r0, if_neg c0, if_neg l0, scanG]
 show (spotE (unkG wh wh 0)).2 = 0
 have : unkG wh wh 0 = none := by
  have u0 : unkN wh wb 0 = none := by
   unfold wb
   rw [unkN, if_neg (by decide), unkN, if_neg (by decide), unkN, if_neg (by decide), unkN, if_neg (by decide), unkN]
  show unkG wh [(byt [115], wb, ())] 0 = none
  rw [unkG, u0, unkG]
 rw [this]
 rfl
theorem wh_rg : RG wh := rg_of wh_chk
theorem canP_of {p : List NodeD} (hp : p = wb ∨ p = wp) : CanP p := by
 intro n hn
 have : n.2.2.2.1 = zSet := by
  rcases hp with rfl | rfl <;> (simp only [wb, wp, List.mem_cons, List.not_mem_nil, or_false] at hn; rcases hn with rfl | rfl | rfl | rfl <;> rfl)
 rw [this]
 exact can_zero
theorem wh_can : CanG wh := by
 intro r hr
 have : r = (byt [115], wb, ()) := by simpa [wh] using hr
 rw [this]
 exact canP_of (.inl rfl)
section
variable {cE : NodeD → Em} {cF : NodeD → Fi}
theorem v_text {p : List NodeD} (hp : (chkP p).2 = 0) {k : Nat} (hk : k < p.length) (h4 : (nth p k).1 = 4) (hs : (nth p k).2.2.1.size = 1) : valF cE cF p k = mkF (mkS (spanF (firstC (nth p k).2.2.1) (firstC (nth p k).2.2.1))) false true := by
 rw [valF_is hp hk (f := false) (fun h => by rw [h4] at h; exact absurd h (by decide))]
 unfold nodeF
 rw [if_neg (by omega), if_neg (by omega), if_neg (by omega), if_pos h4, pb_t (by omega)]
theorem v_star {p : List NodeD} (hp : (chkP p).2 = 0) {k : Nat} (hk : k < p.length) (h9 : (nth p k).1 = 9) : valF cE cF p k = mkF (valF cE cF p (k - 1)).1 true false := by
 have ha : arity (nth p k).1 = 1 := by rw [h9]; rfl
 rw [valF_is hp hk (f := false) (fun h => by omega)]
 unfold nodeF
 rw [if_neg (by omega), if_neg (by omega), if_neg (by omega), if_neg (by omega), if_neg (by omega), if_neg (by omega), if_neg (by omega), if_neg (by omega), if_pos (by omega)]
 unfold leftF
 rw [if_pos ha]
theorem v_seq {p : List NodeD} (hp : (chkP p).2 = 0) {k : Nat} (hk : k < p.length) (h7 : (nth p k).1 = 7) {j : Nat} (hj : (beginP p ((k : Int) - 1) - 1).toNat = j) : valF cE cF p k = mkF (if (valF cE cF p j).2.1 = true then unionS (valF cE cF p j).1 (valF cE cF p (k - 1)).1 else (valF cE cF p j).1) ((valF cE cF p j).2.1 && (valF cE cF p (k - 1)).2.1) ((valF cE cF p j).2.2.1 && !(val9 cE p (k - 1)).2.1) := by
 have ha : arity (nth p k).1 = 2 := by rw [h7]; rfl
 have eL : leftF cE cF p k = valF cE cF p j := by unfold leftF; rw [if_neg (by omega), if_pos ha, hj]
 have eR : rightF cE cF p k = valF cE cF p (k - 1) := by unfold rightF; rw [if_pos ha]
 rw [valF_is hp hk (f := (val9 cE p (k - 1)).2.1) (fun h => rfl), eL, eR]
 generalize valF cE cF p j = a
 generalize valF cE cF p (k - 1) = b
 unfold nodeF
 rw [if_neg (by omega), if_neg (by omega), if_neg (by omega), if_neg (by omega), if_neg (by omega), if_neg (by omega), if_pos h7]
theorem c_star {p : List NodeD} {k : Nat} (h9 : (nth p k).1 = 9) : (val9 cE p k).2.1 = false := by
 rw [show val9 cE p k = _ from valOf_is _ _ _ _]
 unfold nodeE oneE
 rw [if_neg (by omega), if_neg (by omega), if_neg (by omega), if_neg (by omega), if_neg (by omega), if_neg (by omega), if_neg (by omega), if_pos h9]
 rfl
def sA : SetD := ((0 : Int), (8589934592 : Int), (0 : Int), (0 : Int), ())
def sB : SetD := ((0 : Int), (17179869184 : Int), (0 : Int), (0 : Int), ())
def sAB : SetD := ((0 : Int), (25769803776 : Int), (0 : Int), (0 : Int), ())
theorem mk_a : mkS (spanF 97 97) = sA := by kernel_rfl
theorem mk_b : mkS (spanF 98 98) = sB := by kernel_rfl
theorem mk_ab : unionS sA sB = sAB := by kernel_rfl
theorem of_a : mkS (hasC (byt [97]) (byt [97]).size) = sA := by kernel_rfl
theorem of_ab : mkS (hasC (byt [97, 98]) (byt [97, 98]).size) = sAB := by kernel_rfl
theorem wb_last : valF cE cF wb 3 = mkF sA false true := by
 have hp : (chkP wb).2 = 0 := by rw [wb_c]
 rw [v_seq hp (k := 3) (by decide) rfl (j := 0) (by kernel_rfl), c_star (k := 2) rfl, v_text hp (k := 0) (by decide) rfl rfl]
 show mkF (mkS (spanF 97 97)) false true = _
 rw [mk_a]
theorem wp_last : valF cE cF wp 3 = mkF sAB false false := by
 have hp : (chkP wp).2 = 0 := by rw [wp_c]
 have h0 : valF cE cF wp 0 = mkF sA false true := by
  rw [v_text hp (k := 0) (by decide) rfl rfl]
  show mkF (mkS (spanF 97 97)) false true = _
  rw [mk_a]
 have h2 : valF cE cF wp 2 = mkF sB false true := by
  rw [v_text hp (k := 2) (by decide) rfl rfl]
  show mkF (mkS (spanF 98 98)) false true = _
  rw [mk_b]
 have h1 : valF cE cF wp 1 = mkF sA true false := by
  rw [v_star hp (k := 1) (by decide) rfl, h0]
  rfl
 rw [v_seq hp (k := 3) (by decide) rfl (j := 1) (by kernel_rfl), h1, h2]
 show mkF (unionS sA sB) false false = _
 rw [mk_ab]
end
theorem wh_fix : fixH wh = [mkF sA false true] := by
 unfold fixH
 rw [if_pos wh_chk]
 have h := fixF_ok wh_rg wh_can
 have h0 : List.getD (fixF wh) 0 zFirsts = mkF sA false true := by
  have := (fxF wh_rg wh_can).fix_at (i := 0) (by decide)
  rw [show fixF wh = fixX zFirsts wh.length (stepF wh) from rfl, ← this]
  exact wb_last
 exact getD_ext zFirsts (n := 1) h.1 rfl fun i hi => by
  obtain rfl : i = 0 := by omega
  exact h0
theorem wp_look : ofC wh wp = 0 := by
 rw [ofC_ok wh_chk]
 refine lookV_ok (by rw [wp_c]) ?_
 rintro ⟨k, h1, h2, _⟩
 have e : List.getD wp k zNode = nth wp (k : Int) := by simp [nth]
 rw [e] at h2
 exact node0 (.inr rfl) h1 h2
theorem wp_val : ofVF wh wp = mkF sAB false false := by
 rw [ofVF_ok wp_look]
 unfold valGF partsVF
 show List.getD (valsF _ _ wp 4) 3 zFirsts = _
 rw [valsF_at (by omega)]
 exact wp_last
theorem q_works11 : F_law11_works () = some (true, ()) := by
 have e1 := q_fRules wh wh_can
 have e2 := q_fOf wh wh_can wp (canP_of (.inr rfl))
 rw [wh_fix, wh_chk] at e1
 rw [wp_val, wp_look] at e2
 have e3 := q_setOf (byt [97]) (by decide)
 have e4 := q_setOf (byt [97, 98]) (by decide)
 rw [of_a] at e3
 rw [of_ab] at e4
 unfold F_law11_works
 simp only [toPb, eqbF]
 refine (congrArg (fun o => Option.bind o _) e1).trans ?_
 rw [bind_t]
 refine (congrArg (fun o => Option.bind o _) e2).trans ?_
 rw [bind_t]
 dsimp only
 rw [pos rfl, bind_t, pb_t (by rfl), sel_t, need_pos (by decide), need_pos (by decide), e3, bind_t, bind_t]
 dsimp only
 rw [pb_t (show List.getD [mkF sA false true] 0 zFirsts = (sA, false, true, ()) from rfl), pb_t rfl, sel_t, bind_t, sel_t, e4, bind_t, bind_t]
 dsimp only
 rw [pb_t (show mkF sAB false false = (sAB, false, false, ()) from rfl)]
theorem law_FirstPatterns (g : G) (p q : List NodeD) (h : SzG g) (hc : CanG g) (hp : (p.length + 1) * 64 ≤ 140737488355328) (hq : (q.length + 1) * 64 ≤ 140737488355328) (hcp : CanP p) (hcq : CanP q) : F_law11_FirstPatterns ((g, ()), p, q, ()) = some (true, ()) := by
 unfold F_law11_FirstPatterns
 dsimp only
 rw [show (fun (y : RuleD) => ((y.1, (y.2.1, List.length y.2.1), ()) : RuleLD)) = liftR from rfl, show (fun (y : RuleLD) => ((y.1, List.take y.2.1.2 y.2.1.1, ()) : RuleD)) = plainR from rfl, q_lendG g h, bind_t, q_lend p hp, bind_t, q_lend q hq, bind_t]
 dsimp only
 simp only [toPb, eqbF, List.drop_zero]
 have hk := q_kept p hp
 have hk2 := q_kept q hq
 rw [List.drop_zero] at hk hk2
 have ht : List.take p.length (p ++ [markN]) = p := List.take_left' rfl
 have ht2 : List.take q.length (q ++ [markN]) = q := List.take_left' rfl
 rw [plain_lent, plain_lift, need_pos (by simp), ht, ht2, q_fOf g hc p hcp, bind_t, q_frOf g hc p hcp, bind_t, need_pos (by simp), q_fDecided g hc p q hcp hcq, bind_t, q_frDecided g hc p q hcp hcq, bind_t]
 dsimp only
 rw [pos rfl, pb_t rfl, bind_t, sel_t, beq_self_eq_true, bind_t, sel_t, bind_t, pb_t (rfl : decC g p q = decC g p q), sel_t, q_keptG g h, bind_t, bind_t, sel_t, need_pos (by simp), hk, bind_t, bind_t, sel_t, need_pos (by simp), hk2, bind_t, bind_t, sel_t, q_works11]
 rfl
end Go.Proofs
