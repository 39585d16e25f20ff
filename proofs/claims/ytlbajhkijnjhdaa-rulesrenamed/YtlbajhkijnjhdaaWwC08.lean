/- Part of the proof of the law's row: YtlbajhkijnjhdaaWwC08. -/
import Derived.Test.YtlbajhkijnjhdaaWtC08
import Derived.Test.YtlbajhkijnjhdaaWpC08
import Derived.Test.YtlbajhkijnjhdaaWsC08
set_option linter.all false
set_option linter.unusedVariables false
set_option linter.unusedSimpArgs false
/-! The functions compute that. -/
namespace Go.Proofs
open Go Go.Abs
@[reducible] noncomputable def sg38 : SigD := ⟨[.data (.int .u8)], [], [], ⟨[.data .bool], [], []⟩⟩
@[reducible] noncomputable def sig38 : Sig := gsig sg38 F_rules_isHead
set_option maxRecDepth 100000 in
theorem f38_is : ∀ (x : sg38.X) (vs : List Value), denS GT [] ⟨4, [], [], true, []⟩ ⟨4, [], 4⟩ (bodyOf Try.f38) sg38.out.Y (initSt (sg38.pre x) (sg38.heap x) 21 sg38.pin vs) (fun e s => finC GT [.tmp 2] [] sg38.pin [] [] e s sg38.out.dec) = F_rules_isHead x := fun x vs => by kernel_rfl
theorem f38_ok : SigOk Try.prog GT.gl 38 sig38 := gfn (Γ := GT) (nt := 21) (rs := [.tmp 2]) GT_ok sigs_nil Try.func38 (by kernel_rfl) (by kernel_rfl) (by kernel_rfl) (by decide) (by decide) f38_is
@[reducible] noncomputable def sg13 : SigD := ⟨[.data .str], [], [], ⟨[.data .bool], [], []⟩⟩
@[reducible] noncomputable def sig13 : Sig := gsig sg13 F_rules_Name
set_option maxRecDepth 100000 in
theorem f13_is : ∀ (x : sg13.X) (vs : List Value), denS GT [(38, sig38)] ⟨4, [], [], true, []⟩ ⟨4, [], 4⟩ (bodyOf Try.f13) sg13.out.Y (initSt (sg13.pre x) (sg13.heap x) 40 sg13.pin vs) (fun e s => finC GT [.tmp 2] [] sg13.pin [] [] e s sg13.out.dec) = F_rules_Name x := fun x vs => by kernel_rfl
theorem f13_ok : SigOk Try.prog GT.gl 13 sig13 := gfn (Γ := GT) (nt := 40) (rs := [.tmp 2]) GT_ok (sigs_cons f38_ok (by kernel_rfl) sigs_nil) Try.func13 (by kernel_rfl) (by kernel_rfl) (by kernel_rfl) (by decide) (by decide) f13_is
@[reducible] noncomputable def sg34 : SigD := ⟨[.data tGrammar], [], [], ⟨[.data (.map 9 3 .str (.int .i64))], [], []⟩⟩
@[reducible] noncomputable def sig34 : Sig := gsig sg34 F_rules_numbers
set_option maxRecDepth 100000 in
theorem f34_is : ∀ (x : sg34.X) (vs : List Value), denS GT [] ⟨4, [], [], true, []⟩ ⟨4, [], 4⟩ (bodyOf Try.f34) sg34.out.Y (initSt (sg34.pre x) (sg34.heap x) 32 sg34.pin vs) (fun e s => finC GT [.tmp 2] [] sg34.pin [] [true] e s sg34.out.dec) = F_rules_numbers x := fun x vs => by kernel_rfl
theorem f34_ok : SigOk Try.prog GT.gl 34 sig34 := gfn (Γ := GT) (nt := 32) (rs := [.tmp 2]) GT_ok sigs_nil Try.func34 (by kernel_rfl) (by kernel_rfl) (by kernel_rfl) (by decide) (by decide) f34_is
@[reducible] noncomputable def sg69 : SigD := ⟨[.data (.int .i64)], [], [], ⟨[.data (.int .i64)], [], []⟩⟩
@[reducible] noncomputable def sig69 : Sig := gsig sg69 F_tree_Arity
set_option maxRecDepth 100000 in
theorem f69_is : ∀ (x : sg69.X) (vs : List Value), denS GT [] ⟨4, [], [], false, []⟩ ⟨4, [], 4⟩ (bodyOf Try.f69) sg69.out.Y (initSt (sg69.pre x) (sg69.heap x) 28 sg69.pin vs) (fun e s => finC GT [.tmp 2] [] sg69.pin [] [] e s sg69.out.dec) = F_tree_Arity x := fun x vs => by kernel_rfl
theorem f69_ok : SigOk Try.prog GT.gl 69 sig69 := gfn (Γ := GT) (nt := 28) (rs := [.tmp 2]) GT_ok sigs_nil Try.func69 (by kernel_rfl) (by kernel_rfl) (by kernel_rfl) (by decide) (by decide) f69_is
@[reducible] noncomputable def sg75 : SigD := ⟨[.data (.int .i64)], [], [], ⟨[.data .bool], [], []⟩⟩
@[reducible] noncomputable def sig75 : Sig := gsig sg75 F_tree_counted
set_option maxRecDepth 100000 in
theorem f75_is : ∀ (x : sg75.X) (vs : List Value), denS GT [] ⟨4, [], [], false, []⟩ ⟨4, [], 4⟩ (bodyOf Try.f75) sg75.out.Y (initSt (sg75.pre x) (sg75.heap x) 13 sg75.pin vs) (fun e s => finC GT [.tmp 2] [] sg75.pin [] [] e s sg75.out.dec) = F_tree_counted x := fun x vs => by kernel_rfl
theorem f75_ok : SigOk Try.prog GT.gl 75 sig75 := gfn (Γ := GT) (nt := 13) (rs := [.tmp 2]) GT_ok sigs_nil Try.func75 (by kernel_rfl) (by kernel_rfl) (by kernel_rfl) (by decide) (by decide) f75_is
@[reducible] noncomputable def sg90 : SigD := ⟨[.data (.int .u8)], [], [], ⟨[.data .bool], [], []⟩⟩
@[reducible] noncomputable def sig90 : Sig := gsig sg90 F_tree_isHead
set_option maxRecDepth 100000 in
theorem f90_is : ∀ (x : sg90.X) (vs : List Value), denS GT [] ⟨4, [], [], false, []⟩ ⟨4, [], 4⟩ (bodyOf Try.f90) sg90.out.Y (initSt (sg90.pre x) (sg90.heap x) 19 sg90.pin vs) (fun e s => finC GT [.tmp 2] [] sg90.pin [] [] e s sg90.out.dec) = F_tree_isHead x := fun x vs => by kernel_rfl
theorem f90_ok : SigOk Try.prog GT.gl 90 sig90 := gfn (Γ := GT) (nt := 19) (rs := [.tmp 2]) GT_ok sigs_nil Try.func90 (by kernel_rfl) (by kernel_rfl) (by kernel_rfl) (by decide) (by decide) f90_is
@[reducible] noncomputable def sg76 : SigD := ⟨[.data .str], [], [], ⟨[.data .bool], [], []⟩⟩
@[reducible] noncomputable def sig76 : Sig := gsig sg76 F_tree_isName
set_option maxRecDepth 100000 in
theorem f76_is : ∀ (x : sg76.X) (vs : List Value), denS GT [(90, sig90)] ⟨4, [], [], false, []⟩ ⟨4, [], 4⟩ (bodyOf Try.f76) sg76.out.Y (initSt (sg76.pre x) (sg76.heap x) 40 sg76.pin vs) (fun e s => finC GT [.tmp 2] [] sg76.pin [] [] e s sg76.out.dec) = F_tree_isName x := fun x vs => by kernel_rfl
theorem f76_ok : SigOk Try.prog GT.gl 76 sig76 := gfn (Γ := GT) (nt := 40) (rs := [.tmp 2]) GT_ok (sigs_cons f90_ok (by kernel_rfl) sigs_nil) Try.func76 (by kernel_rfl) (by kernel_rfl) (by kernel_rfl) (by decide) (by decide) f76_is
@[reducible] noncomputable def sg77 : SigD := ⟨[.data .str], [], [], ⟨[.data .bool], [], []⟩⟩
@[reducible] noncomputable def sig77 : Sig := gsig sg77 F_tree_isTemplate
set_option maxRecDepth 100000 in
theorem f77_is : ∀ (x : sg77.X) (vs : List Value), denS GT [] ⟨4, [], [], false, []⟩ ⟨4, [], 4⟩ (bodyOf Try.f77) sg77.out.Y (initSt (sg77.pre x) (sg77.heap x) 41 sg77.pin vs) (fun e s => finC GT [.tmp 2] [] sg77.pin [] [] e s sg77.out.dec) = F_tree_isTemplate x := fun x vs => by kernel_rfl
theorem f77_ok : SigOk Try.prog GT.gl 77 sig77 := gfn (Γ := GT) (nt := 41) (rs := [.tmp 2]) GT_ok sigs_nil Try.func77 (by kernel_rfl) (by kernel_rfl) (by kernel_rfl) (by decide) (by decide) f77_is
@[reducible] noncomputable def sg70 : SigD := ⟨[.data tNode], [], [], ⟨[.data .bool], [], []⟩⟩
@[reducible] noncomputable def sig70 : Sig := gsig sg70 F_tree_fields
set_option maxRecDepth 100000 in
theorem f70_is : ∀ (x : sg70.X) (vs : List Value), denS GT [(75, sig75), (76, sig76), (77, sig77)] ⟨4, [], [], false, []⟩ ⟨4, [], 4⟩ (bodyOf Try.f70) sg70.out.Y (initSt (sg70.pre x) (sg70.heap x) 67 sg70.pin vs) (fun e s => finC GT [.tmp 2] [] sg70.pin [] [] e s sg70.out.dec) = F_tree_fields x := fun x vs => by kernel_rfl
theorem f70_ok : SigOk Try.prog GT.gl 70 sig70 := gfn (Γ := GT) (nt := 67) (rs := [.tmp 2]) GT_ok (sigs_cons f75_ok (by kernel_rfl) (sigs_cons f76_ok (by kernel_rfl) (sigs_cons f77_ok (by kernel_rfl) sigs_nil))) Try.func70 (by kernel_rfl) (by kernel_rfl) (by kernel_rfl) (by decide) (by decide) f70_is
@[reducible] noncomputable def sg62 : SigD := ⟨[.data (.int .i64), .data tshape], [], [], ⟨[], [], []⟩⟩
@[reducible] noncomputable def sig62 : Sig := gsig sg62 F_tree_Check_1
set_option maxRecDepth 100000 in
theorem f62_is : ∀ (x : sg62.X) (vs : List Value), denS GT [] ⟨4, [], [], false, []⟩ ⟨0, [], 0⟩ (bodyOf Try.f62) sg62.out.Y (initSt (sg62.pre x) (sg62.heap x) 4 sg62.pin vs) (fun e s => finC GT [] [] sg62.pin [] [] e s sg62.out.dec) = F_tree_Check_1 x := fun x vs => by kernel_rfl
theorem f62_ok : SigOk Try.prog GT.gl 62 sig62 := gfn (Γ := GT) (nt := 4) (rs := []) GT_ok sigs_nil Try.func62 (by kernel_rfl) (by kernel_rfl) (by kernel_rfl) (by decide) (by decide) f62_is
@[reducible] noncomputable def sg61_chk : SigD := ⟨[.data (.sl 68 tNode), .same (.fn 62 [])], [], [], ⟨[.data (.int .i64), .data (.int .i64)], [], []⟩⟩
@[reducible] noncomputable def sig61_chk : Sig := gsig sg61_chk F_tree_each_chk
set_option maxRecDepth 100000 in
theorem f61_chk_is : ∀ (x : sg61_chk.X) (vs : List Value), denS GT [(69, sig69), (70, sig70), (62, sig62)] ⟨4, [], [], false, []⟩ ⟨48, [], 48⟩ (bodyOf Try.f61) sg61_chk.out.Y (initSt (sg61_chk.pre x) (sg61_chk.heap x) 108 sg61_chk.pin vs) (fun e s => finC GT [.tmp 4, .tmp 5] [] sg61_chk.pin [] [] e s sg61_chk.out.dec) = F_tree_each_chk x := fun x vs => by kernel_rfl
theorem f61_chk_ok : SigOk Try.prog GT.gl 61 sig61_chk := gfn (Γ := GT) (nt := 108) (rs := [.tmp 4, .tmp 5]) GT_ok (sigs_cons f69_ok (by kernel_rfl) (sigs_cons f70_ok (by kernel_rfl) (sigs_cons f62_ok (by kernel_rfl) sigs_nil))) Try.func61 (by kernel_rfl) (by kernel_rfl) (by kernel_rfl) (by decide) (by decide) f61_chk_is
@[reducible] noncomputable def sg35 : SigD := ⟨[.data (.sl 68 tNode)], [], [], ⟨[.data (.int .i64), .data (.int .i64)], [], []⟩⟩
@[reducible] noncomputable def sig35 : Sig := gsig sg35 F_tree_Check
set_option maxRecDepth 100000 in
theorem f35_is : ∀ (x : sg35.X) (vs : List Value), denS GT [(61, sig61_chk), (62, sig62)] ⟨4, [], [], false, []⟩ ⟨12, [], 12⟩ (bodyOf Try.f35) sg35.out.Y (initSt (sg35.pre x) (sg35.heap x) 11 sg35.pin vs) (fun e s => finC GT [.tmp 2, .tmp 3] [] sg35.pin [] [] e s sg35.out.dec) = F_tree_Check x := fun x vs => by kernel_rfl
theorem f35_ok : SigOk Try.prog GT.gl 35 sig35 := gfn (Γ := GT) (nt := 11) (rs := [.tmp 2, .tmp 3]) GT_ok (sigs_cons f61_chk_ok (by kernel_rfl) (sigs_cons f62_ok (by kernel_rfl) sigs_nil)) Try.func35 (by kernel_rfl) (by kernel_rfl) (by kernel_rfl) (by decide) (by decide) f35_is
@[reducible] noncomputable def sg10 : SigD := ⟨[.data tGrammar], [], [], ⟨[.data tSpot, .data (.int .i64)], [], []⟩⟩
@[reducible] noncomputable def sig10 : Sig := gsig sg10 F_rules_Check
set_option maxRecDepth 100000 in
theorem f10_is : ∀ (x : sg10.X) (vs : List Value), denS GT [(13, sig13), (34, sig34), (35, sig35)] ⟨4, [], [], true, []⟩ ⟨12, [], 12⟩ (bodyOf Try.f10) sg10.out.Y (initSt (sg10.pre x) (sg10.heap x) 119 sg10.pin vs) (fun e s => finC GT [.cell 2 27, .tmp 3] [] sg10.pin [] [] e s sg10.out.dec) = F_rules_Check x := fun x vs => by kernel_rfl
theorem f10_ok : SigOk Try.prog GT.gl 10 sig10 := gfn (Γ := GT) (nt := 119) (rs := [.cell 2 27, .tmp 3]) GT_ok (sigs_cons f13_ok (by kernel_rfl) (sigs_cons f34_ok (by kernel_rfl) (sigs_cons f35_ok (by kernel_rfl) sigs_nil))) Try.func10 (by kernel_rfl) (by kernel_rfl) (by kernel_rfl) (by decide) (by decide) f10_is
@[reducible] noncomputable def sg12 : SigD := ⟨[], [], [], ⟨[.data .bool], [], []⟩⟩
@[reducible] noncomputable def sig12 : Sig := gsig sg12 F_law08_lives
set_option maxRecDepth 100000 in
theorem f12_is : ∀ (x : sg12.X) (vs : List Value), denS GT [(10, sig10), (13, sig13)] ⟨4, [], [], true, []⟩ ⟨1, [], 1⟩ (bodyOf Try.f12) sg12.out.Y (initSt (sg12.pre x) (sg12.heap x) 28 sg12.pin vs) (fun e s => finC GT [.tmp 0] [] sg12.pin [] [] e s sg12.out.dec) = F_law08_lives x := fun x vs => by kernel_rfl
theorem f12_ok : SigOk Try.prog GT.gl 12 sig12 := gfn (Γ := GT) (nt := 28) (rs := [.tmp 0]) GT_ok (sigs_cons f10_ok (by kernel_rfl) (sigs_cons f13_ok (by kernel_rfl) sigs_nil)) Try.func12 (by kernel_rfl) (by kernel_rfl) (by kernel_rfl) (by decide) (by decide) f12_is
@[reducible] noncomputable def sg66 : SigD := ⟨[.same (.full 1000 (.int .i64))], [(1000, .row 3 (.int .i64) false)], [0], ⟨[], [(1000, .row 3 (.int .i64) false)], [(0, .full 1000 (.int .i64))]⟩⟩
@[reducible] noncomputable def sig66 : Sig := gsig sg66 F_slices_Sort_int_int
theorem f66_ok : SigOk Try.prog GT.gl 66 sig66 := sort_sig sort_lays (by kernel_rfl)
@[reducible] noncomputable def sg53 : SigD := ⟨[.data (.map 3 3 (.int .i64) (.int .i64))], [], [], ⟨[.full 2 (.int .i64)], [(2, .row 3 (.int .i64) false)], []⟩⟩
@[reducible] noncomputable def sig53 : Sig := gsig sg53 F_rules_sorted
set_option maxRecDepth 100000 in
theorem f53_is : ∀ (x : sg53.X) (vs : List Value), denS GT [(66, sig66)] ⟨4, [], [], true, []⟩ ⟨4, [], 4⟩ (bodyOf Try.f53) sg53.out.Y (initSt (sg53.pre x) (sg53.heap x) 21 sg53.pin vs) (fun e s => finC GT [.tmp 2] [] sg53.pin [] [] e s sg53.out.dec) = F_rules_sorted x := fun x vs => by kernel_rfl
theorem f53_ok : SigOk Try.prog GT.gl 53 sig53 := gfn (Γ := GT) (nt := 21) (rs := [.tmp 2]) GT_ok (sigs_cons f66_ok (by kernel_rfl) sigs_nil) Try.func53 (by kernel_rfl) (by kernel_rfl) (by kernel_rfl) (by decide) (by decide) f53_is
@[reducible] noncomputable def sg45 : SigD := ⟨[.data tGrammar], [], [], ⟨[.full 2 (.sl 3 (.int .i64))], [(2, .row 39 (.sl 3 (.int .i64)) false)], []⟩⟩
@[reducible] noncomputable def sig45 : Sig := gsig sg45 F_rules_graph
set_option maxRecDepth 100000 in
theorem f45_is : ∀ (x : sg45.X) (vs : List Value), denS GT [(34, sig34), (53, sig53)] ⟨4, [], [], true, []⟩ ⟨4, [], 4⟩ (bodyOf Try.f45) sg45.out.Y (initSt (sg45.pre x) (sg45.heap x) 50 sg45.pin vs) (fun e s => finC GT [.tmp 2] [] sg45.pin [] [] e s sg45.out.dec) = F_rules_graph x := fun x vs => by kernel_rfl
theorem f45_ok : SigOk Try.prog GT.gl 45 sig45 := gfn (Γ := GT) (nt := 50) (rs := [.tmp 2]) GT_ok (sigs_cons f34_ok (by kernel_rfl) (sigs_cons f53_ok (by kernel_rfl) sigs_nil)) Try.func45 (by kernel_rfl) (by kernel_rfl) (by kernel_rfl) (by decide) (by decide) f45_is
@[reducible] noncomputable def sg40 : SigD := ⟨[.data tGrammar, .data (.int .i64)], [], [], ⟨[.full 4 (.sl 3 (.int .i64)), .data (.int .i64)], [(4, .row 39 (.sl 3 (.int .i64)) false)], []⟩⟩
@[reducible] noncomputable def sig40 : Sig := gsig sg40 F_rules_looked
set_option maxRecDepth 100000 in
theorem f40_is : ∀ (x : sg40.X) (vs : List Value), denS GT [(10, sig10), (45, sig45)] ⟨4, [], [], true, []⟩ ⟨48, [], 48⟩ (bodyOf Try.f40) sg40.out.Y (initSt (sg40.pre x) (sg40.heap x) 27 sg40.pin vs) (fun e s => finC GT [.tmp 4, .tmp 5] [] sg40.pin [] [] e s sg40.out.dec) = F_rules_looked x := fun x vs => by kernel_rfl
theorem f40_ok : SigOk Try.prog GT.gl 40 sig40 := gfn (Γ := GT) (nt := 27) (rs := [.tmp 4, .tmp 5]) GT_ok (sigs_cons f10_ok (by kernel_rfl) (sigs_cons f45_ok (by kernel_rfl) sigs_nil)) Try.func40 (by kernel_rfl) (by kernel_rfl) (by kernel_rfl) (by decide) (by decide) f40_is
@[reducible] noncomputable def sg41 : SigD := ⟨[.data (.sl 68 tNode)], [], [], ⟨[.full 2 tNode], [(2, .row 68 tNode false)], []⟩⟩
@[reducible] noncomputable def sig41 : Sig := gsig sg41 F_slices_Clone_Pattern_Node
set_option maxRecDepth 100000 in
theorem f41_is : ∀ (x : sg41.X) (vs : List Value), denS GT [] ⟨4, [], [], false, []⟩ ⟨4, [], 4⟩ (bodyOf Try.f41) sg41.out.Y (initSt (sg41.pre x) (sg41.heap x) 8 sg41.pin vs) (fun e s => finC GT [.tmp 2] [] sg41.pin [] [] e s sg41.out.dec) = F_slices_Clone_Pattern_Node x := fun x vs => by kernel_rfl
theorem f41_ok : SigOk Try.prog GT.gl 41 sig41 := gfn (Γ := GT) (nt := 8) (rs := [.tmp 2]) GT_ok sigs_nil Try.func41 (by kernel_rfl) (by kernel_rfl) (by kernel_rfl) (by decide) (by decide) f41_is
@[reducible] noncomputable def sg16 : SigD := ⟨[.data tGrammar, .data (.int .i64), .data .str], [], [], ⟨[.data tGrammar, .data (.int .i64)], [], []⟩⟩
@[reducible] noncomputable def sig16 : Sig := gsig sg16 F_rules_Rename
set_option maxRecDepth 100000 in
theorem f16_is : ∀ (x : sg16.X) (vs : List Value), denS GT [(13, sig13), (34, sig34), (40, sig40), (41, sig41)] ⟨4, [], [], true, []⟩ ⟨192, [], 192⟩ (bodyOf Try.f16) sg16.out.Y (initSt (sg16.pre x) (sg16.heap x) 105 sg16.pin vs) (fun e s => finC GT [.cell 6 24, .tmp 7] [] sg16.pin [] [true, false] e s sg16.out.dec) = F_rules_Rename x := fun x vs => by kernel_rfl
theorem f16_ok : SigOk Try.prog GT.gl 16 sig16 := gfn (Γ := GT) (nt := 105) (rs := [.cell 6 24, .tmp 7]) GT_ok (sigs_cons f13_ok (by kernel_rfl) (sigs_cons f34_ok (by kernel_rfl) (sigs_cons f40_ok (by kernel_rfl) (sigs_cons f41_ok (by kernel_rfl) sigs_nil)))) Try.func16 (by kernel_rfl) (by kernel_rfl) (by kernel_rfl) (by decide) (by decide) f16_is
@[reducible] noncomputable def sg17 : SigD := ⟨[.data tGrammar, .data .str], [], [], ⟨[.data (.int .i64), .data (.int .i64)], [], []⟩⟩
@[reducible] noncomputable def sig17 : Sig := gsig sg17 F_rules_Find
set_option maxRecDepth 100000 in
theorem f17_is : ∀ (x : sg17.X) (vs : List Value), denS GT [(10, sig10), (34, sig34)] ⟨4, [], [], true, []⟩ ⟨48, [], 48⟩ (bodyOf Try.f17) sg17.out.Y (initSt (sg17.pre x) (sg17.heap x) 27 sg17.pin vs) (fun e s => finC GT [.tmp 4, .tmp 5] [] sg17.pin [] [] e s sg17.out.dec) = F_rules_Find x := fun x vs => by kernel_rfl
theorem f17_ok : SigOk Try.prog GT.gl 17 sig17 := gfn (Γ := GT) (nt := 27) (rs := [.tmp 4, .tmp 5]) GT_ok (sigs_cons f10_ok (by kernel_rfl) (sigs_cons f34_ok (by kernel_rfl) sigs_nil)) Try.func17 (by kernel_rfl) (by kernel_rfl) (by kernel_rfl) (by decide) (by decide) f17_is
@[reducible] noncomputable def sg18 : SigD := ⟨[.data tGrammar, .data (.int .i64)], [], [], ⟨[.data (.sl 3 (.int .i64)), .data (.int .i64)], [], []⟩⟩
@[reducible] noncomputable def sig18 : Sig := gsig sg18 F_rules_Calls
set_option maxRecDepth 100000 in
theorem f18_is : ∀ (x : sg18.X) (vs : List Value), denS GT [(40, sig40)] ⟨4, [], [], true, []⟩ ⟨48, [], 48⟩ (bodyOf Try.f18) sg18.out.Y (initSt (sg18.pre x) (sg18.heap x) 21 sg18.pin vs) (fun e s => finC GT [.tmp 4, .tmp 5] [] sg18.pin [] [true, false] e s sg18.out.dec) = F_rules_Calls x := fun x vs => by kernel_rfl
theorem f18_ok : SigOk Try.prog GT.gl 18 sig18 := gfn (Γ := GT) (nt := 21) (rs := [.tmp 4, .tmp 5]) GT_ok (sigs_cons f40_ok (by kernel_rfl) sigs_nil) Try.func18 (by kernel_rfl) (by kernel_rfl) (by kernel_rfl) (by decide) (by decide) f18_is
@[reducible] noncomputable def sg19 : SigD := ⟨[.data (.sl 3 (.int .i64)), .data (.sl 3 (.int .i64))], [], [], ⟨[.data .bool], [], []⟩⟩
@[reducible] noncomputable def sig19 : Sig := gsig sg19 F_book_SameInts
set_option maxRecDepth 100000 in
theorem f19_is : ∀ (x : sg19.X) (vs : List Value), denS GT [] ⟨4, [], [], false, []⟩ ⟨16, [], 16⟩ (bodyOf Try.f19) sg19.out.Y (initSt (sg19.pre x) (sg19.heap x) 26 sg19.pin vs) (fun e s => finC GT [.tmp 4] [] sg19.pin [] [] e s sg19.out.dec) = F_book_SameInts x := fun x vs => by kernel_rfl
theorem f19_ok : SigOk Try.prog GT.gl 19 sig19 := gfn (Γ := GT) (nt := 26) (rs := [.tmp 4]) GT_ok sigs_nil Try.func19 (by kernel_rfl) (by kernel_rfl) (by kernel_rfl) (by decide) (by decide) f19_is
@[reducible] noncomputable def sg64 : SigD := ⟨[.data (.sl 68 tNode), .data (.sl 68 tNode)], [], [], ⟨[.data .bool], [], []⟩⟩
@[reducible] noncomputable def sig64 : Sig := gsig sg64 F_slices_Equal_Pattern_Node
set_option maxRecDepth 100000 in
theorem f64_is : ∀ (x : sg64.X) (vs : List Value), denS GT [] ⟨4, [], [], false, []⟩ ⟨16, [], 16⟩ (bodyOf Try.f64) sg64.out.Y (initSt (sg64.pre x) (sg64.heap x) 26 sg64.pin vs) (fun e s => finC GT [.tmp 4] [] sg64.pin [] [] e s sg64.out.dec) = F_slices_Equal_Pattern_Node x := fun x vs => by kernel_rfl
theorem f64_ok : SigOk Try.prog GT.gl 64 sig64 := gfn (Γ := GT) (nt := 26) (rs := [.tmp 4]) GT_ok sigs_nil Try.func64 (by kernel_rfl) (by kernel_rfl) (by kernel_rfl) (by decide) (by decide) f64_is
@[reducible] noncomputable def sg44 : SigD := ⟨[.data (.sl 68 tNode), .data (.sl 68 tNode)], [], [], ⟨[.data .bool], [], []⟩⟩
@[reducible] noncomputable def sig44 : Sig := gsig sg44 F_tree_Same
set_option maxRecDepth 100000 in
theorem f44_is : ∀ (x : sg44.X) (vs : List Value), denS GT [(64, sig64)] ⟨4, [], [], false, []⟩ ⟨16, [], 16⟩ (bodyOf Try.f44) sg44.out.Y (initSt (sg44.pre x) (sg44.heap x) 8 sg44.pin vs) (fun e s => finC GT [.tmp 4] [] sg44.pin [] [] e s sg44.out.dec) = F_tree_Same x := fun x vs => by kernel_rfl
theorem f44_ok : SigOk Try.prog GT.gl 44 sig44 := gfn (Γ := GT) (nt := 8) (rs := [.tmp 4]) GT_ok (sigs_cons f64_ok (by kernel_rfl) sigs_nil) Try.func44 (by kernel_rfl) (by kernel_rfl) (by kernel_rfl) (by decide) (by decide) f44_is
@[reducible] noncomputable def sg43 : SigD := ⟨[.data tRule, .data tRule], [], [], ⟨[.data .bool], [], []⟩⟩
@[reducible] noncomputable def sig43 : Sig := gsig sg43 F_rules_Same_1
set_option maxRecDepth 100000 in
theorem f43_is : ∀ (x : sg43.X) (vs : List Value), denS GT [(44, sig44)] ⟨4, [], [], true, []⟩ ⟨16, [], 16⟩ (bodyOf Try.f43) sg43.out.Y (initSt (sg43.pre x) (sg43.heap x) 17 sg43.pin vs) (fun e s => finC GT [.tmp 4] [] sg43.pin [] [] e s sg43.out.dec) = F_rules_Same_1 x := fun x vs => by kernel_rfl
theorem f43_ok : SigOk Try.prog GT.gl 43 sig43 := gfn (Γ := GT) (nt := 17) (rs := [.tmp 4]) GT_ok (sigs_cons f44_ok (by kernel_rfl) sigs_nil) Try.func43 (by kernel_rfl) (by kernel_rfl) (by kernel_rfl) (by decide) (by decide) f43_is
@[reducible] noncomputable def sg42_same : SigD := ⟨[.data (.sl 46 tRule), .data (.sl 46 tRule), .same (.fn 43 [])], [], [], ⟨[.data .bool], [], []⟩⟩
@[reducible] noncomputable def sig42_same : Sig := gsig sg42_same F_slices_EqualFunc_Rule_Rule_Rule_Rule_same
set_option maxRecDepth 100000 in
theorem f42_same_is : ∀ (x : sg42_same.X) (vs : List Value), denS GT [(43, sig43)] ⟨4, [], [], true, []⟩ ⟨64, [], 64⟩ (bodyOf Try.f42) sg42_same.out.Y (initSt (sg42_same.pre x) (sg42_same.heap x) 32 sg42_same.pin vs) (fun e s => finC GT [.tmp 6] [] sg42_same.pin [] [] e s sg42_same.out.dec) = F_slices_EqualFunc_Rule_Rule_Rule_Rule_same x := fun x vs => by kernel_rfl
theorem f42_same_ok : SigOk Try.prog GT.gl 42 sig42_same := gfn (Γ := GT) (nt := 32) (rs := [.tmp 6]) GT_ok (sigs_cons f43_ok (by kernel_rfl) sigs_nil) Try.func42 (by kernel_rfl) (by kernel_rfl) (by kernel_rfl) (by decide) (by decide) f42_same_is
@[reducible] noncomputable def sg20 : SigD := ⟨[.data tGrammar, .data tGrammar], [], [], ⟨[.data .bool], [], []⟩⟩
@[reducible] noncomputable def sig20 : Sig := gsig sg20 F_rules_Same
set_option maxRecDepth 100000 in
theorem f20_is : ∀ (x : sg20.X) (vs : List Value), denS GT [(42, sig42_same), (43, sig43)] ⟨4, [], [], true, []⟩ ⟨16, [], 16⟩ (bodyOf Try.f20) sg20.out.Y (initSt (sg20.pre x) (sg20.heap x) 10 sg20.pin vs) (fun e s => finC GT [.tmp 4] [] sg20.pin [] [] e s sg20.out.dec) = F_rules_Same x := fun x vs => by kernel_rfl
theorem f20_ok : SigOk Try.prog GT.gl 20 sig20 := gfn (Γ := GT) (nt := 10) (rs := [.tmp 4]) GT_ok (sigs_cons f42_same_ok (by kernel_rfl) (sigs_cons f43_ok (by kernel_rfl) sigs_nil)) Try.func20 (by kernel_rfl) (by kernel_rfl) (by kernel_rfl) (by decide) (by decide) f20_is
@[reducible] noncomputable def sg4 : SigD := ⟨[.data tGrammar, .data (.int .i64), .data .str], [], [], ⟨[.data .bool], [], []⟩⟩
set_option maxRecDepth 100000 in
theorem f4_is : ∀ (x : sg4.X) (vs : List Value), denS GT [(12, sig12), (16, sig16), (17, sig17), (18, sig18), (19, sig19), (20, sig20)] ⟨4, [], [], true, []⟩ ⟨64, [], 64⟩ (bodyOf Try.f4) sg4.out.Y (initSt (sg4.pre x) (sg4.heap x) 121 sg4.pin vs) (fun e s => finC GT [.tmp 6] [] sg4.pin [] [] e s sg4.out.dec) = F_law08_RulesRenamed x := fun x vs => by kernel_rfl
theorem f4_h {x : sg4.X} {y : sg4.out.Y} (h : F_law08_RulesRenamed x = some y) : FnH Try.prog GT.gl 4 (sg4.pre x) (sg4.heap x) (sg4.out.out y).1 (sg4.out.out y).2.1 (sg4.out.out y).2.2 := gfnH (Γ := GT) (nt := 121) (rs := [.tmp 6]) GT_ok (sigs_cons f12_ok (by kernel_rfl) (sigs_cons f16_ok (by kernel_rfl) (sigs_cons f17_ok (by kernel_rfl) (sigs_cons f18_ok (by kernel_rfl) (sigs_cons f19_ok (by kernel_rfl) (sigs_cons f20_ok (by kernel_rfl) sigs_nil)))))) Try.func4 (by kernel_rfl) (by kernel_rfl) (by kernel_rfl) (by decide) (by decide) f4_is h
end Go.Proofs
