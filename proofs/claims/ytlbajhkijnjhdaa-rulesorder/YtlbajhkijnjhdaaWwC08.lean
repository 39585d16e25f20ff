/- Part of the proof of the law's row: YtlbajhkijnjhdaaWwC08. -/
import Derived.Test.YtlbajhkijnjhdaaWtC08
import Derived.Test.YtlbajhkijnjhdaaWpC08
import Derived.Test.YtlbajhkijnjhdaaWsC08
set_option linter.all false
set_option linter.unusedVariables false
set_option linter.unusedSimpArgs false
/-! The functions compute that. -/
namespace Go.Proofs
open Go Go.Abs
@[reducible] noncomputable def sg38 : SigD := ⟨[.data (.int .u8)], [], [], ⟨[.data .bool], [], []⟩⟩
@[reducible] noncomputable def sig38 : Sig := gsig sg38 F_rules_isHead
set_option maxRecDepth 100000 in
theorem f38_is : ∀ (x : sg38.X) (vs : List Value), denS GT [] ⟨4, [], [], true, []⟩ ⟨4, [], 4⟩ (bodyOf Try.f38) sg38.out.Y (initSt (sg38.pre x) (sg38.heap x) 21 sg38.pin vs) (fun e s => finC GT [.tmp 2] [] sg38.pin [] [] e s sg38.out.dec) = F_rules_isHead x := fun x vs => by kernel_rfl
theorem f38_ok : SigOk Try.prog GT.gl 38 sig38 := gfn (Γ := GT) (nt := 21) (rs := [.tmp 2]) GT_ok sigs_nil Try.func38 (by kernel_rfl) (by kernel_rfl) (by kernel_rfl) (by decide) (by decide) f38_is
@[reducible] noncomputable def sg13 : SigD := ⟨[.data .str], [], [], ⟨[.data .bool], [], []⟩⟩
@[reducible] noncomputable def sig13 : Sig := gsig sg13 F_rules_Name
set_option maxRecDepth 100000 in
theorem f13_is : ∀ (x : sg13.X) (vs : List Value), denS GT [(38, sig38)] ⟨4, [], [], true, []⟩ ⟨4, [], 4⟩ (bodyOf Try.f13) sg13.out.Y (initSt (sg13.pre x) (sg13.heap x) 40 sg13.pin vs) (fun e s => finC GT [.tmp 2] [] sg13.pin [] [] e s sg13.out.dec) = F_rules_Name x := fun x vs => by kernel_rfl
theorem f13_ok : SigOk Try.prog GT.gl 13 sig13 := gfn (Γ := GT) (nt := 40) (rs := [.tmp 2]) GT_ok (sigs_cons f38_ok (by kernel_rfl) sigs_nil) Try.func13 (by kernel_rfl) (by kernel_rfl) (by kernel_rfl) (by decide) (by decide) f13_is
@[reducible] noncomputable def sg34 : SigD := ⟨[.data tGrammar], [], [], ⟨[.data (.map 9 3 .str (.int .i64))], [], []⟩⟩
@[reducible] noncomputable def sig34 : Sig := gsig sg34 F_rules_numbers
set_option maxRecDepth 100000 in
theorem f34_is : ∀ (x : sg34.X) (vs : List Value), denS GT [] ⟨4, [], [], true, []⟩ ⟨4, [], 4⟩ (bodyOf Try.f34) sg34.out.Y (initSt (sg34.pre x) (sg34.heap x) 32 sg34.pin vs) (fun e s => finC GT [.tmp 2] [] sg34.pin [] [true] e s sg34.out.dec) = F_rules_numbers x := fun x vs => by kernel_rfl
theorem f34_ok : SigOk Try.prog GT.gl 34 sig34 := gfn (Γ := GT) (nt := 32) (rs := [.tmp 2]) GT_ok sigs_nil Try.func34 (by kernel_rfl) (by kernel_rfl) (by kernel_rfl) (by decide) (by decide) f34_is
@[reducible] noncomputable def sg69 : SigD := ⟨[.data (.int .i64)], [], [], ⟨[.data (.int .i64)], [], []⟩⟩
@[reducible] noncomputable def sig69 : Sig := gsig sg69 F_tree_Arity
set_option maxRecDepth 100000 in
theorem f69_is : ∀ (x : sg69.X) (vs : List Value), denS GT [] ⟨4, [], [], false, []⟩ ⟨4, [], 4⟩ (bodyOf Try.f69) sg69.out.Y (initSt (sg69.pre x) (sg69.heap x) 28 sg69.pin vs) (fun e s => finC GT [.tmp 2] [] sg69.pin [] [] e s sg69.out.dec) = F_tree_Arity x := fun x vs => by kernel_rfl
theorem f69_ok : SigOk Try.prog GT.gl 69 sig69 := gfn (Γ := GT) (nt := 28) (rs := [.tmp 2]) GT_ok sigs_nil Try.func69 (by kernel_rfl) (by kernel_rfl) (by kernel_rfl) (by decide) (by decide) f69_is
@[reducible] noncomputable def sg75 : SigD := ⟨[.data (.int .i64)], [], [], ⟨[.data .bool], [], []⟩⟩
@[reducible] noncomputable def sig75 : Sig := gsig sg75 F_tree_counted
set_option maxRecDepth 100000 in
theorem f75_is : ∀ (x : sg75.X) (vs : List Value), denS GT [] ⟨4, [], [], false, []⟩ ⟨4, [], 4⟩ (bodyOf Try.f75) sg75.out.Y (initSt (sg75.pre x) (sg75.heap x) 13 sg75.pin vs) (fun e s => finC GT [.tmp 2] [] sg75.pin [] [] e s sg75.out.dec) = F_tree_counted x := fun x vs => by kernel_rfl
theorem f75_ok : SigOk Try.prog GT.gl 75 sig75 := gfn (Γ := GT) (nt := 13) (rs := [.tmp 2]) GT_ok sigs_nil Try.func75 (by kernel_rfl) (by kernel_rfl) (by kernel_rfl) (by decide) (by decide) f75_is
@[reducible] noncomputable def sg90 : SigD := ⟨[.data (.int .u8)], [], [], ⟨[.data .bool], [], []⟩⟩
@[reducible] noncomputable def sig90 : Sig := gsig sg90 F_tree_isHead
set_option maxRecDepth 100000 in
theorem f90_is : ∀ (x : sg90.X) (vs : List Value), denS GT [] ⟨4, [], [], false, []⟩ ⟨4, [], 4⟩ (bodyOf Try.f90) sg90.out.Y (initSt (sg90.pre x) (sg90.heap x) 19 sg90.pin vs) (fun e s => finC GT [.tmp 2] [] sg90.pin [] [] e s sg90.out.dec) = F_tree_isHead x := fun x vs => by kernel_rfl
theorem f90_ok : SigOk Try.prog GT.gl 90 sig90 := gfn (Γ := GT) (nt := 19) (rs := [.tmp 2]) GT_ok sigs_nil Try.func90 (by kernel_rfl) (by kernel_rfl) (by kernel_rfl) (by decide) (by decide) f90_is
@[reducible] noncomputable def sg76 : SigD := ⟨[.data .str], [], [], ⟨[.data .bool], [], []⟩⟩
@[reducible] noncomputable def sig76 : Sig := gsig sg76 F_tree_isName
set_option maxRecDepth 100000 in
theorem f76_is : ∀ (x : sg76.X) (vs : List Value), denS GT [(90, sig90)] ⟨4, [], [], false, []⟩ ⟨4, [], 4⟩ (bodyOf Try.f76) sg76.out.Y (initSt (sg76.pre x) (sg76.heap x) 40 sg76.pin vs) (fun e s => finC GT [.tmp 2] [] sg76.pin [] [] e s sg76.out.dec) = F_tree_isName x := fun x vs => by kernel_rfl
theorem f76_ok : SigOk Try.prog GT.gl 76 sig76 := gfn (Γ := GT) (nt := 40) (rs := [.tmp 2]) GT_ok (sigs_cons f90_ok (by kernel_rfl) sigs_nil) Try.func76 (by kernel_rfl) (by kernel_rfl) (by kernel_rfl) (by decide) (by decide) f76_is
@[reducible] noncomputable def sg77 : SigD := ⟨[.data .str], [], [], ⟨[.data .bool], [], []⟩⟩
@[reducible] noncomputable def sig77 : Sig := gsig sg77 F_tree_isTemplate
set_option maxRecDepth 100000 in
theorem f77_is : ∀ (x : sg77.X) (vs : List Value), denS GT [] ⟨4, [], [], false, []⟩ ⟨4, [], 4⟩ (bodyOf Try.f77) sg77.out.Y (initSt (sg77.pre x) (sg77.heap x) 41 sg77.pin vs) (fun e s => finC GT [.tmp 2] [] sg77.pin [] [] e s sg77.out.dec) = F_tree_isTemplate x := fun x vs => by kernel_rfl
theorem f77_ok : SigOk Try.prog GT.gl 77 sig77 := gfn (Γ := GT) (nt := 41) (rs := [.tmp 2]) GT_ok sigs_nil Try.func77 (by kernel_rfl) (by kernel_rfl) (by kernel_rfl) (by decide) (by decide) f77_is
@[reducible] noncomputable def sg70 : SigD := ⟨[.data tNode], [], [], ⟨[.data .bool], [], []⟩⟩
@[reducible] noncomputable def sig70 : Sig := gsig sg70 F_tree_fields
set_option maxRecDepth 100000 in
theorem f70_is : ∀ (x : sg70.X) (vs : List Value), denS GT [(75, sig75), (76, sig76), (77, sig77)] ⟨4, [], [], false, []⟩ ⟨4, [], 4⟩ (bodyOf Try.f70) sg70.out.Y (initSt (sg70.pre x) (sg70.heap x) 67 sg70.pin vs) (fun e s => finC GT [.tmp 2] [] sg70.pin [] [] e s sg70.out.dec) = F_tree_fields x := fun x vs => by kernel_rfl
theorem f70_ok : SigOk Try.prog GT.gl 70 sig70 := gfn (Γ := GT) (nt := 67) (rs := [.tmp 2]) GT_ok (sigs_cons f75_ok (by kernel_rfl) (sigs_cons f76_ok (by kernel_rfl) (sigs_cons f77_ok (by kernel_rfl) sigs_nil))) Try.func70 (by kernel_rfl) (by kernel_rfl) (by kernel_rfl) (by decide) (by decide) f70_is
@[reducible] noncomputable def sg62 : SigD := ⟨[.data (.int .i64), .data tshape], [], [], ⟨[], [], []⟩⟩
@[reducible] noncomputable def sig62 : Sig := gsig sg62 F_tree_Check_1
set_option maxRecDepth 100000 in
theorem f62_is : ∀ (x : sg62.X) (vs : List Value), denS GT [] ⟨4, [], [], false, []⟩ ⟨0, [], 0⟩ (bodyOf Try.f62) sg62.out.Y (initSt (sg62.pre x) (sg62.heap x) 4 sg62.pin vs) (fun e s => finC GT [] [] sg62.pin [] [] e s sg62.out.dec) = F_tree_Check_1 x := fun x vs => by kernel_rfl
theorem f62_ok : SigOk Try.prog GT.gl 62 sig62 := gfn (Γ := GT) (nt := 4) (rs := []) GT_ok sigs_nil Try.func62 (by kernel_rfl) (by kernel_rfl) (by kernel_rfl) (by decide) (by decide) f62_is
@[reducible] noncomputable def sg61_chk : SigD := ⟨[.data (.sl 68 tNode), .same (.fn 62 [])], [], [], ⟨[.data (.int .i64), .data (.int .i64)], [], []⟩⟩
@[reducible] noncomputable def sig61_chk : Sig := gsig sg61_chk F_tree_each_chk
set_option maxRecDepth 100000 in
theorem f61_chk_is : ∀ (x : sg61_chk.X) (vs : List Value), denS GT [(69, sig69), (70, sig70), (62, sig62)] ⟨4, [], [], false, []⟩ ⟨48, [], 48⟩ (bodyOf Try.f61) sg61_chk.out.Y (initSt (sg61_chk.pre x) (sg61_chk.heap x) 108 sg61_chk.pin vs) (fun e s => finC GT [.tmp 4, .tmp 5] [] sg61_chk.pin [] [] e s sg61_chk.out.dec) = F_tree_each_chk x := fun x vs => by kernel_rfl
theorem f61_chk_ok : SigOk Try.prog GT.gl 61 sig61_chk := gfn (Γ := GT) (nt := 108) (rs := [.tmp 4, .tmp 5]) GT_ok (sigs_cons f69_ok (by kernel_rfl) (sigs_cons f70_ok (by kernel_rfl) (sigs_cons f62_ok (by kernel_rfl) sigs_nil))) Try.func61 (by kernel_rfl) (by kernel_rfl) (by kernel_rfl) (by decide) (by decide) f61_chk_is
@[reducible] noncomputable def sg35 : SigD := ⟨[.data (.sl 68 tNode)], [], [], ⟨[.data (.int .i64), .data (.int .i64)], [], []⟩⟩
@[reducible] noncomputable def sig35 : Sig := gsig sg35 F_tree_Check
set_option maxRecDepth 100000 in
theorem f35_is : ∀ (x : sg35.X) (vs : List Value), denS GT [(61, sig61_chk), (62, sig62)] ⟨4, [], [], false, []⟩ ⟨12, [], 12⟩ (bodyOf Try.f35) sg35.out.Y (initSt (sg35.pre x) (sg35.heap x) 11 sg35.pin vs) (fun e s => finC GT [.tmp 2, .tmp 3] [] sg35.pin [] [] e s sg35.out.dec) = F_tree_Check x := fun x vs => by kernel_rfl
theorem f35_ok : SigOk Try.prog GT.gl 35 sig35 := gfn (Γ := GT) (nt := 11) (rs := [.tmp 2, .tmp 3]) GT_ok (sigs_cons f61_chk_ok (by kernel_rfl) (sigs_cons f62_ok (by kernel_rfl) sigs_nil)) Try.func35 (by kernel_rfl) (by kernel_rfl) (by kernel_rfl) (by decide) (by decide) f35_is
@[reducible] noncomputable def sg10 : SigD := ⟨[.data tGrammar], [], [], ⟨[.data tSpot, .data (.int .i64)], [], []⟩⟩
@[reducible] noncomputable def sig10 : Sig := gsig sg10 F_rules_Check
set_option maxRecDepth 100000 in
theorem f10_is : ∀ (x : sg10.X) (vs : List Value), denS GT [(13, sig13), (34, sig34), (35, sig35)] ⟨4, [], [], true, []⟩ ⟨12, [], 12⟩ (bodyOf Try.f10) sg10.out.Y (initSt (sg10.pre x) (sg10.heap x) 119 sg10.pin vs) (fun e s => finC GT [.cell 2 27, .tmp 3] [] sg10.pin [] [] e s sg10.out.dec) = F_rules_Check x := fun x vs => by kernel_rfl
theorem f10_ok : SigOk Try.prog GT.gl 10 sig10 := gfn (Γ := GT) (nt := 119) (rs := [.cell 2 27, .tmp 3]) GT_ok (sigs_cons f13_ok (by kernel_rfl) (sigs_cons f34_ok (by kernel_rfl) (sigs_cons f35_ok (by kernel_rfl) sigs_nil))) Try.func10 (by kernel_rfl) (by kernel_rfl) (by kernel_rfl) (by decide) (by decide) f10_is
@[reducible] noncomputable def sg12 : SigD := ⟨[], [], [], ⟨[.data .bool], [], []⟩⟩
@[reducible] noncomputable def sig12 : Sig := gsig sg12 F_law08_lives
set_option maxRecDepth 100000 in
theorem f12_is : ∀ (x : sg12.X) (vs : List Value), denS GT [(10, sig10), (13, sig13)] ⟨4, [], [], true, []⟩ ⟨1, [], 1⟩ (bodyOf Try.f12) sg12.out.Y (initSt (sg12.pre x) (sg12.heap x) 28 sg12.pin vs) (fun e s => finC GT [.tmp 0] [] sg12.pin [] [] e s sg12.out.dec) = F_law08_lives x := fun x vs => by kernel_rfl
theorem f12_ok : SigOk Try.prog GT.gl 12 sig12 := gfn (Γ := GT) (nt := 28) (rs := [.tmp 0]) GT_ok (sigs_cons f10_ok (by kernel_rfl) (sigs_cons f13_ok (by kernel_rfl) sigs_nil)) Try.func12 (by kernel_rfl) (by kernel_rfl) (by kernel_rfl) (by decide) (by decide) f12_is
@[reducible] noncomputable def sg66 : SigD := ⟨[.same (.full 1000 (.int .i64))], [(1000, .row 3 (.int .i64) false)], [0], ⟨[], [(1000, .row 3 (.int .i64) false)], [(0, .full 1000 (.int .i64))]⟩⟩
@[reducible] noncomputable def sig66 : Sig := gsig sg66 F_slices_Sort_int_int
theorem f66_ok : SigOk Try.prog GT.gl 66 sig66 := sort_sig sort_lays (by kernel_rfl)
@[reducible] noncomputable def sg53 : SigD := ⟨[.data (.map 3 3 (.int .i64) (.int .i64))], [], [], ⟨[.full 2 (.int .i64)], [(2, .row 3 (.int .i64) false)], []⟩⟩
@[reducible] noncomputable def sig53 : Sig := gsig sg53 F_rules_sorted
set_option maxRecDepth 100000 in
theorem f53_is : ∀ (x : sg53.X) (vs : List Value), denS GT [(66, sig66)] ⟨4, [], [], true, []⟩ ⟨4, [], 4⟩ (bodyOf Try.f53) sg53.out.Y (initSt (sg53.pre x) (sg53.heap x) 21 sg53.pin vs) (fun e s => finC GT [.tmp 2] [] sg53.pin [] [] e s sg53.out.dec) = F_rules_sorted x := fun x vs => by kernel_rfl
theorem f53_ok : SigOk Try.prog GT.gl 53 sig53 := gfn (Γ := GT) (nt := 21) (rs := [.tmp 2]) GT_ok (sigs_cons f66_ok (by kernel_rfl) sigs_nil) Try.func53 (by kernel_rfl) (by kernel_rfl) (by kernel_rfl) (by decide) (by decide) f53_is
@[reducible] noncomputable def sg45 : SigD := ⟨[.data tGrammar], [], [], ⟨[.full 2 (.sl 3 (.int .i64))], [(2, .row 39 (.sl 3 (.int .i64)) false)], []⟩⟩
@[reducible] noncomputable def sig45 : Sig := gsig sg45 F_rules_graph
set_option maxRecDepth 100000 in
theorem f45_is : ∀ (x : sg45.X) (vs : List Value), denS GT [(34, sig34), (53, sig53)] ⟨4, [], [], true, []⟩ ⟨4, [], 4⟩ (bodyOf Try.f45) sg45.out.Y (initSt (sg45.pre x) (sg45.heap x) 50 sg45.pin vs) (fun e s => finC GT [.tmp 2] [] sg45.pin [] [] e s sg45.out.dec) = F_rules_graph x := fun x vs => by kernel_rfl
theorem f45_ok : SigOk Try.prog GT.gl 45 sig45 := gfn (Γ := GT) (nt := 50) (rs := [.tmp 2]) GT_ok (sigs_cons f34_ok (by kernel_rfl) (sigs_cons f53_ok (by kernel_rfl) sigs_nil)) Try.func45 (by kernel_rfl) (by kernel_rfl) (by kernel_rfl) (by decide) (by decide) f45_is
@[reducible] noncomputable def sg40 : SigD := ⟨[.data tGrammar, .data (.int .i64)], [], [], ⟨[.full 4 (.sl 3 (.int .i64)), .data (.int .i64)], [(4, .row 39 (.sl 3 (.int .i64)) false)], []⟩⟩
@[reducible] noncomputable def sig40 : Sig := gsig sg40 F_rules_looked
set_option maxRecDepth 100000 in
theorem f40_is : ∀ (x : sg40.X) (vs : List Value), denS GT [(10, sig10), (45, sig45)] ⟨4, [], [], true, []⟩ ⟨48, [], 48⟩ (bodyOf Try.f40) sg40.out.Y (initSt (sg40.pre x) (sg40.heap x) 27 sg40.pin vs) (fun e s => finC GT [.tmp 4, .tmp 5] [] sg40.pin [] [] e s sg40.out.dec) = F_rules_looked x := fun x vs => by kernel_rfl
theorem f40_ok : SigOk Try.prog GT.gl 40 sig40 := gfn (Γ := GT) (nt := 27) (rs := [.tmp 4, .tmp 5]) GT_ok (sigs_cons f10_ok (by kernel_rfl) (sigs_cons f45_ok (by kernel_rfl) sigs_nil)) Try.func40 (by kernel_rfl) (by kernel_rfl) (by kernel_rfl) (by decide) (by decide) f40_is
@[reducible] noncomputable def sg18 : SigD := ⟨[.data tGrammar, .data (.int .i64)], [], [], ⟨[.data (.sl 3 (.int .i64)), .data (.int .i64)], [], []⟩⟩
@[reducible] noncomputable def sig18 : Sig := gsig sg18 F_rules_Calls
set_option maxRecDepth 100000 in
theorem f18_is : ∀ (x : sg18.X) (vs : List Value), denS GT [(40, sig40)] ⟨4, [], [], true, []⟩ ⟨48, [], 48⟩ (bodyOf Try.f18) sg18.out.Y (initSt (sg18.pre x) (sg18.heap x) 21 sg18.pin vs) (fun e s => finC GT [.tmp 4, .tmp 5] [] sg18.pin [] [true, false] e s sg18.out.dec) = F_rules_Calls x := fun x vs => by kernel_rfl
theorem f18_ok : SigOk Try.prog GT.gl 18 sig18 := gfn (Γ := GT) (nt := 21) (rs := [.tmp 4, .tmp 5]) GT_ok (sigs_cons f40_ok (by kernel_rfl) sigs_nil) Try.func18 (by kernel_rfl) (by kernel_rfl) (by kernel_rfl) (by decide) (by decide) f18_is
@[reducible] noncomputable def sg65 : SigD := ⟨[.data (.sl 3 (.int .i64))], [], [], ⟨[.full 2 (.int .i64)], [(2, .row 3 (.int .i64) false)], []⟩⟩
@[reducible] noncomputable def sig65 : Sig := gsig sg65 F_slices_Clone_int_int
set_option maxRecDepth 100000 in
theorem f65_is : ∀ (x : sg65.X) (vs : List Value), denS GT [] ⟨4, [], [], true, []⟩ ⟨4, [], 4⟩ (bodyOf Try.f65) sg65.out.Y (initSt (sg65.pre x) (sg65.heap x) 8 sg65.pin vs) (fun e s => finC GT [.tmp 2] [] sg65.pin [] [] e s sg65.out.dec) = F_slices_Clone_int_int x := fun x vs => by kernel_rfl
theorem f65_ok : SigOk Try.prog GT.gl 65 sig65 := gfn (Γ := GT) (nt := 8) (rs := [.tmp 2]) GT_ok sigs_nil Try.func65 (by kernel_rfl) (by kernel_rfl) (by kernel_rfl) (by decide) (by decide) f65_is
@[reducible] noncomputable def sg52 : SigD := ⟨[.data (.sl 39 (.sl 3 (.int .i64))), .data (.sl 3 (.int .i64))], [], [], ⟨[.data (.map 3 3 (.int .i64) (.int .i64))], [], []⟩⟩
@[reducible] noncomputable def sig52 : Sig := gsig sg52 F_rules_reach
set_option maxRecDepth 100000 in
theorem f52_is : ∀ (x : sg52.X) (vs : List Value), denS GT [(65, sig65)] ⟨4, [6], [], true, []⟩ ⟨16, [], 16⟩ (bodyOf Try.f52) sg52.out.Y (initSt (sg52.pre x) (sg52.heap x) 38 sg52.pin vs) (fun e s => finC GT [.tmp 4] [] sg52.pin [] [true] e s sg52.out.dec) = F_rules_reach x := fun x vs => by kernel_rfl
theorem f52_ok : SigOk Try.prog GT.gl 52 sig52 := gfn (Γ := GT) (nt := 38) (rs := [.tmp 4]) GT_ok (sigs_cons f65_ok (by kernel_rfl) sigs_nil) Try.func52 (by kernel_rfl) (by kernel_rfl) (by kernel_rfl) (by decide) (by decide) f52_is
@[reducible] noncomputable def sg46 : SigD := ⟨[.data (.sl 39 (.sl 3 (.int .i64)))], [], [], ⟨[.full 2 (.int .i64)], [(2, .row 3 (.int .i64) false)], []⟩⟩
@[reducible] noncomputable def sig46 : Sig := gsig sg46 F_rules_groups
set_option maxRecDepth 100000 in
theorem f46_is : ∀ (x : sg46.X) (vs : List Value), denS GT [(52, sig52)] ⟨4, [], [], true, []⟩ ⟨4, [], 4⟩ (bodyOf Try.f46) sg46.out.Y (initSt (sg46.pre x) (sg46.heap x) 66 sg46.pin vs) (fun e s => finC GT [.tmp 2] [] sg46.pin [] [] e s sg46.out.dec) = F_rules_groups x := fun x vs => by kernel_rfl
theorem f46_ok : SigOk Try.prog GT.gl 46 sig46 := gfn (Γ := GT) (nt := 66) (rs := [.tmp 2]) GT_ok (sigs_cons f52_ok (by kernel_rfl) sigs_nil) Try.func46 (by kernel_rfl) (by kernel_rfl) (by kernel_rfl) (by decide) (by decide) f46_is
@[reducible] noncomputable def sg47 : SigD := ⟨[.data (.sl 39 (.sl 3 (.int .i64))), .data (.sl 3 (.int .i64)), .data (.sl 4 .bool), .data (.int .i64)], [], [], ⟨[.data .bool], [], []⟩⟩
@[reducible] noncomputable def sig47 : Sig := gsig sg47 F_rules_ready
set_option maxRecDepth 100000 in
theorem f47_is : ∀ (x : sg47.X) (vs : List Value), denS GT [] ⟨4, [], [], true, []⟩ ⟨256, [], 256⟩ (bodyOf Try.f47) sg47.out.Y (initSt (sg47.pre x) (sg47.heap x) 50 sg47.pin vs) (fun e s => finC GT [.tmp 8] [] sg47.pin [] [] e s sg47.out.dec) = F_rules_ready x := fun x vs => by kernel_rfl
theorem f47_ok : SigOk Try.prog GT.gl 47 sig47 := gfn (Γ := GT) (nt := 50) (rs := [.tmp 8]) GT_ok sigs_nil Try.func47 (by kernel_rfl) (by kernel_rfl) (by kernel_rfl) (by decide) (by decide) f47_is
@[reducible] noncomputable def sg21 : SigD := ⟨[.data tGrammar], [], [], ⟨[.full 2 (.sl 3 (.int .i64)), .data (.int .i64)], [(2, .row 39 (.sl 3 (.int .i64)) false)], []⟩⟩
@[reducible] noncomputable def sig21 : Sig := gsig sg21 F_rules_Groups
set_option maxRecDepth 100000 in
theorem f21_is : ∀ (x : sg21.X) (vs : List Value), denS GT [(10, sig10), (45, sig45), (46, sig46), (47, sig47)] ⟨4, [], [], true, []⟩ ⟨12, [], 12⟩ (bodyOf Try.f21) sg21.out.Y (initSt (sg21.pre x) (sg21.heap x) 80 sg21.pin vs) (fun e s => finC GT [.tmp 2, .tmp 3] [] sg21.pin [] [] e s sg21.out.dec) = F_rules_Groups x := fun x vs => by kernel_rfl
theorem f21_ok : SigOk Try.prog GT.gl 21 sig21 := gfn (Γ := GT) (nt := 80) (rs := [.tmp 2, .tmp 3]) GT_ok (sigs_cons f10_ok (by kernel_rfl) (sigs_cons f45_ok (by kernel_rfl) (sigs_cons f46_ok (by kernel_rfl) (sigs_cons f47_ok (by kernel_rfl) sigs_nil)))) Try.func21 (by kernel_rfl) (by kernel_rfl) (by kernel_rfl) (by decide) (by decide) f21_is
@[reducible] noncomputable def sg23 : SigD := ⟨[.data tGrammar], [], [], ⟨[.full 2 .bool, .data (.int .i64)], [(2, .row 4 .bool false)], []⟩⟩
@[reducible] noncomputable def sig23 : Sig := gsig sg23 F_rules_Again
set_option maxRecDepth 100000 in
theorem f23_is : ∀ (x : sg23.X) (vs : List Value), denS GT [(10, sig10), (45, sig45), (52, sig52)] ⟨4, [], [6], true, []⟩ ⟨12, [], 12⟩ (bodyOf Try.f23) sg23.out.Y (initSt (sg23.pre x) (sg23.heap x) 41 sg23.pin vs) (fun e s => finC GT [.tmp 2, .tmp 3] [] sg23.pin [] [] e s sg23.out.dec) = F_rules_Again x := fun x vs => by kernel_rfl
theorem f23_ok : SigOk Try.prog GT.gl 23 sig23 := gfn (Γ := GT) (nt := 41) (rs := [.tmp 2, .tmp 3]) GT_ok (sigs_cons f10_ok (by kernel_rfl) (sigs_cons f45_ok (by kernel_rfl) (sigs_cons f52_ok (by kernel_rfl) sigs_nil))) Try.func23 (by kernel_rfl) (by kernel_rfl) (by kernel_rfl) (by decide) (by decide) f23_is
@[reducible] noncomputable def sg27 : SigD := ⟨[.data (.sl 3 (.int .i64)), .data (.int .i64)], [], [], ⟨[.data .bool], [], []⟩⟩
@[reducible] noncomputable def sig27 : Sig := gsig sg27 F_law08_has
set_option maxRecDepth 100000 in
theorem f27_is : ∀ (x : sg27.X) (vs : List Value), denS GT [] ⟨4, [], [], true, []⟩ ⟨16, [], 16⟩ (bodyOf Try.f27) sg27.out.Y (initSt (sg27.pre x) (sg27.heap x) 18 sg27.pin vs) (fun e s => finC GT [.tmp 4] [] sg27.pin [] [] e s sg27.out.dec) = F_law08_has x := fun x vs => by kernel_rfl
theorem f27_ok : SigOk Try.prog GT.gl 27 sig27 := gfn (Γ := GT) (nt := 18) (rs := [.tmp 4]) GT_ok sigs_nil Try.func27 (by kernel_rfl) (by kernel_rfl) (by kernel_rfl) (by decide) (by decide) f27_is
@[reducible] noncomputable def sg7 : SigD := ⟨[.data tGrammar], [], [], ⟨[.data .bool], [], []⟩⟩
set_option maxRecDepth 100000 in
theorem f7_is : ∀ (x : sg7.X) (vs : List Value), denS GT [(12, sig12), (18, sig18), (21, sig21), (23, sig23), (27, sig27)] ⟨4, [], [], true, []⟩ ⟨4, [], 4⟩ (bodyOf Try.f7) sg7.out.Y (initSt (sg7.pre x) (sg7.heap x) 162 sg7.pin vs) (fun e s => finC GT [.tmp 2] [] sg7.pin [] [] e s sg7.out.dec) = F_law08_RulesOrder x := fun x vs => by kernel_rfl
theorem f7_h {x : sg7.X} {y : sg7.out.Y} (h : F_law08_RulesOrder x = some y) : FnH Try.prog GT.gl 7 (sg7.pre x) (sg7.heap x) (sg7.out.out y).1 (sg7.out.out y).2.1 (sg7.out.out y).2.2 := gfnH (Γ := GT) (nt := 162) (rs := [.tmp 2]) GT_ok (sigs_cons f12_ok (by kernel_rfl) (sigs_cons f18_ok (by kernel_rfl) (sigs_cons f21_ok (by kernel_rfl) (sigs_cons f23_ok (by kernel_rfl) (sigs_cons f27_ok (by kernel_rfl) sigs_nil))))) Try.func7 (by kernel_rfl) (by kernel_rfl) (by kernel_rfl) (by decide) (by decide) f7_is h
end Go.Proofs
