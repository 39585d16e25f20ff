/- Part of the proof of the law's row: YtnoeomlanbdjeaaWwC10. -/
import Derived.Test.YtnoeomlanbdjeaaWtC10
import Derived.Test.YtnoeomlanbdjeaaWpC10
set_option linter.all false
set_option linter.unusedVariables false
set_option linter.unusedSimpArgs false
/-! The functions compute that. -/
namespace Go.Proofs
open Go Go.Abs
@[reducible] noncomputable def sg56 : SigD := ⟨[.data tGrammar], [], [], ⟨[.data (.map 9 3 .str (.int .i64))], [], []⟩⟩
@[reducible] noncomputable def sig56 : Sig := gsig sg56 F_rules_numbers
set_option maxRecDepth 100000 in
theorem f56_is : ∀ (x : sg56.X) (vs : List Value), denS GT [] ⟨4, [], [], true, [], []⟩ ⟨4, [], 4⟩ (bodyOf Try.f56) sg56.out.Y (initSt (sg56.pre x) (sg56.heap x) 32 sg56.pin vs) (fun e s => finC GT [.tmp 2] [] sg56.pin [] [true] e s sg56.out.dec) = F_rules_numbers x := fun x vs => by kernel_rfl
theorem f56_ok : SigOk Try.prog GT.gl 56 sig56 := gfn (Γ := GT) (nt := 32) (rs := [.tmp 2]) GT_ok sigs_nil Try.func56 (by kernel_rfl) (by kernel_rfl) (by kernel_rfl) (by decide) (by decide) f56_is
@[reducible] noncomputable def sg67 : SigD := ⟨[.data (.int .u8)], [], [], ⟨[.data .bool], [], []⟩⟩
@[reducible] noncomputable def sig67 : Sig := gsig sg67 F_rules_isHead
set_option maxRecDepth 100000 in
theorem f67_is : ∀ (x : sg67.X) (vs : List Value), denS GT [] ⟨4, [], [], true, [], []⟩ ⟨4, [], 4⟩ (bodyOf Try.f67) sg67.out.Y (initSt (sg67.pre x) (sg67.heap x) 21 sg67.pin vs) (fun e s => finC GT [.tmp 2] [] sg67.pin [] [] e s sg67.out.dec) = F_rules_isHead x := fun x vs => by kernel_rfl
theorem f67_ok : SigOk Try.prog GT.gl 67 sig67 := gfn (Γ := GT) (nt := 21) (rs := [.tmp 2]) GT_ok sigs_nil Try.func67 (by kernel_rfl) (by kernel_rfl) (by kernel_rfl) (by decide) (by decide) f67_is
@[reducible] noncomputable def sg57 : SigD := ⟨[.data .str], [], [], ⟨[.data .bool], [], []⟩⟩
@[reducible] noncomputable def sig57 : Sig := gsig sg57 F_rules_Name
set_option maxRecDepth 100000 in
theorem f57_is : ∀ (x : sg57.X) (vs : List Value), denS GT [(67, sig67)] ⟨4, [], [], true, [], []⟩ ⟨4, [], 4⟩ (bodyOf Try.f57) sg57.out.Y (initSt (sg57.pre x) (sg57.heap x) 40 sg57.pin vs) (fun e s => finC GT [.tmp 2] [] sg57.pin [] [] e s sg57.out.dec) = F_rules_Name x := fun x vs => by kernel_rfl
theorem f57_ok : SigOk Try.prog GT.gl 57 sig57 := gfn (Γ := GT) (nt := 40) (rs := [.tmp 2]) GT_ok (sigs_cons f67_ok (by kernel_rfl) sigs_nil) Try.func57 (by kernel_rfl) (by kernel_rfl) (by kernel_rfl) (by decide) (by decide) f57_is
@[reducible] noncomputable def sg60 : SigD := ⟨[.data (.int .i64)], [], [], ⟨[.data (.int .i64)], [], []⟩⟩
@[reducible] noncomputable def sig60 : Sig := gsig sg60 F_tree_Arity
set_option maxRecDepth 100000 in
theorem f60_is : ∀ (x : sg60.X) (vs : List Value), denS GT [] ⟨4, [], [], false, [], []⟩ ⟨4, [], 4⟩ (bodyOf Try.f60) sg60.out.Y (initSt (sg60.pre x) (sg60.heap x) 28 sg60.pin vs) (fun e s => finC GT [.tmp 2] [] sg60.pin [] [] e s sg60.out.dec) = F_tree_Arity x := fun x vs => by kernel_rfl
theorem f60_ok : SigOk Try.prog GT.gl 60 sig60 := gfn (Γ := GT) (nt := 28) (rs := [.tmp 2]) GT_ok sigs_nil Try.func60 (by kernel_rfl) (by kernel_rfl) (by kernel_rfl) (by decide) (by decide) f60_is
@[reducible] noncomputable def sg80 : SigD := ⟨[.data (.int .i64)], [], [], ⟨[.data .bool], [], []⟩⟩
@[reducible] noncomputable def sig80 : Sig := gsig sg80 F_tree_counted
set_option maxRecDepth 100000 in
theorem f80_is : ∀ (x : sg80.X) (vs : List Value), denS GT [] ⟨4, [], [], false, [], []⟩ ⟨4, [], 4⟩ (bodyOf Try.f80) sg80.out.Y (initSt (sg80.pre x) (sg80.heap x) 13 sg80.pin vs) (fun e s => finC GT [.tmp 2] [] sg80.pin [] [] e s sg80.out.dec) = F_tree_counted x := fun x vs => by kernel_rfl
theorem f80_ok : SigOk Try.prog GT.gl 80 sig80 := gfn (Γ := GT) (nt := 13) (rs := [.tmp 2]) GT_ok sigs_nil Try.func80 (by kernel_rfl) (by kernel_rfl) (by kernel_rfl) (by decide) (by decide) f80_is
@[reducible] noncomputable def sg89 : SigD := ⟨[.data (.int .u8)], [], [], ⟨[.data .bool], [], []⟩⟩
@[reducible] noncomputable def sig89 : Sig := gsig sg89 F_tree_isHead
set_option maxRecDepth 100000 in
theorem f89_is : ∀ (x : sg89.X) (vs : List Value), denS GT [] ⟨4, [], [], false, [], []⟩ ⟨4, [], 4⟩ (bodyOf Try.f89) sg89.out.Y (initSt (sg89.pre x) (sg89.heap x) 19 sg89.pin vs) (fun e s => finC GT [.tmp 2] [] sg89.pin [] [] e s sg89.out.dec) = F_tree_isHead x := fun x vs => by kernel_rfl
theorem f89_ok : SigOk Try.prog GT.gl 89 sig89 := gfn (Γ := GT) (nt := 19) (rs := [.tmp 2]) GT_ok sigs_nil Try.func89 (by kernel_rfl) (by kernel_rfl) (by kernel_rfl) (by decide) (by decide) f89_is
@[reducible] noncomputable def sg81 : SigD := ⟨[.data .str], [], [], ⟨[.data .bool], [], []⟩⟩
@[reducible] noncomputable def sig81 : Sig := gsig sg81 F_tree_isName
set_option maxRecDepth 100000 in
theorem f81_is : ∀ (x : sg81.X) (vs : List Value), denS GT [(89, sig89)] ⟨4, [], [], false, [], []⟩ ⟨4, [], 4⟩ (bodyOf Try.f81) sg81.out.Y (initSt (sg81.pre x) (sg81.heap x) 40 sg81.pin vs) (fun e s => finC GT [.tmp 2] [] sg81.pin [] [] e s sg81.out.dec) = F_tree_isName x := fun x vs => by kernel_rfl
theorem f81_ok : SigOk Try.prog GT.gl 81 sig81 := gfn (Γ := GT) (nt := 40) (rs := [.tmp 2]) GT_ok (sigs_cons f89_ok (by kernel_rfl) sigs_nil) Try.func81 (by kernel_rfl) (by kernel_rfl) (by kernel_rfl) (by decide) (by decide) f81_is
@[reducible] noncomputable def sg82 : SigD := ⟨[.data .str], [], [], ⟨[.data .bool], [], []⟩⟩
@[reducible] noncomputable def sig82 : Sig := gsig sg82 F_tree_isTemplate
set_option maxRecDepth 100000 in
theorem f82_is : ∀ (x : sg82.X) (vs : List Value), denS GT [] ⟨4, [], [], false, [], []⟩ ⟨4, [], 4⟩ (bodyOf Try.f82) sg82.out.Y (initSt (sg82.pre x) (sg82.heap x) 41 sg82.pin vs) (fun e s => finC GT [.tmp 2] [] sg82.pin [] [] e s sg82.out.dec) = F_tree_isTemplate x := fun x vs => by kernel_rfl
theorem f82_ok : SigOk Try.prog GT.gl 82 sig82 := gfn (Γ := GT) (nt := 41) (rs := [.tmp 2]) GT_ok sigs_nil Try.func82 (by kernel_rfl) (by kernel_rfl) (by kernel_rfl) (by decide) (by decide) f82_is
@[reducible] noncomputable def sg76 : SigD := ⟨[.data tNode], [], [], ⟨[.data .bool], [], []⟩⟩
@[reducible] noncomputable def sig76 : Sig := gsig sg76 F_tree_fields
set_option maxRecDepth 100000 in
theorem f76_is : ∀ (x : sg76.X) (vs : List Value), denS GT [(80, sig80), (81, sig81), (82, sig82)] ⟨4, [], [], false, [], []⟩ ⟨4, [], 4⟩ (bodyOf Try.f76) sg76.out.Y (initSt (sg76.pre x) (sg76.heap x) 67 sg76.pin vs) (fun e s => finC GT [.tmp 2] [] sg76.pin [] [] e s sg76.out.dec) = F_tree_fields x := fun x vs => by kernel_rfl
theorem f76_ok : SigOk Try.prog GT.gl 76 sig76 := gfn (Γ := GT) (nt := 67) (rs := [.tmp 2]) GT_ok (sigs_cons f80_ok (by kernel_rfl) (sigs_cons f81_ok (by kernel_rfl) (sigs_cons f82_ok (by kernel_rfl) sigs_nil))) Try.func76 (by kernel_rfl) (by kernel_rfl) (by kernel_rfl) (by decide) (by decide) f76_is
@[reducible] noncomputable def sg69 : SigD := ⟨[.data (.int .i64), .data tshape], [], [], ⟨[], [], []⟩⟩
@[reducible] noncomputable def sig69 : Sig := gsig sg69 F_tree_Check_1
set_option maxRecDepth 100000 in
theorem f69_is : ∀ (x : sg69.X) (vs : List Value), denS GT [] ⟨4, [], [], false, [], []⟩ ⟨0, [], 0⟩ (bodyOf Try.f69) sg69.out.Y (initSt (sg69.pre x) (sg69.heap x) 4 sg69.pin vs) (fun e s => finC GT [] [] sg69.pin [] [] e s sg69.out.dec) = F_tree_Check_1 x := fun x vs => by kernel_rfl
theorem f69_ok : SigOk Try.prog GT.gl 69 sig69 := gfn (Γ := GT) (nt := 4) (rs := []) GT_ok sigs_nil Try.func69 (by kernel_rfl) (by kernel_rfl) (by kernel_rfl) (by decide) (by decide) f69_is
@[reducible] noncomputable def sg68_chk : SigD := ⟨[.data (.sl 42 tNode), .same (.fn 69 [])], [], [], ⟨[.data (.int .i64), .data (.int .i64)], [], []⟩⟩
@[reducible] noncomputable def sig68_chk : Sig := gsig sg68_chk F_tree_each_chk
set_option maxRecDepth 100000 in
theorem f68_chk_is : ∀ (x : sg68_chk.X) (vs : List Value), denS GT [(60, sig60), (76, sig76), (69, sig69)] ⟨4, [], [], false, [], []⟩ ⟨48, [], 48⟩ (bodyOf Try.f68) sg68_chk.out.Y (initSt (sg68_chk.pre x) (sg68_chk.heap x) 108 sg68_chk.pin vs) (fun e s => finC GT [.tmp 4, .tmp 5] [] sg68_chk.pin [] [] e s sg68_chk.out.dec) = F_tree_each_chk x := fun x vs => by kernel_rfl
theorem f68_chk_ok : SigOk Try.prog GT.gl 68 sig68_chk := gfn (Γ := GT) (nt := 108) (rs := [.tmp 4, .tmp 5]) GT_ok (sigs_cons f60_ok (by kernel_rfl) (sigs_cons f76_ok (by kernel_rfl) (sigs_cons f69_ok (by kernel_rfl) sigs_nil))) Try.func68 (by kernel_rfl) (by kernel_rfl) (by kernel_rfl) (by decide) (by decide) f68_chk_is
@[reducible] noncomputable def sg58 : SigD := ⟨[.data (.sl 42 tNode)], [], [], ⟨[.data (.int .i64), .data (.int .i64)], [], []⟩⟩
@[reducible] noncomputable def sig58 : Sig := gsig sg58 F_tree_Check
set_option maxRecDepth 100000 in
theorem f58_is : ∀ (x : sg58.X) (vs : List Value), denS GT [(68, sig68_chk), (69, sig69)] ⟨4, [], [], false, [], []⟩ ⟨12, [], 12⟩ (bodyOf Try.f58) sg58.out.Y (initSt (sg58.pre x) (sg58.heap x) 11 sg58.pin vs) (fun e s => finC GT [.tmp 2, .tmp 3] [] sg58.pin [] [] e s sg58.out.dec) = F_tree_Check x := fun x vs => by kernel_rfl
theorem f58_ok : SigOk Try.prog GT.gl 58 sig58 := gfn (Γ := GT) (nt := 11) (rs := [.tmp 2, .tmp 3]) GT_ok (sigs_cons f68_chk_ok (by kernel_rfl) (sigs_cons f69_ok (by kernel_rfl) sigs_nil)) Try.func58 (by kernel_rfl) (by kernel_rfl) (by kernel_rfl) (by decide) (by decide) f58_is
@[reducible] noncomputable def sg45 : SigD := ⟨[.data tGrammar], [], [], ⟨[.data tSpot, .data (.int .i64)], [], []⟩⟩
@[reducible] noncomputable def sig45 : Sig := gsig sg45 F_rules_Check
set_option maxRecDepth 100000 in
theorem f45_is : ∀ (x : sg45.X) (vs : List Value), denS GT [(56, sig56), (57, sig57), (58, sig58)] ⟨4, [], [], true, [], []⟩ ⟨12, [], 12⟩ (bodyOf Try.f45) sg45.out.Y (initSt (sg45.pre x) (sg45.heap x) 119 sg45.pin vs) (fun e s => finC GT [.cell 2 28, .tmp 3] [] sg45.pin [] [] e s sg45.out.dec) = F_rules_Check x := fun x vs => by kernel_rfl
theorem f45_ok : SigOk Try.prog GT.gl 45 sig45 := gfn (Γ := GT) (nt := 119) (rs := [.cell 2 28, .tmp 3]) GT_ok (sigs_cons f56_ok (by kernel_rfl) (sigs_cons f57_ok (by kernel_rfl) (sigs_cons f58_ok (by kernel_rfl) sigs_nil))) Try.func45 (by kernel_rfl) (by kernel_rfl) (by kernel_rfl) (by decide) (by decide) f45_is
@[reducible] noncomputable def sg70 : SigD := ⟨[.data tGrammar], [], [], ⟨[.data (.map 9 3 .str (.int .i64))], [], []⟩⟩
@[reducible] noncomputable def sig70 : Sig := gsig sg70 F_gist_Numbers
set_option maxRecDepth 100000 in
theorem f70_is : ∀ (x : sg70.X) (vs : List Value), denS GT [] ⟨4, [], [], true, [], []⟩ ⟨4, [], 4⟩ (bodyOf Try.f70) sg70.out.Y (initSt (sg70.pre x) (sg70.heap x) 21 sg70.pin vs) (fun e s => finC GT [.tmp 2] [] sg70.pin [] [true] e s sg70.out.dec) = F_gist_Numbers x := fun x vs => by kernel_rfl
theorem f70_ok : SigOk Try.prog GT.gl 70 sig70 := gfn (Γ := GT) (nt := 21) (rs := [.tmp 2]) GT_ok sigs_nil Try.func70 (by kernel_rfl) (by kernel_rfl) (by kernel_rfl) (by decide) (by decide) f70_is
@[reducible] noncomputable def sg71 : SigD := ⟨[.data tGrammar, .data (.map 9 3 .str (.int .i64))], [], [], ⟨[.full 4 .bool], [(4, .row 4 .bool false)], []⟩⟩
@[reducible] noncomputable def sig71 : Sig := gsig sg71 F_gist_again
set_option maxRecDepth 100000 in
theorem f71_is : ∀ (x : sg71.X) (vs : List Value), denS (GTd [] [18] []) [] ⟨4, [], [15365, 19461], true, [], []⟩ ⟨16, [], 16⟩ (bodyOf Try.f71) sg71.out.Y (initSt (sg71.pre x) (sg71.heap x) 117 sg71.pin vs) (fun e s => finC (GTd [] [18] []) [.tmp 4] [] sg71.pin [] [] e s sg71.out.dec) = F_gist_again x := fun x vs => by kernel_rfl
theorem f71_ok : SigOk Try.prog GT.gl 71 sig71 := gfn (Γ := (GTd [] [18] [])) (nt := 117) (rs := [.tmp 4]) (GTd_ok _ _ _) sigs_nil Try.func71 (by kernel_rfl) (by kernel_rfl) (by kernel_rfl) (by decide) (by decide) f71_is
@[reducible] noncomputable def sg84 : SigD := ⟨[.data (.int .i64)], [], [], ⟨[.data (.int .i64)], [], []⟩⟩
@[reducible] noncomputable def sig84 : Sig := gsig sg84 F_gist_capped
set_option maxRecDepth 100000 in
theorem f84_is : ∀ (x : sg84.X) (vs : List Value), denS GT [] ⟨4, [], [], true, [], []⟩ ⟨4, [], 4⟩ (bodyOf Try.f84) sg84.out.Y (initSt (sg84.pre x) (sg84.heap x) 5 sg84.pin vs) (fun e s => finC GT [.tmp 2] [] sg84.pin [] [] e s sg84.out.dec) = F_gist_capped x := fun x vs => by kernel_rfl
theorem f84_ok : SigOk Try.prog GT.gl 84 sig84 := gfn (Γ := GT) (nt := 5) (rs := [.tmp 2]) GT_ok sigs_nil Try.func84 (by kernel_rfl) (by kernel_rfl) (by kernel_rfl) (by decide) (by decide) f84_is
@[reducible] noncomputable def sg83_capped : SigD := ⟨[.data (.int .i64), .data (.int .i64), .same (.fn 84 [])], [], [], ⟨[.data (.int .i64)], [], []⟩⟩
@[reducible] noncomputable def sig83_capped : Sig := gsig sg83_capped F_gist_sum_capped
set_option maxRecDepth 100000 in
theorem f83_capped_is : ∀ (x : sg83_capped.X) (vs : List Value), denS GT [(84, sig84)] ⟨4, [], [], true, [], []⟩ ⟨64, [], 64⟩ (bodyOf Try.f83) sg83_capped.out.Y (initSt (sg83_capped.pre x) (sg83_capped.heap x) 18 sg83_capped.pin vs) (fun e s => finC GT [.tmp 6] [] sg83_capped.pin [] [] e s sg83_capped.out.dec) = F_gist_sum_capped x := fun x vs => by kernel_rfl
theorem f83_capped_ok : SigOk Try.prog GT.gl 83 sig83_capped := gfn (Γ := GT) (nt := 18) (rs := [.tmp 6]) GT_ok (sigs_cons f84_ok (by kernel_rfl) sigs_nil) Try.func83 (by kernel_rfl) (by kernel_rfl) (by kernel_rfl) (by decide) (by decide) f83_capped_is
@[reducible] noncomputable def sg85 : SigD := ⟨[.data (.int .i64)], [], [], ⟨[.data (.int .i64)], [], []⟩⟩
@[reducible] noncomputable def sig85 : Sig := gsig sg85 F_gist_bounded
set_option maxRecDepth 100000 in
theorem f85_is : ∀ (x : sg85.X) (vs : List Value), denS GT [] ⟨4, [], [], true, [], []⟩ ⟨4, [], 4⟩ (bodyOf Try.f85) sg85.out.Y (initSt (sg85.pre x) (sg85.heap x) 6 sg85.pin vs) (fun e s => finC GT [.tmp 2] [] sg85.pin [] [] e s sg85.out.dec) = F_gist_bounded x := fun x vs => by kernel_rfl
theorem f85_ok : SigOk Try.prog GT.gl 85 sig85 := gfn (Γ := GT) (nt := 6) (rs := [.tmp 2]) GT_ok sigs_nil Try.func85 (by kernel_rfl) (by kernel_rfl) (by kernel_rfl) (by decide) (by decide) f85_is
@[reducible] noncomputable def sg83_bounded : SigD := ⟨[.data (.int .i64), .data (.int .i64), .same (.fn 85 [])], [], [], ⟨[.data (.int .i64)], [], []⟩⟩
@[reducible] noncomputable def sig83_bounded : Sig := gsig sg83_bounded F_gist_sum_bounded
set_option maxRecDepth 100000 in
theorem f83_bounded_is : ∀ (x : sg83_bounded.X) (vs : List Value), denS GT [(85, sig85)] ⟨4, [], [], true, [], []⟩ ⟨64, [], 64⟩ (bodyOf Try.f83) sg83_bounded.out.Y (initSt (sg83_bounded.pre x) (sg83_bounded.heap x) 18 sg83_bounded.pin vs) (fun e s => finC GT [.tmp 6] [] sg83_bounded.pin [] [] e s sg83_bounded.out.dec) = F_gist_sum_bounded x := fun x vs => by kernel_rfl
theorem f83_bounded_ok : SigOk Try.prog GT.gl 83 sig83_bounded := gfn (Γ := GT) (nt := 18) (rs := [.tmp 6]) GT_ok (sigs_cons f85_ok (by kernel_rfl) sigs_nil) Try.func83 (by kernel_rfl) (by kernel_rfl) (by kernel_rfl) (by decide) (by decide) f83_bounded_is
@[reducible] noncomputable def sg77 : SigD := ⟨[.data tEmptiness, .data tEmptiness], [], [], ⟨[.data tEmptiness], [], []⟩⟩
@[reducible] noncomputable def sig77 : Sig := gsig sg77 F_gist_row
set_option maxRecDepth 100000 in
theorem f77_is : ∀ (x : sg77.X) (vs : List Value), denS GT [(83, (sigOr (hasFn 84) sig83_capped sig83_bounded)), (84, sig84), (85, sig85)] ⟨4, [], [], true, [], []⟩ ⟨16, [], 16⟩ (bodyOf Try.f77) sg77.out.Y (initSt (sg77.pre x) (sg77.heap x) 28 sg77.pin vs) (fun e s => finC GT [.cell 4 103] [] sg77.pin [] [] e s sg77.out.dec) = F_gist_row x := fun x vs => by kernel_rfl
theorem f77_ok : SigOk Try.prog GT.gl 77 sig77 := gfn (Γ := GT) (nt := 28) (rs := [.cell 4 103]) GT_ok (sigs_cons (sigOr_ok f83_capped_ok f83_bounded_ok) (by kernel_rfl) (sigs_cons f84_ok (by kernel_rfl) (sigs_cons f85_ok (by kernel_rfl) sigs_nil))) Try.func77 (by kernel_rfl) (by kernel_rfl) (by kernel_rfl) (by decide) (by decide) f77_is
@[reducible] noncomputable def sg78 : SigD := ⟨[.data tEmptiness, .data tEmptiness], [], [], ⟨[.data tEmptiness], [], []⟩⟩
@[reducible] noncomputable def sig78 : Sig := gsig sg78 F_gist_either
set_option maxRecDepth 100000 in
theorem f78_is : ∀ (x : sg78.X) (vs : List Value), denS GT [] ⟨4, [], [], true, [], []⟩ ⟨16, [], 16⟩ (bodyOf Try.f78) sg78.out.Y (initSt (sg78.pre x) (sg78.heap x) 54 sg78.pin vs) (fun e s => finC GT [.cell 4 103] [] sg78.pin [] [] e s sg78.out.dec) = F_gist_either x := fun x vs => by kernel_rfl
theorem f78_ok : SigOk Try.prog GT.gl 78 sig78 := gfn (Γ := GT) (nt := 54) (rs := [.cell 4 103]) GT_ok sigs_nil Try.func78 (by kernel_rfl) (by kernel_rfl) (by kernel_rfl) (by decide) (by decide) f78_is
@[reducible] noncomputable def sg86 : SigD := ⟨[.data (.int .i64)], [], [], ⟨[.data tEmptiness], [], []⟩⟩
@[reducible] noncomputable def sig86 : Sig := gsig sg86 F_gist_atom
set_option maxRecDepth 100000 in
theorem f86_is : ∀ (x : sg86.X) (vs : List Value), denS GT [] ⟨4, [], [], true, [], []⟩ ⟨4, [], 4⟩ (bodyOf Try.f86) sg86.out.Y (initSt (sg86.pre x) (sg86.heap x) 6 sg86.pin vs) (fun e s => finC GT [.cell 2 103] [] sg86.pin [] [] e s sg86.out.dec) = F_gist_atom x := fun x vs => by kernel_rfl
theorem f86_ok : SigOk Try.prog GT.gl 86 sig86 := gfn (Γ := GT) (nt := 6) (rs := [.cell 2 103]) GT_ok sigs_nil Try.func86 (by kernel_rfl) (by kernel_rfl) (by kernel_rfl) (by decide) (by decide) f86_is
@[reducible] noncomputable def sg87 : SigD := ⟨[.data tEmptiness], [], [], ⟨[.data (.int .i64)], [], []⟩⟩
@[reducible] noncomputable def sig87 : Sig := gsig sg87 F_gist_loop
set_option maxRecDepth 100000 in
theorem f87_is : ∀ (x : sg87.X) (vs : List Value), denS GT [] ⟨4, [], [], true, [], []⟩ ⟨4, [], 4⟩ (bodyOf Try.f87) sg87.out.Y (initSt (sg87.pre x) (sg87.heap x) 6 sg87.pin vs) (fun e s => finC GT [.tmp 2] [] sg87.pin [] [] e s sg87.out.dec) = F_gist_loop x := fun x vs => by kernel_rfl
theorem f87_ok : SigOk Try.prog GT.gl 87 sig87 := gfn (Γ := GT) (nt := 6) (rs := [.tmp 2]) GT_ok sigs_nil Try.func87 (by kernel_rfl) (by kernel_rfl) (by kernel_rfl) (by decide) (by decide) f87_is
@[reducible] noncomputable def sg90_capped : SigD := ⟨[.data (.int .i64), .data (.int .i64), .same (.fn 84 [])], [], [], ⟨[.data (.int .i64)], [], []⟩⟩
@[reducible] noncomputable def sig90_capped : Sig := gsig sg90_capped F_gist_times_capped
set_option maxRecDepth 100000 in
theorem f90_capped_is : ∀ (x : sg90_capped.X) (vs : List Value), denS GT [(84, sig84)] ⟨4, [], [], true, [], []⟩ ⟨64, [], 64⟩ (bodyOf Try.f90) sg90_capped.out.Y (initSt (sg90_capped.pre x) (sg90_capped.heap x) 14 sg90_capped.pin vs) (fun e s => finC GT [.tmp 6] [] sg90_capped.pin [] [] e s sg90_capped.out.dec) = F_gist_times_capped x := fun x vs => by kernel_rfl
theorem f90_capped_ok : SigOk Try.prog GT.gl 90 sig90_capped := gfn (Γ := GT) (nt := 14) (rs := [.tmp 6]) GT_ok (sigs_cons f84_ok (by kernel_rfl) sigs_nil) Try.func90 (by kernel_rfl) (by kernel_rfl) (by kernel_rfl) (by decide) (by decide) f90_capped_is
@[reducible] noncomputable def sg90_bounded : SigD := ⟨[.data (.int .i64), .data (.int .i64), .same (.fn 85 [])], [], [], ⟨[.data (.int .i64)], [], []⟩⟩
@[reducible] noncomputable def sig90_bounded : Sig := gsig sg90_bounded F_gist_times_bounded
set_option maxRecDepth 100000 in
theorem f90_bounded_is : ∀ (x : sg90_bounded.X) (vs : List Value), denS GT [(85, sig85)] ⟨4, [], [], true, [], []⟩ ⟨64, [], 64⟩ (bodyOf Try.f90) sg90_bounded.out.Y (initSt (sg90_bounded.pre x) (sg90_bounded.heap x) 14 sg90_bounded.pin vs) (fun e s => finC GT [.tmp 6] [] sg90_bounded.pin [] [] e s sg90_bounded.out.dec) = F_gist_times_bounded x := fun x vs => by kernel_rfl
theorem f90_bounded_ok : SigOk Try.prog GT.gl 90 sig90_bounded := gfn (Γ := GT) (nt := 14) (rs := [.tmp 6]) GT_ok (sigs_cons f85_ok (by kernel_rfl) sigs_nil) Try.func90 (by kernel_rfl) (by kernel_rfl) (by kernel_rfl) (by decide) (by decide) f90_bounded_is
@[reducible] noncomputable def sg88 : SigD := ⟨[.data tNode, .data tEmptiness], [], [], ⟨[.data tEmptiness], [], []⟩⟩
@[reducible] noncomputable def sig88 : Sig := gsig sg88 F_gist_counted
set_option maxRecDepth 100000 in
theorem f88_is : ∀ (x : sg88.X) (vs : List Value), denS GT [(84, sig84), (85, sig85), (87, sig87), (90, (sigOr (hasFn 84) sig90_capped sig90_bounded))] ⟨4, [], [], true, [], []⟩ ⟨16, [], 16⟩ (bodyOf Try.f88) sg88.out.Y (initSt (sg88.pre x) (sg88.heap x) 59 sg88.pin vs) (fun e s => finC GT [.cell 4 103] [] sg88.pin [] [] e s sg88.out.dec) = F_gist_counted x := fun x vs => by kernel_rfl
theorem f88_ok : SigOk Try.prog GT.gl 88 sig88 := gfn (Γ := GT) (nt := 59) (rs := [.cell 4 103]) GT_ok (sigs_cons f84_ok (by kernel_rfl) (sigs_cons f85_ok (by kernel_rfl) (sigs_cons f87_ok (by kernel_rfl) (sigs_cons (sigOr_ok f90_capped_ok f90_bounded_ok) (by kernel_rfl) sigs_nil)))) Try.func88 (by kernel_rfl) (by kernel_rfl) (by kernel_rfl) (by decide) (by decide) f88_is
@[reducible] noncomputable def sg79 : SigD := ⟨[.data tNode, .data tEmptiness], [], [], ⟨[.data tEmptiness], [], []⟩⟩
@[reducible] noncomputable def sig79 : Sig := gsig sg79 F_gist_one
set_option maxRecDepth 100000 in
theorem f79_is : ∀ (x : sg79.X) (vs : List Value), denS GT [(86, sig86), (87, sig87), (88, sig88)] ⟨4, [], [], true, [], []⟩ ⟨16, [], 16⟩ (bodyOf Try.f79) sg79.out.Y (initSt (sg79.pre x) (sg79.heap x) 56 sg79.pin vs) (fun e s => finC GT [.cell 4 103] [] sg79.pin [] [] e s sg79.out.dec) = F_gist_one x := fun x vs => by kernel_rfl
theorem f79_ok : SigOk Try.prog GT.gl 79 sig79 := gfn (Γ := GT) (nt := 56) (rs := [.cell 4 103]) GT_ok (sigs_cons f86_ok (by kernel_rfl) (sigs_cons f87_ok (by kernel_rfl) (sigs_cons f88_ok (by kernel_rfl) sigs_nil))) Try.func79 (by kernel_rfl) (by kernel_rfl) (by kernel_rfl) (by decide) (by decide) f79_is
@[reducible] noncomputable def sg72 : SigD := ⟨[.data .str, .same (.cptr 1000), .same (.cptr 1001)], [(1000, .csame 64 (.full 1500 tEmptiness)), (1500, .row 103 tEmptiness false), (1001, .cdata 88 (.map 9 3 .str (.int .i64)))], [1, 2], ⟨[.data tEmptiness], [(1000, .csame 64 (.full 1500 tEmptiness)), (1500, .row 103 tEmptiness false), (1001, .cdata 88 (.map 9 3 .str (.int .i64)))], [(1, .cptr 1000), (2, .cptr 1001)]⟩⟩
@[reducible] noncomputable def sig72 : Sig := gsig sg72 F_gist_Emptiness_1
set_option maxRecDepth 100000 in
theorem f72_is : ∀ (x : sg72.X) (vs : List Value), denS GT [] ⟨4, [], [], true, [], []⟩ ⟨22, [], 22⟩ (bodyOf Try.f72) sg72.out.Y (initSt (sg72.pre x) (sg72.heap x) 11 sg72.pin vs) (fun e s => finC GT [.cell 4 103] [1000, 1500, 1001] sg72.pin [] [] e s sg72.out.dec) = F_gist_Emptiness_1 x := fun x vs => by kernel_rfl
theorem f72_ok : SigOk Try.prog GT.gl 72 sig72 := gfn (Γ := GT) (nt := 11) (rs := [.cell 4 103]) GT_ok sigs_nil Try.func72 (by kernel_rfl) (by kernel_rfl) (by kernel_rfl) (by decide) (by decide) f72_is
@[reducible] noncomputable def sg73_em : SigD := ⟨[.data (.sl 42 tNode), .same (.fn 72 [.cptr 1000, .cptr 1001])], [(1000, .csame 64 (.full 1500 tEmptiness)), (1500, .row 103 tEmptiness false), (1001, .cdata 88 (.map 9 3 .str (.int .i64)))], [1], ⟨[.full 4 tEmptiness], [(4, .row 103 tEmptiness false), (1000, .csame 64 (.full 1500 tEmptiness)), (1500, .row 103 tEmptiness false), (1001, .cdata 88 (.map 9 3 .str (.int .i64)))], [(1, .fn 72 [.cptr 1000, .cptr 1001])]⟩⟩
@[reducible] noncomputable def sig73_em : Sig := gsig sg73_em F_gist_Lengths_em
set_option maxRecDepth 100000 in
theorem f73_em_is : ∀ (x : sg73_em.X) (vs : List Value), denS GT [(60, sig60), (77, sig77), (78, sig78), (79, sig79), (72, sig72)] ⟨4, [], [], true, [], []⟩ ⟨18, [], 18⟩ (bodyOf Try.f73) sg73_em.out.Y (initSt (sg73_em.pre x) (sg73_em.heap x) 81 sg73_em.pin vs) (fun e s => finC GT [.tmp 4] [1000, 1500, 1001] sg73_em.pin [] [] e s sg73_em.out.dec) = F_gist_Lengths_em x := fun x vs => by kernel_rfl
theorem f73_em_ok : SigOk Try.prog GT.gl 73 sig73_em := gfn (Γ := GT) (nt := 81) (rs := [.tmp 4]) GT_ok (sigs_cons f60_ok (by kernel_rfl) (sigs_cons f77_ok (by kernel_rfl) (sigs_cons f78_ok (by kernel_rfl) (sigs_cons f79_ok (by kernel_rfl) (sigs_cons f72_ok (by kernel_rfl) sigs_nil))))) Try.func73 (by kernel_rfl) (by kernel_rfl) (by kernel_rfl) (by decide) (by decide) f73_em_is
@[reducible] noncomputable def sg59 : SigD := ⟨[.data tGrammar], [], [], ⟨[.same (.fn 72 [.cptr 5, .cptr 3])], [(5, .csame 64 (.full 505 tEmptiness)), (505, .row 103 tEmptiness false), (3, .cdata 88 (.map 9 3 .str (.int .i64)))], []⟩⟩
@[reducible] noncomputable def sig59 : Sig := gsig sg59 F_gist_Emptiness
set_option maxRecDepth 100000 in
theorem f59_is : ∀ (x : sg59.X) (vs : List Value), denS (GTd [] [] [48]) [(70, sig70), (71, sig71), (73, sig73_em)] ⟨4, [], [], true, [], [18443]⟩ ⟨4, [], 4⟩ (bodyOf Try.f59) sg59.out.Y (initSt (sg59.pre x) (sg59.heap x) 73 sg59.pin vs) (fun e s => finC (GTd [] [] [48]) [.tmp 2] [] sg59.pin [] [] e s sg59.out.dec) = F_gist_Emptiness x := fun x vs => by kernel_rfl
theorem f59_ok : SigOk Try.prog GT.gl 59 sig59 := gfn (Γ := (GTd [] [] [48])) (nt := 73) (rs := [.tmp 2]) (GTd_ok _ _ _) (sigs_cons f70_ok (by kernel_rfl) (sigs_cons f71_ok (by kernel_rfl) (sigs_cons f73_em_ok (by kernel_rfl) sigs_nil))) Try.func59 (by kernel_rfl) (by kernel_rfl) (by kernel_rfl) (by decide) (by decide) f59_is
@[reducible] noncomputable def sg46 : SigD := ⟨[.data tGrammar], [], [], ⟨[.full 2 tEmptiness, .data (.int .i64)], [(2, .row 103 tEmptiness false)], []⟩⟩
@[reducible] noncomputable def sig46 : Sig := gsig sg46 F_empty_Rules
set_option maxRecDepth 100000 in
theorem f46_is : ∀ (x : sg46.X) (vs : List Value), denS GT [(45, sig45), (59, sig59), (72, sig72)] ⟨4, [], [], true, [], []⟩ ⟨12, [], 12⟩ (bodyOf Try.f46) sg46.out.Y (initSt (sg46.pre x) (sg46.heap x) 36 sg46.pin vs) (fun e s => finC GT [.tmp 2, .tmp 3] [] sg46.pin [] [] e s sg46.out.dec) = F_empty_Rules x := fun x vs => by kernel_rfl
theorem f46_ok : SigOk Try.prog GT.gl 46 sig46 := gfn (Γ := GT) (nt := 36) (rs := [.tmp 2, .tmp 3]) GT_ok (sigs_cons f45_ok (by kernel_rfl) (sigs_cons f59_ok (by kernel_rfl) (sigs_cons f72_ok (by kernel_rfl) sigs_nil))) Try.func46 (by kernel_rfl) (by kernel_rfl) (by kernel_rfl) (by decide) (by decide) f46_is
@[reducible] noncomputable def sg61 : SigD := ⟨[.same (.optr 1000 tlooked none []), .data tNode, .data (.map 9 3 .str (.int .i64))], [(1000, .rcd 67 tlooked [.same (.full 200000 tEmptiness), .same (.full 200001 (.arr 200 .bool)), .same (.full 200002 tSpot)]), (200000, .row 103 tEmptiness false), (200001, .row 82 (.arr 200 .bool) false), (200002, .row 28 tSpot false)], [0], ⟨[.data tpiece], [(1000, .rcd 67 tlooked [.same (.full 200000 tEmptiness), .same (.full 200001 (.arr 200 .bool)), .same (.full 200002 tSpot)]), (200000, .row 103 tEmptiness false), (200001, .row 82 (.arr 200 .bool) false), (200002, .row 28 tSpot false)], [(0, .optr 1000 tlooked none [])]⟩⟩
@[reducible] noncomputable def sig61 : Sig := gsig sg61 F_ford_looked_leaf
set_option maxRecDepth 100000 in
theorem f61_is : ∀ (x : sg61.X) (vs : List Value), denS GT [] ⟨4, [], [], true, [], []⟩ ⟨65, [], 65⟩ (bodyOf Try.f61) sg61.out.Y (initSt (sg61.pre x) (sg61.heap x) 34 sg61.pin vs) (fun e s => finC GT [.cell 6 108] [1000, 200000, 200001, 200002] sg61.pin [] [] e s sg61.out.dec) = F_ford_looked_leaf x := fun x vs => by kernel_rfl
theorem f61_ok : SigOk Try.prog GT.gl 61 sig61 := gfn (Γ := GT) (nt := 34) (rs := [.cell 6 108]) GT_ok sigs_nil Try.func61 (by kernel_rfl) (by kernel_rfl) (by kernel_rfl) (by decide) (by decide) f61_is
@[reducible] noncomputable def sg62 : SigD := ⟨[.data (.int .i64)], [], [], ⟨[.data .bool], [], []⟩⟩
@[reducible] noncomputable def sig62 : Sig := gsig sg62 F_ford_repeats
set_option maxRecDepth 100000 in
theorem f62_is : ∀ (x : sg62.X) (vs : List Value), denS GT [] ⟨4, [], [], true, [], []⟩ ⟨4, [], 4⟩ (bodyOf Try.f62) sg62.out.Y (initSt (sg62.pre x) (sg62.heap x) 13 sg62.pin vs) (fun e s => finC GT [.tmp 2] [] sg62.pin [] [] e s sg62.out.dec) = F_ford_repeats x := fun x vs => by kernel_rfl
theorem f62_ok : SigOk Try.prog GT.gl 62 sig62 := gfn (Γ := GT) (nt := 13) (rs := [.tmp 2]) GT_ok sigs_nil Try.func62 (by kernel_rfl) (by kernel_rfl) (by kernel_rfl) (by decide) (by decide) f62_is
@[reducible] noncomputable def sg63 : SigD := ⟨[.data tNode, .data tpiece], [], [], ⟨[.data tpiece], [], []⟩⟩
@[reducible] noncomputable def sig63 : Sig := gsig sg63 F_ford_one
set_option maxRecDepth 100000 in
theorem f63_is : ∀ (x : sg63.X) (vs : List Value), denS GT [] ⟨4, [], [], true, [], []⟩ ⟨16, [], 16⟩ (bodyOf Try.f63) sg63.out.Y (initSt (sg63.pre x) (sg63.heap x) 39 sg63.pin vs) (fun e s => finC GT [.cell 4 108] [] sg63.pin [] [] e s sg63.out.dec) = F_ford_one x := fun x vs => by kernel_rfl
theorem f63_ok : SigOk Try.prog GT.gl 63 sig63 := gfn (Γ := GT) (nt := 39) (rs := [.cell 4 108]) GT_ok sigs_nil Try.func63 (by kernel_rfl) (by kernel_rfl) (by kernel_rfl) (by decide) (by decide) f63_is
@[reducible] noncomputable def sg74 : SigD := ⟨[.data (.arr 200 .bool), .data (.arr 200 .bool)], [], [], ⟨[.data (.arr 200 .bool)], [], []⟩⟩
@[reducible] noncomputable def sig74 : Sig := gsig sg74 F_ford_marks_join
set_option maxRecDepth 100000 in
theorem f74_is : ∀ (x : sg74.X) (vs : List Value), denS GT [] ⟨4, [], [], true, [], []⟩ ⟨16, [], 16⟩ (bodyOf Try.f74) sg74.out.Y (initSt (sg74.pre x) (sg74.heap x) 22 sg74.pin vs) (fun e s => finC GT [.cell 4 82] [] sg74.pin [] [] e s sg74.out.dec) = F_ford_marks_join x := fun x vs => by kernel_rfl
theorem f74_ok : SigOk Try.prog GT.gl 74 sig74 := gfn (Γ := GT) (nt := 22) (rs := [.cell 4 82]) GT_ok sigs_nil Try.func74 (by kernel_rfl) (by kernel_rfl) (by kernel_rfl) (by decide) (by decide) f74_is
@[reducible] noncomputable def sg64 : SigD := ⟨[.data tNode, .data tpiece, .data tpiece], [], [], ⟨[.data tpiece], [], []⟩⟩
@[reducible] noncomputable def sig64 : Sig := gsig sg64 F_ford_two
set_option maxRecDepth 100000 in
theorem f64_is : ∀ (x : sg64.X) (vs : List Value), denS GT [(74, sig74)] ⟨4, [], [], true, [], []⟩ ⟨64, [], 64⟩ (bodyOf Try.f64) sg64.out.Y (initSt (sg64.pre x) (sg64.heap x) 41 sg64.pin vs) (fun e s => finC GT [.cell 6 108] [] sg64.pin [] [] e s sg64.out.dec) = F_ford_two x := fun x vs => by kernel_rfl
theorem f64_ok : SigOk Try.prog GT.gl 64 sig64 := gfn (Γ := GT) (nt := 41) (rs := [.cell 6 108]) GT_ok (sigs_cons f74_ok (by kernel_rfl) sigs_nil) Try.func64 (by kernel_rfl) (by kernel_rfl) (by kernel_rfl) (by decide) (by decide) f64_is
@[reducible] noncomputable def sg47 : SigD := ⟨[.same (.optr 1000 tlooked none []), .data (.sl 42 tNode), .data (.int .i64), .data (.map 9 3 .str (.int .i64))], [(1000, .rcd 67 tlooked [.same (.full 200000 tEmptiness), .same (.full 200001 (.arr 200 .bool)), .same (.full 200002 tSpot)]), (200000, .row 103 tEmptiness false), (200001, .row 82 (.arr 200 .bool) false), (200002, .row 28 tSpot false)], [0], ⟨[], [(1000, .rcd 67 tlooked [.same (.full 200000 tEmptiness), .same (.full 200001 (.arr 200 .bool)), .same (.full 200002 tSpot)]), (200000, .row 103 tEmptiness false), (200001, .row 82 (.arr 200 .bool) false), (200002, .row 28 tSpot false)], [(0, .optr 1000 tlooked none [])]⟩⟩
@[reducible] noncomputable def sig47 : Sig := gsig sg47 F_ford_looked_rule
set_option maxRecDepth 100000 in
theorem f47_is : ∀ (x : sg47.X) (vs : List Value), denS GT [(60, sig60), (61, sig61), (62, sig62), (63, sig63), (64, sig64)] ⟨4, [], [], true, [], []⟩ ⟨1, [], 1⟩ (bodyOf Try.f47) sg47.out.Y (initSt (sg47.pre x) (sg47.heap x) 97 sg47.pin vs) (fun e s => finC GT [] [1000, 200000, 200001, 200002] sg47.pin [] [] e s sg47.out.dec) = F_ford_looked_rule x := fun x vs => by kernel_rfl
theorem f47_ok : SigOk Try.prog GT.gl 47 sig47 := gfn (Γ := GT) (nt := 97) (rs := []) GT_ok (sigs_cons f60_ok (by kernel_rfl) (sigs_cons f61_ok (by kernel_rfl) (sigs_cons f62_ok (by kernel_rfl) (sigs_cons f63_ok (by kernel_rfl) (sigs_cons f64_ok (by kernel_rfl) sigs_nil))))) Try.func47 (by kernel_rfl) (by kernel_rfl) (by kernel_rfl) (by decide) (by decide) f47_is
@[reducible] noncomputable def sg30 : SigD := ⟨[.data tGrammar], [], [], ⟨[.data tlooked, .data tSpot, .data (.int .i64)], [], []⟩⟩
@[reducible] noncomputable def sig30 : Sig := gsig sg30 F_ford_look
set_option maxRecDepth 100000 in
theorem f30_is : ∀ (x : sg30.X) (vs : List Value), denS (GTd [] [] [100002, 100003]) [(45, sig45), (46, sig46), (47, sig47)] ⟨4, [], [16409], true, [], [4101]⟩ ⟨28, [], 28⟩ (bodyOf Try.f30) sg30.out.Y (initSt (sg30.pre x) (sg30.heap x) 67 sg30.pin vs) (fun e s => finC (GTd [] [] [100002, 100003]) [.cell 2 67, .cell 3 28, .tmp 4] [] sg30.pin [] [true, false, false] e s sg30.out.dec) = F_ford_look x := fun x vs => by kernel_rfl
theorem f30_ok : SigOk Try.prog GT.gl 30 sig30 := gfn (Γ := (GTd [] [] [100002, 100003])) (nt := 67) (rs := [.cell 2 67, .cell 3 28, .tmp 4]) (GTd_ok _ _ _) (sigs_cons f45_ok (by kernel_rfl) (sigs_cons f46_ok (by kernel_rfl) (sigs_cons f47_ok (by kernel_rfl) sigs_nil))) Try.func30 (by kernel_rfl) (by kernel_rfl) (by kernel_rfl) (by decide) (by decide) f30_is
@[reducible] noncomputable def sg48 : SigD := ⟨[.data tlooked, .data (.int .i64)], [], [], ⟨[.full 4 (.int .i64)], [(4, .row 3 (.int .i64) false)], []⟩⟩
@[reducible] noncomputable def sig48 : Sig := gsig sg48 F_ford_looked_distances
set_option maxRecDepth 100000 in
theorem f48_is : ∀ (x : sg48.X) (vs : List Value), denS GT [] ⟨4, [], [], true, [], []⟩ ⟨16, [], 16⟩ (bodyOf Try.f48) sg48.out.Y (initSt (sg48.pre x) (sg48.heap x) 73 sg48.pin vs) (fun e s => finC GT [.tmp 4] [] sg48.pin [] [] e s sg48.out.dec) = F_ford_looked_distances x := fun x vs => by kernel_rfl
theorem f48_ok : SigOk Try.prog GT.gl 48 sig48 := gfn (Γ := GT) (nt := 73) (rs := [.tmp 4]) GT_ok sigs_nil Try.func48 (by kernel_rfl) (by kernel_rfl) (by kernel_rfl) (by decide) (by decide) f48_is
@[reducible] noncomputable def sg31 : SigD := ⟨[.data tlooked], [], [], ⟨[.full 2 (.int .i64)], [(2, .row 3 (.int .i64) false)], []⟩⟩
@[reducible] noncomputable def sig31 : Sig := gsig sg31 F_ford_looked_cycle
set_option maxRecDepth 100000 in
theorem f31_is : ∀ (x : sg31.X) (vs : List Value), denS GT [(48, sig48)] ⟨4, [], [], true, [], []⟩ ⟨4, [], 4⟩ (bodyOf Try.f31) sg31.out.Y (initSt (sg31.pre x) (sg31.heap x) 64 sg31.pin vs) (fun e s => finC GT [.tmp 2] [] sg31.pin [] [] e s sg31.out.dec) = F_ford_looked_cycle x := fun x vs => by kernel_rfl
theorem f31_ok : SigOk Try.prog GT.gl 31 sig31 := gfn (Γ := GT) (nt := 64) (rs := [.tmp 2]) GT_ok (sigs_cons f48_ok (by kernel_rfl) sigs_nil) Try.func31 (by kernel_rfl) (by kernel_rfl) (by kernel_rfl) (by decide) (by decide) f31_is
@[reducible] noncomputable def sg12 : SigD := ⟨[.data tGrammar], [], [], ⟨[.agg tVerdict [.same (.full 100200 (.int .i64)), .data (.int .i64), .data (.int .i64)], .data (.int .i64)], [(100200, .row 3 (.int .i64) false)], []⟩⟩
@[reducible] noncomputable def sig12 : Sig := gsig sg12 F_ford_Check
set_option maxRecDepth 100000 in
theorem f12_is : ∀ (x : sg12.X) (vs : List Value), denS GT [(30, sig30), (31, sig31)] ⟨4, [], [], true, [], []⟩ ⟨12, [], 12⟩ (bodyOf Try.f12) sg12.out.Y (initSt (sg12.pre x) (sg12.heap x) 36 sg12.pin vs) (fun e s => finC GT [.cell 2 30, .tmp 3] [] sg12.pin [] [false, false] e s sg12.out.dec) = F_ford_Check x := fun x vs => by kernel_rfl
theorem f12_ok : SigOk Try.prog GT.gl 12 sig12 := gfn (Γ := GT) (nt := 36) (rs := [.cell 2 30, .tmp 3]) GT_ok (sigs_cons f30_ok (by kernel_rfl) (sigs_cons f31_ok (by kernel_rfl) sigs_nil)) Try.func12 (by kernel_rfl) (by kernel_rfl) (by kernel_rfl) (by decide) (by decide) f12_is
@[reducible] noncomputable def sg14 : SigD := ⟨[], [], [], ⟨[.data .bool], [], []⟩⟩
@[reducible] noncomputable def sig14 : Sig := gsig sg14 F_law10_lives
set_option maxRecDepth 100000 in
theorem f14_is : ∀ (x : sg14.X) (vs : List Value), denS GT [(12, sig12)] ⟨4, [], [], true, [], []⟩ ⟨1, [], 1⟩ (bodyOf Try.f14) sg14.out.Y (initSt (sg14.pre x) (sg14.heap x) 35 sg14.pin vs) (fun e s => finC GT [.tmp 0] [] sg14.pin [] [] e s sg14.out.dec) = F_law10_lives x := fun x vs => by kernel_rfl
theorem f14_ok : SigOk Try.prog GT.gl 14 sig14 := gfn (Γ := GT) (nt := 35) (rs := [.tmp 0]) GT_ok (sigs_cons f12_ok (by kernel_rfl) sigs_nil) Try.func14 (by kernel_rfl) (by kernel_rfl) (by kernel_rfl) (by decide) (by decide) f14_is
@[reducible] noncomputable def sg41 : SigD := ⟨[.data (.arr 200 .bool), .data (.int .i64)], [], [], ⟨[.full 4 (.int .i64)], [(4, .row 3 (.int .i64) false)], []⟩⟩
@[reducible] noncomputable def sig41 : Sig := gsig sg41 F_ford_marks_list
set_option maxRecDepth 100000 in
theorem f41_is : ∀ (x : sg41.X) (vs : List Value), denS GT [] ⟨4, [], [], true, [], []⟩ ⟨16, [], 16⟩ (bodyOf Try.f41) sg41.out.Y (initSt (sg41.pre x) (sg41.heap x) 20 sg41.pin vs) (fun e s => finC GT [.tmp 4] [] sg41.pin [] [] e s sg41.out.dec) = F_ford_marks_list x := fun x vs => by kernel_rfl
theorem f41_ok : SigOk Try.prog GT.gl 41 sig41 := gfn (Γ := GT) (nt := 20) (rs := [.tmp 4]) GT_ok sigs_nil Try.func41 (by kernel_rfl) (by kernel_rfl) (by kernel_rfl) (by decide) (by decide) f41_is
@[reducible] noncomputable def sg20 : SigD := ⟨[.data tGrammar, .data (.int .i64)], [], [], ⟨[.full 4 (.int .i64), .data (.int .i64)], [(4, .row 3 (.int .i64) false)], []⟩⟩
@[reducible] noncomputable def sig20 : Sig := gsig sg20 F_ford_Heads
set_option maxRecDepth 100000 in
theorem f20_is : ∀ (x : sg20.X) (vs : List Value), denS GT [(30, sig30), (41, sig41)] ⟨4, [], [], true, [], []⟩ ⟨48, [], 48⟩ (bodyOf Try.f20) sg20.out.Y (initSt (sg20.pre x) (sg20.heap x) 36 sg20.pin vs) (fun e s => finC GT [.tmp 4, .tmp 5] [] sg20.pin [] [] e s sg20.out.dec) = F_ford_Heads x := fun x vs => by kernel_rfl
theorem f20_ok : SigOk Try.prog GT.gl 20 sig20 := gfn (Γ := GT) (nt := 36) (rs := [.tmp 4, .tmp 5]) GT_ok (sigs_cons f30_ok (by kernel_rfl) (sigs_cons f41_ok (by kernel_rfl) sigs_nil)) Try.func20 (by kernel_rfl) (by kernel_rfl) (by kernel_rfl) (by decide) (by decide) f20_is
@[reducible] noncomputable def sg22 : SigD := ⟨[.data tGrammar], [], [], ⟨[.data (.sl 28 tSpot), .data (.int .i64)], [], []⟩⟩
@[reducible] noncomputable def sig22 : Sig := gsig sg22 F_ford_Loops
set_option maxRecDepth 100000 in
theorem f22_is : ∀ (x : sg22.X) (vs : List Value), denS GT [(30, sig30)] ⟨4, [], [], true, [], []⟩ ⟨12, [], 12⟩ (bodyOf Try.f22) sg22.out.Y (initSt (sg22.pre x) (sg22.heap x) 18 sg22.pin vs) (fun e s => finC GT [.tmp 2, .tmp 3] [] sg22.pin [] [true, false] e s sg22.out.dec) = F_ford_Loops x := fun x vs => by kernel_rfl
theorem f22_ok : SigOk Try.prog GT.gl 22 sig22 := gfn (Γ := GT) (nt := 18) (rs := [.tmp 2, .tmp 3]) GT_ok (sigs_cons f30_ok (by kernel_rfl) sigs_nil) Try.func22 (by kernel_rfl) (by kernel_rfl) (by kernel_rfl) (by decide) (by decide) f22_is
@[reducible] noncomputable def sg25 : SigD := ⟨[.data (.sl 3 (.int .i64)), .data (.int .i64)], [], [], ⟨[.data .bool], [], []⟩⟩
@[reducible] noncomputable def sig25 : Sig := gsig sg25 F_law10_has
set_option maxRecDepth 100000 in
theorem f25_is : ∀ (x : sg25.X) (vs : List Value), denS GT [] ⟨4, [], [], true, [], []⟩ ⟨16, [], 16⟩ (bodyOf Try.f25) sg25.out.Y (initSt (sg25.pre x) (sg25.heap x) 18 sg25.pin vs) (fun e s => finC GT [.tmp 4] [] sg25.pin [] [] e s sg25.out.dec) = F_law10_has x := fun x vs => by kernel_rfl
theorem f25_ok : SigOk Try.prog GT.gl 25 sig25 := gfn (Γ := GT) (nt := 18) (rs := [.tmp 4]) GT_ok sigs_nil Try.func25 (by kernel_rfl) (by kernel_rfl) (by kernel_rfl) (by decide) (by decide) f25_is
@[reducible] noncomputable def sg7 : SigD := ⟨[.data tGrammar], [], [], ⟨[.data .bool], [], []⟩⟩
set_option maxRecDepth 100000 in
theorem f7_is : ∀ (x : sg7.X) (vs : List Value), denS GT [(12, sig12), (14, sig14), (20, sig20), (22, sig22), (25, sig25)] ⟨4, [], [], true, [], []⟩ ⟨4, [], 4⟩ (bodyOf Try.f7) sg7.out.Y (initSt (sg7.pre x) (sg7.heap x) 121 sg7.pin vs) (fun e s => finC GT [.tmp 2] [] sg7.pin [] [] e s sg7.out.dec) = F_law10_FordCycle x := fun x vs => by kernel_rfl
theorem f7_h {x : sg7.X} {y : sg7.out.Y} (h : F_law10_FordCycle x = some y) : FnH Try.prog GT.gl 7 (sg7.pre x) (sg7.heap x) (sg7.out.out y).1 (sg7.out.out y).2.1 (sg7.out.out y).2.2 := gfnH (Γ := GT) (nt := 121) (rs := [.tmp 2]) GT_ok (sigs_cons f12_ok (by kernel_rfl) (sigs_cons f14_ok (by kernel_rfl) (sigs_cons f20_ok (by kernel_rfl) (sigs_cons f22_ok (by kernel_rfl) (sigs_cons f25_ok (by kernel_rfl) sigs_nil))))) Try.func7 (by kernel_rfl) (by kernel_rfl) (by kernel_rfl) (by decide) (by decide) f7_is h
end Go.Proofs
