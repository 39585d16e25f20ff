/- Part of the proof of the law's row: YtnoeomlanbdjeaaWwC10. -/
import Derived.Test.YtnoeomlanbdjeaaWtC10
import Derived.Test.YtnoeomlanbdjeaaWpC10
set_option linter.all false
set_option linter.unusedVariables false
set_option linter.unusedSimpArgs false
/-! The functions compute that. -/
namespace Go.Proofs
open Go Go.Abs
@[reducible] noncomputable def sg29 : SigD := ⟨[.data (.sl 42 tNode)], [], [], ⟨[.own 2 tNode], [(2, .row 42 tNode false)], []⟩⟩
@[reducible] noncomputable def sig29 : Sig := gsig sg29 F_book_LendPattern
set_option maxRecDepth 100000 in
theorem f29_is : ∀ (x : sg29.X) (vs : List Value), denS GT [] ⟨4, [], [], false, [], []⟩ ⟨4, [], 4⟩ (bodyOf Try.f29) sg29.out.Y (initSt (sg29.pre x) (sg29.heap x) 12 sg29.pin vs) (fun e s => finC GT [.tmp 2] [] sg29.pin [] [] e s sg29.out.dec) = F_book_LendPattern x := fun x vs => by kernel_rfl
theorem f29_ok : SigOk Try.prog GT.gl 29 sig29 := gfn (Γ := GT) (nt := 12) (rs := [.tmp 2]) GT_ok sigs_nil Try.func29 (by kernel_rfl) (by kernel_rfl) (by kernel_rfl) (by decide) (by decide) f29_is
@[reducible] noncomputable def sg11 : SigD := ⟨[.data tGrammarL], [], [], ⟨[.data tGrammarL], [], []⟩⟩
@[reducible] noncomputable def sig11 : Sig := gsig sg11 F_book_LendGrammar
set_option maxRecDepth 100000 in
theorem f11_is : ∀ (x : sg11.X) (vs : List Value), denS GTL [(29, sig29)] ⟨4, [], [], true, [], []⟩ ⟨4, [], 4⟩ (bodyOf Try.f11) sg11.out.Y (initSt (sg11.pre x) (sg11.heap x) 37 sg11.pin vs) (fun e s => finC GTL [.cell 2 24] [] sg11.pin [] [true] e s sg11.out.dec) = F_book_LendGrammar x := fun x vs => by kernel_rfl
theorem f11_ok : SigOk Try.prog GT.gl 11 sig11 := gfn (Γ := GTL) (nt := 37) (rs := [.cell 2 24]) GTL_ok (sigs_cons f29_ok (by kernel_rfl) sigs_nil) Try.func11 (by kernel_rfl) (by kernel_rfl) (by kernel_rfl) (by decide) (by decide) f11_is
@[reducible] noncomputable def sg56 : SigD := ⟨[.data tGrammar], [], [], ⟨[.data (.map 9 3 .str (.int .i64))], [], []⟩⟩
@[reducible] noncomputable def sig56 : Sig := gsig sg56 F_rules_numbers
set_option maxRecDepth 100000 in
theorem f56_is : ∀ (x : sg56.X) (vs : List Value), denS GT [] ⟨4, [], [], true, [], []⟩ ⟨4, [], 4⟩ (bodyOf Try.f56) sg56.out.Y (initSt (sg56.pre x) (sg56.heap x) 32 sg56.pin vs) (fun e s => finC GT [.tmp 2] [] sg56.pin [] [true] e s sg56.out.dec) = F_rules_numbers x := fun x vs => by kernel_rfl
theorem f56_ok : SigOk Try.prog GT.gl 56 sig56 := gfn (Γ := GT) (nt := 32) (rs := [.tmp 2]) GT_ok sigs_nil Try.func56 (by kernel_rfl) (by kernel_rfl) (by kernel_rfl) (by decide) (by decide) f56_is
@[reducible] noncomputable def sg67 : SigD := ⟨[.data (.int .u8)], [], [], ⟨[.data .bool], [], []⟩⟩
@[reducible] noncomputable def sig67 : Sig := gsig sg67 F_rules_isHead
set_option maxRecDepth 100000 in
theorem f67_is : ∀ (x : sg67.X) (vs : List Value), denS GT [] ⟨4, [], [], true, [], []⟩ ⟨4, [], 4⟩ (bodyOf Try.f67) sg67.out.Y (initSt (sg67.pre x) (sg67.heap x) 21 sg67.pin vs) (fun e s => finC GT [.tmp 2] [] sg67.pin [] [] e s sg67.out.dec) = F_rules_isHead x := fun x vs => by kernel_rfl
theorem f67_ok : SigOk Try.prog GT.gl 67 sig67 := gfn (Γ := GT) (nt := 21) (rs := [.tmp 2]) GT_ok sigs_nil Try.func67 (by kernel_rfl) (by kernel_rfl) (by kernel_rfl) (by decide) (by decide) f67_is
@[reducible] noncomputable def sg57 : SigD := ⟨[.data .str], [], [], ⟨[.data .bool], [], []⟩⟩
@[reducible] noncomputable def sig57 : Sig := gsig sg57 F_rules_Name
set_option maxRecDepth 100000 in
theorem f57_is : ∀ (x : sg57.X) (vs : List Value), denS GT [(67, sig67)] ⟨4, [], [], true, [], []⟩ ⟨4, [], 4⟩ (bodyOf Try.f57) sg57.out.Y (initSt (sg57.pre x) (sg57.heap x) 40 sg57.pin vs) (fun e s => finC GT [.tmp 2] [] sg57.pin [] [] e s sg57.out.dec) = F_rules_Name x := fun x vs => by kernel_rfl
theorem f57_ok : SigOk Try.prog GT.gl 57 sig57 := gfn (Γ := GT) (nt := 40) (rs := [.tmp 2]) GT_ok (sigs_cons f67_ok (by kernel_rfl) sigs_nil) Try.func57 (by kernel_rfl) (by kernel_rfl) (by kernel_rfl) (by decide) (by decide) f57_is
@[reducible] noncomputable def sg60 : SigD := ⟨[.data (.int .i64)], [], [], ⟨[.data (.int .i64)], [], []⟩⟩
@[reducible] noncomputable def sig60 : Sig := gsig sg60 F_tree_Arity
set_option maxRecDepth 100000 in
theorem f60_is : ∀ (x : sg60.X) (vs : List Value), denS GT [] ⟨4, [], [], false, [], []⟩ ⟨4, [], 4⟩ (bodyOf Try.f60) sg60.out.Y (initSt (sg60.pre x) (sg60.heap x) 28 sg60.pin vs) (fun e s => finC GT [.tmp 2] [] sg60.pin [] [] e s sg60.out.dec) = F_tree_Arity x := fun x vs => by kernel_rfl
theorem f60_ok : SigOk Try.prog GT.gl 60 sig60 := gfn (Γ := GT) (nt := 28) (rs := [.tmp 2]) GT_ok sigs_nil Try.func60 (by kernel_rfl) (by kernel_rfl) (by kernel_rfl) (by decide) (by decide) f60_is
@[reducible] noncomputable def sg80 : SigD := ⟨[.data (.int .i64)], [], [], ⟨[.data .bool], [], []⟩⟩
@[reducible] noncomputable def sig80 : Sig := gsig sg80 F_tree_counted
set_option maxRecDepth 100000 in
theorem f80_is : ∀ (x : sg80.X) (vs : List Value), denS GT [] ⟨4, [], [], false, [], []⟩ ⟨4, [], 4⟩ (bodyOf Try.f80) sg80.out.Y (initSt (sg80.pre x) (sg80.heap x) 13 sg80.pin vs) (fun e s => finC GT [.tmp 2] [] sg80.pin [] [] e s sg80.out.dec) = F_tree_counted x := fun x vs => by kernel_rfl
theorem f80_ok : SigOk Try.prog GT.gl 80 sig80 := gfn (Γ := GT) (nt := 13) (rs := [.tmp 2]) GT_ok sigs_nil Try.func80 (by kernel_rfl) (by kernel_rfl) (by kernel_rfl) (by decide) (by decide) f80_is
@[reducible] noncomputable def sg89 : SigD := ⟨[.data (.int .u8)], [], [], ⟨[.data .bool], [], []⟩⟩
@[reducible] noncomputable def sig89 : Sig := gsig sg89 F_tree_isHead
set_option maxRecDepth 100000 in
theorem f89_is : ∀ (x : sg89.X) (vs : List Value), denS GT [] ⟨4, [], [], false, [], []⟩ ⟨4, [], 4⟩ (bodyOf Try.f89) sg89.out.Y (initSt (sg89.pre x) (sg89.heap x) 19 sg89.pin vs) (fun e s => finC GT [.tmp 2] [] sg89.pin [] [] e s sg89.out.dec) = F_tree_isHead x := fun x vs => by kernel_rfl
theorem f89_ok : SigOk Try.prog GT.gl 89 sig89 := gfn (Γ := GT) (nt := 19) (rs := [.tmp 2]) GT_ok sigs_nil Try.func89 (by kernel_rfl) (by kernel_rfl) (by kernel_rfl) (by decide) (by decide) f89_is
@[reducible] noncomputable def sg81 : SigD := ⟨[.data .str], [], [], ⟨[.data .bool], [], []⟩⟩
@[reducible] noncomputable def sig81 : Sig := gsig sg81 F_tree_isName
set_option maxRecDepth 100000 in
theorem f81_is : ∀ (x : sg81.X) (vs : List Value), denS GT [(89, sig89)] ⟨4, [], [], false, [], []⟩ ⟨4, [], 4⟩ (bodyOf Try.f81) sg81.out.Y (initSt (sg81.pre x) (sg81.heap x) 40 sg81.pin vs) (fun e s => finC GT [.tmp 2] [] sg81.pin [] [] e s sg81.out.dec) = F_tree_isName x := fun x vs => by kernel_rfl
theorem f81_ok : SigOk Try.prog GT.gl 81 sig81 := gfn (Γ := GT) (nt := 40) (rs := [.tmp 2]) GT_ok (sigs_cons f89_ok (by kernel_rfl) sigs_nil) Try.func81 (by kernel_rfl) (by kernel_rfl) (by kernel_rfl) (by decide) (by decide) f81_is
@[reducible] noncomputable def sg82 : SigD := ⟨[.data .str], [], [], ⟨[.data .bool], [], []⟩⟩
@[reducible] noncomputable def sig82 : Sig := gsig sg82 F_tree_isTemplate
set_option maxRecDepth 100000 in
theorem f82_is : ∀ (x : sg82.X) (vs : List Value), denS GT [] ⟨4, [], [], false, [], []⟩ ⟨4, [], 4⟩ (bodyOf Try.f82) sg82.out.Y (initSt (sg82.pre x) (sg82.heap x) 41 sg82.pin vs) (fun e s => finC GT [.tmp 2] [] sg82.pin [] [] e s sg82.out.dec) = F_tree_isTemplate x := fun x vs => by kernel_rfl
theorem f82_ok : SigOk Try.prog GT.gl 82 sig82 := gfn (Γ := GT) (nt := 41) (rs := [.tmp 2]) GT_ok sigs_nil Try.func82 (by kernel_rfl) (by kernel_rfl) (by kernel_rfl) (by decide) (by decide) f82_is
@[reducible] noncomputable def sg76 : SigD := ⟨[.data tNode], [], [], ⟨[.data .bool], [], []⟩⟩
@[reducible] noncomputable def sig76 : Sig := gsig sg76 F_tree_fields
set_option maxRecDepth 100000 in
theorem f76_is : ∀ (x : sg76.X) (vs : List Value), denS GT [(80, sig80), (81, sig81), (82, sig82)] ⟨4, [], [], false, [], []⟩ ⟨4, [], 4⟩ (bodyOf Try.f76) sg76.out.Y (initSt (sg76.pre x) (sg76.heap x) 67 sg76.pin vs) (fun e s => finC GT [.tmp 2] [] sg76.pin [] [] e s sg76.out.dec) = F_tree_fields x := fun x vs => by kernel_rfl
theorem f76_ok : SigOk Try.prog GT.gl 76 sig76 := gfn (Γ := GT) (nt := 67) (rs := [.tmp 2]) GT_ok (sigs_cons f80_ok (by kernel_rfl) (sigs_cons f81_ok (by kernel_rfl) (sigs_cons f82_ok (by kernel_rfl) sigs_nil))) Try.func76 (by kernel_rfl) (by kernel_rfl) (by kernel_rfl) (by decide) (by decide) f76_is
@[reducible] noncomputable def sg69 : SigD := ⟨[.data (.int .i64), .data tshape], [], [], ⟨[], [], []⟩⟩
@[reducible] noncomputable def sig69 : Sig := gsig sg69 F_tree_Check_1
set_option maxRecDepth 100000 in
theorem f69_is : ∀ (x : sg69.X) (vs : List Value), denS GT [] ⟨4, [], [], false, [], []⟩ ⟨0, [], 0⟩ (bodyOf Try.f69) sg69.out.Y (initSt (sg69.pre x) (sg69.heap x) 4 sg69.pin vs) (fun e s => finC GT [] [] sg69.pin [] [] e s sg69.out.dec) = F_tree_Check_1 x := fun x vs => by kernel_rfl
theorem f69_ok : SigOk Try.prog GT.gl 69 sig69 := gfn (Γ := GT) (nt := 4) (rs := []) GT_ok sigs_nil Try.func69 (by kernel_rfl) (by kernel_rfl) (by kernel_rfl) (by decide) (by decide) f69_is
@[reducible] noncomputable def sg68_chk : SigD := ⟨[.data (.sl 42 tNode), .same (.fn 69 [])], [], [], ⟨[.data (.int .i64), .data (.int .i64)], [], []⟩⟩
@[reducible] noncomputable def sig68_chk : Sig := gsig sg68_chk F_tree_each_chk
set_option maxRecDepth 100000 in
theorem f68_chk_is : ∀ (x : sg68_chk.X) (vs : List Value), denS GT [(60, sig60), (76, sig76), (69, sig69)] ⟨4, [], [], false, [], []⟩ ⟨48, [], 48⟩ (bodyOf Try.f68) sg68_chk.out.Y (initSt (sg68_chk.pre x) (sg68_chk.heap x) 108 sg68_chk.pin vs) (fun e s => finC GT [.tmp 4, .tmp 5] [] sg68_chk.pin [] [] e s sg68_chk.out.dec) = F_tree_each_chk x := fun x vs => by kernel_rfl
theorem f68_chk_ok : SigOk Try.prog GT.gl 68 sig68_chk := gfn (Γ := GT) (nt := 108) (rs := [.tmp 4, .tmp 5]) GT_ok (sigs_cons f60_ok (by kernel_rfl) (sigs_cons f76_ok (by kernel_rfl) (sigs_cons f69_ok (by kernel_rfl) sigs_nil))) Try.func68 (by kernel_rfl) (by kernel_rfl) (by kernel_rfl) (by decide) (by decide) f68_chk_is
@[reducible] noncomputable def sg58 : SigD := ⟨[.data (.sl 42 tNode)], [], [], ⟨[.data (.int .i64), .data (.int .i64)], [], []⟩⟩
@[reducible] noncomputable def sig58 : Sig := gsig sg58 F_tree_Check
set_option maxRecDepth 100000 in
theorem f58_is : ∀ (x : sg58.X) (vs : List Value), denS GT [(68, sig68_chk), (69, sig69)] ⟨4, [], [], false, [], []⟩ ⟨12, [], 12⟩ (bodyOf Try.f58) sg58.out.Y (initSt (sg58.pre x) (sg58.heap x) 11 sg58.pin vs) (fun e s => finC GT [.tmp 2, .tmp 3] [] sg58.pin [] [] e s sg58.out.dec) = F_tree_Check x := fun x vs => by kernel_rfl
theorem f58_ok : SigOk Try.prog GT.gl 58 sig58 := gfn (Γ := GT) (nt := 11) (rs := [.tmp 2, .tmp 3]) GT_ok (sigs_cons f68_chk_ok (by kernel_rfl) (sigs_cons f69_ok (by kernel_rfl) sigs_nil)) Try.func58 (by kernel_rfl) (by kernel_rfl) (by kernel_rfl) (by decide) (by decide) f58_is
@[reducible] noncomputable def sg45 : SigD := ⟨[.data tGrammar], [], [], ⟨[.data tSpot, .data (.int .i64)], [], []⟩⟩
@[reducible] noncomputable def sig45 : Sig := gsig sg45 F_rules_Check
set_option maxRecDepth 100000 in
theorem f45_is : ∀ (x : sg45.X) (vs : List Value), denS GT [(56, sig56), (57, sig57), (58, sig58)] ⟨4, [], [], true, [], []⟩ ⟨12, [], 12⟩ (bodyOf Try.f45) sg45.out.Y (initSt (sg45.pre x) (sg45.heap x) 119 sg45.pin vs) (fun e s => finC GT [.cell 2 28, .tmp 3] [] sg45.pin [] [] e s sg45.out.dec) = F_rules_Check x := fun x vs => by kernel_rfl
theorem f45_ok : SigOk Try.prog GT.gl 45 sig45 := gfn (Γ := GT) (nt := 119) (rs := [.cell 2 28, .tmp 3]) GT_ok (sigs_cons f56_ok (by kernel_rfl) (sigs_cons f57_ok (by kernel_rfl) (sigs_cons f58_ok (by kernel_rfl) sigs_nil))) Try.func45 (by kernel_rfl) (by kernel_rfl) (by kernel_rfl) (by decide) (by decide) f45_is
@[reducible] noncomputable def sg70 : SigD := ⟨[.data tGrammar], [], [], ⟨[.data (.map 9 3 .str (.int .i64))], [], []⟩⟩
@[reducible] noncomputable def sig70 : Sig := gsig sg70 F_gist_Numbers
set_option maxRecDepth 100000 in
theorem f70_is : ∀ (x : sg70.X) (vs : List Value), denS GT [] ⟨4, [], [], true, [], []⟩ ⟨4, [], 4⟩ (bodyOf Try.f70) sg70.out.Y (initSt (sg70.pre x) (sg70.heap x) 21 sg70.pin vs) (fun e s => finC GT [.tmp 2] [] sg70.pin [] [true] e s sg70.out.dec) = F_gist_Numbers x := fun x vs => by kernel_rfl
theorem f70_ok : SigOk Try.prog GT.gl 70 sig70 := gfn (Γ := GT) (nt := 21) (rs := [.tmp 2]) GT_ok sigs_nil Try.func70 (by kernel_rfl) (by kernel_rfl) (by kernel_rfl) (by decide) (by decide) f70_is
@[reducible] noncomputable def sg71 : SigD := ⟨[.data tGrammar, .data (.map 9 3 .str (.int .i64))], [], [], ⟨[.full 4 .bool], [(4, .row 4 .bool false)], []⟩⟩
@[reducible] noncomputable def sig71 : Sig := gsig sg71 F_gist_again
set_option maxRecDepth 100000 in
theorem f71_is : ∀ (x : sg71.X) (vs : List Value), denS (GTd [] [18] []) [] ⟨4, [], [15365, 19461], true, [], []⟩ ⟨16, [], 16⟩ (bodyOf Try.f71) sg71.out.Y (initSt (sg71.pre x) (sg71.heap x) 117 sg71.pin vs) (fun e s => finC (GTd [] [18] []) [.tmp 4] [] sg71.pin [] [] e s sg71.out.dec) = F_gist_again x := fun x vs => by kernel_rfl
theorem f71_ok : SigOk Try.prog GT.gl 71 sig71 := gfn (Γ := (GTd [] [18] [])) (nt := 117) (rs := [.tmp 4]) (GTd_ok _ _ _) sigs_nil Try.func71 (by kernel_rfl) (by kernel_rfl) (by kernel_rfl) (by decide) (by decide) f71_is
@[reducible] noncomputable def sg84 : SigD := ⟨[.data (.int .i64)], [], [], ⟨[.data (.int .i64)], [], []⟩⟩
@[reducible] noncomputable def sig84 : Sig := gsig sg84 F_gist_capped
set_option maxRecDepth 100000 in
theorem f84_is : ∀ (x : sg84.X) (vs : List Value), denS GT [] ⟨4, [], [], true, [], []⟩ ⟨4, [], 4⟩ (bodyOf Try.f84) sg84.out.Y (initSt (sg84.pre x) (sg84.heap x) 5 sg84.pin vs) (fun e s => finC GT [.tmp 2] [] sg84.pin [] [] e s sg84.out.dec) = F_gist_capped x := fun x vs => by kernel_rfl
theorem f84_ok : SigOk Try.prog GT.gl 84 sig84 := gfn (Γ := GT) (nt := 5) (rs := [.tmp 2]) GT_ok sigs_nil Try.func84 (by kernel_rfl) (by kernel_rfl) (by kernel_rfl) (by decide) (by decide) f84_is
@[reducible] noncomputable def sg83_capped : SigD := ⟨[.data (.int .i64), .data (.int .i64), .same (.fn 84 [])], [], [], ⟨[.data (.int .i64)], [], []⟩⟩
@[reducible] noncomputable def sig83_capped : Sig := gsig sg83_capped F_gist_sum_capped
set_option maxRecDepth 100000 in
theorem f83_capped_is : ∀ (x : sg83_capped.X) (vs : List Value), denS GT [(84, sig84)] ⟨4, [], [], true, [], []⟩ ⟨64, [], 64⟩ (bodyOf Try.f83) sg83_capped.out.Y (initSt (sg83_capped.pre x) (sg83_capped.heap x) 18 sg83_capped.pin vs) (fun e s => finC GT [.tmp 6] [] sg83_capped.pin [] [] e s sg83_capped.out.dec) = F_gist_sum_capped x := fun x vs => by kernel_rfl
theorem f83_capped_ok : SigOk Try.prog GT.gl 83 sig83_capped := gfn (Γ := GT) (nt := 18) (rs := [.tmp 6]) GT_ok (sigs_cons f84_ok (by kernel_rfl) sigs_nil) Try.func83 (by kernel_rfl) (by kernel_rfl) (by kernel_rfl) (by decide) (by decide) f83_capped_is
@[reducible] noncomputable def sg85 : SigD := ⟨[.data (.int .i64)], [], [], ⟨[.data (.int .i64)], [], []⟩⟩
@[reducible] noncomputable def sig85 : Sig := gsig sg85 F_gist_bounded
set_option maxRecDepth 100000 in
theorem f85_is : ∀ (x : sg85.X) (vs : List Value), denS GT [] ⟨4, [], [], true, [], []⟩ ⟨4, [], 4⟩ (bodyOf Try.f85) sg85.out.Y (initSt (sg85.pre x) (sg85.heap x) 6 sg85.pin vs) (fun e s => finC GT [.tmp 2] [] sg85.pin [] [] e s sg85.out.dec) = F_gist_bounded x := fun x vs => by kernel_rfl
theorem f85_ok : SigOk Try.prog GT.gl 85 sig85 := gfn (Γ := GT) (nt := 6) (rs := [.tmp 2]) GT_ok sigs_nil Try.func85 (by kernel_rfl) (by kernel_rfl) (by kernel_rfl) (by decide) (by decide) f85_is
@[reducible] noncomputable def sg83_bounded : SigD := ⟨[.data (.int .i64), .data (.int .i64), .same (.fn 85 [])], [], [], ⟨[.data (.int .i64)], [], []⟩⟩
@[reducible] noncomputable def sig83_bounded : Sig := gsig sg83_bounded F_gist_sum_bounded
set_option maxRecDepth 100000 in
theorem f83_bounded_is : ∀ (x : sg83_bounded.X) (vs : List Value), denS GT [(85, sig85)] ⟨4, [], [], true, [], []⟩ ⟨64, [], 64⟩ (bodyOf Try.f83) sg83_bounded.out.Y (initSt (sg83_bounded.pre x) (sg83_bounded.heap x) 18 sg83_bounded.pin vs) (fun e s => finC GT [.tmp 6] [] sg83_bounded.pin [] [] e s sg83_bounded.out.dec) = F_gist_sum_bounded x := fun x vs => by kernel_rfl
theorem f83_bounded_ok : SigOk Try.prog GT.gl 83 sig83_bounded := gfn (Γ := GT) (nt := 18) (rs := [.tmp 6]) GT_ok (sigs_cons f85_ok (by kernel_rfl) sigs_nil) Try.func83 (by kernel_rfl) (by kernel_rfl) (by kernel_rfl) (by decide) (by decide) f83_bounded_is
@[reducible] noncomputable def sg77 : SigD := ⟨[.data tEmptiness, .data tEmptiness], [], [], ⟨[.data tEmptiness], [], []⟩⟩
@[reducible] noncomputable def sig77 : Sig := gsig sg77 F_gist_row
set_option maxRecDepth 100000 in
theorem f77_is : ∀ (x : sg77.X) (vs : List Value), denS GT [(83, (sigOr (hasFn 84) sig83_capped sig83_bounded)), (84, sig84), (85, sig85)] ⟨4, [], [], true, [], []⟩ ⟨16, [], 16⟩ (bodyOf Try.f77) sg77.out.Y (initSt (sg77.pre x) (sg77.heap x) 28 sg77.pin vs) (fun e s => finC GT [.cell 4 103] [] sg77.pin [] [] e s sg77.out.dec) = F_gist_row x := fun x vs => by kernel_rfl
theorem f77_ok : SigOk Try.prog GT.gl 77 sig77 := gfn (Γ := GT) (nt := 28) (rs := [.cell 4 103]) GT_ok (sigs_cons (sigOr_ok f83_capped_ok f83_bounded_ok) (by kernel_rfl) (sigs_cons f84_ok (by kernel_rfl) (sigs_cons f85_ok (by kernel_rfl) sigs_nil))) Try.func77 (by kernel_rfl) (by kernel_rfl) (by kernel_rfl) (by decide) (by decide) f77_is
@[reducible] noncomputable def sg78 : SigD := ⟨[.data tEmptiness, .data tEmptiness], [], [], ⟨[.data tEmptiness], [], []⟩⟩
@[reducible] noncomputable def sig78 : Sig := gsig sg78 F_gist_either
set_option maxRecDepth 100000 in
theorem f78_is : ∀ (x : sg78.X) (vs : List Value), denS GT [] ⟨4, [], [], true, [], []⟩ ⟨16, [], 16⟩ (bodyOf Try.f78) sg78.out.Y (initSt (sg78.pre x) (sg78.heap x) 54 sg78.pin vs) (fun e s => finC GT [.cell 4 103] [] sg78.pin [] [] e s sg78.out.dec) = F_gist_either x := fun x vs => by kernel_rfl
theorem f78_ok : SigOk Try.prog GT.gl 78 sig78 := gfn (Γ := GT) (nt := 54) (rs := [.cell 4 103]) GT_ok sigs_nil Try.func78 (by kernel_rfl) (by kernel_rfl) (by kernel_rfl) (by decide) (by decide) f78_is
@[reducible] noncomputable def sg86 : SigD := ⟨[.data (.int .i64)], [], [], ⟨[.data tEmptiness], [], []⟩⟩
@[reducible] noncomputable def sig86 : Sig := gsig sg86 F_gist_atom
set_option maxRecDepth 100000 in
theorem f86_is : ∀ (x : sg86.X) (vs : List Value), denS GT [] ⟨4, [], [], true, [], []⟩ ⟨4, [], 4⟩ (bodyOf Try.f86) sg86.out.Y (initSt (sg86.pre x) (sg86.heap x) 6 sg86.pin vs) (fun e s => finC GT [.cell 2 103] [] sg86.pin [] [] e s sg86.out.dec) = F_gist_atom x := fun x vs => by kernel_rfl
theorem f86_ok : SigOk Try.prog GT.gl 86 sig86 := gfn (Γ := GT) (nt := 6) (rs := [.cell 2 103]) GT_ok sigs_nil Try.func86 (by kernel_rfl) (by kernel_rfl) (by kernel_rfl) (by decide) (by decide) f86_is
@[reducible] noncomputable def sg87 : SigD := ⟨[.data tEmptiness], [], [], ⟨[.data (.int .i64)], [], []⟩⟩
@[reducible] noncomputable def sig87 : Sig := gsig sg87 F_gist_loop
set_option maxRecDepth 100000 in
theorem f87_is : ∀ (x : sg87.X) (vs : List Value), denS GT [] ⟨4, [], [], true, [], []⟩ ⟨4, [], 4⟩ (bodyOf Try.f87) sg87.out.Y (initSt (sg87.pre x) (sg87.heap x) 6 sg87.pin vs) (fun e s => finC GT [.tmp 2] [] sg87.pin [] [] e s sg87.out.dec) = F_gist_loop x := fun x vs => by kernel_rfl
theorem f87_ok : SigOk Try.prog GT.gl 87 sig87 := gfn (Γ := GT) (nt := 6) (rs := [.tmp 2]) GT_ok sigs_nil Try.func87 (by kernel_rfl) (by kernel_rfl) (by kernel_rfl) (by decide) (by decide) f87_is
@[reducible] noncomputable def sg90_capped : SigD := ⟨[.data (.int .i64), .data (.int .i64), .same (.fn 84 [])], [], [], ⟨[.data (.int .i64)], [], []⟩⟩
@[reducible] noncomputable def sig90_capped : Sig := gsig sg90_capped F_gist_times_capped
set_option maxRecDepth 100000 in
theorem f90_capped_is : ∀ (x : sg90_capped.X) (vs : List Value), denS GT [(84, sig84)] ⟨4, [], [], true, [], []⟩ ⟨64, [], 64⟩ (bodyOf Try.f90) sg90_capped.out.Y (initSt (sg90_capped.pre x) (sg90_capped.heap x) 14 sg90_capped.pin vs) (fun e s => finC GT [.tmp 6] [] sg90_capped.pin [] [] e s sg90_capped.out.dec) = F_gist_times_capped x := fun x vs => by kernel_rfl
theorem f90_capped_ok : SigOk Try.prog GT.gl 90 sig90_capped := gfn (Γ := GT) (nt := 14) (rs := [.tmp 6]) GT_ok (sigs_cons f84_ok (by kernel_rfl) sigs_nil) Try.func90 (by kernel_rfl) (by kernel_rfl) (by kernel_rfl) (by decide) (by decide) f90_capped_is
@[reducible] noncomputable def sg90_bounded : SigD := ⟨[.data (.int .i64), .data (.int .i64), .same (.fn 85 [])], [], [], ⟨[.data (.int .i64)], [], []⟩⟩
@[reducible] noncomputable def sig90_bounded : Sig := gsig sg90_bounded F_gist_times_bounded
set_option maxRecDepth 100000 in
theorem f90_bounded_is : ∀ (x : sg90_bounded.X) (vs : List Value), denS GT [(85, sig85)] ⟨4, [], [], true, [], []⟩ ⟨64, [], 64⟩ (bodyOf Try.f90) sg90_bounded.out.Y (initSt (sg90_bounded.pre x) (sg90_bounded.heap x) 14 sg90_bounded.pin vs) (fun e s => finC GT [.tmp 6] [] sg90_bounded.pin [] [] e s sg90_bounded.out.dec) = F_gist_times_bounded x := fun x vs => by kernel_rfl
theorem f90_bounded_ok : SigOk Try.prog GT.gl 90 sig90_bounded := gfn (Γ := GT) (nt := 14) (rs := [.tmp 6]) GT_ok (sigs_cons f85_ok (by kernel_rfl) sigs_nil) Try.func90 (by kernel_rfl) (by kernel_rfl) (by kernel_rfl) (by decide) (by decide) f90_bounded_is
@[reducible] noncomputable def sg88 : SigD := ⟨[.data tNode, .data tEmptiness], [], [], ⟨[.data tEmptiness], [], []⟩⟩
@[reducible] noncomputable def sig88 : Sig := gsig sg88 F_gist_counted
set_option maxRecDepth 100000 in
theorem f88_is : ∀ (x : sg88.X) (vs : List Value), denS GT [(84, sig84), (85, sig85), (87, sig87), (90, (sigOr (hasFn 84) sig90_capped sig90_bounded))] ⟨4, [], [], true, [], []⟩ ⟨16, [], 16⟩ (bodyOf Try.f88) sg88.out.Y (initSt (sg88.pre x) (sg88.heap x) 59 sg88.pin vs) (fun e s => finC GT [.cell 4 103] [] sg88.pin [] [] e s sg88.out.dec) = F_gist_counted x := fun x vs => by kernel_rfl
theorem f88_ok : SigOk Try.prog GT.gl 88 sig88 := gfn (Γ := GT) (nt := 59) (rs := [.cell 4 103]) GT_ok (sigs_cons f84_ok (by kernel_rfl) (sigs_cons f85_ok (by kernel_rfl) (sigs_cons f87_ok (by kernel_rfl) (sigs_cons (sigOr_ok f90_capped_ok f90_bounded_ok) (by kernel_rfl) sigs_nil)))) Try.func88 (by kernel_rfl) (by kernel_rfl) (by kernel_rfl) (by decide) (by decide) f88_is
@[reducible] noncomputable def sg79 : SigD := ⟨[.data tNode, .data tEmptiness], [], [], ⟨[.data tEmptiness], [], []⟩⟩
@[reducible] noncomputable def sig79 : Sig := gsig sg79 F_gist_one
set_option maxRecDepth 100000 in
theorem f79_is : ∀ (x : sg79.X) (vs : List Value), denS GT [(86, sig86), (87, sig87), (88, sig88)] ⟨4, [], [], true, [], []⟩ ⟨16, [], 16⟩ (bodyOf Try.f79) sg79.out.Y (initSt (sg79.pre x) (sg79.heap x) 56 sg79.pin vs) (fun e s => finC GT [.cell 4 103] [] sg79.pin [] [] e s sg79.out.dec) = F_gist_one x := fun x vs => by kernel_rfl
theorem f79_ok : SigOk Try.prog GT.gl 79 sig79 := gfn (Γ := GT) (nt := 56) (rs := [.cell 4 103]) GT_ok (sigs_cons f86_ok (by kernel_rfl) (sigs_cons f87_ok (by kernel_rfl) (sigs_cons f88_ok (by kernel_rfl) sigs_nil))) Try.func79 (by kernel_rfl) (by kernel_rfl) (by kernel_rfl) (by decide) (by decide) f79_is
@[reducible] noncomputable def sg72 : SigD := ⟨[.data .str, .same (.cptr 1000), .same (.cptr 1001)], [(1000, .csame 64 (.full 1500 tEmptiness)), (1500, .row 103 tEmptiness false), (1001, .cdata 88 (.map 9 3 .str (.int .i64)))], [1, 2], ⟨[.data tEmptiness], [(1000, .csame 64 (.full 1500 tEmptiness)), (1500, .row 103 tEmptiness false), (1001, .cdata 88 (.map 9 3 .str (.int .i64)))], [(1, .cptr 1000), (2, .cptr 1001)]⟩⟩
@[reducible] noncomputable def sig72 : Sig := gsig sg72 F_gist_Emptiness_1
set_option maxRecDepth 100000 in
theorem f72_is : ∀ (x : sg72.X) (vs : List Value), denS GT [] ⟨4, [], [], true, [], []⟩ ⟨22, [], 22⟩ (bodyOf Try.f72) sg72.out.Y (initSt (sg72.pre x) (sg72.heap x) 11 sg72.pin vs) (fun e s => finC GT [.cell 4 103] [1000, 1500, 1001] sg72.pin [] [] e s sg72.out.dec) = F_gist_Emptiness_1 x := fun x vs => by kernel_rfl
theorem f72_ok : SigOk Try.prog GT.gl 72 sig72 := gfn (Γ := GT) (nt := 11) (rs := [.cell 4 103]) GT_ok sigs_nil Try.func72 (by kernel_rfl) (by kernel_rfl) (by kernel_rfl) (by decide) (by decide) f72_is
@[reducible] noncomputable def sg73_em : SigD := ⟨[.data (.sl 42 tNode), .same (.fn 72 [.cptr 1000, .cptr 1001])], [(1000, .csame 64 (.full 1500 tEmptiness)), (1500, .row 103 tEmptiness false), (1001, .cdata 88 (.map 9 3 .str (.int .i64)))], [1], ⟨[.full 4 tEmptiness], [(4, .row 103 tEmptiness false), (1000, .csame 64 (.full 1500 tEmptiness)), (1500, .row 103 tEmptiness false), (1001, .cdata 88 (.map 9 3 .str (.int .i64)))], [(1, .fn 72 [.cptr 1000, .cptr 1001])]⟩⟩
@[reducible] noncomputable def sig73_em : Sig := gsig sg73_em F_gist_Lengths_em
set_option maxRecDepth 100000 in
theorem f73_em_is : ∀ (x : sg73_em.X) (vs : List Value), denS GT [(60, sig60), (77, sig77), (78, sig78), (79, sig79), (72, sig72)] ⟨4, [], [], true, [], []⟩ ⟨18, [], 18⟩ (bodyOf Try.f73) sg73_em.out.Y (initSt (sg73_em.pre x) (sg73_em.heap x) 81 sg73_em.pin vs) (fun e s => finC GT [.tmp 4] [1000, 1500, 1001] sg73_em.pin [] [] e s sg73_em.out.dec) = F_gist_Lengths_em x := fun x vs => by kernel_rfl
theorem f73_em_ok : SigOk Try.prog GT.gl 73 sig73_em := gfn (Γ := GT) (nt := 81) (rs := [.tmp 4]) GT_ok (sigs_cons f60_ok (by kernel_rfl) (sigs_cons f77_ok (by kernel_rfl) (sigs_cons f78_ok (by kernel_rfl) (sigs_cons f79_ok (by kernel_rfl) (sigs_cons f72_ok (by kernel_rfl) sigs_nil))))) Try.func73 (by kernel_rfl) (by kernel_rfl) (by kernel_rfl) (by decide) (by decide) f73_em_is
@[reducible] noncomputable def sg59 : SigD := ⟨[.data tGrammar], [], [], ⟨[.same (.fn 72 [.cptr 5, .cptr 3])], [(5, .csame 64 (.full 505 tEmptiness)), (505, .row 103 tEmptiness false), (3, .cdata 88 (.map 9 3 .str (.int .i64)))], []⟩⟩
@[reducible] noncomputable def sig59 : Sig := gsig sg59 F_gist_Emptiness
set_option maxRecDepth 100000 in
theorem f59_is : ∀ (x : sg59.X) (vs : List Value), denS (GTd [] [] [48]) [(70, sig70), (71, sig71), (73, sig73_em)] ⟨4, [], [], true, [], [18443]⟩ ⟨4, [], 4⟩ (bodyOf Try.f59) sg59.out.Y (initSt (sg59.pre x) (sg59.heap x) 73 sg59.pin vs) (fun e s => finC (GTd [] [] [48]) [.tmp 2] [] sg59.pin [] [] e s sg59.out.dec) = F_gist_Emptiness x := fun x vs => by kernel_rfl
theorem f59_ok : SigOk Try.prog GT.gl 59 sig59 := gfn (Γ := (GTd [] [] [48])) (nt := 73) (rs := [.tmp 2]) (GTd_ok _ _ _) (sigs_cons f70_ok (by kernel_rfl) (sigs_cons f71_ok (by kernel_rfl) (sigs_cons f73_em_ok (by kernel_rfl) sigs_nil))) Try.func59 (by kernel_rfl) (by kernel_rfl) (by kernel_rfl) (by decide) (by decide) f59_is
@[reducible] noncomputable def sg46 : SigD := ⟨[.data tGrammar], [], [], ⟨[.full 2 tEmptiness, .data (.int .i64)], [(2, .row 103 tEmptiness false)], []⟩⟩
@[reducible] noncomputable def sig46 : Sig := gsig sg46 F_empty_Rules
set_option maxRecDepth 100000 in
theorem f46_is : ∀ (x : sg46.X) (vs : List Value), denS GT [(45, sig45), (59, sig59), (72, sig72)] ⟨4, [], [], true, [], []⟩ ⟨12, [], 12⟩ (bodyOf Try.f46) sg46.out.Y (initSt (sg46.pre x) (sg46.heap x) 36 sg46.pin vs) (fun e s => finC GT [.tmp 2, .tmp 3] [] sg46.pin [] [] e s sg46.out.dec) = F_empty_Rules x := fun x vs => by kernel_rfl
theorem f46_ok : SigOk Try.prog GT.gl 46 sig46 := gfn (Γ := GT) (nt := 36) (rs := [.tmp 2, .tmp 3]) GT_ok (sigs_cons f45_ok (by kernel_rfl) (sigs_cons f59_ok (by kernel_rfl) (sigs_cons f72_ok (by kernel_rfl) sigs_nil))) Try.func46 (by kernel_rfl) (by kernel_rfl) (by kernel_rfl) (by decide) (by decide) f46_is
@[reducible] noncomputable def sg61 : SigD := ⟨[.same (.optr 1000 tlooked none []), .data tNode, .data (.map 9 3 .str (.int .i64))], [(1000, .rcd 67 tlooked [.same (.full 200000 tEmptiness), .same (.full 200001 (.arr 200 .bool)), .same (.full 200002 tSpot)]), (200000, .row 103 tEmptiness false), (200001, .row 82 (.arr 200 .bool) false), (200002, .row 28 tSpot false)], [0], ⟨[.data tpiece], [(1000, .rcd 67 tlooked [.same (.full 200000 tEmptiness), .same (.full 200001 (.arr 200 .bool)), .same (.full 200002 tSpot)]), (200000, .row 103 tEmptiness false), (200001, .row 82 (.arr 200 .bool) false), (200002, .row 28 tSpot false)], [(0, .optr 1000 tlooked none [])]⟩⟩
@[reducible] noncomputable def sig61 : Sig := gsig sg61 F_ford_looked_leaf
set_option maxRecDepth 100000 in
theorem f61_is : ∀ (x : sg61.X) (vs : List Value), denS GT [] ⟨4, [], [], true, [], []⟩ ⟨65, [], 65⟩ (bodyOf Try.f61) sg61.out.Y (initSt (sg61.pre x) (sg61.heap x) 34 sg61.pin vs) (fun e s => finC GT [.cell 6 108] [1000, 200000, 200001, 200002] sg61.pin [] [] e s sg61.out.dec) = F_ford_looked_leaf x := fun x vs => by kernel_rfl
theorem f61_ok : SigOk Try.prog GT.gl 61 sig61 := gfn (Γ := GT) (nt := 34) (rs := [.cell 6 108]) GT_ok sigs_nil Try.func61 (by kernel_rfl) (by kernel_rfl) (by kernel_rfl) (by decide) (by decide) f61_is
@[reducible] noncomputable def sg62 : SigD := ⟨[.data (.int .i64)], [], [], ⟨[.data .bool], [], []⟩⟩
@[reducible] noncomputable def sig62 : Sig := gsig sg62 F_ford_repeats
set_option maxRecDepth 100000 in
theorem f62_is : ∀ (x : sg62.X) (vs : List Value), denS GT [] ⟨4, [], [], true, [], []⟩ ⟨4, [], 4⟩ (bodyOf Try.f62) sg62.out.Y (initSt (sg62.pre x) (sg62.heap x) 13 sg62.pin vs) (fun e s => finC GT [.tmp 2] [] sg62.pin [] [] e s sg62.out.dec) = F_ford_repeats x := fun x vs => by kernel_rfl
theorem f62_ok : SigOk Try.prog GT.gl 62 sig62 := gfn (Γ := GT) (nt := 13) (rs := [.tmp 2]) GT_ok sigs_nil Try.func62 (by kernel_rfl) (by kernel_rfl) (by kernel_rfl) (by decide) (by decide) f62_is
@[reducible] noncomputable def sg63 : SigD := ⟨[.data tNode, .data tpiece], [], [], ⟨[.data tpiece], [], []⟩⟩
@[reducible] noncomputable def sig63 : Sig := gsig sg63 F_ford_one
set_option maxRecDepth 100000 in
theorem f63_is : ∀ (x : sg63.X) (vs : List Value), denS GT [] ⟨4, [], [], true, [], []⟩ ⟨16, [], 16⟩ (bodyOf Try.f63) sg63.out.Y (initSt (sg63.pre x) (sg63.heap x) 39 sg63.pin vs) (fun e s => finC GT [.cell 4 108] [] sg63.pin [] [] e s sg63.out.dec) = F_ford_one x := fun x vs => by kernel_rfl
theorem f63_ok : SigOk Try.prog GT.gl 63 sig63 := gfn (Γ := GT) (nt := 39) (rs := [.cell 4 108]) GT_ok sigs_nil Try.func63 (by kernel_rfl) (by kernel_rfl) (by kernel_rfl) (by decide) (by decide) f63_is
@[reducible] noncomputable def sg74 : SigD := ⟨[.data (.arr 200 .bool), .data (.arr 200 .bool)], [], [], ⟨[.data (.arr 200 .bool)], [], []⟩⟩
@[reducible] noncomputable def sig74 : Sig := gsig sg74 F_ford_marks_join
set_option maxRecDepth 100000 in
theorem f74_is : ∀ (x : sg74.X) (vs : List Value), denS GT [] ⟨4, [], [], true, [], []⟩ ⟨16, [], 16⟩ (bodyOf Try.f74) sg74.out.Y (initSt (sg74.pre x) (sg74.heap x) 22 sg74.pin vs) (fun e s => finC GT [.cell 4 82] [] sg74.pin [] [] e s sg74.out.dec) = F_ford_marks_join x := fun x vs => by kernel_rfl
theorem f74_ok : SigOk Try.prog GT.gl 74 sig74 := gfn (Γ := GT) (nt := 22) (rs := [.cell 4 82]) GT_ok sigs_nil Try.func74 (by kernel_rfl) (by kernel_rfl) (by kernel_rfl) (by decide) (by decide) f74_is
@[reducible] noncomputable def sg64 : SigD := ⟨[.data tNode, .data tpiece, .data tpiece], [], [], ⟨[.data tpiece], [], []⟩⟩
@[reducible] noncomputable def sig64 : Sig := gsig sg64 F_ford_two
set_option maxRecDepth 100000 in
theorem f64_is : ∀ (x : sg64.X) (vs : List Value), denS GT [(74, sig74)] ⟨4, [], [], true, [], []⟩ ⟨64, [], 64⟩ (bodyOf Try.f64) sg64.out.Y (initSt (sg64.pre x) (sg64.heap x) 41 sg64.pin vs) (fun e s => finC GT [.cell 6 108] [] sg64.pin [] [] e s sg64.out.dec) = F_ford_two x := fun x vs => by kernel_rfl
theorem f64_ok : SigOk Try.prog GT.gl 64 sig64 := gfn (Γ := GT) (nt := 41) (rs := [.cell 6 108]) GT_ok (sigs_cons f74_ok (by kernel_rfl) sigs_nil) Try.func64 (by kernel_rfl) (by kernel_rfl) (by kernel_rfl) (by decide) (by decide) f64_is
@[reducible] noncomputable def sg47 : SigD := ⟨[.same (.optr 1000 tlooked none []), .data (.sl 42 tNode), .data (.int .i64), .data (.map 9 3 .str (.int .i64))], [(1000, .rcd 67 tlooked [.same (.full 200000 tEmptiness), .same (.full 200001 (.arr 200 .bool)), .same (.full 200002 tSpot)]), (200000, .row 103 tEmptiness false), (200001, .row 82 (.arr 200 .bool) false), (200002, .row 28 tSpot false)], [0], ⟨[], [(1000, .rcd 67 tlooked [.same (.full 200000 tEmptiness), .same (.full 200001 (.arr 200 .bool)), .same (.full 200002 tSpot)]), (200000, .row 103 tEmptiness false), (200001, .row 82 (.arr 200 .bool) false), (200002, .row 28 tSpot false)], [(0, .optr 1000 tlooked none [])]⟩⟩
@[reducible] noncomputable def sig47 : Sig := gsig sg47 F_ford_looked_rule
set_option maxRecDepth 100000 in
theorem f47_is : ∀ (x : sg47.X) (vs : List Value), denS GT [(60, sig60), (61, sig61), (62, sig62), (63, sig63), (64, sig64)] ⟨4, [], [], true, [], []⟩ ⟨1, [], 1⟩ (bodyOf Try.f47) sg47.out.Y (initSt (sg47.pre x) (sg47.heap x) 97 sg47.pin vs) (fun e s => finC GT [] [1000, 200000, 200001, 200002] sg47.pin [] [] e s sg47.out.dec) = F_ford_looked_rule x := fun x vs => by kernel_rfl
theorem f47_ok : SigOk Try.prog GT.gl 47 sig47 := gfn (Γ := GT) (nt := 97) (rs := []) GT_ok (sigs_cons f60_ok (by kernel_rfl) (sigs_cons f61_ok (by kernel_rfl) (sigs_cons f62_ok (by kernel_rfl) (sigs_cons f63_ok (by kernel_rfl) (sigs_cons f64_ok (by kernel_rfl) sigs_nil))))) Try.func47 (by kernel_rfl) (by kernel_rfl) (by kernel_rfl) (by decide) (by decide) f47_is
@[reducible] noncomputable def sg30 : SigD := ⟨[.data tGrammar], [], [], ⟨[.data tlooked, .data tSpot, .data (.int .i64)], [], []⟩⟩
@[reducible] noncomputable def sig30 : Sig := gsig sg30 F_ford_look
set_option maxRecDepth 100000 in
theorem f30_is : ∀ (x : sg30.X) (vs : List Value), denS (GTd [] [] [100002, 100003]) [(45, sig45), (46, sig46), (47, sig47)] ⟨4, [], [16409], true, [], [4101]⟩ ⟨28, [], 28⟩ (bodyOf Try.f30) sg30.out.Y (initSt (sg30.pre x) (sg30.heap x) 67 sg30.pin vs) (fun e s => finC (GTd [] [] [100002, 100003]) [.cell 2 67, .cell 3 28, .tmp 4] [] sg30.pin [] [true, false, false] e s sg30.out.dec) = F_ford_look x := fun x vs => by kernel_rfl
theorem f30_ok : SigOk Try.prog GT.gl 30 sig30 := gfn (Γ := (GTd [] [] [100002, 100003])) (nt := 67) (rs := [.cell 2 67, .cell 3 28, .tmp 4]) (GTd_ok _ _ _) (sigs_cons f45_ok (by kernel_rfl) (sigs_cons f46_ok (by kernel_rfl) (sigs_cons f47_ok (by kernel_rfl) sigs_nil))) Try.func30 (by kernel_rfl) (by kernel_rfl) (by kernel_rfl) (by decide) (by decide) f30_is
@[reducible] noncomputable def sg48 : SigD := ⟨[.data tlooked, .data (.int .i64)], [], [], ⟨[.full 4 (.int .i64)], [(4, .row 3 (.int .i64) false)], []⟩⟩
@[reducible] noncomputable def sig48 : Sig := gsig sg48 F_ford_looked_distances
set_option maxRecDepth 100000 in
theorem f48_is : ∀ (x : sg48.X) (vs : List Value), denS GT [] ⟨4, [], [], true, [], []⟩ ⟨16, [], 16⟩ (bodyOf Try.f48) sg48.out.Y (initSt (sg48.pre x) (sg48.heap x) 73 sg48.pin vs) (fun e s => finC GT [.tmp 4] [] sg48.pin [] [] e s sg48.out.dec) = F_ford_looked_distances x := fun x vs => by kernel_rfl
theorem f48_ok : SigOk Try.prog GT.gl 48 sig48 := gfn (Γ := GT) (nt := 73) (rs := [.tmp 4]) GT_ok sigs_nil Try.func48 (by kernel_rfl) (by kernel_rfl) (by kernel_rfl) (by decide) (by decide) f48_is
@[reducible] noncomputable def sg31 : SigD := ⟨[.data tlooked], [], [], ⟨[.full 2 (.int .i64)], [(2, .row 3 (.int .i64) false)], []⟩⟩
@[reducible] noncomputable def sig31 : Sig := gsig sg31 F_ford_looked_cycle
set_option maxRecDepth 100000 in
theorem f31_is : ∀ (x : sg31.X) (vs : List Value), denS GT [(48, sig48)] ⟨4, [], [], true, [], []⟩ ⟨4, [], 4⟩ (bodyOf Try.f31) sg31.out.Y (initSt (sg31.pre x) (sg31.heap x) 64 sg31.pin vs) (fun e s => finC GT [.tmp 2] [] sg31.pin [] [] e s sg31.out.dec) = F_ford_looked_cycle x := fun x vs => by kernel_rfl
theorem f31_ok : SigOk Try.prog GT.gl 31 sig31 := gfn (Γ := GT) (nt := 64) (rs := [.tmp 2]) GT_ok (sigs_cons f48_ok (by kernel_rfl) sigs_nil) Try.func31 (by kernel_rfl) (by kernel_rfl) (by kernel_rfl) (by decide) (by decide) f31_is
@[reducible] noncomputable def sg12 : SigD := ⟨[.data tGrammar], [], [], ⟨[.agg tVerdict [.same (.full 100200 (.int .i64)), .data (.int .i64), .data (.int .i64)], .data (.int .i64)], [(100200, .row 3 (.int .i64) false)], []⟩⟩
@[reducible] noncomputable def sig12 : Sig := gsig sg12 F_ford_Check
set_option maxRecDepth 100000 in
theorem f12_is : ∀ (x : sg12.X) (vs : List Value), denS GT [(30, sig30), (31, sig31)] ⟨4, [], [], true, [], []⟩ ⟨12, [], 12⟩ (bodyOf Try.f12) sg12.out.Y (initSt (sg12.pre x) (sg12.heap x) 36 sg12.pin vs) (fun e s => finC GT [.cell 2 30, .tmp 3] [] sg12.pin [] [false, false] e s sg12.out.dec) = F_ford_Check x := fun x vs => by kernel_rfl
theorem f12_ok : SigOk Try.prog GT.gl 12 sig12 := gfn (Γ := GT) (nt := 36) (rs := [.cell 2 30, .tmp 3]) GT_ok (sigs_cons f30_ok (by kernel_rfl) (sigs_cons f31_ok (by kernel_rfl) sigs_nil)) Try.func12 (by kernel_rfl) (by kernel_rfl) (by kernel_rfl) (by decide) (by decide) f12_is
@[reducible] noncomputable def sg37 : SigD := ⟨[.data .str], [], [], ⟨[.data .bool], [], []⟩⟩
@[reducible] noncomputable def sig37 : Sig := gsig sg37 F_ref04_Name
set_option maxRecDepth 100000 in
theorem f37_is : ∀ (x : sg37.X) (vs : List Value), denS GT [] ⟨4, [], [], false, [], []⟩ ⟨4, [], 4⟩ (bodyOf Try.f37) sg37.out.Y (initSt (sg37.pre x) (sg37.heap x) 59 sg37.pin vs) (fun e s => finC GT [.tmp 2] [] sg37.pin [] [] e s sg37.out.dec) = F_ref04_Name x := fun x vs => by kernel_rfl
theorem f37_ok : SigOk Try.prog GT.gl 37 sig37 := gfn (Γ := GT) (nt := 59) (rs := [.tmp 2]) GT_ok sigs_nil Try.func37 (by kernel_rfl) (by kernel_rfl) (by kernel_rfl) (by decide) (by decide) f37_is
@[reducible] noncomputable def sg38 : SigD := ⟨[.data tGrammar, .data .str], [], [], ⟨[.data (.int .i64)], [], []⟩⟩
@[reducible] noncomputable def sig38 : Sig := gsig sg38 F_ref08_find
set_option maxRecDepth 100000 in
theorem f38_is : ∀ (x : sg38.X) (vs : List Value), denS GT [] ⟨4, [], [], true, [], []⟩ ⟨16, [], 16⟩ (bodyOf Try.f38) sg38.out.Y (initSt (sg38.pre x) (sg38.heap x) 22 sg38.pin vs) (fun e s => finC GT [.tmp 4] [] sg38.pin [] [] e s sg38.out.dec) = F_ref08_find x := fun x vs => by kernel_rfl
theorem f38_ok : SigOk Try.prog GT.gl 38 sig38 := gfn (Γ := GT) (nt := 22) (rs := [.tmp 4]) GT_ok sigs_nil Try.func38 (by kernel_rfl) (by kernel_rfl) (by kernel_rfl) (by decide) (by decide) f38_is
@[reducible] noncomputable def sg65 : SigD := ⟨[.data (.int .i64)], [], [], ⟨[.data (.int .i64)], [], []⟩⟩
@[reducible] noncomputable def sig65 : Sig := gsig sg65 F_ref04_Arity
set_option maxRecDepth 100000 in
theorem f65_is : ∀ (x : sg65.X) (vs : List Value), denS GT [] ⟨4, [], [], false, [], []⟩ ⟨4, [], 4⟩ (bodyOf Try.f65) sg65.out.Y (initSt (sg65.pre x) (sg65.heap x) 30 sg65.pin vs) (fun e s => finC GT [.tmp 2] [] sg65.pin [] [] e s sg65.out.dec) = F_ref04_Arity x := fun x vs => by kernel_rfl
theorem f65_ok : SigOk Try.prog GT.gl 65 sig65 := gfn (Γ := GT) (nt := 30) (rs := [.tmp 2]) GT_ok sigs_nil Try.func65 (by kernel_rfl) (by kernel_rfl) (by kernel_rfl) (by decide) (by decide) f65_is
@[reducible] noncomputable def sg75 : SigD := ⟨[.data .str], [], [], ⟨[.data .bool], [], []⟩⟩
@[reducible] noncomputable def sig75 : Sig := gsig sg75 F_ref04_Template
set_option maxRecDepth 100000 in
theorem f75_is : ∀ (x : sg75.X) (vs : List Value), denS GT [] ⟨4, [], [], false, [], []⟩ ⟨4, [], 4⟩ (bodyOf Try.f75) sg75.out.Y (initSt (sg75.pre x) (sg75.heap x) 41 sg75.pin vs) (fun e s => finC GT [.tmp 2] [] sg75.pin [] [] e s sg75.out.dec) = F_ref04_Template x := fun x vs => by kernel_rfl
theorem f75_ok : SigOk Try.prog GT.gl 75 sig75 := gfn (Γ := GT) (nt := 41) (rs := [.tmp 2]) GT_ok sigs_nil Try.func75 (by kernel_rfl) (by kernel_rfl) (by kernel_rfl) (by decide) (by decide) f75_is
@[reducible] noncomputable def sg66 : SigD := ⟨[.data tNode], [], [], ⟨[.data .bool], [], []⟩⟩
@[reducible] noncomputable def sig66 : Sig := gsig sg66 F_ref04_Field
set_option maxRecDepth 100000 in
theorem f66_is : ∀ (x : sg66.X) (vs : List Value), denS GT [(37, sig37), (75, sig75)] ⟨4, [], [], false, [], []⟩ ⟨4, [], 4⟩ (bodyOf Try.f66) sg66.out.Y (initSt (sg66.pre x) (sg66.heap x) 87 sg66.pin vs) (fun e s => finC GT [.tmp 2] [] sg66.pin [] [] e s sg66.out.dec) = F_ref04_Field x := fun x vs => by kernel_rfl
theorem f66_ok : SigOk Try.prog GT.gl 66 sig66 := gfn (Γ := GT) (nt := 87) (rs := [.tmp 2]) GT_ok (sigs_cons f37_ok (by kernel_rfl) (sigs_cons f75_ok (by kernel_rfl) sigs_nil)) Try.func66 (by kernel_rfl) (by kernel_rfl) (by kernel_rfl) (by decide) (by decide) f66_is
@[reducible] noncomputable def sg52 : SigD := ⟨[.data (.sl 42 tNode)], [], [], ⟨[.full 2 (.int .i64), .full 3 (.int .i64), .data (.int .i64), .data (.int .i64)], [(2, .row 3 (.int .i64) false), (3, .row 3 (.int .i64) false)], []⟩⟩
@[reducible] noncomputable def sig52 : Sig := gsig sg52 F_ref04_from
set_option maxRecDepth 100000 in
theorem f52_is : ∀ (x : sg52.X) (vs : List Value), denS GT [(65, sig65), (66, sig66)] ⟨4, [], [], false, [], []⟩ ⟨60, [], 60⟩ (bodyOf Try.f52) sg52.out.Y (initSt (sg52.pre x) (sg52.heap x) 91 sg52.pin vs) (fun e s => finC GT [.tmp 2, .tmp 3, .tmp 4, .tmp 5] [] sg52.pin [] [] e s sg52.out.dec) = F_ref04_from x := fun x vs => by kernel_rfl
theorem f52_ok : SigOk Try.prog GT.gl 52 sig52 := gfn (Γ := GT) (nt := 91) (rs := [.tmp 2, .tmp 3, .tmp 4, .tmp 5]) GT_ok (sigs_cons f65_ok (by kernel_rfl) (sigs_cons f66_ok (by kernel_rfl) sigs_nil)) Try.func52 (by kernel_rfl) (by kernel_rfl) (by kernel_rfl) (by decide) (by decide) f52_is
@[reducible] noncomputable def sg39 : SigD := ⟨[.data (.sl 42 tNode)], [], [], ⟨[.data (.int .i64), .data (.int .i64)], [], []⟩⟩
@[reducible] noncomputable def sig39 : Sig := gsig sg39 F_ref04_Check
set_option maxRecDepth 100000 in
theorem f39_is : ∀ (x : sg39.X) (vs : List Value), denS GT [(52, sig52)] ⟨4, [], [], false, [], []⟩ ⟨12, [], 12⟩ (bodyOf Try.f39) sg39.out.Y (initSt (sg39.pre x) (sg39.heap x) 36 sg39.pin vs) (fun e s => finC GT [.tmp 2, .tmp 3] [] sg39.pin [] [] e s sg39.out.dec) = F_ref04_Check x := fun x vs => by kernel_rfl
theorem f39_ok : SigOk Try.prog GT.gl 39 sig39 := gfn (Γ := GT) (nt := 36) (rs := [.tmp 2, .tmp 3]) GT_ok (sigs_cons f52_ok (by kernel_rfl) sigs_nil) Try.func39 (by kernel_rfl) (by kernel_rfl) (by kernel_rfl) (by decide) (by decide) f39_is
@[reducible] noncomputable def sg18 : SigD := ⟨[.data tGrammar], [], [], ⟨[.data tSpot, .data (.int .i64)], [], []⟩⟩
@[reducible] noncomputable def sig18 : Sig := gsig sg18 F_ref08_Check
set_option maxRecDepth 100000 in
theorem f18_is : ∀ (x : sg18.X) (vs : List Value), denS GT [(37, sig37), (38, sig38), (39, sig39)] ⟨4, [], [], true, [], []⟩ ⟨12, [], 12⟩ (bodyOf Try.f18) sg18.out.Y (initSt (sg18.pre x) (sg18.heap x) 122 sg18.pin vs) (fun e s => finC GT [.cell 2 28, .tmp 3] [] sg18.pin [] [] e s sg18.out.dec) = F_ref08_Check x := fun x vs => by kernel_rfl
theorem f18_ok : SigOk Try.prog GT.gl 18 sig18 := gfn (Γ := GT) (nt := 122) (rs := [.cell 2 28, .tmp 3]) GT_ok (sigs_cons f37_ok (by kernel_rfl) (sigs_cons f38_ok (by kernel_rfl) (sigs_cons f39_ok (by kernel_rfl) sigs_nil))) Try.func18 (by kernel_rfl) (by kernel_rfl) (by kernel_rfl) (by decide) (by decide) f18_is
@[reducible] noncomputable def sg49 : SigD := ⟨[.data (.sl 85 (.sl 4 .bool)), .data (.int .i64)], [], [], ⟨[.full 4 (.int .i64)], [(4, .row 3 (.int .i64) false)], []⟩⟩
@[reducible] noncomputable def sig49 : Sig := gsig sg49 F_ref10_far
set_option maxRecDepth 100000 in
theorem f49_is : ∀ (x : sg49.X) (vs : List Value), denS GT [] ⟨4, [], [], true, [], []⟩ ⟨16, [], 16⟩ (bodyOf Try.f49) sg49.out.Y (initSt (sg49.pre x) (sg49.heap x) 78 sg49.pin vs) (fun e s => finC GT [.tmp 4] [] sg49.pin [] [] e s sg49.out.dec) = F_ref10_far x := fun x vs => by kernel_rfl
theorem f49_ok : SigOk Try.prog GT.gl 49 sig49 := gfn (Γ := GT) (nt := 78) (rs := [.tmp 4]) GT_ok sigs_nil Try.func49 (by kernel_rfl) (by kernel_rfl) (by kernel_rfl) (by decide) (by decide) f49_is
@[reducible] noncomputable def sg32 : SigD := ⟨[.data (.sl 85 (.sl 4 .bool))], [], [], ⟨[.full 2 (.int .i64)], [(2, .row 3 (.int .i64) false)], []⟩⟩
@[reducible] noncomputable def sig32 : Sig := gsig sg32 F_ref10_Cycle
set_option maxRecDepth 100000 in
theorem f32_is : ∀ (x : sg32.X) (vs : List Value), denS GT [(49, sig49)] ⟨4, [], [], true, [], []⟩ ⟨4, [], 4⟩ (bodyOf Try.f32) sg32.out.Y (initSt (sg32.pre x) (sg32.heap x) 59 sg32.pin vs) (fun e s => finC GT [.tmp 2] [] sg32.pin [] [] e s sg32.out.dec) = F_ref10_Cycle x := fun x vs => by kernel_rfl
theorem f32_ok : SigOk Try.prog GT.gl 32 sig32 := gfn (Γ := GT) (nt := 59) (rs := [.tmp 2]) GT_ok (sigs_cons f49_ok (by kernel_rfl) sigs_nil) Try.func32 (by kernel_rfl) (by kernel_rfl) (by kernel_rfl) (by decide) (by decide) f32_is
@[reducible] noncomputable def sg53 : SigD := ⟨[.data (.sl 42 tNode)], [], [], ⟨[.full 2 (.int .i64)], [(2, .row 3 (.int .i64) false)], []⟩⟩
@[reducible] noncomputable def sig53 : Sig := gsig sg53 F_ref04_Begins
set_option maxRecDepth 100000 in
theorem f53_is : ∀ (x : sg53.X) (vs : List Value), denS GT [(52, sig52)] ⟨4, [], [], true, [], []⟩ ⟨4, [], 4⟩ (bodyOf Try.f53) sg53.out.Y (initSt (sg53.pre x) (sg53.heap x) 15 sg53.pin vs) (fun e s => finC GT [.tmp 2] [] sg53.pin [] [] e s sg53.out.dec) = F_ref04_Begins x := fun x vs => by kernel_rfl
theorem f53_ok : SigOk Try.prog GT.gl 53 sig53 := gfn (Γ := GT) (nt := 15) (rs := [.tmp 2]) GT_ok (sigs_cons f52_ok (by kernel_rfl) sigs_nil) Try.func53 (by kernel_rfl) (by kernel_rfl) (by kernel_rfl) (by decide) (by decide) f53_is
@[reducible] noncomputable def sg54 : SigD := ⟨[.data tGrammar, .data .str], [], [], ⟨[.data (.int .i64)], [], []⟩⟩
@[reducible] noncomputable def sig54 : Sig := gsig sg54 F_ref08_Number
set_option maxRecDepth 100000 in
theorem f54_is : ∀ (x : sg54.X) (vs : List Value), denS GT [(38, sig38)] ⟨4, [], [], true, [], []⟩ ⟨16, [], 16⟩ (bodyOf Try.f54) sg54.out.Y (initSt (sg54.pre x) (sg54.heap x) 8 sg54.pin vs) (fun e s => finC GT [.tmp 4] [] sg54.pin [] [] e s sg54.out.dec) = F_ref08_Number x := fun x vs => by kernel_rfl
theorem f54_ok : SigOk Try.prog GT.gl 54 sig54 := gfn (Γ := GT) (nt := 8) (rs := [.tmp 4]) GT_ok (sigs_cons f38_ok (by kernel_rfl) sigs_nil) Try.func54 (by kernel_rfl) (by kernel_rfl) (by kernel_rfl) (by decide) (by decide) f54_is
@[reducible] noncomputable def sg55 : SigD := ⟨[.data (.sl 42 tNode), .data (.sl 3 (.int .i64)), .data (.int .i64)], [], [], ⟨[.full 6 (.int .i64)], [(6, .row 3 (.int .i64) false)], []⟩⟩
@[reducible] noncomputable def sig55 : Sig := gsig sg55 F_ref04_Kids
set_option maxRecDepth 100000 in
theorem f55_is : ∀ (x : sg55.X) (vs : List Value), denS GT [(65, sig65)] ⟨4, [], [], false, [], []⟩ ⟨64, [], 64⟩ (bodyOf Try.f55) sg55.out.Y (initSt (sg55.pre x) (sg55.heap x) 29 sg55.pin vs) (fun e s => finC GT [.tmp 6] [] sg55.pin [] [] e s sg55.out.dec) = F_ref04_Kids x := fun x vs => by kernel_rfl
theorem f55_ok : SigOk Try.prog GT.gl 55 sig55 := gfn (Γ := GT) (nt := 29) (rs := [.tmp 6]) GT_ok (sigs_cons f65_ok (by kernel_rfl) sigs_nil) Try.func55 (by kernel_rfl) (by kernel_rfl) (by kernel_rfl) (by decide) (by decide) f55_is
@[reducible] noncomputable def sg50 : SigD := ⟨[.data tGrammar, .data (.sl 42 tNode), .same (.full 1000 .bool)], [(1000, .row 4 .bool false)], [2], ⟨[.full 6 .bool], [(6, .row 4 .bool false), (1000, .row 4 .bool false)], [(2, .full 1000 .bool)]⟩⟩
@[reducible] noncomputable def sig50 : Sig := gsig sg50 F_ref10_Nothing
set_option maxRecDepth 100000 in
theorem f50_is : ∀ (x : sg50.X) (vs : List Value), denS GT [(53, sig53), (54, sig54), (55, sig55)] ⟨4, [], [7], true, [], []⟩ ⟨68, [], 68⟩ (bodyOf Try.f50) sg50.out.Y (initSt (sg50.pre x) (sg50.heap x) 110 sg50.pin vs) (fun e s => finC GT [.tmp 6] [1000] sg50.pin [] [] e s sg50.out.dec) = F_ref10_Nothing x := fun x vs => by kernel_rfl
theorem f50_ok : SigOk Try.prog GT.gl 50 sig50 := gfn (Γ := GT) (nt := 110) (rs := [.tmp 6]) GT_ok (sigs_cons f53_ok (by kernel_rfl) (sigs_cons f54_ok (by kernel_rfl) (sigs_cons f55_ok (by kernel_rfl) sigs_nil))) Try.func50 (by kernel_rfl) (by kernel_rfl) (by kernel_rfl) (by decide) (by decide) f50_is
@[reducible] noncomputable def sg43 : SigD := ⟨[.data tGrammar, .data (.int .i64), .same (.full 1000 .bool)], [(1000, .row 4 .bool false)], [2], ⟨[.full 6 .bool], [(6, .row 4 .bool false), (1000, .row 4 .bool false)], [(2, .full 1000 .bool)]⟩⟩
@[reducible] noncomputable def sig43 : Sig := gsig sg43 F_ref10_heads
set_option maxRecDepth 100000 in
theorem f43_is : ∀ (x : sg43.X) (vs : List Value), denS GT [(50, sig50), (53, sig53), (54, sig54), (55, sig55)] ⟨4, [], [9], true, [], []⟩ ⟨68, [], 68⟩ (bodyOf Try.f43) sg43.out.Y (initSt (sg43.pre x) (sg43.heap x) 112 sg43.pin vs) (fun e s => finC GT [.tmp 6] [1000] sg43.pin [] [] e s sg43.out.dec) = F_ref10_heads x := fun x vs => by kernel_rfl
theorem f43_ok : SigOk Try.prog GT.gl 43 sig43 := gfn (Γ := GT) (nt := 112) (rs := [.tmp 6]) GT_ok (sigs_cons f50_ok (by kernel_rfl) (sigs_cons f53_ok (by kernel_rfl) (sigs_cons f54_ok (by kernel_rfl) (sigs_cons f55_ok (by kernel_rfl) sigs_nil)))) Try.func43 (by kernel_rfl) (by kernel_rfl) (by kernel_rfl) (by decide) (by decide) f43_is
@[reducible] noncomputable def sg44 : SigD := ⟨[.data tGrammar], [], [], ⟨[.full 2 .bool], [(2, .row 4 .bool false)], []⟩⟩
@[reducible] noncomputable def sig44 : Sig := gsig sg44 F_ref10_Nullable
set_option maxRecDepth 100000 in
theorem f44_is : ∀ (x : sg44.X) (vs : List Value), denS (GTd [] [] [200034]) [(50, sig50)] ⟨4, [], [], true, [], []⟩ ⟨4, [], 4⟩ (bodyOf Try.f44) sg44.out.Y (initSt (sg44.pre x) (sg44.heap x) 45 sg44.pin vs) (fun e s => finC (GTd [] [] [200034]) [.tmp 2] [] sg44.pin [] [] e s sg44.out.dec) = F_ref10_Nullable x := fun x vs => by kernel_rfl
theorem f44_ok : SigOk Try.prog GT.gl 44 sig44 := gfn (Γ := (GTd [] [] [200034])) (nt := 45) (rs := [.tmp 2]) (GTd_ok _ _ _) (sigs_cons f50_ok (by kernel_rfl) sigs_nil) Try.func44 (by kernel_rfl) (by kernel_rfl) (by kernel_rfl) (by decide) (by decide) f44_is
@[reducible] noncomputable def sg33 : SigD := ⟨[.data tGrammar], [], [], ⟨[.full 2 (.sl 4 .bool)], [(2, .row 85 (.sl 4 .bool) false)], []⟩⟩
@[reducible] noncomputable def sig33 : Sig := gsig sg33 F_ref10_allHeads
set_option maxRecDepth 100000 in
theorem f33_is : ∀ (x : sg33.X) (vs : List Value), denS GT [(43, sig43), (44, sig44)] ⟨4, [], [], true, [], []⟩ ⟨4, [], 4⟩ (bodyOf Try.f33) sg33.out.Y (initSt (sg33.pre x) (sg33.heap x) 23 sg33.pin vs) (fun e s => finC GT [.tmp 2] [] sg33.pin [] [] e s sg33.out.dec) = F_ref10_allHeads x := fun x vs => by kernel_rfl
theorem f33_ok : SigOk Try.prog GT.gl 33 sig33 := gfn (Γ := GT) (nt := 23) (rs := [.tmp 2]) GT_ok (sigs_cons f43_ok (by kernel_rfl) (sigs_cons f44_ok (by kernel_rfl) sigs_nil)) Try.func33 (by kernel_rfl) (by kernel_rfl) (by kernel_rfl) (by decide) (by decide) f33_is
@[reducible] noncomputable def sg34 : SigD := ⟨[.data tGrammar], [], [], ⟨[.full 2 tSpot], [(2, .row 28 tSpot false)], []⟩⟩
@[reducible] noncomputable def sig34 : Sig := gsig sg34 F_ref10_loops
set_option maxRecDepth 100000 in
theorem f34_is : ∀ (x : sg34.X) (vs : List Value), denS GT [(44, sig44), (50, sig50)] ⟨4, [], [], true, [], []⟩ ⟨4, [], 4⟩ (bodyOf Try.f34) sg34.out.Y (initSt (sg34.pre x) (sg34.heap x) 70 sg34.pin vs) (fun e s => finC GT [.tmp 2] [] sg34.pin [] [] e s sg34.out.dec) = F_ref10_loops x := fun x vs => by kernel_rfl
theorem f34_ok : SigOk Try.prog GT.gl 34 sig34 := gfn (Γ := GT) (nt := 70) (rs := [.tmp 2]) GT_ok (sigs_cons f44_ok (by kernel_rfl) (sigs_cons f50_ok (by kernel_rfl) sigs_nil)) Try.func34 (by kernel_rfl) (by kernel_rfl) (by kernel_rfl) (by decide) (by decide) f34_is
@[reducible] noncomputable def sg13 : SigD := ⟨[.data tGrammar], [], [], ⟨[.data tVerdict, .data (.int .i64)], [], []⟩⟩
@[reducible] noncomputable def sig13 : Sig := gsig sg13 F_ref10_Check
set_option maxRecDepth 100000 in
theorem f13_is : ∀ (x : sg13.X) (vs : List Value), denS GT [(18, sig18), (32, sig32), (33, sig33), (34, sig34)] ⟨4, [], [], true, [], []⟩ ⟨12, [], 12⟩ (bodyOf Try.f13) sg13.out.Y (initSt (sg13.pre x) (sg13.heap x) 36 sg13.pin vs) (fun e s => finC GT [.cell 2 30, .tmp 3] [] sg13.pin [] [true, false] e s sg13.out.dec) = F_ref10_Check x := fun x vs => by kernel_rfl
theorem f13_ok : SigOk Try.prog GT.gl 13 sig13 := gfn (Γ := GT) (nt := 36) (rs := [.cell 2 30, .tmp 3]) GT_ok (sigs_cons f18_ok (by kernel_rfl) (sigs_cons f32_ok (by kernel_rfl) (sigs_cons f33_ok (by kernel_rfl) (sigs_cons f34_ok (by kernel_rfl) sigs_nil)))) Try.func13 (by kernel_rfl) (by kernel_rfl) (by kernel_rfl) (by decide) (by decide) f13_is
@[reducible] noncomputable def sg14 : SigD := ⟨[], [], [], ⟨[.data .bool], [], []⟩⟩
@[reducible] noncomputable def sig14 : Sig := gsig sg14 F_law10_lives
set_option maxRecDepth 100000 in
theorem f14_is : ∀ (x : sg14.X) (vs : List Value), denS GT [(12, sig12)] ⟨4, [], [], true, [], []⟩ ⟨1, [], 1⟩ (bodyOf Try.f14) sg14.out.Y (initSt (sg14.pre x) (sg14.heap x) 35 sg14.pin vs) (fun e s => finC GT [.tmp 0] [] sg14.pin [] [] e s sg14.out.dec) = F_law10_lives x := fun x vs => by kernel_rfl
theorem f14_ok : SigOk Try.prog GT.gl 14 sig14 := gfn (Γ := GT) (nt := 35) (rs := [.tmp 0]) GT_ok (sigs_cons f12_ok (by kernel_rfl) sigs_nil) Try.func14 (by kernel_rfl) (by kernel_rfl) (by kernel_rfl) (by decide) (by decide) f14_is
@[reducible] noncomputable def sg15 : SigD := ⟨[.data (.sl 3 (.int .i64)), .data (.sl 3 (.int .i64))], [], [], ⟨[.data .bool], [], []⟩⟩
@[reducible] noncomputable def sig15 : Sig := gsig sg15 F_book_SameInts
set_option maxRecDepth 100000 in
theorem f15_is : ∀ (x : sg15.X) (vs : List Value), denS GT [] ⟨4, [], [], false, [], []⟩ ⟨16, [], 16⟩ (bodyOf Try.f15) sg15.out.Y (initSt (sg15.pre x) (sg15.heap x) 26 sg15.pin vs) (fun e s => finC GT [.tmp 4] [] sg15.pin [] [] e s sg15.out.dec) = F_book_SameInts x := fun x vs => by kernel_rfl
theorem f15_ok : SigOk Try.prog GT.gl 15 sig15 := gfn (Γ := GT) (nt := 26) (rs := [.tmp 4]) GT_ok sigs_nil Try.func15 (by kernel_rfl) (by kernel_rfl) (by kernel_rfl) (by decide) (by decide) f15_is
@[reducible] noncomputable def sg51 : SigD := ⟨[.data (.sl 42 tNode), .data (.sl 42 tNode)], [], [], ⟨[.data .bool], [], []⟩⟩
@[reducible] noncomputable def sig51 : Sig := gsig sg51 F_book_SamePattern
set_option maxRecDepth 100000 in
theorem f51_is : ∀ (x : sg51.X) (vs : List Value), denS GT [] ⟨4, [], [], false, [], []⟩ ⟨16, [], 16⟩ (bodyOf Try.f51) sg51.out.Y (initSt (sg51.pre x) (sg51.heap x) 26 sg51.pin vs) (fun e s => finC GT [.tmp 4] [] sg51.pin [] [] e s sg51.out.dec) = F_book_SamePattern x := fun x vs => by kernel_rfl
theorem f51_ok : SigOk Try.prog GT.gl 51 sig51 := gfn (Γ := GT) (nt := 26) (rs := [.tmp 4]) GT_ok sigs_nil Try.func51 (by kernel_rfl) (by kernel_rfl) (by kernel_rfl) (by decide) (by decide) f51_is
@[reducible] noncomputable def sg35 : SigD := ⟨[.lent 42 tNode, .data (.sl 42 tNode)], [], [], ⟨[.data .bool], [], []⟩⟩
@[reducible] noncomputable def sig35 : Sig := gsig sg35 F_book_KeptPattern
set_option maxRecDepth 100000 in
theorem f35_is : ∀ (x : sg35.X) (vs : List Value), denS GT [(51, sig51)] ⟨4, [], [], false, [], []⟩ ⟨16, [], 16⟩ (bodyOf Try.f35) sg35.out.Y (initSt (sg35.pre x) (sg35.heap x) 21 sg35.pin vs) (fun e s => finC GT [.tmp 4] [] sg35.pin [] [] e s sg35.out.dec) = F_book_KeptPattern x := fun x vs => by kernel_rfl
theorem f35_ok : SigOk Try.prog GT.gl 35 sig35 := gfn (Γ := GT) (nt := 21) (rs := [.tmp 4]) GT_ok (sigs_cons f51_ok (by kernel_rfl) sigs_nil) Try.func35 (by kernel_rfl) (by kernel_rfl) (by kernel_rfl) (by decide) (by decide) f35_is
@[reducible] noncomputable def sg16 : SigD := ⟨[.data tGrammarL, .data tGrammarL], [], [], ⟨[.data .bool], [], []⟩⟩
@[reducible] noncomputable def sig16 : Sig := gsig sg16 F_book_KeptGrammar
set_option maxRecDepth 100000 in
theorem f16_is : ∀ (x : sg16.X) (vs : List Value), denS GTL [(35, sig35)] ⟨4, [], [], true, [], []⟩ ⟨16, [], 16⟩ (bodyOf Try.f16) sg16.out.Y (initSt (sg16.pre x) (sg16.heap x) 61 sg16.pin vs) (fun e s => finC GTL [.tmp 4] [] sg16.pin [] [] e s sg16.out.dec) = F_book_KeptGrammar x := fun x vs => by kernel_rfl
theorem f16_ok : SigOk Try.prog GT.gl 16 sig16 := gfn (Γ := GTL) (nt := 61) (rs := [.tmp 4]) GTL_ok (sigs_cons f35_ok (by kernel_rfl) sigs_nil) Try.func16 (by kernel_rfl) (by kernel_rfl) (by kernel_rfl) (by decide) (by decide) f16_is
@[reducible] noncomputable def sg3 : SigD := ⟨[.data tGrammar], [], [], ⟨[.data .bool], [], []⟩⟩
@[reducible] noncomputable def sig3 : Sig := gsig sg3 F_law10_FordChecks
set_option maxRecDepth 100000 in
theorem f3_is : ∀ (x : sg3.X) (vs : List Value), denS GTL [(11, sig11), (12, sig12), (13, sig13), (14, sig14), (15, sig15), (16, sig16)] ⟨4, [], [], true, [], []⟩ ⟨4, [], 4⟩ (bodyOf Try.f3) sg3.out.Y (initSt (sg3.pre x) (sg3.heap x) 45 sg3.pin vs) (fun e s => finC GTL [.tmp 2] [] sg3.pin [] [] e s sg3.out.dec) = F_law10_FordChecks x := fun x vs => by kernel_rfl
theorem f3_ok : SigOk Try.prog GT.gl 3 sig3 := gfn (Γ := GTL) (nt := 45) (rs := [.tmp 2]) GTL_ok (sigs_cons f11_ok (by kernel_rfl) (sigs_cons f12_ok (by kernel_rfl) (sigs_cons f13_ok (by kernel_rfl) (sigs_cons f14_ok (by kernel_rfl) (sigs_cons f15_ok (by kernel_rfl) (sigs_cons f16_ok (by kernel_rfl) sigs_nil)))))) Try.func3 (by kernel_rfl) (by kernel_rfl) (by kernel_rfl) (by decide) (by decide) f3_is
@[reducible] noncomputable def sg41 : SigD := ⟨[.data (.arr 200 .bool), .data (.int .i64)], [], [], ⟨[.full 4 (.int .i64)], [(4, .row 3 (.int .i64) false)], []⟩⟩
@[reducible] noncomputable def sig41 : Sig := gsig sg41 F_ford_marks_list
set_option maxRecDepth 100000 in
theorem f41_is : ∀ (x : sg41.X) (vs : List Value), denS GT [] ⟨4, [], [], true, [], []⟩ ⟨16, [], 16⟩ (bodyOf Try.f41) sg41.out.Y (initSt (sg41.pre x) (sg41.heap x) 20 sg41.pin vs) (fun e s => finC GT [.tmp 4] [] sg41.pin [] [] e s sg41.out.dec) = F_ford_marks_list x := fun x vs => by kernel_rfl
theorem f41_ok : SigOk Try.prog GT.gl 41 sig41 := gfn (Γ := GT) (nt := 20) (rs := [.tmp 4]) GT_ok sigs_nil Try.func41 (by kernel_rfl) (by kernel_rfl) (by kernel_rfl) (by decide) (by decide) f41_is
@[reducible] noncomputable def sg20 : SigD := ⟨[.data tGrammar, .data (.int .i64)], [], [], ⟨[.full 4 (.int .i64), .data (.int .i64)], [(4, .row 3 (.int .i64) false)], []⟩⟩
@[reducible] noncomputable def sig20 : Sig := gsig sg20 F_ford_Heads
set_option maxRecDepth 100000 in
theorem f20_is : ∀ (x : sg20.X) (vs : List Value), denS GT [(30, sig30), (41, sig41)] ⟨4, [], [], true, [], []⟩ ⟨48, [], 48⟩ (bodyOf Try.f20) sg20.out.Y (initSt (sg20.pre x) (sg20.heap x) 36 sg20.pin vs) (fun e s => finC GT [.tmp 4, .tmp 5] [] sg20.pin [] [] e s sg20.out.dec) = F_ford_Heads x := fun x vs => by kernel_rfl
theorem f20_ok : SigOk Try.prog GT.gl 20 sig20 := gfn (Γ := GT) (nt := 36) (rs := [.tmp 4, .tmp 5]) GT_ok (sigs_cons f30_ok (by kernel_rfl) (sigs_cons f41_ok (by kernel_rfl) sigs_nil)) Try.func20 (by kernel_rfl) (by kernel_rfl) (by kernel_rfl) (by decide) (by decide) f20_is
@[reducible] noncomputable def sg42 : SigD := ⟨[.data (.sl 4 .bool)], [], [], ⟨[.full 2 (.int .i64)], [(2, .row 3 (.int .i64) false)], []⟩⟩
@[reducible] noncomputable def sig42 : Sig := gsig sg42 F_ref08_Listed
set_option maxRecDepth 100000 in
theorem f42_is : ∀ (x : sg42.X) (vs : List Value), denS GT [] ⟨4, [], [], true, [], []⟩ ⟨4, [], 4⟩ (bodyOf Try.f42) sg42.out.Y (initSt (sg42.pre x) (sg42.heap x) 20 sg42.pin vs) (fun e s => finC GT [.tmp 2] [] sg42.pin [] [] e s sg42.out.dec) = F_ref08_Listed x := fun x vs => by kernel_rfl
theorem f42_ok : SigOk Try.prog GT.gl 42 sig42 := gfn (Γ := GT) (nt := 20) (rs := [.tmp 2]) GT_ok sigs_nil Try.func42 (by kernel_rfl) (by kernel_rfl) (by kernel_rfl) (by decide) (by decide) f42_is
@[reducible] noncomputable def sg21 : SigD := ⟨[.data tGrammar, .data (.int .i64)], [], [], ⟨[.full 4 (.int .i64), .data (.int .i64)], [(4, .row 3 (.int .i64) false)], []⟩⟩
@[reducible] noncomputable def sig21 : Sig := gsig sg21 F_ref10_Heads
set_option maxRecDepth 100000 in
theorem f21_is : ∀ (x : sg21.X) (vs : List Value), denS GT [(18, sig18), (42, sig42), (43, sig43), (44, sig44)] ⟨4, [], [], true, [], []⟩ ⟨48, [], 48⟩ (bodyOf Try.f21) sg21.out.Y (initSt (sg21.pre x) (sg21.heap x) 31 sg21.pin vs) (fun e s => finC GT [.tmp 4, .tmp 5] [] sg21.pin [] [] e s sg21.out.dec) = F_ref10_Heads x := fun x vs => by kernel_rfl
theorem f21_ok : SigOk Try.prog GT.gl 21 sig21 := gfn (Γ := GT) (nt := 31) (rs := [.tmp 4, .tmp 5]) GT_ok (sigs_cons f18_ok (by kernel_rfl) (sigs_cons f42_ok (by kernel_rfl) (sigs_cons f43_ok (by kernel_rfl) (sigs_cons f44_ok (by kernel_rfl) sigs_nil)))) Try.func21 (by kernel_rfl) (by kernel_rfl) (by kernel_rfl) (by decide) (by decide) f21_is
@[reducible] noncomputable def sg22 : SigD := ⟨[.data tGrammar], [], [], ⟨[.data (.sl 28 tSpot), .data (.int .i64)], [], []⟩⟩
@[reducible] noncomputable def sig22 : Sig := gsig sg22 F_ford_Loops
set_option maxRecDepth 100000 in
theorem f22_is : ∀ (x : sg22.X) (vs : List Value), denS GT [(30, sig30)] ⟨4, [], [], true, [], []⟩ ⟨12, [], 12⟩ (bodyOf Try.f22) sg22.out.Y (initSt (sg22.pre x) (sg22.heap x) 18 sg22.pin vs) (fun e s => finC GT [.tmp 2, .tmp 3] [] sg22.pin [] [true, false] e s sg22.out.dec) = F_ford_Loops x := fun x vs => by kernel_rfl
theorem f22_ok : SigOk Try.prog GT.gl 22 sig22 := gfn (Γ := GT) (nt := 18) (rs := [.tmp 2, .tmp 3]) GT_ok (sigs_cons f30_ok (by kernel_rfl) sigs_nil) Try.func22 (by kernel_rfl) (by kernel_rfl) (by kernel_rfl) (by decide) (by decide) f22_is
@[reducible] noncomputable def sg23 : SigD := ⟨[.data tGrammar], [], [], ⟨[.full 2 tSpot, .data (.int .i64)], [(2, .row 28 tSpot false)], []⟩⟩
@[reducible] noncomputable def sig23 : Sig := gsig sg23 F_ref10_Loops
set_option maxRecDepth 100000 in
theorem f23_is : ∀ (x : sg23.X) (vs : List Value), denS GT [(18, sig18), (34, sig34)] ⟨4, [], [], true, [], []⟩ ⟨12, [], 12⟩ (bodyOf Try.f23) sg23.out.Y (initSt (sg23.pre x) (sg23.heap x) 16 sg23.pin vs) (fun e s => finC GT [.tmp 2, .tmp 3] [] sg23.pin [] [] e s sg23.out.dec) = F_ref10_Loops x := fun x vs => by kernel_rfl
theorem f23_ok : SigOk Try.prog GT.gl 23 sig23 := gfn (Γ := GT) (nt := 16) (rs := [.tmp 2, .tmp 3]) GT_ok (sigs_cons f18_ok (by kernel_rfl) (sigs_cons f34_ok (by kernel_rfl) sigs_nil)) Try.func23 (by kernel_rfl) (by kernel_rfl) (by kernel_rfl) (by decide) (by decide) f23_is
@[reducible] noncomputable def sg24 : SigD := ⟨[.data (.sl 28 tSpot), .data (.sl 28 tSpot)], [], [], ⟨[.data .bool], [], []⟩⟩
@[reducible] noncomputable def sig24 : Sig := gsig sg24 F_law10_sameSpots
set_option maxRecDepth 100000 in
theorem f24_is : ∀ (x : sg24.X) (vs : List Value), denS GT [] ⟨4, [], [], true, [], []⟩ ⟨16, [], 16⟩ (bodyOf Try.f24) sg24.out.Y (initSt (sg24.pre x) (sg24.heap x) 26 sg24.pin vs) (fun e s => finC GT [.tmp 4] [] sg24.pin [] [] e s sg24.out.dec) = F_law10_sameSpots x := fun x vs => by kernel_rfl
theorem f24_ok : SigOk Try.prog GT.gl 24 sig24 := gfn (Γ := GT) (nt := 26) (rs := [.tmp 4]) GT_ok sigs_nil Try.func24 (by kernel_rfl) (by kernel_rfl) (by kernel_rfl) (by decide) (by decide) f24_is
@[reducible] noncomputable def sg6 : SigD := ⟨[.data tGrammar, .data (.int .i64)], [], [], ⟨[.data .bool], [], []⟩⟩
@[reducible] noncomputable def sig6 : Sig := gsig sg6 F_law10_FordHeads
set_option maxRecDepth 100000 in
theorem f6_is : ∀ (x : sg6.X) (vs : List Value), denS GTL [(11, sig11), (14, sig14), (15, sig15), (16, sig16), (20, sig20), (21, sig21), (22, sig22), (23, sig23), (24, sig24)] ⟨4, [], [], true, [], []⟩ ⟨16, [], 16⟩ (bodyOf Try.f6) sg6.out.Y (initSt (sg6.pre x) (sg6.heap x) 64 sg6.pin vs) (fun e s => finC GTL [.tmp 4] [] sg6.pin [] [] e s sg6.out.dec) = F_law10_FordHeads x := fun x vs => by kernel_rfl
theorem f6_ok : SigOk Try.prog GT.gl 6 sig6 := gfn (Γ := GTL) (nt := 64) (rs := [.tmp 4]) GTL_ok (sigs_cons f11_ok (by kernel_rfl) (sigs_cons f14_ok (by kernel_rfl) (sigs_cons f15_ok (by kernel_rfl) (sigs_cons f16_ok (by kernel_rfl) (sigs_cons f20_ok (by kernel_rfl) (sigs_cons f21_ok (by kernel_rfl) (sigs_cons f22_ok (by kernel_rfl) (sigs_cons f23_ok (by kernel_rfl) (sigs_cons f24_ok (by kernel_rfl) sigs_nil))))))))) Try.func6 (by kernel_rfl) (by kernel_rfl) (by kernel_rfl) (by decide) (by decide) f6_is
@[reducible] noncomputable def sg26 : SigD := ⟨[.data tGrammar], [], [], ⟨[.full 2 (.int .i64), .data (.int .i64)], [(2, .row 3 (.int .i64) false)], []⟩⟩
@[reducible] noncomputable def sig26 : Sig := gsig sg26 F_ford_Order
set_option maxRecDepth 100000 in
theorem f26_is : ∀ (x : sg26.X) (vs : List Value), denS GT [(12, sig12), (30, sig30)] ⟨4, [], [], true, [], []⟩ ⟨12, [], 12⟩ (bodyOf Try.f26) sg26.out.Y (initSt (sg26.pre x) (sg26.heap x) 73 sg26.pin vs) (fun e s => finC GT [.tmp 2, .tmp 3] [] sg26.pin [] [] e s sg26.out.dec) = F_ford_Order x := fun x vs => by kernel_rfl
theorem f26_ok : SigOk Try.prog GT.gl 26 sig26 := gfn (Γ := GT) (nt := 73) (rs := [.tmp 2, .tmp 3]) GT_ok (sigs_cons f12_ok (by kernel_rfl) (sigs_cons f30_ok (by kernel_rfl) sigs_nil)) Try.func26 (by kernel_rfl) (by kernel_rfl) (by kernel_rfl) (by decide) (by decide) f26_is
@[reducible] noncomputable def sg27 : SigD := ⟨[.data tGrammar], [], [], ⟨[.full 2 (.int .i64), .data (.int .i64)], [(2, .row 3 (.int .i64) false)], []⟩⟩
@[reducible] noncomputable def sig27 : Sig := gsig sg27 F_ref10_Order
set_option maxRecDepth 100000 in
theorem f27_is : ∀ (x : sg27.X) (vs : List Value), denS GT [(13, sig13), (33, sig33)] ⟨4, [], [], true, [], []⟩ ⟨12, [], 12⟩ (bodyOf Try.f27) sg27.out.Y (initSt (sg27.pre x) (sg27.heap x) 68 sg27.pin vs) (fun e s => finC GT [.tmp 2, .tmp 3] [] sg27.pin [] [] e s sg27.out.dec) = F_ref10_Order x := fun x vs => by kernel_rfl
theorem f27_ok : SigOk Try.prog GT.gl 27 sig27 := gfn (Γ := GT) (nt := 68) (rs := [.tmp 2, .tmp 3]) GT_ok (sigs_cons f13_ok (by kernel_rfl) (sigs_cons f33_ok (by kernel_rfl) sigs_nil)) Try.func27 (by kernel_rfl) (by kernel_rfl) (by kernel_rfl) (by decide) (by decide) f27_is
@[reducible] noncomputable def sg8 : SigD := ⟨[.data tGrammar], [], [], ⟨[.data .bool], [], []⟩⟩
@[reducible] noncomputable def sig8 : Sig := gsig sg8 F_law10_FordOrders
set_option maxRecDepth 100000 in
theorem f8_is : ∀ (x : sg8.X) (vs : List Value), denS GTL [(11, sig11), (14, sig14), (15, sig15), (16, sig16), (26, sig26), (27, sig27)] ⟨4, [], [], true, [], []⟩ ⟨4, [], 4⟩ (bodyOf Try.f8) sg8.out.Y (initSt (sg8.pre x) (sg8.heap x) 36 sg8.pin vs) (fun e s => finC GTL [.tmp 2] [] sg8.pin [] [] e s sg8.out.dec) = F_law10_FordOrders x := fun x vs => by kernel_rfl
theorem f8_ok : SigOk Try.prog GT.gl 8 sig8 := gfn (Γ := GTL) (nt := 36) (rs := [.tmp 2]) GTL_ok (sigs_cons f11_ok (by kernel_rfl) (sigs_cons f14_ok (by kernel_rfl) (sigs_cons f15_ok (by kernel_rfl) (sigs_cons f16_ok (by kernel_rfl) (sigs_cons f26_ok (by kernel_rfl) (sigs_cons f27_ok (by kernel_rfl) sigs_nil)))))) Try.func8 (by kernel_rfl) (by kernel_rfl) (by kernel_rfl) (by decide) (by decide) f8_is
@[reducible] noncomputable def sg28 : SigD := ⟨[.same (.full 1000 (.int .i64)), .data (.int .i64)], [(1000, .row 3 (.int .i64) false)], [], ⟨[], [], []⟩⟩
@[reducible] noncomputable def sig28 : Sig := gsig sg28 F_book_SpoilInts
set_option maxRecDepth 100000 in
theorem f28_is : ∀ (x : sg28.X) (vs : List Value), denS GT [] ⟨4, [], [], true, [], []⟩ ⟨0, [], 0⟩ (bodyOf Try.f28) sg28.out.Y (initSt (sg28.pre x) (sg28.heap x) 19 sg28.pin vs) (fun e s => finC GT [] [] sg28.pin [] [] e s sg28.out.dec) = F_book_SpoilInts x := fun x vs => by kernel_rfl
theorem f28_ok : SigOk Try.prog GT.gl 28 sig28 := gfn (Γ := GT) (nt := 19) (rs := []) GT_ok sigs_nil Try.func28 (by kernel_rfl) (by kernel_rfl) (by kernel_rfl) (by decide) (by decide) f28_is
@[reducible] noncomputable def sg10 : SigD := ⟨[.data tGrammar, .data (.int .i64)], [], [], ⟨[.data .bool], [], []⟩⟩
set_option maxRecDepth 100000 in
theorem f10_is : ∀ (x : sg10.X) (vs : List Value), denS GTL [(3, sig3), (6, sig6), (8, sig8), (11, sig11), (12, sig12), (16, sig16), (20, sig20), (26, sig26), (28, sig28)] ⟨4, [], [], true, [], []⟩ ⟨16, [], 16⟩ (bodyOf Try.f10) sg10.out.Y (initSt (sg10.pre x) (sg10.heap x) 58 sg10.pin vs) (fun e s => finC GTL [.tmp 4] [] sg10.pin [] [] e s sg10.out.dec) = F_law10_FordOwn x := fun x vs => by kernel_rfl
theorem f10_h {x : sg10.X} {y : sg10.out.Y} (h : F_law10_FordOwn x = some y) : FnH Try.prog GT.gl 10 (sg10.pre x) (sg10.heap x) (sg10.out.out y).1 (sg10.out.out y).2.1 (sg10.out.out y).2.2 := gfnH (Γ := GTL) (nt := 58) (rs := [.tmp 4]) GTL_ok (sigs_cons f3_ok (by kernel_rfl) (sigs_cons f6_ok (by kernel_rfl) (sigs_cons f8_ok (by kernel_rfl) (sigs_cons f11_ok (by kernel_rfl) (sigs_cons f12_ok (by kernel_rfl) (sigs_cons f16_ok (by kernel_rfl) (sigs_cons f20_ok (by kernel_rfl) (sigs_cons f26_ok (by kernel_rfl) (sigs_cons f28_ok (by kernel_rfl) sigs_nil))))))))) Try.func10 (by kernel_rfl) (by kernel_rfl) (by kernel_rfl) (by decide) (by decide) f10_is h
end Go.Proofs
