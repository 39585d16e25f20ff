/- Part of the proof of the law's row: YtlignclejgdpeaaWwC09. -/
import Derived.Test.YtlignclejgdpeaaWtC09
import Derived.Test.YtlignclejgdpeaaWpC09
set_option linter.all false
set_option linter.unusedVariables false
set_option linter.unusedSimpArgs false
/-! The functions compute that. -/
namespace Go.Proofs
open Go Go.Abs
@[reducible] noncomputable def sg28 : SigD := ⟨[.data tGrammar], [], [], ⟨[.data (.map 9 3 .str (.int .i64))], [], []⟩⟩
@[reducible] noncomputable def sig28 : Sig := gsig sg28 F_rules_numbers
set_option maxRecDepth 100000 in
theorem f28_is : ∀ (x : sg28.X) (vs : List Value), denS GT [] ⟨4, [], [], true, [], []⟩ ⟨4, [], 4⟩ (bodyOf Try.f28) sg28.out.Y (initSt (sg28.pre x) (sg28.heap x) 32 sg28.pin vs) (fun e s => finC GT [.tmp 2] [] sg28.pin [] [true] e s sg28.out.dec) = F_rules_numbers x := fun x vs => by kernel_rfl
theorem f28_ok : SigOk Try.prog GT.gl 28 sig28 := gfn (Γ := GT) (nt := 32) (rs := [.tmp 2]) GT_ok sigs_nil Try.func28 (by kernel_rfl) (by kernel_rfl) (by kernel_rfl) (by decide) (by decide) f28_is
@[reducible] noncomputable def sg44 : SigD := ⟨[.data (.int .u8)], [], [], ⟨[.data .bool], [], []⟩⟩
@[reducible] noncomputable def sig44 : Sig := gsig sg44 F_rules_isHead
set_option maxRecDepth 100000 in
theorem f44_is : ∀ (x : sg44.X) (vs : List Value), denS GT [] ⟨4, [], [], true, [], []⟩ ⟨4, [], 4⟩ (bodyOf Try.f44) sg44.out.Y (initSt (sg44.pre x) (sg44.heap x) 21 sg44.pin vs) (fun e s => finC GT [.tmp 2] [] sg44.pin [] [] e s sg44.out.dec) = F_rules_isHead x := fun x vs => by kernel_rfl
theorem f44_ok : SigOk Try.prog GT.gl 44 sig44 := gfn (Γ := GT) (nt := 21) (rs := [.tmp 2]) GT_ok sigs_nil Try.func44 (by kernel_rfl) (by kernel_rfl) (by kernel_rfl) (by decide) (by decide) f44_is
@[reducible] noncomputable def sg29 : SigD := ⟨[.data .str], [], [], ⟨[.data .bool], [], []⟩⟩
@[reducible] noncomputable def sig29 : Sig := gsig sg29 F_rules_Name
set_option maxRecDepth 100000 in
theorem f29_is : ∀ (x : sg29.X) (vs : List Value), denS GT [(44, sig44)] ⟨4, [], [], true, [], []⟩ ⟨4, [], 4⟩ (bodyOf Try.f29) sg29.out.Y (initSt (sg29.pre x) (sg29.heap x) 40 sg29.pin vs) (fun e s => finC GT [.tmp 2] [] sg29.pin [] [] e s sg29.out.dec) = F_rules_Name x := fun x vs => by kernel_rfl
theorem f29_ok : SigOk Try.prog GT.gl 29 sig29 := gfn (Γ := GT) (nt := 40) (rs := [.tmp 2]) GT_ok (sigs_cons f44_ok (by kernel_rfl) sigs_nil) Try.func29 (by kernel_rfl) (by kernel_rfl) (by kernel_rfl) (by decide) (by decide) f29_is
@[reducible] noncomputable def sg38 : SigD := ⟨[.data (.int .i64)], [], [], ⟨[.data (.int .i64)], [], []⟩⟩
@[reducible] noncomputable def sig38 : Sig := gsig sg38 F_tree_Arity
set_option maxRecDepth 100000 in
theorem f38_is : ∀ (x : sg38.X) (vs : List Value), denS GT [] ⟨4, [], [], false, [], []⟩ ⟨4, [], 4⟩ (bodyOf Try.f38) sg38.out.Y (initSt (sg38.pre x) (sg38.heap x) 28 sg38.pin vs) (fun e s => finC GT [.tmp 2] [] sg38.pin [] [] e s sg38.out.dec) = F_tree_Arity x := fun x vs => by kernel_rfl
theorem f38_ok : SigOk Try.prog GT.gl 38 sig38 := gfn (Γ := GT) (nt := 28) (rs := [.tmp 2]) GT_ok sigs_nil Try.func38 (by kernel_rfl) (by kernel_rfl) (by kernel_rfl) (by decide) (by decide) f38_is
@[reducible] noncomputable def sg70 : SigD := ⟨[.data (.int .i64)], [], [], ⟨[.data .bool], [], []⟩⟩
@[reducible] noncomputable def sig70 : Sig := gsig sg70 F_tree_counted
set_option maxRecDepth 100000 in
theorem f70_is : ∀ (x : sg70.X) (vs : List Value), denS GT [] ⟨4, [], [], false, [], []⟩ ⟨4, [], 4⟩ (bodyOf Try.f70) sg70.out.Y (initSt (sg70.pre x) (sg70.heap x) 13 sg70.pin vs) (fun e s => finC GT [.tmp 2] [] sg70.pin [] [] e s sg70.out.dec) = F_tree_counted x := fun x vs => by kernel_rfl
theorem f70_ok : SigOk Try.prog GT.gl 70 sig70 := gfn (Γ := GT) (nt := 13) (rs := [.tmp 2]) GT_ok sigs_nil Try.func70 (by kernel_rfl) (by kernel_rfl) (by kernel_rfl) (by decide) (by decide) f70_is
@[reducible] noncomputable def sg73 : SigD := ⟨[.data (.int .u8)], [], [], ⟨[.data .bool], [], []⟩⟩
@[reducible] noncomputable def sig73 : Sig := gsig sg73 F_tree_isHead
set_option maxRecDepth 100000 in
theorem f73_is : ∀ (x : sg73.X) (vs : List Value), denS GT [] ⟨4, [], [], false, [], []⟩ ⟨4, [], 4⟩ (bodyOf Try.f73) sg73.out.Y (initSt (sg73.pre x) (sg73.heap x) 19 sg73.pin vs) (fun e s => finC GT [.tmp 2] [] sg73.pin [] [] e s sg73.out.dec) = F_tree_isHead x := fun x vs => by kernel_rfl
theorem f73_ok : SigOk Try.prog GT.gl 73 sig73 := gfn (Γ := GT) (nt := 19) (rs := [.tmp 2]) GT_ok sigs_nil Try.func73 (by kernel_rfl) (by kernel_rfl) (by kernel_rfl) (by decide) (by decide) f73_is
@[reducible] noncomputable def sg71 : SigD := ⟨[.data .str], [], [], ⟨[.data .bool], [], []⟩⟩
@[reducible] noncomputable def sig71 : Sig := gsig sg71 F_tree_isName
set_option maxRecDepth 100000 in
theorem f71_is : ∀ (x : sg71.X) (vs : List Value), denS GT [(73, sig73)] ⟨4, [], [], false, [], []⟩ ⟨4, [], 4⟩ (bodyOf Try.f71) sg71.out.Y (initSt (sg71.pre x) (sg71.heap x) 40 sg71.pin vs) (fun e s => finC GT [.tmp 2] [] sg71.pin [] [] e s sg71.out.dec) = F_tree_isName x := fun x vs => by kernel_rfl
theorem f71_ok : SigOk Try.prog GT.gl 71 sig71 := gfn (Γ := GT) (nt := 40) (rs := [.tmp 2]) GT_ok (sigs_cons f73_ok (by kernel_rfl) sigs_nil) Try.func71 (by kernel_rfl) (by kernel_rfl) (by kernel_rfl) (by decide) (by decide) f71_is
@[reducible] noncomputable def sg72 : SigD := ⟨[.data .str], [], [], ⟨[.data .bool], [], []⟩⟩
@[reducible] noncomputable def sig72 : Sig := gsig sg72 F_tree_isTemplate
set_option maxRecDepth 100000 in
theorem f72_is : ∀ (x : sg72.X) (vs : List Value), denS GT [] ⟨4, [], [], false, [], []⟩ ⟨4, [], 4⟩ (bodyOf Try.f72) sg72.out.Y (initSt (sg72.pre x) (sg72.heap x) 41 sg72.pin vs) (fun e s => finC GT [.tmp 2] [] sg72.pin [] [] e s sg72.out.dec) = F_tree_isTemplate x := fun x vs => by kernel_rfl
theorem f72_ok : SigOk Try.prog GT.gl 72 sig72 := gfn (Γ := GT) (nt := 41) (rs := [.tmp 2]) GT_ok sigs_nil Try.func72 (by kernel_rfl) (by kernel_rfl) (by kernel_rfl) (by decide) (by decide) f72_is
@[reducible] noncomputable def sg59 : SigD := ⟨[.data tNode], [], [], ⟨[.data .bool], [], []⟩⟩
@[reducible] noncomputable def sig59 : Sig := gsig sg59 F_tree_fields
set_option maxRecDepth 100000 in
theorem f59_is : ∀ (x : sg59.X) (vs : List Value), denS GT [(70, sig70), (71, sig71), (72, sig72)] ⟨4, [], [], false, [], []⟩ ⟨4, [], 4⟩ (bodyOf Try.f59) sg59.out.Y (initSt (sg59.pre x) (sg59.heap x) 67 sg59.pin vs) (fun e s => finC GT [.tmp 2] [] sg59.pin [] [] e s sg59.out.dec) = F_tree_fields x := fun x vs => by kernel_rfl
theorem f59_ok : SigOk Try.prog GT.gl 59 sig59 := gfn (Γ := GT) (nt := 67) (rs := [.tmp 2]) GT_ok (sigs_cons f70_ok (by kernel_rfl) (sigs_cons f71_ok (by kernel_rfl) (sigs_cons f72_ok (by kernel_rfl) sigs_nil))) Try.func59 (by kernel_rfl) (by kernel_rfl) (by kernel_rfl) (by decide) (by decide) f59_is
@[reducible] noncomputable def sg46 : SigD := ⟨[.data (.int .i64), .data tshape], [], [], ⟨[], [], []⟩⟩
@[reducible] noncomputable def sig46 : Sig := gsig sg46 F_tree_Check_1
set_option maxRecDepth 100000 in
theorem f46_is : ∀ (x : sg46.X) (vs : List Value), denS GT [] ⟨4, [], [], false, [], []⟩ ⟨0, [], 0⟩ (bodyOf Try.f46) sg46.out.Y (initSt (sg46.pre x) (sg46.heap x) 4 sg46.pin vs) (fun e s => finC GT [] [] sg46.pin [] [] e s sg46.out.dec) = F_tree_Check_1 x := fun x vs => by kernel_rfl
theorem f46_ok : SigOk Try.prog GT.gl 46 sig46 := gfn (Γ := GT) (nt := 4) (rs := []) GT_ok sigs_nil Try.func46 (by kernel_rfl) (by kernel_rfl) (by kernel_rfl) (by decide) (by decide) f46_is
@[reducible] noncomputable def sg45_chk : SigD := ⟨[.data (.sl 60 tNode), .same (.fn 46 [])], [], [], ⟨[.data (.int .i64), .data (.int .i64)], [], []⟩⟩
@[reducible] noncomputable def sig45_chk : Sig := gsig sg45_chk F_tree_each_chk
set_option maxRecDepth 100000 in
theorem f45_chk_is : ∀ (x : sg45_chk.X) (vs : List Value), denS GT [(38, sig38), (59, sig59), (46, sig46)] ⟨4, [], [], false, [], []⟩ ⟨48, [], 48⟩ (bodyOf Try.f45) sg45_chk.out.Y (initSt (sg45_chk.pre x) (sg45_chk.heap x) 108 sg45_chk.pin vs) (fun e s => finC GT [.tmp 4, .tmp 5] [] sg45_chk.pin [] [] e s sg45_chk.out.dec) = F_tree_each_chk x := fun x vs => by kernel_rfl
theorem f45_chk_ok : SigOk Try.prog GT.gl 45 sig45_chk := gfn (Γ := GT) (nt := 108) (rs := [.tmp 4, .tmp 5]) GT_ok (sigs_cons f38_ok (by kernel_rfl) (sigs_cons f59_ok (by kernel_rfl) (sigs_cons f46_ok (by kernel_rfl) sigs_nil))) Try.func45 (by kernel_rfl) (by kernel_rfl) (by kernel_rfl) (by decide) (by decide) f45_chk_is
@[reducible] noncomputable def sg30 : SigD := ⟨[.data (.sl 60 tNode)], [], [], ⟨[.data (.int .i64), .data (.int .i64)], [], []⟩⟩
@[reducible] noncomputable def sig30 : Sig := gsig sg30 F_tree_Check
set_option maxRecDepth 100000 in
theorem f30_is : ∀ (x : sg30.X) (vs : List Value), denS GT [(45, sig45_chk), (46, sig46)] ⟨4, [], [], false, [], []⟩ ⟨12, [], 12⟩ (bodyOf Try.f30) sg30.out.Y (initSt (sg30.pre x) (sg30.heap x) 11 sg30.pin vs) (fun e s => finC GT [.tmp 2, .tmp 3] [] sg30.pin [] [] e s sg30.out.dec) = F_tree_Check x := fun x vs => by kernel_rfl
theorem f30_ok : SigOk Try.prog GT.gl 30 sig30 := gfn (Γ := GT) (nt := 11) (rs := [.tmp 2, .tmp 3]) GT_ok (sigs_cons f45_chk_ok (by kernel_rfl) (sigs_cons f46_ok (by kernel_rfl) sigs_nil)) Try.func30 (by kernel_rfl) (by kernel_rfl) (by kernel_rfl) (by decide) (by decide) f30_is
@[reducible] noncomputable def sg18 : SigD := ⟨[.data tGrammar], [], [], ⟨[.data tSpot, .data (.int .i64)], [], []⟩⟩
@[reducible] noncomputable def sig18 : Sig := gsig sg18 F_rules_Check
set_option maxRecDepth 100000 in
theorem f18_is : ∀ (x : sg18.X) (vs : List Value), denS GT [(28, sig28), (29, sig29), (30, sig30)] ⟨4, [], [], true, [], []⟩ ⟨12, [], 12⟩ (bodyOf Try.f18) sg18.out.Y (initSt (sg18.pre x) (sg18.heap x) 119 sg18.pin vs) (fun e s => finC GT [.cell 2 48, .tmp 3] [] sg18.pin [] [] e s sg18.out.dec) = F_rules_Check x := fun x vs => by kernel_rfl
theorem f18_ok : SigOk Try.prog GT.gl 18 sig18 := gfn (Γ := GT) (nt := 119) (rs := [.cell 2 48, .tmp 3]) GT_ok (sigs_cons f28_ok (by kernel_rfl) (sigs_cons f29_ok (by kernel_rfl) (sigs_cons f30_ok (by kernel_rfl) sigs_nil))) Try.func18 (by kernel_rfl) (by kernel_rfl) (by kernel_rfl) (by decide) (by decide) f18_is
@[reducible] noncomputable def sg51 : SigD := ⟨[.data (.int .i64)], [], [], ⟨[.data (.int .i64)], [], []⟩⟩
@[reducible] noncomputable def sig51 : Sig := gsig sg51 F_gist_capped
set_option maxRecDepth 100000 in
theorem f51_is : ∀ (x : sg51.X) (vs : List Value), denS GT [] ⟨4, [], [], true, [], []⟩ ⟨4, [], 4⟩ (bodyOf Try.f51) sg51.out.Y (initSt (sg51.pre x) (sg51.heap x) 5 sg51.pin vs) (fun e s => finC GT [.tmp 2] [] sg51.pin [] [] e s sg51.out.dec) = F_gist_capped x := fun x vs => by kernel_rfl
theorem f51_ok : SigOk Try.prog GT.gl 51 sig51 := gfn (Γ := GT) (nt := 5) (rs := [.tmp 2]) GT_ok sigs_nil Try.func51 (by kernel_rfl) (by kernel_rfl) (by kernel_rfl) (by decide) (by decide) f51_is
@[reducible] noncomputable def sg50_capped : SigD := ⟨[.data (.int .i64), .data (.int .i64), .same (.fn 51 [])], [], [], ⟨[.data (.int .i64)], [], []⟩⟩
@[reducible] noncomputable def sig50_capped : Sig := gsig sg50_capped F_gist_sum_capped
set_option maxRecDepth 100000 in
theorem f50_capped_is : ∀ (x : sg50_capped.X) (vs : List Value), denS GT [(51, sig51)] ⟨4, [], [], true, [], []⟩ ⟨64, [], 64⟩ (bodyOf Try.f50) sg50_capped.out.Y (initSt (sg50_capped.pre x) (sg50_capped.heap x) 18 sg50_capped.pin vs) (fun e s => finC GT [.tmp 6] [] sg50_capped.pin [] [] e s sg50_capped.out.dec) = F_gist_sum_capped x := fun x vs => by kernel_rfl
theorem f50_capped_ok : SigOk Try.prog GT.gl 50 sig50_capped := gfn (Γ := GT) (nt := 18) (rs := [.tmp 6]) GT_ok (sigs_cons f51_ok (by kernel_rfl) sigs_nil) Try.func50 (by kernel_rfl) (by kernel_rfl) (by kernel_rfl) (by decide) (by decide) f50_capped_is
@[reducible] noncomputable def sg52 : SigD := ⟨[.data (.int .i64)], [], [], ⟨[.data (.int .i64)], [], []⟩⟩
@[reducible] noncomputable def sig52 : Sig := gsig sg52 F_gist_bounded
set_option maxRecDepth 100000 in
theorem f52_is : ∀ (x : sg52.X) (vs : List Value), denS GT [] ⟨4, [], [], true, [], []⟩ ⟨4, [], 4⟩ (bodyOf Try.f52) sg52.out.Y (initSt (sg52.pre x) (sg52.heap x) 6 sg52.pin vs) (fun e s => finC GT [.tmp 2] [] sg52.pin [] [] e s sg52.out.dec) = F_gist_bounded x := fun x vs => by kernel_rfl
theorem f52_ok : SigOk Try.prog GT.gl 52 sig52 := gfn (Γ := GT) (nt := 6) (rs := [.tmp 2]) GT_ok sigs_nil Try.func52 (by kernel_rfl) (by kernel_rfl) (by kernel_rfl) (by decide) (by decide) f52_is
@[reducible] noncomputable def sg50_bounded : SigD := ⟨[.data (.int .i64), .data (.int .i64), .same (.fn 52 [])], [], [], ⟨[.data (.int .i64)], [], []⟩⟩
@[reducible] noncomputable def sig50_bounded : Sig := gsig sg50_bounded F_gist_sum_bounded
set_option maxRecDepth 100000 in
theorem f50_bounded_is : ∀ (x : sg50_bounded.X) (vs : List Value), denS GT [(52, sig52)] ⟨4, [], [], true, [], []⟩ ⟨64, [], 64⟩ (bodyOf Try.f50) sg50_bounded.out.Y (initSt (sg50_bounded.pre x) (sg50_bounded.heap x) 18 sg50_bounded.pin vs) (fun e s => finC GT [.tmp 6] [] sg50_bounded.pin [] [] e s sg50_bounded.out.dec) = F_gist_sum_bounded x := fun x vs => by kernel_rfl
theorem f50_bounded_ok : SigOk Try.prog GT.gl 50 sig50_bounded := gfn (Γ := GT) (nt := 18) (rs := [.tmp 6]) GT_ok (sigs_cons f52_ok (by kernel_rfl) sigs_nil) Try.func50 (by kernel_rfl) (by kernel_rfl) (by kernel_rfl) (by decide) (by decide) f50_bounded_is
@[reducible] noncomputable def sg39 : SigD := ⟨[.data tEmptiness, .data tEmptiness], [], [], ⟨[.data tEmptiness], [], []⟩⟩
@[reducible] noncomputable def sig39 : Sig := gsig sg39 F_gist_row
set_option maxRecDepth 100000 in
theorem f39_is : ∀ (x : sg39.X) (vs : List Value), denS GT [(50, (sigOr (hasFn 51) sig50_capped sig50_bounded)), (51, sig51), (52, sig52)] ⟨4, [], [], true, [], []⟩ ⟨16, [], 16⟩ (bodyOf Try.f39) sg39.out.Y (initSt (sg39.pre x) (sg39.heap x) 28 sg39.pin vs) (fun e s => finC GT [.cell 4 33] [] sg39.pin [] [] e s sg39.out.dec) = F_gist_row x := fun x vs => by kernel_rfl
theorem f39_ok : SigOk Try.prog GT.gl 39 sig39 := gfn (Γ := GT) (nt := 28) (rs := [.cell 4 33]) GT_ok (sigs_cons (sigOr_ok f50_capped_ok f50_bounded_ok) (by kernel_rfl) (sigs_cons f51_ok (by kernel_rfl) (sigs_cons f52_ok (by kernel_rfl) sigs_nil))) Try.func39 (by kernel_rfl) (by kernel_rfl) (by kernel_rfl) (by decide) (by decide) f39_is
@[reducible] noncomputable def sg40 : SigD := ⟨[.data tEmptiness, .data tEmptiness], [], [], ⟨[.data tEmptiness], [], []⟩⟩
@[reducible] noncomputable def sig40 : Sig := gsig sg40 F_gist_either
set_option maxRecDepth 100000 in
theorem f40_is : ∀ (x : sg40.X) (vs : List Value), denS GT [] ⟨4, [], [], true, [], []⟩ ⟨16, [], 16⟩ (bodyOf Try.f40) sg40.out.Y (initSt (sg40.pre x) (sg40.heap x) 54 sg40.pin vs) (fun e s => finC GT [.cell 4 33] [] sg40.pin [] [] e s sg40.out.dec) = F_gist_either x := fun x vs => by kernel_rfl
theorem f40_ok : SigOk Try.prog GT.gl 40 sig40 := gfn (Γ := GT) (nt := 54) (rs := [.cell 4 33]) GT_ok sigs_nil Try.func40 (by kernel_rfl) (by kernel_rfl) (by kernel_rfl) (by decide) (by decide) f40_is
@[reducible] noncomputable def sg53 : SigD := ⟨[.data (.int .i64)], [], [], ⟨[.data tEmptiness], [], []⟩⟩
@[reducible] noncomputable def sig53 : Sig := gsig sg53 F_gist_atom
set_option maxRecDepth 100000 in
theorem f53_is : ∀ (x : sg53.X) (vs : List Value), denS GT [] ⟨4, [], [], true, [], []⟩ ⟨4, [], 4⟩ (bodyOf Try.f53) sg53.out.Y (initSt (sg53.pre x) (sg53.heap x) 6 sg53.pin vs) (fun e s => finC GT [.cell 2 33] [] sg53.pin [] [] e s sg53.out.dec) = F_gist_atom x := fun x vs => by kernel_rfl
theorem f53_ok : SigOk Try.prog GT.gl 53 sig53 := gfn (Γ := GT) (nt := 6) (rs := [.cell 2 33]) GT_ok sigs_nil Try.func53 (by kernel_rfl) (by kernel_rfl) (by kernel_rfl) (by decide) (by decide) f53_is
@[reducible] noncomputable def sg54 : SigD := ⟨[.data tEmptiness], [], [], ⟨[.data (.int .i64)], [], []⟩⟩
@[reducible] noncomputable def sig54 : Sig := gsig sg54 F_gist_loop
set_option maxRecDepth 100000 in
theorem f54_is : ∀ (x : sg54.X) (vs : List Value), denS GT [] ⟨4, [], [], true, [], []⟩ ⟨4, [], 4⟩ (bodyOf Try.f54) sg54.out.Y (initSt (sg54.pre x) (sg54.heap x) 6 sg54.pin vs) (fun e s => finC GT [.tmp 2] [] sg54.pin [] [] e s sg54.out.dec) = F_gist_loop x := fun x vs => by kernel_rfl
theorem f54_ok : SigOk Try.prog GT.gl 54 sig54 := gfn (Γ := GT) (nt := 6) (rs := [.tmp 2]) GT_ok sigs_nil Try.func54 (by kernel_rfl) (by kernel_rfl) (by kernel_rfl) (by decide) (by decide) f54_is
@[reducible] noncomputable def sg67_capped : SigD := ⟨[.data (.int .i64), .data (.int .i64), .same (.fn 51 [])], [], [], ⟨[.data (.int .i64)], [], []⟩⟩
@[reducible] noncomputable def sig67_capped : Sig := gsig sg67_capped F_gist_times_capped
set_option maxRecDepth 100000 in
theorem f67_capped_is : ∀ (x : sg67_capped.X) (vs : List Value), denS GT [(51, sig51)] ⟨4, [], [], true, [], []⟩ ⟨64, [], 64⟩ (bodyOf Try.f67) sg67_capped.out.Y (initSt (sg67_capped.pre x) (sg67_capped.heap x) 14 sg67_capped.pin vs) (fun e s => finC GT [.tmp 6] [] sg67_capped.pin [] [] e s sg67_capped.out.dec) = F_gist_times_capped x := fun x vs => by kernel_rfl
theorem f67_capped_ok : SigOk Try.prog GT.gl 67 sig67_capped := gfn (Γ := GT) (nt := 14) (rs := [.tmp 6]) GT_ok (sigs_cons f51_ok (by kernel_rfl) sigs_nil) Try.func67 (by kernel_rfl) (by kernel_rfl) (by kernel_rfl) (by decide) (by decide) f67_capped_is
@[reducible] noncomputable def sg67_bounded : SigD := ⟨[.data (.int .i64), .data (.int .i64), .same (.fn 52 [])], [], [], ⟨[.data (.int .i64)], [], []⟩⟩
@[reducible] noncomputable def sig67_bounded : Sig := gsig sg67_bounded F_gist_times_bounded
set_option maxRecDepth 100000 in
theorem f67_bounded_is : ∀ (x : sg67_bounded.X) (vs : List Value), denS GT [(52, sig52)] ⟨4, [], [], true, [], []⟩ ⟨64, [], 64⟩ (bodyOf Try.f67) sg67_bounded.out.Y (initSt (sg67_bounded.pre x) (sg67_bounded.heap x) 14 sg67_bounded.pin vs) (fun e s => finC GT [.tmp 6] [] sg67_bounded.pin [] [] e s sg67_bounded.out.dec) = F_gist_times_bounded x := fun x vs => by kernel_rfl
theorem f67_bounded_ok : SigOk Try.prog GT.gl 67 sig67_bounded := gfn (Γ := GT) (nt := 14) (rs := [.tmp 6]) GT_ok (sigs_cons f52_ok (by kernel_rfl) sigs_nil) Try.func67 (by kernel_rfl) (by kernel_rfl) (by kernel_rfl) (by decide) (by decide) f67_bounded_is
@[reducible] noncomputable def sg55 : SigD := ⟨[.data tNode, .data tEmptiness], [], [], ⟨[.data tEmptiness], [], []⟩⟩
@[reducible] noncomputable def sig55 : Sig := gsig sg55 F_gist_counted
set_option maxRecDepth 100000 in
theorem f55_is : ∀ (x : sg55.X) (vs : List Value), denS GT [(51, sig51), (52, sig52), (54, sig54), (67, (sigOr (hasFn 51) sig67_capped sig67_bounded))] ⟨4, [], [], true, [], []⟩ ⟨16, [], 16⟩ (bodyOf Try.f55) sg55.out.Y (initSt (sg55.pre x) (sg55.heap x) 59 sg55.pin vs) (fun e s => finC GT [.cell 4 33] [] sg55.pin [] [] e s sg55.out.dec) = F_gist_counted x := fun x vs => by kernel_rfl
theorem f55_ok : SigOk Try.prog GT.gl 55 sig55 := gfn (Γ := GT) (nt := 59) (rs := [.cell 4 33]) GT_ok (sigs_cons f51_ok (by kernel_rfl) (sigs_cons f52_ok (by kernel_rfl) (sigs_cons f54_ok (by kernel_rfl) (sigs_cons (sigOr_ok f67_capped_ok f67_bounded_ok) (by kernel_rfl) sigs_nil)))) Try.func55 (by kernel_rfl) (by kernel_rfl) (by kernel_rfl) (by decide) (by decide) f55_is
@[reducible] noncomputable def sg41 : SigD := ⟨[.data tNode, .data tEmptiness], [], [], ⟨[.data tEmptiness], [], []⟩⟩
@[reducible] noncomputable def sig41 : Sig := gsig sg41 F_gist_one
set_option maxRecDepth 100000 in
theorem f41_is : ∀ (x : sg41.X) (vs : List Value), denS GT [(53, sig53), (54, sig54), (55, sig55)] ⟨4, [], [], true, [], []⟩ ⟨16, [], 16⟩ (bodyOf Try.f41) sg41.out.Y (initSt (sg41.pre x) (sg41.heap x) 56 sg41.pin vs) (fun e s => finC GT [.cell 4 33] [] sg41.pin [] [] e s sg41.out.dec) = F_gist_one x := fun x vs => by kernel_rfl
theorem f41_ok : SigOk Try.prog GT.gl 41 sig41 := gfn (Γ := GT) (nt := 56) (rs := [.cell 4 33]) GT_ok (sigs_cons f53_ok (by kernel_rfl) (sigs_cons f54_ok (by kernel_rfl) (sigs_cons f55_ok (by kernel_rfl) sigs_nil))) Try.func41 (by kernel_rfl) (by kernel_rfl) (by kernel_rfl) (by decide) (by decide) f41_is
@[reducible] noncomputable def sg33 : SigD := ⟨[.data .str, .same (.cptr 1000), .same (.cptr 1001)], [(1000, .csame 26 (.full 1500 tEmptiness)), (1500, .row 33 tEmptiness false), (1001, .cdata 65 (.map 9 3 .str (.int .i64)))], [1, 2], ⟨[.data tEmptiness], [(1000, .csame 26 (.full 1500 tEmptiness)), (1500, .row 33 tEmptiness false), (1001, .cdata 65 (.map 9 3 .str (.int .i64)))], [(1, .cptr 1000), (2, .cptr 1001)]⟩⟩
@[reducible] noncomputable def sig33 : Sig := gsig sg33 F_gist_Emptiness_1
set_option maxRecDepth 100000 in
theorem f33_is : ∀ (x : sg33.X) (vs : List Value), denS GT [] ⟨4, [], [], true, [], []⟩ ⟨22, [], 22⟩ (bodyOf Try.f33) sg33.out.Y (initSt (sg33.pre x) (sg33.heap x) 11 sg33.pin vs) (fun e s => finC GT [.cell 4 33] [1000, 1500, 1001] sg33.pin [] [] e s sg33.out.dec) = F_gist_Emptiness_1 x := fun x vs => by kernel_rfl
theorem f33_ok : SigOk Try.prog GT.gl 33 sig33 := gfn (Γ := GT) (nt := 11) (rs := [.cell 4 33]) GT_ok sigs_nil Try.func33 (by kernel_rfl) (by kernel_rfl) (by kernel_rfl) (by decide) (by decide) f33_is
@[reducible] noncomputable def sg22_em : SigD := ⟨[.data (.sl 60 tNode), .same (.fn 33 [.cptr 1000, .cptr 1001])], [(1000, .csame 26 (.full 1500 tEmptiness)), (1500, .row 33 tEmptiness false), (1001, .cdata 65 (.map 9 3 .str (.int .i64)))], [1], ⟨[.full 4 tEmptiness], [(4, .row 33 tEmptiness false), (1000, .csame 26 (.full 1500 tEmptiness)), (1500, .row 33 tEmptiness false), (1001, .cdata 65 (.map 9 3 .str (.int .i64)))], [(1, .fn 33 [.cptr 1000, .cptr 1001])]⟩⟩
@[reducible] noncomputable def sig22_em : Sig := gsig sg22_em F_gist_Lengths_em
set_option maxRecDepth 100000 in
theorem f22_em_is : ∀ (x : sg22_em.X) (vs : List Value), denS GT [(38, sig38), (39, sig39), (40, sig40), (41, sig41), (33, sig33)] ⟨4, [], [], true, [], []⟩ ⟨18, [], 18⟩ (bodyOf Try.f22) sg22_em.out.Y (initSt (sg22_em.pre x) (sg22_em.heap x) 81 sg22_em.pin vs) (fun e s => finC GT [.tmp 4] [1000, 1500, 1001] sg22_em.pin [] [] e s sg22_em.out.dec) = F_gist_Lengths_em x := fun x vs => by kernel_rfl
theorem f22_em_ok : SigOk Try.prog GT.gl 22 sig22_em := gfn (Γ := GT) (nt := 81) (rs := [.tmp 4]) GT_ok (sigs_cons f38_ok (by kernel_rfl) (sigs_cons f39_ok (by kernel_rfl) (sigs_cons f40_ok (by kernel_rfl) (sigs_cons f41_ok (by kernel_rfl) (sigs_cons f33_ok (by kernel_rfl) sigs_nil))))) Try.func22 (by kernel_rfl) (by kernel_rfl) (by kernel_rfl) (by decide) (by decide) f22_em_is
@[reducible] noncomputable def sg31 : SigD := ⟨[.data tGrammar], [], [], ⟨[.data (.map 9 3 .str (.int .i64))], [], []⟩⟩
@[reducible] noncomputable def sig31 : Sig := gsig sg31 F_gist_Numbers
set_option maxRecDepth 100000 in
theorem f31_is : ∀ (x : sg31.X) (vs : List Value), denS GT [] ⟨4, [], [], true, [], []⟩ ⟨4, [], 4⟩ (bodyOf Try.f31) sg31.out.Y (initSt (sg31.pre x) (sg31.heap x) 21 sg31.pin vs) (fun e s => finC GT [.tmp 2] [] sg31.pin [] [true] e s sg31.out.dec) = F_gist_Numbers x := fun x vs => by kernel_rfl
theorem f31_ok : SigOk Try.prog GT.gl 31 sig31 := gfn (Γ := GT) (nt := 21) (rs := [.tmp 2]) GT_ok sigs_nil Try.func31 (by kernel_rfl) (by kernel_rfl) (by kernel_rfl) (by decide) (by decide) f31_is
@[reducible] noncomputable def sg32 : SigD := ⟨[.data tGrammar, .data (.map 9 3 .str (.int .i64))], [], [], ⟨[.full 4 .bool], [(4, .row 4 .bool false)], []⟩⟩
@[reducible] noncomputable def sig32 : Sig := gsig sg32 F_gist_again
set_option maxRecDepth 100000 in
theorem f32_is : ∀ (x : sg32.X) (vs : List Value), denS (GTd [] [18] []) [] ⟨4, [], [15365, 19461], true, [], []⟩ ⟨16, [], 16⟩ (bodyOf Try.f32) sg32.out.Y (initSt (sg32.pre x) (sg32.heap x) 117 sg32.pin vs) (fun e s => finC (GTd [] [18] []) [.tmp 4] [] sg32.pin [] [] e s sg32.out.dec) = F_gist_again x := fun x vs => by kernel_rfl
theorem f32_ok : SigOk Try.prog GT.gl 32 sig32 := gfn (Γ := (GTd [] [18] [])) (nt := 117) (rs := [.tmp 4]) (GTd_ok _ _ _) sigs_nil Try.func32 (by kernel_rfl) (by kernel_rfl) (by kernel_rfl) (by decide) (by decide) f32_is
@[reducible] noncomputable def sg19 : SigD := ⟨[.data tGrammar], [], [], ⟨[.same (.fn 33 [.cptr 5, .cptr 3])], [(5, .csame 26 (.full 505 tEmptiness)), (505, .row 33 tEmptiness false), (3, .cdata 65 (.map 9 3 .str (.int .i64)))], []⟩⟩
@[reducible] noncomputable def sig19 : Sig := gsig sg19 F_gist_Emptiness
set_option maxRecDepth 100000 in
theorem f19_is : ∀ (x : sg19.X) (vs : List Value), denS (GTd [] [] [48]) [(22, sig22_em), (31, sig31), (32, sig32)] ⟨4, [], [], true, [], [18443]⟩ ⟨4, [], 4⟩ (bodyOf Try.f19) sg19.out.Y (initSt (sg19.pre x) (sg19.heap x) 73 sg19.pin vs) (fun e s => finC (GTd [] [] [48]) [.tmp 2] [] sg19.pin [] [] e s sg19.out.dec) = F_gist_Emptiness x := fun x vs => by kernel_rfl
theorem f19_ok : SigOk Try.prog GT.gl 19 sig19 := gfn (Γ := (GTd [] [] [48])) (nt := 73) (rs := [.tmp 2]) (GTd_ok _ _ _) (sigs_cons f22_em_ok (by kernel_rfl) (sigs_cons f31_ok (by kernel_rfl) (sigs_cons f32_ok (by kernel_rfl) sigs_nil))) Try.func19 (by kernel_rfl) (by kernel_rfl) (by kernel_rfl) (by decide) (by decide) f19_is
@[reducible] noncomputable def sg7 : SigD := ⟨[.data tGrammar], [], [], ⟨[.full 2 tEmptiness, .data (.int .i64)], [(2, .row 33 tEmptiness false)], []⟩⟩
@[reducible] noncomputable def sig7 : Sig := gsig sg7 F_empty_Rules
set_option maxRecDepth 100000 in
theorem f7_is : ∀ (x : sg7.X) (vs : List Value), denS GT [(18, sig18), (19, sig19), (33, sig33)] ⟨4, [], [], true, [], []⟩ ⟨12, [], 12⟩ (bodyOf Try.f7) sg7.out.Y (initSt (sg7.pre x) (sg7.heap x) 36 sg7.pin vs) (fun e s => finC GT [.tmp 2, .tmp 3] [] sg7.pin [] [] e s sg7.out.dec) = F_empty_Rules x := fun x vs => by kernel_rfl
theorem f7_ok : SigOk Try.prog GT.gl 7 sig7 := gfn (Γ := GT) (nt := 36) (rs := [.tmp 2, .tmp 3]) GT_ok (sigs_cons f18_ok (by kernel_rfl) (sigs_cons f19_ok (by kernel_rfl) (sigs_cons f33_ok (by kernel_rfl) sigs_nil))) Try.func7 (by kernel_rfl) (by kernel_rfl) (by kernel_rfl) (by decide) (by decide) f7_is
@[reducible] noncomputable def sg9 : SigD := ⟨[.data tGrammar, .data (.int .i64)], [], [], ⟨[.full 4 tEmptiness, .data (.int .i64)], [(4, .row 33 tEmptiness false)], []⟩⟩
@[reducible] noncomputable def sig9 : Sig := gsig sg9 F_empty_Parts
set_option maxRecDepth 100000 in
theorem f9_is : ∀ (x : sg9.X) (vs : List Value), denS GT [(18, sig18), (19, sig19), (22, sig22_em)] ⟨4, [], [], true, [], []⟩ ⟨48, [], 48⟩ (bodyOf Try.f9) sg9.out.Y (initSt (sg9.pre x) (sg9.heap x) 34 sg9.pin vs) (fun e s => finC GT [.tmp 4, .tmp 5] [] sg9.pin [] [] e s sg9.out.dec) = F_empty_Parts x := fun x vs => by kernel_rfl
theorem f9_ok : SigOk Try.prog GT.gl 9 sig9 := gfn (Γ := GT) (nt := 34) (rs := [.tmp 4, .tmp 5]) GT_ok (sigs_cons f18_ok (by kernel_rfl) (sigs_cons f19_ok (by kernel_rfl) (sigs_cons f22_em_ok (by kernel_rfl) sigs_nil))) Try.func9 (by kernel_rfl) (by kernel_rfl) (by kernel_rfl) (by decide) (by decide) f9_is
@[reducible] noncomputable def sg13 : SigD := ⟨[], [], [], ⟨[.data .bool], [], []⟩⟩
@[reducible] noncomputable def sig13 : Sig := gsig sg13 F_law09_works
set_option maxRecDepth 100000 in
theorem f13_is : ∀ (x : sg13.X) (vs : List Value), denS GT [(7, sig7)] ⟨4, [], [], true, [], []⟩ ⟨1, [], 1⟩ (bodyOf Try.f13) sg13.out.Y (initSt (sg13.pre x) (sg13.heap x) 50 sg13.pin vs) (fun e s => finC GT [.tmp 0] [] sg13.pin [] [] e s sg13.out.dec) = F_law09_works x := fun x vs => by kernel_rfl
theorem f13_ok : SigOk Try.prog GT.gl 13 sig13 := gfn (Γ := GT) (nt := 50) (rs := [.tmp 0]) GT_ok (sigs_cons f7_ok (by kernel_rfl) sigs_nil) Try.func13 (by kernel_rfl) (by kernel_rfl) (by kernel_rfl) (by decide) (by decide) f13_is
@[reducible] noncomputable def sg68 : SigD := ⟨[.data (.sl 9 .str), .data .str], [], [], ⟨[.data (.int .i64)], [], []⟩⟩
@[reducible] noncomputable def sig68 : Sig := gsig sg68 F_slices_Index_string_string
set_option maxRecDepth 100000 in
theorem f68_is : ∀ (x : sg68.X) (vs : List Value), denS GT [] ⟨4, [], [], false, [], []⟩ ⟨16, [], 16⟩ (bodyOf Try.f68) sg68.out.Y (initSt (sg68.pre x) (sg68.heap x) 19 sg68.pin vs) (fun e s => finC GT [.tmp 4] [] sg68.pin [] [] e s sg68.out.dec) = F_slices_Index_string_string x := fun x vs => by kernel_rfl
theorem f68_ok : SigOk Try.prog GT.gl 68 sig68 := gfn (Γ := GT) (nt := 19) (rs := [.tmp 4]) GT_ok sigs_nil Try.func68 (by kernel_rfl) (by kernel_rfl) (by kernel_rfl) (by decide) (by decide) f68_is
@[reducible] noncomputable def sg56 : SigD := ⟨[.data (.sl 9 .str), .data .str], [], [], ⟨[.data .bool], [], []⟩⟩
@[reducible] noncomputable def sig56 : Sig := gsig sg56 F_slices_Contains_string_string
set_option maxRecDepth 100000 in
theorem f56_is : ∀ (x : sg56.X) (vs : List Value), denS GT [(68, sig68)] ⟨4, [], [], false, [], []⟩ ⟨16, [], 16⟩ (bodyOf Try.f56) sg56.out.Y (initSt (sg56.pre x) (sg56.heap x) 9 sg56.pin vs) (fun e s => finC GT [.tmp 4] [] sg56.pin [] [] e s sg56.out.dec) = F_slices_Contains_string_string x := fun x vs => by kernel_rfl
theorem f56_ok : SigOk Try.prog GT.gl 56 sig56 := gfn (Γ := GT) (nt := 9) (rs := [.tmp 4]) GT_ok (sigs_cons f68_ok (by kernel_rfl) sigs_nil) Try.func56 (by kernel_rfl) (by kernel_rfl) (by kernel_rfl) (by decide) (by decide) f56_is
@[reducible] noncomputable def sg42 : SigD := ⟨[.data (.sl 60 tNode)], [], [], ⟨[.full 2 .str, .data (.int .i64)], [(2, .row 9 .str false)], []⟩⟩
@[reducible] noncomputable def sig42 : Sig := gsig sg42 F_tree_Names
set_option maxRecDepth 100000 in
theorem f42_is : ∀ (x : sg42.X) (vs : List Value), denS GT [(30, sig30), (56, sig56)] ⟨4, [], [], false, [], []⟩ ⟨12, [], 12⟩ (bodyOf Try.f42) sg42.out.Y (initSt (sg42.pre x) (sg42.heap x) 40 sg42.pin vs) (fun e s => finC GT [.tmp 2, .tmp 3] [] sg42.pin [] [] e s sg42.out.dec) = F_tree_Names x := fun x vs => by kernel_rfl
theorem f42_ok : SigOk Try.prog GT.gl 42 sig42 := gfn (Γ := GT) (nt := 40) (rs := [.tmp 2, .tmp 3]) GT_ok (sigs_cons f30_ok (by kernel_rfl) (sigs_cons f56_ok (by kernel_rfl) sigs_nil)) Try.func42 (by kernel_rfl) (by kernel_rfl) (by kernel_rfl) (by decide) (by decide) f42_is
@[reducible] noncomputable def sg24 : SigD := ⟨[.data tGrammar, .data (.sl 60 tNode)], [], [], ⟨[.data (.int .i64)], [], []⟩⟩
@[reducible] noncomputable def sig24 : Sig := gsig sg24 F_empty_look
set_option maxRecDepth 100000 in
theorem f24_is : ∀ (x : sg24.X) (vs : List Value), denS GT [(31, sig31), (42, sig42)] ⟨4, [], [], true, [], []⟩ ⟨16, [], 16⟩ (bodyOf Try.f24) sg24.out.Y (initSt (sg24.pre x) (sg24.heap x) 37 sg24.pin vs) (fun e s => finC GT [.tmp 4] [] sg24.pin [] [] e s sg24.out.dec) = F_empty_look x := fun x vs => by kernel_rfl
theorem f24_ok : SigOk Try.prog GT.gl 24 sig24 := gfn (Γ := GT) (nt := 37) (rs := [.tmp 4]) GT_ok (sigs_cons f31_ok (by kernel_rfl) (sigs_cons f42_ok (by kernel_rfl) sigs_nil)) Try.func24 (by kernel_rfl) (by kernel_rfl) (by kernel_rfl) (by decide) (by decide) f24_is
@[reducible] noncomputable def sg15 : SigD := ⟨[.data tGrammar, .data (.sl 60 tNode)], [], [], ⟨[.data tEmptiness, .data (.int .i64)], [], []⟩⟩
@[reducible] noncomputable def sig15 : Sig := gsig sg15 F_empty_Of
set_option maxRecDepth 100000 in
theorem f15_is : ∀ (x : sg15.X) (vs : List Value), denS GT [(18, sig18), (19, sig19), (22, sig22_em), (24, sig24)] ⟨4, [], [], true, [], []⟩ ⟨48, [], 48⟩ (bodyOf Try.f15) sg15.out.Y (initSt (sg15.pre x) (sg15.heap x) 34 sg15.pin vs) (fun e s => finC GT [.cell 4 33, .tmp 5] [] sg15.pin [] [] e s sg15.out.dec) = F_empty_Of x := fun x vs => by kernel_rfl
theorem f15_ok : SigOk Try.prog GT.gl 15 sig15 := gfn (Γ := GT) (nt := 34) (rs := [.cell 4 33, .tmp 5]) GT_ok (sigs_cons f18_ok (by kernel_rfl) (sigs_cons f19_ok (by kernel_rfl) (sigs_cons f22_em_ok (by kernel_rfl) (sigs_cons f24_ok (by kernel_rfl) sigs_nil)))) Try.func15 (by kernel_rfl) (by kernel_rfl) (by kernel_rfl) (by decide) (by decide) f15_is
@[reducible] noncomputable def sg5 : SigD := ⟨[.data tGrammar], [], [], ⟨[.data .bool], [], []⟩⟩
set_option maxRecDepth 100000 in
theorem f5_is : ∀ (x : sg5.X) (vs : List Value), denS GT [(7, sig7), (9, sig9), (13, sig13), (15, sig15)] ⟨4, [], [], true, [], []⟩ ⟨4, [], 4⟩ (bodyOf Try.f5) sg5.out.Y (initSt (sg5.pre x) (sg5.heap x) 174 sg5.pin vs) (fun e s => finC GT [.tmp 2] [] sg5.pin [] [] e s sg5.out.dec) = F_law09_EmptyLeast x := fun x vs => by kernel_rfl
theorem f5_h {x : sg5.X} {y : sg5.out.Y} (h : F_law09_EmptyLeast x = some y) : FnH Try.prog GT.gl 5 (sg5.pre x) (sg5.heap x) (sg5.out.out y).1 (sg5.out.out y).2.1 (sg5.out.out y).2.2 := gfnH (Γ := GT) (nt := 174) (rs := [.tmp 2]) GT_ok (sigs_cons f7_ok (by kernel_rfl) (sigs_cons f9_ok (by kernel_rfl) (sigs_cons f13_ok (by kernel_rfl) (sigs_cons f15_ok (by kernel_rfl) sigs_nil)))) Try.func5 (by kernel_rfl) (by kernel_rfl) (by kernel_rfl) (by decide) (by decide) f5_is h
end Go.Proofs
