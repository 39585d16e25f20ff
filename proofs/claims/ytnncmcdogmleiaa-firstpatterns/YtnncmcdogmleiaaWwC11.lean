/- Part of the proof of the law's row: YtnncmcdogmleiaaWwC11. -/
import Derived.Test.YtnncmcdogmleiaaWtC11
import Derived.Test.YtnncmcdogmleiaaWpC11
set_option linter.all false
set_option linter.unusedVariables false
set_option linter.unusedSimpArgs false
/-! The functions compute that. -/
namespace Go.Proofs
open Go Go.Abs
@[reducible] noncomputable def sg14 : SigD := ⟨[.data (.sl 61 tNode)], [], [], ⟨[.own 2 tNode], [(2, .row 61 tNode false)], []⟩⟩
@[reducible] noncomputable def sig14 : Sig := gsig sg14 F_book_LendPattern
set_option maxRecDepth 100000 in
theorem f14_is : ∀ (x : sg14.X) (vs : List Value), denS GT [] ⟨4, [], [], false, [], []⟩ ⟨4, [], 4⟩ (bodyOf Try.f14) sg14.out.Y (initSt (sg14.pre x) (sg14.heap x) 12 sg14.pin vs) (fun e s => finC GT [.tmp 2] [] sg14.pin [] [] e s sg14.out.dec) = F_book_LendPattern x := fun x vs => by kernel_rfl
theorem f14_ok : SigOk Try.prog GT.gl 14 sig14 := gfn (Γ := GT) (nt := 12) (rs := [.tmp 2]) GT_ok sigs_nil Try.func14 (by kernel_rfl) (by kernel_rfl) (by kernel_rfl) (by decide) (by decide) f14_is
@[reducible] noncomputable def sg6 : SigD := ⟨[.data tGrammarL], [], [], ⟨[.data tGrammarL], [], []⟩⟩
@[reducible] noncomputable def sig6 : Sig := gsig sg6 F_book_LendGrammar
set_option maxRecDepth 100000 in
theorem f6_is : ∀ (x : sg6.X) (vs : List Value), denS GTL [(14, sig14)] ⟨4, [], [], true, [], []⟩ ⟨4, [], 4⟩ (bodyOf Try.f6) sg6.out.Y (initSt (sg6.pre x) (sg6.heap x) 37 sg6.pin vs) (fun e s => finC GTL [.cell 2 24] [] sg6.pin [] [true] e s sg6.out.dec) = F_book_LendGrammar x := fun x vs => by kernel_rfl
theorem f6_ok : SigOk Try.prog GT.gl 6 sig6 := gfn (Γ := GTL) (nt := 37) (rs := [.cell 2 24]) GTL_ok (sigs_cons f14_ok (by kernel_rfl) sigs_nil) Try.func6 (by kernel_rfl) (by kernel_rfl) (by kernel_rfl) (by decide) (by decide) f6_is
@[reducible] noncomputable def sg33 : SigD := ⟨[.data tGrammar], [], [], ⟨[.data (.map 9 3 .str (.int .i64))], [], []⟩⟩
@[reducible] noncomputable def sig33 : Sig := gsig sg33 F_rules_numbers
set_option maxRecDepth 100000 in
theorem f33_is : ∀ (x : sg33.X) (vs : List Value), denS GT [] ⟨4, [], [], true, [], []⟩ ⟨4, [], 4⟩ (bodyOf Try.f33) sg33.out.Y (initSt (sg33.pre x) (sg33.heap x) 32 sg33.pin vs) (fun e s => finC GT [.tmp 2] [] sg33.pin [] [true] e s sg33.out.dec) = F_rules_numbers x := fun x vs => by kernel_rfl
theorem f33_ok : SigOk Try.prog GT.gl 33 sig33 := gfn (Γ := GT) (nt := 32) (rs := [.tmp 2]) GT_ok sigs_nil Try.func33 (by kernel_rfl) (by kernel_rfl) (by kernel_rfl) (by decide) (by decide) f33_is
@[reducible] noncomputable def sg53 : SigD := ⟨[.data (.int .u8)], [], [], ⟨[.data .bool], [], []⟩⟩
@[reducible] noncomputable def sig53 : Sig := gsig sg53 F_rules_isHead
set_option maxRecDepth 100000 in
theorem f53_is : ∀ (x : sg53.X) (vs : List Value), denS GT [] ⟨4, [], [], true, [], []⟩ ⟨4, [], 4⟩ (bodyOf Try.f53) sg53.out.Y (initSt (sg53.pre x) (sg53.heap x) 21 sg53.pin vs) (fun e s => finC GT [.tmp 2] [] sg53.pin [] [] e s sg53.out.dec) = F_rules_isHead x := fun x vs => by kernel_rfl
theorem f53_ok : SigOk Try.prog GT.gl 53 sig53 := gfn (Γ := GT) (nt := 21) (rs := [.tmp 2]) GT_ok sigs_nil Try.func53 (by kernel_rfl) (by kernel_rfl) (by kernel_rfl) (by decide) (by decide) f53_is
@[reducible] noncomputable def sg34 : SigD := ⟨[.data .str], [], [], ⟨[.data .bool], [], []⟩⟩
@[reducible] noncomputable def sig34 : Sig := gsig sg34 F_rules_Name
set_option maxRecDepth 100000 in
theorem f34_is : ∀ (x : sg34.X) (vs : List Value), denS GT [(53, sig53)] ⟨4, [], [], true, [], []⟩ ⟨4, [], 4⟩ (bodyOf Try.f34) sg34.out.Y (initSt (sg34.pre x) (sg34.heap x) 40 sg34.pin vs) (fun e s => finC GT [.tmp 2] [] sg34.pin [] [] e s sg34.out.dec) = F_rules_Name x := fun x vs => by kernel_rfl
theorem f34_ok : SigOk Try.prog GT.gl 34 sig34 := gfn (Γ := GT) (nt := 40) (rs := [.tmp 2]) GT_ok (sigs_cons f53_ok (by kernel_rfl) sigs_nil) Try.func34 (by kernel_rfl) (by kernel_rfl) (by kernel_rfl) (by decide) (by decide) f34_is
@[reducible] noncomputable def sg58 : SigD := ⟨[.data (.int .i64)], [], [], ⟨[.data (.int .i64)], [], []⟩⟩
@[reducible] noncomputable def sig58 : Sig := gsig sg58 F_tree_Arity
set_option maxRecDepth 100000 in
theorem f58_is : ∀ (x : sg58.X) (vs : List Value), denS GT [] ⟨4, [], [], false, [], []⟩ ⟨4, [], 4⟩ (bodyOf Try.f58) sg58.out.Y (initSt (sg58.pre x) (sg58.heap x) 28 sg58.pin vs) (fun e s => finC GT [.tmp 2] [] sg58.pin [] [] e s sg58.out.dec) = F_tree_Arity x := fun x vs => by kernel_rfl
theorem f58_ok : SigOk Try.prog GT.gl 58 sig58 := gfn (Γ := GT) (nt := 28) (rs := [.tmp 2]) GT_ok sigs_nil Try.func58 (by kernel_rfl) (by kernel_rfl) (by kernel_rfl) (by decide) (by decide) f58_is
@[reducible] noncomputable def sg91 : SigD := ⟨[.data (.int .i64)], [], [], ⟨[.data .bool], [], []⟩⟩
@[reducible] noncomputable def sig91 : Sig := gsig sg91 F_tree_counted
set_option maxRecDepth 100000 in
theorem f91_is : ∀ (x : sg91.X) (vs : List Value), denS GT [] ⟨4, [], [], false, [], []⟩ ⟨4, [], 4⟩ (bodyOf Try.f91) sg91.out.Y (initSt (sg91.pre x) (sg91.heap x) 13 sg91.pin vs) (fun e s => finC GT [.tmp 2] [] sg91.pin [] [] e s sg91.out.dec) = F_tree_counted x := fun x vs => by kernel_rfl
theorem f91_ok : SigOk Try.prog GT.gl 91 sig91 := gfn (Γ := GT) (nt := 13) (rs := [.tmp 2]) GT_ok sigs_nil Try.func91 (by kernel_rfl) (by kernel_rfl) (by kernel_rfl) (by decide) (by decide) f91_is
@[reducible] noncomputable def sg103 : SigD := ⟨[.data (.int .u8)], [], [], ⟨[.data .bool], [], []⟩⟩
@[reducible] noncomputable def sig103 : Sig := gsig sg103 F_tree_isHead
set_option maxRecDepth 100000 in
theorem f103_is : ∀ (x : sg103.X) (vs : List Value), denS GT [] ⟨4, [], [], false, [], []⟩ ⟨4, [], 4⟩ (bodyOf Try.f103) sg103.out.Y (initSt (sg103.pre x) (sg103.heap x) 19 sg103.pin vs) (fun e s => finC GT [.tmp 2] [] sg103.pin [] [] e s sg103.out.dec) = F_tree_isHead x := fun x vs => by kernel_rfl
theorem f103_ok : SigOk Try.prog GT.gl 103 sig103 := gfn (Γ := GT) (nt := 19) (rs := [.tmp 2]) GT_ok sigs_nil Try.func103 (by kernel_rfl) (by kernel_rfl) (by kernel_rfl) (by decide) (by decide) f103_is
@[reducible] noncomputable def sg92 : SigD := ⟨[.data .str], [], [], ⟨[.data .bool], [], []⟩⟩
@[reducible] noncomputable def sig92 : Sig := gsig sg92 F_tree_isName
set_option maxRecDepth 100000 in
theorem f92_is : ∀ (x : sg92.X) (vs : List Value), denS GT [(103, sig103)] ⟨4, [], [], false, [], []⟩ ⟨4, [], 4⟩ (bodyOf Try.f92) sg92.out.Y (initSt (sg92.pre x) (sg92.heap x) 40 sg92.pin vs) (fun e s => finC GT [.tmp 2] [] sg92.pin [] [] e s sg92.out.dec) = F_tree_isName x := fun x vs => by kernel_rfl
theorem f92_ok : SigOk Try.prog GT.gl 92 sig92 := gfn (Γ := GT) (nt := 40) (rs := [.tmp 2]) GT_ok (sigs_cons f103_ok (by kernel_rfl) sigs_nil) Try.func92 (by kernel_rfl) (by kernel_rfl) (by kernel_rfl) (by decide) (by decide) f92_is
@[reducible] noncomputable def sg93 : SigD := ⟨[.data .str], [], [], ⟨[.data .bool], [], []⟩⟩
@[reducible] noncomputable def sig93 : Sig := gsig sg93 F_tree_isTemplate
set_option maxRecDepth 100000 in
theorem f93_is : ∀ (x : sg93.X) (vs : List Value), denS GT [] ⟨4, [], [], false, [], []⟩ ⟨4, [], 4⟩ (bodyOf Try.f93) sg93.out.Y (initSt (sg93.pre x) (sg93.heap x) 41 sg93.pin vs) (fun e s => finC GT [.tmp 2] [] sg93.pin [] [] e s sg93.out.dec) = F_tree_isTemplate x := fun x vs => by kernel_rfl
theorem f93_ok : SigOk Try.prog GT.gl 93 sig93 := gfn (Γ := GT) (nt := 41) (rs := [.tmp 2]) GT_ok sigs_nil Try.func93 (by kernel_rfl) (by kernel_rfl) (by kernel_rfl) (by decide) (by decide) f93_is
@[reducible] noncomputable def sg73 : SigD := ⟨[.data tNode], [], [], ⟨[.data .bool], [], []⟩⟩
@[reducible] noncomputable def sig73 : Sig := gsig sg73 F_tree_fields
set_option maxRecDepth 100000 in
theorem f73_is : ∀ (x : sg73.X) (vs : List Value), denS GT [(91, sig91), (92, sig92), (93, sig93)] ⟨4, [], [], false, [], []⟩ ⟨4, [], 4⟩ (bodyOf Try.f73) sg73.out.Y (initSt (sg73.pre x) (sg73.heap x) 67 sg73.pin vs) (fun e s => finC GT [.tmp 2] [] sg73.pin [] [] e s sg73.out.dec) = F_tree_fields x := fun x vs => by kernel_rfl
theorem f73_ok : SigOk Try.prog GT.gl 73 sig73 := gfn (Γ := GT) (nt := 67) (rs := [.tmp 2]) GT_ok (sigs_cons f91_ok (by kernel_rfl) (sigs_cons f92_ok (by kernel_rfl) (sigs_cons f93_ok (by kernel_rfl) sigs_nil))) Try.func73 (by kernel_rfl) (by kernel_rfl) (by kernel_rfl) (by decide) (by decide) f73_is
@[reducible] noncomputable def sg55 : SigD := ⟨[.data (.int .i64), .data tshape], [], [], ⟨[], [], []⟩⟩
@[reducible] noncomputable def sig55 : Sig := gsig sg55 F_tree_Check_1
set_option maxRecDepth 100000 in
theorem f55_is : ∀ (x : sg55.X) (vs : List Value), denS GT [] ⟨4, [], [], false, [], []⟩ ⟨0, [], 0⟩ (bodyOf Try.f55) sg55.out.Y (initSt (sg55.pre x) (sg55.heap x) 4 sg55.pin vs) (fun e s => finC GT [] [] sg55.pin [] [] e s sg55.out.dec) = F_tree_Check_1 x := fun x vs => by kernel_rfl
theorem f55_ok : SigOk Try.prog GT.gl 55 sig55 := gfn (Γ := GT) (nt := 4) (rs := []) GT_ok sigs_nil Try.func55 (by kernel_rfl) (by kernel_rfl) (by kernel_rfl) (by decide) (by decide) f55_is
@[reducible] noncomputable def sg54_chk : SigD := ⟨[.data (.sl 61 tNode), .same (.fn 55 [])], [], [], ⟨[.data (.int .i64), .data (.int .i64)], [], []⟩⟩
@[reducible] noncomputable def sig54_chk : Sig := gsig sg54_chk F_tree_each_chk
set_option maxRecDepth 100000 in
theorem f54_chk_is : ∀ (x : sg54_chk.X) (vs : List Value), denS GT [(58, sig58), (73, sig73), (55, sig55)] ⟨4, [], [], false, [], []⟩ ⟨48, [], 48⟩ (bodyOf Try.f54) sg54_chk.out.Y (initSt (sg54_chk.pre x) (sg54_chk.heap x) 108 sg54_chk.pin vs) (fun e s => finC GT [.tmp 4, .tmp 5] [] sg54_chk.pin [] [] e s sg54_chk.out.dec) = F_tree_each_chk x := fun x vs => by kernel_rfl
theorem f54_chk_ok : SigOk Try.prog GT.gl 54 sig54_chk := gfn (Γ := GT) (nt := 108) (rs := [.tmp 4, .tmp 5]) GT_ok (sigs_cons f58_ok (by kernel_rfl) (sigs_cons f73_ok (by kernel_rfl) (sigs_cons f55_ok (by kernel_rfl) sigs_nil))) Try.func54 (by kernel_rfl) (by kernel_rfl) (by kernel_rfl) (by decide) (by decide) f54_chk_is
@[reducible] noncomputable def sg35 : SigD := ⟨[.data (.sl 61 tNode)], [], [], ⟨[.data (.int .i64), .data (.int .i64)], [], []⟩⟩
@[reducible] noncomputable def sig35 : Sig := gsig sg35 F_tree_Check
set_option maxRecDepth 100000 in
theorem f35_is : ∀ (x : sg35.X) (vs : List Value), denS GT [(54, sig54_chk), (55, sig55)] ⟨4, [], [], false, [], []⟩ ⟨12, [], 12⟩ (bodyOf Try.f35) sg35.out.Y (initSt (sg35.pre x) (sg35.heap x) 11 sg35.pin vs) (fun e s => finC GT [.tmp 2, .tmp 3] [] sg35.pin [] [] e s sg35.out.dec) = F_tree_Check x := fun x vs => by kernel_rfl
theorem f35_ok : SigOk Try.prog GT.gl 35 sig35 := gfn (Γ := GT) (nt := 11) (rs := [.tmp 2, .tmp 3]) GT_ok (sigs_cons f54_chk_ok (by kernel_rfl) (sigs_cons f55_ok (by kernel_rfl) sigs_nil)) Try.func35 (by kernel_rfl) (by kernel_rfl) (by kernel_rfl) (by decide) (by decide) f35_is
@[reducible] noncomputable def sg21 : SigD := ⟨[.data tGrammar], [], [], ⟨[.data tSpot, .data (.int .i64)], [], []⟩⟩
@[reducible] noncomputable def sig21 : Sig := gsig sg21 F_rules_Check
set_option maxRecDepth 100000 in
theorem f21_is : ∀ (x : sg21.X) (vs : List Value), denS GT [(33, sig33), (34, sig34), (35, sig35)] ⟨4, [], [], true, [], []⟩ ⟨12, [], 12⟩ (bodyOf Try.f21) sg21.out.Y (initSt (sg21.pre x) (sg21.heap x) 119 sg21.pin vs) (fun e s => finC GT [.cell 2 53, .tmp 3] [] sg21.pin [] [] e s sg21.out.dec) = F_rules_Check x := fun x vs => by kernel_rfl
theorem f21_ok : SigOk Try.prog GT.gl 21 sig21 := gfn (Γ := GT) (nt := 119) (rs := [.cell 2 53, .tmp 3]) GT_ok (sigs_cons f33_ok (by kernel_rfl) (sigs_cons f34_ok (by kernel_rfl) (sigs_cons f35_ok (by kernel_rfl) sigs_nil))) Try.func21 (by kernel_rfl) (by kernel_rfl) (by kernel_rfl) (by decide) (by decide) f21_is
@[reducible] noncomputable def sg75 : SigD := ⟨[.data (.int .i64)], [], [], ⟨[.data (.int .i64)], [], []⟩⟩
@[reducible] noncomputable def sig75 : Sig := gsig sg75 F_gist_capped
set_option maxRecDepth 100000 in
theorem f75_is : ∀ (x : sg75.X) (vs : List Value), denS GT [] ⟨4, [], [], true, [], []⟩ ⟨4, [], 4⟩ (bodyOf Try.f75) sg75.out.Y (initSt (sg75.pre x) (sg75.heap x) 5 sg75.pin vs) (fun e s => finC GT [.tmp 2] [] sg75.pin [] [] e s sg75.out.dec) = F_gist_capped x := fun x vs => by kernel_rfl
theorem f75_ok : SigOk Try.prog GT.gl 75 sig75 := gfn (Γ := GT) (nt := 5) (rs := [.tmp 2]) GT_ok sigs_nil Try.func75 (by kernel_rfl) (by kernel_rfl) (by kernel_rfl) (by decide) (by decide) f75_is
@[reducible] noncomputable def sg74_capped : SigD := ⟨[.data (.int .i64), .data (.int .i64), .same (.fn 75 [])], [], [], ⟨[.data (.int .i64)], [], []⟩⟩
@[reducible] noncomputable def sig74_capped : Sig := gsig sg74_capped F_gist_sum_capped
set_option maxRecDepth 100000 in
theorem f74_capped_is : ∀ (x : sg74_capped.X) (vs : List Value), denS GT [(75, sig75)] ⟨4, [], [], true, [], []⟩ ⟨64, [], 64⟩ (bodyOf Try.f74) sg74_capped.out.Y (initSt (sg74_capped.pre x) (sg74_capped.heap x) 18 sg74_capped.pin vs) (fun e s => finC GT [.tmp 6] [] sg74_capped.pin [] [] e s sg74_capped.out.dec) = F_gist_sum_capped x := fun x vs => by kernel_rfl
theorem f74_capped_ok : SigOk Try.prog GT.gl 74 sig74_capped := gfn (Γ := GT) (nt := 18) (rs := [.tmp 6]) GT_ok (sigs_cons f75_ok (by kernel_rfl) sigs_nil) Try.func74 (by kernel_rfl) (by kernel_rfl) (by kernel_rfl) (by decide) (by decide) f74_capped_is
@[reducible] noncomputable def sg76 : SigD := ⟨[.data (.int .i64)], [], [], ⟨[.data (.int .i64)], [], []⟩⟩
@[reducible] noncomputable def sig76 : Sig := gsig sg76 F_gist_bounded
set_option maxRecDepth 100000 in
theorem f76_is : ∀ (x : sg76.X) (vs : List Value), denS GT [] ⟨4, [], [], true, [], []⟩ ⟨4, [], 4⟩ (bodyOf Try.f76) sg76.out.Y (initSt (sg76.pre x) (sg76.heap x) 6 sg76.pin vs) (fun e s => finC GT [.tmp 2] [] sg76.pin [] [] e s sg76.out.dec) = F_gist_bounded x := fun x vs => by kernel_rfl
theorem f76_ok : SigOk Try.prog GT.gl 76 sig76 := gfn (Γ := GT) (nt := 6) (rs := [.tmp 2]) GT_ok sigs_nil Try.func76 (by kernel_rfl) (by kernel_rfl) (by kernel_rfl) (by decide) (by decide) f76_is
@[reducible] noncomputable def sg74_bounded : SigD := ⟨[.data (.int .i64), .data (.int .i64), .same (.fn 76 [])], [], [], ⟨[.data (.int .i64)], [], []⟩⟩
@[reducible] noncomputable def sig74_bounded : Sig := gsig sg74_bounded F_gist_sum_bounded
set_option maxRecDepth 100000 in
theorem f74_bounded_is : ∀ (x : sg74_bounded.X) (vs : List Value), denS GT [(76, sig76)] ⟨4, [], [], true, [], []⟩ ⟨64, [], 64⟩ (bodyOf Try.f74) sg74_bounded.out.Y (initSt (sg74_bounded.pre x) (sg74_bounded.heap x) 18 sg74_bounded.pin vs) (fun e s => finC GT [.tmp 6] [] sg74_bounded.pin [] [] e s sg74_bounded.out.dec) = F_gist_sum_bounded x := fun x vs => by kernel_rfl
theorem f74_bounded_ok : SigOk Try.prog GT.gl 74 sig74_bounded := gfn (Γ := GT) (nt := 18) (rs := [.tmp 6]) GT_ok (sigs_cons f76_ok (by kernel_rfl) sigs_nil) Try.func74 (by kernel_rfl) (by kernel_rfl) (by kernel_rfl) (by decide) (by decide) f74_bounded_is
@[reducible] noncomputable def sg59 : SigD := ⟨[.data tEmptiness, .data tEmptiness], [], [], ⟨[.data tEmptiness], [], []⟩⟩
@[reducible] noncomputable def sig59 : Sig := gsig sg59 F_gist_row
set_option maxRecDepth 100000 in
theorem f59_is : ∀ (x : sg59.X) (vs : List Value), denS GT [(74, (sigOr (hasFn 75) sig74_capped sig74_bounded)), (75, sig75), (76, sig76)] ⟨4, [], [], true, [], []⟩ ⟨16, [], 16⟩ (bodyOf Try.f59) sg59.out.Y (initSt (sg59.pre x) (sg59.heap x) 28 sg59.pin vs) (fun e s => finC GT [.cell 4 65] [] sg59.pin [] [] e s sg59.out.dec) = F_gist_row x := fun x vs => by kernel_rfl
theorem f59_ok : SigOk Try.prog GT.gl 59 sig59 := gfn (Γ := GT) (nt := 28) (rs := [.cell 4 65]) GT_ok (sigs_cons (sigOr_ok f74_capped_ok f74_bounded_ok) (by kernel_rfl) (sigs_cons f75_ok (by kernel_rfl) (sigs_cons f76_ok (by kernel_rfl) sigs_nil))) Try.func59 (by kernel_rfl) (by kernel_rfl) (by kernel_rfl) (by decide) (by decide) f59_is
@[reducible] noncomputable def sg60 : SigD := ⟨[.data tEmptiness, .data tEmptiness], [], [], ⟨[.data tEmptiness], [], []⟩⟩
@[reducible] noncomputable def sig60 : Sig := gsig sg60 F_gist_either
set_option maxRecDepth 100000 in
theorem f60_is : ∀ (x : sg60.X) (vs : List Value), denS GT [] ⟨4, [], [], true, [], []⟩ ⟨16, [], 16⟩ (bodyOf Try.f60) sg60.out.Y (initSt (sg60.pre x) (sg60.heap x) 54 sg60.pin vs) (fun e s => finC GT [.cell 4 65] [] sg60.pin [] [] e s sg60.out.dec) = F_gist_either x := fun x vs => by kernel_rfl
theorem f60_ok : SigOk Try.prog GT.gl 60 sig60 := gfn (Γ := GT) (nt := 54) (rs := [.cell 4 65]) GT_ok sigs_nil Try.func60 (by kernel_rfl) (by kernel_rfl) (by kernel_rfl) (by decide) (by decide) f60_is
@[reducible] noncomputable def sg77 : SigD := ⟨[.data (.int .i64)], [], [], ⟨[.data tEmptiness], [], []⟩⟩
@[reducible] noncomputable def sig77 : Sig := gsig sg77 F_gist_atom
set_option maxRecDepth 100000 in
theorem f77_is : ∀ (x : sg77.X) (vs : List Value), denS GT [] ⟨4, [], [], true, [], []⟩ ⟨4, [], 4⟩ (bodyOf Try.f77) sg77.out.Y (initSt (sg77.pre x) (sg77.heap x) 6 sg77.pin vs) (fun e s => finC GT [.cell 2 65] [] sg77.pin [] [] e s sg77.out.dec) = F_gist_atom x := fun x vs => by kernel_rfl
theorem f77_ok : SigOk Try.prog GT.gl 77 sig77 := gfn (Γ := GT) (nt := 6) (rs := [.cell 2 65]) GT_ok sigs_nil Try.func77 (by kernel_rfl) (by kernel_rfl) (by kernel_rfl) (by decide) (by decide) f77_is
@[reducible] noncomputable def sg78 : SigD := ⟨[.data tEmptiness], [], [], ⟨[.data (.int .i64)], [], []⟩⟩
@[reducible] noncomputable def sig78 : Sig := gsig sg78 F_gist_loop
set_option maxRecDepth 100000 in
theorem f78_is : ∀ (x : sg78.X) (vs : List Value), denS GT [] ⟨4, [], [], true, [], []⟩ ⟨4, [], 4⟩ (bodyOf Try.f78) sg78.out.Y (initSt (sg78.pre x) (sg78.heap x) 6 sg78.pin vs) (fun e s => finC GT [.tmp 2] [] sg78.pin [] [] e s sg78.out.dec) = F_gist_loop x := fun x vs => by kernel_rfl
theorem f78_ok : SigOk Try.prog GT.gl 78 sig78 := gfn (Γ := GT) (nt := 6) (rs := [.tmp 2]) GT_ok sigs_nil Try.func78 (by kernel_rfl) (by kernel_rfl) (by kernel_rfl) (by decide) (by decide) f78_is
@[reducible] noncomputable def sg94_capped : SigD := ⟨[.data (.int .i64), .data (.int .i64), .same (.fn 75 [])], [], [], ⟨[.data (.int .i64)], [], []⟩⟩
@[reducible] noncomputable def sig94_capped : Sig := gsig sg94_capped F_gist_times_capped
set_option maxRecDepth 100000 in
theorem f94_capped_is : ∀ (x : sg94_capped.X) (vs : List Value), denS GT [(75, sig75)] ⟨4, [], [], true, [], []⟩ ⟨64, [], 64⟩ (bodyOf Try.f94) sg94_capped.out.Y (initSt (sg94_capped.pre x) (sg94_capped.heap x) 14 sg94_capped.pin vs) (fun e s => finC GT [.tmp 6] [] sg94_capped.pin [] [] e s sg94_capped.out.dec) = F_gist_times_capped x := fun x vs => by kernel_rfl
theorem f94_capped_ok : SigOk Try.prog GT.gl 94 sig94_capped := gfn (Γ := GT) (nt := 14) (rs := [.tmp 6]) GT_ok (sigs_cons f75_ok (by kernel_rfl) sigs_nil) Try.func94 (by kernel_rfl) (by kernel_rfl) (by kernel_rfl) (by decide) (by decide) f94_capped_is
@[reducible] noncomputable def sg94_bounded : SigD := ⟨[.data (.int .i64), .data (.int .i64), .same (.fn 76 [])], [], [], ⟨[.data (.int .i64)], [], []⟩⟩
@[reducible] noncomputable def sig94_bounded : Sig := gsig sg94_bounded F_gist_times_bounded
set_option maxRecDepth 100000 in
theorem f94_bounded_is : ∀ (x : sg94_bounded.X) (vs : List Value), denS GT [(76, sig76)] ⟨4, [], [], true, [], []⟩ ⟨64, [], 64⟩ (bodyOf Try.f94) sg94_bounded.out.Y (initSt (sg94_bounded.pre x) (sg94_bounded.heap x) 14 sg94_bounded.pin vs) (fun e s => finC GT [.tmp 6] [] sg94_bounded.pin [] [] e s sg94_bounded.out.dec) = F_gist_times_bounded x := fun x vs => by kernel_rfl
theorem f94_bounded_ok : SigOk Try.prog GT.gl 94 sig94_bounded := gfn (Γ := GT) (nt := 14) (rs := [.tmp 6]) GT_ok (sigs_cons f76_ok (by kernel_rfl) sigs_nil) Try.func94 (by kernel_rfl) (by kernel_rfl) (by kernel_rfl) (by decide) (by decide) f94_bounded_is
@[reducible] noncomputable def sg79 : SigD := ⟨[.data tNode, .data tEmptiness], [], [], ⟨[.data tEmptiness], [], []⟩⟩
@[reducible] noncomputable def sig79 : Sig := gsig sg79 F_gist_counted
set_option maxRecDepth 100000 in
theorem f79_is : ∀ (x : sg79.X) (vs : List Value), denS GT [(75, sig75), (76, sig76), (78, sig78), (94, (sigOr (hasFn 75) sig94_capped sig94_bounded))] ⟨4, [], [], true, [], []⟩ ⟨16, [], 16⟩ (bodyOf Try.f79) sg79.out.Y (initSt (sg79.pre x) (sg79.heap x) 59 sg79.pin vs) (fun e s => finC GT [.cell 4 65] [] sg79.pin [] [] e s sg79.out.dec) = F_gist_counted x := fun x vs => by kernel_rfl
theorem f79_ok : SigOk Try.prog GT.gl 79 sig79 := gfn (Γ := GT) (nt := 59) (rs := [.cell 4 65]) GT_ok (sigs_cons f75_ok (by kernel_rfl) (sigs_cons f76_ok (by kernel_rfl) (sigs_cons f78_ok (by kernel_rfl) (sigs_cons (sigOr_ok f94_capped_ok f94_bounded_ok) (by kernel_rfl) sigs_nil)))) Try.func79 (by kernel_rfl) (by kernel_rfl) (by kernel_rfl) (by decide) (by decide) f79_is
@[reducible] noncomputable def sg61 : SigD := ⟨[.data tNode, .data tEmptiness], [], [], ⟨[.data tEmptiness], [], []⟩⟩
@[reducible] noncomputable def sig61 : Sig := gsig sg61 F_gist_one
set_option maxRecDepth 100000 in
theorem f61_is : ∀ (x : sg61.X) (vs : List Value), denS GT [(77, sig77), (78, sig78), (79, sig79)] ⟨4, [], [], true, [], []⟩ ⟨16, [], 16⟩ (bodyOf Try.f61) sg61.out.Y (initSt (sg61.pre x) (sg61.heap x) 56 sg61.pin vs) (fun e s => finC GT [.cell 4 65] [] sg61.pin [] [] e s sg61.out.dec) = F_gist_one x := fun x vs => by kernel_rfl
theorem f61_ok : SigOk Try.prog GT.gl 61 sig61 := gfn (Γ := GT) (nt := 56) (rs := [.cell 4 65]) GT_ok (sigs_cons f77_ok (by kernel_rfl) (sigs_cons f78_ok (by kernel_rfl) (sigs_cons f79_ok (by kernel_rfl) sigs_nil))) Try.func61 (by kernel_rfl) (by kernel_rfl) (by kernel_rfl) (by decide) (by decide) f61_is
@[reducible] noncomputable def sg57 : SigD := ⟨[.data .str, .same (.cptr 1000), .same (.cptr 1001)], [(1000, .csame 80 (.full 1500 tEmptiness)), (1500, .row 65 tEmptiness false), (1001, .cdata 70 (.map 9 3 .str (.int .i64)))], [1, 2], ⟨[.data tEmptiness], [(1000, .csame 80 (.full 1500 tEmptiness)), (1500, .row 65 tEmptiness false), (1001, .cdata 70 (.map 9 3 .str (.int .i64)))], [(1, .cptr 1000), (2, .cptr 1001)]⟩⟩
@[reducible] noncomputable def sig57 : Sig := gsig sg57 F_gist_Emptiness_1
set_option maxRecDepth 100000 in
theorem f57_is : ∀ (x : sg57.X) (vs : List Value), denS GT [] ⟨4, [], [], true, [], []⟩ ⟨22, [], 22⟩ (bodyOf Try.f57) sg57.out.Y (initSt (sg57.pre x) (sg57.heap x) 11 sg57.pin vs) (fun e s => finC GT [.cell 4 65] [1000, 1500, 1001] sg57.pin [] [] e s sg57.out.dec) = F_gist_Emptiness_1 x := fun x vs => by kernel_rfl
theorem f57_ok : SigOk Try.prog GT.gl 57 sig57 := gfn (Γ := GT) (nt := 11) (rs := [.cell 4 65]) GT_ok sigs_nil Try.func57 (by kernel_rfl) (by kernel_rfl) (by kernel_rfl) (by decide) (by decide) f57_is
@[reducible] noncomputable def sg38_em : SigD := ⟨[.data (.sl 61 tNode), .same (.fn 57 [.cptr 1000, .cptr 1001])], [(1000, .csame 80 (.full 1500 tEmptiness)), (1500, .row 65 tEmptiness false), (1001, .cdata 70 (.map 9 3 .str (.int .i64)))], [1], ⟨[.full 4 tEmptiness], [(4, .row 65 tEmptiness false), (1000, .csame 80 (.full 1500 tEmptiness)), (1500, .row 65 tEmptiness false), (1001, .cdata 70 (.map 9 3 .str (.int .i64)))], [(1, .fn 57 [.cptr 1000, .cptr 1001])]⟩⟩
@[reducible] noncomputable def sig38_em : Sig := gsig sg38_em F_gist_Lengths_em
set_option maxRecDepth 100000 in
theorem f38_em_is : ∀ (x : sg38_em.X) (vs : List Value), denS GT [(58, sig58), (59, sig59), (60, sig60), (61, sig61), (57, sig57)] ⟨4, [], [], true, [], []⟩ ⟨18, [], 18⟩ (bodyOf Try.f38) sg38_em.out.Y (initSt (sg38_em.pre x) (sg38_em.heap x) 81 sg38_em.pin vs) (fun e s => finC GT [.tmp 4] [1000, 1500, 1001] sg38_em.pin [] [] e s sg38_em.out.dec) = F_gist_Lengths_em x := fun x vs => by kernel_rfl
theorem f38_em_ok : SigOk Try.prog GT.gl 38 sig38_em := gfn (Γ := GT) (nt := 81) (rs := [.tmp 4]) GT_ok (sigs_cons f58_ok (by kernel_rfl) (sigs_cons f59_ok (by kernel_rfl) (sigs_cons f60_ok (by kernel_rfl) (sigs_cons f61_ok (by kernel_rfl) (sigs_cons f57_ok (by kernel_rfl) sigs_nil))))) Try.func38 (by kernel_rfl) (by kernel_rfl) (by kernel_rfl) (by decide) (by decide) f38_em_is
@[reducible] noncomputable def sg49 : SigD := ⟨[.data tGrammar], [], [], ⟨[.data (.map 9 3 .str (.int .i64))], [], []⟩⟩
@[reducible] noncomputable def sig49 : Sig := gsig sg49 F_gist_Numbers
set_option maxRecDepth 100000 in
theorem f49_is : ∀ (x : sg49.X) (vs : List Value), denS GT [] ⟨4, [], [], true, [], []⟩ ⟨4, [], 4⟩ (bodyOf Try.f49) sg49.out.Y (initSt (sg49.pre x) (sg49.heap x) 21 sg49.pin vs) (fun e s => finC GT [.tmp 2] [] sg49.pin [] [true] e s sg49.out.dec) = F_gist_Numbers x := fun x vs => by kernel_rfl
theorem f49_ok : SigOk Try.prog GT.gl 49 sig49 := gfn (Γ := GT) (nt := 21) (rs := [.tmp 2]) GT_ok sigs_nil Try.func49 (by kernel_rfl) (by kernel_rfl) (by kernel_rfl) (by decide) (by decide) f49_is
@[reducible] noncomputable def sg56 : SigD := ⟨[.data tGrammar, .data (.map 9 3 .str (.int .i64))], [], [], ⟨[.full 4 .bool], [(4, .row 4 .bool false)], []⟩⟩
@[reducible] noncomputable def sig56 : Sig := gsig sg56 F_gist_again
set_option maxRecDepth 100000 in
theorem f56_is : ∀ (x : sg56.X) (vs : List Value), denS (GTd [] [18] []) [] ⟨4, [], [15365, 19461], true, [], []⟩ ⟨16, [], 16⟩ (bodyOf Try.f56) sg56.out.Y (initSt (sg56.pre x) (sg56.heap x) 117 sg56.pin vs) (fun e s => finC (GTd [] [18] []) [.tmp 4] [] sg56.pin [] [] e s sg56.out.dec) = F_gist_again x := fun x vs => by kernel_rfl
theorem f56_ok : SigOk Try.prog GT.gl 56 sig56 := gfn (Γ := (GTd [] [18] [])) (nt := 117) (rs := [.tmp 4]) (GTd_ok _ _ _) sigs_nil Try.func56 (by kernel_rfl) (by kernel_rfl) (by kernel_rfl) (by decide) (by decide) f56_is
@[reducible] noncomputable def sg37 : SigD := ⟨[.data tGrammar], [], [], ⟨[.same (.fn 57 [.cptr 5, .cptr 3])], [(5, .csame 80 (.full 505 tEmptiness)), (505, .row 65 tEmptiness false), (3, .cdata 70 (.map 9 3 .str (.int .i64)))], []⟩⟩
@[reducible] noncomputable def sig37 : Sig := gsig sg37 F_gist_Emptiness
set_option maxRecDepth 100000 in
theorem f37_is : ∀ (x : sg37.X) (vs : List Value), denS (GTd [] [] [48]) [(38, sig38_em), (49, sig49), (56, sig56)] ⟨4, [], [], true, [], [18443]⟩ ⟨4, [], 4⟩ (bodyOf Try.f37) sg37.out.Y (initSt (sg37.pre x) (sg37.heap x) 73 sg37.pin vs) (fun e s => finC (GTd [] [] [48]) [.tmp 2] [] sg37.pin [] [] e s sg37.out.dec) = F_gist_Emptiness x := fun x vs => by kernel_rfl
theorem f37_ok : SigOk Try.prog GT.gl 37 sig37 := gfn (Γ := (GTd [] [] [48])) (nt := 73) (rs := [.tmp 2]) (GTd_ok _ _ _) (sigs_cons f38_em_ok (by kernel_rfl) (sigs_cons f49_ok (by kernel_rfl) (sigs_cons f56_ok (by kernel_rfl) sigs_nil))) Try.func37 (by kernel_rfl) (by kernel_rfl) (by kernel_rfl) (by decide) (by decide) f37_is
@[reducible] noncomputable def sg62 : SigD := ⟨[.data (.sl 61 tNode)], [], [], ⟨[.full 2 (.sl 3 (.int .i64))], [(2, .row 105 (.sl 3 (.int .i64)) false)], []⟩⟩
@[reducible] noncomputable def sig62 : Sig := gsig sg62 F_gist_Kids
set_option maxRecDepth 100000 in
theorem f62_is : ∀ (x : sg62.X) (vs : List Value), denS GT [(58, sig58)] ⟨4, [], [], true, [], []⟩ ⟨4, [], 4⟩ (bodyOf Try.f62) sg62.out.Y (initSt (sg62.pre x) (sg62.heap x) 37 sg62.pin vs) (fun e s => finC GT [.tmp 2] [] sg62.pin [] [] e s sg62.out.dec) = F_gist_Kids x := fun x vs => by kernel_rfl
theorem f62_ok : SigOk Try.prog GT.gl 62 sig62 := gfn (Γ := GT) (nt := 37) (rs := [.tmp 2]) GT_ok (sigs_cons f58_ok (by kernel_rfl) sigs_nil) Try.func62 (by kernel_rfl) (by kernel_rfl) (by kernel_rfl) (by decide) (by decide) f62_is
@[reducible] noncomputable def sg47 : SigD := ⟨[.data tSet, .data (.int .i64)], [], [], ⟨[.data tSet], [], []⟩⟩
@[reducible] noncomputable def sig47 : Sig := gsig sg47 F_charset_with
set_option maxRecDepth 100000 in
theorem f47_is : ∀ (x : sg47.X) (vs : List Value), denS GTA [] ⟨4, [], [], true, [], []⟩ ⟨16, [], 16⟩ (bodyOf Try.f47) sg47.out.Y (initSt (sg47.pre x) (sg47.heap x) 15 sg47.pin vs) (fun e s => finC GTA [.cell 4 34] [] sg47.pin [] [] e s sg47.out.dec) = F_charset_with x := fun x vs => by kernel_rfl
theorem f47_ok : SigOk Try.prog GT.gl 47 sig47 := gfn (Γ := GTA) (nt := 15) (rs := [.cell 4 34]) GTA_ok sigs_nil Try.func47 (by kernel_rfl) (by kernel_rfl) (by kernel_rfl) (by decide) (by decide) f47_is
@[reducible] noncomputable def sg27 : SigD := ⟨[.data .str], [], [], ⟨[.data tSet], [], []⟩⟩
@[reducible] noncomputable def sig27 : Sig := gsig sg27 F_charset_Of
set_option maxRecDepth 100000 in
theorem f27_is : ∀ (x : sg27.X) (vs : List Value), denS GT [(47, sig47)] ⟨4, [], [], true, [], []⟩ ⟨4, [], 4⟩ (bodyOf Try.f27) sg27.out.Y (initSt (sg27.pre x) (sg27.heap x) 18 sg27.pin vs) (fun e s => finC GT [.cell 2 34] [] sg27.pin [] [] e s sg27.out.dec) = F_charset_Of x := fun x vs => by kernel_rfl
theorem f27_ok : SigOk Try.prog GT.gl 27 sig27 := gfn (Γ := GT) (nt := 18) (rs := [.cell 2 34]) GT_ok (sigs_cons f47_ok (by kernel_rfl) sigs_nil) Try.func27 (by kernel_rfl) (by kernel_rfl) (by kernel_rfl) (by decide) (by decide) f27_is
@[reducible] noncomputable def sg80 : SigD := ⟨[.data tSet], [], [], ⟨[.data tSet], [], []⟩⟩
@[reducible] noncomputable def sig80 : Sig := gsig sg80 F_charset_Not
set_option maxRecDepth 100000 in
theorem f80_is : ∀ (x : sg80.X) (vs : List Value), denS GTA [] ⟨4, [], [], true, [], []⟩ ⟨4, [], 4⟩ (bodyOf Try.f80) sg80.out.Y (initSt (sg80.pre x) (sg80.heap x) 15 sg80.pin vs) (fun e s => finC GTA [.cell 2 34] [] sg80.pin [] [] e s sg80.out.dec) = F_charset_Not x := fun x vs => by kernel_rfl
theorem f80_ok : SigOk Try.prog GT.gl 80 sig80 := gfn (Γ := GTA) (nt := 15) (rs := [.cell 2 34]) GTA_ok sigs_nil Try.func80 (by kernel_rfl) (by kernel_rfl) (by kernel_rfl) (by decide) (by decide) f80_is
@[reducible] noncomputable def sg81 : SigD := ⟨[.data tSet, .data tSet], [], [], ⟨[.data tSet], [], []⟩⟩
@[reducible] noncomputable def sig81 : Sig := gsig sg81 F_charset_Union
set_option maxRecDepth 100000 in
theorem f81_is : ∀ (x : sg81.X) (vs : List Value), denS GTA [] ⟨4, [], [], true, [], []⟩ ⟨16, [], 16⟩ (bodyOf Try.f81) sg81.out.Y (initSt (sg81.pre x) (sg81.heap x) 19 sg81.pin vs) (fun e s => finC GTA [.cell 4 34] [] sg81.pin [] [] e s sg81.out.dec) = F_charset_Union x := fun x vs => by kernel_rfl
theorem f81_ok : SigOk Try.prog GT.gl 81 sig81 := gfn (Γ := GTA) (nt := 19) (rs := [.cell 4 34]) GTA_ok sigs_nil Try.func81 (by kernel_rfl) (by kernel_rfl) (by kernel_rfl) (by decide) (by decide) f81_is
@[reducible] noncomputable def sg36 : SigD := ⟨[.data .str, .same (.cptr 1000)], [(1000, .csame 76 (.mptr 1500)), (1500, .map 9 36 .str tFirsts false)], [1], ⟨[.data tFirsts], [(1000, .csame 76 (.mptr 1500)), (1500, .map 9 36 .str tFirsts false)], [(1, .cptr 1000)]⟩⟩
@[reducible] noncomputable def sig36 : Sig := gsig sg36 F_gist_Firsts_1
set_option maxRecDepth 100000 in
theorem f36_is : ∀ (x : sg36.X) (vs : List Value), denS GT [] ⟨4, [], [], true, [], []⟩ ⟨10, [], 10⟩ (bodyOf Try.f36) sg36.out.Y (initSt (sg36.pre x) (sg36.heap x) 7 sg36.pin vs) (fun e s => finC GT [.cell 3 36] [1000, 1500] sg36.pin [] [] e s sg36.out.dec) = F_gist_Firsts_1 x := fun x vs => by kernel_rfl
theorem f36_ok : SigOk Try.prog GT.gl 36 sig36 := gfn (Γ := GT) (nt := 7) (rs := [.cell 3 36]) GT_ok sigs_nil Try.func36 (by kernel_rfl) (by kernel_rfl) (by kernel_rfl) (by decide) (by decide) f36_is
@[reducible] noncomputable def sg63_fi : SigD := ⟨[.data tNode, .data tFirsts, .data tFirsts, .data .bool, .same (.fn 36 [.cptr 1000])], [(1000, .csame 76 (.mptr 1500)), (1500, .map 9 36 .str tFirsts false)], [4], ⟨[.data tFirsts], [(1000, .csame 76 (.mptr 1500)), (1500, .map 9 36 .str tFirsts false)], [(4, .fn 36 [.cptr 1000])]⟩⟩
@[reducible] noncomputable def sig63_fi : Sig := gsig sg63_fi F_gist_node_fi
set_option maxRecDepth 100000 in
theorem f63_fi_is : ∀ (x : sg63_fi.X) (vs : List Value), denS GT [(27, sig27), (80, sig80), (81, sig81), (36, sig36)] ⟨4, [], [], true, [], []⟩ ⟨1040, [], 1040⟩ (bodyOf Try.f63) sg63_fi.out.Y (initSt (sg63_fi.pre x) (sg63_fi.heap x) 143 sg63_fi.pin vs) (fun e s => finC GT [.cell 10 36] [1000, 1500] sg63_fi.pin [] [] e s sg63_fi.out.dec) = F_gist_node_fi x := fun x vs => by kernel_rfl
theorem f63_fi_ok : SigOk Try.prog GT.gl 63 sig63_fi := gfn (Γ := GT) (nt := 143) (rs := [.cell 10 36]) GT_ok (sigs_cons f27_ok (by kernel_rfl) (sigs_cons f80_ok (by kernel_rfl) (sigs_cons f81_ok (by kernel_rfl) (sigs_cons f36_ok (by kernel_rfl) sigs_nil)))) Try.func63 (by kernel_rfl) (by kernel_rfl) (by kernel_rfl) (by decide) (by decide) f63_fi_is
@[reducible] noncomputable def sg39_fi : SigD := ⟨[.data (.sl 61 tNode), .data (.sl 65 tEmptiness), .same (.fn 36 [.cptr 1000])], [(1000, .csame 76 (.mptr 1500)), (1500, .map 9 36 .str tFirsts false)], [2], ⟨[.data (.sl 36 tFirsts)], [(1000, .csame 76 (.mptr 1500)), (1500, .map 9 36 .str tFirsts false)], [(2, .fn 36 [.cptr 1000])]⟩⟩
@[reducible] noncomputable def sig39_fi : Sig := gsig sg39_fi F_gist_Beginnings_fi
set_option maxRecDepth 100000 in
theorem f39_fi_is : ∀ (x : sg39_fi.X) (vs : List Value), denS (GTd [] [] [100012]) [(62, sig62), (63, sig63_fi)] ⟨4, [], [], true, [], []⟩ ⟨68, [], 68⟩ (bodyOf Try.f39) sg39_fi.out.Y (initSt (sg39_fi.pre x) (sg39_fi.heap x) 67 sg39_fi.pin vs) (fun e s => finC (GTd [] [] [100012]) [.tmp 6] [1000, 1500] sg39_fi.pin [] [true] e s sg39_fi.out.dec) = F_gist_Beginnings_fi x := fun x vs => by kernel_rfl
theorem f39_fi_ok : SigOk Try.prog GT.gl 39 sig39_fi := gfn (Γ := (GTd [] [] [100012])) (nt := 67) (rs := [.tmp 6]) (GTd_ok _ _ _) (sigs_cons f62_ok (by kernel_rfl) (sigs_cons f63_fi_ok (by kernel_rfl) sigs_nil)) Try.func39 (by kernel_rfl) (by kernel_rfl) (by kernel_rfl) (by decide) (by decide) f39_fi_is
@[reducible] noncomputable def sg22 : SigD := ⟨[.data tGrammar], [], [], ⟨[.same (.fn 36 [.cptr 3])], [(3, .csame 76 (.mptr 14)), (14, .map 9 36 .str tFirsts false)], []⟩⟩
@[reducible] noncomputable def sig22 : Sig := gsig sg22 F_gist_Firsts
set_option maxRecDepth 100000 in
theorem f22_is : ∀ (x : sg22.X) (vs : List Value), denS (GTd [] [] [49]) [(37, sig37), (38, sig38_em), (39, sig39_fi)] ⟨4, [], [], true, [], [17419]⟩ ⟨4, [], 4⟩ (bodyOf Try.f22) sg22.out.Y (initSt (sg22.pre x) (sg22.heap x) 69 sg22.pin vs) (fun e s => finC (GTd [] [] [49]) [.tmp 2] [] sg22.pin [] [] e s sg22.out.dec) = F_gist_Firsts x := fun x vs => by kernel_rfl
theorem f22_ok : SigOk Try.prog GT.gl 22 sig22 := gfn (Γ := (GTd [] [] [49])) (nt := 69) (rs := [.tmp 2]) (GTd_ok _ _ _) (sigs_cons f37_ok (by kernel_rfl) (sigs_cons f38_em_ok (by kernel_rfl) (sigs_cons f39_fi_ok (by kernel_rfl) sigs_nil))) Try.func22 (by kernel_rfl) (by kernel_rfl) (by kernel_rfl) (by decide) (by decide) f22_is
@[reducible] noncomputable def sg7 : SigD := ⟨[.data tGrammar], [], [], ⟨[.full 2 tFirsts, .data (.int .i64)], [(2, .row 36 tFirsts false)], []⟩⟩
@[reducible] noncomputable def sig7 : Sig := gsig sg7 F_first_Rules
set_option maxRecDepth 100000 in
theorem f7_is : ∀ (x : sg7.X) (vs : List Value), denS GT [(21, sig21), (22, sig22), (36, sig36)] ⟨4, [], [], true, [], []⟩ ⟨12, [], 12⟩ (bodyOf Try.f7) sg7.out.Y (initSt (sg7.pre x) (sg7.heap x) 36 sg7.pin vs) (fun e s => finC GT [.tmp 2, .tmp 3] [] sg7.pin [] [] e s sg7.out.dec) = F_first_Rules x := fun x vs => by kernel_rfl
theorem f7_ok : SigOk Try.prog GT.gl 7 sig7 := gfn (Γ := GT) (nt := 36) (rs := [.tmp 2, .tmp 3]) GT_ok (sigs_cons f21_ok (by kernel_rfl) (sigs_cons f22_ok (by kernel_rfl) (sigs_cons f36_ok (by kernel_rfl) sigs_nil))) Try.func7 (by kernel_rfl) (by kernel_rfl) (by kernel_rfl) (by decide) (by decide) f7_is
@[reducible] noncomputable def sg40 : SigD := ⟨[.data .str], [], [], ⟨[.data .bool], [], []⟩⟩
@[reducible] noncomputable def sig40 : Sig := gsig sg40 F_ref04_Name
set_option maxRecDepth 100000 in
theorem f40_is : ∀ (x : sg40.X) (vs : List Value), denS GT [] ⟨4, [], [], false, [], []⟩ ⟨4, [], 4⟩ (bodyOf Try.f40) sg40.out.Y (initSt (sg40.pre x) (sg40.heap x) 59 sg40.pin vs) (fun e s => finC GT [.tmp 2] [] sg40.pin [] [] e s sg40.out.dec) = F_ref04_Name x := fun x vs => by kernel_rfl
theorem f40_ok : SigOk Try.prog GT.gl 40 sig40 := gfn (Γ := GT) (nt := 59) (rs := [.tmp 2]) GT_ok sigs_nil Try.func40 (by kernel_rfl) (by kernel_rfl) (by kernel_rfl) (by decide) (by decide) f40_is
@[reducible] noncomputable def sg41 : SigD := ⟨[.data tGrammar, .data .str], [], [], ⟨[.data (.int .i64)], [], []⟩⟩
@[reducible] noncomputable def sig41 : Sig := gsig sg41 F_ref08_find
set_option maxRecDepth 100000 in
theorem f41_is : ∀ (x : sg41.X) (vs : List Value), denS GT [] ⟨4, [], [], true, [], []⟩ ⟨16, [], 16⟩ (bodyOf Try.f41) sg41.out.Y (initSt (sg41.pre x) (sg41.heap x) 22 sg41.pin vs) (fun e s => finC GT [.tmp 4] [] sg41.pin [] [] e s sg41.out.dec) = F_ref08_find x := fun x vs => by kernel_rfl
theorem f41_ok : SigOk Try.prog GT.gl 41 sig41 := gfn (Γ := GT) (nt := 22) (rs := [.tmp 4]) GT_ok sigs_nil Try.func41 (by kernel_rfl) (by kernel_rfl) (by kernel_rfl) (by decide) (by decide) f41_is
@[reducible] noncomputable def sg82 : SigD := ⟨[.data (.int .i64)], [], [], ⟨[.data (.int .i64)], [], []⟩⟩
@[reducible] noncomputable def sig82 : Sig := gsig sg82 F_ref04_Arity
set_option maxRecDepth 100000 in
theorem f82_is : ∀ (x : sg82.X) (vs : List Value), denS GT [] ⟨4, [], [], false, [], []⟩ ⟨4, [], 4⟩ (bodyOf Try.f82) sg82.out.Y (initSt (sg82.pre x) (sg82.heap x) 30 sg82.pin vs) (fun e s => finC GT [.tmp 2] [] sg82.pin [] [] e s sg82.out.dec) = F_ref04_Arity x := fun x vs => by kernel_rfl
theorem f82_ok : SigOk Try.prog GT.gl 82 sig82 := gfn (Γ := GT) (nt := 30) (rs := [.tmp 2]) GT_ok sigs_nil Try.func82 (by kernel_rfl) (by kernel_rfl) (by kernel_rfl) (by decide) (by decide) f82_is
@[reducible] noncomputable def sg95 : SigD := ⟨[.data .str], [], [], ⟨[.data .bool], [], []⟩⟩
@[reducible] noncomputable def sig95 : Sig := gsig sg95 F_ref04_Template
set_option maxRecDepth 100000 in
theorem f95_is : ∀ (x : sg95.X) (vs : List Value), denS GT [] ⟨4, [], [], false, [], []⟩ ⟨4, [], 4⟩ (bodyOf Try.f95) sg95.out.Y (initSt (sg95.pre x) (sg95.heap x) 41 sg95.pin vs) (fun e s => finC GT [.tmp 2] [] sg95.pin [] [] e s sg95.out.dec) = F_ref04_Template x := fun x vs => by kernel_rfl
theorem f95_ok : SigOk Try.prog GT.gl 95 sig95 := gfn (Γ := GT) (nt := 41) (rs := [.tmp 2]) GT_ok sigs_nil Try.func95 (by kernel_rfl) (by kernel_rfl) (by kernel_rfl) (by decide) (by decide) f95_is
@[reducible] noncomputable def sg83 : SigD := ⟨[.data tNode], [], [], ⟨[.data .bool], [], []⟩⟩
@[reducible] noncomputable def sig83 : Sig := gsig sg83 F_ref04_Field
set_option maxRecDepth 100000 in
theorem f83_is : ∀ (x : sg83.X) (vs : List Value), denS GT [(40, sig40), (95, sig95)] ⟨4, [], [], false, [], []⟩ ⟨4, [], 4⟩ (bodyOf Try.f83) sg83.out.Y (initSt (sg83.pre x) (sg83.heap x) 87 sg83.pin vs) (fun e s => finC GT [.tmp 2] [] sg83.pin [] [] e s sg83.out.dec) = F_ref04_Field x := fun x vs => by kernel_rfl
theorem f83_ok : SigOk Try.prog GT.gl 83 sig83 := gfn (Γ := GT) (nt := 87) (rs := [.tmp 2]) GT_ok (sigs_cons f40_ok (by kernel_rfl) (sigs_cons f95_ok (by kernel_rfl) sigs_nil)) Try.func83 (by kernel_rfl) (by kernel_rfl) (by kernel_rfl) (by decide) (by decide) f83_is
@[reducible] noncomputable def sg64 : SigD := ⟨[.data (.sl 61 tNode)], [], [], ⟨[.full 2 (.int .i64), .full 3 (.int .i64), .data (.int .i64), .data (.int .i64)], [(2, .row 3 (.int .i64) false), (3, .row 3 (.int .i64) false)], []⟩⟩
@[reducible] noncomputable def sig64 : Sig := gsig sg64 F_ref04_from
set_option maxRecDepth 100000 in
theorem f64_is : ∀ (x : sg64.X) (vs : List Value), denS GT [(82, sig82), (83, sig83)] ⟨4, [], [], false, [], []⟩ ⟨60, [], 60⟩ (bodyOf Try.f64) sg64.out.Y (initSt (sg64.pre x) (sg64.heap x) 91 sg64.pin vs) (fun e s => finC GT [.tmp 2, .tmp 3, .tmp 4, .tmp 5] [] sg64.pin [] [] e s sg64.out.dec) = F_ref04_from x := fun x vs => by kernel_rfl
theorem f64_ok : SigOk Try.prog GT.gl 64 sig64 := gfn (Γ := GT) (nt := 91) (rs := [.tmp 2, .tmp 3, .tmp 4, .tmp 5]) GT_ok (sigs_cons f82_ok (by kernel_rfl) (sigs_cons f83_ok (by kernel_rfl) sigs_nil)) Try.func64 (by kernel_rfl) (by kernel_rfl) (by kernel_rfl) (by decide) (by decide) f64_is
@[reducible] noncomputable def sg42 : SigD := ⟨[.data (.sl 61 tNode)], [], [], ⟨[.data (.int .i64), .data (.int .i64)], [], []⟩⟩
@[reducible] noncomputable def sig42 : Sig := gsig sg42 F_ref04_Check
set_option maxRecDepth 100000 in
theorem f42_is : ∀ (x : sg42.X) (vs : List Value), denS GT [(64, sig64)] ⟨4, [], [], false, [], []⟩ ⟨12, [], 12⟩ (bodyOf Try.f42) sg42.out.Y (initSt (sg42.pre x) (sg42.heap x) 36 sg42.pin vs) (fun e s => finC GT [.tmp 2, .tmp 3] [] sg42.pin [] [] e s sg42.out.dec) = F_ref04_Check x := fun x vs => by kernel_rfl
theorem f42_ok : SigOk Try.prog GT.gl 42 sig42 := gfn (Γ := GT) (nt := 36) (rs := [.tmp 2, .tmp 3]) GT_ok (sigs_cons f64_ok (by kernel_rfl) sigs_nil) Try.func42 (by kernel_rfl) (by kernel_rfl) (by kernel_rfl) (by decide) (by decide) f42_is
@[reducible] noncomputable def sg23 : SigD := ⟨[.data tGrammar], [], [], ⟨[.data tSpot, .data (.int .i64)], [], []⟩⟩
@[reducible] noncomputable def sig23 : Sig := gsig sg23 F_ref08_Check
set_option maxRecDepth 100000 in
theorem f23_is : ∀ (x : sg23.X) (vs : List Value), denS GT [(40, sig40), (41, sig41), (42, sig42)] ⟨4, [], [], true, [], []⟩ ⟨12, [], 12⟩ (bodyOf Try.f23) sg23.out.Y (initSt (sg23.pre x) (sg23.heap x) 122 sg23.pin vs) (fun e s => finC GT [.cell 2 53, .tmp 3] [] sg23.pin [] [] e s sg23.out.dec) = F_ref08_Check x := fun x vs => by kernel_rfl
theorem f23_ok : SigOk Try.prog GT.gl 23 sig23 := gfn (Γ := GT) (nt := 122) (rs := [.cell 2 53, .tmp 3]) GT_ok (sigs_cons f40_ok (by kernel_rfl) (sigs_cons f41_ok (by kernel_rfl) (sigs_cons f42_ok (by kernel_rfl) sigs_nil))) Try.func23 (by kernel_rfl) (by kernel_rfl) (by kernel_rfl) (by decide) (by decide) f23_is
@[reducible] noncomputable def sg50 : SigD := ⟨[.data tGrammar, .data .str], [], [], ⟨[.data (.int .i64)], [], []⟩⟩
@[reducible] noncomputable def sig50 : Sig := gsig sg50 F_ref09_Find
set_option maxRecDepth 100000 in
theorem f50_is : ∀ (x : sg50.X) (vs : List Value), denS GT [] ⟨4, [], [], true, [], []⟩ ⟨16, [], 16⟩ (bodyOf Try.f50) sg50.out.Y (initSt (sg50.pre x) (sg50.heap x) 22 sg50.pin vs) (fun e s => finC GT [.tmp 4] [] sg50.pin [] [] e s sg50.out.dec) = F_ref09_Find x := fun x vs => by kernel_rfl
theorem f50_ok : SigOk Try.prog GT.gl 50 sig50 := gfn (Γ := GT) (nt := 22) (rs := [.tmp 4]) GT_ok sigs_nil Try.func50 (by kernel_rfl) (by kernel_rfl) (by kernel_rfl) (by decide) (by decide) f50_is
@[reducible] noncomputable def sg65 : SigD := ⟨[.data tGrammar, .data (.int .i64)], [], [], ⟨[.data .bool], [], []⟩⟩
@[reducible] noncomputable def sig65 : Sig := gsig sg65 F_ref09_loops
set_option maxRecDepth 100000 in
theorem f65_is : ∀ (x : sg65.X) (vs : List Value), denS GT [(50, sig50)] ⟨4, [], [], true, [], []⟩ ⟨16, [], 16⟩ (bodyOf Try.f65) sg65.out.Y (initSt (sg65.pre x) (sg65.heap x) 66 sg65.pin vs) (fun e s => finC GT [.tmp 4] [] sg65.pin [] [] e s sg65.out.dec) = F_ref09_loops x := fun x vs => by kernel_rfl
theorem f65_ok : SigOk Try.prog GT.gl 65 sig65 := gfn (Γ := GT) (nt := 66) (rs := [.tmp 4]) GT_ok (sigs_cons f50_ok (by kernel_rfl) sigs_nil) Try.func65 (by kernel_rfl) (by kernel_rfl) (by kernel_rfl) (by decide) (by decide) f65_is
@[reducible] noncomputable def sg67 : SigD := ⟨[.data (.sl 61 tNode)], [], [], ⟨[.full 2 (.int .i64)], [(2, .row 3 (.int .i64) false)], []⟩⟩
@[reducible] noncomputable def sig67 : Sig := gsig sg67 F_ref04_Begins
set_option maxRecDepth 100000 in
theorem f67_is : ∀ (x : sg67.X) (vs : List Value), denS GT [(64, sig64)] ⟨4, [], [], true, [], []⟩ ⟨4, [], 4⟩ (bodyOf Try.f67) sg67.out.Y (initSt (sg67.pre x) (sg67.heap x) 15 sg67.pin vs) (fun e s => finC GT [.tmp 2] [] sg67.pin [] [] e s sg67.out.dec) = F_ref04_Begins x := fun x vs => by kernel_rfl
theorem f67_ok : SigOk Try.prog GT.gl 67 sig67 := gfn (Γ := GT) (nt := 15) (rs := [.tmp 2]) GT_ok (sigs_cons f64_ok (by kernel_rfl) sigs_nil) Try.func67 (by kernel_rfl) (by kernel_rfl) (by kernel_rfl) (by decide) (by decide) f67_is
@[reducible] noncomputable def sg68 : SigD := ⟨[.data (.sl 61 tNode), .data (.sl 3 (.int .i64)), .data (.int .i64)], [], [], ⟨[.full 6 (.int .i64)], [(6, .row 3 (.int .i64) false)], []⟩⟩
@[reducible] noncomputable def sig68 : Sig := gsig sg68 F_ref04_Kids
set_option maxRecDepth 100000 in
theorem f68_is : ∀ (x : sg68.X) (vs : List Value), denS GT [(82, sig82)] ⟨4, [], [], false, [], []⟩ ⟨64, [], 64⟩ (bodyOf Try.f68) sg68.out.Y (initSt (sg68.pre x) (sg68.heap x) 29 sg68.pin vs) (fun e s => finC GT [.tmp 6] [] sg68.pin [] [] e s sg68.out.dec) = F_ref04_Kids x := fun x vs => by kernel_rfl
theorem f68_ok : SigOk Try.prog GT.gl 68 sig68 := gfn (Γ := GT) (nt := 29) (rs := [.tmp 6]) GT_ok (sigs_cons f82_ok (by kernel_rfl) sigs_nil) Try.func68 (by kernel_rfl) (by kernel_rfl) (by kernel_rfl) (by decide) (by decide) f68_is
@[reducible] noncomputable def sg96 : SigD := ⟨[.data (.int .i64)], [], [], ⟨[.data (.int .i64)], [], []⟩⟩
@[reducible] noncomputable def sig96 : Sig := gsig sg96 F_ref09_again
set_option maxRecDepth 100000 in
theorem f96_is : ∀ (x : sg96.X) (vs : List Value), denS GT [] ⟨4, [], [], true, [], []⟩ ⟨4, [], 4⟩ (bodyOf Try.f96) sg96.out.Y (initSt (sg96.pre x) (sg96.heap x) 5 sg96.pin vs) (fun e s => finC GT [.tmp 2] [] sg96.pin [] [] e s sg96.out.dec) = F_ref09_again x := fun x vs => by kernel_rfl
theorem f96_ok : SigOk Try.prog GT.gl 96 sig96 := gfn (Γ := GT) (nt := 5) (rs := [.tmp 2]) GT_ok sigs_nil Try.func96 (by kernel_rfl) (by kernel_rfl) (by kernel_rfl) (by decide) (by decide) f96_is
@[reducible] noncomputable def sg97 : SigD := ⟨[.data (.int .i64)], [], [], ⟨[.data (.int .i64)], [], []⟩⟩
@[reducible] noncomputable def sig97 : Sig := gsig sg97 F_ref09_least
set_option maxRecDepth 100000 in
theorem f97_is : ∀ (x : sg97.X) (vs : List Value), denS GT [] ⟨4, [], [], true, [], []⟩ ⟨4, [], 4⟩ (bodyOf Try.f97) sg97.out.Y (initSt (sg97.pre x) (sg97.heap x) 5 sg97.pin vs) (fun e s => finC GT [.tmp 2] [] sg97.pin [] [] e s sg97.out.dec) = F_ref09_least x := fun x vs => by kernel_rfl
theorem f97_ok : SigOk Try.prog GT.gl 97 sig97 := gfn (Γ := GT) (nt := 5) (rs := [.tmp 2]) GT_ok sigs_nil Try.func97 (by kernel_rfl) (by kernel_rfl) (by kernel_rfl) (by decide) (by decide) f97_is
@[reducible] noncomputable def sg98 : SigD := ⟨[.data (.int .i64), .data (.int .i64)], [], [], ⟨[.data (.int .i64)], [], []⟩⟩
@[reducible] noncomputable def sig98 : Sig := gsig sg98 F_ref09_sum
set_option maxRecDepth 100000 in
theorem f98_is : ∀ (x : sg98.X) (vs : List Value), denS GT [] ⟨4, [], [], true, [], []⟩ ⟨16, [], 16⟩ (bodyOf Try.f98) sg98.out.Y (initSt (sg98.pre x) (sg98.heap x) 14 sg98.pin vs) (fun e s => finC GT [.tmp 4] [] sg98.pin [] [] e s sg98.out.dec) = F_ref09_sum x := fun x vs => by kernel_rfl
theorem f98_ok : SigOk Try.prog GT.gl 98 sig98 := gfn (Γ := GT) (nt := 14) (rs := [.tmp 4]) GT_ok sigs_nil Try.func98 (by kernel_rfl) (by kernel_rfl) (by kernel_rfl) (by decide) (by decide) f98_is
@[reducible] noncomputable def sg99 : SigD := ⟨[.data (.int .i64)], [], [], ⟨[.data (.int .i64)], [], []⟩⟩
@[reducible] noncomputable def sig99 : Sig := gsig sg99 F_ref09_most
set_option maxRecDepth 100000 in
theorem f99_is : ∀ (x : sg99.X) (vs : List Value), denS GT [] ⟨4, [], [], true, [], []⟩ ⟨4, [], 4⟩ (bodyOf Try.f99) sg99.out.Y (initSt (sg99.pre x) (sg99.heap x) 6 sg99.pin vs) (fun e s => finC GT [.tmp 2] [] sg99.pin [] [] e s sg99.out.dec) = F_ref09_most x := fun x vs => by kernel_rfl
theorem f99_ok : SigOk Try.prog GT.gl 99 sig99 := gfn (Γ := GT) (nt := 6) (rs := [.tmp 2]) GT_ok sigs_nil Try.func99 (by kernel_rfl) (by kernel_rfl) (by kernel_rfl) (by decide) (by decide) f99_is
@[reducible] noncomputable def sg100 : SigD := ⟨[.data (.int .i64), .data (.int .i64)], [], [], ⟨[.data (.int .i64)], [], []⟩⟩
@[reducible] noncomputable def sig100 : Sig := gsig sg100 F_ref09_lesser
set_option maxRecDepth 100000 in
theorem f100_is : ∀ (x : sg100.X) (vs : List Value), denS GT [] ⟨4, [], [], true, [], []⟩ ⟨16, [], 16⟩ (bodyOf Try.f100) sg100.out.Y (initSt (sg100.pre x) (sg100.heap x) 14 sg100.pin vs) (fun e s => finC GT [.tmp 4] [] sg100.pin [] [] e s sg100.out.dec) = F_ref09_lesser x := fun x vs => by kernel_rfl
theorem f100_ok : SigOk Try.prog GT.gl 100 sig100 := gfn (Γ := GT) (nt := 14) (rs := [.tmp 4]) GT_ok sigs_nil Try.func100 (by kernel_rfl) (by kernel_rfl) (by kernel_rfl) (by decide) (by decide) f100_is
@[reducible] noncomputable def sg101 : SigD := ⟨[.data (.int .i64), .data (.int .i64)], [], [], ⟨[.data (.int .i64)], [], []⟩⟩
@[reducible] noncomputable def sig101 : Sig := gsig sg101 F_ref09_greater
set_option maxRecDepth 100000 in
theorem f101_is : ∀ (x : sg101.X) (vs : List Value), denS GT [] ⟨4, [], [], true, [], []⟩ ⟨16, [], 16⟩ (bodyOf Try.f101) sg101.out.Y (initSt (sg101.pre x) (sg101.heap x) 14 sg101.pin vs) (fun e s => finC GT [.tmp 4] [] sg101.pin [] [] e s sg101.out.dec) = F_ref09_greater x := fun x vs => by kernel_rfl
theorem f101_ok : SigOk Try.prog GT.gl 101 sig101 := gfn (Γ := GT) (nt := 14) (rs := [.tmp 4]) GT_ok sigs_nil Try.func101 (by kernel_rfl) (by kernel_rfl) (by kernel_rfl) (by decide) (by decide) f101_is
@[reducible] noncomputable def sg102 : SigD := ⟨[.data (.int .i64), .data (.int .i64)], [], [], ⟨[.data (.int .i64)], [], []⟩⟩
@[reducible] noncomputable def sig102 : Sig := gsig sg102 F_ref09_times
set_option maxRecDepth 100000 in
theorem f102_is : ∀ (x : sg102.X) (vs : List Value), denS GT [] ⟨4, [], [], true, [], []⟩ ⟨16, [], 16⟩ (bodyOf Try.f102) sg102.out.Y (initSt (sg102.pre x) (sg102.heap x) 10 sg102.pin vs) (fun e s => finC GT [.tmp 4] [] sg102.pin [] [] e s sg102.out.dec) = F_ref09_times x := fun x vs => by kernel_rfl
theorem f102_ok : SigOk Try.prog GT.gl 102 sig102 := gfn (Γ := GT) (nt := 10) (rs := [.tmp 4]) GT_ok sigs_nil Try.func102 (by kernel_rfl) (by kernel_rfl) (by kernel_rfl) (by decide) (by decide) f102_is
@[reducible] noncomputable def sg84 : SigD := ⟨[.data tGrammar, .data tNode, .data (.sl 65 tEmptiness), .data (.sl 65 tEmptiness)], [], [], ⟨[.data tEmptiness], [], []⟩⟩
@[reducible] noncomputable def sig84 : Sig := gsig sg84 F_ref09_node
set_option maxRecDepth 100000 in
theorem f84_is : ∀ (x : sg84.X) (vs : List Value), denS GT [(50, sig50), (96, sig96), (97, sig97), (98, sig98), (99, sig99), (100, sig100), (101, sig101), (102, sig102)] ⟨4, [], [], true, [], []⟩ ⟨256, [], 256⟩ (bodyOf Try.f84) sg84.out.Y (initSt (sg84.pre x) (sg84.heap x) 225 sg84.pin vs) (fun e s => finC GT [.cell 8 65] [] sg84.pin [] [] e s sg84.out.dec) = F_ref09_node x := fun x vs => by kernel_rfl
theorem f84_ok : SigOk Try.prog GT.gl 84 sig84 := gfn (Γ := GT) (nt := 225) (rs := [.cell 8 65]) GT_ok (sigs_cons f50_ok (by kernel_rfl) (sigs_cons f96_ok (by kernel_rfl) (sigs_cons f97_ok (by kernel_rfl) (sigs_cons f98_ok (by kernel_rfl) (sigs_cons f99_ok (by kernel_rfl) (sigs_cons f100_ok (by kernel_rfl) (sigs_cons f101_ok (by kernel_rfl) (sigs_cons f102_ok (by kernel_rfl) sigs_nil)))))))) Try.func84 (by kernel_rfl) (by kernel_rfl) (by kernel_rfl) (by decide) (by decide) f84_is
@[reducible] noncomputable def sg66 : SigD := ⟨[.data tGrammar, .data (.sl 61 tNode), .data (.sl 65 tEmptiness)], [], [], ⟨[.full 6 tEmptiness], [(6, .row 65 tEmptiness false)], []⟩⟩
@[reducible] noncomputable def sig66 : Sig := gsig sg66 F_ref09_parts
set_option maxRecDepth 100000 in
theorem f66_is : ∀ (x : sg66.X) (vs : List Value), denS GT [(67, sig67), (68, sig68), (84, sig84)] ⟨4, [], [7], true, [], []⟩ ⟨64, [], 64⟩ (bodyOf Try.f66) sg66.out.Y (initSt (sg66.pre x) (sg66.heap x) 53 sg66.pin vs) (fun e s => finC GT [.tmp 6] [] sg66.pin [] [] e s sg66.out.dec) = F_ref09_parts x := fun x vs => by kernel_rfl
theorem f66_ok : SigOk Try.prog GT.gl 66 sig66 := gfn (Γ := GT) (nt := 53) (rs := [.tmp 6]) GT_ok (sigs_cons f67_ok (by kernel_rfl) (sigs_cons f68_ok (by kernel_rfl) (sigs_cons f84_ok (by kernel_rfl) sigs_nil))) Try.func66 (by kernel_rfl) (by kernel_rfl) (by kernel_rfl) (by decide) (by decide) f66_is
@[reducible] noncomputable def sg43 : SigD := ⟨[.data tGrammar], [], [], ⟨[.data (.sl 65 tEmptiness)], [], []⟩⟩
@[reducible] noncomputable def sig43 : Sig := gsig sg43 F_ref09_Known
set_option maxRecDepth 100000 in
theorem f43_is : ∀ (x : sg43.X) (vs : List Value), denS GT [(65, sig65), (66, sig66)] ⟨4, [], [], true, [9219, 12291], []⟩ ⟨4, [], 4⟩ (bodyOf Try.f43) sg43.out.Y (initSt (sg43.pre x) (sg43.heap x) 86 sg43.pin vs) (fun e s => finC GT [.tmp 2] [] sg43.pin [] [] e s sg43.out.dec) = F_ref09_Known x := fun x vs => by kernel_rfl
theorem f43_ok : SigOk Try.prog GT.gl 43 sig43 := gfn (Γ := GT) (nt := 86) (rs := [.tmp 2]) GT_ok (sigs_cons f65_ok (by kernel_rfl) (sigs_cons f66_ok (by kernel_rfl) sigs_nil)) Try.func43 (by kernel_rfl) (by kernel_rfl) (by kernel_rfl) (by decide) (by decide) f43_is
@[reducible] noncomputable def sg44 : SigD := ⟨[.data tGrammar, .data (.sl 61 tNode), .data (.sl 65 tEmptiness)], [], [], ⟨[.full 6 tEmptiness], [(6, .row 65 tEmptiness false)], []⟩⟩
@[reducible] noncomputable def sig44 : Sig := gsig sg44 F_ref09_Nodes
set_option maxRecDepth 100000 in
theorem f44_is : ∀ (x : sg44.X) (vs : List Value), denS GT [(66, sig66)] ⟨4, [], [], true, [], []⟩ ⟨64, [], 64⟩ (bodyOf Try.f44) sg44.out.Y (initSt (sg44.pre x) (sg44.heap x) 11 sg44.pin vs) (fun e s => finC GT [.tmp 6] [] sg44.pin [] [] e s sg44.out.dec) = F_ref09_Nodes x := fun x vs => by kernel_rfl
theorem f44_ok : SigOk Try.prog GT.gl 44 sig44 := gfn (Γ := GT) (nt := 11) (rs := [.tmp 6]) GT_ok (sigs_cons f66_ok (by kernel_rfl) sigs_nil) Try.func44 (by kernel_rfl) (by kernel_rfl) (by kernel_rfl) (by decide) (by decide) f44_is
@[reducible] noncomputable def sg90 : SigD := ⟨[.data tSet, .data (.int .i64)], [], [], ⟨[.data tSet], [], []⟩⟩
@[reducible] noncomputable def sig90 : Sig := gsig sg90 F_ref01_With
set_option maxRecDepth 100000 in
theorem f90_is : ∀ (x : sg90.X) (vs : List Value), denS GTA [] ⟨4, [], [], true, [], []⟩ ⟨16, [], 16⟩ (bodyOf Try.f90) sg90.out.Y (initSt (sg90.pre x) (sg90.heap x) 15 sg90.pin vs) (fun e s => finC GTA [.cell 4 34] [] sg90.pin [] [] e s sg90.out.dec) = F_ref01_With x := fun x vs => by kernel_rfl
theorem f90_ok : SigOk Try.prog GT.gl 90 sig90 := gfn (Γ := GTA) (nt := 15) (rs := [.cell 4 34]) GTA_ok sigs_nil Try.func90 (by kernel_rfl) (by kernel_rfl) (by kernel_rfl) (by decide) (by decide) f90_is
@[reducible] noncomputable def sg85 : SigD := ⟨[.data (.int .i64), .data (.int .i64)], [], [], ⟨[.data tSet], [], []⟩⟩
@[reducible] noncomputable def sig85 : Sig := gsig sg85 F_ref01_FromTo
set_option maxRecDepth 100000 in
theorem f85_is : ∀ (x : sg85.X) (vs : List Value), denS GT [(90, sig90)] ⟨4, [], [], true, [], []⟩ ⟨16, [], 16⟩ (bodyOf Try.f85) sg85.out.Y (initSt (sg85.pre x) (sg85.heap x) 17 sg85.pin vs) (fun e s => finC GT [.cell 4 34] [] sg85.pin [] [] e s sg85.out.dec) = F_ref01_FromTo x := fun x vs => by kernel_rfl
theorem f85_ok : SigOk Try.prog GT.gl 85 sig85 := gfn (Γ := GT) (nt := 17) (rs := [.cell 4 34]) GT_ok (sigs_cons f90_ok (by kernel_rfl) sigs_nil) Try.func85 (by kernel_rfl) (by kernel_rfl) (by kernel_rfl) (by decide) (by decide) f85_is
@[reducible] noncomputable def sg89 : SigD := ⟨[.data tSet, .data (.int .i64)], [], [], ⟨[.data .bool], [], []⟩⟩
@[reducible] noncomputable def sig89 : Sig := gsig sg89 F_ref01_Has
set_option maxRecDepth 100000 in
theorem f89_is : ∀ (x : sg89.X) (vs : List Value), denS GTA [] ⟨4, [], [], true, [], []⟩ ⟨16, [], 16⟩ (bodyOf Try.f89) sg89.out.Y (initSt (sg89.pre x) (sg89.heap x) 22 sg89.pin vs) (fun e s => finC GTA [.tmp 4] [] sg89.pin [] [] e s sg89.out.dec) = F_ref01_Has x := fun x vs => by kernel_rfl
theorem f89_ok : SigOk Try.prog GT.gl 89 sig89 := gfn (Γ := GTA) (nt := 22) (rs := [.tmp 4]) GTA_ok sigs_nil Try.func89 (by kernel_rfl) (by kernel_rfl) (by kernel_rfl) (by decide) (by decide) f89_is
@[reducible] noncomputable def sg72 : SigD := ⟨[.data (.int .i64), .data tSet, .data tSet], [], [], ⟨[.data tSet], [], []⟩⟩
@[reducible] noncomputable def sig72 : Sig := gsig sg72 F_ref01_Mix
set_option maxRecDepth 100000 in
theorem f72_is : ∀ (x : sg72.X) (vs : List Value), denS GT [(89, sig89), (90, sig90)] ⟨4, [], [], true, [], []⟩ ⟨64, [], 64⟩ (bodyOf Try.f72) sg72.out.Y (initSt (sg72.pre x) (sg72.heap x) 62 sg72.pin vs) (fun e s => finC GT [.cell 6 34] [] sg72.pin [] [] e s sg72.out.dec) = F_ref01_Mix x := fun x vs => by kernel_rfl
theorem f72_ok : SigOk Try.prog GT.gl 72 sig72 := gfn (Γ := GT) (nt := 62) (rs := [.cell 6 34]) GT_ok (sigs_cons f89_ok (by kernel_rfl) (sigs_cons f90_ok (by kernel_rfl) sigs_nil)) Try.func72 (by kernel_rfl) (by kernel_rfl) (by kernel_rfl) (by decide) (by decide) f72_is
@[reducible] noncomputable def sg87 : SigD := ⟨[.data tSet, .data tSet], [], [], ⟨[.data tSet], [], []⟩⟩
@[reducible] noncomputable def sig87 : Sig := gsig sg87 F_ref01_Union
set_option maxRecDepth 100000 in
theorem f87_is : ∀ (x : sg87.X) (vs : List Value), denS GT [(72, sig72)] ⟨4, [], [], true, [], []⟩ ⟨16, [], 16⟩ (bodyOf Try.f87) sg87.out.Y (initSt (sg87.pre x) (sg87.heap x) 8 sg87.pin vs) (fun e s => finC GT [.cell 4 34] [] sg87.pin [] [] e s sg87.out.dec) = F_ref01_Union x := fun x vs => by kernel_rfl
theorem f87_ok : SigOk Try.prog GT.gl 87 sig87 := gfn (Γ := GT) (nt := 8) (rs := [.cell 4 34]) GT_ok (sigs_cons f72_ok (by kernel_rfl) sigs_nil) Try.func87 (by kernel_rfl) (by kernel_rfl) (by kernel_rfl) (by decide) (by decide) f87_is
@[reducible] noncomputable def sg86 : SigD := ⟨[.data tFirsts, .data tFirsts, .data .bool], [], [], ⟨[.data tFirsts], [], []⟩⟩
@[reducible] noncomputable def sig86 : Sig := gsig sg86 F_ref11_seq
set_option maxRecDepth 100000 in
theorem f86_is : ∀ (x : sg86.X) (vs : List Value), denS GT [(87, sig87)] ⟨4, [], [], true, [], []⟩ ⟨64, [], 64⟩ (bodyOf Try.f86) sg86.out.Y (initSt (sg86.pre x) (sg86.heap x) 32 sg86.pin vs) (fun e s => finC GT [.cell 6 36] [] sg86.pin [] [] e s sg86.out.dec) = F_ref11_seq x := fun x vs => by kernel_rfl
theorem f86_ok : SigOk Try.prog GT.gl 86 sig86 := gfn (Γ := GT) (nt := 32) (rs := [.cell 6 36]) GT_ok (sigs_cons f87_ok (by kernel_rfl) sigs_nil) Try.func86 (by kernel_rfl) (by kernel_rfl) (by kernel_rfl) (by decide) (by decide) f86_is
@[reducible] noncomputable def sg69 : SigD := ⟨[.data tGrammar, .data tNode, .data (.sl 36 tFirsts), .data .bool, .data (.sl 36 tFirsts)], [], [], ⟨[.data tFirsts], [], []⟩⟩
@[reducible] noncomputable def sig69 : Sig := gsig sg69 F_ref11_node
set_option maxRecDepth 100000 in
theorem f69_is : ∀ (x : sg69.X) (vs : List Value), denS GT [(50, sig50), (85, sig85), (86, sig86), (87, sig87)] ⟨4, [], [], true, [], []⟩ ⟨1024, [], 1024⟩ (bodyOf Try.f69) sg69.out.Y (initSt (sg69.pre x) (sg69.heap x) 151 sg69.pin vs) (fun e s => finC GT [.cell 10 36] [] sg69.pin [] [] e s sg69.out.dec) = F_ref11_node x := fun x vs => by kernel_rfl
theorem f69_ok : SigOk Try.prog GT.gl 69 sig69 := gfn (Γ := GT) (nt := 151) (rs := [.cell 10 36]) GT_ok (sigs_cons f50_ok (by kernel_rfl) (sigs_cons f85_ok (by kernel_rfl) (sigs_cons f86_ok (by kernel_rfl) (sigs_cons f87_ok (by kernel_rfl) sigs_nil)))) Try.func69 (by kernel_rfl) (by kernel_rfl) (by kernel_rfl) (by decide) (by decide) f69_is
@[reducible] noncomputable def sg45 : SigD := ⟨[.data tGrammar, .data (.sl 61 tNode), .data (.sl 65 tEmptiness), .data (.sl 36 tFirsts)], [], [], ⟨[.full 8 tFirsts], [(8, .row 36 tFirsts false)], []⟩⟩
@[reducible] noncomputable def sig45 : Sig := gsig sg45 F_ref11_parts
set_option maxRecDepth 100000 in
theorem f45_is : ∀ (x : sg45.X) (vs : List Value), denS GT [(67, sig67), (68, sig68), (69, sig69)] ⟨4, [], [9], true, [], []⟩ ⟨256, [], 256⟩ (bodyOf Try.f45) sg45.out.Y (initSt (sg45.pre x) (sg45.heap x) 65 sg45.pin vs) (fun e s => finC GT [.tmp 8] [] sg45.pin [] [] e s sg45.out.dec) = F_ref11_parts x := fun x vs => by kernel_rfl
theorem f45_ok : SigOk Try.prog GT.gl 45 sig45 := gfn (Γ := GT) (nt := 65) (rs := [.tmp 8]) GT_ok (sigs_cons f67_ok (by kernel_rfl) (sigs_cons f68_ok (by kernel_rfl) (sigs_cons f69_ok (by kernel_rfl) sigs_nil))) Try.func45 (by kernel_rfl) (by kernel_rfl) (by kernel_rfl) (by decide) (by decide) f45_is
@[reducible] noncomputable def sg24 : SigD := ⟨[.data tGrammar], [], [], ⟨[.data (.sl 36 tFirsts)], [], []⟩⟩
@[reducible] noncomputable def sig24 : Sig := gsig sg24 F_ref11_Known
set_option maxRecDepth 100000 in
theorem f24_is : ∀ (x : sg24.X) (vs : List Value), denS GT [(43, sig43), (44, sig44), (45, sig45)] ⟨4, [], [], true, [9219, 12291, 9221, 12293], []⟩ ⟨4, [], 4⟩ (bodyOf Try.f24) sg24.out.Y (initSt (sg24.pre x) (sg24.heap x) 81 sg24.pin vs) (fun e s => finC GT [.tmp 2] [] sg24.pin [] [] e s sg24.out.dec) = F_ref11_Known x := fun x vs => by kernel_rfl
theorem f24_ok : SigOk Try.prog GT.gl 24 sig24 := gfn (Γ := GT) (nt := 81) (rs := [.tmp 2]) GT_ok (sigs_cons f43_ok (by kernel_rfl) (sigs_cons f44_ok (by kernel_rfl) (sigs_cons f45_ok (by kernel_rfl) sigs_nil))) Try.func24 (by kernel_rfl) (by kernel_rfl) (by kernel_rfl) (by decide) (by decide) f24_is
@[reducible] noncomputable def sg25 : SigD := ⟨[.data tGrammar, .data (.sl 61 tNode)], [], [], ⟨[.data (.sl 36 tFirsts)], [], []⟩⟩
@[reducible] noncomputable def sig25 : Sig := gsig sg25 F_first_parts
set_option maxRecDepth 100000 in
theorem f25_is : ∀ (x : sg25.X) (vs : List Value), denS (GTd [] [] [8, 9, 11, 12]) [(22, sig22), (37, sig37), (38, sig38_em), (39, sig39_fi)] ⟨4, [], [], true, [], [2050]⟩ ⟨16, [], 16⟩ (bodyOf Try.f25) sg25.out.Y (initSt (sg25.pre x) (sg25.heap x) 13 sg25.pin vs) (fun e s => finC (GTd [] [] [8, 9, 11, 12]) [.tmp 4] [] sg25.pin [] [] e s sg25.out.dec) = F_first_parts x := fun x vs => by kernel_rfl
theorem f25_ok : SigOk Try.prog GT.gl 25 sig25 := gfn (Γ := (GTd [] [] [8, 9, 11, 12])) (nt := 13) (rs := [.tmp 4]) (GTd_ok _ _ _) (sigs_cons f22_ok (by kernel_rfl) (sigs_cons f37_ok (by kernel_rfl) (sigs_cons f38_em_ok (by kernel_rfl) (sigs_cons f39_fi_ok (by kernel_rfl) sigs_nil)))) Try.func25 (by kernel_rfl) (by kernel_rfl) (by kernel_rfl) (by decide) (by decide) f25_is
@[reducible] noncomputable def sg46 : SigD := ⟨[.data tGrammar, .data (.sl 61 tNode)], [], [], ⟨[.full 4 tEmptiness], [(4, .row 65 tEmptiness false)], []⟩⟩
@[reducible] noncomputable def sig46 : Sig := gsig sg46 F_ref09_All
set_option maxRecDepth 100000 in
theorem f46_is : ∀ (x : sg46.X) (vs : List Value), denS GT [(43, sig43), (66, sig66)] ⟨4, [], [], true, [], []⟩ ⟨16, [], 16⟩ (bodyOf Try.f46) sg46.out.Y (initSt (sg46.pre x) (sg46.heap x) 10 sg46.pin vs) (fun e s => finC GT [.tmp 4] [] sg46.pin [] [] e s sg46.out.dec) = F_ref09_All x := fun x vs => by kernel_rfl
theorem f46_ok : SigOk Try.prog GT.gl 46 sig46 := gfn (Γ := GT) (nt := 10) (rs := [.tmp 4]) GT_ok (sigs_cons f43_ok (by kernel_rfl) (sigs_cons f66_ok (by kernel_rfl) sigs_nil)) Try.func46 (by kernel_rfl) (by kernel_rfl) (by kernel_rfl) (by decide) (by decide) f46_is
@[reducible] noncomputable def sg26 : SigD := ⟨[.data tGrammar, .data (.sl 61 tNode)], [], [], ⟨[.full 4 tFirsts], [(4, .row 36 tFirsts false)], []⟩⟩
@[reducible] noncomputable def sig26 : Sig := gsig sg26 F_ref11_All
set_option maxRecDepth 100000 in
theorem f26_is : ∀ (x : sg26.X) (vs : List Value), denS GT [(24, sig24), (45, sig45), (46, sig46)] ⟨4, [], [], true, [], []⟩ ⟨16, [], 16⟩ (bodyOf Try.f26) sg26.out.Y (initSt (sg26.pre x) (sg26.heap x) 13 sg26.pin vs) (fun e s => finC GT [.tmp 4] [] sg26.pin [] [] e s sg26.out.dec) = F_ref11_All x := fun x vs => by kernel_rfl
theorem f26_ok : SigOk Try.prog GT.gl 26 sig26 := gfn (Γ := GT) (nt := 13) (rs := [.tmp 4]) GT_ok (sigs_cons f24_ok (by kernel_rfl) (sigs_cons f45_ok (by kernel_rfl) (sigs_cons f46_ok (by kernel_rfl) sigs_nil))) Try.func26 (by kernel_rfl) (by kernel_rfl) (by kernel_rfl) (by decide) (by decide) f26_is
@[reducible] noncomputable def sg31 : SigD := ⟨[.data (.sl 61 tNode), .data (.sl 61 tNode)], [], [], ⟨[.data .bool], [], []⟩⟩
@[reducible] noncomputable def sig31 : Sig := gsig sg31 F_book_SamePattern
set_option maxRecDepth 100000 in
theorem f31_is : ∀ (x : sg31.X) (vs : List Value), denS GT [] ⟨4, [], [], false, [], []⟩ ⟨16, [], 16⟩ (bodyOf Try.f31) sg31.out.Y (initSt (sg31.pre x) (sg31.heap x) 26 sg31.pin vs) (fun e s => finC GT [.tmp 4] [] sg31.pin [] [] e s sg31.out.dec) = F_book_SamePattern x := fun x vs => by kernel_rfl
theorem f31_ok : SigOk Try.prog GT.gl 31 sig31 := gfn (Γ := GT) (nt := 26) (rs := [.tmp 4]) GT_ok sigs_nil Try.func31 (by kernel_rfl) (by kernel_rfl) (by kernel_rfl) (by decide) (by decide) f31_is
@[reducible] noncomputable def sg19 : SigD := ⟨[.lent 61 tNode, .data (.sl 61 tNode)], [], [], ⟨[.data .bool], [], []⟩⟩
@[reducible] noncomputable def sig19 : Sig := gsig sg19 F_book_KeptPattern
set_option maxRecDepth 100000 in
theorem f19_is : ∀ (x : sg19.X) (vs : List Value), denS GT [(31, sig31)] ⟨4, [], [], false, [], []⟩ ⟨16, [], 16⟩ (bodyOf Try.f19) sg19.out.Y (initSt (sg19.pre x) (sg19.heap x) 21 sg19.pin vs) (fun e s => finC GT [.tmp 4] [] sg19.pin [] [] e s sg19.out.dec) = F_book_KeptPattern x := fun x vs => by kernel_rfl
theorem f19_ok : SigOk Try.prog GT.gl 19 sig19 := gfn (Γ := GT) (nt := 21) (rs := [.tmp 4]) GT_ok (sigs_cons f31_ok (by kernel_rfl) sigs_nil) Try.func19 (by kernel_rfl) (by kernel_rfl) (by kernel_rfl) (by decide) (by decide) f19_is
@[reducible] noncomputable def sg12 : SigD := ⟨[.data tGrammarL, .data tGrammarL], [], [], ⟨[.data .bool], [], []⟩⟩
@[reducible] noncomputable def sig12 : Sig := gsig sg12 F_book_KeptGrammar
set_option maxRecDepth 100000 in
theorem f12_is : ∀ (x : sg12.X) (vs : List Value), denS GTL [(19, sig19)] ⟨4, [], [], true, [], []⟩ ⟨16, [], 16⟩ (bodyOf Try.f12) sg12.out.Y (initSt (sg12.pre x) (sg12.heap x) 61 sg12.pin vs) (fun e s => finC GTL [.tmp 4] [] sg12.pin [] [] e s sg12.out.dec) = F_book_KeptGrammar x := fun x vs => by kernel_rfl
theorem f12_ok : SigOk Try.prog GT.gl 12 sig12 := gfn (Γ := GTL) (nt := 61) (rs := [.tmp 4]) GTL_ok (sigs_cons f19_ok (by kernel_rfl) sigs_nil) Try.func12 (by kernel_rfl) (by kernel_rfl) (by kernel_rfl) (by decide) (by decide) f12_is
@[reducible] noncomputable def sg88 : SigD := ⟨[.data (.sl 9 .str), .data .str], [], [], ⟨[.data (.int .i64)], [], []⟩⟩
@[reducible] noncomputable def sig88 : Sig := gsig sg88 F_slices_Index_string_string
set_option maxRecDepth 100000 in
theorem f88_is : ∀ (x : sg88.X) (vs : List Value), denS GT [] ⟨4, [], [], false, [], []⟩ ⟨16, [], 16⟩ (bodyOf Try.f88) sg88.out.Y (initSt (sg88.pre x) (sg88.heap x) 19 sg88.pin vs) (fun e s => finC GT [.tmp 4] [] sg88.pin [] [] e s sg88.out.dec) = F_slices_Index_string_string x := fun x vs => by kernel_rfl
theorem f88_ok : SigOk Try.prog GT.gl 88 sig88 := gfn (Γ := GT) (nt := 19) (rs := [.tmp 4]) GT_ok sigs_nil Try.func88 (by kernel_rfl) (by kernel_rfl) (by kernel_rfl) (by decide) (by decide) f88_is
@[reducible] noncomputable def sg70 : SigD := ⟨[.data (.sl 9 .str), .data .str], [], [], ⟨[.data .bool], [], []⟩⟩
@[reducible] noncomputable def sig70 : Sig := gsig sg70 F_slices_Contains_string_string
set_option maxRecDepth 100000 in
theorem f70_is : ∀ (x : sg70.X) (vs : List Value), denS GT [(88, sig88)] ⟨4, [], [], false, [], []⟩ ⟨16, [], 16⟩ (bodyOf Try.f70) sg70.out.Y (initSt (sg70.pre x) (sg70.heap x) 9 sg70.pin vs) (fun e s => finC GT [.tmp 4] [] sg70.pin [] [] e s sg70.out.dec) = F_slices_Contains_string_string x := fun x vs => by kernel_rfl
theorem f70_ok : SigOk Try.prog GT.gl 70 sig70 := gfn (Γ := GT) (nt := 9) (rs := [.tmp 4]) GT_ok (sigs_cons f88_ok (by kernel_rfl) sigs_nil) Try.func70 (by kernel_rfl) (by kernel_rfl) (by kernel_rfl) (by decide) (by decide) f70_is
@[reducible] noncomputable def sg48 : SigD := ⟨[.data (.sl 61 tNode)], [], [], ⟨[.full 2 .str, .data (.int .i64)], [(2, .row 9 .str false)], []⟩⟩
@[reducible] noncomputable def sig48 : Sig := gsig sg48 F_tree_Names
set_option maxRecDepth 100000 in
theorem f48_is : ∀ (x : sg48.X) (vs : List Value), denS GT [(35, sig35), (70, sig70)] ⟨4, [], [], false, [], []⟩ ⟨12, [], 12⟩ (bodyOf Try.f48) sg48.out.Y (initSt (sg48.pre x) (sg48.heap x) 40 sg48.pin vs) (fun e s => finC GT [.tmp 2, .tmp 3] [] sg48.pin [] [] e s sg48.out.dec) = F_tree_Names x := fun x vs => by kernel_rfl
theorem f48_ok : SigOk Try.prog GT.gl 48 sig48 := gfn (Γ := GT) (nt := 40) (rs := [.tmp 2, .tmp 3]) GT_ok (sigs_cons f35_ok (by kernel_rfl) (sigs_cons f70_ok (by kernel_rfl) sigs_nil)) Try.func48 (by kernel_rfl) (by kernel_rfl) (by kernel_rfl) (by decide) (by decide) f48_is
@[reducible] noncomputable def sg28 : SigD := ⟨[.data tGrammar, .data (.sl 61 tNode)], [], [], ⟨[.data (.int .i64)], [], []⟩⟩
@[reducible] noncomputable def sig28 : Sig := gsig sg28 F_first_look
set_option maxRecDepth 100000 in
theorem f28_is : ∀ (x : sg28.X) (vs : List Value), denS GT [(48, sig48), (49, sig49)] ⟨4, [], [], true, [], []⟩ ⟨16, [], 16⟩ (bodyOf Try.f28) sg28.out.Y (initSt (sg28.pre x) (sg28.heap x) 37 sg28.pin vs) (fun e s => finC GT [.tmp 4] [] sg28.pin [] [] e s sg28.out.dec) = F_first_look x := fun x vs => by kernel_rfl
theorem f28_ok : SigOk Try.prog GT.gl 28 sig28 := gfn (Γ := GT) (nt := 37) (rs := [.tmp 4]) GT_ok (sigs_cons f48_ok (by kernel_rfl) (sigs_cons f49_ok (by kernel_rfl) sigs_nil)) Try.func28 (by kernel_rfl) (by kernel_rfl) (by kernel_rfl) (by decide) (by decide) f28_is
@[reducible] noncomputable def sg15 : SigD := ⟨[.data tGrammar, .data (.sl 61 tNode)], [], [], ⟨[.data tFirsts, .data (.int .i64)], [], []⟩⟩
@[reducible] noncomputable def sig15 : Sig := gsig sg15 F_first_Of
set_option maxRecDepth 100000 in
theorem f15_is : ∀ (x : sg15.X) (vs : List Value), denS GT [(21, sig21), (25, sig25), (28, sig28)] ⟨4, [], [], true, [], []⟩ ⟨48, [], 48⟩ (bodyOf Try.f15) sg15.out.Y (initSt (sg15.pre x) (sg15.heap x) 33 sg15.pin vs) (fun e s => finC GT [.cell 4 36, .tmp 5] [] sg15.pin [] [] e s sg15.out.dec) = F_first_Of x := fun x vs => by kernel_rfl
theorem f15_ok : SigOk Try.prog GT.gl 15 sig15 := gfn (Γ := GT) (nt := 33) (rs := [.cell 4 36, .tmp 5]) GT_ok (sigs_cons f21_ok (by kernel_rfl) (sigs_cons f25_ok (by kernel_rfl) (sigs_cons f28_ok (by kernel_rfl) sigs_nil))) Try.func15 (by kernel_rfl) (by kernel_rfl) (by kernel_rfl) (by decide) (by decide) f15_is
@[reducible] noncomputable def sg13 : SigD := ⟨[], [], [], ⟨[.data .bool], [], []⟩⟩
@[reducible] noncomputable def sig13 : Sig := gsig sg13 F_law11_works
set_option maxRecDepth 100000 in
theorem f13_is : ∀ (x : sg13.X) (vs : List Value), denS GT [(7, sig7), (15, sig15), (27, sig27)] ⟨4, [], [], true, [], []⟩ ⟨1, [], 1⟩ (bodyOf Try.f13) sg13.out.Y (initSt (sg13.pre x) (sg13.heap x) 58 sg13.pin vs) (fun e s => finC GT [.tmp 0] [] sg13.pin [] [] e s sg13.out.dec) = F_law11_works x := fun x vs => by kernel_rfl
theorem f13_ok : SigOk Try.prog GT.gl 13 sig13 := gfn (Γ := GT) (nt := 58) (rs := [.tmp 0]) GT_ok (sigs_cons f7_ok (by kernel_rfl) (sigs_cons f15_ok (by kernel_rfl) (sigs_cons f27_ok (by kernel_rfl) sigs_nil))) Try.func13 (by kernel_rfl) (by kernel_rfl) (by kernel_rfl) (by decide) (by decide) f13_is
@[reducible] noncomputable def sg29 : SigD := ⟨[.data tGrammar, .data (.sl 61 tNode)], [], [], ⟨[.data tEmptiness, .data (.int .i64)], [], []⟩⟩
@[reducible] noncomputable def sig29 : Sig := gsig sg29 F_ref09_Of
set_option maxRecDepth 100000 in
theorem f29_is : ∀ (x : sg29.X) (vs : List Value), denS GT [(23, sig23), (42, sig42), (46, sig46), (50, sig50)] ⟨4, [], [], true, [], []⟩ ⟨48, [], 48⟩ (bodyOf Try.f29) sg29.out.Y (initSt (sg29.pre x) (sg29.heap x) 60 sg29.pin vs) (fun e s => finC GT [.cell 4 65, .tmp 5] [] sg29.pin [] [] e s sg29.out.dec) = F_ref09_Of x := fun x vs => by kernel_rfl
theorem f29_ok : SigOk Try.prog GT.gl 29 sig29 := gfn (Γ := GT) (nt := 60) (rs := [.cell 4 65, .tmp 5]) GT_ok (sigs_cons f23_ok (by kernel_rfl) (sigs_cons f42_ok (by kernel_rfl) (sigs_cons f46_ok (by kernel_rfl) (sigs_cons f50_ok (by kernel_rfl) sigs_nil)))) Try.func29 (by kernel_rfl) (by kernel_rfl) (by kernel_rfl) (by decide) (by decide) f29_is
@[reducible] noncomputable def sg16 : SigD := ⟨[.data tGrammar, .data (.sl 61 tNode)], [], [], ⟨[.data tFirsts, .data (.int .i64)], [], []⟩⟩
@[reducible] noncomputable def sig16 : Sig := gsig sg16 F_ref11_Of
set_option maxRecDepth 100000 in
theorem f16_is : ∀ (x : sg16.X) (vs : List Value), denS GT [(26, sig26), (29, sig29)] ⟨4, [], [], true, [], []⟩ ⟨48, [], 48⟩ (bodyOf Try.f16) sg16.out.Y (initSt (sg16.pre x) (sg16.heap x) 26 sg16.pin vs) (fun e s => finC GT [.cell 4 36, .tmp 5] [] sg16.pin [] [] e s sg16.out.dec) = F_ref11_Of x := fun x vs => by kernel_rfl
theorem f16_ok : SigOk Try.prog GT.gl 16 sig16 := gfn (Γ := GT) (nt := 26) (rs := [.cell 4 36, .tmp 5]) GT_ok (sigs_cons f26_ok (by kernel_rfl) (sigs_cons f29_ok (by kernel_rfl) sigs_nil)) Try.func16 (by kernel_rfl) (by kernel_rfl) (by kernel_rfl) (by decide) (by decide) f16_is
@[reducible] noncomputable def sg32 : SigD := ⟨[.data tSet, .data tSet], [], [], ⟨[.data tSet], [], []⟩⟩
@[reducible] noncomputable def sig32 : Sig := gsig sg32 F_charset_Meet
set_option maxRecDepth 100000 in
theorem f32_is : ∀ (x : sg32.X) (vs : List Value), denS GTA [] ⟨4, [], [], true, [], []⟩ ⟨16, [], 16⟩ (bodyOf Try.f32) sg32.out.Y (initSt (sg32.pre x) (sg32.heap x) 19 sg32.pin vs) (fun e s => finC GTA [.cell 4 34] [] sg32.pin [] [] e s sg32.out.dec) = F_charset_Meet x := fun x vs => by kernel_rfl
theorem f32_ok : SigOk Try.prog GT.gl 32 sig32 := gfn (Γ := GTA) (nt := 19) (rs := [.cell 4 34]) GTA_ok sigs_nil Try.func32 (by kernel_rfl) (by kernel_rfl) (by kernel_rfl) (by decide) (by decide) f32_is
@[reducible] noncomputable def sg20 : SigD := ⟨[.data tSet, .data tSet], [], [], ⟨[.data .bool], [], []⟩⟩
@[reducible] noncomputable def sig20 : Sig := gsig sg20 F_charset_Apart
set_option maxRecDepth 100000 in
theorem f20_is : ∀ (x : sg20.X) (vs : List Value), denS GT [(32, sig32)] ⟨4, [], [], true, [], []⟩ ⟨16, [], 16⟩ (bodyOf Try.f20) sg20.out.Y (initSt (sg20.pre x) (sg20.heap x) 10 sg20.pin vs) (fun e s => finC GT [.tmp 4] [] sg20.pin [] [] e s sg20.out.dec) = F_charset_Apart x := fun x vs => by kernel_rfl
theorem f20_ok : SigOk Try.prog GT.gl 20 sig20 := gfn (Γ := GT) (nt := 10) (rs := [.tmp 4]) GT_ok (sigs_cons f32_ok (by kernel_rfl) sigs_nil) Try.func20 (by kernel_rfl) (by kernel_rfl) (by kernel_rfl) (by decide) (by decide) f20_is
@[reducible] noncomputable def sg17 : SigD := ⟨[.data tGrammar, .data (.sl 61 tNode), .data (.sl 61 tNode)], [], [], ⟨[.data .bool, .data (.int .i64)], [], []⟩⟩
@[reducible] noncomputable def sig17 : Sig := gsig sg17 F_first_Decided
set_option maxRecDepth 100000 in
theorem f17_is : ∀ (x : sg17.X) (vs : List Value), denS GT [(15, sig15), (20, sig20)] ⟨4, [], [], true, [], []⟩ ⟨192, [], 192⟩ (bodyOf Try.f17) sg17.out.Y (initSt (sg17.pre x) (sg17.heap x) 48 sg17.pin vs) (fun e s => finC GT [.tmp 6, .tmp 7] [] sg17.pin [] [] e s sg17.out.dec) = F_first_Decided x := fun x vs => by kernel_rfl
theorem f17_ok : SigOk Try.prog GT.gl 17 sig17 := gfn (Γ := GT) (nt := 48) (rs := [.tmp 6, .tmp 7]) GT_ok (sigs_cons f15_ok (by kernel_rfl) (sigs_cons f20_ok (by kernel_rfl) sigs_nil)) Try.func17 (by kernel_rfl) (by kernel_rfl) (by kernel_rfl) (by decide) (by decide) f17_is
@[reducible] noncomputable def sg71 : SigD := ⟨[.data tSet], [], [], ⟨[.data .str], [], []⟩⟩
@[reducible] noncomputable def sig71 : Sig := gsig sg71 F_ref01_Bytes
set_option maxRecDepth 100000 in
theorem f71_is : ∀ (x : sg71.X) (vs : List Value), denS GT [(89, sig89)] ⟨4, [], [], true, [], []⟩ ⟨4, [], 4⟩ (bodyOf Try.f71) sg71.out.Y (initSt (sg71.pre x) (sg71.heap x) 19 sg71.pin vs) (fun e s => finC GT [.tmp 2] [] sg71.pin [] [] e s sg71.out.dec) = F_ref01_Bytes x := fun x vs => by kernel_rfl
theorem f71_ok : SigOk Try.prog GT.gl 71 sig71 := gfn (Γ := GT) (nt := 19) (rs := [.tmp 2]) GT_ok (sigs_cons f89_ok (by kernel_rfl) sigs_nil) Try.func71 (by kernel_rfl) (by kernel_rfl) (by kernel_rfl) (by decide) (by decide) f71_is
@[reducible] noncomputable def sg51 : SigD := ⟨[.data tSet], [], [], ⟨[.data (.int .i64)], [], []⟩⟩
@[reducible] noncomputable def sig51 : Sig := gsig sg51 F_ref01_Count
set_option maxRecDepth 100000 in
theorem f51_is : ∀ (x : sg51.X) (vs : List Value), denS GT [(71, sig71)] ⟨4, [], [], true, [], []⟩ ⟨4, [], 4⟩ (bodyOf Try.f51) sg51.out.Y (initSt (sg51.pre x) (sg51.heap x) 6 sg51.pin vs) (fun e s => finC GT [.tmp 2] [] sg51.pin [] [] e s sg51.out.dec) = F_ref01_Count x := fun x vs => by kernel_rfl
theorem f51_ok : SigOk Try.prog GT.gl 51 sig51 := gfn (Γ := GT) (nt := 6) (rs := [.tmp 2]) GT_ok (sigs_cons f71_ok (by kernel_rfl) sigs_nil) Try.func51 (by kernel_rfl) (by kernel_rfl) (by kernel_rfl) (by decide) (by decide) f51_is
@[reducible] noncomputable def sg52 : SigD := ⟨[.data tSet, .data tSet], [], [], ⟨[.data tSet], [], []⟩⟩
@[reducible] noncomputable def sig52 : Sig := gsig sg52 F_ref01_Meet
set_option maxRecDepth 100000 in
theorem f52_is : ∀ (x : sg52.X) (vs : List Value), denS GT [(72, sig72)] ⟨4, [], [], true, [], []⟩ ⟨16, [], 16⟩ (bodyOf Try.f52) sg52.out.Y (initSt (sg52.pre x) (sg52.heap x) 8 sg52.pin vs) (fun e s => finC GT [.cell 4 34] [] sg52.pin [] [] e s sg52.out.dec) = F_ref01_Meet x := fun x vs => by kernel_rfl
theorem f52_ok : SigOk Try.prog GT.gl 52 sig52 := gfn (Γ := GT) (nt := 8) (rs := [.cell 4 34]) GT_ok (sigs_cons f72_ok (by kernel_rfl) sigs_nil) Try.func52 (by kernel_rfl) (by kernel_rfl) (by kernel_rfl) (by decide) (by decide) f52_is
@[reducible] noncomputable def sg30 : SigD := ⟨[.data tFirsts, .data tFirsts], [], [], ⟨[.data .bool], [], []⟩⟩
@[reducible] noncomputable def sig30 : Sig := gsig sg30 F_ref11_Decides
set_option maxRecDepth 100000 in
theorem f30_is : ∀ (x : sg30.X) (vs : List Value), denS GT [(51, sig51), (52, sig52)] ⟨4, [], [], true, [], []⟩ ⟨16, [], 16⟩ (bodyOf Try.f30) sg30.out.Y (initSt (sg30.pre x) (sg30.heap x) 26 sg30.pin vs) (fun e s => finC GT [.tmp 4] [] sg30.pin [] [] e s sg30.out.dec) = F_ref11_Decides x := fun x vs => by kernel_rfl
theorem f30_ok : SigOk Try.prog GT.gl 30 sig30 := gfn (Γ := GT) (nt := 26) (rs := [.tmp 4]) GT_ok (sigs_cons f51_ok (by kernel_rfl) (sigs_cons f52_ok (by kernel_rfl) sigs_nil)) Try.func30 (by kernel_rfl) (by kernel_rfl) (by kernel_rfl) (by decide) (by decide) f30_is
@[reducible] noncomputable def sg18 : SigD := ⟨[.data tGrammar, .data (.sl 61 tNode), .data (.sl 61 tNode)], [], [], ⟨[.data .bool, .data (.int .i64)], [], []⟩⟩
@[reducible] noncomputable def sig18 : Sig := gsig sg18 F_ref11_Decided
set_option maxRecDepth 100000 in
theorem f18_is : ∀ (x : sg18.X) (vs : List Value), denS GT [(16, sig16), (30, sig30)] ⟨4, [], [], true, [], []⟩ ⟨192, [], 192⟩ (bodyOf Try.f18) sg18.out.Y (initSt (sg18.pre x) (sg18.heap x) 32 sg18.pin vs) (fun e s => finC GT [.tmp 6, .tmp 7] [] sg18.pin [] [] e s sg18.out.dec) = F_ref11_Decided x := fun x vs => by kernel_rfl
theorem f18_ok : SigOk Try.prog GT.gl 18 sig18 := gfn (Γ := GT) (nt := 32) (rs := [.tmp 6, .tmp 7]) GT_ok (sigs_cons f16_ok (by kernel_rfl) (sigs_cons f30_ok (by kernel_rfl) sigs_nil)) Try.func18 (by kernel_rfl) (by kernel_rfl) (by kernel_rfl) (by decide) (by decide) f18_is
@[reducible] noncomputable def sg4 : SigD := ⟨[.data tGrammar, .data (.sl 61 tNode), .data (.sl 61 tNode)], [], [], ⟨[.data .bool], [], []⟩⟩
set_option maxRecDepth 100000 in
theorem f4_is : ∀ (x : sg4.X) (vs : List Value), denS GTL [(6, sig6), (12, sig12), (13, sig13), (14, sig14), (15, sig15), (16, sig16), (17, sig17), (18, sig18), (19, sig19)] ⟨4, [], [], true, [], []⟩ ⟨64, [], 64⟩ (bodyOf Try.f4) sg4.out.Y (initSt (sg4.pre x) (sg4.heap x) 86 sg4.pin vs) (fun e s => finC GTL [.tmp 6] [] sg4.pin [] [] e s sg4.out.dec) = F_law11_FirstPatterns x := fun x vs => by kernel_rfl
theorem f4_h {x : sg4.X} {y : sg4.out.Y} (h : F_law11_FirstPatterns x = some y) : FnH Try.prog GT.gl 4 (sg4.pre x) (sg4.heap x) (sg4.out.out y).1 (sg4.out.out y).2.1 (sg4.out.out y).2.2 := gfnH (Γ := GTL) (nt := 86) (rs := [.tmp 6]) GTL_ok (sigs_cons f6_ok (by kernel_rfl) (sigs_cons f12_ok (by kernel_rfl) (sigs_cons f13_ok (by kernel_rfl) (sigs_cons f14_ok (by kernel_rfl) (sigs_cons f15_ok (by kernel_rfl) (sigs_cons f16_ok (by kernel_rfl) (sigs_cons f17_ok (by kernel_rfl) (sigs_cons f18_ok (by kernel_rfl) (sigs_cons f19_ok (by kernel_rfl) sigs_nil))))))))) Try.func4 (by kernel_rfl) (by kernel_rfl) (by kernel_rfl) (by decide) (by decide) f4_is h
end Go.Proofs
