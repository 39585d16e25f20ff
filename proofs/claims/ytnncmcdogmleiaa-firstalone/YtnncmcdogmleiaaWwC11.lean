/- Part of the proof of the law's row: YtnncmcdogmleiaaWwC11. -/
import Derived.Test.YtnncmcdogmleiaaWtC11
import Derived.Test.YtnncmcdogmleiaaWpC11
set_option linter.all false
set_option linter.unusedVariables false
set_option linter.unusedSimpArgs false
/-! The functions compute that. -/
namespace Go.Proofs
open Go Go.Abs
@[reducible] noncomputable def sg33 : SigD := ⟨[.data tGrammar], [], [], ⟨[.data (.map 9 3 .str (.int .i64))], [], []⟩⟩
@[reducible] noncomputable def sig33 : Sig := gsig sg33 F_rules_numbers
set_option maxRecDepth 100000 in
theorem f33_is : ∀ (x : sg33.X) (vs : List Value), denS GT [] ⟨4, [], [], true, [], []⟩ ⟨4, [], 4⟩ (bodyOf Try.f33) sg33.out.Y (initSt (sg33.pre x) (sg33.heap x) 32 sg33.pin vs) (fun e s => finC GT [.tmp 2] [] sg33.pin [] [true] e s sg33.out.dec) = F_rules_numbers x := fun x vs => by kernel_rfl
theorem f33_ok : SigOk Try.prog GT.gl 33 sig33 := gfn (Γ := GT) (nt := 32) (rs := [.tmp 2]) GT_ok sigs_nil Try.func33 (by kernel_rfl) (by kernel_rfl) (by kernel_rfl) (by decide) (by decide) f33_is
@[reducible] noncomputable def sg53 : SigD := ⟨[.data (.int .u8)], [], [], ⟨[.data .bool], [], []⟩⟩
@[reducible] noncomputable def sig53 : Sig := gsig sg53 F_rules_isHead
set_option maxRecDepth 100000 in
theorem f53_is : ∀ (x : sg53.X) (vs : List Value), denS GT [] ⟨4, [], [], true, [], []⟩ ⟨4, [], 4⟩ (bodyOf Try.f53) sg53.out.Y (initSt (sg53.pre x) (sg53.heap x) 21 sg53.pin vs) (fun e s => finC GT [.tmp 2] [] sg53.pin [] [] e s sg53.out.dec) = F_rules_isHead x := fun x vs => by kernel_rfl
theorem f53_ok : SigOk Try.prog GT.gl 53 sig53 := gfn (Γ := GT) (nt := 21) (rs := [.tmp 2]) GT_ok sigs_nil Try.func53 (by kernel_rfl) (by kernel_rfl) (by kernel_rfl) (by decide) (by decide) f53_is
@[reducible] noncomputable def sg34 : SigD := ⟨[.data .str], [], [], ⟨[.data .bool], [], []⟩⟩
@[reducible] noncomputable def sig34 : Sig := gsig sg34 F_rules_Name
set_option maxRecDepth 100000 in
theorem f34_is : ∀ (x : sg34.X) (vs : List Value), denS GT [(53, sig53)] ⟨4, [], [], true, [], []⟩ ⟨4, [], 4⟩ (bodyOf Try.f34) sg34.out.Y (initSt (sg34.pre x) (sg34.heap x) 40 sg34.pin vs) (fun e s => finC GT [.tmp 2] [] sg34.pin [] [] e s sg34.out.dec) = F_rules_Name x := fun x vs => by kernel_rfl
theorem f34_ok : SigOk Try.prog GT.gl 34 sig34 := gfn (Γ := GT) (nt := 40) (rs := [.tmp 2]) GT_ok (sigs_cons f53_ok (by kernel_rfl) sigs_nil) Try.func34 (by kernel_rfl) (by kernel_rfl) (by kernel_rfl) (by decide) (by decide) f34_is
@[reducible] noncomputable def sg58 : SigD := ⟨[.data (.int .i64)], [], [], ⟨[.data (.int .i64)], [], []⟩⟩
@[reducible] noncomputable def sig58 : Sig := gsig sg58 F_tree_Arity
set_option maxRecDepth 100000 in
theorem f58_is : ∀ (x : sg58.X) (vs : List Value), denS GT [] ⟨4, [], [], false, [], []⟩ ⟨4, [], 4⟩ (bodyOf Try.f58) sg58.out.Y (initSt (sg58.pre x) (sg58.heap x) 28 sg58.pin vs) (fun e s => finC GT [.tmp 2] [] sg58.pin [] [] e s sg58.out.dec) = F_tree_Arity x := fun x vs => by kernel_rfl
theorem f58_ok : SigOk Try.prog GT.gl 58 sig58 := gfn (Γ := GT) (nt := 28) (rs := [.tmp 2]) GT_ok sigs_nil Try.func58 (by kernel_rfl) (by kernel_rfl) (by kernel_rfl) (by decide) (by decide) f58_is
@[reducible] noncomputable def sg91 : SigD := ⟨[.data (.int .i64)], [], [], ⟨[.data .bool], [], []⟩⟩
@[reducible] noncomputable def sig91 : Sig := gsig sg91 F_tree_counted
set_option maxRecDepth 100000 in
theorem f91_is : ∀ (x : sg91.X) (vs : List Value), denS GT [] ⟨4, [], [], false, [], []⟩ ⟨4, [], 4⟩ (bodyOf Try.f91) sg91.out.Y (initSt (sg91.pre x) (sg91.heap x) 13 sg91.pin vs) (fun e s => finC GT [.tmp 2] [] sg91.pin [] [] e s sg91.out.dec) = F_tree_counted x := fun x vs => by kernel_rfl
theorem f91_ok : SigOk Try.prog GT.gl 91 sig91 := gfn (Γ := GT) (nt := 13) (rs := [.tmp 2]) GT_ok sigs_nil Try.func91 (by kernel_rfl) (by kernel_rfl) (by kernel_rfl) (by decide) (by decide) f91_is
@[reducible] noncomputable def sg103 : SigD := ⟨[.data (.int .u8)], [], [], ⟨[.data .bool], [], []⟩⟩
@[reducible] noncomputable def sig103 : Sig := gsig sg103 F_tree_isHead
set_option maxRecDepth 100000 in
theorem f103_is : ∀ (x : sg103.X) (vs : List Value), denS GT [] ⟨4, [], [], false, [], []⟩ ⟨4, [], 4⟩ (bodyOf Try.f103) sg103.out.Y (initSt (sg103.pre x) (sg103.heap x) 19 sg103.pin vs) (fun e s => finC GT [.tmp 2] [] sg103.pin [] [] e s sg103.out.dec) = F_tree_isHead x := fun x vs => by kernel_rfl
theorem f103_ok : SigOk Try.prog GT.gl 103 sig103 := gfn (Γ := GT) (nt := 19) (rs := [.tmp 2]) GT_ok sigs_nil Try.func103 (by kernel_rfl) (by kernel_rfl) (by kernel_rfl) (by decide) (by decide) f103_is
@[reducible] noncomputable def sg92 : SigD := ⟨[.data .str], [], [], ⟨[.data .bool], [], []⟩⟩
@[reducible] noncomputable def sig92 : Sig := gsig sg92 F_tree_isName
set_option maxRecDepth 100000 in
theorem f92_is : ∀ (x : sg92.X) (vs : List Value), denS GT [(103, sig103)] ⟨4, [], [], false, [], []⟩ ⟨4, [], 4⟩ (bodyOf Try.f92) sg92.out.Y (initSt (sg92.pre x) (sg92.heap x) 40 sg92.pin vs) (fun e s => finC GT [.tmp 2] [] sg92.pin [] [] e s sg92.out.dec) = F_tree_isName x := fun x vs => by kernel_rfl
theorem f92_ok : SigOk Try.prog GT.gl 92 sig92 := gfn (Γ := GT) (nt := 40) (rs := [.tmp 2]) GT_ok (sigs_cons f103_ok (by kernel_rfl) sigs_nil) Try.func92 (by kernel_rfl) (by kernel_rfl) (by kernel_rfl) (by decide) (by decide) f92_is
@[reducible] noncomputable def sg93 : SigD := ⟨[.data .str], [], [], ⟨[.data .bool], [], []⟩⟩
@[reducible] noncomputable def sig93 : Sig := gsig sg93 F_tree_isTemplate
set_option maxRecDepth 100000 in
theorem f93_is : ∀ (x : sg93.X) (vs : List Value), denS GT [] ⟨4, [], [], false, [], []⟩ ⟨4, [], 4⟩ (bodyOf Try.f93) sg93.out.Y (initSt (sg93.pre x) (sg93.heap x) 41 sg93.pin vs) (fun e s => finC GT [.tmp 2] [] sg93.pin [] [] e s sg93.out.dec) = F_tree_isTemplate x := fun x vs => by kernel_rfl
theorem f93_ok : SigOk Try.prog GT.gl 93 sig93 := gfn (Γ := GT) (nt := 41) (rs := [.tmp 2]) GT_ok sigs_nil Try.func93 (by kernel_rfl) (by kernel_rfl) (by kernel_rfl) (by decide) (by decide) f93_is
@[reducible] noncomputable def sg73 : SigD := ⟨[.data tNode], [], [], ⟨[.data .bool], [], []⟩⟩
@[reducible] noncomputable def sig73 : Sig := gsig sg73 F_tree_fields
set_option maxRecDepth 100000 in
theorem f73_is : ∀ (x : sg73.X) (vs : List Value), denS GT [(91, sig91), (92, sig92), (93, sig93)] ⟨4, [], [], false, [], []⟩ ⟨4, [], 4⟩ (bodyOf Try.f73) sg73.out.Y (initSt (sg73.pre x) (sg73.heap x) 67 sg73.pin vs) (fun e s => finC GT [.tmp 2] [] sg73.pin [] [] e s sg73.out.dec) = F_tree_fields x := fun x vs => by kernel_rfl
theorem f73_ok : SigOk Try.prog GT.gl 73 sig73 := gfn (Γ := GT) (nt := 67) (rs := [.tmp 2]) GT_ok (sigs_cons f91_ok (by kernel_rfl) (sigs_cons f92_ok (by kernel_rfl) (sigs_cons f93_ok (by kernel_rfl) sigs_nil))) Try.func73 (by kernel_rfl) (by kernel_rfl) (by kernel_rfl) (by decide) (by decide) f73_is
@[reducible] noncomputable def sg55 : SigD := ⟨[.data (.int .i64), .data tshape], [], [], ⟨[], [], []⟩⟩
@[reducible] noncomputable def sig55 : Sig := gsig sg55 F_tree_Check_1
set_option maxRecDepth 100000 in
theorem f55_is : ∀ (x : sg55.X) (vs : List Value), denS GT [] ⟨4, [], [], false, [], []⟩ ⟨0, [], 0⟩ (bodyOf Try.f55) sg55.out.Y (initSt (sg55.pre x) (sg55.heap x) 4 sg55.pin vs) (fun e s => finC GT [] [] sg55.pin [] [] e s sg55.out.dec) = F_tree_Check_1 x := fun x vs => by kernel_rfl
theorem f55_ok : SigOk Try.prog GT.gl 55 sig55 := gfn (Γ := GT) (nt := 4) (rs := []) GT_ok sigs_nil Try.func55 (by kernel_rfl) (by kernel_rfl) (by kernel_rfl) (by decide) (by decide) f55_is
@[reducible] noncomputable def sg54_chk : SigD := ⟨[.data (.sl 61 tNode), .same (.fn 55 [])], [], [], ⟨[.data (.int .i64), .data (.int .i64)], [], []⟩⟩
@[reducible] noncomputable def sig54_chk : Sig := gsig sg54_chk F_tree_each_chk
set_option maxRecDepth 100000 in
theorem f54_chk_is : ∀ (x : sg54_chk.X) (vs : List Value), denS GT [(58, sig58), (73, sig73), (55, sig55)] ⟨4, [], [], false, [], []⟩ ⟨48, [], 48⟩ (bodyOf Try.f54) sg54_chk.out.Y (initSt (sg54_chk.pre x) (sg54_chk.heap x) 108 sg54_chk.pin vs) (fun e s => finC GT [.tmp 4, .tmp 5] [] sg54_chk.pin [] [] e s sg54_chk.out.dec) = F_tree_each_chk x := fun x vs => by kernel_rfl
theorem f54_chk_ok : SigOk Try.prog GT.gl 54 sig54_chk := gfn (Γ := GT) (nt := 108) (rs := [.tmp 4, .tmp 5]) GT_ok (sigs_cons f58_ok (by kernel_rfl) (sigs_cons f73_ok (by kernel_rfl) (sigs_cons f55_ok (by kernel_rfl) sigs_nil))) Try.func54 (by kernel_rfl) (by kernel_rfl) (by kernel_rfl) (by decide) (by decide) f54_chk_is
@[reducible] noncomputable def sg35 : SigD := ⟨[.data (.sl 61 tNode)], [], [], ⟨[.data (.int .i64), .data (.int .i64)], [], []⟩⟩
@[reducible] noncomputable def sig35 : Sig := gsig sg35 F_tree_Check
set_option maxRecDepth 100000 in
theorem f35_is : ∀ (x : sg35.X) (vs : List Value), denS GT [(54, sig54_chk), (55, sig55)] ⟨4, [], [], false, [], []⟩ ⟨12, [], 12⟩ (bodyOf Try.f35) sg35.out.Y (initSt (sg35.pre x) (sg35.heap x) 11 sg35.pin vs) (fun e s => finC GT [.tmp 2, .tmp 3] [] sg35.pin [] [] e s sg35.out.dec) = F_tree_Check x := fun x vs => by kernel_rfl
theorem f35_ok : SigOk Try.prog GT.gl 35 sig35 := gfn (Γ := GT) (nt := 11) (rs := [.tmp 2, .tmp 3]) GT_ok (sigs_cons f54_chk_ok (by kernel_rfl) (sigs_cons f55_ok (by kernel_rfl) sigs_nil)) Try.func35 (by kernel_rfl) (by kernel_rfl) (by kernel_rfl) (by decide) (by decide) f35_is
@[reducible] noncomputable def sg21 : SigD := ⟨[.data tGrammar], [], [], ⟨[.data tSpot, .data (.int .i64)], [], []⟩⟩
@[reducible] noncomputable def sig21 : Sig := gsig sg21 F_rules_Check
set_option maxRecDepth 100000 in
theorem f21_is : ∀ (x : sg21.X) (vs : List Value), denS GT [(33, sig33), (34, sig34), (35, sig35)] ⟨4, [], [], true, [], []⟩ ⟨12, [], 12⟩ (bodyOf Try.f21) sg21.out.Y (initSt (sg21.pre x) (sg21.heap x) 119 sg21.pin vs) (fun e s => finC GT [.cell 2 53, .tmp 3] [] sg21.pin [] [] e s sg21.out.dec) = F_rules_Check x := fun x vs => by kernel_rfl
theorem f21_ok : SigOk Try.prog GT.gl 21 sig21 := gfn (Γ := GT) (nt := 119) (rs := [.cell 2 53, .tmp 3]) GT_ok (sigs_cons f33_ok (by kernel_rfl) (sigs_cons f34_ok (by kernel_rfl) (sigs_cons f35_ok (by kernel_rfl) sigs_nil))) Try.func21 (by kernel_rfl) (by kernel_rfl) (by kernel_rfl) (by decide) (by decide) f21_is
@[reducible] noncomputable def sg75 : SigD := ⟨[.data (.int .i64)], [], [], ⟨[.data (.int .i64)], [], []⟩⟩
@[reducible] noncomputable def sig75 : Sig := gsig sg75 F_gist_capped
set_option maxRecDepth 100000 in
theorem f75_is : ∀ (x : sg75.X) (vs : List Value), denS GT [] ⟨4, [], [], true, [], []⟩ ⟨4, [], 4⟩ (bodyOf Try.f75) sg75.out.Y (initSt (sg75.pre x) (sg75.heap x) 5 sg75.pin vs) (fun e s => finC GT [.tmp 2] [] sg75.pin [] [] e s sg75.out.dec) = F_gist_capped x := fun x vs => by kernel_rfl
theorem f75_ok : SigOk Try.prog GT.gl 75 sig75 := gfn (Γ := GT) (nt := 5) (rs := [.tmp 2]) GT_ok sigs_nil Try.func75 (by kernel_rfl) (by kernel_rfl) (by kernel_rfl) (by decide) (by decide) f75_is
@[reducible] noncomputable def sg74_capped : SigD := ⟨[.data (.int .i64), .data (.int .i64), .same (.fn 75 [])], [], [], ⟨[.data (.int .i64)], [], []⟩⟩
@[reducible] noncomputable def sig74_capped : Sig := gsig sg74_capped F_gist_sum_capped
set_option maxRecDepth 100000 in
theorem f74_capped_is : ∀ (x : sg74_capped.X) (vs : List Value), denS GT [(75, sig75)] ⟨4, [], [], true, [], []⟩ ⟨64, [], 64⟩ (bodyOf Try.f74) sg74_capped.out.Y (initSt (sg74_capped.pre x) (sg74_capped.heap x) 18 sg74_capped.pin vs) (fun e s => finC GT [.tmp 6] [] sg74_capped.pin [] [] e s sg74_capped.out.dec) = F_gist_sum_capped x := fun x vs => by kernel_rfl
theorem f74_capped_ok : SigOk Try.prog GT.gl 74 sig74_capped := gfn (Γ := GT) (nt := 18) (rs := [.tmp 6]) GT_ok (sigs_cons f75_ok (by kernel_rfl) sigs_nil) Try.func74 (by kernel_rfl) (by kernel_rfl) (by kernel_rfl) (by decide) (by decide) f74_capped_is
@[reducible] noncomputable def sg76 : SigD := ⟨[.data (.int .i64)], [], [], ⟨[.data (.int .i64)], [], []⟩⟩
@[reducible] noncomputable def sig76 : Sig := gsig sg76 F_gist_bounded
set_option maxRecDepth 100000 in
theorem f76_is : ∀ (x : sg76.X) (vs : List Value), denS GT [] ⟨4, [], [], true, [], []⟩ ⟨4, [], 4⟩ (bodyOf Try.f76) sg76.out.Y (initSt (sg76.pre x) (sg76.heap x) 6 sg76.pin vs) (fun e s => finC GT [.tmp 2] [] sg76.pin [] [] e s sg76.out.dec) = F_gist_bounded x := fun x vs => by kernel_rfl
theorem f76_ok : SigOk Try.prog GT.gl 76 sig76 := gfn (Γ := GT) (nt := 6) (rs := [.tmp 2]) GT_ok sigs_nil Try.func76 (by kernel_rfl) (by kernel_rfl) (by kernel_rfl) (by decide) (by decide) f76_is
@[reducible] noncomputable def sg74_bounded : SigD := ⟨[.data (.int .i64), .data (.int .i64), .same (.fn 76 [])], [], [], ⟨[.data (.int .i64)], [], []⟩⟩
@[reducible] noncomputable def sig74_bounded : Sig := gsig sg74_bounded F_gist_sum_bounded
set_option maxRecDepth 100000 in
theorem f74_bounded_is : ∀ (x : sg74_bounded.X) (vs : List Value), denS GT [(76, sig76)] ⟨4, [], [], true, [], []⟩ ⟨64, [], 64⟩ (bodyOf Try.f74) sg74_bounded.out.Y (initSt (sg74_bounded.pre x) (sg74_bounded.heap x) 18 sg74_bounded.pin vs) (fun e s => finC GT [.tmp 6] [] sg74_bounded.pin [] [] e s sg74_bounded.out.dec) = F_gist_sum_bounded x := fun x vs => by kernel_rfl
theorem f74_bounded_ok : SigOk Try.prog GT.gl 74 sig74_bounded := gfn (Γ := GT) (nt := 18) (rs := [.tmp 6]) GT_ok (sigs_cons f76_ok (by kernel_rfl) sigs_nil) Try.func74 (by kernel_rfl) (by kernel_rfl) (by kernel_rfl) (by decide) (by decide) f74_bounded_is
@[reducible] noncomputable def sg59 : SigD := ⟨[.data tEmptiness, .data tEmptiness], [], [], ⟨[.data tEmptiness], [], []⟩⟩
@[reducible] noncomputable def sig59 : Sig := gsig sg59 F_gist_row
set_option maxRecDepth 100000 in
theorem f59_is : ∀ (x : sg59.X) (vs : List Value), denS GT [(74, (sigOr (hasFn 75) sig74_capped sig74_bounded)), (75, sig75), (76, sig76)] ⟨4, [], [], true, [], []⟩ ⟨16, [], 16⟩ (bodyOf Try.f59) sg59.out.Y (initSt (sg59.pre x) (sg59.heap x) 28 sg59.pin vs) (fun e s => finC GT [.cell 4 65] [] sg59.pin [] [] e s sg59.out.dec) = F_gist_row x := fun x vs => by kernel_rfl
theorem f59_ok : SigOk Try.prog GT.gl 59 sig59 := gfn (Γ := GT) (nt := 28) (rs := [.cell 4 65]) GT_ok (sigs_cons (sigOr_ok f74_capped_ok f74_bounded_ok) (by kernel_rfl) (sigs_cons f75_ok (by kernel_rfl) (sigs_cons f76_ok (by kernel_rfl) sigs_nil))) Try.func59 (by kernel_rfl) (by kernel_rfl) (by kernel_rfl) (by decide) (by decide) f59_is
@[reducible] noncomputable def sg60 : SigD := ⟨[.data tEmptiness, .data tEmptiness], [], [], ⟨[.data tEmptiness], [], []⟩⟩
@[reducible] noncomputable def sig60 : Sig := gsig sg60 F_gist_either
set_option maxRecDepth 100000 in
theorem f60_is : ∀ (x : sg60.X) (vs : List Value), denS GT [] ⟨4, [], [], true, [], []⟩ ⟨16, [], 16⟩ (bodyOf Try.f60) sg60.out.Y (initSt (sg60.pre x) (sg60.heap x) 54 sg60.pin vs) (fun e s => finC GT [.cell 4 65] [] sg60.pin [] [] e s sg60.out.dec) = F_gist_either x := fun x vs => by kernel_rfl
theorem f60_ok : SigOk Try.prog GT.gl 60 sig60 := gfn (Γ := GT) (nt := 54) (rs := [.cell 4 65]) GT_ok sigs_nil Try.func60 (by kernel_rfl) (by kernel_rfl) (by kernel_rfl) (by decide) (by decide) f60_is
@[reducible] noncomputable def sg77 : SigD := ⟨[.data (.int .i64)], [], [], ⟨[.data tEmptiness], [], []⟩⟩
@[reducible] noncomputable def sig77 : Sig := gsig sg77 F_gist_atom
set_option maxRecDepth 100000 in
theorem f77_is : ∀ (x : sg77.X) (vs : List Value), denS GT [] ⟨4, [], [], true, [], []⟩ ⟨4, [], 4⟩ (bodyOf Try.f77) sg77.out.Y (initSt (sg77.pre x) (sg77.heap x) 6 sg77.pin vs) (fun e s => finC GT [.cell 2 65] [] sg77.pin [] [] e s sg77.out.dec) = F_gist_atom x := fun x vs => by kernel_rfl
theorem f77_ok : SigOk Try.prog GT.gl 77 sig77 := gfn (Γ := GT) (nt := 6) (rs := [.cell 2 65]) GT_ok sigs_nil Try.func77 (by kernel_rfl) (by kernel_rfl) (by kernel_rfl) (by decide) (by decide) f77_is
@[reducible] noncomputable def sg78 : SigD := ⟨[.data tEmptiness], [], [], ⟨[.data (.int .i64)], [], []⟩⟩
@[reducible] noncomputable def sig78 : Sig := gsig sg78 F_gist_loop
set_option maxRecDepth 100000 in
theorem f78_is : ∀ (x : sg78.X) (vs : List Value), denS GT [] ⟨4, [], [], true, [], []⟩ ⟨4, [], 4⟩ (bodyOf Try.f78) sg78.out.Y (initSt (sg78.pre x) (sg78.heap x) 6 sg78.pin vs) (fun e s => finC GT [.tmp 2] [] sg78.pin [] [] e s sg78.out.dec) = F_gist_loop x := fun x vs => by kernel_rfl
theorem f78_ok : SigOk Try.prog GT.gl 78 sig78 := gfn (Γ := GT) (nt := 6) (rs := [.tmp 2]) GT_ok sigs_nil Try.func78 (by kernel_rfl) (by kernel_rfl) (by kernel_rfl) (by decide) (by decide) f78_is
@[reducible] noncomputable def sg94_capped : SigD := ⟨[.data (.int .i64), .data (.int .i64), .same (.fn 75 [])], [], [], ⟨[.data (.int .i64)], [], []⟩⟩
@[reducible] noncomputable def sig94_capped : Sig := gsig sg94_capped F_gist_times_capped
set_option maxRecDepth 100000 in
theorem f94_capped_is : ∀ (x : sg94_capped.X) (vs : List Value), denS GT [(75, sig75)] ⟨4, [], [], true, [], []⟩ ⟨64, [], 64⟩ (bodyOf Try.f94) sg94_capped.out.Y (initSt (sg94_capped.pre x) (sg94_capped.heap x) 14 sg94_capped.pin vs) (fun e s => finC GT [.tmp 6] [] sg94_capped.pin [] [] e s sg94_capped.out.dec) = F_gist_times_capped x := fun x vs => by kernel_rfl
theorem f94_capped_ok : SigOk Try.prog GT.gl 94 sig94_capped := gfn (Γ := GT) (nt := 14) (rs := [.tmp 6]) GT_ok (sigs_cons f75_ok (by kernel_rfl) sigs_nil) Try.func94 (by kernel_rfl) (by kernel_rfl) (by kernel_rfl) (by decide) (by decide) f94_capped_is
@[reducible] noncomputable def sg94_bounded : SigD := ⟨[.data (.int .i64), .data (.int .i64), .same (.fn 76 [])], [], [], ⟨[.data (.int .i64)], [], []⟩⟩
@[reducible] noncomputable def sig94_bounded : Sig := gsig sg94_bounded F_gist_times_bounded
set_option maxRecDepth 100000 in
theorem f94_bounded_is : ∀ (x : sg94_bounded.X) (vs : List Value), denS GT [(76, sig76)] ⟨4, [], [], true, [], []⟩ ⟨64, [], 64⟩ (bodyOf Try.f94) sg94_bounded.out.Y (initSt (sg94_bounded.pre x) (sg94_bounded.heap x) 14 sg94_bounded.pin vs) (fun e s => finC GT [.tmp 6] [] sg94_bounded.pin [] [] e s sg94_bounded.out.dec) = F_gist_times_bounded x := fun x vs => by kernel_rfl
theorem f94_bounded_ok : SigOk Try.prog GT.gl 94 sig94_bounded := gfn (Γ := GT) (nt := 14) (rs := [.tmp 6]) GT_ok (sigs_cons f76_ok (by kernel_rfl) sigs_nil) Try.func94 (by kernel_rfl) (by kernel_rfl) (by kernel_rfl) (by decide) (by decide) f94_bounded_is
@[reducible] noncomputable def sg79 : SigD := ⟨[.data tNode, .data tEmptiness], [], [], ⟨[.data tEmptiness], [], []⟩⟩
@[reducible] noncomputable def sig79 : Sig := gsig sg79 F_gist_counted
set_option maxRecDepth 100000 in
theorem f79_is : ∀ (x : sg79.X) (vs : List Value), denS GT [(75, sig75), (76, sig76), (78, sig78), (94, (sigOr (hasFn 75) sig94_capped sig94_bounded))] ⟨4, [], [], true, [], []⟩ ⟨16, [], 16⟩ (bodyOf Try.f79) sg79.out.Y (initSt (sg79.pre x) (sg79.heap x) 59 sg79.pin vs) (fun e s => finC GT [.cell 4 65] [] sg79.pin [] [] e s sg79.out.dec) = F_gist_counted x := fun x vs => by kernel_rfl
theorem f79_ok : SigOk Try.prog GT.gl 79 sig79 := gfn (Γ := GT) (nt := 59) (rs := [.cell 4 65]) GT_ok (sigs_cons f75_ok (by kernel_rfl) (sigs_cons f76_ok (by kernel_rfl) (sigs_cons f78_ok (by kernel_rfl) (sigs_cons (sigOr_ok f94_capped_ok f94_bounded_ok) (by kernel_rfl) sigs_nil)))) Try.func79 (by kernel_rfl) (by kernel_rfl) (by kernel_rfl) (by decide) (by decide) f79_is
@[reducible] noncomputable def sg61 : SigD := ⟨[.data tNode, .data tEmptiness], [], [], ⟨[.data tEmptiness], [], []⟩⟩
@[reducible] noncomputable def sig61 : Sig := gsig sg61 F_gist_one
set_option maxRecDepth 100000 in
theorem f61_is : ∀ (x : sg61.X) (vs : List Value), denS GT [(77, sig77), (78, sig78), (79, sig79)] ⟨4, [], [], true, [], []⟩ ⟨16, [], 16⟩ (bodyOf Try.f61) sg61.out.Y (initSt (sg61.pre x) (sg61.heap x) 56 sg61.pin vs) (fun e s => finC GT [.cell 4 65] [] sg61.pin [] [] e s sg61.out.dec) = F_gist_one x := fun x vs => by kernel_rfl
theorem f61_ok : SigOk Try.prog GT.gl 61 sig61 := gfn (Γ := GT) (nt := 56) (rs := [.cell 4 65]) GT_ok (sigs_cons f77_ok (by kernel_rfl) (sigs_cons f78_ok (by kernel_rfl) (sigs_cons f79_ok (by kernel_rfl) sigs_nil))) Try.func61 (by kernel_rfl) (by kernel_rfl) (by kernel_rfl) (by decide) (by decide) f61_is
@[reducible] noncomputable def sg57 : SigD := ⟨[.data .str, .same (.cptr 1000), .same (.cptr 1001)], [(1000, .csame 80 (.full 1500 tEmptiness)), (1500, .row 65 tEmptiness false), (1001, .cdata 70 (.map 9 3 .str (.int .i64)))], [1, 2], ⟨[.data tEmptiness], [(1000, .csame 80 (.full 1500 tEmptiness)), (1500, .row 65 tEmptiness false), (1001, .cdata 70 (.map 9 3 .str (.int .i64)))], [(1, .cptr 1000), (2, .cptr 1001)]⟩⟩
@[reducible] noncomputable def sig57 : Sig := gsig sg57 F_gist_Emptiness_1
set_option maxRecDepth 100000 in
theorem f57_is : ∀ (x : sg57.X) (vs : List Value), denS GT [] ⟨4, [], [], true, [], []⟩ ⟨22, [], 22⟩ (bodyOf Try.f57) sg57.out.Y (initSt (sg57.pre x) (sg57.heap x) 11 sg57.pin vs) (fun e s => finC GT [.cell 4 65] [1000, 1500, 1001] sg57.pin [] [] e s sg57.out.dec) = F_gist_Emptiness_1 x := fun x vs => by kernel_rfl
theorem f57_ok : SigOk Try.prog GT.gl 57 sig57 := gfn (Γ := GT) (nt := 11) (rs := [.cell 4 65]) GT_ok sigs_nil Try.func57 (by kernel_rfl) (by kernel_rfl) (by kernel_rfl) (by decide) (by decide) f57_is
@[reducible] noncomputable def sg38_em : SigD := ⟨[.data (.sl 61 tNode), .same (.fn 57 [.cptr 1000, .cptr 1001])], [(1000, .csame 80 (.full 1500 tEmptiness)), (1500, .row 65 tEmptiness false), (1001, .cdata 70 (.map 9 3 .str (.int .i64)))], [1], ⟨[.full 4 tEmptiness], [(4, .row 65 tEmptiness false), (1000, .csame 80 (.full 1500 tEmptiness)), (1500, .row 65 tEmptiness false), (1001, .cdata 70 (.map 9 3 .str (.int .i64)))], [(1, .fn 57 [.cptr 1000, .cptr 1001])]⟩⟩
@[reducible] noncomputable def sig38_em : Sig := gsig sg38_em F_gist_Lengths_em
set_option maxRecDepth 100000 in
theorem f38_em_is : ∀ (x : sg38_em.X) (vs : List Value), denS GT [(58, sig58), (59, sig59), (60, sig60), (61, sig61), (57, sig57)] ⟨4, [], [], true, [], []⟩ ⟨18, [], 18⟩ (bodyOf Try.f38) sg38_em.out.Y (initSt (sg38_em.pre x) (sg38_em.heap x) 81 sg38_em.pin vs) (fun e s => finC GT [.tmp 4] [1000, 1500, 1001] sg38_em.pin [] [] e s sg38_em.out.dec) = F_gist_Lengths_em x := fun x vs => by kernel_rfl
theorem f38_em_ok : SigOk Try.prog GT.gl 38 sig38_em := gfn (Γ := GT) (nt := 81) (rs := [.tmp 4]) GT_ok (sigs_cons f58_ok (by kernel_rfl) (sigs_cons f59_ok (by kernel_rfl) (sigs_cons f60_ok (by kernel_rfl) (sigs_cons f61_ok (by kernel_rfl) (sigs_cons f57_ok (by kernel_rfl) sigs_nil))))) Try.func38 (by kernel_rfl) (by kernel_rfl) (by kernel_rfl) (by decide) (by decide) f38_em_is
@[reducible] noncomputable def sg49 : SigD := ⟨[.data tGrammar], [], [], ⟨[.data (.map 9 3 .str (.int .i64))], [], []⟩⟩
@[reducible] noncomputable def sig49 : Sig := gsig sg49 F_gist_Numbers
set_option maxRecDepth 100000 in
theorem f49_is : ∀ (x : sg49.X) (vs : List Value), denS GT [] ⟨4, [], [], true, [], []⟩ ⟨4, [], 4⟩ (bodyOf Try.f49) sg49.out.Y (initSt (sg49.pre x) (sg49.heap x) 21 sg49.pin vs) (fun e s => finC GT [.tmp 2] [] sg49.pin [] [true] e s sg49.out.dec) = F_gist_Numbers x := fun x vs => by kernel_rfl
theorem f49_ok : SigOk Try.prog GT.gl 49 sig49 := gfn (Γ := GT) (nt := 21) (rs := [.tmp 2]) GT_ok sigs_nil Try.func49 (by kernel_rfl) (by kernel_rfl) (by kernel_rfl) (by decide) (by decide) f49_is
@[reducible] noncomputable def sg56 : SigD := ⟨[.data tGrammar, .data (.map 9 3 .str (.int .i64))], [], [], ⟨[.full 4 .bool], [(4, .row 4 .bool false)], []⟩⟩
@[reducible] noncomputable def sig56 : Sig := gsig sg56 F_gist_again
set_option maxRecDepth 100000 in
theorem f56_is : ∀ (x : sg56.X) (vs : List Value), denS (GTd [] [18] []) [] ⟨4, [], [15365, 19461], true, [], []⟩ ⟨16, [], 16⟩ (bodyOf Try.f56) sg56.out.Y (initSt (sg56.pre x) (sg56.heap x) 117 sg56.pin vs) (fun e s => finC (GTd [] [18] []) [.tmp 4] [] sg56.pin [] [] e s sg56.out.dec) = F_gist_again x := fun x vs => by kernel_rfl
theorem f56_ok : SigOk Try.prog GT.gl 56 sig56 := gfn (Γ := (GTd [] [18] [])) (nt := 117) (rs := [.tmp 4]) (GTd_ok _ _ _) sigs_nil Try.func56 (by kernel_rfl) (by kernel_rfl) (by kernel_rfl) (by decide) (by decide) f56_is
@[reducible] noncomputable def sg37 : SigD := ⟨[.data tGrammar], [], [], ⟨[.same (.fn 57 [.cptr 5, .cptr 3])], [(5, .csame 80 (.full 505 tEmptiness)), (505, .row 65 tEmptiness false), (3, .cdata 70 (.map 9 3 .str (.int .i64)))], []⟩⟩
@[reducible] noncomputable def sig37 : Sig := gsig sg37 F_gist_Emptiness
set_option maxRecDepth 100000 in
theorem f37_is : ∀ (x : sg37.X) (vs : List Value), denS (GTd [] [] [48]) [(38, sig38_em), (49, sig49), (56, sig56)] ⟨4, [], [], true, [], [18443]⟩ ⟨4, [], 4⟩ (bodyOf Try.f37) sg37.out.Y (initSt (sg37.pre x) (sg37.heap x) 73 sg37.pin vs) (fun e s => finC (GTd [] [] [48]) [.tmp 2] [] sg37.pin [] [] e s sg37.out.dec) = F_gist_Emptiness x := fun x vs => by kernel_rfl
theorem f37_ok : SigOk Try.prog GT.gl 37 sig37 := gfn (Γ := (GTd [] [] [48])) (nt := 73) (rs := [.tmp 2]) (GTd_ok _ _ _) (sigs_cons f38_em_ok (by kernel_rfl) (sigs_cons f49_ok (by kernel_rfl) (sigs_cons f56_ok (by kernel_rfl) sigs_nil))) Try.func37 (by kernel_rfl) (by kernel_rfl) (by kernel_rfl) (by decide) (by decide) f37_is
@[reducible] noncomputable def sg62 : SigD := ⟨[.data (.sl 61 tNode)], [], [], ⟨[.full 2 (.sl 3 (.int .i64))], [(2, .row 105 (.sl 3 (.int .i64)) false)], []⟩⟩
@[reducible] noncomputable def sig62 : Sig := gsig sg62 F_gist_Kids
set_option maxRecDepth 100000 in
theorem f62_is : ∀ (x : sg62.X) (vs : List Value), denS GT [(58, sig58)] ⟨4, [], [], true, [], []⟩ ⟨4, [], 4⟩ (bodyOf Try.f62) sg62.out.Y (initSt (sg62.pre x) (sg62.heap x) 37 sg62.pin vs) (fun e s => finC GT [.tmp 2] [] sg62.pin [] [] e s sg62.out.dec) = F_gist_Kids x := fun x vs => by kernel_rfl
theorem f62_ok : SigOk Try.prog GT.gl 62 sig62 := gfn (Γ := GT) (nt := 37) (rs := [.tmp 2]) GT_ok (sigs_cons f58_ok (by kernel_rfl) sigs_nil) Try.func62 (by kernel_rfl) (by kernel_rfl) (by kernel_rfl) (by decide) (by decide) f62_is
@[reducible] noncomputable def sg47 : SigD := ⟨[.data tSet, .data (.int .i64)], [], [], ⟨[.data tSet], [], []⟩⟩
@[reducible] noncomputable def sig47 : Sig := gsig sg47 F_charset_with
set_option maxRecDepth 100000 in
theorem f47_is : ∀ (x : sg47.X) (vs : List Value), denS GTA [] ⟨4, [], [], true, [], []⟩ ⟨16, [], 16⟩ (bodyOf Try.f47) sg47.out.Y (initSt (sg47.pre x) (sg47.heap x) 15 sg47.pin vs) (fun e s => finC GTA [.cell 4 34] [] sg47.pin [] [] e s sg47.out.dec) = F_charset_with x := fun x vs => by kernel_rfl
theorem f47_ok : SigOk Try.prog GT.gl 47 sig47 := gfn (Γ := GTA) (nt := 15) (rs := [.cell 4 34]) GTA_ok sigs_nil Try.func47 (by kernel_rfl) (by kernel_rfl) (by kernel_rfl) (by decide) (by decide) f47_is
@[reducible] noncomputable def sg27 : SigD := ⟨[.data .str], [], [], ⟨[.data tSet], [], []⟩⟩
@[reducible] noncomputable def sig27 : Sig := gsig sg27 F_charset_Of
set_option maxRecDepth 100000 in
theorem f27_is : ∀ (x : sg27.X) (vs : List Value), denS GT [(47, sig47)] ⟨4, [], [], true, [], []⟩ ⟨4, [], 4⟩ (bodyOf Try.f27) sg27.out.Y (initSt (sg27.pre x) (sg27.heap x) 18 sg27.pin vs) (fun e s => finC GT [.cell 2 34] [] sg27.pin [] [] e s sg27.out.dec) = F_charset_Of x := fun x vs => by kernel_rfl
theorem f27_ok : SigOk Try.prog GT.gl 27 sig27 := gfn (Γ := GT) (nt := 18) (rs := [.cell 2 34]) GT_ok (sigs_cons f47_ok (by kernel_rfl) sigs_nil) Try.func27 (by kernel_rfl) (by kernel_rfl) (by kernel_rfl) (by decide) (by decide) f27_is
@[reducible] noncomputable def sg80 : SigD := ⟨[.data tSet], [], [], ⟨[.data tSet], [], []⟩⟩
@[reducible] noncomputable def sig80 : Sig := gsig sg80 F_charset_Not
set_option maxRecDepth 100000 in
theorem f80_is : ∀ (x : sg80.X) (vs : List Value), denS GTA [] ⟨4, [], [], true, [], []⟩ ⟨4, [], 4⟩ (bodyOf Try.f80) sg80.out.Y (initSt (sg80.pre x) (sg80.heap x) 15 sg80.pin vs) (fun e s => finC GTA [.cell 2 34] [] sg80.pin [] [] e s sg80.out.dec) = F_charset_Not x := fun x vs => by kernel_rfl
theorem f80_ok : SigOk Try.prog GT.gl 80 sig80 := gfn (Γ := GTA) (nt := 15) (rs := [.cell 2 34]) GTA_ok sigs_nil Try.func80 (by kernel_rfl) (by kernel_rfl) (by kernel_rfl) (by decide) (by decide) f80_is
@[reducible] noncomputable def sg81 : SigD := ⟨[.data tSet, .data tSet], [], [], ⟨[.data tSet], [], []⟩⟩
@[reducible] noncomputable def sig81 : Sig := gsig sg81 F_charset_Union
set_option maxRecDepth 100000 in
theorem f81_is : ∀ (x : sg81.X) (vs : List Value), denS GTA [] ⟨4, [], [], true, [], []⟩ ⟨16, [], 16⟩ (bodyOf Try.f81) sg81.out.Y (initSt (sg81.pre x) (sg81.heap x) 19 sg81.pin vs) (fun e s => finC GTA [.cell 4 34] [] sg81.pin [] [] e s sg81.out.dec) = F_charset_Union x := fun x vs => by kernel_rfl
theorem f81_ok : SigOk Try.prog GT.gl 81 sig81 := gfn (Γ := GTA) (nt := 19) (rs := [.cell 4 34]) GTA_ok sigs_nil Try.func81 (by kernel_rfl) (by kernel_rfl) (by kernel_rfl) (by decide) (by decide) f81_is
@[reducible] noncomputable def sg36 : SigD := ⟨[.data .str, .same (.cptr 1000)], [(1000, .csame 76 (.mptr 1500)), (1500, .map 9 36 .str tFirsts false)], [1], ⟨[.data tFirsts], [(1000, .csame 76 (.mptr 1500)), (1500, .map 9 36 .str tFirsts false)], [(1, .cptr 1000)]⟩⟩
@[reducible] noncomputable def sig36 : Sig := gsig sg36 F_gist_Firsts_1
set_option maxRecDepth 100000 in
theorem f36_is : ∀ (x : sg36.X) (vs : List Value), denS GT [] ⟨4, [], [], true, [], []⟩ ⟨10, [], 10⟩ (bodyOf Try.f36) sg36.out.Y (initSt (sg36.pre x) (sg36.heap x) 7 sg36.pin vs) (fun e s => finC GT [.cell 3 36] [1000, 1500] sg36.pin [] [] e s sg36.out.dec) = F_gist_Firsts_1 x := fun x vs => by kernel_rfl
theorem f36_ok : SigOk Try.prog GT.gl 36 sig36 := gfn (Γ := GT) (nt := 7) (rs := [.cell 3 36]) GT_ok sigs_nil Try.func36 (by kernel_rfl) (by kernel_rfl) (by kernel_rfl) (by decide) (by decide) f36_is
@[reducible] noncomputable def sg63_fi : SigD := ⟨[.data tNode, .data tFirsts, .data tFirsts, .data .bool, .same (.fn 36 [.cptr 1000])], [(1000, .csame 76 (.mptr 1500)), (1500, .map 9 36 .str tFirsts false)], [4], ⟨[.data tFirsts], [(1000, .csame 76 (.mptr 1500)), (1500, .map 9 36 .str tFirsts false)], [(4, .fn 36 [.cptr 1000])]⟩⟩
@[reducible] noncomputable def sig63_fi : Sig := gsig sg63_fi F_gist_node_fi
set_option maxRecDepth 100000 in
theorem f63_fi_is : ∀ (x : sg63_fi.X) (vs : List Value), denS GT [(27, sig27), (80, sig80), (81, sig81), (36, sig36)] ⟨4, [], [], true, [], []⟩ ⟨1040, [], 1040⟩ (bodyOf Try.f63) sg63_fi.out.Y (initSt (sg63_fi.pre x) (sg63_fi.heap x) 143 sg63_fi.pin vs) (fun e s => finC GT [.cell 10 36] [1000, 1500] sg63_fi.pin [] [] e s sg63_fi.out.dec) = F_gist_node_fi x := fun x vs => by kernel_rfl
theorem f63_fi_ok : SigOk Try.prog GT.gl 63 sig63_fi := gfn (Γ := GT) (nt := 143) (rs := [.cell 10 36]) GT_ok (sigs_cons f27_ok (by kernel_rfl) (sigs_cons f80_ok (by kernel_rfl) (sigs_cons f81_ok (by kernel_rfl) (sigs_cons f36_ok (by kernel_rfl) sigs_nil)))) Try.func63 (by kernel_rfl) (by kernel_rfl) (by kernel_rfl) (by decide) (by decide) f63_fi_is
@[reducible] noncomputable def sg39_fi : SigD := ⟨[.data (.sl 61 tNode), .data (.sl 65 tEmptiness), .same (.fn 36 [.cptr 1000])], [(1000, .csame 76 (.mptr 1500)), (1500, .map 9 36 .str tFirsts false)], [2], ⟨[.data (.sl 36 tFirsts)], [(1000, .csame 76 (.mptr 1500)), (1500, .map 9 36 .str tFirsts false)], [(2, .fn 36 [.cptr 1000])]⟩⟩
@[reducible] noncomputable def sig39_fi : Sig := gsig sg39_fi F_gist_Beginnings_fi
set_option maxRecDepth 100000 in
theorem f39_fi_is : ∀ (x : sg39_fi.X) (vs : List Value), denS (GTd [] [] [100012]) [(62, sig62), (63, sig63_fi)] ⟨4, [], [], true, [], []⟩ ⟨68, [], 68⟩ (bodyOf Try.f39) sg39_fi.out.Y (initSt (sg39_fi.pre x) (sg39_fi.heap x) 67 sg39_fi.pin vs) (fun e s => finC (GTd [] [] [100012]) [.tmp 6] [1000, 1500] sg39_fi.pin [] [true] e s sg39_fi.out.dec) = F_gist_Beginnings_fi x := fun x vs => by kernel_rfl
theorem f39_fi_ok : SigOk Try.prog GT.gl 39 sig39_fi := gfn (Γ := (GTd [] [] [100012])) (nt := 67) (rs := [.tmp 6]) (GTd_ok _ _ _) (sigs_cons f62_ok (by kernel_rfl) (sigs_cons f63_fi_ok (by kernel_rfl) sigs_nil)) Try.func39 (by kernel_rfl) (by kernel_rfl) (by kernel_rfl) (by decide) (by decide) f39_fi_is
@[reducible] noncomputable def sg22 : SigD := ⟨[.data tGrammar], [], [], ⟨[.same (.fn 36 [.cptr 3])], [(3, .csame 76 (.mptr 14)), (14, .map 9 36 .str tFirsts false)], []⟩⟩
@[reducible] noncomputable def sig22 : Sig := gsig sg22 F_gist_Firsts
set_option maxRecDepth 100000 in
theorem f22_is : ∀ (x : sg22.X) (vs : List Value), denS (GTd [] [] [49]) [(37, sig37), (38, sig38_em), (39, sig39_fi)] ⟨4, [], [], true, [], [17419]⟩ ⟨4, [], 4⟩ (bodyOf Try.f22) sg22.out.Y (initSt (sg22.pre x) (sg22.heap x) 69 sg22.pin vs) (fun e s => finC (GTd [] [] [49]) [.tmp 2] [] sg22.pin [] [] e s sg22.out.dec) = F_gist_Firsts x := fun x vs => by kernel_rfl
theorem f22_ok : SigOk Try.prog GT.gl 22 sig22 := gfn (Γ := (GTd [] [] [49])) (nt := 69) (rs := [.tmp 2]) (GTd_ok _ _ _) (sigs_cons f37_ok (by kernel_rfl) (sigs_cons f38_em_ok (by kernel_rfl) (sigs_cons f39_fi_ok (by kernel_rfl) sigs_nil))) Try.func22 (by kernel_rfl) (by kernel_rfl) (by kernel_rfl) (by decide) (by decide) f22_is
@[reducible] noncomputable def sg7 : SigD := ⟨[.data tGrammar], [], [], ⟨[.full 2 tFirsts, .data (.int .i64)], [(2, .row 36 tFirsts false)], []⟩⟩
@[reducible] noncomputable def sig7 : Sig := gsig sg7 F_first_Rules
set_option maxRecDepth 100000 in
theorem f7_is : ∀ (x : sg7.X) (vs : List Value), denS GT [(21, sig21), (22, sig22), (36, sig36)] ⟨4, [], [], true, [], []⟩ ⟨12, [], 12⟩ (bodyOf Try.f7) sg7.out.Y (initSt (sg7.pre x) (sg7.heap x) 36 sg7.pin vs) (fun e s => finC GT [.tmp 2, .tmp 3] [] sg7.pin [] [] e s sg7.out.dec) = F_first_Rules x := fun x vs => by kernel_rfl
theorem f7_ok : SigOk Try.prog GT.gl 7 sig7 := gfn (Γ := GT) (nt := 36) (rs := [.tmp 2, .tmp 3]) GT_ok (sigs_cons f21_ok (by kernel_rfl) (sigs_cons f22_ok (by kernel_rfl) (sigs_cons f36_ok (by kernel_rfl) sigs_nil))) Try.func7 (by kernel_rfl) (by kernel_rfl) (by kernel_rfl) (by decide) (by decide) f7_is
@[reducible] noncomputable def sg25 : SigD := ⟨[.data tGrammar, .data (.sl 61 tNode)], [], [], ⟨[.data (.sl 36 tFirsts)], [], []⟩⟩
@[reducible] noncomputable def sig25 : Sig := gsig sg25 F_first_parts
set_option maxRecDepth 100000 in
theorem f25_is : ∀ (x : sg25.X) (vs : List Value), denS (GTd [] [] [8, 9, 11, 12]) [(22, sig22), (37, sig37), (38, sig38_em), (39, sig39_fi)] ⟨4, [], [], true, [], [2050]⟩ ⟨16, [], 16⟩ (bodyOf Try.f25) sg25.out.Y (initSt (sg25.pre x) (sg25.heap x) 13 sg25.pin vs) (fun e s => finC (GTd [] [] [8, 9, 11, 12]) [.tmp 4] [] sg25.pin [] [] e s sg25.out.dec) = F_first_parts x := fun x vs => by kernel_rfl
theorem f25_ok : SigOk Try.prog GT.gl 25 sig25 := gfn (Γ := (GTd [] [] [8, 9, 11, 12])) (nt := 13) (rs := [.tmp 4]) (GTd_ok _ _ _) (sigs_cons f22_ok (by kernel_rfl) (sigs_cons f37_ok (by kernel_rfl) (sigs_cons f38_em_ok (by kernel_rfl) (sigs_cons f39_fi_ok (by kernel_rfl) sigs_nil)))) Try.func25 (by kernel_rfl) (by kernel_rfl) (by kernel_rfl) (by decide) (by decide) f25_is
@[reducible] noncomputable def sg9 : SigD := ⟨[.data tGrammar, .data (.int .i64)], [], [], ⟨[.data (.sl 36 tFirsts), .data (.int .i64)], [], []⟩⟩
@[reducible] noncomputable def sig9 : Sig := gsig sg9 F_first_Parts
set_option maxRecDepth 100000 in
theorem f9_is : ∀ (x : sg9.X) (vs : List Value), denS GT [(21, sig21), (25, sig25)] ⟨4, [], [], true, [], []⟩ ⟨48, [], 48⟩ (bodyOf Try.f9) sg9.out.Y (initSt (sg9.pre x) (sg9.heap x) 33 sg9.pin vs) (fun e s => finC GT [.tmp 4, .tmp 5] [] sg9.pin [] [true, false] e s sg9.out.dec) = F_first_Parts x := fun x vs => by kernel_rfl
theorem f9_ok : SigOk Try.prog GT.gl 9 sig9 := gfn (Γ := GT) (nt := 33) (rs := [.tmp 4, .tmp 5]) GT_ok (sigs_cons f21_ok (by kernel_rfl) (sigs_cons f25_ok (by kernel_rfl) sigs_nil)) Try.func9 (by kernel_rfl) (by kernel_rfl) (by kernel_rfl) (by decide) (by decide) f9_is
@[reducible] noncomputable def sg88 : SigD := ⟨[.data (.sl 9 .str), .data .str], [], [], ⟨[.data (.int .i64)], [], []⟩⟩
@[reducible] noncomputable def sig88 : Sig := gsig sg88 F_slices_Index_string_string
set_option maxRecDepth 100000 in
theorem f88_is : ∀ (x : sg88.X) (vs : List Value), denS GT [] ⟨4, [], [], false, [], []⟩ ⟨16, [], 16⟩ (bodyOf Try.f88) sg88.out.Y (initSt (sg88.pre x) (sg88.heap x) 19 sg88.pin vs) (fun e s => finC GT [.tmp 4] [] sg88.pin [] [] e s sg88.out.dec) = F_slices_Index_string_string x := fun x vs => by kernel_rfl
theorem f88_ok : SigOk Try.prog GT.gl 88 sig88 := gfn (Γ := GT) (nt := 19) (rs := [.tmp 4]) GT_ok sigs_nil Try.func88 (by kernel_rfl) (by kernel_rfl) (by kernel_rfl) (by decide) (by decide) f88_is
@[reducible] noncomputable def sg70 : SigD := ⟨[.data (.sl 9 .str), .data .str], [], [], ⟨[.data .bool], [], []⟩⟩
@[reducible] noncomputable def sig70 : Sig := gsig sg70 F_slices_Contains_string_string
set_option maxRecDepth 100000 in
theorem f70_is : ∀ (x : sg70.X) (vs : List Value), denS GT [(88, sig88)] ⟨4, [], [], false, [], []⟩ ⟨16, [], 16⟩ (bodyOf Try.f70) sg70.out.Y (initSt (sg70.pre x) (sg70.heap x) 9 sg70.pin vs) (fun e s => finC GT [.tmp 4] [] sg70.pin [] [] e s sg70.out.dec) = F_slices_Contains_string_string x := fun x vs => by kernel_rfl
theorem f70_ok : SigOk Try.prog GT.gl 70 sig70 := gfn (Γ := GT) (nt := 9) (rs := [.tmp 4]) GT_ok (sigs_cons f88_ok (by kernel_rfl) sigs_nil) Try.func70 (by kernel_rfl) (by kernel_rfl) (by kernel_rfl) (by decide) (by decide) f70_is
@[reducible] noncomputable def sg48 : SigD := ⟨[.data (.sl 61 tNode)], [], [], ⟨[.full 2 .str, .data (.int .i64)], [(2, .row 9 .str false)], []⟩⟩
@[reducible] noncomputable def sig48 : Sig := gsig sg48 F_tree_Names
set_option maxRecDepth 100000 in
theorem f48_is : ∀ (x : sg48.X) (vs : List Value), denS GT [(35, sig35), (70, sig70)] ⟨4, [], [], false, [], []⟩ ⟨12, [], 12⟩ (bodyOf Try.f48) sg48.out.Y (initSt (sg48.pre x) (sg48.heap x) 40 sg48.pin vs) (fun e s => finC GT [.tmp 2, .tmp 3] [] sg48.pin [] [] e s sg48.out.dec) = F_tree_Names x := fun x vs => by kernel_rfl
theorem f48_ok : SigOk Try.prog GT.gl 48 sig48 := gfn (Γ := GT) (nt := 40) (rs := [.tmp 2, .tmp 3]) GT_ok (sigs_cons f35_ok (by kernel_rfl) (sigs_cons f70_ok (by kernel_rfl) sigs_nil)) Try.func48 (by kernel_rfl) (by kernel_rfl) (by kernel_rfl) (by decide) (by decide) f48_is
@[reducible] noncomputable def sg28 : SigD := ⟨[.data tGrammar, .data (.sl 61 tNode)], [], [], ⟨[.data (.int .i64)], [], []⟩⟩
@[reducible] noncomputable def sig28 : Sig := gsig sg28 F_first_look
set_option maxRecDepth 100000 in
theorem f28_is : ∀ (x : sg28.X) (vs : List Value), denS GT [(48, sig48), (49, sig49)] ⟨4, [], [], true, [], []⟩ ⟨16, [], 16⟩ (bodyOf Try.f28) sg28.out.Y (initSt (sg28.pre x) (sg28.heap x) 37 sg28.pin vs) (fun e s => finC GT [.tmp 4] [] sg28.pin [] [] e s sg28.out.dec) = F_first_look x := fun x vs => by kernel_rfl
theorem f28_ok : SigOk Try.prog GT.gl 28 sig28 := gfn (Γ := GT) (nt := 37) (rs := [.tmp 4]) GT_ok (sigs_cons f48_ok (by kernel_rfl) (sigs_cons f49_ok (by kernel_rfl) sigs_nil)) Try.func28 (by kernel_rfl) (by kernel_rfl) (by kernel_rfl) (by decide) (by decide) f28_is
@[reducible] noncomputable def sg15 : SigD := ⟨[.data tGrammar, .data (.sl 61 tNode)], [], [], ⟨[.data tFirsts, .data (.int .i64)], [], []⟩⟩
@[reducible] noncomputable def sig15 : Sig := gsig sg15 F_first_Of
set_option maxRecDepth 100000 in
theorem f15_is : ∀ (x : sg15.X) (vs : List Value), denS GT [(21, sig21), (25, sig25), (28, sig28)] ⟨4, [], [], true, [], []⟩ ⟨48, [], 48⟩ (bodyOf Try.f15) sg15.out.Y (initSt (sg15.pre x) (sg15.heap x) 33 sg15.pin vs) (fun e s => finC GT [.cell 4 36, .tmp 5] [] sg15.pin [] [] e s sg15.out.dec) = F_first_Of x := fun x vs => by kernel_rfl
theorem f15_ok : SigOk Try.prog GT.gl 15 sig15 := gfn (Γ := GT) (nt := 33) (rs := [.cell 4 36, .tmp 5]) GT_ok (sigs_cons f21_ok (by kernel_rfl) (sigs_cons f25_ok (by kernel_rfl) (sigs_cons f28_ok (by kernel_rfl) sigs_nil))) Try.func15 (by kernel_rfl) (by kernel_rfl) (by kernel_rfl) (by decide) (by decide) f15_is
@[reducible] noncomputable def sg13 : SigD := ⟨[], [], [], ⟨[.data .bool], [], []⟩⟩
@[reducible] noncomputable def sig13 : Sig := gsig sg13 F_law11_works
set_option maxRecDepth 100000 in
theorem f13_is : ∀ (x : sg13.X) (vs : List Value), denS GT [(7, sig7), (15, sig15), (27, sig27)] ⟨4, [], [], true, [], []⟩ ⟨1, [], 1⟩ (bodyOf Try.f13) sg13.out.Y (initSt (sg13.pre x) (sg13.heap x) 58 sg13.pin vs) (fun e s => finC GT [.tmp 0] [] sg13.pin [] [] e s sg13.out.dec) = F_law11_works x := fun x vs => by kernel_rfl
theorem f13_ok : SigOk Try.prog GT.gl 13 sig13 := gfn (Γ := GT) (nt := 58) (rs := [.tmp 0]) GT_ok (sigs_cons f7_ok (by kernel_rfl) (sigs_cons f15_ok (by kernel_rfl) (sigs_cons f27_ok (by kernel_rfl) sigs_nil))) Try.func13 (by kernel_rfl) (by kernel_rfl) (by kernel_rfl) (by decide) (by decide) f13_is
@[reducible] noncomputable def sg32 : SigD := ⟨[.data tSet, .data tSet], [], [], ⟨[.data tSet], [], []⟩⟩
@[reducible] noncomputable def sig32 : Sig := gsig sg32 F_charset_Meet
set_option maxRecDepth 100000 in
theorem f32_is : ∀ (x : sg32.X) (vs : List Value), denS GTA [] ⟨4, [], [], true, [], []⟩ ⟨16, [], 16⟩ (bodyOf Try.f32) sg32.out.Y (initSt (sg32.pre x) (sg32.heap x) 19 sg32.pin vs) (fun e s => finC GTA [.cell 4 34] [] sg32.pin [] [] e s sg32.out.dec) = F_charset_Meet x := fun x vs => by kernel_rfl
theorem f32_ok : SigOk Try.prog GT.gl 32 sig32 := gfn (Γ := GTA) (nt := 19) (rs := [.cell 4 34]) GTA_ok sigs_nil Try.func32 (by kernel_rfl) (by kernel_rfl) (by kernel_rfl) (by decide) (by decide) f32_is
@[reducible] noncomputable def sg20 : SigD := ⟨[.data tSet, .data tSet], [], [], ⟨[.data .bool], [], []⟩⟩
@[reducible] noncomputable def sig20 : Sig := gsig sg20 F_charset_Apart
set_option maxRecDepth 100000 in
theorem f20_is : ∀ (x : sg20.X) (vs : List Value), denS GT [(32, sig32)] ⟨4, [], [], true, [], []⟩ ⟨16, [], 16⟩ (bodyOf Try.f20) sg20.out.Y (initSt (sg20.pre x) (sg20.heap x) 10 sg20.pin vs) (fun e s => finC GT [.tmp 4] [] sg20.pin [] [] e s sg20.out.dec) = F_charset_Apart x := fun x vs => by kernel_rfl
theorem f20_ok : SigOk Try.prog GT.gl 20 sig20 := gfn (Γ := GT) (nt := 10) (rs := [.tmp 4]) GT_ok (sigs_cons f32_ok (by kernel_rfl) sigs_nil) Try.func20 (by kernel_rfl) (by kernel_rfl) (by kernel_rfl) (by decide) (by decide) f20_is
@[reducible] noncomputable def sg17 : SigD := ⟨[.data tGrammar, .data (.sl 61 tNode), .data (.sl 61 tNode)], [], [], ⟨[.data .bool, .data (.int .i64)], [], []⟩⟩
@[reducible] noncomputable def sig17 : Sig := gsig sg17 F_first_Decided
set_option maxRecDepth 100000 in
theorem f17_is : ∀ (x : sg17.X) (vs : List Value), denS GT [(15, sig15), (20, sig20)] ⟨4, [], [], true, [], []⟩ ⟨192, [], 192⟩ (bodyOf Try.f17) sg17.out.Y (initSt (sg17.pre x) (sg17.heap x) 48 sg17.pin vs) (fun e s => finC GT [.tmp 6, .tmp 7] [] sg17.pin [] [] e s sg17.out.dec) = F_first_Decided x := fun x vs => by kernel_rfl
theorem f17_ok : SigOk Try.prog GT.gl 17 sig17 := gfn (Γ := GT) (nt := 48) (rs := [.tmp 6, .tmp 7]) GT_ok (sigs_cons f15_ok (by kernel_rfl) (sigs_cons f20_ok (by kernel_rfl) sigs_nil)) Try.func17 (by kernel_rfl) (by kernel_rfl) (by kernel_rfl) (by decide) (by decide) f17_is
@[reducible] noncomputable def sg5 : SigD := ⟨[.data tGrammar, .data (.sl 61 tNode), .data (.sl 61 tNode)], [], [], ⟨[.data .bool], [], []⟩⟩
set_option maxRecDepth 100000 in
theorem f5_is : ∀ (x : sg5.X) (vs : List Value), denS GT [(7, sig7), (9, sig9), (13, sig13), (15, sig15), (17, sig17), (20, sig20)] ⟨4, [], [], true, [], []⟩ ⟨64, [], 64⟩ (bodyOf Try.f5) sg5.out.Y (initSt (sg5.pre x) (sg5.heap x) 177 sg5.pin vs) (fun e s => finC GT [.tmp 6] [] sg5.pin [] [] e s sg5.out.dec) = F_law11_FirstAlone x := fun x vs => by kernel_rfl
theorem f5_h {x : sg5.X} {y : sg5.out.Y} (h : F_law11_FirstAlone x = some y) : FnH Try.prog GT.gl 5 (sg5.pre x) (sg5.heap x) (sg5.out.out y).1 (sg5.out.out y).2.1 (sg5.out.out y).2.2 := gfnH (Γ := GT) (nt := 177) (rs := [.tmp 6]) GT_ok (sigs_cons f7_ok (by kernel_rfl) (sigs_cons f9_ok (by kernel_rfl) (sigs_cons f13_ok (by kernel_rfl) (sigs_cons f15_ok (by kernel_rfl) (sigs_cons f17_ok (by kernel_rfl) (sigs_cons f20_ok (by kernel_rfl) sigs_nil)))))) Try.func5 (by kernel_rfl) (by kernel_rfl) (by kernel_rfl) (by decide) (by decide) f5_is h
end Go.Proofs
