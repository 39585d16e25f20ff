/- Part of the proof of the law's row: YtlbajhkijnjhdaaWwC08. -/
import Derived.Test.YtlbajhkijnjhdaaWtC08
import Derived.Test.YtlbajhkijnjhdaaWpC08
import Derived.Test.YtlbajhkijnjhdaaProg
import Derived.Test.YtlbajhkijnjhdaaAbsY
import Derived.Shelf.Sort.Plain
import Derived.Shelf.Slices.In.SortNone
import Derived.Sort.OwnSortedInts
set_option linter.all false
set_option linter.unusedVariables false
set_option linter.unusedSimpArgs false
/-! The functions compute that. -/
namespace Go.Proofs
open Go Go.Abs
@[reducible] noncomputable def sg33 : SigD := ⟨[.data (.sl 68 tNode)], [], [], ⟨[.own 2 tNode], [(2, .row 68 tNode false)], []⟩⟩
@[reducible] noncomputable def sig33 : Sig := gsig sg33 F_book_LendPattern
set_option maxRecDepth 100000 in
theorem f33_is : ∀ (x : sg33.X) (vs : List Value), denS GT [] ⟨4, [], [], false, []⟩ ⟨4, [], 4⟩ (bodyOf Try.f33) sg33.out.Y (initSt (sg33.pre x) (sg33.heap x) 12 sg33.pin vs) (fun e s => finC GT [.tmp 2] [] sg33.pin [] [] e s sg33.out.dec) = F_book_LendPattern x := fun x vs => by kernel_rfl
theorem f33_ok : SigOk Try.prog GT.gl 33 sig33 := gfn (Γ := GT) (nt := 12) (rs := [.tmp 2]) GT_ok sigs_nil Try.func33 (by kernel_rfl) (by kernel_rfl) (by kernel_rfl) (by decide) (by decide) f33_is
@[reducible] noncomputable def sg9 : SigD := ⟨[.data tGrammarL], [], [], ⟨[.data tGrammarL], [], []⟩⟩
@[reducible] noncomputable def sig9 : Sig := gsig sg9 F_book_LendGrammar
set_option maxRecDepth 100000 in
theorem f9_is : ∀ (x : sg9.X) (vs : List Value), denS GTL [(33, sig33)] ⟨4, [], [], true, []⟩ ⟨4, [], 4⟩ (bodyOf Try.f9) sg9.out.Y (initSt (sg9.pre x) (sg9.heap x) 37 sg9.pin vs) (fun e s => finC GTL [.cell 2 24] [] sg9.pin [] [true] e s sg9.out.dec) = F_book_LendGrammar x := fun x vs => by kernel_rfl
theorem f9_ok : SigOk Try.prog GT.gl 9 sig9 := gfn (Γ := GTL) (nt := 37) (rs := [.cell 2 24]) GTL_ok (sigs_cons f33_ok (by kernel_rfl) sigs_nil) Try.func9 (by kernel_rfl) (by kernel_rfl) (by kernel_rfl) (by decide) (by decide) f9_is
@[reducible] noncomputable def sg38 : SigD := ⟨[.data (.int .u8)], [], [], ⟨[.data .bool], [], []⟩⟩
@[reducible] noncomputable def sig38 : Sig := gsig sg38 F_rules_isHead
set_option maxRecDepth 100000 in
theorem f38_is : ∀ (x : sg38.X) (vs : List Value), denS GT [] ⟨4, [], [], true, []⟩ ⟨4, [], 4⟩ (bodyOf Try.f38) sg38.out.Y (initSt (sg38.pre x) (sg38.heap x) 21 sg38.pin vs) (fun e s => finC GT [.tmp 2] [] sg38.pin [] [] e s sg38.out.dec) = F_rules_isHead x := fun x vs => by kernel_rfl
theorem f38_ok : SigOk Try.prog GT.gl 38 sig38 := gfn (Γ := GT) (nt := 21) (rs := [.tmp 2]) GT_ok sigs_nil Try.func38 (by kernel_rfl) (by kernel_rfl) (by kernel_rfl) (by decide) (by decide) f38_is
@[reducible] noncomputable def sg13 : SigD := ⟨[.data .str], [], [], ⟨[.data .bool], [], []⟩⟩
@[reducible] noncomputable def sig13 : Sig := gsig sg13 F_rules_Name
set_option maxRecDepth 100000 in
theorem f13_is : ∀ (x : sg13.X) (vs : List Value), denS GT [(38, sig38)] ⟨4, [], [], true, []⟩ ⟨4, [], 4⟩ (bodyOf Try.f13) sg13.out.Y (initSt (sg13.pre x) (sg13.heap x) 40 sg13.pin vs) (fun e s => finC GT [.tmp 2] [] sg13.pin [] [] e s sg13.out.dec) = F_rules_Name x := fun x vs => by kernel_rfl
theorem f13_ok : SigOk Try.prog GT.gl 13 sig13 := gfn (Γ := GT) (nt := 40) (rs := [.tmp 2]) GT_ok (sigs_cons f38_ok (by kernel_rfl) sigs_nil) Try.func13 (by kernel_rfl) (by kernel_rfl) (by kernel_rfl) (by decide) (by decide) f13_is
@[reducible] noncomputable def sg34 : SigD := ⟨[.data tGrammar], [], [], ⟨[.data (.map 9 3 .str (.int .i64))], [], []⟩⟩
@[reducible] noncomputable def sig34 : Sig := gsig sg34 F_rules_numbers
set_option maxRecDepth 100000 in
theorem f34_is : ∀ (x : sg34.X) (vs : List Value), denS GT [] ⟨4, [], [], true, []⟩ ⟨4, [], 4⟩ (bodyOf Try.f34) sg34.out.Y (initSt (sg34.pre x) (sg34.heap x) 32 sg34.pin vs) (fun e s => finC GT [.tmp 2] [] sg34.pin [] [true] e s sg34.out.dec) = F_rules_numbers x := fun x vs => by kernel_rfl
theorem f34_ok : SigOk Try.prog GT.gl 34 sig34 := gfn (Γ := GT) (nt := 32) (rs := [.tmp 2]) GT_ok sigs_nil Try.func34 (by kernel_rfl) (by kernel_rfl) (by kernel_rfl) (by decide) (by decide) f34_is
@[reducible] noncomputable def sg69 : SigD := ⟨[.data (.int .i64)], [], [], ⟨[.data (.int .i64)], [], []⟩⟩
@[reducible] noncomputable def sig69 : Sig := gsig sg69 F_tree_Arity
set_option maxRecDepth 100000 in
theorem f69_is : ∀ (x : sg69.X) (vs : List Value), denS GT [] ⟨4, [], [], false, []⟩ ⟨4, [], 4⟩ (bodyOf Try.f69) sg69.out.Y (initSt (sg69.pre x) (sg69.heap x) 28 sg69.pin vs) (fun e s => finC GT [.tmp 2] [] sg69.pin [] [] e s sg69.out.dec) = F_tree_Arity x := fun x vs => by kernel_rfl
theorem f69_ok : SigOk Try.prog GT.gl 69 sig69 := gfn (Γ := GT) (nt := 28) (rs := [.tmp 2]) GT_ok sigs_nil Try.func69 (by kernel_rfl) (by kernel_rfl) (by kernel_rfl) (by decide) (by decide) f69_is
@[reducible] noncomputable def sg75 : SigD := ⟨[.data (.int .i64)], [], [], ⟨[.data .bool], [], []⟩⟩
@[reducible] noncomputable def sig75 : Sig := gsig sg75 F_tree_counted
set_option maxRecDepth 100000 in
theorem f75_is : ∀ (x : sg75.X) (vs : List Value), denS GT [] ⟨4, [], [], false, []⟩ ⟨4, [], 4⟩ (bodyOf Try.f75) sg75.out.Y (initSt (sg75.pre x) (sg75.heap x) 13 sg75.pin vs) (fun e s => finC GT [.tmp 2] [] sg75.pin [] [] e s sg75.out.dec) = F_tree_counted x := fun x vs => by kernel_rfl
theorem f75_ok : SigOk Try.prog GT.gl 75 sig75 := gfn (Γ := GT) (nt := 13) (rs := [.tmp 2]) GT_ok sigs_nil Try.func75 (by kernel_rfl) (by kernel_rfl) (by kernel_rfl) (by decide) (by decide) f75_is
@[reducible] noncomputable def sg90 : SigD := ⟨[.data (.int .u8)], [], [], ⟨[.data .bool], [], []⟩⟩
@[reducible] noncomputable def sig90 : Sig := gsig sg90 F_tree_isHead
set_option maxRecDepth 100000 in
theorem f90_is : ∀ (x : sg90.X) (vs : List Value), denS GT [] ⟨4, [], [], false, []⟩ ⟨4, [], 4⟩ (bodyOf Try.f90) sg90.out.Y (initSt (sg90.pre x) (sg90.heap x) 19 sg90.pin vs) (fun e s => finC GT [.tmp 2] [] sg90.pin [] [] e s sg90.out.dec) = F_tree_isHead x := fun x vs => by kernel_rfl
theorem f90_ok : SigOk Try.prog GT.gl 90 sig90 := gfn (Γ := GT) (nt := 19) (rs := [.tmp 2]) GT_ok sigs_nil Try.func90 (by kernel_rfl) (by kernel_rfl) (by kernel_rfl) (by decide) (by decide) f90_is
@[reducible] noncomputable def sg76 : SigD := ⟨[.data .str], [], [], ⟨[.data .bool], [], []⟩⟩
@[reducible] noncomputable def sig76 : Sig := gsig sg76 F_tree_isName
set_option maxRecDepth 100000 in
theorem f76_is : ∀ (x : sg76.X) (vs : List Value), denS GT [(90, sig90)] ⟨4, [], [], false, []⟩ ⟨4, [], 4⟩ (bodyOf Try.f76) sg76.out.Y (initSt (sg76.pre x) (sg76.heap x) 40 sg76.pin vs) (fun e s => finC GT [.tmp 2] [] sg76.pin [] [] e s sg76.out.dec) = F_tree_isName x := fun x vs => by kernel_rfl
theorem f76_ok : SigOk Try.prog GT.gl 76 sig76 := gfn (Γ := GT) (nt := 40) (rs := [.tmp 2]) GT_ok (sigs_cons f90_ok (by kernel_rfl) sigs_nil) Try.func76 (by kernel_rfl) (by kernel_rfl) (by kernel_rfl) (by decide) (by decide) f76_is
@[reducible] noncomputable def sg77 : SigD := ⟨[.data .str], [], [], ⟨[.data .bool], [], []⟩⟩
@[reducible] noncomputable def sig77 : Sig := gsig sg77 F_tree_isTemplate
set_option maxRecDepth 100000 in
theorem f77_is : ∀ (x : sg77.X) (vs : List Value), denS GT [] ⟨4, [], [], false, []⟩ ⟨4, [], 4⟩ (bodyOf Try.f77) sg77.out.Y (initSt (sg77.pre x) (sg77.heap x) 41 sg77.pin vs) (fun e s => finC GT [.tmp 2] [] sg77.pin [] [] e s sg77.out.dec) = F_tree_isTemplate x := fun x vs => by kernel_rfl
theorem f77_ok : SigOk Try.prog GT.gl 77 sig77 := gfn (Γ := GT) (nt := 41) (rs := [.tmp 2]) GT_ok sigs_nil Try.func77 (by kernel_rfl) (by kernel_rfl) (by kernel_rfl) (by decide) (by decide) f77_is
@[reducible] noncomputable def sg70 : SigD := ⟨[.data tNode], [], [], ⟨[.data .bool], [], []⟩⟩
@[reducible] noncomputable def sig70 : Sig := gsig sg70 F_tree_fields
set_option maxRecDepth 100000 in
theorem f70_is : ∀ (x : sg70.X) (vs : List Value), denS GT [(75, sig75), (76, sig76), (77, sig77)] ⟨4, [], [], false, []⟩ ⟨4, [], 4⟩ (bodyOf Try.f70) sg70.out.Y (initSt (sg70.pre x) (sg70.heap x) 67 sg70.pin vs) (fun e s => finC GT [.tmp 2] [] sg70.pin [] [] e s sg70.out.dec) = F_tree_fields x := fun x vs => by kernel_rfl
theorem f70_ok : SigOk Try.prog GT.gl 70 sig70 := gfn (Γ := GT) (nt := 67) (rs := [.tmp 2]) GT_ok (sigs_cons f75_ok (by kernel_rfl) (sigs_cons f76_ok (by kernel_rfl) (sigs_cons f77_ok (by kernel_rfl) sigs_nil))) Try.func70 (by kernel_rfl) (by kernel_rfl) (by kernel_rfl) (by decide) (by decide) f70_is
@[reducible] noncomputable def sg62 : SigD := ⟨[.data (.int .i64), .data tshape], [], [], ⟨[], [], []⟩⟩
@[reducible] noncomputable def sig62 : Sig := gsig sg62 F_tree_Check_1
set_option maxRecDepth 100000 in
theorem f62_is : ∀ (x : sg62.X) (vs : List Value), denS GT [] ⟨4, [], [], false, []⟩ ⟨0, [], 0⟩ (bodyOf Try.f62) sg62.out.Y (initSt (sg62.pre x) (sg62.heap x) 4 sg62.pin vs) (fun e s => finC GT [] [] sg62.pin [] [] e s sg62.out.dec) = F_tree_Check_1 x := fun x vs => by kernel_rfl
theorem f62_ok : SigOk Try.prog GT.gl 62 sig62 := gfn (Γ := GT) (nt := 4) (rs := []) GT_ok sigs_nil Try.func62 (by kernel_rfl) (by kernel_rfl) (by kernel_rfl) (by decide) (by decide) f62_is
@[reducible] noncomputable def sg61_chk : SigD := ⟨[.data (.sl 68 tNode), .same (.fn 62 [])], [], [], ⟨[.data (.int .i64), .data (.int .i64)], [], []⟩⟩
@[reducible] noncomputable def sig61_chk : Sig := gsig sg61_chk F_tree_each_chk
set_option maxRecDepth 100000 in
theorem f61_chk_is : ∀ (x : sg61_chk.X) (vs : List Value), denS GT [(69, sig69), (70, sig70), (62, sig62)] ⟨4, [], [], false, []⟩ ⟨48, [], 48⟩ (bodyOf Try.f61) sg61_chk.out.Y (initSt (sg61_chk.pre x) (sg61_chk.heap x) 108 sg61_chk.pin vs) (fun e s => finC GT [.tmp 4, .tmp 5] [] sg61_chk.pin [] [] e s sg61_chk.out.dec) = F_tree_each_chk x := fun x vs => by kernel_rfl
theorem f61_chk_ok : SigOk Try.prog GT.gl 61 sig61_chk := gfn (Γ := GT) (nt := 108) (rs := [.tmp 4, .tmp 5]) GT_ok (sigs_cons f69_ok (by kernel_rfl) (sigs_cons f70_ok (by kernel_rfl) (sigs_cons f62_ok (by kernel_rfl) sigs_nil))) Try.func61 (by kernel_rfl) (by kernel_rfl) (by kernel_rfl) (by decide) (by decide) f61_chk_is
@[reducible] noncomputable def sg35 : SigD := ⟨[.data (.sl 68 tNode)], [], [], ⟨[.data (.int .i64), .data (.int .i64)], [], []⟩⟩
@[reducible] noncomputable def sig35 : Sig := gsig sg35 F_tree_Check
set_option maxRecDepth 100000 in
theorem f35_is : ∀ (x : sg35.X) (vs : List Value), denS GT [(61, sig61_chk), (62, sig62)] ⟨4, [], [], false, []⟩ ⟨12, [], 12⟩ (bodyOf Try.f35) sg35.out.Y (initSt (sg35.pre x) (sg35.heap x) 11 sg35.pin vs) (fun e s => finC GT [.tmp 2, .tmp 3] [] sg35.pin [] [] e s sg35.out.dec) = F_tree_Check x := fun x vs => by kernel_rfl
theorem f35_ok : SigOk Try.prog GT.gl 35 sig35 := gfn (Γ := GT) (nt := 11) (rs := [.tmp 2, .tmp 3]) GT_ok (sigs_cons f61_chk_ok (by kernel_rfl) (sigs_cons f62_ok (by kernel_rfl) sigs_nil)) Try.func35 (by kernel_rfl) (by kernel_rfl) (by kernel_rfl) (by decide) (by decide) f35_is
@[reducible] noncomputable def sg10 : SigD := ⟨[.data tGrammar], [], [], ⟨[.data tSpot, .data (.int .i64)], [], []⟩⟩
@[reducible] noncomputable def sig10 : Sig := gsig sg10 F_rules_Check
set_option maxRecDepth 100000 in
theorem f10_is : ∀ (x : sg10.X) (vs : List Value), denS GT [(13, sig13), (34, sig34), (35, sig35)] ⟨4, [], [], true, []⟩ ⟨12, [], 12⟩ (bodyOf Try.f10) sg10.out.Y (initSt (sg10.pre x) (sg10.heap x) 119 sg10.pin vs) (fun e s => finC GT [.cell 2 27, .tmp 3] [] sg10.pin [] [] e s sg10.out.dec) = F_rules_Check x := fun x vs => by kernel_rfl
theorem f10_ok : SigOk Try.prog GT.gl 10 sig10 := gfn (Γ := GT) (nt := 119) (rs := [.cell 2 27, .tmp 3]) GT_ok (sigs_cons f13_ok (by kernel_rfl) (sigs_cons f34_ok (by kernel_rfl) (sigs_cons f35_ok (by kernel_rfl) sigs_nil))) Try.func10 (by kernel_rfl) (by kernel_rfl) (by kernel_rfl) (by decide) (by decide) f10_is
@[reducible] noncomputable def sg14 : SigD := ⟨[.data .str], [], [], ⟨[.data .bool], [], []⟩⟩
@[reducible] noncomputable def sig14 : Sig := gsig sg14 F_ref04_Name
set_option maxRecDepth 100000 in
theorem f14_is : ∀ (x : sg14.X) (vs : List Value), denS GT [] ⟨4, [], [], false, []⟩ ⟨4, [], 4⟩ (bodyOf Try.f14) sg14.out.Y (initSt (sg14.pre x) (sg14.heap x) 59 sg14.pin vs) (fun e s => finC GT [.tmp 2] [] sg14.pin [] [] e s sg14.out.dec) = F_ref04_Name x := fun x vs => by kernel_rfl
theorem f14_ok : SigOk Try.prog GT.gl 14 sig14 := gfn (Γ := GT) (nt := 59) (rs := [.tmp 2]) GT_ok sigs_nil Try.func14 (by kernel_rfl) (by kernel_rfl) (by kernel_rfl) (by decide) (by decide) f14_is
@[reducible] noncomputable def sg36 : SigD := ⟨[.data tGrammar, .data .str], [], [], ⟨[.data (.int .i64)], [], []⟩⟩
@[reducible] noncomputable def sig36 : Sig := gsig sg36 F_ref08_find
set_option maxRecDepth 100000 in
theorem f36_is : ∀ (x : sg36.X) (vs : List Value), denS GT [] ⟨4, [], [], true, []⟩ ⟨16, [], 16⟩ (bodyOf Try.f36) sg36.out.Y (initSt (sg36.pre x) (sg36.heap x) 22 sg36.pin vs) (fun e s => finC GT [.tmp 4] [] sg36.pin [] [] e s sg36.out.dec) = F_ref08_find x := fun x vs => by kernel_rfl
theorem f36_ok : SigOk Try.prog GT.gl 36 sig36 := gfn (Γ := GT) (nt := 22) (rs := [.tmp 4]) GT_ok sigs_nil Try.func36 (by kernel_rfl) (by kernel_rfl) (by kernel_rfl) (by decide) (by decide) f36_is
@[reducible] noncomputable def sg71 : SigD := ⟨[.data (.int .i64)], [], [], ⟨[.data (.int .i64)], [], []⟩⟩
@[reducible] noncomputable def sig71 : Sig := gsig sg71 F_ref04_Arity
set_option maxRecDepth 100000 in
theorem f71_is : ∀ (x : sg71.X) (vs : List Value), denS GT [] ⟨4, [], [], false, []⟩ ⟨4, [], 4⟩ (bodyOf Try.f71) sg71.out.Y (initSt (sg71.pre x) (sg71.heap x) 30 sg71.pin vs) (fun e s => finC GT [.tmp 2] [] sg71.pin [] [] e s sg71.out.dec) = F_ref04_Arity x := fun x vs => by kernel_rfl
theorem f71_ok : SigOk Try.prog GT.gl 71 sig71 := gfn (Γ := GT) (nt := 30) (rs := [.tmp 2]) GT_ok sigs_nil Try.func71 (by kernel_rfl) (by kernel_rfl) (by kernel_rfl) (by decide) (by decide) f71_is
@[reducible] noncomputable def sg78 : SigD := ⟨[.data .str], [], [], ⟨[.data .bool], [], []⟩⟩
@[reducible] noncomputable def sig78 : Sig := gsig sg78 F_ref04_Template
set_option maxRecDepth 100000 in
theorem f78_is : ∀ (x : sg78.X) (vs : List Value), denS GT [] ⟨4, [], [], false, []⟩ ⟨4, [], 4⟩ (bodyOf Try.f78) sg78.out.Y (initSt (sg78.pre x) (sg78.heap x) 41 sg78.pin vs) (fun e s => finC GT [.tmp 2] [] sg78.pin [] [] e s sg78.out.dec) = F_ref04_Template x := fun x vs => by kernel_rfl
theorem f78_ok : SigOk Try.prog GT.gl 78 sig78 := gfn (Γ := GT) (nt := 41) (rs := [.tmp 2]) GT_ok sigs_nil Try.func78 (by kernel_rfl) (by kernel_rfl) (by kernel_rfl) (by decide) (by decide) f78_is
@[reducible] noncomputable def sg72 : SigD := ⟨[.data tNode], [], [], ⟨[.data .bool], [], []⟩⟩
@[reducible] noncomputable def sig72 : Sig := gsig sg72 F_ref04_Field
set_option maxRecDepth 100000 in
theorem f72_is : ∀ (x : sg72.X) (vs : List Value), denS GT [(14, sig14), (78, sig78)] ⟨4, [], [], false, []⟩ ⟨4, [], 4⟩ (bodyOf Try.f72) sg72.out.Y (initSt (sg72.pre x) (sg72.heap x) 87 sg72.pin vs) (fun e s => finC GT [.tmp 2] [] sg72.pin [] [] e s sg72.out.dec) = F_ref04_Field x := fun x vs => by kernel_rfl
theorem f72_ok : SigOk Try.prog GT.gl 72 sig72 := gfn (Γ := GT) (nt := 87) (rs := [.tmp 2]) GT_ok (sigs_cons f14_ok (by kernel_rfl) (sigs_cons f78_ok (by kernel_rfl) sigs_nil)) Try.func72 (by kernel_rfl) (by kernel_rfl) (by kernel_rfl) (by decide) (by decide) f72_is
@[reducible] noncomputable def sg63 : SigD := ⟨[.data (.sl 68 tNode)], [], [], ⟨[.full 2 (.int .i64), .full 3 (.int .i64), .data (.int .i64), .data (.int .i64)], [(2, .row 3 (.int .i64) false), (3, .row 3 (.int .i64) false)], []⟩⟩
@[reducible] noncomputable def sig63 : Sig := gsig sg63 F_ref04_from
set_option maxRecDepth 100000 in
theorem f63_is : ∀ (x : sg63.X) (vs : List Value), denS GT [(71, sig71), (72, sig72)] ⟨4, [], [], false, []⟩ ⟨60, [], 60⟩ (bodyOf Try.f63) sg63.out.Y (initSt (sg63.pre x) (sg63.heap x) 91 sg63.pin vs) (fun e s => finC GT [.tmp 2, .tmp 3, .tmp 4, .tmp 5] [] sg63.pin [] [] e s sg63.out.dec) = F_ref04_from x := fun x vs => by kernel_rfl
theorem f63_ok : SigOk Try.prog GT.gl 63 sig63 := gfn (Γ := GT) (nt := 91) (rs := [.tmp 2, .tmp 3, .tmp 4, .tmp 5]) GT_ok (sigs_cons f71_ok (by kernel_rfl) (sigs_cons f72_ok (by kernel_rfl) sigs_nil)) Try.func63 (by kernel_rfl) (by kernel_rfl) (by kernel_rfl) (by decide) (by decide) f63_is
@[reducible] noncomputable def sg37 : SigD := ⟨[.data (.sl 68 tNode)], [], [], ⟨[.data (.int .i64), .data (.int .i64)], [], []⟩⟩
@[reducible] noncomputable def sig37 : Sig := gsig sg37 F_ref04_Check
set_option maxRecDepth 100000 in
theorem f37_is : ∀ (x : sg37.X) (vs : List Value), denS GT [(63, sig63)] ⟨4, [], [], false, []⟩ ⟨12, [], 12⟩ (bodyOf Try.f37) sg37.out.Y (initSt (sg37.pre x) (sg37.heap x) 36 sg37.pin vs) (fun e s => finC GT [.tmp 2, .tmp 3] [] sg37.pin [] [] e s sg37.out.dec) = F_ref04_Check x := fun x vs => by kernel_rfl
theorem f37_ok : SigOk Try.prog GT.gl 37 sig37 := gfn (Γ := GT) (nt := 36) (rs := [.tmp 2, .tmp 3]) GT_ok (sigs_cons f63_ok (by kernel_rfl) sigs_nil) Try.func37 (by kernel_rfl) (by kernel_rfl) (by kernel_rfl) (by decide) (by decide) f37_is
@[reducible] noncomputable def sg11 : SigD := ⟨[.data tGrammar], [], [], ⟨[.data tSpot, .data (.int .i64)], [], []⟩⟩
@[reducible] noncomputable def sig11 : Sig := gsig sg11 F_ref08_Check
set_option maxRecDepth 100000 in
theorem f11_is : ∀ (x : sg11.X) (vs : List Value), denS GT [(14, sig14), (36, sig36), (37, sig37)] ⟨4, [], [], true, []⟩ ⟨12, [], 12⟩ (bodyOf Try.f11) sg11.out.Y (initSt (sg11.pre x) (sg11.heap x) 122 sg11.pin vs) (fun e s => finC GT [.cell 2 27, .tmp 3] [] sg11.pin [] [] e s sg11.out.dec) = F_ref08_Check x := fun x vs => by kernel_rfl
theorem f11_ok : SigOk Try.prog GT.gl 11 sig11 := gfn (Γ := GT) (nt := 122) (rs := [.cell 2 27, .tmp 3]) GT_ok (sigs_cons f14_ok (by kernel_rfl) (sigs_cons f36_ok (by kernel_rfl) (sigs_cons f37_ok (by kernel_rfl) sigs_nil))) Try.func11 (by kernel_rfl) (by kernel_rfl) (by kernel_rfl) (by decide) (by decide) f11_is
@[reducible] noncomputable def sg12 : SigD := ⟨[], [], [], ⟨[.data .bool], [], []⟩⟩
@[reducible] noncomputable def sig12 : Sig := gsig sg12 F_law08_lives
set_option maxRecDepth 100000 in
theorem f12_is : ∀ (x : sg12.X) (vs : List Value), denS GT [(10, sig10), (13, sig13)] ⟨4, [], [], true, []⟩ ⟨1, [], 1⟩ (bodyOf Try.f12) sg12.out.Y (initSt (sg12.pre x) (sg12.heap x) 28 sg12.pin vs) (fun e s => finC GT [.tmp 0] [] sg12.pin [] [] e s sg12.out.dec) = F_law08_lives x := fun x vs => by kernel_rfl
theorem f12_ok : SigOk Try.prog GT.gl 12 sig12 := gfn (Γ := GT) (nt := 28) (rs := [.tmp 0]) GT_ok (sigs_cons f10_ok (by kernel_rfl) (sigs_cons f13_ok (by kernel_rfl) sigs_nil)) Try.func12 (by kernel_rfl) (by kernel_rfl) (by kernel_rfl) (by decide) (by decide) f12_is
@[reducible] noncomputable def sg56 : SigD := ⟨[.data (.sl 68 tNode), .data (.sl 68 tNode)], [], [], ⟨[.data .bool], [], []⟩⟩
@[reducible] noncomputable def sig56 : Sig := gsig sg56 F_book_SamePattern
set_option maxRecDepth 100000 in
theorem f56_is : ∀ (x : sg56.X) (vs : List Value), denS GT [] ⟨4, [], [], false, []⟩ ⟨16, [], 16⟩ (bodyOf Try.f56) sg56.out.Y (initSt (sg56.pre x) (sg56.heap x) 26 sg56.pin vs) (fun e s => finC GT [.tmp 4] [] sg56.pin [] [] e s sg56.out.dec) = F_book_SamePattern x := fun x vs => by kernel_rfl
theorem f56_ok : SigOk Try.prog GT.gl 56 sig56 := gfn (Γ := GT) (nt := 26) (rs := [.tmp 4]) GT_ok sigs_nil Try.func56 (by kernel_rfl) (by kernel_rfl) (by kernel_rfl) (by decide) (by decide) f56_is
@[reducible] noncomputable def sg39 : SigD := ⟨[.lent 68 tNode, .data (.sl 68 tNode)], [], [], ⟨[.data .bool], [], []⟩⟩
@[reducible] noncomputable def sig39 : Sig := gsig sg39 F_book_KeptPattern
set_option maxRecDepth 100000 in
theorem f39_is : ∀ (x : sg39.X) (vs : List Value), denS GT [(56, sig56)] ⟨4, [], [], false, []⟩ ⟨16, [], 16⟩ (bodyOf Try.f39) sg39.out.Y (initSt (sg39.pre x) (sg39.heap x) 21 sg39.pin vs) (fun e s => finC GT [.tmp 4] [] sg39.pin [] [] e s sg39.out.dec) = F_book_KeptPattern x := fun x vs => by kernel_rfl
theorem f39_ok : SigOk Try.prog GT.gl 39 sig39 := gfn (Γ := GT) (nt := 21) (rs := [.tmp 4]) GT_ok (sigs_cons f56_ok (by kernel_rfl) sigs_nil) Try.func39 (by kernel_rfl) (by kernel_rfl) (by kernel_rfl) (by decide) (by decide) f39_is
@[reducible] noncomputable def sg15 : SigD := ⟨[.data tGrammarL, .data tGrammarL], [], [], ⟨[.data .bool], [], []⟩⟩
@[reducible] noncomputable def sig15 : Sig := gsig sg15 F_book_KeptGrammar
set_option maxRecDepth 100000 in
theorem f15_is : ∀ (x : sg15.X) (vs : List Value), denS GTL [(39, sig39)] ⟨4, [], [], true, []⟩ ⟨16, [], 16⟩ (bodyOf Try.f15) sg15.out.Y (initSt (sg15.pre x) (sg15.heap x) 61 sg15.pin vs) (fun e s => finC GTL [.tmp 4] [] sg15.pin [] [] e s sg15.out.dec) = F_book_KeptGrammar x := fun x vs => by kernel_rfl
theorem f15_ok : SigOk Try.prog GT.gl 15 sig15 := gfn (Γ := GTL) (nt := 61) (rs := [.tmp 4]) GTL_ok (sigs_cons f39_ok (by kernel_rfl) sigs_nil) Try.func15 (by kernel_rfl) (by kernel_rfl) (by kernel_rfl) (by decide) (by decide) f15_is
@[reducible] noncomputable def sg3 : SigD := ⟨[.data tGrammar, .data .str], [], [], ⟨[.data .bool], [], []⟩⟩
set_option maxRecDepth 100000 in
theorem f3_is : ∀ (x : sg3.X) (vs : List Value), denS GTL [(9, sig9), (10, sig10), (11, sig11), (12, sig12), (13, sig13), (14, sig14), (15, sig15)] ⟨4, [], [], true, []⟩ ⟨16, [], 16⟩ (bodyOf Try.f3) sg3.out.Y (initSt (sg3.pre x) (sg3.heap x) 45 sg3.pin vs) (fun e s => finC GTL [.tmp 4] [] sg3.pin [] [] e s sg3.out.dec) = F_law08_RulesChecks x := fun x vs => by kernel_rfl
theorem f3_h {x : sg3.X} {y : sg3.out.Y} (h : F_law08_RulesChecks x = some y) : FnH Try.prog GT.gl 3 (sg3.pre x) (sg3.heap x) (sg3.out.out y).1 (sg3.out.out y).2.1 (sg3.out.out y).2.2 := gfnH (Γ := GTL) (nt := 45) (rs := [.tmp 4]) GTL_ok (sigs_cons f9_ok (by kernel_rfl) (sigs_cons f10_ok (by kernel_rfl) (sigs_cons f11_ok (by kernel_rfl) (sigs_cons f12_ok (by kernel_rfl) (sigs_cons f13_ok (by kernel_rfl) (sigs_cons f14_ok (by kernel_rfl) (sigs_cons f15_ok (by kernel_rfl) sigs_nil))))))) Try.func3 (by kernel_rfl) (by kernel_rfl) (by kernel_rfl) (by decide) (by decide) f3_is h
end Go.Proofs
