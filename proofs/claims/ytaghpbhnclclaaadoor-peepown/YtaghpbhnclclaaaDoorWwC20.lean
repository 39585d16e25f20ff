/- Part of the proof of the law's row: YtaghpbhnclclaaaDoorWwC20. -/
import Derived.Test.YtaghpbhnclclaaaDoorWtC20
import Derived.Test.YtaghpbhnclclaaaDoorWpC20
import Derived.Test.YtaghpbhnclclaaaDoorWsC20
set_option linter.all false
set_option linter.unusedVariables false
set_option linter.unusedSimpArgs false
/-! The functions compute that. -/
namespace Go.Proofs
open Go Go.Abs
@[reducible] noncomputable def sg9 : SigD := ⟨[.data (.sl 37 tInstr)], [], [], ⟨[.own 2 tInstr], [(2, .row 37 tInstr false)], []⟩⟩
@[reducible] noncomputable def sig9 : Sig := gsig sg9 F_book_LendCode
set_option maxRecDepth 100000 in
theorem f9_is : ∀ (x : sg9.X) (vs : List Value), denS GT [] ⟨4, [], [], false, []⟩ ⟨4, [], 4⟩ (bodyOf Tryd.f9) sg9.out.Y (initSt (sg9.pre x) (sg9.heap x) 12 sg9.pin vs) (fun e s => finC GT [.tmp 2] [] sg9.pin [] [] e s sg9.out.dec) = F_book_LendCode x := fun x vs => by kernel_rfl
theorem f9_ok : SigOk Tryd.prog GT.gl 9 sig9 := gfn (Γ := GT) (nt := 12) (rs := [.tmp 2]) GT_ok sigs_nil Tryd.func9 (by kernel_rfl) (by kernel_rfl) (by kernel_rfl) (by decide) (by decide) f9_is
@[reducible] noncomputable def sg52 : SigD := ⟨[.data (.int .i64)], [], [], ⟨[.data .bool], [], []⟩⟩
@[reducible] noncomputable def sig52 : Sig := gsig sg52 F_instr_is
set_option maxRecDepth 100000 in
theorem f52_is : ∀ (x : sg52.X) (vs : List Value), denS GT [] ⟨4, [], [], false, []⟩ ⟨4, [], 4⟩ (bodyOf Tryd.f52) sg52.out.Y (initSt (sg52.pre x) (sg52.heap x) 9 sg52.pin vs) (fun e s => finC GT [.tmp 2] [] sg52.pin [] [] e s sg52.out.dec) = F_instr_is x := fun x vs => by kernel_rfl
theorem f52_ok : SigOk Tryd.prog GT.gl 52 sig52 := gfn (Γ := GT) (nt := 9) (rs := [.tmp 2]) GT_ok sigs_nil Tryd.func52 (by kernel_rfl) (by kernel_rfl) (by kernel_rfl) (by decide) (by decide) f52_is
@[reducible] noncomputable def sg54 : SigD := ⟨[.data (.int .i64), .data (.int .i64)], [], [], ⟨[.data .bool], [], []⟩⟩
@[reducible] noncomputable def sig54 : Sig := gsig sg54 F_instr_has
set_option maxRecDepth 100000 in
theorem f54_is : ∀ (x : sg54.X) (vs : List Value), denS GT [] ⟨4, [], [], false, []⟩ ⟨16, [], 16⟩ (bodyOf Tryd.f54) sg54.out.Y (initSt (sg54.pre x) (sg54.heap x) 11 sg54.pin vs) (fun e s => finC GT [.tmp 4] [] sg54.pin [] [] e s sg54.out.dec) = F_instr_has x := fun x vs => by kernel_rfl
theorem f54_ok : SigOk Tryd.prog GT.gl 54 sig54 := gfn (Γ := GT) (nt := 11) (rs := [.tmp 4]) GT_ok sigs_nil Tryd.func54 (by kernel_rfl) (by kernel_rfl) (by kernel_rfl) (by decide) (by decide) f54_is
@[reducible] noncomputable def sg59 : SigD := ⟨[.data tInstr], [], [], ⟨[.data tInstr], [], []⟩⟩
@[reducible] noncomputable def sig59 : Sig := gsig sg59 F_instr_plain
set_option maxRecDepth 100000 in
theorem f59_is : ∀ (x : sg59.X) (vs : List Value), denS GT [(54, sig54)] ⟨4, [], [], false, []⟩ ⟨4, [], 4⟩ (bodyOf Tryd.f59) sg59.out.Y (initSt (sg59.pre x) (sg59.heap x) 38 sg59.pin vs) (fun e s => finC GT [.cell 2 37] [] sg59.pin [] [] e s sg59.out.dec) = F_instr_plain x := fun x vs => by kernel_rfl
theorem f59_ok : SigOk Tryd.prog GT.gl 59 sig59 := gfn (Γ := GT) (nt := 38) (rs := [.cell 2 37]) GT_ok (sigs_cons f54_ok (by kernel_rfl) sigs_nil) Tryd.func59 (by kernel_rfl) (by kernel_rfl) (by kernel_rfl) (by decide) (by decide) f59_is
@[reducible] noncomputable def sg77 : SigD := ⟨[.data (.int .i64)], [], [], ⟨[.data (.int .i64)], [], []⟩⟩
@[reducible] noncomputable def sig77 : Sig := gsig sg77 F_tree_Arity
set_option maxRecDepth 100000 in
theorem f77_is : ∀ (x : sg77.X) (vs : List Value), denS GT [] ⟨4, [], [], false, []⟩ ⟨4, [], 4⟩ (bodyOf Tryd.f77) sg77.out.Y (initSt (sg77.pre x) (sg77.heap x) 28 sg77.pin vs) (fun e s => finC GT [.tmp 2] [] sg77.pin [] [] e s sg77.out.dec) = F_tree_Arity x := fun x vs => by kernel_rfl
theorem f77_ok : SigOk Tryd.prog GT.gl 77 sig77 := gfn (Γ := GT) (nt := 28) (rs := [.tmp 2]) GT_ok sigs_nil Tryd.func77 (by kernel_rfl) (by kernel_rfl) (by kernel_rfl) (by decide) (by decide) f77_is
@[reducible] noncomputable def sg87 : SigD := ⟨[.data (.int .i64)], [], [], ⟨[.data .bool], [], []⟩⟩
@[reducible] noncomputable def sig87 : Sig := gsig sg87 F_tree_counted
set_option maxRecDepth 100000 in
theorem f87_is : ∀ (x : sg87.X) (vs : List Value), denS GT [] ⟨4, [], [], false, []⟩ ⟨4, [], 4⟩ (bodyOf Tryd.f87) sg87.out.Y (initSt (sg87.pre x) (sg87.heap x) 13 sg87.pin vs) (fun e s => finC GT [.tmp 2] [] sg87.pin [] [] e s sg87.out.dec) = F_tree_counted x := fun x vs => by kernel_rfl
theorem f87_ok : SigOk Tryd.prog GT.gl 87 sig87 := gfn (Γ := GT) (nt := 13) (rs := [.tmp 2]) GT_ok sigs_nil Tryd.func87 (by kernel_rfl) (by kernel_rfl) (by kernel_rfl) (by decide) (by decide) f87_is
@[reducible] noncomputable def sg93 : SigD := ⟨[.data (.int .u8)], [], [], ⟨[.data .bool], [], []⟩⟩
@[reducible] noncomputable def sig93 : Sig := gsig sg93 F_tree_isHead
set_option maxRecDepth 100000 in
theorem f93_is : ∀ (x : sg93.X) (vs : List Value), denS GT [] ⟨4, [], [], false, []⟩ ⟨4, [], 4⟩ (bodyOf Tryd.f93) sg93.out.Y (initSt (sg93.pre x) (sg93.heap x) 19 sg93.pin vs) (fun e s => finC GT [.tmp 2] [] sg93.pin [] [] e s sg93.out.dec) = F_tree_isHead x := fun x vs => by kernel_rfl
theorem f93_ok : SigOk Tryd.prog GT.gl 93 sig93 := gfn (Γ := GT) (nt := 19) (rs := [.tmp 2]) GT_ok sigs_nil Tryd.func93 (by kernel_rfl) (by kernel_rfl) (by kernel_rfl) (by decide) (by decide) f93_is
@[reducible] noncomputable def sg88 : SigD := ⟨[.data .str], [], [], ⟨[.data .bool], [], []⟩⟩
@[reducible] noncomputable def sig88 : Sig := gsig sg88 F_tree_isName
set_option maxRecDepth 100000 in
theorem f88_is : ∀ (x : sg88.X) (vs : List Value), denS GT [(93, sig93)] ⟨4, [], [], false, []⟩ ⟨4, [], 4⟩ (bodyOf Tryd.f88) sg88.out.Y (initSt (sg88.pre x) (sg88.heap x) 40 sg88.pin vs) (fun e s => finC GT [.tmp 2] [] sg88.pin [] [] e s sg88.out.dec) = F_tree_isName x := fun x vs => by kernel_rfl
theorem f88_ok : SigOk Tryd.prog GT.gl 88 sig88 := gfn (Γ := GT) (nt := 40) (rs := [.tmp 2]) GT_ok (sigs_cons f93_ok (by kernel_rfl) sigs_nil) Tryd.func88 (by kernel_rfl) (by kernel_rfl) (by kernel_rfl) (by decide) (by decide) f88_is
@[reducible] noncomputable def sg89 : SigD := ⟨[.data .str], [], [], ⟨[.data .bool], [], []⟩⟩
@[reducible] noncomputable def sig89 : Sig := gsig sg89 F_tree_isTemplate
set_option maxRecDepth 100000 in
theorem f89_is : ∀ (x : sg89.X) (vs : List Value), denS GT [] ⟨4, [], [], false, []⟩ ⟨4, [], 4⟩ (bodyOf Tryd.f89) sg89.out.Y (initSt (sg89.pre x) (sg89.heap x) 41 sg89.pin vs) (fun e s => finC GT [.tmp 2] [] sg89.pin [] [] e s sg89.out.dec) = F_tree_isTemplate x := fun x vs => by kernel_rfl
theorem f89_ok : SigOk Tryd.prog GT.gl 89 sig89 := gfn (Γ := GT) (nt := 41) (rs := [.tmp 2]) GT_ok sigs_nil Tryd.func89 (by kernel_rfl) (by kernel_rfl) (by kernel_rfl) (by decide) (by decide) f89_is
@[reducible] noncomputable def sg78 : SigD := ⟨[.data tNode], [], [], ⟨[.data .bool], [], []⟩⟩
@[reducible] noncomputable def sig78 : Sig := gsig sg78 F_tree_fields
set_option maxRecDepth 100000 in
theorem f78_is : ∀ (x : sg78.X) (vs : List Value), denS GT [(87, sig87), (88, sig88), (89, sig89)] ⟨4, [], [], false, []⟩ ⟨4, [], 4⟩ (bodyOf Tryd.f78) sg78.out.Y (initSt (sg78.pre x) (sg78.heap x) 67 sg78.pin vs) (fun e s => finC GT [.tmp 2] [] sg78.pin [] [] e s sg78.out.dec) = F_tree_fields x := fun x vs => by kernel_rfl
theorem f78_ok : SigOk Tryd.prog GT.gl 78 sig78 := gfn (Γ := GT) (nt := 67) (rs := [.tmp 2]) GT_ok (sigs_cons f87_ok (by kernel_rfl) (sigs_cons f88_ok (by kernel_rfl) (sigs_cons f89_ok (by kernel_rfl) sigs_nil))) Tryd.func78 (by kernel_rfl) (by kernel_rfl) (by kernel_rfl) (by decide) (by decide) f78_is
@[reducible] noncomputable def sg91 : SigD := ⟨[.data (.int .i64), .data tshape], [], [], ⟨[], [], []⟩⟩
@[reducible] noncomputable def sig91 : Sig := gsig sg91 F_tree_Check_1
set_option maxRecDepth 100000 in
theorem f91_is : ∀ (x : sg91.X) (vs : List Value), denS GT [] ⟨4, [], [], false, []⟩ ⟨0, [], 0⟩ (bodyOf Tryd.f91) sg91.out.Y (initSt (sg91.pre x) (sg91.heap x) 4 sg91.pin vs) (fun e s => finC GT [] [] sg91.pin [] [] e s sg91.out.dec) = F_tree_Check_1 x := fun x vs => by kernel_rfl
theorem f91_ok : SigOk Tryd.prog GT.gl 91 sig91 := gfn (Γ := GT) (nt := 4) (rs := []) GT_ok sigs_nil Tryd.func91 (by kernel_rfl) (by kernel_rfl) (by kernel_rfl) (by decide) (by decide) f91_is
@[reducible] noncomputable def sg90_chk : SigD := ⟨[.data (.sl 63 tNode), .same (.fn 91 [])], [], [], ⟨[.data (.int .i64), .data (.int .i64)], [], []⟩⟩
@[reducible] noncomputable def sig90_chk : Sig := gsig sg90_chk F_tree_each_chk
set_option maxRecDepth 100000 in
theorem f90_chk_is : ∀ (x : sg90_chk.X) (vs : List Value), denS GT [(77, sig77), (78, sig78), (91, sig91)] ⟨4, [], [], false, []⟩ ⟨48, [], 48⟩ (bodyOf Tryd.f90) sg90_chk.out.Y (initSt (sg90_chk.pre x) (sg90_chk.heap x) 108 sg90_chk.pin vs) (fun e s => finC GT [.tmp 4, .tmp 5] [] sg90_chk.pin [] [] e s sg90_chk.out.dec) = F_tree_each_chk x := fun x vs => by kernel_rfl
theorem f90_chk_ok : SigOk Tryd.prog GT.gl 90 sig90_chk := gfn (Γ := GT) (nt := 108) (rs := [.tmp 4, .tmp 5]) GT_ok (sigs_cons f77_ok (by kernel_rfl) (sigs_cons f78_ok (by kernel_rfl) (sigs_cons f91_ok (by kernel_rfl) sigs_nil))) Tryd.func90 (by kernel_rfl) (by kernel_rfl) (by kernel_rfl) (by decide) (by decide) f90_chk_is
@[reducible] noncomputable def sg79 : SigD := ⟨[.data (.sl 63 tNode)], [], [], ⟨[.data (.int .i64), .data (.int .i64)], [], []⟩⟩
@[reducible] noncomputable def sig79 : Sig := gsig sg79 F_tree_Check
set_option maxRecDepth 100000 in
theorem f79_is : ∀ (x : sg79.X) (vs : List Value), denS GT [(90, sig90_chk), (91, sig91)] ⟨4, [], [], false, []⟩ ⟨12, [], 12⟩ (bodyOf Tryd.f79) sg79.out.Y (initSt (sg79.pre x) (sg79.heap x) 11 sg79.pin vs) (fun e s => finC GT [.tmp 2, .tmp 3] [] sg79.pin [] [] e s sg79.out.dec) = F_tree_Check x := fun x vs => by kernel_rfl
theorem f79_ok : SigOk Tryd.prog GT.gl 79 sig79 := gfn (Γ := GT) (nt := 11) (rs := [.tmp 2, .tmp 3]) GT_ok (sigs_cons f90_chk_ok (by kernel_rfl) (sigs_cons f91_ok (by kernel_rfl) sigs_nil)) Tryd.func79 (by kernel_rfl) (by kernel_rfl) (by kernel_rfl) (by decide) (by decide) f79_is
@[reducible] noncomputable def sg80 : SigD := ⟨[.same (.full 1000 tNode)], [(1000, .row 63 tNode false)], [], ⟨[.full 2 tNode, .data (.int .i64)], [(2, .row 63 tNode false)], []⟩⟩
@[reducible] noncomputable def sig80 : Sig := gsig sg80 F_tree_checked
set_option maxRecDepth 100000 in
theorem f80_is : ∀ (x : sg80.X) (vs : List Value), denS GT [(79, sig79)] ⟨4, [], [], false, []⟩ ⟨12, [], 12⟩ (bodyOf Tryd.f80) sg80.out.Y (initSt (sg80.pre x) (sg80.heap x) 15 sg80.pin vs) (fun e s => finC GT [.tmp 2, .tmp 3] [] sg80.pin [] [] e s sg80.out.dec) = F_tree_checked x := fun x vs => by kernel_rfl
theorem f80_ok : SigOk Tryd.prog GT.gl 80 sig80 := gfn (Γ := GT) (nt := 15) (rs := [.tmp 2, .tmp 3]) GT_ok (sigs_cons f79_ok (by kernel_rfl) sigs_nil) Tryd.func80 (by kernel_rfl) (by kernel_rfl) (by kernel_rfl) (by decide) (by decide) f80_is
@[reducible] noncomputable def sg65 : SigD := ⟨[.data tNode, .data (.sl 65 (.sl 63 tNode))], [], [], ⟨[.full 4 tNode, .data (.int .i64)], [(4, .row 63 tNode false)], []⟩⟩
@[reducible] noncomputable def sig65 : Sig := gsig sg65 F_tree_Join
set_option maxRecDepth 100000 in
theorem f65_is : ∀ (x : sg65.X) (vs : List Value), denS GT [(77, sig77), (78, sig78), (79, sig79), (80, sig80)] ⟨4, [], [], false, []⟩ ⟨48, [], 48⟩ (bodyOf Tryd.f65) sg65.out.Y (initSt (sg65.pre x) (sg65.heap x) 52 sg65.pin vs) (fun e s => finC GT [.tmp 4, .tmp 5] [] sg65.pin [] [] e s sg65.out.dec) = F_tree_Join x := fun x vs => by kernel_rfl
theorem f65_ok : SigOk Tryd.prog GT.gl 65 sig65 := gfn (Γ := GT) (nt := 52) (rs := [.tmp 4, .tmp 5]) GT_ok (sigs_cons f77_ok (by kernel_rfl) (sigs_cons f78_ok (by kernel_rfl) (sigs_cons f79_ok (by kernel_rfl) (sigs_cons f80_ok (by kernel_rfl) sigs_nil)))) Tryd.func65 (by kernel_rfl) (by kernel_rfl) (by kernel_rfl) (by decide) (by decide) f65_is
@[reducible] noncomputable def sg60 : SigD := ⟨[.data (.int .i64), .data (.int .i64), .data .str], [], [], ⟨[.data .bool], [], []⟩⟩
@[reducible] noncomputable def sig60 : Sig := gsig sg60 F_instr_capture
set_option maxRecDepth 100000 in
theorem f60_is : ∀ (x : sg60.X) (vs : List Value), denS GT [(65, sig65)] ⟨4, [], [], false, []⟩ ⟨64, [], 64⟩ (bodyOf Tryd.f60) sg60.out.Y (initSt (sg60.pre x) (sg60.heap x) 34 sg60.pin vs) (fun e s => finC GT [.tmp 6] [] sg60.pin [] [] e s sg60.out.dec) = F_instr_capture x := fun x vs => by kernel_rfl
theorem f60_ok : SigOk Tryd.prog GT.gl 60 sig60 := gfn (Γ := GT) (nt := 34) (rs := [.tmp 6]) GT_ok (sigs_cons f65_ok (by kernel_rfl) sigs_nil) Tryd.func60 (by kernel_rfl) (by kernel_rfl) (by kernel_rfl) (by decide) (by decide) f60_is
@[reducible] noncomputable def sg53 : SigD := ⟨[.data tInstr], [], [], ⟨[.data .bool], [], []⟩⟩
@[reducible] noncomputable def sig53 : Sig := gsig sg53 F_instr_fits
set_option maxRecDepth 100000 in
theorem f53_is : ∀ (x : sg53.X) (vs : List Value), denS GT [(59, sig59), (60, sig60)] ⟨4, [], [], false, []⟩ ⟨4, [], 4⟩ (bodyOf Tryd.f53) sg53.out.Y (initSt (sg53.pre x) (sg53.heap x) 76 sg53.pin vs) (fun e s => finC GT [.tmp 2] [] sg53.pin [] [] e s sg53.out.dec) = F_instr_fits x := fun x vs => by kernel_rfl
theorem f53_ok : SigOk Tryd.prog GT.gl 53 sig53 := gfn (Γ := GT) (nt := 76) (rs := [.tmp 2]) GT_ok (sigs_cons f59_ok (by kernel_rfl) (sigs_cons f60_ok (by kernel_rfl) sigs_nil)) Tryd.func53 (by kernel_rfl) (by kernel_rfl) (by kernel_rfl) (by decide) (by decide) f53_is
@[reducible] noncomputable def sg37 : SigD := ⟨[.data (.sl 37 tInstr)], [], [], ⟨[.data (.int .i64), .data (.int .i64)], [], []⟩⟩
@[reducible] noncomputable def sig37 : Sig := gsig sg37 F_instr_Check
set_option maxRecDepth 100000 in
theorem f37_is : ∀ (x : sg37.X) (vs : List Value), denS GT [(52, sig52), (53, sig53), (54, sig54)] ⟨4, [], [], false, []⟩ ⟨12, [], 12⟩ (bodyOf Tryd.f37) sg37.out.Y (initSt (sg37.pre x) (sg37.heap x) 63 sg37.pin vs) (fun e s => finC GT [.tmp 2, .tmp 3] [] sg37.pin [] [] e s sg37.out.dec) = F_instr_Check x := fun x vs => by kernel_rfl
theorem f37_ok : SigOk Tryd.prog GT.gl 37 sig37 := gfn (Γ := GT) (nt := 63) (rs := [.tmp 2, .tmp 3]) GT_ok (sigs_cons f52_ok (by kernel_rfl) (sigs_cons f53_ok (by kernel_rfl) (sigs_cons f54_ok (by kernel_rfl) sigs_nil))) Tryd.func37 (by kernel_rfl) (by kernel_rfl) (by kernel_rfl) (by decide) (by decide) f37_is
@[reducible] noncomputable def sg55 : SigD := ⟨[.same (.full 1000 (.int .i64))], [(1000, .row 3 (.int .i64) false)], [0], ⟨[], [(1000, .row 3 (.int .i64) false)], [(0, .full 1000 (.int .i64))]⟩⟩
@[reducible] noncomputable def sig55 : Sig := gsig sg55 F_slices_Sort_int_int
theorem f55_ok : SigOk Tryd.prog GT.gl 55 sig55 := sort_sig sort_lays (by kernel_rfl)
@[reducible] noncomputable def sg38 : SigD := ⟨[.data (.sl 37 tInstr), .data (.int .i64)], [], [], ⟨[.full 4 (.int .i64)], [(4, .row 3 (.int .i64) false)], []⟩⟩
@[reducible] noncomputable def sig38 : Sig := gsig sg38 F_instr_goes
set_option maxRecDepth 100000 in
theorem f38_is : ∀ (x : sg38.X) (vs : List Value), denS GT [(54, sig54), (55, sig55)] ⟨4, [], [], true, []⟩ ⟨16, [], 16⟩ (bodyOf Tryd.f38) sg38.out.Y (initSt (sg38.pre x) (sg38.heap x) 43 sg38.pin vs) (fun e s => finC GT [.tmp 4] [] sg38.pin [] [] e s sg38.out.dec) = F_instr_goes x := fun x vs => by kernel_rfl
theorem f38_ok : SigOk Tryd.prog GT.gl 38 sig38 := gfn (Γ := GT) (nt := 43) (rs := [.tmp 4]) GT_ok (sigs_cons f54_ok (by kernel_rfl) (sigs_cons f55_ok (by kernel_rfl) sigs_nil)) Tryd.func38 (by kernel_rfl) (by kernel_rfl) (by kernel_rfl) (by decide) (by decide) f38_is
@[reducible] noncomputable def sg21 : SigD := ⟨[.data (.sl 37 tInstr)], [], [], ⟨[.full 2 .bool, .data (.int .i64)], [(2, .row 4 .bool false)], []⟩⟩
@[reducible] noncomputable def sig21 : Sig := gsig sg21 F_instr_Live
set_option maxRecDepth 100000 in
theorem f21_is : ∀ (x : sg21.X) (vs : List Value), denS GT [(37, sig37), (38, sig38)] ⟨4, [7], [], true, []⟩ ⟨12, [], 12⟩ (bodyOf Tryd.f21) sg21.out.Y (initSt (sg21.pre x) (sg21.heap x) 49 sg21.pin vs) (fun e s => finC GT [.tmp 2, .tmp 3] [] sg21.pin [] [] e s sg21.out.dec) = F_instr_Live x := fun x vs => by kernel_rfl
theorem f21_ok : SigOk Tryd.prog GT.gl 21 sig21 := gfn (Γ := GT) (nt := 49) (rs := [.tmp 2, .tmp 3]) GT_ok (sigs_cons f37_ok (by kernel_rfl) (sigs_cons f38_ok (by kernel_rfl) sigs_nil)) Tryd.func21 (by kernel_rfl) (by kernel_rfl) (by kernel_rfl) (by decide) (by decide) f21_is
@[reducible] noncomputable def sg49 : SigD := ⟨[.data (.int .i64)], [], [], ⟨[.data .bool], [], []⟩⟩
@[reducible] noncomputable def sig49 : Sig := gsig sg49 F_peep_goes
set_option maxRecDepth 100000 in
theorem f49_is : ∀ (x : sg49.X) (vs : List Value), denS GT [] ⟨4, [], [], true, []⟩ ⟨4, [], 4⟩ (bodyOf Tryd.f49) sg49.out.Y (initSt (sg49.pre x) (sg49.heap x) 14 sg49.pin vs) (fun e s => finC GT [.tmp 2] [] sg49.pin [] [] e s sg49.out.dec) = F_peep_goes x := fun x vs => by kernel_rfl
theorem f49_ok : SigOk Tryd.prog GT.gl 49 sig49 := gfn (Γ := GT) (nt := 14) (rs := [.tmp 2]) GT_ok sigs_nil Tryd.func49 (by kernel_rfl) (by kernel_rfl) (by kernel_rfl) (by decide) (by decide) f49_is
@[reducible] noncomputable def sg46 : SigD := ⟨[.data (.sl 37 tInstr), .data (.sl 4 .bool)], [], [], ⟨[.full 4 tInstr], [(4, .row 37 tInstr false)], []⟩⟩
@[reducible] noncomputable def sig46 : Sig := gsig sg46 F_peep_without
set_option maxRecDepth 100000 in
theorem f46_is : ∀ (x : sg46.X) (vs : List Value), denS GT [(49, sig49)] ⟨4, [], [], true, []⟩ ⟨16, [], 16⟩ (bodyOf Tryd.f46) sg46.out.Y (initSt (sg46.pre x) (sg46.heap x) 79 sg46.pin vs) (fun e s => finC GT [.tmp 4] [] sg46.pin [] [] e s sg46.out.dec) = F_peep_without x := fun x vs => by kernel_rfl
theorem f46_ok : SigOk Tryd.prog GT.gl 46 sig46 := gfn (Γ := GT) (nt := 79) (rs := [.tmp 4]) GT_ok (sigs_cons f49_ok (by kernel_rfl) sigs_nil) Tryd.func46 (by kernel_rfl) (by kernel_rfl) (by kernel_rfl) (by decide) (by decide) f46_is
@[reducible] noncomputable def sg29 : SigD := ⟨[.data (.sl 37 tInstr)], [], [], ⟨[.full 2 tInstr], [(2, .row 37 tInstr false)], []⟩⟩
@[reducible] noncomputable def sig29 : Sig := gsig sg29 F_peep_dead
set_option maxRecDepth 100000 in
theorem f29_is : ∀ (x : sg29.X) (vs : List Value), denS GT [(21, sig21), (46, sig46)] ⟨4, [], [], true, []⟩ ⟨4, [], 4⟩ (bodyOf Tryd.f29) sg29.out.Y (initSt (sg29.pre x) (sg29.heap x) 32 sg29.pin vs) (fun e s => finC GT [.tmp 2] [] sg29.pin [] [] e s sg29.out.dec) = F_peep_dead x := fun x vs => by kernel_rfl
theorem f29_ok : SigOk Tryd.prog GT.gl 29 sig29 := gfn (Γ := GT) (nt := 32) (rs := [.tmp 2]) GT_ok (sigs_cons f21_ok (by kernel_rfl) (sigs_cons f46_ok (by kernel_rfl) sigs_nil)) Tryd.func29 (by kernel_rfl) (by kernel_rfl) (by kernel_rfl) (by decide) (by decide) f29_is
@[reducible] noncomputable def sg28_dead : SigD := ⟨[.data (.sl 37 tInstr), .same (.fn 29 [])], [], [], ⟨[.full 4 tInstr, .data (.int .i64)], [(4, .row 37 tInstr false)], []⟩⟩
@[reducible] noncomputable def sig28_dead : Sig := gsig sg28_dead F_peep_on_dead
set_option maxRecDepth 100000 in
theorem f28_dead_is : ∀ (x : sg28_dead.X) (vs : List Value), denS GT [(37, sig37), (29, sig29)] ⟨4, [], [], true, []⟩ ⟨48, [], 48⟩ (bodyOf Tryd.f28) sg28_dead.out.Y (initSt (sg28_dead.pre x) (sg28_dead.heap x) 19 sg28_dead.pin vs) (fun e s => finC GT [.tmp 4, .tmp 5] [] sg28_dead.pin [] [] e s sg28_dead.out.dec) = F_peep_on_dead x := fun x vs => by kernel_rfl
theorem f28_dead_ok : SigOk Tryd.prog GT.gl 28 sig28_dead := gfn (Γ := GT) (nt := 19) (rs := [.tmp 4, .tmp 5]) GT_ok (sigs_cons f37_ok (by kernel_rfl) (sigs_cons f29_ok (by kernel_rfl) sigs_nil)) Tryd.func28 (by kernel_rfl) (by kernel_rfl) (by kernel_rfl) (by decide) (by decide) f28_dead_is
@[reducible] noncomputable def sg10 : SigD := ⟨[.data (.sl 37 tInstr)], [], [], ⟨[.full 2 tInstr, .data (.int .i64)], [(2, .row 37 tInstr false)], []⟩⟩
@[reducible] noncomputable def sig10 : Sig := gsig sg10 F_peep_Dead
set_option maxRecDepth 100000 in
theorem f10_is : ∀ (x : sg10.X) (vs : List Value), denS GT [(28, sig28_dead), (29, sig29)] ⟨4, [], [], true, []⟩ ⟨12, [], 12⟩ (bodyOf Tryd.f10) sg10.out.Y (initSt (sg10.pre x) (sg10.heap x) 8 sg10.pin vs) (fun e s => finC GT [.tmp 2, .tmp 3] [] sg10.pin [] [] e s sg10.out.dec) = F_peep_Dead x := fun x vs => by kernel_rfl
theorem f10_ok : SigOk Tryd.prog GT.gl 10 sig10 := gfn (Γ := GT) (nt := 8) (rs := [.tmp 2, .tmp 3]) GT_ok (sigs_cons f28_dead_ok (by kernel_rfl) (sigs_cons f29_ok (by kernel_rfl) sigs_nil)) Tryd.func10 (by kernel_rfl) (by kernel_rfl) (by kernel_rfl) (by decide) (by decide) f10_is
@[reducible] noncomputable def sg43 : SigD := ⟨[.data (.int .i64)], [], [], ⟨[.data (.int .i64), .data .str, .data .bool], [], []⟩⟩
@[reducible] noncomputable def sig43 : Sig := gsig sg43 F_ref16_Uses
set_option maxRecDepth 100000 in
theorem f43_is : ∀ (x : sg43.X) (vs : List Value), denS GT [] ⟨4, [], [], false, []⟩ ⟨28, [], 28⟩ (bodyOf Tryd.f43) sg43.out.Y (initSt (sg43.pre x) (sg43.heap x) 46 sg43.pin vs) (fun e s => finC GT [.tmp 2, .tmp 3, .tmp 4] [] sg43.pin [] [] e s sg43.out.dec) = F_ref16_Uses x := fun x vs => by kernel_rfl
theorem f43_ok : SigOk Tryd.prog GT.gl 43 sig43 := gfn (Γ := GT) (nt := 46) (rs := [.tmp 2, .tmp 3, .tmp 4]) GT_ok sigs_nil Tryd.func43 (by kernel_rfl) (by kernel_rfl) (by kernel_rfl) (by decide) (by decide) f43_is
@[reducible] noncomputable def sg45 : SigD := ⟨[.data (.int .i64), .data (.int .i64)], [], [], ⟨[.data .bool], [], []⟩⟩
@[reducible] noncomputable def sig45 : Sig := gsig sg45 F_ref16_has
set_option maxRecDepth 100000 in
theorem f45_is : ∀ (x : sg45.X) (vs : List Value), denS GT [] ⟨4, [], [], false, []⟩ ⟨16, [], 16⟩ (bodyOf Tryd.f45) sg45.out.Y (initSt (sg45.pre x) (sg45.heap x) 10 sg45.pin vs) (fun e s => finC GT [.tmp 4] [] sg45.pin [] [] e s sg45.out.dec) = F_ref16_has x := fun x vs => by kernel_rfl
theorem f45_ok : SigOk Tryd.prog GT.gl 45 sig45 := gfn (Γ := GT) (nt := 10) (rs := [.tmp 4]) GT_ok sigs_nil Tryd.func45 (by kernel_rfl) (by kernel_rfl) (by kernel_rfl) (by decide) (by decide) f45_is
@[reducible] noncomputable def sg25 : SigD := ⟨[.data (.int .i64)], [], [], ⟨[.data .bool], [], []⟩⟩
@[reducible] noncomputable def sig25 : Sig := gsig sg25 F_ref16_Targets
set_option maxRecDepth 100000 in
theorem f25_is : ∀ (x : sg25.X) (vs : List Value), denS GT [(43, sig43), (45, sig45)] ⟨4, [], [], false, []⟩ ⟨4, [], 4⟩ (bodyOf Tryd.f25) sg25.out.Y (initSt (sg25.pre x) (sg25.heap x) 14 sg25.pin vs) (fun e s => finC GT [.tmp 2] [] sg25.pin [] [] e s sg25.out.dec) = F_ref16_Targets x := fun x vs => by kernel_rfl
theorem f25_ok : SigOk Tryd.prog GT.gl 25 sig25 := gfn (Γ := GT) (nt := 14) (rs := [.tmp 2]) GT_ok (sigs_cons f43_ok (by kernel_rfl) (sigs_cons f45_ok (by kernel_rfl) sigs_nil)) Tryd.func25 (by kernel_rfl) (by kernel_rfl) (by kernel_rfl) (by decide) (by decide) f25_is
@[reducible] noncomputable def sg63 : SigD := ⟨[.data .str], [], [], ⟨[.data .bool], [], []⟩⟩
@[reducible] noncomputable def sig63 : Sig := gsig sg63 F_ref04_Name
set_option maxRecDepth 100000 in
theorem f63_is : ∀ (x : sg63.X) (vs : List Value), denS GT [] ⟨4, [], [], false, []⟩ ⟨4, [], 4⟩ (bodyOf Tryd.f63) sg63.out.Y (initSt (sg63.pre x) (sg63.heap x) 59 sg63.pin vs) (fun e s => finC GT [.tmp 2] [] sg63.pin [] [] e s sg63.out.dec) = F_ref04_Name x := fun x vs => by kernel_rfl
theorem f63_ok : SigOk Tryd.prog GT.gl 63 sig63 := gfn (Γ := GT) (nt := 59) (rs := [.tmp 2]) GT_ok sigs_nil Tryd.func63 (by kernel_rfl) (by kernel_rfl) (by kernel_rfl) (by decide) (by decide) f63_is
@[reducible] noncomputable def sg64 : SigD := ⟨[.data .str], [], [], ⟨[.data .bool], [], []⟩⟩
@[reducible] noncomputable def sig64 : Sig := gsig sg64 F_ref04_Template
set_option maxRecDepth 100000 in
theorem f64_is : ∀ (x : sg64.X) (vs : List Value), denS GT [] ⟨4, [], [], false, []⟩ ⟨4, [], 4⟩ (bodyOf Tryd.f64) sg64.out.Y (initSt (sg64.pre x) (sg64.heap x) 41 sg64.pin vs) (fun e s => finC GT [.tmp 2] [] sg64.pin [] [] e s sg64.out.dec) = F_ref04_Template x := fun x vs => by kernel_rfl
theorem f64_ok : SigOk Tryd.prog GT.gl 64 sig64 := gfn (Γ := GT) (nt := 41) (rs := [.tmp 2]) GT_ok sigs_nil Tryd.func64 (by kernel_rfl) (by kernel_rfl) (by kernel_rfl) (by decide) (by decide) f64_is
@[reducible] noncomputable def sg57 : SigD := ⟨[.data tInstr], [], [], ⟨[.data .bool], [], []⟩⟩
@[reducible] noncomputable def sig57 : Sig := gsig sg57 F_ref16_catches
set_option maxRecDepth 100000 in
theorem f57_is : ∀ (x : sg57.X) (vs : List Value), denS GT [(63, sig63), (64, sig64)] ⟨4, [], [], false, []⟩ ⟨4, [], 4⟩ (bodyOf Tryd.f57) sg57.out.Y (initSt (sg57.pre x) (sg57.heap x) 56 sg57.pin vs) (fun e s => finC GT [.tmp 2] [] sg57.pin [] [] e s sg57.out.dec) = F_ref16_catches x := fun x vs => by kernel_rfl
theorem f57_ok : SigOk Tryd.prog GT.gl 57 sig57 := gfn (Γ := GT) (nt := 56) (rs := [.tmp 2]) GT_ok (sigs_cons f63_ok (by kernel_rfl) (sigs_cons f64_ok (by kernel_rfl) sigs_nil)) Tryd.func57 (by kernel_rfl) (by kernel_rfl) (by kernel_rfl) (by decide) (by decide) f57_is
@[reducible] noncomputable def sg44 : SigD := ⟨[.data tInstr], [], [], ⟨[.data .bool], [], []⟩⟩
@[reducible] noncomputable def sig44 : Sig := gsig sg44 F_ref16_Args
set_option maxRecDepth 100000 in
theorem f44_is : ∀ (x : sg44.X) (vs : List Value), denS GT [(43, sig43), (45, sig45), (57, sig57)] ⟨4, [], [], false, []⟩ ⟨4, [], 4⟩ (bodyOf Tryd.f44) sg44.out.Y (initSt (sg44.pre x) (sg44.heap x) 92 sg44.pin vs) (fun e s => finC GT [.tmp 2] [] sg44.pin [] [] e s sg44.out.dec) = F_ref16_Args x := fun x vs => by kernel_rfl
theorem f44_ok : SigOk Tryd.prog GT.gl 44 sig44 := gfn (Γ := GT) (nt := 92) (rs := [.tmp 2]) GT_ok (sigs_cons f43_ok (by kernel_rfl) (sigs_cons f45_ok (by kernel_rfl) (sigs_cons f57_ok (by kernel_rfl) sigs_nil))) Tryd.func44 (by kernel_rfl) (by kernel_rfl) (by kernel_rfl) (by decide) (by decide) f44_is
@[reducible] noncomputable def sg24 : SigD := ⟨[.data (.sl 37 tInstr)], [], [], ⟨[.data (.int .i64), .data (.int .i64)], [], []⟩⟩
@[reducible] noncomputable def sig24 : Sig := gsig sg24 F_ref16_Check
set_option maxRecDepth 100000 in
theorem f24_is : ∀ (x : sg24.X) (vs : List Value), denS GT [(25, sig25), (43, sig43), (44, sig44)] ⟨4, [], [], false, []⟩ ⟨12, [], 12⟩ (bodyOf Tryd.f24) sg24.out.Y (initSt (sg24.pre x) (sg24.heap x) 88 sg24.pin vs) (fun e s => finC GT [.tmp 2, .tmp 3] [] sg24.pin [] [] e s sg24.out.dec) = F_ref16_Check x := fun x vs => by kernel_rfl
theorem f24_ok : SigOk Tryd.prog GT.gl 24 sig24 := gfn (Γ := GT) (nt := 88) (rs := [.tmp 2, .tmp 3]) GT_ok (sigs_cons f25_ok (by kernel_rfl) (sigs_cons f43_ok (by kernel_rfl) (sigs_cons f44_ok (by kernel_rfl) sigs_nil))) Tryd.func24 (by kernel_rfl) (by kernel_rfl) (by kernel_rfl) (by decide) (by decide) f24_is
@[reducible] noncomputable def sg58 : SigD := ⟨[.data (.sl 37 tInstr), .data (.int .i64)], [], [], ⟨[.full 4 (.int .i64)], [(4, .row 3 (.int .i64) false)], []⟩⟩
@[reducible] noncomputable def sig58 : Sig := gsig sg58 F_ref16_ways
set_option maxRecDepth 100000 in
theorem f58_is : ∀ (x : sg58.X) (vs : List Value), denS GT [(25, sig25), (43, sig43)] ⟨4, [], [], true, []⟩ ⟨16, [], 16⟩ (bodyOf Tryd.f58) sg58.out.Y (initSt (sg58.pre x) (sg58.heap x) 79 sg58.pin vs) (fun e s => finC GT [.tmp 4] [] sg58.pin [] [] e s sg58.out.dec) = F_ref16_ways x := fun x vs => by kernel_rfl
theorem f58_ok : SigOk Tryd.prog GT.gl 58 sig58 := gfn (Γ := GT) (nt := 79) (rs := [.tmp 4]) GT_ok (sigs_cons f25_ok (by kernel_rfl) (sigs_cons f43_ok (by kernel_rfl) sigs_nil)) Tryd.func58 (by kernel_rfl) (by kernel_rfl) (by kernel_rfl) (by decide) (by decide) f58_is
@[reducible] noncomputable def sg47 : SigD := ⟨[.data (.sl 37 tInstr)], [], [], ⟨[.full 2 .bool, .data (.int .i64)], [(2, .row 4 .bool false)], []⟩⟩
@[reducible] noncomputable def sig47 : Sig := gsig sg47 F_ref16_Live
set_option maxRecDepth 100000 in
theorem f47_is : ∀ (x : sg47.X) (vs : List Value), denS GT [(24, sig24), (58, sig58)] ⟨4, [7], [], true, []⟩ ⟨12, [], 12⟩ (bodyOf Tryd.f47) sg47.out.Y (initSt (sg47.pre x) (sg47.heap x) 62 sg47.pin vs) (fun e s => finC GT [.tmp 2, .tmp 3] [] sg47.pin [] [] e s sg47.out.dec) = F_ref16_Live x := fun x vs => by kernel_rfl
theorem f47_ok : SigOk Tryd.prog GT.gl 47 sig47 := gfn (Γ := GT) (nt := 62) (rs := [.tmp 2, .tmp 3]) GT_ok (sigs_cons f24_ok (by kernel_rfl) (sigs_cons f58_ok (by kernel_rfl) sigs_nil)) Tryd.func47 (by kernel_rfl) (by kernel_rfl) (by kernel_rfl) (by decide) (by decide) f47_is
@[reducible] noncomputable def sg48 : SigD := ⟨[.data (.sl 37 tInstr), .data (.sl 4 .bool)], [], [], ⟨[.full 4 tInstr], [(4, .row 37 tInstr false)], []⟩⟩
@[reducible] noncomputable def sig48 : Sig := gsig sg48 F_ref20_without
set_option maxRecDepth 100000 in
theorem f48_is : ∀ (x : sg48.X) (vs : List Value), denS GT [(25, sig25)] ⟨4, [], [], true, []⟩ ⟨16, [], 16⟩ (bodyOf Tryd.f48) sg48.out.Y (initSt (sg48.pre x) (sg48.heap x) 75 sg48.pin vs) (fun e s => finC GT [.tmp 4] [] sg48.pin [] [] e s sg48.out.dec) = F_ref20_without x := fun x vs => by kernel_rfl
theorem f48_ok : SigOk Tryd.prog GT.gl 48 sig48 := gfn (Γ := GT) (nt := 75) (rs := [.tmp 4]) GT_ok (sigs_cons f25_ok (by kernel_rfl) sigs_nil) Tryd.func48 (by kernel_rfl) (by kernel_rfl) (by kernel_rfl) (by decide) (by decide) f48_is
@[reducible] noncomputable def sg30 : SigD := ⟨[.data (.sl 37 tInstr)], [], [], ⟨[.full 2 tInstr], [(2, .row 37 tInstr false)], []⟩⟩
@[reducible] noncomputable def sig30 : Sig := gsig sg30 F_ref20_dead
set_option maxRecDepth 100000 in
theorem f30_is : ∀ (x : sg30.X) (vs : List Value), denS GT [(47, sig47), (48, sig48)] ⟨4, [], [], true, []⟩ ⟨4, [], 4⟩ (bodyOf Tryd.f30) sg30.out.Y (initSt (sg30.pre x) (sg30.heap x) 32 sg30.pin vs) (fun e s => finC GT [.tmp 2] [] sg30.pin [] [] e s sg30.out.dec) = F_ref20_dead x := fun x vs => by kernel_rfl
theorem f30_ok : SigOk Tryd.prog GT.gl 30 sig30 := gfn (Γ := GT) (nt := 32) (rs := [.tmp 2]) GT_ok (sigs_cons f47_ok (by kernel_rfl) (sigs_cons f48_ok (by kernel_rfl) sigs_nil)) Tryd.func30 (by kernel_rfl) (by kernel_rfl) (by kernel_rfl) (by decide) (by decide) f30_is
@[reducible] noncomputable def sg11 : SigD := ⟨[.data (.sl 37 tInstr)], [], [], ⟨[.full 2 tInstr, .data (.int .i64)], [(2, .row 37 tInstr false)], []⟩⟩
@[reducible] noncomputable def sig11 : Sig := gsig sg11 F_ref20_Dead
set_option maxRecDepth 100000 in
theorem f11_is : ∀ (x : sg11.X) (vs : List Value), denS GT [(24, sig24), (30, sig30)] ⟨4, [], [], true, []⟩ ⟨12, [], 12⟩ (bodyOf Tryd.f11) sg11.out.Y (initSt (sg11.pre x) (sg11.heap x) 16 sg11.pin vs) (fun e s => finC GT [.tmp 2, .tmp 3] [] sg11.pin [] [] e s sg11.out.dec) = F_ref20_Dead x := fun x vs => by kernel_rfl
theorem f11_ok : SigOk Tryd.prog GT.gl 11 sig11 := gfn (Γ := GT) (nt := 16) (rs := [.tmp 2, .tmp 3]) GT_ok (sigs_cons f24_ok (by kernel_rfl) (sigs_cons f30_ok (by kernel_rfl) sigs_nil)) Tryd.func11 (by kernel_rfl) (by kernel_rfl) (by kernel_rfl) (by decide) (by decide) f11_is
@[reducible] noncomputable def sg31 : SigD := ⟨[.data (.sl 37 tInstr)], [], [], ⟨[.full 2 tInstr], [(2, .row 37 tInstr false)], []⟩⟩
@[reducible] noncomputable def sig31 : Sig := gsig sg31 F_peep_hops
set_option maxRecDepth 100000 in
theorem f31_is : ∀ (x : sg31.X) (vs : List Value), denS GT [(46, sig46)] ⟨4, [], [], true, []⟩ ⟨4, [], 4⟩ (bodyOf Tryd.f31) sg31.out.Y (initSt (sg31.pre x) (sg31.heap x) 31 sg31.pin vs) (fun e s => finC GT [.tmp 2] [] sg31.pin [] [] e s sg31.out.dec) = F_peep_hops x := fun x vs => by kernel_rfl
theorem f31_ok : SigOk Tryd.prog GT.gl 31 sig31 := gfn (Γ := GT) (nt := 31) (rs := [.tmp 2]) GT_ok (sigs_cons f46_ok (by kernel_rfl) sigs_nil) Tryd.func31 (by kernel_rfl) (by kernel_rfl) (by kernel_rfl) (by decide) (by decide) f31_is
@[reducible] noncomputable def sg28_hops : SigD := ⟨[.data (.sl 37 tInstr), .same (.fn 31 [])], [], [], ⟨[.full 4 tInstr, .data (.int .i64)], [(4, .row 37 tInstr false)], []⟩⟩
@[reducible] noncomputable def sig28_hops : Sig := gsig sg28_hops F_peep_on_hops
set_option maxRecDepth 100000 in
theorem f28_hops_is : ∀ (x : sg28_hops.X) (vs : List Value), denS GT [(37, sig37), (31, sig31)] ⟨4, [], [], true, []⟩ ⟨48, [], 48⟩ (bodyOf Tryd.f28) sg28_hops.out.Y (initSt (sg28_hops.pre x) (sg28_hops.heap x) 19 sg28_hops.pin vs) (fun e s => finC GT [.tmp 4, .tmp 5] [] sg28_hops.pin [] [] e s sg28_hops.out.dec) = F_peep_on_hops x := fun x vs => by kernel_rfl
theorem f28_hops_ok : SigOk Tryd.prog GT.gl 28 sig28_hops := gfn (Γ := GT) (nt := 19) (rs := [.tmp 4, .tmp 5]) GT_ok (sigs_cons f37_ok (by kernel_rfl) (sigs_cons f31_ok (by kernel_rfl) sigs_nil)) Tryd.func28 (by kernel_rfl) (by kernel_rfl) (by kernel_rfl) (by decide) (by decide) f28_hops_is
@[reducible] noncomputable def sg12 : SigD := ⟨[.data (.sl 37 tInstr)], [], [], ⟨[.full 2 tInstr, .data (.int .i64)], [(2, .row 37 tInstr false)], []⟩⟩
@[reducible] noncomputable def sig12 : Sig := gsig sg12 F_peep_Hops
set_option maxRecDepth 100000 in
theorem f12_is : ∀ (x : sg12.X) (vs : List Value), denS GT [(28, sig28_hops), (31, sig31)] ⟨4, [], [], true, []⟩ ⟨12, [], 12⟩ (bodyOf Tryd.f12) sg12.out.Y (initSt (sg12.pre x) (sg12.heap x) 8 sg12.pin vs) (fun e s => finC GT [.tmp 2, .tmp 3] [] sg12.pin [] [] e s sg12.out.dec) = F_peep_Hops x := fun x vs => by kernel_rfl
theorem f12_ok : SigOk Tryd.prog GT.gl 12 sig12 := gfn (Γ := GT) (nt := 8) (rs := [.tmp 2, .tmp 3]) GT_ok (sigs_cons f28_hops_ok (by kernel_rfl) (sigs_cons f31_ok (by kernel_rfl) sigs_nil)) Tryd.func12 (by kernel_rfl) (by kernel_rfl) (by kernel_rfl) (by decide) (by decide) f12_is
@[reducible] noncomputable def sg32 : SigD := ⟨[.data (.sl 37 tInstr)], [], [], ⟨[.full 2 tInstr], [(2, .row 37 tInstr false)], []⟩⟩
@[reducible] noncomputable def sig32 : Sig := gsig sg32 F_ref20_hops
set_option maxRecDepth 100000 in
theorem f32_is : ∀ (x : sg32.X) (vs : List Value), denS GT [(48, sig48)] ⟨4, [], [], true, []⟩ ⟨4, [], 4⟩ (bodyOf Tryd.f32) sg32.out.Y (initSt (sg32.pre x) (sg32.heap x) 34 sg32.pin vs) (fun e s => finC GT [.tmp 2] [] sg32.pin [] [] e s sg32.out.dec) = F_ref20_hops x := fun x vs => by kernel_rfl
theorem f32_ok : SigOk Tryd.prog GT.gl 32 sig32 := gfn (Γ := GT) (nt := 34) (rs := [.tmp 2]) GT_ok (sigs_cons f48_ok (by kernel_rfl) sigs_nil) Tryd.func32 (by kernel_rfl) (by kernel_rfl) (by kernel_rfl) (by decide) (by decide) f32_is
@[reducible] noncomputable def sg13 : SigD := ⟨[.data (.sl 37 tInstr)], [], [], ⟨[.full 2 tInstr, .data (.int .i64)], [(2, .row 37 tInstr false)], []⟩⟩
@[reducible] noncomputable def sig13 : Sig := gsig sg13 F_ref20_Hops
set_option maxRecDepth 100000 in
theorem f13_is : ∀ (x : sg13.X) (vs : List Value), denS GT [(24, sig24), (32, sig32)] ⟨4, [], [], true, []⟩ ⟨12, [], 12⟩ (bodyOf Tryd.f13) sg13.out.Y (initSt (sg13.pre x) (sg13.heap x) 16 sg13.pin vs) (fun e s => finC GT [.tmp 2, .tmp 3] [] sg13.pin [] [] e s sg13.out.dec) = F_ref20_Hops x := fun x vs => by kernel_rfl
theorem f13_ok : SigOk Tryd.prog GT.gl 13 sig13 := gfn (Γ := GT) (nt := 16) (rs := [.tmp 2, .tmp 3]) GT_ok (sigs_cons f24_ok (by kernel_rfl) (sigs_cons f32_ok (by kernel_rfl) sigs_nil)) Tryd.func13 (by kernel_rfl) (by kernel_rfl) (by kernel_rfl) (by decide) (by decide) f13_is
@[reducible] noncomputable def sg14 : SigD := ⟨[], [], [], ⟨[.data .bool], [], []⟩⟩
@[reducible] noncomputable def sig14 : Sig := gsig sg14 F_law20_lives
set_option maxRecDepth 100000 in
theorem f14_is : ∀ (x : sg14.X) (vs : List Value), denS GT [(10, sig10)] ⟨4, [], [], true, []⟩ ⟨1, [], 1⟩ (bodyOf Tryd.f14) sg14.out.Y (initSt (sg14.pre x) (sg14.heap x) 24 sg14.pin vs) (fun e s => finC GT [.tmp 0] [] sg14.pin [] [] e s sg14.out.dec) = F_law20_lives x := fun x vs => by kernel_rfl
theorem f14_ok : SigOk Tryd.prog GT.gl 14 sig14 := gfn (Γ := GT) (nt := 24) (rs := [.tmp 0]) GT_ok (sigs_cons f10_ok (by kernel_rfl) sigs_nil) Tryd.func14 (by kernel_rfl) (by kernel_rfl) (by kernel_rfl) (by decide) (by decide) f14_is
@[reducible] noncomputable def sg15 : SigD := ⟨[.data (.sl 37 tInstr), .data (.sl 37 tInstr)], [], [], ⟨[.data .bool], [], []⟩⟩
@[reducible] noncomputable def sig15 : Sig := gsig sg15 F_book_SameCode
set_option maxRecDepth 100000 in
theorem f15_is : ∀ (x : sg15.X) (vs : List Value), denS GT [] ⟨4, [], [], false, []⟩ ⟨16, [], 16⟩ (bodyOf Tryd.f15) sg15.out.Y (initSt (sg15.pre x) (sg15.heap x) 26 sg15.pin vs) (fun e s => finC GT [.tmp 4] [] sg15.pin [] [] e s sg15.out.dec) = F_book_SameCode x := fun x vs => by kernel_rfl
theorem f15_ok : SigOk Tryd.prog GT.gl 15 sig15 := gfn (Γ := GT) (nt := 26) (rs := [.tmp 4]) GT_ok sigs_nil Tryd.func15 (by kernel_rfl) (by kernel_rfl) (by kernel_rfl) (by decide) (by decide) f15_is
@[reducible] noncomputable def sg16 : SigD := ⟨[.lent 37 tInstr, .data (.sl 37 tInstr)], [], [], ⟨[.data .bool], [], []⟩⟩
@[reducible] noncomputable def sig16 : Sig := gsig sg16 F_book_KeptCode
set_option maxRecDepth 100000 in
theorem f16_is : ∀ (x : sg16.X) (vs : List Value), denS GT [(15, sig15)] ⟨4, [], [], false, []⟩ ⟨16, [], 16⟩ (bodyOf Tryd.f16) sg16.out.Y (initSt (sg16.pre x) (sg16.heap x) 21 sg16.pin vs) (fun e s => finC GT [.tmp 4] [] sg16.pin [] [] e s sg16.out.dec) = F_book_KeptCode x := fun x vs => by kernel_rfl
theorem f16_ok : SigOk Tryd.prog GT.gl 16 sig16 := gfn (Γ := GT) (nt := 21) (rs := [.tmp 4]) GT_ok (sigs_cons f15_ok (by kernel_rfl) sigs_nil) Tryd.func16 (by kernel_rfl) (by kernel_rfl) (by kernel_rfl) (by decide) (by decide) f16_is
@[reducible] noncomputable def sg3 : SigD := ⟨[.data (.sl 37 tInstr)], [], [], ⟨[.data .bool], [], []⟩⟩
@[reducible] noncomputable def sig3 : Sig := gsig sg3 F_law20_PeepDead
set_option maxRecDepth 100000 in
theorem f3_is : ∀ (x : sg3.X) (vs : List Value), denS GT [(9, sig9), (10, sig10), (11, sig11), (12, sig12), (13, sig13), (14, sig14), (15, sig15), (16, sig16)] ⟨4, [], [], true, []⟩ ⟨4, [], 4⟩ (bodyOf Tryd.f3) sg3.out.Y (initSt (sg3.pre x) (sg3.heap x) 60 sg3.pin vs) (fun e s => finC GT [.tmp 2] [] sg3.pin [] [] e s sg3.out.dec) = F_law20_PeepDead x := fun x vs => by kernel_rfl
theorem f3_ok : SigOk Tryd.prog GT.gl 3 sig3 := gfn (Γ := GT) (nt := 60) (rs := [.tmp 2]) GT_ok (sigs_cons f9_ok (by kernel_rfl) (sigs_cons f10_ok (by kernel_rfl) (sigs_cons f11_ok (by kernel_rfl) (sigs_cons f12_ok (by kernel_rfl) (sigs_cons f13_ok (by kernel_rfl) (sigs_cons f14_ok (by kernel_rfl) (sigs_cons f15_ok (by kernel_rfl) (sigs_cons f16_ok (by kernel_rfl) sigs_nil)))))))) Tryd.func3 (by kernel_rfl) (by kernel_rfl) (by kernel_rfl) (by decide) (by decide) f3_is
@[reducible] noncomputable def sg39 : SigD := ⟨[.data (.sl 37 tInstr)], [], [], ⟨[.full 2 tInstr], [(2, .row 37 tInstr false)], []⟩⟩
@[reducible] noncomputable def sig39 : Sig := gsig sg39 F_slices_Clone_Instr_Instr
set_option maxRecDepth 100000 in
theorem f39_is : ∀ (x : sg39.X) (vs : List Value), denS GT [] ⟨4, [], [], true, []⟩ ⟨4, [], 4⟩ (bodyOf Tryd.f39) sg39.out.Y (initSt (sg39.pre x) (sg39.heap x) 8 sg39.pin vs) (fun e s => finC GT [.tmp 2] [] sg39.pin [] [] e s sg39.out.dec) = F_slices_Clone_Instr_Instr x := fun x vs => by kernel_rfl
theorem f39_ok : SigOk Tryd.prog GT.gl 39 sig39 := gfn (Γ := GT) (nt := 8) (rs := [.tmp 2]) GT_ok sigs_nil Tryd.func39 (by kernel_rfl) (by kernel_rfl) (by kernel_rfl) (by decide) (by decide) f39_is
@[reducible] noncomputable def sg33 : SigD := ⟨[.data (.sl 37 tInstr)], [], [], ⟨[.full 2 tInstr], [(2, .row 37 tInstr false)], []⟩⟩
@[reducible] noncomputable def sig33 : Sig := gsig sg33 F_peep_tails
set_option maxRecDepth 100000 in
theorem f33_is : ∀ (x : sg33.X) (vs : List Value), denS GT [(39, sig39)] ⟨4, [], [], true, []⟩ ⟨4, [], 4⟩ (bodyOf Tryd.f33) sg33.out.Y (initSt (sg33.pre x) (sg33.heap x) 33 sg33.pin vs) (fun e s => finC GT [.tmp 2] [] sg33.pin [] [] e s sg33.out.dec) = F_peep_tails x := fun x vs => by kernel_rfl
theorem f33_ok : SigOk Tryd.prog GT.gl 33 sig33 := gfn (Γ := GT) (nt := 33) (rs := [.tmp 2]) GT_ok (sigs_cons f39_ok (by kernel_rfl) sigs_nil) Tryd.func33 (by kernel_rfl) (by kernel_rfl) (by kernel_rfl) (by decide) (by decide) f33_is
@[reducible] noncomputable def sg28_tails : SigD := ⟨[.data (.sl 37 tInstr), .same (.fn 33 [])], [], [], ⟨[.full 4 tInstr, .data (.int .i64)], [(4, .row 37 tInstr false)], []⟩⟩
@[reducible] noncomputable def sig28_tails : Sig := gsig sg28_tails F_peep_on_tails
set_option maxRecDepth 100000 in
theorem f28_tails_is : ∀ (x : sg28_tails.X) (vs : List Value), denS GT [(37, sig37), (33, sig33)] ⟨4, [], [], true, []⟩ ⟨48, [], 48⟩ (bodyOf Tryd.f28) sg28_tails.out.Y (initSt (sg28_tails.pre x) (sg28_tails.heap x) 19 sg28_tails.pin vs) (fun e s => finC GT [.tmp 4, .tmp 5] [] sg28_tails.pin [] [] e s sg28_tails.out.dec) = F_peep_on_tails x := fun x vs => by kernel_rfl
theorem f28_tails_ok : SigOk Tryd.prog GT.gl 28 sig28_tails := gfn (Γ := GT) (nt := 19) (rs := [.tmp 4, .tmp 5]) GT_ok (sigs_cons f37_ok (by kernel_rfl) (sigs_cons f33_ok (by kernel_rfl) sigs_nil)) Tryd.func28 (by kernel_rfl) (by kernel_rfl) (by kernel_rfl) (by decide) (by decide) f28_tails_is
@[reducible] noncomputable def sg17 : SigD := ⟨[.data (.sl 37 tInstr)], [], [], ⟨[.full 2 tInstr, .data (.int .i64)], [(2, .row 37 tInstr false)], []⟩⟩
@[reducible] noncomputable def sig17 : Sig := gsig sg17 F_peep_Tails
set_option maxRecDepth 100000 in
theorem f17_is : ∀ (x : sg17.X) (vs : List Value), denS GT [(28, sig28_tails), (33, sig33)] ⟨4, [], [], true, []⟩ ⟨12, [], 12⟩ (bodyOf Tryd.f17) sg17.out.Y (initSt (sg17.pre x) (sg17.heap x) 8 sg17.pin vs) (fun e s => finC GT [.tmp 2, .tmp 3] [] sg17.pin [] [] e s sg17.out.dec) = F_peep_Tails x := fun x vs => by kernel_rfl
theorem f17_ok : SigOk Tryd.prog GT.gl 17 sig17 := gfn (Γ := GT) (nt := 8) (rs := [.tmp 2, .tmp 3]) GT_ok (sigs_cons f28_tails_ok (by kernel_rfl) (sigs_cons f33_ok (by kernel_rfl) sigs_nil)) Tryd.func17 (by kernel_rfl) (by kernel_rfl) (by kernel_rfl) (by decide) (by decide) f17_is
@[reducible] noncomputable def sg41 : SigD := ⟨[.data (.sl 37 tInstr)], [], [], ⟨[.full 2 tInstr], [(2, .row 37 tInstr false)], []⟩⟩
@[reducible] noncomputable def sig41 : Sig := gsig sg41 F_ref20_copied
set_option maxRecDepth 100000 in
theorem f41_is : ∀ (x : sg41.X) (vs : List Value), denS GT [] ⟨4, [], [], true, []⟩ ⟨4, [], 4⟩ (bodyOf Tryd.f41) sg41.out.Y (initSt (sg41.pre x) (sg41.heap x) 6 sg41.pin vs) (fun e s => finC GT [.tmp 2] [] sg41.pin [] [] e s sg41.out.dec) = F_ref20_copied x := fun x vs => by kernel_rfl
theorem f41_ok : SigOk Tryd.prog GT.gl 41 sig41 := gfn (Γ := GT) (nt := 6) (rs := [.tmp 2]) GT_ok sigs_nil Tryd.func41 (by kernel_rfl) (by kernel_rfl) (by kernel_rfl) (by decide) (by decide) f41_is
@[reducible] noncomputable def sg34 : SigD := ⟨[.data (.sl 37 tInstr)], [], [], ⟨[.full 2 tInstr], [(2, .row 37 tInstr false)], []⟩⟩
@[reducible] noncomputable def sig34 : Sig := gsig sg34 F_ref20_tails
set_option maxRecDepth 100000 in
theorem f34_is : ∀ (x : sg34.X) (vs : List Value), denS GT [(41, sig41)] ⟨4, [], [], true, []⟩ ⟨4, [], 4⟩ (bodyOf Tryd.f34) sg34.out.Y (initSt (sg34.pre x) (sg34.heap x) 34 sg34.pin vs) (fun e s => finC GT [.tmp 2] [] sg34.pin [] [] e s sg34.out.dec) = F_ref20_tails x := fun x vs => by kernel_rfl
theorem f34_ok : SigOk Tryd.prog GT.gl 34 sig34 := gfn (Γ := GT) (nt := 34) (rs := [.tmp 2]) GT_ok (sigs_cons f41_ok (by kernel_rfl) sigs_nil) Tryd.func34 (by kernel_rfl) (by kernel_rfl) (by kernel_rfl) (by decide) (by decide) f34_is
@[reducible] noncomputable def sg18 : SigD := ⟨[.data (.sl 37 tInstr)], [], [], ⟨[.full 2 tInstr, .data (.int .i64)], [(2, .row 37 tInstr false)], []⟩⟩
@[reducible] noncomputable def sig18 : Sig := gsig sg18 F_ref20_Tails
set_option maxRecDepth 100000 in
theorem f18_is : ∀ (x : sg18.X) (vs : List Value), denS GT [(24, sig24), (34, sig34)] ⟨4, [], [], true, []⟩ ⟨12, [], 12⟩ (bodyOf Tryd.f18) sg18.out.Y (initSt (sg18.pre x) (sg18.heap x) 16 sg18.pin vs) (fun e s => finC GT [.tmp 2, .tmp 3] [] sg18.pin [] [] e s sg18.out.dec) = F_ref20_Tails x := fun x vs => by kernel_rfl
theorem f18_ok : SigOk Tryd.prog GT.gl 18 sig18 := gfn (Γ := GT) (nt := 16) (rs := [.tmp 2, .tmp 3]) GT_ok (sigs_cons f24_ok (by kernel_rfl) (sigs_cons f34_ok (by kernel_rfl) sigs_nil)) Tryd.func18 (by kernel_rfl) (by kernel_rfl) (by kernel_rfl) (by decide) (by decide) f18_is
@[reducible] noncomputable def sg50 : SigD := ⟨[.data (.sl 37 tInstr), .data (.int .i64)], [], [], ⟨[.data (.int .i64), .data .bool], [], []⟩⟩
@[reducible] noncomputable def sig50 : Sig := gsig sg50 F_peep_end
set_option maxRecDepth 100000 in
theorem f50_is : ∀ (x : sg50.X) (vs : List Value), denS GT [] ⟨4, [], [], true, []⟩ ⟨48, [], 48⟩ (bodyOf Tryd.f50) sg50.out.Y (initSt (sg50.pre x) (sg50.heap x) 34 sg50.pin vs) (fun e s => finC GT [.tmp 4, .tmp 5] [] sg50.pin [] [] e s sg50.out.dec) = F_peep_end x := fun x vs => by kernel_rfl
theorem f50_ok : SigOk Tryd.prog GT.gl 50 sig50 := gfn (Γ := GT) (nt := 34) (rs := [.tmp 4, .tmp 5]) GT_ok sigs_nil Tryd.func50 (by kernel_rfl) (by kernel_rfl) (by kernel_rfl) (by decide) (by decide) f50_is
@[reducible] noncomputable def sg35 : SigD := ⟨[.data (.sl 37 tInstr)], [], [], ⟨[.full 2 tInstr], [(2, .row 37 tInstr false)], []⟩⟩
@[reducible] noncomputable def sig35 : Sig := gsig sg35 F_peep_threads
set_option maxRecDepth 100000 in
theorem f35_is : ∀ (x : sg35.X) (vs : List Value), denS GT [(39, sig39), (49, sig49), (50, sig50)] ⟨4, [], [], true, []⟩ ⟨4, [], 4⟩ (bodyOf Tryd.f35) sg35.out.Y (initSt (sg35.pre x) (sg35.heap x) 58 sg35.pin vs) (fun e s => finC GT [.tmp 2] [] sg35.pin [] [] e s sg35.out.dec) = F_peep_threads x := fun x vs => by kernel_rfl
theorem f35_ok : SigOk Tryd.prog GT.gl 35 sig35 := gfn (Γ := GT) (nt := 58) (rs := [.tmp 2]) GT_ok (sigs_cons f39_ok (by kernel_rfl) (sigs_cons f49_ok (by kernel_rfl) (sigs_cons f50_ok (by kernel_rfl) sigs_nil))) Tryd.func35 (by kernel_rfl) (by kernel_rfl) (by kernel_rfl) (by decide) (by decide) f35_is
@[reducible] noncomputable def sg28_threads : SigD := ⟨[.data (.sl 37 tInstr), .same (.fn 35 [])], [], [], ⟨[.full 4 tInstr, .data (.int .i64)], [(4, .row 37 tInstr false)], []⟩⟩
@[reducible] noncomputable def sig28_threads : Sig := gsig sg28_threads F_peep_on_threads
set_option maxRecDepth 100000 in
theorem f28_threads_is : ∀ (x : sg28_threads.X) (vs : List Value), denS GT [(37, sig37), (35, sig35)] ⟨4, [], [], true, []⟩ ⟨48, [], 48⟩ (bodyOf Tryd.f28) sg28_threads.out.Y (initSt (sg28_threads.pre x) (sg28_threads.heap x) 19 sg28_threads.pin vs) (fun e s => finC GT [.tmp 4, .tmp 5] [] sg28_threads.pin [] [] e s sg28_threads.out.dec) = F_peep_on_threads x := fun x vs => by kernel_rfl
theorem f28_threads_ok : SigOk Tryd.prog GT.gl 28 sig28_threads := gfn (Γ := GT) (nt := 19) (rs := [.tmp 4, .tmp 5]) GT_ok (sigs_cons f37_ok (by kernel_rfl) (sigs_cons f35_ok (by kernel_rfl) sigs_nil)) Tryd.func28 (by kernel_rfl) (by kernel_rfl) (by kernel_rfl) (by decide) (by decide) f28_threads_is
@[reducible] noncomputable def sg19 : SigD := ⟨[.data (.sl 37 tInstr)], [], [], ⟨[.full 2 tInstr, .data (.int .i64)], [(2, .row 37 tInstr false)], []⟩⟩
@[reducible] noncomputable def sig19 : Sig := gsig sg19 F_peep_Threads
set_option maxRecDepth 100000 in
theorem f19_is : ∀ (x : sg19.X) (vs : List Value), denS GT [(28, sig28_threads), (35, sig35)] ⟨4, [], [], true, []⟩ ⟨12, [], 12⟩ (bodyOf Tryd.f19) sg19.out.Y (initSt (sg19.pre x) (sg19.heap x) 8 sg19.pin vs) (fun e s => finC GT [.tmp 2, .tmp 3] [] sg19.pin [] [] e s sg19.out.dec) = F_peep_Threads x := fun x vs => by kernel_rfl
theorem f19_ok : SigOk Tryd.prog GT.gl 19 sig19 := gfn (Γ := GT) (nt := 8) (rs := [.tmp 2, .tmp 3]) GT_ok (sigs_cons f28_threads_ok (by kernel_rfl) (sigs_cons f35_ok (by kernel_rfl) sigs_nil)) Tryd.func19 (by kernel_rfl) (by kernel_rfl) (by kernel_rfl) (by decide) (by decide) f19_is
@[reducible] noncomputable def sg51 : SigD := ⟨[.data (.sl 37 tInstr), .data (.int .i64)], [], [], ⟨[.data (.int .i64), .data .bool], [], []⟩⟩
@[reducible] noncomputable def sig51 : Sig := gsig sg51 F_ref20_end
set_option maxRecDepth 100000 in
theorem f51_is : ∀ (x : sg51.X) (vs : List Value), denS GT [] ⟨4, [], [], true, []⟩ ⟨48, [], 48⟩ (bodyOf Tryd.f51) sg51.out.Y (initSt (sg51.pre x) (sg51.heap x) 34 sg51.pin vs) (fun e s => finC GT [.tmp 4, .tmp 5] [] sg51.pin [] [] e s sg51.out.dec) = F_ref20_end x := fun x vs => by kernel_rfl
theorem f51_ok : SigOk Tryd.prog GT.gl 51 sig51 := gfn (Γ := GT) (nt := 34) (rs := [.tmp 4, .tmp 5]) GT_ok sigs_nil Tryd.func51 (by kernel_rfl) (by kernel_rfl) (by kernel_rfl) (by decide) (by decide) f51_is
@[reducible] noncomputable def sg36 : SigD := ⟨[.data (.sl 37 tInstr)], [], [], ⟨[.full 2 tInstr], [(2, .row 37 tInstr false)], []⟩⟩
@[reducible] noncomputable def sig36 : Sig := gsig sg36 F_ref20_threads
set_option maxRecDepth 100000 in
theorem f36_is : ∀ (x : sg36.X) (vs : List Value), denS GT [(25, sig25), (41, sig41), (51, sig51)] ⟨4, [], [], true, []⟩ ⟨4, [], 4⟩ (bodyOf Tryd.f36) sg36.out.Y (initSt (sg36.pre x) (sg36.heap x) 71 sg36.pin vs) (fun e s => finC GT [.tmp 2] [] sg36.pin [] [] e s sg36.out.dec) = F_ref20_threads x := fun x vs => by kernel_rfl
theorem f36_ok : SigOk Tryd.prog GT.gl 36 sig36 := gfn (Γ := GT) (nt := 71) (rs := [.tmp 2]) GT_ok (sigs_cons f25_ok (by kernel_rfl) (sigs_cons f41_ok (by kernel_rfl) (sigs_cons f51_ok (by kernel_rfl) sigs_nil))) Tryd.func36 (by kernel_rfl) (by kernel_rfl) (by kernel_rfl) (by decide) (by decide) f36_is
@[reducible] noncomputable def sg20 : SigD := ⟨[.data (.sl 37 tInstr)], [], [], ⟨[.full 2 tInstr, .data (.int .i64)], [(2, .row 37 tInstr false)], []⟩⟩
@[reducible] noncomputable def sig20 : Sig := gsig sg20 F_ref20_Threads
set_option maxRecDepth 100000 in
theorem f20_is : ∀ (x : sg20.X) (vs : List Value), denS GT [(24, sig24), (36, sig36)] ⟨4, [], [], true, []⟩ ⟨12, [], 12⟩ (bodyOf Tryd.f20) sg20.out.Y (initSt (sg20.pre x) (sg20.heap x) 16 sg20.pin vs) (fun e s => finC GT [.tmp 2, .tmp 3] [] sg20.pin [] [] e s sg20.out.dec) = F_ref20_Threads x := fun x vs => by kernel_rfl
theorem f20_ok : SigOk Tryd.prog GT.gl 20 sig20 := gfn (Γ := GT) (nt := 16) (rs := [.tmp 2, .tmp 3]) GT_ok (sigs_cons f24_ok (by kernel_rfl) (sigs_cons f36_ok (by kernel_rfl) sigs_nil)) Tryd.func20 (by kernel_rfl) (by kernel_rfl) (by kernel_rfl) (by decide) (by decide) f20_is
@[reducible] noncomputable def sg4 : SigD := ⟨[.data (.sl 37 tInstr)], [], [], ⟨[.data .bool], [], []⟩⟩
@[reducible] noncomputable def sig4 : Sig := gsig sg4 F_law20_PeepTails
set_option maxRecDepth 100000 in
theorem f4_is : ∀ (x : sg4.X) (vs : List Value), denS GT [(9, sig9), (14, sig14), (15, sig15), (16, sig16), (17, sig17), (18, sig18), (19, sig19), (20, sig20)] ⟨4, [], [], true, []⟩ ⟨4, [], 4⟩ (bodyOf Tryd.f4) sg4.out.Y (initSt (sg4.pre x) (sg4.heap x) 60 sg4.pin vs) (fun e s => finC GT [.tmp 2] [] sg4.pin [] [] e s sg4.out.dec) = F_law20_PeepTails x := fun x vs => by kernel_rfl
theorem f4_ok : SigOk Tryd.prog GT.gl 4 sig4 := gfn (Γ := GT) (nt := 60) (rs := [.tmp 2]) GT_ok (sigs_cons f9_ok (by kernel_rfl) (sigs_cons f14_ok (by kernel_rfl) (sigs_cons f15_ok (by kernel_rfl) (sigs_cons f16_ok (by kernel_rfl) (sigs_cons f17_ok (by kernel_rfl) (sigs_cons f18_ok (by kernel_rfl) (sigs_cons f19_ok (by kernel_rfl) (sigs_cons f20_ok (by kernel_rfl) sigs_nil)))))))) Tryd.func4 (by kernel_rfl) (by kernel_rfl) (by kernel_rfl) (by decide) (by decide) f4_is
@[reducible] noncomputable def sg56 : SigD := ⟨[.data (.sl 37 tInstr), .data (.sl 37 tInstr)], [], [], ⟨[.data .bool], [], []⟩⟩
@[reducible] noncomputable def sig56 : Sig := gsig sg56 F_slices_Equal_Instr_Instr
set_option maxRecDepth 100000 in
theorem f56_is : ∀ (x : sg56.X) (vs : List Value), denS GT [] ⟨4, [], [], true, []⟩ ⟨16, [], 16⟩ (bodyOf Tryd.f56) sg56.out.Y (initSt (sg56.pre x) (sg56.heap x) 26 sg56.pin vs) (fun e s => finC GT [.tmp 4] [] sg56.pin [] [] e s sg56.out.dec) = F_slices_Equal_Instr_Instr x := fun x vs => by kernel_rfl
theorem f56_ok : SigOk Tryd.prog GT.gl 56 sig56 := gfn (Γ := GT) (nt := 26) (rs := [.tmp 4]) GT_ok sigs_nil Tryd.func56 (by kernel_rfl) (by kernel_rfl) (by kernel_rfl) (by decide) (by decide) f56_is
@[reducible] noncomputable def sg40 : SigD := ⟨[.data (.sl 37 tInstr), .data (.sl 37 tInstr)], [], [], ⟨[.data .bool], [], []⟩⟩
@[reducible] noncomputable def sig40 : Sig := gsig sg40 F_instr_Same
set_option maxRecDepth 100000 in
theorem f40_is : ∀ (x : sg40.X) (vs : List Value), denS GT [(56, sig56)] ⟨4, [], [], true, []⟩ ⟨16, [], 16⟩ (bodyOf Tryd.f40) sg40.out.Y (initSt (sg40.pre x) (sg40.heap x) 8 sg40.pin vs) (fun e s => finC GT [.tmp 4] [] sg40.pin [] [] e s sg40.out.dec) = F_instr_Same x := fun x vs => by kernel_rfl
theorem f40_ok : SigOk Tryd.prog GT.gl 40 sig40 := gfn (Γ := GT) (nt := 8) (rs := [.tmp 4]) GT_ok (sigs_cons f56_ok (by kernel_rfl) sigs_nil) Tryd.func40 (by kernel_rfl) (by kernel_rfl) (by kernel_rfl) (by decide) (by decide) f40_is
@[reducible] noncomputable def sg22 : SigD := ⟨[.data (.sl 37 tInstr), .data (.int .i64)], [], [], ⟨[.full 4 tInstr, .data (.int .i64)], [(4, .row 37 tInstr false)], []⟩⟩
@[reducible] noncomputable def sig22 : Sig := gsig sg22 F_peep_Better
set_option maxRecDepth 100000 in
theorem f22_is : ∀ (x : sg22.X) (vs : List Value), denS GT [(29, sig29), (31, sig31), (33, sig33), (35, sig35), (37, sig37), (39, sig39), (40, sig40)] ⟨4, [], [], true, [8, 9]⟩ ⟨48, [], 48⟩ (bodyOf Tryd.f22) sg22.out.Y (initSt (sg22.pre x) (sg22.heap x) 45 sg22.pin vs) (fun e s => finC GT [.tmp 4, .tmp 5] [] sg22.pin [] [] e s sg22.out.dec) = F_peep_Better x := fun x vs => by kernel_rfl
theorem f22_ok : SigOk Tryd.prog GT.gl 22 sig22 := gfn (Γ := GT) (nt := 45) (rs := [.tmp 4, .tmp 5]) GT_ok (sigs_cons f29_ok (by kernel_rfl) (sigs_cons f31_ok (by kernel_rfl) (sigs_cons f33_ok (by kernel_rfl) (sigs_cons f35_ok (by kernel_rfl) (sigs_cons f37_ok (by kernel_rfl) (sigs_cons f39_ok (by kernel_rfl) (sigs_cons f40_ok (by kernel_rfl) sigs_nil))))))) Tryd.func22 (by kernel_rfl) (by kernel_rfl) (by kernel_rfl) (by decide) (by decide) f22_is
@[reducible] noncomputable def sg42 : SigD := ⟨[.data (.sl 37 tInstr), .data (.sl 37 tInstr)], [], [], ⟨[.data .bool], [], []⟩⟩
@[reducible] noncomputable def sig42 : Sig := gsig sg42 F_ref20_same
set_option maxRecDepth 100000 in
theorem f42_is : ∀ (x : sg42.X) (vs : List Value), denS GT [] ⟨4, [], [], true, []⟩ ⟨16, [], 16⟩ (bodyOf Tryd.f42) sg42.out.Y (initSt (sg42.pre x) (sg42.heap x) 26 sg42.pin vs) (fun e s => finC GT [.tmp 4] [] sg42.pin [] [] e s sg42.out.dec) = F_ref20_same x := fun x vs => by kernel_rfl
theorem f42_ok : SigOk Tryd.prog GT.gl 42 sig42 := gfn (Γ := GT) (nt := 26) (rs := [.tmp 4]) GT_ok sigs_nil Tryd.func42 (by kernel_rfl) (by kernel_rfl) (by kernel_rfl) (by decide) (by decide) f42_is
@[reducible] noncomputable def sg23 : SigD := ⟨[.data (.sl 37 tInstr), .data (.int .i64)], [], [], ⟨[.full 4 tInstr, .data (.int .i64)], [(4, .row 37 tInstr false)], []⟩⟩
@[reducible] noncomputable def sig23 : Sig := gsig sg23 F_ref20_Better
set_option maxRecDepth 100000 in
theorem f23_is : ∀ (x : sg23.X) (vs : List Value), denS GT [(24, sig24), (30, sig30), (32, sig32), (34, sig34), (36, sig36), (41, sig41), (42, sig42)] ⟨4, [], [], true, []⟩ ⟨48, [], 48⟩ (bodyOf Tryd.f23) sg23.out.Y (initSt (sg23.pre x) (sg23.heap x) 44 sg23.pin vs) (fun e s => finC GT [.tmp 4, .tmp 5] [] sg23.pin [] [] e s sg23.out.dec) = F_ref20_Better x := fun x vs => by kernel_rfl
theorem f23_ok : SigOk Tryd.prog GT.gl 23 sig23 := gfn (Γ := GT) (nt := 44) (rs := [.tmp 4, .tmp 5]) GT_ok (sigs_cons f24_ok (by kernel_rfl) (sigs_cons f30_ok (by kernel_rfl) (sigs_cons f32_ok (by kernel_rfl) (sigs_cons f34_ok (by kernel_rfl) (sigs_cons f36_ok (by kernel_rfl) (sigs_cons f41_ok (by kernel_rfl) (sigs_cons f42_ok (by kernel_rfl) sigs_nil))))))) Tryd.func23 (by kernel_rfl) (by kernel_rfl) (by kernel_rfl) (by decide) (by decide) f23_is
@[reducible] noncomputable def sg6 : SigD := ⟨[.data (.sl 37 tInstr), .data (.int .i64)], [], [], ⟨[.data .bool], [], []⟩⟩
@[reducible] noncomputable def sig6 : Sig := gsig sg6 F_law20_PeepBetter
set_option maxRecDepth 100000 in
theorem f6_is : ∀ (x : sg6.X) (vs : List Value), denS GT [(9, sig9), (14, sig14), (15, sig15), (16, sig16), (22, sig22), (23, sig23)] ⟨4, [], [], true, []⟩ ⟨16, [], 16⟩ (bodyOf Tryd.f6) sg6.out.Y (initSt (sg6.pre x) (sg6.heap x) 40 sg6.pin vs) (fun e s => finC GT [.tmp 4] [] sg6.pin [] [] e s sg6.out.dec) = F_law20_PeepBetter x := fun x vs => by kernel_rfl
theorem f6_ok : SigOk Tryd.prog GT.gl 6 sig6 := gfn (Γ := GT) (nt := 40) (rs := [.tmp 4]) GT_ok (sigs_cons f9_ok (by kernel_rfl) (sigs_cons f14_ok (by kernel_rfl) (sigs_cons f15_ok (by kernel_rfl) (sigs_cons f16_ok (by kernel_rfl) (sigs_cons f22_ok (by kernel_rfl) (sigs_cons f23_ok (by kernel_rfl) sigs_nil)))))) Tryd.func6 (by kernel_rfl) (by kernel_rfl) (by kernel_rfl) (by decide) (by decide) f6_is
@[reducible] noncomputable def sg27 : SigD := ⟨[.same (.full 1000 tInstr), .data (.int .i64)], [(1000, .row 37 tInstr false)], [], ⟨[], [], []⟩⟩
@[reducible] noncomputable def sig27 : Sig := gsig sg27 F_book_SpoilCode
set_option maxRecDepth 100000 in
theorem f27_is : ∀ (x : sg27.X) (vs : List Value), denS GT [] ⟨4, [], [], false, []⟩ ⟨0, [], 0⟩ (bodyOf Tryd.f27) sg27.out.Y (initSt (sg27.pre x) (sg27.heap x) 21 sg27.pin vs) (fun e s => finC GT [] [] sg27.pin [] [] e s sg27.out.dec) = F_book_SpoilCode x := fun x vs => by kernel_rfl
theorem f27_ok : SigOk Tryd.prog GT.gl 27 sig27 := gfn (Γ := GT) (nt := 21) (rs := []) GT_ok sigs_nil Tryd.func27 (by kernel_rfl) (by kernel_rfl) (by kernel_rfl) (by decide) (by decide) f27_is
@[reducible] noncomputable def sg8 : SigD := ⟨[.data (.sl 37 tInstr), .data (.int .i64)], [], [], ⟨[.data .bool], [], []⟩⟩
set_option maxRecDepth 100000 in
theorem f8_is : ∀ (x : sg8.X) (vs : List Value), denS GT [(3, sig3), (4, sig4), (6, sig6), (9, sig9), (10, sig10), (12, sig12), (16, sig16), (17, sig17), (19, sig19), (22, sig22), (27, sig27)] ⟨4, [], [5], true, []⟩ ⟨16, [], 16⟩ (bodyOf Tryd.f8) sg8.out.Y (initSt (sg8.pre x) (sg8.heap x) 75 sg8.pin vs) (fun e s => finC GT [.tmp 4] [] sg8.pin [] [] e s sg8.out.dec) = F_law20_PeepOwn x := fun x vs => by kernel_rfl
theorem f8_h {x : sg8.X} {y : sg8.out.Y} (h : F_law20_PeepOwn x = some y) : FnH Tryd.prog GT.gl 8 (sg8.pre x) (sg8.heap x) (sg8.out.out y).1 (sg8.out.out y).2.1 (sg8.out.out y).2.2 := gfnH (Γ := GT) (nt := 75) (rs := [.tmp 4]) GT_ok (sigs_cons f3_ok (by kernel_rfl) (sigs_cons f4_ok (by kernel_rfl) (sigs_cons f6_ok (by kernel_rfl) (sigs_cons f9_ok (by kernel_rfl) (sigs_cons f10_ok (by kernel_rfl) (sigs_cons f12_ok (by kernel_rfl) (sigs_cons f16_ok (by kernel_rfl) (sigs_cons f17_ok (by kernel_rfl) (sigs_cons f19_ok (by kernel_rfl) (sigs_cons f22_ok (by kernel_rfl) (sigs_cons f27_ok (by kernel_rfl) sigs_nil))))))))))) Tryd.func8 (by kernel_rfl) (by kernel_rfl) (by kernel_rfl) (by decide) (by decide) f8_is h
end Go.Proofs
