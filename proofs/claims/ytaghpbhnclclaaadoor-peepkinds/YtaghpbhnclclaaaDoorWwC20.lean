/- Part of the proof of the law's row: YtaghpbhnclclaaaDoorWwC20. -/
import Derived.Test.YtaghpbhnclclaaaDoorWtC20
import Derived.Test.YtaghpbhnclclaaaDoorWpC20
import Derived.Test.YtaghpbhnclclaaaDoorWsC20
set_option linter.all false
set_option linter.unusedVariables false
set_option linter.unusedSimpArgs false
/-! The functions compute that. -/
namespace Go.Proofs
open Go Go.Abs
@[reducible] noncomputable def sg52 : SigD := ⟨[.data (.int .i64)], [], [], ⟨[.data .bool], [], []⟩⟩
@[reducible] noncomputable def sig52 : Sig := gsig sg52 F_instr_is
set_option maxRecDepth 100000 in
theorem f52_is : ∀ (x : sg52.X) (vs : List Value), denS GT [] ⟨4, [], [], false, []⟩ ⟨4, [], 4⟩ (bodyOf Tryd.f52) sg52.out.Y (initSt (sg52.pre x) (sg52.heap x) 9 sg52.pin vs) (fun e s => finC GT [.tmp 2] [] sg52.pin [] [] e s sg52.out.dec) = F_instr_is x := fun x vs => by kernel_rfl
theorem f52_ok : SigOk Tryd.prog GT.gl 52 sig52 := gfn (Γ := GT) (nt := 9) (rs := [.tmp 2]) GT_ok sigs_nil Tryd.func52 (by kernel_rfl) (by kernel_rfl) (by kernel_rfl) (by decide) (by decide) f52_is
@[reducible] noncomputable def sg54 : SigD := ⟨[.data (.int .i64), .data (.int .i64)], [], [], ⟨[.data .bool], [], []⟩⟩
@[reducible] noncomputable def sig54 : Sig := gsig sg54 F_instr_has
set_option maxRecDepth 100000 in
theorem f54_is : ∀ (x : sg54.X) (vs : List Value), denS GT [] ⟨4, [], [], false, []⟩ ⟨16, [], 16⟩ (bodyOf Tryd.f54) sg54.out.Y (initSt (sg54.pre x) (sg54.heap x) 11 sg54.pin vs) (fun e s => finC GT [.tmp 4] [] sg54.pin [] [] e s sg54.out.dec) = F_instr_has x := fun x vs => by kernel_rfl
theorem f54_ok : SigOk Tryd.prog GT.gl 54 sig54 := gfn (Γ := GT) (nt := 11) (rs := [.tmp 4]) GT_ok sigs_nil Tryd.func54 (by kernel_rfl) (by kernel_rfl) (by kernel_rfl) (by decide) (by decide) f54_is
@[reducible] noncomputable def sg59 : SigD := ⟨[.data tInstr], [], [], ⟨[.data tInstr], [], []⟩⟩
@[reducible] noncomputable def sig59 : Sig := gsig sg59 F_instr_plain
set_option maxRecDepth 100000 in
theorem f59_is : ∀ (x : sg59.X) (vs : List Value), denS GT [(54, sig54)] ⟨4, [], [], false, []⟩ ⟨4, [], 4⟩ (bodyOf Tryd.f59) sg59.out.Y (initSt (sg59.pre x) (sg59.heap x) 38 sg59.pin vs) (fun e s => finC GT [.cell 2 37] [] sg59.pin [] [] e s sg59.out.dec) = F_instr_plain x := fun x vs => by kernel_rfl
theorem f59_ok : SigOk Tryd.prog GT.gl 59 sig59 := gfn (Γ := GT) (nt := 38) (rs := [.cell 2 37]) GT_ok (sigs_cons f54_ok (by kernel_rfl) sigs_nil) Tryd.func59 (by kernel_rfl) (by kernel_rfl) (by kernel_rfl) (by decide) (by decide) f59_is
@[reducible] noncomputable def sg77 : SigD := ⟨[.data (.int .i64)], [], [], ⟨[.data (.int .i64)], [], []⟩⟩
@[reducible] noncomputable def sig77 : Sig := gsig sg77 F_tree_Arity
set_option maxRecDepth 100000 in
theorem f77_is : ∀ (x : sg77.X) (vs : List Value), denS GT [] ⟨4, [], [], false, []⟩ ⟨4, [], 4⟩ (bodyOf Tryd.f77) sg77.out.Y (initSt (sg77.pre x) (sg77.heap x) 28 sg77.pin vs) (fun e s => finC GT [.tmp 2] [] sg77.pin [] [] e s sg77.out.dec) = F_tree_Arity x := fun x vs => by kernel_rfl
theorem f77_ok : SigOk Tryd.prog GT.gl 77 sig77 := gfn (Γ := GT) (nt := 28) (rs := [.tmp 2]) GT_ok sigs_nil Tryd.func77 (by kernel_rfl) (by kernel_rfl) (by kernel_rfl) (by decide) (by decide) f77_is
@[reducible] noncomputable def sg87 : SigD := ⟨[.data (.int .i64)], [], [], ⟨[.data .bool], [], []⟩⟩
@[reducible] noncomputable def sig87 : Sig := gsig sg87 F_tree_counted
set_option maxRecDepth 100000 in
theorem f87_is : ∀ (x : sg87.X) (vs : List Value), denS GT [] ⟨4, [], [], false, []⟩ ⟨4, [], 4⟩ (bodyOf Tryd.f87) sg87.out.Y (initSt (sg87.pre x) (sg87.heap x) 13 sg87.pin vs) (fun e s => finC GT [.tmp 2] [] sg87.pin [] [] e s sg87.out.dec) = F_tree_counted x := fun x vs => by kernel_rfl
theorem f87_ok : SigOk Tryd.prog GT.gl 87 sig87 := gfn (Γ := GT) (nt := 13) (rs := [.tmp 2]) GT_ok sigs_nil Tryd.func87 (by kernel_rfl) (by kernel_rfl) (by kernel_rfl) (by decide) (by decide) f87_is
@[reducible] noncomputable def sg93 : SigD := ⟨[.data (.int .u8)], [], [], ⟨[.data .bool], [], []⟩⟩
@[reducible] noncomputable def sig93 : Sig := gsig sg93 F_tree_isHead
set_option maxRecDepth 100000 in
theorem f93_is : ∀ (x : sg93.X) (vs : List Value), denS GT [] ⟨4, [], [], false, []⟩ ⟨4, [], 4⟩ (bodyOf Tryd.f93) sg93.out.Y (initSt (sg93.pre x) (sg93.heap x) 19 sg93.pin vs) (fun e s => finC GT [.tmp 2] [] sg93.pin [] [] e s sg93.out.dec) = F_tree_isHead x := fun x vs => by kernel_rfl
theorem f93_ok : SigOk Tryd.prog GT.gl 93 sig93 := gfn (Γ := GT) (nt := 19) (rs := [.tmp 2]) GT_ok sigs_nil Tryd.func93 (by kernel_rfl) (by kernel_rfl) (by kernel_rfl) (by decide) (by decide) f93_is
@[reducible] noncomputable def sg88 : SigD := ⟨[.data .str], [], [], ⟨[.data .bool], [], []⟩⟩
@[reducible] noncomputable def sig88 : Sig := gsig sg88 F_tree_isName
set_option maxRecDepth 100000 in
theorem f88_is : ∀ (x : sg88.X) (vs : List Value), denS GT [(93, sig93)] ⟨4, [], [], false, []⟩ ⟨4, [], 4⟩ (bodyOf Tryd.f88) sg88.out.Y (initSt (sg88.pre x) (sg88.heap x) 40 sg88.pin vs) (fun e s => finC GT [.tmp 2] [] sg88.pin [] [] e s sg88.out.dec) = F_tree_isName x := fun x vs => by kernel_rfl
theorem f88_ok : SigOk Tryd.prog GT.gl 88 sig88 := gfn (Γ := GT) (nt := 40) (rs := [.tmp 2]) GT_ok (sigs_cons f93_ok (by kernel_rfl) sigs_nil) Tryd.func88 (by kernel_rfl) (by kernel_rfl) (by kernel_rfl) (by decide) (by decide) f88_is
@[reducible] noncomputable def sg89 : SigD := ⟨[.data .str], [], [], ⟨[.data .bool], [], []⟩⟩
@[reducible] noncomputable def sig89 : Sig := gsig sg89 F_tree_isTemplate
set_option maxRecDepth 100000 in
theorem f89_is : ∀ (x : sg89.X) (vs : List Value), denS GT [] ⟨4, [], [], false, []⟩ ⟨4, [], 4⟩ (bodyOf Tryd.f89) sg89.out.Y (initSt (sg89.pre x) (sg89.heap x) 41 sg89.pin vs) (fun e s => finC GT [.tmp 2] [] sg89.pin [] [] e s sg89.out.dec) = F_tree_isTemplate x := fun x vs => by kernel_rfl
theorem f89_ok : SigOk Tryd.prog GT.gl 89 sig89 := gfn (Γ := GT) (nt := 41) (rs := [.tmp 2]) GT_ok sigs_nil Tryd.func89 (by kernel_rfl) (by kernel_rfl) (by kernel_rfl) (by decide) (by decide) f89_is
@[reducible] noncomputable def sg78 : SigD := ⟨[.data tNode], [], [], ⟨[.data .bool], [], []⟩⟩
@[reducible] noncomputable def sig78 : Sig := gsig sg78 F_tree_fields
set_option maxRecDepth 100000 in
theorem f78_is : ∀ (x : sg78.X) (vs : List Value), denS GT [(87, sig87), (88, sig88), (89, sig89)] ⟨4, [], [], false, []⟩ ⟨4, [], 4⟩ (bodyOf Tryd.f78) sg78.out.Y (initSt (sg78.pre x) (sg78.heap x) 67 sg78.pin vs) (fun e s => finC GT [.tmp 2] [] sg78.pin [] [] e s sg78.out.dec) = F_tree_fields x := fun x vs => by kernel_rfl
theorem f78_ok : SigOk Tryd.prog GT.gl 78 sig78 := gfn (Γ := GT) (nt := 67) (rs := [.tmp 2]) GT_ok (sigs_cons f87_ok (by kernel_rfl) (sigs_cons f88_ok (by kernel_rfl) (sigs_cons f89_ok (by kernel_rfl) sigs_nil))) Tryd.func78 (by kernel_rfl) (by kernel_rfl) (by kernel_rfl) (by decide) (by decide) f78_is
@[reducible] noncomputable def sg91 : SigD := ⟨[.data (.int .i64), .data tshape], [], [], ⟨[], [], []⟩⟩
@[reducible] noncomputable def sig91 : Sig := gsig sg91 F_tree_Check_1
set_option maxRecDepth 100000 in
theorem f91_is : ∀ (x : sg91.X) (vs : List Value), denS GT [] ⟨4, [], [], false, []⟩ ⟨0, [], 0⟩ (bodyOf Tryd.f91) sg91.out.Y (initSt (sg91.pre x) (sg91.heap x) 4 sg91.pin vs) (fun e s => finC GT [] [] sg91.pin [] [] e s sg91.out.dec) = F_tree_Check_1 x := fun x vs => by kernel_rfl
theorem f91_ok : SigOk Tryd.prog GT.gl 91 sig91 := gfn (Γ := GT) (nt := 4) (rs := []) GT_ok sigs_nil Tryd.func91 (by kernel_rfl) (by kernel_rfl) (by kernel_rfl) (by decide) (by decide) f91_is
@[reducible] noncomputable def sg90_chk : SigD := ⟨[.data (.sl 63 tNode), .same (.fn 91 [])], [], [], ⟨[.data (.int .i64), .data (.int .i64)], [], []⟩⟩
@[reducible] noncomputable def sig90_chk : Sig := gsig sg90_chk F_tree_each_chk
set_option maxRecDepth 100000 in
theorem f90_chk_is : ∀ (x : sg90_chk.X) (vs : List Value), denS GT [(77, sig77), (78, sig78), (91, sig91)] ⟨4, [], [], false, []⟩ ⟨48, [], 48⟩ (bodyOf Tryd.f90) sg90_chk.out.Y (initSt (sg90_chk.pre x) (sg90_chk.heap x) 108 sg90_chk.pin vs) (fun e s => finC GT [.tmp 4, .tmp 5] [] sg90_chk.pin [] [] e s sg90_chk.out.dec) = F_tree_each_chk x := fun x vs => by kernel_rfl
theorem f90_chk_ok : SigOk Tryd.prog GT.gl 90 sig90_chk := gfn (Γ := GT) (nt := 108) (rs := [.tmp 4, .tmp 5]) GT_ok (sigs_cons f77_ok (by kernel_rfl) (sigs_cons f78_ok (by kernel_rfl) (sigs_cons f91_ok (by kernel_rfl) sigs_nil))) Tryd.func90 (by kernel_rfl) (by kernel_rfl) (by kernel_rfl) (by decide) (by decide) f90_chk_is
@[reducible] noncomputable def sg79 : SigD := ⟨[.data (.sl 63 tNode)], [], [], ⟨[.data (.int .i64), .data (.int .i64)], [], []⟩⟩
@[reducible] noncomputable def sig79 : Sig := gsig sg79 F_tree_Check
set_option maxRecDepth 100000 in
theorem f79_is : ∀ (x : sg79.X) (vs : List Value), denS GT [(90, sig90_chk), (91, sig91)] ⟨4, [], [], false, []⟩ ⟨12, [], 12⟩ (bodyOf Tryd.f79) sg79.out.Y (initSt (sg79.pre x) (sg79.heap x) 11 sg79.pin vs) (fun e s => finC GT [.tmp 2, .tmp 3] [] sg79.pin [] [] e s sg79.out.dec) = F_tree_Check x := fun x vs => by kernel_rfl
theorem f79_ok : SigOk Tryd.prog GT.gl 79 sig79 := gfn (Γ := GT) (nt := 11) (rs := [.tmp 2, .tmp 3]) GT_ok (sigs_cons f90_chk_ok (by kernel_rfl) (sigs_cons f91_ok (by kernel_rfl) sigs_nil)) Tryd.func79 (by kernel_rfl) (by kernel_rfl) (by kernel_rfl) (by decide) (by decide) f79_is
@[reducible] noncomputable def sg80 : SigD := ⟨[.same (.full 1000 tNode)], [(1000, .row 63 tNode false)], [], ⟨[.full 2 tNode, .data (.int .i64)], [(2, .row 63 tNode false)], []⟩⟩
@[reducible] noncomputable def sig80 : Sig := gsig sg80 F_tree_checked
set_option maxRecDepth 100000 in
theorem f80_is : ∀ (x : sg80.X) (vs : List Value), denS GT [(79, sig79)] ⟨4, [], [], false, []⟩ ⟨12, [], 12⟩ (bodyOf Tryd.f80) sg80.out.Y (initSt (sg80.pre x) (sg80.heap x) 15 sg80.pin vs) (fun e s => finC GT [.tmp 2, .tmp 3] [] sg80.pin [] [] e s sg80.out.dec) = F_tree_checked x := fun x vs => by kernel_rfl
theorem f80_ok : SigOk Tryd.prog GT.gl 80 sig80 := gfn (Γ := GT) (nt := 15) (rs := [.tmp 2, .tmp 3]) GT_ok (sigs_cons f79_ok (by kernel_rfl) sigs_nil) Tryd.func80 (by kernel_rfl) (by kernel_rfl) (by kernel_rfl) (by decide) (by decide) f80_is
@[reducible] noncomputable def sg65 : SigD := ⟨[.data tNode, .data (.sl 65 (.sl 63 tNode))], [], [], ⟨[.full 4 tNode, .data (.int .i64)], [(4, .row 63 tNode false)], []⟩⟩
@[reducible] noncomputable def sig65 : Sig := gsig sg65 F_tree_Join
set_option maxRecDepth 100000 in
theorem f65_is : ∀ (x : sg65.X) (vs : List Value), denS GT [(77, sig77), (78, sig78), (79, sig79), (80, sig80)] ⟨4, [], [], false, []⟩ ⟨48, [], 48⟩ (bodyOf Tryd.f65) sg65.out.Y (initSt (sg65.pre x) (sg65.heap x) 52 sg65.pin vs) (fun e s => finC GT [.tmp 4, .tmp 5] [] sg65.pin [] [] e s sg65.out.dec) = F_tree_Join x := fun x vs => by kernel_rfl
theorem f65_ok : SigOk Tryd.prog GT.gl 65 sig65 := gfn (Γ := GT) (nt := 52) (rs := [.tmp 4, .tmp 5]) GT_ok (sigs_cons f77_ok (by kernel_rfl) (sigs_cons f78_ok (by kernel_rfl) (sigs_cons f79_ok (by kernel_rfl) (sigs_cons f80_ok (by kernel_rfl) sigs_nil)))) Tryd.func65 (by kernel_rfl) (by kernel_rfl) (by kernel_rfl) (by decide) (by decide) f65_is
@[reducible] noncomputable def sg60 : SigD := ⟨[.data (.int .i64), .data (.int .i64), .data .str], [], [], ⟨[.data .bool], [], []⟩⟩
@[reducible] noncomputable def sig60 : Sig := gsig sg60 F_instr_capture
set_option maxRecDepth 100000 in
theorem f60_is : ∀ (x : sg60.X) (vs : List Value), denS GT [(65, sig65)] ⟨4, [], [], false, []⟩ ⟨64, [], 64⟩ (bodyOf Tryd.f60) sg60.out.Y (initSt (sg60.pre x) (sg60.heap x) 34 sg60.pin vs) (fun e s => finC GT [.tmp 6] [] sg60.pin [] [] e s sg60.out.dec) = F_instr_capture x := fun x vs => by kernel_rfl
theorem f60_ok : SigOk Tryd.prog GT.gl 60 sig60 := gfn (Γ := GT) (nt := 34) (rs := [.tmp 6]) GT_ok (sigs_cons f65_ok (by kernel_rfl) sigs_nil) Tryd.func60 (by kernel_rfl) (by kernel_rfl) (by kernel_rfl) (by decide) (by decide) f60_is
@[reducible] noncomputable def sg53 : SigD := ⟨[.data tInstr], [], [], ⟨[.data .bool], [], []⟩⟩
@[reducible] noncomputable def sig53 : Sig := gsig sg53 F_instr_fits
set_option maxRecDepth 100000 in
theorem f53_is : ∀ (x : sg53.X) (vs : List Value), denS GT [(59, sig59), (60, sig60)] ⟨4, [], [], false, []⟩ ⟨4, [], 4⟩ (bodyOf Tryd.f53) sg53.out.Y (initSt (sg53.pre x) (sg53.heap x) 76 sg53.pin vs) (fun e s => finC GT [.tmp 2] [] sg53.pin [] [] e s sg53.out.dec) = F_instr_fits x := fun x vs => by kernel_rfl
theorem f53_ok : SigOk Tryd.prog GT.gl 53 sig53 := gfn (Γ := GT) (nt := 76) (rs := [.tmp 2]) GT_ok (sigs_cons f59_ok (by kernel_rfl) (sigs_cons f60_ok (by kernel_rfl) sigs_nil)) Tryd.func53 (by kernel_rfl) (by kernel_rfl) (by kernel_rfl) (by decide) (by decide) f53_is
@[reducible] noncomputable def sg37 : SigD := ⟨[.data (.sl 37 tInstr)], [], [], ⟨[.data (.int .i64), .data (.int .i64)], [], []⟩⟩
@[reducible] noncomputable def sig37 : Sig := gsig sg37 F_instr_Check
set_option maxRecDepth 100000 in
theorem f37_is : ∀ (x : sg37.X) (vs : List Value), denS GT [(52, sig52), (53, sig53), (54, sig54)] ⟨4, [], [], false, []⟩ ⟨12, [], 12⟩ (bodyOf Tryd.f37) sg37.out.Y (initSt (sg37.pre x) (sg37.heap x) 63 sg37.pin vs) (fun e s => finC GT [.tmp 2, .tmp 3] [] sg37.pin [] [] e s sg37.out.dec) = F_instr_Check x := fun x vs => by kernel_rfl
theorem f37_ok : SigOk Tryd.prog GT.gl 37 sig37 := gfn (Γ := GT) (nt := 63) (rs := [.tmp 2, .tmp 3]) GT_ok (sigs_cons f52_ok (by kernel_rfl) (sigs_cons f53_ok (by kernel_rfl) (sigs_cons f54_ok (by kernel_rfl) sigs_nil))) Tryd.func37 (by kernel_rfl) (by kernel_rfl) (by kernel_rfl) (by decide) (by decide) f37_is
@[reducible] noncomputable def sg55 : SigD := ⟨[.same (.full 1000 (.int .i64))], [(1000, .row 3 (.int .i64) false)], [0], ⟨[], [(1000, .row 3 (.int .i64) false)], [(0, .full 1000 (.int .i64))]⟩⟩
@[reducible] noncomputable def sig55 : Sig := gsig sg55 F_slices_Sort_int_int
theorem f55_ok : SigOk Tryd.prog GT.gl 55 sig55 := sort_sig sort_lays (by kernel_rfl)
@[reducible] noncomputable def sg38 : SigD := ⟨[.data (.sl 37 tInstr), .data (.int .i64)], [], [], ⟨[.full 4 (.int .i64)], [(4, .row 3 (.int .i64) false)], []⟩⟩
@[reducible] noncomputable def sig38 : Sig := gsig sg38 F_instr_goes
set_option maxRecDepth 100000 in
theorem f38_is : ∀ (x : sg38.X) (vs : List Value), denS GT [(54, sig54), (55, sig55)] ⟨4, [], [], true, []⟩ ⟨16, [], 16⟩ (bodyOf Tryd.f38) sg38.out.Y (initSt (sg38.pre x) (sg38.heap x) 43 sg38.pin vs) (fun e s => finC GT [.tmp 4] [] sg38.pin [] [] e s sg38.out.dec) = F_instr_goes x := fun x vs => by kernel_rfl
theorem f38_ok : SigOk Tryd.prog GT.gl 38 sig38 := gfn (Γ := GT) (nt := 43) (rs := [.tmp 4]) GT_ok (sigs_cons f54_ok (by kernel_rfl) (sigs_cons f55_ok (by kernel_rfl) sigs_nil)) Tryd.func38 (by kernel_rfl) (by kernel_rfl) (by kernel_rfl) (by decide) (by decide) f38_is
@[reducible] noncomputable def sg21 : SigD := ⟨[.data (.sl 37 tInstr)], [], [], ⟨[.full 2 .bool, .data (.int .i64)], [(2, .row 4 .bool false)], []⟩⟩
@[reducible] noncomputable def sig21 : Sig := gsig sg21 F_instr_Live
set_option maxRecDepth 100000 in
theorem f21_is : ∀ (x : sg21.X) (vs : List Value), denS GT [(37, sig37), (38, sig38)] ⟨4, [7], [], true, []⟩ ⟨12, [], 12⟩ (bodyOf Tryd.f21) sg21.out.Y (initSt (sg21.pre x) (sg21.heap x) 49 sg21.pin vs) (fun e s => finC GT [.tmp 2, .tmp 3] [] sg21.pin [] [] e s sg21.out.dec) = F_instr_Live x := fun x vs => by kernel_rfl
theorem f21_ok : SigOk Tryd.prog GT.gl 21 sig21 := gfn (Γ := GT) (nt := 49) (rs := [.tmp 2, .tmp 3]) GT_ok (sigs_cons f37_ok (by kernel_rfl) (sigs_cons f38_ok (by kernel_rfl) sigs_nil)) Tryd.func21 (by kernel_rfl) (by kernel_rfl) (by kernel_rfl) (by decide) (by decide) f21_is
@[reducible] noncomputable def sg49 : SigD := ⟨[.data (.int .i64)], [], [], ⟨[.data .bool], [], []⟩⟩
@[reducible] noncomputable def sig49 : Sig := gsig sg49 F_peep_goes
set_option maxRecDepth 100000 in
theorem f49_is : ∀ (x : sg49.X) (vs : List Value), denS GT [] ⟨4, [], [], true, []⟩ ⟨4, [], 4⟩ (bodyOf Tryd.f49) sg49.out.Y (initSt (sg49.pre x) (sg49.heap x) 14 sg49.pin vs) (fun e s => finC GT [.tmp 2] [] sg49.pin [] [] e s sg49.out.dec) = F_peep_goes x := fun x vs => by kernel_rfl
theorem f49_ok : SigOk Tryd.prog GT.gl 49 sig49 := gfn (Γ := GT) (nt := 14) (rs := [.tmp 2]) GT_ok sigs_nil Tryd.func49 (by kernel_rfl) (by kernel_rfl) (by kernel_rfl) (by decide) (by decide) f49_is
@[reducible] noncomputable def sg46 : SigD := ⟨[.data (.sl 37 tInstr), .data (.sl 4 .bool)], [], [], ⟨[.full 4 tInstr], [(4, .row 37 tInstr false)], []⟩⟩
@[reducible] noncomputable def sig46 : Sig := gsig sg46 F_peep_without
set_option maxRecDepth 100000 in
theorem f46_is : ∀ (x : sg46.X) (vs : List Value), denS GT [(49, sig49)] ⟨4, [], [], true, []⟩ ⟨16, [], 16⟩ (bodyOf Tryd.f46) sg46.out.Y (initSt (sg46.pre x) (sg46.heap x) 79 sg46.pin vs) (fun e s => finC GT [.tmp 4] [] sg46.pin [] [] e s sg46.out.dec) = F_peep_without x := fun x vs => by kernel_rfl
theorem f46_ok : SigOk Tryd.prog GT.gl 46 sig46 := gfn (Γ := GT) (nt := 79) (rs := [.tmp 4]) GT_ok (sigs_cons f49_ok (by kernel_rfl) sigs_nil) Tryd.func46 (by kernel_rfl) (by kernel_rfl) (by kernel_rfl) (by decide) (by decide) f46_is
@[reducible] noncomputable def sg29 : SigD := ⟨[.data (.sl 37 tInstr)], [], [], ⟨[.full 2 tInstr], [(2, .row 37 tInstr false)], []⟩⟩
@[reducible] noncomputable def sig29 : Sig := gsig sg29 F_peep_dead
set_option maxRecDepth 100000 in
theorem f29_is : ∀ (x : sg29.X) (vs : List Value), denS GT [(21, sig21), (46, sig46)] ⟨4, [], [], true, []⟩ ⟨4, [], 4⟩ (bodyOf Tryd.f29) sg29.out.Y (initSt (sg29.pre x) (sg29.heap x) 32 sg29.pin vs) (fun e s => finC GT [.tmp 2] [] sg29.pin [] [] e s sg29.out.dec) = F_peep_dead x := fun x vs => by kernel_rfl
theorem f29_ok : SigOk Tryd.prog GT.gl 29 sig29 := gfn (Γ := GT) (nt := 32) (rs := [.tmp 2]) GT_ok (sigs_cons f21_ok (by kernel_rfl) (sigs_cons f46_ok (by kernel_rfl) sigs_nil)) Tryd.func29 (by kernel_rfl) (by kernel_rfl) (by kernel_rfl) (by decide) (by decide) f29_is
@[reducible] noncomputable def sg28_dead : SigD := ⟨[.data (.sl 37 tInstr), .same (.fn 29 [])], [], [], ⟨[.full 4 tInstr, .data (.int .i64)], [(4, .row 37 tInstr false)], []⟩⟩
@[reducible] noncomputable def sig28_dead : Sig := gsig sg28_dead F_peep_on_dead
set_option maxRecDepth 100000 in
theorem f28_dead_is : ∀ (x : sg28_dead.X) (vs : List Value), denS GT [(37, sig37), (29, sig29)] ⟨4, [], [], true, []⟩ ⟨48, [], 48⟩ (bodyOf Tryd.f28) sg28_dead.out.Y (initSt (sg28_dead.pre x) (sg28_dead.heap x) 19 sg28_dead.pin vs) (fun e s => finC GT [.tmp 4, .tmp 5] [] sg28_dead.pin [] [] e s sg28_dead.out.dec) = F_peep_on_dead x := fun x vs => by kernel_rfl
theorem f28_dead_ok : SigOk Tryd.prog GT.gl 28 sig28_dead := gfn (Γ := GT) (nt := 19) (rs := [.tmp 4, .tmp 5]) GT_ok (sigs_cons f37_ok (by kernel_rfl) (sigs_cons f29_ok (by kernel_rfl) sigs_nil)) Tryd.func28 (by kernel_rfl) (by kernel_rfl) (by kernel_rfl) (by decide) (by decide) f28_dead_is
@[reducible] noncomputable def sg10 : SigD := ⟨[.data (.sl 37 tInstr)], [], [], ⟨[.full 2 tInstr, .data (.int .i64)], [(2, .row 37 tInstr false)], []⟩⟩
@[reducible] noncomputable def sig10 : Sig := gsig sg10 F_peep_Dead
set_option maxRecDepth 100000 in
theorem f10_is : ∀ (x : sg10.X) (vs : List Value), denS GT [(28, sig28_dead), (29, sig29)] ⟨4, [], [], true, []⟩ ⟨12, [], 12⟩ (bodyOf Tryd.f10) sg10.out.Y (initSt (sg10.pre x) (sg10.heap x) 8 sg10.pin vs) (fun e s => finC GT [.tmp 2, .tmp 3] [] sg10.pin [] [] e s sg10.out.dec) = F_peep_Dead x := fun x vs => by kernel_rfl
theorem f10_ok : SigOk Tryd.prog GT.gl 10 sig10 := gfn (Γ := GT) (nt := 8) (rs := [.tmp 2, .tmp 3]) GT_ok (sigs_cons f28_dead_ok (by kernel_rfl) (sigs_cons f29_ok (by kernel_rfl) sigs_nil)) Tryd.func10 (by kernel_rfl) (by kernel_rfl) (by kernel_rfl) (by decide) (by decide) f10_is
@[reducible] noncomputable def sg31 : SigD := ⟨[.data (.sl 37 tInstr)], [], [], ⟨[.full 2 tInstr], [(2, .row 37 tInstr false)], []⟩⟩
@[reducible] noncomputable def sig31 : Sig := gsig sg31 F_peep_hops
set_option maxRecDepth 100000 in
theorem f31_is : ∀ (x : sg31.X) (vs : List Value), denS GT [(46, sig46)] ⟨4, [], [], true, []⟩ ⟨4, [], 4⟩ (bodyOf Tryd.f31) sg31.out.Y (initSt (sg31.pre x) (sg31.heap x) 31 sg31.pin vs) (fun e s => finC GT [.tmp 2] [] sg31.pin [] [] e s sg31.out.dec) = F_peep_hops x := fun x vs => by kernel_rfl
theorem f31_ok : SigOk Tryd.prog GT.gl 31 sig31 := gfn (Γ := GT) (nt := 31) (rs := [.tmp 2]) GT_ok (sigs_cons f46_ok (by kernel_rfl) sigs_nil) Tryd.func31 (by kernel_rfl) (by kernel_rfl) (by kernel_rfl) (by decide) (by decide) f31_is
@[reducible] noncomputable def sg28_hops : SigD := ⟨[.data (.sl 37 tInstr), .same (.fn 31 [])], [], [], ⟨[.full 4 tInstr, .data (.int .i64)], [(4, .row 37 tInstr false)], []⟩⟩
@[reducible] noncomputable def sig28_hops : Sig := gsig sg28_hops F_peep_on_hops
set_option maxRecDepth 100000 in
theorem f28_hops_is : ∀ (x : sg28_hops.X) (vs : List Value), denS GT [(37, sig37), (31, sig31)] ⟨4, [], [], true, []⟩ ⟨48, [], 48⟩ (bodyOf Tryd.f28) sg28_hops.out.Y (initSt (sg28_hops.pre x) (sg28_hops.heap x) 19 sg28_hops.pin vs) (fun e s => finC GT [.tmp 4, .tmp 5] [] sg28_hops.pin [] [] e s sg28_hops.out.dec) = F_peep_on_hops x := fun x vs => by kernel_rfl
theorem f28_hops_ok : SigOk Tryd.prog GT.gl 28 sig28_hops := gfn (Γ := GT) (nt := 19) (rs := [.tmp 4, .tmp 5]) GT_ok (sigs_cons f37_ok (by kernel_rfl) (sigs_cons f31_ok (by kernel_rfl) sigs_nil)) Tryd.func28 (by kernel_rfl) (by kernel_rfl) (by kernel_rfl) (by decide) (by decide) f28_hops_is
@[reducible] noncomputable def sg12 : SigD := ⟨[.data (.sl 37 tInstr)], [], [], ⟨[.full 2 tInstr, .data (.int .i64)], [(2, .row 37 tInstr false)], []⟩⟩
@[reducible] noncomputable def sig12 : Sig := gsig sg12 F_peep_Hops
set_option maxRecDepth 100000 in
theorem f12_is : ∀ (x : sg12.X) (vs : List Value), denS GT [(28, sig28_hops), (31, sig31)] ⟨4, [], [], true, []⟩ ⟨12, [], 12⟩ (bodyOf Tryd.f12) sg12.out.Y (initSt (sg12.pre x) (sg12.heap x) 8 sg12.pin vs) (fun e s => finC GT [.tmp 2, .tmp 3] [] sg12.pin [] [] e s sg12.out.dec) = F_peep_Hops x := fun x vs => by kernel_rfl
theorem f12_ok : SigOk Tryd.prog GT.gl 12 sig12 := gfn (Γ := GT) (nt := 8) (rs := [.tmp 2, .tmp 3]) GT_ok (sigs_cons f28_hops_ok (by kernel_rfl) (sigs_cons f31_ok (by kernel_rfl) sigs_nil)) Tryd.func12 (by kernel_rfl) (by kernel_rfl) (by kernel_rfl) (by decide) (by decide) f12_is
@[reducible] noncomputable def sg14 : SigD := ⟨[], [], [], ⟨[.data .bool], [], []⟩⟩
@[reducible] noncomputable def sig14 : Sig := gsig sg14 F_law20_lives
set_option maxRecDepth 100000 in
theorem f14_is : ∀ (x : sg14.X) (vs : List Value), denS GT [(10, sig10)] ⟨4, [], [], true, []⟩ ⟨1, [], 1⟩ (bodyOf Tryd.f14) sg14.out.Y (initSt (sg14.pre x) (sg14.heap x) 24 sg14.pin vs) (fun e s => finC GT [.tmp 0] [] sg14.pin [] [] e s sg14.out.dec) = F_law20_lives x := fun x vs => by kernel_rfl
theorem f14_ok : SigOk Tryd.prog GT.gl 14 sig14 := gfn (Γ := GT) (nt := 24) (rs := [.tmp 0]) GT_ok (sigs_cons f10_ok (by kernel_rfl) sigs_nil) Tryd.func14 (by kernel_rfl) (by kernel_rfl) (by kernel_rfl) (by decide) (by decide) f14_is
@[reducible] noncomputable def sg39 : SigD := ⟨[.data (.sl 37 tInstr)], [], [], ⟨[.full 2 tInstr], [(2, .row 37 tInstr false)], []⟩⟩
@[reducible] noncomputable def sig39 : Sig := gsig sg39 F_slices_Clone_Instr_Instr
set_option maxRecDepth 100000 in
theorem f39_is : ∀ (x : sg39.X) (vs : List Value), denS GT [] ⟨4, [], [], true, []⟩ ⟨4, [], 4⟩ (bodyOf Tryd.f39) sg39.out.Y (initSt (sg39.pre x) (sg39.heap x) 8 sg39.pin vs) (fun e s => finC GT [.tmp 2] [] sg39.pin [] [] e s sg39.out.dec) = F_slices_Clone_Instr_Instr x := fun x vs => by kernel_rfl
theorem f39_ok : SigOk Tryd.prog GT.gl 39 sig39 := gfn (Γ := GT) (nt := 8) (rs := [.tmp 2]) GT_ok sigs_nil Tryd.func39 (by kernel_rfl) (by kernel_rfl) (by kernel_rfl) (by decide) (by decide) f39_is
@[reducible] noncomputable def sg33 : SigD := ⟨[.data (.sl 37 tInstr)], [], [], ⟨[.full 2 tInstr], [(2, .row 37 tInstr false)], []⟩⟩
@[reducible] noncomputable def sig33 : Sig := gsig sg33 F_peep_tails
set_option maxRecDepth 100000 in
theorem f33_is : ∀ (x : sg33.X) (vs : List Value), denS GT [(39, sig39)] ⟨4, [], [], true, []⟩ ⟨4, [], 4⟩ (bodyOf Tryd.f33) sg33.out.Y (initSt (sg33.pre x) (sg33.heap x) 33 sg33.pin vs) (fun e s => finC GT [.tmp 2] [] sg33.pin [] [] e s sg33.out.dec) = F_peep_tails x := fun x vs => by kernel_rfl
theorem f33_ok : SigOk Tryd.prog GT.gl 33 sig33 := gfn (Γ := GT) (nt := 33) (rs := [.tmp 2]) GT_ok (sigs_cons f39_ok (by kernel_rfl) sigs_nil) Tryd.func33 (by kernel_rfl) (by kernel_rfl) (by kernel_rfl) (by decide) (by decide) f33_is
@[reducible] noncomputable def sg28_tails : SigD := ⟨[.data (.sl 37 tInstr), .same (.fn 33 [])], [], [], ⟨[.full 4 tInstr, .data (.int .i64)], [(4, .row 37 tInstr false)], []⟩⟩
@[reducible] noncomputable def sig28_tails : Sig := gsig sg28_tails F_peep_on_tails
set_option maxRecDepth 100000 in
theorem f28_tails_is : ∀ (x : sg28_tails.X) (vs : List Value), denS GT [(37, sig37), (33, sig33)] ⟨4, [], [], true, []⟩ ⟨48, [], 48⟩ (bodyOf Tryd.f28) sg28_tails.out.Y (initSt (sg28_tails.pre x) (sg28_tails.heap x) 19 sg28_tails.pin vs) (fun e s => finC GT [.tmp 4, .tmp 5] [] sg28_tails.pin [] [] e s sg28_tails.out.dec) = F_peep_on_tails x := fun x vs => by kernel_rfl
theorem f28_tails_ok : SigOk Tryd.prog GT.gl 28 sig28_tails := gfn (Γ := GT) (nt := 19) (rs := [.tmp 4, .tmp 5]) GT_ok (sigs_cons f37_ok (by kernel_rfl) (sigs_cons f33_ok (by kernel_rfl) sigs_nil)) Tryd.func28 (by kernel_rfl) (by kernel_rfl) (by kernel_rfl) (by decide) (by decide) f28_tails_is
@[reducible] noncomputable def sg17 : SigD := ⟨[.data (.sl 37 tInstr)], [], [], ⟨[.full 2 tInstr, .data (.int .i64)], [(2, .row 37 tInstr false)], []⟩⟩
@[reducible] noncomputable def sig17 : Sig := gsig sg17 F_peep_Tails
set_option maxRecDepth 100000 in
theorem f17_is : ∀ (x : sg17.X) (vs : List Value), denS GT [(28, sig28_tails), (33, sig33)] ⟨4, [], [], true, []⟩ ⟨12, [], 12⟩ (bodyOf Tryd.f17) sg17.out.Y (initSt (sg17.pre x) (sg17.heap x) 8 sg17.pin vs) (fun e s => finC GT [.tmp 2, .tmp 3] [] sg17.pin [] [] e s sg17.out.dec) = F_peep_Tails x := fun x vs => by kernel_rfl
theorem f17_ok : SigOk Tryd.prog GT.gl 17 sig17 := gfn (Γ := GT) (nt := 8) (rs := [.tmp 2, .tmp 3]) GT_ok (sigs_cons f28_tails_ok (by kernel_rfl) (sigs_cons f33_ok (by kernel_rfl) sigs_nil)) Tryd.func17 (by kernel_rfl) (by kernel_rfl) (by kernel_rfl) (by decide) (by decide) f17_is
@[reducible] noncomputable def sg50 : SigD := ⟨[.data (.sl 37 tInstr), .data (.int .i64)], [], [], ⟨[.data (.int .i64), .data .bool], [], []⟩⟩
@[reducible] noncomputable def sig50 : Sig := gsig sg50 F_peep_end
set_option maxRecDepth 100000 in
theorem f50_is : ∀ (x : sg50.X) (vs : List Value), denS GT [] ⟨4, [], [], true, []⟩ ⟨48, [], 48⟩ (bodyOf Tryd.f50) sg50.out.Y (initSt (sg50.pre x) (sg50.heap x) 34 sg50.pin vs) (fun e s => finC GT [.tmp 4, .tmp 5] [] sg50.pin [] [] e s sg50.out.dec) = F_peep_end x := fun x vs => by kernel_rfl
theorem f50_ok : SigOk Tryd.prog GT.gl 50 sig50 := gfn (Γ := GT) (nt := 34) (rs := [.tmp 4, .tmp 5]) GT_ok sigs_nil Tryd.func50 (by kernel_rfl) (by kernel_rfl) (by kernel_rfl) (by decide) (by decide) f50_is
@[reducible] noncomputable def sg35 : SigD := ⟨[.data (.sl 37 tInstr)], [], [], ⟨[.full 2 tInstr], [(2, .row 37 tInstr false)], []⟩⟩
@[reducible] noncomputable def sig35 : Sig := gsig sg35 F_peep_threads
set_option maxRecDepth 100000 in
theorem f35_is : ∀ (x : sg35.X) (vs : List Value), denS GT [(39, sig39), (49, sig49), (50, sig50)] ⟨4, [], [], true, []⟩ ⟨4, [], 4⟩ (bodyOf Tryd.f35) sg35.out.Y (initSt (sg35.pre x) (sg35.heap x) 58 sg35.pin vs) (fun e s => finC GT [.tmp 2] [] sg35.pin [] [] e s sg35.out.dec) = F_peep_threads x := fun x vs => by kernel_rfl
theorem f35_ok : SigOk Tryd.prog GT.gl 35 sig35 := gfn (Γ := GT) (nt := 58) (rs := [.tmp 2]) GT_ok (sigs_cons f39_ok (by kernel_rfl) (sigs_cons f49_ok (by kernel_rfl) (sigs_cons f50_ok (by kernel_rfl) sigs_nil))) Tryd.func35 (by kernel_rfl) (by kernel_rfl) (by kernel_rfl) (by decide) (by decide) f35_is
@[reducible] noncomputable def sg28_threads : SigD := ⟨[.data (.sl 37 tInstr), .same (.fn 35 [])], [], [], ⟨[.full 4 tInstr, .data (.int .i64)], [(4, .row 37 tInstr false)], []⟩⟩
@[reducible] noncomputable def sig28_threads : Sig := gsig sg28_threads F_peep_on_threads
set_option maxRecDepth 100000 in
theorem f28_threads_is : ∀ (x : sg28_threads.X) (vs : List Value), denS GT [(37, sig37), (35, sig35)] ⟨4, [], [], true, []⟩ ⟨48, [], 48⟩ (bodyOf Tryd.f28) sg28_threads.out.Y (initSt (sg28_threads.pre x) (sg28_threads.heap x) 19 sg28_threads.pin vs) (fun e s => finC GT [.tmp 4, .tmp 5] [] sg28_threads.pin [] [] e s sg28_threads.out.dec) = F_peep_on_threads x := fun x vs => by kernel_rfl
theorem f28_threads_ok : SigOk Tryd.prog GT.gl 28 sig28_threads := gfn (Γ := GT) (nt := 19) (rs := [.tmp 4, .tmp 5]) GT_ok (sigs_cons f37_ok (by kernel_rfl) (sigs_cons f35_ok (by kernel_rfl) sigs_nil)) Tryd.func28 (by kernel_rfl) (by kernel_rfl) (by kernel_rfl) (by decide) (by decide) f28_threads_is
@[reducible] noncomputable def sg19 : SigD := ⟨[.data (.sl 37 tInstr)], [], [], ⟨[.full 2 tInstr, .data (.int .i64)], [(2, .row 37 tInstr false)], []⟩⟩
@[reducible] noncomputable def sig19 : Sig := gsig sg19 F_peep_Threads
set_option maxRecDepth 100000 in
theorem f19_is : ∀ (x : sg19.X) (vs : List Value), denS GT [(28, sig28_threads), (35, sig35)] ⟨4, [], [], true, []⟩ ⟨12, [], 12⟩ (bodyOf Tryd.f19) sg19.out.Y (initSt (sg19.pre x) (sg19.heap x) 8 sg19.pin vs) (fun e s => finC GT [.tmp 2, .tmp 3] [] sg19.pin [] [] e s sg19.out.dec) = F_peep_Threads x := fun x vs => by kernel_rfl
theorem f19_ok : SigOk Tryd.prog GT.gl 19 sig19 := gfn (Γ := GT) (nt := 8) (rs := [.tmp 2, .tmp 3]) GT_ok (sigs_cons f28_threads_ok (by kernel_rfl) (sigs_cons f35_ok (by kernel_rfl) sigs_nil)) Tryd.func19 (by kernel_rfl) (by kernel_rfl) (by kernel_rfl) (by decide) (by decide) f19_is
@[reducible] noncomputable def sg5 : SigD := ⟨[.data (.sl 37 tInstr)], [], [], ⟨[.data .bool], [], []⟩⟩
set_option maxRecDepth 100000 in
theorem f5_is : ∀ (x : sg5.X) (vs : List Value), denS GT [(10, sig10), (12, sig12), (14, sig14), (17, sig17), (19, sig19), (21, sig21)] ⟨4, [], [], true, []⟩ ⟨4, [], 4⟩ (bodyOf Tryd.f5) sg5.out.Y (initSt (sg5.pre x) (sg5.heap x) 276 sg5.pin vs) (fun e s => finC GT [.tmp 2] [] sg5.pin [] [] e s sg5.out.dec) = F_law20_PeepKinds x := fun x vs => by kernel_rfl
theorem f5_h {x : sg5.X} {y : sg5.out.Y} (h : F_law20_PeepKinds x = some y) : FnH Tryd.prog GT.gl 5 (sg5.pre x) (sg5.heap x) (sg5.out.out y).1 (sg5.out.out y).2.1 (sg5.out.out y).2.2 := gfnH (Γ := GT) (nt := 276) (rs := [.tmp 2]) GT_ok (sigs_cons f10_ok (by kernel_rfl) (sigs_cons f12_ok (by kernel_rfl) (sigs_cons f14_ok (by kernel_rfl) (sigs_cons f17_ok (by kernel_rfl) (sigs_cons f19_ok (by kernel_rfl) (sigs_cons f21_ok (by kernel_rfl) sigs_nil)))))) Tryd.func5 (by kernel_rfl) (by kernel_rfl) (by kernel_rfl) (by decide) (by decide) f5_is h
end Go.Proofs
