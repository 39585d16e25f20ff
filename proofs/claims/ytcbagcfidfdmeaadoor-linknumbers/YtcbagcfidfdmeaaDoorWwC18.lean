/- Part of the proof of the law's row: YtcbagcfidfdmeaaDoorWwC18. -/
import Derived.Test.YtcbagcfidfdmeaaDoorWtC18
import Derived.Test.YtcbagcfidfdmeaaDoorWpC18
set_option linter.all false
set_option linter.unusedVariables false
set_option linter.unusedSimpArgs false
/-! The functions compute that. -/
namespace Go.Proofs
open Go Go.Abs
@[reducible] noncomputable def sg27 : SigD := ⟨[.data (.int .i64)], [], [], ⟨[.data .bool], [], []⟩⟩
@[reducible] noncomputable def sig27 : Sig := gsig sg27 F_link_goes
theorem f27_is : ∀ (x : sg27.X) (vs : List Value), den GT [] ⟨4, [], []⟩ 4 (bodyOf Tryd.f27) sg27.out.Y (initSt (sg27.pre x) (sg27.heap x) 14 sg27.pin vs) (fun e s => finC GT [.tmp 2] [] sg27.pin [] [] e s sg27.out.dec) = F_link_goes x := fun x vs => by kernel_rfl
theorem f27_ok : SigOk Tryd.prog GT.gl 27 sig27 := gfn (Γ := GT) (nt := 14) (rs := [.tmp 2]) GT_ok sigs_nil Tryd.func27 (by kernel_rfl) (by kernel_rfl) (by kernel_rfl) (by decide) (by decide) f27_is
@[reducible] noncomputable def sg37 : SigD := ⟨[.data (.int .i64)], [], [], ⟨[.data .bool], [], []⟩⟩
@[reducible] noncomputable def sig37 : Sig := gsig sg37 F_instr_is
theorem f37_is : ∀ (x : sg37.X) (vs : List Value), den GT [] ⟨4, [], []⟩ 4 (bodyOf Tryd.f37) sg37.out.Y (initSt (sg37.pre x) (sg37.heap x) 9 sg37.pin vs) (fun e s => finC GT [.tmp 2] [] sg37.pin [] [] e s sg37.out.dec) = F_instr_is x := fun x vs => by kernel_rfl
theorem f37_ok : SigOk Tryd.prog GT.gl 37 sig37 := gfn (Γ := GT) (nt := 9) (rs := [.tmp 2]) GT_ok sigs_nil Tryd.func37 (by kernel_rfl) (by kernel_rfl) (by kernel_rfl) (by decide) (by decide) f37_is
@[reducible] noncomputable def sg39 : SigD := ⟨[.data (.int .i64), .data (.int .i64)], [], [], ⟨[.data .bool], [], []⟩⟩
@[reducible] noncomputable def sig39 : Sig := gsig sg39 F_instr_has
theorem f39_is : ∀ (x : sg39.X) (vs : List Value), den GT [] ⟨4, [], []⟩ 16 (bodyOf Tryd.f39) sg39.out.Y (initSt (sg39.pre x) (sg39.heap x) 11 sg39.pin vs) (fun e s => finC GT [.tmp 4] [] sg39.pin [] [] e s sg39.out.dec) = F_instr_has x := fun x vs => by kernel_rfl
theorem f39_ok : SigOk Tryd.prog GT.gl 39 sig39 := gfn (Γ := GT) (nt := 11) (rs := [.tmp 4]) GT_ok sigs_nil Tryd.func39 (by kernel_rfl) (by kernel_rfl) (by kernel_rfl) (by decide) (by decide) f39_is
@[reducible] noncomputable def sg41 : SigD := ⟨[.data tInstr], [], [], ⟨[.data tInstr], [], []⟩⟩
@[reducible] noncomputable def sig41 : Sig := gsig sg41 F_instr_plain
theorem f41_is : ∀ (x : sg41.X) (vs : List Value), den GT [(39, sig39)] ⟨4, [], []⟩ 4 (bodyOf Tryd.f41) sg41.out.Y (initSt (sg41.pre x) (sg41.heap x) 38 sg41.pin vs) (fun e s => finC GT [.cell 2 33] [] sg41.pin [] [] e s sg41.out.dec) = F_instr_plain x := fun x vs => by kernel_rfl
theorem f41_ok : SigOk Tryd.prog GT.gl 41 sig41 := gfn (Γ := GT) (nt := 38) (rs := [.cell 2 33]) GT_ok (sigs_cons f39_ok (by kernel_rfl) sigs_nil) Tryd.func41 (by kernel_rfl) (by kernel_rfl) (by kernel_rfl) (by decide) (by decide) f41_is
@[reducible] noncomputable def sg46 : SigD := ⟨[.data (.int .i64)], [], [], ⟨[.data (.int .i64)], [], []⟩⟩
@[reducible] noncomputable def sig46 : Sig := gsig sg46 F_tree_Arity
theorem f46_is : ∀ (x : sg46.X) (vs : List Value), den GT [] ⟨4, [], []⟩ 4 (bodyOf Tryd.f46) sg46.out.Y (initSt (sg46.pre x) (sg46.heap x) 28 sg46.pin vs) (fun e s => finC GT [.tmp 2] [] sg46.pin [] [] e s sg46.out.dec) = F_tree_Arity x := fun x vs => by kernel_rfl
theorem f46_ok : SigOk Tryd.prog GT.gl 46 sig46 := gfn (Γ := GT) (nt := 28) (rs := [.tmp 2]) GT_ok sigs_nil Tryd.func46 (by kernel_rfl) (by kernel_rfl) (by kernel_rfl) (by decide) (by decide) f46_is
@[reducible] noncomputable def sg50 : SigD := ⟨[.data (.int .i64)], [], [], ⟨[.data .bool], [], []⟩⟩
@[reducible] noncomputable def sig50 : Sig := gsig sg50 F_tree_counted
theorem f50_is : ∀ (x : sg50.X) (vs : List Value), den GT [] ⟨4, [], []⟩ 4 (bodyOf Tryd.f50) sg50.out.Y (initSt (sg50.pre x) (sg50.heap x) 13 sg50.pin vs) (fun e s => finC GT [.tmp 2] [] sg50.pin [] [] e s sg50.out.dec) = F_tree_counted x := fun x vs => by kernel_rfl
theorem f50_ok : SigOk Tryd.prog GT.gl 50 sig50 := gfn (Γ := GT) (nt := 13) (rs := [.tmp 2]) GT_ok sigs_nil Tryd.func50 (by kernel_rfl) (by kernel_rfl) (by kernel_rfl) (by decide) (by decide) f50_is
@[reducible] noncomputable def sg55 : SigD := ⟨[.data (.int .u8)], [], [], ⟨[.data .bool], [], []⟩⟩
@[reducible] noncomputable def sig55 : Sig := gsig sg55 F_tree_isHead
theorem f55_is : ∀ (x : sg55.X) (vs : List Value), den GT [] ⟨4, [], []⟩ 4 (bodyOf Tryd.f55) sg55.out.Y (initSt (sg55.pre x) (sg55.heap x) 19 sg55.pin vs) (fun e s => finC GT [.tmp 2] [] sg55.pin [] [] e s sg55.out.dec) = F_tree_isHead x := fun x vs => by kernel_rfl
theorem f55_ok : SigOk Tryd.prog GT.gl 55 sig55 := gfn (Γ := GT) (nt := 19) (rs := [.tmp 2]) GT_ok sigs_nil Tryd.func55 (by kernel_rfl) (by kernel_rfl) (by kernel_rfl) (by decide) (by decide) f55_is
@[reducible] noncomputable def sg51 : SigD := ⟨[.data .str], [], [], ⟨[.data .bool], [], []⟩⟩
@[reducible] noncomputable def sig51 : Sig := gsig sg51 F_tree_isName
theorem f51_is : ∀ (x : sg51.X) (vs : List Value), den GT [(55, sig55)] ⟨4, [], []⟩ 4 (bodyOf Tryd.f51) sg51.out.Y (initSt (sg51.pre x) (sg51.heap x) 40 sg51.pin vs) (fun e s => finC GT [.tmp 2] [] sg51.pin [] [] e s sg51.out.dec) = F_tree_isName x := fun x vs => by kernel_rfl
theorem f51_ok : SigOk Tryd.prog GT.gl 51 sig51 := gfn (Γ := GT) (nt := 40) (rs := [.tmp 2]) GT_ok (sigs_cons f55_ok (by kernel_rfl) sigs_nil) Tryd.func51 (by kernel_rfl) (by kernel_rfl) (by kernel_rfl) (by decide) (by decide) f51_is
@[reducible] noncomputable def sg52 : SigD := ⟨[.data .str], [], [], ⟨[.data .bool], [], []⟩⟩
@[reducible] noncomputable def sig52 : Sig := gsig sg52 F_tree_isTemplate
theorem f52_is : ∀ (x : sg52.X) (vs : List Value), den GT [] ⟨4, [], []⟩ 4 (bodyOf Tryd.f52) sg52.out.Y (initSt (sg52.pre x) (sg52.heap x) 41 sg52.pin vs) (fun e s => finC GT [.tmp 2] [] sg52.pin [] [] e s sg52.out.dec) = F_tree_isTemplate x := fun x vs => by kernel_rfl
theorem f52_ok : SigOk Tryd.prog GT.gl 52 sig52 := gfn (Γ := GT) (nt := 41) (rs := [.tmp 2]) GT_ok sigs_nil Tryd.func52 (by kernel_rfl) (by kernel_rfl) (by kernel_rfl) (by decide) (by decide) f52_is
@[reducible] noncomputable def sg47 : SigD := ⟨[.data tNode], [], [], ⟨[.data .bool], [], []⟩⟩
@[reducible] noncomputable def sig47 : Sig := gsig sg47 F_tree_fields
theorem f47_is : ∀ (x : sg47.X) (vs : List Value), den GT [(50, sig50), (51, sig51), (52, sig52)] ⟨4, [], []⟩ 4 (bodyOf Tryd.f47) sg47.out.Y (initSt (sg47.pre x) (sg47.heap x) 67 sg47.pin vs) (fun e s => finC GT [.tmp 2] [] sg47.pin [] [] e s sg47.out.dec) = F_tree_fields x := fun x vs => by kernel_rfl
theorem f47_ok : SigOk Tryd.prog GT.gl 47 sig47 := gfn (Γ := GT) (nt := 67) (rs := [.tmp 2]) GT_ok (sigs_cons f50_ok (by kernel_rfl) (sigs_cons f51_ok (by kernel_rfl) (sigs_cons f52_ok (by kernel_rfl) sigs_nil))) Tryd.func47 (by kernel_rfl) (by kernel_rfl) (by kernel_rfl) (by decide) (by decide) f47_is
@[reducible] noncomputable def sg54 : SigD := ⟨[.data (.int .i64), .data tshape], [], [], ⟨[], [], []⟩⟩
@[reducible] noncomputable def sig54 : Sig := gsig sg54 F_tree_Check_1
theorem f54_is : ∀ (x : sg54.X) (vs : List Value), den GT [] ⟨4, [], []⟩ 0 (bodyOf Tryd.f54) sg54.out.Y (initSt (sg54.pre x) (sg54.heap x) 4 sg54.pin vs) (fun e s => finC GT [] [] sg54.pin [] [] e s sg54.out.dec) = F_tree_Check_1 x := fun x vs => by kernel_rfl
theorem f54_ok : SigOk Tryd.prog GT.gl 54 sig54 := gfn (Γ := GT) (nt := 4) (rs := []) GT_ok sigs_nil Tryd.func54 (by kernel_rfl) (by kernel_rfl) (by kernel_rfl) (by decide) (by decide) f54_is
@[reducible] noncomputable def sg53_chk : SigD := ⟨[.data (.sl 63 tNode), .same (.fn 54 [])], [], [], ⟨[.data (.int .i64), .data (.int .i64)], [], []⟩⟩
@[reducible] noncomputable def sig53_chk : Sig := gsig sg53_chk F_tree_each_chk
theorem f53_chk_is : ∀ (x : sg53_chk.X) (vs : List Value), den GT [(46, sig46), (47, sig47), (54, sig54)] ⟨4, [], []⟩ 48 (bodyOf Tryd.f53) sg53_chk.out.Y (initSt (sg53_chk.pre x) (sg53_chk.heap x) 108 sg53_chk.pin vs) (fun e s => finC GT [.tmp 4, .tmp 5] [] sg53_chk.pin [] [] e s sg53_chk.out.dec) = F_tree_each_chk x := fun x vs => by kernel_rfl
theorem f53_chk_ok : SigOk Tryd.prog GT.gl 53 sig53_chk := gfn (Γ := GT) (nt := 108) (rs := [.tmp 4, .tmp 5]) GT_ok (sigs_cons f46_ok (by kernel_rfl) (sigs_cons f47_ok (by kernel_rfl) (sigs_cons f54_ok (by kernel_rfl) sigs_nil))) Tryd.func53 (by kernel_rfl) (by kernel_rfl) (by kernel_rfl) (by decide) (by decide) f53_chk_is
@[reducible] noncomputable def sg48 : SigD := ⟨[.data (.sl 63 tNode)], [], [], ⟨[.data (.int .i64), .data (.int .i64)], [], []⟩⟩
@[reducible] noncomputable def sig48 : Sig := gsig sg48 F_tree_Check
theorem f48_is : ∀ (x : sg48.X) (vs : List Value), den GT [(53, sig53_chk), (54, sig54)] ⟨4, [], []⟩ 12 (bodyOf Tryd.f48) sg48.out.Y (initSt (sg48.pre x) (sg48.heap x) 11 sg48.pin vs) (fun e s => finC GT [.tmp 2, .tmp 3] [] sg48.pin [] [] e s sg48.out.dec) = F_tree_Check x := fun x vs => by kernel_rfl
theorem f48_ok : SigOk Tryd.prog GT.gl 48 sig48 := gfn (Γ := GT) (nt := 11) (rs := [.tmp 2, .tmp 3]) GT_ok (sigs_cons f53_chk_ok (by kernel_rfl) (sigs_cons f54_ok (by kernel_rfl) sigs_nil)) Tryd.func48 (by kernel_rfl) (by kernel_rfl) (by kernel_rfl) (by decide) (by decide) f48_is
@[reducible] noncomputable def sg49 : SigD := ⟨[.same (.full 1000 tNode)], [(1000, .row 63 tNode false)], [], ⟨[.full 2 tNode, .data (.int .i64)], [(2, .row 63 tNode false)], []⟩⟩
@[reducible] noncomputable def sig49 : Sig := gsig sg49 F_tree_checked
theorem f49_is : ∀ (x : sg49.X) (vs : List Value), den GT [(48, sig48)] ⟨4, [], []⟩ 12 (bodyOf Tryd.f49) sg49.out.Y (initSt (sg49.pre x) (sg49.heap x) 15 sg49.pin vs) (fun e s => finC GT [.tmp 2, .tmp 3] [] sg49.pin [] [] e s sg49.out.dec) = F_tree_checked x := fun x vs => by kernel_rfl
theorem f49_ok : SigOk Tryd.prog GT.gl 49 sig49 := gfn (Γ := GT) (nt := 15) (rs := [.tmp 2, .tmp 3]) GT_ok (sigs_cons f48_ok (by kernel_rfl) sigs_nil) Tryd.func49 (by kernel_rfl) (by kernel_rfl) (by kernel_rfl) (by decide) (by decide) f49_is
@[reducible] noncomputable def sg45 : SigD := ⟨[.data tNode, .data (.sl 65 (.sl 63 tNode))], [], [], ⟨[.full 4 tNode, .data (.int .i64)], [(4, .row 63 tNode false)], []⟩⟩
@[reducible] noncomputable def sig45 : Sig := gsig sg45 F_tree_Join
theorem f45_is : ∀ (x : sg45.X) (vs : List Value), den GT [(46, sig46), (47, sig47), (48, sig48), (49, sig49)] ⟨4, [], []⟩ 48 (bodyOf Tryd.f45) sg45.out.Y (initSt (sg45.pre x) (sg45.heap x) 52 sg45.pin vs) (fun e s => finC GT [.tmp 4, .tmp 5] [] sg45.pin [] [] e s sg45.out.dec) = F_tree_Join x := fun x vs => by kernel_rfl
theorem f45_ok : SigOk Tryd.prog GT.gl 45 sig45 := gfn (Γ := GT) (nt := 52) (rs := [.tmp 4, .tmp 5]) GT_ok (sigs_cons f46_ok (by kernel_rfl) (sigs_cons f47_ok (by kernel_rfl) (sigs_cons f48_ok (by kernel_rfl) (sigs_cons f49_ok (by kernel_rfl) sigs_nil)))) Tryd.func45 (by kernel_rfl) (by kernel_rfl) (by kernel_rfl) (by decide) (by decide) f45_is
@[reducible] noncomputable def sg42 : SigD := ⟨[.data (.int .i64), .data (.int .i64), .data .str], [], [], ⟨[.data .bool], [], []⟩⟩
@[reducible] noncomputable def sig42 : Sig := gsig sg42 F_instr_capture
theorem f42_is : ∀ (x : sg42.X) (vs : List Value), den GT [(45, sig45)] ⟨4, [], []⟩ 64 (bodyOf Tryd.f42) sg42.out.Y (initSt (sg42.pre x) (sg42.heap x) 34 sg42.pin vs) (fun e s => finC GT [.tmp 6] [] sg42.pin [] [] e s sg42.out.dec) = F_instr_capture x := fun x vs => by kernel_rfl
theorem f42_ok : SigOk Tryd.prog GT.gl 42 sig42 := gfn (Γ := GT) (nt := 34) (rs := [.tmp 6]) GT_ok (sigs_cons f45_ok (by kernel_rfl) sigs_nil) Tryd.func42 (by kernel_rfl) (by kernel_rfl) (by kernel_rfl) (by decide) (by decide) f42_is
@[reducible] noncomputable def sg38 : SigD := ⟨[.data tInstr], [], [], ⟨[.data .bool], [], []⟩⟩
@[reducible] noncomputable def sig38 : Sig := gsig sg38 F_instr_fits
theorem f38_is : ∀ (x : sg38.X) (vs : List Value), den GT [(41, sig41), (42, sig42)] ⟨4, [], []⟩ 4 (bodyOf Tryd.f38) sg38.out.Y (initSt (sg38.pre x) (sg38.heap x) 76 sg38.pin vs) (fun e s => finC GT [.tmp 2] [] sg38.pin [] [] e s sg38.out.dec) = F_instr_fits x := fun x vs => by kernel_rfl
theorem f38_ok : SigOk Tryd.prog GT.gl 38 sig38 := gfn (Γ := GT) (nt := 76) (rs := [.tmp 2]) GT_ok (sigs_cons f41_ok (by kernel_rfl) (sigs_cons f42_ok (by kernel_rfl) sigs_nil)) Tryd.func38 (by kernel_rfl) (by kernel_rfl) (by kernel_rfl) (by decide) (by decide) f38_is
@[reducible] noncomputable def sg28 : SigD := ⟨[.data (.sl 33 tInstr)], [], [], ⟨[.data (.int .i64), .data (.int .i64)], [], []⟩⟩
@[reducible] noncomputable def sig28 : Sig := gsig sg28 F_instr_Check
theorem f28_is : ∀ (x : sg28.X) (vs : List Value), den GT [(37, sig37), (38, sig38), (39, sig39)] ⟨4, [], []⟩ 12 (bodyOf Tryd.f28) sg28.out.Y (initSt (sg28.pre x) (sg28.heap x) 63 sg28.pin vs) (fun e s => finC GT [.tmp 2, .tmp 3] [] sg28.pin [] [] e s sg28.out.dec) = F_instr_Check x := fun x vs => by kernel_rfl
theorem f28_ok : SigOk Tryd.prog GT.gl 28 sig28 := gfn (Γ := GT) (nt := 63) (rs := [.tmp 2, .tmp 3]) GT_ok (sigs_cons f37_ok (by kernel_rfl) (sigs_cons f38_ok (by kernel_rfl) (sigs_cons f39_ok (by kernel_rfl) sigs_nil))) Tryd.func28 (by kernel_rfl) (by kernel_rfl) (by kernel_rfl) (by decide) (by decide) f28_is
@[reducible] noncomputable def sg36 : SigD := ⟨[.data tInstr], [], [], ⟨[.data (.int .i64)], [], []⟩⟩
@[reducible] noncomputable def sig36 : Sig := gsig sg36 F_link_wrong
theorem f36_is : ∀ (x : sg36.X) (vs : List Value), den GT [(27, sig27), (28, sig28)] ⟨4, [], []⟩ 4 (bodyOf Tryd.f36) sg36.out.Y (initSt (sg36.pre x) (sg36.heap x) 66 sg36.pin vs) (fun e s => finC GT [.tmp 2] [] sg36.pin [] [] e s sg36.out.dec) = F_link_wrong x := fun x vs => by kernel_rfl
theorem f36_ok : SigOk Tryd.prog GT.gl 36 sig36 := gfn (Γ := GT) (nt := 66) (rs := [.tmp 2]) GT_ok (sigs_cons f27_ok (by kernel_rfl) (sigs_cons f28_ok (by kernel_rfl) sigs_nil)) Tryd.func36 (by kernel_rfl) (by kernel_rfl) (by kernel_rfl) (by decide) (by decide) f36_is
@[reducible] noncomputable def sg26 : SigD := ⟨[.data (.sl 33 tInstr)], [], [], ⟨[.data tlaid, .data (.int .i64), .data (.int .i64)], [], []⟩⟩
@[reducible] noncomputable def sig26 : Sig := gsig sg26 F_link_lay
theorem f26_is : ∀ (x : sg26.X) (vs : List Value), den GT [(27, sig27), (36, sig36)] ⟨4, [], []⟩ 28 (bodyOf Tryd.f26) sg26.out.Y (initSt (sg26.pre x) (sg26.heap x) 101 sg26.pin vs) (fun e s => finC GT [.cell 2 46, .tmp 3, .tmp 4] [] sg26.pin [] [true, false, false] e s sg26.out.dec) = F_link_lay x := fun x vs => by kernel_rfl
theorem f26_ok : SigOk Tryd.prog GT.gl 26 sig26 := gfn (Γ := GT) (nt := 101) (rs := [.cell 2 46, .tmp 3, .tmp 4]) GT_ok (sigs_cons f27_ok (by kernel_rfl) (sigs_cons f36_ok (by kernel_rfl) sigs_nil)) Tryd.func26 (by kernel_rfl) (by kernel_rfl) (by kernel_rfl) (by decide) (by decide) f26_is
@[reducible] noncomputable def sg29 : SigD := ⟨[.own 1000 tInstr], [(1000, .row 33 tInstr false)], [], ⟨[.full 2 tInstr], [(2, .row 33 tInstr false)], []⟩⟩
@[reducible] noncomputable def sig29 : Sig := gsig sg29 F_slices_Clip_Instr_Instr
theorem f29_is : ∀ (x : sg29.X) (vs : List Value), den GT [] ⟨4, [], []⟩ 4 (bodyOf Tryd.f29) sg29.out.Y (initSt (sg29.pre x) (sg29.heap x) 9 sg29.pin vs) (fun e s => finC GT [.tmp 2] [] sg29.pin [] [] e s sg29.out.dec) = F_slices_Clip_Instr_Instr x := fun x vs => by kernel_rfl
theorem f29_ok : SigOk Tryd.prog GT.gl 29 sig29 := gfn (Γ := GT) (nt := 9) (rs := [.tmp 2]) GT_ok sigs_nil Tryd.func29 (by kernel_rfl) (by kernel_rfl) (by kernel_rfl) (by decide) (by decide) f29_is
@[reducible] noncomputable def sg11 : SigD := ⟨[.data (.sl 33 tInstr)], [], [], ⟨[.full 2 tInstr, .data (.int .i64), .data (.int .i64)], [(2, .row 33 tInstr false)], []⟩⟩
@[reducible] noncomputable def sig11 : Sig := gsig sg11 F_link_Link
theorem f11_is : ∀ (x : sg11.X) (vs : List Value), den (GTi [58]) [(26, sig26), (27, sig27), (28, sig28), (29, sig29)] ⟨4, [], []⟩ 28 (bodyOf Tryd.f11) sg11.out.Y (initSt (sg11.pre x) (sg11.heap x) 86 sg11.pin vs) (fun e s => finC (GTi [58]) [.tmp 2, .tmp 3, .tmp 4] [] sg11.pin [] [] e s sg11.out.dec) = F_link_Link x := fun x vs => by kernel_rfl
theorem f11_ok : SigOk Tryd.prog GT.gl 11 sig11 := gfn (Γ := (GTi [58])) (nt := 86) (rs := [.tmp 2, .tmp 3, .tmp 4]) (GTi_ok _) (sigs_cons f26_ok (by kernel_rfl) (sigs_cons f27_ok (by kernel_rfl) (sigs_cons f28_ok (by kernel_rfl) (sigs_cons f29_ok (by kernel_rfl) sigs_nil)))) Tryd.func11 (by kernel_rfl) (by kernel_rfl) (by kernel_rfl) (by decide) (by decide) f11_is
@[reducible] noncomputable def sg12 : SigD := ⟨[], [], [], ⟨[.data .bool], [], []⟩⟩
@[reducible] noncomputable def sig12 : Sig := gsig sg12 F_law18_lives
theorem f12_is : ∀ (x : sg12.X) (vs : List Value), den GT [(11, sig11)] ⟨4, [], []⟩ 1 (bodyOf Tryd.f12) sg12.out.Y (initSt (sg12.pre x) (sg12.heap x) 27 sg12.pin vs) (fun e s => finC GT [.tmp 0] [] sg12.pin [] [] e s sg12.out.dec) = F_law18_lives x := fun x vs => by kernel_rfl
theorem f12_ok : SigOk Tryd.prog GT.gl 12 sig12 := gfn (Γ := GT) (nt := 27) (rs := [.tmp 0]) GT_ok (sigs_cons f11_ok (by kernel_rfl) sigs_nil) Tryd.func12 (by kernel_rfl) (by kernel_rfl) (by kernel_rfl) (by decide) (by decide) f12_is
theorem f12_h {x : sg12.X} {y : sg12.out.Y} (h : F_law18_lives x = some y) : FnH Tryd.prog GT.gl 12 (sg12.pre x) (sg12.heap x) (sg12.out.out y).1 (sg12.out.out y).2.1 (sg12.out.out y).2.2 := gfnH (Γ := GT) (nt := 27) (rs := [.tmp 0]) GT_ok (sigs_cons f11_ok (by kernel_rfl) sigs_nil) Tryd.func12 (by kernel_rfl) (by kernel_rfl) (by kernel_rfl) (by decide) (by decide) f12_is h
@[reducible] noncomputable def sg30 : SigD := ⟨[.data (.int .i64)], [], [], ⟨[.data (.int .i64), .data .str, .data .bool], [], []⟩⟩
@[reducible] noncomputable def sig30 : Sig := gsig sg30 F_ref16_Uses
theorem f30_is : ∀ (x : sg30.X) (vs : List Value), den GT [] ⟨4, [], []⟩ 28 (bodyOf Tryd.f30) sg30.out.Y (initSt (sg30.pre x) (sg30.heap x) 46 sg30.pin vs) (fun e s => finC GT [.tmp 2, .tmp 3, .tmp 4] [] sg30.pin [] [] e s sg30.out.dec) = F_ref16_Uses x := fun x vs => by kernel_rfl
theorem f30_ok : SigOk Tryd.prog GT.gl 30 sig30 := gfn (Γ := GT) (nt := 46) (rs := [.tmp 2, .tmp 3, .tmp 4]) GT_ok sigs_nil Tryd.func30 (by kernel_rfl) (by kernel_rfl) (by kernel_rfl) (by decide) (by decide) f30_is
@[reducible] noncomputable def sg31 : SigD := ⟨[.data (.int .i64), .data (.int .i64)], [], [], ⟨[.data .bool], [], []⟩⟩
@[reducible] noncomputable def sig31 : Sig := gsig sg31 F_ref16_has
theorem f31_is : ∀ (x : sg31.X) (vs : List Value), den GT [] ⟨4, [], []⟩ 16 (bodyOf Tryd.f31) sg31.out.Y (initSt (sg31.pre x) (sg31.heap x) 10 sg31.pin vs) (fun e s => finC GT [.tmp 4] [] sg31.pin [] [] e s sg31.out.dec) = F_ref16_has x := fun x vs => by kernel_rfl
theorem f31_ok : SigOk Tryd.prog GT.gl 31 sig31 := gfn (Γ := GT) (nt := 10) (rs := [.tmp 4]) GT_ok sigs_nil Tryd.func31 (by kernel_rfl) (by kernel_rfl) (by kernel_rfl) (by decide) (by decide) f31_is
@[reducible] noncomputable def sg13 : SigD := ⟨[.data (.int .i64)], [], [], ⟨[.data .bool], [], []⟩⟩
@[reducible] noncomputable def sig13 : Sig := gsig sg13 F_ref16_Targets
theorem f13_is : ∀ (x : sg13.X) (vs : List Value), den GT [(30, sig30), (31, sig31)] ⟨4, [], []⟩ 4 (bodyOf Tryd.f13) sg13.out.Y (initSt (sg13.pre x) (sg13.heap x) 14 sg13.pin vs) (fun e s => finC GT [.tmp 2] [] sg13.pin [] [] e s sg13.out.dec) = F_ref16_Targets x := fun x vs => by kernel_rfl
theorem f13_ok : SigOk Tryd.prog GT.gl 13 sig13 := gfn (Γ := GT) (nt := 14) (rs := [.tmp 2]) GT_ok (sigs_cons f30_ok (by kernel_rfl) (sigs_cons f31_ok (by kernel_rfl) sigs_nil)) Tryd.func13 (by kernel_rfl) (by kernel_rfl) (by kernel_rfl) (by decide) (by decide) f13_is
@[reducible] noncomputable def sg14 : SigD := ⟨[.data (.sl 33 tInstr), .data (.sl 33 tInstr)], [], [], ⟨[.data .bool], [], []⟩⟩
@[reducible] noncomputable def sig14 : Sig := gsig sg14 F_book_SameCode
theorem f14_is : ∀ (x : sg14.X) (vs : List Value), den GT [] ⟨4, [], []⟩ 16 (bodyOf Tryd.f14) sg14.out.Y (initSt (sg14.pre x) (sg14.heap x) 26 sg14.pin vs) (fun e s => finC GT [.tmp 4] [] sg14.pin [] [] e s sg14.out.dec) = F_book_SameCode x := fun x vs => by kernel_rfl
theorem f14_ok : SigOk Tryd.prog GT.gl 14 sig14 := gfn (Γ := GT) (nt := 26) (rs := [.tmp 4]) GT_ok sigs_nil Tryd.func14 (by kernel_rfl) (by kernel_rfl) (by kernel_rfl) (by decide) (by decide) f14_is
@[reducible] noncomputable def sg3 : SigD := ⟨[.data tTurned], [], [], ⟨[.data .bool], [], []⟩⟩
@[reducible] noncomputable def sig3 : Sig := gsig sg3 F_law18_LinkNumbers
theorem f3_is : ∀ (x : sg3.X) (vs : List Value), den GT [(11, sig11), (12, sig12), (13, sig13), (14, sig14)] ⟨4, [], []⟩ 4 (bodyOf Tryd.f3) sg3.out.Y (initSt (sg3.pre x) (sg3.heap x) 100 sg3.pin vs) (fun e s => finC GT [.tmp 2] [] sg3.pin [] [] e s sg3.out.dec) = F_law18_LinkNumbers x := fun x vs => by kernel_rfl
theorem f3_ok : SigOk Tryd.prog GT.gl 3 sig3 := gfn (Γ := GT) (nt := 100) (rs := [.tmp 2]) GT_ok (sigs_cons f11_ok (by kernel_rfl) (sigs_cons f12_ok (by kernel_rfl) (sigs_cons f13_ok (by kernel_rfl) (sigs_cons f14_ok (by kernel_rfl) sigs_nil)))) Tryd.func3 (by kernel_rfl) (by kernel_rfl) (by kernel_rfl) (by decide) (by decide) f3_is
theorem f3_h {x : sg3.X} {y : sg3.out.Y} (h : F_law18_LinkNumbers x = some y) : FnH Tryd.prog GT.gl 3 (sg3.pre x) (sg3.heap x) (sg3.out.out y).1 (sg3.out.out y).2.1 (sg3.out.out y).2.2 := gfnH (Γ := GT) (nt := 100) (rs := [.tmp 2]) GT_ok (sigs_cons f11_ok (by kernel_rfl) (sigs_cons f12_ok (by kernel_rfl) (sigs_cons f13_ok (by kernel_rfl) (sigs_cons f14_ok (by kernel_rfl) sigs_nil)))) Tryd.func3 (by kernel_rfl) (by kernel_rfl) (by kernel_rfl) (by decide) (by decide) f3_is h
@[reducible] noncomputable def sg15 : SigD := ⟨[.data (.sl 33 tInstr)], [], [], ⟨[.own 2 tInstr], [(2, .row 33 tInstr false)], []⟩⟩
@[reducible] noncomputable def sig15 : Sig := gsig sg15 F_book_LendCode
theorem f15_is : ∀ (x : sg15.X) (vs : List Value), den GT [] ⟨4, [], []⟩ 4 (bodyOf Tryd.f15) sg15.out.Y (initSt (sg15.pre x) (sg15.heap x) 12 sg15.pin vs) (fun e s => finC GT [.tmp 2] [] sg15.pin [] [] e s sg15.out.dec) = F_book_LendCode x := fun x vs => by kernel_rfl
theorem f15_ok : SigOk Tryd.prog GT.gl 15 sig15 := gfn (Γ := GT) (nt := 12) (rs := [.tmp 2]) GT_ok sigs_nil Tryd.func15 (by kernel_rfl) (by kernel_rfl) (by kernel_rfl) (by decide) (by decide) f15_is
@[reducible] noncomputable def sg16 : SigD := ⟨[.data (.sl 33 tInstr)], [], [], ⟨[.data (.int .i64), .data (.int .i64)], [], []⟩⟩
@[reducible] noncomputable def sig16 : Sig := gsig sg16 F_link_Check
theorem f16_is : ∀ (x : sg16.X) (vs : List Value), den GT [(11, sig11)] ⟨4, [], []⟩ 12 (bodyOf Tryd.f16) sg16.out.Y (initSt (sg16.pre x) (sg16.heap x) 12 sg16.pin vs) (fun e s => finC GT [.tmp 2, .tmp 3] [] sg16.pin [] [] e s sg16.out.dec) = F_link_Check x := fun x vs => by kernel_rfl
theorem f16_ok : SigOk Tryd.prog GT.gl 16 sig16 := gfn (Γ := GT) (nt := 12) (rs := [.tmp 2, .tmp 3]) GT_ok (sigs_cons f11_ok (by kernel_rfl) sigs_nil) Tryd.func16 (by kernel_rfl) (by kernel_rfl) (by kernel_rfl) (by decide) (by decide) f16_is
@[reducible] noncomputable def sg43 : SigD := ⟨[.data .str], [], [], ⟨[.data .bool], [], []⟩⟩
@[reducible] noncomputable def sig43 : Sig := gsig sg43 F_ref04_Name
theorem f43_is : ∀ (x : sg43.X) (vs : List Value), den GT [] ⟨4, [], []⟩ 4 (bodyOf Tryd.f43) sg43.out.Y (initSt (sg43.pre x) (sg43.heap x) 59 sg43.pin vs) (fun e s => finC GT [.tmp 2] [] sg43.pin [] [] e s sg43.out.dec) = F_ref04_Name x := fun x vs => by kernel_rfl
theorem f43_ok : SigOk Tryd.prog GT.gl 43 sig43 := gfn (Γ := GT) (nt := 59) (rs := [.tmp 2]) GT_ok sigs_nil Tryd.func43 (by kernel_rfl) (by kernel_rfl) (by kernel_rfl) (by decide) (by decide) f43_is
@[reducible] noncomputable def sg44 : SigD := ⟨[.data .str], [], [], ⟨[.data .bool], [], []⟩⟩
@[reducible] noncomputable def sig44 : Sig := gsig sg44 F_ref04_Template
theorem f44_is : ∀ (x : sg44.X) (vs : List Value), den GT [] ⟨4, [], []⟩ 4 (bodyOf Tryd.f44) sg44.out.Y (initSt (sg44.pre x) (sg44.heap x) 41 sg44.pin vs) (fun e s => finC GT [.tmp 2] [] sg44.pin [] [] e s sg44.out.dec) = F_ref04_Template x := fun x vs => by kernel_rfl
theorem f44_ok : SigOk Tryd.prog GT.gl 44 sig44 := gfn (Γ := GT) (nt := 41) (rs := [.tmp 2]) GT_ok sigs_nil Tryd.func44 (by kernel_rfl) (by kernel_rfl) (by kernel_rfl) (by decide) (by decide) f44_is
@[reducible] noncomputable def sg40 : SigD := ⟨[.data tInstr], [], [], ⟨[.data .bool], [], []⟩⟩
@[reducible] noncomputable def sig40 : Sig := gsig sg40 F_ref16_catches
theorem f40_is : ∀ (x : sg40.X) (vs : List Value), den GT [(43, sig43), (44, sig44)] ⟨4, [], []⟩ 4 (bodyOf Tryd.f40) sg40.out.Y (initSt (sg40.pre x) (sg40.heap x) 56 sg40.pin vs) (fun e s => finC GT [.tmp 2] [] sg40.pin [] [] e s sg40.out.dec) = F_ref16_catches x := fun x vs => by kernel_rfl
theorem f40_ok : SigOk Tryd.prog GT.gl 40 sig40 := gfn (Γ := GT) (nt := 56) (rs := [.tmp 2]) GT_ok (sigs_cons f43_ok (by kernel_rfl) (sigs_cons f44_ok (by kernel_rfl) sigs_nil)) Tryd.func40 (by kernel_rfl) (by kernel_rfl) (by kernel_rfl) (by decide) (by decide) f40_is
@[reducible] noncomputable def sg35 : SigD := ⟨[.data tInstr], [], [], ⟨[.data .bool], [], []⟩⟩
@[reducible] noncomputable def sig35 : Sig := gsig sg35 F_ref16_Args
theorem f35_is : ∀ (x : sg35.X) (vs : List Value), den GT [(30, sig30), (31, sig31), (40, sig40)] ⟨4, [], []⟩ 4 (bodyOf Tryd.f35) sg35.out.Y (initSt (sg35.pre x) (sg35.heap x) 92 sg35.pin vs) (fun e s => finC GT [.tmp 2] [] sg35.pin [] [] e s sg35.out.dec) = F_ref16_Args x := fun x vs => by kernel_rfl
theorem f35_ok : SigOk Tryd.prog GT.gl 35 sig35 := gfn (Γ := GT) (nt := 92) (rs := [.tmp 2]) GT_ok (sigs_cons f30_ok (by kernel_rfl) (sigs_cons f31_ok (by kernel_rfl) (sigs_cons f40_ok (by kernel_rfl) sigs_nil))) Tryd.func35 (by kernel_rfl) (by kernel_rfl) (by kernel_rfl) (by decide) (by decide) f35_is
@[reducible] noncomputable def sg24 : SigD := ⟨[.data (.sl 33 tInstr)], [], [], ⟨[.data (.int .i64), .data (.int .i64)], [], []⟩⟩
@[reducible] noncomputable def sig24 : Sig := gsig sg24 F_ref16_Check
theorem f24_is : ∀ (x : sg24.X) (vs : List Value), den GT [(13, sig13), (30, sig30), (35, sig35)] ⟨4, [], []⟩ 12 (bodyOf Tryd.f24) sg24.out.Y (initSt (sg24.pre x) (sg24.heap x) 88 sg24.pin vs) (fun e s => finC GT [.tmp 2, .tmp 3] [] sg24.pin [] [] e s sg24.out.dec) = F_ref16_Check x := fun x vs => by kernel_rfl
theorem f24_ok : SigOk Tryd.prog GT.gl 24 sig24 := gfn (Γ := GT) (nt := 88) (rs := [.tmp 2, .tmp 3]) GT_ok (sigs_cons f13_ok (by kernel_rfl) (sigs_cons f30_ok (by kernel_rfl) (sigs_cons f35_ok (by kernel_rfl) sigs_nil))) Tryd.func24 (by kernel_rfl) (by kernel_rfl) (by kernel_rfl) (by decide) (by decide) f24_is
@[reducible] noncomputable def sg32 : SigD := ⟨[.data tInstr], [], [], ⟨[.data (.int .i64)], [], []⟩⟩
@[reducible] noncomputable def sig32 : Sig := gsig sg32 F_ref18_member
theorem f32_is : ∀ (x : sg32.X) (vs : List Value), den GT [(13, sig13), (30, sig30), (35, sig35)] ⟨4, [], []⟩ 4 (bodyOf Tryd.f32) sg32.out.Y (initSt (sg32.pre x) (sg32.heap x) 53 sg32.pin vs) (fun e s => finC GT [.tmp 2] [] sg32.pin [] [] e s sg32.out.dec) = F_ref18_member x := fun x vs => by kernel_rfl
theorem f32_ok : SigOk Tryd.prog GT.gl 32 sig32 := gfn (Γ := GT) (nt := 53) (rs := [.tmp 2]) GT_ok (sigs_cons f13_ok (by kernel_rfl) (sigs_cons f30_ok (by kernel_rfl) (sigs_cons f35_ok (by kernel_rfl) sigs_nil))) Tryd.func32 (by kernel_rfl) (by kernel_rfl) (by kernel_rfl) (by decide) (by decide) f32_is
@[reducible] noncomputable def sg33 : SigD := ⟨[.data (.sl 33 tInstr)], [], [], ⟨[.full 2 (.int .i64), .data (.int .i64)], [(2, .row 3 (.int .i64) false)], []⟩⟩
@[reducible] noncomputable def sig33 : Sig := gsig sg33 F_ref18_stands
theorem f33_is : ∀ (x : sg33.X) (vs : List Value), den GT [] ⟨4, [], []⟩ 12 (bodyOf Tryd.f33) sg33.out.Y (initSt (sg33.pre x) (sg33.heap x) 54 sg33.pin vs) (fun e s => finC GT [.tmp 2, .tmp 3] [] sg33.pin [] [] e s sg33.out.dec) = F_ref18_stands x := fun x vs => by kernel_rfl
theorem f33_ok : SigOk Tryd.prog GT.gl 33 sig33 := gfn (Γ := GT) (nt := 54) (rs := [.tmp 2, .tmp 3]) GT_ok sigs_nil Tryd.func33 (by kernel_rfl) (by kernel_rfl) (by kernel_rfl) (by decide) (by decide) f33_is
@[reducible] noncomputable def sg34 : SigD := ⟨[.data (.sl 33 tInstr), .data (.sl 3 (.int .i64))], [], [], ⟨[.full 4 tInstr], [(4, .row 33 tInstr false)], []⟩⟩
@[reducible] noncomputable def sig34 : Sig := gsig sg34 F_ref18_linked
theorem f34_is : ∀ (x : sg34.X) (vs : List Value), den GT [(13, sig13)] ⟨4, [], []⟩ 16 (bodyOf Tryd.f34) sg34.out.Y (initSt (sg34.pre x) (sg34.heap x) 38 sg34.pin vs) (fun e s => finC GT [.tmp 4] [] sg34.pin [] [] e s sg34.out.dec) = F_ref18_linked x := fun x vs => by kernel_rfl
theorem f34_ok : SigOk Tryd.prog GT.gl 34 sig34 := gfn (Γ := GT) (nt := 38) (rs := [.tmp 4]) GT_ok (sigs_cons f13_ok (by kernel_rfl) sigs_nil) Tryd.func34 (by kernel_rfl) (by kernel_rfl) (by kernel_rfl) (by decide) (by decide) f34_is
@[reducible] noncomputable def sg17 : SigD := ⟨[.data (.sl 33 tInstr)], [], [], ⟨[.data (.int .i64), .data (.int .i64)], [], []⟩⟩
@[reducible] noncomputable def sig17 : Sig := gsig sg17 F_ref18_Check
theorem f17_is : ∀ (x : sg17.X) (vs : List Value), den GT [(13, sig13), (24, sig24), (32, sig32), (33, sig33), (34, sig34)] ⟨4, [], []⟩ 12 (bodyOf Tryd.f17) sg17.out.Y (initSt (sg17.pre x) (sg17.heap x) 110 sg17.pin vs) (fun e s => finC GT [.tmp 2, .tmp 3] [] sg17.pin [] [] e s sg17.out.dec) = F_ref18_Check x := fun x vs => by kernel_rfl
theorem f17_ok : SigOk Tryd.prog GT.gl 17 sig17 := gfn (Γ := GT) (nt := 110) (rs := [.tmp 2, .tmp 3]) GT_ok (sigs_cons f13_ok (by kernel_rfl) (sigs_cons f24_ok (by kernel_rfl) (sigs_cons f32_ok (by kernel_rfl) (sigs_cons f33_ok (by kernel_rfl) (sigs_cons f34_ok (by kernel_rfl) sigs_nil))))) Tryd.func17 (by kernel_rfl) (by kernel_rfl) (by kernel_rfl) (by decide) (by decide) f17_is
@[reducible] noncomputable def sg18 : SigD := ⟨[.lent 33 tInstr, .data (.sl 33 tInstr)], [], [], ⟨[.data .bool], [], []⟩⟩
@[reducible] noncomputable def sig18 : Sig := gsig sg18 F_book_KeptCode
theorem f18_is : ∀ (x : sg18.X) (vs : List Value), den GT [(14, sig14)] ⟨4, [], []⟩ 16 (bodyOf Tryd.f18) sg18.out.Y (initSt (sg18.pre x) (sg18.heap x) 21 sg18.pin vs) (fun e s => finC GT [.tmp 4] [] sg18.pin [] [] e s sg18.out.dec) = F_book_KeptCode x := fun x vs => by kernel_rfl
theorem f18_ok : SigOk Tryd.prog GT.gl 18 sig18 := gfn (Γ := GT) (nt := 21) (rs := [.tmp 4]) GT_ok (sigs_cons f14_ok (by kernel_rfl) sigs_nil) Tryd.func18 (by kernel_rfl) (by kernel_rfl) (by kernel_rfl) (by decide) (by decide) f18_is
@[reducible] noncomputable def sg4 : SigD := ⟨[.data (.sl 33 tInstr)], [], [], ⟨[.data .bool], [], []⟩⟩
@[reducible] noncomputable def sig4 : Sig := gsig sg4 F_law18_LinkChecks
theorem f4_is : ∀ (x : sg4.X) (vs : List Value), den GT [(12, sig12), (15, sig15), (16, sig16), (17, sig17), (18, sig18)] ⟨4, [], []⟩ 4 (bodyOf Tryd.f4) sg4.out.Y (initSt (sg4.pre x) (sg4.heap x) 36 sg4.pin vs) (fun e s => finC GT [.tmp 2] [] sg4.pin [] [] e s sg4.out.dec) = F_law18_LinkChecks x := fun x vs => by kernel_rfl
theorem f4_ok : SigOk Tryd.prog GT.gl 4 sig4 := gfn (Γ := GT) (nt := 36) (rs := [.tmp 2]) GT_ok (sigs_cons f12_ok (by kernel_rfl) (sigs_cons f15_ok (by kernel_rfl) (sigs_cons f16_ok (by kernel_rfl) (sigs_cons f17_ok (by kernel_rfl) (sigs_cons f18_ok (by kernel_rfl) sigs_nil))))) Tryd.func4 (by kernel_rfl) (by kernel_rfl) (by kernel_rfl) (by decide) (by decide) f4_is
theorem f4_h {x : sg4.X} {y : sg4.out.Y} (h : F_law18_LinkChecks x = some y) : FnH Tryd.prog GT.gl 4 (sg4.pre x) (sg4.heap x) (sg4.out.out y).1 (sg4.out.out y).2.1 (sg4.out.out y).2.2 := gfnH (Γ := GT) (nt := 36) (rs := [.tmp 2]) GT_ok (sigs_cons f12_ok (by kernel_rfl) (sigs_cons f15_ok (by kernel_rfl) (sigs_cons f16_ok (by kernel_rfl) (sigs_cons f17_ok (by kernel_rfl) (sigs_cons f18_ok (by kernel_rfl) sigs_nil))))) Tryd.func4 (by kernel_rfl) (by kernel_rfl) (by kernel_rfl) (by decide) (by decide) f4_is h
@[reducible] noncomputable def sg19 : SigD := ⟨[.data (.sl 33 tInstr)], [], [], ⟨[.full 2 tInstr, .data (.int .i64), .data (.int .i64)], [(2, .row 33 tInstr false)], []⟩⟩
@[reducible] noncomputable def sig19 : Sig := gsig sg19 F_ref18_Link
theorem f19_is : ∀ (x : sg19.X) (vs : List Value), den GT [(17, sig17), (33, sig33), (34, sig34)] ⟨4, [], []⟩ 28 (bodyOf Tryd.f19) sg19.out.Y (initSt (sg19.pre x) (sg19.heap x) 26 sg19.pin vs) (fun e s => finC GT [.tmp 2, .tmp 3, .tmp 4] [] sg19.pin [] [] e s sg19.out.dec) = F_ref18_Link x := fun x vs => by kernel_rfl
theorem f19_ok : SigOk Tryd.prog GT.gl 19 sig19 := gfn (Γ := GT) (nt := 26) (rs := [.tmp 2, .tmp 3, .tmp 4]) GT_ok (sigs_cons f17_ok (by kernel_rfl) (sigs_cons f33_ok (by kernel_rfl) (sigs_cons f34_ok (by kernel_rfl) sigs_nil))) Tryd.func19 (by kernel_rfl) (by kernel_rfl) (by kernel_rfl) (by decide) (by decide) f19_is
@[reducible] noncomputable def sg20 : SigD := ⟨[.data (.sl 33 tInstr), .data (.int .i64)], [], [], ⟨[.data (.int .i64), .data (.int .i64)], [], []⟩⟩
@[reducible] noncomputable def sig20 : Sig := gsig sg20 F_link_Place
theorem f20_is : ∀ (x : sg20.X) (vs : List Value), den GT [(16, sig16), (26, sig26)] ⟨4, [], []⟩ 48 (bodyOf Tryd.f20) sg20.out.Y (initSt (sg20.pre x) (sg20.heap x) 44 sg20.pin vs) (fun e s => finC GT [.tmp 4, .tmp 5] [] sg20.pin [] [] e s sg20.out.dec) = F_link_Place x := fun x vs => by kernel_rfl
theorem f20_ok : SigOk Tryd.prog GT.gl 20 sig20 := gfn (Γ := GT) (nt := 44) (rs := [.tmp 4, .tmp 5]) GT_ok (sigs_cons f16_ok (by kernel_rfl) (sigs_cons f26_ok (by kernel_rfl) sigs_nil)) Tryd.func20 (by kernel_rfl) (by kernel_rfl) (by kernel_rfl) (by decide) (by decide) f20_is
@[reducible] noncomputable def sg21 : SigD := ⟨[.data (.sl 33 tInstr), .data (.int .i64)], [], [], ⟨[.data (.int .i64), .data (.int .i64)], [], []⟩⟩
@[reducible] noncomputable def sig21 : Sig := gsig sg21 F_ref18_Place
theorem f21_is : ∀ (x : sg21.X) (vs : List Value), den GT [(17, sig17), (33, sig33)] ⟨4, [], []⟩ 48 (bodyOf Tryd.f21) sg21.out.Y (initSt (sg21.pre x) (sg21.heap x) 40 sg21.pin vs) (fun e s => finC GT [.tmp 4, .tmp 5] [] sg21.pin [] [] e s sg21.out.dec) = F_ref18_Place x := fun x vs => by kernel_rfl
theorem f21_ok : SigOk Tryd.prog GT.gl 21 sig21 := gfn (Γ := GT) (nt := 40) (rs := [.tmp 4, .tmp 5]) GT_ok (sigs_cons f17_ok (by kernel_rfl) (sigs_cons f33_ok (by kernel_rfl) sigs_nil)) Tryd.func21 (by kernel_rfl) (by kernel_rfl) (by kernel_rfl) (by decide) (by decide) f21_is
@[reducible] noncomputable def sg5 : SigD := ⟨[.data (.sl 33 tInstr), .data (.int .i64)], [], [], ⟨[.data .bool], [], []⟩⟩
@[reducible] noncomputable def sig5 : Sig := gsig sg5 F_law18_LinkLinks
theorem f5_is : ∀ (x : sg5.X) (vs : List Value), den GT [(11, sig11), (12, sig12), (14, sig14), (15, sig15), (18, sig18), (19, sig19), (20, sig20), (21, sig21)] ⟨4, [], []⟩ 16 (bodyOf Tryd.f5) sg5.out.Y (initSt (sg5.pre x) (sg5.heap x) 73 sg5.pin vs) (fun e s => finC GT [.tmp 4] [] sg5.pin [] [] e s sg5.out.dec) = F_law18_LinkLinks x := fun x vs => by kernel_rfl
theorem f5_ok : SigOk Tryd.prog GT.gl 5 sig5 := gfn (Γ := GT) (nt := 73) (rs := [.tmp 4]) GT_ok (sigs_cons f11_ok (by kernel_rfl) (sigs_cons f12_ok (by kernel_rfl) (sigs_cons f14_ok (by kernel_rfl) (sigs_cons f15_ok (by kernel_rfl) (sigs_cons f18_ok (by kernel_rfl) (sigs_cons f19_ok (by kernel_rfl) (sigs_cons f20_ok (by kernel_rfl) (sigs_cons f21_ok (by kernel_rfl) sigs_nil)))))))) Tryd.func5 (by kernel_rfl) (by kernel_rfl) (by kernel_rfl) (by decide) (by decide) f5_is
theorem f5_h {x : sg5.X} {y : sg5.out.Y} (h : F_law18_LinkLinks x = some y) : FnH Tryd.prog GT.gl 5 (sg5.pre x) (sg5.heap x) (sg5.out.out y).1 (sg5.out.out y).2.1 (sg5.out.out y).2.2 := gfnH (Γ := GT) (nt := 73) (rs := [.tmp 4]) GT_ok (sigs_cons f11_ok (by kernel_rfl) (sigs_cons f12_ok (by kernel_rfl) (sigs_cons f14_ok (by kernel_rfl) (sigs_cons f15_ok (by kernel_rfl) (sigs_cons f18_ok (by kernel_rfl) (sigs_cons f19_ok (by kernel_rfl) (sigs_cons f20_ok (by kernel_rfl) (sigs_cons f21_ok (by kernel_rfl) sigs_nil)))))))) Tryd.func5 (by kernel_rfl) (by kernel_rfl) (by kernel_rfl) (by decide) (by decide) f5_is h
@[reducible] noncomputable def sg6 : SigD := ⟨[.data (.sl 33 tInstr)], [], [], ⟨[.data .bool], [], []⟩⟩
@[reducible] noncomputable def sig6 : Sig := gsig sg6 F_law18_LinkPlaces
theorem f6_is : ∀ (x : sg6.X) (vs : List Value), den GT [(11, sig11), (12, sig12), (13, sig13), (20, sig20)] ⟨4, [], []⟩ 4 (bodyOf Tryd.f6) sg6.out.Y (initSt (sg6.pre x) (sg6.heap x) 106 sg6.pin vs) (fun e s => finC GT [.tmp 2] [] sg6.pin [] [] e s sg6.out.dec) = F_law18_LinkPlaces x := fun x vs => by kernel_rfl
theorem f6_ok : SigOk Tryd.prog GT.gl 6 sig6 := gfn (Γ := GT) (nt := 106) (rs := [.tmp 2]) GT_ok (sigs_cons f11_ok (by kernel_rfl) (sigs_cons f12_ok (by kernel_rfl) (sigs_cons f13_ok (by kernel_rfl) (sigs_cons f20_ok (by kernel_rfl) sigs_nil)))) Tryd.func6 (by kernel_rfl) (by kernel_rfl) (by kernel_rfl) (by decide) (by decide) f6_is
theorem f6_h {x : sg6.X} {y : sg6.out.Y} (h : F_law18_LinkPlaces x = some y) : FnH Tryd.prog GT.gl 6 (sg6.pre x) (sg6.heap x) (sg6.out.out y).1 (sg6.out.out y).2.1 (sg6.out.out y).2.2 := gfnH (Γ := GT) (nt := 106) (rs := [.tmp 2]) GT_ok (sigs_cons f11_ok (by kernel_rfl) (sigs_cons f12_ok (by kernel_rfl) (sigs_cons f13_ok (by kernel_rfl) (sigs_cons f20_ok (by kernel_rfl) sigs_nil)))) Tryd.func6 (by kernel_rfl) (by kernel_rfl) (by kernel_rfl) (by decide) (by decide) f6_is h
@[reducible] noncomputable def sg22 : SigD := ⟨[.data (.sl 33 tInstr)], [], [], ⟨[.full 2 tInstr, .data (.int .i64), .data (.int .i64)], [(2, .row 33 tInstr false)], []⟩⟩
@[reducible] noncomputable def sig22 : Sig := gsig sg22 F_link_Unlink
theorem f22_is : ∀ (x : sg22.X) (vs : List Value), den GT [(27, sig27), (28, sig28)] ⟨4, [], []⟩ 28 (bodyOf Tryd.f22) sg22.out.Y (initSt (sg22.pre x) (sg22.heap x) 100 sg22.pin vs) (fun e s => finC GT [.tmp 2, .tmp 3, .tmp 4] [] sg22.pin [] [] e s sg22.out.dec) = F_link_Unlink x := fun x vs => by kernel_rfl
theorem f22_ok : SigOk Tryd.prog GT.gl 22 sig22 := gfn (Γ := GT) (nt := 100) (rs := [.tmp 2, .tmp 3, .tmp 4]) GT_ok (sigs_cons f27_ok (by kernel_rfl) (sigs_cons f28_ok (by kernel_rfl) sigs_nil)) Tryd.func22 (by kernel_rfl) (by kernel_rfl) (by kernel_rfl) (by decide) (by decide) f22_is
@[reducible] noncomputable def sg23 : SigD := ⟨[.data (.sl 33 tInstr)], [], [], ⟨[.full 2 tInstr, .data (.int .i64), .data (.int .i64)], [(2, .row 33 tInstr false)], []⟩⟩
@[reducible] noncomputable def sig23 : Sig := gsig sg23 F_ref18_Unlink
theorem f23_is : ∀ (x : sg23.X) (vs : List Value), den GT [(13, sig13), (24, sig24)] ⟨4, [], []⟩ 28 (bodyOf Tryd.f23) sg23.out.Y (initSt (sg23.pre x) (sg23.heap x) 105 sg23.pin vs) (fun e s => finC GT [.tmp 2, .tmp 3, .tmp 4] [] sg23.pin [] [] e s sg23.out.dec) = F_ref18_Unlink x := fun x vs => by kernel_rfl
theorem f23_ok : SigOk Tryd.prog GT.gl 23 sig23 := gfn (Γ := GT) (nt := 105) (rs := [.tmp 2, .tmp 3, .tmp 4]) GT_ok (sigs_cons f13_ok (by kernel_rfl) (sigs_cons f24_ok (by kernel_rfl) sigs_nil)) Tryd.func23 (by kernel_rfl) (by kernel_rfl) (by kernel_rfl) (by decide) (by decide) f23_is
@[reducible] noncomputable def sg7 : SigD := ⟨[.data (.sl 33 tInstr)], [], [], ⟨[.data .bool], [], []⟩⟩
@[reducible] noncomputable def sig7 : Sig := gsig sg7 F_law18_LinkUnlinks
theorem f7_is : ∀ (x : sg7.X) (vs : List Value), den GT [(12, sig12), (14, sig14), (15, sig15), (18, sig18), (22, sig22), (23, sig23)] ⟨4, [], []⟩ 4 (bodyOf Tryd.f7) sg7.out.Y (initSt (sg7.pre x) (sg7.heap x) 45 sg7.pin vs) (fun e s => finC GT [.tmp 2] [] sg7.pin [] [] e s sg7.out.dec) = F_law18_LinkUnlinks x := fun x vs => by kernel_rfl
theorem f7_ok : SigOk Tryd.prog GT.gl 7 sig7 := gfn (Γ := GT) (nt := 45) (rs := [.tmp 2]) GT_ok (sigs_cons f12_ok (by kernel_rfl) (sigs_cons f14_ok (by kernel_rfl) (sigs_cons f15_ok (by kernel_rfl) (sigs_cons f18_ok (by kernel_rfl) (sigs_cons f22_ok (by kernel_rfl) (sigs_cons f23_ok (by kernel_rfl) sigs_nil)))))) Tryd.func7 (by kernel_rfl) (by kernel_rfl) (by kernel_rfl) (by decide) (by decide) f7_is
theorem f7_h {x : sg7.X} {y : sg7.out.Y} (h : F_law18_LinkUnlinks x = some y) : FnH Tryd.prog GT.gl 7 (sg7.pre x) (sg7.heap x) (sg7.out.out y).1 (sg7.out.out y).2.1 (sg7.out.out y).2.2 := gfnH (Γ := GT) (nt := 45) (rs := [.tmp 2]) GT_ok (sigs_cons f12_ok (by kernel_rfl) (sigs_cons f14_ok (by kernel_rfl) (sigs_cons f15_ok (by kernel_rfl) (sigs_cons f18_ok (by kernel_rfl) (sigs_cons f22_ok (by kernel_rfl) (sigs_cons f23_ok (by kernel_rfl) sigs_nil)))))) Tryd.func7 (by kernel_rfl) (by kernel_rfl) (by kernel_rfl) (by decide) (by decide) f7_is h
@[reducible] noncomputable def sg8 : SigD := ⟨[.data (.sl 33 tInstr)], [], [], ⟨[.data .bool], [], []⟩⟩
@[reducible] noncomputable def sig8 : Sig := gsig sg8 F_law18_LinkBack
theorem f8_is : ∀ (x : sg8.X) (vs : List Value), den GT [(11, sig11), (12, sig12), (14, sig14), (22, sig22), (24, sig24)] ⟨4, [], []⟩ 4 (bodyOf Tryd.f8) sg8.out.Y (initSt (sg8.pre x) (sg8.heap x) 65 sg8.pin vs) (fun e s => finC GT [.tmp 2] [] sg8.pin [] [] e s sg8.out.dec) = F_law18_LinkBack x := fun x vs => by kernel_rfl
theorem f8_ok : SigOk Tryd.prog GT.gl 8 sig8 := gfn (Γ := GT) (nt := 65) (rs := [.tmp 2]) GT_ok (sigs_cons f11_ok (by kernel_rfl) (sigs_cons f12_ok (by kernel_rfl) (sigs_cons f14_ok (by kernel_rfl) (sigs_cons f22_ok (by kernel_rfl) (sigs_cons f24_ok (by kernel_rfl) sigs_nil))))) Tryd.func8 (by kernel_rfl) (by kernel_rfl) (by kernel_rfl) (by decide) (by decide) f8_is
theorem f8_h {x : sg8.X} {y : sg8.out.Y} (h : F_law18_LinkBack x = some y) : FnH Tryd.prog GT.gl 8 (sg8.pre x) (sg8.heap x) (sg8.out.out y).1 (sg8.out.out y).2.1 (sg8.out.out y).2.2 := gfnH (Γ := GT) (nt := 65) (rs := [.tmp 2]) GT_ok (sigs_cons f11_ok (by kernel_rfl) (sigs_cons f12_ok (by kernel_rfl) (sigs_cons f14_ok (by kernel_rfl) (sigs_cons f22_ok (by kernel_rfl) (sigs_cons f24_ok (by kernel_rfl) sigs_nil))))) Tryd.func8 (by kernel_rfl) (by kernel_rfl) (by kernel_rfl) (by decide) (by decide) f8_is h
@[reducible] noncomputable def sg9 : SigD := ⟨[.data (.sl 33 tInstr)], [], [], ⟨[.data .bool], [], []⟩⟩
@[reducible] noncomputable def sig9 : Sig := gsig sg9 F_law18_LinkTwice
theorem f9_is : ∀ (x : sg9.X) (vs : List Value), den GT [(11, sig11), (12, sig12), (14, sig14), (16, sig16), (22, sig22)] ⟨4, [], []⟩ 4 (bodyOf Tryd.f9) sg9.out.Y (initSt (sg9.pre x) (sg9.heap x) 69 sg9.pin vs) (fun e s => finC GT [.tmp 2] [] sg9.pin [] [] e s sg9.out.dec) = F_law18_LinkTwice x := fun x vs => by kernel_rfl
theorem f9_ok : SigOk Tryd.prog GT.gl 9 sig9 := gfn (Γ := GT) (nt := 69) (rs := [.tmp 2]) GT_ok (sigs_cons f11_ok (by kernel_rfl) (sigs_cons f12_ok (by kernel_rfl) (sigs_cons f14_ok (by kernel_rfl) (sigs_cons f16_ok (by kernel_rfl) (sigs_cons f22_ok (by kernel_rfl) sigs_nil))))) Tryd.func9 (by kernel_rfl) (by kernel_rfl) (by kernel_rfl) (by decide) (by decide) f9_is
theorem f9_h {x : sg9.X} {y : sg9.out.Y} (h : F_law18_LinkTwice x = some y) : FnH Tryd.prog GT.gl 9 (sg9.pre x) (sg9.heap x) (sg9.out.out y).1 (sg9.out.out y).2.1 (sg9.out.out y).2.2 := gfnH (Γ := GT) (nt := 69) (rs := [.tmp 2]) GT_ok (sigs_cons f11_ok (by kernel_rfl) (sigs_cons f12_ok (by kernel_rfl) (sigs_cons f14_ok (by kernel_rfl) (sigs_cons f16_ok (by kernel_rfl) (sigs_cons f22_ok (by kernel_rfl) sigs_nil))))) Tryd.func9 (by kernel_rfl) (by kernel_rfl) (by kernel_rfl) (by decide) (by decide) f9_is h
@[reducible] noncomputable def sg25 : SigD := ⟨[.same (.full 1000 tInstr), .data (.int .i64)], [(1000, .row 33 tInstr false)], [], ⟨[], [], []⟩⟩
@[reducible] noncomputable def sig25 : Sig := gsig sg25 F_book_SpoilCode
theorem f25_is : ∀ (x : sg25.X) (vs : List Value), den GT [] ⟨4, [], []⟩ 0 (bodyOf Tryd.f25) sg25.out.Y (initSt (sg25.pre x) (sg25.heap x) 21 sg25.pin vs) (fun e s => finC GT [] [] sg25.pin [] [] e s sg25.out.dec) = F_book_SpoilCode x := fun x vs => by kernel_rfl
theorem f25_ok : SigOk Tryd.prog GT.gl 25 sig25 := gfn (Γ := GT) (nt := 21) (rs := []) GT_ok sigs_nil Tryd.func25 (by kernel_rfl) (by kernel_rfl) (by kernel_rfl) (by decide) (by decide) f25_is
@[reducible] noncomputable def sg10 : SigD := ⟨[.data (.sl 33 tInstr)], [], [], ⟨[.data .bool], [], []⟩⟩
@[reducible] noncomputable def sig10 : Sig := gsig sg10 F_law18_LinkOwn
theorem f10_is : ∀ (x : sg10.X) (vs : List Value), den GT [(5, sig5), (7, sig7), (11, sig11), (15, sig15), (18, sig18), (22, sig22), (25, sig25)] ⟨4, [], [3]⟩ 4 (bodyOf Tryd.f10) sg10.out.Y (initSt (sg10.pre x) (sg10.heap x) 44 sg10.pin vs) (fun e s => finC GT [.tmp 2] [] sg10.pin [] [] e s sg10.out.dec) = F_law18_LinkOwn x := fun x vs => by kernel_rfl
theorem f10_ok : SigOk Tryd.prog GT.gl 10 sig10 := gfn (Γ := GT) (nt := 44) (rs := [.tmp 2]) GT_ok (sigs_cons f5_ok (by kernel_rfl) (sigs_cons f7_ok (by kernel_rfl) (sigs_cons f11_ok (by kernel_rfl) (sigs_cons f15_ok (by kernel_rfl) (sigs_cons f18_ok (by kernel_rfl) (sigs_cons f22_ok (by kernel_rfl) (sigs_cons f25_ok (by kernel_rfl) sigs_nil))))))) Tryd.func10 (by kernel_rfl) (by kernel_rfl) (by kernel_rfl) (by decide) (by decide) f10_is
theorem f10_h {x : sg10.X} {y : sg10.out.Y} (h : F_law18_LinkOwn x = some y) : FnH Tryd.prog GT.gl 10 (sg10.pre x) (sg10.heap x) (sg10.out.out y).1 (sg10.out.out y).2.1 (sg10.out.out y).2.2 := gfnH (Γ := GT) (nt := 44) (rs := [.tmp 2]) GT_ok (sigs_cons f5_ok (by kernel_rfl) (sigs_cons f7_ok (by kernel_rfl) (sigs_cons f11_ok (by kernel_rfl) (sigs_cons f15_ok (by kernel_rfl) (sigs_cons f18_ok (by kernel_rfl) (sigs_cons f22_ok (by kernel_rfl) (sigs_cons f25_ok (by kernel_rfl) sigs_nil))))))) Tryd.func10 (by kernel_rfl) (by kernel_rfl) (by kernel_rfl) (by decide) (by decide) f10_is h
end Go.Proofs
