/- Part of the proof of the law's row: YtlelhklalainfaaWwC04. -/
import Derived.Test.YtlelhklalainfaaWtC04
import Derived.Test.YtlelhklalainfaaWpC04
set_option linter.all false
set_option linter.unusedVariables false
set_option linter.unusedSimpArgs false
/-! The functions compute that. -/
namespace Go.Proofs
open Go Go.Abs
@[reducible] noncomputable def sg11 : SigD := ⟨[.data (.sl 48 tNode)], [], [], ⟨[.own 2 tNode], [(2, .row 48 tNode false)], []⟩⟩
@[reducible] noncomputable def sig11 : Sig := gsig sg11 F_book_LendPattern
theorem f11_is : ∀ (x : sg11.X) (vs : List Value), den GT [] 4 4 (bodyOf Try.f11) sg11.out.Y (initSt (sg11.pre x) (sg11.heap x) 12 sg11.pin vs) (fun e s => finC [.tmp 2] [] sg11.pin [] [] e s sg11.out.dec) = F_book_LendPattern x := fun x vs => by kernel_rfl
theorem f11_ok : SigOk Try.prog 11 sig11 := gfn (Γ := GT) (nt := 12) (rs := [.tmp 2]) GT_ok sigs_nil Try.func11 (by kernel_rfl) (by kernel_rfl) (by kernel_rfl) (by decide) (by decide) f11_is
@[reducible] noncomputable def sg15 : SigD := ⟨[.data (.int .i64)], [], [], ⟨[.data (.int .i64)], [], []⟩⟩
@[reducible] noncomputable def sig15 : Sig := gsig sg15 F_tree_Arity
theorem f15_is : ∀ (x : sg15.X) (vs : List Value), den GT [] 4 4 (bodyOf Try.f15) sg15.out.Y (initSt (sg15.pre x) (sg15.heap x) 28 sg15.pin vs) (fun e s => finC [.tmp 2] [] sg15.pin [] [] e s sg15.out.dec) = F_tree_Arity x := fun x vs => by kernel_rfl
theorem f15_ok : SigOk Try.prog 15 sig15 := gfn (Γ := GT) (nt := 28) (rs := [.tmp 2]) GT_ok sigs_nil Try.func15 (by kernel_rfl) (by kernel_rfl) (by kernel_rfl) (by decide) (by decide) f15_is
@[reducible] noncomputable def sg58 : SigD := ⟨[.data (.int .i64)], [], [], ⟨[.data .bool], [], []⟩⟩
@[reducible] noncomputable def sig58 : Sig := gsig sg58 F_tree_counted
theorem f58_is : ∀ (x : sg58.X) (vs : List Value), den GT [] 4 4 (bodyOf Try.f58) sg58.out.Y (initSt (sg58.pre x) (sg58.heap x) 13 sg58.pin vs) (fun e s => finC [.tmp 2] [] sg58.pin [] [] e s sg58.out.dec) = F_tree_counted x := fun x vs => by kernel_rfl
theorem f58_ok : SigOk Try.prog 58 sig58 := gfn (Γ := GT) (nt := 13) (rs := [.tmp 2]) GT_ok sigs_nil Try.func58 (by kernel_rfl) (by kernel_rfl) (by kernel_rfl) (by decide) (by decide) f58_is
@[reducible] noncomputable def sg63 : SigD := ⟨[.data (.int .u8)], [], [], ⟨[.data .bool], [], []⟩⟩
@[reducible] noncomputable def sig63 : Sig := gsig sg63 F_tree_isHead
theorem f63_is : ∀ (x : sg63.X) (vs : List Value), den GT [] 4 4 (bodyOf Try.f63) sg63.out.Y (initSt (sg63.pre x) (sg63.heap x) 19 sg63.pin vs) (fun e s => finC [.tmp 2] [] sg63.pin [] [] e s sg63.out.dec) = F_tree_isHead x := fun x vs => by kernel_rfl
theorem f63_ok : SigOk Try.prog 63 sig63 := gfn (Γ := GT) (nt := 19) (rs := [.tmp 2]) GT_ok sigs_nil Try.func63 (by kernel_rfl) (by kernel_rfl) (by kernel_rfl) (by decide) (by decide) f63_is
@[reducible] noncomputable def sg59 : SigD := ⟨[.data .str], [], [], ⟨[.data .bool], [], []⟩⟩
@[reducible] noncomputable def sig59 : Sig := gsig sg59 F_tree_isName
theorem f59_is : ∀ (x : sg59.X) (vs : List Value), den GT [(63, sig63)] 4 4 (bodyOf Try.f59) sg59.out.Y (initSt (sg59.pre x) (sg59.heap x) 40 sg59.pin vs) (fun e s => finC [.tmp 2] [] sg59.pin [] [] e s sg59.out.dec) = F_tree_isName x := fun x vs => by kernel_rfl
theorem f59_ok : SigOk Try.prog 59 sig59 := gfn (Γ := GT) (nt := 40) (rs := [.tmp 2]) GT_ok (sigs_cons f63_ok (by kernel_rfl) sigs_nil) Try.func59 (by kernel_rfl) (by kernel_rfl) (by kernel_rfl) (by decide) (by decide) f59_is
@[reducible] noncomputable def sg60 : SigD := ⟨[.data .str], [], [], ⟨[.data .bool], [], []⟩⟩
@[reducible] noncomputable def sig60 : Sig := gsig sg60 F_tree_isTemplate
theorem f60_is : ∀ (x : sg60.X) (vs : List Value), den GT [] 4 4 (bodyOf Try.f60) sg60.out.Y (initSt (sg60.pre x) (sg60.heap x) 41 sg60.pin vs) (fun e s => finC [.tmp 2] [] sg60.pin [] [] e s sg60.out.dec) = F_tree_isTemplate x := fun x vs => by kernel_rfl
theorem f60_ok : SigOk Try.prog 60 sig60 := gfn (Γ := GT) (nt := 41) (rs := [.tmp 2]) GT_ok sigs_nil Try.func60 (by kernel_rfl) (by kernel_rfl) (by kernel_rfl) (by decide) (by decide) f60_is
@[reducible] noncomputable def sg53 : SigD := ⟨[.data tNode], [], [], ⟨[.data .bool], [], []⟩⟩
@[reducible] noncomputable def sig53 : Sig := gsig sg53 F_tree_fields
theorem f53_is : ∀ (x : sg53.X) (vs : List Value), den GT [(58, sig58), (59, sig59), (60, sig60)] 4 4 (bodyOf Try.f53) sg53.out.Y (initSt (sg53.pre x) (sg53.heap x) 67 sg53.pin vs) (fun e s => finC [.tmp 2] [] sg53.pin [] [] e s sg53.out.dec) = F_tree_fields x := fun x vs => by kernel_rfl
theorem f53_ok : SigOk Try.prog 53 sig53 := gfn (Γ := GT) (nt := 67) (rs := [.tmp 2]) GT_ok (sigs_cons f58_ok (by kernel_rfl) (sigs_cons f59_ok (by kernel_rfl) (sigs_cons f60_ok (by kernel_rfl) sigs_nil))) Try.func53 (by kernel_rfl) (by kernel_rfl) (by kernel_rfl) (by decide) (by decide) f53_is
@[reducible] noncomputable def sg40 : SigD := ⟨[.data (.int .i64), .data tshape], [], [], ⟨[], [], []⟩⟩
@[reducible] noncomputable def sig40 : Sig := gsig sg40 F_tree_Check_1
theorem f40_is : ∀ (x : sg40.X) (vs : List Value), den GT [] 4 0 (bodyOf Try.f40) sg40.out.Y (initSt (sg40.pre x) (sg40.heap x) 4 sg40.pin vs) (fun e s => finC [] [] sg40.pin [] [] e s sg40.out.dec) = F_tree_Check_1 x := fun x vs => by kernel_rfl
theorem f40_ok : SigOk Try.prog 40 sig40 := gfn (Γ := GT) (nt := 4) (rs := []) GT_ok sigs_nil Try.func40 (by kernel_rfl) (by kernel_rfl) (by kernel_rfl) (by decide) (by decide) f40_is
@[reducible] noncomputable def sg39_chk : SigD := ⟨[.data (.sl 48 tNode), .same (.fn 40 [])], [], [], ⟨[.data (.int .i64), .data (.int .i64)], [], []⟩⟩
@[reducible] noncomputable def sig39_chk : Sig := gsig sg39_chk F_tree_each_chk
theorem f39_chk_is : ∀ (x : sg39_chk.X) (vs : List Value), den GT [(15, sig15), (53, sig53), (40, sig40)] 4 48 (bodyOf Try.f39) sg39_chk.out.Y (initSt (sg39_chk.pre x) (sg39_chk.heap x) 108 sg39_chk.pin vs) (fun e s => finC [.tmp 4, .tmp 5] [] sg39_chk.pin [] [] e s sg39_chk.out.dec) = F_tree_each_chk x := fun x vs => by kernel_rfl
theorem f39_chk_ok : SigOk Try.prog 39 sig39_chk := gfn (Γ := GT) (nt := 108) (rs := [.tmp 4, .tmp 5]) GT_ok (sigs_cons f15_ok (by kernel_rfl) (sigs_cons f53_ok (by kernel_rfl) (sigs_cons f40_ok (by kernel_rfl) sigs_nil))) Try.func39 (by kernel_rfl) (by kernel_rfl) (by kernel_rfl) (by decide) (by decide) f39_chk_is
@[reducible] noncomputable def sg12 : SigD := ⟨[.data (.sl 48 tNode)], [], [], ⟨[.data (.int .i64), .data (.int .i64)], [], []⟩⟩
@[reducible] noncomputable def sig12 : Sig := gsig sg12 F_tree_Check
theorem f12_is : ∀ (x : sg12.X) (vs : List Value), den GT [(39, sig39_chk), (40, sig40)] 4 12 (bodyOf Try.f12) sg12.out.Y (initSt (sg12.pre x) (sg12.heap x) 11 sg12.pin vs) (fun e s => finC [.tmp 2, .tmp 3] [] sg12.pin [] [] e s sg12.out.dec) = F_tree_Check x := fun x vs => by kernel_rfl
theorem f12_ok : SigOk Try.prog 12 sig12 := gfn (Γ := GT) (nt := 11) (rs := [.tmp 2, .tmp 3]) GT_ok (sigs_cons f39_chk_ok (by kernel_rfl) (sigs_cons f40_ok (by kernel_rfl) sigs_nil)) Try.func12 (by kernel_rfl) (by kernel_rfl) (by kernel_rfl) (by decide) (by decide) f12_is
@[reducible] noncomputable def sg16 : SigD := ⟨[.data (.int .i64)], [], [], ⟨[.data (.int .i64)], [], []⟩⟩
@[reducible] noncomputable def sig16 : Sig := gsig sg16 F_ref04_Arity
theorem f16_is : ∀ (x : sg16.X) (vs : List Value), den GT [] 4 4 (bodyOf Try.f16) sg16.out.Y (initSt (sg16.pre x) (sg16.heap x) 30 sg16.pin vs) (fun e s => finC [.tmp 2] [] sg16.pin [] [] e s sg16.out.dec) = F_ref04_Arity x := fun x vs => by kernel_rfl
theorem f16_ok : SigOk Try.prog 16 sig16 := gfn (Γ := GT) (nt := 30) (rs := [.tmp 2]) GT_ok sigs_nil Try.func16 (by kernel_rfl) (by kernel_rfl) (by kernel_rfl) (by decide) (by decide) f16_is
@[reducible] noncomputable def sg61 : SigD := ⟨[.data .str], [], [], ⟨[.data .bool], [], []⟩⟩
@[reducible] noncomputable def sig61 : Sig := gsig sg61 F_ref04_Name
theorem f61_is : ∀ (x : sg61.X) (vs : List Value), den GT [] 4 4 (bodyOf Try.f61) sg61.out.Y (initSt (sg61.pre x) (sg61.heap x) 59 sg61.pin vs) (fun e s => finC [.tmp 2] [] sg61.pin [] [] e s sg61.out.dec) = F_ref04_Name x := fun x vs => by kernel_rfl
theorem f61_ok : SigOk Try.prog 61 sig61 := gfn (Γ := GT) (nt := 59) (rs := [.tmp 2]) GT_ok sigs_nil Try.func61 (by kernel_rfl) (by kernel_rfl) (by kernel_rfl) (by decide) (by decide) f61_is
@[reducible] noncomputable def sg62 : SigD := ⟨[.data .str], [], [], ⟨[.data .bool], [], []⟩⟩
@[reducible] noncomputable def sig62 : Sig := gsig sg62 F_ref04_Template
theorem f62_is : ∀ (x : sg62.X) (vs : List Value), den GT [] 4 4 (bodyOf Try.f62) sg62.out.Y (initSt (sg62.pre x) (sg62.heap x) 41 sg62.pin vs) (fun e s => finC [.tmp 2] [] sg62.pin [] [] e s sg62.out.dec) = F_ref04_Template x := fun x vs => by kernel_rfl
theorem f62_ok : SigOk Try.prog 62 sig62 := gfn (Γ := GT) (nt := 41) (rs := [.tmp 2]) GT_ok sigs_nil Try.func62 (by kernel_rfl) (by kernel_rfl) (by kernel_rfl) (by decide) (by decide) f62_is
@[reducible] noncomputable def sg54 : SigD := ⟨[.data tNode], [], [], ⟨[.data .bool], [], []⟩⟩
@[reducible] noncomputable def sig54 : Sig := gsig sg54 F_ref04_Field
theorem f54_is : ∀ (x : sg54.X) (vs : List Value), den GT [(61, sig61), (62, sig62)] 4 4 (bodyOf Try.f54) sg54.out.Y (initSt (sg54.pre x) (sg54.heap x) 87 sg54.pin vs) (fun e s => finC [.tmp 2] [] sg54.pin [] [] e s sg54.out.dec) = F_ref04_Field x := fun x vs => by kernel_rfl
theorem f54_ok : SigOk Try.prog 54 sig54 := gfn (Γ := GT) (nt := 87) (rs := [.tmp 2]) GT_ok (sigs_cons f61_ok (by kernel_rfl) (sigs_cons f62_ok (by kernel_rfl) sigs_nil)) Try.func54 (by kernel_rfl) (by kernel_rfl) (by kernel_rfl) (by decide) (by decide) f54_is
@[reducible] noncomputable def sg41 : SigD := ⟨[.data (.sl 48 tNode)], [], [], ⟨[.full 2 (.int .i64), .full 3 (.int .i64), .data (.int .i64), .data (.int .i64)], [(2, .row 3 (.int .i64) false), (3, .row 3 (.int .i64) false)], []⟩⟩
@[reducible] noncomputable def sig41 : Sig := gsig sg41 F_ref04_from
theorem f41_is : ∀ (x : sg41.X) (vs : List Value), den GT [(16, sig16), (54, sig54)] 4 60 (bodyOf Try.f41) sg41.out.Y (initSt (sg41.pre x) (sg41.heap x) 91 sg41.pin vs) (fun e s => finC [.tmp 2, .tmp 3, .tmp 4, .tmp 5] [] sg41.pin [] [] e s sg41.out.dec) = F_ref04_from x := fun x vs => by kernel_rfl
theorem f41_ok : SigOk Try.prog 41 sig41 := gfn (Γ := GT) (nt := 91) (rs := [.tmp 2, .tmp 3, .tmp 4, .tmp 5]) GT_ok (sigs_cons f16_ok (by kernel_rfl) (sigs_cons f54_ok (by kernel_rfl) sigs_nil)) Try.func41 (by kernel_rfl) (by kernel_rfl) (by kernel_rfl) (by decide) (by decide) f41_is
@[reducible] noncomputable def sg13 : SigD := ⟨[.data (.sl 48 tNode)], [], [], ⟨[.data (.int .i64), .data (.int .i64)], [], []⟩⟩
@[reducible] noncomputable def sig13 : Sig := gsig sg13 F_ref04_Check
theorem f13_is : ∀ (x : sg13.X) (vs : List Value), den GT [(41, sig41)] 4 12 (bodyOf Try.f13) sg13.out.Y (initSt (sg13.pre x) (sg13.heap x) 36 sg13.pin vs) (fun e s => finC [.tmp 2, .tmp 3] [] sg13.pin [] [] e s sg13.out.dec) = F_ref04_Check x := fun x vs => by kernel_rfl
theorem f13_ok : SigOk Try.prog 13 sig13 := gfn (Γ := GT) (nt := 36) (rs := [.tmp 2, .tmp 3]) GT_ok (sigs_cons f41_ok (by kernel_rfl) sigs_nil) Try.func13 (by kernel_rfl) (by kernel_rfl) (by kernel_rfl) (by decide) (by decide) f13_is
@[reducible] noncomputable def sg14 : SigD := ⟨[], [], [], ⟨[.data .bool], [], []⟩⟩
@[reducible] noncomputable def sig14 : Sig := gsig sg14 F_law04_lives
theorem f14_is : ∀ (x : sg14.X) (vs : List Value), den GT [(12, sig12)] 4 1 (bodyOf Try.f14) sg14.out.Y (initSt (sg14.pre x) (sg14.heap x) 27 sg14.pin vs) (fun e s => finC [.tmp 0] [] sg14.pin [] [] e s sg14.out.dec) = F_law04_lives x := fun x vs => by kernel_rfl
theorem f14_ok : SigOk Try.prog 14 sig14 := gfn (Γ := GT) (nt := 27) (rs := [.tmp 0]) GT_ok (sigs_cons f12_ok (by kernel_rfl) sigs_nil) Try.func14 (by kernel_rfl) (by kernel_rfl) (by kernel_rfl) (by decide) (by decide) f14_is
theorem f14_h {x : sg14.X} {y : sg14.out.Y} (h : F_law04_lives x = some y) : FnH Try.prog 14 (sg14.pre x) (sg14.heap x) (sg14.out.out y).1 (sg14.out.out y).2.1 (sg14.out.out y).2.2 := gfnH (Γ := GT) (nt := 27) (rs := [.tmp 0]) GT_ok (sigs_cons f12_ok (by kernel_rfl) sigs_nil) Try.func14 (by kernel_rfl) (by kernel_rfl) (by kernel_rfl) (by decide) (by decide) f14_is h
@[reducible] noncomputable def sg19 : SigD := ⟨[.data (.sl 48 tNode), .data (.sl 48 tNode)], [], [], ⟨[.data .bool], [], []⟩⟩
@[reducible] noncomputable def sig19 : Sig := gsig sg19 F_book_SamePattern
theorem f19_is : ∀ (x : sg19.X) (vs : List Value), den GT [] 4 16 (bodyOf Try.f19) sg19.out.Y (initSt (sg19.pre x) (sg19.heap x) 26 sg19.pin vs) (fun e s => finC [.tmp 4] [] sg19.pin [] [] e s sg19.out.dec) = F_book_SamePattern x := fun x vs => by kernel_rfl
theorem f19_ok : SigOk Try.prog 19 sig19 := gfn (Γ := GT) (nt := 26) (rs := [.tmp 4]) GT_ok sigs_nil Try.func19 (by kernel_rfl) (by kernel_rfl) (by kernel_rfl) (by decide) (by decide) f19_is
@[reducible] noncomputable def sg17 : SigD := ⟨[.lent 48 tNode, .data (.sl 48 tNode)], [], [], ⟨[.data .bool], [], []⟩⟩
@[reducible] noncomputable def sig17 : Sig := gsig sg17 F_book_KeptPattern
theorem f17_is : ∀ (x : sg17.X) (vs : List Value), den GT [(19, sig19)] 4 16 (bodyOf Try.f17) sg17.out.Y (initSt (sg17.pre x) (sg17.heap x) 21 sg17.pin vs) (fun e s => finC [.tmp 4] [] sg17.pin [] [] e s sg17.out.dec) = F_book_KeptPattern x := fun x vs => by kernel_rfl
theorem f17_ok : SigOk Try.prog 17 sig17 := gfn (Γ := GT) (nt := 21) (rs := [.tmp 4]) GT_ok (sigs_cons f19_ok (by kernel_rfl) sigs_nil) Try.func17 (by kernel_rfl) (by kernel_rfl) (by kernel_rfl) (by decide) (by decide) f17_is
@[reducible] noncomputable def sg3 : SigD := ⟨[.data (.sl 48 tNode), .data (.int .i64)], [], [], ⟨[.data .bool], [], []⟩⟩
@[reducible] noncomputable def sig3 : Sig := gsig sg3 F_law04_TreeChecks
theorem f3_is : ∀ (x : sg3.X) (vs : List Value), den GT [(11, sig11), (12, sig12), (13, sig13), (14, sig14), (15, sig15), (16, sig16), (17, sig17)] 4 16 (bodyOf Try.f3) sg3.out.Y (initSt (sg3.pre x) (sg3.heap x) 45 sg3.pin vs) (fun e s => finC [.tmp 4] [] sg3.pin [] [] e s sg3.out.dec) = F_law04_TreeChecks x := fun x vs => by kernel_rfl
theorem f3_ok : SigOk Try.prog 3 sig3 := gfn (Γ := GT) (nt := 45) (rs := [.tmp 4]) GT_ok (sigs_cons f11_ok (by kernel_rfl) (sigs_cons f12_ok (by kernel_rfl) (sigs_cons f13_ok (by kernel_rfl) (sigs_cons f14_ok (by kernel_rfl) (sigs_cons f15_ok (by kernel_rfl) (sigs_cons f16_ok (by kernel_rfl) (sigs_cons f17_ok (by kernel_rfl) sigs_nil))))))) Try.func3 (by kernel_rfl) (by kernel_rfl) (by kernel_rfl) (by decide) (by decide) f3_is
theorem f3_h {x : sg3.X} {y : sg3.out.Y} (h : F_law04_TreeChecks x = some y) : FnH Try.prog 3 (sg3.pre x) (sg3.heap x) (sg3.out.out y).1 (sg3.out.out y).2.1 (sg3.out.out y).2.2 := gfnH (Γ := GT) (nt := 45) (rs := [.tmp 4]) GT_ok (sigs_cons f11_ok (by kernel_rfl) (sigs_cons f12_ok (by kernel_rfl) (sigs_cons f13_ok (by kernel_rfl) (sigs_cons f14_ok (by kernel_rfl) (sigs_cons f15_ok (by kernel_rfl) (sigs_cons f16_ok (by kernel_rfl) (sigs_cons f17_ok (by kernel_rfl) sigs_nil))))))) Try.func3 (by kernel_rfl) (by kernel_rfl) (by kernel_rfl) (by decide) (by decide) f3_is h
@[reducible] noncomputable def sg42 : SigD := ⟨[.data (.sl 48 tNode), .data (.sl 48 tNode)], [], [], ⟨[.data .bool], [], []⟩⟩
@[reducible] noncomputable def sig42 : Sig := gsig sg42 F_slices_Equal_Pattern_Node
theorem f42_is : ∀ (x : sg42.X) (vs : List Value), den GT [] 4 16 (bodyOf Try.f42) sg42.out.Y (initSt (sg42.pre x) (sg42.heap x) 26 sg42.pin vs) (fun e s => finC [.tmp 4] [] sg42.pin [] [] e s sg42.out.dec) = F_slices_Equal_Pattern_Node x := fun x vs => by kernel_rfl
theorem f42_ok : SigOk Try.prog 42 sig42 := gfn (Γ := GT) (nt := 26) (rs := [.tmp 4]) GT_ok sigs_nil Try.func42 (by kernel_rfl) (by kernel_rfl) (by kernel_rfl) (by decide) (by decide) f42_is
@[reducible] noncomputable def sg18 : SigD := ⟨[.data (.sl 48 tNode), .data (.sl 48 tNode)], [], [], ⟨[.data .bool], [], []⟩⟩
@[reducible] noncomputable def sig18 : Sig := gsig sg18 F_tree_Same
theorem f18_is : ∀ (x : sg18.X) (vs : List Value), den GT [(42, sig42)] 4 16 (bodyOf Try.f18) sg18.out.Y (initSt (sg18.pre x) (sg18.heap x) 8 sg18.pin vs) (fun e s => finC [.tmp 4] [] sg18.pin [] [] e s sg18.out.dec) = F_tree_Same x := fun x vs => by kernel_rfl
theorem f18_ok : SigOk Try.prog 18 sig18 := gfn (Γ := GT) (nt := 8) (rs := [.tmp 4]) GT_ok (sigs_cons f42_ok (by kernel_rfl) sigs_nil) Try.func18 (by kernel_rfl) (by kernel_rfl) (by kernel_rfl) (by decide) (by decide) f18_is
@[reducible] noncomputable def sg4 : SigD := ⟨[.data (.sl 48 tNode), .data (.sl 48 tNode)], [], [], ⟨[.data .bool], [], []⟩⟩
@[reducible] noncomputable def sig4 : Sig := gsig sg4 F_law04_TreeSame
theorem f4_is : ∀ (x : sg4.X) (vs : List Value), den GT [(14, sig14), (18, sig18), (19, sig19)] 4 16 (bodyOf Try.f4) sg4.out.Y (initSt (sg4.pre x) (sg4.heap x) 20 sg4.pin vs) (fun e s => finC [.tmp 4] [] sg4.pin [] [] e s sg4.out.dec) = F_law04_TreeSame x := fun x vs => by kernel_rfl
theorem f4_ok : SigOk Try.prog 4 sig4 := gfn (Γ := GT) (nt := 20) (rs := [.tmp 4]) GT_ok (sigs_cons f14_ok (by kernel_rfl) (sigs_cons f18_ok (by kernel_rfl) (sigs_cons f19_ok (by kernel_rfl) sigs_nil))) Try.func4 (by kernel_rfl) (by kernel_rfl) (by kernel_rfl) (by decide) (by decide) f4_is
theorem f4_h {x : sg4.X} {y : sg4.out.Y} (h : F_law04_TreeSame x = some y) : FnH Try.prog 4 (sg4.pre x) (sg4.heap x) (sg4.out.out y).1 (sg4.out.out y).2.1 (sg4.out.out y).2.2 := gfnH (Γ := GT) (nt := 20) (rs := [.tmp 4]) GT_ok (sigs_cons f14_ok (by kernel_rfl) (sigs_cons f18_ok (by kernel_rfl) (sigs_cons f19_ok (by kernel_rfl) sigs_nil))) Try.func4 (by kernel_rfl) (by kernel_rfl) (by kernel_rfl) (by decide) (by decide) f4_is h
@[reducible] noncomputable def sg55 : SigD := ⟨[.data (.sl 9 .str), .data .str], [], [], ⟨[.data (.int .i64)], [], []⟩⟩
@[reducible] noncomputable def sig55 : Sig := gsig sg55 F_slices_Index_string_string
theorem f55_is : ∀ (x : sg55.X) (vs : List Value), den GT [] 4 16 (bodyOf Try.f55) sg55.out.Y (initSt (sg55.pre x) (sg55.heap x) 19 sg55.pin vs) (fun e s => finC [.tmp 4] [] sg55.pin [] [] e s sg55.out.dec) = F_slices_Index_string_string x := fun x vs => by kernel_rfl
theorem f55_ok : SigOk Try.prog 55 sig55 := gfn (Γ := GT) (nt := 19) (rs := [.tmp 4]) GT_ok sigs_nil Try.func55 (by kernel_rfl) (by kernel_rfl) (by kernel_rfl) (by decide) (by decide) f55_is
@[reducible] noncomputable def sg43 : SigD := ⟨[.data (.sl 9 .str), .data .str], [], [], ⟨[.data .bool], [], []⟩⟩
@[reducible] noncomputable def sig43 : Sig := gsig sg43 F_slices_Contains_string_string
theorem f43_is : ∀ (x : sg43.X) (vs : List Value), den GT [(55, sig55)] 4 16 (bodyOf Try.f43) sg43.out.Y (initSt (sg43.pre x) (sg43.heap x) 9 sg43.pin vs) (fun e s => finC [.tmp 4] [] sg43.pin [] [] e s sg43.out.dec) = F_slices_Contains_string_string x := fun x vs => by kernel_rfl
theorem f43_ok : SigOk Try.prog 43 sig43 := gfn (Γ := GT) (nt := 9) (rs := [.tmp 4]) GT_ok (sigs_cons f55_ok (by kernel_rfl) sigs_nil) Try.func43 (by kernel_rfl) (by kernel_rfl) (by kernel_rfl) (by decide) (by decide) f43_is
@[reducible] noncomputable def sg20 : SigD := ⟨[.data (.sl 48 tNode)], [], [], ⟨[.full 2 .str, .data (.int .i64)], [(2, .row 9 .str false)], []⟩⟩
@[reducible] noncomputable def sig20 : Sig := gsig sg20 F_tree_Names
theorem f20_is : ∀ (x : sg20.X) (vs : List Value), den GT [(12, sig12), (43, sig43)] 4 12 (bodyOf Try.f20) sg20.out.Y (initSt (sg20.pre x) (sg20.heap x) 40 sg20.pin vs) (fun e s => finC [.tmp 2, .tmp 3] [] sg20.pin [] [] e s sg20.out.dec) = F_tree_Names x := fun x vs => by kernel_rfl
theorem f20_ok : SigOk Try.prog 20 sig20 := gfn (Γ := GT) (nt := 40) (rs := [.tmp 2, .tmp 3]) GT_ok (sigs_cons f12_ok (by kernel_rfl) (sigs_cons f43_ok (by kernel_rfl) sigs_nil)) Try.func20 (by kernel_rfl) (by kernel_rfl) (by kernel_rfl) (by decide) (by decide) f20_is
@[reducible] noncomputable def sg21 : SigD := ⟨[.data (.sl 48 tNode)], [], [], ⟨[.full 2 .str, .data (.int .i64)], [(2, .row 9 .str false)], []⟩⟩
@[reducible] noncomputable def sig21 : Sig := gsig sg21 F_ref04_Names
theorem f21_is : ∀ (x : sg21.X) (vs : List Value), den GT [(13, sig13)] 4 12 (bodyOf Try.f21) sg21.out.Y (initSt (sg21.pre x) (sg21.heap x) 60 sg21.pin vs) (fun e s => finC [.tmp 2, .tmp 3] [] sg21.pin [] [] e s sg21.out.dec) = F_ref04_Names x := fun x vs => by kernel_rfl
theorem f21_ok : SigOk Try.prog 21 sig21 := gfn (Γ := GT) (nt := 60) (rs := [.tmp 2, .tmp 3]) GT_ok (sigs_cons f13_ok (by kernel_rfl) sigs_nil) Try.func21 (by kernel_rfl) (by kernel_rfl) (by kernel_rfl) (by decide) (by decide) f21_is
@[reducible] noncomputable def sg22 : SigD := ⟨[.data (.sl 48 tNode)], [], [], ⟨[.data (.int .i64), .data (.int .i64)], [], []⟩⟩
@[reducible] noncomputable def sig22 : Sig := gsig sg22 F_tree_Captures
theorem f22_is : ∀ (x : sg22.X) (vs : List Value), den GT [(12, sig12)] 4 12 (bodyOf Try.f22) sg22.out.Y (initSt (sg22.pre x) (sg22.heap x) 30 sg22.pin vs) (fun e s => finC [.tmp 2, .tmp 3] [] sg22.pin [] [] e s sg22.out.dec) = F_tree_Captures x := fun x vs => by kernel_rfl
theorem f22_ok : SigOk Try.prog 22 sig22 := gfn (Γ := GT) (nt := 30) (rs := [.tmp 2, .tmp 3]) GT_ok (sigs_cons f12_ok (by kernel_rfl) sigs_nil) Try.func22 (by kernel_rfl) (by kernel_rfl) (by kernel_rfl) (by decide) (by decide) f22_is
@[reducible] noncomputable def sg44 : SigD := ⟨[.data (.int .i64)], [], [], ⟨[.data .bool], [], []⟩⟩
@[reducible] noncomputable def sig44 : Sig := gsig sg44 F_ref04_Catches
theorem f44_is : ∀ (x : sg44.X) (vs : List Value), den GT [] 4 4 (bodyOf Try.f44) sg44.out.Y (initSt (sg44.pre x) (sg44.heap x) 9 sg44.pin vs) (fun e s => finC [.tmp 2] [] sg44.pin [] [] e s sg44.out.dec) = F_ref04_Catches x := fun x vs => by kernel_rfl
theorem f44_ok : SigOk Try.prog 44 sig44 := gfn (Γ := GT) (nt := 9) (rs := [.tmp 2]) GT_ok sigs_nil Try.func44 (by kernel_rfl) (by kernel_rfl) (by kernel_rfl) (by decide) (by decide) f44_is
@[reducible] noncomputable def sg23 : SigD := ⟨[.data (.sl 48 tNode)], [], [], ⟨[.data (.int .i64), .data (.int .i64)], [], []⟩⟩
@[reducible] noncomputable def sig23 : Sig := gsig sg23 F_ref04_Captures
theorem f23_is : ∀ (x : sg23.X) (vs : List Value), den GT [(13, sig13), (44, sig44)] 4 12 (bodyOf Try.f23) sg23.out.Y (initSt (sg23.pre x) (sg23.heap x) 31 sg23.pin vs) (fun e s => finC [.tmp 2, .tmp 3] [] sg23.pin [] [] e s sg23.out.dec) = F_ref04_Captures x := fun x vs => by kernel_rfl
theorem f23_ok : SigOk Try.prog 23 sig23 := gfn (Γ := GT) (nt := 31) (rs := [.tmp 2, .tmp 3]) GT_ok (sigs_cons f13_ok (by kernel_rfl) (sigs_cons f44_ok (by kernel_rfl) sigs_nil)) Try.func23 (by kernel_rfl) (by kernel_rfl) (by kernel_rfl) (by decide) (by decide) f23_is
@[reducible] noncomputable def sg24 : SigD := ⟨[.data (.sl 9 .str), .data (.sl 9 .str)], [], [], ⟨[.data .bool], [], []⟩⟩
@[reducible] noncomputable def sig24 : Sig := gsig sg24 F_book_SameTexts
theorem f24_is : ∀ (x : sg24.X) (vs : List Value), den GT [] 4 16 (bodyOf Try.f24) sg24.out.Y (initSt (sg24.pre x) (sg24.heap x) 26 sg24.pin vs) (fun e s => finC [.tmp 4] [] sg24.pin [] [] e s sg24.out.dec) = F_book_SameTexts x := fun x vs => by kernel_rfl
theorem f24_ok : SigOk Try.prog 24 sig24 := gfn (Γ := GT) (nt := 26) (rs := [.tmp 4]) GT_ok sigs_nil Try.func24 (by kernel_rfl) (by kernel_rfl) (by kernel_rfl) (by decide) (by decide) f24_is
@[reducible] noncomputable def sg5 : SigD := ⟨[.data (.sl 48 tNode)], [], [], ⟨[.data .bool], [], []⟩⟩
@[reducible] noncomputable def sig5 : Sig := gsig sg5 F_law04_TreeTells
theorem f5_is : ∀ (x : sg5.X) (vs : List Value), den GT [(11, sig11), (14, sig14), (17, sig17), (20, sig20), (21, sig21), (22, sig22), (23, sig23), (24, sig24)] 4 4 (bodyOf Try.f5) sg5.out.Y (initSt (sg5.pre x) (sg5.heap x) 60 sg5.pin vs) (fun e s => finC [.tmp 2] [] sg5.pin [] [] e s sg5.out.dec) = F_law04_TreeTells x := fun x vs => by kernel_rfl
theorem f5_ok : SigOk Try.prog 5 sig5 := gfn (Γ := GT) (nt := 60) (rs := [.tmp 2]) GT_ok (sigs_cons f11_ok (by kernel_rfl) (sigs_cons f14_ok (by kernel_rfl) (sigs_cons f17_ok (by kernel_rfl) (sigs_cons f20_ok (by kernel_rfl) (sigs_cons f21_ok (by kernel_rfl) (sigs_cons f22_ok (by kernel_rfl) (sigs_cons f23_ok (by kernel_rfl) (sigs_cons f24_ok (by kernel_rfl) sigs_nil)))))))) Try.func5 (by kernel_rfl) (by kernel_rfl) (by kernel_rfl) (by decide) (by decide) f5_is
theorem f5_h {x : sg5.X} {y : sg5.out.Y} (h : F_law04_TreeTells x = some y) : FnH Try.prog 5 (sg5.pre x) (sg5.heap x) (sg5.out.out y).1 (sg5.out.out y).2.1 (sg5.out.out y).2.2 := gfnH (Γ := GT) (nt := 60) (rs := [.tmp 2]) GT_ok (sigs_cons f11_ok (by kernel_rfl) (sigs_cons f14_ok (by kernel_rfl) (sigs_cons f17_ok (by kernel_rfl) (sigs_cons f20_ok (by kernel_rfl) (sigs_cons f21_ok (by kernel_rfl) (sigs_cons f22_ok (by kernel_rfl) (sigs_cons f23_ok (by kernel_rfl) (sigs_cons f24_ok (by kernel_rfl) sigs_nil)))))))) Try.func5 (by kernel_rfl) (by kernel_rfl) (by kernel_rfl) (by decide) (by decide) f5_is h
@[reducible] noncomputable def sg56 : SigD := ⟨[.data (.int .i64), .data tshape, .same (.cptr 1000)], [(1000, .csame 65 (.full 1500 tshape)), (1500, .row 59 tshape false)], [2], ⟨[], [(1000, .csame 65 (.full 1500 tshape)), (1500, .row 59 tshape false)], [(2, .cptr 1000)]⟩⟩
@[reducible] noncomputable def sig56 : Sig := gsig sg56 F_tree_known_1
theorem f56_is : ∀ (x : sg56.X) (vs : List Value), den GT [] 4 4 (bodyOf Try.f56) sg56.out.Y (initSt (sg56.pre x) (sg56.heap x) 9 sg56.pin vs) (fun e s => finC [] [1000, 1500] sg56.pin [] [] e s sg56.out.dec) = F_tree_known_1 x := fun x vs => by kernel_rfl
theorem f56_ok : SigOk Try.prog 56 sig56 := gfn (Γ := GT) (nt := 9) (rs := []) GT_ok sigs_nil Try.func56 (by kernel_rfl) (by kernel_rfl) (by kernel_rfl) (by decide) (by decide) f56_is
@[reducible] noncomputable def sg39_known : SigD := ⟨[.data (.sl 48 tNode), .same (.fn 56 [.cptr 1000])], [(1000, .csame 65 (.full 1500 tshape)), (1500, .row 59 tshape false)], [1], ⟨[.data (.int .i64), .data (.int .i64)], [(1000, .csame 65 (.full 1500 tshape)), (1500, .row 59 tshape false)], [(1, .fn 56 [.cptr 1000])]⟩⟩
@[reducible] noncomputable def sig39_known : Sig := gsig sg39_known F_tree_each_known
theorem f39_known_is : ∀ (x : sg39_known.X) (vs : List Value), den GT [(15, sig15), (53, sig53), (56, sig56)] 4 50 (bodyOf Try.f39) sg39_known.out.Y (initSt (sg39_known.pre x) (sg39_known.heap x) 108 sg39_known.pin vs) (fun e s => finC [.tmp 4, .tmp 5] [1000, 1500] sg39_known.pin [] [] e s sg39_known.out.dec) = F_tree_each_known x := fun x vs => by kernel_rfl
theorem f39_known_ok : SigOk Try.prog 39 sig39_known := gfn (Γ := GT) (nt := 108) (rs := [.tmp 4, .tmp 5]) GT_ok (sigs_cons f15_ok (by kernel_rfl) (sigs_cons f53_ok (by kernel_rfl) (sigs_cons f56_ok (by kernel_rfl) sigs_nil))) Try.func39 (by kernel_rfl) (by kernel_rfl) (by kernel_rfl) (by decide) (by decide) f39_known_is
@[reducible] noncomputable def sg50 : SigD := ⟨[.data (.sl 48 tNode)], [], [], ⟨[.full 2 tshape, .data (.int .i64)], [(2, .row 59 tshape false)], []⟩⟩
@[reducible] noncomputable def sig50 : Sig := gsig sg50 F_tree_known
theorem f50_is : ∀ (x : sg50.X) (vs : List Value), den GT [(39, sig39_known)] 4 12 (bodyOf Try.f50) sg50.out.Y (initSt (sg50.pre x) (sg50.heap x) 20 sg50.pin vs) (fun e s => finC [.tmp 2, .tmp 3] [] sg50.pin [] [] e s sg50.out.dec) = F_tree_known x := fun x vs => by kernel_rfl
theorem f50_ok : SigOk Try.prog 50 sig50 := gfn (Γ := GT) (nt := 20) (rs := [.tmp 2, .tmp 3]) GT_ok (sigs_cons f39_known_ok (by kernel_rfl) sigs_nil) Try.func50 (by kernel_rfl) (by kernel_rfl) (by kernel_rfl) (by decide) (by decide) f50_is
@[reducible] noncomputable def sg45 : SigD := ⟨[.data (.sl 48 tNode), .data (.int .i64)], [], [], ⟨[.full 4 tshape, .data (.int .i64)], [(4, .row 59 tshape false)], []⟩⟩
@[reducible] noncomputable def sig45 : Sig := gsig sg45 F_tree_looked
theorem f45_is : ∀ (x : sg45.X) (vs : List Value), den GT [(50, sig50)] 4 48 (bodyOf Try.f45) sg45.out.Y (initSt (sg45.pre x) (sg45.heap x) 27 sg45.pin vs) (fun e s => finC [.tmp 4, .tmp 5] [] sg45.pin [] [] e s sg45.out.dec) = F_tree_looked x := fun x vs => by kernel_rfl
theorem f45_ok : SigOk Try.prog 45 sig45 := gfn (Γ := GT) (nt := 27) (rs := [.tmp 4, .tmp 5]) GT_ok (sigs_cons f50_ok (by kernel_rfl) sigs_nil) Try.func45 (by kernel_rfl) (by kernel_rfl) (by kernel_rfl) (by decide) (by decide) f45_is
@[reducible] noncomputable def sg25 : SigD := ⟨[.data (.sl 48 tNode), .data (.int .i64)], [], [], ⟨[.data (.int .i64), .data (.int .i64)], [], []⟩⟩
@[reducible] noncomputable def sig25 : Sig := gsig sg25 F_tree_Begin
theorem f25_is : ∀ (x : sg25.X) (vs : List Value), den GT [(45, sig45)] 4 48 (bodyOf Try.f25) sg25.out.Y (initSt (sg25.pre x) (sg25.heap x) 22 sg25.pin vs) (fun e s => finC [.tmp 4, .tmp 5] [] sg25.pin [] [] e s sg25.out.dec) = F_tree_Begin x := fun x vs => by kernel_rfl
theorem f25_ok : SigOk Try.prog 25 sig25 := gfn (Γ := GT) (nt := 22) (rs := [.tmp 4, .tmp 5]) GT_ok (sigs_cons f45_ok (by kernel_rfl) sigs_nil) Try.func25 (by kernel_rfl) (by kernel_rfl) (by kernel_rfl) (by decide) (by decide) f25_is
@[reducible] noncomputable def sg46 : SigD := ⟨[.data (.sl 48 tNode), .data (.int .i64)], [], [], ⟨[.data (.int .i64)], [], []⟩⟩
@[reducible] noncomputable def sig46 : Sig := gsig sg46 F_ref04_look
theorem f46_is : ∀ (x : sg46.X) (vs : List Value), den GT [(13, sig13)] 4 16 (bodyOf Try.f46) sg46.out.Y (initSt (sg46.pre x) (sg46.heap x) 23 sg46.pin vs) (fun e s => finC [.tmp 4] [] sg46.pin [] [] e s sg46.out.dec) = F_ref04_look x := fun x vs => by kernel_rfl
theorem f46_ok : SigOk Try.prog 46 sig46 := gfn (Γ := GT) (nt := 23) (rs := [.tmp 4]) GT_ok (sigs_cons f13_ok (by kernel_rfl) sigs_nil) Try.func46 (by kernel_rfl) (by kernel_rfl) (by kernel_rfl) (by decide) (by decide) f46_is
@[reducible] noncomputable def sg26 : SigD := ⟨[.data (.sl 48 tNode), .data (.int .i64)], [], [], ⟨[.data (.int .i64), .data (.int .i64)], [], []⟩⟩
@[reducible] noncomputable def sig26 : Sig := gsig sg26 F_ref04_Begin
theorem f26_is : ∀ (x : sg26.X) (vs : List Value), den GT [(41, sig41), (46, sig46)] 4 48 (bodyOf Try.f26) sg26.out.Y (initSt (sg26.pre x) (sg26.heap x) 28 sg26.pin vs) (fun e s => finC [.tmp 4, .tmp 5] [] sg26.pin [] [] e s sg26.out.dec) = F_ref04_Begin x := fun x vs => by kernel_rfl
theorem f26_ok : SigOk Try.prog 26 sig26 := gfn (Γ := GT) (nt := 28) (rs := [.tmp 4, .tmp 5]) GT_ok (sigs_cons f41_ok (by kernel_rfl) (sigs_cons f46_ok (by kernel_rfl) sigs_nil)) Try.func26 (by kernel_rfl) (by kernel_rfl) (by kernel_rfl) (by decide) (by decide) f26_is
@[reducible] noncomputable def sg47 : SigD := ⟨[.data (.sl 48 tNode)], [], [], ⟨[.full 2 tNode], [(2, .row 48 tNode false)], []⟩⟩
@[reducible] noncomputable def sig47 : Sig := gsig sg47 F_slices_Clone_Pattern_Node
theorem f47_is : ∀ (x : sg47.X) (vs : List Value), den GT [] 4 4 (bodyOf Try.f47) sg47.out.Y (initSt (sg47.pre x) (sg47.heap x) 8 sg47.pin vs) (fun e s => finC [.tmp 2] [] sg47.pin [] [] e s sg47.out.dec) = F_slices_Clone_Pattern_Node x := fun x vs => by kernel_rfl
theorem f47_ok : SigOk Try.prog 47 sig47 := gfn (Γ := GT) (nt := 8) (rs := [.tmp 2]) GT_ok sigs_nil Try.func47 (by kernel_rfl) (by kernel_rfl) (by kernel_rfl) (by decide) (by decide) f47_is
@[reducible] noncomputable def sg27 : SigD := ⟨[.data (.sl 48 tNode), .data (.int .i64)], [], [], ⟨[.full 4 tNode, .data (.int .i64)], [(4, .row 48 tNode false)], []⟩⟩
@[reducible] noncomputable def sig27 : Sig := gsig sg27 F_tree_Part
theorem f27_is : ∀ (x : sg27.X) (vs : List Value), den GT [(45, sig45), (47, sig47)] 4 48 (bodyOf Try.f27) sg27.out.Y (initSt (sg27.pre x) (sg27.heap x) 27 sg27.pin vs) (fun e s => finC [.tmp 4, .tmp 5] [] sg27.pin [] [] e s sg27.out.dec) = F_tree_Part x := fun x vs => by kernel_rfl
theorem f27_ok : SigOk Try.prog 27 sig27 := gfn (Γ := GT) (nt := 27) (rs := [.tmp 4, .tmp 5]) GT_ok (sigs_cons f45_ok (by kernel_rfl) (sigs_cons f47_ok (by kernel_rfl) sigs_nil)) Try.func27 (by kernel_rfl) (by kernel_rfl) (by kernel_rfl) (by decide) (by decide) f27_is
@[reducible] noncomputable def sg48 : SigD := ⟨[.data (.sl 48 tNode)], [], [], ⟨[.full 2 tNode], [(2, .row 48 tNode false)], []⟩⟩
@[reducible] noncomputable def sig48 : Sig := gsig sg48 F_ref04_Copy
theorem f48_is : ∀ (x : sg48.X) (vs : List Value), den GT [] 4 4 (bodyOf Try.f48) sg48.out.Y (initSt (sg48.pre x) (sg48.heap x) 6 sg48.pin vs) (fun e s => finC [.tmp 2] [] sg48.pin [] [] e s sg48.out.dec) = F_ref04_Copy x := fun x vs => by kernel_rfl
theorem f48_ok : SigOk Try.prog 48 sig48 := gfn (Γ := GT) (nt := 6) (rs := [.tmp 2]) GT_ok sigs_nil Try.func48 (by kernel_rfl) (by kernel_rfl) (by kernel_rfl) (by decide) (by decide) f48_is
@[reducible] noncomputable def sg28 : SigD := ⟨[.data (.sl 48 tNode), .data (.int .i64)], [], [], ⟨[.full 4 tNode, .data (.int .i64)], [(4, .row 48 tNode false)], []⟩⟩
@[reducible] noncomputable def sig28 : Sig := gsig sg28 F_ref04_Part
theorem f28_is : ∀ (x : sg28.X) (vs : List Value), den GT [(26, sig26), (48, sig48)] 4 48 (bodyOf Try.f28) sg28.out.Y (initSt (sg28.pre x) (sg28.heap x) 23 sg28.pin vs) (fun e s => finC [.tmp 4, .tmp 5] [] sg28.pin [] [] e s sg28.out.dec) = F_ref04_Part x := fun x vs => by kernel_rfl
theorem f28_ok : SigOk Try.prog 28 sig28 := gfn (Γ := GT) (nt := 23) (rs := [.tmp 4, .tmp 5]) GT_ok (sigs_cons f26_ok (by kernel_rfl) (sigs_cons f48_ok (by kernel_rfl) sigs_nil)) Try.func28 (by kernel_rfl) (by kernel_rfl) (by kernel_rfl) (by decide) (by decide) f28_is
@[reducible] noncomputable def sg29 : SigD := ⟨[.data (.sl 48 tNode), .data (.int .i64)], [], [], ⟨[.full 4 (.int .i64), .data (.int .i64)], [(4, .row 3 (.int .i64) false)], []⟩⟩
@[reducible] noncomputable def sig29 : Sig := gsig sg29 F_tree_Parts
theorem f29_is : ∀ (x : sg29.X) (vs : List Value), den GT [(15, sig15), (45, sig45)] 4 48 (bodyOf Try.f29) sg29.out.Y (initSt (sg29.pre x) (sg29.heap x) 47 sg29.pin vs) (fun e s => finC [.tmp 4, .tmp 5] [] sg29.pin [] [] e s sg29.out.dec) = F_tree_Parts x := fun x vs => by kernel_rfl
theorem f29_ok : SigOk Try.prog 29 sig29 := gfn (Γ := GT) (nt := 47) (rs := [.tmp 4, .tmp 5]) GT_ok (sigs_cons f15_ok (by kernel_rfl) (sigs_cons f45_ok (by kernel_rfl) sigs_nil)) Try.func29 (by kernel_rfl) (by kernel_rfl) (by kernel_rfl) (by decide) (by decide) f29_is
@[reducible] noncomputable def sg49 : SigD := ⟨[.data (.sl 48 tNode), .data (.sl 3 (.int .i64)), .data (.int .i64)], [], [], ⟨[.full 6 (.int .i64)], [(6, .row 3 (.int .i64) false)], []⟩⟩
@[reducible] noncomputable def sig49 : Sig := gsig sg49 F_ref04_Kids
theorem f49_is : ∀ (x : sg49.X) (vs : List Value), den GT [(16, sig16)] 4 64 (bodyOf Try.f49) sg49.out.Y (initSt (sg49.pre x) (sg49.heap x) 29 sg49.pin vs) (fun e s => finC [.tmp 6] [] sg49.pin [] [] e s sg49.out.dec) = F_ref04_Kids x := fun x vs => by kernel_rfl
theorem f49_ok : SigOk Try.prog 49 sig49 := gfn (Γ := GT) (nt := 29) (rs := [.tmp 6]) GT_ok (sigs_cons f16_ok (by kernel_rfl) sigs_nil) Try.func49 (by kernel_rfl) (by kernel_rfl) (by kernel_rfl) (by decide) (by decide) f49_is
@[reducible] noncomputable def sg30 : SigD := ⟨[.data (.sl 48 tNode), .data (.int .i64)], [], [], ⟨[.full 4 (.int .i64), .data (.int .i64)], [(4, .row 3 (.int .i64) false)], []⟩⟩
@[reducible] noncomputable def sig30 : Sig := gsig sg30 F_ref04_Parts
theorem f30_is : ∀ (x : sg30.X) (vs : List Value), den GT [(41, sig41), (46, sig46), (49, sig49)] 4 48 (bodyOf Try.f30) sg30.out.Y (initSt (sg30.pre x) (sg30.heap x) 28 sg30.pin vs) (fun e s => finC [.tmp 4, .tmp 5] [] sg30.pin [] [] e s sg30.out.dec) = F_ref04_Parts x := fun x vs => by kernel_rfl
theorem f30_ok : SigOk Try.prog 30 sig30 := gfn (Γ := GT) (nt := 28) (rs := [.tmp 4, .tmp 5]) GT_ok (sigs_cons f41_ok (by kernel_rfl) (sigs_cons f46_ok (by kernel_rfl) (sigs_cons f49_ok (by kernel_rfl) sigs_nil))) Try.func30 (by kernel_rfl) (by kernel_rfl) (by kernel_rfl) (by decide) (by decide) f30_is
@[reducible] noncomputable def sg31 : SigD := ⟨[.data (.sl 48 tNode)], [], [], ⟨[.data (.int .i64), .data (.int .i64)], [], []⟩⟩
@[reducible] noncomputable def sig31 : Sig := gsig sg31 F_tree_Height
theorem f31_is : ∀ (x : sg31.X) (vs : List Value), den GT [(50, sig50)] 4 12 (bodyOf Try.f31) sg31.out.Y (initSt (sg31.pre x) (sg31.heap x) 21 sg31.pin vs) (fun e s => finC [.tmp 2, .tmp 3] [] sg31.pin [] [] e s sg31.out.dec) = F_tree_Height x := fun x vs => by kernel_rfl
theorem f31_ok : SigOk Try.prog 31 sig31 := gfn (Γ := GT) (nt := 21) (rs := [.tmp 2, .tmp 3]) GT_ok (sigs_cons f50_ok (by kernel_rfl) sigs_nil) Try.func31 (by kernel_rfl) (by kernel_rfl) (by kernel_rfl) (by decide) (by decide) f31_is
@[reducible] noncomputable def sg32 : SigD := ⟨[.data (.sl 48 tNode)], [], [], ⟨[.data (.int .i64), .data (.int .i64)], [], []⟩⟩
@[reducible] noncomputable def sig32 : Sig := gsig sg32 F_ref04_Height
theorem f32_is : ∀ (x : sg32.X) (vs : List Value), den GT [(13, sig13), (41, sig41)] 4 12 (bodyOf Try.f32) sg32.out.Y (initSt (sg32.pre x) (sg32.heap x) 31 sg32.pin vs) (fun e s => finC [.tmp 2, .tmp 3] [] sg32.pin [] [] e s sg32.out.dec) = F_ref04_Height x := fun x vs => by kernel_rfl
theorem f32_ok : SigOk Try.prog 32 sig32 := gfn (Γ := GT) (nt := 31) (rs := [.tmp 2, .tmp 3]) GT_ok (sigs_cons f13_ok (by kernel_rfl) (sigs_cons f41_ok (by kernel_rfl) sigs_nil)) Try.func32 (by kernel_rfl) (by kernel_rfl) (by kernel_rfl) (by decide) (by decide) f32_is
@[reducible] noncomputable def sg33 : SigD := ⟨[.data (.sl 3 (.int .i64)), .data (.sl 3 (.int .i64))], [], [], ⟨[.data .bool], [], []⟩⟩
@[reducible] noncomputable def sig33 : Sig := gsig sg33 F_book_SameInts
theorem f33_is : ∀ (x : sg33.X) (vs : List Value), den GT [] 4 16 (bodyOf Try.f33) sg33.out.Y (initSt (sg33.pre x) (sg33.heap x) 26 sg33.pin vs) (fun e s => finC [.tmp 4] [] sg33.pin [] [] e s sg33.out.dec) = F_book_SameInts x := fun x vs => by kernel_rfl
theorem f33_ok : SigOk Try.prog 33 sig33 := gfn (Γ := GT) (nt := 26) (rs := [.tmp 4]) GT_ok sigs_nil Try.func33 (by kernel_rfl) (by kernel_rfl) (by kernel_rfl) (by decide) (by decide) f33_is
@[reducible] noncomputable def sg6 : SigD := ⟨[.data (.sl 48 tNode), .data (.int .i64)], [], [], ⟨[.data .bool], [], []⟩⟩
@[reducible] noncomputable def sig6 : Sig := gsig sg6 F_law04_TreeParts
theorem f6_is : ∀ (x : sg6.X) (vs : List Value), den GT [(11, sig11), (14, sig14), (17, sig17), (19, sig19), (25, sig25), (26, sig26), (27, sig27), (28, sig28), (29, sig29), (30, sig30), (31, sig31), (32, sig32), (33, sig33)] 4 16 (bodyOf Try.f6) sg6.out.Y (initSt (sg6.pre x) (sg6.heap x) 116 sg6.pin vs) (fun e s => finC [.tmp 4] [] sg6.pin [] [] e s sg6.out.dec) = F_law04_TreeParts x := fun x vs => by kernel_rfl
theorem f6_ok : SigOk Try.prog 6 sig6 := gfn (Γ := GT) (nt := 116) (rs := [.tmp 4]) GT_ok (sigs_cons f11_ok (by kernel_rfl) (sigs_cons f14_ok (by kernel_rfl) (sigs_cons f17_ok (by kernel_rfl) (sigs_cons f19_ok (by kernel_rfl) (sigs_cons f25_ok (by kernel_rfl) (sigs_cons f26_ok (by kernel_rfl) (sigs_cons f27_ok (by kernel_rfl) (sigs_cons f28_ok (by kernel_rfl) (sigs_cons f29_ok (by kernel_rfl) (sigs_cons f30_ok (by kernel_rfl) (sigs_cons f31_ok (by kernel_rfl) (sigs_cons f32_ok (by kernel_rfl) (sigs_cons f33_ok (by kernel_rfl) sigs_nil))))))))))))) Try.func6 (by kernel_rfl) (by kernel_rfl) (by kernel_rfl) (by decide) (by decide) f6_is
theorem f6_h {x : sg6.X} {y : sg6.out.Y} (h : F_law04_TreeParts x = some y) : FnH Try.prog 6 (sg6.pre x) (sg6.heap x) (sg6.out.out y).1 (sg6.out.out y).2.1 (sg6.out.out y).2.2 := gfnH (Γ := GT) (nt := 116) (rs := [.tmp 4]) GT_ok (sigs_cons f11_ok (by kernel_rfl) (sigs_cons f14_ok (by kernel_rfl) (sigs_cons f17_ok (by kernel_rfl) (sigs_cons f19_ok (by kernel_rfl) (sigs_cons f25_ok (by kernel_rfl) (sigs_cons f26_ok (by kernel_rfl) (sigs_cons f27_ok (by kernel_rfl) (sigs_cons f28_ok (by kernel_rfl) (sigs_cons f29_ok (by kernel_rfl) (sigs_cons f30_ok (by kernel_rfl) (sigs_cons f31_ok (by kernel_rfl) (sigs_cons f32_ok (by kernel_rfl) (sigs_cons f33_ok (by kernel_rfl) sigs_nil))))))))))))) Try.func6 (by kernel_rfl) (by kernel_rfl) (by kernel_rfl) (by decide) (by decide) f6_is h
@[reducible] noncomputable def sg7 : SigD := ⟨[.data (.sl 48 tNode), .data (.int .i64)], [], [], ⟨[.data .bool], [], []⟩⟩
@[reducible] noncomputable def sig7 : Sig := gsig sg7 F_law04_TreeTiles
theorem f7_is : ∀ (x : sg7.X) (vs : List Value), den GT [(12, sig12), (14, sig14), (15, sig15), (25, sig25), (27, sig27), (29, sig29), (31, sig31)] 4 16 (bodyOf Try.f7) sg7.out.Y (initSt (sg7.pre x) (sg7.heap x) 181 sg7.pin vs) (fun e s => finC [.tmp 4] [] sg7.pin [] [] e s sg7.out.dec) = F_law04_TreeTiles x := fun x vs => by kernel_rfl
theorem f7_ok : SigOk Try.prog 7 sig7 := gfn (Γ := GT) (nt := 181) (rs := [.tmp 4]) GT_ok (sigs_cons f12_ok (by kernel_rfl) (sigs_cons f14_ok (by kernel_rfl) (sigs_cons f15_ok (by kernel_rfl) (sigs_cons f25_ok (by kernel_rfl) (sigs_cons f27_ok (by kernel_rfl) (sigs_cons f29_ok (by kernel_rfl) (sigs_cons f31_ok (by kernel_rfl) sigs_nil))))))) Try.func7 (by kernel_rfl) (by kernel_rfl) (by kernel_rfl) (by decide) (by decide) f7_is
theorem f7_h {x : sg7.X} {y : sg7.out.Y} (h : F_law04_TreeTiles x = some y) : FnH Try.prog 7 (sg7.pre x) (sg7.heap x) (sg7.out.out y).1 (sg7.out.out y).2.1 (sg7.out.out y).2.2 := gfnH (Γ := GT) (nt := 181) (rs := [.tmp 4]) GT_ok (sigs_cons f12_ok (by kernel_rfl) (sigs_cons f14_ok (by kernel_rfl) (sigs_cons f15_ok (by kernel_rfl) (sigs_cons f25_ok (by kernel_rfl) (sigs_cons f27_ok (by kernel_rfl) (sigs_cons f29_ok (by kernel_rfl) (sigs_cons f31_ok (by kernel_rfl) sigs_nil))))))) Try.func7 (by kernel_rfl) (by kernel_rfl) (by kernel_rfl) (by decide) (by decide) f7_is h
@[reducible] noncomputable def sg51 : SigD := ⟨[.same (.full 1000 tNode)], [(1000, .row 48 tNode false)], [], ⟨[.full 2 tNode, .data (.int .i64)], [(2, .row 48 tNode false)], []⟩⟩
@[reducible] noncomputable def sig51 : Sig := gsig sg51 F_tree_checked
theorem f51_is : ∀ (x : sg51.X) (vs : List Value), den GT [(12, sig12)] 4 12 (bodyOf Try.f51) sg51.out.Y (initSt (sg51.pre x) (sg51.heap x) 15 sg51.pin vs) (fun e s => finC [.tmp 2, .tmp 3] [] sg51.pin [] [] e s sg51.out.dec) = F_tree_checked x := fun x vs => by kernel_rfl
theorem f51_ok : SigOk Try.prog 51 sig51 := gfn (Γ := GT) (nt := 15) (rs := [.tmp 2, .tmp 3]) GT_ok (sigs_cons f12_ok (by kernel_rfl) sigs_nil) Try.func51 (by kernel_rfl) (by kernel_rfl) (by kernel_rfl) (by decide) (by decide) f51_is
@[reducible] noncomputable def sg57 : SigD := ⟨[.same .nilS, .data (.int .i64)], [], [], ⟨[.full 4 tNode], [(4, .row 48 tNode false)], []⟩⟩
@[reducible] noncomputable def sig57 : Sig := gsig sg57 F_slices_Grow_Pattern_Node
theorem f57_is : ∀ (x : sg57.X) (vs : List Value), den GT [] 4 16 (bodyOf Try.f57) sg57.out.Y (initSt (sg57.pre x) (sg57.heap x) 27 sg57.pin vs) (fun e s => finC [.tmp 4] [] sg57.pin [4] [] e s sg57.out.dec) = F_slices_Grow_Pattern_Node x := fun x vs => by kernel_rfl
theorem f57_ok : SigOk Try.prog 57 sig57 := gfn (Γ := GT) (nt := 27) (rs := [.tmp 4]) GT_ok sigs_nil Try.func57 (by kernel_rfl) (by kernel_rfl) (by kernel_rfl) (by decide) (by decide) f57_is
@[reducible] noncomputable def sg52 : SigD := ⟨[.data (.sl 23 (.sl 48 tNode))], [], [], ⟨[.full 2 tNode], [(2, .row 48 tNode false)], []⟩⟩
@[reducible] noncomputable def sig52 : Sig := gsig sg52 F_slices_Concat_Pattern_Node
theorem f52_is : ∀ (x : sg52.X) (vs : List Value), den GT [(57, sig57)] 4 4 (bodyOf Try.f52) sg52.out.Y (initSt (sg52.pre x) (sg52.heap x) 36 sg52.pin vs) (fun e s => finC [.tmp 2] [] sg52.pin [] [] e s sg52.out.dec) = F_slices_Concat_Pattern_Node x := fun x vs => by kernel_rfl
theorem f52_ok : SigOk Try.prog 52 sig52 := gfn (Γ := GT) (nt := 36) (rs := [.tmp 2]) GT_ok (sigs_cons f57_ok (by kernel_rfl) sigs_nil) Try.func52 (by kernel_rfl) (by kernel_rfl) (by kernel_rfl) (by decide) (by decide) f52_is
@[reducible] noncomputable def sg34 : SigD := ⟨[.data (.sl 48 tNode), .data (.int .i64), .data (.sl 48 tNode)], [], [], ⟨[.full 6 tNode, .data (.int .i64)], [(6, .row 48 tNode false)], []⟩⟩
@[reducible] noncomputable def sig34 : Sig := gsig sg34 F_tree_Put
theorem f34_is : ∀ (x : sg34.X) (vs : List Value), den GT [(12, sig12), (25, sig25), (51, sig51), (52, sig52)] 4 192 (bodyOf Try.f34) sg34.out.Y (initSt (sg34.pre x) (sg34.heap x) 39 sg34.pin vs) (fun e s => finC [.tmp 6, .tmp 7] [] sg34.pin [] [] e s sg34.out.dec) = F_tree_Put x := fun x vs => by kernel_rfl
theorem f34_ok : SigOk Try.prog 34 sig34 := gfn (Γ := GT) (nt := 39) (rs := [.tmp 6, .tmp 7]) GT_ok (sigs_cons f12_ok (by kernel_rfl) (sigs_cons f25_ok (by kernel_rfl) (sigs_cons f51_ok (by kernel_rfl) (sigs_cons f52_ok (by kernel_rfl) sigs_nil)))) Try.func34 (by kernel_rfl) (by kernel_rfl) (by kernel_rfl) (by decide) (by decide) f34_is
@[reducible] noncomputable def sg35 : SigD := ⟨[.data (.sl 48 tNode), .data (.int .i64), .data (.sl 48 tNode)], [], [], ⟨[.full 6 tNode, .data (.int .i64)], [(6, .row 48 tNode false)], []⟩⟩
@[reducible] noncomputable def sig35 : Sig := gsig sg35 F_ref04_Put
theorem f35_is : ∀ (x : sg35.X) (vs : List Value), den GT [(13, sig13), (26, sig26), (48, sig48)] 4 192 (bodyOf Try.f35) sg35.out.Y (initSt (sg35.pre x) (sg35.heap x) 54 sg35.pin vs) (fun e s => finC [.tmp 6, .tmp 7] [] sg35.pin [] [] e s sg35.out.dec) = F_ref04_Put x := fun x vs => by kernel_rfl
theorem f35_ok : SigOk Try.prog 35 sig35 := gfn (Γ := GT) (nt := 54) (rs := [.tmp 6, .tmp 7]) GT_ok (sigs_cons f13_ok (by kernel_rfl) (sigs_cons f26_ok (by kernel_rfl) (sigs_cons f48_ok (by kernel_rfl) sigs_nil))) Try.func35 (by kernel_rfl) (by kernel_rfl) (by kernel_rfl) (by decide) (by decide) f35_is
@[reducible] noncomputable def sg8 : SigD := ⟨[.data tChange], [], [], ⟨[.data .bool], [], []⟩⟩
@[reducible] noncomputable def sig8 : Sig := gsig sg8 F_law04_TreePuts
theorem f8_is : ∀ (x : sg8.X) (vs : List Value), den GT [(11, sig11), (14, sig14), (17, sig17), (19, sig19), (34, sig34), (35, sig35)] 4 4 (bodyOf Try.f8) sg8.out.Y (initSt (sg8.pre x) (sg8.heap x) 56 sg8.pin vs) (fun e s => finC [.tmp 2] [] sg8.pin [] [] e s sg8.out.dec) = F_law04_TreePuts x := fun x vs => by kernel_rfl
theorem f8_ok : SigOk Try.prog 8 sig8 := gfn (Γ := GT) (nt := 56) (rs := [.tmp 2]) GT_ok (sigs_cons f11_ok (by kernel_rfl) (sigs_cons f14_ok (by kernel_rfl) (sigs_cons f17_ok (by kernel_rfl) (sigs_cons f19_ok (by kernel_rfl) (sigs_cons f34_ok (by kernel_rfl) (sigs_cons f35_ok (by kernel_rfl) sigs_nil)))))) Try.func8 (by kernel_rfl) (by kernel_rfl) (by kernel_rfl) (by decide) (by decide) f8_is
theorem f8_h {x : sg8.X} {y : sg8.out.Y} (h : F_law04_TreePuts x = some y) : FnH Try.prog 8 (sg8.pre x) (sg8.heap x) (sg8.out.out y).1 (sg8.out.out y).2.1 (sg8.out.out y).2.2 := gfnH (Γ := GT) (nt := 56) (rs := [.tmp 2]) GT_ok (sigs_cons f11_ok (by kernel_rfl) (sigs_cons f14_ok (by kernel_rfl) (sigs_cons f17_ok (by kernel_rfl) (sigs_cons f19_ok (by kernel_rfl) (sigs_cons f34_ok (by kernel_rfl) (sigs_cons f35_ok (by kernel_rfl) sigs_nil)))))) Try.func8 (by kernel_rfl) (by kernel_rfl) (by kernel_rfl) (by decide) (by decide) f8_is h
@[reducible] noncomputable def sg36 : SigD := ⟨[.same (.full 1000 tNode), .data (.int .i64)], [(1000, .row 48 tNode false)], [], ⟨[], [], []⟩⟩
@[reducible] noncomputable def sig36 : Sig := gsig sg36 F_book_SpoilPattern
theorem f36_is : ∀ (x : sg36.X) (vs : List Value), den GT [] 4 0 (bodyOf Try.f36) sg36.out.Y (initSt (sg36.pre x) (sg36.heap x) 21 sg36.pin vs) (fun e s => finC [] [] sg36.pin [] [] e s sg36.out.dec) = F_book_SpoilPattern x := fun x vs => by kernel_rfl
theorem f36_ok : SigOk Try.prog 36 sig36 := gfn (Γ := GT) (nt := 21) (rs := []) GT_ok sigs_nil Try.func36 (by kernel_rfl) (by kernel_rfl) (by kernel_rfl) (by decide) (by decide) f36_is
@[reducible] noncomputable def sg37 : SigD := ⟨[.data tNode, .data (.sl 23 (.sl 48 tNode))], [], [], ⟨[.full 4 tNode, .data (.int .i64)], [(4, .row 48 tNode false)], []⟩⟩
@[reducible] noncomputable def sig37 : Sig := gsig sg37 F_tree_Join
theorem f37_is : ∀ (x : sg37.X) (vs : List Value), den GT [(12, sig12), (15, sig15), (51, sig51), (53, sig53)] 4 48 (bodyOf Try.f37) sg37.out.Y (initSt (sg37.pre x) (sg37.heap x) 52 sg37.pin vs) (fun e s => finC [.tmp 4, .tmp 5] [] sg37.pin [] [] e s sg37.out.dec) = F_tree_Join x := fun x vs => by kernel_rfl
theorem f37_ok : SigOk Try.prog 37 sig37 := gfn (Γ := GT) (nt := 52) (rs := [.tmp 4, .tmp 5]) GT_ok (sigs_cons f12_ok (by kernel_rfl) (sigs_cons f15_ok (by kernel_rfl) (sigs_cons f51_ok (by kernel_rfl) (sigs_cons f53_ok (by kernel_rfl) sigs_nil)))) Try.func37 (by kernel_rfl) (by kernel_rfl) (by kernel_rfl) (by decide) (by decide) f37_is
@[reducible] noncomputable def sg38 : SigD := ⟨[.data tNode, .data (.sl 23 (.sl 48 tNode))], [], [], ⟨[.full 4 tNode, .data (.int .i64)], [(4, .row 48 tNode false)], []⟩⟩
@[reducible] noncomputable def sig38 : Sig := gsig sg38 F_ref04_Join
theorem f38_is : ∀ (x : sg38.X) (vs : List Value), den GT [(13, sig13), (16, sig16), (54, sig54)] 4 48 (bodyOf Try.f38) sg38.out.Y (initSt (sg38.pre x) (sg38.heap x) 62 sg38.pin vs) (fun e s => finC [.tmp 4, .tmp 5] [] sg38.pin [] [] e s sg38.out.dec) = F_ref04_Join x := fun x vs => by kernel_rfl
theorem f38_ok : SigOk Try.prog 38 sig38 := gfn (Γ := GT) (nt := 62) (rs := [.tmp 4, .tmp 5]) GT_ok (sigs_cons f13_ok (by kernel_rfl) (sigs_cons f16_ok (by kernel_rfl) (sigs_cons f54_ok (by kernel_rfl) sigs_nil))) Try.func38 (by kernel_rfl) (by kernel_rfl) (by kernel_rfl) (by decide) (by decide) f38_is
@[reducible] noncomputable def sg9 : SigD := ⟨[.data tChange], [], [], ⟨[.data .bool], [], []⟩⟩
@[reducible] noncomputable def sig9 : Sig := gsig sg9 F_law04_TreeOwn
theorem f9_is : ∀ (x : sg9.X) (vs : List Value), den GT [(11, sig11), (14, sig14), (17, sig17), (19, sig19), (27, sig27), (28, sig28), (34, sig34), (35, sig35), (36, sig36), (37, sig37), (38, sig38)] 4 4 (bodyOf Try.f9) sg9.out.Y (initSt (sg9.pre x) (sg9.heap x) 141 sg9.pin vs) (fun e s => finC [.tmp 2] [] sg9.pin [] [] e s sg9.out.dec) = F_law04_TreeOwn x := fun x vs => by kernel_rfl
theorem f9_ok : SigOk Try.prog 9 sig9 := gfn (Γ := GT) (nt := 141) (rs := [.tmp 2]) GT_ok (sigs_cons f11_ok (by kernel_rfl) (sigs_cons f14_ok (by kernel_rfl) (sigs_cons f17_ok (by kernel_rfl) (sigs_cons f19_ok (by kernel_rfl) (sigs_cons f27_ok (by kernel_rfl) (sigs_cons f28_ok (by kernel_rfl) (sigs_cons f34_ok (by kernel_rfl) (sigs_cons f35_ok (by kernel_rfl) (sigs_cons f36_ok (by kernel_rfl) (sigs_cons f37_ok (by kernel_rfl) (sigs_cons f38_ok (by kernel_rfl) sigs_nil))))))))))) Try.func9 (by kernel_rfl) (by kernel_rfl) (by kernel_rfl) (by decide) (by decide) f9_is
theorem f9_h {x : sg9.X} {y : sg9.out.Y} (h : F_law04_TreeOwn x = some y) : FnH Try.prog 9 (sg9.pre x) (sg9.heap x) (sg9.out.out y).1 (sg9.out.out y).2.1 (sg9.out.out y).2.2 := gfnH (Γ := GT) (nt := 141) (rs := [.tmp 2]) GT_ok (sigs_cons f11_ok (by kernel_rfl) (sigs_cons f14_ok (by kernel_rfl) (sigs_cons f17_ok (by kernel_rfl) (sigs_cons f19_ok (by kernel_rfl) (sigs_cons f27_ok (by kernel_rfl) (sigs_cons f28_ok (by kernel_rfl) (sigs_cons f34_ok (by kernel_rfl) (sigs_cons f35_ok (by kernel_rfl) (sigs_cons f36_ok (by kernel_rfl) (sigs_cons f37_ok (by kernel_rfl) (sigs_cons f38_ok (by kernel_rfl) sigs_nil))))))))))) Try.func9 (by kernel_rfl) (by kernel_rfl) (by kernel_rfl) (by decide) (by decide) f9_is h
@[reducible] noncomputable def sg10 : SigD := ⟨[.data tChange], [], [], ⟨[.data .bool], [], []⟩⟩
@[reducible] noncomputable def sig10 : Sig := gsig sg10 F_law04_TreeAgain
theorem f10_is : ∀ (x : sg10.X) (vs : List Value), den GT [(12, sig12), (14, sig14), (18, sig18), (25, sig25), (27, sig27), (29, sig29), (34, sig34), (37, sig37)] 4 4 (bodyOf Try.f10) sg10.out.Y (initSt (sg10.pre x) (sg10.heap x) 192 sg10.pin vs) (fun e s => finC [.tmp 2] [] sg10.pin [] [] e s sg10.out.dec) = F_law04_TreeAgain x := fun x vs => by kernel_rfl
theorem f10_ok : SigOk Try.prog 10 sig10 := gfn (Γ := GT) (nt := 192) (rs := [.tmp 2]) GT_ok (sigs_cons f12_ok (by kernel_rfl) (sigs_cons f14_ok (by kernel_rfl) (sigs_cons f18_ok (by kernel_rfl) (sigs_cons f25_ok (by kernel_rfl) (sigs_cons f27_ok (by kernel_rfl) (sigs_cons f29_ok (by kernel_rfl) (sigs_cons f34_ok (by kernel_rfl) (sigs_cons f37_ok (by kernel_rfl) sigs_nil)))))))) Try.func10 (by kernel_rfl) (by kernel_rfl) (by kernel_rfl) (by decide) (by decide) f10_is
theorem f10_h {x : sg10.X} {y : sg10.out.Y} (h : F_law04_TreeAgain x = some y) : FnH Try.prog 10 (sg10.pre x) (sg10.heap x) (sg10.out.out y).1 (sg10.out.out y).2.1 (sg10.out.out y).2.2 := gfnH (Γ := GT) (nt := 192) (rs := [.tmp 2]) GT_ok (sigs_cons f12_ok (by kernel_rfl) (sigs_cons f14_ok (by kernel_rfl) (sigs_cons f18_ok (by kernel_rfl) (sigs_cons f25_ok (by kernel_rfl) (sigs_cons f27_ok (by kernel_rfl) (sigs_cons f29_ok (by kernel_rfl) (sigs_cons f34_ok (by kernel_rfl) (sigs_cons f37_ok (by kernel_rfl) sigs_nil)))))))) Try.func10 (by kernel_rfl) (by kernel_rfl) (by kernel_rfl) (by decide) (by decide) f10_is h
end Go.Proofs
