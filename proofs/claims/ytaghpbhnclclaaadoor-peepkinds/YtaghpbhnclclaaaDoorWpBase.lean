/- Part of the proof of the law's row: YtaghpbhnclclaaaDoorWpBase. -/
import Derived.Test.YtaghpbhnclclaaaDoorAbsY
set_option linter.all false
set_option linter.unusedVariables false
set_option linter.unusedSimpArgs false
/-! Plain data. -/
namespace Go.Proofs
open Go.Abs
abbrev shapeD : Type := (Int × Int × Unit)
@[reducible] def zshape : shapeD := ((0 : Int), (0 : Int), ())
@[reducible] def tshape : Ty := .st [.int .i64, .int .i64]
abbrev SetD : Type := (Int × Int × Int × Int × Unit)
@[reducible] def zSet : SetD := ((0 : Int), (0 : Int), (0 : Int), (0 : Int), ())
@[reducible] def tSet : Ty := .st [.int .u64, .int .u64, .int .u64, .int .u64]
abbrev eqSet (x y : SetD) : Bool := Ty.eqb tSet x y
abbrev NodeD : Type := (Int × Int × ByteArray × SetD × Unit)
@[reducible] def zNode : NodeD := ((0 : Int), (0 : Int), (⟨#[]⟩ : ByteArray), ((0 : Int), (0 : Int), (0 : Int), (0 : Int), ()), ())
@[reducible] def tNode : Ty := .st [.int .i64, .int .i64, .str, tSet]
abbrev InstrD : Type := (Int × Int × Int × Int × ByteArray × SetD × Unit)
@[reducible] def zInstr : InstrD := ((0 : Int), (0 : Int), (0 : Int), (0 : Int), (⟨#[]⟩ : ByteArray), ((0 : Int), (0 : Int), (0 : Int), (0 : Int), ()), ())
@[reducible] def tInstr : Ty := .st [.int .i64, .int .i64, .int .i64, .int .i64, .str, tSet]
abbrev eqInstr (x y : InstrD) : Bool := Ty.eqb tInstr x y
end Go.Proofs
