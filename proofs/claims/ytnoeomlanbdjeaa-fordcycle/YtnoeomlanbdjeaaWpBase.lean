/- Part of the proof of the law's row: YtnoeomlanbdjeaaWpBase. -/
import Derived.Test.YtnoeomlanbdjeaaAbsY
set_option linter.all false
set_option linter.unusedVariables false
set_option linter.unusedSimpArgs false
/-! Plain data. -/
namespace Go.Proofs
open Go.Abs
abbrev shapeD : Type := (Int × Int × Unit)
@[reducible] def zshape : shapeD := ((0 : Int), (0 : Int), ())
@[reducible] def tshape : Ty := .st [.int .i64, .int .i64]
abbrev SpotD : Type := (Int × Int × Unit)
@[reducible] def zSpot : SpotD := ((0 : Int), (0 : Int), ())
@[reducible] def tSpot : Ty := .st [.int .i64, .int .i64]
abbrev pieceD : Type := (List Bool × Bool × Unit)
@[reducible] def zpiece : pieceD := ((List.replicate 200 false), false, ())
@[reducible] def tpiece : Ty := .st [.arr 200 .bool, .bool]
abbrev SetD : Type := (Int × Int × Int × Int × Unit)
@[reducible] def zSet : SetD := ((0 : Int), (0 : Int), (0 : Int), (0 : Int), ())
@[reducible] def tSet : Ty := .st [.int .u64, .int .u64, .int .u64, .int .u64]
abbrev eqSet (x y : SetD) : Bool := Ty.eqb tSet x y
abbrev EmptinessD : Type := (Bool × Bool × Int × Int × Unit)
@[reducible] def zEmptiness : EmptinessD := (false, false, (0 : Int), (0 : Int), ())
@[reducible] def tEmptiness : Ty := .st [.bool, .bool, .int .i64, .int .i64]
abbrev NodeD : Type := (Int × Int × ByteArray × SetD × Unit)
@[reducible] def zNode : NodeD := ((0 : Int), (0 : Int), (⟨#[]⟩ : ByteArray), ((0 : Int), (0 : Int), (0 : Int), (0 : Int), ()), ())
@[reducible] def tNode : Ty := .st [.int .i64, .int .i64, .str, tSet]
abbrev RuleD : Type := (ByteArray × List NodeD × Unit)
@[reducible] def zRule : RuleD := ((⟨#[]⟩ : ByteArray), [], ())
abbrev lookedD : Type := (List EmptinessD × List (List Bool) × List shapeD × Unit)
@[reducible] def zlooked : lookedD := ([], [], [], ())
abbrev GrammarD : Type := (List RuleD × Unit)
end Go.Proofs
