/- Sessions: of the rows. -/
import Derived.Test.YtbeolnccdhjjeaaPart1
import Derived.Test.YtbeolnccdhjjeaaMachine4
namespace Go.Proofs.Ytbeolnccdhjjeaa
open Go.Am Go.ChangeShapes Go.WideShapes Go.ChangeAt Go.RowKit Go.Joins
theorem Try.own : ownKnob Try.prog.godebug = none := by kernel_rfl
theorem laidTry : laidOutB Try.prog = true := by kernel_rfl
theorem mapsTry : mapsRowed Try.prog = true := by kernel_rfl
theorem fullTry : ((List.range Try.prog.types.size).all fun t => match Try.prog.underlying t with | some (.slice e) => decide (0 < Try.prog.cellsOf e) | _ => true) = true := by kernel_rfl
end Go.Proofs.Ytbeolnccdhjjeaa
