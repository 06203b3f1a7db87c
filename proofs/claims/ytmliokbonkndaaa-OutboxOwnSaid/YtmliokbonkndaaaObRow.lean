/-
  The arguments that are handed in.
-/
import Derived.Test.YtmliokbonkndaaaObO
import Derived.Test.YtmliokbonkndaaaShW
import Derived.Test.YtmliokbonkndaaaShY
import Derived.Test.YtmliokbonkndaaaRows
import Derived.ProofKit
import Derived.SizedLaws
namespace Go.Proofs.Ytmliokbonkndaaa
open Go Go.Sh
open Go.ChangeShapes Go.WideShapes Go.ChangeAt Go.WideMaps Go.WideElems Go.RowKit
namespace Row
theorem own : ownKnob Try.prog.godebug = none := by kernel_rfl
theorem laidOut : laidOutB Try.prog = true := by kernel_rfl
theorem u4 : Try.prog.underlying 4 = some .bool := by kernel_rfl
theorem u3 : Try.prog.underlying 3 = some (.int .i64) := by kernel_rfl
theorem u22 : Try.prog.underlying 22 = some (.int .u32) := by kernel_rfl
theorem z5 : Try.prog.cellsOf 5 = 1 := by kernel_rfl
theorem by5 : Try.checked.prog.bytesOf 5 = 1 := by kernel_rfl
end Row
end Go.Proofs.Ytmliokbonkndaaa
