/- What the rows of laws without a listed variable share: closed facts of the program. -/
import Derived.Test.YtomncfiklkhfjaaLaw
namespace Go.Proofs.Ytomncfiklkhfjaa.Law
theorem own : ownKnob Try.prog.godebug = none := by kernel_rfl
theorem laidOut : laidOutB Try.prog = true := by kernel_rfl
theorem cellsU8 : Try.prog.cellsOf 5 = 1 := by kernel_rfl
theorem bytesU8 : Try.prog.bytesOf 5 = 1 := by kernel_rfl
end Go.Proofs.Ytomncfiklkhfjaa.Law
