/-
  Layer ll: runs of calls tell what the table says.
-/
import Derived.Test.YtaockkmmjinhpaaAmTl
import Derived.Test.YtaockkmmjinhpaaGTab13
import Derived.KernelRfl
namespace Go.Proofs.Ytaockkmmjinhpaa.beg13
open Go Go.Am
set_option maxRecDepth 100000 in
set_option maxHeartbeats 4000000 in
theorem part0 : E0.told ((lvxT T F tb0 10000).f E0.g E0.args E0.h) = true := by kernel_rfl
set_option maxRecDepth 100000 in
set_option maxHeartbeats 4000000 in
theorem part1 : E1.told ((lvxT T F tb1 10000).f E1.g E1.args E1.h) = true := by kernel_rfl
end Go.Proofs.Ytaockkmmjinhpaa.beg13
