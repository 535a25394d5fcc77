/-
  Layer ll: runs of calls tell what the table says.
-/
import Derived.Test.YtaockkmmjinhpaaAmTl
import Derived.Test.YtaockkmmjinhpaaGTab13
import Derived.KernelRfl
namespace Go.Proofs.Ytaockkmmjinhpaa.beg13
open Go Go.Am
set_option maxRecDepth 100000 in
set_option maxHeartbeats 4000000 in
theorem part2 : E2.told ((lvxT T F tb2 10000).f E2.g E2.args E2.h) = true := by kernel_rfl
set_option maxRecDepth 100000 in
set_option maxHeartbeats 4000000 in
theorem part3 : E3.told ((lvxT T F tb3 10000).f E3.g E3.args E3.h) = true := by kernel_rfl
end Go.Proofs.Ytaockkmmjinhpaa.beg13
