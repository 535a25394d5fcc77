/-
  Layer ll: runs of calls tell what the table says.
-/
import Derived.Test.YtaockkmmjinhpaaAmTl
import Derived.Test.YtaockkmmjinhpaaGTab13
import Derived.KernelRfl
namespace Go.Proofs.Ytaockkmmjinhpaa.beg13
open Go Go.Am
set_option maxRecDepth 100000 in
set_option maxHeartbeats 4000000 in
theorem part6 : E6.told ((lvxT T F tb6 10000).f E6.g E6.args E6.h) = true := by kernel_rfl
set_option maxRecDepth 100000 in
set_option maxHeartbeats 4000000 in
theorem part7 : E7.told ((lvxT T F tb7 10000).f E7.g E7.args E7.h) = true := by kernel_rfl
end Go.Proofs.Ytaockkmmjinhpaa.beg13
