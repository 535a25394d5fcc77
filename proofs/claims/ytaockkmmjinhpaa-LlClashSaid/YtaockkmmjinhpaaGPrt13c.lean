/-
  Layer ll: runs of calls tell what the table says.
-/
import Derived.Test.YtaockkmmjinhpaaAmTl
import Derived.Test.YtaockkmmjinhpaaGTab13
import Derived.KernelRfl
namespace Go.Proofs.Ytaockkmmjinhpaa.beg13
open Go Go.Am
set_option maxRecDepth 100000 in
set_option maxHeartbeats 4000000 in
theorem part4 : E4.told ((lvxT T F tb4 10000).f E4.g E4.args E4.h) = true := by kernel_rfl
set_option maxRecDepth 100000 in
set_option maxHeartbeats 4000000 in
theorem part5 : E5.told ((lvxT T F tb5 10000).f E5.g E5.args E5.h) = true := by kernel_rfl
end Go.Proofs.Ytaockkmmjinhpaa.beg13
