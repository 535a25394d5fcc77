/-
  Proved: a call's run tells what the table says (LlForms).
-/
import Derived.Test.YtmiicjaepddhoaaAmTab
import Derived.Test.YtmiicjaepddhoaaTabLlForms
import Derived.KernelRfl
namespace Go.Proofs.Ytmiicjaepddhoaa.llForms
open Go Go.Am
set_option maxRecDepth 100000 in
set_option maxHeartbeats 4000000 in
theorem part4 : E4.told ((lvxT T F tb4 100000).f E4.g E4.args E4.h) = true := by kernel_rfl
end Go.Proofs.Ytmiicjaepddhoaa.llForms
