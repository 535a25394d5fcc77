/-
  Proved: a call's run tells what the table says (LlForms).
-/
import Derived.Test.YtmiicjaepddhoaaAmTab
import Derived.Test.YtmiicjaepddhoaaTabLlForms
import Derived.KernelRfl
namespace Go.Proofs.Ytmiicjaepddhoaa.llForms
open Go Go.Am
set_option maxRecDepth 100000 in
set_option maxHeartbeats 4000000 in
theorem part7 : E7.told ((lvxT T F tb7 100000).f E7.g E7.args E7.h) = true := by kernel_rfl
end Go.Proofs.Ytmiicjaepddhoaa.llForms
