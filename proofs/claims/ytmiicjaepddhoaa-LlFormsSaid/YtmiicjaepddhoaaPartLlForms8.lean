/-
  Proved: a call's run tells what the table says (LlForms).
-/
import Derived.Test.YtmiicjaepddhoaaAmTab
import Derived.Test.YtmiicjaepddhoaaTabLlForms
import Derived.KernelRfl
namespace Go.Proofs.Ytmiicjaepddhoaa.llForms
open Go Go.Am
set_option maxRecDepth 100000 in
set_option maxHeartbeats 4000000 in
theorem part8 : E8.told ((lvxT T F tb8 100000).f E8.g E8.args E8.h) = true := by kernel_rfl
end Go.Proofs.Ytmiicjaepddhoaa.llForms
