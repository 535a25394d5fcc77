/-
  Proved: a call's run tells what the table says (LlForms).
-/
import Derived.Test.YtmiicjaepddhoaaAmTab
import Derived.Test.YtmiicjaepddhoaaTabLlForms
import Derived.KernelRfl
namespace Go.Proofs.Ytmiicjaepddhoaa.llForms
open Go Go.Am
set_option maxRecDepth 100000 in
set_option maxHeartbeats 4000000 in
theorem part9 : E9.told ((lvxT T F tb9 100000).f E9.g E9.args E9.h) = true := by kernel_rfl
end Go.Proofs.Ytmiicjaepddhoaa.llForms
