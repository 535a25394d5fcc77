/-
  Proved: a run of the abstract machine tells true (LlForms).
-/
import Derived.Test.YtmiicjaepddhoaaAmTab
import Derived.Test.YtmiicjaepddhoaaTabLlForms
import Derived.KernelRfl
namespace Go.Proofs.Ytmiicjaepddhoaa.llForms
open Go Go.Am
set_option maxRecDepth 100000 in
set_option maxHeartbeats 4000000 in
theorem told : tells ((lvxT T F tb11 100000).f 13 [] heap0) = true := by kernel_rfl
end Go.Proofs.Ytmiicjaepddhoaa.llForms
