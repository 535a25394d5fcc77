/-
  Proved: a run of the abstract machine tells true (FirstForms).
-/
import Derived.Test.YtmiicjaepddhoaaAmTab
import Derived.Test.YtmiicjaepddhoaaTabFirstForms
import Derived.KernelRfl
namespace Go.Proofs.Ytmiicjaepddhoaa.firstForms
open Go Go.Am
set_option maxRecDepth 100000 in
set_option maxHeartbeats 4000000 in
theorem told : tells ((lvxT T F tb2 100000).f 9 [] heap0) = true := by kernel_rfl
end Go.Proofs.Ytmiicjaepddhoaa.firstForms
