/-
  Proved: a run of the abstract machine tells true (GramForms).
-/
import Derived.Test.YtmiicjaepddhoaaAmTab
import Derived.Test.YtmiicjaepddhoaaAmKe
import Derived.KernelRfl
namespace Go.Proofs.Ytmiicjaepddhoaa.gramForms
open Go Go.Am
set_option maxRecDepth 100000 in
set_option maxHeartbeats 4000000 in
theorem told : tells ((lvx T F 100000).f 4 [] heap0) = true := by kernel_rfl
end Go.Proofs.Ytmiicjaepddhoaa.gramForms
