/-
  Proved: a run of the abstract machine tells true (NfaForms).
-/
import Derived.Test.YtenpjkinpecnfaaAmTab
import Derived.Test.YtenpjkinpecnfaaTabNfaForms
import Derived.KernelRfl
namespace Go.Proofs.Ytenpjkinpecnfaa.nfaForms
open Go Go.Am
set_option maxRecDepth 100000 in
set_option maxHeartbeats 4000000 in
theorem told : tells ((lvxT T F tb2 100000).f 9 [] heap0) = true := by kernel_rfl
end Go.Proofs.Ytenpjkinpecnfaa.nfaForms
