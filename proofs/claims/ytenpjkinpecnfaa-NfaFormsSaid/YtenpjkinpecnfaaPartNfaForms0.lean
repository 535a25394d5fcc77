/-
  Proved: a call's run tells what the table says (NfaForms).
-/
import Derived.Test.YtenpjkinpecnfaaAmTab
import Derived.Test.YtenpjkinpecnfaaTabNfaForms
import Derived.KernelRfl
namespace Go.Proofs.Ytenpjkinpecnfaa.nfaForms
open Go Go.Am
set_option maxRecDepth 100000 in
set_option maxHeartbeats 4000000 in
theorem part0 : E0.told ((lvxT T F tb0 100000).f E0.g E0.args E0.h) = true := by kernel_rfl
end Go.Proofs.Ytenpjkinpecnfaa.nfaForms
