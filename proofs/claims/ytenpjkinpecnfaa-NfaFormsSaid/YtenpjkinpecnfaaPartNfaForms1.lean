/-
  Proved: a call's run tells what the table says (NfaForms).
-/
import Derived.Test.YtenpjkinpecnfaaAmTab
import Derived.Test.YtenpjkinpecnfaaTabNfaForms
import Derived.KernelRfl
namespace Go.Proofs.Ytenpjkinpecnfaa.nfaForms
open Go Go.Am
set_option maxRecDepth 100000 in
set_option maxHeartbeats 4000000 in
theorem part1 : E1.told ((lvxT T F tb1 100000).f E1.g E1.args E1.h) = true := by kernel_rfl
end Go.Proofs.Ytenpjkinpecnfaa.nfaForms
