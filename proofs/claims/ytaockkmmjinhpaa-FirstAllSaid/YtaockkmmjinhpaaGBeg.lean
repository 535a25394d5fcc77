/-
  Layer gram: what its laws begin with, told by the abstract machine in its form for the kernel.
-/
import Derived.Test.YtaockkmmjinhpaaAmTl
import Derived.Test.YtaockkmmjinhpaaAmKr
import Derived.Test.YtaockkmmjinhpaaAmUr
import Derived.KernelRfl
namespace Go.Proofs.Ytaockkmmjinhpaa
open Go Go.Am

end Go.Proofs.Ytaockkmmjinhpaa
