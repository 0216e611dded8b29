/-
  Known stretches 2, checked by the kernel.
-/
import Derived.Test.YtogifafehihjgaaGreatTb
import Derived.Test.YtogifafehihjgaaGreatSy
import Derived.Test.YtogifafehihjgaaGreatProg
import Derived.KernelRfl
namespace Go.Proofs.YtogifafehihjgaaGreat.Ab
open Go
set_option maxRecDepth 1000000
theorem seg2_ok : chkL (evFn Tryz.prog S1 60) seg2 = true := by kernel_rfl
end Go.Proofs.YtogifafehihjgaaGreat.Ab
