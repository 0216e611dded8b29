/-
  TopLeases whole, over the known stretches, run by the kernel.
-/
import Derived.Test.YtogifafehihjgaaGreatTb
import Derived.Test.YtogifafehihjgaaGreatSy
import Derived.Test.YtogifafehihjgaaGreatProg
import Derived.KernelRfl
namespace Go.Proofs.YtogifafehihjgaaGreat.Ab
open Go
noncomputable def isTab (f : Nat) : Bool := bb (Nat.beq f 8) true (bb (Nat.beq f 5) true (Nat.beq f 4))
noncomputable def S2 : Syms := withE S1 isTab tab
noncomputable def isT (x : Option VH) : Bool := oe x false fun r => match r.v with
  | .bool b => b
  | _ => false
set_option maxRecDepth 1000000
theorem top_runs : isT ((evFn Tryz.prog S2 60 3).f [.sym 7 0, .sym 4 1] h0) = true := by kernel_rfl
end Go.Proofs.YtogifafehihjgaaGreat.Ab
