/-
  The row's closed facts, one by one.
-/
import Derived.Test.YtogifafehihjgaaGreatRows
import Derived.WalkKit
import Derived.ProofKit
import Derived.OpenShut
namespace Go.Proofs.YtogifafehihjgaaGreat.topLeases
open Go.ChangeShapes Go.WideShapes Go.ChangeAt Go.RowKit
theorem c0 : (Rows.topLeasesRow.wf (OpenSpec.ofChange Rows.topLeasesSpec)) = true := by kernel_rfl
theorem c1 : (laidOutB Tryz.pinned.checked.prog) = true := by kernel_rfl
theorem c2 : (mapsRowed Tryz.pinned.checked.prog) = true := by kernel_rfl
theorem c3 : (Tryz.f3.params.all (Program.readableRec Tryz.pinned.checked.prog ·)) = true := by kernel_rfl
theorem c4 : (namedTie Tryz.pinned.checked.prog Rows.topLeasesRow.named Rows.topLeasesSpec.vars) = true := by kernel_rfl
theorem c5 : (Rows.topLeasesRow.stops == []) = true := by kernel_rfl
theorem c6 : (Tryz.pinned.checked.prog.stops == []) = true := by kernel_rfl
theorem c7 : (Rows.topLeasesRow.knobs == []) = true := by kernel_rfl
theorem c8 : (Tryz.pinned.checked.prog.stopKnobs == []) = true := by kernel_rfl
theorem c9 : (Rows.topLeasesRow.inPlace == Program.inPlace Tryz.pinned.checked.prog 3) = true := by kernel_rfl
theorem c10 : (Rows.topLeasesRow.unfollowed == Program.unfollowed Tryz.pinned.checked.prog 3) = true := by kernel_rfl
theorem c11 : (Rows.topLeasesRow.recurses == Program.recurses Tryz.pinned.checked.prog 3) = true := by kernel_rfl
theorem c12 : (Rows.topLeasesRow.named == Program.varsNamed Tryz.pinned.checked.prog 3) = true := by kernel_rfl
theorem c13 : (Rows.topLeasesRow.maps == (Tryz.f3.params.toList ++ Rows.topLeasesSpec.plain.varTypes Tryz.pinned.checked.prog).any (Program.mapsRec Tryz.pinned.checked.prog ·)) = true := by kernel_rfl
theorem c14 : (Rows.topLeasesRow.ifaces == (Tryz.f3.params.toList ++ Rows.topLeasesSpec.plain.varTypes Tryz.pinned.checked.prog).any (Program.ifacesRec Tryz.pinned.checked.prog ·)) = true := by kernel_rfl
theorem c15 : (Rows.topLeasesRow.mapsOut == Program.mapsAmong Tryz.pinned.checked.prog Tryz.f3.resultTypes.toList) = true := by kernel_rfl
theorem c16 : (Rows.topLeasesRow.loops == (Tryz.f3.params.toList ++ Rows.topLeasesSpec.plain.varTypes Tryz.pinned.checked.prog).any (Program.loopsFrom Tryz.pinned.checked.prog ·)) = true := by kernel_rfl
theorem c17 : (Rows.topLeasesRow.wideKeys == (Tryz.f3.params.toList ++ Rows.topLeasesSpec.plain.varTypes Tryz.pinned.checked.prog ++ Tryz.f3.resultTypes.toList).any (Program.wideKeysFrom Tryz.pinned.checked.prog ·)) = true := by kernel_rfl
theorem c18 : (Rows.topLeasesSpec.vars.all (Program.varReadable Tryz.pinned.checked.prog ·)) = true := by kernel_rfl
theorem c19 : (Tryz.f3.resultTypes.all (fun t => Program.readableRec Tryz.pinned.checked.prog t && decide (t < Tryz.pinned.checked.prog.types.size))) = true := by kernel_rfl
theorem c20 : (Rows.topLeasesRow.ifacesOut == Tryz.f3.resultTypes.toList.any (Program.ifacesRec Tryz.pinned.checked.prog ·)) = true := by kernel_rfl
theorem c21 : (Rows.topLeasesRow.loopsOut == Tryz.f3.resultTypes.toList.any (Program.loopsFrom Tryz.pinned.checked.prog ·)) = true := by kernel_rfl
theorem c22 : (Rows.topLeasesRow.plainKeys == Program.plainKeys Tryz.pinned.checked.prog) = true := by kernel_rfl
theorem c23 : (Rows.topLeasesRow.shortTexts.isNone) = true := by kernel_rfl
theorem c24 : (Program.stopsHeard Tryz.pinned.checked.prog) = true := by kernel_rfl
theorem c25 : (Program.mayEnter Tryz.pinned.checked.prog) = true := by kernel_rfl
theorem c26 : (Rows.topLeasesRow.lifted == Program.liftsFinal Tryz.pinned.checked.prog) = true := by kernel_rfl
theorem c27 : (Program.make Tryz.pinned.checked.prog == some Rows.topLeasesRow.make) = true := by kernel_rfl
theorem c29 : (Rows.topLeasesRow.pinned == Rows.topLeasesRow.pinnedBy) = true := by kernel_rfl
theorem c30 : (Rows.topLeasesRow.veiled == (Tryz.f3.params.toList ++ Rows.topLeasesSpec.plain.varTypes Tryz.pinned.checked.prog ++ Tryz.f3.resultTypes.toList).any (Program.veiledRec Tryz.pinned.checked.prog ·)) = true := by kernel_rfl
theorem c31 : (Rows.topLeasesRow.veiledFits Tryz.pinned.checked.prog Tryz.f3.params.toList (Tryz.f3.params.toList ++ Rows.topLeasesSpec.plain.varTypes Tryz.pinned.checked.prog ++ Tryz.f3.resultTypes.toList)) = true := by kernel_rfl
theorem and_i {a b : Bool} (h : a = true) (k : b = true) : (a && b) = true := by rw [h, k]; rfl
theorem closed : joinedFacts Tryz.pinned.checked.prog 3 Tryz.f3 Rows.topLeasesSpec Rows.topLeasesRow = true := by
  unfold joinedFacts
  exact and_i (and_i (and_i (and_i (and_i (and_i (and_i (and_i (and_i (and_i (and_i (and_i (and_i (and_i (and_i (and_i (and_i (and_i (and_i (and_i (and_i (and_i (and_i (and_i (and_i (and_i (and_i (and_i (and_i (and_i (and_i c0 c1) c2) c3) c4) c5) c6) c7) c8) c9) c10) c11) c12) c13) c14) c15) c16) c17) c18) c19) c20) c21) c22) c23) c24) c25) c26) c27) (by kernel_rfl)) c29) c30) c31
end Go.Proofs.YtogifafehihjgaaGreat.topLeases
