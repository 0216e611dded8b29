/-
  The symbols of TopLeases' run: the draw, the type, and what comes of them.
-/
import Derived.Test.YtogifafehihjgaaGreatAbs
namespace Go.Proofs.YtogifafehihjgaaGreat.Ab
open Go
noncomputable def symBin (op : BinOp) (t : TypeId) (x y : AV) : Option AV := match op, x, y with
  | .rem, .sym 4 1, .nat 4 3 => some (.sym 4 2)
  | .quo, .sym 4 1, .nat 4 3 => some (.sym 4 3)
  | .rem, .sym 4 3, .nat 4 2 => some (.sym 4 4)
  | .add, .nat 3 1, .sym 3 7 => some (.sym 3 6)
  | .add, .sym 7 0, .nat 7 1 => some (.sym 7 11)
  | .add, .sym 7 0, .nat 7 2 => some (.sym 7 12)
  | .lss, .sym 3 5, .nat 3 3 | .geq, .sym 3 5, .nat 3 0 | .lss, .sym 3 6, .nat 3 3 | .geq, .sym 3 6, .nat 3 0 => some (.bool true)
  | .eql, .agg 2 [.sym 6 20, .sym 5 21], .agg 2 [.sym 6 20, .sym 5 21] => bb (Nat.beq t 44) (some (.bool true)) none
  | _, _, _ => none
noncomputable def symConv (s d : TypeId) (x : AV) : Option AV := match x with
  | .sym 4 2 => bb (and (Nat.beq s 5) (Nat.beq d 3)) (some (.sym 3 5)) none
  | .sym 4 4 => bb (and (Nat.beq s 5) (Nat.beq d 3)) (some (.sym 3 7)) none
  | _ => none
noncomputable def keyF : FF := ⟨fun xs h => match xs with
  | [.agg 2 [.sym 3 5, .sym 3 6], .agg 2 [.nat 6 83886081, .nat 5 7000]] => some ⟨.agg 2 [.sym 6 20, .sym 5 21], h⟩
  | _ => none⟩
noncomputable def isMet (b : Blk) : Bool := match b with
  | .sm n l => and (Nat.beq n 2) (eqL eqAtom l [.nat 6 83886081, .nat 5 7000])
  | _ => false
noncomputable def passF : FF := ⟨fun xs h => match xs with
  | [.agg 2 [.sym 3 5, .sym 3 6], .slice k 0 1 1 2, .agg 2 [.nat 6 83886081, .nat 5 7000]] => bb (Nat.beq k 1425) (ob (h.blk 1425) fun b => bb (isMet b) (some ⟨.bool true, h⟩) none) none
  | _ => none⟩
/-- no symbols -/
noncomputable def S0 : Syms := ⟨fun _ _ _ _ => none, fun _ _ _ => none, fun _ => none, fun f => Nat.beq f 193⟩
noncomputable def S1 : Syms := ⟨symBin, symConv, fun f => bb (Nat.beq f 165) (some keyF) (bb (Nat.beq f 198) (some passF) none), fun f => Nat.beq f 193⟩
end Go.Proofs.YtogifafehihjgaaGreat.Ab
