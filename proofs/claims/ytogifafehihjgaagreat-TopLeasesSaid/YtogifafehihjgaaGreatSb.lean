/-
  A range over slices.Backward at ints: the executor's rounds against the model's.
-/
import Derived.Test.YtogifafehihjgaaGreatSa
import Derived.RangeFuncSeq
import Derived.WalkKit
import Derived.OwnWalkIn
import Derived.TacticsInMore
import Derived.LoopNIn
import Derived.LoopIn
import Derived.Test.YtogifafehihjgaaGreatProg
namespace Go.Proofs.YtogifafehihjgaaGreat.Ab
open Go Go.RowKit

section
attribute [local go_sem] Oper.semAt_some

set_option maxRecDepth 100000 in
set_option maxHeartbeats 4000000 in
/-- the library's function, whatever yield does: it is called at the last index first -/
theorem back_in (n : Nat) (hn : 1 ≤ n) (l Bs o : Nat) (J : Nat → World → Prop)
    (hJ : ∀ k W, J (k + 1) W → ∃ b d len cap x, W.cell? ⟨Bs, o, none⟩ = some (.slice (some ⟨b, d, none⟩) len cap) ∧ k < len ∧ W.cell? ⟨b, d + k, none⟩ = some x ∧
      YieldAt Fence.wide (n - 1) Tryz.prog l #[.int .i64 k, x] W fun e W' => e = .returned (.bool true) ∧ J k W')
    (k0 : Nat) (hk0 : k0 < 9223372036854775807) (W : World) (a0 : Option Addr) (cap0 : Nat) (hs : W.cell? ⟨Bs, o, none⟩ = some (.slice a0 k0 cap0)) (h0 : J k0 W) :
    CallsIn Fence.wide n Tryz.prog 193 #[.func (.yield l) #[] #[], .pointer (some ⟨Bs, o, none⟩)] W fun e W' => (∃ v, e = .returned v) ∧ J 0 W' := by
  refine callsIn_of_wp Tryz.func193 rfl trivial ?_ rfl
  simp only [Tryz.ntmps193, List.size_toArray, List.length_cons, List.length_nil, Nat.reduceAdd, Nat.reduceSub, Array.replicate_succ, Array.replicate_zero, List.push_toArray, List.append_toArray, List.nil_append, List.cons_append]
  gi_wp2
  gi_loopw [3] (fun i wr => ∃ k : Nat, k < 9223372036854775807 ∧ i = .int .i64 ((k : Int) - 1) ∧ J k wr) (fun i _ => (intOf i + 1).toNat)
  case atStart => exact ⟨k0, hk0, by simp, h0⟩
  case round =>
    obtain ⟨k, hk, rfl, hJk⟩ := hrel
    rcases k with _ | k
    · gi_wp2
      go_end0
      exact ⟨⟨_, rfl⟩, hJk⟩
    · obtain ⟨b, d, len, cap, x, hc, hlt, hx, fn, tmps, assign, body, hy, hR⟩ := hJ k wr hJk
      gi_wp2
      refine hR.mono ?_
      rintro e W3 ⟨rfl, hJ3⟩
      gi_wp2
      go_roundw
      case rel => exact ⟨k, by omega, by simp, hJ3⟩
      case measure => simp [intOf]
end

end Go.Proofs.YtogifafehihjgaaGreat.Ab
