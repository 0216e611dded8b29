/-
  rule.Key and rule.Passes at a symbolic type: each class of types run at exact arguments, aside of all other memory.
-/
import Derived.Test.YtogifafehihjgaaGreatSd
namespace Go.Proofs.YtogifafehihjgaaGreat.Ab
open Go

theorem follows_mixed : Tryz.prog.follows .mixedOrders = true := by kernel_rfl

section
variable {ρ : Nat → Value} {B : Nat}

theorem s0_syms : SymsOk Tryz.prog S0 ρ := ⟨fun _ _ _ he => (by cases he), fun _ he => (by cases he)⟩
theorem s0_sums : SumsOk Tryz.prog S0 ρ B := ⟨fun _ _ he => (by cases he), fun _ _ he => (by cases he)⟩
theorem s0_ok : CallOk Tryz.prog ρ B (evFn Tryz.prog S0 60) := exec_ok (fun _ call h1 h2 => back_ok s0_syms (fun _ h => beq_eq h) call h1 h2) s0_syms s0_sums follows_mixed 60

variable {P : Program} {σ : Sg} {w : World} {call : FuncId → FF}

/-- behind a call that left all known memory as it was -/
def Aside (ρ : Nat → Value) (B : Nat) (σ : Sg) (h : Heap) (w : World) (v : AV) (e : Ending) (w' : World) : Prop :=
  ∃ u, e = .returned u ∧ (∃ σ', VR ρ σ' v u) ∧ HRel ρ B σ h.blk w' ∧ FR σ h.blk w σ h.blk w'

/-- a call that needs no memory -/
theorem aside0 (hc : CallOk P ρ B call) {f : FuncId} {xs : List AV} {us : List Value} {r : VH} (hr : (call f).f xs (mkH 0 []) = some r) {h : Heap} (hl : LR (VR ρ fun _ => none) xs us)
    (hm : HRel ρ B σ h.blk w) (hB : B ≤ w.heap.size) : Calls P f us.toArray w (Aside ρ B σ h w r.v) := by
  have hno : ∀ k b, (mkH 0 []).blk k = some b → False := fun k b hb => by
    obtain ⟨_, hm, _⟩ := blk_mkH hb
    simp at hm
  refine (hc f xs us (fun _ => none) (mkH 0 []) w r hr hl ⟨fun k b hb => (hno k b hb).elim, fun k _ b _ _ _ _ _ _ hb => (hno k b hb).elim⟩ (fun k _ => ?_) (fun _ _ _ => rfl) hB).mono fun e w' he => ?_
  · cases hb : (mkH 0 []).blk k with
    | none => rfl
    | some b => exact (hno k b hb).elim
  · obtain ⟨u, σ', rfl, hp⟩ := he
    have keep : ∀ b, b < w.heap.size → w'.heap[b]? = w.heap[b]? := fun b hb => hp.frame.keep b hb fun hf => by
      obtain ⟨k, x, _, _, hk, _⟩ := hf
      exact hno k x hk
    refine ⟨u, rfl, ⟨σ', hp.val⟩, ⟨fun k x hk => ?_, hm.inj⟩, ⟨hp.frame.size, fun b hb _ => keep b hb, fun b hb => .inl hb, hp.frame.tape, hp.frame.os, hp.frame.output⟩⟩
    obtain ⟨b, d, t, hs, hB, hbr⟩ := hm.has k x hk
    exact ⟨b, d, t, hs, hB, hbr.heap (keep b hbr.lt)⟩

theorem BR.flat {σ' : Sg} {n : Nat} {l : List AV} (hf : ∀ v ∈ l, ∃ a c, v = .nat a c) {b d t : Nat} (h : BR ρ σ w (.sm n l) b d t) : BR ρ σ' w (.sm n l) b d t := by
  obtain ⟨h1, h2, c, e, h3, h4, h5⟩ := h
  refine ⟨h1, h2, c, e, h3, h4, fun i v hv => ?_⟩
  obtain ⟨u, hu, hr⟩ := h5 i v hv
  obtain ⟨a, c', rfl⟩ := hf v (List.mem_of_getElem? hv)
  exact ⟨u, hu, hr⟩

/-- a call that reads one block -/
theorem aside1 (hc : CallOk P ρ B call) {k n : Nat} {l : List AV} (hflat : ∀ v ∈ l, ∃ a c, v = .nat a c) (hn : mkBlk n l = some (.sm n l)) {f : FuncId} {xs : List AV} {us : List Value} {r : VH}
    (hr : (call f).f xs (mkH (k + 1) [⟨k, n, l⟩]) = some r) (hpost : allKV r.h [⟨k, n, l⟩] = true) {h : Heap} (hb : h.blk k = some (.sm n l)) (hl : LR (VR ρ fun j => if j = k then σ k else none) xs us)
    (hm : HRel ρ B σ h.blk w) (hB : B ≤ w.heap.size) : Calls P f us.toArray w (Aside ρ B σ h w r.v) := by
  have only : ∀ {m j x}, (mkH m [⟨k, n, l⟩]).blk j = some x → j = k ∧ x = .sm n l := fun {m j x} hx => by
    obtain ⟨kv, hkv, hk, hmk⟩ := blk_mkH hx
    simp at hkv
    subst hkv
    rw [hn] at hmk
    cases hmk
    exact ⟨hk.symm, rfl⟩
  obtain ⟨b, d, t, hs, hBb, hbr⟩ := hm.has k _ hb
  refine (hc f xs us (fun j => if j = k then σ k else none) (mkH (k + 1) [⟨k, n, l⟩]) w r hr hl ⟨fun j x hx => ?_, fun j j' x x' _ _ _ _ _ hx hx' _ _ => ?_⟩ (fun j hj => ?_) (fun j hj _ => ?_) hB).mono fun e w' he => ?_
  · obtain ⟨rfl, rfl⟩ := only hx
    exact ⟨b, d, t, by simp [hs], hBb, hbr.flat hflat⟩
  · rw [(only hx).1, (only hx').1]
  · cases hx : (mkH (k + 1) [⟨k, n, l⟩]).blk j with
    | none => rfl
    | some x =>
      have := (only hx).1
      have hj : k + 1 ≤ j := hj
      omega
  · have hj : k + 1 ≤ j := hj
    simp only [if_neg (show j ≠ k by omega)]
  · obtain ⟨u, σ', rfl, hp⟩ := he
    have hview := hp.mem.view hpost (n := 0)
    have hkey : (mkH 0 [⟨k, n, l⟩]).blk k = some (.sm n l) := by
      show Heap.blk ⟨0, bb (Nat.blt k 65536) (oe (mkBlk n l) (n64K none) fun b => (l64K (Option Blk) k).s (some b) (n64K none)) (n64K none)⟩ k = _
      have hk := blk_lt hb
      have e : Nat.blt k 65536 = true := Nat.ble_eq_true_of_le hk
      rw [e, hn]
      exact blk_set_same (eH 0) (some (.sm n l)) hk
    obtain ⟨b1, d1, t1, hs1, _, hbr1⟩ := hview.has k _ hkey
    have hs1' := hp.ext.le k (b, d, t) (by simp [hs])
    rw [hs1'] at hs1
    cases hs1
    have keep : ∀ b0, b0 < w.heap.size → b0 ≠ b → w'.heap[b0]? = w.heap[b0]? := fun b0 hb0 hne => hp.frame.keep b0 hb0 fun hf => by
      obtain ⟨j, x, d0, t0, hj, hsj⟩ := hf
      have hjk := (only hj).1
      subst hjk
      simp [hs] at hsj
      exact hne hsj.1.symm
    refine ⟨u, rfl, ⟨σ', hp.val⟩, ⟨fun j x hj => ?_, hm.inj⟩, ⟨hp.frame.size, fun b0 hb0 hnf => keep b0 hb0 fun e => hnf ⟨k, _, d, t, hb, e ▸ hs⟩, fun b0 hb0 => .inl hb0, hp.frame.tape, hp.frame.os, hp.frame.output⟩⟩
    by_cases e : j = k
    · subst e
      rw [hb] at hj; cases hj
      exact ⟨b, d, t, hs, hBb, hbr1.flat hflat⟩
    · obtain ⟨b2, d2, t2, hs2, hB2, hbr2⟩ := hm.has j x hj
      refine ⟨b2, d2, t2, hs2, hB2, hbr2.heap (keep b2 hbr2.lt fun eb => e ?_)⟩
      subst eb
      exact hm.inj j k x _ b2 d2 t2 d t hj hb hs2 hs
end

/-! ### the classes -/
noncomputable def keyChk (m f ip port : Nat) : Bool :=
  oe ((evFn Tryz.prog S0 60 165).f [.agg 2 [.nat 3 m, .nat 3 f], .agg 2 [.nat 6 83886081, .nat 5 7000]] (mkH 0 [])) false fun r => eqB r.v (.agg 2 [.nat 6 ip, .nat 5 port])
noncomputable def passChk (m f : Nat) : Bool :=
  oe ((evFn Tryz.prog S0 60 198).f [.agg 2 [.nat 3 m, .nat 3 f], .slice 1425 0 1 1 2, .agg 2 [.nat 6 83886081, .nat 5 7000]] (mkH (1425 + 1) [⟨1425, 2, [.nat 6 83886081, .nat 5 7000]⟩])) false
    fun r => bb (eqB r.v (.bool true)) (allKV r.h [⟨1425, 2, [.nat 6 83886081, .nat 5 7000]⟩]) false

set_option maxRecDepth 1000000 in
theorem keys_run : bb (bb (keyChk 0 1 0 0) (bb (keyChk 0 2 0 0) (keyChk 1 1 83886081 0) false) false) (bb (keyChk 1 2 83886081 0) (bb (keyChk 2 1 83886081 7000) (keyChk 2 2 83886081 7000) false) false) false = true := by kernel_rfl
set_option maxRecDepth 1000000 in
theorem passes_run : bb (bb (passChk 0 1) (bb (passChk 0 2) (passChk 1 1) false) false) (bb (passChk 1 2) (bb (passChk 2 1) (passChk 2 2) false) false) false = true := by kernel_rfl

theorem key_run {m f : Nat} (hm : m < 3) (hf : f < 2) : keyChk m (1 + f) (if m = 0 then 0 else 83886081) (if m = 2 then 7000 else 0) = true := by
  obtain ⟨h1, h2⟩ := bb_and keys_run
  obtain ⟨a1, h1⟩ := bb_and h1
  obtain ⟨a2, a3⟩ := bb_and h1
  obtain ⟨a4, h2⟩ := bb_and h2
  obtain ⟨a5, a6⟩ := bb_and h2
  rcases m with _ | _ | _ | m
  · rcases f with _ | _ | f
    · exact a1
    · exact a2
    · omega
  · rcases f with _ | _ | f
    · exact a3
    · exact a4
    · omega
  · rcases f with _ | _ | f
    · exact a5
    · exact a6
    · omega
  · omega

theorem pass_run {m f : Nat} (hm : m < 3) (hf : f < 2) : passChk m (1 + f) = true := by
  obtain ⟨h1, h2⟩ := bb_and passes_run
  obtain ⟨a1, h1⟩ := bb_and h1
  obtain ⟨a2, a3⟩ := bb_and h1
  obtain ⟨a4, h2⟩ := bb_and h2
  obtain ⟨a5, a6⟩ := bb_and h2
  rcases m with _ | _ | _ | m
  · rcases f with _ | _ | f
    · exact a1
    · exact a2
    · omega
  · rcases f with _ | _ | f
    · exact a3
    · exact a4
    · omega
  · rcases f with _ | _ | f
    · exact a5
    · exact a6
    · omega
  · omega

end Go.Proofs.YtogifafehihjgaaGreat.Ab
