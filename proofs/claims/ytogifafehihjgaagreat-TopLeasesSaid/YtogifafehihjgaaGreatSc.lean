/-
  A range over slices.Backward at ints, whole.
-/
import Derived.Test.YtogifafehihjgaaGreatSb
import Derived.KernelRfl
namespace Go.Proofs.YtogifafehihjgaaGreat.Ab
open Go

section
variable {P : Program} {S : Syms} {ρ : Nat → Value} {B : Nat} {call : FuncId → FF} {N : Nat}

/-- a block that no key can lie in -/
def NoKey : Obj → Prop
  | .cells .. => False
  | .stringIter .. => False
  | _ => True

theorem not_foot {σ : Sg} {m : Mem} {w : World} (hm : HRel ρ B σ m w) {D : Nat} {o : Obj} (ho : NoKey o) (h : w.heap[D]? = some o) : ¬ Foot σ m D := fun hft => by
  obtain ⟨k, x, d, t, hk, hs⟩ := hft
  obtain ⟨b, d', t', hs', _, hbr⟩ := hm.has k x hk
  rw [hs] at hs'; cases hs'
  cases x with
  | it s pos => rw [hbr.1] at h; cases h; exact ho
  | sm n l => obtain ⟨_, _, c, e, hc, _⟩ := hbr; rw [hc] at h; cases h; exact ho
  | bg n l => obtain ⟨_, c, e, hc, _⟩ := hbr; rw [hc] at h; cases h; exact ho

theorem some_lt {w : World} {D : Nat} {o : Obj} (h : w.heap[D]? = some o) : D < w.heap.size := by
  rcases Nat.lt_or_ge D w.heap.size with h' | h'
  · exact h'
  · rw [Array.getElem?_eq_none h'] at h; cases h

theorem keep_obj {σ1 σ' : Sg} {m1 m' : Mem} {w1 w' : World} (hm : HRel ρ B σ1 m1 w1) (hf : FR σ1 m1 w1 σ' m' w') {D : Nat} {o : Obj} (ho : NoKey o) (h : w1.heap[D]? = some o) : w'.heap[D]? = some o := by
  rw [hf.keep D (some_lt h) (not_foot hm ho h)]
  exact h

theorem HRel.putObj {σ : Sg} {m : Mem} {w : World} (hm : HRel ρ B σ m w) {l : Nat} {o o' : Obj} (ho : NoKey o) (h : w.heap[l]? = some o) : HRel ρ B σ m (w.putObj l o') :=
  ⟨fun k x hk => by
    obtain ⟨b, d, t, hs, hB, hbr⟩ := hm.has k x hk
    exact ⟨b, d, t, hs, hB, hbr.heap (World.putObj_heap_other fun e => not_foot hm ho h (e ▸ ⟨k, x, d, t, hk, hs⟩))⟩, hm.inj⟩

theorem FR.putObj {σ σ' : Sg} {m m' : Mem} {w w' : World} (hf : FR σ m w σ' m' w') {l : Nat} (o : Obj) (hl : w.heap.size ≤ l) : FR σ m w σ' m' (w'.putObj l o) where
  size := by rw [World.putObj_size]; exact hf.size
  keep b hb hn := by rw [World.putObj_heap_other (by omega)]; exact hf.keep b hb hn
  foot := hf.foot
  tape := hf.tape
  os := hf.os
  output := hf.output

theorem heap_alloc_lt (w : World) (o : Obj) {b : Nat} (hb : b < w.heap.size) : (w.alloc o).heap[b]? = w.heap[b]? := by
  show (w.heap.push o)[b]? = w.heap[b]?
  rw [Array.getElem?_push, if_neg (by omega)]

theorem HRel.alloc' {σ : Sg} {m : Mem} {w : World} (hm : HRel ρ B σ m w) (o : Obj) : HRel ρ B σ m (w.alloc o) :=
  ⟨fun k x hk => by
    obtain ⟨b, d, t, hs, hB, hbr⟩ := hm.has k x hk
    exact ⟨b, d, t, hs, hB, hbr.heap (heap_alloc_lt w o hbr.lt)⟩, hm.inj⟩

theorem FR.alloc' {σ σ' : Sg} {m m' : Mem} {w w' : World} (hf : FR σ m w σ' m' w') (o : Obj) : FR σ m w σ' m' (w'.alloc o) where
  size := Nat.le_trans hf.size (by show w'.heap.size ≤ (w'.heap.push o).size; simp)
  keep b hb hn := by rw [heap_alloc_lt w' o (Nat.lt_of_lt_of_le hb hf.size)]; exact hf.keep b hb hn
  foot := hf.foot
  tape := hf.tape
  os := hf.os
  output := hf.output

theorem cell_alloc' (w : World) (o : Obj) {ad : Addr} {u : Value} (h : w.cell? ad = some u) : (w.alloc o).cell? ad = some u := by
  have hb : ad.block < w.heap.size := by
    rcases Nat.lt_or_ge ad.block w.heap.size with h' | h'
    · exact h'
    · unfold World.cell? at h
      rw [Array.getElem?_eq_none h'] at h
      simp at h
  unfold World.cell? at *
  rw [heap_alloc_lt w o hb]
  exact h

/-- between two rounds: m are still to come -/
structure BJ (P : Program) (ρ : Nat → Value) (B : Nat) (σ : Sg) (h h' : Heap) (w : World) (run : TM → Heap → Option R) (w1 w2 : WF) (T : TM) (k off L D : Nat) (lp : Loop) (m : Nat) (W : World) : Prop where
  ex : ∃ (σm : Sg) (hm : Heap), Ext σ σm h.next hm.next ∧ HRel ρ B σm hm.blk W ∧ HW hm ∧ Fresh σm hm.next h'.next ∧ h.next ≤ hm.next ∧ rounds run w1 w2 T k off m hm = some h' ∧ FR σ h.blk w σm hm.blk W
  rec_ : W.heap[L]? = some (.loop lp)
  dfr : W.heap[D]? = some (.deferred (some []))

theorem back_round (hS : SymsOk P S ρ) (hcall : CallOk P ρ B call) (hmn : ∀ f xs h, Mn h ((call f).f xs h)) {σ : Sg} {h h' : Heap} {w : World} {T : TM} {k off b0 d0 t0 D L fn : Nat} {p q : Tmp} {w1 w2 : WF} {x y : Code} {tmps : Array Value}
    (hw1 : mkPut N (some p) = some w1) (hw2 : mkPut N (some q) = some w2) (ht : TRel ρ σ T tmps) (hN : tmps.size = N) (hB : B ≤ w.heap.size) (hs : σ k = some (b0, d0, t0)) (hL : w.heap.size ≤ L) (_hD : w.heap.size ≤ D) (hDL : D ≠ L)
    (m : Nat) (W : World) (hJ : BJ P ρ B σ h h' w (seqF (mkB P S call N x) (mkB P S call N y)).f w1 w2 T k off L D { state := .ready, pending := none, fn, tmps, params := #[p, q], assign := x, body := y, defers := D } (m + 1) W) :
    ∃ b d len cap u, W.cell? ⟨b0, d0 + off, none⟩ = some (.slice (some ⟨b, d, none⟩) len cap) ∧ m < len ∧ W.cell? ⟨b, d + m, none⟩ = some u ∧
      YieldAt Fence.wide 0 P L #[.int .i64 m, u] W fun e W' => e = .returned (.bool true) ∧
        BJ P ρ B σ h h' w (seqF (mkB P S call N x) (mkB P S call N y)).f w1 w2 T k off L D { state := .ready, pending := none, fn, tmps, params := #[p, q], assign := x, body := y, defers := D } m W' := by
  obtain ⟨⟨σm, hm, hext, hmem, hww, hfr, hle, hr, hframe⟩, hrec, hdfr⟩ := hJ
  obtain ⟨s, hsc, hr⟩ := ob_some (show ob (hm.cell k off) (fun s => ob (asSlice s) fun s => bb (Nat.blt m s.len) (ob (hm.cell s.k (Nat.add s.o m)) fun v => ob ((seqF (mkB P S call N x) (mkB P S call N y)).f (w2.f (w1.f T (.nat 3 m)) v) hm) fun r => match r.x with
      | .normal => rounds (seqF (mkB P S call N x) (mkB P S call N y)).f w1 w2 T k off m r.h
      | _ => none) none) = some h' from hr)
  obtain ⟨s', hs', hr⟩ := ob_some hr
  obtain ⟨hlt, hr⟩ := bb_true hr
  obtain ⟨v, hv, hr⟩ := ob_some hr
  obtain ⟨r, hrun, hr⟩ := ob_some hr
  have hlt := blt_lt hlt
  have hsm : σm k = some (b0, d0, t0) := hext.le _ _ hs
  obtain ⟨us, hus, hvs⟩ := hmem.cell hsc hsm
  rw [asSlice_eq hs'] at hvs
  obtain ⟨b, d, t, c, hsb, rfl, _⟩ := hvs
  obtain ⟨u, hu, hvu⟩ := hmem.cell hv hsb
  refine ⟨b, d + s'.o, s'.len, c, u, hus, hlt, by rw [Nat.add_assoc]; exact hu, fn, (tmps.setIfInBounds p (.int .i64 m)).setIfInBounds q u, x, y, (by rw [run_yield hrec rfl]; simp), ?_⟩
  have hrx : r.x = .normal ∧ rounds (seqF (mkB P S call N x) (mkB P S call N y)).f w1 w2 T k off m r.h = some h' := by
    split at hr
    · rename_i hx; exact ⟨hx, hr⟩
    · cases hr
  obtain ⟨hrx, hr⟩ := hrx
  -- the first part, then the second
  obtain ⟨r1, hr1, hrun⟩ := ob_some (show ob ((mkB P S call N x).f (w2.f (w1.f T (.nat 3 m)) v) hm) (fun r => @X.casesOn (fun _ => Option R) r.x ((mkB P S call N y).f r.T r.h) (fun _ => some r) (fun _ => some r) (some r)) = some r from hrun)
  have h1x : r1.x = .normal ∧ (mkB P S call N y).f r1.T r1.h = some r := by
    obtain ⟨x1, T1, h1⟩ := r1
    cases x1 with
    | normal => exact ⟨rfl, hrun⟩
    | exit i => cases hrun; cases hrx
    | goto l => cases hrun; cases hrx
    | ret => cases hrun; cases hrx
  obtain ⟨h1x, hrun⟩ := h1x
  have s1 := mr_b hmn x _ _ r1 hr1
  have s2 := mr_b hmn y _ _ r hrun
  have s3 := hs_rounds (fun T h => mr_seqF (fun T h => mr_b hmn x T h) (fun T h => mr_b hmn y T h) T h) _ _ _ hr
  -- the frame
  obtain ⟨f1, f2⟩ := mkPut_put (a := { tmps := tmps, defers := [] }) hw1 hN (ht.mono hext.le) (show VR ρ σm (.nat 3 m) (.int .i64 (m : Int)) from rfl)
  obtain ⟨f3, f4⟩ := mkPut_put hw2 f2 f1 (VR_of_VC hvu)
  refine roundIn_of_wpIn (F := Fence.wide) trivial ?_
  refine b_ok hS hcall hmn x _ hm r1 σm _ W _ hr1 f3 f4 hmem hww (hfr.left (Nat.le_trans s2.le s3.le)) (Nat.le_trans hB hframe.size) fun e1 a1 W1 σ1 hc => ?_
  have hx1 : e1 = .normal := by have := hc.x; rw [h1x] at this; exact this
  subst hx1
  have hrec1 := keep_obj hmem hc.frame (by trivial) hrec
  have hdfr1 := keep_obj hmem hc.frame (by trivial) hdfr
  refine ⟨_, run_beginRound hrec1 rfl, ?_⟩
  have hmem2 := hc.mem.putObj (o' := .loop { state := .busy, pending := none, fn, tmps, params := #[p, q], assign := x, body := y, defers := D }) (by trivial) hrec1
  have hf1 := hframe.trans hc.frame
  refine b_ok hS hcall hmn y _ r1.h r σ1 a1 _ _ hrun hc.tmps hc.size hmem2 (s1.hw hww) ((hfr.right hc.ext s1.le).left s3.le) (by rw [World.putObj_size]; exact Nat.le_trans hB hf1.size) fun e2 a2 W2 σ2 hc2 => ?_
  have hx2 : e2 = .normal := by have := hc2.x; rw [hrx] at this; exact this
  subst hx2
  have hrec2 := keep_obj (o := .loop { state := .busy, pending := none, fn, tmps, params := #[p, q], assign := x, body := y, defers := D }) hmem2 hc2.frame (by trivial) (World.putObj_heap_same (some_lt hrec1))
  have hdfr2 := keep_obj (D := D) hmem2 hc2.frame (by trivial) ((World.putObj_heap_other hDL).trans hdfr1)
  refine ⟨_, _, run_endRound none hrec2, rfl, ⟨⟨σ2, r.h, ?_, ?_, s2.hw (s1.hw hww), ?_, Nat.le_trans hle (Nat.le_trans s1.le s2.le), hr, ?_⟩, ?_, ?_⟩⟩
  · exact (hext.trans hc.ext hle s1.le).trans hc2.ext (Nat.le_trans hle s1.le) s2.le
  · exact hc2.mem.putObj (by trivial) hrec2
  · exact (hfr.right hc.ext s1.le).right hc2.ext s2.le
  · exact ((hf1.putObj _ hL).trans hc2.frame).putObj _ hL
  · exact World.putObj_heap_same (some_lt hrec2)
  · exact (World.putObj_heap_other hDL).trans hdfr2

theorem back_ok (hS : SymsOk Tryz.prog S ρ) (hb : ∀ g, S.back g = true → g = 193) (call : FuncId → FF) (hcall : CallOk Tryz.prog ρ B call) (hmn : ∀ f xs h, Mn h ((call f).f xs h)) : BackOk Tryz.prog S ρ B N call := by
  intro f ps x y T h r σ a w Q e ht hN hm hw hf hB hQ
  unfold mkBack at e
  split at e
  · rename_i p q hps
    split at e
    · rename_i w1 w2 hw1 hw2
      obtain ⟨v, hv, e⟩ := ob_some e
      split at e
      · rename_i g k off
        obtain ⟨hg, e⟩ := bb_true e
        obtain ⟨n, hn, e⟩ := ob_some e
        obtain ⟨hn1, e⟩ := bb_true e
        have hn1 := blt_lt hn1
        obtain ⟨h', hr, e⟩ := ob_some e
        cases e
        have hg := hb g hg
        subst hg
        obtain ⟨pp, qq, hfe, h1, h2⟩ := ht.ev (a := a) f _ hv
        have hpp : pp = #[] := by
          have := h1.1
          exact Array.eq_empty_of_size_eq_zero (by simpa using this.symm)
        subst hpp
        obtain ⟨u0, hu0, ⟨b0, d0, t0, hs, rfl⟩⟩ := h2.get (i := 0) rfl
        have hqq : qq = #[.pointer (some ⟨b0, d0 + off, none⟩)] := by
          apply Array.ext'
          have hlen := h2.1
          match hq : qq.toList, hlen, hu0 with
          | [z], _, hu0 => simp at hu0; simp [hu0]
        subst hqq
        have hps : ps = #[p, q] := by apply Array.ext'; simpa using hps
        subst hps
        obtain ⟨sv, hsv, hn⟩ := ob_some (show ob (h.cell k off) lenSlice = some n from hn)
        obtain ⟨us, hus, hvs⟩ := hm.cell hsv hs
        have hslice : ∃ a0 cap0, us = .slice a0 n cap0 := by
          unfold lenSlice at hn
          split at hn
          · cases hn; obtain ⟨b, d, t, c, _, rfl, _⟩ := hvs; exact ⟨_, _, rfl⟩
          · cases hn; cases hvs; exact ⟨_, _, rfl⟩
          · cases hn; obtain ⟨a, c, rfl⟩ := hvs; exact ⟨_, _, rfl⟩
          · cases hn
        obtain ⟨a0, cap0, rfl⟩ := hslice
        refine (wpIn_wide (n := 2)).1 (wpIn_rangeFunc (F := Fence.wide) fun fn _ => ?_)
        obtain ⟨lp, hlp⟩ : ∃ lp : Loop, lp = { state := .ready, pending := none, fn, tmps := a.tmps, params := #[p, q], assign := x, body := y, defers := w.heap.size } := ⟨_, rfl⟩
        obtain ⟨W0, hW0⟩ : ∃ W0 : World, W0 = (w.alloc (.deferred (some []))).alloc (.loop lp) := ⟨_, rfl⟩
        have henter : (Instr.enterLoop fn a.tmps #[p, q] x y none).run Tryz.prog w = .ok (w.heap.size + 1, [{ target := .collected w.heap.size, args := #[] }]) W0 := by
          rw [hW0, hlp]; exact run_enterLoop_outer fn a.tmps #[p, q] x y
        have hcell0 : W0.cell? ⟨b0, d0 + off, none⟩ = some (.slice a0 n cap0) := by rw [hW0]; exact cell_alloc' _ _ (cell_alloc' _ _ hus)
        have hmem0 : HRel ρ B σ h.blk W0 := by rw [hW0]; exact (hm.alloc' _).alloc' _
        have hfr0 : FR σ h.blk w σ h.blk W0 := by rw [hW0]; exact ((FR.refl _ _ _).alloc' _).alloc' _
        have hrec0 : W0.heap[w.heap.size + 1]? = some (.loop lp) := by
          have := World.alloc_heap_new (w.alloc (.deferred (some []))) (.loop lp)
          rwa [World.size_alloc, ← hW0] at this
        have hdfr0 : W0.heap[w.heap.size]? = some (.deferred (some [])) := by
          rw [hW0, heap_alloc_lt _ _ (by rw [World.size_alloc]; omega)]
          exact World.alloc_heap_new w _
        refine ⟨w.heap.size + 1, [{ target := .collected w.heap.size, args := #[] }], W0, { target := .fn (.func 193) #[.pointer (some ⟨b0, d0 + off, none⟩)], args := #[.func (.yield (w.heap.size + 1)) #[] #[]] }, W0, 193, #[.func (.yield (w.heap.size + 1)) #[] #[], .pointer (some ⟨b0, d0 + off, none⟩)], W0,
          henter, ?_, fun _ _ => trivial, ?_, fun h => (by cases h), ?_⟩
        · have hfe' : a.eval f = .func (.func 193) #[] #[.pointer (some ⟨b0, d0 + off, none⟩)] := hfe
          have hc : a.eval (.const (.func (.yield (w.heap.size + 1)) #[] #[])) = .func (.yield (w.heap.size + 1)) #[] #[] := rfl
          simp [resolve, hfe', hc, Deferred.ofValue]
        · have n1 : Tryz.f193.name ≠ "runtime.NumGoroutine" := fun e => by
            have : (Tryz.f193.name == "runtime.NumGoroutine") = false := by kernel_rfl
            rw [e] at this; simp at this
          have n2 : Tryz.f193.body ≠ none := fun e => by
            have : Tryz.f193.body.isSome = true := by kernel_rfl
            rw [e] at this; cases this
          simp [invoke, callFunc, Tryz.func193, n1, n2]
        · refine (back_in 1 (Nat.le_refl _) (w.heap.size + 1) b0 (d0 + off) (fun m W => BJ Tryz.prog ρ B σ h h' w (seqF (mkB Tryz.prog S call N x) (mkB Tryz.prog S call N y)).f w1 w2 T k off (w.heap.size + 1) w.heap.size lp m W)
            ?_ n ?_ W0 a0 cap0 hcell0 ?_).mono ?_
          · intro m W hJ
            rw [hlp] at hJ ⊢
            exact back_round hS hcall hmn hw1 hw2 ht hN hB hs (Nat.le_succ _) (Nat.le_refl _) (by omega) m W hJ
          · omega
          · exact ⟨⟨σ, h, Ext.refl _ _ _, hmem0, hw, hf, Nat.le_refl _, hr, hfr0⟩, hrec0, hdfr0⟩
          · rintro e W ⟨⟨v, rfl⟩, ⟨⟨σm, hm', hext, hmem, hww, hfr, hle, hr0, hframe⟩, hrec, hdfr⟩⟩
            cases hr0
            subst hlp
            refine ⟨none, _, run_endLoop hrec (by simp), ?_⟩
            refine hQ .normal _ _ σm ⟨rfl, hext, ht.mono hext.le, hN, ⟨[w.heap.size], rfl, by simp, fun D hD => ?_⟩, hmem.putObj (by trivial) hrec, hframe.putObj _ (Nat.le_succ _)⟩
            have hD : D = w.heap.size := by simpa using hD
            subst hD
            exact ⟨Nat.le_refl _, (World.putObj_heap_other (by omega)).trans hdfr⟩
      · cases e
    · cases e
  · cases e
end

end Go.Proofs.YtogifafehihjgaaGreat.Ab
