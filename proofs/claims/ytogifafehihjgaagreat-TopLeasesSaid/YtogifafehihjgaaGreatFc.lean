/-
  The executor's functions against the model's.
-/
import Derived.Test.YtogifafehihjgaaGreatFb
import Derived.RangeFuncLeaves
import Derived.RangeFuncRecord
namespace Go.Proofs.YtogifafehihjgaaGreat.Ab
open Go

section
variable {P : Program} {S : Syms} {ρ : Nat → Value} {B : Nat}

theorem argsT_get : ∀ (l : List AV) (t : TM) (i : Nat), i + l.length ≤ 256 → ∀ j, tget (argsT l t i) j = if i ≤ j ∧ j < i + l.length then l[j - i]? else tget t j
  | [], t, i, _, j => by
    rw [if_neg (by simp only [List.length_nil]; omega)]; rfl
  | v :: l, t, i, h, j => by
    show tget (argsT l (tset t i v) (Nat.succ i)) j = _
    have hl : Nat.succ i + l.length ≤ 256 := by simp at h; omega
    rw [argsT_get l (tset t i v) (Nat.succ i) hl j]
    by_cases h1 : j = i
    · subst h1
      rw [if_neg (by omega), if_pos (by simp), tget_tset_same (by simp at h; omega)]
      simp
    · by_cases h2 : Nat.succ i ≤ j ∧ j < Nat.succ i + l.length
      · rw [if_pos h2, if_pos (by simp; omega)]
        obtain ⟨k, hk⟩ : ∃ k, j - i = k + 1 := ⟨j - i - 1, by omega⟩
        rw [hk, List.getElem?_cons_succ]
        congr 1; omega
      · rw [if_neg h2, if_neg (by simp; omega), tget_tset_ne (by simp at h; omega) h1]

theorem args_rel {σ : Sg} {as : List AV} {us : Array Value} {n : Nat} (hl : LR (VR ρ σ) as us.toList) (hn : as.length ≤ n) (h256 : n ≤ 256) :
    TRel ρ σ (argsT as eT 0) (us ++ Array.replicate (n - us.size) undef) ∧ (us ++ Array.replicate (n - us.size) undef).size = n := by
  have hlen : as.length = us.size := by have := hl.1; simpa using this
  refine ⟨fun i v hv => ?_, by simp; omega⟩
  rw [argsT_get as eT 0 (by omega) i] at hv
  split at hv
  · rename_i hi
    rw [Nat.sub_zero] at hv
    obtain ⟨u, hu, hr⟩ := hl.get hv
    have hi' : i < us.size := by omega
    refine ⟨u, ?_, hr⟩
    rw [Array.getElem?_append_left hi']
    simpa using hu
  · rw [tget_eT] at hv; cases hv

theorem run_mapM_list {α β : Type} {f : α → Sem β} {w : World} : ∀ (l : List α) (vs : List β), l.length = vs.length → (∀ (i : Nat) (x : α) (v : β), l[i]? = some x → vs[i]? = some v → (f x).run P w = .ok v w) → (l.mapM f).run P w = .ok vs w
  | [], [], _, _ => by simp
  | [], _ :: _, h, _ => by simp at h
  | _ :: _, [], h, _ => by simp at h
  | x :: l, v :: vs, h, hf => by
    have h1 := hf 0 x v rfl rfl
    have h2 := run_mapM_list l vs (by simpa using h) fun i y u hy hu => hf (i + 1) y u (by simpa using hy) (by simpa using hu)
    simp [List.mapM_cons, h1, h2]

/-- one result -/
theorem mkRes_run {σ : Sg} {T : TM} {h : Heap} {w : World} {a : Act} {r : ResultVar} {v : AV} (hr : (mkRes P r).f T h = some v) (ht : TRel ρ σ T a.tmps) (hm : HRel ρ B σ h.blk w) :
    ∃ u, (match r with | .tmp t => (pure (a.tmps.getD t undef) : Sem Value) | .cell x t => do loadVar t (← asAddr (a.tmps.getD x undef))).run P w = .ok u w ∧ VR ρ σ v u := by
  cases r with
  | tmp t =>
    exact ⟨_, rfl, ht.ev (a := a) (.tmp t) v hr⟩
  | cell x t =>
    obtain ⟨q, hq, hr⟩ := ob_some (show ob ((mkLoad P t (.tmp x)).f T h) (fun r => some r.v) = some v from hr)
    cases hr
    obtain ⟨_, ad, u, e, hrun, hv⟩ := mkLoad_run (P := P) hq (ht.ev (a := a) (.tmp x)) hm
    have e : a.tmps.getD x undef = .pointer (some ad) := e
    refine ⟨u, ?_, hv⟩
    dsimp only
    rw [e]
    simp [asAddr, hrun]

theorem mkResL_run {σ : Sg} {T : TM} {h : Heap} {w : World} {a : Act} (ht : TRel ρ σ T a.tmps) (hm : HRel ρ B σ h.blk w) : ∀ {l : List ResultVar} {vs : List AV}, (mkResL P l).f T h = some vs →
    ∃ us : List Value, LR (VB ρ σ) vs us ∧ l.length = us.length ∧ ∀ (i : Nat) (r : ResultVar) (u : Value), l[i]? = some r → us[i]? = some u →
      (match r with | .tmp t => (pure (a.tmps.getD t undef) : Sem Value) | .cell x t => do loadVar t (← asAddr (a.tmps.getD x undef))).run P w = .ok u w
  | [], vs, hr => by cases hr; exact ⟨[], LR.nil, rfl, fun i r u h => by simp at h⟩
  | r :: l, vs, hr => by
    obtain ⟨v, hv, hr⟩ := ob_some (show ob ((mkRes P r).f T h) (fun v => bb (noTup v) (ob ((mkResL P l).f T h) fun l => some (v :: l)) none) = some vs from hr)
    obtain ⟨hn, hr⟩ := bb_true hr
    obtain ⟨vs', hvs, hr⟩ := ob_some hr
    cases hr
    obtain ⟨u, hu, huv⟩ := mkRes_run (B := B) (w := w) hv ht hm
    obtain ⟨us, h1, h2, h3⟩ := mkResL_run ht hm hvs
    refine ⟨u :: us, LR.cons (noTup_VB hn huv) h1, by simp [h2], fun i q x hq hx => ?_⟩
    cases i with
    | zero => simp at hq hx; subst hq; subst hx; exact hu
    | succ i => exact h3 i q x (by simpa using hq) (by simpa using hx)

theorem results_run {σ : Sg} {T : TM} {h : Heap} {w : World} {a : Act} {fn : Func} {v : AV} (hr : (mkResults P fn.results.toList).f T h = some v) (ht : TRel ρ σ T a.tmps) (hm : HRel ρ B σ h.blk w) :
    ∃ u, (results fn a.tmps).run P w = .ok u w ∧ VR ρ σ v u := by
  have key : ∀ us : List Value, fn.results.toList.length = us.length → (∀ (i : Nat) (r : ResultVar) (u : Value), fn.results.toList[i]? = some r → us[i]? = some u →
      (match r with | .tmp t => (pure (a.tmps.getD t undef) : Sem Value) | .cell x t => do loadVar t (← asAddr (a.tmps.getD x undef))).run P w = .ok u w) →
      (results fn a.tmps).run P w = .ok (if h : us.toArray.size = 1 then us.toArray[0] else .tuple us.toArray) w := fun us h1 h2 => by
    unfold results
    rw [Sem.run_bind, Array.mapM_eq_mapM_toList]
    simp only [Sem.run_map]
    rw [run_mapM_list (P := P) (w := w) fn.results.toList us h1 (fun i x v hx hv => by
      have := h2 i x v hx hv
      cases x <;> exact this)]
    rfl
  unfold mkResults at hr
  split at hr
  · rename_i r hl
    obtain ⟨u, hu, huv⟩ := mkRes_run (B := B) (w := w) hr ht hm
    refine ⟨u, ?_, huv⟩
    have := key [u] (by rw [hl]; rfl) fun i q x hq hx => by
      rw [hl] at hq
      cases i with
      | zero => simp at hq hx; subst hq; subst hx; exact hu
      | succ i => simp at hq
    simpa using this
  · rename_i hne
    obtain ⟨vs, hvs, hr⟩ := ob_some hr
    cases hr
    obtain ⟨us, h1, h2, h3⟩ := mkResL_run (B := B) (w := w) (a := a) ht hm hvs
    refine ⟨.tuple us.toArray, ?_, ⟨us.toArray, rfl, by simpa using h1⟩⟩
    rw [key us h2 h3, dif_neg]
    intro h
    have h : us.length = 1 := by simpa using h
    obtain ⟨r, hr⟩ := List.length_eq_one_iff.1 (h2.trans h)
    exact hne r hr

/-! ### bodies -/
theorem mn_endF {res : RF} {r : R} {h : Heap} (hs : Hs h r.h) : Mn h (endF res r) := by
  obtain ⟨x, T, h1⟩ := r
  cases x with
  | normal => exact .ob fun _ _ => .same hs
  | exit _ => exact .none
  | goto _ => exact .none
  | ret => exact .ob fun _ _ => .same hs

theorem mn_body {run : Nat → Code → CF} (hmr : ∀ N c T h, Mr h ((run N c).f T h)) (f : FuncId) (as : List AV) (h : Heap) : Mn h ((bodyF P run f).f as h) := by
  unfold bodyF
  split
  · exact .none
  · split
    · exact .none
    · exact mn_bf (.bb (.ob fun r hr => mn_endF (hmr _ _ _ _ r hr)) .none) .none

/-- the marks are come to, then the results are read -/
theorem leaves_marks {σ σ' : Sg} {h hq : Heap} {w : World} {fn : Func} {T : TM} {v : AV} {tmps : Array Value} (hv : (mkResults P fn.results.toList).f T hq = some v) (ht : TRel ρ σ' T tmps) : ∀ (Ds : List Nat) (w' : World), Ds.Nodup →
    (∀ D ∈ Ds, w.heap.size ≤ D ∧ w'.heap[D]? = some (.deferred (some []))) → Ext σ σ' h.next hq.next → HRel ρ B σ' hq.blk w' → FR σ h.blk w σ' hq.blk w' →
    LeavesInM Fence.wide 0 P fn tmps (fun e w' => ∃ u σ', e = .returned u ∧ Post ρ B σ h w ⟨v, hq⟩ u σ' w') (Ds.map fun D => ({ target := .collected D, args := #[] } : Deferred)) .returning w'
  | [], w', _, _, he, hm, hf => by
    obtain ⟨u, hu, huv⟩ := results_run (B := B) (w := w') (a := { tmps := tmps, defers := [] }) hv ht hm
    exact ⟨u, hu, u, σ', rfl, he, huv, hm, hf⟩
  | D :: Ds, w', hnd, hD, he, hm, hf => by
    obtain ⟨h1, h2⟩ := List.nodup_cons.1 hnd
    obtain ⟨h3, h4⟩ := hD D (by simp)
    have hnf : ∀ b, Foot σ' hq.blk b → b ≠ D := fun b hb e => by
      subst e
      obtain ⟨k, x, d, t, hk, hs⟩ := hb
      obtain ⟨b', d', t', hs', _, hbr⟩ := hm.has k x hk
      rw [hs] at hs'; cases hs'
      cases x with
      | it s pos => rw [hbr.1] at h4; cases h4
      | sm n l => obtain ⟨_, _, c, e, hc, _⟩ := hbr; rw [hc] at h4; cases h4
      | bg n l => obtain ⟨_, c, e, hc, _⟩ := hbr; rw [hc] at h4; cases h4
    refine ⟨by simp, .inl ⟨D, w'.putObj D (.deferred none), rfl, run_takeDeferred h4, ?_⟩⟩
    refine leaves_marks hv ht Ds _ h2 (fun E hE => ?_) he ⟨fun k x hk => ?_, hm.inj⟩ ⟨?_, fun b hb hn => ?_, hf.foot, hf.tape, hf.os, hf.output⟩
    · have hne : E ≠ D := fun e => h1 (e ▸ hE)
      obtain ⟨g1, g2⟩ := hD E (by simp [hE])
      exact ⟨g1, by rw [World.putObj_heap_other hne]; exact g2⟩
    · obtain ⟨b, d, t, hs, hB, hbr⟩ := hm.has k x hk
      exact ⟨b, d, t, hs, hB, hbr.heap (World.putObj_heap_other (hnf b ⟨k, x, d, t, hk, hs⟩))⟩
    · rw [World.putObj_size]; exact hf.size
    · rw [World.putObj_heap_other (by omega)]
      exact hf.keep b hb hn

theorem body_ok {run : Nat → Code → CF} (hok : ∀ N c, CodeOk P ρ B N (run N c).f fun Q => c.wp P Q) : CallOk P ρ B (bodyF P run) := by
  intro f as us σ h w r hr hl hm hw hf hB
  unfold bodyF at hr
  split at hr
  · cases hr
  · rename_i fn hfn
    split at hr
    · cases hr
    · rename_i c hc
      cases h256 : Nat.ble fn.ntmps 256 with
      | false => rw [h256] at hr; cases hr
      | true =>
        rw [h256] at hr
        obtain ⟨hlen, hr⟩ := bb_true (show bb (Nat.ble (lenL as) fn.ntmps) (ob ((run fn.ntmps c).f (argsT as eT 0) h) fun r => endF (mkResults P fn.results.toList) r) none = some r from hr)
        obtain ⟨q, hq, hr⟩ := ob_some hr
        have hlen := ble_le hlen
        rw [lenL_eq] at hlen
        obtain ⟨t1, t2⟩ := args_rel (us := us.toArray) (n := fn.ntmps) (by simpa using hl) hlen (ble_le h256)
        have hend : (q.x = .normal ∨ q.x = .ret) ∧ ∃ v, (mkResults P fn.results.toList).f q.T q.h = some v ∧ r = ⟨v, q.h⟩ := by
          obtain ⟨x, T, h1⟩ := q
          cases x with
          | normal =>
            obtain ⟨v, hv, hr⟩ := ob_some (show ob ((mkResults P fn.results.toList).f T h1) (fun v => some (⟨v, h1⟩ : VH)) = some r from hr)
            cases hr
            exact ⟨.inl rfl, v, hv, rfl⟩
          | exit _ => cases hr
          | goto _ => cases hr
          | ret =>
            obtain ⟨v, hv, hr⟩ := ob_some (show ob ((mkResults P fn.results.toList).f T h1) (fun v => some (⟨v, h1⟩ : VH)) = some r from hr)
            cases hr
            exact ⟨.inr rfl, v, hv, rfl⟩
        obtain ⟨hx, v, hv, rfl⟩ := hend
        refine callsIn_wide.1 (callsIn_of_wp_marks (F := Fence.wide) (n := 0) hfn hc trivial (wpIn_wide.2 ?_))
        refine hok fn.ntmps c (argsT as eT 0) h q σ _ w _ hq t1 t2 hm hw hf hB fun e a' w' σ' hcp => ?_
        have hl : LeavesInM Fence.wide 0 P fn a'.tmps (fun e w' => ∃ u σ', e = .returned u ∧ Post ρ B σ h w ⟨v, q.h⟩ u σ' w') a'.defers .returning w' := by
          obtain ⟨Ds, hds, hnd, hD⟩ := hcp.marks
          rw [hds, List.append_nil]
          exact leaves_marks hv hcp.tmps Ds w' hnd hD hcp.ext hcp.mem hcp.frame
        have hxx := hcp.x
        rcases hx with hx | hx <;> rw [hx] at hxx <;> (have hxx' := hxx; cases hxx')
        · exact hl
        · exact hl

/-- what is told of functions by other means -/
structure SumsOk (P : Program) (S : Syms) (ρ : Nat → Value) (B : Nat) : Prop where
  ok : ∀ f g, S.fsum f = some g → ∀ (as : List AV) (us : List Value) (σ : Sg) (h : Heap) (w : World) (r : VH), g.f as h = some r → LR (VR ρ σ) as us → HRel ρ B σ h.blk w → HW h → Fresh σ h.next r.h.next → B ≤ w.heap.size →
    Calls P f us.toArray w fun e w' => ∃ u σ', e = .returned u ∧ Post ρ B σ h w r u σ' w'
  mn : ∀ f g, S.fsum f = some g → ∀ as h, Mn h (g.f as h)

theorem mn_fn (hs : SumsOk P S ρ B) {run : Nat → Code → CF} (hmr : ∀ N c T h, Mr h ((run N c).f T h)) (f : FuncId) (as : List AV) (h : Heap) : Mn h ((mkFn P S run f).f as h) := by
  unfold mkFn
  split
  · exact mn_body hmr f as h
  · rename_i g hg
    exact .oe (mn_body hmr f as h) fun r hr => fun r' e => by cases e; exact hs.mn f g hg as h r hr

theorem fn_ok (hs : SumsOk P S ρ B) {run : Nat → Code → CF} (hok : ∀ N c, CodeOk P ρ B N (run N c).f fun Q => c.wp P Q) : CallOk P ρ B (mkFn P S run) := by
  intro f as us σ h w r hr hl hm hw hf hB
  unfold mkFn at hr
  split at hr
  · exact body_ok hok f as us σ h w r hr hl hm hw hf hB
  · rename_i g hg
    have hr : oe (g.f as h) ((bodyF P run f).f as h) (fun r => some r) = some r := hr
    cases hgr : g.f as h with
    | none => rw [hgr] at hr; exact body_ok hok f as us σ h w r hr hl hm hw hf hB
    | some q =>
      rw [hgr] at hr
      cases hr
      exact hs.ok f g hg as us σ h w _ hgr hl hm hw hf hB

theorem levels (hback : ∀ N call, CallOk P ρ B call → (∀ f as h, Mn h ((call f).f as h)) → BackOk P S ρ B N call) (hS : SymsOk P S ρ) (hs : SumsOk P S ρ B) (hfol : P.follows .mixedOrders = true) : ∀ n : Nat, (∀ N c, CodeOk P ρ B N (cdL P S n N c).f fun Q => c.wp P Q) ∧ (∀ N c T h, Mr h ((cdL P S n N c).f T h))
  | 0 => ⟨fun _ _ _ _ _ _ _ _ _ e => (by cases e), fun _ _ _ _ => Mr.none⟩
  | n + 1 => by
    obtain ⟨h1, h2⟩ := levels hback hS hs hfol n
    have hmn : ∀ f as h, Mn h ((mkFn P S (cdL P S n) f).f as h) := mn_fn hs h2
    exact ⟨fun N c => code_ok (hback N _ (fn_ok hs h1) hmn) hS (fn_ok hs h1) hmn hfol (fun c T h => h2 N c T h) (fun c => h1 N c) c, fun N c T h => mr_code hmn (fun c T h => h2 N c T h) c T h⟩

/-- the executor's word on a function -/
theorem exec_ok (hback : ∀ N call, CallOk P ρ B call → (∀ f as h, Mn h ((call f).f as h)) → BackOk P S ρ B N call) (hS : SymsOk P S ρ) (hs : SumsOk P S ρ B) (hfol : P.follows .mixedOrders = true) (n : Nat) : CallOk P ρ B (evFn P S n) := fn_ok hs (levels hback hS hs hfol n).1
theorem exec_mn (hback : ∀ N call, CallOk P ρ B call → (∀ f as h, Mn h ((call f).f as h)) → BackOk P S ρ B N call) (hS : SymsOk P S ρ) (hs : SumsOk P S ρ B) (hfol : P.follows .mixedOrders = true) (n : Nat) : ∀ f as h, Mn h ((evFn P S n f).f as h) := mn_fn hs (levels hback hS hs hfol n).2
end

end Go.Proofs.YtogifafehihjgaaGreat.Ab
