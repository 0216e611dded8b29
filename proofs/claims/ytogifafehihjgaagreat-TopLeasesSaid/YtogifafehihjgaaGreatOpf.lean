/-
  The executor's operations against the model's, sixth part: clear, len, the plain builtins, ranges over strings.
-/
import Derived.Test.YtogifafehihjgaaGreatOpe
namespace Go.Proofs.YtogifafehihjgaaGreat.Ab
open Go

section
variable {P : Program} {S : Syms} {ρ : Nat → Value} {B : Nat} {σ : Sg} {T : TM} {h : Heap} {w : World} {val : Operand → Value} {o : Oper} {r : VH}

theorem zeroCells_list (zs : Array Value) (n : Nat) : (Builtin.zeroCells zs n).toList = (List.replicate n zs.toList).flatten := range_cells zs n

theorem op_clear (c : Call) (x : Operand) (t1 : TypeId) (ho : o.op = .call c) (hc : c.callee = .builtin .clear) (hats : c.argTypes = #[t1]) (hargs : c.args = #[x])
    (hr : (mkClear P t1 x).f T h = some r) (hx : EvOk ρ σ T val x) (hm : HRel ρ B σ h.blk w) : h.next ≤ r.h.next ∧ OpRes P ρ B val o σ h w r := by
  have key : ∀ {u : Value} {w' : World}, (Builtin.clear_ #[t1] o.type #[val x]).run P w = .ok u w' → (execOp val o).run P w = .ok (.value u) w' := fun {u w'} hz => by
    rw [exec_builtin ho hc, hats, hargs]
    have e : (#[x] : Array Operand).map val = #[val x] := by simp
    rw [e]
    simp only [builtin, Sem.run_bind, hz, Result.andThen_ok]
    rfl
  unfold mkClear at hr
  split at hr
  · rename_i e hu
    split at hr
    · rename_i z size hz hsz
      cases hcnd : Nat.beq (lenL z) size with
      | false => rw [hcnd] at hr; cases hr
      | true =>
      rw [hcnd] at hr
      obtain ⟨v, hv, hr⟩ := ob_some (show ob ((mkEv x).f T) (fun v => ob (evClear z size h v) fun h => some (⟨.tup [], h⟩ : VH)) = some r from hr)
      obtain ⟨h', hcl, hr⟩ := ob_some hr
      cases hr
      have hxv := hx v hv
      have stay : h' = h → (Builtin.clear_ #[t1] o.type #[val x]).run P w = .ok (.tuple #[]) w → h.next ≤ (⟨.tup [], h'⟩ : VH).h.next ∧ OpRes P ρ B val o σ h w ⟨.tup [], h'⟩ := fun e hz => by
        subst e
        exact OpRes.pure hm (u := .tuple #[]) ⟨_, rfl, LR.nil⟩ (key hz)
      unfold evClear at hcl
      split at hcl
      · cases hcl
        have hxv : val x = .slice none 0 0 := hxv
        exact stay rfl (by rw [hxv]; simp [Builtin.clear_, run_underlying hu])
      · cases hcl
        obtain ⟨a, cc, hxv⟩ := hxv
        exact stay rfl (by rw [hxv]; simp [Builtin.clear_, run_underlying hu])
      · cases hcl
        obtain ⟨b, d, t, cc, _, hxv, _⟩ := hxv
        exact stay rfl (by rw [hxv]; simp [Builtin.clear_, run_underlying hu])
      · rename_i k off n cap zz
        obtain ⟨b, d, t, cc, hs, hxv, _⟩ := hxv
        obtain ⟨zv, hzr, hzl⟩ := zeroCellsA_some (ρ := ρ) (σ := σ) hz
        have hlr := hzl.repeat (n + 1)
        have hzlen : z.length = size := by rw [← lenL_eq]; exact beq_eq hcnd
        obtain ⟨w', hst, hm', hf, hn⟩ := hm.setCells (P := P) hcl hs (by rw [repeatL_eq]; simp [hzlen]) hlr
        rw [← zeroCells_list] at hst
        have hrun : (Builtin.clear_ #[t1] o.type #[val x]).run P w = .ok (.tuple #[]) w' := by
          rw [hxv]
          simp [Builtin.clear_, run_underlying hu, hzr, hst]
        refine ⟨by show h.next ≤ h'.next; omega, .inl ⟨_, w', σ, ⟨?_, ⟨_, rfl, LR.nil⟩, hm', hf⟩, .inl (key hrun)⟩⟩
        show Ext σ σ h.next h'.next
        exact Ext.refl _ _ _
      · cases hcl
    · cases hr
  · cases hr

/-! ### len, and the plain builtins -/
theorem exacts_some : ∀ {as : List AV} {vs us : List Value}, exacts as = some vs → LR (VR ρ σ) as us → us = vs := fun {as vs us} he hl => by
  obtain ⟨h1, h2⟩ := mapO_some he
  apply List.ext_getElem?
  intro i
  cases hi : as[i]? with
  | none =>
    have hle : as.length ≤ i := by simpa using hi
    rw [List.getElem?_eq_none (by have := hl.1; omega), List.getElem?_eq_none (by omega)]
  | some a =>
    obtain ⟨b, hb, hab⟩ := h2 i a hi
    obtain ⟨c, hc, hac⟩ := hl.get hi
    rw [hb, hc, exact_eq hab hac]

def isPure : Builtin → Bool
  | .len | .min | .max | .real | .imag | .complex => true
  | _ => false

theorem builtin_consts {b : Builtin} (hb : isPure b = true) (ats : Array TypeId) (t : TypeId) (c c' : Array Bool) (as : Array Value) : builtin b ats t c as = builtin b ats t c' as := by
  cases b <;> first | rfl | cases hb

theorem op_pure (c : Call) (b : Builtin) (ho : o.op = .call c) (hc : c.callee = .builtin b) (hb : isPure b = true)
    (hr : (mkPure P b c.argTypes o.type c.args.toList).f T h = some r) (hx : ∀ x ∈ c.args.toList, EvOk ρ σ T val x) (hm : HRel ρ B σ h.blk w) : h.next ≤ r.h.next ∧ OpRes P ρ B val o σ h w r := by
  obtain ⟨as, has, hr⟩ := ob_some (show ob ((mkEvs c.args.toList).f T) (fun vs => ob (evPure P b c.argTypes o.type vs) fun r => some (⟨r, h⟩ : VH)) = some r from hr)
  obtain ⟨v, hv, hr⟩ := ob_some hr
  cases hr
  have hl := mkEvs_some has hx
  unfold evPure at hv
  split at hv
  · rename_i vs hvs
    split at hv
    · rename_i u hu
      have e := exacts_some hvs hl
      refine OpRes.pure hm (of_VR hv) ?_
      rw [exec_builtin ho hc, builtin_consts hb _ _ _ #[] _]
      have e2 : c.args.map val = vs.toArray := by
        apply Array.ext'
        rw [← e]; simp
      rw [e2]
      exact prun_run hu
    · cases hv
  · cases hv

theorem op_len (c : Call) (x : Operand) (t1 : TypeId) (ho : o.op = .call c) (hc : c.callee = .builtin .len) (hats : c.argTypes = #[t1]) (hargs : c.args = #[x])
    (hr : (mkLen P c.argTypes o.type t1 x).f T h = some r) (hx : EvOk ρ σ T val x) (hm : HRel ρ B σ h.blk w) : h.next ≤ r.h.next ∧ OpRes P ρ B val o σ h w r := by
  unfold mkLen at hr
  split at hr
  · rename_i e hu
    obtain ⟨v, hv, hr⟩ := ob_some hr
    obtain ⟨n, hn, hr⟩ := ob_some hr
    cases hr
    have hxv := hx v hv
    have key : ∀ {u : Value}, (Builtin.len_ #[t1] o.type #[val x]).run P w = .ok u w → (execOp val o).run P w = .ok (.value u) w := fun {u} hz => by
      rw [exec_builtin ho hc, hats, hargs]
      have e : (#[x] : Array Operand).map val = #[val x] := by simp
      rw [e]
      simp only [builtin, Sem.run_bind, hz, Result.andThen_ok]
      rfl
    unfold lenSlice at hn
    split at hn
    · cases hn
      obtain ⟨b, d, t, cc, _, hxv, _⟩ := hxv
      exact OpRes.pure hm (u := .int .i64 (.ofNat n)) (rfl : _ = _) (key (by rw [hxv]; simp [Builtin.len_, run_underlying hu, goInt]))
    · cases hn
      have hxv : val x = .slice none 0 0 := hxv
      exact OpRes.pure hm (u := .int .i64 (.ofNat 0)) (rfl : _ = _) (key (by rw [hxv]; simp [Builtin.len_, run_underlying hu, goInt]))
    · cases hn
      obtain ⟨a, cc, hxv⟩ := hxv
      exact OpRes.pure hm (u := .int .i64 (.ofNat 0)) (rfl : _ = _) (key (by rw [hxv]; simp [Builtin.len_, run_underlying hu, goInt]))
    · cases hn
  · exact op_pure c .len ho hc rfl (by rw [hargs]; exact hr) (fun y hy => by rw [hargs] at hy; simp at hy; rw [hy]; exact hx) hm

/-! ### ranges over strings -/
theorem op_range (t : TypeId) (x : Operand) (ho : o.op = .range t x) {call : FuncId → FF} (hr : (mkOp P S call o.type (.range t x)).f T h = some r)
    (hx : EvOk ρ σ T val x) (hm : HRel ρ B σ h.blk w) (hfresh : Fresh σ h.next r.h.next) (hB : B ≤ w.heap.size) : h.next ≤ r.h.next ∧ OpRes P ρ B val o σ h w r := by
  obtain ⟨v, hv, hr⟩ := ob_some (show ob ((mkEv x).f T) (fun v => evRange P t v h) = some r from hr)
  have hxv := hx v hv
  unfold evRange at hr
  split at hr
  · rename_i s hu
    obtain ⟨h', ha, hr⟩ := ob_some hr
    cases hr
    have hxv : val x = .string s := hxv
    obtain ⟨a1, a2, a3, a4⟩ := alloc_some ha
    have hf : σ h.next = none := hfresh h.next (Nat.le_refl _) (by show h.next < h'.h.next; omega)
    have hext := Ext.put (k := h.next) (w.heap.size, 0, 0) hf
    obtain ⟨h5, h6⟩ := hm.alloc (k := h.next) (t := 0) (o := .stringIter s 0) (y := .it s 0) (m' := h'.h.blk) hf hB ⟨by simp, rfl⟩ a3 a4
    refine ⟨by show h.next ≤ h'.h.next; omega, .inl ⟨.pointer (some ⟨w.heap.size, 0, none⟩), _, _, ⟨?_, ⟨w.heap.size, 0, 0, by rw [a1]; exact Sg.put_same _ _ _, rfl⟩, h5, h6⟩, .inl ?_⟩⟩
    · show Ext σ _ h.next h'.h.next
      rw [a2]; exact hext
    · simp [execOp, ho, Instr.range, hxv, run_underlying hu]
  · cases hr

theorem op_next (x : Operand) (ho : o.op = .next x true) {call : FuncId → FF} (hr : (mkOp P S call o.type (.next x true)).f T h = some r)
    (hx : EvOk ρ σ T val x) (hm : HRel ρ B σ h.blk w) : h.next ≤ r.h.next ∧ OpRes P ρ B val o σ h w r := by
  obtain ⟨v, hv, hr⟩ := ob_some (show ob ((mkEv x).f T) (fun v => evNext v h) = some r from hr)
  have hxv := hx v hv
  unfold evNext at hr
  split at hr
  · rename_i k
    split at hr
    · rename_i s pos hb
      obtain ⟨b, d, t, hs, hxv⟩ := hxv
      obtain ⟨b', d', t', hs', _, hbr⟩ := hm.has k _ hb
      rw [hs] at hs'; cases hs'
      obtain ⟨hit, hd⟩ := hbr
      subst hd
      cases hc : Nat.blt pos s.size with
      | true =>
        rw [hc] at hr
        have hr : sq (Nat.add pos (Utf8.decode s pos).2) (fun p => some (⟨.tup [.bool true, .nat 3 pos, ofI 2 (Utf8.decode s pos).1], h.putB k (.it s p)⟩ : VH)) = some r := hr
        rw [sq_eq] at hr
        cases hr
        have hlt := blt_lt hc
        have hset : (setObj b (.stringIter s (pos + (Utf8.decode s pos).2))).run P w = .ok () { w with heap := w.heap.setIfInBounds b (.stringIter s (pos + (Utf8.decode s pos).2)) } := by
          simp [setObj, Sem.run, hit]
        have hbs : b < w.heap.size := hm.foot_lt ⟨k, _, _, _, hb, hs⟩ |>.1
        have hoth : ∀ j, j ≠ b → (w.heap.setIfInBounds b (.stringIter s (pos + (Utf8.decode s pos).2)))[j]? = w.heap[j]? := fun j hj => Array.getElem?_setIfInBounds_ne (Ne.symm hj)
        have hm' := hm.upd (w' := { w with heap := w.heap.setIfInBounds b (.stringIter s (pos + (Utf8.decode s pos).2)) }) (y := .it s (pos + (Utf8.decode s pos).2)) (m' := (h.putB k (.it s (pos + (Utf8.decode s pos).2))).blk) hb hs hoth
          ⟨by simp [hbs], rfl⟩ (putB_same hb) (fun j hj => putB_ne hb hj)
        have hf' := FR.upd (w' := { w with heap := w.heap.setIfInBounds b (.stringIter s (pos + (Utf8.decode s pos).2)) }) (m' := (h.putB k (.it s (pos + (Utf8.decode s pos).2))).blk) hm hb hs (by simp) hoth (fun j hj => putB_ne hb hj) rfl rfl rfl
        refine ⟨Nat.le_refl _, .inl ⟨.tuple #[.bool true, goInt pos, .int .i32 (Utf8.decode s pos).1], _, σ, ⟨Ext.refl _ _ _, ⟨_, rfl, ?_⟩, hm', hf'⟩, .inl ?_⟩⟩
        · refine LR.cons ((rfl : Value.bool true = _)) (LR.cons ?_ (LR.cons (VB_of_VC (ofI_VC 2 _)) LR.nil))
          exact (rfl : goInt pos = _)
        · simp only [execOp, ho, Sem.run_bind]
          have hrun : (Instr.next (val x) true o.type).run P w = .ok (.tuple #[.bool true, goInt pos, .int .i32 (Utf8.decode s pos).1]) { w with heap := w.heap.setIfInBounds b (.stringIter s (pos + (Utf8.decode s pos).2)) } := by
            rw [hxv]
            simp only [Instr.next, Nat.zero_add, getObj, Sem.run_bind, Sem.run, hit, Result.andThen_ok, hlt, if_true]
            simp [setObj, Sem.run, hit, Result.andThen]
          rw [hrun]
          rfl
      | false =>
        rw [hc] at hr
        cases hr
        have hnlt : ¬ pos < s.size := fun e => by
          have : Nat.blt pos s.size = true := Nat.ble_eq_true_of_le e
          rw [this] at hc; cases hc
        refine OpRes.pure hm (u := .tuple #[.bool false]) ⟨_, rfl, LR.cons ((rfl : Value.bool false = _)) LR.nil⟩ ?_
        simp only [execOp, ho, Sem.run_bind]
        have hrun : (Instr.next (val x) true o.type).run P w = .ok (.tuple #[.bool false]) w := by
          rw [hxv]
          simp [Instr.next, getObj, Sem.run, hit, hnlt]
        rw [hrun]
        rfl
    · cases hr
  · cases hr
end

end Go.Proofs.YtogifafehihjgaaGreat.Ab
