/-
  The executor's regions against the model's: frames, operations one behind the other.
-/
import Derived.Test.YtogifafehihjgaaGreatOpg
import Derived.Orders
namespace Go.Proofs.YtogifafehihjgaaGreat.Ab
open Go

/-- the frame's slots -/
def TRel (ρ : Nat → Value) (σ : Sg) (T : TM) (tmps : Array Value) : Prop := ∀ (i : Nat) (v : AV), tget T i = some v → ∃ u, tmps[i]? = some u ∧ VR ρ σ v u

section
variable {P : Program} {S : Syms} {ρ : Nat → Value} {B : Nat} {σ σ' : Sg} {T : TM} {h : Heap} {w : World} {call : FuncId → FF} {N : Nat}

theorem TRel.mono {tmps : Array Value} (ht : TRel ρ σ T tmps) (hl : Le σ σ') : TRel ρ σ' T tmps := fun i v hv => let ⟨u, hu, hr⟩ := ht i v hv; ⟨u, hu, hr.mono hl⟩

theorem mkEv_tmp (t : Nat) : (mkEv (.tmp t)).f T = tget T t := by
  show (bb (Nat.blt t 256) (⟨(l256 (Option AV) t).g⟩ : EF) ⟨fun _ => none⟩).f T = bb (Nat.blt t 256) ((l256 (Option AV) t).g T) none
  cases Nat.blt t 256 <;> rfl

theorem TRel.ev {a : Act} (ht : TRel ρ σ T a.tmps) (x : Operand) : EvOk ρ σ T a.eval x := by
  intro v hv
  cases x with
  | tmp t =>
    rw [mkEv_tmp] at hv
    obtain ⟨u, hu, hr⟩ := ht t v hv
    simpa [Act.eval, hu] using hr
  | const c =>
    unfold mkEv at hv
    dsimp only at hv
    split at hv
    · rename_i a' ha
      cases hv
      exact of_VR ha
    · cases hv
  | global g => cases hv
  | func f => cases hv; exact ⟨#[], #[], rfl, LR.nil, LR.nil⟩

theorem tset_put {d : Nat} {v : AV} (_h : d < 256) : (l256 (Option AV) d).s (some v) T = tset T d v := rfl

theorem mkPut_put {dst : Option Tmp} {wf : WF} {a : Act} {v : AV} {u : Value} (hw : mkPut N dst = some wf) (hN : a.tmps.size = N) (ht : TRel ρ σ T a.tmps) (hv : VR ρ σ v u) :
    TRel ρ σ (wf.f T v) (a.put dst u).tmps ∧ (a.put dst u).tmps.size = N := by
  unfold mkPut at hw
  split at hw
  · rename_i d
    obtain ⟨hc, hw⟩ := bb_true hw
    obtain ⟨c1, c2⟩ := and_true' hc
    have c1 := blt_lt c1
    have c2 := blt_lt c2
    cases hw
    refine ⟨fun i x hx => ?_, by simp [Act.put, hN]⟩
    have hx : tget (tset T d v) i = some x := hx
    by_cases e : i = d
    · subst e
      rw [tget_tset_same c2] at hx
      cases hx
      have hi : i < a.tmps.size := by omega
      exact ⟨u, by simp [Act.put, hi], hv⟩
    · rw [tget_tset_ne c2 e] at hx
      obtain ⟨z, hz, hr⟩ := ht i x hx
      exact ⟨z, by simp [Act.put, Array.getElem?_setIfInBounds_ne (Ne.symm e), hz], hr⟩
  · cases hw
    exact ⟨ht, hN⟩

theorem put_defers (a : Act) (dst : Option Tmp) (u : Value) : (a.put dst u).defers = a.defers := by cases dst <;> rfl

theorem undef_VR : VR ρ σ (.tup []) undef := ⟨#[], rfl, LR.nil⟩

/-- an operation's guard -/
theorem mkGuard_wanted {ops : Array Oper} {o : Oper} {g : GF} {b : Bool} {tmps : Array Value} (hg : mkGuard ops.toList o.guard = some g) (hb : g.f T = some b)
    (ht : ∀ (d : Nat), d ∈ o.looksAt ops → ∀ v, tget T d = some v → ∃ u, tmps[d]? = some u ∧ VR ρ σ v u) :
    Region.wanted o (yielded ops tmps) = b := by
  unfold mkGuard at hg
  split at hg
  · cases hg
  · rename_i j want hgd
    cases hg
    unfold Region.wanted
    rw [hgd]
    dsimp only
    rw [nthL_eq] at hb
    split at hb
    · rename_i oj hoj
      have hoj : ops[j]? = some oj := by simpa using hoj
      split at hb
      · rename_i d hd
        obtain ⟨v, hv, hb⟩ := ob_some hb
        obtain ⟨q, hq, hb⟩ := ob_some hb
        rw [mkEv_tmp] at hv
        obtain ⟨u, hu, hr⟩ := ht d (by simp [Oper.looksAt, hgd, hoj, hd]) v hv
        have hy : yielded ops tmps j = match u with | .bool b => some b | _ => none := by
          unfold yielded
          simp only [hoj, hd, Option.bind_some, hu]
          cases u <;> rfl
        rw [hy]
        cases v with
        | bool c =>
          cases hq
          have hr : u = .bool c := hr
          subst hr
          have hb : some (c == want) = some b := hb
          cases hb
          cases c <;> cases want <;> rfl
        | tup l =>
          cases l with
          | nil =>
            cases hq
            obtain ⟨cs, rfl, _⟩ := hr
            have hb : some false = some b := hb
            cases hb
            rfl
          | cons x l => cases hq
        | _ => cases hq
      · cases hb
    · cases hb

theorem mkGuard_none {ops : Array Oper} {o : Oper} (hg : mkGuard ops.toList o.guard = none) {tmps : Array Value} : Region.wanted o (yielded ops tmps) = true := by
  unfold mkGuard at hg
  split at hg
  · rename_i hgd
    unfold Region.wanted
    rw [hgd]
  · cases hg

/-! ### behind code -/
/-- how the executor's ends are the model's -/
def XR : X → Exit → Prop
  | .normal, e => e = .normal
  | .exit i, e => e = .exit i
  | .goto l, e => e = .goto l
  | .ret, e => e = .ret

/-- marks of ranges over functions among the deferred calls: their blocks were made since, and hold no call -/
def Marks (w w' : World) (ds ds' : List Deferred) : Prop := ∃ Ds : List Nat, ds' = Ds.map (fun D => ({ target := .collected D, args := #[] } : Deferred)) ++ ds ∧ Ds.Nodup ∧
  ∀ D ∈ Ds, w.heap.size ≤ D ∧ w'.heap[D]? = some (.deferred (some []))
theorem Marks.refl (w w' : World) (ds : List Deferred) : Marks w w' ds ds := ⟨[], rfl, List.nodup_nil, fun D h => by cases h⟩
theorem Marks.base {w w1 w' : World} {ds ds' : List Deferred} (hs : w.heap.size ≤ w1.heap.size) (h : Marks w1 w' ds ds') : Marks w w' ds ds' :=
  let ⟨Ds, h1, h2, h3⟩ := h
  ⟨Ds, h1, h2, fun D hD => ⟨Nat.le_trans hs (h3 D hD).1, (h3 D hD).2⟩⟩
/-- a block that is no key's stays -/
theorem deferred_keep {σ1 σ' : Sg} {m1 m' : Mem} {w1 w' : World} (hm : HRel ρ B σ1 m1 w1) (hf : FR σ1 m1 w1 σ' m' w') {D : Nat} {o : Option (List Deferred)} (h : w1.heap[D]? = some (.deferred o)) : w'.heap[D]? = some (.deferred o) := by
  have hlt : D < w1.heap.size := by
    rcases Nat.lt_or_ge D w1.heap.size with h' | h'
    · exact h'
    · rw [Array.getElem?_eq_none h'] at h; cases h
  rw [hf.keep D hlt fun hft => ?_]
  · exact h
  · obtain ⟨k, x, d, t, hk, hs⟩ := hft
    obtain ⟨b, d', t', hs', _, hbr⟩ := hm.has k x hk
    rw [hs] at hs'; cases hs'
    cases x with
    | it s pos => rw [hbr.1] at h; cases h
    | sm n l => obtain ⟨_, _, c, e, hc, _⟩ := hbr; rw [hc] at h; cases h
    | bg n l => obtain ⟨_, c, e, hc, _⟩ := hbr; rw [hc] at h; cases h
theorem Marks.trans {σ1 σ' : Sg} {m1 m' : Mem} {w w1 w' : World} {ds d1 d2 : List Deferred} (hm : HRel ρ B σ1 m1 w1) (hf : FR σ1 m1 w1 σ' m' w') (hs : w.heap.size ≤ w1.heap.size) (h1 : Marks w w1 ds d1) (h2 : Marks w1 w' d1 d2) : Marks w w' ds d2 := by
  obtain ⟨A, a1, a2, a3⟩ := h1
  obtain ⟨C, c1, c2, c3⟩ := h2
  refine ⟨C ++ A, by rw [c1, a1]; simp, ?_, fun D hD => ?_⟩
  · rw [List.nodup_append]
    refine ⟨c2, a2, fun x hx y hy e => ?_⟩
    subst e
    have h3 := (c3 x hx).1
    have h4 := (a3 x hy).2
    rw [Array.getElem?_eq_none h3] at h4; cases h4
  · rcases List.mem_append.1 hD with h | h
    · exact ⟨Nat.le_trans hs (c3 D h).1, (c3 D h).2⟩
    · exact ⟨(a3 D h).1, deferred_keep hm hf (a3 D h).2⟩

structure CPost (ρ : Nat → Value) (B N : Nat) (σ : Sg) (h : Heap) (w : World) (ds : List Deferred) (r : R) (e : Exit) (a' : Act) (w' : World) (σ' : Sg) : Prop where
  x : XR r.x e
  ext : Ext σ σ' h.next r.h.next
  tmps : TRel ρ σ' r.T a'.tmps
  size : a'.tmps.size = N
  marks : Marks w w' ds a'.defers
  mem : HRel ρ B σ' r.h.blk w'
  frame : FR σ h.blk w σ' r.h.blk w'

theorem CPost.step {ds : List Deferred} {u : Value} {v : VH} {σ1 : Sg} {w1 : World} {r : R} {e : Exit} {a' : Act} {w' : World} {σ' : Sg}
    (hp : Post ρ B σ h w v u σ1 w1) (hn : h.next ≤ v.h.next) (hn' : v.h.next ≤ r.h.next) (hc : CPost ρ B N σ1 v.h w1 ds r e a' w' σ') : CPost ρ B N σ h w ds r e a' w' σ' :=
  ⟨hc.x, hp.ext.trans hc.ext hn hn', hc.tmps, hc.size, hc.marks.base hp.frame.size, hc.mem, hp.frame.trans hc.frame⟩

theorem OpRes.wp {o : Oper} {a : Act} {r : VH} {K : Act → World → Prop} {Q : Exit → Act → World → Prop} (hr : OpRes P ρ B a.eval o σ h w r)
    (hK : ∀ u w' σ', Post ρ B σ h w r u σ' w' → K (a.put o.dst u) w') : o.wp P a w K Q := by
  unfold Oper.wp
  rcases hr with ⟨u, w', σ', hp, hrun | ⟨hrun, rfl⟩⟩ | ⟨f, us, hrun, hc⟩
  · rw [hrun]; exact hK u w' σ' hp
  · rw [hrun]; exact hK _ w' σ' hp
  · rw [hrun]
    show Calls P f us w _
    refine hc.mono fun e w' he => ?_
    obtain ⟨u, σ', rfl, hp⟩ := he
    exact hK u w' σ' hp

/-- keys only grow -/
def Mr (h : Heap) (x : Option R) : Prop := ∀ r, x = some r → Hs h r.h

theorem mn_ops (hmn : ∀ f as h, Mn h ((call f).f as h)) (all : List Oper) : ∀ (l : List Oper) (T : TM) (h : Heap), Mr h ((mkOps P S call N all l).f T h)
  | [], T, h, r, e => by cases e; exact .refl _
  | o :: l, T, h, r, e => by
    have e : (match mkPut N o.dst with
      | none => (⟨fun _ _ => none⟩ : CF)
      | some w => match mkGuard all o.guard with
        | none => ⟨fun T h => ob ((mkOp P S call o.type o.op).f T h) fun r => (mkOps P S call N all l).f (w.f T r.v) r.h⟩
        | some g => ⟨fun T h => ob (g.f T) fun b => bb b (ob ((mkOp P S call o.type o.op).f T h) fun r => (mkOps P S call N all l).f (w.f T r.v) r.h) ((mkOps P S call N all l).f (w.f T (.tup [])) h)⟩).f T h = some r := e
    split at e
    · cases e
    · rename_i wf hwf
      split at e
      · obtain ⟨q, hq, e⟩ := ob_some e
        exact (mn_op hmn q hq).trans (mn_ops hmn all l _ _ r e)
      · obtain ⟨b, hb, e⟩ := ob_some e
        cases b with
        | true =>
          obtain ⟨q, hq, e⟩ := ob_some (show ob ((mkOp P S call o.type o.op).f T h) (fun r => (mkOps P S call N all l).f (wf.f T r.v) r.h) = some r from e)
          exact (mn_op hmn q hq).trans (mn_ops hmn all l _ _ r e)
        | false => exact mn_ops hmn all l _ _ r e

/-- operations in the text's order -/
theorem ops_wp (hS : SymsOk P S ρ) (hcall : CallOk P ρ B call) (hmn : ∀ f as h, Mn h ((call f).f as h)) {ops : Array Oper} {Q : Exit → Act → World → Prop} :
    ∀ (l : List Oper) (k : Nat) (T : TM) (h : Heap) (w : World) (σ : Sg) (a : Act) (r : R), ops.toList.drop k = l → (mkOps P S call N ops.toList l).f T h = some r →
      TRel ρ σ T a.tmps → a.tmps.size = N → HRel ρ B σ h.blk w → HW h → Fresh σ h.next r.h.next → B ≤ w.heap.size →
      (∀ a' w' σ', CPost ρ B N σ h w a.defers r .normal a' w' σ' → Q .normal a' w') → wpOps P ops Q (List.range' k l.length) a w
  | [], k, T, h, w, σ, a, r, hl, e, ht, hN, hm, hw, hf, hB, hQ => by
    cases e
    exact hQ a w σ ⟨rfl, Ext.refl _ _ _, ht, hN, Marks.refl _ _ _, hm, FR.refl _ _ _⟩
  | o :: l, k, T, h, w, σ, a, r, hl, e, ht, hN, hm, hw, hf, hB, hQ => by
    have hk : ops[k]? = some o := by
      have : (ops.toList.drop k)[0]? = some o := by rw [hl]; rfl
      simpa [List.getElem?_drop] using this
    have hl' : ops.toList.drop (k + 1) = l := by
      have : (ops.toList.drop k).drop 1 = l := by rw [hl]; rfl
      simpa [List.drop_drop, Nat.add_comm] using this
    rw [show List.range' k (o :: l).length = k :: List.range' (k + 1) l.length from rfl, wpOps_cons]
    unfold wpOp
    rw [hk]
    dsimp only
    have e : (match mkPut N o.dst with
      | none => (⟨fun _ _ => none⟩ : CF)
      | some w => match mkGuard ops.toList o.guard with
        | none => ⟨fun T h => ob ((mkOp P S call o.type o.op).f T h) fun r => (mkOps P S call N ops.toList l).f (w.f T r.v) r.h⟩
        | some g => ⟨fun T h => ob (g.f T) fun b => bb b (ob ((mkOp P S call o.type o.op).f T h) fun r => (mkOps P S call N ops.toList l).f (w.f T r.v) r.h) ((mkOps P S call N ops.toList l).f (w.f T (.tup [])) h)⟩).f T h = some r := e
    -- it is wanted
    have go : ∀ {wf : WF}, mkPut N o.dst = some wf → (ob ((mkOp P S call o.type o.op).f T h) fun r => (mkOps P S call N ops.toList l).f (wf.f T r.v) r.h) = some r → o.wp P a w (wpOps P ops Q (List.range' (k + 1) l.length)) Q := fun {wf} hwf e => by
      obtain ⟨q, hq, e⟩ := ob_some e
      have hn1 := (mn_op hmn q hq).le
      have hn2 := (mn_ops hmn ops.toList l _ _ r e).le
      refine OpRes.wp (op_sound hS hcall hq (fun x _ => ht.ev x) hm hw (hf.left hn2) hB) fun u w' σ' hp => ?_
      obtain ⟨t1, t2⟩ := mkPut_put hwf hN (ht.mono hp.ext.le) hp.val
      refine ops_wp hS hcall hmn l (k + 1) _ _ w' σ' (a.put o.dst u) r hl' e t1 t2 hp.mem ((mn_op hmn q hq).hw hw) (hf.right hp.ext hn1) (Nat.le_trans hB hp.frame.size) fun a' w'' σ'' hc => ?_
      refine hQ a' w'' σ'' ?_
      rw [put_defers] at hc
      exact hc.step hp hn1 hn2
    split at e
    · cases e
    · rename_i wf hwf
      split at e
      · rename_i hg
        rw [mkGuard_none hg]
        exact .inl (go hwf e)
      · rename_i g hg
        obtain ⟨b, hb, e⟩ := ob_some e
        rw [mkGuard_wanted hg hb fun d _ => ht d]
        cases b with
        | true => exact .inl (go hwf e)
        | false =>
          obtain ⟨t1, t2⟩ := mkPut_put hwf hN ht (undef_VR (ρ := ρ) (σ := σ))
          refine ops_wp hS hcall hmn l (k + 1) _ _ w σ (a.put o.dst undef) r hl' e t1 t2 hm hw hf hB fun a' w'' σ'' hc => ?_
          refine hQ a' w'' σ'' ?_
          rw [put_defers] at hc
          exact hc
end

end Go.Proofs.YtogifafehihjgaaGreat.Ab
