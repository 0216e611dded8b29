/-
  The executor's operations in a round of a range over a function.
-/
import Derived.Test.YtogifafehihjgaaGreatFc
import Derived.TacticsIn
import Derived.OrdersIn
import Derived.RangeFuncCalls
namespace Go.Proofs.YtogifafehihjgaaGreat.Ab
open Go

section
variable {P : Program} {S : Syms} {ρ : Nat → Value} {B : Nat} {σ : Sg} {T : TM} {h : Heap} {w : World} {call : FuncId → FF} {N : Nat}

theorem OpRes.wpIn {l n : Nat} {o : Oper} {a : Act} {r : VH} {K : Act → World → Prop} {Q : Exit → Act → World → Prop} (hnd : ∀ c, o.op ≠ .defer c) (hr : OpRes P ρ B a.eval o σ h w r)
    (hK : ∀ u w' σ', Post ρ B σ h w r u σ' w' → K (a.put o.dst u) w') : o.wpIn (Fence.wide.inRound l) n P a w K Q := by
  have hsem := Oper.semAt_eq (Fence.wide.inRound l).round a.eval o hnd
  refine ⟨fun _ _ => trivial, ?_⟩
  rw [hsem]
  rcases hr with ⟨u, w', σ', hp, hrun | ⟨hrun, rfl⟩⟩ | ⟨f, us, hrun, hc⟩
  · rw [hrun]; exact hK u w' σ' hp
  · rw [hrun]; exact hK _ w' σ' hp
  · rw [hrun, Oper.uponIn_enter]
    refine ⟨fun h => (by cases h), CallsIn.inRound l (callsIn_wide.2 (hc.mono fun e w' he => ?_))⟩
    obtain ⟨u, σ', rfl, hp⟩ := he
    exact hK u w' σ' hp

theorem mkOp_noDefer {ty : TypeId} {op : Op} {r : VH} (hr : (mkOp P S call ty op).f T h = some r) : ∀ c, op ≠ .defer c := fun c e => by subst e; cases hr

/-- operations in the text's order, in a round -/
theorem ops_wpIn (hS : SymsOk P S ρ) (hcall : CallOk P ρ B call) (hmn : ∀ f as h, Mn h ((call f).f as h)) {lp n : Nat} {ops : Array Oper} {Q : Exit → Act → World → Prop} :
    ∀ (l : List Oper) (k : Nat) (T : TM) (h : Heap) (w : World) (σ : Sg) (a : Act) (r : R), ops.toList.drop k = l → (mkOps P S call N ops.toList l).f T h = some r →
      TRel ρ σ T a.tmps → a.tmps.size = N → HRel ρ B σ h.blk w → HW h → Fresh σ h.next r.h.next → B ≤ w.heap.size →
      (∀ a' w' σ', CPost ρ B N σ h w a.defers r .normal a' w' σ' → Q .normal a' w') → wpOpsIn (Fence.wide.inRound lp) n P ops Q (List.range' k l.length) a w
  | [], k, T, h, w, σ, a, r, hl, e, ht, hN, hm, hw, hf, hB, hQ => by
    cases e
    exact hQ a w σ ⟨rfl, Ext.refl _ _ _, ht, hN, Marks.refl _ _ _, hm, FR.refl _ _ _⟩
  | o :: l, k, T, h, w, σ, a, r, hl, e, ht, hN, hm, hw, hf, hB, hQ => by
    have hk : ops[k]? = some o := by
      have : (ops.toList.drop k)[0]? = some o := by rw [hl]; rfl
      simpa [List.getElem?_drop] using this
    have hl' : ops.toList.drop (k + 1) = l := by
      have : (ops.toList.drop k).drop 1 = l := by rw [hl]; rfl
      simpa [List.drop_drop, Nat.add_comm] using this
    rw [show List.range' k (o :: l).length = k :: List.range' (k + 1) l.length from rfl, wpOpsIn_cons]
    unfold wpOpIn
    rw [hk]
    dsimp only
    have e : (match mkPut N o.dst with
      | none => (⟨fun _ _ => none⟩ : CF)
      | some w => match mkGuard ops.toList o.guard with
        | none => ⟨fun T h => ob ((mkOp P S call o.type o.op).f T h) fun r => (mkOps P S call N ops.toList l).f (w.f T r.v) r.h⟩
        | some g => ⟨fun T h => ob (g.f T) fun b => bb b (ob ((mkOp P S call o.type o.op).f T h) fun r => (mkOps P S call N ops.toList l).f (w.f T r.v) r.h) ((mkOps P S call N ops.toList l).f (w.f T (.tup [])) h)⟩).f T h = some r := e
    have go : ∀ {wf : WF}, mkPut N o.dst = some wf → (ob ((mkOp P S call o.type o.op).f T h) fun r => (mkOps P S call N ops.toList l).f (wf.f T r.v) r.h) = some r → o.wpIn (Fence.wide.inRound lp) n P a w (wpOpsIn (Fence.wide.inRound lp) n P ops Q (List.range' (k + 1) l.length)) Q := fun {wf} hwf e => by
      obtain ⟨q, hq, e⟩ := ob_some e
      have hn1 := (mn_op hmn q hq).le
      have hn2 := (mn_ops hmn ops.toList l _ _ r e).le
      refine OpRes.wpIn (mkOp_noDefer hq) (op_sound hS hcall hq (fun x _ => ht.ev x) hm hw (hf.left hn2) hB) fun u w' σ' hp => ?_
      obtain ⟨t1, t2⟩ := mkPut_put hwf hN (ht.mono hp.ext.le) hp.val
      refine ops_wpIn hS hcall hmn l (k + 1) _ _ w' σ' (a.put o.dst u) r hl' e t1 t2 hp.mem ((mn_op hmn q hq).hw hw) (hf.right hp.ext hn1) (Nat.le_trans hB hp.frame.size) fun a' w'' σ'' hc => ?_
      refine hQ a' w'' σ'' ?_
      rw [put_defers] at hc
      exact hc.step hp hn1 hn2
    split at e
    · cases e
    · rename_i wf hwf
      split at e
      · rename_i hg
        rw [mkGuard_none hg]
        exact go hwf e
      · rename_i g hg
        obtain ⟨b, hb, e⟩ := ob_some e
        rw [mkGuard_wanted hg hb fun d _ => ht d]
        cases b with
        | true => exact go hwf e
        | false =>
          obtain ⟨t1, t2⟩ := mkPut_put hwf hN ht (undef_VR (ρ := ρ) (σ := σ))
          refine ⟨fun _ _ => trivial, ?_⟩
          refine ops_wpIn hS hcall hmn l (k + 1) _ _ w σ (a.put o.dst undef) r hl' e t1 t2 hm hw hf hB fun a' w'' σ'' hc => ?_
          refine hQ a' w'' σ'' ?_
          rw [put_defers] at hc
          exact hc

theorem seqF_ok {lp n : Nat} {f g : CF} {x y : Code} (hmf : ∀ T h, Mr h (f.f T h)) (hmg : ∀ T h, Mr h (g.f T h)) (okf : CodeOk P ρ B N f.f fun Q => x.wpIn (Fence.wide.inRound lp) n P Q) (okg : CodeOk P ρ B N g.f fun Q => y.wpIn (Fence.wide.inRound lp) n P Q) :
    CodeOk P ρ B N (seqF f g).f fun Q => (Code.seq x y).wpIn (Fence.wide.inRound lp) n P Q := fun T h r σ a w Q e ht hN hm hw hf hB hQ => by
  obtain ⟨r1, hr1, e⟩ := ob_some (show ob (f.f T h) (fun r => @X.casesOn (fun _ => Option R) r.x (g.f r.T r.h) (fun _ => some r) (fun _ => some r) (some r)) = some r from e)
  have hs := hmf T h r1 hr1
  refine wpIn_seq ?_
  obtain ⟨q, T1, h1⟩ := r1
  cases q with
  | normal =>
    have e : g.f T1 h1 = some r := e
    have hs2 := hmg T1 h1 r e
    refine chain okf hr1 hs hs2.le ht hN hm hw hf hB fun e1 a1 w1 σ1 hc hf1 hw1 hB1 hup => ?_
    have hx : e1 = .normal := hc.x
    subst hx
    exact okg T1 h1 r σ1 a1 w1 Q e hc.tmps hc.size hc.mem hw1 hf1 hB1 fun e' a' w' σ' h2 => hQ e' a' w' σ' (hup _ _ _ _ h2)
  | exit i =>
    cases e
    refine okf T h _ σ a w _ hr1 ht hN hm hw hf hB fun e1 a1 w1 σ1 hc => ?_
    have hx : e1 = .exit i := hc.x
    subst hx
    exact hQ _ _ _ _ hc
  | goto l =>
    cases e
    refine okf T h _ σ a w _ hr1 ht hN hm hw hf hB fun e1 a1 w1 σ1 hc => ?_
    have hx : e1 = .goto l := hc.x
    subst hx
    exact hQ _ _ _ _ hc
  | ret =>
    cases e
    refine okf T h _ σ a w _ hr1 ht hN hm hw hf hB fun e1 a1 w1 σ1 hc => ?_
    have hx : e1 = .ret := hc.x
    subst hx
    exact hQ _ _ _ _ hc

theorem b_ok (hS : SymsOk P S ρ) (hcall : CallOk P ρ B call) (hmn : ∀ f as h, Mn h ((call f).f as h)) {lp n : Nat} : ∀ c : Code, CodeOk P ρ B N (mkB P S call N c).f fun Q => c.wpIn (Fence.wide.inRound lp) n P Q
  | .skip => fun T h r σ a w Q e ht hN hm hw hf hB hQ => by
    cases e
    exact wpIn_skip (hQ .normal a w σ ⟨rfl, Ext.refl _ _ _, ht, hN, Marks.refl _ _ _, hm, FR.refl _ _ _⟩)
  | .label _ => fun T h r σ a w Q e ht hN hm hw hf hB hQ => by
    cases e
    exact wpIn_label (hQ .normal a w σ ⟨rfl, Ext.refl _ _ _, ht, hN, Marks.refl _ _ _, hm, FR.refl _ _ _⟩)
  | .exit id => fun T h r σ a w Q e ht hN hm hw hf hB hQ => by
    cases e
    exact wpIn_exit (hQ (.exit id) a w σ ⟨rfl, Ext.refl _ _ _, ht, hN, Marks.refl _ _ _, hm, FR.refl _ _ _⟩)
  | .goto l => fun T h r σ a w Q e => by cases e
  | .ret => fun T h r σ a w Q e => by cases e
  | .refuse _ => fun T h r σ a w Q e => by cases e
  | .rangeFunc .. => fun T h r σ a w Q e => by cases e
  | .loop _ => fun T h r σ a w Q e => by cases e
  | .scope _ => fun T h r σ a w Q e => by cases e
  | .region id ops draw => fun T h r σ a w Q e ht hN hm hw hf hB hQ => by
    have e : (bb draw (⟨fun _ _ => none⟩ : CF) (mkOps P S call N ops.toList ops.toList)).f T h = some r := e
    cases draw with
    | true => cases e
    | false =>
      refine wpIn_region ?_
      have := ops_wpIn hS hcall hmn (lp := lp) (n := n) (Q := Q) ops.toList 0 T h w σ a r (by simp) e ht hN hm hw hf hB fun a' w' σ' hc => hQ _ a' w' σ' hc
      rwa [Array.length_toList, ← List.range_eq_range'] at this
  | .seq x y => seqF_ok (fun T h => mr_b hmn x T h) (fun T h => mr_b hmn y T h) (b_ok hS hcall hmn x) (b_ok hS hcall hmn y)
  | .cond c x y => fun T h r σ a w Q e ht hN hm hw hf hB hQ => by
    obtain ⟨v, hv, e⟩ := ob_some (show ob ((mkEv c).f T) (fun v => ob (asBool v) fun t => bb t ((mkB P S call N x).f T h) ((mkB P S call N y).f T h)) = some r from e)
    obtain ⟨t, ht', e⟩ := ob_some e
    have hc : a.eval c = .bool t := by have := ht.ev c v hv; rw [asBool_eq ht'] at this; exact this
    cases t with
    | true => exact wpIn_cond_true hc (b_ok hS hcall hmn x T h r σ a w Q e ht hN hm hw hf hB hQ)
    | false => exact wpIn_cond_false hc (b_ok hS hcall hmn y T h r σ a w Q e ht hN hm hw hf hB hQ)
  | .block id x => fun T h r σ a w Q e ht hN hm hw hf hB hQ => by
    obtain ⟨r1, hr1, e⟩ := ob_some (show ob ((mkB P S call N x).f T h) (fun r => @X.casesOn (fun _ => Option R) r.x (some r) (fun i => bb (Nat.beq i id) (some ⟨.normal, r.T, r.h⟩) (some r)) (fun _ => some r) (some r)) = some r from e)
    have ok := b_ok hS hcall hmn (lp := lp) (n := n) x
    refine wpIn_block ?_
    obtain ⟨q, T1, h1⟩ := r1
    cases q with
    | normal =>
      cases e
      refine ok T h _ σ a w _ hr1 ht hN hm hw hf hB fun e1 a1 w1 σ1 hc => ?_
      have hx : e1 = .normal := hc.x
      subst hx
      exact hQ _ _ _ _ hc
    | exit i =>
      have e : bb (Nat.beq i id) (some (⟨.normal, T1, h1⟩ : R)) (some ⟨.exit i, T1, h1⟩) = some r := e
      have hr : r.h = h1 ∧ r.T = T1 := by
        cases hb : Nat.beq i id with
        | true => rw [hb] at e; cases e; exact ⟨rfl, rfl⟩
        | false => rw [hb] at e; cases e; exact ⟨rfl, rfl⟩
      refine ok T h _ σ a w _ hr1 ht hN hm hw (by rw [hr.1] at hf; exact hf) hB fun e1 a1 w1 σ1 hc => ?_
      have hx : e1 = .exit i := hc.x
      subst hx
      show (if i = id then Q .normal a1 w1 else Q (.exit i) a1 w1)
      cases hb : Nat.beq i id with
      | true =>
        rw [hb] at e; cases e
        rw [if_pos (beq_eq hb)]
        exact hQ .normal a1 w1 σ1 ⟨rfl, hc.ext, hc.tmps, hc.size, hc.marks, hc.mem, hc.frame⟩
      | false =>
        rw [hb] at e; cases e
        rw [if_neg (fun he => by rw [he, Nat.beq_refl] at hb; cases hb)]
        exact hQ _ _ _ _ hc
    | goto l =>
      cases e
      refine ok T h _ σ a w _ hr1 ht hN hm hw hf hB fun e1 a1 w1 σ1 hc => ?_
      have hx : e1 = .goto l := hc.x
      subst hx
      exact hQ _ _ _ _ hc
    | ret =>
      cases e
      refine ok T h _ σ a w _ hr1 ht hN hm hw hf hB fun e1 a1 w1 σ1 hc => ?_
      have hx : e1 = .ret := hc.x
      subst hx
      exact hQ _ _ _ _ hc
end

end Go.Proofs.YtogifafehihjgaaGreat.Ab
