/-
  The executor's code against the model's.
-/
import Derived.Test.YtogifafehihjgaaGreatFa
namespace Go.Proofs.YtogifafehihjgaaGreat.Ab
open Go

section
variable {P : Program} {S : Syms} {ρ : Nat → Value} {B : Nat} {call : FuncId → FF} {jump : Code → CF} {N : Nat}

/-- what a piece of code of the executor says of the model's -/
def CodeOk (_P : Program) (ρ : Nat → Value) (B N : Nat) (f : TM → Heap → Option R) (W : (Exit → Act → World → Prop) → Act → World → Prop) : Prop :=
  ∀ (T : TM) (h : Heap) (r : R) (σ : Sg) (a : Act) (w : World) (Q : Exit → Act → World → Prop), f T h = some r → TRel ρ σ T a.tmps → a.tmps.size = N → HRel ρ B σ h.blk w → HW h → Fresh σ h.next r.h.next → B ≤ w.heap.size →
    (∀ e a' w' σ', CPost ρ B N σ h w a.defers r e a' w' σ' → Q e a' w') → W Q a w

theorem CPost.trans {σ σ1 σ' : Sg} {h : Heap} {w w1 w' : World} {ds : List Deferred} {r1 r : R} {e1 e : Exit} {a1 a' : Act} (h1 : CPost ρ B N σ h w ds r1 e1 a1 w1 σ1) (hn : h.next ≤ r1.h.next) (hn' : r1.h.next ≤ r.h.next)
    (h2 : CPost ρ B N σ1 r1.h w1 a1.defers r e a' w' σ') : CPost ρ B N σ h w ds r e a' w' σ' :=
  ⟨h2.x, h1.ext.trans h2.ext hn hn', h2.tmps, h2.size, Marks.trans h1.mem h2.frame h1.frame.size h1.marks h2.marks, h2.mem, h1.frame.trans h2.frame⟩

/-- one piece behind the other -/
theorem chain {f : TM → Heap → Option R} {W : (Exit → Act → World → Prop) → Act → World → Prop} (hok : CodeOk P ρ B N f W) {T : TM} {h : Heap} {r1 : R} {σ : Sg} {a : Act} {w : World} {Q : Exit → Act → World → Prop}
    (e : f T h = some r1) (hs : Hs h r1.h) {r : R} (hn' : r1.h.next ≤ r.h.next) (ht : TRel ρ σ T a.tmps) (hN : a.tmps.size = N) (hm : HRel ρ B σ h.blk w) (hw : HW h) (hf : Fresh σ h.next r.h.next) (hB : B ≤ w.heap.size)
    (hQ : ∀ e1 a1 w1 σ1, CPost ρ B N σ h w a.defers r1 e1 a1 w1 σ1 → Fresh σ1 r1.h.next r.h.next → HW r1.h → B ≤ w1.heap.size →
      (∀ e' a' w' σ', CPost ρ B N σ1 r1.h w1 a1.defers r e' a' w' σ' → CPost ρ B N σ h w a.defers r e' a' w' σ') → Q e1 a1 w1) : W Q a w :=
  hok T h r1 σ a w Q e ht hN hm hw (hf.left hn') hB fun e1 a1 w1 σ1 hc =>
    hQ e1 a1 w1 σ1 hc (hf.right hc.ext hs.le) (hs.hw hw) (Nat.le_trans hB hc.frame.size) fun _ _ _ _ h2 => hc.trans hs.le hn' h2

/-- the rounds of a loop, from its inside -/
def loopW (P : Program) (c : Code) (Q : Exit → Act → World → Prop) (a : Act) (w : World) : Prop :=
  ∀ (b : Frame) (k : List Item) (cs : List Frame), ∃ e a' w', Q e a' w' ∧ Arrives P (lone (b.at a (.code c :: .inLoop c :: k)) cs w) b k cs e a' w'

theorem loopW_step {c : Code} {Q : Exit → Act → World → Prop} {a : Act} {w : World} (h : c.wp P (Exit.then (loopW P c Q) Q) a w) : loopW P c Q a w := by
  intro b k cs
  obtain ⟨e, a₁, w₁, hq, harr⟩ := h b (.inLoop c :: k) cs
  cases e with
  | normal =>
    obtain ⟨e₂, a₂, w₂, hq₂, harr₂⟩ := hq b k cs
    exact ⟨e₂, a₂, w₂, hq₂, .of_steps (Steps.trans harr (.one step_inLoop)) harr₂⟩
  | exit id => exact ⟨_, a₁, w₁, hq, .pass (x := .inLoop c) rfl (fun _ _ => .inl (by simp)) harr⟩
  | goto l => exact ⟨_, a₁, w₁, hq, .pass (x := .inLoop c) rfl (fun _ _ => .inl (by simp)) harr⟩
  | ret => exact ⟨_, a₁, w₁, hq, .pass (x := .inLoop c) rfl (fun _ _ => .inl (by simp)) harr⟩
  | panic ch => exact ⟨_, a₁, w₁, hq, .pass (x := .inLoop c) rfl (fun _ _ => .inl (by simp)) harr⟩
  | outgrown => exact ⟨_, a₁, w₁, hq, .pass (x := .inLoop c) rfl (fun _ _ => .inl (by simp)) harr⟩

theorem wp_loop_of {c : Code} {Q : Exit → Act → World → Prop} {a : Act} {w : World} (h : loopW P c Q a w) : (Code.loop c).wp P Q a w := fun b k cs =>
  let ⟨e, a', w', hq, harr⟩ := h b k cs
  ⟨e, a', w', hq, .of_steps (.one step_loop) harr⟩

/-- inside a scope: 'x' is run there -/
def scopeW (P : Program) (body x : Code) (Q : Exit → Act → World → Prop) (a : Act) (w : World) : Prop :=
  ∀ (b : Frame) (k : List Item) (cs : List Frame), ∃ e a' w', Q e a' w' ∧ Arrives P (lone (b.at a (.code x :: .inScope body :: k)) cs w) b k cs e a' w'

/-- behind a piece in a scope -/
def inScope (P : Program) (body : Code) (Q : Exit → Act → World → Prop) : Exit → Act → World → Prop
  | .goto l, a, w => match findLabel body l with
    | some rest => scopeW P body rest Q a w
    | none => Q (.goto l) a w
  | e, a, w => Q e a w

theorem scopeW_step {body x : Code} {Q : Exit → Act → World → Prop} {a : Act} {w : World} (h : x.wp P (inScope P body Q) a w) : scopeW P body x Q a w := by
  intro b k cs
  obtain ⟨e, a₁, w₁, hq, harr⟩ := h b (.inScope body :: k) cs
  cases e with
  | normal => exact ⟨.normal, a₁, w₁, hq, Steps.trans harr (.one step_inScope)⟩
  | exit id => exact ⟨.exit id, a₁, w₁, hq, fun k' hk => harr k' (by simp [exitTo, hk])⟩
  | goto l =>
    unfold inScope at hq
    dsimp only at hq
    split at hq
    · rename_i rest hf
      obtain ⟨e₂, a₂, w₂, hq₂, harr₂⟩ := hq b k cs
      exact ⟨e₂, a₂, w₂, hq₂, .of_steps (harr _ (by simp [gotoIn, hf])) harr₂⟩
    · rename_i hf
      exact ⟨.goto l, a₁, w₁, hq, fun k' hk => harr k' (by simp [gotoIn, hf, hk])⟩
  | ret => exact ⟨_, a₁, w₁, hq, harr⟩
  | panic ch => exact ⟨_, a₁, w₁, hq, harr⟩
  | outgrown => exact ⟨_, a₁, w₁, hq, harr⟩

theorem wp_scope_of {body : Code} {Q : Exit → Act → World → Prop} {a : Act} {w : World} (h : scopeW P body body Q a w) : (Code.scope body).wp P Q a w := fun b k cs =>
  let ⟨e, a', w', hq, harr⟩ := h b k cs
  ⟨e, a', w', hq, .of_steps (.one step_scope) harr⟩

theorem iter_ok {f : TM → Heap → Option R} {c : Code} (hmr : ∀ T h, Mr h (f T h)) (hok : CodeOk P ρ B N f fun Q => c.wp P Q) : ∀ n : Nat, CodeOk P ρ B N (iter f n) fun Q => loopW P c Q
  | 0 => fun T h r σ a w Q e => by cases e
  | n + 1 => fun T h r σ a w Q e ht hN hm hw hf hB hQ => by
    obtain ⟨r1, hr1, e⟩ := ob_some (show ob (f T h) (fun r => @X.casesOn (fun _ => Option R) r.x (iter f n r.T r.h) (fun _ => some r) (fun _ => some r) (some r)) = some r from e)
    have hs := hmr T h r1 hr1
    refine loopW_step ?_
    obtain ⟨x, T1, h1⟩ := r1
    cases x with
    | normal =>
      have e : iter f n T1 h1 = some r := e
      have hs2 := mr_iter hmr n T1 h1 r e
      refine chain hok hr1 hs hs2.le ht hN hm hw hf hB fun e1 a1 w1 σ1 hc hf1 hw1 hB1 hup => ?_
      have hx : e1 = .normal := hc.x
      subst hx
      exact iter_ok hmr hok n T1 h1 r σ1 a1 w1 Q e hc.tmps hc.size hc.mem hw1 hf1 hB1 fun e' a' w' σ' h2 => hQ e' a' w' σ' (hup _ _ _ _ h2)
    | exit i =>
      cases e
      refine hok T h _ σ a w _ hr1 ht hN hm hw hf hB fun e1 a1 w1 σ1 hc => ?_
      have hx : e1 = .exit i := hc.x
      subst hx
      exact hQ _ _ _ _ hc
    | goto l =>
      cases e
      refine hok T h _ σ a w _ hr1 ht hN hm hw hf hB fun e1 a1 w1 σ1 hc => ?_
      have hx : e1 = .goto l := hc.x
      subst hx
      exact hQ _ _ _ _ hc
    | ret =>
      cases e
      refine hok T h _ σ a w _ hr1 ht hN hm hw hf hB fun e1 a1 w1 σ1 hc => ?_
      have hx : e1 = .ret := hc.x
      subst hx
      exact hQ _ _ _ _ hc

theorem jumps_ok {body : Code} (hmj : ∀ c T h, Mr h ((jump c).f T h)) (hj : ∀ c, CodeOk P ρ B N (jump c).f fun Q => c.wp P Q) : ∀ (n : Nat) {f : TM → Heap → Option R} {x : Code}, (∀ T h, Mr h (f T h)) → CodeOk P ρ B N f (fun Q => x.wp P Q) →
    CodeOk P ρ B N (fun T h => jumps body jump n (f T h)) fun Q => scopeW P body x Q
  | 0, f, x, _, _ => fun T h r σ a w Q e => by cases e
  | n + 1, f, x, hmr, hok => fun T h r σ a w Q e ht hN hm hw hf hB hQ => by
    obtain ⟨r1, hr1, e⟩ := ob_some (show ob (f T h) (fun r => @X.casesOn (fun _ => Option R) r.x (some r) (fun _ => some r)
      (fun l => match findLabel body l with
        | some rest => jumps body jump n ((jump rest).f r.T r.h)
        | none => some r) (some r)) = some r from e)
    have hs := hmr T h r1 hr1
    refine scopeW_step ?_
    obtain ⟨y, T1, h1⟩ := r1
    cases y with
    | normal =>
      cases e
      refine hok T h _ σ a w _ hr1 ht hN hm hw hf hB fun e1 a1 w1 σ1 hc => ?_
      have hx : e1 = .normal := hc.x
      subst hx
      exact hQ _ _ _ _ hc
    | exit i =>
      cases e
      refine hok T h _ σ a w _ hr1 ht hN hm hw hf hB fun e1 a1 w1 σ1 hc => ?_
      have hx : e1 = .exit i := hc.x
      subst hx
      exact hQ _ _ _ _ hc
    | ret =>
      cases e
      refine hok T h _ σ a w _ hr1 ht hN hm hw hf hB fun e1 a1 w1 σ1 hc => ?_
      have hx : e1 = .ret := hc.x
      subst hx
      exact hQ _ _ _ _ hc
    | goto l =>
      dsimp only at e
      split at e
      · rename_i rest hfl
        have hs2 := mr_jumps (body := body) hmj n _ (hmj rest T1 h1) r e
        refine chain hok hr1 hs hs2.le ht hN hm hw hf hB fun e1 a1 w1 σ1 hc hf1 hw1 hB1 hup => ?_
        have hx : e1 = .goto l := hc.x
        subst hx
        show inScope P body Q (.goto l) a1 w1
        unfold inScope
        dsimp only
        rw [hfl]
        exact jumps_ok hmj hj n (hmj rest) (hj rest) T1 h1 r σ1 a1 w1 Q e hc.tmps hc.size hc.mem hw1 hf1 hB1 fun e' a' w' σ' h2 => hQ e' a' w' σ' (hup _ _ _ _ h2)
      · rename_i hfl
        cases e
        refine hok T h _ σ a w _ hr1 ht hN hm hw hf hB fun e1 a1 w1 σ1 hc => ?_
        have hx : e1 = .goto l := hc.x
        subst hx
        show inScope P body Q (.goto l) a1 w1
        unfold inScope
        dsimp only
        rw [hfl]
        exact hQ _ _ _ _ hc

/-- a range over a function: shown elsewhere -/
def BackOk (P : Program) (S : Syms) (ρ : Nat → Value) (B N : Nat) (call : FuncId → FF) : Prop :=
  ∀ f ps x y, CodeOk P ρ B N (mkBack S N f ps.toList (seqF (mkB P S call N x) (mkB P S call N y))).f fun Q => (Code.rangeFunc f ps x y).wp P Q

theorem code_ok (hback : BackOk P S ρ B N call) (hS : SymsOk P S ρ) (hcall : CallOk P ρ B call) (hmn : ∀ f as h, Mn h ((call f).f as h)) (hfol : P.follows .mixedOrders = true) (hmj : ∀ c T h, Mr h ((jump c).f T h))
    (hj : ∀ c, CodeOk P ρ B N (jump c).f fun Q => c.wp P Q) : ∀ c : Code, CodeOk P ρ B N (mkC P S call jump N c).f fun Q => c.wp P Q
  | .skip => fun T h r σ a w Q e ht hN hm hw hf hB hQ => by
    cases e
    exact wp_skip (hQ .normal a w σ ⟨rfl, Ext.refl _ _ _, ht, hN, Marks.refl _ _ _, hm, FR.refl _ _ _⟩)
  | .label _ => fun T h r σ a w Q e ht hN hm hw hf hB hQ => by
    cases e
    exact wp_label (hQ .normal a w σ ⟨rfl, Ext.refl _ _ _, ht, hN, Marks.refl _ _ _, hm, FR.refl _ _ _⟩)
  | .exit id => fun T h r σ a w Q e ht hN hm hw hf hB hQ => by
    cases e
    exact wp_exit (hQ (.exit id) a w σ ⟨rfl, Ext.refl _ _ _, ht, hN, Marks.refl _ _ _, hm, FR.refl _ _ _⟩)
  | .goto l => fun T h r σ a w Q e ht hN hm hw hf hB hQ => by
    cases e
    exact wp_goto (hQ (.goto l) a w σ ⟨rfl, Ext.refl _ _ _, ht, hN, Marks.refl _ _ _, hm, FR.refl _ _ _⟩)
  | .ret => fun T h r σ a w Q e ht hN hm hw hf hB hQ => by
    cases e
    exact wp_ret (hQ .ret a w σ ⟨rfl, Ext.refl _ _ _, ht, hN, Marks.refl _ _ _, hm, FR.refl _ _ _⟩)
  | .refuse _ => fun T h r σ a w Q e => by cases e
  | .rangeFunc f ps x y => hback f ps x y
  | .region id ops draw => fun T h r σ a w Q e ht hN hm hw hf hB hQ => by
    have e : (bb draw (mkDraw P S call N ops) (mkOps P S call N ops.toList ops.toList)).f T h = some r := e
    cases draw with
    | true => exact draw_wp hS hcall hmn hfol e ht hN hm hw hf hB fun a' w' σ' hc => hQ _ a' w' σ' hc
    | false =>
      refine wp_region ?_
      have := ops_wp hS hcall hmn (Q := Q) ops.toList 0 T h w σ a r (by simp) e ht hN hm hw hf hB fun a' w' σ' hc => hQ _ a' w' σ' hc
      rwa [Array.length_toList, ← List.range_eq_range'] at this
  | .seq x y => fun T h r σ a w Q e ht hN hm hw hf hB hQ => by
    obtain ⟨r1, hr1, e⟩ := ob_some (show ob ((mkC P S call jump N x).f T h) (fun r => @X.casesOn (fun _ => Option R) r.x ((mkC P S call jump N y).f r.T r.h) (fun _ => some r) (fun _ => some r) (some r)) = some r from e)
    have hs := mr_code hmn hmj x T h r1 hr1
    have ok := code_ok hback hS hcall hmn hfol hmj hj x
    refine wp_seq ?_
    obtain ⟨q, T1, h1⟩ := r1
    cases q with
    | normal =>
      have e : (mkC P S call jump N y).f T1 h1 = some r := e
      have hs2 := mr_code hmn hmj y T1 h1 r e
      refine chain ok hr1 hs hs2.le ht hN hm hw hf hB fun e1 a1 w1 σ1 hc hf1 hw1 hB1 hup => ?_
      have hx : e1 = .normal := hc.x
      subst hx
      exact code_ok hback hS hcall hmn hfol hmj hj y T1 h1 r σ1 a1 w1 Q e hc.tmps hc.size hc.mem hw1 hf1 hB1 fun e' a' w' σ' h2 => hQ e' a' w' σ' (hup _ _ _ _ h2)
    | exit i =>
      cases e
      refine ok T h _ σ a w _ hr1 ht hN hm hw hf hB fun e1 a1 w1 σ1 hc => ?_
      have hx : e1 = .exit i := hc.x
      subst hx
      exact hQ _ _ _ _ hc
    | goto l =>
      cases e
      refine ok T h _ σ a w _ hr1 ht hN hm hw hf hB fun e1 a1 w1 σ1 hc => ?_
      have hx : e1 = .goto l := hc.x
      subst hx
      exact hQ _ _ _ _ hc
    | ret =>
      cases e
      refine ok T h _ σ a w _ hr1 ht hN hm hw hf hB fun e1 a1 w1 σ1 hc => ?_
      have hx : e1 = .ret := hc.x
      subst hx
      exact hQ _ _ _ _ hc
  | .cond c x y => fun T h r σ a w Q e ht hN hm hw hf hB hQ => by
    obtain ⟨v, hv, e⟩ := ob_some (show ob ((mkEv c).f T) (fun v => ob (asBool v) fun t => bb t ((mkC P S call jump N x).f T h) ((mkC P S call jump N y).f T h)) = some r from e)
    obtain ⟨t, ht', e⟩ := ob_some e
    have hc : a.eval c = .bool t := by have := ht.ev c v hv; rw [asBool_eq ht'] at this; exact this
    cases t with
    | true => exact wp_cond_true hc (code_ok hback hS hcall hmn hfol hmj hj x T h r σ a w Q e ht hN hm hw hf hB hQ)
    | false => exact wp_cond_false hc (code_ok hback hS hcall hmn hfol hmj hj y T h r σ a w Q e ht hN hm hw hf hB hQ)
  | .block id x => fun T h r σ a w Q e ht hN hm hw hf hB hQ => by
    obtain ⟨r1, hr1, e⟩ := ob_some (show ob ((mkC P S call jump N x).f T h) (fun r => @X.casesOn (fun _ => Option R) r.x (some r) (fun i => bb (Nat.beq i id) (some ⟨.normal, r.T, r.h⟩) (some r)) (fun _ => some r) (some r)) = some r from e)
    have ok := code_ok hback hS hcall hmn hfol hmj hj x
    refine wp_block ?_
    obtain ⟨q, T1, h1⟩ := r1
    cases q with
    | normal =>
      cases e
      refine ok T h _ σ a w _ hr1 ht hN hm hw hf hB fun e1 a1 w1 σ1 hc => ?_
      have hx : e1 = .normal := hc.x
      subst hx
      exact hQ _ _ _ _ hc
    | exit i =>
      have e : bb (Nat.beq i id) (some (⟨.normal, T1, h1⟩ : R)) (some ⟨.exit i, T1, h1⟩) = some r := e
      have hr : r.h = h1 ∧ r.T = T1 := by
        cases hb : Nat.beq i id with
        | true => rw [hb] at e; cases e; exact ⟨rfl, rfl⟩
        | false => rw [hb] at e; cases e; exact ⟨rfl, rfl⟩
      refine ok T h _ σ a w _ hr1 ht hN hm hw (by rw [hr.1] at hf; exact hf) hB fun e1 a1 w1 σ1 hc => ?_
      have hx : e1 = .exit i := hc.x
      subst hx
      show (if i = id then Q .normal a1 w1 else Q (.exit i) a1 w1)
      cases hb : Nat.beq i id with
      | true =>
        rw [hb] at e; cases e
        rw [if_pos (beq_eq hb)]
        exact hQ .normal a1 w1 σ1 ⟨rfl, hc.ext, hc.tmps, hc.size, hc.marks, hc.mem, hc.frame⟩
      | false =>
        rw [hb] at e; cases e
        rw [if_neg (fun he => by rw [he, Nat.beq_refl] at hb; cases hb)]
        exact hQ _ _ _ _ hc
    | goto l =>
      cases e
      refine ok T h _ σ a w _ hr1 ht hN hm hw hf hB fun e1 a1 w1 σ1 hc => ?_
      have hx : e1 = .goto l := hc.x
      subst hx
      exact hQ _ _ _ _ hc
    | ret =>
      cases e
      refine ok T h _ σ a w _ hr1 ht hN hm hw hf hB fun e1 a1 w1 σ1 hc => ?_
      have hx : e1 = .ret := hc.x
      subst hx
      exact hQ _ _ _ _ hc
  | .loop x => fun T h r σ a w Q e ht hN hm hw hf hB hQ => by
    have e : iter (mkC P S call jump N x).f rnds T h = some r := e
    exact wp_loop_of (iter_ok (fun T h => mr_code hmn hmj x T h) (code_ok hback hS hcall hmn hfol hmj hj x) rnds T h r σ a w Q e ht hN hm hw hf hB hQ)
  | .scope x => fun T h r σ a w Q e ht hN hm hw hf hB hQ => by
    have e : jumps x jump rnds ((mkC P S call jump N x).f T h) = some r := e
    exact wp_scope_of (jumps_ok hmj hj rnds (fun T h => mr_code hmn hmj x T h) (code_ok hback hS hcall hmn hfol hmj hj x) T h r σ a w Q e ht hN hm hw hf hB hQ)
end

end Go.Proofs.YtogifafehihjgaaGreat.Ab
