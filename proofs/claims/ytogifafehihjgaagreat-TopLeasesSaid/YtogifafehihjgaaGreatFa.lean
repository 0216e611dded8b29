/-
  The executor's code against the model's: keys only grow.
-/
import Derived.Test.YtogifafehihjgaaGreatRh
import Derived.ScopeJumps
namespace Go.Proofs.YtogifafehihjgaaGreat.Ab
open Go

section
variable {P : Program} {S : Syms} {call : FuncId → FF} {jump : Code → CF} {N : Nat}

theorem Mr.none {h : Heap} : Mr h none := fun _ e => by cases e
theorem Mr.refl {h : Heap} {x : X} {T : TM} : Mr h (some ⟨x, T, h⟩) := fun _ e => by cases e; exact .refl _
theorem Mr.ob {α : Type} {h : Heap} {x : Option α} {f : α → Option R} (hf : ∀ a, x = some a → Mr h (f a)) : Mr h (ob x f) := fun r e => by
  obtain ⟨a, ha, e⟩ := ob_some e
  exact hf a ha r e
theorem Mr.of {h h' : Heap} {x : Option R} (h1 : Hs h h') (h2 : Mr h' x) : Mr h x := fun r e => h1.trans (h2 r e)

theorem mr_draw (hmn : ∀ f as h, Mn h ((call f).f as h)) {ops : Array Oper} {T : TM} {h : Heap} : Mr h ((mkDraw P S call N ops).f T h) := fun r e => by
  obtain ⟨_, inf, hi, _, _, ⟨run⟩⟩ := draw_run e
  have := run.hsle hi hmn (Nat.zero_le ops.size) (Nat.le_refl _)
  rwa [run.zeroh, run.lasth] at this

theorem mr_iter {f : TM → Heap → Option R} (hf : ∀ T h, Mr h (f T h)) : ∀ (n : Nat) (T : TM) (h : Heap), Mr h (iter f n T h)
  | 0, T, h => .none
  | n + 1, T, h => by
    show Mr h (ob (f T h) fun r => @X.casesOn (fun _ => Option R) r.x (iter f n r.T r.h) (fun _ => some r) (fun _ => some r) (some r))
    refine .ob fun r hr => ?_
    have h1 := hf T h r hr
    obtain ⟨x, T', h'⟩ := r
    cases x with
    | normal => exact Mr.of h1 (mr_iter hf n T' h')
    | exit i => exact fun r e => by cases e; exact h1
    | goto l => exact fun r e => by cases e; exact h1
    | ret => exact fun r e => by cases e; exact h1

theorem mr_jumps {body : Code} (hj : ∀ c T h, Mr h ((jump c).f T h)) {h : Heap} : ∀ (n : Nat) (x : Option R), Mr h x → Mr h (jumps body jump n x)
  | 0, x, _ => .none
  | n + 1, x, hx => by
    show Mr h (ob x fun r => @X.casesOn (fun _ => Option R) r.x (some r) (fun _ => some r)
      (fun l => match findLabel body l with
        | some rest => jumps body jump n ((jump rest).f r.T r.h)
        | none => some r) (some r))
    refine .ob fun r hr => ?_
    have h1 := hx r hr
    obtain ⟨x, T', h'⟩ := r
    cases x with
    | normal => exact fun r e => by cases e; exact h1
    | exit i => exact fun r e => by cases e; exact h1
    | goto l =>
      dsimp only
      split
      · exact mr_jumps hj n _ (Mr.of h1 (hj _ T' h'))
      · exact fun r e => by cases e; exact h1
    | ret => exact fun r e => by cases e; exact h1

theorem mr_seqF {a b : CF} (ha : ∀ T h, Mr h (a.f T h)) (hb : ∀ T h, Mr h (b.f T h)) (T : TM) (h : Heap) : Mr h ((seqF a b).f T h) := by
  show Mr h (ob (a.f T h) fun r => @X.casesOn (fun _ => Option R) r.x (b.f r.T r.h) (fun _ => some r) (fun _ => some r) (some r))
  refine .ob fun r hr => ?_
  have h1 := ha T h r hr
  obtain ⟨x, T', h'⟩ := r
  cases x with
  | normal => exact Mr.of h1 (hb T' h')
  | exit i => exact fun r e => by cases e; exact h1
  | goto l => exact fun r e => by cases e; exact h1
  | ret => exact fun r e => by cases e; exact h1

theorem mr_b (hmn : ∀ f as h, Mn h ((call f).f as h)) : ∀ (c : Code) (T : TM) (h : Heap), Mr h ((mkB P S call N c).f T h)
  | .skip, T, h => Mr.refl
  | .region _ ops draw, T, h => by
    show Mr h ((bb draw (⟨fun _ _ => none⟩ : CF) (mkOps P S call N ops.toList ops.toList)).f T h)
    cases draw with
    | true => exact .none
    | false => exact mn_ops hmn _ _ _ _
  | .seq a b, T, h => mr_seqF (fun T h => mr_b hmn a T h) (fun T h => mr_b hmn b T h) T h
  | .cond c a b, T, h => by
    show Mr h (ob ((mkEv c).f T) fun v => ob (asBool v) fun t => bb t ((mkB P S call N a).f T h) ((mkB P S call N b).f T h))
    refine .ob fun v _ => .ob fun t _ => ?_
    cases t with
    | true => exact mr_b hmn a T h
    | false => exact mr_b hmn b T h
  | .block id b, T, h => by
    show Mr h (ob ((mkB P S call N b).f T h) fun r => @X.casesOn (fun _ => Option R) r.x (some r) (fun i => bb (Nat.beq i id) (some ⟨.normal, r.T, r.h⟩) (some r)) (fun _ => some r) (some r))
    refine .ob fun r hr => ?_
    have h1 := mr_b hmn b T h r hr
    obtain ⟨x, T', h'⟩ := r
    cases x with
    | normal => exact fun r e => by cases e; exact h1
    | exit i =>
      dsimp only
      cases Nat.beq i id with
      | true => exact fun r e => by cases e; exact h1
      | false => exact fun r e => by cases e; exact h1
    | goto l => exact fun r e => by cases e; exact h1
    | ret => exact fun r e => by cases e; exact h1
  | .loop _, T, h => .none
  | .rangeFunc .., T, h => .none
  | .exit _, T, h => Mr.refl
  | .scope _, T, h => .none
  | .label _, T, h => Mr.refl
  | .goto _, T, h => .none
  | .ret, T, h => .none
  | .refuse _, T, h => .none

theorem hs_rounds {run : TM → Heap → Option R} (hr : ∀ T h, Mr h (run T h)) {w1 w2 : WF} {T : TM} {k off : Nat} : ∀ (n : Nat) (h h' : Heap), rounds run w1 w2 T k off n h = some h' → Hs h h'
  | 0, h, h', e => by cases e; exact .refl _
  | n + 1, h, h', e => by
    obtain ⟨_, _, e⟩ := ob_some (show ob (h.cell k off) (fun s => ob (asSlice s) fun s => bb (Nat.blt n s.len) (ob (h.cell s.k (Nat.add s.o n)) fun v => ob (run (w2.f (w1.f T (.nat 3 n)) v) h) fun r => match r.x with
      | .normal => rounds run w1 w2 T k off n r.h
      | _ => none) none) = some h' from e)
    obtain ⟨_, _, e⟩ := ob_some e
    obtain ⟨_, e⟩ := bb_true e
    obtain ⟨_, _, e⟩ := ob_some e
    obtain ⟨r, hr1, e⟩ := ob_some e
    have h2 := hr _ _ r hr1
    split at e
    · exact h2.trans (hs_rounds hr n _ h' e)
    · cases e

theorem mr_back {f : Operand} {ps : List Tmp} {run : CF} (hr : ∀ T h, Mr h (run.f T h)) (T : TM) (h : Heap) : Mr h ((mkBack S N f ps run).f T h) := by
  unfold mkBack
  split
  · split
    · refine .ob fun v _ => ?_
      split
      · intro r e
        obtain ⟨_, e⟩ := bb_true e
        obtain ⟨_, _, e⟩ := ob_some e
        obtain ⟨_, e⟩ := bb_true e
        obtain ⟨h', hh, e⟩ := ob_some e
        cases e
        exact hs_rounds hr _ _ _ hh
      · exact .none
    · exact .none
  · exact .none

theorem mr_code (hmn : ∀ f as h, Mn h ((call f).f as h)) (hj : ∀ c T h, Mr h ((jump c).f T h)) : ∀ (c : Code) (T : TM) (h : Heap), Mr h ((mkC P S call jump N c).f T h)
  | .skip, T, h => Mr.refl
  | .region _ ops draw, T, h => by
    show Mr h ((bb draw (mkDraw P S call N ops) (mkOps P S call N ops.toList ops.toList)).f T h)
    cases draw with
    | true => exact mr_draw hmn
    | false => exact mn_ops hmn _ _ _ _
  | .seq a b, T, h => by
    show Mr h (ob ((mkC P S call jump N a).f T h) fun r => @X.casesOn (fun _ => Option R) r.x ((mkC P S call jump N b).f r.T r.h) (fun _ => some r) (fun _ => some r) (some r))
    refine .ob fun r hr => ?_
    have h1 := mr_code hmn hj a T h r hr
    obtain ⟨x, T', h'⟩ := r
    cases x with
    | normal => exact Mr.of h1 (mr_code hmn hj b T' h')
    | exit i => exact fun r e => by cases e; exact h1
    | goto l => exact fun r e => by cases e; exact h1
    | ret => exact fun r e => by cases e; exact h1
  | .cond c a b, T, h => by
    show Mr h (ob ((mkEv c).f T) fun v => ob (asBool v) fun t => bb t ((mkC P S call jump N a).f T h) ((mkC P S call jump N b).f T h))
    refine .ob fun v _ => .ob fun t _ => ?_
    cases t with
    | true => exact mr_code hmn hj a T h
    | false => exact mr_code hmn hj b T h
  | .block id b, T, h => by
    show Mr h (ob ((mkC P S call jump N b).f T h) fun r => @X.casesOn (fun _ => Option R) r.x (some r) (fun i => bb (Nat.beq i id) (some ⟨.normal, r.T, r.h⟩) (some r)) (fun _ => some r) (some r))
    refine .ob fun r hr => ?_
    have h1 := mr_code hmn hj b T h r hr
    obtain ⟨x, T', h'⟩ := r
    cases x with
    | normal => exact fun r e => by cases e; exact h1
    | exit i =>
      dsimp only
      cases Nat.beq i id with
      | true => exact fun r e => by cases e; exact h1
      | false => exact fun r e => by cases e; exact h1
    | goto l => exact fun r e => by cases e; exact h1
    | ret => exact fun r e => by cases e; exact h1
  | .loop b, T, h => by
    show Mr h (iter (mkC P S call jump N b).f rnds T h)
    exact mr_iter (fun T h => mr_code hmn hj b T h) rnds T h
  | .rangeFunc f ps x y, T, h => by
    show Mr h ((mkBack S N f ps.toList (seqF (mkB P S call N x) (mkB P S call N y))).f T h)
    exact mr_back (fun T h => mr_seqF (fun T h => mr_b hmn x T h) (fun T h => mr_b hmn y T h) T h) T h
  | .exit _, T, h => Mr.refl
  | .scope body, T, h => by
    show Mr h (jumps body jump rnds ((mkC P S call jump N body).f T h))
    exact mr_jumps hj rnds _ (mr_code hmn hj body T h)
  | .label _, T, h => Mr.refl
  | .goto _, T, h => Mr.refl
  | .ret, T, h => Mr.refl
  | .refuse _, T, h => .none
end

end Go.Proofs.YtogifafehihjgaaGreat.Ab
