/-
  The executor's operations against the model's, seventh part: calls; keys only grow; all operations in one.
-/
import Derived.Test.YtogifafehihjgaaGreatOpf
namespace Go.Proofs.YtogifafehihjgaaGreat.Ab
open Go

/-! ### keys only grow -/
/-- no block at a key that is yet to come -/
def HW (h : Heap) : Prop := ∀ k, h.next ≤ k → h.blk k = none
structure Hs (h h' : Heap) : Prop where
  le : h.next ≤ h'.next
  hw : HW h → HW h'
theorem Hs.refl (h : Heap) : Hs h h := ⟨Nat.le_refl _, id⟩
theorem Hs.trans {h h' h'' : Heap} (a : Hs h h') (b : Hs h' h'') : Hs h h'' := ⟨Nat.le_trans a.le b.le, fun e => b.hw (a.hw e)⟩
def Mn (h : Heap) (x : Option VH) : Prop := ∀ r, x = some r → Hs h r.h
theorem Mn.none {h : Heap} : Mn h none := fun _ e => by cases e
theorem Mn.same {h h' : Heap} {v : AV} (e : Hs h h') : Mn h (some ⟨v, h'⟩) := fun _ e' => by cases e'; exact e
theorem Mn.ob {α : Type} {h : Heap} {x : Option α} {f : α → Option VH} (hf : ∀ a, x = some a → Mn h (f a)) : Mn h (ob x f) := fun r e => by
  obtain ⟨a, ha, e⟩ := ob_some e
  exact hf a ha r e
theorem Mn.bb {h : Heap} {c : Bool} {t f : Option VH} (h1 : Mn h t) (h2 : Mn h f) : Mn h (bb c t f) := by
  cases c <;> assumption
theorem Mn.sq {h : Heap} {x : Nat} {f : Nat → Option VH} (hf : ∀ a, Mn h (f a)) : Mn h (sq x f) := by rw [sq_eq]; exact hf x
theorem Mn.oe {α : Type} {h : Heap} {x : Option α} {d : Option VH} {f : α → Option VH} (hd : Mn h d) (hf : ∀ a, x = some a → Mn h (f a)) : Mn h (oe x d f) := by
  cases x with
  | none => exact hd
  | some a => exact hf a rfl
theorem HW.lt {h : Heap} (hw : HW h) {k : Nat} {x : Blk} (hb : h.blk k = some x) : k < h.next := by
  rcases Nat.lt_or_ge k h.next with h' | h'
  · exact h'
  · rw [hw k h'] at hb; cases hb
theorem alloc_next {h : Heap} {b : Blk} {r : KH} (e : h.alloc b = some r) : Hs h r.h := by
  obtain ⟨h1, h2, h3, h4⟩ := alloc_some e
  refine ⟨by omega, fun hw k hk => ?_⟩
  rw [h4 k (by omega)]
  exact hw k (by omega)
theorem allocCells_next {h : Heap} {n : Nat} {l : List AV} {r : KH} (e : h.allocCells n l = some r) : Hs h r.h := by
  obtain ⟨b, _, e⟩ := ob_some e
  exact alloc_next e
theorem putB_next {h : Heap} {k : Nat} {x y : Blk} (hb : h.blk k = some x) : Hs h (h.putB k y) := by
  refine ⟨Nat.le_refl _, fun hw j hj => ?_⟩
  have hk := hw.lt hb
  have hj : h.next ≤ j := hj
  rw [putB_ne hb (by omega)]
  exact hw j hj
theorem delB_next {h : Heap} {k : Nat} {x : Blk} (hb : h.blk k = some x) : Hs h (h.delB k) := by
  refine ⟨Nat.le_refl _, fun hw j hj => ?_⟩
  have hk := hw.lt hb
  have hj : h.next ≤ j := hj
  rw [delB_ne hb (by omega)]
  exact hw j hj
theorem setCell_next {h h' : Heap} {k o : Nat} {v : AV} (e : h.setCell k o v = some h') : Hs h h' := by
  obtain ⟨b, hb, e⟩ := ob_some e
  obtain ⟨b', _, e⟩ := ob_some e
  cases e
  exact putB_next hb
theorem setCells_next {h h' : Heap} {k o n : Nat} {v : List AV} (e : h.setCells k o n v = some h') : Hs h h' := by
  obtain ⟨b, hb, e⟩ := ob_some e
  obtain ⟨b', _, e⟩ := ob_some e
  cases e
  exact putB_next hb

section
variable {P : Program} {S : Syms} {T : TM} {h : Heap} {call : FuncId → FF}

theorem mn_append {size bytes : Nat} {s : AV} {n : Nat} {new : List AV} : Mn h (evAppend h size bytes s n new) := by
  unfold evAppend
  split
  · exact .bb (.same (.refl _)) (.bb (.ob fun a ha => .same (allocCells_next ha)) .none)
  · refine .bb (.ob fun a ha => .same (setCells_next ha)) (.bb (.ob fun a ha => ?_) .none)
    split
    · exact .ob fun a ha => .same (allocCells_next ha)
    · refine .bb (.ob fun q hq => .same ?_) .none
      obtain ⟨x, hx, _⟩ := ob_some ha
      exact (delB_next hx).trans (allocCells_next hq)
  · exact .none

theorem mn_clear {z : List AV} {size : Nat} {x : AV} {h' : Heap} (e : evClear z size h x = some h') : Hs h h' := by
  unfold evClear at e
  split at e
  · cases e; exact .refl _
  · cases e; exact .refl _
  · cases e; exact .refl _
  · exact setCells_next e
  · cases e

theorem mn_pure {b : Builtin} {ats : Array TypeId} {t : TypeId} {args : List Operand} : Mn h ((mkPure P b ats t args).f T h) := .ob fun _ _ => .ob fun _ _ => .same (.refl _)

theorem mn_bb {c : Bool} {a b : OF} (ha : Mn h (a.f T h)) (hb : Mn h (b.f T h)) : Mn h ((bb c a b).f T h) := by cases c <;> assumption
theorem mn_bf {c : Bool} {a b : FF} {as : List AV} (ha : Mn h (a.f as h)) (hb : Mn h (b.f as h)) : Mn h ((bb c a b).f as h) := by cases c <;> assumption

theorem mn_builtin {b : Builtin} {ats : Array TypeId} {t : TypeId} {args : List Operand} : Mn h ((mkBuiltin P b ats t args).f T h) := by
  unfold mkBuiltin
  split
  · unfold mkAppend
    split
    · split
      · exact mn_bb (.ob fun _ _ => .ob fun _ _ => .ob fun _ _ => mn_append) .none
      · exact .none
    · exact .none
  · unfold mkClear
    split
    · split
      · exact mn_bb (.ob fun _ _ => .ob fun _ ha => .same (mn_clear ha)) .none
      · exact .none
    · exact .none
  · unfold mkLen
    split
    · exact .ob fun _ _ => .ob fun _ _ => .same (.refl _)
    · exact mn_pure
  all_goals first | exact mn_pure | exact .none

theorem mn_ext {f : FuncId} {as : List AV} : Mn h (evExt P f as h) := by
  unfold evExt
  split
  · split
    · exact .ob fun _ _ => .same (.refl _)
    · exact .none
  · exact .none

theorem mn_callee (hc : ∀ f as h, Mn h ((call f).f as h)) {f : FuncId} {as : List AV} : Mn h ((mkCallee P call f).f as h) := mn_bf (hc f as h) mn_ext

theorem mn_op (hc : ∀ f as h, Mn h ((call f).f as h)) {ty : TypeId} {op : Op} : Mn h ((mkOp P S call ty op).f T h) := by
  unfold mkOp
  split
  · exact .ob fun _ _ => .same (.refl _)
  · exact .ob fun _ _ => .same (.refl _)
  · exact .ob fun _ _ => .ob fun _ _ => .bb (.ob fun _ _ => .same (.refl _)) (.ob fun _ _ => .same (.refl _))
  · unfold mkAlloc
    split
    · split
      · exact .ob fun _ ha => .same (alloc_next ha)
      · exact .none
    · exact .none
  · exact .ob fun _ _ => .bb (.ob fun _ ha => .same (allocCells_next ha)) .none
  · unfold mkBuild
    split
    · exact mn_bb (.ob fun _ _ => .ob fun _ _ => .same (.refl _)) .none
    · split
      · exact mn_bb (.ob fun _ _ => .ob fun _ _ => .same (.refl _)) .none
      · exact .none
    · exact .none
  · unfold mkBuildSlice
    split
    · split
      · exact mn_bb (.ob fun _ _ => .ob fun _ _ => .ob fun _ ha => .same (allocCells_next ha)) .none
      · exact .none
    · exact .none
  · unfold mkLoad
    split
    · exact .ob fun _ _ => .ob fun _ _ => .ob fun _ _ => .same (.refl _)
    · exact .ob fun _ _ => .ob fun _ _ => .ob fun _ _ => .same (.refl _)
    · exact .none
  · unfold mkStore
    split
    · exact .ob fun _ _ => .ob fun _ _ => .ob fun _ _ => .bb (.ob fun _ ha => .same (setCell_next ha)) (.bb (.ob fun _ ha => .same (setCells_next ha)) .none)
    · exact .ob fun _ _ => .ob fun _ _ => .ob fun _ _ => .bb (.ob fun _ ha => .same (setCells_next ha)) .none
    · exact .none
  · exact .ob fun _ _ => .ob fun _ _ => .same (.refl _)
  · exact .ob fun _ _ => .ob fun _ _ => .ob fun _ _ => .same (.refl _)
  · exact .ob fun _ _ => .ob fun _ _ => .same (.refl _)
  · unfold mkConv
    split
    · exact .ob fun _ _ => .oe (.ob fun _ _ => .same (.refl _)) fun _ _ => .bb (.same (.refl _)) (.ob fun _ _ => .same (.refl _))
    · split
      · exact .ob fun _ _ => .ob fun _ _ => .same (.refl _)
      · exact .none
    · exact .ob fun _ _ => .ob fun _ _ => .same (.refl _)
  · exact .ob fun _ _ => .ob fun _ _ => .bb (.same (.refl _)) .none
  · exact .bb (.ob fun _ _ => .ob fun _ _ => .ob fun _ _ => .ob fun _ _ => .ob fun _ _ => .same (.refl _)) .none
  · unfold mkFieldAddr
    split
    · split
      · split
        · exact .ob fun _ _ => .ob fun _ _ => .sq fun _ => .same (.refl _)
        · exact .none
      · exact .none
    · exact .none
  · unfold mkField
    split
    · split
      · refine .ob fun v _ => ?_
        split
        · exact .ob fun _ _ => .same (.refl _)
        · exact .none
      · exact .none
    · exact .none
  · unfold mkIndexAddr
    split
    · split
      · exact .ob fun _ _ => .ob fun _ _ => .ob fun _ _ => .ob fun _ _ => .bb (.sq fun _ => .same (.refl _)) .none
      · exact .none
    · split
      · exact .ob fun _ _ => .ob fun _ _ => .ob fun _ _ => .ob fun _ _ => .bb (.sq fun _ => .same (.refl _)) .none
      · exact .none
    · exact .none
  · unfold mkIndex
    split
    · split
      · refine .ob fun v _ => ?_
        split
        · exact .ob fun _ _ => .ob fun _ _ => .bb (.sq fun _ => .ob fun _ _ => .same (.refl _)) .none
        · exact .none
      · exact .none
    · exact .ob fun _ _ => .ob fun _ _ => .ob fun _ _ => .same (.refl _)
    · exact .none
  · refine .ob fun v _ => ?_
    unfold evRange
    split
    · exact .ob fun _ ha => .same (alloc_next ha)
    · exact .none
  · refine .ob fun v _ => ?_
    unfold evNext
    split
    · split
      · exact .bb (.sq fun _ => .same (putB_next (by assumption))) (.same (.refl _))
      · exact .none
    · exact .none
  · exact .ob fun _ _ => .ob fun _ _ => .same (.refl _)
  · unfold mkCall
    split
    · exact mn_builtin
    · exact .ob fun _ _ => mn_callee hc
    · refine .ob fun v _ => .ob fun as _ => ?_
      split
      · exact mn_callee hc
      · exact .none
    · exact .none
  · exact .none
end

/-! ### calls -/
/-- what a call of the executor says of the model's -/
def CallOk (P : Program) (ρ : Nat → Value) (B : Nat) (call : FuncId → FF) : Prop :=
  ∀ (f : FuncId) (as : List AV) (us : List Value) (σ : Sg) (h : Heap) (w : World) (r : VH), (call f).f as h = some r → LR (VR ρ σ) as us → HRel ρ B σ h.blk w → HW h → Fresh σ h.next r.h.next → B ≤ w.heap.size →
    Calls P f us.toArray w fun e w' => ∃ u σ', e = .returned u ∧ Post ρ B σ h w r u σ' w'

section
variable {P : Program} {S : Syms} {ρ : Nat → Value} {B : Nat} {σ : Sg} {T : TM} {h : Heap} {w : World} {val : Operand → Value} {o : Oper} {r : VH} {call : FuncId → FF}

theorem callee_run {f : FuncId} {as : List AV} {us : Array Value} (hcall : CallOk P ρ B call) (hr : (mkCallee P call f).f as h = some r) (hl : LR (VR ρ σ) as us.toList)
    (hm : HRel ρ B σ h.blk w) (hw : HW h) (hfresh : Fresh σ h.next r.h.next) (hB : B ≤ w.heap.size) (hex : (execOp val o).run P w = (callFunc f us).run P w) : OpRes P ρ B val o σ h w r := by
  unfold mkCallee at hr
  cases hb : bodied P f with
  | true =>
    rw [hb] at hr
    have hr : (call f).f as h = some r := hr
    refine .inr ⟨f, us, ?_, ?_⟩
    · rw [hex]
      unfold bodied at hb
      split at hb
      · rename_i fn hfn
        simp only [Bool.and_eq_true, Bool.not_eq_true'] at hb
        obtain ⟨h1, h2⟩ := hb
        have h1' : fn.name ≠ "runtime.NumGoroutine" := by simpa using h1
        have h3 : fn.body ≠ none := fun e => by rw [e] at h2; cases h2
        simp [callFunc, hfn, h1', h3]
      · cases hb
    · have := hcall f as us.toList σ h w r hr hl hm hw hfresh hB
      simpa using this
  | false =>
    rw [hb] at hr
    have hr : evExt P f as h = some r := hr
    unfold evExt at hr
    split at hr
    · rename_i vs hvs
      split at hr
      · rename_i u hu
        obtain ⟨v, hv, hr⟩ := ob_some hr
        cases hr
        have e := exacts_some hvs hl
        refine (OpRes.pure hm (of_VR hv) ?_).2
        rw [hex, ← prun_run (w := w) hu, ← e]
      · cases hr
    · cases hr

theorem VR_list_of_VA {l : List AV} {us : List Value} (hl : LR (VA ρ σ) l us) : LR (VR ρ σ) l us := hl.mono fun _ _ h => VR_of_VC (VC_of_VA h)

theorem op_call (c : Call) (ho : o.op = .call c) (hcall : CallOk P ρ B call) (hr : (mkOp P S call o.type (.call c)).f T h = some r)
    (hev : ∀ x ∈ c.operands, EvOk ρ σ T val x) (hm : HRel ρ B σ h.blk w) (hw : HW h) (hfresh : Fresh σ h.next r.h.next) (hB : B ≤ w.heap.size) : OpRes P ρ B val o σ h w r := by
  have hr' : (mkCall P call o.type c).f T h = some r := hr
  have hargs : ∀ x ∈ c.args.toList, EvOk ρ σ T val x := fun x hx => hev x (by simp [Call.operands, Array.mem_toList_iff.1 hx])
  unfold mkCall at hr'
  split at hr'
  · rename_i b hc
    unfold mkBuiltin at hr'
    split at hr'
    · rename_i t1 t2 s x hats has
      have e1 : c.argTypes = #[t1, t2] := by apply Array.ext'; simpa using hats
      have e2 : c.args = #[s, x] := by apply Array.ext'; simpa using has
      exact (op_append c s x t1 t2 ho hc e1 e2 hr' (hargs s (by rw [has]; simp)) (hargs x (by rw [has]; simp)) hm hfresh hB).2
    · rename_i t1 x hats has
      have e1 : c.argTypes = #[t1] := by apply Array.ext'; simpa using hats
      have e2 : c.args = #[x] := by apply Array.ext'; simpa using has
      exact (op_clear c x t1 ho hc e1 e2 hr' (hargs x (by rw [has]; simp)) hm).2
    · rename_i t1 x hats has
      have e1 : c.argTypes = #[t1] := by apply Array.ext'; simpa using hats
      have e2 : c.args = #[x] := by apply Array.ext'; simpa using has
      exact (op_len c x t1 ho hc e1 e2 hr' (hargs x (by rw [has]; simp)) hm).2
    · exact (op_pure c .min ho hc rfl hr' hargs hm).2
    · exact (op_pure c .max ho hc rfl hr' hargs hm).2
    · exact (op_pure c .real ho hc rfl hr' hargs hm).2
    · exact (op_pure c .imag ho hc rfl hr' hargs hm).2
    · exact (op_pure c .complex ho hc rfl hr' hargs hm).2
    · cases hr'
  · rename_i f hc
    obtain ⟨as, has, hr'⟩ := ob_some hr'
    have hl := mkEvs_some has hargs
    have hf := hev (.func f) (by simp [Call.operands, hc]) (.func f [] []) rfl
    obtain ⟨p, q, e, h1, h2⟩ := hf
    have hp : p = #[] := by have := h1.1; apply Array.ext'; exact List.length_eq_zero_iff.1 this.symm
    have hq : q = #[] := by have := h2.1; apply Array.ext'; exact List.length_eq_zero_iff.1 this.symm
    subst hp; subst hq
    refine callee_run (us := c.args.map val) hcall hr' (by simpa using hl) hm hw hfresh hB ?_
    simp [execOp, ho, resolve, hc, e, Deferred.ofValue, invoke]
  · rename_i x _ hc
    obtain ⟨v, hv, hr'⟩ := ob_some hr'
    obtain ⟨as, has, hr'⟩ := ob_some hr'
    have hl := mkEvs_some has hargs
    split at hr'
    · rename_i f first cap _
      obtain ⟨p, q, e, h1, h2⟩ := hev x (by simp [Call.operands, hc]) _ hv
      refine callee_run (us := p ++ c.args.map val ++ q) hcall hr' ?_ hm hw hfresh hB ?_
      · rw [appL_eq, appL_eq]
        have := (VR_list_of_VA h1).append (hl.append (VR_list_of_VA h2))
        simpa using this
      · simp [execOp, ho, resolve, hc, e, Deferred.ofValue, invoke]
    · cases hr'
  · cases hr'

/-- all operations -/
theorem op_sound (hS : SymsOk P S ρ) (hcall : CallOk P ρ B call) (hr : (mkOp P S call o.type o.op).f T h = some r) (hev : ∀ x ∈ o.op.operands, EvOk ρ σ T val x)
    (hm : HRel ρ B σ h.blk w) (hw : HW h) (hfresh : Fresh σ h.next r.h.next) (hB : B ≤ w.heap.size) : OpRes P ρ B val o σ h w r := by
  cases ho : o.op with
  | move x => rw [ho] at hr hev; exact (op_move x (.inl ho) hr (hev x (by simp [Op.operands])) hm).2
  | assign x => rw [ho] at hr hev; exact (op_move x (.inr ho) hr (hev x (by simp [Op.operands])) hm).2
  | pick c a b => rw [ho] at hr hev; exact (op_pick c a b ho hr (hev c (by simp [Op.operands])) (hev a (by simp [Op.operands])) (hev b (by simp [Op.operands])) hm).2
  | alloc e => rw [ho] at hr; exact (op_alloc e ho hr hm hfresh hB).2
  | box e x => rw [ho] at hr hev; exact (op_box e x ho hr (hev x (by simp [Op.operands])) hm hfresh hB).2
  | build t ps => rw [ho] at hr hev; exact (op_build t ps ho hr (fun p hp => hev p.2 (by simp [Op.operands]; exact ⟨p.1, by simpa using hp⟩)) hm).2
  | buildSlice t n ps => rw [ho] at hr hev; exact (op_buildSlice t n ps ho hr (fun p hp => hev p.2 (by simp [Op.operands]; exact ⟨p.1, by simpa using hp⟩)) hm hfresh hB).2
  | load t x => rw [ho] at hr hev; exact (op_load t x ho hr (hev x (by simp [Op.operands])) hm).2
  | store t x y => rw [ho] at hr hev; exact (op_store t x y ho hr (hev x (by simp [Op.operands])) (hev y (by simp [Op.operands])) hm).2
  | nilCheck x => rw [ho] at hr hev; exact (op_nilCheck x ho hr (hev x (by simp [Op.operands])) hm).2
  | binOp op t x y yt => rw [ho] at hr hev; exact (op_binOp hS op t x y yt ho hr (hev x (by simp [Op.operands])) (hev y (by simp [Op.operands])) hm).2
  | unOp op t x => rw [ho] at hr hev; exact (op_unOp op t x ho hr (hev x (by simp [Op.operands])) hm).2
  | convert src dst x => rw [ho] at hr hev; exact (op_convert hS src dst x ho hr (hev x (by simp [Op.operands])) hm).2
  | makeFunc fn first cap =>
    rw [ho] at hr hev
    cases fn with
    | func f => exact (op_makeFunc f first cap ho hr (fun x hx => hev x (by simp [Op.operands, Array.mem_toList_iff.1 hx])) (fun x hx => hev x (by simp [Op.operands, Array.mem_toList_iff.1 hx])) hm).2
    | _ => cases hr
  | slice t x lo hi mx =>
    rw [ho] at hr hev
    exact (op_slice t x lo hi mx ho hr (hev x (by simp [Op.operands])) (fun y hy => hev y (by simp [Op.operands, hy])) (fun y hy => hev y (by simp [Op.operands, hy])) (fun y hy => hev y (by simp [Op.operands, hy])) hm).2
  | fieldAddr t x f => rw [ho] at hr hev; exact (op_fieldAddr t x f ho hr (hev x (by simp [Op.operands])) hm).2
  | field t x f => rw [ho] at hr hev; exact (op_field t x f ho hr (hev x (by simp [Op.operands])) hm).2
  | indexAddr t x i => rw [ho] at hr hev; exact (op_indexAddr t x i ho hr (hev x (by simp [Op.operands])) (hev i (by simp [Op.operands])) hm).2
  | index t x i => rw [ho] at hr hev; exact (op_index t x i ho hr (hev x (by simp [Op.operands])) (hev i (by simp [Op.operands])) hm).2
  | range t x => rw [ho] at hr hev; exact (op_range t x ho hr (hev x (by simp [Op.operands])) hm hfresh hB).2
  | next x str =>
    rw [ho] at hr hev
    cases str with
    | true => exact (op_next x ho hr (hev x (by simp [Op.operands])) hm).2
    | false => cases hr
  | extract x i => rw [ho] at hr hev; exact (op_extract x i ho hr (hev x (by simp [Op.operands])) hm).2
  | call c => rw [ho] at hr hev; exact op_call c ho hcall hr (by simpa [Op.operands] using hev) hm hw hfresh hB
  | _ => rw [ho] at hr; cases hr
end

end Go.Proofs.YtogifafehihjgaaGreat.Ab
