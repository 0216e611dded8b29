/-
  The executor's operations against the model's, third part: parts of structs and arrays, addresses, loads, stores, new variables, functions.
-/
import Derived.Test.YtogifafehihjgaaGreatOpb
namespace Go.Proofs.YtogifafehihjgaaGreat.Ab
open Go

section
variable {P : Program} {S : Syms} {ρ : Nat → Value} {B : Nat} {σ : Sg} {T : TM} {h : Heap} {w : World} {val : Operand → Value} {o : Oper} {r : VH}

theorem szOf_some {t n : Nat} (e : szOf P t = some n) : ∃ i, P.info? t = some i ∧ i.size = n := by
  unfold szOf at e
  cases hi : P.info? t with
  | none => rw [hi] at e; cases e
  | some i => rw [hi] at e; cases e; exact ⟨i, rfl, rfl⟩
theorem szOf_run {t n : Nat} (e : szOf P t = some n) : (sizeOf t).run P w = .ok n w := by
  obtain ⟨i, hi, rfl⟩ := szOf_some e
  simp [sizeOf, typeInfo, hi]
theorem isAggB_run {t : Nat} {b : Bool} (e : isAggB P t = some b) : (isAgg t).run P w = .ok b w := by
  unfold isAggB at e
  unfold isAgg
  rw [Sem.run_bind]
  split at e <;> first
    | (cases e; rename_i hu; rw [run_underlying hu]; rfl)
    | (cases e; rename_i d h1 h2 hu; rw [run_underlying hu]; simp only [Result.andThen_ok]; cases d <;> first | rfl | exact absurd rfl (h1 _) | exact absurd rfl (h2 _ _))
    | (cases e; done)
theorem zeroCellsA_some {t : Nat} {z : List AV} (e : zeroCellsA P t = some z) : ∃ zv, (∀ w, (zeroValue t).run P w = .ok zv w) ∧ LR (VC ρ σ) z zv.cells.toList := by
  unfold zeroCellsA at e
  split at e
  · rename_i i hi
    split at e
    · rename_i zv hz
      obtain ⟨h1, h2⟩ := mapO_some e
      refine ⟨zv, fun w => by simp [zeroValue, typeInfo, hi, hz], ⟨h1, fun j a b ha hb => ?_⟩⟩
      obtain ⟨c, hc, hbc⟩ := h2 j b hb
      rw [ha] at hc; cases hc
      exact of1_VC hbc
    · cases e
  · cases e

/-! ### parts -/
theorem mkPart_run {t : Nat} {off : Nat} {l : List AV} {v : AV} {cs : Array Value} (e : (mkPart P t).f off l = some v) (hl : LR (VC ρ σ) l cs.toList) :
    ∃ u, (part t cs off).run P w = .ok u w ∧ VB ρ σ v u := by
  unfold mkPart at e
  split at e
  · rename_i n ha hn
    obtain ⟨s, hs, e⟩ := ob_some e
    obtain ⟨q, hq, e⟩ := ob_some e
    cases e
    obtain ⟨rfl, h1⟩ := dropL_some hs
    obtain ⟨rfl, h2⟩ := takeL_some hq
    refine ⟨.agg (cs.extract off (off + n)), ?_, ⟨_, rfl, by simp at h2 ⊢; omega, ?_⟩⟩
    · unfold part
      rw [Sem.run_bind, isAggB_run ha]
      simp [szOf_run hn]
    · have := (hl.drop off).take n
      rwa [show (cs.extract off (off + n)).toList = (cs.toList.drop off).take n by simp [Array.toList_extract, List.extract]]
  · rename_i n ha
    have e : nthL l off = some v := e
    rw [nthL_eq] at e
    obtain ⟨u, hu, hv⟩ := hl.get e
    have hu' : cs[off]? = some u := by simpa using hu
    refine ⟨u, ?_, VB_of_VC hv⟩
    unfold part
    rw [Sem.run_bind, isAggB_run ha]
    simp [hu']
  · cases e

theorem op_field (t : TypeId) (x : Operand) (i : Nat) (ho : o.op = .field t x i) {call : FuncId → FF} (hr : (mkOp P S call o.type (.field t x i)).f T h = some r)
    (hx : EvOk ρ σ T val x) (hm : HRel ρ B σ h.blk w) : h.next ≤ r.h.next ∧ OpRes P ρ B val o σ h w r := by
  have hr' : (mkField P t x i).f T h = some r := hr
  unfold mkField at hr'
  split at hr'
  · rename_i fs hfs
    split at hr'
    · rename_i fd hfd
      obtain ⟨v, hv, hr'⟩ := ob_some hr'
      split at hr'
      · rename_i n l
        obtain ⟨u, hu, hr'⟩ := ob_some hr'
        cases hr'
        obtain ⟨cs, e, hn, hl⟩ := hx _ hv
        obtain ⟨z, hz, hzv⟩ := mkPart_run (w := w) hu hl
        exact OpRes.pure hm (VR_of_VB hzv) (by simp [execOp, ho, Instr.field, run_underlying hfs, hfd, e, asAgg, hz])
      · cases hr'
    · cases hr'
  · cases hr'

theorem op_index (t : TypeId) (x i : Operand) (ho : o.op = .index t x i) {call : FuncId → FF} (hr : (mkOp P S call o.type (.index t x i)).f T h = some r)
    (hx : EvOk ρ σ T val x) (hi : EvOk ρ σ T val i) (hm : HRel ρ B σ h.blk w) : h.next ≤ r.h.next ∧ OpRes P ρ B val o σ h w r := by
  have hr' : (mkIndex P t x i).f T h = some r := hr
  unfold mkIndex at hr'
  split at hr'
  · rename_i n e hu
    split at hr'
    · rename_i size hsz
      obtain ⟨v, hv, hr'⟩ := ob_some hr'
      split at hr'
      · rename_i k l
        obtain ⟨j, hj, hr'⟩ := ob_some hr'
        obtain ⟨a, ha, hr'⟩ := ob_some hr'
        obtain ⟨hlt, hr'⟩ := bb_true hr'
        rw [sq_eq] at hr'
        obtain ⟨u, hu', hr'⟩ := ob_some hr'
        cases hr'
        obtain ⟨cs, e1, hn, hl⟩ := hx _ hv
        have e2 := hi _ hj
        rw [asNat_eq ha] at e2
        have e2 : val i = .int (kindOf a.k) (.ofNat a.n) := e2
        obtain ⟨z, hz, hzv⟩ := mkPart_run (w := w) hu' hl
        have hlt := blt_lt hlt
        have hz' : (part e cs (a.n * size)).run P w = .ok z w := hz
        refine OpRes.pure hm (VR_of_VB hzv) ?_
        simp [execOp, ho, Instr.index, run_underlying hu, e1, e2, asIntOf, hlt, szOf_run hsz, hz']
      · cases hr'
    · cases hr'
  · rename_i hu
    obtain ⟨v, hv, hr'⟩ := ob_some hr'
    obtain ⟨j, hj, hr'⟩ := ob_some hr'
    obtain ⟨u, hu', hr'⟩ := ob_some hr'
    cases hr'
    unfold slowIndex at hu'
    split at hu'
    · rename_i a b ha hb
      obtain ⟨z, hz, hzv⟩ := ofO_VR (ρ := ρ) (σ := σ) hu'
      refine OpRes.pure hm hzv ?_
      simp only [execOp, ho, Sem.run_bind, exact_eq ha (hx _ hv), exact_eq hb (hi _ hj), prun_run hz, Result.andThen_ok]
      rfl
    · cases hu'
  · cases hr'

theorem op_fieldAddr (t : TypeId) (x : Operand) (i : Nat) (ho : o.op = .fieldAddr t x i) {call : FuncId → FF} (hr : (mkOp P S call o.type (.fieldAddr t x i)).f T h = some r)
    (hx : EvOk ρ σ T val x) (hm : HRel ρ B σ h.blk w) : h.next ≤ r.h.next ∧ OpRes P ρ B val o σ h w r := by
  have hr' : (mkFieldAddr P t x i).f T h = some r := hr
  unfold mkFieldAddr at hr'
  split at hr'
  · rename_i fs hfs
    split at hr'
    · rename_i fd hfd
      split at hr'
      · rename_i n hsz
        obtain ⟨v, hv, hr'⟩ := ob_some hr'
        obtain ⟨p, hp, hr'⟩ := ob_some hr'
        rw [sq_eq] at hr'
        cases hr'
        have e := hx _ hv
        rw [asPtr_eq hp] at e
        obtain ⟨b, d, c, hs, e⟩ := e
        refine OpRes.pure hm (u := .pointer (some ⟨b, d + (p.o + fd.offset), none⟩)) ⟨b, d, c, hs, rfl⟩ ?_
        simp [execOp, ho, Instr.fieldAt, run_underlying hfs, hfd, e, Instr.sureAddr, fieldPlace, szOf_run hsz, Addr.add_none, Nat.add_assoc]
      · cases hr'
    · cases hr'
  · cases hr'

theorem op_indexAddr (t : TypeId) (x i : Operand) (ho : o.op = .indexAddr t x i) {call : FuncId → FF} (hr : (mkOp P S call o.type (.indexAddr t x i)).f T h = some r)
    (hx : EvOk ρ σ T val x) (hi : EvOk ρ σ T val i) (hm : HRel ρ B σ h.blk w) : h.next ≤ r.h.next ∧ OpRes P ρ B val o σ h w r := by
  have hr' : (mkIndexAddr P t x i).f T h = some r := hr
  unfold mkIndexAddr at hr'
  split at hr'
  · rename_i n e hu
    split at hr'
    · rename_i size hsz
      obtain ⟨v, hv, hr'⟩ := ob_some hr'
      obtain ⟨p, hp, hr'⟩ := ob_some hr'
      obtain ⟨j, hj, hr'⟩ := ob_some hr'
      obtain ⟨a, ha, hr'⟩ := ob_some hr'
      obtain ⟨hlt, hr'⟩ := bb_true hr'
      rw [sq_eq] at hr'
      cases hr'
      have e1 := hx _ hv
      rw [asPtr_eq hp] at e1
      obtain ⟨b, d, c, hs, e1⟩ := e1
      have e2 := hi _ hj
      rw [asNat_eq ha] at e2
      have e2 : val i = .int (kindOf a.k) (.ofNat a.n) := e2
      have hlt := blt_lt hlt
      refine OpRes.pure hm (u := .pointer (some ⟨b, d + (p.o + a.n * size), none⟩)) ⟨b, d, c, hs, rfl⟩ ?_
      simp [execOp, ho, Instr.indexAt, run_underlying hu, e1, e2, asIntOf, Instr.sureAddr, hlt, szOf_run hsz, Addr.add_none, Nat.add_assoc]
    · cases hr'
  · rename_i e hu
    split at hr'
    · rename_i size hsz
      obtain ⟨v, hv, hr'⟩ := ob_some hr'
      obtain ⟨s, hs, hr'⟩ := ob_some hr'
      obtain ⟨j, hj, hr'⟩ := ob_some hr'
      obtain ⟨a, ha, hr'⟩ := ob_some hr'
      obtain ⟨hlt, hr'⟩ := bb_true hr'
      rw [sq_eq] at hr'
      cases hr'
      have e1 := hx _ hv
      rw [asSlice_eq hs] at e1
      obtain ⟨b, d, t', c, hsg, e1, _⟩ := e1
      have e2 := hi _ hj
      rw [asNat_eq ha] at e2
      have e2 : val i = .int (kindOf a.k) (.ofNat a.n) := e2
      have hlt := blt_lt hlt
      refine OpRes.pure hm (u := .pointer (some ⟨b, d + (s.o + a.n * size), none⟩)) ⟨b, d, t', hsg, rfl⟩ ?_
      simp [execOp, ho, Instr.indexAt, run_underlying hu, e1, e2, asIntOf, hlt, szOf_run hsz, Addr.add_none, Nat.add_assoc]
    · cases hr'
  · cases hr'

/-! ### loads, stores -/
theorem mkLoad_run {t : TypeId} {x : Operand} (hr : (mkLoad P t x).f T h = some r) (hx : EvOk ρ σ T val x) (hm : HRel ρ B σ h.blk w) :
    r.h = h ∧ ∃ a u, val x = .pointer (some a) ∧ (loadVar t a).run P w = .ok u w ∧ VR ρ σ r.v u := by
  unfold mkLoad at hr
  split at hr
  · rename_i n ha hn
    obtain ⟨v, hv, hr⟩ := ob_some hr
    obtain ⟨p, hp, hr⟩ := ob_some hr
    obtain ⟨l, hl, hr⟩ := ob_some hr
    cases hr
    have e := hx _ hv
    rw [asPtr_eq hp] at e
    obtain ⟨b, d, c, hs, e⟩ := e
    obtain ⟨us, hlen, hlr, hrun, _⟩ := hm.cellsRun (P := P) hl hs
    refine ⟨rfl, _, .agg us.toArray, e, ?_, ⟨_, rfl, by have := hlr.1; omega, by simpa using hlr⟩⟩
    unfold loadVar
    rw [Sem.run_bind, isAggB_run ha]
    simp [szOf_run hn, hrun]
  · rename_i n ha
    obtain ⟨v, hv, hr⟩ := ob_some hr
    obtain ⟨p, hp, hr⟩ := ob_some hr
    obtain ⟨l, hl, hr⟩ := ob_some hr
    cases hr
    have e := hx _ hv
    rw [asPtr_eq hp] at e
    obtain ⟨b, d, c, hs, e⟩ := e
    obtain ⟨u, hu, hv⟩ := hm.cell hl hs
    refine ⟨rfl, _, u, e, ?_, VR_of_VC hv⟩
    unfold loadVar
    rw [Sem.run_bind, isAggB_run ha]
    simp [hu]
  · cases hr

theorem op_load (t : TypeId) (x : Operand) (ho : o.op = .load t x) {call : FuncId → FF} (hr : (mkOp P S call o.type (.load t x)).f T h = some r)
    (hx : EvOk ρ σ T val x) (hm : HRel ρ B σ h.blk w) : h.next ≤ r.h.next ∧ OpRes P ρ B val o σ h w r := by
  obtain ⟨e, a, u, hv, hrun, hu⟩ := mkLoad_run (show (mkLoad P t x).f T h = some r from hr) hx hm
  obtain ⟨v, h'⟩ := r
  have e : h' = h := e
  subst e
  exact OpRes.pure hm hu (by simp [execOp, ho, Instr.loadAt, Instr.sureAddr, hv, hrun])

theorem op_store (t : TypeId) (x y : Operand) (ho : o.op = .store t x y) {call : FuncId → FF} (hr : (mkOp P S call o.type (.store t x y)).f T h = some r)
    (hx : EvOk ρ σ T val x) (hy : EvOk ρ σ T val y) (hm : HRel ρ B σ h.blk w) : h.next ≤ r.h.next ∧ OpRes P ρ B val o σ h w r := by
  have hr' : (mkStore P t x y).f T h = some r := hr
  -- the end of each way
  have fin : ∀ {a : Go.Addr} {u : Value} {w' : World} {h' : Heap}, val x = .pointer (some a) → val y = u → (∀ n, szOf P t = some n → u.cells.size = n ∧ (storeCells a u.cells.toList).run P w = .ok () w') → (∃ n, szOf P t = some n) →
      HRel ρ B σ h'.blk w' → FR σ h.blk w σ h'.blk w' → h'.next = h.next → r = ⟨.tup [], h'⟩ → h.next ≤ r.h.next ∧ OpRes P ρ B val o σ h w r := fun {a u w' h'} e1 e2 hrun hsz hm' hf hn hr => by
    subst hr
    obtain ⟨n, hsz⟩ := hsz
    obtain ⟨h1, h2⟩ := hrun n hsz
    refine ⟨by show h.next ≤ h'.next; omega, .inl ⟨undef, w', σ, ⟨by show Ext σ σ h.next h'.next; exact Ext.refl _ _ _, ⟨#[], rfl, LR.nil⟩, hm', hf⟩, .inr ⟨?_, rfl⟩⟩⟩
    simp [execOp, ho, Instr.storeAt, Instr.sureAddr, e1, e2, storeVar, szOf_run hsz, h1, h2]
  have agg : ∀ {n : Nat}, szOf P t = some n → ∀ {v : AV} {p : PO} {u : AV} {h' : Heap}, (mkEv x).f T = some v → asPtr v = some p → (mkEv y).f T = some u → and (isAggV u) (Nat.beq u.size n) = true →
      h.setCells p.k p.o n u.cells = some h' → r = ⟨.tup [], h'⟩ → h.next ≤ r.h.next ∧ OpRes P ρ B val o σ h w r := fun {n} hsz {v p u h'} hv hp hu hc hs hr => by
    obtain ⟨ha, hb⟩ := and_true' hc
    have hb := beq_eq hb
    have e1 := hx _ hv
    rw [asPtr_eq hp] at e1
    obtain ⟨b, d, c, hsg, e1⟩ := e1
    obtain ⟨h1, h2⟩ := VB.cells (isAgg_VB ha (hy _ hu))
    obtain ⟨w', hrun, hm', hf, hn⟩ := hm.setCells (P := P) hs hsg (by omega) h2
    refine fin e1 rfl (fun n' hn' => ?_) ⟨n, hsz⟩ hm' hf hn hr
    rw [hsz] at hn'
    cases hn'
    exact ⟨by have := h2.1; simp at this; omega, hrun⟩
  unfold mkStore at hr'
  split at hr'
  · rename_i hsz
    obtain ⟨v, hv, hr'⟩ := ob_some hr'
    obtain ⟨p, hp, hr'⟩ := ob_some hr'
    obtain ⟨u, hu, hr'⟩ := ob_some hr'
    cases hc : isCell u with
    | true =>
      rw [hc] at hr'
      obtain ⟨h', hs, hr'⟩ := ob_some (show ob (h.setCell p.k p.o u) (fun h => some (⟨.tup [], h⟩ : VH)) = some r from hr')
      have e1 := hx _ hv
      rw [asPtr_eq hp] at e1
      obtain ⟨b, d, c, hsg, e1⟩ := e1
      have hvc := isCell_VC hc (hy _ hu)
      obtain ⟨w', hrun, hm', hf, hn⟩ := hm.setCell (P := P) hs hsg hvc
      refine fin e1 rfl (fun n' hn' => ?_) ⟨1, hsz⟩ hm' hf hn (by cases hr'; rfl)
      rw [hsz] at hn'
      cases hn'
      rw [oneCell_cells (VC.oneCell hvc)]
      exact ⟨rfl, hrun⟩
    | false =>
      rw [hc] at hr'
      obtain ⟨hc', hr'⟩ := bb_true (show bb (and (isAggV u) (Nat.beq u.size 1)) (ob (h.setCells p.k p.o 1 u.cells) fun h => some (⟨.tup [], h⟩ : VH)) none = some r from hr')
      obtain ⟨h', hs, hr'⟩ := ob_some hr'
      exact agg hsz hv hp hu hc' hs (by cases hr'; rfl)
  · rename_i n hsz _
    obtain ⟨v, hv, hr'⟩ := ob_some hr'
    obtain ⟨p, hp, hr'⟩ := ob_some hr'
    obtain ⟨u, hu, hr'⟩ := ob_some hr'
    obtain ⟨hc', hr'⟩ := bb_true hr'
    obtain ⟨h', hs, hr'⟩ := ob_some hr'
    exact agg (by assumption) hv hp hu hc' hs (by cases hr'; rfl)
  · cases hr'

/-! ### new variables -/
theorem new_post {h' : KH} {n : Nat} {l : List AV} {c : Array Value} {e : TypeId} (hm : HRel ρ B σ h.blk w) (ha : h.allocCells n l = some h') (hl : LR (VC ρ σ) l c.toList) (hn : l.length = n)
    (hfresh : Fresh σ h.next h'.h.next) (hB : B ≤ w.heap.size) {v : AV} {u : Value} (hv : ∀ σ' b d t, σ' h'.k = some (b, d, t) → b = w.heap.size → d = 0 → t = c.size → Le σ σ' → VR ρ σ' v u) :
    h.next ≤ h'.h.next ∧ ∃ σ', Post ρ B σ h w ⟨v, h'.h⟩ u σ' { w with heap := w.heap.push (.cells c e (0, 0)) } := by
  have hk : h'.h.next = h.next + 1 := by
    obtain ⟨b, hb, ha⟩ := ob_some ha
    exact (alloc_some ha).2.1
  have hf : σ h.next = none := hfresh h.next (Nat.le_refl _) (by omega)
  obtain ⟨h1, h2, h3, h4⟩ := hm.allocRow (c := c) (e := e) ha hn (by have := hl.1; simp at this; omega) (fun i v hv => by
    obtain ⟨u, hu, hr⟩ := hl.get hv
    exact ⟨u, by simpa using hu, hr⟩) hf hB
  have hext := Ext.put (k := h.next) (w.heap.size, 0, c.size) hf
  refine ⟨by omega, _, ⟨?_, ?_, h3, h4⟩⟩
  · show Ext σ _ h.next h'.h.next
    rw [hk]; exact hext
  · refine hv _ w.heap.size 0 c.size ?_ rfl rfl rfl hext.le
    rw [h1]; exact Sg.put_same _ _ _

theorem op_alloc (e : TypeId) (ho : o.op = .alloc e) {call : FuncId → FF} (hr : (mkOp P S call o.type (.alloc e)).f T h = some r)
    (hm : HRel ρ B σ h.blk w) (hfresh : Fresh σ h.next r.h.next) (hB : B ≤ w.heap.size) : h.next ≤ r.h.next ∧ OpRes P ρ B val o σ h w r := by
  have hr' : (mkAlloc P e).f T h = some r := hr
  unfold mkAlloc at hr'
  split at hr'
  · rename_i z hz
    split at hr'
    · rename_i b hb
      obtain ⟨h', ha, hr'⟩ := ob_some hr'
      cases hr'
      obtain ⟨zv, hzr, hzl⟩ := zeroCellsA_some (ρ := ρ) (σ := σ) hz
      have ha' : h.allocCells (lenL z) z = some h' := by
        unfold Heap.allocCells
        rw [hb]; exact ha
      obtain ⟨h1, σ', hp⟩ := new_post (e := e) hm ha' hzl (lenL_eq z).symm hfresh hB (v := .ptr h'.k 0) (u := .pointer (some ⟨w.heap.size, 0, none⟩))
        fun σ' b d t hs hb hd ht _ => ⟨b, d, t, hs, by rw [hb, hd]⟩
      refine ⟨h1, .inl ⟨_, _, σ', hp, .inl ?_⟩⟩
      simp [execOp, ho, Instr.alloc, hzr, newVar, newRow]
    · cases hr'
  · cases hr'

theorem op_box (t : TypeId) (x : Operand) (ho : o.op = .box t x) {call : FuncId → FF} (hr : (mkOp P S call o.type (.box t x)).f T h = some r)
    (hx : EvOk ρ σ T val x) (hm : HRel ρ B σ h.blk w) (hfresh : Fresh σ h.next r.h.next) (hB : B ≤ w.heap.size) : h.next ≤ r.h.next ∧ OpRes P ρ B val o σ h w r := by
  obtain ⟨v, hv, hr'⟩ := ob_some (show ob ((mkEv x).f T) (fun v => bb (noTup v) (ob (h.allocCells v.size v.cells) fun r => some (⟨.ptr r.k 0, r.h⟩ : VH)) none) = some r from hr)
  obtain ⟨hn, hr'⟩ := bb_true hr'
  obtain ⟨h', ha, hr'⟩ := ob_some hr'
  cases hr'
  obtain ⟨h1, h2⟩ := VB.cells (noTup_VB hn (hx _ hv))
  obtain ⟨h3, σ', hp⟩ := new_post (e := t) hm ha h2 h1.symm hfresh hB (v := .ptr h'.k 0) (u := .pointer (some ⟨w.heap.size, 0, none⟩))
    fun σ' b d t hs hb hd ht _ => ⟨b, d, t, hs, by rw [hb, hd]⟩
  refine ⟨h3, .inl ⟨_, _, σ', hp, .inl ?_⟩⟩
  simp [execOp, ho, Instr.box, newVar, newRow]

/-! ### functions as values -/
theorem VA_list : ∀ {l : List AV} {us : List Value}, (∀ v ∈ l, isAtom v = true) → LR (VR ρ σ) l us → LR (VA ρ σ) l us := fun h hl =>
  ⟨hl.1, fun i a b ha hb => by
    have h1 := h a (List.mem_of_getElem? ha)
    have h2 := hl.2 i a b ha hb
    cases a <;> first | (cases h1; done) | exact h2⟩
end

end Go.Proofs.YtogifafehihjgaaGreat.Ab
