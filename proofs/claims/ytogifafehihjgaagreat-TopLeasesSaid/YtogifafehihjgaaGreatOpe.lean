/-
  The executor's operations against the model's, fifth part: append, clear, len, the plain builtins, ranges over strings.
-/
import Derived.Test.YtogifafehihjgaaGreatOpd
import Derived.Laws.AppendOwn
namespace Go.Proofs.YtogifafehihjgaaGreat.Ab
open Go

section
variable {P : Program} {S : Syms} {ρ : Nat → Value} {B : Nat} {σ : Sg} {T : TM} {h : Heap} {w : World} {val : Operand → Value} {o : Oper} {r : VH}

theorem bytesOfT_some {t n : Nat} (e : bytesOfT P t = some n) : ∃ i, P.info? t = some i ∧ i.bytes = n := by
  unfold bytesOfT at e
  cases hi : P.info? t with
  | none => rw [hi] at e; cases e
  | some i => rw [hi] at e; cases e; exact ⟨i, rfl, rfl⟩

/-- a call of a builtin -/
theorem exec_builtin {c : Call} {b : Builtin} (ho : o.op = .call c) (hc : c.callee = .builtin b) :
    execOp val o = builtin b c.argTypes o.type (c.args.map fun | .const _ => true | _ => false) (c.args.map val) := by
  simp only [execOp, ho, resolve, hc]
  rfl

/-! ### what is appended -/
theorem srcCells_run {size : Nat} {v : AV} {u : Value} {c : NL} (hs : srcCells h size v = some c) (hu : VR ρ σ v u) (hm : HRel ρ B σ h.blk w) :
    ∃ us : List Value, (∀ w, (Builtin.lenOf u).run P w = .ok c.n w) ∧ (Builtin.firstCells size c.n u).run P w = .ok us.toArray w ∧ (Builtin.firstCells size c.n u).run P w.drew = .ok us.toArray w.drew ∧ LR (VC ρ σ) c.l us ∧ us.length = c.n * size := by
  unfold srcCells at hs
  split at hs
  · cases hs
    have hu : u = .slice none 0 0 := hu
    subst hu
    exact ⟨[], fun w => by simp [Builtin.lenOf], by simp [Builtin.firstCells], by simp [Builtin.firstCells], LR.nil, by simp⟩
  · cases hs
    obtain ⟨a, cc, rfl⟩ := hu
    exact ⟨[], fun w => by simp [Builtin.lenOf], by simp [Builtin.firstCells, loadCells, loadCellsFrom], by simp [Builtin.firstCells, loadCells, loadCellsFrom], LR.nil, by simp⟩
  · rename_i k off len cap z
    obtain ⟨l, hl, hs⟩ := ob_some hs
    cases hs
    obtain ⟨b, d, t, cc, hsg, rfl, _⟩ := hu
    obtain ⟨us, h1, h2, h3, h4⟩ := hm.cellsRun (P := P) hl hsg
    have h4' : ∀ (j : Nat) (v : Value), us[j]? = some v → w.cell? ((⟨b, d + off, none⟩ : Addr).add j) = some v := fun j v hj => by rw [Addr.add_none]; exact h4 j v hj
    exact ⟨us, fun w => by simp [Builtin.lenOf], run_firstCells_some (P := P) w size len ⟨b, d + off, none⟩ len cc us h1 h4',
      run_firstCells_some (P := P) w.drew size len ⟨b, d + off, none⟩ len cc us h1 (by simpa using h4'), h2, h1⟩
  · cases hs

theorem run_append_place {t1 t2 ty e e2 : TypeId} {i : TypeInfo} (h1 : P.underlying t1 = some (.slice e)) (h2 : P.underlying t2 = some (.slice e2)) (hi : P.info? e = some i)
    {a : Addr} {len c n : Nat} {x : Value} {us : List Value} (hx : ∀ w, (Builtin.lenOf x).run P w = .ok n w) (hf : (Builtin.firstCells i.size n x).run P w = .ok us.toArray w) (hle : len + n ≤ c)
    {w' : World} (hst : (storeCells (a.add (len * i.size)) us).run P w = .ok () w') :
    (Builtin.append_ #[t1, t2] ty #[.slice (some a) len c, x]).run P w = .ok (.slice (some a) (len + n) c) w' := by
  simp [Builtin.append_, run_underlying h1, run_underlying h2, sizeOf, typeInfo, hi, hx, hle, hf, hst]

theorem run_append_none {t1 t2 ty e e2 : TypeId} {i : TypeInfo} (h1 : P.underlying t1 = some (.slice e)) (h2 : P.underlying t2 = some (.slice e2)) (hi : P.info? e = some i)
    {x : Value} {us : List Value} (hx : ∀ w, (Builtin.lenOf x).run P w = .ok 0 w) (hf : (Builtin.firstCells i.size 0 x).run P w = .ok us.toArray w) :
    (Builtin.append_ #[t1, t2] ty #[.slice none 0 0, x]).run P w = .ok (.slice none 0 0) w := by
  simp [Builtin.append_, run_underlying h1, run_underlying h2, sizeOf, typeInfo, hi, hx, hf]

theorem run_append_grown {t1 t2 ty e e2 : TypeId} {i : TypeInfo} {z : Value} (h1 : P.underlying t1 = some (.slice e)) (h2 : P.underlying t2 = some (.slice e2)) (hi : P.info? e = some i) (hz : i.zero = some z)
    {base : Option Addr} {len c n : Nat} {x : Value} {olds us : List Value} (hx : ∀ w, (Builtin.lenOf x).run P w = .ok n w) (hf : (Builtin.firstCells i.size n x).run P w.drew = .ok us.toArray w.drew)
    (hfo : (Builtin.firstCells i.size len (.slice base len c)).run P w.drew = .ok olds.toArray w.drew)
    (hg : c < len + n) (hbytes : 0 < i.bytes) (hfit : (len + n) * i.bytes ≤ 140737488355328) :
    (Builtin.append_ #[t1, t2] ty #[.slice base len c, x]).run P w =
      .ok (.slice (some ⟨w.heap.size, 0, none⟩) (len + n) (grownCap w (len + n) c e))
        (w.drew.alloc (.cells (olds.toArray ++ us.toArray ++ Builtin.zeroCells z.cells (grownCap w (len + n) c e - (len + n))) e)) := by
  have hn : ¬ (len + n ≤ c) := by omega
  have hfit' := growslice_fits (old := c) (bytes := i.bytes) hg hfit
  have h48' : ¬ (281474976710656 < Builtin.nextslicecap (len + n) c * i.bytes) := by omega
  have h63 : len + n ≤ 140737488355328 := Nat.le_trans (Nat.le_mul_of_pos_right _ hbytes) hfit
  have h63' : ¬ (9223372036854775807 < ((len : Int) + (n : Int))) := by omega
  simp [Builtin.append_, run_underlying h1, run_underlying h2, sizeOf, typeInfo, zeroValue, hi, hz, hx, hn, h63', h48', Question.forced, hf, hfo, newRow, grownCap]
  congr 2
  apply Array.ext'
  simp [List.append_assoc]

theorem delB_same {h : Heap} {k : Nat} {x : Blk} (hb : h.blk k = some x) : (h.delB k).blk k = none := blk_set_same h none (blk_lt hb)
theorem delB_ne {h : Heap} {k j : Nat} {x : Blk} (hb : h.blk k = some x) (hj : j ≠ k) : (h.delB k).blk j = h.blk j := blk_set_ne h none (blk_lt hb) hj
theorem delB_sub {h : Heap} {k : Nat} {x : Blk} (hb : h.blk k = some x) : ∀ j y, (h.delB k).blk j = some y → h.blk j = some y := fun j y hy => by
  by_cases e : j = k
  · subst e; rw [delB_same hb] at hy; cases hy
  · rwa [delB_ne hb e] at hy
theorem FR.sub {m m' : Mem} (hs : ∀ j y, m' j = some y → m j = some y) : FR σ m w σ m' w :=
  ⟨Nat.le_refl _, fun _ _ _ => rfl, fun _ hf => .inl (hf.sub hs), rfl, rfl, rfl⟩

/-- a new row of cells whose first ones are known, as a value's place -/
theorem row_post {h' : KH} {n : Nat} {l : List AV} {c : Array Value} {e : TypeId} {h0 : Heap} (hm : HRel ρ B σ h0.blk w) (hsub : ∀ j y, h0.blk j = some y → h.blk j = some y) (hnext : h0.next = h.next)
    (ha : h0.allocCells n l = some h') (hl : LR (VC ρ σ) l (c.toList.take n)) (hn : l.length = n)
    (hfresh : Fresh σ h.next h'.h.next) (hB : B ≤ w.heap.size) {v : AV} {u : Value} (hv : ∀ σ' b d t, σ' h'.k = some (b, d, t) → b = w.heap.size → d = 0 → t = c.size → Le σ σ' → VR ρ σ' v u) :
    h.next ≤ h'.h.next ∧ ∃ σ', Post ρ B σ h w ⟨v, h'.h⟩ u σ' { w with heap := w.heap.push (.cells c e (0, 0)) } := by
  have hk : h'.h.next = h0.next + 1 := by
    obtain ⟨b, hb, ha⟩ := ob_some ha
    exact (alloc_some ha).2.1
  have hf : σ h0.next = none := hfresh h0.next (by omega) (by omega)
  obtain ⟨h1, h2, h3, h4⟩ := hm.allocRow (c := c) (e := e) ha hn (by have := hl.1; simp at this; omega) (fun i v hv => by
    obtain ⟨u, hu, hr⟩ := hl.get hv
    rw [List.getElem?_take] at hu
    split at hu
    · exact ⟨u, by simpa using hu, hr⟩
    · cases hu) hf hB
  have hext := Ext.put (k := h0.next) (w.heap.size, 0, c.size) hf
  refine ⟨by omega, _, ⟨?_, ?_, h3, (FR.sub hsub).trans h4⟩⟩
  · show Ext σ _ h.next h'.h.next
    rw [hk, ← hnext]; exact hext
  · refine hv _ w.heap.size 0 c.size ?_ rfl rfl rfl hext.le
    rw [h1]; exact Sg.put_same _ _ _

theorem Post.undrew {r : VH} {u : Value} {σ' : Sg} {w' : World} (hp : Post ρ B σ h w.drew r u σ' w') : Post ρ B σ h w r u σ' w' :=
  ⟨hp.ext, hp.val, hp.mem, ⟨hp.frame.size, hp.frame.keep, hp.frame.foot, hp.frame.tape, hp.frame.os, hp.frame.output⟩⟩

/-- a row's part under a new key, its old key forgotten -/
theorem HRel.regrow {h : Heap} {k b d t off N : Nat} {x : Blk} {r : KH} {l : List AV} {c' : Array Value} {e : TypeId} {w' : World} (hm : HRel ρ B σ h.blk w) (hk : h.blk k = some x) (hs : σ k = some (b, d, t))
    (ha : (h.delB k).allocCells N l = some r) (hl : l.length = N) (hfresh : σ h.next = none) (hrow : w'.heap[b]? = some (.cells c' e (0, 0))) (hsz : c'.size = d + t) (hoff : off + N ≤ t)
    (hoth : ∀ j, j ≠ b → w'.heap[j]? = w.heap[j]?) (hsize : w'.heap.size = w.heap.size) (h1 : w'.tape = w.tape) (h2 : w'.os = w.os) (h3 : w'.output = w.output)
    (hcells : ∀ (i : Nat) (v : AV), l[i]? = some v → ∃ u, c'[d + off + i]? = some u ∧ VC ρ σ v u) :
    r.k = h.next ∧ r.h.next = h.next + 1 ∧ HRel ρ B (σ.put h.next (b, d + off, t - off)) r.h.blk w' ∧ FR σ h.blk w (σ.put h.next (b, d + off, t - off)) r.h.blk w' := by
  obtain ⟨y, hy, ha⟩ := ob_some ha
  obtain ⟨a1, a2, a3, a4⟩ := alloc_some ha
  have hnx : (h.delB k).next = h.next := rfl
  rw [hnx] at a1 a2 a3 a4
  have hle := (Ext.put (k := h.next) (b, d + off, t - off) hfresh).le
  have hBb : B ≤ b := by
    obtain ⟨b', d', t', hs', hB, _⟩ := hm.has k x hk
    rw [hs] at hs'; cases hs'
    exact hB
  have hbr : BR ρ (σ.put h.next (b, d + off, t - off)) w' y b (d + off) (t - off) :=
    BR.mk hy hl (by omega) hrow (by omega) fun i v hv => by
      obtain ⟨u, hu, hr⟩ := hcells i v hv
      exact ⟨u, hu, hr.mono hle⟩
  have old : ∀ j z, j ≠ h.next → r.h.blk j = some z → j ≠ k ∧ h.blk j = some z := fun j z hj hz => by
    rw [a4 j hj] at hz
    by_cases ek : j = k
    · subst ek; rw [delB_same hk] at hz; cases hz
    · exact ⟨ek, by rwa [delB_ne hk ek] at hz⟩
  have other : ∀ j z b' d' t', j ≠ h.next → r.h.blk j = some z → σ j = some (b', d', t') → b' ≠ b := fun j z b' d' t' hj hz hsj eb => by
    obtain ⟨e1, e2⟩ := old j z hj hz
    subst eb
    exact e1 (hm.inj j k z x b' d' t' d t e2 hk hsj hs)
  refine ⟨a1, a2, ⟨fun j z hz => ?_, fun j j' z z' bb dd tt dd' tt' hz hz' hsj hsj' => ?_⟩, ?_⟩
  · by_cases e1 : j = h.next
    · subst e1
      rw [a3] at hz; cases hz
      exact ⟨_, _, _, Sg.put_same _ _ _, hBb, hbr⟩
    · obtain ⟨e2, e3⟩ := old j z e1 hz
      obtain ⟨b', d', t', hs', hB', hbr'⟩ := hm.has j z e3
      exact ⟨b', d', t', by rw [Sg.put_ne _ _ e1]; exact hs', hB', (hbr'.heap (hoth b' (other j z b' d' t' e1 hz hs'))).le hle⟩
  · by_cases e1 : j = h.next <;> by_cases e2 : j' = h.next
    · rw [e1, e2]
    · subst e1
      rw [Sg.put_same] at hsj; cases hsj
      rw [Sg.put_ne _ _ e2] at hsj'
      exact absurd rfl (other j' z' _ _ _ e2 hz' hsj')
    · subst e2
      rw [Sg.put_same] at hsj'; cases hsj'
      rw [Sg.put_ne _ _ e1] at hsj
      exact absurd rfl (other j z _ _ _ e1 hz hsj)
    · rw [Sg.put_ne _ _ e1] at hsj
      rw [Sg.put_ne _ _ e2] at hsj'
      exact hm.inj j j' z z' bb dd tt dd' tt' (old j z e1 hz).2 (old j' z' e2 hz').2 hsj hsj'
  · refine ⟨by omega, fun j _ hf => hoth j fun eb => hf ⟨k, x, d, t, hk, by rw [eb]; exact hs⟩, fun j hj => ?_, h1, h2, h3⟩
    obtain ⟨i, z, dd, tt, hz, hsi⟩ := hj
    by_cases e1 : i = h.next
    · subst e1
      rw [Sg.put_same] at hsi; cases hsi
      exact .inl ⟨k, x, d, t, hk, hs⟩
    · rw [Sg.put_ne _ _ e1] at hsi
      exact .inl ⟨i, z, dd, tt, (old i z e1 hz).2, hsi⟩

theorem LR.oneCell' {l : List AV} {us : List Value} (hl : LR (VC ρ σ) l us) : ∀ v ∈ us, v.oneCell' = true := fun v hv => by
  obtain ⟨i, hi, rfl⟩ := List.getElem_of_mem hv
  have hi' : i < l.length := hl.1 ▸ hi
  have := VC.oneCell (hl.2 i l[i] us[i] (by simp [hi']) (by simp [hi]))
  generalize us[i] = x at this
  cases x <;> first | rfl | cases this

/-- a store into a row of cells, wherever there is room -/
theorem storeRow_run {b off : Nat} {c : Array Value} {e : TypeId} {us : List Value} (hc : w.heap[b]? = some (.cells c e (0, 0))) (hle : off + us.length ≤ c.size) (h1 : ∀ v ∈ us, v.oneCell' = true) :
    ∃ c' w', (storeCells ⟨b, off, none⟩ us).run P w = .ok () w' ∧ w'.heap[b]? = some (.cells c' e (0, 0)) ∧ c'.size = c.size ∧
      (∀ i, c'[i]? = if off ≤ i ∧ i < off + us.length then us[i - off]? else c[i]?) ∧ (∀ j, j ≠ b → w'.heap[j]? = w.heap[j]?) ∧ w'.heap.size = w.heap.size ∧ w'.tape = w.tape ∧ w'.os = w.os ∧ w'.output = w.output := by
  refine ⟨_, _, run_storeCells_at P b off e us 0 c w hc (by simpa using hle) h1, setRow_heap w b c _ e (0, 0) hc, by simp; omega, fun i => ?_, fun j hj => setRow_other w b j _ hj, by simp, rfl, rfl, rfl⟩
  simp only [Nat.add_zero, List.getElem?_toArray]
  by_cases h2 : i < off
  · rw [if_neg (by omega), List.append_assoc, List.getElem?_append_left (by simp; omega), List.getElem?_take, if_pos h2]; simp
  · by_cases h3 : i < off + us.length
    · rw [if_pos ⟨by omega, h3⟩, List.getElem?_append_left (by simp; omega), List.getElem?_append_right (by simp; omega)]
      congr 1
      simp; omega
    · rw [if_neg (by omega), List.getElem?_append_right (by simp; omega), List.getElem?_drop]
      simp only [List.length_append, List.length_take, Array.length_toList, Array.getElem?_toList]
      congr 1
      omega

theorem BR.row {blk : Blk} {b d t o n : Nat} {l : List AV} (h : BR ρ σ w blk b d t) (hv : blk.cellsAt o n = some l) : ∃ c e, w.heap[b]? = some (.cells c e (0, 0)) ∧ c.size = d + t := by
  cases blk with
  | it s pos => cases hv
  | sm k r => obtain ⟨_, _, c, e, hc, hsz, _⟩ := h; exact ⟨c, e, hc, hsz⟩
  | bg k tr => obtain ⟨_, c, e, hc, hsz, _⟩ := h; exact ⟨c, e, hc, hsz⟩

theorem op_append (c : Call) (s x : Operand) (t1 t2 : TypeId) (ho : o.op = .call c) (hc : c.callee = .builtin .append) (hats : c.argTypes = #[t1, t2]) (hargs : c.args = #[s, x])
    (hr : (mkAppend P t1 t2 s x).f T h = some r) (hs : EvOk ρ σ T val s) (hx : EvOk ρ σ T val x) (hm : HRel ρ B σ h.blk w) (hfresh : Fresh σ h.next r.h.next) (hB : B ≤ w.heap.size) :
    h.next ≤ r.h.next ∧ OpRes P ρ B val o σ h w r := by
  have key : ∀ {u : Value} {w' : World}, (Builtin.append_ #[t1, t2] o.type #[val s, val x]).run P w = .ok u w' → (execOp val o).run P w = .ok (.value u) w' := fun {u w'} hz => by
    rw [exec_builtin ho hc, hats, hargs]
    have e : (#[s, x] : Array Operand).map val = #[val s, val x] := by simp
    rw [e]
    simp only [builtin, Sem.run_bind, hz, Result.andThen_ok]
    rfl
  unfold mkAppend at hr
  split at hr
  · rename_i e e2 hu1 hu2
    split at hr
    · rename_i size bytes z hsz hby hz
      cases hcnd : and (Nat.blt 0 size) (and (Nat.blt 0 bytes) (Nat.beq (lenL z) size)) with
      | false => rw [hcnd] at hr; cases hr
      | true =>
      rw [hcnd] at hr
      obtain ⟨c1', c23⟩ := and_true' hcnd
      obtain ⟨c2', c3⟩ := and_true' c23
      obtain ⟨i, zv, hi, hiz, hzl⟩ := zeroCellsA_info (ρ := ρ) (σ := σ) hz
      obtain ⟨i1, hi1, rfl⟩ := szOf_some hsz
      obtain ⟨i2, hi2, rfl⟩ := bytesOfT_some hby
      rw [hi] at hi1 hi2; cases hi1; cases hi2
      have hzs : zv.cells.size = i.size := by
        have h1 := hzl.1
        rw [← lenL_eq, beq_eq c3] at h1
        simpa using h1.symm
      have c1 := blt_lt c1'
      have c2 := blt_lt c2'
      obtain ⟨v, hv, hr⟩ := ob_some (show ob ((mkEv s).f T) (fun v => ob ((mkEv x).f T) fun u => ob (srcCells h i.size u) fun c => evAppend h i.size i.bytes v c.n c.l) = some r from hr)
      obtain ⟨u, hu, hr⟩ := ob_some hr
      obtain ⟨src, hsrc, hr⟩ := ob_some hr
      obtain ⟨us, hlen, hf, hf', hul, husl⟩ := srcCells_run (P := P) (w := w) hsrc (hx u hu) hm
      have hsv := hs v hv
      unfold evAppend at hr
      split at hr
      · -- nothing there yet
        have hsv : val s = .slice none 0 0 := hsv
        cases h0 : Nat.beq src.n 0 with
        | true =>
          rw [h0] at hr
          cases hr
          have h0' := beq_eq h0
          rw [h0'] at hlen hf
          exact OpRes.pure hm (u := .slice none 0 0) (rfl : _ = _) (key (by rw [hsv]; exact run_append_none hu1 hu2 hi hlen hf))
        | false =>
          rw [h0] at hr
          obtain ⟨hfit, hr⟩ := bb_true (show bb (Nat.ble (Nat.mul src.n i.bytes) 140737488355328) (ob (h.allocCells (src.n * i.size) src.l) fun r => some (⟨.slice r.k 0 src.n src.n i.size, r.h⟩ : VH)) none = some r from hr)
          obtain ⟨h', ha, hr⟩ := ob_some hr
          cases hr
          have hn0 : 0 < src.n := by
            rcases Nat.eq_zero_or_pos src.n with e | e
            · rw [e] at h0; cases h0
            · exact e
          have hfit := ble_le hfit
          have hrun := run_append_grown (P := P) (w := w) (ty := o.type) (base := none) (len := 0) (c := 0) (olds := []) hu1 hu2 hi hiz hlen hf' (by simp [Builtin.firstCells]) (by omega) c2 (by rw [Nat.zero_add]; exact hfit)
          rw [← hsv] at hrun
          have hge := grownCap_ge w (0 + src.n) 0 e
          generalize grownCap w (0 + src.n) 0 e = cap' at hrun hge
          obtain ⟨h1, σ', hp⟩ := row_post (w := w.drew) (e := e) (h := h) (c := ([] : List Value).toArray ++ us.toArray ++ Builtin.zeroCells zv.cells (cap' - (0 + src.n))) ⟨hm.has, hm.inj⟩ (fun _ _ h => h) rfl ha
            (by
              have e1 : (([] : List Value).toArray ++ us.toArray ++ Builtin.zeroCells zv.cells (cap' - (0 + src.n))).toList.take (src.n * i.size) = us := by
                simp [husl]
              rw [e1]; exact hul)
            (by rw [hul.1, husl]) hfresh hB (v := .slice h'.k 0 src.n src.n i.size) (u := .slice (some ⟨w.heap.size, 0, none⟩) (0 + src.n) cap')
            fun σ' b d t hs hb hd ht _ => ⟨b, d, t, cap', hs, by rw [hb, hd, Nat.zero_add]; rfl, by omega, fun e0 => by omega, fun _ => by
              rw [ht]
              simp [size_zeroCells, husl, hzs]
              have : cap' * i.size = src.n * i.size + (cap' - src.n) * i.size := by rw [← Nat.add_mul]; congr 1; omega
              omega⟩
          exact ⟨h1, .inl ⟨_, _, σ', hp.undrew, .inl (key hrun)⟩⟩
      · rename_i k off len cap z _ _
        obtain ⟨b, d, t, cc, hsg, hsv, hcc, hz0, hzt⟩ := hsv
        cases hroom : Nat.ble (Nat.add len src.n) cap with
        | true =>
          rw [hroom] at hr
          obtain ⟨h', hset, hr⟩ := ob_some (show ob (h.setCells k (off + len * i.size) (src.n * i.size) src.l) (fun h => some (⟨.slice k off (Nat.add len src.n) cap z, h⟩ : VH)) = some r from hr)
          cases hr
          obtain ⟨w', hst, hm', hf', hn⟩ := hm.setCells (P := P) hset hsg (by rw [hul.1, husl]) hul
          have hroom := ble_le hroom
          have hroom : len + src.n ≤ cap := hroom
          have hrun := run_append_place (P := P) (w := w) (ty := o.type) (a := ⟨b, d + off, none⟩) (len := len) (c := cc) hu1 hu2 hi hlen hf (by omega) (w' := w') (by rw [Addr.add_none]; simpa [Nat.add_assoc] using hst)
          rw [← hsv] at hrun
          refine ⟨by show h.next ≤ h'.next; omega, .inl ⟨_, w', σ, ⟨?_, ⟨b, d, t, cc, hsg, rfl, hcc, hz0, hzt⟩, hm', hf'⟩, .inl (key hrun)⟩⟩
          show Ext σ σ h.next h'.next
          exact Ext.refl _ _ _
        | false =>
          rw [hroom] at hr
          obtain ⟨hcnd, hr⟩ := bb_true hr
          obtain ⟨d1, d2⟩ := and_true' hcnd
          have d1 := blt_lt d1
          have d2 : (len + src.n) * i.bytes ≤ 140737488355328 := ble_le d2
          obtain ⟨old, hold, hr⟩ := ob_some hr
          have hnoroom : cap < len + src.n := by
            rcases Nat.lt_or_ge cap (len + src.n) with h' | h'
            · exact h'
            · have : Nat.ble (Nat.add len src.n) cap = true := Nat.ble_eq_true_of_le h'
              rw [this] at hroom; cases hroom
          obtain ⟨olds, ol1, ol2, ol3, ol4⟩ := hm.cellsRun (P := P) hold hsg
          have hlk : (appL old src.l).length = (len + src.n) * i.size := by
            rw [appL_eq, List.length_append, ol2.1, hul.1, ol1, husl, Nat.add_mul]
          -- a new row
          have grown : ∀ {h0 : Heap} {h' : KH}, cc < len + src.n → HRel ρ B σ h0.blk w → (∀ j y, h0.blk j = some y → h.blk j = some y) → h0.next = h.next →
              h0.allocCells ((len + src.n) * i.size) (appL old src.l) = some h' → Fresh σ h.next h'.h.next →
              h.next ≤ h'.h.next ∧ OpRes P ρ B val o σ h w ⟨.slice h'.k 0 (len + src.n) (len + src.n) i.size, h'.h⟩ := fun {h0 h'} hlt hm0 hsub hnx ha hfr => by
            have hfo := run_firstCells_some (P := P) w.drew i.size len ⟨b, d + off, none⟩ len cc olds ol1 (by
              intro j v hj
              rw [Addr.add_none]
              simpa using ol4 j v hj)
            have hrun := run_append_grown (P := P) (w := w) (ty := o.type) (base := some ⟨b, d + off, none⟩) (len := len) (c := cc) (olds := olds) hu1 hu2 hi hiz hlen hf' hfo hlt c2 d2
            rw [← hsv] at hrun
            have hge := grownCap_ge w (len + src.n) cc e
            generalize grownCap w (len + src.n) cc e = cap' at hrun hge
            obtain ⟨h1, σ', hp⟩ := row_post (w := w.drew) (e := e) (h := h) (c := olds.toArray ++ us.toArray ++ Builtin.zeroCells zv.cells (cap' - (len + src.n))) ⟨hm0.has, hm0.inj⟩ hsub hnx ha
              (by
                have e1 : (olds.toArray ++ us.toArray ++ Builtin.zeroCells zv.cells (cap' - (len + src.n))).toList.take ((len + src.n) * i.size) = olds ++ us := by
                  rw [Array.toList_append, List.take_append_of_le_length (by simp [ol1, husl, Nat.add_mul]), List.take_of_length_le (by simp [ol1, husl, Nat.add_mul])]
                  simp
                rw [e1, appL_eq]; exact ol2.append hul)
              hlk hfr hB (v := .slice h'.k 0 (len + src.n) (len + src.n) i.size) (u := .slice (some ⟨w.heap.size, 0, none⟩) (len + src.n) cap')
              fun σ' b d t hs hb hd ht _ => ⟨b, d, t, cap', hs, by rw [hb, hd]; rfl, by omega, fun e0 => by omega, fun _ => by
                rw [ht]
                simp [size_zeroCells, husl, hzs, ol1]
                have : cap' * i.size = len * i.size + src.n * i.size + (cap' - (len + src.n)) * i.size := by rw [← Nat.add_mul, ← Nat.add_mul]; congr 1; omega
                omega⟩
            exact ⟨h1, .inl ⟨_, _, σ', hp.undrew, .inl (key hrun)⟩⟩
          cases z with
          | zero =>
            obtain ⟨h', ha, hr⟩ := ob_some hr
            cases hr
            exact grown (by rw [hz0 rfl]; exact hnoroom) hm (fun _ _ h => h) rfl ha hfresh
          | succ z =>
            obtain ⟨hsz', hr⟩ := bb_true hr
            obtain ⟨h', ha, hr⟩ := ob_some hr
            cases hr
            have hsz' := ble_le hsz'
            obtain ⟨blk, hblk, hcells⟩ := ob_some hold
            rcases Nat.lt_or_ge cc (len + src.n) with hlt | hge
            · exact grown hlt (hm.sub (delB_sub hblk)) (delB_sub hblk) rfl ha hfresh
            · -- in its place
              have hzt := hzt (by omega)
              obtain ⟨b', d', t', hs', hB', hbr⟩ := hm.has k blk hblk
              rw [hsg] at hs'; cases hs'
              obtain ⟨c0, e0, hrow, hrsz⟩ := hbr.row hcells
              have hmul : (len + src.n) * i.size ≤ cc * (z + 1) := Nat.mul_le_mul hge hsz'
              have hmul' : (len + src.n) * i.size = len * i.size + src.n * i.size := Nat.add_mul _ _ _
              obtain ⟨c', w', hst, hrow', hsz1, hget, hoth, hws, w1, w2, w3⟩ := storeRow_run (P := P) (off := d + off + len * i.size) hrow (by rw [husl]; omega) (LR.oneCell' hul)
              have hrun := run_append_place (P := P) (w := w) (ty := o.type) (a := ⟨b, d + off, none⟩) (len := len) (c := cc) hu1 hu2 hi hlen hf hge (w' := w') (by rw [Addr.add_none]; exact hst)
              rw [← hsv] at hrun
              have hk1 : h'.h.next = h.next + 1 := by
                obtain ⟨b1, hb1, ha1⟩ := ob_some ha
                exact (alloc_some ha1).2.1
              obtain ⟨g1, g2, g3, g4⟩ := hm.regrow (w' := w') (off := off) hblk hsg ha hlk (hfresh h.next (Nat.le_refl _) (by show h.next < h'.h.next; omega)) hrow' (by omega) (by omega) hoth hws w1 w2 w3 (fun j v hj => by
                have hcat := ol2.append hul
                rw [← appL_eq] at hcat
                obtain ⟨q, hq, hqv⟩ := hcat.get hj
                refine ⟨q, ?_, hqv⟩
                have hjl : j < olds.length + us.length := by
                  rcases Nat.lt_or_ge j (olds ++ us).length with h' | h'
                  · simpa using h'
                  · rw [List.getElem?_eq_none h'] at hq; cases hq
                rw [hget]
                by_cases hj1 : j < olds.length
                · rw [if_neg (by omega)]
                  rw [List.getElem?_append_left hj1] at hq
                  have := ol4 j q hq
                  rw [World.cell?] at this
                  simpa [hrow] using this
                · rw [if_pos (by omega)]
                  rw [List.getElem?_append_right (by omega)] at hq
                  rw [← hq]; congr 1; omega)
              have hext := Ext.put (k := h.next) (b, d + off, t - off) (hfresh h.next (Nat.le_refl _) (by show h.next < h'.h.next; omega))
              refine ⟨by show h.next ≤ h'.h.next; omega, .inl ⟨_, w', _, ⟨?_, ⟨b, d + off, t - off, cc, by rw [g1]; exact Sg.put_same _ _ _, rfl, hge, fun e1 => by omega, fun _ => ?_⟩, g3, g4⟩, .inl (key hrun)⟩⟩
              · show Ext σ _ h.next h'.h.next
                rw [g2]; exact hext
              · have : cc * i.size ≤ cc * (z + 1) := Nat.mul_le_mul_left _ hsz'
                omega
      · cases hr
    · cases hr
  · cases hr
end

end Go.Proofs.YtogifafehihjgaaGreat.Ab
