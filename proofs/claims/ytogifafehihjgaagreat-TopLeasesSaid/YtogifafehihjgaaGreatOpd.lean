/-
  The executor's operations against the model's, fourth part: functions as values, slices of slices, structs and arrays built.
-/
import Derived.Test.YtogifafehihjgaaGreatOpc
namespace Go.Proofs.YtogifafehihjgaaGreat.Ab
open Go

section
variable {P : Program} {S : Syms} {ρ : Nat → Value} {B : Nat} {σ : Sg} {T : TM} {h : Heap} {w : World} {val : Operand → Value} {o : Oper} {r : VH}

theorem allL_mem {p : AV → Bool} : ∀ {l : List AV}, allL p l = true → ∀ v ∈ l, p v = true
  | [], _, v, hv => by cases hv
  | a :: l, h, v, hv => by
    obtain ⟨h1, h2⟩ := and_true' (show and (p a) (allL p l) = true from h)
    rcases List.mem_cons.1 hv with rfl | hv
    · exact h1
    · exact allL_mem h2 v hv

theorem op_makeFunc (f : FuncId) (first cap : Array Operand) (ho : o.op = .makeFunc (.func f) first cap) {call : FuncId → FF} (hr : (mkOp P S call o.type (.makeFunc (.func f) first cap)).f T h = some r)
    (h1 : ∀ x ∈ first.toList, EvOk ρ σ T val x) (h2 : ∀ x ∈ cap.toList, EvOk ρ σ T val x) (hm : HRel ρ B σ h.blk w) : h.next ≤ r.h.next ∧ OpRes P ρ B val o σ h w r := by
  obtain ⟨a, ha, hr⟩ := ob_some (show ob ((mkEvs first.toList).f T) (fun a => ob ((mkEvs cap.toList).f T) fun b => bb (and (allL isAtom a) (allL isAtom b)) (some (⟨.func f a b, h⟩ : VH)) none) = some r from hr)
  obtain ⟨b, hb, hr⟩ := ob_some hr
  obtain ⟨hc, hr⟩ := bb_true hr
  cases hr
  obtain ⟨c1, c2⟩ := and_true' hc
  have e1 := VA_list (allL_mem c1) (mkEvs_some ha h1)
  have e2 := VA_list (allL_mem c2) (mkEvs_some hb h2)
  refine OpRes.pure hm (u := .func (.func f) (first.map val) (cap.map val)) ⟨_, _, rfl, by simpa using e1, by simpa using e2⟩ ?_
  simp [execOp, ho, Instr.makeFunc]

/-! ### slice expressions -/
theorem mkOptNat_some {x : Option Operand} {n : Option Nat} (hr : (mkOptNat x).f T = some n) (hx : ∀ y, x = some y → EvOk ρ σ T val y) :
    (x = none ∧ n = none) ∨ ∃ y k m, x = some y ∧ n = some m ∧ val y = .int k (.ofNat m) := by
  cases x with
  | none => cases hr; exact .inl ⟨rfl, rfl⟩
  | some y =>
    obtain ⟨v, hv, hr⟩ := ob_some (show ob ((mkEv y).f T) (fun v => ob (asNat v) fun a => some (some a.n)) = some n from hr)
    obtain ⟨a, ha, hr⟩ := ob_some hr
    cases hr
    have e := hx y rfl v hv
    rw [asNat_eq ha] at e
    exact .inr ⟨y, kindOf a.k, a.n, rfl, rfl, e⟩

theorem sliceBound_run {k : IntKind} {m y : Nat} {code : BoundsCode} (hle : m ≤ y) : (Instr.sliceBound (.int k (.ofNat m)) y code).run P w = .ok m w := by
  have : (m : Int) ≤ (y : Int) := by omega
  simp [Instr.sliceBound, asIntOf, hle]

/-- what a bound's operand is -/
def OptIs (x : Option Value) (n : Option Nat) : Prop := (x = none ∧ n = none) ∨ ∃ k m, x = some (.int k (.ofNat m)) ∧ n = some m

theorem sliceBounds_run {isSlice : Bool} {len cap : Nat} {lo hi mx : Option Value} {l u m : Option Nat} {b : BD} (hl : OptIs lo l) (hh : OptIs hi u) (hmx : OptIs mx m)
    (hb : bounds len cap l u m = some b) (hno : mx ≠ none → hi ≠ none) : (Instr.sliceBounds isSlice len cap lo hi mx).run P w = .ok (b.l, b.h, b.m) w ∧ b.l ≤ b.h ∧ b.h ≤ b.m ∧ b.m ≤ cap := by
  unfold bounds at hb
  simp only at hb
  have hb' : (Nat.ble (m.getD cap) cap && (Nat.ble (u.getD len) (m.getD cap) && Nat.ble (l.getD 0) (u.getD len))) = true ∧ b = ⟨l.getD 0, u.getD len, m.getD cap⟩ := by
    revert hb
    cases (Nat.ble (m.getD cap) cap && (Nat.ble (u.getD len) (m.getD cap) && Nat.ble (l.getD 0) (u.getD len))) with
    | true => intro hb; cases hb; exact ⟨rfl, rfl⟩
    | false => intro hb; cases hb
  obtain ⟨hc, rfl⟩ := hb'
  simp only [Bool.and_eq_true, Nat.ble_eq] at hc
  obtain ⟨c1, c2, c3⟩ := hc
  refine ⟨?_, c3, c2, c1⟩
  unfold Instr.sliceBounds
  rcases hl with ⟨rfl, rfl⟩ | ⟨k1, m1, rfl, rfl⟩ <;> rcases hh with ⟨rfl, rfl⟩ | ⟨k2, m2, rfl, rfl⟩ <;> rcases hmx with ⟨rfl, rfl⟩ | ⟨k3, m3, rfl, rfl⟩ <;>
    first
    | (simp only [Option.getD_some, Option.getD_none] at c1 c2 c3
       simp only [Sem.run_bind, sliceBound_run c1, sliceBound_run c2, sliceBound_run c3, Result.andThen_ok, Sem.run_pure, Option.getD_some, Option.getD_none]
       done)
    | exact absurd rfl (hno nofun)

theorem optIs {x : Option Operand} {n : Option Nat} (hr : (mkOptNat x).f T = some n) (hx : ∀ y, x = some y → EvOk ρ σ T val y) : OptIs (x.map val) n := by
  rcases mkOptNat_some hr hx with ⟨rfl, rfl⟩ | ⟨y, k, m, rfl, rfl, e⟩
  · exact .inl ⟨rfl, rfl⟩
  · exact .inr ⟨k, m, by simp [e], rfl⟩

theorem evSlice_run {t : TypeId} {x v : AV} {xv : Value} {lo hi mx : Option Value} {l u m : Option Nat} (he : evSlice P t x l u m = some v) (hx : VR ρ σ x xv) (hl : OptIs lo l) (hh : OptIs hi u) (hmx : OptIs mx m)
    (hno : mx ≠ none → hi ≠ none) : ∃ z, (Instr.sliceAt t xv lo hi mx).run P w = .ok z w ∧ VR ρ σ v z := by
  unfold evSlice at he
  split at he
  · rename_i n e k off hu
    split at he
    · rename_i size b hsz hb
      rw [sq_eq] at he
      cases he
      obtain ⟨bl, d, tt, hs, rfl⟩ := hx
      obtain ⟨hrun, h1, h2, h3⟩ := sliceBounds_run (P := P) (w := w) (isSlice := false) hl hh hmx hb hno
      refine ⟨_, ?_, ⟨bl, d, tt, _, hs, rfl, Nat.le_refl _, fun _ => rfl, fun h => absurd rfl h⟩⟩
      unfold Instr.sliceAt
      simp only [Sem.run_bind, run_underlying hu, Result.andThen_ok, Instr.sureAddr, hrun, szOf_run hsz, Sem.run_pure]
      by_cases hc : b.m = b.l
      · simp [hc]
      · have : Nat.beq b.m b.l = false := by
          cases hbe : Nat.beq b.m b.l with
          | true => exact absurd (beq_eq hbe) hc
          | false => rfl
        simp [hc, this, Addr.add_none, Nat.add_assoc]
    · cases he
  · rename_i e k off len cap z hu
    obtain ⟨bl, d, tt, c, hs, rfl, hle, hz, hroom⟩ := hx
    have nb : ∀ {x y : Nat}, x ≠ y → Nat.beq x y = false := fun {x y} hne => by
      cases hbe : Nat.beq x y with
      | true => exact absurd (beq_eq hbe) hne
      | false => rfl
    have yb : ∀ x : Nat, Nat.beq x x = true := fun x => Nat.beq_refl x
    split at he
    · rename_i size b hsz hb
      -- the run, once the model's bounds are known
      have run : ∀ b' : BD, bounds len c l u m = some b' → (Instr.sliceAt t (.slice (some ⟨bl, d + off, none⟩) len c) lo hi mx).run P w =
          .ok (.slice (some (if b'.m = b'.l then ⟨bl, d + off, none⟩ else ⟨bl, d + (off + b'.l * size), none⟩)) (b'.h - b'.l) (b'.m - b'.l)) w ∧ b'.l ≤ b'.h ∧ b'.h ≤ b'.m ∧ b'.m ≤ c := fun b' hb' => by
        obtain ⟨hrun, h1, h2, h3⟩ := sliceBounds_run (P := P) (w := w) (isSlice := true) hl hh hmx hb' hno
        refine ⟨?_, h1, h2, h3⟩
        unfold Instr.sliceAt Instr.slice
        simp only [Sem.run_bind, run_underlying hu, Result.andThen_ok, hrun, szOf_run hsz, Sem.run_pure]
        by_cases hc : b'.m = b'.l
        · simp [hc]
        · simp [hc, Addr.add_none, Nat.add_assoc]
      have same : c = cap ∨ (∃ x, m = some x) → bounds len c l u m = some b := fun hc => by
        rcases hc with rfl | ⟨x, rfl⟩
        · exact hb
        · unfold bounds at hb ⊢
          simp only [Option.getD_some] at hb ⊢
          have h1 : Nat.ble x cap = true := by
            cases hx : Nat.ble x cap with
            | true => rfl
            | false => rw [hx] at hb; cases hb
          have h2 : Nat.ble x c = true := Nat.ble_eq_true_of_le (Nat.le_trans (ble_le h1) hle)
          rw [h1] at hb
          rw [h2]; exact hb
      have exact' : bounds len c l u m = some b → some (AV.slice k (cond (Nat.beq b.m b.l) off (off + b.l * size)) (b.h - b.l) (b.m - b.l) 0) = some v →
          ∃ z', (Instr.sliceAt t (.slice (some ⟨bl, d + off, none⟩) len c) lo hi mx).run P w = .ok z' w ∧ VR ρ σ v z' := fun hb' he => by
        cases he
        obtain ⟨hrun, h1, h2, h3⟩ := run b hb'
        refine ⟨_, hrun, ⟨bl, d, tt, _, hs, ?_, Nat.le_refl _, fun _ => rfl, fun h => absurd rfl h⟩⟩
        by_cases hc : b.m = b.l
        · simp [hc]
        · simp [hc, nb hc]
      split at he
      · rw [sq_eq] at he
        exact exact' (same (.inl (hz rfl))) he
      · rw [sq_eq] at he
        exact exact' (same (.inr ⟨_, rfl⟩)) he
      · rename_i z
        have hroom : off + c * (z + 1) ≤ tt := hroom (by omega)
        have hcond : Nat.ble size (z + 1) = true := by
          cases hx : Nat.ble size (z + 1) with
          | true => rfl
          | false => rw [hx] at he; cases he
        rw [hcond] at he
        have hsize := ble_le hcond
        -- the model's own bounds: the capacity is c
        obtain ⟨b', hb', hbl, hbh, hbm⟩ : ∃ b', bounds len c l u none = some b' ∧ b'.l = b.l ∧ b'.h = b.h ∧ b'.m = c ∧ b.m = cap ∧ b.l ≤ b.h ∧ b.h ≤ cap := by
          unfold bounds at hb ⊢
          simp only [Option.getD_none] at hb ⊢
          cases h1 : Nat.ble cap cap && (Nat.ble (u.getD len) cap && Nat.ble (l.getD 0) (u.getD len)) with
          | false => rw [h1] at hb; cases hb
          | true =>
            rw [h1] at hb
            cases hb
            simp only [Bool.and_eq_true, Nat.ble_eq] at h1
            obtain ⟨_, h2, h3⟩ := h1
            have h4 : (Nat.ble c c && (Nat.ble (u.getD len) c && Nat.ble (l.getD 0) (u.getD len))) = true := by
              simp only [Bool.and_eq_true, Nat.ble_eq]
              exact ⟨Nat.le_refl _, Nat.le_trans h2 hle, h3⟩
            rw [h4]
            exact ⟨_, rfl, rfl, rfl, rfl, rfl, h3, h2⟩
        obtain ⟨hbm, hcap, hlh, hhc⟩ := hbm
        obtain ⟨hrun, h1, h2, h3⟩ := run b' hb'
        refine ⟨_, hrun, ?_⟩
        rw [hbl, hbh, hbm]
        simp only [cond_true] at he
        cases hml : Nat.beq b.m b.l with
        | true =>
          have hml' := beq_eq hml
          rw [hml] at he
          simp only [cond_true] at he
          cases hhl : Nat.beq b.h b.l with
          | false => rw [hhl] at he; cases he
          | true =>
            have hhl' := beq_eq hhl
            rw [hhl] at he
            simp only [cond_true] at he
            cases hl0 : Nat.beq b.l 0 with
            | true =>
              have hl0' := beq_eq hl0
              rw [hl0] at he
              cases he
              refine ⟨bl, d, tt, c, hs, ?_, Nat.zero_le _, fun h => by omega, fun _ => hroom⟩
              rw [hhl', hl0']
              simp
            | false =>
              rw [hl0] at he
              cases he
              exact ⟨_, _, by rw [hhl', Nat.sub_self]⟩
        | false =>
          have hml' : b.m ≠ b.l := fun e => by rw [e, yb] at hml; cases hml
          rw [hml, sq_eq] at he
          cases he
          have hne : c ≠ b.l := by omega
          refine ⟨bl, d, tt, c - b.l, hs, by rw [if_neg hne], by omega, fun h => by omega, fun _ => ?_⟩
          show off + b.l * size + (c - b.l) * (z + 1) ≤ tt
          have e1 : c * (z + 1) = (c - b.l) * (z + 1) + b.l * (z + 1) := by rw [← Nat.add_mul]; congr 1; omega
          have e2 : b.l * size ≤ b.l * (z + 1) := Nat.mul_le_mul_left _ hsize
          omega
    · cases he
  · rename_i e hu
    have hx : xv = .slice none 0 0 := hx
    subst hx
    split at he
    · rename_i b size hb hsz
      cases he
      obtain ⟨hrun, h1, h2, h3⟩ := sliceBounds_run (P := P) (w := w) (isSlice := true) hl hh hmx hb hno
      refine ⟨.slice none 0 0, ?_, (rfl : _ = _)⟩
      unfold Instr.sliceAt Instr.slice
      have e1 : b.m = 0 := by omega
      have e2 : b.h = 0 := by omega
      have e3 : b.l = 0 := by omega
      simp only [Sem.run_bind, run_underlying hu, Result.andThen_ok, hrun, szOf_run hsz, Sem.run_pure, e1, e2, e3]
      rfl
    · cases he
  · rename_i s hu
    have hx : xv = .string s := hx
    subst hx
    split at he
    · rename_i b hb
      cases he
      have hmx' : mx = none := by
        rcases hmx with ⟨h1, _⟩ | ⟨k, n, h1, h2⟩
        · exact h1
        · cases h2
      subst hmx'
      obtain ⟨hrun, h1, h2, h3⟩ := sliceBounds_run (P := P) (w := w) (isSlice := false) hl hh (.inl ⟨rfl, rfl⟩) hb (fun h => absurd rfl h)
      refine ⟨.string (s.extract b.l b.h), ?_, (rfl : _ = _)⟩
      unfold Instr.sliceAt Instr.slice
      simp [run_underlying hu, hrun]
    · cases he
  · cases he

theorem op_slice (t : TypeId) (x : Operand) (lo hi mx : Option Operand) (ho : o.op = .slice t x lo hi mx) {call : FuncId → FF} (hr : (mkOp P S call o.type (.slice t x lo hi mx)).f T h = some r)
    (hx : EvOk ρ σ T val x) (h1 : ∀ y, lo = some y → EvOk ρ σ T val y) (h2 : ∀ y, hi = some y → EvOk ρ σ T val y) (h3 : ∀ y, mx = some y → EvOk ρ σ T val y)
    (hm : HRel ρ B σ h.blk w) : h.next ≤ r.h.next ∧ OpRes P ρ B val o σ h w r := by
  have hr' : (mkSlice P t x lo hi mx).f T h = some r := hr
  unfold mkSlice at hr'
  obtain ⟨hno, hr'⟩ := bb_true hr'
  obtain ⟨v, hv, hr'⟩ := ob_some hr'
  obtain ⟨l, hl, hr'⟩ := ob_some hr'
  obtain ⟨u, hu, hr'⟩ := ob_some hr'
  obtain ⟨m, hmx, hr'⟩ := ob_some hr'
  obtain ⟨z, hz, hr'⟩ := ob_some hr'
  cases hr'
  have hno' : mx.map val ≠ none → hi.map val ≠ none := by
    cases mx <;> cases hi <;> simp at hno ⊢
  obtain ⟨q, hq, hqv⟩ := evSlice_run (w := w) hz (hx v hv) (optIs hl h1) (optIs hu h2) (optIs hmx h3) hno'
  exact OpRes.pure hm hqv (by simp only [execOp, ho, Sem.run_bind, hq, Result.andThen_ok]; rfl)

/-! ### structs and arrays built -/
theorem foldl_set {β : Type} (f : Nat → Nat) : ∀ (l : List (Value × Nat)) (cs : Array Value), (l.foldl (fun cs (c, j) => cs.setIfInBounds (f j) c) cs).size = cs.size
  | [], cs => rfl
  | (c, j) :: l, cs => by rw [List.foldl_cons, foldl_set (β := β) f l]; simp

theorem foldl_lay : ∀ (l : List Value) (k off : Nat) (cs : Array Value), off + k + l.length ≤ cs.size →
    ((l.zipIdx k).foldl (fun cs (c, j) => cs.setIfInBounds (off + j) c) cs).toList = cs.toList.take (off + k) ++ l ++ cs.toList.drop (off + k + l.length)
  | [], k, off, cs, h => by simp
  | a :: l, k, off, cs, h => by
    rw [List.zipIdx_cons, List.foldl_cons, foldl_lay l (k + 1) off _ (by simp at h ⊢; omega)]
    simp only [List.length_cons] at h
    apply List.ext_getElem?
    intro i
    have hsz : cs.toList.length = cs.size := by simp
    simp only [Array.toList_setIfInBounds]
    by_cases h1 : i < off + k
    · rw [List.append_assoc, List.append_assoc, List.getElem?_append_left (by simp; omega), List.getElem?_append_left (by simp; omega), List.getElem?_take, List.getElem?_take, if_pos (by omega), if_pos h1, List.getElem?_set_ne (by omega)]
    · by_cases h2 : i = off + k
      · subst h2
        rw [List.append_assoc, List.append_assoc, List.getElem?_append_left (by simp; omega), List.getElem?_append_right (by simp; omega), List.getElem?_take, if_pos (by omega), List.getElem?_set_self (by omega)]
        simp [Nat.min_eq_left (show off + k ≤ cs.size by omega)]
      · rw [List.append_assoc, List.append_assoc, List.getElem?_append_right (by simp; omega), List.getElem?_append_right (l₁ := cs.toList.take (off + k)) (by simp; omega)]
        simp only [List.length_take, List.length_set, hsz]
        rw [Nat.min_eq_left (by omega), Nat.min_eq_left (by omega)]
        obtain ⟨q, hq⟩ : ∃ q, i - (off + k) = q + 1 := ⟨i - (off + k) - 1, by omega⟩
        rw [hq, show i - (off + (k + 1)) = q by omega, List.cons_append, List.getElem?_cons_succ]
        by_cases h3 : q < l.length
        · rw [List.getElem?_append_left h3, List.getElem?_append_left h3]
        · rw [List.getElem?_append_right (by omega), List.getElem?_append_right (by omega), List.getElem?_drop, List.getElem?_drop, List.getElem?_set_ne (by omega)]
          congr 1; simp; omega

theorem fillA_run {place : Nat → Option (Nat × Nat)} : ∀ {ps : List (Nat × AV)} {us : List (Nat × Value)} {c c' : List AV} {cs : Array Value},
    fillA place ps c = some c' → LR (fun p q => p.1 = q.1 ∧ VB ρ σ p.2 q.2) ps us → LR (VC ρ σ) c cs.toList → ∃ cs', Instr.fill place cs us = some cs' ∧ LR (VC ρ σ) c' cs'.toList ∧ c'.length = c.length
  | [], us, c, c', cs, h, hp, hc => by
    cases h
    have : us = [] := List.length_eq_zero_iff.1 hp.1.symm
    subst this
    exact ⟨cs, rfl, hc, rfl⟩
  | (i, v) :: ps, us, c, c', cs, h, hp, hc => by
    match us, hp.1 with
    | (i', u) :: us, _ =>
    obtain ⟨e1, e2⟩ := hp.2 0 (i, v) (i', u) rfl rfl
    have e1 : i = i' := e1
    subst e1
    have e2 : VB ρ σ v u := e2
    obtain ⟨q, hq, h⟩ := ob_some (show ob (place i) (fun q => bb (Nat.beq v.size q.2) (ob (spliceL c q.1 q.2 v.cells) fun c => fillA place ps c) none) = some c' from h)
    obtain ⟨hsz, h⟩ := bb_true h
    obtain ⟨c1, hc1, h⟩ := ob_some h
    obtain ⟨rfl, hle⟩ := spliceL_some hc1
    have hsz := beq_eq hsz
    obtain ⟨k1, k2⟩ := VB.cells e2
    have hcl : c.length = cs.size := by have := hc.1; simpa using this
    have hul : v.cells.length = u.cells.size := by have := k2.1; simpa using this
    have key := foldl_lay u.cells.toList 0 q.1 cs (by simp; omega)
    have harr : (u.cells.zipIdx.foldl (fun cs (c, j) => cs.setIfInBounds (q.1 + j) c) cs).toList = cs.toList.take q.1 ++ u.cells.toList ++ cs.toList.drop (q.1 + q.2) := by
      rw [← Array.foldl_toList, Array.toList_zipIdx, key]
      simp only [Nat.add_zero, Array.length_toList]
      rw [show u.cells.size = q.2 by omega]
    obtain ⟨cs', h1, h2, h3⟩ := fillA_run (cs := u.cells.zipIdx.foldl (fun cs (c, j) => cs.setIfInBounds (q.1 + j) c) cs) h ⟨by have := hp.1; simpa using this, fun j a b ha hb => hp.2 (j + 1) a b (by simpa using ha) (by simpa using hb)⟩ (by
      rw [harr]
      exact ((hc.take q.1).append k2).append (hc.drop (q.1 + q.2)))
    refine ⟨cs', ?_, h2, by rw [h3]; simp; omega⟩
    unfold Instr.fill
    rw [hq]
    dsimp only
    rw [if_neg (by simp; omega)]
    exact h1

theorem mkParts_some : ∀ {l : List (Nat × Operand)} {ps : List (Nat × AV)}, (mkParts l).f T = some ps → (∀ p ∈ l, EvOk ρ σ T val p.2) → LR (fun p q => p.1 = q.1 ∧ VB ρ σ p.2 q.2) ps (l.map fun p => (p.1, val p.2))
  | [], ps, h, _ => by cases h; exact LR.nil
  | p :: l, ps, h, hev => by
    obtain ⟨v, hv, h⟩ := ob_some (show ob ((mkEv p.2).f T) (fun v => bb (noTup v) (ob ((mkParts l).f T) fun r => some ((p.1, v) :: r)) none) = some ps from h)
    obtain ⟨hn, h⟩ := bb_true h
    obtain ⟨r, hr, h⟩ := ob_some h
    cases h
    exact LR.cons ⟨rfl, noTup_VB hn (hev p (by simp) v hv)⟩ (mkParts_some hr fun q hq => hev q (by simp [hq]))

theorem zeroCellsA_info {t : Nat} {z : List AV} (e : zeroCellsA P t = some z) : ∃ i zv, P.info? t = some i ∧ i.zero = some zv ∧ LR (VC ρ σ) z zv.cells.toList := by
  unfold zeroCellsA at e
  split at e
  · rename_i i hi
    split at e
    · rename_i zv hz
      obtain ⟨h1, h2⟩ := mapO_some e
      refine ⟨i, zv, hi, hz, ⟨h1, fun j a b ha hb => ?_⟩⟩
      obtain ⟨c, hc, hbc⟩ := h2 j b hb
      rw [ha] at hc; cases hc
      exact of1_VC hbc
    · cases e
  · cases e

theorem places_some : ∀ (fs : List Field), (fs.all fun f => (szOf P f.type).isSome) = true →
    ∃ places, fs.mapM (fun f => (P.info? f.type).map fun i => (f.offset, i.size)) = some places ∧
      ∀ i : Nat, places[i]? = match fs[i]? with | some f => (match szOf P f.type with | some n => some (f.offset, n) | none => none) | none => none
  | [], _ => ⟨[], by simp, fun i => by simp⟩
  | f :: fs, h => by
    simp only [List.all_cons, Bool.and_eq_true] at h
    obtain ⟨n, hn⟩ := Option.isSome_iff_exists.1 h.1
    obtain ⟨inf, hi, rfl⟩ := szOf_some hn
    obtain ⟨places, h1, h2⟩ := places_some fs h.2
    refine ⟨(f.offset, inf.size) :: places, by simp [List.mapM_cons, hi, h1], fun i => ?_⟩
    cases i with
    | zero => simp [hn]
    | succ i => simpa using h2 i

theorem op_build (t : TypeId) (parts : Array (Nat × Operand)) (ho : o.op = .build t parts) {call : FuncId → FF} (hr : (mkOp P S call o.type (.build t parts)).f T h = some r)
    (hx : ∀ p ∈ parts.toList, EvOk ρ σ T val p.2) (hm : HRel ρ B σ h.blk w) : h.next ≤ r.h.next ∧ OpRes P ρ B val o σ h w r := by
  have fin : ∀ {l : List AV} {n : Nat} {cells : Array Value}, P.built t ((parts.toList).map fun p => (p.1, val p.2)) = some cells → LR (VC ρ σ) l cells.toList → l.length = n → some (⟨.agg n l, h⟩ : VH) = some r →
      h.next ≤ r.h.next ∧ OpRes P ρ B val o σ h w r := fun {l n cells} hb hl hn he => by
    cases he
    refine OpRes.pure hm (u := .agg cells) ⟨cells, rfl, hn, hl⟩ ?_
    have hb' : P.built t (parts.map fun p => (p.1, val p.2)).toList = some cells := by simpa using hb
    simp only [execOp, ho, Sem.run_bind, run_build w t _ cells hb', Result.andThen_ok]
    rfl
  have hr' : (mkBuild P t parts.toList).f T h = some r := hr
  unfold mkBuild at hr'
  split at hr'
  · rename_i z n fs hz hn hu
    obtain ⟨hi, zv, h1, h2, h3⟩ := zeroCellsA_info (ρ := ρ) (σ := σ) hz
    cases hc : and (Nat.beq (lenL z) n) (fs.toList.all fun f => (szOf P f.type).isSome) with
    | false => rw [hc] at hr'; cases hr'
    | true =>
      rw [hc] at hr'
      obtain ⟨c1, c2⟩ := and_true' hc
      obtain ⟨ps, hps, hr'⟩ := ob_some (show ob ((mkParts parts.toList).f T) (fun ps => ob (fillA (fieldPlaces P fs) ps z) fun l => some (⟨.agg n l, h⟩ : VH)) = some r from hr')
      obtain ⟨l, hl, hr'⟩ := ob_some hr'
      obtain ⟨cs', e1, e2, e3⟩ := fillA_run hl (mkParts_some hps hx) h3
      obtain ⟨places, p1, p2⟩ := places_some (P := P) fs.toList c2
      have hpl : (fun i : Nat => places.toArray[i]?) = fieldPlaces P fs := by
        funext i
        have := p2 i
        simp only [List.getElem?_toArray, this, fieldPlaces, Array.getElem?_toList]
        generalize fs[i]? = q
        cases q <;> rfl
      refine fin (n := n) (l := l) (cells := cs') ?_ e2 ?_ hr'
      · unfold Program.built
        simp only [h1, hu, h2, p1, hpl]
        exact e1
      · rw [e3, ← lenL_eq]; exact beq_eq c1
  · rename_i z n k e hz hn hu
    split at hr'
    · rename_i size hsz
      obtain ⟨hi, zv, h1, h2, h3⟩ := zeroCellsA_info (ρ := ρ) (σ := σ) hz
      obtain ⟨ie, hie, rfl⟩ := szOf_some hsz
      cases hc : Nat.beq (lenL z) n with
      | false => rw [hc] at hr'; cases hr'
      | true =>
        rw [hc] at hr'
        obtain ⟨ps, hps, hr'⟩ := ob_some (show ob ((mkParts parts.toList).f T) (fun ps => ob (fillA (fun i => some (i * ie.size, ie.size)) ps z) fun l => some (⟨.agg n l, h⟩ : VH)) = some r from hr')
        obtain ⟨l, hl, hr'⟩ := ob_some hr'
        obtain ⟨cs', e1, e2, e3⟩ := fillA_run hl (mkParts_some hps hx) h3
        refine fin (n := n) (l := l) (cells := cs') ?_ e2 ?_ hr'
        · unfold Program.built
          simp only [h1, hu, h2, hie]
          exact e1
        · rw [e3, ← lenL_eq]; exact beq_eq hc
    · cases hr'
  · cases hr'

theorem repeatL_eq (z : List AV) : ∀ n : Nat, repeatL z n = (List.replicate n z).flatten
  | 0 => rfl
  | n + 1 => by
    show appL z (repeatL z n) = _
    rw [appL_eq, repeatL_eq z n, List.replicate_succ, List.flatten_cons]

theorem LR.repeat {z : List AV} {zs : List Value} (h : LR (VC ρ σ) z zs) : ∀ n : Nat, LR (VC ρ σ) (repeatL z n) (List.replicate n zs).flatten
  | 0 => LR.nil
  | n + 1 => by
    show LR _ (appL z (repeatL z n)) _
    rw [appL_eq, List.replicate_succ, List.flatten_cons]
    exact h.append (LR.repeat h n)

theorem range_cells (zs : Array Value) : ∀ n : Nat, ((Array.range (n * zs.size)).map (fun i => zs[i % zs.size]!)).toList = (List.replicate n zs.toList).flatten := by
  intro n
  simp only [Array.toList_map, Array.toList_range]
  induction n with
  | zero => simp
  | succ n ih =>
    rw [Nat.succ_mul, Nat.add_comm, List.range_add, List.map_append, List.map_map, List.replicate_succ, List.flatten_cons]
    congr 1
    · apply List.ext_getElem?
      intro i
      by_cases h : i < zs.size
      · simp [h, Nat.mod_eq_of_lt h]
      · simp [h]
    · rw [← ih]
      apply List.map_congr_left
      intro i _
      simp

theorem op_buildSlice (t : TypeId) (len : Nat) (parts : Array (Nat × Operand)) (ho : o.op = .buildSlice t len parts) {call : FuncId → FF} (hr : (mkOp P S call o.type (.buildSlice t len parts)).f T h = some r)
    (hx : ∀ p ∈ parts.toList, EvOk ρ σ T val p.2) (hm : HRel ρ B σ h.blk w) (hfresh : Fresh σ h.next r.h.next) (hB : B ≤ w.heap.size) : h.next ≤ r.h.next ∧ OpRes P ρ B val o σ h w r := by
  have hr' : (mkBuildSlice P t len parts.toList).f T h = some r := hr
  unfold mkBuildSlice at hr'
  split at hr'
  · rename_i e hu
    split at hr'
    · rename_i size z hsz hz
      cases hc : and (Nat.blt 0 size) (and (Nat.ble (len * size) 1000) (Nat.beq (lenL z) size)) with
      | false => rw [hc] at hr'; cases hr'
      | true =>
        rw [hc] at hr'
        obtain ⟨c1, c2⟩ := and_true' hc
        obtain ⟨c2, c3⟩ := and_true' c2
        obtain ⟨ps, hps, hr'⟩ := ob_some (show ob ((mkParts parts.toList).f T) (fun ps => ob (fillA (fun i => some (i * size, size)) ps (repeatL z len)) fun l => ob (h.allocCells (len * size) l) fun r => some (⟨.slice r.k 0 len len 0, r.h⟩ : VH)) = some r from hr')
        obtain ⟨l, hl, hr'⟩ := ob_some hr'
        obtain ⟨h', ha, hr'⟩ := ob_some hr'
        cases hr'
        obtain ⟨zv, hzr, hzl⟩ := zeroCellsA_some (ρ := ρ) (σ := σ) hz
        have hzs : zv.cells.size = size := by
          have h1 := hzl.1
          rw [← lenL_eq, beq_eq c3] at h1
          simpa using h1.symm
        obtain ⟨cs', e1, e2, e3⟩ := fillA_run (cs := (Array.range (len * zv.cells.size)).map (fun i => zv.cells[i % zv.cells.size]!)) hl (mkParts_some hps hx) (by
          rw [range_cells]
          exact hzl.repeat len)
        have hlen : l.length = len * size := by
          rw [e3, repeatL_eq]
          have h1 : z.length = size := by rw [← lenL_eq]; exact beq_eq c3
          simp [h1]
        obtain ⟨h1, σ', hp⟩ := new_post (e := e) hm ha e2 hlen hfresh hB (v := .slice h'.k 0 len len 0) (u := .slice (some ⟨w.heap.size, 0, none⟩) len len)
          fun σ' b d t hs hb hd ht _ => ⟨b, d, t, len, hs, by rw [hb, hd], Nat.le_refl _, fun _ => rfl, fun h => absurd rfl h⟩
        refine ⟨h1, .inl ⟨_, _, σ', hp, .inl ?_⟩⟩
        have h24 : ¬ (16777216 < len * size) := by have := ble_le c2; omega
        have e1' : Instr.fill (fun i => some (i * size, size)) ((Array.range (len * size)).map (fun i => zv.cells[i % zv.cells.size]!)) (parts.toList.map fun p => (p.1, val p.2)) = some cs' := by
          rw [← e1, hzs]
        have hr0 : Array.range 0 = #[] := rfl
        by_cases h0 : len * size = 0
        · rw [h0] at e1'
          have e2' : Instr.fill (fun i => some (i * size, size)) #[] (parts.toList.map fun p => (p.1, val p.2)) = some cs' := by simpa [hr0] using e1'
          simp [execOp, ho, Instr.buildSlice, run_underlying hu, szOf_run hsz, h0, hr0, e2', newRow]
        · simp [execOp, ho, Instr.buildSlice, run_underlying hu, szOf_run hsz, h24, h0, hzr, e1', newRow]
    · cases hr'
  · cases hr'
end
end Go.Proofs.YtogifafehihjgaaGreat.Ab
