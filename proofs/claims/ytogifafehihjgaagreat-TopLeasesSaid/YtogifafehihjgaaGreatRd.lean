/-
  The executor's run of a drawn region, step by step.
-/
import Derived.Test.YtogifafehihjgaaGreatRc
namespace Go.Proofs.YtogifafehihjgaaGreat.Ab
open Go

section
variable {P : Program} {S : Syms} {call : FuncId → FF} {N : Nat}

theorem steps_trace {all : List Oper} {inf : List SI} {effs : List Nat} {m : Nat} : ∀ (l : List Oper) (i : Nat) (s s' : DS), (mkDSteps P S call N all inf effs m l i).f s = some s' →
    ∃ st : Nat → DS, st i = s ∧ st (i + l.length) = s' ∧ ∀ (k : Nat) (o : Oper), l[k]? = some o → ∃ b, inf[i + k]? = some b ∧
      (mkDStep P S call N all o b.cls (Nat.sub m (jmax inf effs (i + k))) (Nat.sub (Nat.succ (jmax inf effs (i + k))) (jmin effs b))).f (st (i + k)) = some (st (i + k + 1))
  | [], i, s, s', h => by
    cases h
    exact ⟨fun _ => s, rfl, rfl, fun k o hk => by simp at hk⟩
  | o :: l, i, s, s', h => by
    have h : (oe (nthL inf i) (⟨fun _ => none⟩ : DF) fun b =>
      ⟨fun s => ob ((mkDStep P S call N all o b.cls (Nat.sub m (jmax inf effs i)) (Nat.sub (Nat.succ (jmax inf effs i)) (jmin effs b))).f s) (mkDSteps P S call N all inf effs m l (Nat.succ i)).f⟩).f s = some s' := h
    rw [nthL_eq] at h
    cases hb : inf[i]? with
    | none => rw [hb] at h; cases h
    | some b =>
      rw [hb] at h
      obtain ⟨s1, hs1, h⟩ := ob_some (show ob ((mkDStep P S call N all o b.cls (Nat.sub m (jmax inf effs i)) (Nat.sub (Nat.succ (jmax inf effs i)) (jmin effs b))).f s) (mkDSteps P S call N all inf effs m l (Nat.succ i)).f = some s' from h)
      obtain ⟨st, g1, g2, g3⟩ := steps_trace l (Nat.succ i) s1 s' h
      refine ⟨fun k => if k = i then s else st k, by simp, ?_, fun k q hq => ?_⟩
      · dsimp only
        rw [if_neg (by simp), ← g2]; congr 1; simp; omega
      · cases k with
        | zero =>
          simp at hq; subst hq
          refine ⟨b, hb, ?_⟩
          simp only [Nat.add_zero, if_true]
          rw [if_neg (by omega), show i + 1 = Nat.succ i from rfl, g1]
          exact hs1
        | succ k =>
          obtain ⟨b', hb', hst⟩ := g3 k q (by simpa using hq)
          rw [show Nat.succ i + k = i + (k + 1) by omega] at hb' hst
          refine ⟨b', hb', ?_⟩
          dsimp only
          rw [if_neg (by omega), if_neg (by omega)]
          exact hst

/-- one operation of the executor's run -/
def StepF (P : Program) (S : Syms) (call : FuncId → FF) (N : Nat) (ops : Array Oper) (inf : List SI) (T : Nat → TM) (h : Nat → Heap) (v : Nat → AV) (R : Nat → Heap) (i : Nat) (o : Oper) (s : SI) : Prop :=
  ∃ wf, mkPut N o.dst = some wf ∧ T (i + 1) = wf.f (T i) (v i) ∧ (s.cls = 2 → R (cntE (inf.take i) + 1) = h (i + 1)) ∧
    ((∃ g, mkGuard ops.toList o.guard = some g ∧ g.f (T i) = some false ∧ v i = .tup [] ∧ h (i + 1) = h i) ∨
     ((mkGuard ops.toList o.guard = none ∨ ∃ g, mkGuard ops.toList o.guard = some g ∧ g.f (T i) = some true) ∧
      ((s.cls = 0 ∧ h (i + 1) = h i ∧ ∃ r, (mkOp P S call o.type o.op).f (T i) (eH (h i).next) = some r ∧ r.v = v i ∧ r.h.next = (h i).next) ∨
       (s.cls = 1 ∧ h (i + 1) = h i ∧ ∀ c, jmin (effsOf inf 0) s ≤ c → c ≤ jmax inf (effsOf inf 0) i → ∃ r, (mkOp P S call o.type o.op).f (T i) (R c) = some r ∧ r.v = v i) ∨
       (s.cls = 2 ∧ (mkOp P S call o.type o.op).f (T i) (h i) = some ⟨v i, h (i + 1)⟩) ∨
       (3 ≤ s.cls ∧ ∃ r b, (mkOp P S call o.type o.op).f (T i) (eH (h i).next) = some r ∧ r.v = v i ∧ r.h.next = (h i).next + 1 ∧ r.h.blk (h i).next = some b ∧ (h i).next < 65536 ∧
         h (i + 1) = ⟨(h i).next + 1, (l64K (Option Blk) (h i).next).s (some b) (h i).bs⟩))))

structure Run (P : Program) (S : Syms) (call : FuncId → FF) (N : Nat) (ops : Array Oper) (inf : List SI) (T0 : TM) (h0 : Heap) (T' : TM) (h' : Heap) where
  T : Nat → TM
  h : Nat → Heap
  v : Nat → AV
  R : Nat → Heap
  zeroT : T 0 = T0
  zeroh : h 0 = h0
  lastT : T ops.size = T'
  lasth : h ops.size = h'
  zeroR : R 0 = h0
  step : ∀ (i : Nat) (o : Oper) (s : SI), ops[i]? = some o → inf[i]? = some s → StepF P S call N ops inf T h v R i o s

theorem cntE_take_succ {inf : List SI} {i : Nat} {s : SI} (h : inf[i]? = some s) : cntE (inf.take (i + 1)) = cntE (inf.take i) + (if s.cls = 2 then 1 else 0) := by
  unfold cntE
  rw [List.take_add_one, h, List.countP_append]
  congr 1
  simp only [Option.toList_some, List.countP_cons, List.countP_nil, Nat.zero_add]
  by_cases hc : s.cls = 2
  · simp [hc]
  · have : Nat.beq s.cls 2 = false := by
      cases hb : Nat.beq s.cls 2 with
      | true => exact absurd (beq_eq hb) hc
      | false => rfl
    simp [hc, this]

theorem chkRds_mem {rs : List Heap} : ∀ {l : List RD}, chkRds rs l = true → ∀ r ∈ l, chkRd rs r = true
  | [], _, r, h => by cases h
  | x :: l, hc, r, h => by
    obtain ⟨h1, h2⟩ := bb_and (show bb (chkRd rs x) (chkRds rs l) false = true from hc)
    rcases List.mem_cons.1 h with rfl | h
    · exact h1
    · exact chkRds_mem h2 r h

theorem chkRd_spec {rs : List Heap} {r : RD} (hc : chkRd rs r = true) {y : Nat} (hy : y < r.n) : ∃ R q, rs[r.sk + y]? = some R ∧ r.of.f r.T R = some q ∧ q.v = r.v := by
  unfold chkRd at hc
  cases hl : ob (dropL r.sk rs) fun l => takeL r.n l with
  | none => rw [hl] at hc; cases hc
  | some l =>
    rw [hl] at hc
    obtain ⟨d, hd, ht⟩ := ob_some hl
    obtain ⟨rfl, h1⟩ := dropL_some hd
    obtain ⟨rfl, h2⟩ := takeL_some ht
    have key : ∀ (l : List Heap), @List.rec Heap (fun _ => Bool) true (fun R _ ih => bb (oe (r.of.f r.T R) false fun q => eqB q.v r.v) ih false) l = true → ∀ R ∈ l, ∃ q, r.of.f r.T R = some q ∧ q.v = r.v := by
      intro l
      induction l with
      | nil => intro _ R h; cases h
      | cons x l ih =>
        intro h R hR
        obtain ⟨g1, g2⟩ := bb_and (show bb (oe (r.of.f r.T x) false fun q => eqB q.v r.v) (@List.rec Heap (fun _ => Bool) true (fun R _ ih => bb (oe (r.of.f r.T R) false fun q => eqB q.v r.v) ih false) l) false = true from h)
        rcases List.mem_cons.1 hR with rfl | hR
        · cases hq : r.of.f r.T R with
          | none => rw [hq] at g1; cases g1
          | some q => rw [hq] at g1; exact ⟨q, rfl, eqB_eq g1⟩
        · exact ih g2 R hR
    have hlen : y < ((rs.drop r.sk).take r.n).length := by simp at h1 h2 ⊢; omega
    obtain ⟨q, hq, hv⟩ := key _ hc _ (List.getElem_mem hlen)
    refine ⟨_, q, ?_, hq, hv⟩
    rw [← List.getElem?_drop, ← List.getElem?_take_of_lt hy]
    exact List.getElem?_eq_getElem hlen

/-- the run's steps, as they are told -/
theorem step_cases {all : List Oper} {o : Oper} {cls sk n : Nat} {s s' : DS} (h : (mkDStep P S call N all o cls sk n).f s = some s') :
    ∃ wf v, mkPut N o.dst = some wf ∧ s'.T = wf.f s.T v ∧
      ((∃ g, mkGuard all o.guard = some g ∧ g.f s.T = some false ∧ v = .tup [] ∧ s'.h = s.h ∧ s'.rd = s.rd ∧ s'.rs = if cls = 2 then s.h :: s.rs else s.rs) ∨
       ((mkGuard all o.guard = none ∨ ∃ g, mkGuard all o.guard = some g ∧ g.f s.T = some true) ∧
        ((cls = 0 ∧ s'.h = s.h ∧ s'.rd = s.rd ∧ s'.rs = s.rs ∧ ∃ r, (mkOp P S call o.type o.op).f s.T (eH s.h.next) = some r ∧ r.v = v ∧ r.h.next = s.h.next) ∨
         (cls = 1 ∧ s'.h = s.h ∧ s'.rs = s.rs ∧ s'.rd = ⟨mkOp P S call o.type o.op, s.T, v, sk, n⟩ :: s.rd) ∨
         (cls = 2 ∧ (mkOp P S call o.type o.op).f s.T s.h = some ⟨v, s'.h⟩ ∧ s'.rs = s'.h :: s.rs ∧ s'.rd = s.rd) ∨
         (3 ≤ cls ∧ s'.rd = s.rd ∧ s'.rs = s.rs ∧ ∃ r b, (mkOp P S call o.type o.op).f s.T (eH s.h.next) = some r ∧ r.v = v ∧ r.h.next = s.h.next + 1 ∧ r.h.blk s.h.next = some b ∧ s.h.next < 65536 ∧
           s'.h = ⟨s.h.next + 1, (l64K (Option Blk) s.h.next).s (some b) s.h.bs⟩)))) := by
  unfold mkDStep at h
  split at h
  · cases h
  · rename_i wf hwf
    have act : (dAct (mkOp P S call o.type o.op) wf cls sk n).f s = some s' → ∃ v, s'.T = wf.f s.T v ∧
        ((cls = 0 ∧ s'.h = s.h ∧ s'.rd = s.rd ∧ s'.rs = s.rs ∧ ∃ r, (mkOp P S call o.type o.op).f s.T (eH s.h.next) = some r ∧ r.v = v ∧ r.h.next = s.h.next) ∨
         (cls = 1 ∧ s'.h = s.h ∧ s'.rs = s.rs ∧ s'.rd = ⟨mkOp P S call o.type o.op, s.T, v, sk, n⟩ :: s.rd) ∨
         (cls = 2 ∧ (mkOp P S call o.type o.op).f s.T s.h = some ⟨v, s'.h⟩ ∧ s'.rs = s'.h :: s.rs ∧ s'.rd = s.rd) ∨
         (3 ≤ cls ∧ s'.rd = s.rd ∧ s'.rs = s.rs ∧ ∃ r b, (mkOp P S call o.type o.op).f s.T (eH s.h.next) = some r ∧ r.v = v ∧ r.h.next = s.h.next + 1 ∧ r.h.blk s.h.next = some b ∧ s.h.next < 65536 ∧
           s'.h = ⟨s.h.next + 1, (l64K (Option Blk) s.h.next).s (some b) s.h.bs⟩)) := fun h => by
      unfold dAct at h
      split at h
      · obtain ⟨r, hr, h⟩ := ob_some h
        obtain ⟨hn, h⟩ := bb_true h
        cases h
        exact ⟨r.v, rfl, .inl ⟨rfl, rfl, rfl, rfl, r, hr, rfl, beq_eq hn⟩⟩
      · have h : @List.casesOn Heap (fun _ => Option DS) s.rs none (fun R _ => ob ((mkOp P S call o.type o.op).f s.T R) fun r => some ⟨wf.f s.T r.v, s.h, s.rs, ⟨mkOp P S call o.type o.op, s.T, r.v, sk, n⟩ :: s.rd⟩) = some s' := h
        cases hrs : s.rs with
        | nil => rw [hrs] at h; cases h
        | cons R tl =>
          rw [hrs] at h
          obtain ⟨r, hr, h⟩ := ob_some (show ob ((mkOp P S call o.type o.op).f s.T R) (fun r => some (⟨wf.f s.T r.v, s.h, R :: tl, ⟨mkOp P S call o.type o.op, s.T, r.v, sk, n⟩ :: s.rd⟩ : DS)) = some s' from h)
          cases h
          exact ⟨r.v, rfl, .inr (.inl ⟨rfl, rfl, rfl, rfl⟩)⟩
      · obtain ⟨r, hr, h⟩ := ob_some h
        cases h
        exact ⟨r.v, rfl, .inr (.inr (.inl ⟨rfl, hr, rfl, rfl⟩))⟩
      · rename_i n0 n1 n2
        have h : sq s.h.next (fun k => ob ((mkOp P S call o.type o.op).f s.T (eH k)) fun r => ob (r.h.blk k) fun b => bb (and (Nat.beq r.h.next (Nat.succ k)) (Nat.blt k 65536)) (some (⟨wf.f s.T r.v, ⟨Nat.succ k, (l64K (Option Blk) k).s (some b) s.h.bs⟩, s.rs, s.rd⟩ : DS)) none) = some s' := h
        rw [sq_eq] at h
        obtain ⟨r, hr, h⟩ := ob_some h
        obtain ⟨b, hb, h⟩ := ob_some h
        obtain ⟨hc, h⟩ := bb_true h
        obtain ⟨c1, c2⟩ := and_true' hc
        cases h
        refine ⟨r.v, rfl, .inr (.inr (.inr ⟨?_, rfl, rfl, r, b, hr, rfl, beq_eq c1, hb, blt_lt c2, rfl⟩))⟩
        match cls, n0, n1, n2 with
        | 0, n0, _, _ => exact absurd rfl n0
        | 1, _, n1, _ => exact absurd rfl n1
        | 2, _, _, n2 => exact absurd rfl n2
        | k + 3, _, _, _ => omega
    split at h
    · rename_i hg
      obtain ⟨v, h1, h2⟩ := act h
      exact ⟨wf, v, hwf, h1, .inr ⟨.inl hg, h2⟩⟩
    · rename_i g hg
      obtain ⟨b, hb, h⟩ := ob_some h
      cases b with
      | true =>
        obtain ⟨v, h1, h2⟩ := act h
        exact ⟨wf, v, hwf, h1, .inr ⟨.inr ⟨g, hg, hb⟩, h2⟩⟩
      | false =>
        have h : (dSkip wf cls).f s = some s' := h
        unfold dSkip at h
        split at h
        · cases h
          exact ⟨wf, _, hwf, rfl, .inl ⟨g, hg, hb, rfl, rfl, rfl, by simp⟩⟩
        · rename_i hn
          cases h
          exact ⟨wf, _, hwf, rfl, .inl ⟨g, hg, hb, rfl, rfl, rfl, by rw [if_neg hn]⟩⟩
end

end Go.Proofs.YtogifafehihjgaaGreat.Ab
