/-
  The executor's run of a drawn region, taken together.
-/
import Derived.Test.YtogifafehihjgaaGreatRd
namespace Go.Proofs.YtogifafehihjgaaGreat.Ab
open Go

section
variable {P : Program} {S : Syms} {call : FuncId → FF} {N : Nat}

theorem draw_run {ops : Array Oper} {T0 : TM} {h0 : Heap} {r : R} (h : (mkDraw P S call N ops).f T0 h0 = some r) :
    r.x = .normal ∧ ∃ inf, Infos P ops inf ∧ allPairs inf [] = true ∧ allEdges ops.toList 0 = true ∧ Nonempty (Run P S call N ops inf T0 h0 r.T r.h) := by
  have hok := infos_ok P ops
  have h : (mkDraw2 P S call N ops.toList (infosOf P ops ops.toList []) (effsOf (infosOf P ops ops.toList []) 0)).f T0 h0 = some r := h
  generalize infosOf P ops ops.toList [] = inf at h hok
  unfold mkDraw2 at h
  cases hc : and (allPairs inf []) (allEdges ops.toList 0) with
  | false => rw [hc] at h; cases h
  | true =>
    rw [hc] at h
    obtain ⟨hp, he⟩ := and_true' hc
    obtain ⟨s', hs, h⟩ := ob_some (show ob ((mkDSteps P S call N ops.toList inf (effsOf inf 0) (lenL (effsOf inf 0)) ops.toList 0).f ⟨T0, h0, [h0], []⟩) (fun s => bb (chkRds s.rs s.rd) (some (⟨.normal, s.T, s.h⟩ : R)) none) = some r from h)
    obtain ⟨hchk, h⟩ := bb_true h
    cases h
    refine ⟨rfl, inf, hok, hp, he, ?_⟩
    obtain ⟨st, g1, g2, g3⟩ := steps_trace ops.toList 0 _ _ hs
    simp only [Nat.zero_add] at g2 g3
    have hm : lenL (effsOf inf 0) = cntE inf := by rw [lenL_eq, effsOf_length]
    have hsize : ops.toList.length = ops.size := by simp
    have hinf : inf.length = ops.size := hok.len
    rw [hsize] at g2
    have step : ∀ (i : Nat) (o : Oper) (s : SI), ops[i]? = some o → inf[i]? = some s →
        (mkDStep P S call N ops.toList o s.cls (Nat.sub (cntE inf) (jmax inf (effsOf inf 0) i)) (Nat.sub (Nat.succ (jmax inf (effsOf inf 0) i)) (jmin (effsOf inf 0) s))).f (st i) = some (st (i + 1)) := fun i o s ho hs => by
      obtain ⟨b, hb, h⟩ := g3 i o (by simpa using ho)
      rw [hs] at hb; cases hb
      rw [hm] at h; exact h
    have there : ∀ i, i < ops.size → ∃ o s, ops[i]? = some o ∧ inf[i]? = some s := fun i hi => ⟨ops[i], inf[i]'(by omega), by simp [hi], by simp [hinf, hi]⟩
    -- the heaps, one for each that acted
    have rsStep : ∀ i o s, ops[i]? = some o → inf[i]? = some s → (st (i + 1)).rs = if s.cls = 2 then (st (i + 1)).h :: (st i).rs else (st i).rs := fun i o s ho hs => by
      obtain ⟨wf, v, _, _, hcase⟩ := step_cases (step i o s ho hs)
      rcases hcase with ⟨g, _, _, _, e1, _, e2⟩ | ⟨_, ⟨c, _, _, e, _⟩ | ⟨c, _, e, _⟩ | ⟨c, _, e, _⟩ | ⟨c, _, e, _⟩⟩
      · rw [e2, e1]
      · rw [e, if_neg (by omega)]
      · rw [e, if_neg (by omega)]
      · rw [e, if_pos c]
      · rw [e, if_neg (by omega)]
    have rdStep : ∀ i o s, ops[i]? = some o → inf[i]? = some s → ∀ x ∈ (st i).rd, x ∈ (st (i + 1)).rd := fun i o s ho hs x hx => by
      obtain ⟨wf, v, _, _, hcase⟩ := step_cases (step i o s ho hs)
      rcases hcase with ⟨g, _, _, _, _, e, _⟩ | ⟨_, ⟨c, _, e, _, _⟩ | ⟨c, _, _, e⟩ | ⟨c, _, _, e⟩ | ⟨c, e, _, _⟩⟩ <;> rw [e]
      · exact hx
      · exact hx
      · exact List.mem_cons_of_mem _ hx
      · exact hx
      · exact hx
    have rdAll : ∀ d i, i + d = ops.size → ∀ x ∈ (st i).rd, x ∈ s'.rd := by
      intro d
      induction d with
      | zero => intro i hi x hx; rw [← g2, ← hi]; exact hx
      | succ d ih =>
        intro i hi x hx
        obtain ⟨o, s, ho, hs⟩ := there i (by omega)
        exact ih (i + 1) (by omega) x (rdStep i o s ho hs x hx)
    have hcnt : cntE (inf.take ops.size) = cntE inf := by rw [← hinf, List.take_length]
    have rsAll : ∀ d i, i + d = ops.size → cntE (inf.take i) ≤ cntE inf ∧ ∀ c, c ≤ cntE (inf.take i) → (st i).rs[cntE (inf.take i) - c]? = s'.rs[cntE inf - c]? := by
      intro d
      induction d with
      | zero =>
        intro i hi
        have hi : i = ops.size := by omega
        subst hi
        rw [hcnt, g2]
        exact ⟨Nat.le_refl _, fun c _ => rfl⟩
      | succ d ih =>
        intro i hi
        obtain ⟨o, s, ho, hs⟩ := there i (by omega)
        obtain ⟨h1, h2⟩ := ih (i + 1) (by omega)
        have e1 := cntE_take_succ hs
        have e2 := rsStep i o s ho hs
        by_cases hc : s.cls = 2
        · rw [if_pos hc] at e1 e2
          refine ⟨by omega, fun c hcc => ?_⟩
          rw [← h2 c (by omega), e2, show cntE (inf.take (i + 1)) - c = (cntE (inf.take i) - c) + 1 by omega, List.getElem?_cons_succ]
        · rw [if_neg hc] at e1 e2
          refine ⟨by omega, fun c hcc => ?_⟩
          rw [← h2 c (by omega), e2, show cntE (inf.take (i + 1)) - c = cntE (inf.take i) - c by omega]
    have hR : ∀ i, i ≤ ops.size → (st i).rs[0]? = s'.rs[cntE inf - cntE (inf.take i)]? := fun i hi => by
      have := (rsAll (ops.size - i) i (by omega)).2 _ (Nat.le_refl _)
      rwa [Nat.sub_self] at this
    have hv : ∀ i, ∃ x, ∀ o s, ops[i]? = some o → inf[i]? = some s → StepF P S call N ops inf (fun i => (st i).T) (fun i => (st i).h) (fun _ => x) (fun c => (s'.rs[cntE inf - c]?).getD h0) i o s := fun i => by
      by_cases hi : i < ops.size
      · obtain ⟨o, s, ho, hs⟩ := there i hi
        have hst := step i o s ho hs
        have hrd : ∀ x ∈ (st (i + 1)).rd, x ∈ s'.rd := rdAll (ops.size - (i + 1)) (i + 1) (by omega)
        have e1 := cntE_take_succ hs
        have hrs := rsStep i o s ho hs
        have hR1 := hR (i + 1) (by omega)
        obtain ⟨wf, v, hwf, hT, hcase⟩ := step_cases hst
        refine ⟨v, fun o' s'' ho' hs'' => ?_⟩
        rw [ho] at ho'; cases ho'
        rw [hs] at hs''; cases hs''
        refine ⟨wf, hwf, hT, fun hc => ?_, ?_⟩
        · rw [if_pos hc] at e1 hrs
          rw [hrs, e1] at hR1
          simp only [List.getElem?_cons_zero] at hR1
          show (s'.rs[cntE inf - (cntE (inf.take i) + 1)]?).getD h0 = _
          rw [← hR1]; rfl
        · rcases hcase with ⟨g, c1, c2, c3, c4, _, _⟩ | ⟨hg, ⟨c, c1, _, _, c2⟩ | ⟨c, c1, c2, c3⟩ | ⟨c, c1, _, _⟩ | ⟨c, _, _, c1⟩⟩
          · exact .inl ⟨g, c1, c2, c3, c4⟩
          · exact .inr ⟨hg, .inl ⟨c, c1, c2⟩⟩
          · refine .inr ⟨hg, .inr (.inl ⟨c, c1, fun k k1 k2 => ?_⟩)⟩
            have hmem := hrd _ (by rw [c3]; exact List.mem_cons_self ..)
            have hck := chkRds_mem hchk _ hmem
            have hle := lead_le (fun e => oe (nthL inf e) false fun s => not (hasBit s.anc i)) (effsOf inf 0)
            rw [effsOf_length] at hle
            have hle : jmax inf (effsOf inf 0) i ≤ cntE inf := hle
            obtain ⟨Rr, q, q1, q2, q3⟩ := chkRd_spec hck (y := jmax inf (effsOf inf 0) i - k) (by
              show jmax inf (effsOf inf 0) i - k < Nat.sub (Nat.succ (jmax inf (effsOf inf 0) i)) (jmin (effsOf inf 0) s)
              have : Nat.sub (Nat.succ (jmax inf (effsOf inf 0) i)) (jmin (effsOf inf 0) s) = jmax inf (effsOf inf 0) i + 1 - jmin (effsOf inf 0) s := rfl
              omega)
            have q1 : s'.rs[(cntE inf - jmax inf (effsOf inf 0) i) + (jmax inf (effsOf inf 0) i - k)]? = some Rr := q1
            rw [show (cntE inf - jmax inf (effsOf inf 0) i) + (jmax inf (effsOf inf 0) i - k) = cntE inf - k by omega] at q1
            refine ⟨q, ?_, q3⟩
            dsimp only
            rw [q1]; exact q2
          · exact .inr ⟨hg, .inr (.inr (.inl ⟨c, c1⟩))⟩
          · exact .inr ⟨hg, .inr (.inr (.inr ⟨c, c1⟩))⟩
      · exact ⟨.any, fun o s ho hs => by rw [Array.getElem?_eq_none (by omega)] at ho; cases ho⟩
    obtain ⟨v, hv⟩ := Classical.axiomOfChoice hv
    refine ⟨⟨fun i => (st i).T, fun i => (st i).h, v, fun c => (s'.rs[cntE inf - c]?).getD h0, by rw [g1], by rw [g1], by rw [g2], by rw [g2], ?_, fun i o s ho hs => hv i o s ho hs⟩⟩
    have := hR 0 (Nat.zero_le _)
    rw [g1] at this
    have e0 : cntE (inf.take 0) = 0 := by simp [cntE]
    rw [e0] at this
    show (s'.rs[cntE inf - 0]?).getD h0 = h0
    rw [← this]; rfl
end

end Go.Proofs.YtogifafehihjgaaGreat.Ab
