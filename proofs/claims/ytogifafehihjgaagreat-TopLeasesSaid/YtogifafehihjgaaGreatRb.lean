/-
  The executor's drawn regions against the model's: any order that the edges allow.
-/
import Derived.Test.YtogifafehihjgaaGreatRa
namespace Go.Proofs.YtogifafehihjgaaGreat.Ab
open Go

/-! ### a part of the memory turned, the rest as it was -/
def over (m1' m1 m : Mem) : Mem := fun k => match m1' k with
  | some b => some b
  | none => match m1 k with
    | some _ => none
    | none => m k

section
variable {ρ : Nat → Value} {B : Nat} {σ σ' : Sg} {m m1 m1' : Mem} {w w' : World}

theorem over_new {k : Nat} {b : Blk} (h : m1' k = some b) : over m1' m1 m k = some b := by simp [over, h]
theorem over_old {k : Nat} (h : m1' k = none) (h1 : m1 k = none) : over m1' m1 m k = m k := by simp [over, h, h1]
theorem over_some {k : Nat} {b : Blk} (h : over m1' m1 m k = some b) : m1' k = some b ∨ (m1' k = none ∧ m1 k = none ∧ m k = some b) := by
  unfold over at h
  cases h1 : m1' k with
  | some x => rw [h1] at h; exact .inl h
  | none =>
    rw [h1] at h
    cases h2 : m1 k with
    | some x => rw [h2] at h; cases h
    | none => rw [h2] at h; exact .inr ⟨rfl, rfl, h⟩

theorem HRel.frame (hm : HRel ρ B σ m w) (hsub : ∀ k b, m1 k = some b → m k = some b) (hp : HRel ρ B σ' m1' w') (hle : Le σ σ') (hf : FR σ m1 w σ' m1' w') :
    HRel ρ B σ' (over m1' m1 m) w' ∧ FR σ m w σ' (over m1' m1 m) w' := by
  have notin : ∀ k b x d t, m1 k = none → m k = some x → σ k = some (b, d, t) → ¬ Foot σ m1 b := fun k b x d t h1 hk hs ⟨k', x', d', t', hk', hs'⟩ => by
    have e := hm.inj k k' x x' b d t d' t' hk (hsub _ _ hk') hs hs'
    subst e
    rw [h1] at hk'; cases hk'
  have rest : ∀ k x, m1' k = none → m1 k = none → m k = some x → ∃ b d t, σ k = some (b, d, t) ∧ B ≤ b ∧ BR ρ σ w x b d t ∧ w'.heap[b]? = w.heap[b]? ∧ b < w.heap.size := fun k x h1 h2 hk => by
    obtain ⟨b, d, t, hs, hB, hbr⟩ := hm.has k x hk
    exact ⟨b, d, t, hs, hB, hbr, hf.keep b hbr.lt (notin k b x d t h2 hk hs), hbr.lt⟩
  have apart : ∀ k k' x x' b d t d' t', m1' k = some x → m1' k' = none → m1 k' = none → m k' = some x' → σ' k = some (b, d, t) → σ' k' = some (b, d', t') → False := fun k k' x x' b d t d' t' h1 h2 h3 h4 hs hs' => by
    obtain ⟨b', d1, t1, hs1, _, _, _, hlt⟩ := rest k' x' h2 h3 h4
    have e := hle _ _ hs1
    rw [hs'] at e; cases e
    rcases hf.foot b ⟨k, x, d, t, h1, hs⟩ with h5 | h5
    · exact notin k' b x' _ _ h3 h4 hs1 h5
    · omega
  refine ⟨⟨fun k x hk => ?_, fun k k' x x' b d t d' t' hk hk' hs hs' => ?_⟩, ⟨hf.size, fun b hb hn => hf.keep b hb fun hf1 => hn (hf1.sub hsub), fun b hb => ?_, hf.tape, hf.os, hf.output⟩⟩
  · rcases over_some hk with h1 | ⟨h1, h2, h3⟩
    · exact hp.has k x h1
    · obtain ⟨b, d, t, hs, hB, hbr, hkeep, _⟩ := rest k x h1 h2 h3
      exact ⟨b, d, t, hle _ _ hs, hB, (hbr.heap hkeep).le hle⟩
  · rcases over_some hk with h1 | ⟨h1, h2, h3⟩ <;> rcases over_some hk' with g1 | ⟨g1, g2, g3⟩
    · exact hp.inj k k' x x' b d t d' t' h1 g1 hs hs'
    · exact (apart k k' x x' b d t d' t' h1 g1 g2 g3 hs hs').elim
    · exact (apart k' k x' x b d' t' d t g1 h1 h2 h3 hs' hs).elim
    · obtain ⟨b1, d1, t1, e1, _⟩ := rest k x h1 h2 h3
      obtain ⟨b2, d2, t2, e2, _⟩ := rest k' x' g1 g2 g3
      have i1 := hle _ _ e1
      have i2 := hle _ _ e2
      rw [hs] at i1; cases i1
      rw [hs'] at i2; cases i2
      exact hm.inj k k' x x' b d t d' t' h3 g3 e1 e2
  · obtain ⟨k, x, d, t, hk, hs⟩ := hb
    rcases over_some hk with h1 | ⟨h1, h2, h3⟩
    · rcases hf.foot b ⟨k, x, d, t, h1, hs⟩ with h5 | h5
      · exact .inl (h5.sub hsub)
      · exact .inr h5
    · obtain ⟨b1, d1, t1, e1, _⟩ := rest k x h1 h2 h3
      have i1 := hle _ _ e1
      rw [hs] at i1; cases i1
      exact .inl ⟨k, x, d, t, h3, e1⟩

/-- a key of the old memory is none of the new, where the part was empty -/
theorem over_empty_old (hm : HRel ρ B σ m w) (_hp : HRel ρ B σ' m1' w') (hle : Le σ σ') (hf : FR σ (fun _ => none) w σ' m1' w') {k : Nat} {b : Blk} (hk : m k = some b) : m1' k = none := by
  cases h : m1' k with
  | none => rfl
  | some x =>
    obtain ⟨b1, d1, t1, hs, _, hbr⟩ := hm.has k b hk
    have e := hle _ _ hs
    rcases hf.foot b1 ⟨k, x, d1, t1, h, e⟩ with ⟨_, _, _, _, h1, _⟩ | h1
    · cases h1
    · have := hbr.lt; omega
end

theorem eH_blk (n k : Nat) : (eH n).blk k = none := by
  unfold Heap.blk eH
  dsimp only
  rw [l64K_n64K]
  cases Nat.blt k 65536 <;> rfl
theorem eH_HW (n : Nat) : HW (eH n) := fun k _ => eH_blk n k
theorem eH_HRel {ρ : Nat → Value} {B : Nat} {σ : Sg} {w : World} (n : Nat) : HRel ρ B σ (eH n).blk w :=
  ⟨fun k b h => (by rw [eH_blk] at h; cases h), fun k k' x x' b d t d' t' h => (by rw [eH_blk] at h; cases h)⟩

/-! ### equal values -/
theorem eqAtom_eq {v u : AV} (h : eqAtom v u = true) : v = u := by
  unfold eqAtom at h
  split at h
  · obtain ⟨h1, h2⟩ := and_true' h; rw [beq_eq h1, beq_eq h2]
  · obtain ⟨h1, h2⟩ := and_true' h; rw [beq_eq h1, beq_eq h2]
  · rw [eq_of_beq h]
  · obtain ⟨h1, h2⟩ := and_true' h; rw [beq_eq h1, of_decide_eq_true h2]
  · obtain ⟨h1, h2⟩ := and_true' h; rw [beq_eq h1, beq_eq h2]
  · rw [of_decide_eq_true h]
  · rfl
  · rfl
  · obtain ⟨h1, h3⟩ := and_true' h
    obtain ⟨h1, h2⟩ := and_true' h1
    obtain ⟨h3, h5⟩ := and_true' h3
    obtain ⟨h3, h4⟩ := and_true' h3
    rw [beq_eq h1, beq_eq h2, beq_eq h3, beq_eq h4, beq_eq h5]
  · rfl
  · obtain ⟨h1, h2⟩ := and_true' h; rw [of_decide_eq_true h1, beq_eq h2]
  · obtain ⟨h1, h2⟩ := and_true' h
    obtain ⟨h2, h3⟩ := and_true' h2
    rw [of_decide_eq_true h1, beq_eq h2, beq_eq h3]
  · cases h
theorem eqL_eq {p : AV → AV → Bool} (hp : ∀ v u, p v u = true → v = u) : ∀ {l m : List AV}, eqL p l m = true → l = m
  | [], [], _ => rfl
  | [], _ :: _, h => by cases h
  | _ :: _, [], h => by cases h
  | a :: l, b :: m, h => by
    have h : bb (p a b) (eqL p l m) false = true := h
    cases hc : p a b with
    | false => rw [hc] at h; cases h
    | true => rw [hc] at h; rw [hp a b hc, eqL_eq hp (show eqL p l m = true from h)]
theorem eqC_eq {v u : AV} (h : eqC v u = true) : v = u := by
  unfold eqC at h
  split at h
  · obtain ⟨h1, h2⟩ := and_true' h
    obtain ⟨h2, h3⟩ := and_true' h2
    rw [beq_eq h1, eqL_eq (fun _ _ => eqAtom_eq) h2, eqL_eq (fun _ _ => eqAtom_eq) h3]
  · exact eqAtom_eq h
theorem eqB_eq {v u : AV} (h : eqB v u = true) : v = u := by
  unfold eqB at h
  split at h
  · obtain ⟨h1, h2⟩ := and_true' h
    rw [beq_eq h1, eqL_eq (fun _ _ => eqC_eq) h2]
  · exact eqC_eq h

end Go.Proofs.YtogifafehihjgaaGreat.Ab
