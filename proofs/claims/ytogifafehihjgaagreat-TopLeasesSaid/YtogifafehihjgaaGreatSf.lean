/-
  The executor's word on TopLeases, at every draw and type.
-/
import Derived.Test.YtogifafehihjgaaGreatSe
namespace Go.Proofs.YtogifafehihjgaaGreat.Ab
open Go

section
variable {d : Int} {t : Nat} {B : Nat}

/-- the program's types of boxes, and its address 5.0.0.1:7000, whatever the class -/
theorem ty_VB {σ σ' : Sg} {u : Value} (h : VR (rho d t) σ (.agg 2 [.sym 3 5, .sym 3 6]) u) : VR (rho d t) σ' (.agg 2 [.nat 3 (t % 3), .nat 3 (1 + t / 3 % 2)]) u := by
  obtain ⟨x, y, rfl, h1, h2⟩ := agg2 h
  have e1 : x = rho d t 5 := h1.1
  have e2 : y = rho d t 6 := h2.1
  subst e1; subst e2
  exact ⟨_, rfl, rfl, LR.cons rfl (LR.cons rfl LR.nil)⟩
theorem addr_VB {σ σ' : Sg} {a b : Nat} {u : Value} (h : VR (rho d t) σ (.agg 2 [.nat 6 a, .nat 5 b]) u) : VR (rho d t) σ' (.agg 2 [.nat 6 a, .nat 5 b]) u := by
  obtain ⟨x, y, rfl, h1, h2⟩ := agg2 h
  exact ⟨_, rfl, rfl, LR.cons h1 (LR.cons h2 LR.nil)⟩

theorem two {α β : Type} {R : α → β → Prop} {a b : α} {us : List β} (h : LR R [a, b] us) : ∃ x y, us = [x, y] ∧ R a x ∧ R b y := by
  obtain ⟨x, hx, h1⟩ := h.get (i := 0) rfl
  obtain ⟨y, hy, h2⟩ := h.get (i := 1) rfl
  have hlen := h.1
  match us, hlen, hx, hy with
  | [p, q], _, hx, hy => simp at hx hy; subst hx; subst hy; exact ⟨_, _, rfl, h1, h2⟩
theorem three {α β : Type} {R : α → β → Prop} {a b c : α} {us : List β} (h : LR R [a, b, c] us) : ∃ x y z, us = [x, y, z] ∧ R a x ∧ R b y ∧ R c z := by
  obtain ⟨x, hx, h1⟩ := h.get (i := 0) rfl
  obtain ⟨y, hy, h2⟩ := h.get (i := 1) rfl
  obtain ⟨z, hz, h3⟩ := h.get (i := 2) rfl
  have hlen := h.1
  match us, hlen, hx, hy, hz with
  | [p, q, r], _, hx, hy, hz => simp at hx hy hz; subst hx; subst hy; subst hz; exact ⟨_, _, _, rfl, h1, h2, h3⟩

theorem keyF_ok {xs : List AV} {us : List Value} {σ : Sg} {h : Heap} {w : World} {r : VH} (hr : keyF.f xs h = some r) (hl : LR (VR (rho d t) σ) xs us) (hm : HRel (rho d t) B σ h.blk w) (hB : B ≤ w.heap.size) :
    Calls Tryz.prog 165 us.toArray w fun e w' => ∃ u σ', e = .returned u ∧ Post (rho d t) B σ h w r u σ' w' := by
  unfold keyF at hr
  dsimp only at hr
  split at hr
  · cases hr
    obtain ⟨x, y, rfl, h1, h2⟩ := two hl
    obtain ⟨q, hq, hv⟩ := oe_true (show keyChk (t % 3) (1 + t / 3 % 2) _ _ = true from key_run (Nat.mod_lt _ (by omega)) (Nat.mod_lt _ (by omega)))
    refine (aside0 (s0_ok (B := B)) hq (LR.cons (ty_VB h1) (LR.cons (addr_VB h2) LR.nil)) hm hB).mono fun e w' he => ?_
    obtain ⟨u, rfl, ⟨σ', hu⟩, hmem, hfr⟩ := he
    rw [eqB_eq hv] at hu
    obtain ⟨x, y, rfl, e1, e2⟩ := agg2 hu
    refine ⟨_, σ, rfl, Ext.refl _ _ _, ⟨_, rfl, rfl, LR.cons ⟨?_, ?_⟩ (LR.cons ⟨?_, ?_⟩ LR.nil)⟩, hmem, hfr⟩
    · exact e1
    · cases e1; rfl
    · exact e2
    · cases e2; rfl
  · cases hr

theorem isMet_eq {b : Blk} (h : isMet b = true) : b = .sm 2 [.nat 6 83886081, .nat 5 7000] := by
  unfold isMet at h
  split at h
  · obtain ⟨h1, h2⟩ := and_true' h
    rw [beq_eq h1, eqL_eq (fun _ _ => eqAtom_eq) h2]
  · cases h

theorem passF_ok {xs : List AV} {us : List Value} {σ : Sg} {h : Heap} {w : World} {r : VH} (hr : passF.f xs h = some r) (hl : LR (VR (rho d t) σ) xs us) (hm : HRel (rho d t) B σ h.blk w) (hB : B ≤ w.heap.size) :
    Calls Tryz.prog 198 us.toArray w fun e w' => ∃ u σ', e = .returned u ∧ Post (rho d t) B σ h w r u σ' w' := by
  unfold passF at hr
  dsimp only at hr
  split at hr
  · rename_i k
    obtain ⟨hk, hr⟩ := bb_true hr
    have hk := beq_eq hk
    subst hk
    obtain ⟨b, hb, hr⟩ := ob_some hr
    obtain ⟨hmet, hr⟩ := bb_true hr
    rw [isMet_eq hmet] at hb
    cases hr
    obtain ⟨x, y, z, rfl, h1, h2, h3⟩ := three hl
    obtain ⟨q, hq, hv⟩ := oe_true (show passChk (t % 3) (1 + t / 3 % 2) = true from pass_run (Nat.mod_lt _ (by omega)) (Nat.mod_lt _ (by omega)))
    obtain ⟨hv, hpost⟩ := bb_and hv
    have h2' : VR (rho d t) (fun j => if j = 1425 then σ 1425 else none) (.slice 1425 0 1 1 2) y := by
      obtain ⟨b, d, t, c, e, rest⟩ := h2
      exact ⟨b, d, t, c, by simp [e], rest⟩
    refine (aside1 (s0_ok (B := B)) (fun v hv => ?_) rfl hq hpost hb (LR.cons (ty_VB h1) (LR.cons h2' (LR.cons (addr_VB h3) LR.nil))) hm hB).mono fun e w' he => ?_
    · simp at hv
      rcases hv with rfl | rfl
      · exact ⟨_, _, rfl⟩
      · exact ⟨_, _, rfl⟩
    · obtain ⟨u, rfl, ⟨σ', hu⟩, hmem, hfr⟩ := he
      rw [eqB_eq hv] at hu
      exact ⟨_, σ, rfl, Ext.refl _ _ _, hu, hmem, hfr⟩
  · cases hr

theorem s1_sums : SumsOk Tryz.prog S1 (rho d t) B := by
  have key : ∀ f g, S1.fsum f = some g → (f = 165 ∧ g = keyF) ∨ (f = 198 ∧ g = passF) := fun f g hg => by
    have hg : bb (Nat.beq f 165) (some keyF) (bb (Nat.beq f 198) (some passF) none) = some g := hg
    cases h1 : Nat.beq f 165 with
    | true => rw [h1] at hg; cases hg; exact .inl ⟨beq_eq h1, rfl⟩
    | false =>
      rw [h1] at hg
      obtain ⟨h2, hg⟩ := bb_true (show bb (Nat.beq f 198) (some passF) none = some g from hg)
      cases hg
      exact .inr ⟨beq_eq h2, rfl⟩
  refine ⟨fun f g hg xs us σ h w r hr hl hm hw hf hB => ?_, fun f g hg xs h => ?_⟩
  · rcases key f g hg with ⟨rfl, rfl⟩ | ⟨rfl, rfl⟩
    · exact keyF_ok hr hl hm hB
    · exact passF_ok hr hl hm hB
  · rcases key f g hg with ⟨rfl, rfl⟩ | ⟨rfl, rfl⟩
    · intro r hr
      unfold keyF at hr
      dsimp only at hr
      split at hr
      · cases hr; exact .refl _
      · cases hr
    · intro r hr
      unfold passF at hr
      dsimp only at hr
      split at hr
      · obtain ⟨_, hr⟩ := bb_true hr
        obtain ⟨_, _, hr⟩ := ob_some hr
        obtain ⟨_, hr⟩ := bb_true hr
        cases hr; exact .refl _
      · cases hr

theorem s1_ok (ht : t < 256) : CallOk Tryz.prog (rho d t) B (evFn Tryz.prog S1 60) := exec_ok (fun _ call h1 h2 => back_ok (syms_ok ht) (fun _ h => beq_eq h) call h1 h2) (syms_ok ht) s1_sums follows_mixed 60
theorem s1_mn (ht : t < 256) : ∀ f xs h, Mn h ((evFn Tryz.prog S1 60 f).f xs h) := exec_mn (ρ := rho 0 t) (B := 0) (fun _ call h1 h2 => back_ok (syms_ok ht) (fun _ h => beq_eq h) call h1 h2) (syms_ok ht) s1_sums follows_mixed 60

/-- with known stretches -/
theorem s2_ok (ht : t < 256) {is : Nat → Bool} {l : List Ent} (hl : ∀ e ∈ l, chkE (evFn Tryz.prog S1 60) e = true) : CallOk Tryz.prog (rho d t) B (evFn Tryz.prog (withE S1 is l) 60) :=
  exec_ok (fun _ call h1 h2 => back_ok (syms_ok ht) (fun _ h => beq_eq h) call h1 h2) (syms_ok ht) (withE_ok s1_sums (s1_ok ht) (s1_mn ht) hl) follows_mixed 60
end

end Go.Proofs.YtogifafehihjgaaGreat.Ab
