/-
  The executor's drawn regions against the model's: a step in any order, and all of them.
-/
import Derived.Test.YtogifafehihjgaaGreatRg
namespace Go.Proofs.YtogifafehihjgaaGreat.Ab
open Go

section
variable {P : Program} {S : Syms} {call : FuncId → FF} {N : Nat} {ops : Array Oper} {inf : List SI} {T0 T' : TM} {h0 h' : Heap} {ρ : Nat → Value} {B : Nat}
  {run : Run P S call N ops inf T0 h0 T' h'} {σ0 : Sg} {w0 : World} {ds : List Deferred} {listed : Array Bool} {c : Nat} {σ : Sg} {m : Mem} {a : Act} {w : World}

theorem Ext.none {n : Nat} {σ' : Sg} (h : Ext σ σ' n n) : ∀ k, σ' k = σ k := fun k => h.off k (by omega)

/-- a slot's value, as an operand -/
theorem look_ev {o : Oper} {T : TM} (hl : ∀ t, t ∈ o.looksAt ops → ∀ v, tget T t = some v → ∃ u, a.tmps[t]? = some u ∧ VR ρ σ v u) : ∀ x ∈ o.op.operands, EvOk ρ σ T a.eval x := by
  intro x hx v hv
  cases x with
  | tmp t =>
    rw [mkEv_tmp] at hv
    obtain ⟨u, hu, hr⟩ := hl t (by simp only [Oper.looksAt, List.mem_append, List.mem_filterMap]; exact .inl ⟨.tmp t, by simpa using hx, rfl⟩) v hv
    simpa [Act.eval, hu] using hr
  | const k =>
    unfold mkEv at hv
    dsimp only at hv
    split at hv
    · rename_i a' ha
      cases hv
      exact of_VR ha
    · cases hv
  | global g => cases hv
  | func f => cases hv; exact ⟨#[], #[], rfl, LR.nil, LR.nil⟩

theorem draw_step (hS : SymsOk P S ρ) (hcall : CallOk P ρ B call) (hmn : ∀ f as h, Mn h ((call f).f as h)) (hi : Infos P ops inf) (hp : allPairs inf [] = true) (hw0 : HW h0) (hB : B ≤ w0.heap.size)
    (hd : DInv P S call N ops inf run ρ B σ0 w0 ds listed c σ m a w) {i : Nat} (hr : Rdy ops listed i) {Q : Exit → Act → World → Prop} {K : Act → World → Prop}
    (hK : ∀ c' σ' m' a' w', DInv P S call N ops inf run ρ B σ0 w0 ds (listed.setIfInBounds i true) c' σ' m' a' w' → K a' w') : wpOp P ops Q i K a w := by
  obtain ⟨o, ho⟩ : ∃ o, ops[i]? = some o := ⟨_, hr.2.choose_spec.1⟩
  have hlt : i < ops.size := by
    rcases Nat.lt_or_ge i ops.size with h | h
    · exact h
    · rw [Array.getElem?_eq_none h] at ho; cases ho
  obtain ⟨s, hs, _, _, hcls, _⟩ := hi.get i o ho
  have hlook := hd.look hi hp hr ho
  have hevs := look_ev hlook
  have hBw : B ≤ w.heap.size := Nat.le_trans hB hd.frame.size
  have hbelow : ∀ {x y : Nat}, x ≤ y → y ≤ ops.size → (run.h x).next ≤ (run.h y).next := fun hxy hy => (run.hsle hi hmn hxy hy).le
  have hfresh : Fresh σ (run.h i).next (run.h (i + 1)).next := fun k h1 h2 => hd.fresh i hlt hr.1 k h1 h2
  obtain ⟨wf, hwf, hT, hR, hcase⟩ := run.step i o s ho hs
  -- how many have acted
  have hci : s.cls = 2 → cntE (inf.take i) = c := fun h2 => by
    have h3 : ¬ cntE (inf.take i) < c := fun h => hr.1 ((hd.eff i s hs h2).2 h)
    rcases Nat.lt_or_ge c (cntE (inf.take i)) with h4 | h4
    · have hle := cntE_mono (inf := inf) (show i ≤ inf.length by rw [hi.len]; omega)
      rw [List.take_length] at hle
      obtain ⟨e, s', _, hs', hcl, hec⟩ := eff_at (inf := inf) (c := c) (by omega)
      have hei : e < i := by
        rcases Nat.lt_or_ge e i with h5 | h5
        · exact h5
        · have := cntE_mono (inf := inf) h5; omega
      obtain ⟨o', _, ho', hs''⟩ := hi.there (show e < ops.size by omega)
      rw [hs'] at hs''; cases hs''
      have hde : Dn listed e := by
        cases hb : hasBit s.anc e with
        | true => exact hd.anc hi hr hs e hb
        | false =>
          obtain ⟨q, hq, _, _, hqc, _⟩ := hi.get e o' ho'
          rw [hs'] at hq; cases hq
          exact absurd ⟨by rw [← hcls]; exact h2, by rw [← hqc, hcl]; exact Nat.le_refl _⟩ (pair_apart hi hp hei ho' ho hs hb).2.2
      have := (hd.eff e s' hs' hcl).1 hde
      omega
    · omega
  -- what lay there in the text's run lies there, where all that made a block is done
  have hbase : s.cls = 2 → ∀ k b, (run.h i).blk k = some b → m k = some b := fun h2 k b hb => by
    rcases run.made hi (Nat.le_of_lt hlt) k b hb with h1 | ⟨t, s', h1, h3, h4, h5, h6, h7, h8⟩
    · rw [hci h2] at h1; exact hd.core k b h1
    · obtain ⟨o', _, ho', hs''⟩ := hi.there (show t < ops.size by omega)
      rw [h3] at hs''; cases hs''
      have hdt : Dn listed t := by
        cases hb : hasBit s.anc t with
        | true => exact hd.anc hi hr hs t hb
        | false =>
          obtain ⟨q, hq, _, _, hqc, _⟩ := hi.get t o' ho'
          rw [h3] at hq; cases hq
          exact absurd ⟨by rw [← hcls]; exact h2, by rw [← hqc]; omega⟩ (pair_apart hi hp h1 ho' ho hs hb).2.2
      exact hd.news t hdt (by rw [h5, hci h2]; exact Nat.le_refl _) k b h6 h7 h8
  unfold wpOp
  rw [ho]
  dsimp only
  rcases hcase with ⟨g, hg, hgf, hv, heq⟩ | ⟨hg, hcase⟩
  · -- it is not wanted
    rw [mkGuard_wanted hg hgf hlook]
    have hnx : (run.h (i + 1)).next = (run.h i).next := by rw [heq]
    refine hK (if s.cls = 2 then c + 1 else c) σ m (a.put o.dst undef) w ?_
    refine hd.next hi hp hr ho hs rfl hci (by rw [hv]; exact undef_VR) (Ext.refl _ _ _) hd.mem (FR.refl _ _ _) (fun k b hb => ?_) (fun t ht hct k b h1 h2 h3 => ?_) hbelow hwf
    · by_cases h2 : s.cls = 2
      · rw [if_pos h2, ← hci h2, hR h2, heq] at hb
        exact hbase h2 k b hb
      · rw [if_neg h2] at hb
        exact hd.core k b hb
    · rcases ht with rfl | ht
      · omega
      · refine hd.news t ht ?_ k b h1 h2 h3
        by_cases h2 : s.cls = 2
        · rw [if_pos h2] at hct; omega
        · rw [if_neg h2] at hct; exact hct
  · -- it is wanted
    have hwant : Region.wanted o (yielded ops a.tmps) = true := by
      rcases hg with hg | ⟨g, hg, hgf⟩
      · exact mkGuard_none hg
      · exact mkGuard_wanted hg hgf hlook
    rw [hwant]
    refine .inl ?_
    rcases hcase with ⟨hc, heq, r, hop, hrv, hrn⟩ | ⟨hc, heq, hrd⟩ | ⟨hc, hop⟩ | ⟨hc, r, b0, hop, hrv, hrn, hrb, h64, heq⟩
    · -- it neither reads nor acts
      have hn2 : ¬ s.cls = 2 := by omega
      have hnx : (run.h (i + 1)).next = (run.h i).next := by rw [heq]
      refine OpRes.wp (op_sound hS hcall hop hevs (eH_HRel _) (eH_HW _) (fun k h1 h2 => by rw [hrn] at h2; have h1 : (run.h i).next ≤ k := h1; omega) hBw) fun u w' σ' hpo => ?_
      have he : Ext σ σ' (run.h i).next (run.h i).next := by have := hpo.ext; rwa [hrn] at this
      have hsub0 : ∀ k b, (eH (run.h i).next).blk k = some b → m k = some b := fun k b hb => by rw [eH_blk] at hb; cases hb
      obtain ⟨hm1, hf1⟩ := hd.mem.frame hsub0 hpo.mem he.le hpo.frame
      have hfe : FR σ (fun _ => none) w σ' r.h.blk w' := by
        have : (eH (run.h i).next).blk = fun _ => none := funext fun k => eH_blk _ k
        rw [← this]; exact hpo.frame
      have hsub : ∀ k b, m k = some b → over r.h.blk (eH (run.h i).next).blk m k = some b := fun k b hb => by
        rw [over_old (over_empty_old hd.mem hpo.mem he.le hfe hb) (eH_blk _ k)]; exact hb
      refine hK c σ' m _ w' ?_
      refine hd.next hi hp hr ho hs (by rw [if_neg hn2]) (fun h => absurd h hn2) (by rw [← hrv]; exact hpo.val) (by rw [hnx]; exact he) (hm1.sub hsub) (hf1.trans (FR.sub hsub)) hd.core (fun t ht hct k b h1 h2 h3 => ?_) hbelow hwf
      rcases ht with rfl | ht
      · omega
      · exact hd.news t ht hct k b h1 h2 h3
    · -- it reads
      have hn2 : ¬ s.cls = 2 := by omega
      have hnx : (run.h (i + 1)).next = (run.h i).next := by rw [heq]
      have hmin : jmin (effsOf inf 0) s ≤ c := by
        rcases Nat.lt_or_ge c (jmin (effsOf inf 0) s) with h1 | h1
        · exfalso
          have hle := lead_le (fun e => hasBit s.anc e) (effsOf inf 0)
          rw [effsOf_length] at hle
          have h1' : c < lead (fun e => hasBit s.anc e) (effsOf inf 0) := h1
          obtain ⟨e, s', he, hs', hcl, hec⟩ := eff_at (inf := inf) (c := c) (by omega)
          have hb := lead_lt h1' he
          have := (hd.eff e s' hs' hcl).1 (hd.anc hi hr hs e hb)
          omega
        · exact h1
      have hmax : c ≤ jmax inf (effsOf inf 0) i := by
        rcases Nat.lt_or_ge (jmax inf (effsOf inf 0) i) c with h1 | h1
        · exfalso
          obtain ⟨e, s', he, hs', hcl, hec⟩ := eff_at (inf := inf) (c := jmax inf (effsOf inf 0) i) (by have := hd.cle; omega)
          have hb := lead_at (p := fun e => oe (nthL inf e) false fun s => not (hasBit s.anc i)) he
          have hb : oe (nthL inf e) false (fun s => not (hasBit s.anc i)) = false := hb
          rw [nthL_eq, hs'] at hb
          have hb : (not (hasBit s'.anc i)) = false := hb
          have hb : hasBit s'.anc i = true := by simpa using hb
          have hde : Dn listed e := (hd.eff e s' hs' hcl).2 (by omega)
          exact hr.1 (hd.clos e s' hde hs' i hb)
        · exact h1
      obtain ⟨r, hop, hrv⟩ := hrd c hmin hmax
      have hrh : r.h = run.R c := read_same (by rw [← hcls]; exact hc) hop
      obtain ⟨x, hx, hRx⟩ := run.Rat hi hd.cle
      refine OpRes.wp (op_sound hS hcall hop hevs (hd.mem.sub hd.core) (by rw [hRx]; exact run.hw hi hmn hw0 hx) (fun k h1 h2 => by rw [hrh] at h2; omega) hBw) fun u w' σ' hpo => ?_
      have he : Ext σ σ' (run.R c).next (run.R c).next := by have := hpo.ext; rwa [hrh] at this
      obtain ⟨hm1, hf1⟩ := hd.mem.frame hd.core hpo.mem he.le hpo.frame
      have hsub : ∀ k b, m k = some b → over r.h.blk (run.R c).blk m k = some b := fun k b hb => by
        rw [hrh]
        cases hk : (run.R c).blk k with
        | some b' =>
          have := hd.core k b' hk
          rw [hb] at this; cases this
          exact over_new hk
        | none => rw [over_old hk hk]; exact hb
      have he' : Ext σ σ' (run.h i).next (run.h (i + 1)).next := ⟨he.le, fun k _ => he.none k⟩
      refine hK c σ' m _ w' ?_
      refine hd.next hi hp hr ho hs (by rw [if_neg hn2]) (fun h => absurd h hn2) (by rw [← hrv]; exact hpo.val) he' (hm1.sub hsub) (hf1.trans (FR.sub hsub)) hd.core (fun t ht hct k b h1 h2 h3 => ?_) hbelow hwf
      rcases ht with rfl | ht
      · omega
      · exact hd.news t ht hct k b h1 h2 h3
    · -- it acts
      have hb0 := hbase hc
      have hHi := run.hw hi hmn hw0 (Nat.le_of_lt hlt)
      have hHi1 := run.hw hi hmn hw0 (show i + 1 ≤ ops.size from hlt)
      refine OpRes.wp (op_sound hS hcall hop hevs (hd.mem.sub hb0) hHi hfresh hBw) fun u w' σ' hpo => ?_
      obtain ⟨hm1, hf1⟩ := hd.mem.frame hb0 hpo.mem hpo.ext.le hpo.frame
      refine hK (c + 1) σ' (over (run.h (i + 1)).blk (run.h i).blk m) _ w' ?_
      refine hd.next hi hp hr ho hs (by rw [if_pos hc]) hci hpo.val hpo.ext hm1 hf1 (fun k b hb => ?_) (fun t ht hct k b h1 h2 h3 => ?_) hbelow hwf
      · rw [← hci hc, hR hc] at hb
        exact over_new hb
      · rcases ht with rfl | ht
        · rw [hci hc] at hct; omega
        · have hti : i < t := by
            rcases Nat.lt_or_ge i t with h5 | h5
            · exact h5
            · have := cntE_mono (inf := inf) h5
              rw [hci hc] at this; omega
          have hge := hbelow (show i + 1 ≤ t from hti) (Nat.le_of_lt (Dn.lt hd ht))
          have hge0 := hbelow (show i ≤ i + 1 by omega) (show i + 1 ≤ ops.size from hlt)
          rw [over_old (hHi1 k (by omega)) (hHi k (by omega))]
          exact hd.news t ht (by omega) k b h1 h2 h3
    · -- it makes a block
      have hn2 : ¬ s.cls = 2 := by omega
      have hnx : (run.h (i + 1)).next = (run.h i).next + 1 := by rw [heq]
      refine OpRes.wp (op_sound hS hcall hop hevs (eH_HRel _) (eH_HW _) (fun k h1 h2 => hfresh k h1 (by rw [hnx]; rw [hrn] at h2; exact h2)) hBw) fun u w' σ' hpo => ?_
      have he : Ext σ σ' (run.h i).next (run.h (i + 1)).next := by have := hpo.ext; rw [hrn] at this; rw [hnx]; exact this
      have hsub0 : ∀ k b, (eH (run.h i).next).blk k = some b → m k = some b := fun k b hb => by rw [eH_blk] at hb; cases hb
      obtain ⟨hm1, hf1⟩ := hd.mem.frame hsub0 hpo.mem he.le hpo.frame
      have hfe : FR σ (fun _ => none) w σ' r.h.blk w' := by
        have : (eH (run.h i).next).blk = fun _ => none := funext fun k => eH_blk _ k
        rw [← this]; exact hpo.frame
      have hsub : ∀ k b, m k = some b → over r.h.blk (eH (run.h i).next).blk m k = some b := fun k b hb => by
        rw [over_old (over_empty_old hd.mem hpo.mem he.le hfe hb) (eH_blk _ k)]; exact hb
      refine hK c σ' (over r.h.blk (eH (run.h i).next).blk m) _ w' ?_
      refine hd.next hi hp hr ho hs (by rw [if_neg hn2]) (fun h => absurd h hn2) (by rw [← hrv]; exact hpo.val) he hm1 hf1 (fun k b hb => hsub k b (hd.core k b hb)) (fun t ht hct k b h1 h2 h3 => ?_) hbelow hwf
      rcases ht with rfl | ht
      · have hk : k = (run.h t).next := by omega
        subst hk
        rw [heq, blk_set_same _ _ h64] at h3
        cases h3
        exact over_new hrb
      · exact hsub k b (hd.news t ht hct k b h1 h2 h3)

/-- how many are left -/
def left (n : Nat) (listed : Array Bool) : Nat := (List.range n).countP fun k => !(listed.getD k false)

theorem left_set {n i : Nat} (hsz : listed.size = n) (hi : i < n) (hn : ¬ Dn listed i) : left n (listed.setIfInBounds i true) < left n listed := by
  unfold left
  have key : ∀ (l : List Nat), l.Nodup → (∀ k ∈ l, k < n) → (l.countP fun k => !((listed.setIfInBounds i true).getD k false)) + (if i ∈ l then 1 else 0) = l.countP fun k => !(listed.getD k false) := by
    intro l
    induction l with
    | nil => intro _ _; simp
    | cons x l ih =>
      intro hnd hlt
      obtain ⟨h1, h2⟩ := List.nodup_cons.1 hnd
      have ih := ih h2 fun k hk => hlt k (by simp [hk])
      rw [List.countP_cons, List.countP_cons]
      by_cases hx : x = i
      · subst hx
        rw [if_neg h1] at ih
        have e1 : (listed.setIfInBounds x true).getD x false = true := by
          rw [Array.getD_eq_getD_getElem?]; simp [hsz, hi]
        have e2 : listed.getD x false = false := by
          cases h : listed.getD x false with
          | true => exact absurd h hn
          | false => rfl
        rw [e1, e2]
        simp at ih ⊢
        omega
      · have e1 : (listed.setIfInBounds i true).getD x false = listed.getD x false := by
          rw [Array.getD_eq_getD_getElem?, Array.getD_eq_getD_getElem?, Array.getElem?_setIfInBounds_ne (Ne.symm hx)]
        rw [e1]
        have : (i ∈ x :: l) ↔ i ∈ l := by simp [Ne.symm hx]
        by_cases hil : i ∈ l
        · rw [if_pos hil] at ih; rw [if_pos (this.2 hil)]; omega
        · rw [if_neg hil] at ih; rw [if_neg (fun h => hil (this.1 h))]; omega
  have := key (List.range n) List.nodup_range (fun k hk => List.mem_range.1 hk)
  rw [if_pos (List.mem_range.2 hi)] at this
  omega

theorem left_zero {n : Nat} (h : left n listed = 0) : ∀ k, k < n → Dn listed k := fun k hk => by
  unfold left at h
  rw [List.countP_eq_zero] at h
  have := h k (List.mem_range.2 hk)
  simpa [Dn] using this

/-- where nothing is ready, all is done -/
theorem all_done (hsz : listed.size = ops.size) (he : allEdges ops.toList 0 = true) (hr : Region.ready .any ops listed = []) : ∀ k, k < ops.size → Dn listed k := by
  intro k
  induction k using Nat.strongRecOn with
  | _ k ih =>
    intro hk
    cases hd : listed.getD k false with
    | true => exact hd
    | false =>
      exfalso
      have hmem : k ∈ Region.ready .any ops listed := by
        rw [mem_ready]
        refine ⟨?_, ops[k], by simp [hk], fun e hem hb => ?_⟩
        · rw [Array.getD_eq_getD_getElem?] at hd ⊢
          have hkl : k < listed.size := by rw [hsz]; exact hk
          simpa [hkl] using hd
        · have := allEdges_spec he k ops[k] (by simp [hk])
          rw [Nat.zero_add] at this
          have hlt := edge_lt this hem hb
          exact ih e.on hlt (by omega)
      rw [hr] at hmem
      cases hmem

theorem ready_rdy (hsz : listed.size = ops.size) {i : Nat} (h : i ∈ Region.ready .any ops listed) : Rdy ops listed i := by
  rw [mem_ready] at h
  obtain ⟨h1, o, ho, h2⟩ := h
  refine ⟨fun hd => ?_, o, ho, fun e he hb => h2 e he hb⟩
  have hlt : i < listed.size := by
    rw [hsz]
    rcases Nat.lt_or_ge i ops.size with h | h
    · exact h
    · rw [Array.getElem?_eq_none h] at ho; cases ho
  unfold Dn at hd
  rw [Array.getD_eq_getD_getElem?] at h1 hd
  simp [hlt] at h1 hd
  rw [h1] at hd
  cases hd

/-- all done: as behind the text's run -/
theorem DInv.done (hi : Infos P ops inf) (hd : DInv P S call N ops inf run ρ B σ0 w0 ds listed c σ m a w) (hall : ∀ k, k < ops.size → Dn listed k) :
    CPost ρ B N σ0 h0 w0 ds ⟨.normal, T', h'⟩ .normal a w σ := by
  have hc : c = cntE inf := by
    rcases Nat.lt_or_ge c (cntE inf) with h | h
    · obtain ⟨e, s, _, hs, hcl, hec⟩ := eff_at h
      have := (hd.eff e s hs hcl).1 (hall e (hi.lt hs))
      omega
    · have := hd.cle; omega
  have hcnt : cntE (inf.take ops.size) = cntE inf := by rw [← hi.len, List.take_length]
  have hsub : ∀ k b, h'.blk k = some b → m k = some b := fun k b hb => by
    rw [← run.lasth] at hb
    rcases run.made hi (Nat.le_refl _) k b hb with h1 | ⟨t, s', h1, h3, h4, h5, h6, h7, h8⟩
    · rw [hcnt, ← hc] at h1; exact hd.core k b h1
    · exact hd.news t (hall t h1) (by rw [h5, hcnt, hc]; exact Nat.le_refl _) k b h6 h7 h8
  refine ⟨rfl, ⟨hd.le, hd.off⟩, fun t v hv => ?_, hd.size, by rw [hd.defers]; exact Marks.refl _ _ _, hd.mem.sub hsub, hd.frame.trans (FR.sub hsub)⟩
  have hv : tget T' t = some v := hv
  rw [← run.lastT] at hv
  rcases run.slot hi (Nat.le_refl _) t v hv with ⟨k, h1, h2, h3, h4⟩ | ⟨h1, h2⟩
  · rw [h3]
    exact hd.tw k t (hall k h1) h2 fun k' hk' hkk => h4 k' hkk (Dn.lt hd hk')
  · exact hd.t0 t v (fun k hk => h2 k (Dn.lt hd hk)) h1

theorem draw_any (hS : SymsOk P S ρ) (hcall : CallOk P ρ B call) (hmn : ∀ f as h, Mn h ((call f).f as h)) (hi : Infos P ops inf) (hp : allPairs inf [] = true) (he : allEdges ops.toList 0 = true) (hw0 : HW h0) (hB : B ≤ w0.heap.size)
    {Q : Exit → Act → World → Prop} (hQ : ∀ a' w' σ', CPost ρ B N σ0 h0 w0 ds ⟨.normal, T', h'⟩ .normal a' w' σ' → Q .normal a' w') :
    ∀ (fuel : Nat) (listed : Array Bool) (c : Nat) (σ : Sg) (m : Mem) (a : Act) (w : World), left ops.size listed ≤ fuel → DInv P S call N ops inf run ρ B σ0 w0 ds listed c σ m a w → wpAny P .any ops Q fuel listed a w := by
  intro fuel
  induction fuel with
  | zero =>
    intro listed c σ m a w hl hd
    have hall := left_zero (show left ops.size listed = 0 by omega)
    refine ⟨?_, hQ a w σ (hd.done hi hall)⟩
    cases hr : Region.ready .any ops listed with
    | nil => rfl
    | cons x l =>
      have := (ready_rdy hd.lsize (show x ∈ Region.ready .any ops listed by rw [hr]; simp))
      obtain ⟨h1, o, ho, _⟩ := this
      refine absurd (hall x ?_) h1
      rcases Nat.lt_or_ge x ops.size with h | h
      · exact h
      · rw [Array.getElem?_eq_none h] at ho; cases ho
  | succ fuel ih =>
    intro listed c σ m a w hl hd
    refine ⟨fun hr => hQ a w σ (hd.done hi (all_done hd.lsize he hr)), fun i hir => ?_⟩
    have hr := ready_rdy hd.lsize hir
    have hlt : i < ops.size := by
      obtain ⟨_, o, ho, _⟩ := hr
      rcases Nat.lt_or_ge i ops.size with h | h
      · exact h
      · rw [Array.getElem?_eq_none h] at ho; cases ho
    refine draw_step hS hcall hmn hi hp hw0 hB hd hr fun c' σ' m' a' w' hd' => ?_
    have := left_set hd.lsize hlt hr.1
    exact ih _ c' σ' m' a' w' (by omega) hd'

/-- a drawn region -/
theorem draw_wp (hS : SymsOk P S ρ) (hcall : CallOk P ρ B call) (hmn : ∀ f as h, Mn h ((call f).f as h)) (hfol : P.follows .mixedOrders = true) {T : TM} {h : Heap} {r : R} {id : Nat} {Q : Exit → Act → World → Prop}
    (e : (mkDraw P S call N ops).f T h = some r) (ht : TRel ρ σ T a.tmps) (hN : a.tmps.size = N) (hm : HRel ρ B σ h.blk w) (hw : HW h) (hf : Fresh σ h.next r.h.next) (hB : B ≤ w.heap.size)
    (hQ : ∀ a' w' σ', CPost ρ B N σ h w a.defers r .normal a' w' σ' → Q .normal a' w') : (Code.region id ops true).wp P Q a w := by
  obtain ⟨hx, inf, hi, hp, he, ⟨run⟩⟩ := draw_run e
  have hr : r = ⟨.normal, r.T, r.h⟩ := by
    cases r
    cases hx
    rfl
  rw [hr] at hQ
  refine wp_region_any hfol (draw_any (run := run) (σ0 := σ) (w0 := w) (ds := a.defers) hS hcall hmn hi hp he hw hB hQ ops.size _ 0 σ h.blk a _ ?_ ?_)
  · unfold left
    exact Nat.le_trans List.countP_le_length (by simp)
  · have nd : ∀ k, ¬ Dn (Array.replicate ops.size false) k := fun k hk => by
      unfold Dn at hk
      rw [Array.getD_eq_getD_getElem?] at hk
      by_cases h : k < ops.size
      · simp [h] at hk
      · simp [h] at hk
    have hle : ∀ {x y : Nat}, x ≤ y → y ≤ ops.size → (run.h x).next ≤ (run.h y).next := fun hxy hy => (run.hsle hi hmn hxy hy).le
    refine ⟨by simp, fun k s hk => absurd hk (nd k), fun k s hs hc => ⟨fun hk => absurd hk (nd k), fun h => absurd h (Nat.not_lt_zero _)⟩, Nat.zero_le _, ⟨hm.has, hm.inj⟩, ⟨Nat.le_refl _, fun _ _ _ => rfl, fun _ h => .inl h, rfl, rfl, rfl⟩, fun k b hb => by rw [run.zeroR] at hb; exact hb, fun i hk => absurd hk (nd i), Le.refl _, fun k _ => rfl, fun i hi' _ k h1 h2 => ?_, hN, rfl, fun k t hk => absurd hk (nd k), fun t v _ hv => ht t v hv⟩
    have b1 := hle (Nat.zero_le i) (Nat.le_of_lt hi')
    have b2 := hle (show i + 1 ≤ ops.size from hi') (Nat.le_refl _)
    rw [run.zeroh] at b1
    rw [run.lasth] at b2
    exact hf k (by omega) (by omega)
end

end Go.Proofs.YtogifafehihjgaaGreat.Ab
