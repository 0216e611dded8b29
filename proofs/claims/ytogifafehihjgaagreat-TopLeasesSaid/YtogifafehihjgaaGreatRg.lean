/-
  The executor's drawn regions against the model's: every order.
-/
import Derived.Test.YtogifafehihjgaaGreatRf
namespace Go.Proofs.YtogifafehihjgaaGreat.Ab
open Go

section
variable {P : Program} {S : Syms} {call : FuncId → FF} {N : Nat} {ops : Array Oper} {inf : List SI} {T0 T' : TM} {h0 h' : Heap} {ρ : Nat → Value} {B : Nat}

/-- the done ones -/
def Dn (listed : Array Bool) (k : Nat) : Prop := listed.getD k false = true

/-- what stands when the done ones are done: 'c' of them acted -/
structure DInv (P : Program) (S : Syms) (call : FuncId → FF) (N : Nat) (ops : Array Oper) (inf : List SI) (run : Run P S call N ops inf T0 h0 T' h') (ρ : Nat → Value) (B : Nat) (σ0 : Sg) (w0 : World) (ds : List Deferred)
    (listed : Array Bool) (c : Nat) (σ : Sg) (m : Mem) (a : Act) (w : World) : Prop where
  lsize : listed.size = ops.size
  clos : ∀ k s, Dn listed k → inf[k]? = some s → ∀ j, hasBit s.anc j = true → Dn listed j
  eff : ∀ k s, inf[k]? = some s → s.cls = 2 → (Dn listed k ↔ cntE (inf.take k) < c)
  cle : c ≤ cntE inf
  mem : HRel ρ B σ m w
  frame : FR σ0 h0.blk w0 σ m w
  core : ∀ k b, (run.R c).blk k = some b → m k = some b
  news : ∀ i, Dn listed i → c ≤ cntE (inf.take i) → ∀ k b, (run.h i).next ≤ k → k < (run.h (i + 1)).next → (run.h (i + 1)).blk k = some b → m k = some b
  le : Le σ0 σ
  off : ∀ k, k < h0.next ∨ h'.next ≤ k → σ k = σ0 k
  fresh : ∀ i, i < ops.size → ¬ Dn listed i → ∀ k, (run.h i).next ≤ k → k < (run.h (i + 1)).next → σ k = none
  size : a.tmps.size = N
  defers : a.defers = ds
  tw : ∀ k t, Dn listed k → dstOf ops k = some t → (∀ k', Dn listed k' → k < k' → dstOf ops k' ≠ some t) → ∃ u, a.tmps[t]? = some u ∧ VR ρ σ (run.v k) u
  t0 : ∀ t v, (∀ k, Dn listed k → dstOf ops k ≠ some t) → tget T0 t = some v → ∃ u, a.tmps[t]? = some u ∧ VR ρ σ v u

variable {run : Run P S call N ops inf T0 h0 T' h'} {σ0 : Sg} {w0 : World} {ds : List Deferred} {listed : Array Bool} {c : Nat} {σ : Sg} {m : Mem} {a : Act} {w : World}

theorem Dn.lt (hd : DInv P S call N ops inf run ρ B σ0 w0 ds listed c σ m a w) {k : Nat} (h : Dn listed k) : k < ops.size := by
  rcases Nat.lt_or_ge k listed.size with h1 | h1
  · rw [← hd.lsize]; exact h1
  · unfold Dn at h
    rw [Array.getD_eq_getD_getElem?, Array.getElem?_eq_none h1] at h
    cases h

theorem Dn_set {i k : Nat} (hi : i < listed.size) : Dn (listed.setIfInBounds i true) k ↔ k = i ∨ Dn listed k := by
  unfold Dn
  rw [Array.getD_eq_getD_getElem?, Array.getD_eq_getD_getElem?]
  by_cases h : k = i
  · subst h; simp [hi]
  · rw [Array.getElem?_setIfInBounds_ne (Ne.symm h)]
    simp [h]

variable (hi : Infos P ops inf) (hp : allPairs inf [] = true) (he : allEdges ops.toList 0 = true) (hmn : ∀ f as h, Mn h ((call f).f as h)) (hw0 : HW h0)

/-- ready: nothing ahead of it is left -/
def Rdy (ops : Array Oper) (listed : Array Bool) (i : Nat) : Prop := ¬ Dn listed i ∧ ∃ o, ops[i]? = some o ∧ ∀ e ∈ o.after, Region.binds .any e = true → Dn listed e.on

include hi in
theorem DInv.anc (hd : DInv P S call N ops inf run ρ B σ0 w0 ds listed c σ m a w) {i : Nat} {s : SI} (hr : Rdy ops listed i) (hs : inf[i]? = some s) : ∀ j, hasBit s.anc j = true → Dn listed j := by
  intro j hj
  obtain ⟨_, o, ho, hall⟩ := hr
  obtain ⟨s', hs', _, _, _, ha⟩ := hi.get i o ho
  rw [hs] at hs'; cases hs'
  rw [ha] at hj
  obtain ⟨e, hem, hb, h1 | ⟨s', h1, h2⟩⟩ := ancE_bit hj
  · subst h1; exact hall e (by simpa using hem) hb
  · have hdn := hall e (by simpa using hem) hb
    rw [List.getElem?_take] at h1
    split at h1
    · exact hd.clos e.on s' hdn h1 j h2
    · cases h1

include hi hp in
/-- what a ready operation looks at is as in the text's run -/
theorem DInv.look (hd : DInv P S call N ops inf run ρ B σ0 w0 ds listed c σ m a w) {i : Nat} {o : Oper} (hr : Rdy ops listed i) (ho : ops[i]? = some o) :
    ∀ t, t ∈ o.looksAt ops → ∀ v, tget (run.T i) t = some v → ∃ u, a.tmps[t]? = some u ∧ VR ρ σ v u := by
  intro t ht v hv
  have hlt : i < ops.size := by
    rcases Nat.lt_or_ge i ops.size with h | h
    · exact h
    · rw [Array.getElem?_eq_none h] at ho; cases ho
  obtain ⟨s, hs, _⟩ := hi.get i o ho
  -- no later writer of t is done
  have later : ∀ k', Dn listed k' → i < k' → dstOf ops k' ≠ some t := fun k' hk' hik hdk => by
    obtain ⟨o', s', ho', hs'⟩ := hi.there (Dn.lt hd hk')
    cases hb : hasBit s'.anc i with
    | true => exact hr.1 (hd.clos k' s' hk' hs' i hb)
    | false =>
      have := (pair_apart hi hp hik ho ho' hs' hb).2.1 t (by simpa [dstOf, ho'] using hdk)
      exact this ht
  have ne : ∀ k', Dn listed k' → k' ≠ i := fun k' hk' e => hr.1 (e ▸ hk')
  rcases run.slot hi (Nat.le_of_lt hlt) t v hv with ⟨k, h1, h2, h3, h4⟩ | ⟨h1, h2⟩
  · obtain ⟨o', s', ho', hs'⟩ := hi.there (show k < ops.size by omega)
    have hk : Dn listed k := by
      cases hb : hasBit s.anc k with
      | true => exact hd.anc hi hr hs k hb
      | false => exact absurd ht ((pair_apart hi hp h1 ho' ho hs hb).1 t (by simpa [dstOf, ho'] using h2)).1
    rw [h3]
    refine hd.tw k t hk h2 fun k' hk' hkk => ?_
    rcases Nat.lt_trichotomy k' i with h5 | h5 | h5
    · exact h4 k' hkk h5
    · exact absurd h5 (ne k' hk')
    · exact later k' hk' h5
  · refine hd.t0 t v (fun k hk => ?_) h1
    rcases Nat.lt_trichotomy k i with h5 | h5 | h5
    · exact h2 k h5
    · exact absurd h5 (ne k hk)
    · exact later k hk h5

include hi hp in
/-- one more is done -/
theorem DInv.next (hd : DInv P S call N ops inf run ρ B σ0 w0 ds listed c σ m a w) {i : Nat} {o : Oper} {s : SI} (hr : Rdy ops listed i) (ho : ops[i]? = some o) (hs : inf[i]? = some s)
    {u : Value} {w' : World} {σ' : Sg} {m' : Mem} {c' : Nat} (hc' : c' = if s.cls = 2 then c + 1 else c) (hci : s.cls = 2 → cntE (inf.take i) = c)
    (hv : VR ρ σ' (run.v i) u) (hext : Ext σ σ' (run.h i).next (run.h (i + 1)).next) (hmem : HRel ρ B σ' m' w') (hfr : FR σ m w σ' m' w')
    (hcore : ∀ k b, (run.R c').blk k = some b → m' k = some b)
    (hnews : ∀ t, (t = i ∨ Dn listed t) → c' ≤ cntE (inf.take t) → ∀ k b, (run.h t).next ≤ k → k < (run.h (t + 1)).next → (run.h (t + 1)).blk k = some b → m' k = some b)
    (hbelow : ∀ {x y : Nat}, x ≤ y → y ≤ ops.size → (run.h x).next ≤ (run.h y).next) {wf : WF} (hwf : mkPut N o.dst = some wf) :
    DInv P S call N ops inf run ρ B σ0 w0 ds (listed.setIfInBounds i true) c' σ' m' (a.put o.dst u) w' := by
  have hlt : i < ops.size := hi.lt hs
  have hll : i < listed.size := by rw [hd.lsize]; exact hlt
  have hdst : dstOf ops i = o.dst := by simp [dstOf, ho]
  have cnt_lt : s.cls = 2 → cntE (inf.take i) < cntE inf := fun h => by
    have e := cntE_take_succ hs
    rw [if_pos h] at e
    have h2 := cntE_mono (inf := inf) (show i + 1 ≤ inf.length by rw [hi.len]; exact hlt)
    rw [List.take_length] at h2
    omega
  have other : ∀ t, o.dst ≠ some t → (a.put o.dst u).tmps[t]? = a.tmps[t]? := fun t ht => by
    cases hd : o.dst with
    | none => rfl
    | some d =>
      rw [hd] at ht
      exact Array.getElem?_setIfInBounds_ne (fun e => ht (by rw [e]))
  refine ⟨by simp [hd.lsize], fun k s' hk hs' j hj => ?_, fun k s' hs' hcl => ?_, ?_, hmem, hd.frame.trans hfr, hcore, fun t ht => hnews t ((Dn_set hll).1 ht), hd.le.trans hext.le, fun k hk => ?_, fun i' hi' hn k h1 h2 => ?_, ?_, by rw [put_defers, hd.defers], fun k t hk hkt hlast => ?_, fun t v hno hv0 => ?_⟩
  · rw [Dn_set hll] at hk ⊢
    right
    rcases hk with rfl | hk
    · rw [hs] at hs'; cases hs'
      exact hd.anc hi hr hs j hj
    · exact hd.clos k s' hk hs' j hj
  · rw [Dn_set hll]
    have e := hd.eff k s' hs' hcl
    by_cases h : k = i
    · subst h
      rw [hs] at hs'; cases hs'
      rw [hc', if_pos hcl, hci hcl]
      exact ⟨fun _ => by omega, fun _ => .inl rfl⟩
    · rw [hc']
      by_cases h2 : s.cls = 2
      · rw [if_pos h2]
        have : cntE (inf.take k) ≠ c := fun e => h (eff_inj hs' hs hcl h2 (by rw [e, hci h2]))
        constructor
        · rintro (h3 | h3)
          · exact absurd h3 h
          · have := e.1 h3; omega
        · intro h3; exact .inr (e.2 (by omega))
      · rw [if_neg h2]
        constructor
        · rintro (h3 | h3)
          · exact absurd h3 h
          · exact e.1 h3
        · intro h3; exact .inr (e.2 h3)
  · rw [hc']
    by_cases h2 : s.cls = 2
    · rw [if_pos h2]; have := cnt_lt h2; rw [hci h2] at this; omega
    · rw [if_neg h2]; exact hd.cle
  · have b1 := hbelow (Nat.zero_le i) (Nat.le_of_lt hlt)
    have b2 := hbelow (show i + 1 ≤ ops.size from hlt) (Nat.le_refl _)
    rw [run.zeroh] at b1
    rw [run.lasth] at b2
    rw [hext.off k (by omega)]
    exact hd.off k hk
  · have hne : i' ≠ i := fun e => hn ((Dn_set hll).2 (.inl e))
    have hnd : ¬ Dn listed i' := fun e => hn ((Dn_set hll).2 (.inr e))
    rw [hext.off k ?_]
    · exact hd.fresh i' hi' hnd k h1 h2
    · rcases Nat.lt_or_ge i' i with h3 | h3
      · have := hbelow (show i' + 1 ≤ i by omega) (Nat.le_of_lt hlt); omega
      · have := hbelow (show i + 1 ≤ i' by omega) (Nat.le_of_lt hi'); omega
  · have := hd.size
    cases hdd : o.dst with
    | none => exact this
    | some d => simpa [Act.put] using this
  · rw [Dn_set hll] at hk
    rcases hk with rfl | hk
    · rw [hdst] at hkt
      have hdN : t < a.tmps.size := by
        rw [hd.size]
        rw [hkt] at hwf
        unfold mkPut at hwf
        obtain ⟨hc, _⟩ := bb_true hwf
        exact blt_lt (and_true' hc).1
      refine ⟨u, ?_, hv⟩
      rw [hkt]
      simp [Act.put, hdN]
    · have hne : o.dst ≠ some t := fun hdo => by
        have hki : k ≠ i := fun e => hr.1 (e ▸ hk)
        rcases Nat.lt_or_ge k i with h3 | h3
        · exact hlast i ((Dn_set hll).2 (.inl rfl)) h3 (by rw [hdst, hdo])
        · obtain ⟨o', s', ho', hs'⟩ := hi.there (Dn.lt hd hk)
          cases hb : hasBit s'.anc i with
          | true => exact hr.1 (hd.clos k s' hk hs' i hb)
          | false => exact ((pair_apart hi hp (show i < k by omega) ho ho' hs' hb).1 t hdo).2 (by simpa [dstOf, ho'] using hkt)
      rw [other t hne]
      obtain ⟨z, hz, hzv⟩ := hd.tw k t hk hkt fun k' hk' hkk => hlast k' ((Dn_set hll).2 (.inr hk')) hkk
      exact ⟨z, hz, hzv.mono hext.le⟩
  · have hne : o.dst ≠ some t := by rw [← hdst]; exact hno i ((Dn_set hll).2 (.inl rfl))
    rw [other t hne]
    obtain ⟨z, hz, hzv⟩ := hd.t0 t v (fun k hk => hno k ((Dn_set hll).2 (.inr hk))) hv0
    exact ⟨z, hz, hzv.mono hext.le⟩
end

end Go.Proofs.YtogifafehihjgaaGreat.Ab
