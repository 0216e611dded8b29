/-
  The executor's drawn regions against the model's: what stands whenever some of the operations are done.
-/
import Derived.Test.YtogifafehihjgaaGreatRe
namespace Go.Proofs.YtogifafehihjgaaGreat.Ab
open Go

theorem read_same {P : Program} {S : Syms} {call : FuncId → FF} {ty : TypeId} {op : Op} {T : TM} {h : Heap} {r : VH} (hc : clsOf P op = 1) (hr : (mkOp P S call ty op).f T h = some r) : r.h = h := by
  cases op <;> try (cases hc; done)
  case load t x =>
    have hr' : (mkLoad P t x).f T h = some r := hr
    unfold mkLoad at hr'
    split at hr'
    · obtain ⟨_, _, hr'⟩ := ob_some hr'
      obtain ⟨_, _, hr'⟩ := ob_some hr'
      obtain ⟨_, _, hr'⟩ := ob_some hr'
      cases hr'; rfl
    · obtain ⟨_, _, hr'⟩ := ob_some hr'
      obtain ⟨_, _, hr'⟩ := ob_some hr'
      obtain ⟨_, _, hr'⟩ := ob_some hr'
      cases hr'; rfl
    · cases hr'
  case convert src dst x =>
    have hr' : (mkConv P S src dst x).f T h = some r := hr
    unfold mkConv at hr'
    split at hr'
    · obtain ⟨v, _, hr'⟩ := ob_some hr'
      cases hn : asNat v with
      | none =>
        rw [hn] at hr'
        obtain ⟨_, _, hr'⟩ := ob_some (show ob (slowConv P S src dst v) (fun r => some (⟨r, h⟩ : VH)) = some r from hr')
        cases hr'; rfl
      | some a =>
        rw [hn] at hr'
        rename_i k0 k _ _ _ _
        have hr' : bb (Nat.ble a.n (maxK (kidx k))) (some (⟨.nat (kidx k) a.n, h⟩ : VH)) (ob (slowConv P S src dst v) fun r => some ⟨r, h⟩) = some r := hr'
        cases hb : Nat.ble a.n (maxK (kidx k)) with
        | true => rw [hb] at hr'; cases hr'; rfl
        | false =>
          rw [hb] at hr'
          obtain ⟨_, _, hr'⟩ := ob_some (show ob (slowConv P S src dst v) (fun r => some (⟨r, h⟩ : VH)) = some r from hr')
          cases hr'; rfl
    · split at hr'
      · obtain ⟨_, _, hr'⟩ := ob_some hr'
        obtain ⟨_, _, hr'⟩ := ob_some hr'
        cases hr'; rfl
      · cases hr'
    · obtain ⟨_, _, hr'⟩ := ob_some hr'
      obtain ⟨_, _, hr'⟩ := ob_some hr'
      cases hr'; rfl
  case call c =>
    unfold clsOf at hc
    dsimp only at hc
    split at hc <;> cases hc

def dstOf (ops : Array Oper) (k : Nat) : Option Tmp := (ops[k]?).bind (·.dst)

section
variable {P : Program} {S : Syms} {call : FuncId → FF} {N : Nat} {ops : Array Oper} {inf : List SI} {T0 T' : TM} {h0 h' : Heap}

theorem Infos.there (hi : Infos P ops inf) {i : Nat} (h : i < ops.size) : ∃ o s, ops[i]? = some o ∧ inf[i]? = some s := ⟨ops[i], inf[i]'(by rw [hi.len]; exact h), by simp [h], by simp [hi.len, h]⟩
theorem Infos.lt (hi : Infos P ops inf) {i : Nat} {s : SI} (h : inf[i]? = some s) : i < ops.size := by
  rcases Nat.lt_or_ge i inf.length with h' | h'
  · rw [← hi.len]; exact h'
  · rw [List.getElem?_eq_none h'] at h; cases h

theorem cntE_mono {i j : Nat} (h : i ≤ j) : cntE (inf.take i) ≤ cntE (inf.take j) := by
  unfold cntE
  exact List.Sublist.countP_le (by rw [← Nat.min_eq_left h, ← List.take_take]; exact List.take_sublist _ _)

theorem eff_inj {k k' : Nat} {s s' : SI} (h1 : inf[k]? = some s) (h2 : inf[k']? = some s') (c1 : s.cls = 2) (c2 : s'.cls = 2) (h : cntE (inf.take k) = cntE (inf.take k')) : k = k' := by
  have key : ∀ {a b : Nat} {x : SI}, a < b → inf[a]? = some x → x.cls = 2 → cntE (inf.take a) < cntE (inf.take b) := fun {a b x} hab ha hc => by
    have e := cntE_take_succ ha
    rw [if_pos hc] at e
    have := cntE_mono (inf := inf) (show a + 1 ≤ b by omega)
    omega
  rcases Nat.lt_trichotomy k k' with h3 | h3 | h3
  · have := key h3 h1 c1; omega
  · exact h3
  · have := key h3 h2 c2; omega

/-- the c-th of those that act -/
theorem eff_at {c : Nat} (h : c < cntE inf) : ∃ e s, (effsOf inf 0)[c]? = some e ∧ inf[e]? = some s ∧ s.cls = 2 ∧ cntE (inf.take e) = c := by
  have hl : c < (effsOf inf 0).length := by rw [effsOf_length]; exact h
  obtain ⟨k, s, e1, e2, e3, e4⟩ := (effsOf_spec inf 0 c ((effsOf inf 0)[c])).1 (by simp [hl])
  rw [Nat.zero_add] at e1
  exact ⟨k, s, by rw [← e1]; simp [hl], e2, e3, e4⟩

variable (hi : Infos P ops inf) (hmn : ∀ f as h, Mn h ((call f).f as h)) (run : Run P S call N ops inf T0 h0 T' h')

include hi hmn in
theorem Run.hs {i : Nat} (h : i < ops.size) : Hs (run.h i) (run.h (i + 1)) := by
  obtain ⟨o, s, ho, hs⟩ := hi.there h
  obtain ⟨wf, _, _, _, hcase⟩ := run.step i o s ho hs
  rcases hcase with ⟨g, _, _, _, e⟩ | ⟨_, ⟨_, e, _⟩ | ⟨_, e, _⟩ | ⟨_, e⟩ | ⟨_, r, b, _, _, _, _, hlt, e⟩⟩
  · rw [e]; exact .refl _
  · rw [e]; exact .refl _
  · rw [e]; exact .refl _
  · exact mn_op hmn _ e
  · rw [e]
    refine ⟨Nat.le_succ _, fun hw k hk => ?_⟩
    have hk : (run.h i).next + 1 ≤ k := hk
    rw [blk_set_ne _ _ hlt (by omega)]
    exact hw k (by omega)

include hi hmn in
theorem Run.hsle : ∀ {i j : Nat}, i ≤ j → j ≤ ops.size → Hs (run.h i) (run.h j) := fun {i j} hij hj => by
  induction j with
  | zero => rw [show i = 0 by omega]; exact .refl _
  | succ j ih =>
    rcases Nat.lt_or_ge i (j + 1) with h | h
    · exact (ih (by omega) (by omega)).trans (run.hs hi hmn (by omega))
    · rw [show i = j + 1 by omega]; exact .refl _

include hi hmn in
theorem Run.hw (hw0 : HW h0) {i : Nat} (h : i ≤ ops.size) : HW (run.h i) := (run.hsle hi hmn (Nat.zero_le i) h).hw (by rw [run.zeroh]; exact hw0)

include hi in
/-- the heaps of those that acted are heaps of the text's run -/
theorem Run.Rat {c : Nat} (hc : c ≤ cntE inf) : ∃ i, i ≤ ops.size ∧ run.R c = run.h i := by
  cases c with
  | zero => exact ⟨0, Nat.zero_le _, by rw [run.zeroR, run.zeroh]⟩
  | succ c =>
    obtain ⟨e, s, _, hs, hcl, he⟩ := eff_at (inf := inf) (c := c) (by omega)
    have hlt := hi.lt hs
    obtain ⟨o, s', ho, hs'⟩ := hi.there hlt
    rw [hs] at hs'; cases hs'
    obtain ⟨wf, _, _, hR, _⟩ := run.step e o s ho hs
    exact ⟨e + 1, hlt, by rw [← hR hcl, he]⟩

include hi in
/-- what lies at a step of the text's run: what the last that acted left, and the blocks made since -/
theorem Run.made : ∀ {i : Nat}, i ≤ ops.size → ∀ (k : Nat) (b : Blk), (run.h i).blk k = some b → (run.R (cntE (inf.take i))).blk k = some b ∨
    ∃ t s, t < i ∧ inf[t]? = some s ∧ 3 ≤ s.cls ∧ cntE (inf.take t) = cntE (inf.take i) ∧ (run.h t).next ≤ k ∧ k < (run.h (t + 1)).next ∧ (run.h (t + 1)).blk k = some b := by
  intro i
  induction i with
  | zero =>
    intro _ k b hb
    left
    have : cntE (inf.take 0) = 0 := by simp [cntE]
    rw [this, run.zeroR, ← run.zeroh]; exact hb
  | succ i ih =>
    intro hle k b hb
    obtain ⟨o, s, ho, hs⟩ := hi.there (show i < ops.size by omega)
    have e1 := cntE_take_succ hs
    obtain ⟨wf, _, _, hR, hcase⟩ := run.step i o s ho hs
    have acted : s.cls = 2 → (run.R (cntE (inf.take (i + 1)))).blk k = some b := fun hc => by
      rw [e1, if_pos hc, hR hc]; exact hb
    have same : s.cls ≠ 2 → (run.h i).blk k = some b → (run.R (cntE (inf.take (i + 1)))).blk k = some b ∨
        ∃ t s, t < i + 1 ∧ inf[t]? = some s ∧ 3 ≤ s.cls ∧ cntE (inf.take t) = cntE (inf.take (i + 1)) ∧ (run.h t).next ≤ k ∧ k < (run.h (t + 1)).next ∧ (run.h (t + 1)).blk k = some b := fun hc hb' => by
      rw [if_neg hc, Nat.add_zero] at e1
      rcases ih (by omega) k b hb' with h1 | ⟨t, s', h1, h2, h3, h4, h5⟩
      · left; rw [e1]; exact h1
      · right; exact ⟨t, s', by omega, h2, h3, by rw [e1]; exact h4, h5⟩
    by_cases hc : s.cls = 2
    · exact .inl (acted hc)
    · rcases hcase with ⟨g, _, _, _, e⟩ | ⟨_, ⟨_, e, _⟩ | ⟨_, e, _⟩ | ⟨c2, _⟩ | ⟨c3, r, b', _, _, _, _, hlt, e⟩⟩
      · exact same hc (by rw [← e]; exact hb)
      · exact same hc (by rw [← e]; exact hb)
      · exact same hc (by rw [← e]; exact hb)
      · exact absurd c2 hc
      · by_cases hk : k = (run.h i).next
        · right
          refine ⟨i, s, by omega, hs, c3, ?_, by omega, ?_, hb⟩
          · rw [e1, if_neg hc, Nat.add_zero]
          · rw [e]; show k < (run.h i).next + 1; omega
        · refine same hc ?_
          rw [e, blk_set_ne _ _ hlt hk] at hb
          exact hb

include hi in
/-- what a slot holds in the text's run -/
theorem Run.slot : ∀ {i : Nat}, i ≤ ops.size → ∀ (t : Nat) (v : AV), tget (run.T i) t = some v →
    (∃ k, k < i ∧ dstOf ops k = some t ∧ v = run.v k ∧ ∀ k', k < k' → k' < i → dstOf ops k' ≠ some t) ∨ (tget T0 t = some v ∧ ∀ k, k < i → dstOf ops k ≠ some t) := by
  intro i
  induction i with
  | zero => intro _ t v h; right; rw [run.zeroT] at h; exact ⟨h, fun k hk => by omega⟩
  | succ i ih =>
    intro hle t v h
    obtain ⟨o, s, ho, hs⟩ := hi.there (show i < ops.size by omega)
    obtain ⟨wf, hwf, hT, _, _⟩ := run.step i o s ho hs
    have hd : dstOf ops i = o.dst := by simp [dstOf, ho]
    rw [hT] at h
    have old : o.dst ≠ some t → tget (run.T i) t = some v →
        (∃ k, k < i + 1 ∧ dstOf ops k = some t ∧ v = run.v k ∧ ∀ k', k < k' → k' < i + 1 → dstOf ops k' ≠ some t) ∨ (tget T0 t = some v ∧ ∀ k, k < i + 1 → dstOf ops k ≠ some t) := fun hne h => by
      rcases ih (by omega) t v h with ⟨k, h1, h2, h3, h4⟩ | ⟨h1, h2⟩
      · left
        refine ⟨k, by omega, h2, h3, fun k' hk hk' => ?_⟩
        rcases Nat.lt_or_ge k' i with h5 | h5
        · exact h4 k' hk h5
        · rw [show k' = i by omega, hd]; exact hne
      · right
        refine ⟨h1, fun k hk => ?_⟩
        rcases Nat.lt_or_ge k i with h5 | h5
        · exact h2 k h5
        · rw [show k = i by omega, hd]; exact hne
    unfold mkPut at hwf
    split at hwf
    · rename_i d hdst
      obtain ⟨hc, hwf⟩ := bb_true hwf
      obtain ⟨_, c2⟩ := and_true' hc
      cases hwf
      have c2 := blt_lt c2
      have h : tget (tset (run.T i) d (run.v i)) t = some v := h
      by_cases e : t = d
      · subst e
        rw [tget_tset_same c2] at h
        cases h
        left
        exact ⟨i, by omega, by rw [hd, hdst], rfl, fun k' h1 h2 => by omega⟩
      · rw [tget_tset_ne c2 e] at h
        exact old (by rw [hdst]; intro he; cases he; exact e rfl) h
    · rename_i hdst
      cases hwf
      exact old (by rw [hdst]; intro he; cases he) h
end

end Go.Proofs.YtogifafehihjgaaGreat.Ab
