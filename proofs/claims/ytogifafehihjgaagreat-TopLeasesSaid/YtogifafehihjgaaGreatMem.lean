/-
  The executor's memory operations against the model's: loads, stores, new blocks.
-/
import Derived.Test.YtogifafehihjgaaGreatRel
import Derived.Laws.CopyRow
namespace Go.Proofs.YtogifafehihjgaaGreat.Ab
open Go

theorem Addr.add_none (b o i : Nat) : (⟨b, o, none⟩ : Addr).add i = ⟨b, o + i, none⟩ := by
  unfold Go.Addr.add; split <;> simp_all

section
variable {P : Program} {ρ : Nat → Value} {B : Nat} {σ : Sg} {m : Mem} {w : World}

/-- what a tree holds of a list that was laid into it -/
theorem tputs_some : ∀ {n : Nat} {l : List AV} {t t' : TM} {i : Nat}, n ≤ 256 → tputs n l t i = some t' →
    i + l.length ≤ max n i ∧ ∀ (j : Nat) (v : AV), tget t' j = some v → (i ≤ j ∧ l[j - i]? = some v) ∨ ((j < i ∨ i + l.length ≤ j) ∧ tget t j = some v)
  | n, [], t, t', i, hn, h => by
    cases h
    refine ⟨by simp; omega, fun j v hv => .inr ⟨by simp; omega, hv⟩⟩
  | n, a :: l, t, t', i, hn, h => by
    obtain ⟨hi, h⟩ := bb_true (show bb (Nat.blt i n) (tputs n l (tset t i a) (Nat.succ i)) none = some t' from h)
    have hi := blt_lt hi
    obtain ⟨h1, h2⟩ := tputs_some hn h
    refine ⟨by simp only [List.length_cons]; omega, fun j v hv => ?_⟩
    rcases h2 j v hv with ⟨hij, hl⟩ | ⟨hj, ht⟩
    · refine .inl ⟨by omega, ?_⟩
      have e : j - i = (j - (i + 1)) + 1 := by omega
      rw [e]; simpa using hl
    · by_cases e : j = i
      · subst e
        rw [tget_tset_same (by omega)] at ht; cases ht
        exact .inl ⟨Nat.le_refl _, by simp⟩
      · rw [tget_tset_ne (by omega) e] at ht
        exact .inr ⟨by simp only [List.length_cons]; omega, ht⟩

theorem tcells_some : ∀ {n : Nat} {t : TM} {i : Nat} {l : List AV}, tcells t n i = some l → l.length = n ∧ ∀ (j : Nat) (v : AV), l[j]? = some v → tget t (i + j) = some v
  | 0, t, i, l, h => by cases h; exact ⟨rfl, fun j v h => by simp at h⟩
  | n + 1, t, i, l, h => by
    obtain ⟨v, hv, h⟩ := ob_some (show ob (tget t i) (fun v => ob (tcells t n (Nat.succ i)) fun l => some (v :: l)) = some l from h)
    obtain ⟨r, hr, h⟩ := ob_some h
    cases h
    obtain ⟨h1, h2⟩ := tcells_some hr
    refine ⟨by simp [h1], fun j x hx => ?_⟩
    cases j with
    | zero => simp at hx; subst hx; exact hv
    | succ j =>
      have := h2 j x (by simpa using hx)
      rwa [show i + (j + 1) = Nat.succ i + j by omega]

/-- one cell of a block -/
theorem BR.cell {blk : Blk} {b d t o : Nat} {v : AV} (h : BR ρ σ w blk b d t) (hv : blk.cell o = some v) :
    ∃ u, w.cell? ⟨b, d + o, none⟩ = some u ∧ VC ρ σ v u := by
  cases blk with
  | it s pos => cases hv
  | sm n l =>
    obtain ⟨h1, h2, c, e, h3, h4, h5⟩ := h
    have hv' : l[o]? = some v := by rw [← nthL_eq]; exact hv
    obtain ⟨u, hu, hr⟩ := h5 o v hv'
    exact ⟨u, by simp [World.cell?, h3, hu], hr⟩
  | bg n tr =>
    obtain ⟨h2, c, e, h3, h4, h5⟩ := h
    obtain ⟨_, u, hu, hr⟩ := h5 o v hv
    exact ⟨u, by simp [World.cell?, h3, hu], hr⟩

/-- many cells of a block -/
theorem BR.cells {blk : Blk} {b d t o n : Nat} {l : List AV} (h : BR ρ σ w blk b d t) (hv : blk.cellsAt o n = some l) :
    l.length = n ∧ ∀ (j : Nat) (v : AV), l[j]? = some v → ∃ u, w.cell? ⟨b, d + o + j, none⟩ = some u ∧ VC ρ σ v u := by
  cases blk with
  | it s pos => cases hv
  | sm k r =>
    have hcell : ∀ (j : Nat) (v : AV), r[j]? = some v → ∃ u, w.cell? ⟨b, d + j, none⟩ = some u ∧ VC ρ σ v u := fun j v hj =>
      BR.cell h (show (Blk.sm k r).cell j = some v from (nthL_eq r j).trans hj)
    have hlen : r.length = k := h.1
    have hv' : bb (and (Nat.beq o 0) (Nat.beq n k)) (some r) (ob (dropL o r) fun r => takeL n r) = some l := hv
    cases hc : and (Nat.beq o 0) (Nat.beq n k) with
    | true =>
      obtain ⟨h1, h2⟩ := and_true' hc
      have h1 := beq_eq h1
      have h2 := beq_eq h2
      rw [hc] at hv'
      cases hv'
      subst h1; subst h2
      exact ⟨hlen, fun j v hj => by simpa using hcell j v hj⟩
    | false =>
      rw [hc] at hv'
      obtain ⟨s, hs, ht⟩ := ob_some (show ob (dropL o r) (fun r => takeL n r) = some l from hv')
      obtain ⟨rfl, ho⟩ := dropL_some hs
      obtain ⟨rfl, hn⟩ := takeL_some ht
      refine ⟨by simp at hn ⊢; omega, fun j v hj => ?_⟩
      rw [List.getElem?_take] at hj
      split at hj
      · rw [List.getElem?_drop] at hj
        have := hcell (o + j) v hj
        rwa [Nat.add_assoc]
      · cases hj
  | bg k tr =>
    obtain ⟨h1, h2⟩ := tcells_some (show tcells tr n o = some l from hv)
    refine ⟨h1, fun j v hj => ?_⟩
    rw [Nat.add_assoc]
    exact BR.cell h (h2 j v hj)

/-- a list of cells as values -/
theorem pick_values {Q : Nat → AV → Value → Prop} : ∀ {l : List AV} {i : Nat}, (∀ (j : Nat) (v : AV), l[j]? = some v → ∃ u, Q (i + j) v u) →
    ∃ us : List Value, us.length = l.length ∧ ∀ (j : Nat) (v : AV) (u : Value), l[j]? = some v → us[j]? = some u → Q (i + j) v u
  | [], _, _ => ⟨[], rfl, fun j v u h => by simp at h⟩
  | a :: l, i, h => by
    obtain ⟨u, hu⟩ := h 0 a (by simp)
    obtain ⟨us, h1, h2⟩ := pick_values (Q := Q) (l := l) (i := i + 1) fun j v hj => by
      have := h (j + 1) v (by simpa using hj)
      rwa [show i + (j + 1) = i + 1 + j by omega] at this
    refine ⟨u :: us, by simp [h1], fun j v x hv hx => ?_⟩
    cases j with
    | zero => simp at hv hx; subst hv; subst hx; exact hu
    | succ j =>
      have := h2 j v x (by simpa using hv) (by simpa using hx)
      rwa [show i + (j + 1) = i + 1 + j by omega]

theorem BR.cellsRun {blk : Blk} {b d t o n : Nat} {l : List AV} (h : BR ρ σ w blk b d t) (hv : blk.cellsAt o n = some l) :
    ∃ us : List Value, us.length = n ∧ LR (VC ρ σ) l us ∧ (loadCells ⟨b, d + o, none⟩ n).run P w = .ok us.toArray w ∧ (∀ (j : Nat) (u : Value), us[j]? = some u → w.cell? ⟨b, d + o + j, none⟩ = some u) := by
  obtain ⟨hlen, hcell⟩ := BR.cells h hv
  obtain ⟨us, h1, h2⟩ := pick_values (Q := fun j v u => w.cell? ⟨b, d + o + j, none⟩ = some u ∧ VC ρ σ v u) (l := l) (i := 0) fun j v hj => by simpa using hcell j v hj
  have hc : ∀ (j : Nat) (u : Value), us[j]? = some u → w.cell? ⟨b, d + o + j, none⟩ = some u := fun j u hu => by
    have hj : j < l.length := by
      rw [← h1]
      rcases Nat.lt_or_ge j us.length with h' | h'
      · exact h'
      · rw [List.getElem?_eq_none h'] at hu; cases hu
    have := h2 j l[j] u (by simp [hj]) hu
    simpa using this.1
  refine ⟨us, by omega, ⟨by omega, fun j v u hv hu => (h2 j v u hv hu).2⟩, ?_, hc⟩
  have := run_loadCells_list (P := P) w ⟨b, d + o, none⟩ us (fun j v hv => by rw [Addr.add_none]; exact hc j v hv)
  rwa [h1, hlen] at this

/-- a block laid out of a list of cells -/
theorem BR.mk {blk : Blk} {b d t n : Nat} {l : List AV} {c : Array Value} {e : TypeId} (hb : mkBlk n l = some blk) (hl : l.length = n) (hn : n ≤ t)
    (hc : w.heap[b]? = some (.cells c e (0, 0))) (hsz : c.size = d + t) (hcells : ∀ (i : Nat) (v : AV), l[i]? = some v → ∃ u, c[d + i]? = some u ∧ VC ρ σ v u) : BR ρ σ w blk b d t := by
  unfold mkBlk at hb
  cases h16 : Nat.ble n 16 with
  | true =>
    rw [h16] at hb
    cases hb
    exact ⟨hl, hn, c, e, hc, hsz, hcells⟩
  | false =>
    rw [h16] at hb
    obtain ⟨h256, hb⟩ := bb_true (show bb (Nat.ble n 256) (ob (tputs n l eT 0) fun t => some (.bg n t)) none = some blk from hb)
    obtain ⟨tr, htr, hb⟩ := ob_some hb
    cases hb
    obtain ⟨h1, h2⟩ := tputs_some (ble_le h256) htr
    refine ⟨⟨ble_le h256, hn⟩, c, e, hc, hsz, fun i v hv => ?_⟩
    rcases h2 i v hv with ⟨_, hi⟩ | ⟨_, hi⟩
    · simp at hi
      have : i < l.length := by
        rcases Nat.lt_or_ge i l.length with h' | h'
        · exact h'
        · rw [List.getElem?_eq_none h'] at hi; cases hi
      exact ⟨by omega, hcells i v hi⟩
    · rw [tget_eT] at hi; cases hi

/-- cells stored into a block -/
theorem BR.setCells {blk blk' : Blk} {b d t o n : Nat} {new : List AV} {us : List Value} (h : BR ρ σ w blk b d t) (hs : blk.setCells o n new = some blk')
    (hn : new.length = n) (hu : LR (VC ρ σ) new us) :
    ∃ w', (storeCells ⟨b, d + o, none⟩ us).run P w = .ok () w' ∧ BR ρ σ w' blk' b d t ∧ w'.heap.size = w.heap.size ∧ (∀ j, j ≠ b → w'.heap[j]? = w.heap[j]?) ∧ w'.tape = w.tape ∧ w'.os = w.os ∧ w'.output = w.output := by
  have h1 : ∀ v ∈ us, v.oneCell' = true := fun v hv => by
    obtain ⟨i, hi, rfl⟩ := List.getElem_of_mem hv
    have hi' : i < new.length := hu.1 ▸ hi
    have := VC.oneCell (hu.2 i new[i] us[i] (by simp [hi']) (by simp [hi]))
    generalize us[i] = x at this
    cases x <;> first | rfl | cases this
  -- the store of us into a row of cells
  have key : ∀ (c : Array Value) (e : TypeId), w.heap[b]? = some (.cells c e (0, 0)) → d + o + us.length ≤ c.size →
      ∃ c', (storeCells ⟨b, d + o, none⟩ us).run P w = .ok () (w.setRow b c') ∧ c'.size = c.size ∧
        (∀ i, c'[i]? = if d + o ≤ i ∧ i < d + o + us.length then us[i - (d + o)]? else c[i]?) := fun c e hc hle => by
    refine ⟨_, run_storeCells_at P b (d + o) e us 0 c w hc (by simpa using hle) h1, by simp; omega, fun i => ?_⟩
    simp only [Nat.add_zero, List.getElem?_toArray]
    by_cases h2 : i < d + o
    · rw [if_neg (by omega), List.append_assoc, List.getElem?_append_left (by simp; omega), List.getElem?_take, if_pos h2]; simp
    · by_cases h3 : i < d + o + us.length
      · rw [if_pos ⟨by omega, h3⟩, List.getElem?_append_left (by simp; omega), List.getElem?_append_right (by simp; omega)]
        congr 1
        simp; omega
      · rw [if_neg (by omega), List.getElem?_append_right (by simp; omega), List.getElem?_drop]
        simp only [List.length_append, List.length_take, Array.length_toList, Array.getElem?_toList]
        congr 1
        omega
  have fin : ∀ (c c' : Array Value) (e : TypeId), w.heap[b]? = some (.cells c e (0, 0)) → (w.setRow b c').heap[b]? = some (.cells c' e (0, 0)) := fun c c' e hc => setRow_heap w b c c' e (0, 0) hc
  have rest : ∀ c' : Array Value, (w.setRow b c').heap.size = w.heap.size ∧ (∀ j, j ≠ b → (w.setRow b c').heap[j]? = w.heap[j]?) ∧ (w.setRow b c').tape = w.tape ∧ (w.setRow b c').os = w.os ∧ (w.setRow b c').output = w.output := fun c' =>
    ⟨by simp, fun j hj => setRow_other w b j c' hj, rfl, rfl, rfl⟩
  have hlen : us.length = n := by rw [← hu.1]; exact hn
  -- the cells behind: 'old' says what each known cell is
  have cell : ∀ (c c' : Array Value), (∀ i, c'[i]? = if d + o ≤ i ∧ i < d + o + us.length then us[i - (d + o)]? else c[i]?) →
      ∀ (i : Nat) (v : AV), ((o ≤ i ∧ new[i - o]? = some v) ∨ ((i < o ∨ o + n ≤ i) ∧ ∃ u, c[d + i]? = some u ∧ VC ρ σ v u)) → ∃ u, c'[d + i]? = some u ∧ VC ρ σ v u := fun c c' hc' i v hv => by
    rcases hv with ⟨h2, h3⟩ | ⟨h2, u, h3, h4⟩
    · obtain ⟨u, hu1, hu2⟩ := hu.get h3
      have hi : i - o < us.length := by
        rcases Nat.lt_or_ge (i - o) us.length with h' | h'
        · exact h'
        · rw [List.getElem?_eq_none h'] at hu1; cases hu1
      refine ⟨u, ?_, hu2⟩
      rw [hc', if_pos ⟨by omega, by omega⟩, show d + i - (d + o) = i - o by omega]
      exact hu1
    · refine ⟨u, ?_, h4⟩
      rw [hc', if_neg (by omega)]
      exact h3
  cases blk with
  | it s pos => cases hs
  | sm k r =>
    obtain ⟨hr, hk, c, e, hc, hsz, hcells⟩ := h
    have hs' : bb (and (Nat.beq o 0) (Nat.beq n k)) (some (.sm k new)) (ob (spliceL r o n new) fun l => some (.sm k l)) = some blk' := hs
    have hall : ∃ l, blk' = .sm k l ∧ l.length = k ∧ o + n ≤ k ∧ ∀ (i : Nat) (v : AV), l[i]? = some v → (o ≤ i ∧ new[i - o]? = some v) ∨ ((i < o ∨ o + n ≤ i) ∧ r[i]? = some v) := by
      cases hcnd : and (Nat.beq o 0) (Nat.beq n k) with
      | true =>
        obtain ⟨h2, h3⟩ := and_true' hcnd
        have h2 := beq_eq h2
        have h3 := beq_eq h3
        rw [hcnd] at hs'
        cases hs'
        exact ⟨new, rfl, by omega, by omega, fun i v hv => .inl ⟨by omega, by rw [h2]; simpa using hv⟩⟩
      | false =>
        rw [hcnd] at hs'
        obtain ⟨l, hl, hs'⟩ := ob_some (show ob (spliceL r o n new) (fun l => some (.sm k l)) = some blk' from hs')
        cases hs'
        obtain ⟨rfl, hle⟩ := spliceL_some hl
        refine ⟨_, rfl, by simp; omega, by omega, fun i v hv => ?_⟩
        by_cases h2 : i < o
        · rw [List.append_assoc, List.getElem?_append_left (by simp; omega), List.getElem?_take, if_pos h2] at hv
          exact .inr ⟨.inl h2, hv⟩
        · by_cases h3 : i < o + n
          · rw [List.getElem?_append_left (by simp; omega), List.getElem?_append_right (by simp; omega)] at hv
            refine .inl ⟨by omega, ?_⟩
            rw [← hv]; congr 1; simp; omega
          · rw [List.getElem?_append_right (by simp; omega), List.getElem?_drop] at hv
            refine .inr ⟨.inr (by omega), ?_⟩
            rw [← hv]; congr 1; simp; omega
    obtain ⟨l, rfl, hll, hon, hl⟩ := hall
    obtain ⟨c', hrun, hsz', hc'⟩ := key c e hc (by omega)
    refine ⟨_, hrun, ⟨hll, hk, c', e, fin c c' e hc, by omega, fun i v hv => cell c c' hc' i v ?_⟩, rest c'⟩
    rcases hl i v hv with h2 | ⟨h2, h3⟩
    · exact .inl h2
    · exact .inr ⟨h2, hcells i v h3⟩
  | bg k tr =>
    obtain ⟨⟨hk256, hk⟩, c, e, hc, hsz, hcells⟩ := h
    obtain ⟨tr', htr, hs'⟩ := ob_some (show ob (tputs k new tr o) (fun t => some (.bg k t)) = some blk' from hs)
    cases hs'
    obtain ⟨h2, h3⟩ := tputs_some hk256 htr
    by_cases hzero : n = 0
    · -- nothing is stored
      have hus : us = [] := List.length_eq_zero_iff.1 (by omega)
      have hnew : new = [] := List.length_eq_zero_iff.1 (by omega)
      subst hus; subst hnew
      cases htr
      exact ⟨w, rfl, ⟨⟨hk256, hk⟩, c, e, hc, hsz, hcells⟩, rfl, fun _ _ => rfl, rfl, rfl, rfl⟩
    · obtain ⟨c', hrun, hsz', hc'⟩ := key c e hc (by omega)
      refine ⟨_, hrun, ⟨⟨hk256, hk⟩, c', e, fin c c' e hc, by omega, fun i v hv => ?_⟩, rest c'⟩
      rcases h3 i v hv with ⟨h4, h5⟩ | ⟨h4, h5⟩
      · have : i - o < new.length := by
          rcases Nat.lt_or_ge (i - o) new.length with h' | h'
          · exact h'
          · rw [List.getElem?_eq_none h'] at h5; cases h5
        exact ⟨by omega, cell c c' hc' i v (.inl ⟨h4, h5⟩)⟩
      · obtain ⟨hi, hx⟩ := hcells i v h5
        exact ⟨hi, cell c c' hc' i v (.inr ⟨by omega, hx⟩)⟩

/-- one cell is a list of one -/
theorem Blk.setCell_cells {blk blk' : Blk} {b d t o : Nat} {v : AV} (h : BR ρ σ w blk b d t) (hs : blk.setCell o v = some blk') :
    ∃ blk'' , blk.setCells o 1 [v] = some blk'' ∧ (∀ w', BR ρ σ w' blk'' b d t → BR ρ σ w' blk' b d t) := by
  cases blk with
  | it s pos => cases hs
  | sm n l =>
    obtain ⟨r, hr, hs⟩ := ob_some (show ob (setL v l o) (fun l => some (.sm n l)) = some blk' from hs)
    cases hs
    obtain ⟨rfl, ho⟩ := setL_some hr
    have hn : l.length = n := h.1
    cases hcnd : and (Nat.beq o 0) (Nat.beq 1 n) with
    | true =>
      obtain ⟨h2, h3⟩ := and_true' hcnd
      have h2 := beq_eq h2
      have h3 := beq_eq h3
      refine ⟨.sm n [v], show bb (and (Nat.beq o 0) (Nat.beq 1 n)) _ _ = _ by rw [hcnd]; rfl, fun w' hw => ?_⟩
      have e : l.set o v = [v] := by
        subst h2
        match l, hn.trans h3.symm with
        | [a], _ => rfl
      rw [e]; exact hw
    | false =>
      have e : spliceL l o 1 [v] = some (l.set o v) := by
        have ht : ∀ (k : Nat) (l : List AV), k ≤ l.length → takeL k l = some (l.take k) := by
          intro k
          induction k with
          | zero => intro l _; show some [] = _; simp
          | succ k ih =>
            intro l hk
            match l, hk with
            | a :: l, hk =>
              show ob (takeL k l) (fun r => some (a :: r)) = _
              rw [ih l (by simpa using hk)]; rfl
        have hd : ∀ (k : Nat) (l : List AV), k ≤ l.length → dropL k l = some (l.drop k) := by
          intro k
          induction k with
          | zero => intro l _; rfl
          | succ k ih =>
            intro l hk
            match l, hk with
            | a :: l, hk => exact ih l (by simpa using hk)
        unfold spliceL
        rw [ht o l (by omega), show Nat.add o 1 = o + 1 from rfl, hd (o + 1) l (by omega)]
        show some (appL (l.take o) (appL [v] (l.drop (o + 1)))) = _
        rw [appL_eq, appL_eq, List.set_eq_take_append_cons_drop, if_pos ho]; rfl
      exact ⟨.sm n (l.set o v), show bb (and (Nat.beq o 0) (Nat.beq 1 n)) _ (ob (spliceL l o 1 [v]) _) = _ by rw [hcnd, e]; rfl, fun _ hw => hw⟩
  | bg n tr =>
    obtain ⟨h2, hs⟩ := bb_true (show bb (Nat.blt o n) (some (.bg n (tset tr o v))) none = some blk' from hs)
    cases hs
    refine ⟨.bg n (tset tr o v), ?_, fun _ hw => hw⟩
    show ob (bb (Nat.blt o n) (tputs n [] (tset tr o v) (Nat.succ o)) none) (fun t => some (Blk.bg n t)) = _
    rw [h2]; rfl
end

section
variable {P : Program} {ρ : Nat → Value} {B : Nat} {σ : Sg} {w : World}

/-! ### over the whole memory -/
theorem HRel.cell {h : Heap} (hr : HRel ρ B σ h.blk w) {k o b d t : Nat} {v : AV} (hv : h.cell k o = some v) (hs : σ k = some (b, d, t)) :
    ∃ u, w.cell? ⟨b, d + o, none⟩ = some u ∧ VC ρ σ v u := by
  obtain ⟨blk, hb, hv⟩ := ob_some hv
  obtain ⟨b', d', t', hs', _, hbr⟩ := hr.has k blk hb
  rw [hs] at hs'; cases hs'
  exact hbr.cell hv

theorem HRel.cellsRun {h : Heap} (hr : HRel ρ B σ h.blk w) {k o n b d t : Nat} {l : List AV} (hv : h.cellsAt k o n = some l) (hs : σ k = some (b, d, t)) :
    ∃ us : List Value, us.length = n ∧ LR (VC ρ σ) l us ∧ (loadCells ⟨b, d + o, none⟩ n).run P w = .ok us.toArray w ∧ (∀ (j : Nat) (u : Value), us[j]? = some u → w.cell? ⟨b, d + o + j, none⟩ = some u) := by
  obtain ⟨blk, hb, hv⟩ := ob_some hv
  obtain ⟨b', d', t', hs', _, hbr⟩ := hr.has k blk hb
  rw [hs] at hs'; cases hs'
  exact hbr.cellsRun hv

theorem putB_same {h : Heap} {k : Nat} {blk x : Blk} (hb : h.blk k = some x) : (h.putB k blk).blk k = some blk := blk_set_same h (some blk) (blk_lt hb)
theorem putB_ne {h : Heap} {k j : Nat} {blk x : Blk} (hb : h.blk k = some x) (hj : j ≠ k) : (h.putB k blk).blk j = h.blk j := blk_set_ne h (some blk) (blk_lt hb) hj

theorem HRel.setCells {h h' : Heap} (hr : HRel ρ B σ h.blk w) {k o n b d t : Nat} {new : List AV} {us : List Value} (hv : h.setCells k o n new = some h') (hs : σ k = some (b, d, t))
    (hn : new.length = n) (hu : LR (VC ρ σ) new us) :
    ∃ w', (storeCells ⟨b, d + o, none⟩ us).run P w = .ok () w' ∧ HRel ρ B σ h'.blk w' ∧ FR σ h.blk w σ h'.blk w' ∧ h'.next = h.next := by
  obtain ⟨blk, hb, hv⟩ := ob_some hv
  obtain ⟨blk', hb', hv⟩ := ob_some hv
  cases hv
  obtain ⟨b', d', t', hs', _, hbr⟩ := hr.has k blk hb
  rw [hs] at hs'; cases hs'
  obtain ⟨w', hrun, hbr', h1, h2, h3, h4, h5⟩ := hbr.setCells (P := P) hb' hn hu
  exact ⟨w', hrun, hr.upd hb hs h2 hbr' (putB_same hb) (fun j hj => putB_ne hb hj), FR.upd hr hb hs h1 h2 (fun j hj => putB_ne hb hj) h3 h4 h5, rfl⟩

theorem HRel.setCell {h h' : Heap} (hr : HRel ρ B σ h.blk w) {k o b d t : Nat} {v : AV} {u : Value} (hv : h.setCell k o v = some h') (hs : σ k = some (b, d, t)) (hu : VC ρ σ v u) :
    ∃ w', (storeCells ⟨b, d + o, none⟩ [u]).run P w = .ok () w' ∧ HRel ρ B σ h'.blk w' ∧ FR σ h.blk w σ h'.blk w' ∧ h'.next = h.next := by
  obtain ⟨blk, hb, hv⟩ := ob_some hv
  obtain ⟨blk', hb', hv⟩ := ob_some hv
  cases hv
  obtain ⟨b', d', t', hs', _, hbr⟩ := hr.has k blk hb
  rw [hs] at hs'; cases hs'
  obtain ⟨blk'', hb'', himp⟩ := Blk.setCell_cells hbr hb'
  obtain ⟨w', hrun, hbr', h1, h2, h3, h4, h5⟩ := hbr.setCells (P := P) hb'' rfl (LR.cons hu LR.nil)
  exact ⟨w', hrun, hr.upd hb hs h2 (himp w' hbr') (putB_same hb) (fun j hj => putB_ne hb hj), FR.upd hr hb hs h1 h2 (fun j hj => putB_ne hb hj) h3 h4 h5, rfl⟩

theorem alloc_some {h : Heap} {b : Blk} {r : KH} (e : h.alloc b = some r) : r.k = h.next ∧ r.h.next = h.next + 1 ∧ r.h.blk h.next = some b ∧ ∀ j, j ≠ h.next → r.h.blk j = h.blk j := by
  unfold Heap.alloc at e
  obtain ⟨h1, e⟩ := bb_true e
  rw [sq_eq] at e
  cases e
  exact ⟨rfl, rfl, blk_set_same h (some b) (blt_lt h1), fun j hj => blk_set_ne h (some b) (blt_lt h1) hj⟩

/-- a new row of cells whose first ones are known -/
theorem HRel.allocRow {h : Heap} {r : KH} {n : Nat} {l : List AV} {c : Array Value} {e : TypeId} (hr : HRel ρ B σ h.blk w) (ha : h.allocCells n l = some r) (hl : l.length = n) (hn : n ≤ c.size)
    (hcells : ∀ (i : Nat) (v : AV), l[i]? = some v → ∃ u, c[i]? = some u ∧ VC ρ σ v u) (hfresh : σ h.next = none) (hB : B ≤ w.heap.size) :
    r.k = h.next ∧ r.h.next = h.next + 1 ∧ HRel ρ B (σ.put h.next (w.heap.size, 0, c.size)) r.h.blk { w with heap := w.heap.push (.cells c e (0, 0)) } ∧
      FR σ h.blk w (σ.put h.next (w.heap.size, 0, c.size)) r.h.blk { w with heap := w.heap.push (.cells c e (0, 0)) } := by
  obtain ⟨b, hb, ha⟩ := ob_some ha
  obtain ⟨h1, h2, h3, h4⟩ := alloc_some ha
  have hle := (Ext.put (k := h.next) (w.heap.size, 0, c.size) hfresh).le
  have hbr : BR ρ (σ.put h.next (w.heap.size, 0, c.size)) { w with heap := w.heap.push (.cells c e (0, 0)) } b w.heap.size 0 c.size :=
    BR.mk hb hl hn (c := c) (e := e) (by simp) (by simp) fun i v hv => by
      obtain ⟨u, hu, hv⟩ := hcells i v hv
      exact ⟨u, by simpa using hu, hv.mono hle⟩
  obtain ⟨h5, h6⟩ := hr.alloc (m' := r.h.blk) hfresh hB hbr h3 h4
  exact ⟨h1, h2, h5, h6⟩
end

end Go.Proofs.YtogifafehihjgaaGreat.Ab
