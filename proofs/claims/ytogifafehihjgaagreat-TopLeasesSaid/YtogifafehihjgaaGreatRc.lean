/-
  What the executor finds out of a drawn region's text.
-/
import Derived.Test.YtogifafehihjgaaGreatRb
namespace Go.Proofs.YtogifafehihjgaaGreat.Ab
open Go

theorem bb_and {c : Bool} {x : Bool} (h : bb c x false = true) : c = true ∧ x = true := by
  cases c with
  | true => exact ⟨rfl, h⟩
  | false => cases h

theorem infosOf_spec (P : Program) (all : Array Oper) : ∀ (l : List Oper) (acc : List SI), ∃ rest, infosOf P all l acc = acc ++ rest ∧ rest.length = l.length ∧
    ∀ (i : Nat) (o : Oper), l[i]? = some o → ∃ s, rest[i]? = some s ∧ s.look = lookMask all o ∧ s.dst = dstMask o ∧ s.cls = clsOf P o.op ∧ s.anc = ancE ((acc ++ rest).take (acc.length + i)) o.after.toList
  | [], acc => ⟨[], by simp [infosOf], rfl, fun i o h => by simp at h⟩
  | o :: l, acc => by
    obtain ⟨rest, h1, h2, h3⟩ := infosOf_spec P all l (acc ++ [⟨ancE acc o.after.toList, lookMask all o, dstMask o, clsOf P o.op⟩])
    refine ⟨⟨ancE acc o.after.toList, lookMask all o, dstMask o, clsOf P o.op⟩ :: rest, ?_, by simp [h2], fun i q hq => ?_⟩
    · show infosOf P all l (appL acc [⟨ancE acc o.after.toList, lookMask all o, dstMask o, clsOf P o.op⟩]) = _
      rw [appL_eq, h1]; simp
    · cases i with
      | zero =>
        simp at hq; subst hq
        exact ⟨_, rfl, rfl, rfl, rfl, by simp⟩
      | succ i =>
        obtain ⟨s, g1, g2, g3, g4, g5⟩ := h3 i q (by simpa using hq)
        refine ⟨s, by simpa using g1, g2, g3, g4, ?_⟩
        rw [g5]
        congr 1
        simp [Nat.add_assoc, Nat.add_comm 1 i]

/-- a drawn region's words -/
structure Infos (P : Program) (ops : Array Oper) (inf : List SI) : Prop where
  len : inf.length = ops.size
  get : ∀ (i : Nat) (o : Oper), ops[i]? = some o → ∃ s, inf[i]? = some s ∧ s.look = lookMask ops o ∧ s.dst = dstMask o ∧ s.cls = clsOf P o.op ∧ s.anc = ancE (inf.take i) o.after.toList

theorem infos_ok (P : Program) (ops : Array Oper) : Infos P ops (infosOf P ops ops.toList []) := by
  obtain ⟨rest, h1, h2, h3⟩ := infosOf_spec P ops ops.toList []
  simp only [List.nil_append, List.length_nil, Nat.zero_add] at h1 h3
  rw [h1]
  exact ⟨by simpa using h2, fun i o ho => h3 i o (by simpa using ho)⟩

theorem hasBit_iff {m i : Nat} : hasBit m i = m.testBit i := by
  unfold hasBit Nat.testBit
  show Nat.beq ((m >>> i) &&& 1) 1 = (1 &&& (m >>> i) != 0)
  rw [Nat.and_comm]
  have : 1 &&& (m >>> i) = 0 ∨ 1 &&& (m >>> i) = 1 := by
    rw [Nat.and_comm, Nat.and_one_is_mod]; omega
  rcases this with h | h <;> rw [h] <;> rfl

theorem ancE_bit {inf : List SI} : ∀ {es : List Edge} {j : Nat}, hasBit (ancE inf es) j = true → ∃ e ∈ es, Region.binds .any e = true ∧ (j = e.on ∨ ∃ s, inf[e.on]? = some s ∧ hasBit s.anc j = true)
  | [], j, h => by
    simp [hasBit_iff, ancE] at h
  | e :: es, j, h => by
    have h : hasBit (bb (Region.binds .any e) (Nat.lor (Nat.lor (ancE inf es) (oe (nthL inf e.on) 0 fun s => s.anc)) (Nat.shiftLeft 1 e.on)) (ancE inf es)) j = true := h
    cases hb : Region.binds .any e with
    | false =>
      rw [hb] at h
      obtain ⟨e', he', h1, h2⟩ := ancE_bit (show hasBit (ancE inf es) j = true from h)
      exact ⟨e', by simp [he'], h1, h2⟩
    | true =>
      rw [hb] at h
      have h : hasBit ((ancE inf es ||| (oe (nthL inf e.on) 0 fun s => s.anc)) ||| (1 <<< e.on)) j = true := h
      rw [hasBit_iff, Nat.testBit_or, Nat.testBit_or, Bool.or_eq_true, Bool.or_eq_true] at h
      rcases h with (h | h) | h
      · rw [← hasBit_iff] at h
        obtain ⟨e', he', h1, h2⟩ := ancE_bit h
        exact ⟨e', by simp [he'], h1, h2⟩
      · rw [nthL_eq] at h
        cases hs : inf[e.on]? with
        | none => rw [hs] at h; simp [oe] at h
        | some s =>
          rw [hs] at h
          exact ⟨e, by simp, hb, .inr ⟨s, hs, by rw [hasBit_iff]; exact h⟩⟩
      · rw [Nat.testBit_shiftLeft] at h
        simp only [Bool.and_eq_true, decide_eq_true_eq] at h
        refine ⟨e, by simp, hb, .inl ?_⟩
        cases hk : j - e.on with
        | zero => omega
        | succ k =>
          rw [hk, Nat.testBit_succ] at h
          simp at h

theorem pairsOk_spec {b : SI} : ∀ {l : List SI} {j0 : Nat}, pairsOk b l j0 = true → ∀ (j : Nat) (a : SI), l[j]? = some a → pairOk a b (j0 + j) = true
  | [], j0, _, j, a, h => by simp at h
  | x :: l, j0, hp, j, a, h => by
    obtain ⟨h1, h2⟩ := bb_and (show bb (pairOk x b j0) (pairsOk b l (Nat.succ j0)) false = true from hp)
    cases j with
    | zero => simp at h; subst h; exact h1
    | succ j =>
      have := pairsOk_spec h2 j a (by simpa using h)
      rwa [show Nat.succ j0 + j = j0 + (j + 1) by omega] at this

theorem allPairs_spec : ∀ {l pre : List SI}, allPairs l pre = true → ∀ (i : Nat) (b : SI), l[i]? = some b → ∀ (j : Nat) (a : SI), (pre ++ l.take i)[j]? = some a → pairOk a b j = true
  | [], pre, _, i, b, h => by simp at h
  | x :: l, pre, hp, i, b, h => by
    obtain ⟨h1, h2⟩ := bb_and (show bb (pairsOk x pre 0) (allPairs l (appL pre [x])) false = true from hp)
    cases i with
    | zero =>
      simp at h; subst h
      intro j a hj
      have := pairsOk_spec h1 j a (by simpa using hj)
      rwa [Nat.zero_add] at this
    | succ i =>
      intro j a hj
      rw [appL_eq] at h2
      exact allPairs_spec h2 i b (by simpa using h) j a (by simpa using hj)

theorem pair_spec {inf : List SI} (hp : allPairs inf [] = true) {i j : Nat} {a b : SI} (hji : j < i) (ha : inf[j]? = some a) (hb : inf[i]? = some b) : pairOk a b j = true :=
  allPairs_spec hp i b hb j a (by rw [List.nil_append, List.getElem?_take, if_pos hji]; exact ha)

theorem allEdges_spec : ∀ {l : List Oper} {i0 : Nat}, allEdges l i0 = true → ∀ (i : Nat) (o : Oper), l[i]? = some o → edgesOk (i0 + i) o = true
  | [], i0, _, i, o, h => by simp at h
  | x :: l, i0, hp, i, o, h => by
    obtain ⟨h1, h2⟩ := bb_and (show bb (edgesOk i0 x) (allEdges l (Nat.succ i0)) false = true from hp)
    cases i with
    | zero => simp at h; subst h; exact h1
    | succ i =>
      have := allEdges_spec h2 i o (by simpa using h)
      rwa [show Nat.succ i0 + i = i0 + (i + 1) by omega] at this

theorem edge_lt {i : Nat} {o : Oper} (h : edgesOk i o = true) {e : Edge} (he : e ∈ o.after) (hb : Region.binds .any e = true) : e.on < i := by
  unfold edgesOk at h
  rw [List.all_eq_true] at h
  have := h e (by simpa using he)
  simp only [hb, Bool.not_true, Bool.false_or] at this
  exact blt_lt this

theorem lookMask_mem {all : Array Oper} {o : Oper} {t : Nat} (h : t ∈ o.looksAt all) : hasBit (lookMask all o) t = true := by
  unfold lookMask
  revert h
  induction o.looksAt all with
  | nil => intro h; cases h
  | cons x l ih =>
    intro h
    rw [List.foldr_cons]
    show hasBit ((1 <<< x) ||| _) t = true
    rw [hasBit_iff, Nat.testBit_or, Bool.or_eq_true]
    rcases List.mem_cons.1 h with rfl | h
    · left; rw [Nat.testBit_shiftLeft]; simp
    · right; rw [← hasBit_iff]; exact ih h

theorem dstMask_mem {o : Oper} {t : Nat} (h : o.dst = some t) : hasBit (dstMask o) t = true := by
  unfold dstMask
  rw [h]
  show hasBit (1 <<< t) t = true
  rw [hasBit_iff, Nat.testBit_shiftLeft]; simp

theorem land_zero {a b : Nat} (h : Nat.beq (Nat.land a b) 0 = true) {t : Nat} (ha : hasBit a t = true) : hasBit b t = false := by
  have h := beq_eq h
  have h : a &&& b = 0 := h
  have := congrArg (fun m => Nat.testBit m t) h
  simp only [Nat.testBit_and, Nat.zero_testBit] at this
  rw [hasBit_iff] at ha ⊢
  rw [ha] at this
  simpa using this

/-- two that are not ordered are apart -/
theorem pair_apart {P : Program} {ops : Array Oper} {inf : List SI} (hi : Infos P ops inf) (hp : allPairs inf [] = true) {i j : Nat} {x y : Oper} {b : SI} (hji : j < i) (hx : ops[j]? = some x) (hy : ops[i]? = some y) (hb : inf[i]? = some b) (hn : hasBit b.anc j = false) :
    (∀ t, x.dst = some t → t ∉ y.looksAt ops ∧ y.dst ≠ some t) ∧ (∀ t, y.dst = some t → t ∉ x.looksAt ops) ∧ ¬ (clsOf P y.op = 2 ∧ 2 ≤ clsOf P x.op) := by
  obtain ⟨a, ha, a1, a2, a3, _⟩ := hi.get j x hx
  obtain ⟨b', hb', b1, b2, b3, _⟩ := hi.get i y hy
  rw [hb] at hb'; cases hb'
  have h := pair_spec hp hji ha hb
  unfold pairOk at h
  rw [hn, Bool.false_or] at h
  obtain ⟨h, h3⟩ := and_true' h
  obtain ⟨h1, h2⟩ := and_true' h
  refine ⟨fun t ht => ?_, fun t ht hl => ?_, fun ⟨e1, e2⟩ => ?_⟩
  · have hd : hasBit a.dst t = true := by rw [a2]; exact dstMask_mem ht
    have h4 := land_zero h1 hd
    rw [hasBit_iff] at h4
    have h4 : (b.look ||| b.dst).testBit t = false := h4
    rw [Nat.testBit_or, Bool.or_eq_false_iff] at h4
    refine ⟨fun hl => ?_, fun he => ?_⟩
    · have := lookMask_mem hl
      rw [← b1, hasBit_iff, h4.1] at this; cases this
    · have := dstMask_mem he
      rw [← b2, hasBit_iff, h4.2] at this; cases this
  · have hd : hasBit b.dst t = true := by rw [b2]; exact dstMask_mem ht
    have h4 := land_zero h2 hd
    have := lookMask_mem hl
    rw [← a1, h4] at this; cases this
  · rw [← b3] at e1
    rw [← a3] at e2
    have c1 : Nat.beq b.cls 2 = true := by rw [e1]; rfl
    have c2 : Nat.ble 2 a.cls = true := Nat.ble_eq_true_of_le e2
    rw [c1, c2] at h3; cases h3

/-! ### the acting ones -/
def cntE (l : List SI) : Nat := l.countP fun s => Nat.beq s.cls 2

theorem effsOf_spec : ∀ (l : List SI) (i0 x e : Nat), (effsOf l i0)[x]? = some e ↔ ∃ k s, e = i0 + k ∧ l[k]? = some s ∧ s.cls = 2 ∧ cntE (l.take k) = x
  | [], i0, x, e => by simp [effsOf]
  | a :: l, i0, x, e => by
    have hd : effsOf (a :: l) i0 = bb (Nat.beq a.cls 2) (i0 :: effsOf l (Nat.succ i0)) (effsOf l (Nat.succ i0)) := rfl
    rw [hd]
    cases hc : Nat.beq a.cls 2 with
    | true =>
      have hc2 := beq_eq hc
      show (i0 :: effsOf l (Nat.succ i0))[x]? = some e ↔ _
      cases x with
      | zero =>
        simp only [List.getElem?_cons_zero, Option.some.injEq]
        constructor
        · rintro rfl; exact ⟨0, a, rfl, rfl, hc2, rfl⟩
        · rintro ⟨k, s, rfl, hk, hs, hx⟩
          cases k with
          | zero => rfl
          | succ k => simp [cntE, List.take_succ_cons, hc] at hx
      | succ x =>
        rw [List.getElem?_cons_succ, effsOf_spec l (Nat.succ i0) x e]
        constructor
        · rintro ⟨k, s, rfl, hk, hs, hx⟩
          exact ⟨k + 1, s, by omega, by simpa using hk, hs, by simp only [cntE, List.take_succ_cons, List.countP_cons, hc] at hx ⊢; simp [hx]⟩
        · rintro ⟨k, s, rfl, hk, hs, hx⟩
          cases k with
          | zero => simp [cntE] at hx
          | succ k =>
            exact ⟨k, s, by omega, by simpa using hk, hs, by simp only [cntE, List.take_succ_cons, List.countP_cons, hc] at hx ⊢; simpa using hx⟩
    | false =>
      show (effsOf l (Nat.succ i0))[x]? = some e ↔ _
      rw [effsOf_spec l (Nat.succ i0) x e]
      constructor
      · rintro ⟨k, s, rfl, hk, hs, hx⟩
        exact ⟨k + 1, s, by omega, by simpa using hk, hs, by simp only [cntE, List.take_succ_cons, List.countP_cons, hc] at hx ⊢; simpa using hx⟩
      · rintro ⟨k, s, rfl, hk, hs, hx⟩
        cases k with
        | zero =>
          simp at hk; subst hk
          rw [hs] at hc; cases hc
        | succ k =>
          exact ⟨k, s, by omega, by simpa using hk, hs, by simp only [cntE, List.take_succ_cons, List.countP_cons, hc] at hx ⊢; simpa using hx⟩

theorem effsOf_length : ∀ (l : List SI) (i0 : Nat), (effsOf l i0).length = cntE l
  | [], i0 => rfl
  | a :: l, i0 => by
    have hd : effsOf (a :: l) i0 = bb (Nat.beq a.cls 2) (i0 :: effsOf l (Nat.succ i0)) (effsOf l (Nat.succ i0)) := rfl
    rw [hd]
    have ih := effsOf_length l (Nat.succ i0)
    unfold cntE at ih ⊢
    rw [List.countP_cons]
    cases hc : Nat.beq a.cls 2 with
    | true => simp [bb, ih]
    | false => simp [bb, ih]

theorem lead_le (p : Nat → Bool) : ∀ l : List Nat, lead p l ≤ l.length
  | [] => Nat.le_refl _
  | a :: l => by
    have hd : lead p (a :: l) = bb (p a) (Nat.succ (lead p l)) 0 := rfl
    rw [hd]
    cases p a with
    | true => exact Nat.succ_le_succ (lead_le p l)
    | false => exact Nat.zero_le _
theorem lead_lt {p : Nat → Bool} : ∀ {l : List Nat} {x e : Nat}, x < lead p l → l[x]? = some e → p e = true
  | [], x, e, h, _ => by cases h
  | a :: l, x, e, h, he => by
    have hd : lead p (a :: l) = bb (p a) (Nat.succ (lead p l)) 0 := rfl
    rw [hd] at h
    cases hp : p a with
    | true =>
      rw [hp] at h
      have h : x < Nat.succ (lead p l) := h
      cases x with
      | zero => simp at he; subst he; exact hp
      | succ x => exact lead_lt (Nat.lt_of_succ_lt_succ h) (by simpa using he)
    | false => rw [hp] at h; cases h
theorem lead_at {p : Nat → Bool} : ∀ {l : List Nat} {e : Nat}, l[lead p l]? = some e → p e = false
  | [], e, h => by simp at h
  | a :: l, e, h => by
    have hd : lead p (a :: l) = bb (p a) (Nat.succ (lead p l)) 0 := rfl
    rw [hd] at h
    cases hp : p a with
    | true =>
      rw [hp] at h
      have h : (a :: l)[Nat.succ (lead p l)]? = some e := h
      exact lead_at (by simpa using h)
    | false =>
      rw [hp] at h
      have h : (a :: l)[0]? = some e := h
      simp at h; subst h; exact hp

end Go.Proofs.YtogifafehihjgaaGreat.Ab
