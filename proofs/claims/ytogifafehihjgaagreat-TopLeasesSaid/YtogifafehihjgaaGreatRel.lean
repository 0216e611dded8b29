/-
  What the executor's values and memory say of the model's: the relations, and how they stand under new keys, stores and new blocks.
-/
import Derived.Test.YtogifafehihjgaaGreatLens
import Derived.Wp
namespace Go.Proofs.YtogifafehihjgaaGreat.Ab
open Go

/-- where a key lies: its block, its first cell there, how many cells there are from it on -/
abbrev Sg := Nat → Option (Nat × Nat × Nat)

def LR {α β : Type} (R : α → β → Prop) (l : List α) (m : List β) : Prop :=
  l.length = m.length ∧ ∀ (i : Nat) (a : α) (b : β), l[i]? = some a → m[i]? = some b → R a b

/-- a cell's value that is no function -/
def VA (ρ : Nat → Value) (σ : Sg) : AV → Value → Prop
  | .nat k n, u => u = .int (kindOf k) (.ofNat n)
  | .ptr k o, u => ∃ b d t, σ k = some (b, d, t) ∧ u = .pointer (some ⟨b, d + o, none⟩)
  | .bool b, u => u = .bool b
  | .int k n, u => u = .int (kindOf k) n
  | .sym _ i, u => u = ρ i ∧ u.oneCell = true
  | .float k b, u => u = .float k b
  | .complex k a b, u => u = .complex k a b
  | .str s, u => u = .string s
  | .nilp, u => u = .pointer none
  | .nils, u => u = .slice none 0 0
  | .slice k o len cap z, u => ∃ b d t c, σ k = some (b, d, t) ∧ u = .slice (some ⟨b, d + o, none⟩) len c ∧ cap ≤ c ∧ (z = 0 → c = cap) ∧ (z ≠ 0 → o + c * z ≤ t)
  | .sliceE, u => ∃ a c, u = .slice (some a) 0 c
  | .nilf, u => u = .nilFunc
  | .any, u => u.oneCell = true
  | .func .., _ | .agg .., _ | .tup .., _ => False

/-- a cell's value -/
def VC (ρ : Nat → Value) (σ : Sg) : AV → Value → Prop
  | .func f x y, u => ∃ p q, u = .func (.func f) p q ∧ LR (VA ρ σ) x p.toList ∧ LR (VA ρ σ) y q.toList
  | v, u => VA ρ σ v u

/-- a cell's value, or a struct's or an array's -/
def VB (ρ : Nat → Value) (σ : Sg) : AV → Value → Prop
  | .agg n l, u => ∃ cs, u = .agg cs ∧ l.length = n ∧ LR (VC ρ σ) l cs.toList
  | v, u => VC ρ σ v u

def VR (ρ : Nat → Value) (σ : Sg) : AV → Value → Prop
  | .tup l, u => ∃ cs, u = .tuple cs ∧ LR (VB ρ σ) l cs.toList
  | v, u => VB ρ σ v u

def Le (σ σ' : Sg) : Prop := ∀ k x, σ k = some x → σ' k = some x
theorem Le.refl (σ : Sg) : Le σ σ := fun _ _ h => h
theorem Le.trans {σ σ' σ'' : Sg} (h : Le σ σ') (h' : Le σ' σ'') : Le σ σ'' := fun k x e => h' k x (h k x e)

section
variable {ρ : Nat → Value} {σ σ' : Sg}

theorem LR.mono {α β : Type} {R R' : α → β → Prop} {l : List α} {m : List β} (h : LR R l m) (hr : ∀ a b, R a b → R' a b) : LR R' l m :=
  ⟨h.1, fun i a b ha hb => hr a b (h.2 i a b ha hb)⟩
theorem LR.nil {α β : Type} {R : α → β → Prop} : LR R [] [] := ⟨rfl, fun i a b h => by simp at h⟩
theorem LR.cons {α β : Type} {R : α → β → Prop} {a : α} {b : β} {l : List α} {m : List β} (h : R a b) (h' : LR R l m) : LR R (a :: l) (b :: m) :=
  ⟨by simp [h'.1], fun i x y hx hy => by
    cases i with
    | zero => simp at hx hy; subst hx; subst hy; exact h
    | succ i => exact h'.2 i x y (by simpa using hx) (by simpa using hy)⟩
theorem LR.append {α β : Type} {R : α → β → Prop} {l l' : List α} {m m' : List β} (h : LR R l m) (h' : LR R l' m') : LR R (l ++ l') (m ++ m') := by
  refine ⟨by simp [h.1, h'.1], fun i a b ha hb => ?_⟩
  by_cases hi : i < l.length
  · rw [List.getElem?_append_left hi] at ha
    rw [List.getElem?_append_left (h.1 ▸ hi)] at hb
    exact h.2 i a b ha hb
  · rw [List.getElem?_append_right (by omega)] at ha
    rw [List.getElem?_append_right (by have := h.1; omega)] at hb
    exact h'.2 _ a b ha (h.1 ▸ hb)
theorem LR.take {α β : Type} {R : α → β → Prop} {l : List α} {m : List β} (n : Nat) (h : LR R l m) : LR R (l.take n) (m.take n) := by
  refine ⟨by simp [h.1], fun i a b ha hb => ?_⟩
  rw [List.getElem?_take] at ha hb
  split at ha
  · rename_i hi; simp only [hi, if_true] at hb; exact h.2 i a b ha hb
  · cases ha
theorem LR.drop {α β : Type} {R : α → β → Prop} {l : List α} {m : List β} (n : Nat) (h : LR R l m) : LR R (l.drop n) (m.drop n) := by
  refine ⟨by simp [h.1], fun i a b ha hb => ?_⟩
  rw [List.getElem?_drop] at ha hb
  exact h.2 _ a b ha hb
theorem LR.get {α β : Type} {R : α → β → Prop} {l : List α} {m : List β} (h : LR R l m) {i : Nat} {a : α} (ha : l[i]? = some a) : ∃ b, m[i]? = some b ∧ R a b := by
  have hi : i < l.length := by
    rcases Nat.lt_or_ge i l.length with h' | h'
    · exact h'
    · rw [List.getElem?_eq_none h'] at ha; cases ha
  have hm : i < m.length := h.1 ▸ hi
  exact ⟨m[i], by simp [hm], h.2 i a _ ha (by simp [hm])⟩

theorem VA.mono (h : Le σ σ') {v : AV} {u : Value} (hv : VA ρ σ v u) : VA ρ σ' v u := by
  cases v with
  | ptr k o => obtain ⟨b, d, t, e, rfl⟩ := hv; exact ⟨b, d, t, h _ _ e, rfl⟩
  | slice k o len cap z => obtain ⟨b, d, t, c, e, rfl, r⟩ := hv; exact ⟨b, d, t, c, h _ _ e, rfl, r⟩
  | _ => exact hv

theorem VC.mono (h : Le σ σ') {v : AV} {u : Value} (hv : VC ρ σ v u) : VC ρ σ' v u := by
  cases v with
  | func f x y => obtain ⟨p, q, rfl, h1, h2⟩ := hv; exact ⟨p, q, rfl, h1.mono fun _ _ => VA.mono h, h2.mono fun _ _ => VA.mono h⟩
  | _ => simp only [VC] at hv ⊢; exact VA.mono h hv

theorem VB.mono (h : Le σ σ') {v : AV} {u : Value} (hv : VB ρ σ v u) : VB ρ σ' v u := by
  cases v with
  | agg n l => obtain ⟨cs, rfl, hn, hl⟩ := hv; exact ⟨cs, rfl, hn, hl.mono fun _ _ => VC.mono h⟩
  | _ => simp only [VB] at hv ⊢; exact VC.mono h hv

theorem VR.mono (h : Le σ σ') {v : AV} {u : Value} (hv : VR ρ σ v u) : VR ρ σ' v u := by
  cases v with
  | tup l => obtain ⟨cs, rfl, hl⟩ := hv; exact ⟨cs, rfl, hl.mono fun _ _ => VB.mono h⟩
  | _ => simp only [VR] at hv ⊢; exact VB.mono h hv

theorem VA.oneCell {v : AV} {u : Value} (hv : VA ρ σ v u) : u.oneCell = true := by
  cases v with
  | ptr k o => obtain ⟨b, d, t, e, rfl⟩ := hv; rfl
  | slice k o len cap z => obtain ⟨b, d, t, c, e, rfl, r⟩ := hv; rfl
  | sliceE => obtain ⟨a, c, rfl⟩ := hv; rfl
  | sym k i => exact hv.2
  | any => exact hv
  | func f x y => exact hv.elim
  | agg n l => exact hv.elim
  | tup l => exact hv.elim
  | _ => cases hv; rfl

theorem VC.oneCell {v : AV} {u : Value} (hv : VC ρ σ v u) : u.oneCell = true := by
  cases v with
  | func f x y => obtain ⟨p, q, rfl, h1, h2⟩ := hv; rfl
  | _ => simp only [VC] at hv; exact VA.oneCell hv

/-- the cells of a value -/
theorem oneCell_cells {u : Value} (h : u.oneCell = true) : u.cells = #[u] := by
  cases u <;> first | rfl | cases h
theorem VB.cells {v : AV} {u : Value} (hv : VB ρ σ v u) : v.size = v.cells.length ∧ LR (VC ρ σ) v.cells u.cells.toList := by
  cases v with
  | agg n l => obtain ⟨cs, rfl, hn, hl⟩ := hv; exact ⟨hn.symm, hl⟩
  | _ =>
    simp only [VB] at hv
    refine ⟨rfl, ?_⟩
    rw [oneCell_cells (VC.oneCell hv)]
    exact LR.cons hv LR.nil
end

/-! ### memory -/
def Blk.size : Blk → Nat
  | .sm n _ => n
  | .bg n _ => n
  | .it _ _ => 0

/-- block 'b' from cell 'd' on, t cells, holds 'blk' -/
def BR (ρ : Nat → Value) (σ : Sg) (w : World) (blk : Blk) (b d t : Nat) : Prop :=
  match blk with
  | .it s pos => w.heap[b]? = some (.stringIter s pos) ∧ d = 0
  | .sm n l => l.length = n ∧ n ≤ t ∧ ∃ c e, w.heap[b]? = some (.cells c e (0, 0)) ∧ c.size = d + t ∧ ∀ (i : Nat) (v : AV), l[i]? = some v → ∃ u, c[d + i]? = some u ∧ VC ρ σ v u
  | .bg n tr => (n ≤ 256 ∧ n ≤ t) ∧ ∃ c e, w.heap[b]? = some (.cells c e (0, 0)) ∧ c.size = d + t ∧ ∀ (i : Nat) (v : AV), tget tr i = some v → i < n ∧ ∃ u, c[d + i]? = some u ∧ VC ρ σ v u

abbrev Mem := Nat → Option Blk

structure HRel (ρ : Nat → Value) (B : Nat) (σ : Sg) (m : Mem) (w : World) : Prop where
  has : ∀ k blk, m k = some blk → ∃ b d t, σ k = some (b, d, t) ∧ B ≤ b ∧ BR ρ σ w blk b d t
  inj : ∀ k k' x x' b d t d' t', m k = some x → m k' = some x' → σ k = some (b, d, t) → σ k' = some (b, d', t') → k = k'

/-- block 'b' is one of those that the keys of 'm' lie in -/
def Foot (σ : Sg) (m : Mem) (b : Nat) : Prop := ∃ k x d t, m k = some x ∧ σ k = some (b, d, t)

structure FR (σ : Sg) (m : Mem) (w : World) (σ' : Sg) (m' : Mem) (w' : World) : Prop where
  size : w.heap.size ≤ w'.heap.size
  keep : ∀ b, b < w.heap.size → ¬ Foot σ m b → w'.heap[b]? = w.heap[b]?
  foot : ∀ b, Foot σ' m' b → Foot σ m b ∨ w.heap.size ≤ b
  tape : w'.tape = w.tape
  os : w'.os = w.os
  output : w'.output = w.output

theorem FR.refl (σ : Sg) (m : Mem) (w : World) : FR σ m w σ m w := ⟨Nat.le_refl _, fun _ _ _ => rfl, fun _ h => .inl h, rfl, rfl, rfl⟩
theorem FR.trans {σ σ' σ'' : Sg} {m m' m'' : Mem} {w w' w'' : World} (h : FR σ m w σ' m' w') (h' : FR σ' m' w' σ'' m'' w'') : FR σ m w σ'' m'' w'' where
  size := Nat.le_trans h.size h'.size
  keep b hb hf := by
    rw [h'.keep b (Nat.lt_of_lt_of_le hb h.size) fun hf' => ?_, h.keep b hb hf]
    rcases h.foot b hf' with h1 | h1
    · exact hf h1
    · omega
  foot b hb := by
    rcases h'.foot b hb with h1 | h1
    · exact h.foot b h1
    · exact .inr (Nat.le_trans h.size h1)
  tape := h'.tape.trans h.tape
  os := h'.os.trans h.os
  output := h'.output.trans h.output

/-- new keys from 'lo' on, below 'hi', and no others -/
structure Ext (σ σ' : Sg) (lo hi : Nat) : Prop where
  le : Le σ σ'
  off : ∀ k, k < lo ∨ hi ≤ k → σ' k = σ k
def Fresh (σ : Sg) (lo hi : Nat) : Prop := ∀ k, lo ≤ k → k < hi → σ k = none
theorem Ext.refl (σ : Sg) (lo hi : Nat) : Ext σ σ lo hi := ⟨Le.refl σ, fun _ _ => rfl⟩
theorem Ext.trans {σ σ' σ'' : Sg} {lo mid hi : Nat} (h : Ext σ σ' lo mid) (h' : Ext σ' σ'' mid hi) (h1 : lo ≤ mid) (h2 : mid ≤ hi) : Ext σ σ'' lo hi where
  le := h.le.trans h'.le
  off k hk := by
    rw [h'.off k (by omega), h.off k (by omega)]
theorem Fresh.left {σ : Sg} {lo mid hi : Nat} (h : Fresh σ lo hi) (h2 : mid ≤ hi) : Fresh σ lo mid := fun k h1 h3 => h k h1 (by omega)
theorem Fresh.right {σ σ' : Sg} {lo mid hi : Nat} (h : Fresh σ lo hi) (he : Ext σ σ' lo mid) (h1 : lo ≤ mid) : Fresh σ' mid hi := fun k h2 h3 => by
  rw [he.off k (.inr h2)]; exact h k (by omega) h3

section
variable {ρ : Nat → Value} {B : Nat} {σ σ' : Sg} {m m' : Mem} {w w' : World}

theorem BR.heap {blk : Blk} {b d t : Nat} (h : BR ρ σ w blk b d t) (he : w'.heap[b]? = w.heap[b]?) : BR ρ σ w' blk b d t := by
  cases blk with
  | it s pos => exact ⟨he.trans h.1, h.2⟩
  | sm n l => obtain ⟨h1, h2, c, e, h3, h4⟩ := h; exact ⟨h1, h2, c, e, he.trans h3, h4⟩
  | bg n l => obtain ⟨h2, c, e, h3, h4⟩ := h; exact ⟨h2, c, e, he.trans h3, h4⟩
theorem BR.le {blk : Blk} {b d t : Nat} (h : BR ρ σ w blk b d t) (hl : Le σ σ') : BR ρ σ' w blk b d t := by
  cases blk with
  | it s pos => exact h
  | sm n l => obtain ⟨h1, h2, c, e, h3, h4, h5⟩ := h; exact ⟨h1, h2, c, e, h3, h4, fun i v hv => let ⟨u, hu, hr⟩ := h5 i v hv; ⟨u, hu, hr.mono hl⟩⟩
  | bg n l => obtain ⟨h2, c, e, h3, h4, h5⟩ := h; exact ⟨h2, c, e, h3, h4, fun i v hv => let ⟨hi, u, hu, hr⟩ := h5 i v hv; ⟨hi, u, hu, hr.mono hl⟩⟩
theorem BR.lt {blk : Blk} {b d t : Nat} (h : BR ρ σ w blk b d t) : b < w.heap.size := by
  have key : ∀ o, w.heap[b]? = some o → b < w.heap.size := fun o ho => by
    rcases Nat.lt_or_ge b w.heap.size with h' | h'
    · exact h'
    · rw [Array.getElem?_eq_none h'] at ho; cases ho
  cases blk with
  | it s pos => exact key _ h.1
  | sm n l => obtain ⟨h1, h2, c, e, h3, h4⟩ := h; exact key _ h3
  | bg n l => obtain ⟨h2, c, e, h3, h4⟩ := h; exact key _ h3

theorem HRel.foot_lt (h : HRel ρ B σ m w) {b : Nat} (hf : Foot σ m b) : b < w.heap.size ∧ B ≤ b := by
  obtain ⟨k, x, d, t, hk, hs⟩ := hf
  obtain ⟨b', d', t', hs', hB, hbr⟩ := h.has k x hk
  rw [hs] at hs'
  cases hs'
  exact ⟨hbr.lt, hB⟩

/-- fewer keys -/
theorem HRel.sub (h : HRel ρ B σ m w) (hm : ∀ k x, m' k = some x → m k = some x) : HRel ρ B σ m' w :=
  ⟨fun k x hk => h.has k x (hm k x hk), fun k k' x x' b d t d' t' h1 h2 => h.inj k k' x x' b d t d' t' (hm _ _ h1) (hm _ _ h2)⟩
theorem Foot.sub {b : Nat} (h : Foot σ m' b) (hm : ∀ k x, m' k = some x → m k = some x) : Foot σ m b :=
  let ⟨k, x, d, t, h1, h2⟩ := h
  ⟨k, x, d, t, hm _ _ h1, h2⟩

/-- one block's content turned: 'w'' is 'w' but for it -/
theorem HRel.upd (h : HRel ρ B σ m w) {k b d t : Nat} {x y : Blk} (hk : m k = some x) (hs : σ k = some (b, d, t)) (hoth : ∀ j, j ≠ b → w'.heap[j]? = w.heap[j]?)
    (hy : BR ρ σ w' y b d t) (hm : m' k = some y) (hm' : ∀ j, j ≠ k → m' j = m j) : HRel ρ B σ m' w' := by
  have sub : ∀ j z, m' j = some z → ∃ z', m j = some z' := fun j z hz => by
    by_cases e : j = k
    · exact ⟨x, e ▸ hk⟩
    · exact ⟨z, hm' j e ▸ hz⟩
  refine ⟨fun j z hz => ?_, fun j j' z z' b d t d' t' h1 h2 => ?_⟩
  · by_cases e : j = k
    · subst e
      rw [hm] at hz; cases hz
      obtain ⟨b', d', t', hs', hB, _⟩ := h.has j x hk
      rw [hs] at hs'; cases hs'
      exact ⟨b, d, t, hs, hB, hy⟩
    · rw [hm' j e] at hz
      obtain ⟨b', d', t', hs', hB, hbr⟩ := h.has j z hz
      refine ⟨b', d', t', hs', hB, hbr.heap (hoth b' fun eb => e ?_)⟩
      subst eb
      exact h.inj j k z x b' d' t' d t hz hk hs' hs
  · obtain ⟨y1, hy1⟩ := sub j z h1
    obtain ⟨y2, hy2⟩ := sub j' z' h2
    exact h.inj j j' y1 y2 b d t d' t' hy1 hy2

theorem FR.upd (_h : HRel ρ B σ m w) {k b d t : Nat} {x : Blk} (hk : m k = some x) (hs : σ k = some (b, d, t)) (hsize : w'.heap.size = w.heap.size) (hoth : ∀ j, j ≠ b → w'.heap[j]? = w.heap[j]?)
    (hm' : ∀ j, j ≠ k → m' j = m j) (h1 : w'.tape = w.tape) (h2 : w'.os = w.os) (h3 : w'.output = w.output) : FR σ m w σ m' w' where
  size := by omega
  keep j _ hf := hoth j fun e => hf (e ▸ ⟨k, x, d, t, hk, hs⟩)
  foot j hj := by
    obtain ⟨k', x', d', t', hk', hs'⟩ := hj
    by_cases e : k' = k
    · subst e; exact .inl ⟨k', x, d', t', hk, hs'⟩
    · exact .inl ⟨k', x', d', t', hm' k' e ▸ hk', hs'⟩
  tape := h1
  os := h2
  output := h3

def Sg.put (σ : Sg) (k : Nat) (x : Nat × Nat × Nat) : Sg := fun j => if j = k then some x else σ j
theorem Sg.put_same (σ : Sg) (k : Nat) (x : Nat × Nat × Nat) : σ.put k x k = some x := by simp [Sg.put]
theorem Sg.put_ne (σ : Sg) {k j : Nat} (x : Nat × Nat × Nat) (h : j ≠ k) : σ.put k x j = σ j := by simp [Sg.put, h]
theorem Ext.put {k : Nat} (x : Nat × Nat × Nat) (hf : σ k = none) : Ext σ (σ.put k x) k (k + 1) where
  le j y hj := by
    have e : j ≠ k := fun e => by subst e; rw [hf] at hj; cases hj
    rw [Sg.put_ne _ _ e]; exact hj
  off j hj := Sg.put_ne _ _ (by omega)

/-- a new block -/
theorem HRel.alloc (h : HRel ρ B σ m w) {k t : Nat} {o : Obj} {y : Blk} (hfresh : σ k = none) (hBw : B ≤ w.heap.size)
    (hy : BR ρ (σ.put k (w.heap.size, 0, t)) { w with heap := w.heap.push o } y w.heap.size 0 t)
    (hm : m' k = some y) (hm' : ∀ j, j ≠ k → m' j = m j) :
    HRel ρ B (σ.put k (w.heap.size, 0, t)) m' { w with heap := w.heap.push o } ∧ FR σ m w (σ.put k (w.heap.size, 0, t)) m' { w with heap := w.heap.push o } := by
  have hne : ∀ j z, m j = some z → j ≠ k := fun j z hz e => by
    subst e
    obtain ⟨b, d, t, hs, _⟩ := h.has j z hz
    rw [hfresh] at hs; cases hs
  have hlt : ∀ j z b d t, m j = some z → σ j = some (b, d, t) → b < w.heap.size := fun j z b d t hz hs => (h.foot_lt ⟨j, z, d, t, hz, hs⟩).1
  have hle := (Ext.put (k := k) (w.heap.size, 0, t) hfresh).le
  refine ⟨⟨fun j z hz => ?_, fun j j' z z' b d t d' t' h1 h2 hs1 hs2 => ?_⟩, ?_⟩
  · by_cases e : j = k
    · subst e
      rw [hm] at hz; cases hz
      exact ⟨_, _, _, Sg.put_same _ _ _, hBw, hy⟩
    · rw [hm' j e] at hz
      obtain ⟨b, d, t', hs, hB, hbr⟩ := h.has j z hz
      have hb : b < w.heap.size := hbr.lt
      exact ⟨b, d, t', by rw [Sg.put_ne _ _ e]; exact hs, hB, (hbr.le hle).heap (by simp only [Array.getElem?_push]; rw [if_neg (by omega)])⟩
  · by_cases e : j = k <;> by_cases e' : j' = k
    · rw [e, e']
    · subst e
      rw [Sg.put_same] at hs1; cases hs1
      rw [Sg.put_ne _ _ e'] at hs2
      rw [hm' j' e'] at h2
      have := hlt _ _ _ _ _ h2 hs2
      omega
    · subst e'
      rw [Sg.put_same] at hs2; cases hs2
      rw [Sg.put_ne _ _ e] at hs1
      rw [hm' j e] at h1
      have := hlt _ _ _ _ _ h1 hs1
      omega
    · rw [Sg.put_ne _ _ e] at hs1
      rw [Sg.put_ne _ _ e'] at hs2
      rw [hm' j e] at h1
      rw [hm' j' e'] at h2
      exact h.inj j j' z z' b d t d' t' h1 h2 hs1 hs2
  · refine ⟨by simp, fun b hb _ => ?_, fun b hb => ?_, rfl, rfl, rfl⟩
    · simp only [Array.getElem?_push]; rw [if_neg (by omega)]
    · obtain ⟨j, z, d, t', hj, hs⟩ := hb
      by_cases e : j = k
      · subst e; rw [Sg.put_same] at hs; cases hs; exact .inr (Nat.le_refl _)
      · rw [Sg.put_ne _ _ e] at hs; rw [hm' j e] at hj; exact .inl ⟨j, z, d, t', hj, hs⟩
end

end Go.Proofs.YtogifafehihjgaaGreat.Ab
