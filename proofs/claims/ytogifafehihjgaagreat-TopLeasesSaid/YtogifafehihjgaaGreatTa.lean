/-
  Known stretches of a run: a call from a known state to a known state, which the executor then takes as they are.
-/
import Derived.Test.YtogifafehihjgaaGreatFc
namespace Go.Proofs.YtogifafehihjgaaGreat.Ab
open Go

/-- a block by its key and cells -/
structure KV where
  k : Nat
  n : Nat
  l : List AV
/-- a call: of 'f', the next key n, at 'as', over 'pre'; it hands back v, the next key n', over 'post' -/
structure Ent where
  f : Nat
  n : Nat
  as : List AV
  pre : List KV
  v : AV
  n' : Nat
  post : List KV

noncomputable def putKV (L : List KV) : N64K (Option Blk) :=
  @List.rec KV (fun _ => N64K (Option Blk)) (n64K none) (fun kv _ ih => bb (Nat.blt kv.k 65536) (oe (mkBlk kv.n kv.l) ih fun b => (l64K (Option Blk) kv.k).s (some b) ih) ih) L
noncomputable def mkH (n : Nat) (L : List KV) : Heap := ⟨n, putKV L⟩
/-- one and the same in the executor's words -/
noncomputable def eqS (v u : AV) : Bool := match v, u with
  | .sliceE, .sliceE => true
  | v, u => eqC v u
noncomputable def hasKV (h : Heap) (kv : KV) : Bool := oe (h.cellsAt kv.k 0 kv.n) false fun l => eqL eqS kv.l l
noncomputable def allKV (h : Heap) (L : List KV) : Bool := @List.rec KV (fun _ => Bool) true (fun kv _ ih => bb (hasKV h kv) ih false) L
noncomputable def eqR (v u : AV) : Bool := match v, u with
  | .tup l, .tup l' => eqL eqB l l'
  | v, u => eqB v u
noncomputable def chkE (call : FuncId → FF) (e : Ent) : Bool :=
  oe ((call e.f).f e.as (mkH e.n e.pre)) false fun r => bb (eqR e.v r.v) (bb (Nat.beq e.n' r.h.next) (allKV r.h e.post) false) false
noncomputable def chkL (call : FuncId → FF) (l : List Ent) : Bool := @List.rec Ent (fun _ => Bool) true (fun e _ ih => bb (chkE call e) ih false) l
noncomputable def entF (f : FuncId) (l : List Ent) : FF :=
  ⟨fun as h => @List.rec Ent (fun _ => Option VH) none (fun e _ ih => bb (and (Nat.beq e.f f) (Nat.beq e.n h.next)) (bb (eqL eqB e.as as) (bb (allKV h e.pre) (some ⟨e.v, mkH e.n' e.post⟩) none) none) ih) l⟩

theorem eqR_eq {v u : AV} (h : eqR v u = true) : v = u := by
  unfold eqR at h
  split at h
  · rw [eqL_eq (fun _ _ => eqB_eq) h]
  · exact eqB_eq h
theorem eqS_eq {v u : AV} (h : eqS v u = true) : v = u := by
  unfold eqS at h
  split at h
  · rfl
  · exact eqC_eq h
theorem oe_true {α : Type} {x : Option α} {f : α → Bool} (h : oe x false f = true) : ∃ a, x = some a ∧ f a = true := by
  cases x with
  | none => cases h
  | some a => exact ⟨a, rfl, h⟩

theorem blk_mkH : ∀ {L : List KV} {n k : Nat} {b : Blk}, (mkH n L).blk k = some b → ∃ kv ∈ L, kv.k = k ∧ mkBlk kv.n kv.l = some b
  | [], n, k, b, h => by
    have : (mkH n []).blk k = none := eH_blk n k
    rw [this] at h; cases h
  | kv :: L, n, k, b, h => by
    have hrest : (mkH n L).blk k = some b → ∃ kv' ∈ kv :: L, kv'.k = k ∧ mkBlk kv'.n kv'.l = some b := fun h => by
      obtain ⟨q, hq, r⟩ := blk_mkH h
      exact ⟨q, by simp [hq], r⟩
    have h : Heap.blk ⟨n, bb (Nat.blt kv.k 65536) (oe (mkBlk kv.n kv.l) (putKV L) fun b => (l64K (Option Blk) kv.k).s (some b) (putKV L)) (putKV L)⟩ k = some b := h
    cases hlt : Nat.blt kv.k 65536 with
    | false => rw [hlt] at h; exact hrest h
    | true =>
      rw [hlt] at h
      cases hb : mkBlk kv.n kv.l with
      | none => rw [hb] at h; exact hrest h
      | some x =>
        rw [hb] at h
        have h : Heap.blk ⟨n, (l64K (Option Blk) kv.k).s (some x) (mkH n L).bs⟩ k = some b := h
        by_cases e : k = kv.k
        · subst e
          rw [blk_set_same _ _ (blt_lt hlt)] at h
          cases h
          exact ⟨kv, by simp, rfl, hb⟩
        · rw [blk_set_ne _ _ (blt_lt hlt) e] at h
          exact hrest h

theorem allKV_mem : ∀ {L : List KV} {h : Heap}, allKV h L = true → ∀ kv ∈ L, h.cellsAt kv.k 0 kv.n = some kv.l
  | [], _, _, _, hm => by simp at hm
  | kv :: L, h, ha, q, hm => by
    obtain ⟨h1, h2⟩ := bb_and (show bb (hasKV h kv) (allKV h L) false = true from ha)
    rcases List.mem_cons.1 hm with rfl | hm
    · obtain ⟨l, hl, he⟩ := oe_true (show oe (h.cellsAt q.k 0 q.n) false (fun l => eqL eqS q.l l) = true from h1)
      rw [hl, eqL_eq (fun _ _ => eqS_eq) he]
    · exact allKV_mem h2 q hm

section
variable {P : Program} {S : Syms} {ρ : Nat → Value} {B : Nat} {σ : Sg} {w : World} {call : FuncId → FF}

theorem view_has {h : Heap} {L : List KV} {n : Nat} (ha : allKV h L = true) : ∀ k b, (mkH n L).blk k = some b → ∃ b', h.blk k = some b' := fun k b hb => by
  obtain ⟨kv, hm, rfl, _⟩ := blk_mkH hb
  obtain ⟨x, hx, _⟩ := ob_some (show ob (h.blk kv.k) (fun b => b.cellsAt 0 kv.n) = some kv.l from allKV_mem ha kv hm)
  exact ⟨x, hx⟩

theorem HRel.view {h : Heap} {L : List KV} {n : Nat} (hm : HRel ρ B σ h.blk w) (ha : allKV h L = true) : HRel ρ B σ (mkH n L).blk w := by
  refine ⟨fun k b hb => ?_, fun k k' x x' b d t d' t' h1 h2 => ?_⟩
  · obtain ⟨kv, hkv, rfl, hmk⟩ := blk_mkH hb
    obtain ⟨x, hx, hc⟩ := ob_some (show ob (h.blk kv.k) (fun b => b.cellsAt 0 kv.n) = some kv.l from allKV_mem ha kv hkv)
    obtain ⟨bl, d, t, hs, hB, hbr⟩ := hm.has kv.k x hx
    obtain ⟨hlen, hcells⟩ := hbr.cells hc
    obtain ⟨c, e, hobj, hsz⟩ := hbr.row hc
    have hget : ∀ (i : Nat) (v : AV), kv.l[i]? = some v → ∃ u, c[d + i]? = some u ∧ VC ρ σ v u := fun i v hv => by
      obtain ⟨u, hu, hr⟩ := hcells i v hv
      refine ⟨u, ?_, hr⟩
      simpa [World.cell?, hobj] using hu
    refine ⟨bl, d, t, hs, hB, BR.mk hmk hlen ?_ hobj hsz hget⟩
    rcases Nat.eq_zero_or_pos kv.n with h0 | h0
    · omega
    · have hi : kv.n - 1 < kv.l.length := by omega
      obtain ⟨u, hu, _⟩ := hget (kv.n - 1) kv.l[kv.n - 1] (by simp [hi])
      have : d + (kv.n - 1) < c.size := by
        rcases Nat.lt_or_ge (d + (kv.n - 1)) c.size with h' | h'
        · exact h'
        · rw [Array.getElem?_eq_none h'] at hu; cases hu
      omega
  · obtain ⟨y, hy⟩ := view_has ha k x h1
    obtain ⟨y', hy'⟩ := view_has ha k' x' h2
    exact hm.inj k k' y y' b d t d' t' hy hy'

theorem Foot.view {m m' : Mem} (hm : ∀ k b, m' k = some b → ∃ b', m k = some b') {b : Nat} (h : Foot σ m' b) : Foot σ m b :=
  let ⟨k, x, d, t, h1, h2⟩ := h
  let ⟨y, hy⟩ := hm k x h1
  ⟨k, y, d, t, hy, h2⟩

theorem HW.view {h : Heap} {L : List KV} {n : Nat} (hw : HW h) (ha : allKV h L = true) (hn : h.next ≤ n) : HW (mkH n L) := fun k hk => by
  cases hb : (mkH n L).blk k with
  | none => rfl
  | some b =>
    obtain ⟨b', hb'⟩ := view_has ha k b hb
    have hk : n ≤ k := hk
    rw [hw k (by omega)] at hb'; cases hb'

theorem chkE_some {e : Ent} (hk : chkE call e = true) : ∃ r, (call e.f).f e.as (mkH e.n e.pre) = some r ∧ e.v = r.v ∧ e.n' = r.h.next ∧ allKV r.h e.post = true := by
  obtain ⟨r, hr, hk⟩ := oe_true hk
  obtain ⟨h1, hk⟩ := bb_and hk
  obtain ⟨h2, h3⟩ := bb_and hk
  exact ⟨r, hr, eqR_eq h1, beq_eq h2, h3⟩

theorem ent_ok (hc : CallOk P ρ B call) {e : Ent} (hk : chkE call e = true) {as : List AV} {us : List Value} {h : Heap} (hn : e.n = h.next) (has : e.as = as) (ha : allKV h e.pre = true)
    (hl : LR (VR ρ σ) as us) (hm : HRel ρ B σ h.blk w) (hw : HW h) (hf : Fresh σ h.next e.n') (hB : B ≤ w.heap.size) :
    Calls P e.f us.toArray w fun en w' => ∃ u σ', en = .returned u ∧ Post ρ B σ h w ⟨e.v, mkH e.n' e.post⟩ u σ' w' := by
  obtain ⟨r, hr, hv, hn', hpost⟩ := chkE_some hk
  subst has
  have hf' : Fresh σ (mkH e.n e.pre).next r.h.next := by
    show Fresh σ e.n r.h.next
    rw [hn, ← hn']; exact hf
  refine (hc e.f e.as us σ (mkH e.n e.pre) w r hr hl (hm.view ha) (hw.view ha (by omega)) hf' hB).mono fun en w' he => ?_
  obtain ⟨u, σ', rfl, hp⟩ := he
  refine ⟨u, σ', rfl, ?_, ?_, hp.mem.view hpost, ⟨hp.frame.size, fun b hb hn => hp.frame.keep b hb fun hf => hn (hf.view (view_has ha)), fun b hb => ?_, hp.frame.tape, hp.frame.os, hp.frame.output⟩⟩
  · have h1 : Ext σ σ' e.n r.h.next := hp.ext
    rw [hn, ← hn'] at h1
    exact h1
  · show VR ρ σ' e.v u
    rw [hv]; exact hp.val
  · rcases hp.frame.foot b (hb.view (view_has hpost)) with h1 | h1
    · exact .inl (h1.view (view_has ha))
    · exact .inr h1

theorem ent_mn (hmn : ∀ f as h, Mn h ((call f).f as h)) {e : Ent} (hk : chkE call e = true) {h : Heap} (hn : e.n = h.next) (ha : allKV h e.pre = true) : Hs h (mkH e.n' e.post) := by
  obtain ⟨r, hr, hv, hn', hpost⟩ := chkE_some hk
  have h1 := hmn e.f e.as _ r hr
  refine ⟨?_, fun hw => ?_⟩
  · show h.next ≤ e.n'
    have := h1.le
    rw [hn', ← hn]; exact this
  · exact (h1.hw (hw.view ha (by omega))).view hpost (by omega)

theorem chkL_mem : ∀ {l : List Ent}, chkL call l = true → ∀ e ∈ l, chkE call e = true
  | [], _, _, hm => by simp at hm
  | e :: l, h, q, hm => by
    obtain ⟨h1, h2⟩ := bb_and (show bb (chkE call e) (chkL call l) false = true from h)
    rcases List.mem_cons.1 hm with rfl | hm
    · exact h1
    · exact chkL_mem h2 q hm

theorem entF_some : ∀ {l : List Ent} {f : FuncId} {as : List AV} {h : Heap} {r : VH}, (entF f l).f as h = some r →
    ∃ e ∈ l, e.f = f ∧ e.n = h.next ∧ e.as = as ∧ allKV h e.pre = true ∧ r = ⟨e.v, mkH e.n' e.post⟩
  | [], f, as, h, r, hr => by cases hr
  | e :: l, f, as, h, r, hr => by
    have hr : bb (and (Nat.beq e.f f) (Nat.beq e.n h.next)) (bb (eqL eqB e.as as) (bb (allKV h e.pre) (some ⟨e.v, mkH e.n' e.post⟩) none) none) ((entF f l).f as h) = some r := hr
    cases hc : and (Nat.beq e.f f) (Nat.beq e.n h.next) with
    | false =>
      rw [hc] at hr
      obtain ⟨q, hq, x⟩ := entF_some (l := l) hr
      exact ⟨q, by simp [hq], x⟩
    | true =>
      rw [hc] at hr
      obtain ⟨h1, h2⟩ := and_true' hc
      obtain ⟨h3, hr⟩ := bb_true hr
      obtain ⟨h4, hr⟩ := bb_true hr
      cases hr
      exact ⟨e, by simp, beq_eq h1, beq_eq h2, eqL_eq (fun _ _ => eqB_eq) h3, h4, rfl⟩

/-- the tables with the known stretches -/
noncomputable def withE (S : Syms) (is : Nat → Bool) (l : List Ent) : Syms := ⟨S.bin, S.conv, fun f => bb (is f) (some (entF f l)) (S.fsum f), S.back⟩

theorem withE_ok {S' : Syms} {is : Nat → Bool} {l : List Ent} (hs : SumsOk P S' ρ B) (hc : CallOk P ρ B call) (hmn : ∀ f as h, Mn h ((call f).f as h)) (hl : ∀ e ∈ l, chkE call e = true) : SumsOk P (withE S' is l) ρ B := by
  have key : ∀ f g, (withE S' is l).fsum f = some g → (g = entF f l) ∨ S'.fsum f = some g := fun f g hg => by
    have hg : bb (is f) (some (entF f l)) (S'.fsum f) = some g := hg
    cases h : is f with
    | true => rw [h] at hg; cases hg; exact .inl rfl
    | false => rw [h] at hg; exact .inr hg
  refine ⟨fun f g hg as us σ h w r hr hlr hm hw hf hB => ?_, fun f g hg as h => ?_⟩
  · rcases key f g hg with rfl | hg
    · obtain ⟨e, he, rfl, hn, has, ha, rfl⟩ := entF_some hr
      exact ent_ok hc (hl e he) hn has ha hlr hm hw hf hB
    · exact hs.ok f g hg as us σ h w r hr hlr hm hw hf hB
  · rcases key f g hg with rfl | hg
    · intro r hr
      obtain ⟨e, he, rfl, hn, has, ha, rfl⟩ := entF_some hr
      exact ent_mn hmn (hl e he) hn ha
    · exact hs.mn f g hg as h
end

end Go.Proofs.YtogifafehihjgaaGreat.Ab
