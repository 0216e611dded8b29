/-
  The executor's operations against the model's, second part: binary operations, conversions, parts, loads, stores, new variables.
-/
import Derived.Test.YtogifafehihjgaaGreatOpa
import Derived.Laws.BytesString
import Derived.Laws.Entries
namespace Go.Proofs.YtogifafehihjgaaGreat.Ab
open Go

/-- what the symbols' tables say is so -/
structure SymsOk (P : Program) (S : Syms) (ρ : Nat → Value) : Prop where
  bin : ∀ {op : BinOp} {t : TypeId} {x y r : AV} {σ : Sg} {u1 u2 : Value} (ox oy : Operand) (w : World), S.bin op t x y = some r → VR ρ σ x u1 → VR ρ σ y u2 →
    ∃ z, (do eqGuard op t ox oy u1 u2; Go.binOp op t u1 u2 : Sem Value).run P w = .ok z w ∧ VR ρ σ r z
  conv : ∀ {src dst : TypeId} {x r : AV} {σ : Sg} {u : Value} (w : World), S.conv src dst x = some r → VR ρ σ x u → ∃ z, (convert src dst u).run P w = .ok z w ∧ VR ρ σ r z

theorem wrap_small : ∀ {k n : Nat}, n ≤ maxK k → (kindOf k).wrap (Int.ofNat n) = Int.ofNat n
  | 0, n, h => by simp only [maxK] at h; simp [kindOf, IntKind.wrap, IntKind.bits, IntKind.signed]; omega
  | 1, n, h => by simp only [maxK] at h; simp [kindOf, IntKind.wrap, IntKind.bits, IntKind.signed]; omega
  | 2, n, h => by simp only [maxK] at h; simp [kindOf, IntKind.wrap, IntKind.bits, IntKind.signed]; omega
  | 3, n, h => by simp only [maxK] at h; simp [kindOf, IntKind.wrap, IntKind.bits, IntKind.signed]; omega
  | 4, n, h => by simp only [maxK] at h; simp [kindOf, IntKind.wrap, IntKind.bits, IntKind.signed]; omega
  | 5, n, h => by simp only [maxK] at h; simp [kindOf, IntKind.wrap, IntKind.bits, IntKind.signed]; omega
  | 6, n, h => by simp only [maxK] at h; simp [kindOf, IntKind.wrap, IntKind.bits, IntKind.signed]; omega
  | k + 7, n, h => by simp only [maxK] at h; simp [kindOf, IntKind.wrap, IntKind.bits, IntKind.signed]; omega

theorem beq_false {m n : Nat} : Nat.beq m n = false ↔ m ≠ n := by
  cases hb : Nat.beq m n with
  | true => simp [beq_eq hb]
  | false => simp; intro e; subst e; rw [Nat.beq_refl] at hb; cases hb

section
variable {P : Program} {S : Syms} {ρ : Nat → Value} {B : Nat} {σ : Sg} {T : TM} {h : Heap} {w : World} {val : Operand → Value} {o : Oper} {r : VH}

theorem guard_int {op : BinOp} {t : TypeId} {ox oy : Operand} {k k' : IntKind} {m n : Int} : (eqGuard op t ox oy (.int k m) (.int k' n)).run P w = .ok () w := by
  unfold eqGuard
  split <;> rfl

theorem slowArith_run {op : BinOp} {k : Nat} {m n : Int} {v : AV} (t : TypeId) (he : slowArith op k m n = some v) :
    ∃ z, (Go.binOp op t (.int (kindOf k) m) (.int (kindOf k) n)).run P w = .ok z w ∧ VR ρ σ v z := by
  unfold slowArith at he
  split at he
  all_goals first
    | (cases he; refine ⟨_, ?_, VR_of_VC (ofI_VC _ _)⟩; simp [Go.binOp, Op.intArith]; done)
    | (cases he; done)

theorem natBin_run {op : BinOp} {nf : NF} {k m n : Nat} {v : AV} (t : TypeId) (hb : natBin op = some nf) (he : nf.f k m n = some v) :
    ∃ z, (Go.binOp op t (.int (kindOf k) (.ofNat m)) (.int (kindOf k) (.ofNat n))).run P w = .ok z w ∧ VR ρ σ v z := by
  have mk : ∀ {u : Nat} {x : Int}, x = .ofNat u → VR ρ σ (.nat k u) (.int (kindOf k) x) := fun {u x} e => by subst e; exact (rfl : Value.int _ _ = _)
  unfold natBin at hb
  split at hb
  · cases hb
    dsimp only at he
    cases hc : Nat.ble (Nat.add m n) (maxK k) with
    | true =>
      rw [hc] at he; cases he
      refine ⟨_, by simp [Go.binOp, Op.intArith]; rfl, mk ?_⟩
      exact wrap_small (n := m + n) (ble_le hc)
    | false => rw [hc] at he; exact slowArith_run t he
  · cases hb
    dsimp only at he
    cases hc : and (Nat.ble n m) (Nat.ble m (maxK k)) with
    | true =>
      rw [hc] at he; cases he
      obtain ⟨h1, h2⟩ := and_true' hc
      have h1 := ble_le h1
      have h2 := ble_le h2
      refine ⟨_, by simp [Go.binOp, Op.intArith]; rfl, mk ?_⟩
      rw [show ((m : Int) - (n : Int)) = Int.ofNat (m - n) by simp; omega]
      exact wrap_small (n := m - n) (by omega)
    | false => rw [hc] at he; exact slowArith_run t he
  · cases hb
    dsimp only at he
    cases hc : Nat.ble (Nat.mul m n) (maxK k) with
    | true =>
      rw [hc] at he; cases he
      refine ⟨_, by simp [Go.binOp, Op.intArith]; rfl, mk ?_⟩
      exact wrap_small (n := m * n) (ble_le hc)
    | false => rw [hc] at he; exact slowArith_run t he
  · cases hb; cases he
    refine ⟨_, by simp [Go.binOp, Op.intCmp]; rfl, ?_⟩
    show Value.bool _ = Value.bool _
    congr 1
    rw [Bool.eq_iff_iff]; simp [Nat.beq_eq]; omega
  · cases hb; cases he
    refine ⟨_, by simp [Go.binOp, Op.intCmp]; rfl, ?_⟩
    show Value.bool _ = Value.bool _
    congr 1
    rw [Bool.eq_iff_iff]; simp [beq_false]; omega
  · cases hb; cases he
    refine ⟨_, by simp [Go.binOp, Op.intCmp]; rfl, ?_⟩
    show Value.bool _ = Value.bool _
    congr 1
    rw [Bool.eq_iff_iff]; simp [Nat.blt, Nat.ble_eq]; omega
  · cases hb; cases he
    refine ⟨_, by simp [Go.binOp, Op.intCmp]; rfl, ?_⟩
    show Value.bool _ = Value.bool _
    congr 1
    rw [Bool.eq_iff_iff]; simp [Nat.ble_eq]
  · cases hb; cases he
    refine ⟨_, by simp [Go.binOp, Op.intCmp]; rfl, ?_⟩
    show Value.bool _ = Value.bool _
    congr 1
    rw [Bool.eq_iff_iff]; simp [Nat.blt, Nat.ble_eq]; omega
  · cases hb; cases he
    refine ⟨_, by simp [Go.binOp, Op.intCmp]; rfl, ?_⟩
    show Value.bool _ = Value.bool _
    congr 1
    rw [Bool.eq_iff_iff]; simp [Nat.ble_eq]
  · cases hb

theorem equal_ptr {t e : TypeId} {a : Addr} (ht : P.underlying t = some (.pointer e)) : (Op.equal t (.pointer (some a)) (.pointer none)).run P w = .ok false w := by
  unfold Op.equal
  obtain ⟨d, hd⟩ : ∃ d, Op.maxDepth = d + 1 := ⟨9999, rfl⟩
  rw [hd]
  simp [Op.equalIn, run_underlying ht]
theorem equal_slice {t e : TypeId} {a : Addr} {l c : Nat} (ht : P.underlying t = some (.slice e)) : (Op.equal t (.slice (some a) l c) (.slice none 0 0)).run P w = .ok false w := by
  unfold Op.equal
  obtain ⟨d, hd⟩ : ∃ d, Op.maxDepth = d + 1 := ⟨9999, rfl⟩
  rw [hd]
  simp [Op.equalIn, run_underlying ht]

theorem slowBin_run (hS : SymsOk P S ρ) {op : BinOp} {t : TypeId} {ox oy : Operand} {x y v : AV} {u1 u2 : Value} (he : slowBin P S op t ox oy x y = some v) (h1 : VR ρ σ x u1) (h2 : VR ρ σ y u2) :
    ∃ z, (do eqGuard op t ox oy u1 u2; Go.binOp op t u1 u2 : Sem Value).run P w = .ok z w ∧ VR ρ σ v z := by
  unfold slowBin at he
  split at he
  · rename_i a b ha hb
    obtain ⟨z, hz, hzv⟩ := ofO_VR (ρ := ρ) (σ := σ) he
    rw [exact_eq ha h1, exact_eq hb h2]
    exact ⟨z, prun_run hz, hzv⟩
  · split at he
    · cases he
      have ht := ‹P.underlying t = some (TypeDesc.pointer _)›
      obtain ⟨b, d, c, _, rfl⟩ := h1
      have e2 : u2 = .pointer none := h2
      subst e2
      exact ⟨.bool false, by simp [eqGuard, Go.binOp, equal_ptr ht], rfl⟩
    · cases he
      have ht := ‹P.underlying t = some (TypeDesc.pointer _)›
      obtain ⟨b, d, c, _, rfl⟩ := h1
      have e2 : u2 = .pointer none := h2
      subst e2
      exact ⟨.bool true, by simp [eqGuard, Go.binOp, equal_ptr ht], rfl⟩
    · cases he
      obtain ⟨b, d, c, _, _, rfl, _⟩ := h1
      have e2 : u2 = .slice none 0 0 := h2
      subst e2
      have ht := ‹P.underlying t = some (TypeDesc.slice _)›
      exact ⟨.bool false, by simp [eqGuard, Go.binOp, equal_slice ht], rfl⟩
    · cases he
      obtain ⟨b, d, c, _, _, rfl, _⟩ := h1
      have e2 : u2 = .slice none 0 0 := h2
      subst e2
      have ht := ‹P.underlying t = some (TypeDesc.slice _)›
      exact ⟨.bool true, by simp [eqGuard, Go.binOp, equal_slice ht], rfl⟩
    · exact hS.bin ox oy w he h1 h2

theorem mkBin_run (hS : SymsOk P S ρ) {op : BinOp} {t : TypeId} {ox oy : Operand} {x y v : AV} {u1 u2 : Value} (he : (mkBin P S op t ox oy).f x y = some v) (h1 : VR ρ σ x u1) (h2 : VR ρ σ y u2) :
    ∃ z, (do eqGuard op t ox oy u1 u2; Go.binOp op t u1 u2 : Sem Value).run P w = .ok z w ∧ VR ρ σ v z := by
  unfold mkBin at he
  split at he
  · exact slowBin_run hS he h1 h2
  · rename_i nf hnf
    dsimp only at he
    cases hx : asNat x with
    | none => rw [hx] at he; exact slowBin_run hS he h1 h2
    | some a =>
      cases hy : asNat y with
      | none => rw [hx, hy] at he; exact slowBin_run hS he h1 h2
      | some b =>
        rw [hx, hy] at he
        have he' : bb (Nat.beq a.k b.k) (nf.f a.k a.n b.n) (slowBin P S op t ox oy x y) = some v := he
        cases hk : Nat.beq a.k b.k with
        | false => rw [hk] at he'; exact slowBin_run hS he' h1 h2
        | true =>
          rw [hk] at he'
          have e1 := asNat_eq hx
          have e2 := asNat_eq hy
          have ek := beq_eq hk
          subst e1
          subst e2
          have e1 : u1 = .int (kindOf a.k) (.ofNat a.n) := h1
          have e2 : u2 = .int (kindOf b.k) (.ofNat b.n) := h2
          subst e1
          subst e2
          rw [← ek]
          obtain ⟨z, hz, hv⟩ := natBin_run (P := P) (ρ := ρ) (σ := σ) (w := w) t hnf he'
          exact ⟨z, by simp only [Sem.run_bind, guard_int, Result.andThen_ok, hz], hv⟩

theorem op_binOp (hS : SymsOk P S ρ) (op : BinOp) (t : TypeId) (x y : Operand) (yt : TypeId) (ho : o.op = .binOp op t x y yt) {call : FuncId → FF} (hr : (mkOp P S call o.type (.binOp op t x y yt)).f T h = some r)
    (hx : EvOk ρ σ T val x) (hy : EvOk ρ σ T val y) (hm : HRel ρ B σ h.blk w) : h.next ≤ r.h.next ∧ OpRes P ρ B val o σ h w r := by
  obtain ⟨a, ha, hr⟩ := ob_some (show ob ((mkEv x).f T) (fun a => ob ((mkEv y).f T) fun b => ob ((mkBin P S op t x y).f a b) fun u => some (⟨u, h⟩ : VH)) = some r from hr)
  obtain ⟨b, hb, hr⟩ := ob_some hr
  obtain ⟨v, hv, hr⟩ := ob_some hr
  cases hr
  obtain ⟨z, hz, hzv⟩ := mkBin_run (w := w) hS hv (hx a ha) (hy b hb)
  refine OpRes.pure hm hzv ?_
  simp only [execOp, ho]
  rw [Sem.run_bind, hz]
  rfl

/-! ### conversions -/
theorem slowConv_run (hS : SymsOk P S ρ) {src dst : TypeId} {x v : AV} {u : Value} (he : slowConv P S src dst x = some v) (hu : VR ρ σ x u) :
    ∃ z, (convert src dst u).run P w = .ok z w ∧ VR ρ σ v z := by
  unfold slowConv at he
  split at he
  · rename_i a ha
    obtain ⟨z, hz, hzv⟩ := ofO_VR (ρ := ρ) (σ := σ) he
    rw [exact_eq ha hu]
    exact ⟨z, prun_run hz, hzv⟩
  · exact hS.conv w he hu

theorem byteCells_some : ∀ {l : List AV} {bs : List UInt8}, byteCells l = some bs → ∃ ns : List Nat, l = ns.map (AV.nat 4) ∧ bs = ns.map UInt8.ofNat
  | [], bs, h => by cases h; exact ⟨[], rfl, rfl⟩
  | a :: l, bs, h => by
    obtain ⟨b, hb, h⟩ := ob_some (show ob (ob (asNat a) fun a => bb (Nat.beq a.k 4) (some (UInt8.ofNat a.n)) none) (fun b => ob (byteCells l) fun m => some (b :: m)) = some bs from h)
    obtain ⟨m, hm, h⟩ := ob_some h
    cases h
    obtain ⟨c, hc, hb⟩ := ob_some hb
    obtain ⟨hk, hb⟩ := bb_true hb
    cases hb
    obtain ⟨ns, e1, e2⟩ := byteCells_some hm
    refine ⟨c.n :: ns, ?_, ?_⟩
    · rw [asNat_eq hc, beq_eq hk, e1]; rfl
    · rw [e2]; rfl

theorem push_bytes : ∀ (ns : List Nat) (s : ByteArray), (ns.map Int.ofNat).foldl (fun r n => r.push (UInt8.ofNat n.toNat)) s = ⟨s.data ++ (ns.map UInt8.ofNat).toArray⟩
  | [], s => by simp
  | n :: ns, s => by
    rw [List.map_cons, List.foldl_cons, push_bytes ns]
    simp [ByteArray.push]

theorem op_convert (hS : SymsOk P S ρ) (src dst : TypeId) (x : Operand) (ho : o.op = .convert src dst x) {call : FuncId → FF} (hr : (mkOp P S call o.type (.convert src dst x)).f T h = some r)
    (hx : EvOk ρ σ T val x) (hm : HRel ρ B σ h.blk w) : h.next ≤ r.h.next ∧ OpRes P ρ B val o σ h w r := by
  have key : ∀ {z : Value}, (convert src dst (val x)).run P w = .ok z w → (execOp val o).run P w = .ok (.value z) w := fun {z} hz => by
    simp only [execOp, ho, Sem.run_bind, hz, Result.andThen_ok]; rfl
  have slow : ∀ {v : AV}, (mkEv x).f T = some v → (ob (slowConv P S src dst v) fun r => some (⟨r, h⟩ : VH)) = some r → h.next ≤ r.h.next ∧ OpRes P ρ B val o σ h w r := fun {v} hv he => by
    obtain ⟨u, hu, he⟩ := ob_some he
    cases he
    obtain ⟨z, hz, hzv⟩ := slowConv_run (w := w) hS hu (hx v hv)
    exact OpRes.pure hm hzv (key hz)
  have hr' : (mkConv P S src dst x).f T h = some r := hr
  unfold mkConv at hr'
  split at hr'
  · rename_i k0 k hk0 hk
    obtain ⟨v, hv, hr'⟩ := ob_some hr'
    cases hn : asNat v with
    | none => rw [hn] at hr'; exact slow hv hr'
    | some a =>
      rw [hn] at hr'
      have hr2 : bb (Nat.ble a.n (maxK (kidx k))) (some (⟨.nat (kidx k) a.n, h⟩ : VH)) (ob (slowConv P S src dst v) fun r => some ⟨r, h⟩) = some r := hr'
      cases hc : Nat.ble a.n (maxK (kidx k)) with
      | false => rw [hc] at hr2; exact slow hv hr2
      | true =>
        rw [hc] at hr2
        cases hr2
        have e := hx v hv
        rw [asNat_eq hn] at e
        have e : val x = .int (kindOf a.k) (.ofNat a.n) := e
        refine OpRes.pure hm (u := .int k (.ofNat a.n)) ?_ (key ?_)
        · show Value.int k _ = Value.int (kindOf (kidx k)) _
          rw [kindOf_kidx]
        · rw [e]
          have := wrap_small (ble_le hc)
          rw [kindOf_kidx] at this
          simp only [convert, Sem.run_bind, run_underlying hk0, run_underlying hk, Result.andThen_ok, Conv.intToInt]
          rw [this]; rfl
  · rename_i e hsrc hdst
    split at hr'
    · rename_i hek
      obtain ⟨v, hv, hr'⟩ := ob_some hr'
      obtain ⟨u, hu, hr'⟩ := ob_some hr'
      cases hr'
      unfold bytesConv at hu
      split at hu
      · rename_i k off len cap z
        obtain ⟨l, hl, hu⟩ := ob_some hu
        obtain ⟨bs, hbs, hu⟩ := ob_some hu
        cases hu
        obtain ⟨b, d, t, c, hs, e2, _⟩ := hx _ hv
        obtain ⟨us, hlen, hlr, hrun, _⟩ := hm.cellsRun (P := P) hl hs
        obtain ⟨ns, rfl, rfl⟩ := byteCells_some hbs
        have hus : us = (ns.map Int.ofNat).map (Value.int .u8) := by
          apply List.ext_getElem?
          intro i
          cases hi : (ns.map (AV.nat 4))[i]? with
          | none =>
            have h1 : ns.length ≤ i := by simpa using hi
            have := hlr.1
            rw [List.getElem?_eq_none (by simp at this; omega), List.getElem?_eq_none (by simpa using h1)]
          | some a =>
            obtain ⟨u, hu, hv⟩ := hlr.get hi
            rw [hu]
            simp only [List.getElem?_map, Option.map_eq_some_iff] at hi
            obtain ⟨n, hn, rfl⟩ := hi
            have hv : u = .int .u8 (.ofNat n) := hv
            simp [hn, hv]
        refine OpRes.pure hm (u := .string ⟨(ns.map UInt8.ofNat).toArray⟩) (rfl : Value.string _ = _) (key ?_)
        rw [e2, run_convert_bytes_string w src dst e _ len c hsrc hek hdst, run_bytesToString w _ len c (ns.map Int.ofNat) (by rw [hrun, hus]), push_bytes]
        simp [ByteArray.empty, ByteArray.emptyWithCapacity]
        rfl
      · exact slow hv (by rw [hu]; rfl)
    · cases hr'
  · obtain ⟨v, hv, hr'⟩ := ob_some hr'
    exact slow hv hr'
end

end Go.Proofs.YtogifafehihjgaaGreat.Ab
