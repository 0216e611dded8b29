/-
  What the symbols stand for, and that the tables of symbols say what the model says.
-/
import Derived.Test.YtogifafehihjgaaGreatSc
import Derived.Test.YtogifafehihjgaaGreatTa
import Derived.Test.YtogifafehihjgaaGreatSy
import Derived.Laws.StructEq
namespace Go.Proofs.YtogifafehihjgaaGreat.Ab
open Go

/-- what the symbols stand for, of a draw d and a type t -/
def rho (d : Int) (t : Nat) : Nat → Value
  | 0 => .int .u64 d
  | 1 => .int .u8 (.ofNat t)
  | 2 => .int .u8 (.ofNat (t % 3))
  | 3 => .int .u8 (.ofNat (t / 3))
  | 4 => .int .u8 (.ofNat (t / 3 % 2))
  | 5 => .int .i64 (.ofNat (t % 3))
  | 6 => .int .i64 (.ofNat (1 + t / 3 % 2))
  | 7 => .int .i64 (.ofNat (t / 3 % 2))
  | 11 => .int .u64 (IntKind.u64.wrap (d + 1))
  | 12 => .int .u64 (IntKind.u64.wrap (d + 2))
  | 20 => .int .u32 (.ofNat (if t % 3 = 0 then 0 else 83886081))
  | 21 => .int .u16 (.ofNat (if t % 3 = 2 then 7000 else 0))
  | _ => .int .u64 0

section
variable {d : Int} {t : Nat} {σ : Sg} {w : World} {P : Program}

theorem sym_is {k i : Nat} {u : Value} (h : VR (rho d t) σ (.sym k i) u) : u = rho d t i := h.1
theorem nat_is {k n : Nat} {u : Value} (h : VR (rho d t) σ (.nat k n) u) : u = .int (kindOf k) (.ofNat n) := h
theorem is_sym {k i : Nat} (h : (rho d t i).oneCell = true) : VR (rho d t) σ (.sym k i) (rho d t i) := ⟨rfl, h⟩

/-- two cells -/
theorem agg2 {ρ : Nat → Value} {a b : AV} {u : Value} (h : VR ρ σ (.agg 2 [a, b]) u) : ∃ x y, u = .agg #[x, y] ∧ VC ρ σ a x ∧ VC ρ σ b y := by
  obtain ⟨cs, rfl, _, hl⟩ := h
  obtain ⟨x, hx, h1⟩ := hl.get (i := 0) rfl
  obtain ⟨y, hy, h2⟩ := hl.get (i := 1) rfl
  have hlen : cs.toList.length = 2 := hl.1.symm
  refine ⟨x, y, ?_, h1, h2⟩
  congr 1
  apply Array.ext'
  match hc : cs.toList, hlen, hx, hy with
  | [p, q], _, hx, hy => simp at hx hy; subst hx; subst hy; rfl

theorem eql_addr {x y : Value} {a b : Int} (hx : x = .int .u32 a) (hy : y = .int .u16 b) : (Go.binOp .eql 44 (.agg #[x, y]) (.agg #[x, y])).run Tryz.prog w = .ok (.bool true) w := by
  subst hx; subst hy
  rw [run_eql_struct, run_equalIn_agg w 9999 44 _ _ (by kernel_rfl) (by kernel_rfl)]
  have h41 : (isAgg 41).run Tryz.prog w = .ok false w := isAggB_run (by kernel_rfl)
  simp [Program.fieldsOf, Tryz.underlying44, Op.eqFields, part, h41, run_equalIn_int w 9998 41 .u32 .u32 a a Tryz.underlying41, run_equalIn_int w 9998 42 .u16 .u16 b b Tryz.underlying42]

theorem syms_ok (ht : t < 256) {fs : FuncId → Option FF} {bk : FuncId → Bool} : SymsOk Tryz.prog ⟨symBin, symConv, fs, bk⟩ (rho d t) where
  bin {op ty x y r σ u1 u2} ox oy w he h1 h2 := by
    have he : symBin op ty x y = some r := he
    unfold symBin at he
    split at he
    · cases he
      cases sym_is h1; cases nat_is h2
      refine ⟨rho d t 2, ?_, is_sym rfl⟩
      have hm : (t : Int).tmod 3 = ((t % 3 : Nat) : Int) := (Int.ofNat_tmod t 3).symm
      simp [eqGuard, Go.binOp, rho, kindOf, Op.intDiv, hm]
    · cases he
      cases sym_is h1; cases nat_is h2
      refine ⟨rho d t 3, ?_, is_sym rfl⟩
      have hm : (t : Int).tdiv 3 = ((t / 3 : Nat) : Int) := (Int.ofNat_tdiv t 3).symm
      have hw := wrap_small (k := 4) (n := t / 3) (by simp only [maxK]; omega)
      simp only [kindOf] at hw
      simp [eqGuard, Go.binOp, rho, kindOf, Op.intDiv, hm]
      simpa using hw
    · cases he
      cases sym_is h1; cases nat_is h2
      refine ⟨rho d t 4, ?_, is_sym rfl⟩
      have hm : ((t / 3 : Nat) : Int).tmod 2 = ((t / 3 % 2 : Nat) : Int) := (Int.ofNat_tmod (t / 3) 2).symm
      simp [eqGuard, Go.binOp, rho, kindOf, Op.intDiv]
      simpa using hm
    · cases he
      cases sym_is h2; cases nat_is h1
      refine ⟨rho d t 6, ?_, is_sym rfl⟩
      have hw := wrap_small (k := 3) (n := 1 + t / 3 % 2) (by simp only [maxK]; omega)
      simp only [kindOf] at hw
      simp [eqGuard, Go.binOp, rho, kindOf, Op.intArith]
      simpa using hw
    · cases he
      cases sym_is h1; cases nat_is h2
      exact ⟨rho d t 11, by simp [eqGuard, Go.binOp, rho, kindOf, Op.intArith], is_sym rfl⟩
    · cases he
      cases sym_is h1; cases nat_is h2
      exact ⟨rho d t 12, by simp [eqGuard, Go.binOp, rho, kindOf, Op.intArith], is_sym rfl⟩
    · cases he
      cases sym_is h1; cases nat_is h2
      refine ⟨.bool true, ?_, rfl⟩
      simp [eqGuard, Go.binOp, rho, kindOf, Op.intCmp]; omega
    · cases he
      cases sym_is h1; cases nat_is h2
      refine ⟨.bool true, ?_, rfl⟩
      simp [eqGuard, Go.binOp, rho, kindOf, Op.intCmp]; omega
    · cases he
      cases sym_is h1; cases nat_is h2
      refine ⟨.bool true, ?_, rfl⟩
      simp [eqGuard, Go.binOp, rho, kindOf, Op.intCmp]; omega
    · cases he
      cases sym_is h1; cases nat_is h2
      refine ⟨.bool true, ?_, rfl⟩
      simp [eqGuard, Go.binOp, rho, kindOf, Op.intCmp]; omega
    · obtain ⟨hty, he⟩ := bb_true he
      have hty := beq_eq hty
      subst hty
      cases he
      obtain ⟨x1, y1, rfl, a1, b1⟩ := agg2 h1
      obtain ⟨x2, y2, rfl, a2, b2⟩ := agg2 h2
      have e1 : x1 = rho d t 20 := a1.1
      have e2 : x2 = rho d t 20 := a2.1
      have e3 : y1 = rho d t 21 := b1.1
      have e4 : y2 = rho d t 21 := b2.1
      subst e1; subst e2; subst e3; subst e4
      refine ⟨.bool true, ?_, rfl⟩
      rw [Sem.run_bind, run_eqGuard_agg w .eql 44 ox oy _ _ (by kernel_rfl)]
      obtain ⟨a, ha⟩ : ∃ a, rho d t 20 = .int .u32 a := ⟨_, rfl⟩
      obtain ⟨b, hb⟩ : ∃ b, rho d t 21 = .int .u16 b := ⟨_, rfl⟩
      rw [Result.andThen_ok]
      exact eql_addr ha hb
    · cases he
  conv {src dst x r σ u} w he h1 := by
    have he : symConv src dst x = some r := he
    unfold symConv at he
    split at he
    · obtain ⟨hc, he⟩ := bb_true he
      obtain ⟨c1, c2⟩ := and_true' hc
      have c1 := beq_eq c1; have c2 := beq_eq c2
      subst c1; subst c2
      cases he
      cases sym_is h1
      refine ⟨rho d t 5, ?_, is_sym rfl⟩
      have hw := wrap_small (k := 3) (n := t % 3) (by simp only [maxK]; omega)
      simp only [kindOf] at hw
      simp only [convert, Sem.run_bind, run_underlying Tryz.underlying5, run_underlying Tryz.underlying3, Result.andThen_ok, Conv.intToInt, rho, Sem.run_pure, hw]
    · obtain ⟨hc, he⟩ := bb_true he
      obtain ⟨c1, c2⟩ := and_true' hc
      have c1 := beq_eq c1; have c2 := beq_eq c2
      subst c1; subst c2
      cases he
      cases sym_is h1
      refine ⟨rho d t 7, ?_, is_sym rfl⟩
      have hw := wrap_small (k := 3) (n := t / 3 % 2) (by simp only [maxK]; omega)
      simp only [kindOf] at hw
      simp only [convert, Sem.run_bind, run_underlying Tryz.underlying5, run_underlying Tryz.underlying3, Result.andThen_ok, Conv.intToInt, rho, Sem.run_pure, hw]
    · cases he
end

end Go.Proofs.YtogifafehihjgaaGreat.Ab
