/-
  An abstract executor for the model's code: its values, its memory, its evaluator. No theorem about the model stands here.
  How it is written: whatever hangs on the code alone (a node, an operation, an operand) is a closed structure with a function in it, so that the kernel works it out once.
-/
import Derived.Orders
namespace Go.Proofs.YtogifafehihjgaaGreat.Ab
open Go

/-! ### options -/
noncomputable def ob {α β : Type} (x : Option α) (f : α → Option β) : Option β := @Option.rec α (fun _ => Option β) none f x
noncomputable def oe {α β : Type} (x : Option α) (d : β) (f : α → β) : β := @Option.rec α (fun _ => β) d f x
noncomputable def bb {α : Type} (c : Bool) (t f : α) : α := @Bool.rec (fun _ => α) f t c
/-- 'x', reckoned first -/
noncomputable def sq {α : Type} (x : Nat) (f : Nat → α) : α := @Nat.rec (fun _ => α) (f 0) (fun m _ => f (Nat.succ m)) x

/-! ### trees of sixteen-way nodes -/
structure N16 (α : Type) where
  c0 : α
  c1 : α
  c2 : α
  c3 : α
  c4 : α
  c5 : α
  c6 : α
  c7 : α
  c8 : α
  c9 : α
  c10 : α
  c11 : α
  c12 : α
  c13 : α
  c14 : α
  c15 : α

structure Ls (S A : Type) where
  g : S → A
  s : A → S → S

noncomputable def l0 (α : Type) : Ls (N16 α) α := ⟨fun t => t.c0, fun x t => @N16.rec α (fun _ => N16 α) (fun _ c1 c2 c3 c4 c5 c6 c7 c8 c9 c10 c11 c12 c13 c14 c15 => ⟨x, c1, c2, c3, c4, c5, c6, c7, c8, c9, c10, c11, c12, c13, c14, c15⟩) t⟩
noncomputable def l1 (α : Type) : Ls (N16 α) α := ⟨fun t => t.c1, fun x t => @N16.rec α (fun _ => N16 α) (fun c0 _ c2 c3 c4 c5 c6 c7 c8 c9 c10 c11 c12 c13 c14 c15 => ⟨c0, x, c2, c3, c4, c5, c6, c7, c8, c9, c10, c11, c12, c13, c14, c15⟩) t⟩
noncomputable def l2 (α : Type) : Ls (N16 α) α := ⟨fun t => t.c2, fun x t => @N16.rec α (fun _ => N16 α) (fun c0 c1 _ c3 c4 c5 c6 c7 c8 c9 c10 c11 c12 c13 c14 c15 => ⟨c0, c1, x, c3, c4, c5, c6, c7, c8, c9, c10, c11, c12, c13, c14, c15⟩) t⟩
noncomputable def l3 (α : Type) : Ls (N16 α) α := ⟨fun t => t.c3, fun x t => @N16.rec α (fun _ => N16 α) (fun c0 c1 c2 _ c4 c5 c6 c7 c8 c9 c10 c11 c12 c13 c14 c15 => ⟨c0, c1, c2, x, c4, c5, c6, c7, c8, c9, c10, c11, c12, c13, c14, c15⟩) t⟩
noncomputable def l4 (α : Type) : Ls (N16 α) α := ⟨fun t => t.c4, fun x t => @N16.rec α (fun _ => N16 α) (fun c0 c1 c2 c3 _ c5 c6 c7 c8 c9 c10 c11 c12 c13 c14 c15 => ⟨c0, c1, c2, c3, x, c5, c6, c7, c8, c9, c10, c11, c12, c13, c14, c15⟩) t⟩
noncomputable def l5 (α : Type) : Ls (N16 α) α := ⟨fun t => t.c5, fun x t => @N16.rec α (fun _ => N16 α) (fun c0 c1 c2 c3 c4 _ c6 c7 c8 c9 c10 c11 c12 c13 c14 c15 => ⟨c0, c1, c2, c3, c4, x, c6, c7, c8, c9, c10, c11, c12, c13, c14, c15⟩) t⟩
noncomputable def l6 (α : Type) : Ls (N16 α) α := ⟨fun t => t.c6, fun x t => @N16.rec α (fun _ => N16 α) (fun c0 c1 c2 c3 c4 c5 _ c7 c8 c9 c10 c11 c12 c13 c14 c15 => ⟨c0, c1, c2, c3, c4, c5, x, c7, c8, c9, c10, c11, c12, c13, c14, c15⟩) t⟩
noncomputable def l7 (α : Type) : Ls (N16 α) α := ⟨fun t => t.c7, fun x t => @N16.rec α (fun _ => N16 α) (fun c0 c1 c2 c3 c4 c5 c6 _ c8 c9 c10 c11 c12 c13 c14 c15 => ⟨c0, c1, c2, c3, c4, c5, c6, x, c8, c9, c10, c11, c12, c13, c14, c15⟩) t⟩
noncomputable def l8 (α : Type) : Ls (N16 α) α := ⟨fun t => t.c8, fun x t => @N16.rec α (fun _ => N16 α) (fun c0 c1 c2 c3 c4 c5 c6 c7 _ c9 c10 c11 c12 c13 c14 c15 => ⟨c0, c1, c2, c3, c4, c5, c6, c7, x, c9, c10, c11, c12, c13, c14, c15⟩) t⟩
noncomputable def l9 (α : Type) : Ls (N16 α) α := ⟨fun t => t.c9, fun x t => @N16.rec α (fun _ => N16 α) (fun c0 c1 c2 c3 c4 c5 c6 c7 c8 _ c10 c11 c12 c13 c14 c15 => ⟨c0, c1, c2, c3, c4, c5, c6, c7, c8, x, c10, c11, c12, c13, c14, c15⟩) t⟩
noncomputable def l10 (α : Type) : Ls (N16 α) α := ⟨fun t => t.c10, fun x t => @N16.rec α (fun _ => N16 α) (fun c0 c1 c2 c3 c4 c5 c6 c7 c8 c9 _ c11 c12 c13 c14 c15 => ⟨c0, c1, c2, c3, c4, c5, c6, c7, c8, c9, x, c11, c12, c13, c14, c15⟩) t⟩
noncomputable def l11 (α : Type) : Ls (N16 α) α := ⟨fun t => t.c11, fun x t => @N16.rec α (fun _ => N16 α) (fun c0 c1 c2 c3 c4 c5 c6 c7 c8 c9 c10 _ c12 c13 c14 c15 => ⟨c0, c1, c2, c3, c4, c5, c6, c7, c8, c9, c10, x, c12, c13, c14, c15⟩) t⟩
noncomputable def l12 (α : Type) : Ls (N16 α) α := ⟨fun t => t.c12, fun x t => @N16.rec α (fun _ => N16 α) (fun c0 c1 c2 c3 c4 c5 c6 c7 c8 c9 c10 c11 _ c13 c14 c15 => ⟨c0, c1, c2, c3, c4, c5, c6, c7, c8, c9, c10, c11, x, c13, c14, c15⟩) t⟩
noncomputable def l13 (α : Type) : Ls (N16 α) α := ⟨fun t => t.c13, fun x t => @N16.rec α (fun _ => N16 α) (fun c0 c1 c2 c3 c4 c5 c6 c7 c8 c9 c10 c11 c12 _ c14 c15 => ⟨c0, c1, c2, c3, c4, c5, c6, c7, c8, c9, c10, c11, c12, x, c14, c15⟩) t⟩
noncomputable def l14 (α : Type) : Ls (N16 α) α := ⟨fun t => t.c14, fun x t => @N16.rec α (fun _ => N16 α) (fun c0 c1 c2 c3 c4 c5 c6 c7 c8 c9 c10 c11 c12 c13 _ c15 => ⟨c0, c1, c2, c3, c4, c5, c6, c7, c8, c9, c10, c11, c12, c13, x, c15⟩) t⟩
noncomputable def l15 (α : Type) : Ls (N16 α) α := ⟨fun t => t.c15, fun x t => @N16.rec α (fun _ => N16 α) (fun c0 c1 c2 c3 c4 c5 c6 c7 c8 c9 c10 c11 c12 c13 c14 _ => ⟨c0, c1, c2, c3, c4, c5, c6, c7, c8, c9, c10, c11, c12, c13, c14, x⟩) t⟩

/-- the k-th place, k below 16 -/
noncomputable def lt16 (α : Type) (k : Nat) : Ls (N16 α) α := (bb (Nat.blt k 8) (bb (Nat.blt k 4) (bb (Nat.blt k 2) (bb (Nat.blt k 1) (l0 α) (l1 α)) (bb (Nat.blt k 3) (l2 α) (l3 α))) (bb (Nat.blt k 6) (bb (Nat.blt k 5) (l4 α) (l5 α)) (bb (Nat.blt k 7) (l6 α) (l7 α)))) (bb (Nat.blt k 12) (bb (Nat.blt k 10) (bb (Nat.blt k 9) (l8 α) (l9 α)) (bb (Nat.blt k 11) (l10 α) (l11 α))) (bb (Nat.blt k 14) (bb (Nat.blt k 13) (l12 α) (l13 α)) (bb (Nat.blt k 15) (l14 α) (l15 α)))))

noncomputable def lcomp {S M A : Type} (o : Ls S M) (i : Ls M A) : Ls S A := ⟨fun t => i.g (o.g t), fun x t => o.s (i.s x (o.g t)) t⟩

abbrev N256 (α : Type) := N16 (N16 α)
abbrev N64K (α : Type) := N256 (N256 α)

noncomputable def l16 (α : Type) (k : Nat) : Ls (N16 α) α := lt16 α (Nat.mod k 16)
noncomputable def l256 (α : Type) (k : Nat) : Ls (N256 α) α := lcomp (l16 (N16 α) (Nat.div k 16)) (l16 α k)
/-- the places by four digits, in one -/
noncomputable def lcomp4 {S M O Q A : Type} (a : Ls S M) (b : Ls M O) (c : Ls O Q) (d : Ls Q A) : Ls S A :=
  ⟨fun t => d.g (c.g (b.g (a.g t))), fun x t => a.s (b.s (c.s (d.s x (c.g (b.g (a.g t)))) (b.g (a.g t))) (a.g t)) t⟩
noncomputable def l64K (α : Type) (k : Nat) : Ls (N64K α) α :=
  lcomp4 (l16 (N16 (N256 α)) (Nat.div k 4096)) (l16 (N256 α) (Nat.div k 256)) (l16 (N16 α) (Nat.div k 16)) (l16 α k)

def n16 {α : Type} (x : α) : N16 α := ⟨x, x, x, x, x, x, x, x, x, x, x, x, x, x, x, x⟩
def n256 {α : Type} (x : α) : N256 α := n16 (n16 x)
def n64K {α : Type} (x : α) : N64K α := n256 (n256 x)

/-! ### values -/
structure PO where
  k : Nat
  o : Nat

/-- 'nat k n': an integer of the k-th kind, 0 or more; 'int': any; 'sym': a named one; 'slice key off len cap z': z = 0: the capacity is 'cap'; else at least 'cap', of elements of z cells; 'sliceE': an empty slice somewhere that is not nil -/
inductive AV where
  | nat (k n : Nat)
  | ptr (key off : Nat)
  | bool (b : Bool)
  | agg (n : Nat) (l : List AV)
  | int (k : Nat) (n : Int)
  | sym (k i : Nat)
  | float (k : FloatKind) (bits : Nat)
  | complex (k : FloatKind) (re im : Nat)
  | str (s : ByteArray)
  | nilp
  | nils
  | slice (key off len cap z : Nat)
  | sliceE
  | func (f : Nat) (first captured : List AV)
  | nilf
  | tup (l : List AV)
  | any

def kindOf : Nat → IntKind
  | 0 => .i8 | 1 => .i16 | 2 => .i32 | 3 => .i64 | 4 => .u8 | 5 => .u16 | 6 => .u32 | _ => .u64
def kidx : IntKind → Nat
  | .i8 => 0 | .i16 => 1 | .i32 => 2 | .i64 => 3 | .u8 => 4 | .u16 => 5 | .u32 => 6 | .u64 => 7
/-- the greatest of a kind -/
def maxK : Nat → Nat
  | 0 => 127 | 1 => 32767 | 2 => 2147483647 | 3 => 9223372036854775807 | 4 => 255 | 5 => 65535 | 6 => 4294967295 | _ => 18446744073709551615
def bitsK : Nat → Nat
  | 0 => 8 | 1 => 16 | 2 => 32 | 3 => 64 | 4 => 8 | 5 => 16 | 6 => 32 | _ => 64

def ofI (k : Nat) : Int → AV
  | .ofNat n => .nat k n
  | .negSucc n => .int k (.negSucc n)

noncomputable def lenL {α : Type} (l : List α) : Nat := @List.rec α (fun _ => Nat) 0 (fun _ _ n => Nat.succ n) l

/-- the cells of a value, and how many -/
noncomputable def AV.cells (v : AV) : List AV := match v with
  | .agg _ l => l
  | v => [v]
noncomputable def AV.size (v : AV) : Nat := match v with
  | .agg n _ => n
  | _ => 1

def AV.ex1 : AV → Option Value
  | .bool b => some (.bool b)
  | .nat k n => some (.int (kindOf k) (.ofNat n))
  | .int k n => some (.int (kindOf k) n)
  | .float k b => some (.float k b)
  | .complex k a b => some (.complex k a b)
  | .str s => some (.string s)
  | .nilp => some (.pointer none)
  | .nils => some (.slice none 0 0)
  | .nilf => some .nilFunc
  | _ => none

noncomputable def mapO {α β : Type} (f : α → Option β) (l : List α) : Option (List β) :=
  @List.rec α (fun _ => Option (List β)) (some []) (fun a _ ih => ob (f a) fun b => ob ih fun m => some (b :: m)) l

noncomputable def AV.exact (v : AV) : Option Value := match v with
  | .agg _ l => ob (mapO AV.ex1 l) fun vs => some (.agg vs.toArray)
  | v => v.ex1

def AV.of1 : Value → Option AV
  | .bool b => some (.bool b)
  | .int k n => some (ofI (kidx k) n)
  | .float k b => some (.float k b)
  | .complex k a b => some (.complex k a b)
  | .string s => some (.str s)
  | .pointer none => some .nilp
  | .slice none 0 0 => some .nils
  | .nilFunc => some .nilf
  | _ => none

noncomputable def AV.of (v : Value) : Option AV := match v with
  | .agg cs => ob (mapO AV.of1 cs.toList) fun l => some (.agg (lenL l) l)
  | .tuple cs => ob (mapO AV.of1 cs.toList) fun l => some (.tup l)
  | .func (.func f) ⟨[]⟩ ⟨[]⟩ => some (.func f [] [])
  | v => AV.of1 v

noncomputable def noTup (v : AV) : Bool := match v with
  | .tup _ => false
  | _ => true

noncomputable def isAtom (v : AV) : Bool := match v with
  | .tup _ | .agg _ _ | .func _ _ _ => false
  | _ => true
noncomputable def allL (p : AV → Bool) (l : List AV) : Bool := @List.rec AV (fun _ => Bool) true (fun a _ ih => and (p a) ih) l

structure NK where
  k : Nat
  n : Nat

noncomputable def asNat (v : AV) : Option NK := @AV.casesOn (fun _ => Option NK) v (fun k n => some ⟨k, n⟩) (fun _ _ => none) (fun _ => none) (fun _ _ => none) (fun _ _ => none) (fun _ _ => none) (fun _ _ => none) (fun _ _ _ => none) (fun _ => none) (none) (none) (fun _ _ _ _ _ => none) (none) (fun _ _ _ => none) (none) (fun _ => none) (none)
noncomputable def asPtr (v : AV) : Option PO := @AV.casesOn (fun _ => Option PO) v (fun _ _ => none) (fun k o => some ⟨k, o⟩) (fun _ => none) (fun _ _ => none) (fun _ _ => none) (fun _ _ => none) (fun _ _ => none) (fun _ _ _ => none) (fun _ => none) (none) (none) (fun _ _ _ _ _ => none) (none) (fun _ _ _ => none) (none) (fun _ => none) (none)
noncomputable def asBool (v : AV) : Option Bool := @AV.casesOn (fun _ => Option Bool) v (fun _ _ => none) (fun _ _ => none) (fun b => some b) (fun _ _ => none) (fun _ _ => none) (fun _ _ => none) (fun _ _ => none) (fun _ _ _ => none) (fun _ => none) (none) (none) (fun _ _ _ _ _ => none) (none) (fun _ _ _ => none) (none) (fun _ => none) (none)
/-- a guard's value: nothing was yielded: false -/
noncomputable def asGuard (v : AV) : Option (Option Bool) := @AV.casesOn (fun _ => Option (Option Bool)) v (fun _ _ => none) (fun _ _ => none) (fun b => some (some b)) (fun _ _ => none) (fun _ _ => none) (fun _ _ => none) (fun _ _ => none) (fun _ _ _ => none) (fun _ => none) (none) (none) (fun _ _ _ _ _ => none) (none) (fun _ _ _ => none) (none) (fun l => match l with | [] => some none | _ => none) (none)

/-! ### memory -/
abbrev TM := N256 (Option AV)
noncomputable def eT : TM := n256 none

/-- a block: few cells in a list; many in a tree; a string's iterator -/
inductive Blk where
  | sm (n : Nat) (l : List AV)
  | bg (n : Nat) (t : TM)
  | it (s : ByteArray) (pos : Nat)

structure Heap where
  next : Nat
  bs : N64K (Option Blk)

noncomputable def h0 : Heap := ⟨0, n64K none⟩

noncomputable def nthL {α : Type} (l : List α) : Nat → Option α :=
  @List.rec α (fun _ => Nat → Option α) (fun _ => none) (fun a _ ih i => @Nat.rec (fun _ => Option α) (some a) (fun m _ => ih m) i) l

noncomputable def setL {α : Type} (x : α) (l : List α) : Nat → Option (List α) :=
  @List.rec α (fun _ => Nat → Option (List α)) (fun _ => none) (fun a l ih i => @Nat.rec (fun _ => Option (List α)) (some (x :: l)) (fun m _ => ob (ih m) fun r => some (a :: r)) i) l

/-- the first n, which must be there -/
noncomputable def takeL {α : Type} (n : Nat) : List α → Option (List α) :=
  @Nat.rec (fun _ => List α → Option (List α)) (fun _ => some []) (fun _ ih l => @List.casesOn α (fun _ => Option (List α)) l none fun a l => ob (ih l) fun r => some (a :: r)) n

noncomputable def dropL {α : Type} (n : Nat) : List α → Option (List α) :=
  @Nat.rec (fun _ => List α → Option (List α)) (fun l => some l) (fun _ ih l => @List.casesOn α (fun _ => Option (List α)) l none fun _ l => ih l) n

noncomputable def appL {α : Type} (l m : List α) : List α := @List.rec α (fun _ => List α) m (fun a _ ih => a :: ih) l

/-- 'l' with the cells from 'off' on replaced -/
noncomputable def spliceL (l : List AV) (off : Nat) (n : Nat) (new : List AV) : Option (List AV) :=
  ob (takeL off l) fun a => ob (dropL (Nat.add off n) l) fun b => some (appL a (appL new b))

noncomputable def tget (t : TM) (i : Nat) : Option AV := bb (Nat.blt i 256) ((l256 (Option AV) i).g t) none
noncomputable def tset (t : TM) (i : Nat) (v : AV) : TM := (l256 (Option AV) i).s (some v) t

/-- n cells from 'i' on -/
noncomputable def tcells (t : TM) (n : Nat) : Nat → Option (List AV) :=
  @Nat.rec (fun _ => Nat → Option (List AV)) (fun _ => some []) (fun _ ih i => ob (tget t i) fun v => ob (ih (Nat.succ i)) fun l => some (v :: l)) n

/-- the cells of 'l' laid from 'i' on, below n -/
noncomputable def tputs (n : Nat) (l : List AV) : TM → Nat → Option TM :=
  @List.rec AV (fun _ => TM → Nat → Option TM) (fun t _ => some t) (fun v _ ih t i => bb (Nat.blt i n) (ih (tset t i v) (Nat.succ i)) none) l

noncomputable def Heap.blk (h : Heap) (k : Nat) : Option Blk := bb (Nat.blt k 65536) ((l64K (Option Blk) k).g h.bs) none
noncomputable def Heap.putB (h : Heap) (k : Nat) (b : Blk) : Heap := ⟨h.next, (l64K (Option Blk) k).s (some b) h.bs⟩
noncomputable def Heap.delB (h : Heap) (k : Nat) : Heap := ⟨h.next, (l64K (Option Blk) k).s none h.bs⟩

noncomputable def Blk.cell (b : Blk) (off : Nat) : Option AV :=
  @Blk.casesOn (fun _ => Option AV) b (fun _ l => nthL l off) (fun _ t => tget t off) (fun _ _ => none)
noncomputable def Blk.cellsAt (b : Blk) (off n : Nat) : Option (List AV) :=
  @Blk.casesOn (fun _ => Option (List AV)) b
    (fun m l => bb (and (Nat.beq off 0) (Nat.beq n m)) (some l) (ob (dropL off l) fun r => takeL n r)) (fun _ t => tcells t n off) (fun _ _ => none)
noncomputable def Blk.setCell (b : Blk) (off : Nat) (v : AV) : Option Blk :=
  @Blk.casesOn (fun _ => Option Blk) b (fun n l => ob (setL v l off) fun l => some (.sm n l)) (fun n t => bb (Nat.blt off n) (some (.bg n (tset t off v))) none) (fun _ _ => none)
noncomputable def Blk.setCells (b : Blk) (off n : Nat) (new : List AV) : Option Blk :=
  @Blk.casesOn (fun _ => Option Blk) b
    (fun m l => bb (and (Nat.beq off 0) (Nat.beq n m)) (some (.sm m new)) (ob (spliceL l off n new) fun l => some (.sm m l)))
    (fun m t => ob (tputs m new t off) fun t => some (.bg m t)) (fun _ _ => none)

noncomputable def Heap.cell (h : Heap) (k off : Nat) : Option AV := ob (h.blk k) fun b => b.cell off
noncomputable def Heap.cellsAt (h : Heap) (k off n : Nat) : Option (List AV) := ob (h.blk k) fun b => b.cellsAt off n
noncomputable def Heap.setCell (h : Heap) (k off : Nat) (v : AV) : Option Heap := ob (h.blk k) fun b => ob (b.setCell off v) fun b => some (h.putB k b)
/-- 'n': how many 'new' has -/
noncomputable def Heap.setCells (h : Heap) (k off n : Nat) (new : List AV) : Option Heap := ob (h.blk k) fun b => ob (b.setCells off n new) fun b => some (h.putB k b)

structure KH where
  k : Nat
  h : Heap

noncomputable def Heap.alloc (h : Heap) (b : Blk) : Option KH :=
  bb (Nat.blt h.next 65536) (sq h.next fun k => some ⟨k, ⟨Nat.succ k, (l64K (Option Blk) k).s (some b) h.bs⟩⟩) none

/-- a block of n cells -/
noncomputable def mkBlk (n : Nat) (l : List AV) : Option Blk :=
  bb (Nat.ble n 16) (some (.sm n l)) (bb (Nat.ble n 256) (ob (tputs n l eT 0) fun t => some (.bg n t)) none)

noncomputable def Heap.allocCells (h : Heap) (n : Nat) (l : List AV) : Option KH := ob (mkBlk n l) fun b => h.alloc b

/-! ### the program's tables -/
def isAggB (P : Program) (t : TypeId) : Option Bool :=
  match P.underlying t with
  | some (.struct _) | some (.array _ _) => some true
  | some _ => some false
  | none => none

def szOf (P : Program) (t : TypeId) : Option Nat := (P.info? t).map (·.size)
def bytesOfT (P : Program) (t : TypeId) : Option Nat := (P.info? t).map (·.bytes)

noncomputable def zeroCellsA (P : Program) (t : TypeId) : Option (List AV) :=
  match P.info? t with
  | some i => match i.zero with
    | some z => mapO AV.of1 z.cells.toList
    | none => none
  | none => none

def prun {α : Type} (P : Program) : Sem α → Option α
  | .pure a => some a
  | .program k => prun P (k P)
  | .mark _ k => prun P k
  | _ => none

/-! ### results, functions in structures -/
structure VH where
  v : AV
  h : Heap

inductive X where
  | normal | exit (id : Nat) | goto (l : Nat) | ret

structure R where
  x : X
  T : TM
  h : Heap

structure EF where f : TM → Option AV
structure BF where f : AV → AV → Option AV
structure NF where f : Nat → Nat → Nat → Option AV
structure UF where f : AV → Option AV
structure OF where f : TM → Heap → Option VH
structure CF where f : TM → Heap → Option R
structure FF where f : List AV → Heap → Option VH
structure LF where f : TM → Option (List AV)

structure Syms where
  bin : BinOp → TypeId → AV → AV → Option AV
  conv : TypeId → TypeId → AV → Option AV
  fsum : FuncId → Option FF
  back : FuncId → Bool

/-! ### operands -/
noncomputable def mkEv (x : Operand) : EF := match x with
  | .tmp t => bb (Nat.blt t 256) ⟨(l256 (Option AV) t).g⟩ ⟨fun _ => none⟩
  | .const v => match AV.of v with
    | some a => ⟨fun _ => some a⟩
    | none => ⟨fun _ => none⟩
  | .global _ => ⟨fun _ => none⟩
  | .func f => ⟨fun _ => some (.func f [] [])⟩

noncomputable def mkEvs (l : List Operand) : LF :=
  @List.rec Operand (fun _ => LF) ⟨fun _ => some []⟩ (fun x _ ih => ⟨fun T => ob ((mkEv x).f T) fun v => ob (ih.f T) fun r => some (v :: r)⟩) l

/-! ### pure operations -/
noncomputable def ofO (x : Option Value) : Option AV := match x with
  | some v => AV.of v
  | none => none

noncomputable def slowBin (P : Program) (S : Syms) (op : BinOp) (t : TypeId) (ox oy : Operand) (x y : AV) : Option AV :=
  match x.exact, y.exact with
  | some a, some b => ofO (prun P (do eqGuard op t ox oy a b; Go.binOp op t a b))
  | _, _ =>
    match op, x, y, P.underlying t with
    | .eql, .ptr _ _, .nilp, some (.pointer _) => some (.bool false)
    | .neq, .ptr _ _, .nilp, some (.pointer _) => some (.bool true)
    | .eql, .slice _ _ _ _ _, .nils, some (.slice _) => some (.bool false)
    | .neq, .slice _ _ _ _ _, .nils, some (.slice _) => some (.bool true)
    | _, _, _, _ => S.bin op t x y

def slowArith (op : BinOp) (k : Nat) (m n : Int) : Option AV :=
  match op with
  | .add => some (ofI k ((kindOf k).wrap (m + n)))
  | .sub => some (ofI k ((kindOf k).wrap (m - n)))
  | .mul => some (ofI k ((kindOf k).wrap (m * n)))
  | _ => none

/-- two integers of one kind, 0 or more -/
noncomputable def natBin (op : BinOp) : Option NF := match op with
  | .add => some ⟨fun k m n => bb (Nat.ble (Nat.add m n) (maxK k)) (some (.nat k (Nat.add m n))) (slowArith .add k (.ofNat m) (.ofNat n))⟩
  | .sub => some ⟨fun k m n => bb (and (Nat.ble n m) (Nat.ble m (maxK k))) (some (.nat k (Nat.sub m n))) (slowArith .sub k (.ofNat m) (.ofNat n))⟩
  | .mul => some ⟨fun k m n => bb (Nat.ble (Nat.mul m n) (maxK k)) (some (.nat k (Nat.mul m n))) (slowArith .mul k (.ofNat m) (.ofNat n))⟩
  | .eql => some ⟨fun _ m n => some (.bool (Nat.beq m n))⟩
  | .neq => some ⟨fun _ m n => some (.bool (not (Nat.beq m n)))⟩
  | .lss => some ⟨fun _ m n => some (.bool (Nat.blt m n))⟩
  | .leq => some ⟨fun _ m n => some (.bool (Nat.ble m n))⟩
  | .gtr => some ⟨fun _ m n => some (.bool (Nat.blt n m))⟩
  | .geq => some ⟨fun _ m n => some (.bool (Nat.ble n m))⟩
  | _ => none

noncomputable def mkBin (P : Program) (S : Syms) (op : BinOp) (t : TypeId) (ox oy : Operand) : BF :=
  match natBin op with
  | none => ⟨slowBin P S op t ox oy⟩
  | some nf => ⟨fun x y => oe (asNat x) (slowBin P S op t ox oy x y) fun a => oe (asNat y) (slowBin P S op t ox oy x y) fun b => bb (Nat.beq a.k b.k) (nf.f a.k a.n b.n) (slowBin P S op t ox oy x y)⟩

noncomputable def byteCells (l : List AV) : Option (List UInt8) := mapO (fun v => ob (asNat v) fun a => bb (Nat.beq a.k 4) (some (UInt8.ofNat a.n)) none) l

noncomputable def slowConv (P : Program) (S : Syms) (src dst : TypeId) (x : AV) : Option AV :=
  match x.exact with
  | some a => ofO (prun P (convert src dst a))
  | none => S.conv src dst x

/-- bytes to a string, by what lies in memory -/
noncomputable def bytesConv (P : Program) (S : Syms) (src dst : TypeId) (x : AV) (h : Heap) : Option AV :=
  match x with
  | .slice k off len _ _ => ob (h.cellsAt k off len) fun l => ob (byteCells l) fun bs => some (.str ⟨bs.toArray⟩)
  | x => slowConv P S src dst x

noncomputable def mkConv (P : Program) (S : Syms) (src dst : TypeId) (x : Operand) : OF :=
  match P.underlying src, P.underlying dst with
  | some (.int _), some (.int k) => ⟨fun T h => ob ((mkEv x).f T) fun v => oe (asNat v) (ob (slowConv P S src dst v) fun r => some ⟨r, h⟩) fun a =>
      bb (Nat.ble a.n (maxK (kidx k))) (some ⟨.nat (kidx k) a.n, h⟩) (ob (slowConv P S src dst v) fun r => some ⟨r, h⟩)⟩
  | some (.slice e), some .string => match P.underlying e with
    | some (.int .u8) => ⟨fun T h => ob ((mkEv x).f T) fun v => ob (bytesConv P S src dst v h) fun r => some ⟨r, h⟩⟩
    | _ => ⟨fun _ _ => none⟩
  | _, _ => ⟨fun T h => ob ((mkEv x).f T) fun v => ob (slowConv P S src dst v) fun r => some ⟨r, h⟩⟩

/-! ### parts of structs and arrays -/
structure PF where f : Nat → List AV → Option AV

/-- the part of type 't' at a cell of 'l' -/
noncomputable def mkPart (P : Program) (t : TypeId) : PF :=
  match isAggB P t, szOf P t with
  | some true, some n => ⟨fun off l => ob (dropL off l) fun r => ob (takeL n r) fun s => some (.agg n s)⟩
  | some false, _ => ⟨fun off l => nthL l off⟩
  | _, _ => ⟨fun _ _ => none⟩

noncomputable def fillA (place : Nat → Option (Nat × Nat)) (ps : List (Nat × AV)) : List AV → Option (List AV) :=
  @List.rec (Nat × AV) (fun _ => List AV → Option (List AV)) (fun c => some c)
    (fun p _ ih c => ob (place p.1) fun q => bb (Nat.beq p.2.size q.2) (ob (spliceL c q.1 q.2 p.2.cells) fun c => ih c) none) ps

structure PSF where f : TM → Option (List (Nat × AV))
noncomputable def mkParts (l : List (Nat × Operand)) : PSF :=
  @List.rec (Nat × Operand) (fun _ => PSF) ⟨fun _ => some []⟩ (fun p _ ih => ⟨fun T => ob ((mkEv p.2).f T) fun v => bb (noTup v) (ob (ih.f T) fun r => some ((p.1, v) :: r)) none⟩) l

def fieldPlaces (P : Program) (fs : Array Field) : Nat → Option (Nat × Nat) := fun i =>
  match fs[i]? with
  | some f => match szOf P f.type with
    | some n => some (f.offset, n)
    | none => none
  | none => none

noncomputable def repeatL (z : List AV) (n : Nat) : List AV := @Nat.rec (fun _ => List AV) [] (fun _ ih => appL z ih) n

noncomputable def mkBuild (P : Program) (t : TypeId) (parts : List (Nat × Operand)) : OF :=
  match zeroCellsA P t, szOf P t, P.underlying t with
  | some z, some n, some (.struct fs) => bb (and (Nat.beq (lenL z) n) (fs.toList.all fun f => (szOf P f.type).isSome)) ⟨fun T h => ob ((mkParts parts).f T) fun ps => ob (fillA (fieldPlaces P fs) ps z) fun l => some ⟨.agg n l, h⟩⟩ ⟨fun _ _ => none⟩
  | some z, some n, some (.array _ e) => match szOf P e with
    | some size => bb (Nat.beq (lenL z) n) ⟨fun T h => ob ((mkParts parts).f T) fun ps => ob (fillA (fun i => some (i * size, size)) ps z) fun l => some ⟨.agg n l, h⟩⟩ ⟨fun _ _ => none⟩
    | none => ⟨fun _ _ => none⟩
  | _, _, _ => ⟨fun _ _ => none⟩

noncomputable def mkBuildSlice (P : Program) (t : TypeId) (len : Nat) (parts : List (Nat × Operand)) : OF :=
  match P.underlying t with
  | some (.slice e) => match szOf P e, zeroCellsA P e with
    | some size, some z => bb (and (Nat.blt 0 size) (and (Nat.ble (len * size) 1000) (Nat.beq (lenL z) size)))
        ⟨fun T h => ob ((mkParts parts).f T) fun ps => ob (fillA (fun i => some (i * size, size)) ps (repeatL z len)) fun l => ob (h.allocCells (len * size) l) fun r => some ⟨.slice r.k 0 len len 0, r.h⟩⟩ ⟨fun _ _ => none⟩
    | _, _ => ⟨fun _ _ => none⟩
  | _ => ⟨fun _ _ => none⟩

/-! ### memory operations -/
noncomputable def mkLoad (P : Program) (t : TypeId) (x : Operand) : OF :=
  match isAggB P t, szOf P t with
  | some true, some n => ⟨fun T h => ob ((mkEv x).f T) fun v => ob (asPtr v) fun p => ob (h.cellsAt p.k p.o n) fun l => some ⟨.agg n l, h⟩⟩
  | some false, _ => ⟨fun T h => ob ((mkEv x).f T) fun v => ob (asPtr v) fun p => ob (h.cell p.k p.o) fun u => some ⟨u, h⟩⟩
  | _, _ => ⟨fun _ _ => none⟩

noncomputable def isCell (v : AV) : Bool := match v with
  | .agg _ _ | .tup _ => false
  | _ => true
noncomputable def isAggV (v : AV) : Bool := match v with
  | .agg _ _ => true
  | _ => false

noncomputable def mkStore (P : Program) (t : TypeId) (x y : Operand) : OF :=
  match szOf P t with
  | some 1 => ⟨fun T h => ob ((mkEv x).f T) fun v => ob (asPtr v) fun p => ob ((mkEv y).f T) fun u =>
      bb (isCell u) (ob (h.setCell p.k p.o u) fun h => some ⟨.tup [], h⟩) (bb (and (isAggV u) (Nat.beq u.size 1)) (ob (h.setCells p.k p.o 1 u.cells) fun h => some ⟨.tup [], h⟩) none)⟩
  | some n => ⟨fun T h => ob ((mkEv x).f T) fun v => ob (asPtr v) fun p => ob ((mkEv y).f T) fun u =>
      bb (and (isAggV u) (Nat.beq u.size n)) (ob (h.setCells p.k p.o n u.cells) fun h => some ⟨.tup [], h⟩) none⟩
  | none => ⟨fun _ _ => none⟩

noncomputable def mkAlloc (P : Program) (e : TypeId) : OF :=
  match zeroCellsA P e with
  | some z => match mkBlk (lenL z) z with
    | some b => ⟨fun _ h => ob (h.alloc b) fun r => some ⟨.ptr r.k 0, r.h⟩⟩
    | none => ⟨fun _ _ => none⟩
  | none => ⟨fun _ _ => none⟩

noncomputable def mkBox (x : Operand) : OF :=
  ⟨fun T h => ob ((mkEv x).f T) fun v => bb (noTup v) (ob (h.allocCells v.size v.cells) fun r => some ⟨.ptr r.k 0, r.h⟩) none⟩

noncomputable def mkFieldAddr (P : Program) (t : TypeId) (x : Operand) (i : Nat) : OF :=
  match P.underlying t with
  | some (.struct fs) => match fs[i]? with
    | some fd => match szOf P fd.type with
      | some (_ + 1) => ⟨fun T h => ob ((mkEv x).f T) fun v => ob (asPtr v) fun p => sq (Nat.add p.o fd.offset) fun o => some ⟨.ptr p.k o, h⟩⟩
      | _ => ⟨fun _ _ => none⟩
    | none => ⟨fun _ _ => none⟩
  | _ => ⟨fun _ _ => none⟩

noncomputable def mkField (P : Program) (t : TypeId) (x : Operand) (i : Nat) : OF :=
  match P.underlying t with
  | some (.struct fs) => match fs[i]? with
    | some fd => ⟨fun T h => ob ((mkEv x).f T) fun v => match v with
      | .agg _ l => ob ((mkPart P fd.type).f fd.offset l) fun r => some ⟨r, h⟩
      | _ => none⟩
    | none => ⟨fun _ _ => none⟩
  | _ => ⟨fun _ _ => none⟩

structure SL where
  k : Nat
  o : Nat
  len : Nat
  cap : Nat
  z : Nat

noncomputable def asSlice (v : AV) : Option SL := @AV.casesOn (fun _ => Option SL) v (fun _ _ => none) (fun _ _ => none) (fun _ => none) (fun _ _ => none) (fun _ _ => none) (fun _ _ => none) (fun _ _ => none) (fun _ _ _ => none) (fun _ => none) (none) (none) (fun k o l c z => some ⟨k, o, l, c, z⟩) (none) (fun _ _ _ => none) (none) (fun _ => none) (none)

noncomputable def mkIndexAddr (P : Program) (t : TypeId) (x i : Operand) : OF :=
  match P.underlying t with
  | some (.array n e) => match szOf P e with
    | some size => ⟨fun T h => ob ((mkEv x).f T) fun v => ob (asPtr v) fun p => ob ((mkEv i).f T) fun j => ob (asNat j) fun j => bb (Nat.blt j.n n) (sq (Nat.add p.o (Nat.mul j.n size)) fun o => some ⟨.ptr p.k o, h⟩) none⟩
    | none => ⟨fun _ _ => none⟩
  | some (.slice e) => match szOf P e with
    | some size => ⟨fun T h => ob ((mkEv x).f T) fun v => ob (asSlice v) fun s => ob ((mkEv i).f T) fun j => ob (asNat j) fun j => bb (Nat.blt j.n s.len) (sq (Nat.add s.o (Nat.mul j.n size)) fun o => some ⟨.ptr s.k o, h⟩) none⟩
    | none => ⟨fun _ _ => none⟩
  | _ => ⟨fun _ _ => none⟩

noncomputable def slowIndex (P : Program) (t : TypeId) (x i : AV) : Option AV :=
  match x.exact, i.exact with
  | some a, some b => ofO (prun P (Instr.index t a b))
  | _, _ => none

noncomputable def mkIndex (P : Program) (t : TypeId) (x i : Operand) : OF :=
  match P.underlying t with
  | some (.array n e) => match szOf P e with
    | some size => ⟨fun T h => ob ((mkEv x).f T) fun v => match v with
      | .agg _ l => ob ((mkEv i).f T) fun j => ob (asNat j) fun j => bb (Nat.blt j.n n) (sq (Nat.mul j.n size) fun o => ob ((mkPart P e).f o l) fun r => some ⟨r, h⟩) none
      | _ => none⟩
    | none => ⟨fun _ _ => none⟩
  | some .string => ⟨fun T h => ob ((mkEv x).f T) fun v => ob ((mkEv i).f T) fun j => ob (slowIndex P t v j) fun r => some ⟨r, h⟩⟩
  | _ => ⟨fun _ _ => none⟩

/-- the bounds of a slice expression: low, high, capacity -/
structure BD where
  l : Nat
  h : Nat
  m : Nat

def bounds (len cap : Nat) (lo hi mx : Option Nat) : Option BD :=
  match mx.getD cap, hi.getD len, lo.getD 0 with
  | m, h, l => cond (Nat.ble m cap && (Nat.ble h m && Nat.ble l h)) (some ⟨l, h, m⟩) none

noncomputable def evSlice (P : Program) (t : TypeId) (x : AV) (lo hi mx : Option Nat) : Option AV :=
  match P.underlying t, x with
  | some (.array n e), .ptr k off => match szOf P e, bounds n n lo hi mx with
    | some size, some b => sq (cond (Nat.beq b.m b.l) off (off + b.l * size)) fun o => some (.slice k o (b.h - b.l) (b.m - b.l) 0)
    | _, _ => none
  | some (.slice e), .slice k off len cap z => match szOf P e, bounds len cap lo hi mx with
    | some size, some b =>
      match z, mx with
      | 0, _ | _ + 1, some _ => sq (cond (Nat.beq b.m b.l) off (off + b.l * size)) fun o => some (.slice k o (b.h - b.l) (b.m - b.l) 0)
      | z + 1, none => cond (Nat.ble size (z + 1)) (cond (Nat.beq b.m b.l) (cond (Nat.beq b.h b.l) (cond (Nat.beq b.l 0) (some (.slice k off 0 0 (z + 1))) (some .sliceE)) none)
          (sq (off + b.l * size) fun o => some (.slice k o (b.h - b.l) (b.m - b.l) (z + 1)))) none
    | _, _ => none
  | some (.slice e), .nils => match bounds 0 0 lo hi mx, szOf P e with
    | some _, some _ => some .nils
    | _, _ => none
  | some .string, .str s => match mx, bounds s.size s.size lo hi none with
    | none, some b => some (.str (s.extract b.l b.h))
    | _, _ => none
  | _, _ => none

structure ONF where f : TM → Option (Option Nat)
noncomputable def mkOptNat (x : Option Operand) : ONF := match x with
  | none => ⟨fun _ => some none⟩
  | some x => ⟨fun T => ob ((mkEv x).f T) fun v => ob (asNat v) fun a => some (some a.n)⟩

noncomputable def mkSlice (P : Program) (t : TypeId) (x : Operand) (lo hi mx : Option Operand) : OF :=
  ⟨fun T h => bb (mx.isNone || hi.isSome) (ob ((mkEv x).f T) fun v => ob ((mkOptNat lo).f T) fun l => ob ((mkOptNat hi).f T) fun u => ob ((mkOptNat mx).f T) fun m => ob (evSlice P t v l u m) fun r => some ⟨r, h⟩) none⟩

/-! ### append, clear -/
structure NL where
  n : Nat
  l : List AV

noncomputable def srcCells (h : Heap) (size : Nat) (v : AV) : Option NL := match v with
  | .nils | .sliceE => some ⟨0, []⟩
  | .slice k off len _ _ => ob (h.cellsAt k off (len * size)) fun l => some ⟨len, l⟩
  | _ => none

/-- a slice of 'len' elements grown by n others ('new'): 'cap' is at least its capacity in known cells -/
noncomputable def evAppend (h : Heap) (size bytes : Nat) (s : AV) (n : Nat) (new : List AV) : Option VH :=
  match s with
  | .nils => bb (Nat.beq n 0) (some ⟨.nils, h⟩) (bb (Nat.ble (Nat.mul n bytes) 140737488355328)
      (ob (h.allocCells (n * size) new) fun r => some ⟨.slice r.k 0 n n size, r.h⟩) none)
  | .slice k off len cap z =>
    bb (Nat.ble (Nat.add len n) cap)
      (ob (h.setCells k (off + len * size) (n * size) new) fun h => some ⟨.slice k off (Nat.add len n) cap z, h⟩)
      (bb (and (Nat.blt 0 n) (Nat.ble (Nat.mul (Nat.add len n) bytes) 140737488355328))
        (ob (h.cellsAt k off (len * size)) fun old =>
          match z with
          | 0 => ob (h.allocCells ((len + n) * size) (appL old new)) fun r => some ⟨.slice r.k 0 (len + n) (len + n) size, r.h⟩
          | z + 1 => bb (Nat.ble size (z + 1)) (ob ((h.delB k).allocCells ((len + n) * size) (appL old new)) fun r => some ⟨.slice r.k 0 (len + n) (len + n) size, r.h⟩) none) none)
  | _ => none

noncomputable def mkAppend (P : Program) (t1 t2 : TypeId) (s x : Operand) : OF :=
  match P.underlying t1, P.underlying t2 with
  | some (.slice e), some (.slice _) => match szOf P e, bytesOfT P e, zeroCellsA P e with
    | some size, some bytes, some z => bb (and (Nat.blt 0 size) (and (Nat.blt 0 bytes) (Nat.beq (lenL z) size))) ⟨fun T h => ob ((mkEv s).f T) fun v => ob ((mkEv x).f T) fun u => ob (srcCells h size u) fun c => evAppend h size bytes v c.n c.l⟩ ⟨fun _ _ => none⟩
    | _, _, _ => ⟨fun _ _ => none⟩
  | _, _ => ⟨fun _ _ => none⟩

noncomputable def evClear (z : List AV) (size : Nat) (h : Heap) (x : AV) : Option Heap :=
  match x with
  | .nils | .sliceE | .slice _ _ 0 _ _ => some h
  | .slice k off (n + 1) _ _ => h.setCells k off ((n + 1) * size) (repeatL z (n + 1))
  | _ => none

noncomputable def mkClear (P : Program) (t : TypeId) (x : Operand) : OF :=
  match P.underlying t with
  | some (.slice e) => match zeroCellsA P e, szOf P e with
    | some z, some size => bb (Nat.beq (lenL z) size) ⟨fun T h => ob ((mkEv x).f T) fun v => ob (evClear z size h v) fun h => some ⟨.tup [], h⟩⟩ ⟨fun _ _ => none⟩
    | _, _ => ⟨fun _ _ => none⟩
  | _ => ⟨fun _ _ => none⟩

noncomputable def exacts (l : List AV) : Option (List Value) := mapO AV.exact l

/-- a builtin that neither reads nor writes memory, at exact arguments -/
noncomputable def evPure (P : Program) (b : Builtin) (ats : Array TypeId) (t : TypeId) (args : List AV) : Option AV :=
  match exacts args with
  | some vs => match prun P (builtin b ats t #[] vs.toArray) with
    | some (.value v) => AV.of v
    | _ => none
  | none => none

noncomputable def mkPure (P : Program) (b : Builtin) (ats : Array TypeId) (t : TypeId) (args : List Operand) : OF :=
  ⟨fun T h => ob ((mkEvs args).f T) fun vs => ob (evPure P b ats t vs) fun r => some ⟨r, h⟩⟩

noncomputable def lenSlice (v : AV) : Option Nat := match v with
  | .slice _ _ len _ _ => some len
  | .nils | .sliceE => some 0
  | _ => none

noncomputable def mkLen (P : Program) (ats : Array TypeId) (t : TypeId) (t1 : TypeId) (x : Operand) : OF :=
  match P.underlying t1 with
  | some (.slice _) => ⟨fun T h => ob ((mkEv x).f T) fun v => ob (lenSlice v) fun n => some ⟨.nat 3 n, h⟩⟩
  | _ => mkPure P .len ats t [x]

noncomputable def mkBuiltin (P : Program) (b : Builtin) (ats : Array TypeId) (t : TypeId) (args : List Operand) : OF :=
  match b, ats.toList, args with
  | .append, [t1, t2], [s, x] => mkAppend P t1 t2 s x
  | .clear, [t1], [x] => mkClear P t1 x
  | .len, [t1], [x] => mkLen P ats t t1 x
  | .min, _, args | .max, _, args | .real, _, args | .imag, _, args | .complex, _, args => mkPure P b ats t args
  | _, _, _ => ⟨fun _ _ => none⟩

/-! ### calls -/
def bodied (P : Program) (f : FuncId) : Bool :=
  match P.funcs[f]? with
  | some fn => !(fn.name == "runtime.NumGoroutine") && fn.body.isSome
  | none => false

/-- a function without a body, at exact arguments -/
noncomputable def evExt (P : Program) (f : FuncId) (args : List AV) (h : Heap) : Option VH :=
  match exacts args with
  | some vs => match prun P (callFunc f vs.toArray) with
    | some (.value v) => ob (AV.of v) fun a => some ⟨a, h⟩
    | _ => none
  | none => none

noncomputable def mkCallee (P : Program) (call : FuncId → FF) (f : FuncId) : FF := bb (bodied P f) (call f) ⟨evExt P f⟩

noncomputable def mkCall (P : Program) (call : FuncId → FF) (ty : TypeId) (c : Call) : OF :=
  match c.callee with
  | .builtin b => mkBuiltin P b c.argTypes ty c.args.toList
  | .value (.func f) => ⟨fun T h => ob ((mkEvs c.args.toList).f T) fun as => (mkCallee P call f).f as h⟩
  | .value x => ⟨fun T h => ob ((mkEv x).f T) fun v => ob ((mkEvs c.args.toList).f T) fun as => match v with
    | .func f first cap => (mkCallee P call f).f (appL first (appL as cap)) h
    | _ => none⟩
  | .invoke _ _ => ⟨fun _ _ => none⟩

noncomputable def nilChk (v : AV) : Option AV := match v with
  | .ptr k o => some (.ptr k o)
  | .func f a b => some (.func f a b)
  | _ => none

noncomputable def evNext (v : AV) (h : Heap) : Option VH := match v with
  | .ptr k 0 => match h.blk k with
    | some (.it s pos) => bb (Nat.blt pos s.size)
        (sq (Nat.add pos (Utf8.decode s pos).2) fun p => some ⟨.tup [.bool true, .nat 3 pos, ofI 2 (Utf8.decode s pos).1], h.putB k (.it s p)⟩)
        (some ⟨.tup [.bool false], h⟩)
    | _ => none
  | _ => none

noncomputable def evRange (P : Program) (t : TypeId) (v : AV) (h : Heap) : Option VH := match v, P.underlying t with
  | .str s, some .string => ob (h.alloc (.it s 0)) fun r => some ⟨.ptr r.k 0, r.h⟩
  | _, _ => none

noncomputable def evUn (P : Program) (op : UnOp) (v : AV) : Option AV := match op, v with
  | .not, .bool b => some (.bool (not b))
  | _, _ => match v.exact with
    | some b => ofO (prun P (Op.unary op b))
    | none => none

noncomputable def evExtract (v : AV) (i : Nat) : Option AV := match v with
  | .tup l => nthL l i
  | _ => none

noncomputable def kMove (x : Operand) : OF := ⟨fun T h => ob ((mkEv x).f T) fun v => some ⟨v, h⟩⟩

/-- an operation of type 'ty' -/
noncomputable def mkOp (P : Program) (S : Syms) (call : FuncId → FF) (ty : TypeId) (op : Op) : OF :=
  match op with
  | .move x | .assign x => kMove x
  | .pick c a b => ⟨fun T h => ob ((mkEv c).f T) fun v => ob (asBool v) fun t => bb t (ob ((mkEv a).f T) fun u => some ⟨u, h⟩) (ob ((mkEv b).f T) fun u => some ⟨u, h⟩)⟩
  | .alloc e => mkAlloc P e
  | .box _ x => mkBox x
  | .build t parts => mkBuild P t parts.toList
  | .buildSlice t len parts => mkBuildSlice P t len parts.toList
  | .load t a => mkLoad P t a
  | .store t a x => mkStore P t a x
  | .nilCheck x => ⟨fun T h => ob ((mkEv x).f T) fun v => ob (nilChk v) fun u => some ⟨u, h⟩⟩
  | .binOp op t x y _ => ⟨fun T h => ob ((mkEv x).f T) fun a => ob ((mkEv y).f T) fun b => ob ((mkBin P S op t x y).f a b) fun u => some ⟨u, h⟩⟩
  | .unOp op _ x => ⟨fun T h => ob ((mkEv x).f T) fun v => ob (evUn P op v) fun u => some ⟨u, h⟩⟩
  | .convert src dst x => mkConv P S src dst x
  | .makeFunc (.func f) first cap => ⟨fun T h => ob ((mkEvs first.toList).f T) fun a => ob ((mkEvs cap.toList).f T) fun b => bb (and (allL isAtom a) (allL isAtom b)) (some ⟨.func f a b, h⟩) none⟩
  | .slice t x lo hi mx => mkSlice P t x lo hi mx
  | .fieldAddr t x f => mkFieldAddr P t x f
  | .field t x f => mkField P t x f
  | .indexAddr t x i => mkIndexAddr P t x i
  | .index t x i => mkIndex P t x i
  | .range t x => ⟨fun T h => ob ((mkEv x).f T) fun v => evRange P t v h⟩
  | .next x true => ⟨fun T h => ob ((mkEv x).f T) fun v => evNext v h⟩
  | .extract x i => ⟨fun T h => ob ((mkEv x).f T) fun v => ob (evExtract v i) fun u => some ⟨u, h⟩⟩
  | .call c => mkCall P call ty c
  | _ => ⟨fun _ _ => none⟩

/-- what is written into a frame of N slots; none: no such slot -/
structure WF where f : TM → AV → TM
noncomputable def mkPut (N : Nat) (dst : Option Tmp) : Option WF := match dst with
  | some d => bb (and (Nat.blt d N) (Nat.blt d 256)) (some ⟨fun T v => (l256 (Option AV) d).s (some v) T⟩) none
  | none => some ⟨fun T _ => T⟩

/-- the guard of an operation: whether it is wanted -/
structure GF where f : TM → Option Bool
noncomputable def mkGuard (ops : List Oper) (g : Option (Nat × Bool)) : Option GF := match g with
  | none => none
  | some (j, want) => some (match nthL ops j with
    | some oj => match oj.dst with
      | some d => ⟨fun T => ob ((mkEv (.tmp d)).f T) fun v => ob (asGuard v) fun b => oe b (some false) fun b => some (b == want)⟩
      | none => ⟨fun _ => none⟩
    | none => ⟨fun _ => none⟩)

structure THF where f : TM → Heap → Option R

/-- operations one behind the other; 'all': the region's, for the guards -/
noncomputable def mkOps (P : Program) (S : Syms) (call : FuncId → FF) (N : Nat) (all : List Oper) (l : List Oper) : CF :=
  @List.rec Oper (fun _ => CF) ⟨fun T h => some ⟨.normal, T, h⟩⟩
    (fun o _ ih => match mkPut N o.dst with
      | none => ⟨fun _ _ => none⟩
      | some w => match mkGuard all o.guard with
        | none => ⟨fun T h => ob ((mkOp P S call o.type o.op).f T h) fun r => ih.f (w.f T r.v) r.h⟩
        | some g => ⟨fun T h => ob (g.f T) fun b => bb b (ob ((mkOp P S call o.type o.op).f T h) fun r => ih.f (w.f T r.v) r.h) (ih.f (w.f T (.tup [])) h)⟩) l

/-! ### regions whose order is drawn -/
def eqAtom (v u : AV) : Bool := match v, u with
  | .nat k n, .nat k' n' => and (Nat.beq k k') (Nat.beq n n')
  | .ptr k o, .ptr k' o' => and (Nat.beq k k') (Nat.beq o o')
  | .bool b, .bool b' => b == b'
  | .int k n, .int k' n' => and (Nat.beq k k') (decide (n = n'))
  | .sym k i, .sym k' i' => and (Nat.beq k k') (Nat.beq i i')
  | .str s, .str s' => decide (s = s')
  | .nilp, .nilp => true
  | .nils, .nils => true
  | .slice k o l c z, .slice k' o' l' c' z' => and (and (Nat.beq k k') (Nat.beq o o')) (and (and (Nat.beq l l') (Nat.beq c c')) (Nat.beq z z'))
  | .nilf, .nilf => true
  | .float k b, .float k' b' => and (decide (k = k')) (Nat.beq b b')
  | .complex k a b, .complex k' a' b' => and (decide (k = k')) (and (Nat.beq a a') (Nat.beq b b'))
  | _, _ => false
noncomputable def eqL (p : AV → AV → Bool) (l : List AV) : List AV → Bool :=
  @List.rec AV (fun _ => List AV → Bool) (fun m => @List.casesOn AV (fun _ => Bool) m true fun _ _ => false) (fun a _ ih m => @List.casesOn AV (fun _ => Bool) m false fun b m => bb (p a b) (ih m) false) l
noncomputable def eqC (v u : AV) : Bool := match v, u with
  | .func f x y, .func f' x' y' => and (Nat.beq f f') (and (eqL eqAtom x x') (eqL eqAtom y y'))
  | v, u => eqAtom v u
noncomputable def eqB (v u : AV) : Bool := match v, u with
  | .agg n l, .agg n' l' => and (Nat.beq n n') (eqL eqC l l')
  | v, u => eqC v u

def isBytesConv (P : Program) (src dst : TypeId) : Bool := match P.underlying src, P.underlying dst with
  | some (.slice _), some .string => true
  | _, _ => false
/-- 0: neither reads memory nor writes it; 1: reads; 2: acts; 3: makes a block -/
def clsOf (P : Program) (op : Op) : Nat := match op with
  | .alloc _ | .box _ _ | .buildSlice _ _ _ | .range _ _ => 3
  | .load _ _ => 1
  | .convert s d _ => cond (isBytesConv P s d) 1 0
  | .store _ _ _ | .next _ _ => 2
  | .call c => match c.callee with
    | .builtin .len | .builtin .min | .builtin .max | .builtin .real | .builtin .imag | .builtin .complex => 0
    | _ => 2
  | _ => 0

/-- of an operation: those ahead of it, the slots that it looks at, its own, its class -/
structure SI where
  anc : Nat
  look : Nat
  dst : Nat
  cls : Nat

def lookMask (all : Array Oper) (o : Oper) : Nat := (o.looksAt all).foldr (fun t m => Nat.lor (Nat.shiftLeft 1 t) m) 0
def dstMask (o : Oper) : Nat := match o.dst with
  | some d => Nat.shiftLeft 1 d
  | none => 0
noncomputable def ancE (inf : List SI) (es : List Edge) : Nat :=
  @List.rec Edge (fun _ => Nat) 0 (fun e _ ih => bb (Region.binds .any e) (Nat.lor (Nat.lor ih (oe (nthL inf e.on) 0 fun s => s.anc)) (Nat.shiftLeft 1 e.on)) ih) es
noncomputable def infosOf (P : Program) (all : Array Oper) (l : List Oper) : List SI → List SI :=
  @List.rec Oper (fun _ => List SI → List SI) (fun acc => acc) (fun o _ ih acc => ih (appL acc [⟨ancE acc o.after.toList, lookMask all o, dstMask o, clsOf P o.op⟩])) l

def hasBit (m i : Nat) : Bool := Nat.beq (Nat.land (Nat.shiftRight m i) 1) 1
/-- two operations, the first ahead in the text: either ordered, or apart -/
def pairOk (a b : SI) (j : Nat) : Bool := or (hasBit b.anc j) (and (and (Nat.beq (Nat.land a.dst (Nat.lor b.look b.dst)) 0) (Nat.beq (Nat.land b.dst a.look) 0)) (not (and (Nat.beq b.cls 2) (Nat.ble 2 a.cls))))
noncomputable def pairsOk (b : SI) (l : List SI) : Nat → Bool :=
  @List.rec SI (fun _ => Nat → Bool) (fun _ => true) (fun a _ ih j => bb (pairOk a b j) (ih (Nat.succ j)) false) l
noncomputable def allPairs (l : List SI) : List SI → Bool :=
  @List.rec SI (fun _ => List SI → Bool) (fun _ => true) (fun b _ ih pre => bb (pairsOk b pre 0) (ih (appL pre [b])) false) l
def edgesOk (i : Nat) (o : Oper) : Bool := o.after.toList.all fun e => or (not (Region.binds .any e)) (Nat.blt e.on i)
noncomputable def allEdges (l : List Oper) : Nat → Bool :=
  @List.rec Oper (fun _ => Nat → Bool) (fun _ => true) (fun o _ ih i => bb (edgesOk i o) (ih (Nat.succ i)) false) l

/-- the acting ones, as they lie in the text -/
noncomputable def effsOf (l : List SI) : Nat → List Nat :=
  @List.rec SI (fun _ => Nat → List Nat) (fun _ => []) (fun a _ ih i => bb (Nat.beq a.cls 2) (i :: ih (Nat.succ i)) (ih (Nat.succ i))) l
/-- how many of 'l', from its head on, are so -/
noncomputable def lead (p : Nat → Bool) (l : List Nat) : Nat := @List.rec Nat (fun _ => Nat) 0 (fun a _ ih => bb (p a) (Nat.succ ih) 0) l
noncomputable def jmin (effs : List Nat) (b : SI) : Nat := lead (fun e => hasBit b.anc e) effs
noncomputable def jmax (inf : List SI) (effs : List Nat) (i : Nat) : Nat := lead (fun e => oe (nthL inf e) false fun s => not (hasBit s.anc i)) effs

structure RD where
  of : OF
  T : TM
  v : AV
  sk : Nat
  n : Nat
structure DS where
  T : TM
  h : Heap
  rs : List Heap
  rd : List RD
structure DF where f : DS → Option DS

noncomputable def eH (n : Nat) : Heap := ⟨n, n64K none⟩

noncomputable def dAct (of : OF) (w : WF) (cls sk n : Nat) : DF := match cls with
  | 0 => ⟨fun s => ob (of.f s.T (eH s.h.next)) fun r => bb (Nat.beq r.h.next s.h.next) (some ⟨w.f s.T r.v, s.h, s.rs, s.rd⟩) none⟩
  | 1 => ⟨fun s => @List.casesOn Heap (fun _ => Option DS) s.rs none fun R _ => ob (of.f s.T R) fun r => some ⟨w.f s.T r.v, s.h, s.rs, ⟨of, s.T, r.v, sk, n⟩ :: s.rd⟩⟩
  | 2 => ⟨fun s => ob (of.f s.T s.h) fun r => some ⟨w.f s.T r.v, r.h, r.h :: s.rs, s.rd⟩⟩
  | _ => ⟨fun s => sq s.h.next fun k => ob (of.f s.T (eH k)) fun r => ob (r.h.blk k) fun b => bb (and (Nat.beq r.h.next (Nat.succ k)) (Nat.blt k 65536)) (some ⟨w.f s.T r.v, ⟨Nat.succ k, (l64K (Option Blk) k).s (some b) s.h.bs⟩, s.rs, s.rd⟩) none⟩
noncomputable def dSkip (w : WF) (cls : Nat) : DF := match cls with
  | 2 => ⟨fun s => some ⟨w.f s.T (.tup []), s.h, s.h :: s.rs, s.rd⟩⟩
  | _ => ⟨fun s => some ⟨w.f s.T (.tup []), s.h, s.rs, s.rd⟩⟩
noncomputable def mkDStep (P : Program) (S : Syms) (call : FuncId → FF) (N : Nat) (all : List Oper) (o : Oper) (cls sk n : Nat) : DF :=
  match mkPut N o.dst with
  | none => ⟨fun _ => none⟩
  | some w => match mkGuard all o.guard with
    | none => dAct (mkOp P S call o.type o.op) w cls sk n
    | some g => ⟨fun s => ob (g.f s.T) fun b => bb b ((dAct (mkOp P S call o.type o.op) w cls sk n).f s) ((dSkip w cls).f s)⟩

/-- the operations from the i-th on -/
noncomputable def mkDSteps (P : Program) (S : Syms) (call : FuncId → FF) (N : Nat) (all : List Oper) (inf : List SI) (effs : List Nat) (m : Nat) (l : List Oper) : Nat → DF :=
  @List.rec Oper (fun _ => Nat → DF) (fun _ => ⟨fun s => some s⟩)
    (fun o _ ih i => oe (nthL inf i) ⟨fun _ => none⟩ fun b =>
      ⟨fun s => ob ((mkDStep P S call N all o b.cls (Nat.sub m (jmax inf effs i)) (Nat.sub (Nat.succ (jmax inf effs i)) (jmin effs b))).f s) (ih (Nat.succ i)).f⟩) l

noncomputable def chkRd (rs : List Heap) (r : RD) : Bool :=
  oe (ob (dropL r.sk rs) fun l => takeL r.n l) false fun l => @List.rec Heap (fun _ => Bool) true (fun R _ ih => bb (oe (r.of.f r.T R) false fun q => eqB q.v r.v) ih false) l
noncomputable def chkRds (rs : List Heap) (l : List RD) : Bool := @List.rec RD (fun _ => Bool) true (fun r _ ih => bb (chkRd rs r) ih false) l

noncomputable def mkDraw2 (P : Program) (S : Syms) (call : FuncId → FF) (N : Nat) (ops : List Oper) (inf : List SI) (effs : List Nat) : CF :=
  bb (and (allPairs inf []) (allEdges ops 0))
    ⟨fun T h => ob ((mkDSteps P S call N ops inf effs (lenL effs) ops 0).f ⟨T, h, [h], []⟩) fun s => bb (chkRds s.rs s.rd) (some ⟨.normal, s.T, s.h⟩) none⟩ ⟨fun _ _ => none⟩
noncomputable def mkDraw1 (P : Program) (S : Syms) (call : FuncId → FF) (N : Nat) (ops : List Oper) (inf : List SI) : CF := mkDraw2 P S call N ops inf (effsOf inf 0)
noncomputable def mkDraw (P : Program) (S : Syms) (call : FuncId → FF) (N : Nat) (ops : Array Oper) : CF := mkDraw1 P S call N ops.toList (infosOf P ops ops.toList [])

/-! ### code -/
@[irreducible] def rnds : Nat := 100000
noncomputable def iter (f : TM → Heap → Option R) (n : Nat) : TM → Heap → Option R :=
  @Nat.rec (fun _ => TM → Heap → Option R) (fun _ _ => none) (fun _ ih T h => ob (f T h) fun r => @X.casesOn (fun _ => Option R) r.x (ih r.T r.h) (fun _ => some r) (fun _ => some r) (some r)) n

noncomputable def jumps (body : Code) (jump : Code → CF) (n : Nat) : Option R → Option R :=
  @Nat.rec (fun _ => Option R → Option R) (fun _ => none) (fun _ ih r => ob r fun r => @X.casesOn (fun _ => Option R) r.x (some r) (fun _ => some r)
    (fun l => match findLabel body l with
      | some rest => ih ((jump rest).f r.T r.h)
      | none => some r) (some r)) n

/-- the length of a slice in a cell -/
noncomputable def backLen (h : Heap) (k off : Nat) : Option Nat := ob (h.cell k off) lenSlice
/-- a range over slices.Backward at ints: the rounds, from the last index on; the slice lies in a cell -/
noncomputable def rounds (run : TM → Heap → Option R) (w1 w2 : WF) (T : TM) (k off : Nat) (n : Nat) : Heap → Option Heap :=
  @Nat.rec (fun _ => Heap → Option Heap) (fun h => some h)
    (fun n ih h => ob (h.cell k off) fun s => ob (asSlice s) fun s => bb (Nat.blt n s.len) (ob (h.cell s.k (Nat.add s.o n)) fun v => ob (run (w2.f (w1.f T (.nat 3 n)) v) h) fun r => match r.x with
      | .normal => ih r.h
      | _ => none) none) n

noncomputable def seqF (a b : CF) : CF := ⟨fun T h => ob (a.f T h) fun r => @X.casesOn (fun _ => Option R) r.x (b.f r.T r.h) (fun _ => some r) (fun _ => some r) (some r)⟩

noncomputable def mkBack (S : Syms) (N : Nat) (f : Operand) (ps : List Tmp) (run : CF) : CF :=
  match ps with
  | [p, q] => match mkPut N (some p), mkPut N (some q) with
    | some w1, some w2 => ⟨fun T h => ob ((mkEv f).f T) fun v => match v with
      | .func g [] [.ptr k off] => bb (S.back g) (ob (backLen h k off) fun n => bb (Nat.blt n 65536) (ob (rounds run.f w1 w2 T k off n h) fun h => some ⟨.normal, T, h⟩) none) none
      | _ => none⟩
    | _, _ => ⟨fun _ _ => none⟩
  | _ => ⟨fun _ _ => none⟩

/-- the body of a round: no loop, no jump, no drawn order -/
noncomputable def mkB (P : Program) (S : Syms) (call : FuncId → FF) (N : Nat) (c : Code) : CF :=
  @Code.rec (fun _ => CF)
    ⟨fun T h => some ⟨.normal, T, h⟩⟩
    (fun _ ops draw => bb draw ⟨fun _ _ => none⟩ (mkOps P S call N ops.toList ops.toList))
    (fun _ _ a b => seqF a b)
    (fun c _ _ a b => ⟨fun T h => ob ((mkEv c).f T) fun v => ob (asBool v) fun t => bb t (a.f T h) (b.f T h)⟩)
    (fun id _ b => ⟨fun T h => ob (b.f T h) fun r => @X.casesOn (fun _ => Option R) r.x (some r) (fun i => bb (Nat.beq i id) (some ⟨.normal, r.T, r.h⟩) (some r)) (fun _ => some r) (some r)⟩)
    (fun _ _ => ⟨fun _ _ => none⟩)
    (fun _ _ _ _ _ _ => ⟨fun _ _ => none⟩)
    (fun id => ⟨fun T h => some ⟨.exit id, T, h⟩⟩)
    (fun _ _ => ⟨fun _ _ => none⟩)
    (fun _ => ⟨fun T h => some ⟨.normal, T, h⟩⟩)
    (fun _ => ⟨fun _ _ => none⟩)
    ⟨fun _ _ => none⟩
    (fun _ => ⟨fun _ _ => none⟩) c

noncomputable def mkC (P : Program) (S : Syms) (call : FuncId → FF) (jump : Code → CF) (N : Nat) (c : Code) : CF :=
  @Code.rec (fun _ => CF)
    ⟨fun T h => some ⟨.normal, T, h⟩⟩
    (fun _ ops draw => bb draw (mkDraw P S call N ops) (mkOps P S call N ops.toList ops.toList))
    (fun _ _ a b => seqF a b)
    (fun c _ _ a b => ⟨fun T h => ob ((mkEv c).f T) fun v => ob (asBool v) fun t => bb t (a.f T h) (b.f T h)⟩)
    (fun id _ b => ⟨fun T h => ob (b.f T h) fun r => @X.casesOn (fun _ => Option R) r.x (some r) (fun i => bb (Nat.beq i id) (some ⟨.normal, r.T, r.h⟩) (some r)) (fun _ => some r) (some r)⟩)
    (fun _ b => ⟨fun T h => iter b.f rnds T h⟩)
    (fun f ps x y _ _ => mkBack S N f ps.toList (seqF (mkB P S call N x) (mkB P S call N y)))
    (fun id => ⟨fun T h => some ⟨.exit id, T, h⟩⟩)
    (fun body b => ⟨fun T h => jumps body jump rnds (b.f T h)⟩)
    (fun _ => ⟨fun T h => some ⟨.normal, T, h⟩⟩)
    (fun l => ⟨fun T h => some ⟨.goto l, T, h⟩⟩)
    ⟨fun T h => some ⟨.ret, T, h⟩⟩
    (fun _ => ⟨fun _ _ => none⟩) c

/-! ### functions -/
structure RF where f : TM → Heap → Option AV
noncomputable def mkRes (P : Program) (r : ResultVar) : RF := match r with
  | .tmp t => ⟨fun T _ => (mkEv (.tmp t)).f T⟩
  | .cell a t => ⟨fun T h => ob ((mkLoad P t (.tmp a)).f T h) fun r => some r.v⟩

structure RLF where f : TM → Heap → Option (List AV)
noncomputable def mkResL (P : Program) (l : List ResultVar) : RLF :=
  @List.rec ResultVar (fun _ => RLF) ⟨fun _ _ => some []⟩ (fun r _ ih => ⟨fun T h => ob ((mkRes P r).f T h) fun v => bb (noTup v) (ob (ih.f T h) fun l => some (v :: l)) none⟩) l

noncomputable def mkResults (P : Program) (l : List ResultVar) : RF := match l with
  | [r] => mkRes P r
  | l => ⟨fun T h => ob ((mkResL P l).f T h) fun l => some (.tup l)⟩

noncomputable def argsT (l : List AV) : TM → Nat → TM :=
  @List.rec AV (fun _ => TM → Nat → TM) (fun t _ => t) (fun v _ ih t i => ih (tset t i v) (Nat.succ i)) l

/-- how a body ends -/
noncomputable def endF (res : RF) (r : R) : Option VH :=
  @X.casesOn (fun _ => Option VH) r.x (ob (res.f r.T r.h) fun v => some ⟨v, r.h⟩) (fun _ => none) (fun _ => none) (ob (res.f r.T r.h) fun v => some ⟨v, r.h⟩)

noncomputable def bodyF (P : Program) (run : Nat → Code → CF) (f : FuncId) : FF :=
  match P.funcs[f]? with
  | none => ⟨fun _ _ => none⟩
  | some fn => match fn.body with
    | none => ⟨fun _ _ => none⟩
    | some c => bb (Nat.ble fn.ntmps 256) ⟨fun args h => bb (Nat.ble (lenL args) fn.ntmps) (ob ((run fn.ntmps c).f (argsT args eT 0) h) fun r => endF (mkResults P fn.results.toList) r) none⟩ ⟨fun _ _ => none⟩

noncomputable def mkFn (P : Program) (S : Syms) (run : Nat → Code → CF) (f : FuncId) : FF :=
  match S.fsum f with
  | none => bodyF P run f
  | some g => ⟨fun args h => oe (g.f args h) ((bodyF P run f).f args h) fun r => some r⟩

noncomputable def cdL (P : Program) (S : Syms) (n : Nat) : Nat → Code → CF :=
  @Nat.rec (fun _ => Nat → Code → CF) (fun _ _ => ⟨fun _ _ => none⟩) (fun _ ih N c => mkC P S (fun f => mkFn P S ih f) (fun c => ih N c) N c) n

/-- function 'f', at n levels -/
noncomputable def evFn (P : Program) (S : Syms) (n : Nat) (f : FuncId) : FF := mkFn P S (cdL P S n) f

end Go.Proofs.YtogifafehihjgaaGreat.Ab
