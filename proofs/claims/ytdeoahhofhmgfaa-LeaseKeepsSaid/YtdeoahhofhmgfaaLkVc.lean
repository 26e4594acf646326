/- A part of the proof that 'reevelaw26.LeaseKeeps' returns true for every input. No condition. -/
import Derived.Test.YtdeoahhofhmgfaaAmPure
import Derived.Test.YtdeoahhofhmgfaaProg
import Derived.KernelRfl
namespace Go.Proofs.Ytdeoahhofhmgfaa.LeaseKeeps
open Go.AM
noncomputable section
def nmd (r n : Int) : Bool := decide (0 ≤ n) && decide (n < 7) && decide (r ≤ 281474976710656) && !(decide (r = 0) && decide (n = 0))
def tmd (n : Int) : Bool := decide (0 ≤ n) && decide (n ≤ 17592186044416)
def S1 : SumP := fun f args H => match f, args with
  | 52, [] => some fun Q => Q (.bool true) H
  | 68, [.agg [.sI .u64 r, .sI .i64 n]] => some fun Q => Q (.sB (nmd r n)) H
  | 89, [.agg [.sI .u64 r, .sI .i64 n]] => some fun Q => Q (.sB (nmd r n)) H
  | 87, [.sI .i64 n] => some fun Q => Q (.sB (tmd n)) H
  | _, _ => none
def stepR : RTy := .cons .boo (.cons (.int .i64) (.cons (.int .u64) (.cons (.int .i64) (.one (.int .i64)))))
structure LK where
  i : Int
  t : Int
  til : Int
  toR : Int
  toN : Int
  gR : Int
  gN : Int
  gU : Int
def heapOf (l : List AObj) : Heap := l.foldl Heap.alloc ⟨.nil, 0⟩
def LKi (size : Int) (script : List stepR.den) (inv : LK → Prop) : LInv := ⟨LK, inv,
  fun s _ _ => ([(2, .dsl stepR script), (7, .sI .i64 size), (8, .ptr 0 0), (10, .sI .i64 s.t), (11, .sI .i64 s.til), (12, .ptr 1 0), (13, .sI .i64 s.i)],
    heapOf [.cells false 4 [.sI .i64 size, .sI .u64 s.gR, .sI .i64 s.gN, .sI .i64 s.gU] none, .cells false 2 [.sI .u64 s.toR, .sI .i64 s.toN] none]), fun s => script.length - s.i.toNat⟩
def L1 (size : Int) (script : List stepR.den) (inv : LK → Prop) : LTab := fun f k => match f, k with
  | 11, 9 => some (LKi size script inv)
  | _, _ => none
def xR (script : List stepR.den) (i : Int) : Int := (Go.AM.rowAt script i.toNat).2.2.1
def xN (script : List stepR.den) (i : Int) : Int := (Go.AM.rowAt script i.toNat).2.2.2.1
def xT (script : List stepR.den) (i : Int) : Int := (Go.AM.rowAt script i.toNat).2.2.2.2
def owed (length now size : Int) (script : List stepR.den) (inv : LK → Prop) : Prop :=
  (decide (300 < (script.length : Int)) = true →
 true = true) ∧
 (decide (300 < (script.length : Int)) = false →
 (decide (IntKind.i64.wrap (IntKind.i64.wrap length + 1) < 1) = true →
 false = true) ∧
 (decide (IntKind.i64.wrap (IntKind.i64.wrap length + 1) < 1) = false →
 (decide (4294967296 < IntKind.i64.wrap (IntKind.i64.wrap length + 1)) = true →
 false = true) ∧
 (decide (4294967296 < IntKind.i64.wrap (IntKind.i64.wrap length + 1)) = false →
 ((!tmd (IntKind.i64.wrap now)) = true →
 false = true) ∧
 ((!tmd (IntKind.i64.wrap now)) = false →
 ∃ s0, inv s0 ∧
 (script = script ∧
 IntKind.i64.wrap (IntKind.i64.wrap length + 1) = size ∧
 IntKind.i64.wrap now = s0.t ∧
 IntKind.i64.wrap (IntKind.i64.wrap now + IntKind.i64.wrap (IntKind.i64.wrap length + 1)) = s0.til ∧
 0 = s0.i ∧
 IntKind.i64.wrap (IntKind.i64.wrap length + 1) = size ∧
 0 = s0.gR ∧
 0 = s0.gN ∧
 IntKind.i64.wrap (IntKind.i64.wrap now + IntKind.i64.wrap (IntKind.i64.wrap length + 1)) = s0.gU ∧
 0 = s0.toR ∧
 0 = s0.toN) ∧
 ∀ (s : (LKi size script inv).σ), inv s →
 IntKind.i64.has size →
 IntKind.i64.has s.til →
 IntKind.i64.has s.i →
 (CTy.sl (RTy.cons CTy.boo (RTy.cons (CTy.int IntKind.i64) (RTy.cons (CTy.int IntKind.u64) (RTy.cons (CTy.int IntKind.i64) (RTy.one (CTy.int IntKind.i64))))))).Has script →
 IntKind.i64.has s.t →
 IntKind.i64.has size →
 IntKind.u64.has s.gR →
 IntKind.i64.has s.gN →
 IntKind.i64.has s.gU →
 IntKind.u64.has s.toR →
 IntKind.i64.has s.toN →
 (decide (s.i < (script.length : Int)) = true →
 (0 ≤ s.i ∧
 s.i < (script.length : Int)) ∧
 (0 ≤ s.i ∧
 s.i < (script.length : Int)) ∧
 ((!nmd  (xR script s.i)  (xN script s.i)) = true →
 ((!nmd  (xR script s.i)  (xN script s.i)) = true →
 (0 ≤ s.i ∧
 s.i < (script.length : Int)) ∧
 (nmd  (xR script s.i)  (xN script s.i) = true →
 false = true) ∧
 (nmd  (xR script s.i)  (xN script s.i) = false →
 ∃ s', inv s' ∧
 script.length - s'.i.toNat < script.length - s.i.toNat ∧
 script = script ∧
 size = size ∧
 IntKind.i64.wrap (s.t + IntKind.i64.wrap ↑(BitVec.ofInt 64  (xT script s.i) &&& BitVec.ofInt 64 15).toNat) = s'.t ∧
 s.til = s'.til ∧
 IntKind.i64.wrap (s.i + 1) = s'.i ∧
 size = size ∧
 s.gR = s'.gR ∧
 s.gN = s'.gN ∧
 s.gU = s'.gU ∧
 s.toR = s'.toR ∧
 s.toN = s'.toN)) ∧
 ((!nmd  (xR script s.i)  (xN script s.i)) = false →
 ((decide ( (xR script s.i) = s.gR) && decide ( (xN script s.i) = s.gN)) = true →
 (0 ≤ s.i ∧
 s.i < (script.length : Int)) ∧
 ((decide ( (xR script s.i) = s.toR) && decide ( (xN script s.i) = s.toN)) = true →
 (0 ≤ s.i ∧
 s.i < (script.length : Int)) ∧
 (decide ((bif true then max s.gU (IntKind.i64.wrap (IntKind.i64.wrap (s.t + IntKind.i64.wrap ↑(BitVec.ofInt 64  (xT script s.i) &&& BitVec.ofInt 64 15).toNat) + size)) else min s.gU (IntKind.i64.wrap (IntKind.i64.wrap (s.t + IntKind.i64.wrap ↑(BitVec.ofInt 64  (xT script s.i) &&& BitVec.ofInt 64 15).toNat) + size))) ≤ IntKind.i64.wrap (s.t + IntKind.i64.wrap ↑(BitVec.ofInt 64  (xT script s.i) &&& BitVec.ofInt 64 15).toNat)) = true →
 (decide ((bif true then max s.gU (IntKind.i64.wrap (IntKind.i64.wrap (s.t + IntKind.i64.wrap ↑(BitVec.ofInt 64  (xT script s.i) &&& BitVec.ofInt 64 15).toNat) + size)) else min s.gU (IntKind.i64.wrap (IntKind.i64.wrap (s.t + IntKind.i64.wrap ↑(BitVec.ofInt 64  (xT script s.i) &&& BitVec.ofInt 64 15).toNat) + size))) ≠ bif true then max (IntKind.i64.wrap (IntKind.i64.wrap (s.t + IntKind.i64.wrap ↑(BitVec.ofInt 64  (xT script s.i) &&& BitVec.ofInt 64 15).toNat) + size)) 0 else min (IntKind.i64.wrap (IntKind.i64.wrap (s.t + IntKind.i64.wrap ↑(BitVec.ofInt 64  (xT script s.i) &&& BitVec.ofInt 64 15).toNat) + size)) 0) = true →
 false = true) ∧
 (decide ((bif true then max s.gU (IntKind.i64.wrap (IntKind.i64.wrap (s.t + IntKind.i64.wrap ↑(BitVec.ofInt 64  (xT script s.i) &&& BitVec.ofInt 64 15).toNat) + size)) else min s.gU (IntKind.i64.wrap (IntKind.i64.wrap (s.t + IntKind.i64.wrap ↑(BitVec.ofInt 64  (xT script s.i) &&& BitVec.ofInt 64 15).toNat) + size))) ≠ bif true then max (IntKind.i64.wrap (IntKind.i64.wrap (s.t + IntKind.i64.wrap ↑(BitVec.ofInt 64  (xT script s.i) &&& BitVec.ofInt 64 15).toNat) + size)) 0 else min (IntKind.i64.wrap (IntKind.i64.wrap (s.t + IntKind.i64.wrap ↑(BitVec.ofInt 64  (xT script s.i) &&& BitVec.ofInt 64 15).toNat) + size)) 0) = false →
 ((!false == decide (IntKind.i64.wrap (s.t + IntKind.i64.wrap ↑(BitVec.ofInt 64  (xT script s.i) &&& BitVec.ofInt 64 15).toNat) < bif true then max (IntKind.i64.wrap (IntKind.i64.wrap (s.t + IntKind.i64.wrap ↑(BitVec.ofInt 64  (xT script s.i) &&& BitVec.ofInt 64 15).toNat) + size)) 0 else min (IntKind.i64.wrap (IntKind.i64.wrap (s.t + IntKind.i64.wrap ↑(BitVec.ofInt 64  (xT script s.i) &&& BitVec.ofInt 64 15).toNat) + size)) 0)) = true →
 false = true) ∧
 ((!false == decide (IntKind.i64.wrap (s.t + IntKind.i64.wrap ↑(BitVec.ofInt 64  (xT script s.i) &&& BitVec.ofInt 64 15).toNat) < bif true then max (IntKind.i64.wrap (IntKind.i64.wrap (s.t + IntKind.i64.wrap ↑(BitVec.ofInt 64  (xT script s.i) &&& BitVec.ofInt 64 15).toNat) + size)) 0 else min (IntKind.i64.wrap (IntKind.i64.wrap (s.t + IntKind.i64.wrap ↑(BitVec.ofInt 64  (xT script s.i) &&& BitVec.ofInt 64 15).toNat) + size)) 0)) = false →
 ∃ s', inv s' ∧
 script.length - s'.i.toNat < script.length - s.i.toNat ∧
 script = script ∧
 size = size ∧
 IntKind.i64.wrap (s.t + IntKind.i64.wrap ↑(BitVec.ofInt 64  (xT script s.i) &&& BitVec.ofInt 64 15).toNat) = s'.t ∧
 (bif true then max (IntKind.i64.wrap (IntKind.i64.wrap (s.t + IntKind.i64.wrap ↑(BitVec.ofInt 64  (xT script s.i) &&& BitVec.ofInt 64 15).toNat) + size)) 0 else min (IntKind.i64.wrap (IntKind.i64.wrap (s.t + IntKind.i64.wrap ↑(BitVec.ofInt 64  (xT script s.i) &&& BitVec.ofInt 64 15).toNat) + size)) 0) = s'.til ∧
 IntKind.i64.wrap (s.i + 1) = s'.i ∧
 size = size ∧
 s.gR = s'.gR ∧
 s.gN = s'.gN ∧
 (bif true then max s.gU (IntKind.i64.wrap (IntKind.i64.wrap (s.t + IntKind.i64.wrap ↑(BitVec.ofInt 64  (xT script s.i) &&& BitVec.ofInt 64 15).toNat) + size)) else min s.gU (IntKind.i64.wrap (IntKind.i64.wrap (s.t + IntKind.i64.wrap ↑(BitVec.ofInt 64  (xT script s.i) &&& BitVec.ofInt 64 15).toNat) + size))) = s'.gU ∧
  (xR script s.i) = s'.toR ∧
  (xN script s.i) = s'.toN))) ∧
 (decide ((bif true then max s.gU (IntKind.i64.wrap (IntKind.i64.wrap (s.t + IntKind.i64.wrap ↑(BitVec.ofInt 64  (xT script s.i) &&& BitVec.ofInt 64 15).toNat) + size)) else min s.gU (IntKind.i64.wrap (IntKind.i64.wrap (s.t + IntKind.i64.wrap ↑(BitVec.ofInt 64  (xT script s.i) &&& BitVec.ofInt 64 15).toNat) + size))) ≤ IntKind.i64.wrap (s.t + IntKind.i64.wrap ↑(BitVec.ofInt 64  (xT script s.i) &&& BitVec.ofInt 64 15).toNat)) = false →
 (decide ((bif true then max s.gU (IntKind.i64.wrap (IntKind.i64.wrap (s.t + IntKind.i64.wrap ↑(BitVec.ofInt 64  (xT script s.i) &&& BitVec.ofInt 64 15).toNat) + size)) else min s.gU (IntKind.i64.wrap (IntKind.i64.wrap (s.t + IntKind.i64.wrap ↑(BitVec.ofInt 64  (xT script s.i) &&& BitVec.ofInt 64 15).toNat) + size))) ≠ bif true then max (IntKind.i64.wrap (IntKind.i64.wrap (s.t + IntKind.i64.wrap ↑(BitVec.ofInt 64  (xT script s.i) &&& BitVec.ofInt 64 15).toNat) + size)) 0 else min (IntKind.i64.wrap (IntKind.i64.wrap (s.t + IntKind.i64.wrap ↑(BitVec.ofInt 64  (xT script s.i) &&& BitVec.ofInt 64 15).toNat) + size)) 0) = true →
 false = true) ∧
 (decide ((bif true then max s.gU (IntKind.i64.wrap (IntKind.i64.wrap (s.t + IntKind.i64.wrap ↑(BitVec.ofInt 64  (xT script s.i) &&& BitVec.ofInt 64 15).toNat) + size)) else min s.gU (IntKind.i64.wrap (IntKind.i64.wrap (s.t + IntKind.i64.wrap ↑(BitVec.ofInt 64  (xT script s.i) &&& BitVec.ofInt 64 15).toNat) + size))) ≠ bif true then max (IntKind.i64.wrap (IntKind.i64.wrap (s.t + IntKind.i64.wrap ↑(BitVec.ofInt 64  (xT script s.i) &&& BitVec.ofInt 64 15).toNat) + size)) 0 else min (IntKind.i64.wrap (IntKind.i64.wrap (s.t + IntKind.i64.wrap ↑(BitVec.ofInt 64  (xT script s.i) &&& BitVec.ofInt 64 15).toNat) + size)) 0) = false →
 ((!true == decide (IntKind.i64.wrap (s.t + IntKind.i64.wrap ↑(BitVec.ofInt 64  (xT script s.i) &&& BitVec.ofInt 64 15).toNat) < bif true then max (IntKind.i64.wrap (IntKind.i64.wrap (s.t + IntKind.i64.wrap ↑(BitVec.ofInt 64  (xT script s.i) &&& BitVec.ofInt 64 15).toNat) + size)) 0 else min (IntKind.i64.wrap (IntKind.i64.wrap (s.t + IntKind.i64.wrap ↑(BitVec.ofInt 64  (xT script s.i) &&& BitVec.ofInt 64 15).toNat) + size)) 0)) = true →
 false = true) ∧
 ((!true == decide (IntKind.i64.wrap (s.t + IntKind.i64.wrap ↑(BitVec.ofInt 64  (xT script s.i) &&& BitVec.ofInt 64 15).toNat) < bif true then max (IntKind.i64.wrap (IntKind.i64.wrap (s.t + IntKind.i64.wrap ↑(BitVec.ofInt 64  (xT script s.i) &&& BitVec.ofInt 64 15).toNat) + size)) 0 else min (IntKind.i64.wrap (IntKind.i64.wrap (s.t + IntKind.i64.wrap ↑(BitVec.ofInt 64  (xT script s.i) &&& BitVec.ofInt 64 15).toNat) + size)) 0)) = false →
 ((!(decide (s.gR =  (xR script s.i)) && decide (s.gN =  (xN script s.i)))) = true →
 false = true) ∧
 ((!(decide (s.gR =  (xR script s.i)) && decide (s.gN =  (xN script s.i)))) = false →
 ∃ s', inv s' ∧
 script.length - s'.i.toNat < script.length - s.i.toNat ∧
 script = script ∧
 size = size ∧
 IntKind.i64.wrap (s.t + IntKind.i64.wrap ↑(BitVec.ofInt 64  (xT script s.i) &&& BitVec.ofInt 64 15).toNat) = s'.t ∧
 (bif true then max (IntKind.i64.wrap (IntKind.i64.wrap (s.t + IntKind.i64.wrap ↑(BitVec.ofInt 64  (xT script s.i) &&& BitVec.ofInt 64 15).toNat) + size)) 0 else min (IntKind.i64.wrap (IntKind.i64.wrap (s.t + IntKind.i64.wrap ↑(BitVec.ofInt 64  (xT script s.i) &&& BitVec.ofInt 64 15).toNat) + size)) 0) = s'.til ∧
 IntKind.i64.wrap (s.i + 1) = s'.i ∧
 size = size ∧
 s.gR = s'.gR ∧
 s.gN = s'.gN ∧
 (bif true then max s.gU (IntKind.i64.wrap (IntKind.i64.wrap (s.t + IntKind.i64.wrap ↑(BitVec.ofInt 64  (xT script s.i) &&& BitVec.ofInt 64 15).toNat) + size)) else min s.gU (IntKind.i64.wrap (IntKind.i64.wrap (s.t + IntKind.i64.wrap ↑(BitVec.ofInt 64  (xT script s.i) &&& BitVec.ofInt 64 15).toNat) + size))) = s'.gU ∧
  (xR script s.i) = s'.toR ∧
  (xN script s.i) = s'.toN))))) ∧
 ((decide ( (xR script s.i) = s.toR) && decide ( (xN script s.i) = s.toN)) = false →
 ((!true == decide (s.til ≤ IntKind.i64.wrap (s.t + IntKind.i64.wrap ↑(BitVec.ofInt 64  (xT script s.i) &&& BitVec.ofInt 64 15).toNat))) = true →
 false = true) ∧
 ((!true == decide (s.til ≤ IntKind.i64.wrap (s.t + IntKind.i64.wrap ↑(BitVec.ofInt 64  (xT script s.i) &&& BitVec.ofInt 64 15).toNat))) = false →
 (0 ≤ s.i ∧
 s.i < (script.length : Int)) ∧
 (decide ((bif true then max s.gU (IntKind.i64.wrap (IntKind.i64.wrap (s.t + IntKind.i64.wrap ↑(BitVec.ofInt 64  (xT script s.i) &&& BitVec.ofInt 64 15).toNat) + size)) else min s.gU (IntKind.i64.wrap (IntKind.i64.wrap (s.t + IntKind.i64.wrap ↑(BitVec.ofInt 64  (xT script s.i) &&& BitVec.ofInt 64 15).toNat) + size))) ≤ IntKind.i64.wrap (s.t + IntKind.i64.wrap ↑(BitVec.ofInt 64  (xT script s.i) &&& BitVec.ofInt 64 15).toNat)) = true →
 (decide ((bif true then max s.gU (IntKind.i64.wrap (IntKind.i64.wrap (s.t + IntKind.i64.wrap ↑(BitVec.ofInt 64  (xT script s.i) &&& BitVec.ofInt 64 15).toNat) + size)) else min s.gU (IntKind.i64.wrap (IntKind.i64.wrap (s.t + IntKind.i64.wrap ↑(BitVec.ofInt 64  (xT script s.i) &&& BitVec.ofInt 64 15).toNat) + size))) ≠ bif true then max (IntKind.i64.wrap (IntKind.i64.wrap (s.t + IntKind.i64.wrap ↑(BitVec.ofInt 64  (xT script s.i) &&& BitVec.ofInt 64 15).toNat) + size)) 0 else min (IntKind.i64.wrap (IntKind.i64.wrap (s.t + IntKind.i64.wrap ↑(BitVec.ofInt 64  (xT script s.i) &&& BitVec.ofInt 64 15).toNat) + size)) 0) = true →
 false = true) ∧
 (decide ((bif true then max s.gU (IntKind.i64.wrap (IntKind.i64.wrap (s.t + IntKind.i64.wrap ↑(BitVec.ofInt 64  (xT script s.i) &&& BitVec.ofInt 64 15).toNat) + size)) else min s.gU (IntKind.i64.wrap (IntKind.i64.wrap (s.t + IntKind.i64.wrap ↑(BitVec.ofInt 64  (xT script s.i) &&& BitVec.ofInt 64 15).toNat) + size))) ≠ bif true then max (IntKind.i64.wrap (IntKind.i64.wrap (s.t + IntKind.i64.wrap ↑(BitVec.ofInt 64  (xT script s.i) &&& BitVec.ofInt 64 15).toNat) + size)) 0 else min (IntKind.i64.wrap (IntKind.i64.wrap (s.t + IntKind.i64.wrap ↑(BitVec.ofInt 64  (xT script s.i) &&& BitVec.ofInt 64 15).toNat) + size)) 0) = false →
 ((!false == decide (IntKind.i64.wrap (s.t + IntKind.i64.wrap ↑(BitVec.ofInt 64  (xT script s.i) &&& BitVec.ofInt 64 15).toNat) < bif true then max (IntKind.i64.wrap (IntKind.i64.wrap (s.t + IntKind.i64.wrap ↑(BitVec.ofInt 64  (xT script s.i) &&& BitVec.ofInt 64 15).toNat) + size)) 0 else min (IntKind.i64.wrap (IntKind.i64.wrap (s.t + IntKind.i64.wrap ↑(BitVec.ofInt 64  (xT script s.i) &&& BitVec.ofInt 64 15).toNat) + size)) 0)) = true →
 false = true) ∧
 ((!false == decide (IntKind.i64.wrap (s.t + IntKind.i64.wrap ↑(BitVec.ofInt 64  (xT script s.i) &&& BitVec.ofInt 64 15).toNat) < bif true then max (IntKind.i64.wrap (IntKind.i64.wrap (s.t + IntKind.i64.wrap ↑(BitVec.ofInt 64  (xT script s.i) &&& BitVec.ofInt 64 15).toNat) + size)) 0 else min (IntKind.i64.wrap (IntKind.i64.wrap (s.t + IntKind.i64.wrap ↑(BitVec.ofInt 64  (xT script s.i) &&& BitVec.ofInt 64 15).toNat) + size)) 0)) = false →
 ∃ s', inv s' ∧
 script.length - s'.i.toNat < script.length - s.i.toNat ∧
 script = script ∧
 size = size ∧
 IntKind.i64.wrap (s.t + IntKind.i64.wrap ↑(BitVec.ofInt 64  (xT script s.i) &&& BitVec.ofInt 64 15).toNat) = s'.t ∧
 (bif true then max (IntKind.i64.wrap (IntKind.i64.wrap (s.t + IntKind.i64.wrap ↑(BitVec.ofInt 64  (xT script s.i) &&& BitVec.ofInt 64 15).toNat) + size)) 0 else min (IntKind.i64.wrap (IntKind.i64.wrap (s.t + IntKind.i64.wrap ↑(BitVec.ofInt 64  (xT script s.i) &&& BitVec.ofInt 64 15).toNat) + size)) 0) = s'.til ∧
 IntKind.i64.wrap (s.i + 1) = s'.i ∧
 size = size ∧
 s.gR = s'.gR ∧
 s.gN = s'.gN ∧
 (bif true then max s.gU (IntKind.i64.wrap (IntKind.i64.wrap (s.t + IntKind.i64.wrap ↑(BitVec.ofInt 64  (xT script s.i) &&& BitVec.ofInt 64 15).toNat) + size)) else min s.gU (IntKind.i64.wrap (IntKind.i64.wrap (s.t + IntKind.i64.wrap ↑(BitVec.ofInt 64  (xT script s.i) &&& BitVec.ofInt 64 15).toNat) + size))) = s'.gU ∧
  (xR script s.i) = s'.toR ∧
  (xN script s.i) = s'.toN))) ∧
 (decide ((bif true then max s.gU (IntKind.i64.wrap (IntKind.i64.wrap (s.t + IntKind.i64.wrap ↑(BitVec.ofInt 64  (xT script s.i) &&& BitVec.ofInt 64 15).toNat) + size)) else min s.gU (IntKind.i64.wrap (IntKind.i64.wrap (s.t + IntKind.i64.wrap ↑(BitVec.ofInt 64  (xT script s.i) &&& BitVec.ofInt 64 15).toNat) + size))) ≤ IntKind.i64.wrap (s.t + IntKind.i64.wrap ↑(BitVec.ofInt 64  (xT script s.i) &&& BitVec.ofInt 64 15).toNat)) = false →
 (decide ((bif true then max s.gU (IntKind.i64.wrap (IntKind.i64.wrap (s.t + IntKind.i64.wrap ↑(BitVec.ofInt 64  (xT script s.i) &&& BitVec.ofInt 64 15).toNat) + size)) else min s.gU (IntKind.i64.wrap (IntKind.i64.wrap (s.t + IntKind.i64.wrap ↑(BitVec.ofInt 64  (xT script s.i) &&& BitVec.ofInt 64 15).toNat) + size))) ≠ bif true then max (IntKind.i64.wrap (IntKind.i64.wrap (s.t + IntKind.i64.wrap ↑(BitVec.ofInt 64  (xT script s.i) &&& BitVec.ofInt 64 15).toNat) + size)) 0 else min (IntKind.i64.wrap (IntKind.i64.wrap (s.t + IntKind.i64.wrap ↑(BitVec.ofInt 64  (xT script s.i) &&& BitVec.ofInt 64 15).toNat) + size)) 0) = true →
 false = true) ∧
 (decide ((bif true then max s.gU (IntKind.i64.wrap (IntKind.i64.wrap (s.t + IntKind.i64.wrap ↑(BitVec.ofInt 64  (xT script s.i) &&& BitVec.ofInt 64 15).toNat) + size)) else min s.gU (IntKind.i64.wrap (IntKind.i64.wrap (s.t + IntKind.i64.wrap ↑(BitVec.ofInt 64  (xT script s.i) &&& BitVec.ofInt 64 15).toNat) + size))) ≠ bif true then max (IntKind.i64.wrap (IntKind.i64.wrap (s.t + IntKind.i64.wrap ↑(BitVec.ofInt 64  (xT script s.i) &&& BitVec.ofInt 64 15).toNat) + size)) 0 else min (IntKind.i64.wrap (IntKind.i64.wrap (s.t + IntKind.i64.wrap ↑(BitVec.ofInt 64  (xT script s.i) &&& BitVec.ofInt 64 15).toNat) + size)) 0) = false →
 ((!true == decide (IntKind.i64.wrap (s.t + IntKind.i64.wrap ↑(BitVec.ofInt 64  (xT script s.i) &&& BitVec.ofInt 64 15).toNat) < bif true then max (IntKind.i64.wrap (IntKind.i64.wrap (s.t + IntKind.i64.wrap ↑(BitVec.ofInt 64  (xT script s.i) &&& BitVec.ofInt 64 15).toNat) + size)) 0 else min (IntKind.i64.wrap (IntKind.i64.wrap (s.t + IntKind.i64.wrap ↑(BitVec.ofInt 64  (xT script s.i) &&& BitVec.ofInt 64 15).toNat) + size)) 0)) = true →
 false = true) ∧
 ((!true == decide (IntKind.i64.wrap (s.t + IntKind.i64.wrap ↑(BitVec.ofInt 64  (xT script s.i) &&& BitVec.ofInt 64 15).toNat) < bif true then max (IntKind.i64.wrap (IntKind.i64.wrap (s.t + IntKind.i64.wrap ↑(BitVec.ofInt 64  (xT script s.i) &&& BitVec.ofInt 64 15).toNat) + size)) 0 else min (IntKind.i64.wrap (IntKind.i64.wrap (s.t + IntKind.i64.wrap ↑(BitVec.ofInt 64  (xT script s.i) &&& BitVec.ofInt 64 15).toNat) + size)) 0)) = false →
 ((!(decide (s.gR =  (xR script s.i)) && decide (s.gN =  (xN script s.i)))) = true →
 false = true) ∧
 ((!(decide (s.gR =  (xR script s.i)) && decide (s.gN =  (xN script s.i)))) = false →
 ∃ s', inv s' ∧
 script.length - s'.i.toNat < script.length - s.i.toNat ∧
 script = script ∧
 size = size ∧
 IntKind.i64.wrap (s.t + IntKind.i64.wrap ↑(BitVec.ofInt 64  (xT script s.i) &&& BitVec.ofInt 64 15).toNat) = s'.t ∧
 (bif true then max (IntKind.i64.wrap (IntKind.i64.wrap (s.t + IntKind.i64.wrap ↑(BitVec.ofInt 64  (xT script s.i) &&& BitVec.ofInt 64 15).toNat) + size)) 0 else min (IntKind.i64.wrap (IntKind.i64.wrap (s.t + IntKind.i64.wrap ↑(BitVec.ofInt 64  (xT script s.i) &&& BitVec.ofInt 64 15).toNat) + size)) 0) = s'.til ∧
 IntKind.i64.wrap (s.i + 1) = s'.i ∧
 size = size ∧
 s.gR = s'.gR ∧
 s.gN = s'.gN ∧
 (bif true then max s.gU (IntKind.i64.wrap (IntKind.i64.wrap (s.t + IntKind.i64.wrap ↑(BitVec.ofInt 64  (xT script s.i) &&& BitVec.ofInt 64 15).toNat) + size)) else min s.gU (IntKind.i64.wrap (IntKind.i64.wrap (s.t + IntKind.i64.wrap ↑(BitVec.ofInt 64  (xT script s.i) &&& BitVec.ofInt 64 15).toNat) + size))) = s'.gU ∧
  (xR script s.i) = s'.toR ∧
  (xN script s.i) = s'.toN))))))) ∧
 ((decide ( (xR script s.i) = s.gR) && decide ( (xN script s.i) = s.gN)) = false →
 ((!decide (s.gU ≤ IntKind.i64.wrap (s.t + IntKind.i64.wrap ↑(BitVec.ofInt 64  (xT script s.i) &&& BitVec.ofInt 64 15).toNat))) = true →
 (0 ≤ s.i ∧
 s.i < (script.length : Int)) ∧
 ((decide ( (xR script s.i) = s.toR) && decide ( (xN script s.i) = s.toN)) = true →
 false = true) ∧
 ((decide ( (xR script s.i) = s.toR) && decide ( (xN script s.i) = s.toN)) = false →
 ((!false == decide (s.til ≤ IntKind.i64.wrap (s.t + IntKind.i64.wrap ↑(BitVec.ofInt 64  (xT script s.i) &&& BitVec.ofInt 64 15).toNat))) = true →
 false = true) ∧
 ((!false == decide (s.til ≤ IntKind.i64.wrap (s.t + IntKind.i64.wrap ↑(BitVec.ofInt 64  (xT script s.i) &&& BitVec.ofInt 64 15).toNat))) = false →
 (decide (s.gU ≤ IntKind.i64.wrap (s.t + IntKind.i64.wrap ↑(BitVec.ofInt 64  (xT script s.i) &&& BitVec.ofInt 64 15).toNat)) = true →
 (decide (s.gU ≠ s.til) = true →
 false = true) ∧
 (decide (s.gU ≠ s.til) = false →
 ((!false == decide (IntKind.i64.wrap (s.t + IntKind.i64.wrap ↑(BitVec.ofInt 64  (xT script s.i) &&& BitVec.ofInt 64 15).toNat) < s.til)) = true →
 false = true) ∧
 ((!false == decide (IntKind.i64.wrap (s.t + IntKind.i64.wrap ↑(BitVec.ofInt 64  (xT script s.i) &&& BitVec.ofInt 64 15).toNat) < s.til)) = false →
 ∃ s', inv s' ∧
 script.length - s'.i.toNat < script.length - s.i.toNat ∧
 script = script ∧
 size = size ∧
 IntKind.i64.wrap (s.t + IntKind.i64.wrap ↑(BitVec.ofInt 64  (xT script s.i) &&& BitVec.ofInt 64 15).toNat) = s'.t ∧
 s.til = s'.til ∧
 IntKind.i64.wrap (s.i + 1) = s'.i ∧
 size = size ∧
 s.gR = s'.gR ∧
 s.gN = s'.gN ∧
 s.gU = s'.gU ∧
 s.toR = s'.toR ∧
 s.toN = s'.toN))) ∧
 (decide (s.gU ≤ IntKind.i64.wrap (s.t + IntKind.i64.wrap ↑(BitVec.ofInt 64  (xT script s.i) &&& BitVec.ofInt 64 15).toNat)) = false →
 (decide (s.gU ≠ s.til) = true →
 false = true) ∧
 (decide (s.gU ≠ s.til) = false →
 ((!true == decide (IntKind.i64.wrap (s.t + IntKind.i64.wrap ↑(BitVec.ofInt 64  (xT script s.i) &&& BitVec.ofInt 64 15).toNat) < s.til)) = true →
 false = true) ∧
 ((!true == decide (IntKind.i64.wrap (s.t + IntKind.i64.wrap ↑(BitVec.ofInt 64  (xT script s.i) &&& BitVec.ofInt 64 15).toNat) < s.til)) = false →
 ((!(decide (s.gR = s.toR) && decide (s.gN = s.toN))) = true →
 false = true) ∧
 ((!(decide (s.gR = s.toR) && decide (s.gN = s.toN))) = false →
 ∃ s', inv s' ∧
 script.length - s'.i.toNat < script.length - s.i.toNat ∧
 script = script ∧
 size = size ∧
 IntKind.i64.wrap (s.t + IntKind.i64.wrap ↑(BitVec.ofInt 64  (xT script s.i) &&& BitVec.ofInt 64 15).toNat) = s'.t ∧
 s.til = s'.til ∧
 IntKind.i64.wrap (s.i + 1) = s'.i ∧
 size = size ∧
 s.gR = s'.gR ∧
 s.gN = s'.gN ∧
 s.gU = s'.gU ∧
 s.toR = s'.toR ∧
 s.toN = s'.toN))))))) ∧
 ((!decide (s.gU ≤ IntKind.i64.wrap (s.t + IntKind.i64.wrap ↑(BitVec.ofInt 64  (xT script s.i) &&& BitVec.ofInt 64 15).toNat))) = false →
 IntKind.i64.wrap (s.t + IntKind.i64.wrap ↑(BitVec.ofInt 64  (xT script s.i) &&& BitVec.ofInt 64 15).toNat) = IntKind.i64.wrap (s.t + IntKind.i64.wrap ↑(BitVec.ofInt 64  (xT script s.i) &&& BitVec.ofInt 64 15).toNat) ∧
 IntKind.i64.wrap (IntKind.i64.wrap (s.t + IntKind.i64.wrap ↑(BitVec.ofInt 64  (xT script s.i) &&& BitVec.ofInt 64 15).toNat) + size) = IntKind.i64.wrap (IntKind.i64.wrap (s.t + IntKind.i64.wrap ↑(BitVec.ofInt 64  (xT script s.i) &&& BitVec.ofInt 64 15).toNat) + size) ∧
 (0 ≤ s.i ∧
 s.i < (script.length : Int)) ∧
 ((decide ( (xR script s.i) = s.toR) && decide ( (xN script s.i) = s.toN)) = true →
 (0 ≤ s.i ∧
 s.i < (script.length : Int)) ∧
 (decide (IntKind.i64.wrap (IntKind.i64.wrap (s.t + IntKind.i64.wrap ↑(BitVec.ofInt 64  (xT script s.i) &&& BitVec.ofInt 64 15).toNat) + size) ≤ IntKind.i64.wrap (s.t + IntKind.i64.wrap ↑(BitVec.ofInt 64  (xT script s.i) &&& BitVec.ofInt 64 15).toNat)) = true →
 (decide (IntKind.i64.wrap (IntKind.i64.wrap (s.t + IntKind.i64.wrap ↑(BitVec.ofInt 64  (xT script s.i) &&& BitVec.ofInt 64 15).toNat) + size) ≠ bif true then max (IntKind.i64.wrap (IntKind.i64.wrap (s.t + IntKind.i64.wrap ↑(BitVec.ofInt 64  (xT script s.i) &&& BitVec.ofInt 64 15).toNat) + size)) 0 else min (IntKind.i64.wrap (IntKind.i64.wrap (s.t + IntKind.i64.wrap ↑(BitVec.ofInt 64  (xT script s.i) &&& BitVec.ofInt 64 15).toNat) + size)) 0) = true →
 false = true) ∧
 (decide (IntKind.i64.wrap (IntKind.i64.wrap (s.t + IntKind.i64.wrap ↑(BitVec.ofInt 64  (xT script s.i) &&& BitVec.ofInt 64 15).toNat) + size) ≠ bif true then max (IntKind.i64.wrap (IntKind.i64.wrap (s.t + IntKind.i64.wrap ↑(BitVec.ofInt 64  (xT script s.i) &&& BitVec.ofInt 64 15).toNat) + size)) 0 else min (IntKind.i64.wrap (IntKind.i64.wrap (s.t + IntKind.i64.wrap ↑(BitVec.ofInt 64  (xT script s.i) &&& BitVec.ofInt 64 15).toNat) + size)) 0) = false →
 ((!false == decide (IntKind.i64.wrap (s.t + IntKind.i64.wrap ↑(BitVec.ofInt 64  (xT script s.i) &&& BitVec.ofInt 64 15).toNat) < bif true then max (IntKind.i64.wrap (IntKind.i64.wrap (s.t + IntKind.i64.wrap ↑(BitVec.ofInt 64  (xT script s.i) &&& BitVec.ofInt 64 15).toNat) + size)) 0 else min (IntKind.i64.wrap (IntKind.i64.wrap (s.t + IntKind.i64.wrap ↑(BitVec.ofInt 64  (xT script s.i) &&& BitVec.ofInt 64 15).toNat) + size)) 0)) = true →
 false = true) ∧
 ((!false == decide (IntKind.i64.wrap (s.t + IntKind.i64.wrap ↑(BitVec.ofInt 64  (xT script s.i) &&& BitVec.ofInt 64 15).toNat) < bif true then max (IntKind.i64.wrap (IntKind.i64.wrap (s.t + IntKind.i64.wrap ↑(BitVec.ofInt 64  (xT script s.i) &&& BitVec.ofInt 64 15).toNat) + size)) 0 else min (IntKind.i64.wrap (IntKind.i64.wrap (s.t + IntKind.i64.wrap ↑(BitVec.ofInt 64  (xT script s.i) &&& BitVec.ofInt 64 15).toNat) + size)) 0)) = false →
 ∃ s', inv s' ∧
 script.length - s'.i.toNat < script.length - s.i.toNat ∧
 script = script ∧
 size = size ∧
 IntKind.i64.wrap (s.t + IntKind.i64.wrap ↑(BitVec.ofInt 64  (xT script s.i) &&& BitVec.ofInt 64 15).toNat) = s'.t ∧
 (bif true then max (IntKind.i64.wrap (IntKind.i64.wrap (s.t + IntKind.i64.wrap ↑(BitVec.ofInt 64  (xT script s.i) &&& BitVec.ofInt 64 15).toNat) + size)) 0 else min (IntKind.i64.wrap (IntKind.i64.wrap (s.t + IntKind.i64.wrap ↑(BitVec.ofInt 64  (xT script s.i) &&& BitVec.ofInt 64 15).toNat) + size)) 0) = s'.til ∧
 IntKind.i64.wrap (s.i + 1) = s'.i ∧
 size = size ∧
  (xR script s.i) = s'.gR ∧
  (xN script s.i) = s'.gN ∧
 IntKind.i64.wrap (IntKind.i64.wrap (s.t + IntKind.i64.wrap ↑(BitVec.ofInt 64  (xT script s.i) &&& BitVec.ofInt 64 15).toNat) + size) = s'.gU ∧
  (xR script s.i) = s'.toR ∧
  (xN script s.i) = s'.toN))) ∧
 (decide (IntKind.i64.wrap (IntKind.i64.wrap (s.t + IntKind.i64.wrap ↑(BitVec.ofInt 64  (xT script s.i) &&& BitVec.ofInt 64 15).toNat) + size) ≤ IntKind.i64.wrap (s.t + IntKind.i64.wrap ↑(BitVec.ofInt 64  (xT script s.i) &&& BitVec.ofInt 64 15).toNat)) = false →
 (decide (IntKind.i64.wrap (IntKind.i64.wrap (s.t + IntKind.i64.wrap ↑(BitVec.ofInt 64  (xT script s.i) &&& BitVec.ofInt 64 15).toNat) + size) ≠ bif true then max (IntKind.i64.wrap (IntKind.i64.wrap (s.t + IntKind.i64.wrap ↑(BitVec.ofInt 64  (xT script s.i) &&& BitVec.ofInt 64 15).toNat) + size)) 0 else min (IntKind.i64.wrap (IntKind.i64.wrap (s.t + IntKind.i64.wrap ↑(BitVec.ofInt 64  (xT script s.i) &&& BitVec.ofInt 64 15).toNat) + size)) 0) = true →
 false = true) ∧
 (decide (IntKind.i64.wrap (IntKind.i64.wrap (s.t + IntKind.i64.wrap ↑(BitVec.ofInt 64  (xT script s.i) &&& BitVec.ofInt 64 15).toNat) + size) ≠ bif true then max (IntKind.i64.wrap (IntKind.i64.wrap (s.t + IntKind.i64.wrap ↑(BitVec.ofInt 64  (xT script s.i) &&& BitVec.ofInt 64 15).toNat) + size)) 0 else min (IntKind.i64.wrap (IntKind.i64.wrap (s.t + IntKind.i64.wrap ↑(BitVec.ofInt 64  (xT script s.i) &&& BitVec.ofInt 64 15).toNat) + size)) 0) = false →
 ((!true == decide (IntKind.i64.wrap (s.t + IntKind.i64.wrap ↑(BitVec.ofInt 64  (xT script s.i) &&& BitVec.ofInt 64 15).toNat) < bif true then max (IntKind.i64.wrap (IntKind.i64.wrap (s.t + IntKind.i64.wrap ↑(BitVec.ofInt 64  (xT script s.i) &&& BitVec.ofInt 64 15).toNat) + size)) 0 else min (IntKind.i64.wrap (IntKind.i64.wrap (s.t + IntKind.i64.wrap ↑(BitVec.ofInt 64  (xT script s.i) &&& BitVec.ofInt 64 15).toNat) + size)) 0)) = true →
 false = true) ∧
 ((!true == decide (IntKind.i64.wrap (s.t + IntKind.i64.wrap ↑(BitVec.ofInt 64  (xT script s.i) &&& BitVec.ofInt 64 15).toNat) < bif true then max (IntKind.i64.wrap (IntKind.i64.wrap (s.t + IntKind.i64.wrap ↑(BitVec.ofInt 64  (xT script s.i) &&& BitVec.ofInt 64 15).toNat) + size)) 0 else min (IntKind.i64.wrap (IntKind.i64.wrap (s.t + IntKind.i64.wrap ↑(BitVec.ofInt 64  (xT script s.i) &&& BitVec.ofInt 64 15).toNat) + size)) 0)) = false →
 ((!(decide ( (xR script s.i) =  (xR script s.i)) && decide ( (xN script s.i) =  (xN script s.i)))) = true →
 false = true) ∧
 ((!(decide ( (xR script s.i) =  (xR script s.i)) && decide ( (xN script s.i) =  (xN script s.i)))) = false →
 ∃ s', inv s' ∧
 script.length - s'.i.toNat < script.length - s.i.toNat ∧
 script = script ∧
 size = size ∧
 IntKind.i64.wrap (s.t + IntKind.i64.wrap ↑(BitVec.ofInt 64  (xT script s.i) &&& BitVec.ofInt 64 15).toNat) = s'.t ∧
 (bif true then max (IntKind.i64.wrap (IntKind.i64.wrap (s.t + IntKind.i64.wrap ↑(BitVec.ofInt 64  (xT script s.i) &&& BitVec.ofInt 64 15).toNat) + size)) 0 else min (IntKind.i64.wrap (IntKind.i64.wrap (s.t + IntKind.i64.wrap ↑(BitVec.ofInt 64  (xT script s.i) &&& BitVec.ofInt 64 15).toNat) + size)) 0) = s'.til ∧
 IntKind.i64.wrap (s.i + 1) = s'.i ∧
 size = size ∧
  (xR script s.i) = s'.gR ∧
  (xN script s.i) = s'.gN ∧
 IntKind.i64.wrap (IntKind.i64.wrap (s.t + IntKind.i64.wrap ↑(BitVec.ofInt 64  (xT script s.i) &&& BitVec.ofInt 64 15).toNat) + size) = s'.gU ∧
  (xR script s.i) = s'.toR ∧
  (xN script s.i) = s'.toN))))) ∧
 ((decide ( (xR script s.i) = s.toR) && decide ( (xN script s.i) = s.toN)) = false →
 ((!true == decide (s.til ≤ IntKind.i64.wrap (s.t + IntKind.i64.wrap ↑(BitVec.ofInt 64  (xT script s.i) &&& BitVec.ofInt 64 15).toNat))) = true →
 false = true) ∧
 ((!true == decide (s.til ≤ IntKind.i64.wrap (s.t + IntKind.i64.wrap ↑(BitVec.ofInt 64  (xT script s.i) &&& BitVec.ofInt 64 15).toNat))) = false →
 (0 ≤ s.i ∧
 s.i < (script.length : Int)) ∧
 (decide (IntKind.i64.wrap (IntKind.i64.wrap (s.t + IntKind.i64.wrap ↑(BitVec.ofInt 64  (xT script s.i) &&& BitVec.ofInt 64 15).toNat) + size) ≤ IntKind.i64.wrap (s.t + IntKind.i64.wrap ↑(BitVec.ofInt 64  (xT script s.i) &&& BitVec.ofInt 64 15).toNat)) = true →
 (decide (IntKind.i64.wrap (IntKind.i64.wrap (s.t + IntKind.i64.wrap ↑(BitVec.ofInt 64  (xT script s.i) &&& BitVec.ofInt 64 15).toNat) + size) ≠ bif true then max (IntKind.i64.wrap (IntKind.i64.wrap (s.t + IntKind.i64.wrap ↑(BitVec.ofInt 64  (xT script s.i) &&& BitVec.ofInt 64 15).toNat) + size)) 0 else min (IntKind.i64.wrap (IntKind.i64.wrap (s.t + IntKind.i64.wrap ↑(BitVec.ofInt 64  (xT script s.i) &&& BitVec.ofInt 64 15).toNat) + size)) 0) = true →
 false = true) ∧
 (decide (IntKind.i64.wrap (IntKind.i64.wrap (s.t + IntKind.i64.wrap ↑(BitVec.ofInt 64  (xT script s.i) &&& BitVec.ofInt 64 15).toNat) + size) ≠ bif true then max (IntKind.i64.wrap (IntKind.i64.wrap (s.t + IntKind.i64.wrap ↑(BitVec.ofInt 64  (xT script s.i) &&& BitVec.ofInt 64 15).toNat) + size)) 0 else min (IntKind.i64.wrap (IntKind.i64.wrap (s.t + IntKind.i64.wrap ↑(BitVec.ofInt 64  (xT script s.i) &&& BitVec.ofInt 64 15).toNat) + size)) 0) = false →
 ((!false == decide (IntKind.i64.wrap (s.t + IntKind.i64.wrap ↑(BitVec.ofInt 64  (xT script s.i) &&& BitVec.ofInt 64 15).toNat) < bif true then max (IntKind.i64.wrap (IntKind.i64.wrap (s.t + IntKind.i64.wrap ↑(BitVec.ofInt 64  (xT script s.i) &&& BitVec.ofInt 64 15).toNat) + size)) 0 else min (IntKind.i64.wrap (IntKind.i64.wrap (s.t + IntKind.i64.wrap ↑(BitVec.ofInt 64  (xT script s.i) &&& BitVec.ofInt 64 15).toNat) + size)) 0)) = true →
 false = true) ∧
 ((!false == decide (IntKind.i64.wrap (s.t + IntKind.i64.wrap ↑(BitVec.ofInt 64  (xT script s.i) &&& BitVec.ofInt 64 15).toNat) < bif true then max (IntKind.i64.wrap (IntKind.i64.wrap (s.t + IntKind.i64.wrap ↑(BitVec.ofInt 64  (xT script s.i) &&& BitVec.ofInt 64 15).toNat) + size)) 0 else min (IntKind.i64.wrap (IntKind.i64.wrap (s.t + IntKind.i64.wrap ↑(BitVec.ofInt 64  (xT script s.i) &&& BitVec.ofInt 64 15).toNat) + size)) 0)) = false →
 ∃ s', inv s' ∧
 script.length - s'.i.toNat < script.length - s.i.toNat ∧
 script = script ∧
 size = size ∧
 IntKind.i64.wrap (s.t + IntKind.i64.wrap ↑(BitVec.ofInt 64  (xT script s.i) &&& BitVec.ofInt 64 15).toNat) = s'.t ∧
 (bif true then max (IntKind.i64.wrap (IntKind.i64.wrap (s.t + IntKind.i64.wrap ↑(BitVec.ofInt 64  (xT script s.i) &&& BitVec.ofInt 64 15).toNat) + size)) 0 else min (IntKind.i64.wrap (IntKind.i64.wrap (s.t + IntKind.i64.wrap ↑(BitVec.ofInt 64  (xT script s.i) &&& BitVec.ofInt 64 15).toNat) + size)) 0) = s'.til ∧
 IntKind.i64.wrap (s.i + 1) = s'.i ∧
 size = size ∧
  (xR script s.i) = s'.gR ∧
  (xN script s.i) = s'.gN ∧
 IntKind.i64.wrap (IntKind.i64.wrap (s.t + IntKind.i64.wrap ↑(BitVec.ofInt 64  (xT script s.i) &&& BitVec.ofInt 64 15).toNat) + size) = s'.gU ∧
  (xR script s.i) = s'.toR ∧
  (xN script s.i) = s'.toN))) ∧
 (decide (IntKind.i64.wrap (IntKind.i64.wrap (s.t + IntKind.i64.wrap ↑(BitVec.ofInt 64  (xT script s.i) &&& BitVec.ofInt 64 15).toNat) + size) ≤ IntKind.i64.wrap (s.t + IntKind.i64.wrap ↑(BitVec.ofInt 64  (xT script s.i) &&& BitVec.ofInt 64 15).toNat)) = false →
 (decide (IntKind.i64.wrap (IntKind.i64.wrap (s.t + IntKind.i64.wrap ↑(BitVec.ofInt 64  (xT script s.i) &&& BitVec.ofInt 64 15).toNat) + size) ≠ bif true then max (IntKind.i64.wrap (IntKind.i64.wrap (s.t + IntKind.i64.wrap ↑(BitVec.ofInt 64  (xT script s.i) &&& BitVec.ofInt 64 15).toNat) + size)) 0 else min (IntKind.i64.wrap (IntKind.i64.wrap (s.t + IntKind.i64.wrap ↑(BitVec.ofInt 64  (xT script s.i) &&& BitVec.ofInt 64 15).toNat) + size)) 0) = true →
 false = true) ∧
 (decide (IntKind.i64.wrap (IntKind.i64.wrap (s.t + IntKind.i64.wrap ↑(BitVec.ofInt 64  (xT script s.i) &&& BitVec.ofInt 64 15).toNat) + size) ≠ bif true then max (IntKind.i64.wrap (IntKind.i64.wrap (s.t + IntKind.i64.wrap ↑(BitVec.ofInt 64  (xT script s.i) &&& BitVec.ofInt 64 15).toNat) + size)) 0 else min (IntKind.i64.wrap (IntKind.i64.wrap (s.t + IntKind.i64.wrap ↑(BitVec.ofInt 64  (xT script s.i) &&& BitVec.ofInt 64 15).toNat) + size)) 0) = false →
 ((!true == decide (IntKind.i64.wrap (s.t + IntKind.i64.wrap ↑(BitVec.ofInt 64  (xT script s.i) &&& BitVec.ofInt 64 15).toNat) < bif true then max (IntKind.i64.wrap (IntKind.i64.wrap (s.t + IntKind.i64.wrap ↑(BitVec.ofInt 64  (xT script s.i) &&& BitVec.ofInt 64 15).toNat) + size)) 0 else min (IntKind.i64.wrap (IntKind.i64.wrap (s.t + IntKind.i64.wrap ↑(BitVec.ofInt 64  (xT script s.i) &&& BitVec.ofInt 64 15).toNat) + size)) 0)) = true →
 false = true) ∧
 ((!true == decide (IntKind.i64.wrap (s.t + IntKind.i64.wrap ↑(BitVec.ofInt 64  (xT script s.i) &&& BitVec.ofInt 64 15).toNat) < bif true then max (IntKind.i64.wrap (IntKind.i64.wrap (s.t + IntKind.i64.wrap ↑(BitVec.ofInt 64  (xT script s.i) &&& BitVec.ofInt 64 15).toNat) + size)) 0 else min (IntKind.i64.wrap (IntKind.i64.wrap (s.t + IntKind.i64.wrap ↑(BitVec.ofInt 64  (xT script s.i) &&& BitVec.ofInt 64 15).toNat) + size)) 0)) = false →
 ((!(decide ( (xR script s.i) =  (xR script s.i)) && decide ( (xN script s.i) =  (xN script s.i)))) = true →
 false = true) ∧
 ((!(decide ( (xR script s.i) =  (xR script s.i)) && decide ( (xN script s.i) =  (xN script s.i)))) = false →
 ∃ s', inv s' ∧
 script.length - s'.i.toNat < script.length - s.i.toNat ∧
 script = script ∧
 size = size ∧
 IntKind.i64.wrap (s.t + IntKind.i64.wrap ↑(BitVec.ofInt 64  (xT script s.i) &&& BitVec.ofInt 64 15).toNat) = s'.t ∧
 (bif true then max (IntKind.i64.wrap (IntKind.i64.wrap (s.t + IntKind.i64.wrap ↑(BitVec.ofInt 64  (xT script s.i) &&& BitVec.ofInt 64 15).toNat) + size)) 0 else min (IntKind.i64.wrap (IntKind.i64.wrap (s.t + IntKind.i64.wrap ↑(BitVec.ofInt 64  (xT script s.i) &&& BitVec.ofInt 64 15).toNat) + size)) 0) = s'.til ∧
 IntKind.i64.wrap (s.i + 1) = s'.i ∧
 size = size ∧
  (xR script s.i) = s'.gR ∧
  (xN script s.i) = s'.gN ∧
 IntKind.i64.wrap (IntKind.i64.wrap (s.t + IntKind.i64.wrap ↑(BitVec.ofInt 64  (xT script s.i) &&& BitVec.ofInt 64 15).toNat) + size) = s'.gU ∧
  (xR script s.i) = s'.toR ∧
  (xN script s.i) = s'.toN)))))))))) ∧
 ((!nmd  (xR script s.i)  (xN script s.i)) = false →
 ((!tmd (IntKind.i64.wrap (s.t + IntKind.i64.wrap ↑(BitVec.ofInt 64  (xT script s.i) &&& BitVec.ofInt 64 15).toNat))) = true →
 (0 ≤ s.i ∧
 s.i < (script.length : Int)) ∧
 (nmd  (xR script s.i)  (xN script s.i) = true →
 false = true) ∧
 (nmd  (xR script s.i)  (xN script s.i) = false →
 ∃ s', inv s' ∧
 script.length - s'.i.toNat < script.length - s.i.toNat ∧
 script = script ∧
 size = size ∧
 IntKind.i64.wrap (s.t + IntKind.i64.wrap ↑(BitVec.ofInt 64  (xT script s.i) &&& BitVec.ofInt 64 15).toNat) = s'.t ∧
 s.til = s'.til ∧
 IntKind.i64.wrap (s.i + 1) = s'.i ∧
 size = size ∧
 s.gR = s'.gR ∧
 s.gN = s'.gN ∧
 s.gU = s'.gU ∧
 s.toR = s'.toR ∧
 s.toN = s'.toN)) ∧
 ((!tmd (IntKind.i64.wrap (s.t + IntKind.i64.wrap ↑(BitVec.ofInt 64  (xT script s.i) &&& BitVec.ofInt 64 15).toNat))) = false →
 ((decide ( (xR script s.i) = s.gR) && decide ( (xN script s.i) = s.gN)) = true →
 (0 ≤ s.i ∧
 s.i < (script.length : Int)) ∧
 ((decide ( (xR script s.i) = s.toR) && decide ( (xN script s.i) = s.toN)) = true →
 (0 ≤ s.i ∧
 s.i < (script.length : Int)) ∧
 (decide ((bif true then max s.gU (IntKind.i64.wrap (IntKind.i64.wrap (s.t + IntKind.i64.wrap ↑(BitVec.ofInt 64  (xT script s.i) &&& BitVec.ofInt 64 15).toNat) + size)) else min s.gU (IntKind.i64.wrap (IntKind.i64.wrap (s.t + IntKind.i64.wrap ↑(BitVec.ofInt 64  (xT script s.i) &&& BitVec.ofInt 64 15).toNat) + size))) ≤ IntKind.i64.wrap (s.t + IntKind.i64.wrap ↑(BitVec.ofInt 64  (xT script s.i) &&& BitVec.ofInt 64 15).toNat)) = true →
 (decide ((bif true then max s.gU (IntKind.i64.wrap (IntKind.i64.wrap (s.t + IntKind.i64.wrap ↑(BitVec.ofInt 64  (xT script s.i) &&& BitVec.ofInt 64 15).toNat) + size)) else min s.gU (IntKind.i64.wrap (IntKind.i64.wrap (s.t + IntKind.i64.wrap ↑(BitVec.ofInt 64  (xT script s.i) &&& BitVec.ofInt 64 15).toNat) + size))) ≠ bif true then max (IntKind.i64.wrap (IntKind.i64.wrap (s.t + IntKind.i64.wrap ↑(BitVec.ofInt 64  (xT script s.i) &&& BitVec.ofInt 64 15).toNat) + size)) 0 else min (IntKind.i64.wrap (IntKind.i64.wrap (s.t + IntKind.i64.wrap ↑(BitVec.ofInt 64  (xT script s.i) &&& BitVec.ofInt 64 15).toNat) + size)) 0) = true →
 false = true) ∧
 (decide ((bif true then max s.gU (IntKind.i64.wrap (IntKind.i64.wrap (s.t + IntKind.i64.wrap ↑(BitVec.ofInt 64  (xT script s.i) &&& BitVec.ofInt 64 15).toNat) + size)) else min s.gU (IntKind.i64.wrap (IntKind.i64.wrap (s.t + IntKind.i64.wrap ↑(BitVec.ofInt 64  (xT script s.i) &&& BitVec.ofInt 64 15).toNat) + size))) ≠ bif true then max (IntKind.i64.wrap (IntKind.i64.wrap (s.t + IntKind.i64.wrap ↑(BitVec.ofInt 64  (xT script s.i) &&& BitVec.ofInt 64 15).toNat) + size)) 0 else min (IntKind.i64.wrap (IntKind.i64.wrap (s.t + IntKind.i64.wrap ↑(BitVec.ofInt 64  (xT script s.i) &&& BitVec.ofInt 64 15).toNat) + size)) 0) = false →
 ((!false == decide (IntKind.i64.wrap (s.t + IntKind.i64.wrap ↑(BitVec.ofInt 64  (xT script s.i) &&& BitVec.ofInt 64 15).toNat) < bif true then max (IntKind.i64.wrap (IntKind.i64.wrap (s.t + IntKind.i64.wrap ↑(BitVec.ofInt 64  (xT script s.i) &&& BitVec.ofInt 64 15).toNat) + size)) 0 else min (IntKind.i64.wrap (IntKind.i64.wrap (s.t + IntKind.i64.wrap ↑(BitVec.ofInt 64  (xT script s.i) &&& BitVec.ofInt 64 15).toNat) + size)) 0)) = true →
 false = true) ∧
 ((!false == decide (IntKind.i64.wrap (s.t + IntKind.i64.wrap ↑(BitVec.ofInt 64  (xT script s.i) &&& BitVec.ofInt 64 15).toNat) < bif true then max (IntKind.i64.wrap (IntKind.i64.wrap (s.t + IntKind.i64.wrap ↑(BitVec.ofInt 64  (xT script s.i) &&& BitVec.ofInt 64 15).toNat) + size)) 0 else min (IntKind.i64.wrap (IntKind.i64.wrap (s.t + IntKind.i64.wrap ↑(BitVec.ofInt 64  (xT script s.i) &&& BitVec.ofInt 64 15).toNat) + size)) 0)) = false →
 ∃ s', inv s' ∧
 script.length - s'.i.toNat < script.length - s.i.toNat ∧
 script = script ∧
 size = size ∧
 IntKind.i64.wrap (s.t + IntKind.i64.wrap ↑(BitVec.ofInt 64  (xT script s.i) &&& BitVec.ofInt 64 15).toNat) = s'.t ∧
 (bif true then max (IntKind.i64.wrap (IntKind.i64.wrap (s.t + IntKind.i64.wrap ↑(BitVec.ofInt 64  (xT script s.i) &&& BitVec.ofInt 64 15).toNat) + size)) 0 else min (IntKind.i64.wrap (IntKind.i64.wrap (s.t + IntKind.i64.wrap ↑(BitVec.ofInt 64  (xT script s.i) &&& BitVec.ofInt 64 15).toNat) + size)) 0) = s'.til ∧
 IntKind.i64.wrap (s.i + 1) = s'.i ∧
 size = size ∧
 s.gR = s'.gR ∧
 s.gN = s'.gN ∧
 (bif true then max s.gU (IntKind.i64.wrap (IntKind.i64.wrap (s.t + IntKind.i64.wrap ↑(BitVec.ofInt 64  (xT script s.i) &&& BitVec.ofInt 64 15).toNat) + size)) else min s.gU (IntKind.i64.wrap (IntKind.i64.wrap (s.t + IntKind.i64.wrap ↑(BitVec.ofInt 64  (xT script s.i) &&& BitVec.ofInt 64 15).toNat) + size))) = s'.gU ∧
  (xR script s.i) = s'.toR ∧
  (xN script s.i) = s'.toN))) ∧
 (decide ((bif true then max s.gU (IntKind.i64.wrap (IntKind.i64.wrap (s.t + IntKind.i64.wrap ↑(BitVec.ofInt 64  (xT script s.i) &&& BitVec.ofInt 64 15).toNat) + size)) else min s.gU (IntKind.i64.wrap (IntKind.i64.wrap (s.t + IntKind.i64.wrap ↑(BitVec.ofInt 64  (xT script s.i) &&& BitVec.ofInt 64 15).toNat) + size))) ≤ IntKind.i64.wrap (s.t + IntKind.i64.wrap ↑(BitVec.ofInt 64  (xT script s.i) &&& BitVec.ofInt 64 15).toNat)) = false →
 (decide ((bif true then max s.gU (IntKind.i64.wrap (IntKind.i64.wrap (s.t + IntKind.i64.wrap ↑(BitVec.ofInt 64  (xT script s.i) &&& BitVec.ofInt 64 15).toNat) + size)) else min s.gU (IntKind.i64.wrap (IntKind.i64.wrap (s.t + IntKind.i64.wrap ↑(BitVec.ofInt 64  (xT script s.i) &&& BitVec.ofInt 64 15).toNat) + size))) ≠ bif true then max (IntKind.i64.wrap (IntKind.i64.wrap (s.t + IntKind.i64.wrap ↑(BitVec.ofInt 64  (xT script s.i) &&& BitVec.ofInt 64 15).toNat) + size)) 0 else min (IntKind.i64.wrap (IntKind.i64.wrap (s.t + IntKind.i64.wrap ↑(BitVec.ofInt 64  (xT script s.i) &&& BitVec.ofInt 64 15).toNat) + size)) 0) = true →
 false = true) ∧
 (decide ((bif true then max s.gU (IntKind.i64.wrap (IntKind.i64.wrap (s.t + IntKind.i64.wrap ↑(BitVec.ofInt 64  (xT script s.i) &&& BitVec.ofInt 64 15).toNat) + size)) else min s.gU (IntKind.i64.wrap (IntKind.i64.wrap (s.t + IntKind.i64.wrap ↑(BitVec.ofInt 64  (xT script s.i) &&& BitVec.ofInt 64 15).toNat) + size))) ≠ bif true then max (IntKind.i64.wrap (IntKind.i64.wrap (s.t + IntKind.i64.wrap ↑(BitVec.ofInt 64  (xT script s.i) &&& BitVec.ofInt 64 15).toNat) + size)) 0 else min (IntKind.i64.wrap (IntKind.i64.wrap (s.t + IntKind.i64.wrap ↑(BitVec.ofInt 64  (xT script s.i) &&& BitVec.ofInt 64 15).toNat) + size)) 0) = false →
 ((!true == decide (IntKind.i64.wrap (s.t + IntKind.i64.wrap ↑(BitVec.ofInt 64  (xT script s.i) &&& BitVec.ofInt 64 15).toNat) < bif true then max (IntKind.i64.wrap (IntKind.i64.wrap (s.t + IntKind.i64.wrap ↑(BitVec.ofInt 64  (xT script s.i) &&& BitVec.ofInt 64 15).toNat) + size)) 0 else min (IntKind.i64.wrap (IntKind.i64.wrap (s.t + IntKind.i64.wrap ↑(BitVec.ofInt 64  (xT script s.i) &&& BitVec.ofInt 64 15).toNat) + size)) 0)) = true →
 false = true) ∧
 ((!true == decide (IntKind.i64.wrap (s.t + IntKind.i64.wrap ↑(BitVec.ofInt 64  (xT script s.i) &&& BitVec.ofInt 64 15).toNat) < bif true then max (IntKind.i64.wrap (IntKind.i64.wrap (s.t + IntKind.i64.wrap ↑(BitVec.ofInt 64  (xT script s.i) &&& BitVec.ofInt 64 15).toNat) + size)) 0 else min (IntKind.i64.wrap (IntKind.i64.wrap (s.t + IntKind.i64.wrap ↑(BitVec.ofInt 64  (xT script s.i) &&& BitVec.ofInt 64 15).toNat) + size)) 0)) = false →
 ((!(decide (s.gR =  (xR script s.i)) && decide (s.gN =  (xN script s.i)))) = true →
 false = true) ∧
 ((!(decide (s.gR =  (xR script s.i)) && decide (s.gN =  (xN script s.i)))) = false →
 ∃ s', inv s' ∧
 script.length - s'.i.toNat < script.length - s.i.toNat ∧
 script = script ∧
 size = size ∧
 IntKind.i64.wrap (s.t + IntKind.i64.wrap ↑(BitVec.ofInt 64  (xT script s.i) &&& BitVec.ofInt 64 15).toNat) = s'.t ∧
 (bif true then max (IntKind.i64.wrap (IntKind.i64.wrap (s.t + IntKind.i64.wrap ↑(BitVec.ofInt 64  (xT script s.i) &&& BitVec.ofInt 64 15).toNat) + size)) 0 else min (IntKind.i64.wrap (IntKind.i64.wrap (s.t + IntKind.i64.wrap ↑(BitVec.ofInt 64  (xT script s.i) &&& BitVec.ofInt 64 15).toNat) + size)) 0) = s'.til ∧
 IntKind.i64.wrap (s.i + 1) = s'.i ∧
 size = size ∧
 s.gR = s'.gR ∧
 s.gN = s'.gN ∧
 (bif true then max s.gU (IntKind.i64.wrap (IntKind.i64.wrap (s.t + IntKind.i64.wrap ↑(BitVec.ofInt 64  (xT script s.i) &&& BitVec.ofInt 64 15).toNat) + size)) else min s.gU (IntKind.i64.wrap (IntKind.i64.wrap (s.t + IntKind.i64.wrap ↑(BitVec.ofInt 64  (xT script s.i) &&& BitVec.ofInt 64 15).toNat) + size))) = s'.gU ∧
  (xR script s.i) = s'.toR ∧
  (xN script s.i) = s'.toN))))) ∧
 ((decide ( (xR script s.i) = s.toR) && decide ( (xN script s.i) = s.toN)) = false →
 ((!true == decide (s.til ≤ IntKind.i64.wrap (s.t + IntKind.i64.wrap ↑(BitVec.ofInt 64  (xT script s.i) &&& BitVec.ofInt 64 15).toNat))) = true →
 false = true) ∧
 ((!true == decide (s.til ≤ IntKind.i64.wrap (s.t + IntKind.i64.wrap ↑(BitVec.ofInt 64  (xT script s.i) &&& BitVec.ofInt 64 15).toNat))) = false →
 (0 ≤ s.i ∧
 s.i < (script.length : Int)) ∧
 (decide ((bif true then max s.gU (IntKind.i64.wrap (IntKind.i64.wrap (s.t + IntKind.i64.wrap ↑(BitVec.ofInt 64  (xT script s.i) &&& BitVec.ofInt 64 15).toNat) + size)) else min s.gU (IntKind.i64.wrap (IntKind.i64.wrap (s.t + IntKind.i64.wrap ↑(BitVec.ofInt 64  (xT script s.i) &&& BitVec.ofInt 64 15).toNat) + size))) ≤ IntKind.i64.wrap (s.t + IntKind.i64.wrap ↑(BitVec.ofInt 64  (xT script s.i) &&& BitVec.ofInt 64 15).toNat)) = true →
 (decide ((bif true then max s.gU (IntKind.i64.wrap (IntKind.i64.wrap (s.t + IntKind.i64.wrap ↑(BitVec.ofInt 64  (xT script s.i) &&& BitVec.ofInt 64 15).toNat) + size)) else min s.gU (IntKind.i64.wrap (IntKind.i64.wrap (s.t + IntKind.i64.wrap ↑(BitVec.ofInt 64  (xT script s.i) &&& BitVec.ofInt 64 15).toNat) + size))) ≠ bif true then max (IntKind.i64.wrap (IntKind.i64.wrap (s.t + IntKind.i64.wrap ↑(BitVec.ofInt 64  (xT script s.i) &&& BitVec.ofInt 64 15).toNat) + size)) 0 else min (IntKind.i64.wrap (IntKind.i64.wrap (s.t + IntKind.i64.wrap ↑(BitVec.ofInt 64  (xT script s.i) &&& BitVec.ofInt 64 15).toNat) + size)) 0) = true →
 false = true) ∧
 (decide ((bif true then max s.gU (IntKind.i64.wrap (IntKind.i64.wrap (s.t + IntKind.i64.wrap ↑(BitVec.ofInt 64  (xT script s.i) &&& BitVec.ofInt 64 15).toNat) + size)) else min s.gU (IntKind.i64.wrap (IntKind.i64.wrap (s.t + IntKind.i64.wrap ↑(BitVec.ofInt 64  (xT script s.i) &&& BitVec.ofInt 64 15).toNat) + size))) ≠ bif true then max (IntKind.i64.wrap (IntKind.i64.wrap (s.t + IntKind.i64.wrap ↑(BitVec.ofInt 64  (xT script s.i) &&& BitVec.ofInt 64 15).toNat) + size)) 0 else min (IntKind.i64.wrap (IntKind.i64.wrap (s.t + IntKind.i64.wrap ↑(BitVec.ofInt 64  (xT script s.i) &&& BitVec.ofInt 64 15).toNat) + size)) 0) = false →
 ((!false == decide (IntKind.i64.wrap (s.t + IntKind.i64.wrap ↑(BitVec.ofInt 64  (xT script s.i) &&& BitVec.ofInt 64 15).toNat) < bif true then max (IntKind.i64.wrap (IntKind.i64.wrap (s.t + IntKind.i64.wrap ↑(BitVec.ofInt 64  (xT script s.i) &&& BitVec.ofInt 64 15).toNat) + size)) 0 else min (IntKind.i64.wrap (IntKind.i64.wrap (s.t + IntKind.i64.wrap ↑(BitVec.ofInt 64  (xT script s.i) &&& BitVec.ofInt 64 15).toNat) + size)) 0)) = true →
 false = true) ∧
 ((!false == decide (IntKind.i64.wrap (s.t + IntKind.i64.wrap ↑(BitVec.ofInt 64  (xT script s.i) &&& BitVec.ofInt 64 15).toNat) < bif true then max (IntKind.i64.wrap (IntKind.i64.wrap (s.t + IntKind.i64.wrap ↑(BitVec.ofInt 64  (xT script s.i) &&& BitVec.ofInt 64 15).toNat) + size)) 0 else min (IntKind.i64.wrap (IntKind.i64.wrap (s.t + IntKind.i64.wrap ↑(BitVec.ofInt 64  (xT script s.i) &&& BitVec.ofInt 64 15).toNat) + size)) 0)) = false →
 ∃ s', inv s' ∧
 script.length - s'.i.toNat < script.length - s.i.toNat ∧
 script = script ∧
 size = size ∧
 IntKind.i64.wrap (s.t + IntKind.i64.wrap ↑(BitVec.ofInt 64  (xT script s.i) &&& BitVec.ofInt 64 15).toNat) = s'.t ∧
 (bif true then max (IntKind.i64.wrap (IntKind.i64.wrap (s.t + IntKind.i64.wrap ↑(BitVec.ofInt 64  (xT script s.i) &&& BitVec.ofInt 64 15).toNat) + size)) 0 else min (IntKind.i64.wrap (IntKind.i64.wrap (s.t + IntKind.i64.wrap ↑(BitVec.ofInt 64  (xT script s.i) &&& BitVec.ofInt 64 15).toNat) + size)) 0) = s'.til ∧
 IntKind.i64.wrap (s.i + 1) = s'.i ∧
 size = size ∧
 s.gR = s'.gR ∧
 s.gN = s'.gN ∧
 (bif true then max s.gU (IntKind.i64.wrap (IntKind.i64.wrap (s.t + IntKind.i64.wrap ↑(BitVec.ofInt 64  (xT script s.i) &&& BitVec.ofInt 64 15).toNat) + size)) else min s.gU (IntKind.i64.wrap (IntKind.i64.wrap (s.t + IntKind.i64.wrap ↑(BitVec.ofInt 64  (xT script s.i) &&& BitVec.ofInt 64 15).toNat) + size))) = s'.gU ∧
  (xR script s.i) = s'.toR ∧
  (xN script s.i) = s'.toN))) ∧
 (decide ((bif true then max s.gU (IntKind.i64.wrap (IntKind.i64.wrap (s.t + IntKind.i64.wrap ↑(BitVec.ofInt 64  (xT script s.i) &&& BitVec.ofInt 64 15).toNat) + size)) else min s.gU (IntKind.i64.wrap (IntKind.i64.wrap (s.t + IntKind.i64.wrap ↑(BitVec.ofInt 64  (xT script s.i) &&& BitVec.ofInt 64 15).toNat) + size))) ≤ IntKind.i64.wrap (s.t + IntKind.i64.wrap ↑(BitVec.ofInt 64  (xT script s.i) &&& BitVec.ofInt 64 15).toNat)) = false →
 (decide ((bif true then max s.gU (IntKind.i64.wrap (IntKind.i64.wrap (s.t + IntKind.i64.wrap ↑(BitVec.ofInt 64  (xT script s.i) &&& BitVec.ofInt 64 15).toNat) + size)) else min s.gU (IntKind.i64.wrap (IntKind.i64.wrap (s.t + IntKind.i64.wrap ↑(BitVec.ofInt 64  (xT script s.i) &&& BitVec.ofInt 64 15).toNat) + size))) ≠ bif true then max (IntKind.i64.wrap (IntKind.i64.wrap (s.t + IntKind.i64.wrap ↑(BitVec.ofInt 64  (xT script s.i) &&& BitVec.ofInt 64 15).toNat) + size)) 0 else min (IntKind.i64.wrap (IntKind.i64.wrap (s.t + IntKind.i64.wrap ↑(BitVec.ofInt 64  (xT script s.i) &&& BitVec.ofInt 64 15).toNat) + size)) 0) = true →
 false = true) ∧
 (decide ((bif true then max s.gU (IntKind.i64.wrap (IntKind.i64.wrap (s.t + IntKind.i64.wrap ↑(BitVec.ofInt 64  (xT script s.i) &&& BitVec.ofInt 64 15).toNat) + size)) else min s.gU (IntKind.i64.wrap (IntKind.i64.wrap (s.t + IntKind.i64.wrap ↑(BitVec.ofInt 64  (xT script s.i) &&& BitVec.ofInt 64 15).toNat) + size))) ≠ bif true then max (IntKind.i64.wrap (IntKind.i64.wrap (s.t + IntKind.i64.wrap ↑(BitVec.ofInt 64  (xT script s.i) &&& BitVec.ofInt 64 15).toNat) + size)) 0 else min (IntKind.i64.wrap (IntKind.i64.wrap (s.t + IntKind.i64.wrap ↑(BitVec.ofInt 64  (xT script s.i) &&& BitVec.ofInt 64 15).toNat) + size)) 0) = false →
 ((!true == decide (IntKind.i64.wrap (s.t + IntKind.i64.wrap ↑(BitVec.ofInt 64  (xT script s.i) &&& BitVec.ofInt 64 15).toNat) < bif true then max (IntKind.i64.wrap (IntKind.i64.wrap (s.t + IntKind.i64.wrap ↑(BitVec.ofInt 64  (xT script s.i) &&& BitVec.ofInt 64 15).toNat) + size)) 0 else min (IntKind.i64.wrap (IntKind.i64.wrap (s.t + IntKind.i64.wrap ↑(BitVec.ofInt 64  (xT script s.i) &&& BitVec.ofInt 64 15).toNat) + size)) 0)) = true →
 false = true) ∧
 ((!true == decide (IntKind.i64.wrap (s.t + IntKind.i64.wrap ↑(BitVec.ofInt 64  (xT script s.i) &&& BitVec.ofInt 64 15).toNat) < bif true then max (IntKind.i64.wrap (IntKind.i64.wrap (s.t + IntKind.i64.wrap ↑(BitVec.ofInt 64  (xT script s.i) &&& BitVec.ofInt 64 15).toNat) + size)) 0 else min (IntKind.i64.wrap (IntKind.i64.wrap (s.t + IntKind.i64.wrap ↑(BitVec.ofInt 64  (xT script s.i) &&& BitVec.ofInt 64 15).toNat) + size)) 0)) = false →
 ((!(decide (s.gR =  (xR script s.i)) && decide (s.gN =  (xN script s.i)))) = true →
 false = true) ∧
 ((!(decide (s.gR =  (xR script s.i)) && decide (s.gN =  (xN script s.i)))) = false →
 ∃ s', inv s' ∧
 script.length - s'.i.toNat < script.length - s.i.toNat ∧
 script = script ∧
 size = size ∧
 IntKind.i64.wrap (s.t + IntKind.i64.wrap ↑(BitVec.ofInt 64  (xT script s.i) &&& BitVec.ofInt 64 15).toNat) = s'.t ∧
 (bif true then max (IntKind.i64.wrap (IntKind.i64.wrap (s.t + IntKind.i64.wrap ↑(BitVec.ofInt 64  (xT script s.i) &&& BitVec.ofInt 64 15).toNat) + size)) 0 else min (IntKind.i64.wrap (IntKind.i64.wrap (s.t + IntKind.i64.wrap ↑(BitVec.ofInt 64  (xT script s.i) &&& BitVec.ofInt 64 15).toNat) + size)) 0) = s'.til ∧
 IntKind.i64.wrap (s.i + 1) = s'.i ∧
 size = size ∧
 s.gR = s'.gR ∧
 s.gN = s'.gN ∧
 (bif true then max s.gU (IntKind.i64.wrap (IntKind.i64.wrap (s.t + IntKind.i64.wrap ↑(BitVec.ofInt 64  (xT script s.i) &&& BitVec.ofInt 64 15).toNat) + size)) else min s.gU (IntKind.i64.wrap (IntKind.i64.wrap (s.t + IntKind.i64.wrap ↑(BitVec.ofInt 64  (xT script s.i) &&& BitVec.ofInt 64 15).toNat) + size))) = s'.gU ∧
  (xR script s.i) = s'.toR ∧
  (xN script s.i) = s'.toN))))))) ∧
 ((decide ( (xR script s.i) = s.gR) && decide ( (xN script s.i) = s.gN)) = false →
 ((!decide (s.gU ≤ IntKind.i64.wrap (s.t + IntKind.i64.wrap ↑(BitVec.ofInt 64  (xT script s.i) &&& BitVec.ofInt 64 15).toNat))) = true →
 (0 ≤ s.i ∧
 s.i < (script.length : Int)) ∧
 ((decide ( (xR script s.i) = s.toR) && decide ( (xN script s.i) = s.toN)) = true →
 false = true) ∧
 ((decide ( (xR script s.i) = s.toR) && decide ( (xN script s.i) = s.toN)) = false →
 ((!false == decide (s.til ≤ IntKind.i64.wrap (s.t + IntKind.i64.wrap ↑(BitVec.ofInt 64  (xT script s.i) &&& BitVec.ofInt 64 15).toNat))) = true →
 false = true) ∧
 ((!false == decide (s.til ≤ IntKind.i64.wrap (s.t + IntKind.i64.wrap ↑(BitVec.ofInt 64  (xT script s.i) &&& BitVec.ofInt 64 15).toNat))) = false →
 (decide (s.gU ≤ IntKind.i64.wrap (s.t + IntKind.i64.wrap ↑(BitVec.ofInt 64  (xT script s.i) &&& BitVec.ofInt 64 15).toNat)) = true →
 (decide (s.gU ≠ s.til) = true →
 false = true) ∧
 (decide (s.gU ≠ s.til) = false →
 ((!false == decide (IntKind.i64.wrap (s.t + IntKind.i64.wrap ↑(BitVec.ofInt 64  (xT script s.i) &&& BitVec.ofInt 64 15).toNat) < s.til)) = true →
 false = true) ∧
 ((!false == decide (IntKind.i64.wrap (s.t + IntKind.i64.wrap ↑(BitVec.ofInt 64  (xT script s.i) &&& BitVec.ofInt 64 15).toNat) < s.til)) = false →
 ∃ s', inv s' ∧
 script.length - s'.i.toNat < script.length - s.i.toNat ∧
 script = script ∧
 size = size ∧
 IntKind.i64.wrap (s.t + IntKind.i64.wrap ↑(BitVec.ofInt 64  (xT script s.i) &&& BitVec.ofInt 64 15).toNat) = s'.t ∧
 s.til = s'.til ∧
 IntKind.i64.wrap (s.i + 1) = s'.i ∧
 size = size ∧
 s.gR = s'.gR ∧
 s.gN = s'.gN ∧
 s.gU = s'.gU ∧
 s.toR = s'.toR ∧
 s.toN = s'.toN))) ∧
 (decide (s.gU ≤ IntKind.i64.wrap (s.t + IntKind.i64.wrap ↑(BitVec.ofInt 64  (xT script s.i) &&& BitVec.ofInt 64 15).toNat)) = false →
 (decide (s.gU ≠ s.til) = true →
 false = true) ∧
 (decide (s.gU ≠ s.til) = false →
 ((!true == decide (IntKind.i64.wrap (s.t + IntKind.i64.wrap ↑(BitVec.ofInt 64  (xT script s.i) &&& BitVec.ofInt 64 15).toNat) < s.til)) = true →
 false = true) ∧
 ((!true == decide (IntKind.i64.wrap (s.t + IntKind.i64.wrap ↑(BitVec.ofInt 64  (xT script s.i) &&& BitVec.ofInt 64 15).toNat) < s.til)) = false →
 ((!(decide (s.gR = s.toR) && decide (s.gN = s.toN))) = true →
 false = true) ∧
 ((!(decide (s.gR = s.toR) && decide (s.gN = s.toN))) = false →
 ∃ s', inv s' ∧
 script.length - s'.i.toNat < script.length - s.i.toNat ∧
 script = script ∧
 size = size ∧
 IntKind.i64.wrap (s.t + IntKind.i64.wrap ↑(BitVec.ofInt 64  (xT script s.i) &&& BitVec.ofInt 64 15).toNat) = s'.t ∧
 s.til = s'.til ∧
 IntKind.i64.wrap (s.i + 1) = s'.i ∧
 size = size ∧
 s.gR = s'.gR ∧
 s.gN = s'.gN ∧
 s.gU = s'.gU ∧
 s.toR = s'.toR ∧
 s.toN = s'.toN))))))) ∧
 ((!decide (s.gU ≤ IntKind.i64.wrap (s.t + IntKind.i64.wrap ↑(BitVec.ofInt 64  (xT script s.i) &&& BitVec.ofInt 64 15).toNat))) = false →
 IntKind.i64.wrap (s.t + IntKind.i64.wrap ↑(BitVec.ofInt 64  (xT script s.i) &&& BitVec.ofInt 64 15).toNat) = IntKind.i64.wrap (s.t + IntKind.i64.wrap ↑(BitVec.ofInt 64  (xT script s.i) &&& BitVec.ofInt 64 15).toNat) ∧
 IntKind.i64.wrap (IntKind.i64.wrap (s.t + IntKind.i64.wrap ↑(BitVec.ofInt 64  (xT script s.i) &&& BitVec.ofInt 64 15).toNat) + size) = IntKind.i64.wrap (IntKind.i64.wrap (s.t + IntKind.i64.wrap ↑(BitVec.ofInt 64  (xT script s.i) &&& BitVec.ofInt 64 15).toNat) + size) ∧
 (0 ≤ s.i ∧
 s.i < (script.length : Int)) ∧
 ((decide ( (xR script s.i) = s.toR) && decide ( (xN script s.i) = s.toN)) = true →
 (0 ≤ s.i ∧
 s.i < (script.length : Int)) ∧
 (decide (IntKind.i64.wrap (IntKind.i64.wrap (s.t + IntKind.i64.wrap ↑(BitVec.ofInt 64  (xT script s.i) &&& BitVec.ofInt 64 15).toNat) + size) ≤ IntKind.i64.wrap (s.t + IntKind.i64.wrap ↑(BitVec.ofInt 64  (xT script s.i) &&& BitVec.ofInt 64 15).toNat)) = true →
 (decide (IntKind.i64.wrap (IntKind.i64.wrap (s.t + IntKind.i64.wrap ↑(BitVec.ofInt 64  (xT script s.i) &&& BitVec.ofInt 64 15).toNat) + size) ≠ bif true then max (IntKind.i64.wrap (IntKind.i64.wrap (s.t + IntKind.i64.wrap ↑(BitVec.ofInt 64  (xT script s.i) &&& BitVec.ofInt 64 15).toNat) + size)) 0 else min (IntKind.i64.wrap (IntKind.i64.wrap (s.t + IntKind.i64.wrap ↑(BitVec.ofInt 64  (xT script s.i) &&& BitVec.ofInt 64 15).toNat) + size)) 0) = true →
 false = true) ∧
 (decide (IntKind.i64.wrap (IntKind.i64.wrap (s.t + IntKind.i64.wrap ↑(BitVec.ofInt 64  (xT script s.i) &&& BitVec.ofInt 64 15).toNat) + size) ≠ bif true then max (IntKind.i64.wrap (IntKind.i64.wrap (s.t + IntKind.i64.wrap ↑(BitVec.ofInt 64  (xT script s.i) &&& BitVec.ofInt 64 15).toNat) + size)) 0 else min (IntKind.i64.wrap (IntKind.i64.wrap (s.t + IntKind.i64.wrap ↑(BitVec.ofInt 64  (xT script s.i) &&& BitVec.ofInt 64 15).toNat) + size)) 0) = false →
 ((!false == decide (IntKind.i64.wrap (s.t + IntKind.i64.wrap ↑(BitVec.ofInt 64  (xT script s.i) &&& BitVec.ofInt 64 15).toNat) < bif true then max (IntKind.i64.wrap (IntKind.i64.wrap (s.t + IntKind.i64.wrap ↑(BitVec.ofInt 64  (xT script s.i) &&& BitVec.ofInt 64 15).toNat) + size)) 0 else min (IntKind.i64.wrap (IntKind.i64.wrap (s.t + IntKind.i64.wrap ↑(BitVec.ofInt 64  (xT script s.i) &&& BitVec.ofInt 64 15).toNat) + size)) 0)) = true →
 false = true) ∧
 ((!false == decide (IntKind.i64.wrap (s.t + IntKind.i64.wrap ↑(BitVec.ofInt 64  (xT script s.i) &&& BitVec.ofInt 64 15).toNat) < bif true then max (IntKind.i64.wrap (IntKind.i64.wrap (s.t + IntKind.i64.wrap ↑(BitVec.ofInt 64  (xT script s.i) &&& BitVec.ofInt 64 15).toNat) + size)) 0 else min (IntKind.i64.wrap (IntKind.i64.wrap (s.t + IntKind.i64.wrap ↑(BitVec.ofInt 64  (xT script s.i) &&& BitVec.ofInt 64 15).toNat) + size)) 0)) = false →
 ∃ s', inv s' ∧
 script.length - s'.i.toNat < script.length - s.i.toNat ∧
 script = script ∧
 size = size ∧
 IntKind.i64.wrap (s.t + IntKind.i64.wrap ↑(BitVec.ofInt 64  (xT script s.i) &&& BitVec.ofInt 64 15).toNat) = s'.t ∧
 (bif true then max (IntKind.i64.wrap (IntKind.i64.wrap (s.t + IntKind.i64.wrap ↑(BitVec.ofInt 64  (xT script s.i) &&& BitVec.ofInt 64 15).toNat) + size)) 0 else min (IntKind.i64.wrap (IntKind.i64.wrap (s.t + IntKind.i64.wrap ↑(BitVec.ofInt 64  (xT script s.i) &&& BitVec.ofInt 64 15).toNat) + size)) 0) = s'.til ∧
 IntKind.i64.wrap (s.i + 1) = s'.i ∧
 size = size ∧
  (xR script s.i) = s'.gR ∧
  (xN script s.i) = s'.gN ∧
 IntKind.i64.wrap (IntKind.i64.wrap (s.t + IntKind.i64.wrap ↑(BitVec.ofInt 64  (xT script s.i) &&& BitVec.ofInt 64 15).toNat) + size) = s'.gU ∧
  (xR script s.i) = s'.toR ∧
  (xN script s.i) = s'.toN))) ∧
 (decide (IntKind.i64.wrap (IntKind.i64.wrap (s.t + IntKind.i64.wrap ↑(BitVec.ofInt 64  (xT script s.i) &&& BitVec.ofInt 64 15).toNat) + size) ≤ IntKind.i64.wrap (s.t + IntKind.i64.wrap ↑(BitVec.ofInt 64  (xT script s.i) &&& BitVec.ofInt 64 15).toNat)) = false →
 (decide (IntKind.i64.wrap (IntKind.i64.wrap (s.t + IntKind.i64.wrap ↑(BitVec.ofInt 64  (xT script s.i) &&& BitVec.ofInt 64 15).toNat) + size) ≠ bif true then max (IntKind.i64.wrap (IntKind.i64.wrap (s.t + IntKind.i64.wrap ↑(BitVec.ofInt 64  (xT script s.i) &&& BitVec.ofInt 64 15).toNat) + size)) 0 else min (IntKind.i64.wrap (IntKind.i64.wrap (s.t + IntKind.i64.wrap ↑(BitVec.ofInt 64  (xT script s.i) &&& BitVec.ofInt 64 15).toNat) + size)) 0) = true →
 false = true) ∧
 (decide (IntKind.i64.wrap (IntKind.i64.wrap (s.t + IntKind.i64.wrap ↑(BitVec.ofInt 64  (xT script s.i) &&& BitVec.ofInt 64 15).toNat) + size) ≠ bif true then max (IntKind.i64.wrap (IntKind.i64.wrap (s.t + IntKind.i64.wrap ↑(BitVec.ofInt 64  (xT script s.i) &&& BitVec.ofInt 64 15).toNat) + size)) 0 else min (IntKind.i64.wrap (IntKind.i64.wrap (s.t + IntKind.i64.wrap ↑(BitVec.ofInt 64  (xT script s.i) &&& BitVec.ofInt 64 15).toNat) + size)) 0) = false →
 ((!true == decide (IntKind.i64.wrap (s.t + IntKind.i64.wrap ↑(BitVec.ofInt 64  (xT script s.i) &&& BitVec.ofInt 64 15).toNat) < bif true then max (IntKind.i64.wrap (IntKind.i64.wrap (s.t + IntKind.i64.wrap ↑(BitVec.ofInt 64  (xT script s.i) &&& BitVec.ofInt 64 15).toNat) + size)) 0 else min (IntKind.i64.wrap (IntKind.i64.wrap (s.t + IntKind.i64.wrap ↑(BitVec.ofInt 64  (xT script s.i) &&& BitVec.ofInt 64 15).toNat) + size)) 0)) = true →
 false = true) ∧
 ((!true == decide (IntKind.i64.wrap (s.t + IntKind.i64.wrap ↑(BitVec.ofInt 64  (xT script s.i) &&& BitVec.ofInt 64 15).toNat) < bif true then max (IntKind.i64.wrap (IntKind.i64.wrap (s.t + IntKind.i64.wrap ↑(BitVec.ofInt 64  (xT script s.i) &&& BitVec.ofInt 64 15).toNat) + size)) 0 else min (IntKind.i64.wrap (IntKind.i64.wrap (s.t + IntKind.i64.wrap ↑(BitVec.ofInt 64  (xT script s.i) &&& BitVec.ofInt 64 15).toNat) + size)) 0)) = false →
 ((!(decide ( (xR script s.i) =  (xR script s.i)) && decide ( (xN script s.i) =  (xN script s.i)))) = true →
 false = true) ∧
 ((!(decide ( (xR script s.i) =  (xR script s.i)) && decide ( (xN script s.i) =  (xN script s.i)))) = false →
 ∃ s', inv s' ∧
 script.length - s'.i.toNat < script.length - s.i.toNat ∧
 script = script ∧
 size = size ∧
 IntKind.i64.wrap (s.t + IntKind.i64.wrap ↑(BitVec.ofInt 64  (xT script s.i) &&& BitVec.ofInt 64 15).toNat) = s'.t ∧
 (bif true then max (IntKind.i64.wrap (IntKind.i64.wrap (s.t + IntKind.i64.wrap ↑(BitVec.ofInt 64  (xT script s.i) &&& BitVec.ofInt 64 15).toNat) + size)) 0 else min (IntKind.i64.wrap (IntKind.i64.wrap (s.t + IntKind.i64.wrap ↑(BitVec.ofInt 64  (xT script s.i) &&& BitVec.ofInt 64 15).toNat) + size)) 0) = s'.til ∧
 IntKind.i64.wrap (s.i + 1) = s'.i ∧
 size = size ∧
  (xR script s.i) = s'.gR ∧
  (xN script s.i) = s'.gN ∧
 IntKind.i64.wrap (IntKind.i64.wrap (s.t + IntKind.i64.wrap ↑(BitVec.ofInt 64  (xT script s.i) &&& BitVec.ofInt 64 15).toNat) + size) = s'.gU ∧
  (xR script s.i) = s'.toR ∧
  (xN script s.i) = s'.toN))))) ∧
 ((decide ( (xR script s.i) = s.toR) && decide ( (xN script s.i) = s.toN)) = false →
 ((!true == decide (s.til ≤ IntKind.i64.wrap (s.t + IntKind.i64.wrap ↑(BitVec.ofInt 64  (xT script s.i) &&& BitVec.ofInt 64 15).toNat))) = true →
 false = true) ∧
 ((!true == decide (s.til ≤ IntKind.i64.wrap (s.t + IntKind.i64.wrap ↑(BitVec.ofInt 64  (xT script s.i) &&& BitVec.ofInt 64 15).toNat))) = false →
 (0 ≤ s.i ∧
 s.i < (script.length : Int)) ∧
 (decide (IntKind.i64.wrap (IntKind.i64.wrap (s.t + IntKind.i64.wrap ↑(BitVec.ofInt 64  (xT script s.i) &&& BitVec.ofInt 64 15).toNat) + size) ≤ IntKind.i64.wrap (s.t + IntKind.i64.wrap ↑(BitVec.ofInt 64  (xT script s.i) &&& BitVec.ofInt 64 15).toNat)) = true →
 (decide (IntKind.i64.wrap (IntKind.i64.wrap (s.t + IntKind.i64.wrap ↑(BitVec.ofInt 64  (xT script s.i) &&& BitVec.ofInt 64 15).toNat) + size) ≠ bif true then max (IntKind.i64.wrap (IntKind.i64.wrap (s.t + IntKind.i64.wrap ↑(BitVec.ofInt 64  (xT script s.i) &&& BitVec.ofInt 64 15).toNat) + size)) 0 else min (IntKind.i64.wrap (IntKind.i64.wrap (s.t + IntKind.i64.wrap ↑(BitVec.ofInt 64  (xT script s.i) &&& BitVec.ofInt 64 15).toNat) + size)) 0) = true →
 false = true) ∧
 (decide (IntKind.i64.wrap (IntKind.i64.wrap (s.t + IntKind.i64.wrap ↑(BitVec.ofInt 64  (xT script s.i) &&& BitVec.ofInt 64 15).toNat) + size) ≠ bif true then max (IntKind.i64.wrap (IntKind.i64.wrap (s.t + IntKind.i64.wrap ↑(BitVec.ofInt 64  (xT script s.i) &&& BitVec.ofInt 64 15).toNat) + size)) 0 else min (IntKind.i64.wrap (IntKind.i64.wrap (s.t + IntKind.i64.wrap ↑(BitVec.ofInt 64  (xT script s.i) &&& BitVec.ofInt 64 15).toNat) + size)) 0) = false →
 ((!false == decide (IntKind.i64.wrap (s.t + IntKind.i64.wrap ↑(BitVec.ofInt 64  (xT script s.i) &&& BitVec.ofInt 64 15).toNat) < bif true then max (IntKind.i64.wrap (IntKind.i64.wrap (s.t + IntKind.i64.wrap ↑(BitVec.ofInt 64  (xT script s.i) &&& BitVec.ofInt 64 15).toNat) + size)) 0 else min (IntKind.i64.wrap (IntKind.i64.wrap (s.t + IntKind.i64.wrap ↑(BitVec.ofInt 64  (xT script s.i) &&& BitVec.ofInt 64 15).toNat) + size)) 0)) = true →
 false = true) ∧
 ((!false == decide (IntKind.i64.wrap (s.t + IntKind.i64.wrap ↑(BitVec.ofInt 64  (xT script s.i) &&& BitVec.ofInt 64 15).toNat) < bif true then max (IntKind.i64.wrap (IntKind.i64.wrap (s.t + IntKind.i64.wrap ↑(BitVec.ofInt 64  (xT script s.i) &&& BitVec.ofInt 64 15).toNat) + size)) 0 else min (IntKind.i64.wrap (IntKind.i64.wrap (s.t + IntKind.i64.wrap ↑(BitVec.ofInt 64  (xT script s.i) &&& BitVec.ofInt 64 15).toNat) + size)) 0)) = false →
 ∃ s', inv s' ∧
 script.length - s'.i.toNat < script.length - s.i.toNat ∧
 script = script ∧
 size = size ∧
 IntKind.i64.wrap (s.t + IntKind.i64.wrap ↑(BitVec.ofInt 64  (xT script s.i) &&& BitVec.ofInt 64 15).toNat) = s'.t ∧
 (bif true then max (IntKind.i64.wrap (IntKind.i64.wrap (s.t + IntKind.i64.wrap ↑(BitVec.ofInt 64  (xT script s.i) &&& BitVec.ofInt 64 15).toNat) + size)) 0 else min (IntKind.i64.wrap (IntKind.i64.wrap (s.t + IntKind.i64.wrap ↑(BitVec.ofInt 64  (xT script s.i) &&& BitVec.ofInt 64 15).toNat) + size)) 0) = s'.til ∧
 IntKind.i64.wrap (s.i + 1) = s'.i ∧
 size = size ∧
  (xR script s.i) = s'.gR ∧
  (xN script s.i) = s'.gN ∧
 IntKind.i64.wrap (IntKind.i64.wrap (s.t + IntKind.i64.wrap ↑(BitVec.ofInt 64  (xT script s.i) &&& BitVec.ofInt 64 15).toNat) + size) = s'.gU ∧
  (xR script s.i) = s'.toR ∧
  (xN script s.i) = s'.toN))) ∧
 (decide (IntKind.i64.wrap (IntKind.i64.wrap (s.t + IntKind.i64.wrap ↑(BitVec.ofInt 64  (xT script s.i) &&& BitVec.ofInt 64 15).toNat) + size) ≤ IntKind.i64.wrap (s.t + IntKind.i64.wrap ↑(BitVec.ofInt 64  (xT script s.i) &&& BitVec.ofInt 64 15).toNat)) = false →
 (decide (IntKind.i64.wrap (IntKind.i64.wrap (s.t + IntKind.i64.wrap ↑(BitVec.ofInt 64  (xT script s.i) &&& BitVec.ofInt 64 15).toNat) + size) ≠ bif true then max (IntKind.i64.wrap (IntKind.i64.wrap (s.t + IntKind.i64.wrap ↑(BitVec.ofInt 64  (xT script s.i) &&& BitVec.ofInt 64 15).toNat) + size)) 0 else min (IntKind.i64.wrap (IntKind.i64.wrap (s.t + IntKind.i64.wrap ↑(BitVec.ofInt 64  (xT script s.i) &&& BitVec.ofInt 64 15).toNat) + size)) 0) = true →
 false = true) ∧
 (decide (IntKind.i64.wrap (IntKind.i64.wrap (s.t + IntKind.i64.wrap ↑(BitVec.ofInt 64  (xT script s.i) &&& BitVec.ofInt 64 15).toNat) + size) ≠ bif true then max (IntKind.i64.wrap (IntKind.i64.wrap (s.t + IntKind.i64.wrap ↑(BitVec.ofInt 64  (xT script s.i) &&& BitVec.ofInt 64 15).toNat) + size)) 0 else min (IntKind.i64.wrap (IntKind.i64.wrap (s.t + IntKind.i64.wrap ↑(BitVec.ofInt 64  (xT script s.i) &&& BitVec.ofInt 64 15).toNat) + size)) 0) = false →
 ((!true == decide (IntKind.i64.wrap (s.t + IntKind.i64.wrap ↑(BitVec.ofInt 64  (xT script s.i) &&& BitVec.ofInt 64 15).toNat) < bif true then max (IntKind.i64.wrap (IntKind.i64.wrap (s.t + IntKind.i64.wrap ↑(BitVec.ofInt 64  (xT script s.i) &&& BitVec.ofInt 64 15).toNat) + size)) 0 else min (IntKind.i64.wrap (IntKind.i64.wrap (s.t + IntKind.i64.wrap ↑(BitVec.ofInt 64  (xT script s.i) &&& BitVec.ofInt 64 15).toNat) + size)) 0)) = true →
 false = true) ∧
 ((!true == decide (IntKind.i64.wrap (s.t + IntKind.i64.wrap ↑(BitVec.ofInt 64  (xT script s.i) &&& BitVec.ofInt 64 15).toNat) < bif true then max (IntKind.i64.wrap (IntKind.i64.wrap (s.t + IntKind.i64.wrap ↑(BitVec.ofInt 64  (xT script s.i) &&& BitVec.ofInt 64 15).toNat) + size)) 0 else min (IntKind.i64.wrap (IntKind.i64.wrap (s.t + IntKind.i64.wrap ↑(BitVec.ofInt 64  (xT script s.i) &&& BitVec.ofInt 64 15).toNat) + size)) 0)) = false →
 ((!(decide ( (xR script s.i) =  (xR script s.i)) && decide ( (xN script s.i) =  (xN script s.i)))) = true →
 false = true) ∧
 ((!(decide ( (xR script s.i) =  (xR script s.i)) && decide ( (xN script s.i) =  (xN script s.i)))) = false →
 ∃ s', inv s' ∧
 script.length - s'.i.toNat < script.length - s.i.toNat ∧
 script = script ∧
 size = size ∧
 IntKind.i64.wrap (s.t + IntKind.i64.wrap ↑(BitVec.ofInt 64  (xT script s.i) &&& BitVec.ofInt 64 15).toNat) = s'.t ∧
 (bif true then max (IntKind.i64.wrap (IntKind.i64.wrap (s.t + IntKind.i64.wrap ↑(BitVec.ofInt 64  (xT script s.i) &&& BitVec.ofInt 64 15).toNat) + size)) 0 else min (IntKind.i64.wrap (IntKind.i64.wrap (s.t + IntKind.i64.wrap ↑(BitVec.ofInt 64  (xT script s.i) &&& BitVec.ofInt 64 15).toNat) + size)) 0) = s'.til ∧
 IntKind.i64.wrap (s.i + 1) = s'.i ∧
 size = size ∧
  (xR script s.i) = s'.gR ∧
  (xN script s.i) = s'.gN ∧
 IntKind.i64.wrap (IntKind.i64.wrap (s.t + IntKind.i64.wrap ↑(BitVec.ofInt 64  (xT script s.i) &&& BitVec.ofInt 64 15).toNat) + size) = s'.gU ∧
  (xR script s.i) = s'.toR ∧
  (xN script s.i) = s'.toN))))))))))) ∧
 (decide (s.i < (script.length : Int)) = false →
 true = true)))))

theorem owed_eq (length now size : Int) (script : List stepR.den) (inv : LK → Prop) : owed length now size script inv = vF Try.prog S1 (vC Try.prog S1 (L1 size script inv) 1000) 11 [.sI .u16 length, .sI .u16 now, .dsl stepR script] H0 (fun v _ => isB v true) := by kernel_rfl
end
end Go.Proofs.Ytdeoahhofhmgfaa.LeaseKeeps
