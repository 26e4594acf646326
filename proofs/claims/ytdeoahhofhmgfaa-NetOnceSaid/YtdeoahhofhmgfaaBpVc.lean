/- A part of the proof that 'slices.Sort' returns true for every input. No condition. -/
import Derived.Test.YtdeoahhofhmgfaaAmJ
import Derived.KernelRfl
import Derived.Test.YtdeoahhofhmgfaaSzS2
namespace Go.Proofs.Ytdeoahhofhmgfaa.Sz.Bp
open Go.AM
noncomputable section
structure X1 where
  rows : List Int
  i : Int
  x : Int
def LA (inv : X1 → Prop) (_fr : Fr) : LInv := ⟨X1, inv, fun s => patch [0, 1, 2, 6, 7, 8] [(9, .sI .i64 s.i)] [(0, .seq uR s.rows none), (1, .cells false 1 [.sI .u64 s.x] (some 199))], fun s => (4611686018427387905 - s.i).toNat⟩
def LL (iA : X1 → Prop) : LTab := fun f k fr _ => match f, k with
  | 118, 5 => some (LA iA fr)
  | _, _ => none
def w0 (a : Int) (b : Int) : Int := IntKind.i64.wrap (b - a)
def w1 (a : Int) (b : Int) : Bool := decide ((8 : Int) ≤ w0 a b)
def w2 (a : Int) (b : Int) : Int := IntKind.i64.wrap (a + IntKind.i64.wrap (IntKind.i64.wrap ((w0 a b).tdiv (4 : Int)) * (2 : Int)))
def w3 (a : Int) (b : Int) (s : X1) : Bool := decide (s.i ≤ IntKind.i64.wrap (w2 a b + (1 : Int)))
def w4 (s : X1) : IntKind × Int := (IntKind.u64, s.x)
def w5 (s : X1) : Nat := (w4 s).fst.bits
def w6 (s : X1) : Int := (w4 s).snd
def w7 (s : X1) : IntKind × Int := (IntKind.u64, (w4 s).fst.wrap (↑(BitVec.ofInt (w5 s) (w6 s) ^^^ BitVec.ofInt (w5 s) ((w4 s).fst, (w4 s).fst.wrap (w6 s * (2 : Int) ^ min (IntKind.u64, (13 : Int)).snd.toNat (w5 s))).snd).toNat : Int))
def w8 (s : X1) : Nat := (w7 s).fst.bits
def w9 (s : X1) : Int := (w7 s).snd
def w10 (s : X1) : IntKind × Int := (IntKind.u64, (w7 s).fst.wrap (↑(BitVec.ofInt (w8 s) (w9 s) ^^^ BitVec.ofInt (w8 s) ((w7 s).fst, (w9 s).fdiv ((2 : Int) ^ min (IntKind.u64, (7 : Int)).snd.toNat (w8 s))).snd).toNat : Int))
def w11 (s : X1) : Nat := (w10 s).fst.bits
def w12 (s : X1) : Int := (w10 s).snd
def w13 (s : X1) : Nat := (IntKind.u64, (w10 s).fst.wrap (↑(BitVec.ofInt (w11 s) (w12 s) ^^^ BitVec.ofInt (w11 s) ((w10 s).fst, (w10 s).fst.wrap (w12 s * (2 : Int) ^ min (IntKind.u64, (17 : Int)).snd.toNat (w11 s))).snd).toNat : Int)).fst.bits
def w14 (s : X1) : Int := IntKind.u64.wrap (↑(BitVec.ofInt (64 : Nat) s.x ^^^ BitVec.ofInt (64 : Nat) (IntKind.u64.wrap (s.x * (8192 : Int)))).toNat : Int)
def w15 (s : X1) : Int := IntKind.u64.wrap (↑(BitVec.ofInt (64 : Nat) (w14 s) ^^^ BitVec.ofInt (64 : Nat) ((w14 s).fdiv (128 : Int))).toNat : Int)
def w16 (s : X1) : Int := IntKind.u64.wrap (↑(BitVec.ofInt (64 : Nat) (w15 s) ^^^ BitVec.ofInt (64 : Nat) (IntKind.u64.wrap (w15 s * (131072 : Int)))).toNat : Int)
def w17 (m : Int) (s : X1) : Int := IntKind.i64.wrap (IntKind.u64.wrap (↑(BitVec.ofInt (64 : Nat) (w16 s) &&& BitVec.ofInt (64 : Nat) (IntKind.u64.wrap (m - (1 : Int)))).toNat : Int))
def w18 (a : Int) (b : Int) (m : Int) (s : X1) : Int := bif decide (w0 a b ≤ w17 m s) then IntKind.i64.wrap (w17 m s - w0 a b) else w17 m s
def w19 (a : Int) (b : Int) (m : Int) (s : X1) : Int := IntKind.i64.wrap (a + w18 a b m s)
def w20 (s : X1) : Int := (↑s.rows.length : Int)
def w21 (a : Int) (b : Int) (m : Int) (s : X1) : Nat := (w19 a b m s).toNat
def w22 (a : Int) (b : Int) (m : Int) (s : X1) : List Int := s.rows.set s.i.toNat (rowU s.rows (w21 a b m s))
def owed (a b : Int) (rows : List Int) (ok : List Int → Prop) (iA : Int → X1 → Prop) : Prop :=
  (w1 a b = true →
 ((1 : Int) ≤ w0 a b ∧
 w0 a b < (4611686018427387904 : Int)) ∧
 ∀ (m : Int), w0 a b < m →
 m ≤ (2 : Int) * w0 a b →
 (4 : Int) ≠ (0 : Int) ∧
 ∃ s0, iA b s0 ∧
 (IntKind.i64.wrap (w2 a b - (1 : Int)) = s0.i ∧
 a = a ∧
 b = b ∧
 w0 a b = w0 a b ∧
 m = m ∧
 rows = s0.rows ∧
 IntKind.u64.wrap (w0 a b) = s0.x) ∧
 ∀ (s : X1), iA b s →
 IntKind.i64.has a →
 IntKind.i64.has s.i →
 IntKind.i64.has b →
 IntKind.u64.has m →
 IntKind.i64.has (w0 a b) →
 (∀ (row : Int), row ∈ s.rows →
 (RTy.one (CTy.int IntKind.u64)).Has row) →
 IntKind.u64.has s.x →
 (4 : Int) ≠ (0 : Int) ∧
 (w3 a b s = true →
 ((0 : Int) ≤ (13 : Int) ∧
 (0 : Int) ≤ (7 : Int) ∧
 (0 : Int) ≤ (17 : Int)) ∧
 (((0 : Int) ≤ w19 a b m s ∧
 w19 a b m s < w20 s) ∧
 ((0 : Int) ≤ s.i ∧
 s.i < w20 s) ∧
 ((0 : Int) ≤ s.i ∧
 s.i < w20 s) ∧
 (a = a ∧
 w18 a b m s = w18 a b m s ∧
 w19 a b m s = w19 a b m s) ∧
 (0 : Int) ≤ w19 a b m s ∧
 w19 a b m s < (↑(w22 a b m s).length : Int)) ∧
 ∃ s', iA b s' ∧
 ((4611686018427387905 : Int) - s'.i).toNat < ((4611686018427387905 : Int) - s.i).toNat ∧
 IntKind.i64.wrap (s.i + (1 : Int)) = s'.i ∧
 a = a ∧
 b = b ∧
 w0 a b = w0 a b ∧
 m = m ∧
 ((w22 a b m s).set (w21 a b m s) (rowU s.rows s.i.toNat)) = s'.rows ∧
 w16 s = s'.x) ∧
 ((!w3 a b s) = true →
 ok s.rows ∧
 (1 : Nat) ≤ (2 : Nat))) ∧
 (w1 a b = false →
 ok rows ∧
 (1 : Nat) ≤ (1 : Nat))

theorem owed_eq (a b : Int) (rows : List Int) (ok : List Int → Prop) (iA : Int → X1 → Prop) : owed a b rows ok iA = vTop Try.prog S1 (LL (iA b)) 20000 118 [.sw 0, .sI .i64 a, .sI .i64 b] (hS rows) (postN ok) := by kernel_rfl
end
end Go.Proofs.Ytdeoahhofhmgfaa.Sz.Bp
