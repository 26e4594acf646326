/- A part of the proof that 'slices.Sort' returns true for every input. No condition. -/
import Derived.Test.YtdeoahhofhmgfaaAmJ
import Derived.KernelRfl
import Derived.Test.YtdeoahhofhmgfaaSzS2
namespace Go.Proofs.Ytdeoahhofhmgfaa.Sz.Hs
open Go.AM
noncomputable section
def LA (inv : I1 → Prop) (fr : Fr) : LInv := ⟨I1, inv, fun s => patch [0, 1, 2, 6, 7, 8] [(9, .sI .i64 s.i)] [(0, .seq uR s.rows none)], fun s => (s.i + 1).toNat⟩
def LB (inv : I1 → Prop) (fr : Fr) : LInv := ⟨I1, inv, fun s => patch [0, 1, 2, 6, 7, 8] [(10, .sI .i64 s.i)] [(0, .seq uR s.rows none)], fun s => (s.i + 1).toNat⟩
def LL (iA iB : I1 → Prop) : LTab := fun f k fr _ => match f, k with
  | 117, 4 => some (LA iA fr)
  | 117, 8 => some (LB iB fr)
  | _, _ => none
def w0 (a : Int) (b : Int) : Int := IntKind.i64.wrap (b - a)
def w1 (a : Int) (b : Int) : Int := IntKind.i64.wrap (w0 a b - (1 : Int))
def w2 (s : I1) : Bool := decide ((0 : Int) ≤ s.i)
def w3 (s : I1) : Int := (↑s.rows.length : Int)
def w4 (s1 : I1) : Bool := decide ((0 : Int) ≤ s1.i)
def w5 (a : Int) (s1 : I1) : Int := a + s1.i
def w6 (a : Int) (s1 : I1) : Int := IntKind.i64.wrap (w5 a s1)
def w7 (s1 : I1) : Int := (↑s1.rows.length : Int)
def w8 (a : Int) (s1 : I1) : Nat := (w6 a s1).toNat
def w9 (a : Int) (s1 : I1) : List Int := s1.rows.set a.toNat (rowU s1.rows (w8 a s1))
def w10 (a : Int) (s1 : I1) : List Int := (w9 a s1).set (w8 a s1) (rowU s1.rows a.toNat)
def w11 (a : Int) (s1 : I1) : Nat := (w10 a s1).length
def w12 (a : Int) (s1 : I1) : Int := (↑(w11 a s1) : Int)
def owed (a b : Int) (rows : List Int) (ok : List Int → Prop) (iA iB : I1 → Prop) : Prop :=
  (2 : Int) ≠ (0 : Int) ∧
 ∃ s0, iA s0 ∧
 (IntKind.i64.wrap ((w1 a b).tdiv (2 : Int)) = s0.i ∧
 a = a ∧
 b = b ∧
 a = a ∧
 w0 a b = w0 a b ∧
 rows = s0.rows) ∧
 ∀ (s : I1), iA s →
 IntKind.i64.has a →
 IntKind.i64.has s.i →
 IntKind.i64.has b →
 IntKind.i64.has (w0 a b) →
 IntKind.i64.has a →
 (∀ (row : Int), row ∈ s.rows →
 (RTy.one (CTy.int IntKind.u64)).Has row) →
 (w2 s = true →
 ((0 : Int) ≤ s.i ∧
 s.i ≤ w3 s ∧
 (0 : Int) ≤ a ∧
 a ≤ w3 s ∧
 (0 : Int) ≤ w0 a b ∧
 a + w0 a b ≤ w3 s ∧
 s.rows.length < (4611686018427387904 : Nat)) ∧
 ∀ (r : List Int), r.Perm s.rows →
 ∃ s', iA s' ∧
 (s'.i + (1 : Int)).toNat < (s.i + (1 : Int)).toNat ∧
 IntKind.i64.wrap (s.i - (1 : Int)) = s'.i ∧
 a = a ∧
 b = b ∧
 a = a ∧
 w0 a b = w0 a b ∧
 r = s'.rows) ∧
 ((!w2 s) = true →
 ∃ s01, iB s01 ∧
 (w1 a b = s01.i ∧
 a = a ∧
 b = b ∧
 a = a ∧
 w0 a b = w0 a b ∧
 s.rows = s01.rows) ∧
 ∀ (s1 : I1), iB s1 →
 IntKind.i64.has a →
 IntKind.i64.has b →
 IntKind.i64.has (w0 a b) →
 IntKind.i64.has a →
 IntKind.i64.has s1.i →
 (∀ (row1 : Int), row1 ∈ s1.rows →
 (RTy.one (CTy.int IntKind.u64)).Has row1) →
 (w4 s1 = true →
 (((0 : Int) ≤ w6 a s1 ∧
 w6 a s1 < w7 s1) ∧
 ((0 : Int) ≤ a ∧
 a < w7 s1) ∧
 ((0 : Int) ≤ a ∧
 a < w7 s1) ∧
 (a = a ∧
 s1.i = s1.i ∧
 w6 a s1 = w6 a s1) ∧
 (0 : Int) ≤ w6 a s1 ∧
 w6 a s1 < (↑(w9 a s1).length : Int)) ∧
 ((0 : Int) ≤ (0 : Int) ∧
 (0 : Int) ≤ w12 a s1 ∧
 (0 : Int) ≤ a ∧
 a ≤ w12 a s1 ∧
 (0 : Int) ≤ s1.i ∧
 w5 a s1 ≤ w12 a s1 ∧
 w11 a s1 < (4611686018427387904 : Nat)) ∧
 ∀ (r1 : List Int), r1.Perm (w10 a s1) →
 ∃ s'1, iB s'1 ∧
 (s'1.i + (1 : Int)).toNat < (s1.i + (1 : Int)).toNat ∧
 IntKind.i64.wrap (s1.i - (1 : Int)) = s'1.i ∧
 a = a ∧
 b = b ∧
 a = a ∧
 w0 a b = w0 a b ∧
 r1 = s'1.rows) ∧
 ((!w4 s1) = true →
 ok s1.rows ∧
 (1 : Nat) ≤ (1 : Nat)))

theorem owed_eq (a b : Int) (rows : List Int) (ok : List Int → Prop) (iA iB : I1 → Prop) : owed a b rows ok iA iB = vTop Try.prog S1 (LL iA iB) 20000 117 [.sw 0, .sI .i64 a, .sI .i64 b] (hS rows) (postN ok) := by kernel_rfl
end
end Go.Proofs.Ytdeoahhofhmgfaa.Sz.Hs
