/- A part of the proof that 'slices.Sort' returns true for every input. No condition. -/
import Derived.Test.YtdeoahhofhmgfaaAmJ
import Derived.KernelRfl
import Derived.Test.YtdeoahhofhmgfaaSzT
namespace Go.Proofs.Ytdeoahhofhmgfaa.Sz.In
open Go.AM
noncomputable section
def LI (inv : I1 → Prop) : LInv := ⟨I1, inv, fun s => patch [0, 1, 2] [(6, .sI .i64 s.i)] [(0, .seq uR s.rows none)], fun s => (4611686018427387904 - s.i).toNat⟩
def LJ (inv : Int → J1 → Prop) (fr : Fr) : LInv := ⟨J1, inv (Go.AM.intOf fr 6), fun s => patch [0, 1, 2, 6] [(7, .sI .i64 s.j)] [(0, .seq uR s.rows none)], fun s => (s.j + 1).toNat⟩
def LL (i : I1 → Prop) (j : Int → J1 → Prop) : LTab := fun f k fr _ => match f, k with
  | 116, 1 => some (LI i)
  | 116, 4 => some (LJ j fr)
  | _, _ => none
def w0 (b : Int) (s : I1) : Bool := decide (s.i < b)
def w1 (a : Int) (b : Int) (s : I1) : Int := intOf (((((T.nil.node (some (AV.sI IntKind.i64 s.i)) T.nil).node (some (AV.sI IntKind.i64 s.i)) T.nil).node none (T.nil.node (some (AV.sI IntKind.i64 b)) T.nil)).node (some (AV.sI IntKind.i64 a)) T.nil).node (some (AV.sw (0 : Nat))) ((T.nil.node none (T.nil.node (some (AV.sB (w0 b s))) T.nil)).node (some (AV.sI IntKind.i64 b)) ((T.nil.node (some (AV.sI IntKind.i64 s.i)) T.nil).node (some (AV.sI IntKind.i64 s.i)) T.nil))) (6 : Nat)
def w2 (a : Int) (s1 : J1) : Bool := decide (a < s1.j)
def w3 (s1 : J1) : Int := (↑s1.rows.length : Int)
def w4 (s1 : J1) : Int := IntKind.i64.wrap (s1.j - (1 : Int))
def w5 (s1 : J1) : Nat := (w4 s1).toNat
def w6 (s1 : J1) : Bool := decide (rowU s1.rows s1.j.toNat < rowU s1.rows (w5 s1))
def w7 (a : Int) (s1 : J1) : Bool := w2 a s1 && bif decide (rowU s1.rows s1.j.toNat ≠ rowU s1.rows s1.j.toNat) then !decide (rowU s1.rows (w5 s1) ≠ rowU s1.rows (w5 s1)) || w6 s1 else w6 s1
def w8 (s1 : J1) : List Int := s1.rows.set s1.j.toNat (rowU s1.rows (w5 s1))
def part0 (s1 : J1) : Prop := (0 : Int) ≤ w4 s1 ∧
 w4 s1 < w3 s1
def owed (a b : Int) (rows : List Int) (ok : List Int → Prop) (i : I1 → Prop) (j : Int → J1 → Prop) : Prop :=
  ∃ s0, i s0 ∧
 (IntKind.i64.wrap (a + (1 : Int)) = s0.i ∧
 a = a ∧
 b = b ∧
 rows = s0.rows) ∧
 ∀ (s : I1), i s →
 IntKind.i64.has a →
 IntKind.i64.has b →
 IntKind.i64.has s.i →
 (∀ (row : Int), row ∈ s.rows →
 (RTy.one (CTy.int IntKind.u64)).Has row) →
 (w0 b s = true →
 ∃ s01, j (w1 a b s) s01 ∧
 (s.i = s01.j ∧
 a = a ∧
 b = b ∧
 s.i = s.i ∧
 s.rows = s01.rows) ∧
 ∀ (s1 : J1), j (w1 a b s) s1 →
 IntKind.i64.has a →
 IntKind.i64.has s1.j →
 IntKind.i64.has b →
 IntKind.i64.has s.i →
 (∀ (row1 : Int), row1 ∈ s1.rows →
 (RTy.one (CTy.int IntKind.u64)).Has row1) →
 (w2 a s1 = true →
 ((0 : Int) ≤ s1.j ∧
 s1.j < w3 s1) ∧
 part0 s1) ∧
 (w7 a s1 = true →
 (part0 s1 ∧
 ((0 : Int) ≤ s1.j ∧
 s1.j < w3 s1) ∧
 ((0 : Int) ≤ s1.j ∧
 s1.j < w3 s1) ∧
 (s1.j = s1.j ∧
 w4 s1 = w4 s1) ∧
 (0 : Int) ≤ w4 s1 ∧
 w4 s1 < (↑(w8 s1).length : Int)) ∧
 ∃ s', j (w1 a b s) s' ∧
 (s'.j + (1 : Int)).toNat < (s1.j + (1 : Int)).toNat ∧
 w4 s1 = s'.j ∧
 a = a ∧
 b = b ∧
 s.i = s.i ∧
 ((w8 s1).set (w5 s1) (rowU s1.rows s1.j.toNat)) = s'.rows) ∧
 ((!w7 a s1) = true →
 ∃ s'1, i s'1 ∧
 ((4611686018427387904 : Int) - s'1.i).toNat < ((4611686018427387904 : Int) - s.i).toNat ∧
 IntKind.i64.wrap (s.i + (1 : Int)) = s'1.i ∧
 a = a ∧
 b = b ∧
 s1.rows = s'1.rows)) ∧
 ((!w0 b s) = true →
 ok s.rows ∧
 (1 : Nat) ≤ (1 : Nat))

theorem owed_eq (a b : Int) (rows : List Int) (ok : List Int → Prop) (i : I1 → Prop) (j : Int → J1 → Prop) : owed a b rows ok i j = vTop Try.prog noS (LL i j) 20000 116 [.sw 0, .sI .i64 a, .sI .i64 b] (hS rows) (postN ok) := by kernel_rfl
end
end Go.Proofs.Ytdeoahhofhmgfaa.Sz.In
