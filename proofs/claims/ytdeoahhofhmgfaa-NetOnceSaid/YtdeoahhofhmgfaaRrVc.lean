/- A part of the proof that 'slices.Sort' returns true for every input. No condition. -/
import Derived.Test.YtdeoahhofhmgfaaAmJ
import Derived.KernelRfl
import Derived.Test.YtdeoahhofhmgfaaSzT
namespace Go.Proofs.Ytdeoahhofhmgfaa.Sz.Rr
open Go.AM
noncomputable section
def LA (inv : I2 → Prop) (fr : Fr) : LInv := ⟨I2, inv, fun s => patch [0, 1, 2] [(6, .sI .i64 s.i), (7, .sI .i64 s.j)] [(0, .seq uR s.rows none)], fun s => (s.j - s.i).toNat⟩
def LL (iA : I2 → Prop) : LTab := fun f k fr _ => match f, k with
  | 120, 2 => some (LA iA fr)
  | _, _ => none
def w0 (s : I2) : Bool := decide (s.i < s.j)
def w1 (s : I2) : Int := (↑s.rows.length : Int)
def w2 (s : I2) : List Int := s.rows.set s.i.toNat (rowU s.rows s.j.toNat)
def owed (a b : Int) (rows : List Int) (ok : List Int → Prop) (iA : I2 → Prop) : Prop :=
  ∃ s0, iA s0 ∧
 (a = s0.i ∧
 IntKind.i64.wrap (b - (1 : Int)) = s0.j ∧
 a = a ∧
 b = b ∧
 rows = s0.rows) ∧
 ∀ (s : I2), iA s →
 IntKind.i64.has a →
 IntKind.i64.has s.j →
 IntKind.i64.has b →
 IntKind.i64.has s.i →
 (∀ (row : Int), row ∈ s.rows →
 (RTy.one (CTy.int IntKind.u64)).Has row) →
 (w0 s = true →
 (((0 : Int) ≤ s.j ∧
 s.j < w1 s) ∧
 ((0 : Int) ≤ s.i ∧
 s.i < w1 s) ∧
 ((0 : Int) ≤ s.i ∧
 s.i < w1 s) ∧
 s.j = s.j ∧
 (0 : Int) ≤ s.j ∧
 s.j < (↑(w2 s).length : Int)) ∧
 ∃ s', iA s' ∧
 (s'.j - s'.i).toNat < (s.j - s.i).toNat ∧
 IntKind.i64.wrap (s.i + (1 : Int)) = s'.i ∧
 IntKind.i64.wrap (s.j - (1 : Int)) = s'.j ∧
 a = a ∧
 b = b ∧
 ((w2 s).set s.j.toNat (rowU s.rows s.i.toNat)) = s'.rows) ∧
 ((!w0 s) = true →
 ok s.rows ∧
 (1 : Nat) ≤ (1 : Nat))

theorem owed_eq (a b : Int) (rows : List Int) (ok : List Int → Prop) (iA : I2 → Prop) : owed a b rows ok iA = vTop Try.prog noS (LL iA) 20000 120 [.sw 0, .sI .i64 a, .sI .i64 b] (hS rows) (postN ok) := by kernel_rfl
end
end Go.Proofs.Ytdeoahhofhmgfaa.Sz.Rr
