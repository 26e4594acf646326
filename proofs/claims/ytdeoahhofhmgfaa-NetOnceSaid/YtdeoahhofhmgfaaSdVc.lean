/- A part of the proof that 'slices.Sort' returns true for every input. No condition. -/
import Derived.Test.YtdeoahhofhmgfaaAmJ
import Derived.KernelRfl
import Derived.Test.YtdeoahhofhmgfaaSzT
namespace Go.Proofs.Ytdeoahhofhmgfaa.Sz.Sd
open Go.AM
noncomputable section
def LA (hi : Int) (inv : I1 → Prop) (fr : Fr) : LInv := ⟨I1, inv, fun s => patch [0, 1, 2, 3] [(8, .sI .i64 s.i)] [(0, .seq uR s.rows none)], fun s => (hi - s.i).toNat⟩
def LL (hi : Int) (iA : I1 → Prop) : LTab := fun f k fr _ => match f, k with
  | 136, 1 => some (LA hi iA fr)
  | _, _ => none
def w0 (s : I1) : Int := IntKind.i64.wrap (IntKind.i64.wrap ((2 : Int) * s.i) + (1 : Int))
def w1 (hi : Int) (s : I1) : Bool := decide (hi ≤ w0 s)
def w2 (s : I1) : Int := IntKind.i64.wrap (w0 s + (1 : Int))
def w3 (hi : Int) (s : I1) : Bool := decide (w2 s < hi)
def w4 (first : Int) (s : I1) : Int := IntKind.i64.wrap (first + w0 s)
def w5 (s : I1) : Int := (↑s.rows.length : Int)
def w6 (first : Int) (s : I1) : Int := IntKind.i64.wrap (w4 first s + (1 : Int))
def w7 (first : Int) (s : I1) : Int := IntKind.i64.wrap (first + s.i)
def w8 (first : Int) (s : I1) : Nat := (w4 first s).toNat
def w9 (first : Int) (s : I1) : Nat := (w6 first s).toNat
def w10 (first : Int) (s : I1) : Bool := decide (rowU s.rows (w8 first s) < rowU s.rows (w9 first s))
def w11 (hi : Int) (first : Int) (s : I1) : Int := bif w3 hi s && bif decide (rowU s.rows (w8 first s) ≠ rowU s.rows (w8 first s)) then !decide (rowU s.rows (w9 first s) ≠ rowU s.rows (w9 first s)) || w10 first s else w10 first s then w2 s else w0 s
def w12 (hi : Int) (first : Int) (s : I1) : Int := IntKind.i64.wrap (first + w11 hi first s)
def w13 (first : Int) (s : I1) : Nat := (w7 first s).toNat
def w14 (hi : Int) (first : Int) (s : I1) : Nat := (w12 hi first s).toNat
def w15 (hi : Int) (first : Int) (s : I1) : Bool := decide (rowU s.rows (w13 first s) < rowU s.rows (w14 hi first s))
def w16 (hi : Int) (first : Int) (s : I1) : Bool := !bif decide (rowU s.rows (w13 first s) ≠ rowU s.rows (w13 first s)) then !decide (rowU s.rows (w14 hi first s) ≠ rowU s.rows (w14 hi first s)) || w15 hi first s else w15 hi first s
def w17 (hi : Int) (first : Int) (s : I1) : List Int := s.rows.set (w13 first s) (rowU s.rows (w14 hi first s))
def part0 (first : Int) (s : I1) : Prop := (0 : Int) ≤ w7 first s ∧
 w7 first s < w5 s
def part1 (hi : Int) (first : Int) (s : I1) : Prop := (0 : Int) ≤ w12 hi first s ∧
 w12 hi first s < w5 s
def owed (lo hi first : Int) (rows : List Int) (ok : List Int → Prop) (iA : I1 → Prop) : Prop :=
  ∃ s0, iA s0 ∧
 (lo = s0.i ∧
 lo = lo ∧
 hi = hi ∧
 first = first ∧
 rows = s0.rows) ∧
 ∀ (s : I1), iA s →
 IntKind.i64.has lo →
 IntKind.i64.has first →
 IntKind.i64.has hi →
 IntKind.i64.has s.i →
 (∀ (row : Int), row ∈ s.rows →
 (RTy.one (CTy.int IntKind.u64)).Has row) →
 (w1 hi s = true →
 ok s.rows ∧
 (1 : Nat) ≤ (1 : Nat)) ∧
 ((!w1 hi s) = true →
 (w3 hi s = true →
 ((0 : Int) ≤ w4 first s ∧
 w4 first s < w5 s) ∧
 (0 : Int) ≤ w6 first s ∧
 w6 first s < w5 s) ∧
 (part0 first s ∧
 part1 hi first s) ∧
 (w16 hi first s = true →
 ok s.rows ∧
 (1 : Nat) ≤ (1 : Nat)) ∧
 ((!w16 hi first s) = true →
 (part1 hi first s ∧
 part0 first s ∧
 part0 first s ∧
 (first = first ∧
 w11 hi first s = w11 hi first s ∧
 w12 hi first s = w12 hi first s) ∧
 (0 : Int) ≤ w12 hi first s ∧
 w12 hi first s < (↑(w17 hi first s).length : Int)) ∧
 ∃ s', iA s' ∧
 (hi - s'.i).toNat < (hi - s.i).toNat ∧
 w11 hi first s = s'.i ∧
 lo = lo ∧
 hi = hi ∧
 first = first ∧
 ((w17 hi first s).set (w14 hi first s) (rowU s.rows (w13 first s))) = s'.rows))

theorem owed_eq (lo hi first : Int) (rows : List Int) (ok : List Int → Prop) (iA : I1 → Prop) : owed lo hi first rows ok iA = vTop Try.prog noS (LL hi iA) 20000 136 [.sw 0, .sI .i64 lo, .sI .i64 hi, .sI .i64 first] (hS rows) (postN ok) := by kernel_rfl
end
end Go.Proofs.Ytdeoahhofhmgfaa.Sz.Sd
