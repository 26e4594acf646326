/- A part of the proof that 'slices.Sort' returns true for every input. No condition. -/
import Derived.Test.YtdeoahhofhmgfaaAmJ
import Derived.KernelRfl
import Derived.Test.YtdeoahhofhmgfaaSzS2
namespace Go.Proofs.Ytdeoahhofhmgfaa.Sz.Cp
open Go.AM
noncomputable section
/-- It hands back a place and a hint, and turned nothing. -/
def postP (rows : List Int) (ok : Int → Prop) (v : AV) (H' : Heap) : Prop := match v with
  | .tup [x, y] => match x.asX, y.asX with
    | some (.i64, n), some (.i64, m) => ok n ∧ 0 ≤ m ∧ m ≤ 2 ∧ H'.get 0 = some (.seq uR rows none) ∧ 1 ≤ H'.next
    | _, _ => False
  | _ => False
def w0 (a : Int) (b : Int) : Int := IntKind.i64.wrap (b - a)
def w1 (a : Int) (b : Int) : Bool := decide ((8 : Int) ≤ w0 a b)
def w2 (a : Int) (b : Int) : Bool := decide ((50 : Int) ≤ w0 a b)
def w3 (a : Int) (b : Int) : Int := IntKind.i64.wrap ((w0 a b).tdiv (4 : Int))
def w4 (a : Int) (b : Int) : Int := IntKind.i64.wrap (a + IntKind.i64.wrap (w3 a b * (1 : Int)))
def w5 (rows : List Int) : Int := (↑rows.length : Int)
def w6 (a : Int) (b : Int) : Int := IntKind.i64.wrap (w4 a b - (1 : Int))
def w7 (a : Int) (b : Int) : Int := IntKind.i64.wrap (w4 a b + (1 : Int))
def w8 (a : Int) (b : Int) : Nat := (w4 a b).toNat
def w9 (a : Int) (b : Int) : Nat := (w6 a b).toNat
def w10 (a : Int) (b : Int) (rows : List Int) : Bool := decide (rowU rows (w8 a b) < rowU rows (w9 a b))
def w11 (a : Int) (b : Int) (rows : List Int) : Bool := !bif decide (rowU rows (w8 a b) ≠ rowU rows (w8 a b)) then !decide (rowU rows (w9 a b) ≠ rowU rows (w9 a b)) || w10 a b rows else w10 a b rows
def w12 (a : Int) (b : Int) (rows : List Int) : Int := bif w11 a b rows then w4 a b else w6 a b
def w13 (a : Int) (b : Int) : Nat := (w7 a b).toNat
def w14 (a : Int) (b : Int) (rows : List Int) : Nat := (w12 a b rows).toNat
def w15 (a : Int) (b : Int) (rows : List Int) : Bool := decide (rowU rows (w13 a b) < rowU rows (w14 a b rows))
def w16 (a : Int) (b : Int) (rows : List Int) : Bool := !bif decide (rowU rows (w13 a b) ≠ rowU rows (w13 a b)) then !decide (rowU rows (w14 a b rows) ≠ rowU rows (w14 a b rows)) || w15 a b rows else w15 a b rows
def w17 (a : Int) (b : Int) (rows : List Int) : Int := bif w16 a b rows then w12 a b rows else w7 a b
def w18 (a : Int) (b : Int) (rows : List Int) : Int := bif w11 a b rows then w6 a b else w4 a b
def w19 (a : Int) (b : Int) : Int := IntKind.i64.wrap (a + IntKind.i64.wrap (w3 a b * (2 : Int)))
def w20 (a : Int) (b : Int) : Int := IntKind.i64.wrap (w19 a b - (1 : Int))
def w21 (a : Int) (b : Int) : Int := IntKind.i64.wrap (w19 a b + (1 : Int))
def w22 (a : Int) (b : Int) : Nat := (w19 a b).toNat
def w23 (a : Int) (b : Int) : Nat := (w20 a b).toNat
def w24 (a : Int) (b : Int) (rows : List Int) : Bool := decide (rowU rows (w22 a b) < rowU rows (w23 a b))
def w25 (a : Int) (b : Int) (rows : List Int) : Bool := !bif decide (rowU rows (w22 a b) ≠ rowU rows (w22 a b)) then !decide (rowU rows (w23 a b) ≠ rowU rows (w23 a b)) || w24 a b rows else w24 a b rows
def w26 (a : Int) (b : Int) (rows : List Int) : Int := bif w25 a b rows then w19 a b else w20 a b
def w27 (a : Int) (b : Int) : Nat := (w21 a b).toNat
def w28 (a : Int) (b : Int) (rows : List Int) : Nat := (w26 a b rows).toNat
def w29 (a : Int) (b : Int) (rows : List Int) : Bool := decide (rowU rows (w27 a b) < rowU rows (w28 a b rows))
def w30 (a : Int) (b : Int) (rows : List Int) : Bool := !bif decide (rowU rows (w27 a b) ≠ rowU rows (w27 a b)) then !decide (rowU rows (w28 a b rows) ≠ rowU rows (w28 a b rows)) || w29 a b rows else w29 a b rows
def w31 (a : Int) (b : Int) (rows : List Int) : Int := bif w30 a b rows then w26 a b rows else w21 a b
def w32 (a : Int) (b : Int) (rows : List Int) : Int := bif w25 a b rows then w20 a b else w19 a b
def w33 (a : Int) (b : Int) : Int := IntKind.i64.wrap (a + IntKind.i64.wrap (w3 a b * (3 : Int)))
def w34 (a : Int) (b : Int) : Int := IntKind.i64.wrap (w33 a b - (1 : Int))
def w35 (a : Int) (b : Int) : Int := IntKind.i64.wrap (w33 a b + (1 : Int))
def w36 (a : Int) (b : Int) : Nat := (w33 a b).toNat
def w37 (a : Int) (b : Int) : Nat := (w34 a b).toNat
def w38 (a : Int) (b : Int) (rows : List Int) : Bool := decide (rowU rows (w36 a b) < rowU rows (w37 a b))
def w39 (a : Int) (b : Int) (rows : List Int) : Bool := !bif decide (rowU rows (w36 a b) ≠ rowU rows (w36 a b)) then !decide (rowU rows (w37 a b) ≠ rowU rows (w37 a b)) || w38 a b rows else w38 a b rows
def w40 (a : Int) (b : Int) (rows : List Int) : Int := bif w39 a b rows then w33 a b else w34 a b
def w41 (a : Int) (b : Int) : Nat := (w35 a b).toNat
def w42 (a : Int) (b : Int) (rows : List Int) : Nat := (w40 a b rows).toNat
def w43 (a : Int) (b : Int) (rows : List Int) : Bool := decide (rowU rows (w41 a b) < rowU rows (w42 a b rows))
def w44 (a : Int) (b : Int) (rows : List Int) : Bool := !bif decide (rowU rows (w41 a b) ≠ rowU rows (w41 a b)) then !decide (rowU rows (w42 a b rows) ≠ rowU rows (w42 a b rows)) || w43 a b rows else w43 a b rows
def w45 (a : Int) (b : Int) (rows : List Int) : Int := bif w44 a b rows then w40 a b rows else w35 a b
def w46 (a : Int) (b : Int) (rows : List Int) : Int := bif w39 a b rows then w34 a b else w33 a b
def w47 (a : Int) (b : Int) (rows : List Int) : Nat := (w31 a b rows).toNat
def w48 (a : Int) (b : Int) (rows : List Int) : Nat := (w32 a b rows).toNat
def w49 (a : Int) (b : Int) (rows : List Int) : Bool := decide (rowU rows (w47 a b rows) < rowU rows (w48 a b rows))
def w50 (a : Int) (b : Int) (rows : List Int) : Bool := !bif decide (rowU rows (w47 a b rows) ≠ rowU rows (w47 a b rows)) then !decide (rowU rows (w48 a b rows) ≠ rowU rows (w48 a b rows)) || w49 a b rows else w49 a b rows
def w51 (a : Int) (b : Int) (rows : List Int) : Int := bif w2 a b then bif w50 a b rows then w31 a b rows else w32 a b rows else w19 a b
def w52 (a : Int) (b : Int) (rows : List Int) : Nat := (w17 a b rows).toNat
def w53 (a : Int) (b : Int) (rows : List Int) : Nat := (w18 a b rows).toNat
def w54 (a : Int) (b : Int) (rows : List Int) : Bool := decide (rowU rows (w52 a b rows) < rowU rows (w53 a b rows))
def w55 (a : Int) (b : Int) (rows : List Int) : Bool := !bif decide (rowU rows (w52 a b rows) ≠ rowU rows (w52 a b rows)) then !decide (rowU rows (w53 a b rows) ≠ rowU rows (w53 a b rows)) || w54 a b rows else w54 a b rows
def w56 (a : Int) (b : Int) (rows : List Int) : Int := bif w2 a b then bif w55 a b rows then w17 a b rows else w18 a b rows else w4 a b
def w57 (a : Int) (b : Int) (rows : List Int) : Nat := (w45 a b rows).toNat
def w58 (a : Int) (b : Int) (rows : List Int) : Nat := (w46 a b rows).toNat
def w59 (a : Int) (b : Int) (rows : List Int) : Bool := decide (rowU rows (w57 a b rows) < rowU rows (w58 a b rows))
def w60 (a : Int) (b : Int) (rows : List Int) : Bool := !bif decide (rowU rows (w57 a b rows) ≠ rowU rows (w57 a b rows)) then !decide (rowU rows (w58 a b rows) ≠ rowU rows (w58 a b rows)) || w59 a b rows else w59 a b rows
def w61 (a : Int) (b : Int) (rows : List Int) : Int := bif w2 a b then bif w60 a b rows then w45 a b rows else w46 a b rows else w33 a b
def w62 (a : Int) (b : Int) (rows : List Int) : Nat := (w51 a b rows).toNat
def w63 (a : Int) (b : Int) (rows : List Int) : Nat := (w56 a b rows).toNat
def w64 (a : Int) (b : Int) (rows : List Int) : Bool := decide (rowU rows (w62 a b rows) < rowU rows (w63 a b rows))
def w65 (a : Int) (b : Int) (rows : List Int) : Bool := !bif decide (rowU rows (w62 a b rows) ≠ rowU rows (w62 a b rows)) then !decide (rowU rows (w63 a b rows) ≠ rowU rows (w63 a b rows)) || w64 a b rows else w64 a b rows
def w66 (a : Int) (b : Int) (rows : List Int) : Int := bif w65 a b rows then w51 a b rows else w56 a b rows
def w67 (a : Int) (b : Int) (rows : List Int) : Nat := (w61 a b rows).toNat
def w68 (a : Int) (b : Int) (rows : List Int) : Nat := (w66 a b rows).toNat
def w69 (a : Int) (b : Int) (rows : List Int) : Bool := decide (rowU rows (w67 a b rows) < rowU rows (w68 a b rows))
def w70 (a : Int) (b : Int) (rows : List Int) : Bool := !bif decide (rowU rows (w67 a b rows) ≠ rowU rows (w67 a b rows)) then !decide (rowU rows (w68 a b rows) ≠ rowU rows (w68 a b rows)) || w69 a b rows else w69 a b rows
def w71 (a : Int) (b : Int) (rows : List Int) : Int := bif w70 a b rows then w66 a b rows else w61 a b rows
def w72 (a : Int) (b : Int) (rows : List Int) : Int := bif w65 a b rows then w56 a b rows else w51 a b rows
def w73 (a : Int) (b : Int) (rows : List Int) : Nat := (w71 a b rows).toNat
def w74 (a : Int) (b : Int) (rows : List Int) : Nat := (w72 a b rows).toNat
def w75 (a : Int) (b : Int) (rows : List Int) : Bool := decide (rowU rows (w73 a b rows) < rowU rows (w74 a b rows))
def w76 (a : Int) (b : Int) (rows : List Int) : Bool := !bif decide (rowU rows (w73 a b rows) ≠ rowU rows (w73 a b rows)) then !decide (rowU rows (w74 a b rows) ≠ rowU rows (w74 a b rows)) || w75 a b rows else w75 a b rows
def w77 (a : Int) (b : Int) (rows : List Int) : Int := bif w11 a b rows then (0 : Int) else (1 : Int)
def w78 (a : Int) (b : Int) (rows : List Int) : Int := bif w16 a b rows then w77 a b rows else IntKind.i64.wrap (w77 a b rows + (1 : Int))
def w79 (a : Int) (b : Int) (rows : List Int) : Int := bif w55 a b rows then w78 a b rows else IntKind.i64.wrap (w78 a b rows + (1 : Int))
def w80 (a : Int) (b : Int) (rows : List Int) : Int := bif w25 a b rows then w79 a b rows else IntKind.i64.wrap (w79 a b rows + (1 : Int))
def w81 (a : Int) (b : Int) (rows : List Int) : Int := bif w30 a b rows then w80 a b rows else IntKind.i64.wrap (w80 a b rows + (1 : Int))
def w82 (a : Int) (b : Int) (rows : List Int) : Int := bif w50 a b rows then w81 a b rows else IntKind.i64.wrap (w81 a b rows + (1 : Int))
def w83 (a : Int) (b : Int) (rows : List Int) : Int := bif w39 a b rows then w82 a b rows else IntKind.i64.wrap (w82 a b rows + (1 : Int))
def w84 (a : Int) (b : Int) (rows : List Int) : Int := bif w44 a b rows then w83 a b rows else IntKind.i64.wrap (w83 a b rows + (1 : Int))
def w85 (a : Int) (b : Int) (rows : List Int) : Int := bif w2 a b then bif w60 a b rows then w84 a b rows else IntKind.i64.wrap (w84 a b rows + (1 : Int)) else (0 : Int)
def w86 (a : Int) (b : Int) (rows : List Int) : Int := bif w65 a b rows then w85 a b rows else IntKind.i64.wrap (w85 a b rows + (1 : Int))
def w87 (a : Int) (b : Int) (rows : List Int) : Int := bif w70 a b rows then w86 a b rows else IntKind.i64.wrap (w86 a b rows + (1 : Int))
def w88 (a : Int) (b : Int) (rows : List Int) : Int := bif w1 a b then bif w76 a b rows then w87 a b rows else IntKind.i64.wrap (w87 a b rows + (1 : Int)) else (0 : Int)
def w89 (a : Int) (b : Int) (rows : List Int) : Bool := decide (w88 a b rows = (0 : Int))
def w90 (a : Int) (b : Int) (rows : List Int) : Int := bif w1 a b then bif w76 a b rows then w71 a b rows else w72 a b rows else w19 a b
def w91 (a : Int) (b : Int) (rows : List Int) : Bool := decide (w88 a b rows = (12 : Int))
def w92 (a : Int) (b : Int) (rows : List Int) : Int := bif w89 a b rows then (1 : Int) else bif w91 a b rows then (2 : Int) else (0 : Int)
def owed (a b : Int) (rows : List Int) (ok : Int → Prop) : Prop :=
  (4 : Int) ≠ (0 : Int) ∧
 (4 : Int) ≠ (0 : Int) ∧
 (4 : Int) ≠ (0 : Int) ∧
 (w1 a b = true →
 (w2 a b = true →
 ((((0 : Int) ≤ w4 a b ∧
 w4 a b < w5 rows) ∧
 (0 : Int) ≤ w6 a b ∧
 w6 a b < w5 rows) ∧
 (((0 : Int) ≤ w7 a b ∧
 w7 a b < w5 rows) ∧
 (0 : Int) ≤ w12 a b rows ∧
 w12 a b rows < w5 rows) ∧
 ((0 : Int) ≤ w17 a b rows ∧
 w17 a b rows < w5 rows) ∧
 (0 : Int) ≤ w18 a b rows ∧
 w18 a b rows < w5 rows) ∧
 ((((0 : Int) ≤ w19 a b ∧
 w19 a b < w5 rows) ∧
 (0 : Int) ≤ w20 a b ∧
 w20 a b < w5 rows) ∧
 (((0 : Int) ≤ w21 a b ∧
 w21 a b < w5 rows) ∧
 (0 : Int) ≤ w26 a b rows ∧
 w26 a b rows < w5 rows) ∧
 ((0 : Int) ≤ w31 a b rows ∧
 w31 a b rows < w5 rows) ∧
 (0 : Int) ≤ w32 a b rows ∧
 w32 a b rows < w5 rows) ∧
 (((0 : Int) ≤ w33 a b ∧
 w33 a b < w5 rows) ∧
 (0 : Int) ≤ w34 a b ∧
 w34 a b < w5 rows) ∧
 (((0 : Int) ≤ w35 a b ∧
 w35 a b < w5 rows) ∧
 (0 : Int) ≤ w40 a b rows ∧
 w40 a b rows < w5 rows) ∧
 ((0 : Int) ≤ w45 a b rows ∧
 w45 a b rows < w5 rows) ∧
 (0 : Int) ≤ w46 a b rows ∧
 w46 a b rows < w5 rows) ∧
 (((0 : Int) ≤ w51 a b rows ∧
 w51 a b rows < w5 rows) ∧
 (0 : Int) ≤ w56 a b rows ∧
 w56 a b rows < w5 rows) ∧
 (((0 : Int) ≤ w61 a b rows ∧
 w61 a b rows < w5 rows) ∧
 (0 : Int) ≤ w66 a b rows ∧
 w66 a b rows < w5 rows) ∧
 ((0 : Int) ≤ w71 a b rows ∧
 w71 a b rows < w5 rows) ∧
 (0 : Int) ≤ w72 a b rows ∧
 w72 a b rows < w5 rows) ∧
 ok (bif w89 a b rows then w90 a b rows else bif w91 a b rows then w90 a b rows else w90 a b rows) ∧
 (0 : Int) ≤ w92 a b rows ∧
 w92 a b rows ≤ (2 : Int) ∧
 some (AObj.seq (RTy.one (CTy.int IntKind.u64)) rows none) = some (AObj.seq (RTy.one (CTy.int IntKind.u64)) rows none) ∧
 (1 : Nat) ≤ (2 : Nat)

theorem owed_eq (a b : Int) (rows : List Int) (ok : Int → Prop) : owed a b rows ok = vTop Try.prog S1 noL 20000 119 [.sw 0, .sI .i64 a, .sI .i64 b] (hS rows) (postP rows ok) := by kernel_rfl
end
end Go.Proofs.Ytdeoahhofhmgfaa.Sz.Cp
