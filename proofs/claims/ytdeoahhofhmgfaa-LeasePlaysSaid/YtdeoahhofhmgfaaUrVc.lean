/- A part of the proof that 'reevelaw26.LeasePlays' returns true for every input. No condition. -/
import Derived.Test.YtdeoahhofhmgfaaAmJ
import Derived.KernelRfl
import Derived.Test.YtdeoahhofhmgfaaUtVc
namespace Go.Proofs.Ytdeoahhofhmgfaa.LeasePlays.Ref
open Go.AM
noncomputable section
def hR (bR bN n len bound : Int) (has : List Bool) (tk : List Int) : Heap := { t := objL [(0, .cells false 7 [.sI .u64 bR, .sI .i64 bN, .sI .i64 n, .sI .i64 len, .sI .i64 bound, .sw 1, .sw 2] none), (1, .seq bR1 has none), (2, .seq iR tk none)], next := 3 }
def rPost (U : Int) (b : Bool) (v : AV) (H' H : Heap) : Prop := match v with
  | .tup [x, y] => match x.asX, y.asB with
    | some (.i64, u), some c => u = U ∧ c = b ∧ H'.get 0 = H.get 0 ∧ H'.get 1 = H.get 1 ∧ H'.get 2 = H.get 2
    | _, _ => False
  | _ => False
def LU2 (o : List Bool → List Int → Int → O1 → Prop) (k : List Bool → List Int → Int → Int → K1 → Prop) (q : List Int → Int → Q1 → Prop) (p : List Int → Int → P1 → Prop) (r : Int → R1 → Prop) : LTab := fun f l fr H => match f, l with
  | 60, 3 => some (LO o fr H)
  | 60, 8 => some (LK k fr H)
  | 95, 3 => some (LQ q fr H)
  | 95, 7 => some (LP p fr H)
  | 107, 2 => some (LR r fr)
  | _, _ => none
def w0 (n : Int) (s : O1) : Bool := decide (s.i < n)
def w1 (has : List Bool) : Int := (↑has.length : Int)
def w2 (has : List Bool) (s : O1) : Bool := !rowB has s.i.toNat
def w3 (n : Int) (s : O1) : Nat := (intV (AV.sI IntKind.i64 n) - s.i).toNat
def w4 (s : O1) : Int := IntKind.i64.wrap (s.i + (1 : Int))
def w5 (n : Int) (has : List Bool) (s : O1) : Int := intOf ((((T.nil.node (some AV.nilSlc) (T.nil.node (some (AV.sB (rowB has s.i.toNat))) T.nil)).node (some (AV.bool false)) ((T.nil.node (some (AV.ptr (0 : Nat) (5 : Nat))) T.nil).node (some (AV.ptr (0 : Nat) (0 : Nat))) T.nil)).node none (((T.nil.node (some (AV.ptr (0 : Nat) (0 : Nat))) T.nil).node (some (AV.sI IntKind.i64 s.i)) T.nil).node (some (AV.sB s.is)) ((T.nil.node (some (AV.sI IntKind.i64 s.i)) T.nil).node (some (AV.sI IntKind.i64 n)) T.nil))).node (some (AV.ptr (0 : Nat) (0 : Nat))) (((T.nil.node (some (AV.int IntKind.i64 (0 : Int))) (T.nil.node (some (AV.sB (w2 has s))) T.nil)).node (some (AV.sI IntKind.i64 s.best)) ((T.nil.node (some (AV.sw (1 : Nat))) T.nil).node (some (AV.ptr (0 : Nat) (2 : Nat))) T.nil)).node (some (AV.int IntKind.i64 (0 : Int))) (((T.nil.node (some (AV.ptr (0 : Nat) (0 : Nat))) T.nil).node (some (AV.ptr (0 : Nat) (0 : Nat))) T.nil).node (some (AV.sI IntKind.i64 s.i)) ((T.nil.node (some (AV.eptr (1 : Nat) s.i.toNat (0 : Nat))) T.nil).node (some (AV.sB (w0 n s))) T.nil)))) (6 : Nat)
def w6 (n : Int) (s1 : K1) : Bool := decide (s1.k < n)
def w7 (tk : List Int) : Int := (↑tk.length : Int)
def w8 (has : List Bool) (tk : List Int) (s : O1) (s1 : K1) : Bool := rowB has s1.k.toNat && decide (rowI tk s.i.toNat ≤ rowI tk s1.k.toNat)
def w9 (s1 : K1) : List Int := s1.who
def w10 (has : List Bool) (s1 : K1) : List Int := (bif rowB has s1.k.toNat then w9 s1 else w9 s1)
def w11 (has : List Bool) (s1 : K1) : List Int := w10 has s1 ++ [s1.k]
def w12 (has : List Bool) (s1 : K1) : Nat := (w11 has s1).length
def w13 (n : Int) (s1 : K1) : Nat := (intV (AV.sI IntKind.i64 n) - s1.k).toNat
def w14 (s1 : K1) : Int := IntKind.i64.wrap (s1.k + (1 : Int))
def w15 (bR : Int) (bN : Int) (n : Int) (len : Int) (bound : Int) : List AV := [AV.sI IntKind.u64 bR, AV.sI IntKind.i64 bN, AV.sI IntKind.i64 n, AV.sI IntKind.i64 len, AV.sI IntKind.i64 bound, AV.sw (1 : Nat), AV.sw (2 : Nat)]
def w16 (bR : Int) (bN : Int) (n : Int) (len : Int) (bound : Int) (has : List Bool) (tk : List Int) (s1 : K1) : List Int := seqI { t := ((T.nil.node (some (AObj.seq (RTy.one (CTy.int IntKind.i64)) s1.who none)) T.nil).node (some (AObj.seq (RTy.one CTy.boo) has none)) T.nil).node (some (AObj.cells false (7 : Nat) (w15 bR bN n len bound) none)) (T.nil.node (some (AObj.seq (RTy.one (CTy.int IntKind.i64)) tk none)) T.nil), next := (4 : Nat), d := (8 : Nat) } (AV.sw (3 : Nat))
def w17 (n : Int) : Int := intOf ((T.nil.node (some (AV.sI IntKind.i64 n)) (T.nil.node (some (AV.int IntKind.i64 (0 : Int))) T.nil)).node (some (AV.sw (3 : Nat))) ((T.nil.node (some (AV.bool false)) T.nil).node none (T.nil.node (some (AV.int IntKind.i64 (0 : Int))) T.nil))) (1 : Nat)
def w18 (n : Int) (s2 : Q1) : Bool := decide (s2.i < n)
def w19 (bR : Int) (bN : Int) (n : Int) (len : Int) (bound : Int) (has : List Bool) (tk : List Int) (s1 : K1) : List Int := seqI { t := ((T.nil.node (some (AObj.seq (RTy.one (CTy.int IntKind.i64)) s1.who none)) T.nil).node (some (AObj.seq (RTy.one CTy.boo) has none)) T.nil).node (some (AObj.cells false (7 : Nat) (w15 bR bN n len bound) none)) (T.nil.node (some (AObj.seq (RTy.one (CTy.int IntKind.i64)) tk none)) T.nil), next := (4 : Nat) } (AV.sw (3 : Nat))
def w20 (n : Int) (s2 : Q1) : Int := intOf ((((T.nil.node (some (AV.bool false)) T.nil).node none (T.nil.node (some (AV.sB (w18 n s2))) T.nil)).node (some (AV.sI IntKind.i64 n)) ((T.nil.node (some (AV.sI IntKind.i64 s2.i)) T.nil).node (some (AV.sI IntKind.i64 s2.c)) T.nil)).node (some (AV.sw (3 : Nat))) (((T.nil.node (some (AV.int IntKind.i64 (0 : Int))) T.nil).node (some (AV.bool false)) T.nil).node none ((T.nil.node (some (AV.sI IntKind.i64 n)) T.nil).node (some (AV.sI IntKind.i64 s2.i)) T.nil))) (6 : Nat)
def w21 (s1 : K1) : Int := (↑s1.who.length : Int)
def w22 (s1 : K1) (s3 : P1) : Bool := decide (s3.j < w21 s1)
def w23 (bR : Int) (bN : Int) (n : Int) (len : Int) (bound : Int) (has : List Bool) (tk : List Int) (s1 : K1) : Nat := (w19 bR bN n len bound has tk s1).length
def w24 (n : Int) : Int := intOf (((T.nil.node (some (AV.int IntKind.i64 (0 : Int))) T.nil).node none T.nil).node (some (AV.sI IntKind.i64 n)) (T.nil.node (some (AV.int IntKind.i64 (0 : Int))) T.nil)) (0 : Nat)
def w25 (n : Int) (s4 : R1) : Bool := decide (IntKind.i64.wrap ((2 : Int) * s4.k) ≤ n)
def w26 (n : Int) : Int := w24 n + (2 : Int)
def w27 (s2 : Q1) (s4 : R1) : Bool := decide (s4.k ≤ s2.c)
def w28 (tk : List Int) (s : O1) (s2 : Q1) (s4 : R1) : Bool := w27 s2 s4 && (!s.is || decide (s.best < rowI tk s.i.toNat))
def part0 (bR : Int) (bN : Int) (n : Int) (len : Int) (bound : Int) (has : List Bool) (tk : List Int) (s1 : K1) : Prop := bR = bR ∧
 bN = bN ∧
 n = n ∧
 len = len ∧
 bound = bound ∧
 has = has ∧
 tk = tk ∧
 w9 s1 = s1.who
def part1 (bR : Int) (bN : Int) (n : Int) (len : Int) (bound : Int) (has : List Bool) (tk : List Int) (s1 : K1) : Prop := n = n ∧
 part0 bR bN n len bound has tk s1
def part2 (bR : Int) (bN : Int) (n : Int) (len : Int) (bound : Int) (has : List Bool) (tk : List Int) (s1 : K1) (s2 : Q1) : Prop := n = n ∧
 s2.c = s2.c ∧
 s2.i = s2.i ∧
 part0 bR bN n len bound has tk s1
def part3 (bR : Int) (bN : Int) (n : Int) (len : Int) (bound : Int) (has : List Bool) (tk : List Int) : Prop := some (AObj.cells false (7 : Nat) (w15 bR bN n len bound) none) = some (AObj.cells false (7 : Nat) (w15 bR bN n len bound) none) ∧
 some (AObj.seq (RTy.one CTy.boo) has none) = some (AObj.seq (RTy.one CTy.boo) has none) ∧
 some (AObj.seq (RTy.one (CTy.int IntKind.i64)) tk none) = some (AObj.seq (RTy.one (CTy.int IntKind.i64)) tk none)
def owed (bR bN n len bound : Int) (has : List Bool) (tk : List Int) (U : Int) (b : Bool) (o : List Bool → List Int → Int → O1 → Prop) (kk : List Bool → List Int → Int → Int → K1 → Prop) (q : List Int → Int → Q1 → Prop) (p : List Int → Int → P1 → Prop) (r : Int → R1 → Prop) : Prop :=
  ∃ s0, o has tk (intV (AV.sI IntKind.i64 n)) s0 ∧
 ((0 : Int) = s0.best ∧
 false = s0.is ∧
 (0 : Int) = s0.i ∧
 bR = bR ∧
 bN = bN ∧
 n = n ∧
 len = len ∧
 bound = bound ∧
 has = has ∧
 tk = tk) ∧
 ∀ (s : O1), o has tk (intV (AV.sI IntKind.i64 n)) s →
 IntKind.i64.has s.best →
 IntKind.i64.has s.i →
 IntKind.u64.has bR →
 IntKind.i64.has bN →
 IntKind.i64.has n →
 IntKind.i64.has len →
 IntKind.i64.has bound →
 (∀ (row : Bool), row ∈ has →
 (RTy.one CTy.boo).Has row) →
 (∀ (row1 : Int), row1 ∈ tk →
 (RTy.one (CTy.int IntKind.i64)).Has row1) →
 (w0 n s = true →
 ((0 : Int) ≤ s.i ∧
 s.i < w1 has) ∧
 (w2 has s = true →
 ∃ s', o has tk (intV (AV.sI IntKind.i64 n)) s' ∧
 (intV (AV.sI IntKind.i64 n) - s'.i).toNat < w3 n s ∧
 s.best = s'.best ∧
 s.is = s'.is ∧
 w4 s = s'.i ∧
 bR = bR ∧
 bN = bN ∧
 n = n ∧
 len = len ∧
 bound = bound ∧
 has = has ∧
 tk = tk) ∧
 ((!w2 has s) = true →
 ∃ s01, kk has tk (intV (AV.sI IntKind.i64 n)) (w5 n has s) s01 ∧
 ((0 : Int) = s01.k ∧
 s.best = s.best ∧
 s.is = s.is ∧
 s.i = s.i ∧
 bR = bR ∧
 bN = bN ∧
 n = n ∧
 len = len ∧
 bound = bound ∧
 has = has ∧
 tk = tk ∧
 [] = s01.who) ∧
 ∀ (s1 : K1), kk has tk (intV (AV.sI IntKind.i64 n)) (w5 n has s) s1 →
 IntKind.i64.has s.best →
 IntKind.i64.has s1.k →
 IntKind.i64.has s.i →
 IntKind.u64.has bR →
 IntKind.i64.has bN →
 IntKind.i64.has n →
 IntKind.i64.has len →
 IntKind.i64.has bound →
 (∀ (row : Bool), row ∈ has →
 (RTy.one CTy.boo).Has row) →
 (∀ (row2 : Int), row2 ∈ s1.who →
 (RTy.one (CTy.int IntKind.i64)).Has row2) →
 (∀ (row1 : Int), row1 ∈ tk →
 (RTy.one (CTy.int IntKind.i64)).Has row1) →
 (w6 n s1 = true →
 (((0 : Int) ≤ s1.k ∧
 s1.k < w1 has) ∧
 (rowB has s1.k.toNat = true →
 ((0 : Int) ≤ s1.k ∧
 s1.k < w7 tk) ∧
 (0 : Int) ≤ s.i ∧
 s.i < w7 tk)) ∧
 (w8 has tk s s1 = true →
 (w12 has s1 * (8 : Nat) ≤ (140737488355328 : Nat) ∧
 w12 has s1 ≤ (4611686018427387904 : Nat)) ∧
 ∃ s'1, kk has tk (intV (AV.sI IntKind.i64 n)) (w5 n has s) s'1 ∧
 (intV (AV.sI IntKind.i64 n) - s'1.k).toNat < w13 n s1 ∧
 w14 s1 = s'1.k ∧
 s.best = s.best ∧
 s.is = s.is ∧
 s.i = s.i ∧
 bR = bR ∧
 bN = bN ∧
 n = n ∧
 len = len ∧
 bound = bound ∧
 has = has ∧
 tk = tk ∧
 (w11 has s1) = s'1.who) ∧
 (w8 has tk s s1 = false →
 ∃ s'2, kk has tk (intV (AV.sI IntKind.i64 n)) (w5 n has s) s'2 ∧
 (intV (AV.sI IntKind.i64 n) - s'2.k).toNat < w13 n s1 ∧
 w14 s1 = s'2.k ∧
 s.best = s.best ∧
 s.is = s.is ∧
 s.i = s.i ∧
 bR = bR ∧
 bN = bN ∧
 n = n ∧
 len = len ∧
 bound = bound ∧
 has = has ∧
 tk = tk ∧
 w10 has s1 = s'2.who)) ∧
 ((!w6 n s1) = true →
 ∃ s02, q (w16 bR bN n len bound has tk s1) (w17 n) s02 ∧
 ((0 : Int) = s02.c ∧
 (0 : Int) = s02.i ∧
 part1 bR bN n len bound has tk s1) ∧
 ∀ (s2 : Q1), q (w16 bR bN n len bound has tk s1) (w17 n) s2 →
 IntKind.i64.has n →
 IntKind.i64.has s2.c →
 IntKind.i64.has s2.i →
 IntKind.u64.has bR →
 IntKind.i64.has bN →
 IntKind.i64.has n →
 IntKind.i64.has len →
 IntKind.i64.has bound →
 (∀ (row : Bool), row ∈ has →
 (RTy.one CTy.boo).Has row) →
 (∀ (row2 : Int), row2 ∈ s1.who →
 (RTy.one (CTy.int IntKind.i64)).Has row2) →
 (∀ (row1 : Int), row1 ∈ tk →
 (RTy.one (CTy.int IntKind.i64)).Has row1) →
 (w18 n s2 = true →
 ∃ s03, p (w19 bR bN n len bound has tk s1) (w20 n s2) s03 ∧
 (false = s03.h ∧
 (0 : Int) = s03.j ∧
 part2 bR bN n len bound has tk s1 s2) ∧
 ∀ (s3 : P1), p (w19 bR bN n len bound has tk s1) (w20 n s2) s3 →
 IntKind.i64.has n →
 IntKind.i64.has s2.c →
 IntKind.i64.has s3.j →
 IntKind.i64.has s2.i →
 IntKind.u64.has bR →
 IntKind.i64.has bN →
 IntKind.i64.has n →
 IntKind.i64.has len →
 IntKind.i64.has bound →
 (∀ (row : Bool), row ∈ has →
 (RTy.one CTy.boo).Has row) →
 (∀ (row2 : Int), row2 ∈ s1.who →
 (RTy.one (CTy.int IntKind.i64)).Has row2) →
 (∀ (row1 : Int), row1 ∈ tk →
 (RTy.one (CTy.int IntKind.i64)).Has row1) →
 (w22 s1 s3 = true →
 (s3.h = false →
 (0 : Int) ≤ s3.j ∧
 s3.j < w21 s1) ∧
 ∃ s'3, p (w19 bR bN n len bound has tk s1) (w20 n s2) s'3 ∧
 w23 bR bN n len bound has tk s1 - s'3.j.toNat < w23 bR bN n len bound has tk s1 - s3.j.toNat ∧
 (s3.h || decide (rowI s1.who s3.j.toNat = s2.i)) = s'3.h ∧
 IntKind.i64.wrap (s3.j + (1 : Int)) = s'3.j ∧
 part2 bR bN n len bound has tk s1 s2) ∧
 ((!w22 s1 s3) = true →
 ∃ s'4, q (w16 bR bN n len bound has tk s1) (w17 n) s'4 ∧
 (w17 n - s'4.i).toNat < (w17 n - s2.i).toNat ∧
 (bif s3.h then IntKind.i64.wrap (s2.c + (1 : Int)) else s2.c) = s'4.c ∧
 IntKind.i64.wrap (s2.i + (1 : Int)) = s'4.i ∧
 part1 bR bN n len bound has tk s1)) ∧
 ((!w18 n s2) = true →
 ∃ s04, r (w24 n) s04 ∧
 ((0 : Int) = s04.k ∧
 part1 bR bN n len bound has tk s1) ∧
 ∀ (s4 : R1), r (w24 n) s4 →
 IntKind.i64.has n →
 IntKind.i64.has s4.k →
 IntKind.u64.has bR →
 IntKind.i64.has bN →
 IntKind.i64.has n →
 IntKind.i64.has len →
 IntKind.i64.has bound →
 (∀ (row : Bool), row ∈ has →
 (RTy.one CTy.boo).Has row) →
 (∀ (row2 : Int), row2 ∈ s1.who →
 (RTy.one (CTy.int IntKind.i64)).Has row2) →
 (∀ (row1 : Int), row1 ∈ tk →
 (RTy.one (CTy.int IntKind.i64)).Has row1) →
 (w25 n s4 = true →
 ∃ s'5, r (w24 n) s'5 ∧
 (w26 n - s'5.k).toNat < (w26 n - s4.k).toNat ∧
 IntKind.i64.wrap (s4.k + (1 : Int)) = s'5.k ∧
 part1 bR bN n len bound has tk s1) ∧
 ((!w25 n s4) = true →
 (w27 s2 s4 = true →
 (!s.is) = false →
 (0 : Int) ≤ s.i ∧
 s.i < w7 tk) ∧
 (w28 tk s s2 s4 = true →
 (0 : Int) ≤ s.i ∧
 s.i < w7 tk) ∧
 ∃ s'6, o has tk (intV (AV.sI IntKind.i64 n)) s'6 ∧
 (intV (AV.sI IntKind.i64 n) - s'6.i).toNat < w3 n s ∧
 (bif w28 tk s s2 s4 then rowI tk s.i.toNat else s.best) = s'6.best ∧
 (w28 tk s s2 s4 || s.is) = s'6.is ∧
 w4 s = s'6.i ∧
 bR = bR ∧
 bN = bN ∧
 n = n ∧
 len = len ∧
 bound = bound ∧
 has = has ∧
 tk = tk))))) ∧
 ((!w0 n s) = true →
 ((!s.is) = true →
 (0 : Int) = U ∧
 false = b ∧
 part3 bR bN n len bound has tk) ∧
 ((!!s.is) = true →
 IntKind.i64.wrap (IntKind.i64.wrap (s.best + len) - IntKind.i64.wrap ((2 : Int) * bound)) = U ∧
 true = b ∧
 part3 bR bN n len bound has tk))

theorem owed_eq (bR bN n len bound : Int) (has : List Bool) (tk : List Int) (U : Int) (b : Bool) (o : List Bool → List Int → Int → O1 → Prop) (kk : List Bool → List Int → Int → Int → K1 → Prop) (q : List Int → Int → Q1 → Prop) (p : List Int → Int → P1 → Prop) (r : Int → R1 → Prop) : owed bR bN n len bound has tk U b o kk q p r = vTop Try.prog S1 (LU2 o kk q p r) 1000 60 [.ptr 0 0] (hR bR bN n len bound has tk) (fun v H' => rPost U b v H' (hR bR bN n len bound has tk)) := by kernel_rfl
end
end Go.Proofs.Ytdeoahhofhmgfaa.LeasePlays.Ref
