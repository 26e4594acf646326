/- A part of the proof that 'slices.Sort' returns true for every input. No condition. -/
import Derived.Test.YtdeoahhofhmgfaaAmJ
import Derived.KernelRfl
import Derived.Test.YtdeoahhofhmgfaaSzT
namespace Go.Proofs.Ytdeoahhofhmgfaa.Sz.Pi
open Go.AM
noncomputable section
def LA (b : Int) (inv : I2 → Prop) (fr : Fr) : LInv := ⟨I2, inv, fun s => patch [0, 1, 2, 6] [(7, .sI .i64 s.i), (8, .sI .i64 s.j)] [(0, .seq uR s.rows none)], fun s => (5 - s.j).toNat⟩
def LB (b : Int) (inv : I1 → Prop) (fr : Fr) : LInv := ⟨I1, inv, fun s => patch [0, 1, 2, 6, 8] [(7, .sI .i64 s.i)] [(0, .seq uR s.rows none)], fun s => (b - s.i).toNat⟩
def LC (b : Int) (inv : Int → I1 → Prop) (fr : Fr) : LInv := ⟨I1, inv (Go.AM.intOf fr 7), fun s => patch [0, 1, 2, 6, 7, 8] [(9, .sI .i64 s.i)] [(0, .seq uR s.rows none)], fun s => (s.i + 1).toNat⟩
def LD (b : Int) (inv : Int → I1 → Prop) (fr : Fr) : LInv := ⟨I1, inv (Go.AM.intOf fr 7), fun s => patch [0, 1, 2, 6, 7, 8] [(10, .sI .i64 s.i)] [(0, .seq uR s.rows none)], fun s => (b - s.i).toNat⟩
def LL (b : Int) (iA : I2 → Prop) (iB : I1 → Prop) (iC iD : Int → I1 → Prop) : LTab := fun f k fr _ => match f, k with
  | 121, 3 => some (LA b iA fr)
  | 121, 5 => some (LB b iB fr)
  | 121, 14 => some (LC b iC fr)
  | 121, 20 => some (LD b iD fr)
  | _, _ => none
def w0 (s : I2) : Bool := decide (s.j < (5 : Int))
def w1 (b : Int) (s1 : I1) : Bool := decide (s1.i < b)
def w2 (s1 : I1) : Int := (↑s1.rows.length : Int)
def w3 (s1 : I1) : Int := IntKind.i64.wrap (s1.i - (1 : Int))
def w4 (s1 : I1) : Nat := (w3 s1).toNat
def w5 (s1 : I1) : Bool := decide (rowU s1.rows s1.i.toNat < rowU s1.rows (w4 s1))
def w6 (b : Int) (s1 : I1) : Bool := w1 b s1 && !bif decide (rowU s1.rows s1.i.toNat ≠ rowU s1.rows s1.i.toNat) then !decide (rowU s1.rows (w4 s1) ≠ rowU s1.rows (w4 s1)) || w5 s1 else w5 s1
def w7 (b : Int) (s1 : I1) : Int := b - s1.i
def w8 (s1 : I1) : Int := IntKind.i64.wrap (s1.i + (1 : Int))
def w9 (b : Int) (s1 : I1) : Bool := decide (s1.i = b)
def w10 (a : Int) (b : Int) : Int := IntKind.i64.wrap (b - a)
def w11 (a : Int) (b : Int) : Bool := decide (w10 a b < (50 : Int))
def w12 (s1 : I1) : List Int := s1.rows.set s1.i.toNat (rowU s1.rows (w4 s1))
def w13 (a : Int) (s1 : I1) : Int := IntKind.i64.wrap (s1.i - a)
def w14 (a : Int) (s1 : I1) : Bool := decide ((2 : Int) ≤ w13 a s1)
def w15 (b : Int) (s1 : I1) : Bool := bif w1 b s1 then w1 b s1 else w1 b s1
def w16 (b : Int) (s1 : I1) : Int := bif w1 b s1 then s1.i else s1.i
def w17 (b : Int) (s1 : I1) : Int := bif w1 b s1 then b else b
def w18 (a : Int) (b : Int) (s : I2) (s1 : I1) : Int := intOf (((((((T.nil.node (some (AV.sI IntKind.i64 (w3 s1))) T.nil).node none T.nil).node none (T.nil.node (some (AV.sw (0 : Nat))) T.nil)).node (some (AV.sI IntKind.i64 s1.i)) ((T.nil.node (some (AV.sI IntKind.i64 a)) T.nil).node none (T.nil.node (some (AV.sI IntKind.u64 (rowU s1.rows s1.i.toNat))) T.nil))).node none (((T.nil.node (some (AV.sI IntKind.i64 s1.i)) T.nil).node (some (AV.sB (w15 b s1))) (T.nil.node (some (AV.sI IntKind.u64 (rowU s1.rows (w4 s1)))) T.nil)).node none ((T.nil.node (some (AV.sI IntKind.i64 s1.i)) T.nil).node none (T.nil.node (some (AV.sI IntKind.i64 a)) T.nil)))).node (some (AV.sI IntKind.i64 a)) (((T.nil.node (some (AV.sI IntKind.i64 (w16 b s1))) (T.nil.node (some (AV.sI IntKind.i64 (w3 s1))) T.nil)).node (some (AV.sI IntKind.i64 (w3 s1))) ((T.nil.node (some (AV.sB (w11 a b))) T.nil).node none (T.nil.node (some (AV.eptr (0 : Nat) (w4 s1) (0 : Nat))) T.nil))).node none (((T.nil.node (some (AV.sB (w9 b s1))) T.nil).node none (T.nil.node (some (AV.sI IntKind.i64 s1.i)) T.nil)).node none ((T.nil.node (some (AV.sI IntKind.i64 s1.i)) T.nil).node none (T.nil.node (some (AV.sB (w14 a s1))) T.nil))))).node (some (AV.sw (0 : Nat))) (((((T.nil.node (some (AV.sB (w6 b s1))) T.nil).node none (T.nil.node (some (AV.sI IntKind.i64 s1.i)) T.nil)).node (some (AV.sI IntKind.i64 s.j)) ((T.nil.node (some (AV.sI IntKind.i64 (w10 a b))) T.nil).node none (T.nil.node (some (AV.eptr (0 : Nat) s1.i.toNat (0 : Nat))) T.nil))).node none (((T.nil.node (some (AV.sI IntKind.i64 b)) T.nil).node (some (AV.sB (w1 b s1))) (T.nil.node (some (AV.sw (0 : Nat))) T.nil)).node none ((T.nil.node (some (AV.sw (0 : Nat))) T.nil).node none (T.nil.node (some (AV.sI IntKind.i64 (w13 a s1))) T.nil)))).node (some (AV.sI IntKind.i64 b)) (((T.nil.node (some (AV.sI IntKind.i64 (w17 b s1))) (T.nil.node (some (AV.eptr (0 : Nat) (w4 s1) (0 : Nat))) T.nil)).node none ((T.nil.node (some (AV.sw (0 : Nat))) T.nil).node none (T.nil.node (some (AV.sI IntKind.i64 s1.i)) T.nil))).node (some (AV.bool false)) (((T.nil.node (some (AV.sI IntKind.i64 b)) T.nil).node none (T.nil.node (some (AV.eptr (0 : Nat) s1.i.toNat (0 : Nat))) T.nil)).node none ((T.nil.node (some (AV.sI IntKind.i64 (w3 s1))) T.nil).node none (T.nil.node (some (AV.sI IntKind.i64 s1.i)) T.nil)))))) (7 : Nat)
def w19 (s1 : I1) : List Int := ((w12 s1).set (w4 s1) (rowU s1.rows s1.i.toNat))
def w20 (s2 : I1) : Bool := decide ((1 : Int) ≤ s2.i)
def w21 (s2 : I1) : Int := (↑s2.rows.length : Int)
def w22 (s2 : I1) : Int := IntKind.i64.wrap (s2.i - (1 : Int))
def w23 (s2 : I1) : Nat := (w22 s2).toNat
def w24 (s2 : I1) : Bool := decide (rowU s2.rows s2.i.toNat < rowU s2.rows (w23 s2))
def w25 (s2 : I1) : Bool := bif decide (rowU s2.rows s2.i.toNat ≠ rowU s2.rows s2.i.toNat) then !decide (rowU s2.rows (w23 s2) ≠ rowU s2.rows (w23 s2)) || w24 s2 else w24 s2
def w26 (s2 : I1) : Bool := !w25 s2
def w27 (b : Int) (s1 : I1) : Int := IntKind.i64.wrap (w7 b s1)
def w28 (b : Int) (s1 : I1) : Bool := decide ((2 : Int) ≤ w27 b s1)
def w29 (a : Int) (b : Int) (s : I2) (s1 : I1) (s2 : I1) : Int := intOf ((((((T.nil.node none (T.nil.node (some (AV.sI IntKind.i64 b)) T.nil)).node none T.nil).node (some (AV.sI IntKind.i64 s1.i)) (((T.nil.node (some (AV.sI IntKind.u64 (rowU s2.rows s2.i.toNat))) T.nil).node none T.nil).node none T.nil)).node none (((T.nil.node none (T.nil.node (some (AV.sI IntKind.i64 s1.i)) T.nil)).node none T.nil).node none (((T.nil.node (some (AV.eptr (0 : Nat) (w23 s2) (0 : Nat))) T.nil).node none T.nil).node none T.nil))).node (some (AV.sI IntKind.i64 a)) (((((T.nil.node (some (AV.sB (w20 s2))) T.nil).node none (T.nil.node (some (AV.sI IntKind.i64 (w27 b s1))) T.nil)).node none T.nil).node (some (AV.sI IntKind.i64 s2.i)) (((T.nil.node (some (AV.sI IntKind.i64 s2.i)) T.nil).node none T.nil).node none T.nil)).node none ((((T.nil.node (some (AV.sI IntKind.i64 s2.i)) T.nil).node none T.nil).node none T.nil).node none (((T.nil.node (some (AV.sB (w25 s2))) T.nil).node none T.nil).node none T.nil)))).node (some (AV.sw (0 : Nat))) ((((((T.nil.node (some (AV.sI IntKind.i64 s2.i)) T.nil).node none (T.nil.node (some (AV.sI IntKind.i64 s1.i)) T.nil)).node none T.nil).node (some (AV.sI IntKind.i64 s.j)) (((T.nil.node (some (AV.sw (0 : Nat))) T.nil).node none T.nil).node none T.nil)).node none ((((T.nil.node (some (AV.sw (0 : Nat))) T.nil).node none (T.nil.node (some (AV.sI IntKind.i64 (w8 s1))) T.nil)).node none T.nil).node none (((T.nil.node (some (AV.sI IntKind.u64 (rowU s2.rows (w23 s2)))) T.nil).node none T.nil).node none T.nil))).node (some (AV.sI IntKind.i64 b)) ((((T.nil.node none (T.nil.node (some (AV.sB (w28 b s1))) T.nil)).node none T.nil).node (some (AV.sI IntKind.i64 (w8 s1))) (((T.nil.node (some (AV.sI IntKind.i64 (w22 s2))) T.nil).node none T.nil).node none T.nil)).node (some (AV.bool false)) ((((T.nil.node (some (AV.eptr (0 : Nat) s2.i.toNat (0 : Nat))) T.nil).node none T.nil).node none T.nil).node none (((T.nil.node (some (AV.sB (w26 s2))) T.nil).node none T.nil).node none T.nil))))) (7 : Nat)
def w30 (s2 : I1) : List Int := s2.rows
def w31 (b : Int) (s3 : I1) : Bool := decide (s3.i < b)
def w32 (s3 : I1) : Int := (↑s3.rows.length : Int)
def w33 (s3 : I1) : Int := IntKind.i64.wrap (s3.i - (1 : Int))
def w34 (s3 : I1) : Nat := (w33 s3).toNat
def w35 (s3 : I1) : Bool := decide (rowU s3.rows s3.i.toNat < rowU s3.rows (w34 s3))
def w36 (s3 : I1) : Bool := !bif decide (rowU s3.rows s3.i.toNat ≠ rowU s3.rows s3.i.toNat) then !decide (rowU s3.rows (w34 s3) ≠ rowU s3.rows (w34 s3)) || w35 s3 else w35 s3
def w37 (s : I2) : Nat := ((5 : Int) - s.j).toNat
def w38 (s : I2) : Int := IntKind.i64.wrap (s.j + (1 : Int))
def w39 (s3 : I1) : List Int := s3.rows.set s3.i.toNat (rowU s3.rows (w34 s3))
def w40 (s2 : I1) : List Int := s2.rows.set s2.i.toNat (rowU s2.rows (w23 s2))
def w41 (a : Int) (b : Int) (s : I2) (s1 : I1) (s2 : I1) : Int := intOf ((((((T.nil.node none (T.nil.node (some (AV.sI IntKind.i64 b)) T.nil)).node none T.nil).node (some (AV.sI IntKind.i64 s1.i)) T.nil).node none (((T.nil.node none (T.nil.node (some (AV.sI IntKind.i64 s1.i)) T.nil)).node none T.nil).node none T.nil)).node (some (AV.sI IntKind.i64 a)) (((((T.nil.node (some (AV.sB (w20 s2))) T.nil).node none (T.nil.node (some (AV.sI IntKind.i64 (w27 b s1))) T.nil)).node none T.nil).node (some (AV.sI IntKind.i64 s2.i)) T.nil).node none T.nil)).node (some (AV.sw (0 : Nat))) ((((((T.nil.node (some (AV.sI IntKind.i64 s2.i)) T.nil).node none (T.nil.node (some (AV.sI IntKind.i64 s1.i)) T.nil)).node none T.nil).node (some (AV.sI IntKind.i64 s.j)) T.nil).node none (((T.nil.node none (T.nil.node (some (AV.sI IntKind.i64 (w8 s1))) T.nil)).node none T.nil).node none T.nil)).node (some (AV.sI IntKind.i64 b)) ((((T.nil.node none (T.nil.node (some (AV.sB (w28 b s1))) T.nil)).node none T.nil).node (some (AV.sI IntKind.i64 (w8 s1))) T.nil).node (some (AV.bool false)) T.nil))) (7 : Nat)
def w42 (b : Int) (s4 : I1) : Bool := decide (s4.i < b)
def w43 (s4 : I1) : Int := (↑s4.rows.length : Int)
def w44 (s4 : I1) : Int := IntKind.i64.wrap (s4.i - (1 : Int))
def w45 (s4 : I1) : Nat := (w44 s4).toNat
def w46 (s4 : I1) : Bool := decide (rowU s4.rows s4.i.toNat < rowU s4.rows (w45 s4))
def w47 (s4 : I1) : Bool := !bif decide (rowU s4.rows s4.i.toNat ≠ rowU s4.rows s4.i.toNat) then !decide (rowU s4.rows (w45 s4) ≠ rowU s4.rows (w45 s4)) || w46 s4 else w46 s4
def w48 (s4 : I1) : List Int := s4.rows.set s4.i.toNat (rowU s4.rows (w45 s4))
def w49 (a : Int) (b : Int) (s : I2) (s1 : I1) : Int := intOf ((((((T.nil.node none (T.nil.node (some (AV.sI IntKind.i64 b)) T.nil)).node none (T.nil.node (some (AV.sw (0 : Nat))) T.nil)).node (some (AV.sI IntKind.i64 s1.i)) ((T.nil.node (some (AV.sI IntKind.i64 a)) T.nil).node none (T.nil.node (some (AV.sI IntKind.u64 (rowU s1.rows s1.i.toNat))) T.nil))).node none (((T.nil.node (some (AV.sI IntKind.i64 s1.i)) (T.nil.node (some (AV.sI IntKind.i64 s1.i)) T.nil)).node (some (AV.sB (w15 b s1))) (T.nil.node (some (AV.sI IntKind.u64 (rowU s1.rows (w4 s1)))) T.nil)).node none ((T.nil.node (some (AV.sI IntKind.i64 s1.i)) T.nil).node none (T.nil.node (some (AV.sI IntKind.i64 a)) T.nil)))).node (some (AV.sI IntKind.i64 a)) ((((T.nil.node none (T.nil.node (some (AV.sI IntKind.i64 (w27 b s1))) T.nil)).node (some (AV.sI IntKind.i64 (w16 b s1))) (T.nil.node (some (AV.sI IntKind.i64 (w3 s1))) T.nil)).node none ((T.nil.node (some (AV.sB (w11 a b))) T.nil).node none (T.nil.node (some (AV.eptr (0 : Nat) (w4 s1) (0 : Nat))) T.nil))).node none (((T.nil.node (some (AV.sB (w9 b s1))) T.nil).node none (T.nil.node (some (AV.sI IntKind.i64 s1.i)) T.nil)).node none ((T.nil.node (some (AV.sI IntKind.i64 s1.i)) T.nil).node none (T.nil.node (some (AV.sB (w14 a s1))) T.nil))))).node (some (AV.sw (0 : Nat))) (((((T.nil.node (some (AV.sB (w6 b s1))) (T.nil.node (some (AV.sI IntKind.i64 s1.i)) T.nil)).node none (T.nil.node (some (AV.sI IntKind.i64 s1.i)) T.nil)).node (some (AV.sI IntKind.i64 s.j)) ((T.nil.node (some (AV.sI IntKind.i64 (w10 a b))) T.nil).node none (T.nil.node (some (AV.eptr (0 : Nat) s1.i.toNat (0 : Nat))) T.nil))).node none (((T.nil.node (some (AV.sI IntKind.i64 b)) (T.nil.node (some (AV.sI IntKind.i64 (w8 s1))) T.nil)).node (some (AV.sB (w1 b s1))) (T.nil.node (some (AV.sw (0 : Nat))) T.nil)).node none ((T.nil.node (some (AV.sw (0 : Nat))) T.nil).node none (T.nil.node (some (AV.sI IntKind.i64 (w13 a s1))) T.nil)))).node (some (AV.sI IntKind.i64 b)) ((((T.nil.node none (T.nil.node (some (AV.sB (w28 b s1))) T.nil)).node (some (AV.sI IntKind.i64 (w17 b s1))) (T.nil.node (some (AV.eptr (0 : Nat) (w4 s1) (0 : Nat))) T.nil)).node (some (AV.sI IntKind.i64 (w8 s1))) ((T.nil.node (some (AV.sw (0 : Nat))) T.nil).node none (T.nil.node (some (AV.sI IntKind.i64 s1.i)) T.nil))).node (some (AV.bool false)) (((T.nil.node (some (AV.sI IntKind.i64 b)) T.nil).node none (T.nil.node (some (AV.eptr (0 : Nat) s1.i.toNat (0 : Nat))) T.nil)).node none ((T.nil.node (some (AV.sI IntKind.i64 (w3 s1))) T.nil).node none T.nil))))) (7 : Nat)
def w50 (b : Int) (s5 : I1) : Bool := decide (s5.i < b)
def w51 (s5 : I1) : Int := (↑s5.rows.length : Int)
def w52 (s5 : I1) : Int := IntKind.i64.wrap (s5.i - (1 : Int))
def w53 (s5 : I1) : Nat := (w52 s5).toNat
def w54 (s5 : I1) : Bool := decide (rowU s5.rows s5.i.toNat < rowU s5.rows (w53 s5))
def w55 (s5 : I1) : Bool := !bif decide (rowU s5.rows s5.i.toNat ≠ rowU s5.rows s5.i.toNat) then !decide (rowU s5.rows (w53 s5) ≠ rowU s5.rows (w53 s5)) || w54 s5 else w54 s5
def w56 (s5 : I1) : List Int := s5.rows.set s5.i.toNat (rowU s5.rows (w53 s5))
def part0 (s1 : I1) : Prop := (0 : Int) ≤ w3 s1 ∧
 w3 s1 < w2 s1
def part1 (s2 : I1) : Prop := (0 : Int) ≤ w22 s2 ∧
 w22 s2 < w21 s2
def part2 (s3 : I1) : Prop := (0 : Int) ≤ w33 s3 ∧
 w33 s3 < w32 s3
def part3 (a : Int) (b : Int) (iA : I2 →
 Prop) (s : I2) (s1 : I1) (s3 : I1) : Prop := ∃ s'1, iA s'1 ∧
 ((5 : Int) - s'1.j).toNat < w37 s ∧
 s1.i = s'1.i ∧
 w38 s = s'1.j ∧
 a = a ∧
 b = b ∧
 s3.rows = s'1.rows
def part4 (a : Int) (b : Int) (iA : I2 →
 Prop) (s : I2) (s1 : I1) (s2 : I1) : Prop := w28 b s1 = false →
 ∃ s'3, iA s'3 ∧
 ((5 : Int) - s'3.j).toNat < w37 s ∧
 s1.i = s'3.i ∧
 w38 s = s'3.j ∧
 a = a ∧
 b = b ∧
 w30 s2 = s'3.rows
def part5 (s4 : I1) : Prop := (0 : Int) ≤ w44 s4 ∧
 w44 s4 < w43 s4
def part6 (a : Int) (b : Int) (iA : I2 →
 Prop) (s : I2) (s1 : I1) (s4 : I1) : Prop := ∃ s'5, iA s'5 ∧
 ((5 : Int) - s'5.j).toNat < w37 s ∧
 s1.i = s'5.i ∧
 w38 s = s'5.j ∧
 a = a ∧
 b = b ∧
 s4.rows = s'5.rows
def part7 (s5 : I1) : Prop := (0 : Int) ≤ w52 s5 ∧
 w52 s5 < w51 s5
def part8 (a : Int) (b : Int) (iA : I2 →
 Prop) (s : I2) (s1 : I1) (s5 : I1) : Prop := ∃ s'7, iA s'7 ∧
 ((5 : Int) - s'7.j).toNat < w37 s ∧
 s1.i = s'7.i ∧
 w38 s = s'7.j ∧
 a = a ∧
 b = b ∧
 s5.rows = s'7.rows
def owed (a b : Int) (rows : List Int) (ok : List Int → Prop) (iA : I2 → Prop) (iB : I1 → Prop) (iC iD : Int → I1 → Prop) : Prop :=
  ∃ s0, iA s0 ∧
 (IntKind.i64.wrap (a + (1 : Int)) = s0.i ∧
 (0 : Int) = s0.j ∧
 a = a ∧
 b = b ∧
 rows = s0.rows) ∧
 ∀ (s : I2), iA s →
 IntKind.i64.has a →
 IntKind.i64.has s.i →
 IntKind.i64.has b →
 IntKind.i64.has s.j →
 (∀ (row : Int), row ∈ s.rows →
 (RTy.one (CTy.int IntKind.u64)).Has row) →
 (w0 s = true →
 ∃ s01, iB s01 ∧
 (s.i = s01.i ∧
 a = a ∧
 b = b ∧
 s.j = s.j ∧
 s.rows = s01.rows) ∧
 ∀ (s1 : I1), iB s1 →
 IntKind.i64.has a →
 IntKind.i64.has s1.i →
 IntKind.i64.has b →
 IntKind.i64.has s.j →
 (∀ (row1 : Int), row1 ∈ s1.rows →
 (RTy.one (CTy.int IntKind.u64)).Has row1) →
 (w1 b s1 = true →
 ((0 : Int) ≤ s1.i ∧
 s1.i < w2 s1) ∧
 part0 s1) ∧
 (w6 b s1 = true →
 ∃ s', iB s' ∧
 (b - s'.i).toNat < (w7 b s1).toNat ∧
 w8 s1 = s'.i ∧
 a = a ∧
 b = b ∧
 s.j = s.j ∧
 s1.rows = s'.rows) ∧
 ((!w6 b s1) = true →
 (w9 b s1 = true →
 ok s1.rows ∧
 (1 : Nat) ≤ (1 : Nat)) ∧
 ((!w9 b s1) = true →
 (w11 a b = true →
 ok s1.rows ∧
 (1 : Nat) ≤ (1 : Nat)) ∧
 ((!w11 a b) = true →
 (part0 s1 ∧
 ((0 : Int) ≤ s1.i ∧
 s1.i < w2 s1) ∧
 ((0 : Int) ≤ s1.i ∧
 s1.i < w2 s1) ∧
 (s1.i = s1.i ∧
 w3 s1 = w3 s1) ∧
 (0 : Int) ≤ w3 s1 ∧
 w3 s1 < (↑(w12 s1).length : Int)) ∧
 (w14 a s1 = true →
 ∃ s02, iC (w18 a b s s1) s02 ∧
 (w3 s1 = s02.i ∧
 a = a ∧
 b = b ∧
 s1.i = s1.i ∧
 s.j = s.j ∧
 w19 s1 = s02.rows) ∧
 ∀ (s2 : I1), iC (w18 a b s s1) s2 →
 IntKind.i64.has a →
 IntKind.i64.has s1.i →
 IntKind.i64.has s2.i →
 IntKind.i64.has b →
 IntKind.i64.has s.j →
 (∀ (row2 : Int), row2 ∈ s2.rows →
 (RTy.one (CTy.int IntKind.u64)).Has row2) →
 (w20 s2 = true →
 (((0 : Int) ≤ s2.i ∧
 s2.i < w21 s2) ∧
 part1 s2) ∧
 (w26 s2 = true →
 (w28 b s1 = true →
 ∃ s03, iD (w29 a b s s1 s2) s03 ∧
 (w8 s1 = s03.i ∧
 a = a ∧
 b = b ∧
 s1.i = s1.i ∧
 s.j = s.j ∧
 w30 s2 = s03.rows) ∧
 ∀ (s3 : I1), iD (w29 a b s s1 s2) s3 →
 IntKind.i64.has a →
 IntKind.i64.has s1.i →
 IntKind.i64.has b →
 IntKind.i64.has s.j →
 IntKind.i64.has s3.i →
 (∀ (row3 : Int), row3 ∈ s3.rows →
 (RTy.one (CTy.int IntKind.u64)).Has row3) →
 (w31 b s3 = true →
 (((0 : Int) ≤ s3.i ∧
 s3.i < w32 s3) ∧
 part2 s3) ∧
 (w36 s3 = true →
 part3 a b iA s s1 s3) ∧
 ((!w36 s3) = true →
 (part2 s3 ∧
 ((0 : Int) ≤ s3.i ∧
 s3.i < w32 s3) ∧
 ((0 : Int) ≤ s3.i ∧
 s3.i < w32 s3) ∧
 (s3.i = s3.i ∧
 w33 s3 = w33 s3) ∧
 (0 : Int) ≤ w33 s3 ∧
 w33 s3 < (↑(w39 s3).length : Int)) ∧
 ∃ s'2, iD (w29 a b s s1 s2) s'2 ∧
 (b - s'2.i).toNat < (b - s3.i).toNat ∧
 IntKind.i64.wrap (s3.i + (1 : Int)) = s'2.i ∧
 a = a ∧
 b = b ∧
 s1.i = s1.i ∧
 s.j = s.j ∧
 ((w39 s3).set (w34 s3) (rowU s3.rows s3.i.toNat)) = s'2.rows)) ∧
 ((!w31 b s3) = true →
 part3 a b iA s s1 s3)) ∧
 part4 a b iA s s1 s2) ∧
 ((!w26 s2) = true →
 (part1 s2 ∧
 ((0 : Int) ≤ s2.i ∧
 s2.i < w21 s2) ∧
 ((0 : Int) ≤ s2.i ∧
 s2.i < w21 s2) ∧
 (s2.i = s2.i ∧
 w22 s2 = w22 s2) ∧
 (0 : Int) ≤ w22 s2 ∧
 w22 s2 < (↑(w40 s2).length : Int)) ∧
 ∃ s'4, iC (w18 a b s s1) s'4 ∧
 (s'4.i + (1 : Int)).toNat < (s2.i + (1 : Int)).toNat ∧
 w22 s2 = s'4.i ∧
 a = a ∧
 b = b ∧
 s1.i = s1.i ∧
 s.j = s.j ∧
 ((w40 s2).set (w23 s2) (rowU s2.rows s2.i.toNat)) = s'4.rows)) ∧
 ((!w20 s2) = true →
 (w28 b s1 = true →
 ∃ s04, iD (w41 a b s s1 s2) s04 ∧
 (w8 s1 = s04.i ∧
 a = a ∧
 b = b ∧
 s1.i = s1.i ∧
 s.j = s.j ∧
 w30 s2 = s04.rows) ∧
 ∀ (s4 : I1), iD (w41 a b s s1 s2) s4 →
 IntKind.i64.has a →
 IntKind.i64.has s1.i →
 IntKind.i64.has b →
 IntKind.i64.has s.j →
 IntKind.i64.has s4.i →
 (∀ (row4 : Int), row4 ∈ s4.rows →
 (RTy.one (CTy.int IntKind.u64)).Has row4) →
 (w42 b s4 = true →
 (((0 : Int) ≤ s4.i ∧
 s4.i < w43 s4) ∧
 part5 s4) ∧
 (w47 s4 = true →
 part6 a b iA s s1 s4) ∧
 ((!w47 s4) = true →
 (part5 s4 ∧
 ((0 : Int) ≤ s4.i ∧
 s4.i < w43 s4) ∧
 ((0 : Int) ≤ s4.i ∧
 s4.i < w43 s4) ∧
 (s4.i = s4.i ∧
 w44 s4 = w44 s4) ∧
 (0 : Int) ≤ w44 s4 ∧
 w44 s4 < (↑(w48 s4).length : Int)) ∧
 ∃ s'6, iD (w41 a b s s1 s2) s'6 ∧
 (b - s'6.i).toNat < (b - s4.i).toNat ∧
 IntKind.i64.wrap (s4.i + (1 : Int)) = s'6.i ∧
 a = a ∧
 b = b ∧
 s1.i = s1.i ∧
 s.j = s.j ∧
 ((w48 s4).set (w45 s4) (rowU s4.rows s4.i.toNat)) = s'6.rows)) ∧
 ((!w42 b s4) = true →
 part6 a b iA s s1 s4)) ∧
 part4 a b iA s s1 s2)) ∧
 (w14 a s1 = false →
 (w28 b s1 = true →
 ∃ s05, iD (w49 a b s s1) s05 ∧
 (w8 s1 = s05.i ∧
 a = a ∧
 b = b ∧
 s1.i = s1.i ∧
 s.j = s.j ∧
 w19 s1 = s05.rows) ∧
 ∀ (s5 : I1), iD (w49 a b s s1) s5 →
 IntKind.i64.has a →
 IntKind.i64.has s1.i →
 IntKind.i64.has b →
 IntKind.i64.has s.j →
 IntKind.i64.has s5.i →
 (∀ (row5 : Int), row5 ∈ s5.rows →
 (RTy.one (CTy.int IntKind.u64)).Has row5) →
 (w50 b s5 = true →
 (((0 : Int) ≤ s5.i ∧
 s5.i < w51 s5) ∧
 part7 s5) ∧
 (w55 s5 = true →
 part8 a b iA s s1 s5) ∧
 ((!w55 s5) = true →
 (part7 s5 ∧
 ((0 : Int) ≤ s5.i ∧
 s5.i < w51 s5) ∧
 ((0 : Int) ≤ s5.i ∧
 s5.i < w51 s5) ∧
 (s5.i = s5.i ∧
 w52 s5 = w52 s5) ∧
 (0 : Int) ≤ w52 s5 ∧
 w52 s5 < (↑(w56 s5).length : Int)) ∧
 ∃ s'8, iD (w49 a b s s1) s'8 ∧
 (b - s'8.i).toNat < (b - s5.i).toNat ∧
 IntKind.i64.wrap (s5.i + (1 : Int)) = s'8.i ∧
 a = a ∧
 b = b ∧
 s1.i = s1.i ∧
 s.j = s.j ∧
 ((w56 s5).set (w53 s5) (rowU s5.rows s5.i.toNat)) = s'8.rows)) ∧
 ((!w50 b s5) = true →
 part8 a b iA s s1 s5)) ∧
 (w28 b s1 = false →
 ∃ s'9, iA s'9 ∧
 ((5 : Int) - s'9.j).toNat < w37 s ∧
 s1.i = s'9.i ∧
 w38 s = s'9.j ∧
 a = a ∧
 b = b ∧
 w19 s1 = s'9.rows)))))) ∧
 ((!w0 s) = true →
 ok s.rows ∧
 (1 : Nat) ≤ (1 : Nat))

theorem owed_eq (a b : Int) (rows : List Int) (ok : List Int → Prop) (iA : I2 → Prop) (iB : I1 → Prop) (iC iD : Int → I1 → Prop) : owed a b rows ok iA iB iC iD = vTop Try.prog noS (LL b iA iB iC iD) 20000 121 [.sw 0, .sI .i64 a, .sI .i64 b] (hS rows) (postB ok) := by kernel_rfl
end
end Go.Proofs.Ytdeoahhofhmgfaa.Sz.Pi
