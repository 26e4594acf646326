/- A part of the proof that 'slices.Sort' returns true for every input. No condition. -/
import Derived.Test.YtdeoahhofhmgfaaAmJ
import Derived.KernelRfl
import Derived.Test.YtdeoahhofhmgfaaSzT
namespace Go.Proofs.Ytdeoahhofhmgfaa.Sz.Pe
open Go.AM
noncomputable section
def LA (inv : Int → Int → I2 → Prop) (fr : Fr) : LInv := ⟨I2, inv (Go.AM.intOf fr 9) (Go.AM.intOf fr 10), fun s => patch [0, 1, 2, 3] [(9, .sI .i64 s.i), (10, .sI .i64 s.j)] [(0, .seq uR s.rows none)], fun s => (s.j - s.i + 2).toNat⟩
def LB (inv : Int → Int → I2 → Prop) (fr : Fr) : LInv := ⟨I2, inv (Go.AM.intOf fr 9) (Go.AM.intOf fr 10), fun s => patch [0, 1, 2, 3] [(9, .sI .i64 s.i), (10, .sI .i64 s.j)] [(0, .seq uR s.rows none)], fun s => (s.j - s.i + 2).toNat⟩
def LL (iA iB : Int → Int → I2 → Prop) : LTab := fun f k fr _ => match f, k with
  | 123, 3 => some (LA iA fr)
  | 123, 5 => some (LB iB fr)
  | _, _ => none
def w0 (rows : List Int) : Int := (↑rows.length : Int)
def w1 (a : Int) (p : Int) (rows : List Int) : List Int := rows.set a.toNat (rowU rows p.toNat)
def w2 (a : Int) : Int := IntKind.i64.wrap (a + (1 : Int))
def w3 (b : Int) : Int := IntKind.i64.wrap (b - (1 : Int))
def w4 (a : Int) (b : Int) (p : Int) (rows : List Int) : Int := intOf (((((T.nil.node (some (AV.sw (0 : Nat))) T.nil).node none (T.nil.node (some (AV.eptr (0 : Nat) a.toNat (0 : Nat))) T.nil)).node (some (AV.sI IntKind.i64 p)) ((T.nil.node (some (AV.sw (0 : Nat))) T.nil).node (some (AV.sw (0 : Nat))) (T.nil.node (some (AV.sI IntKind.i64 b)) T.nil))).node (some (AV.sI IntKind.i64 a)) (((T.nil.node (some (AV.eptr (0 : Nat) p.toNat (0 : Nat))) T.nil).node (some (AV.sI IntKind.i64 (w2 a))) (T.nil.node (some (AV.sI IntKind.i64 a)) T.nil)).node none ((T.nil.node (some (AV.eptr (0 : Nat) a.toNat (0 : Nat))) T.nil).node (some (AV.sw (0 : Nat))) T.nil))).node (some (AV.sw (0 : Nat))) ((((T.nil.node (some (AV.sI IntKind.i64 p)) T.nil).node (some (AV.int IntKind.i64 (0 : Int))) (T.nil.node (some (AV.eptr (0 : Nat) p.toNat (0 : Nat))) T.nil)).node none ((T.nil.node (some (AV.sI IntKind.i64 a)) T.nil).node (some (AV.sI IntKind.i64 a)) (T.nil.node (some (AV.sI IntKind.i64 (w3 b))) T.nil))).node (some (AV.sI IntKind.i64 b)) (((T.nil.node (some (AV.sI IntKind.u64 (rowU rows p.toNat))) T.nil).node (some (AV.sI IntKind.i64 (w3 b))) (T.nil.node (some (AV.sI IntKind.i64 (w2 a))) T.nil)).node none ((T.nil.node (some (AV.sI IntKind.u64 (rowU rows a.toNat))) T.nil).node (some (AV.sI IntKind.i64 p)) T.nil)))) (9 : Nat)
def w5 (a : Int) (b : Int) (p : Int) (rows : List Int) : Int := intOf (((((T.nil.node (some (AV.sw (0 : Nat))) T.nil).node none (T.nil.node (some (AV.eptr (0 : Nat) a.toNat (0 : Nat))) T.nil)).node (some (AV.sI IntKind.i64 p)) ((T.nil.node (some (AV.sw (0 : Nat))) T.nil).node (some (AV.sw (0 : Nat))) (T.nil.node (some (AV.sI IntKind.i64 b)) T.nil))).node (some (AV.sI IntKind.i64 a)) (((T.nil.node (some (AV.eptr (0 : Nat) p.toNat (0 : Nat))) T.nil).node (some (AV.sI IntKind.i64 (w2 a))) (T.nil.node (some (AV.sI IntKind.i64 a)) T.nil)).node none ((T.nil.node (some (AV.eptr (0 : Nat) a.toNat (0 : Nat))) T.nil).node (some (AV.sw (0 : Nat))) T.nil))).node (some (AV.sw (0 : Nat))) ((((T.nil.node (some (AV.sI IntKind.i64 p)) T.nil).node (some (AV.int IntKind.i64 (0 : Int))) (T.nil.node (some (AV.eptr (0 : Nat) p.toNat (0 : Nat))) T.nil)).node none ((T.nil.node (some (AV.sI IntKind.i64 a)) T.nil).node (some (AV.sI IntKind.i64 a)) (T.nil.node (some (AV.sI IntKind.i64 (w3 b))) T.nil))).node (some (AV.sI IntKind.i64 b)) (((T.nil.node (some (AV.sI IntKind.u64 (rowU rows p.toNat))) T.nil).node (some (AV.sI IntKind.i64 (w3 b))) (T.nil.node (some (AV.sI IntKind.i64 (w2 a))) T.nil)).node none ((T.nil.node (some (AV.sI IntKind.u64 (rowU rows a.toNat))) T.nil).node (some (AV.sI IntKind.i64 p)) T.nil)))) (10 : Nat)
def w6 (a : Int) (b : Int) (p : Int) (s : I2) : Int := intOf (((T.nil.node (some (AV.sI IntKind.i64 p)) T.nil).node (some (AV.sI IntKind.i64 a)) ((T.nil.node (some (AV.sI IntKind.i64 s.i)) T.nil).node none T.nil)).node (some (AV.sw (0 : Nat))) (T.nil.node (some (AV.sI IntKind.i64 b)) ((T.nil.node (some (AV.sI IntKind.i64 s.j)) T.nil).node none T.nil))) (9 : Nat)
def w7 (a : Int) (b : Int) (p : Int) (s : I2) : Int := intOf (((T.nil.node (some (AV.sI IntKind.i64 p)) T.nil).node (some (AV.sI IntKind.i64 a)) ((T.nil.node (some (AV.sI IntKind.i64 s.i)) T.nil).node none T.nil)).node (some (AV.sw (0 : Nat))) (T.nil.node (some (AV.sI IntKind.i64 b)) ((T.nil.node (some (AV.sI IntKind.i64 s.j)) T.nil).node none T.nil))) (10 : Nat)
def w8 (s1 : I2) : Bool := decide (s1.i ≤ s1.j)
def w9 (s1 : I2) : Int := (↑s1.rows.length : Int)
def w10 (a : Int) (s1 : I2) : Bool := decide (rowU s1.rows a.toNat < rowU s1.rows s1.i.toNat)
def w11 (a : Int) (s1 : I2) : Bool := w8 s1 && !bif decide (rowU s1.rows a.toNat ≠ rowU s1.rows a.toNat) then !decide (rowU s1.rows s1.i.toNat ≠ rowU s1.rows s1.i.toNat) || w10 a s1 else w10 a s1
def w12 (s1 : I2) : List Int := s1.rows
def w13 (s1 : I2) : Bool := bif w8 s1 then w8 s1 else w8 s1
def w14 (s1 : I2) : Int := bif w8 s1 then s1.i else s1.i
def w15 (s1 : I2) : Int := bif w8 s1 then s1.j else s1.j
def w16 (a : Int) (b : Int) (p : Int) (s1 : I2) : Int := intOf ((((((T.nil.node (some (AV.sB (w13 s1))) T.nil).node none T.nil).node none T.nil).node (some (AV.sI IntKind.i64 p)) (T.nil.node none ((T.nil.node (some (AV.sB (w11 a s1))) T.nil).node none T.nil))).node (some (AV.sI IntKind.i64 a)) ((T.nil.node (some (AV.sI IntKind.i64 s1.i)) T.nil).node none (T.nil.node none (T.nil.node (some (AV.sI IntKind.i64 (w14 s1))) T.nil)))).node (some (AV.sw (0 : Nat))) (((((T.nil.node (some (AV.sB (w8 s1))) T.nil).node none T.nil).node none T.nil).node none T.nil).node (some (AV.sI IntKind.i64 b)) ((T.nil.node (some (AV.sI IntKind.i64 s1.j)) T.nil).node none (T.nil.node none (T.nil.node (some (AV.sI IntKind.i64 (w15 s1))) T.nil))))) (9 : Nat)
def w17 (a : Int) (b : Int) (p : Int) (s1 : I2) : Int := intOf ((((((T.nil.node (some (AV.sB (w13 s1))) T.nil).node none T.nil).node none T.nil).node (some (AV.sI IntKind.i64 p)) (T.nil.node none ((T.nil.node (some (AV.sB (w11 a s1))) T.nil).node none T.nil))).node (some (AV.sI IntKind.i64 a)) ((T.nil.node (some (AV.sI IntKind.i64 s1.i)) T.nil).node none (T.nil.node none (T.nil.node (some (AV.sI IntKind.i64 (w14 s1))) T.nil)))).node (some (AV.sw (0 : Nat))) (((((T.nil.node (some (AV.sB (w8 s1))) T.nil).node none T.nil).node none T.nil).node none T.nil).node (some (AV.sI IntKind.i64 b)) ((T.nil.node (some (AV.sI IntKind.i64 s1.j)) T.nil).node none (T.nil.node none (T.nil.node (some (AV.sI IntKind.i64 (w15 s1))) T.nil))))) (10 : Nat)
def w18 (s2 : I2) : Bool := decide (s2.i ≤ s2.j)
def w19 (s2 : I2) : Int := (↑s2.rows.length : Int)
def w20 (a : Int) (s2 : I2) : Bool := decide (rowU s2.rows a.toNat < rowU s2.rows s2.j.toNat)
def w21 (a : Int) (s2 : I2) : Bool := w18 s2 && bif decide (rowU s2.rows a.toNat ≠ rowU s2.rows a.toNat) then !decide (rowU s2.rows s2.j.toNat ≠ rowU s2.rows s2.j.toNat) || w20 a s2 else w20 a s2
def w22 (s2 : I2) : Int := IntKind.i64.wrap (s2.j - (1 : Int))
def w23 (s2 : I2) : Bool := decide (s2.j < s2.i)
def w24 (s2 : I2) : List Int := s2.rows.set s2.i.toNat (rowU s2.rows s2.j.toNat)
def owed (a b p : Int) (rows : List Int) (ok : List Int → Int → Prop) (iA iB : Int → Int → I2 → Prop) : Prop :=
  (((0 : Int) ≤ p ∧
 p < w0 rows) ∧
 ((0 : Int) ≤ a ∧
 a < w0 rows) ∧
 ((0 : Int) ≤ a ∧
 a < w0 rows) ∧
 p = p ∧
 (0 : Int) ≤ p ∧
 p < (↑(w1 a p rows).length : Int)) ∧
 ∃ s0, iA (w4 a b p rows) (w5 a b p rows) s0 ∧
 (w2 a = s0.i ∧
 w3 b = s0.j ∧
 a = a ∧
 b = b ∧
 p = p ∧
 ((w1 a p rows).set p.toNat (rowU rows a.toNat)) = s0.rows) ∧
 ∀ (s : I2), iA (w4 a b p rows) (w5 a b p rows) s →
 IntKind.i64.has a →
 IntKind.i64.has p →
 IntKind.i64.has s.i →
 IntKind.i64.has b →
 IntKind.i64.has s.j →
 (∀ (row : Int), row ∈ s.rows →
 (RTy.one (CTy.int IntKind.u64)).Has row) →
 ∃ s01, iA (w6 a b p s) (w7 a b p s) s01 ∧
 (s.i = s01.i ∧
 s.j = s01.j ∧
 a = a ∧
 b = b ∧
 p = p ∧
 s.rows = s01.rows) ∧
 ∀ (s1 : I2), iA (w6 a b p s) (w7 a b p s) s1 →
 IntKind.i64.has a →
 IntKind.i64.has p →
 IntKind.i64.has s1.i →
 IntKind.i64.has b →
 IntKind.i64.has s1.j →
 (∀ (row1 : Int), row1 ∈ s1.rows →
 (RTy.one (CTy.int IntKind.u64)).Has row1) →
 (w8 s1 = true →
 ((0 : Int) ≤ a ∧
 a < w9 s1) ∧
 (0 : Int) ≤ s1.i ∧
 s1.i < w9 s1) ∧
 (w11 a s1 = true →
 ∃ s', iA (w6 a b p s) (w7 a b p s) s' ∧
 (s'.j - s'.i + (2 : Int)).toNat < (s1.j - s1.i + (2 : Int)).toNat ∧
 IntKind.i64.wrap (s1.i + (1 : Int)) = s'.i ∧
 s1.j = s'.j ∧
 a = a ∧
 b = b ∧
 p = p ∧
 w12 s1 = s'.rows) ∧
 ((!w11 a s1) = true →
 ∃ s02, iB (w16 a b p s1) (w17 a b p s1) s02 ∧
 (s1.i = s02.i ∧
 s1.j = s02.j ∧
 a = a ∧
 b = b ∧
 p = p ∧
 w12 s1 = s02.rows) ∧
 ∀ (s2 : I2), iB (w16 a b p s1) (w17 a b p s1) s2 →
 IntKind.i64.has a →
 IntKind.i64.has p →
 IntKind.i64.has s2.i →
 IntKind.i64.has b →
 IntKind.i64.has s2.j →
 (∀ (row2 : Int), row2 ∈ s2.rows →
 (RTy.one (CTy.int IntKind.u64)).Has row2) →
 (w18 s2 = true →
 ((0 : Int) ≤ a ∧
 a < w19 s2) ∧
 (0 : Int) ≤ s2.j ∧
 s2.j < w19 s2) ∧
 (w21 a s2 = true →
 ∃ s'1, iB (w16 a b p s1) (w17 a b p s1) s'1 ∧
 (s'1.j - s'1.i + (2 : Int)).toNat < (s2.j - s2.i + (2 : Int)).toNat ∧
 s2.i = s'1.i ∧
 w22 s2 = s'1.j ∧
 a = a ∧
 b = b ∧
 p = p ∧
 s2.rows = s'1.rows) ∧
 ((!w21 a s2) = true →
 (w23 s2 = true →
 ok s2.rows s2.i ∧
 (1 : Nat) ≤ (1 : Nat)) ∧
 ((!w23 s2) = true →
 (((0 : Int) ≤ s2.j ∧
 s2.j < w19 s2) ∧
 ((0 : Int) ≤ s2.i ∧
 s2.i < w19 s2) ∧
 ((0 : Int) ≤ s2.i ∧
 s2.i < w19 s2) ∧
 s2.j = s2.j ∧
 (0 : Int) ≤ s2.j ∧
 s2.j < (↑(w24 s2).length : Int)) ∧
 ∃ s'2, iA (w4 a b p rows) (w5 a b p rows) s'2 ∧
 (s'2.j - s'2.i + (2 : Int)).toNat < (s.j - s.i + (2 : Int)).toNat ∧
 IntKind.i64.wrap (s2.i + (1 : Int)) = s'2.i ∧
 w22 s2 = s'2.j ∧
 a = a ∧
 b = b ∧
 p = p ∧
 ((w24 s2).set s2.j.toNat (rowU s2.rows s2.i.toNat)) = s'2.rows)))

theorem owed_eq (a b p : Int) (rows : List Int) (ok : List Int → Int → Prop) (iA iB : Int → Int → I2 → Prop) : owed a b p rows ok iA iB = vTop Try.prog noS (LL iA iB) 20000 123 [.sw 0, .sI .i64 a, .sI .i64 b, .sI .i64 p] (hS rows) (postI ok) := by kernel_rfl
end
end Go.Proofs.Ytdeoahhofhmgfaa.Sz.Pe
