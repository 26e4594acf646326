/- A part of the proof that 'slices.Sort' returns true for every input. No condition. -/
import Derived.Test.YtdeoahhofhmgfaaAmJ
import Derived.KernelRfl
import Derived.Test.YtdeoahhofhmgfaaSzS3
namespace Go.Proofs.Ytdeoahhofhmgfaa.Sz.Pq
open Go.AM
noncomputable section
structure Q1 where
  rows : List Int
  a : Int
  b : Int
  l : Int
  x : Bool
  y : Bool
structure C1 where
  rows : List Int
  l : Int
structure D1 where
  rows : List Int
  p : Int
  h : Int
def LA (inv : Q1 → Prop) (_fr : Fr) : LInv := ⟨Q1, inv, fun s => patch [0] [(1, .sI .i64 s.a), (2, .sI .i64 s.b), (3, .sI .i64 s.l), (8, .sB s.x), (9, .sB s.y)] [(0, .seq uR s.rows none)], fun s => (s.b - s.a).toNat⟩
def LC (inv : C1 → Prop) (_fr : Fr) : LInv := ⟨C1, inv, fun s => patch [0, 1, 2, 8, 9, 10] [(3, .sI .i64 s.l)] [(0, .seq uR s.rows none)], fun _ => 0⟩
def LD (inv : Int → Int → D1 → Prop) (fr : Fr) : LInv := ⟨D1, inv (Go.AM.intOf fr 1) (Go.AM.intOf fr 2), fun s => patch [0, 1, 2, 3, 8, 9, 10] [(11, .sI .i64 s.p), (12, .sI .i64 s.h)] [(0, .seq uR s.rows none)], fun _ => 0⟩
def LE (inv : Int → Int → D1 → Prop) (fr : Fr) : LInv := ⟨D1, inv (Go.AM.intOf fr 1) (Go.AM.intOf fr 2), fun s => patch [0, 1, 2, 3, 8, 9, 10] [(11, .sI .i64 s.p), (12, .sI .i64 s.h)] [(0, .seq uR s.rows none)], fun _ => 0⟩
def LL (iA : Q1 → Prop) (iC : C1 → Prop) (iD : Int → Int → D1 → Prop) : LTab := fun f k fr _ => match f, k with
  | 112, 2 => some (LA iA fr)
  | 112, 1000010 => some (LC iC fr)
  | 112, 1000015 => some (LD iD fr)
  | 112, 1000017 => some (LE iD fr)
  | _, _ => none
def w0 (s : Q1) : Int := s.b - s.a
def w1 (s : Q1) : Int := IntKind.i64.wrap (w0 s)
def w2 (s : Q1) : Bool := decide (w1 s ≤ (12 : Int))
def w3 (s : Q1) : Int := (↑s.rows.length : Int)
def w4 (s : Q1) : Bool := decide (s.l = (0 : Int))
def w5 (s1 : C1) : Int := (↑s1.rows.length : Int)
def w6 (m : Int) : Bool := decide (m = (2 : Int))
def w7 (p : Int) (m : Int) : List AV := [AV.sI IntKind.i64 p, AV.sI IntKind.i64 m]
def w8 (s : Q1) (s1 : C1) (p : Int) (m : Int) : Int := intOf (((((T.nil.node none (T.nil.node (some (AV.sI IntKind.i64 p)) T.nil)).node none T.nil).node (some (AV.sI IntKind.i64 s1.l)) (T.nil.node (some (AV.sI IntKind.i64 p)) ((T.nil.node (some (AV.sw (0 : Nat))) T.nil).node none T.nil))).node (some (AV.sI IntKind.i64 s.a)) ((T.nil.node (some (AV.sB s.y)) T.nil).node none (T.nil.node none ((T.nil.node (some (AV.sI IntKind.i64 s.b)) T.nil).node none T.nil)))).node (some (AV.sw (0 : Nat))) ((((T.nil.node none (T.nil.node (some (AV.sI IntKind.i64 m)) T.nil)).node (some (AV.sB s.x)) T.nil).node none (T.nil.node (some (AV.sI IntKind.i64 m)) ((T.nil.node (some (AV.sI IntKind.i64 s.a)) T.nil).node none T.nil))).node (some (AV.sI IntKind.i64 s.b)) ((T.nil.node (some (AV.sI IntKind.i64 (w1 s))) ((T.nil.node (some (AV.tup (w7 p m))) T.nil).node none T.nil)).node none (T.nil.node none ((T.nil.node (some (AV.tup (w7 p m))) T.nil).node none T.nil))))) (1 : Nat)
def w9 (s : Q1) (s1 : C1) (p : Int) (m : Int) : Int := intOf (((((T.nil.node none (T.nil.node (some (AV.sI IntKind.i64 p)) T.nil)).node none T.nil).node (some (AV.sI IntKind.i64 s1.l)) (T.nil.node (some (AV.sI IntKind.i64 p)) ((T.nil.node (some (AV.sw (0 : Nat))) T.nil).node none T.nil))).node (some (AV.sI IntKind.i64 s.a)) ((T.nil.node (some (AV.sB s.y)) T.nil).node none (T.nil.node none ((T.nil.node (some (AV.sI IntKind.i64 s.b)) T.nil).node none T.nil)))).node (some (AV.sw (0 : Nat))) ((((T.nil.node none (T.nil.node (some (AV.sI IntKind.i64 m)) T.nil)).node (some (AV.sB s.x)) T.nil).node none (T.nil.node (some (AV.sI IntKind.i64 m)) ((T.nil.node (some (AV.sI IntKind.i64 s.a)) T.nil).node none T.nil))).node (some (AV.sI IntKind.i64 s.b)) ((T.nil.node (some (AV.sI IntKind.i64 (w1 s))) ((T.nil.node (some (AV.tup (w7 p m))) T.nil).node none T.nil)).node none (T.nil.node none ((T.nil.node (some (AV.tup (w7 p m))) T.nil).node none T.nil))))) (2 : Nat)
def w10 (s : Q1) (s2 : D1) : Bool := s.x && (s.y && decide (s2.h = (1 : Int)))
def w11 (s : Q1) (s1 : C1) (s2 : D1) : Int := intOf (((T.nil.node (some (AV.sI IntKind.i64 s1.l)) (T.nil.node (some (AV.sI IntKind.i64 s2.p)) T.nil)).node (some (AV.sI IntKind.i64 s.a)) ((T.nil.node (some (AV.sB s.y)) T.nil).node none T.nil)).node (some (AV.sw (0 : Nat))) (((T.nil.node (some (AV.sB s.x)) T.nil).node none (T.nil.node (some (AV.sI IntKind.i64 s2.h)) T.nil)).node (some (AV.sI IntKind.i64 s.b)) ((T.nil.node (some (AV.sI IntKind.i64 (w1 s))) T.nil).node none T.nil))) (1 : Nat)
def w12 (s : Q1) (s1 : C1) (s2 : D1) : Int := intOf (((T.nil.node (some (AV.sI IntKind.i64 s1.l)) (T.nil.node (some (AV.sI IntKind.i64 s2.p)) T.nil)).node (some (AV.sI IntKind.i64 s.a)) ((T.nil.node (some (AV.sB s.y)) T.nil).node none T.nil)).node (some (AV.sw (0 : Nat))) (((T.nil.node (some (AV.sB s.x)) T.nil).node none (T.nil.node (some (AV.sI IntKind.i64 s2.h)) T.nil)).node (some (AV.sI IntKind.i64 s.b)) ((T.nil.node (some (AV.sI IntKind.i64 (w1 s))) T.nil).node none T.nil))) (2 : Nat)
def w13 (s : Q1) : Bool := decide ((0 : Int) < s.a)
def w14 (s : Q1) : Int := IntKind.i64.wrap (s.a - (1 : Int))
def w15 (s3 : D1) : Int := (↑s3.rows.length : Int)
def w16 (s : Q1) : Nat := (w14 s).toNat
def w17 (s : Q1) (s3 : D1) : Bool := decide (rowU s3.rows (w16 s) < rowU s3.rows s3.p.toNat)
def w18 (s : Q1) (s3 : D1) : Bool := w13 s && !bif decide (rowU s3.rows (w16 s) ≠ rowU s3.rows (w16 s)) then !decide (rowU s3.rows s3.p.toNat ≠ rowU s3.rows s3.p.toNat) || w17 s s3 else w17 s s3
def w19 (s : Q1) : Nat := (w0 s).toNat
def w20 (s : Q1) (n1 : Int) : Int := n1 - s.a
def w21 (s : Q1) (n1 : Int) : Int := IntKind.i64.wrap (w20 s n1)
def w22 (s : Q1) (n1 : Int) : Int := IntKind.i64.wrap (s.b - n1)
def w23 (s : Q1) (n1 : Int) : Bool := decide (w21 s n1 < w22 s n1)
def w24 (r5 : List Int) : Int := (↑r5.length : Int)
def w25 (n1 : Int) : Int := IntKind.i64.wrap (n1 + (1 : Int))
def w26 (s : Q1) : Int := IntKind.i64.wrap ((w1 s).tdiv (8 : Int))
def part0 (s : Q1) : Prop := (0 : Int) ≤ s.a ∧
 s.a ≤ s.b ∧
 s.b ≤ w3 s ∧
 s.rows.length < (4611686018427387904 : Nat)
def part1 (s : Q1) (s3 : D1) : Prop := (0 : Int) ≤ s.a ∧
 s.a < s.b ∧
 s.b ≤ (↑s3.rows.length : Int) ∧
 s.a ≤ s3.p ∧
 s3.p < s.b ∧
 s3.rows.length < (4611686018427387904 : Nat)
def owed (a b l N : Int) (rows : List Int) (ok : List Int → Prop) (iA : Q1 → Prop) (iC : C1 → Prop) (iD : Int → Int → D1 → Prop) : Prop :=
  ∃ s0, iA s0 ∧
 (a = s0.a ∧
 b = s0.b ∧
 l = s0.l ∧
 true = s0.x ∧
 true = s0.y ∧
 rows = s0.rows) ∧
 ∀ (s : Q1), iA s →
 IntKind.i64.has s.a →
 IntKind.i64.has s.l →
 IntKind.i64.has s.b →
 (∀ (row : Int), row ∈ s.rows →
 (RTy.one (CTy.int IntKind.u64)).Has row) →
 (w2 s = true →
 ((0 : Int) ≤ s.a ∧
 s.b ≤ w3 s ∧
 s.a ≤ w3 s ∧
 s.rows.length < (4611686018427387904 : Nat)) ∧
 ∀ (r : List Int), r.Perm s.rows →
 ok r ∧
 (1 : Nat) ≤ (1 : Nat)) ∧
 (w2 s = false →
 (w4 s = true →
 part0 s ∧
 ∀ (r : List Int), r.Perm s.rows →
 ok r ∧
 (1 : Nat) ≤ (1 : Nat)) ∧
 (w4 s = false →
 (((!s.x) = true →
 part0 s ∧
 ∀ (r1 : List Int), r1.Perm s.rows →
 ∃ s', iC s' ∧
 IntKind.i64.wrap (s.l - (1 : Int)) = s'.l ∧
 s.a = s.a ∧
 s.b = s.b ∧
 s.x = s.x ∧
 s.y = s.y ∧
 w1 s = w1 s ∧
 r1 = s'.rows) ∧
 ((!s.x) = false →
 ∃ s'1, iC s'1 ∧
 s.l = s'1.l ∧
 s.a = s.a ∧
 s.b = s.b ∧
 s.x = s.x ∧
 s.y = s.y ∧
 w1 s = w1 s ∧
 s.rows = s'1.rows)) ∧
 ∀ (s1 : C1), iC s1 →
 IntKind.i64.has s.a →
 IntKind.i64.has s1.l →
 IntKind.i64.has s.b →
 IntKind.i64.has (w1 s) →
 (∀ (row1 : Int), row1 ∈ s1.rows →
 (RTy.one (CTy.int IntKind.u64)).Has row1) →
 ((0 : Int) ≤ s.a ∧
 s.a + (8 : Int) ≤ s.b ∧
 s.b ≤ w5 s1 ∧
 s1.rows.length < (4611686018427387904 : Nat)) ∧
 ∀ (p m : Int), s.a ≤ p →
 p < s.b →
 ((w6 m = true →
 ((0 : Int) ≤ s.a ∧
 (0 : Int) ≤ s.b ∧
 s.b ≤ w5 s1 ∧
 s1.rows.length < (4611686018427387904 : Nat)) ∧
 ∀ (r2 : List Int), r2.Perm s1.rows →
 ∃ s'2, iD (w8 s s1 p m) (w9 s s1 p m) s'2 ∧
 IntKind.i64.wrap (IntKind.i64.wrap (s.b - (1 : Int)) - IntKind.i64.wrap (p - s.a)) = s'2.p ∧
 (1 : Int) = s'2.h ∧
 s.a = s.a ∧
 s.b = s.b ∧
 s1.l = s1.l ∧
 s.x = s.x ∧
 s.y = s.y ∧
 w1 s = w1 s ∧
 r2 = s'2.rows) ∧
 (w6 m = false →
 ∃ s'3, iD (w8 s s1 p m) (w9 s s1 p m) s'3 ∧
 p = s'3.p ∧
 m = s'3.h ∧
 s.a = s.a ∧
 s.b = s.b ∧
 s1.l = s1.l ∧
 s.x = s.x ∧
 s.y = s.y ∧
 w1 s = w1 s ∧
 s1.rows = s'3.rows)) ∧
 ∀ (s2 : D1), iD (w8 s s1 p m) (w9 s s1 p m) s2 →
 IntKind.i64.has s.a →
 IntKind.i64.has s1.l →
 IntKind.i64.has s2.p →
 IntKind.i64.has s.b →
 IntKind.i64.has s2.h →
 IntKind.i64.has (w1 s) →
 (∀ (row2 : Int), row2 ∈ s2.rows →
 (RTy.one (CTy.int IntKind.u64)).Has row2) →
 ((w10 s s2 = true →
 ((0 : Int) ≤ s.a ∧
 s.a < s.b ∧
 s.b ≤ (↑s2.rows.length : Int) ∧
 s2.rows.length < (4611686018427387904 : Nat)) ∧
 ∀ (r3 : List Int) (c : Bool), r3.Perm s2.rows →
 (c = true →
 ok r3 ∧
 (1 : Nat) ≤ (1 : Nat)) ∧
 ((!c) = true →
 ∃ s'4, iD (w11 s s1 s2) (w12 s s1 s2) s'4 ∧
 s2.p = s'4.p ∧
 s2.h = s'4.h ∧
 s.a = s.a ∧
 s.b = s.b ∧
 s1.l = s1.l ∧
 s.x = s.x ∧
 s.y = s.y ∧
 w1 s = w1 s ∧
 r3 = s'4.rows)) ∧
 (w10 s s2 = false →
 ∃ s'5, iD (w11 s s1 s2) (w12 s s1 s2) s'5 ∧
 s2.p = s'5.p ∧
 s2.h = s'5.h ∧
 s.a = s.a ∧
 s.b = s.b ∧
 s1.l = s1.l ∧
 s.x = s.x ∧
 s.y = s.y ∧
 w1 s = w1 s ∧
 s2.rows = s'5.rows)) ∧
 ∀ (s3 : D1), iD (w11 s s1 s2) (w12 s s1 s2) s3 →
 IntKind.i64.has s.a →
 IntKind.i64.has s1.l →
 IntKind.i64.has s3.p →
 IntKind.i64.has s.b →
 IntKind.i64.has s3.h →
 IntKind.i64.has (w1 s) →
 (∀ (row3 : Int), row3 ∈ s3.rows →
 (RTy.one (CTy.int IntKind.u64)).Has row3) →
 (w13 s = true →
 ((0 : Int) ≤ w14 s ∧
 w14 s < w15 s3) ∧
 (0 : Int) ≤ s3.p ∧
 s3.p < w15 s3) ∧
 (w18 s s3 = true →
 part1 s s3 ∧
 ∀ (r4 : List Int) (n : Int), r4.Perm s3.rows →
 s.a + (1 : Int) ≤ n →
 n ≤ s.b →
 ∃ s'6, iA s'6 ∧
 (s'6.b - s'6.a).toNat < w19 s ∧
 n = s'6.a ∧
 s.b = s'6.b ∧
 s1.l = s'6.l ∧
 s.x = s'6.x ∧
 s.y = s'6.y ∧
 r4 = s'6.rows) ∧
 (w18 s s3 = false →
 part1 s s3 ∧
 ∀ (r5 : List Int) (n1 : Int) (c1 : Bool), r5.Perm s3.rows →
 s.a ≤ n1 →
 n1 < s.b →
 (8 : Int) ≠ (0 : Int) ∧
 (w23 s n1 = true →
 ((0 : Int) ≤ s.a ∧
 s.a ≤ n1 ∧
 n1 ≤ w24 r5 ∧
 r5.length < (4611686018427387904 : Nat) ∧
 w20 s n1 < N) ∧
 ∀ (r6 : List Int), r6.Perm r5 →
 ∃ s'7, iA s'7 ∧
 (s'7.b - s'7.a).toNat < w19 s ∧
 w25 n1 = s'7.a ∧
 s.b = s'7.b ∧
 s1.l = s'7.l ∧
 decide (w26 s ≤ w21 s n1) = s'7.x ∧
 c1 = s'7.y ∧
 r6 = s'7.rows) ∧
 (w23 s n1 = false →
 ((0 : Int) ≤ w25 n1 ∧
 w25 n1 ≤ s.b ∧
 s.b ≤ w24 r5 ∧
 r5.length < (4611686018427387904 : Nat) ∧
 s.b - w25 n1 < N) ∧
 ∀ (r7 : List Int), r7.Perm r5 →
 ∃ s'8, iA s'8 ∧
 (s'8.b - s'8.a).toNat < w19 s ∧
 s.a = s'8.a ∧
 n1 = s'8.b ∧
 s1.l = s'8.l ∧
 decide (w26 s ≤ w22 s n1) = s'8.x ∧
 c1 = s'8.y ∧
 r7 = s'8.rows))))

theorem owed_eq (a b l N : Int) (rows : List Int) (ok : List Int → Prop) (iA : Q1 → Prop) (iC : C1 → Prop) (iD : Int → Int → D1 → Prop) : owed a b l N rows ok iA iC iD = vTop Try.prog (S2 N) (LL iA iC iD) 20000 112 [.sw 0, .sI .i64 a, .sI .i64 b, .sI .i64 l] (hS rows) (postN ok) := by kernel_rfl
end
end Go.Proofs.Ytdeoahhofhmgfaa.Sz.Pq
