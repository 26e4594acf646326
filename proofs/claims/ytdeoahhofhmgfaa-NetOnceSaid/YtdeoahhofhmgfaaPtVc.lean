/- A part of the proof that 'slices.Sort' returns true for every input. No condition. -/
import Derived.Test.YtdeoahhofhmgfaaAmJ
import Derived.KernelRfl
import Derived.Test.YtdeoahhofhmgfaaSzT
namespace Go.Proofs.Ytdeoahhofhmgfaa.Sz.Pt
open Go.AM
noncomputable section
def LA (inv : Int → Int → I2 → Prop) (fr : Fr) : LInv := ⟨I2, inv (Go.AM.intOf fr 10) (Go.AM.intOf fr 11), fun s => patch [0, 1, 2, 3] [(10, .sI .i64 s.i), (11, .sI .i64 s.j)] [(0, .seq uR s.rows none)], fun s => (s.j - s.i + 2).toNat⟩
def LB (inv : Int → Int → I2 → Prop) (fr : Fr) : LInv := ⟨I2, inv (Go.AM.intOf fr 10) (Go.AM.intOf fr 11), fun s => patch [0, 1, 2, 3] [(10, .sI .i64 s.i), (11, .sI .i64 s.j)] [(0, .seq uR s.rows none)], fun s => (s.j - s.i + 2).toNat⟩
def LC (inv : Int → Int → I2 → Prop) (fr : Fr) : LInv := ⟨I2, inv (Go.AM.intOf fr 10) (Go.AM.intOf fr 11), fun s => patch [0, 1, 2, 3] [(10, .sI .i64 s.i), (11, .sI .i64 s.j)] [(0, .seq uR s.rows none)], fun s => (s.j - s.i + 2).toNat⟩
def LD (inv : Int → Int → I2 → Prop) (fr : Fr) : LInv := ⟨I2, inv (Go.AM.intOf fr 10) (Go.AM.intOf fr 11), fun s => patch [0, 1, 2, 3] [(10, .sI .i64 s.i), (11, .sI .i64 s.j)] [(0, .seq uR s.rows none)], fun s => (s.j - s.i + 2).toNat⟩
def LL (iA iB iC iD : Int → Int → I2 → Prop) : LTab := fun f k fr _ => match f, k with
  | 124, 3 => some (LA iA fr)
  | 124, 5 => some (LB iB fr)
  | 124, 13 => some (LC iC fr)
  | 124, 15 => some (LD iD fr)
  | _, _ => none
def w0 (rows : List Int) : Int := (↑rows.length : Int)
def w1 (a : Int) (p : Int) (rows : List Int) : List Int := rows.set a.toNat (rowU rows p.toNat)
def w2 (b : Int) : Int := IntKind.i64.wrap (b - (1 : Int))
def w3 (a : Int) : Int := IntKind.i64.wrap (a + (1 : Int))
def w4 (a : Int) (b : Int) (p : Int) (rows : List Int) : Int := intOf (((((T.nil.node (some (AV.sI IntKind.i64 p)) T.nil).node none (T.nil.node (some (AV.sI IntKind.u64 (rowU rows a.toNat))) T.nil)).node (some (AV.sI IntKind.i64 p)) ((T.nil.node (some (AV.sI IntKind.u64 (rowU rows p.toNat))) T.nil).node (some (AV.sI IntKind.i64 (w2 b))) (T.nil.node (some (AV.sI IntKind.i64 (w3 a))) T.nil))).node (some (AV.sI IntKind.i64 a)) (((T.nil.node (some (AV.sI IntKind.i64 p)) T.nil).node (some (AV.bool false)) (T.nil.node (some (AV.eptr (0 : Nat) p.toNat (0 : Nat))) T.nil)).node none ((T.nil.node (some (AV.sI IntKind.i64 a)) T.nil).node (some (AV.sI IntKind.i64 a)) (T.nil.node (some (AV.sI IntKind.i64 (w2 b))) T.nil)))).node (some (AV.sw (0 : Nat))) ((((T.nil.node (some (AV.sw (0 : Nat))) T.nil).node (some (AV.int IntKind.i64 (0 : Int))) (T.nil.node (some (AV.eptr (0 : Nat) a.toNat (0 : Nat))) T.nil)).node none ((T.nil.node (some (AV.sw (0 : Nat))) T.nil).node (some (AV.sw (0 : Nat))) (T.nil.node (some (AV.sI IntKind.i64 b)) T.nil))).node (some (AV.sI IntKind.i64 b)) (((T.nil.node (some (AV.eptr (0 : Nat) p.toNat (0 : Nat))) T.nil).node (some (AV.sI IntKind.i64 (w3 a))) (T.nil.node (some (AV.sI IntKind.i64 a)) T.nil)).node none ((T.nil.node (some (AV.eptr (0 : Nat) a.toNat (0 : Nat))) T.nil).node (some (AV.sw (0 : Nat))) T.nil)))) (10 : Nat)
def w5 (a : Int) (b : Int) (p : Int) (rows : List Int) : Int := intOf (((((T.nil.node (some (AV.sI IntKind.i64 p)) T.nil).node none (T.nil.node (some (AV.sI IntKind.u64 (rowU rows a.toNat))) T.nil)).node (some (AV.sI IntKind.i64 p)) ((T.nil.node (some (AV.sI IntKind.u64 (rowU rows p.toNat))) T.nil).node (some (AV.sI IntKind.i64 (w2 b))) (T.nil.node (some (AV.sI IntKind.i64 (w3 a))) T.nil))).node (some (AV.sI IntKind.i64 a)) (((T.nil.node (some (AV.sI IntKind.i64 p)) T.nil).node (some (AV.bool false)) (T.nil.node (some (AV.eptr (0 : Nat) p.toNat (0 : Nat))) T.nil)).node none ((T.nil.node (some (AV.sI IntKind.i64 a)) T.nil).node (some (AV.sI IntKind.i64 a)) (T.nil.node (some (AV.sI IntKind.i64 (w2 b))) T.nil)))).node (some (AV.sw (0 : Nat))) ((((T.nil.node (some (AV.sw (0 : Nat))) T.nil).node (some (AV.int IntKind.i64 (0 : Int))) (T.nil.node (some (AV.eptr (0 : Nat) a.toNat (0 : Nat))) T.nil)).node none ((T.nil.node (some (AV.sw (0 : Nat))) T.nil).node (some (AV.sw (0 : Nat))) (T.nil.node (some (AV.sI IntKind.i64 b)) T.nil))).node (some (AV.sI IntKind.i64 b)) (((T.nil.node (some (AV.eptr (0 : Nat) p.toNat (0 : Nat))) T.nil).node (some (AV.sI IntKind.i64 (w3 a))) (T.nil.node (some (AV.sI IntKind.i64 a)) T.nil)).node none ((T.nil.node (some (AV.eptr (0 : Nat) a.toNat (0 : Nat))) T.nil).node (some (AV.sw (0 : Nat))) T.nil)))) (11 : Nat)
def w6 (s : I2) : Bool := decide (s.i ≤ s.j)
def w7 (s : I2) : Int := (↑s.rows.length : Int)
def w8 (a : Int) (s : I2) : Bool := decide (rowU s.rows s.i.toNat < rowU s.rows a.toNat)
def w9 (a : Int) (s : I2) : Bool := w6 s && bif decide (rowU s.rows s.i.toNat ≠ rowU s.rows s.i.toNat) then !decide (rowU s.rows a.toNat ≠ rowU s.rows a.toNat) || w8 a s else w8 a s
def w10 (s : I2) : List Int := s.rows
def w11 (s : I2) : Int := bif w6 s then s.j else s.j
def w12 (s : I2) : Bool := bif w6 s then w6 s else w6 s
def w13 (s : I2) : Int := bif w6 s then s.i else s.i
def w14 (a : Int) (b : Int) (p : Int) (s : I2) : Int := intOf ((((((T.nil.node (some (AV.sI IntKind.i64 (w11 s))) T.nil).node none T.nil).node none T.nil).node (some (AV.sI IntKind.i64 p)) (T.nil.node (some (AV.sI IntKind.i64 s.j)) ((T.nil.node (some (AV.sB (w9 a s))) T.nil).node none T.nil))).node (some (AV.sI IntKind.i64 a)) ((((T.nil.node (some (AV.sB (w6 s))) T.nil).node none T.nil).node none T.nil).node none T.nil)).node (some (AV.sw (0 : Nat))) (((((T.nil.node (some (AV.sB (w12 s))) T.nil).node none T.nil).node none T.nil).node none T.nil).node (some (AV.sI IntKind.i64 b)) ((T.nil.node (some (AV.sI IntKind.i64 s.i)) T.nil).node none (T.nil.node none (T.nil.node (some (AV.sI IntKind.i64 (w13 s))) T.nil))))) (10 : Nat)
def w15 (a : Int) (b : Int) (p : Int) (s : I2) : Int := intOf ((((((T.nil.node (some (AV.sI IntKind.i64 (w11 s))) T.nil).node none T.nil).node none T.nil).node (some (AV.sI IntKind.i64 p)) (T.nil.node (some (AV.sI IntKind.i64 s.j)) ((T.nil.node (some (AV.sB (w9 a s))) T.nil).node none T.nil))).node (some (AV.sI IntKind.i64 a)) ((((T.nil.node (some (AV.sB (w6 s))) T.nil).node none T.nil).node none T.nil).node none T.nil)).node (some (AV.sw (0 : Nat))) (((((T.nil.node (some (AV.sB (w12 s))) T.nil).node none T.nil).node none T.nil).node none T.nil).node (some (AV.sI IntKind.i64 b)) ((T.nil.node (some (AV.sI IntKind.i64 s.i)) T.nil).node none (T.nil.node none (T.nil.node (some (AV.sI IntKind.i64 (w13 s))) T.nil))))) (11 : Nat)
def w16 (s1 : I2) : Bool := decide (s1.i ≤ s1.j)
def w17 (s1 : I2) : Int := (↑s1.rows.length : Int)
def w18 (a : Int) (s1 : I2) : Bool := decide (rowU s1.rows s1.j.toNat < rowU s1.rows a.toNat)
def w19 (a : Int) (s1 : I2) : Bool := w16 s1 && !bif decide (rowU s1.rows s1.j.toNat ≠ rowU s1.rows s1.j.toNat) then !decide (rowU s1.rows a.toNat ≠ rowU s1.rows a.toNat) || w18 a s1 else w18 a s1
def w20 (s1 : I2) : Int := IntKind.i64.wrap (s1.j - (1 : Int))
def w21 (s1 : I2) : Bool := decide (s1.j < s1.i)
def w22 (a : Int) (s1 : I2) : List Int := s1.rows.set s1.j.toNat (rowU s1.rows a.toNat)
def w23 (s1 : I2) : List Int := s1.rows.set s1.i.toNat (rowU s1.rows s1.j.toNat)
def w24 (s1 : I2) : Int := bif w16 s1 then s1.j else s1.j
def w25 (s1 : I2) : Int := IntKind.i64.wrap (s1.i + (1 : Int))
def w26 (s1 : I2) : Bool := bif w16 s1 then w16 s1 else w16 s1
def w27 (s1 : I2) : Int := bif w16 s1 then s1.i else s1.i
def w28 (a : Int) (b : Int) (p : Int) (s1 : I2) : Int := intOf (((((((T.nil.node (some (AV.sI IntKind.i64 s1.i)) T.nil).node none (T.nil.node (some (AV.sI IntKind.i64 s1.i)) T.nil)).node none (T.nil.node (some (AV.sI IntKind.i64 (w24 s1))) T.nil)).node none (T.nil.node none ((T.nil.node (some (AV.eptr (0 : Nat) s1.j.toNat (0 : Nat))) T.nil).node none T.nil))).node (some (AV.sI IntKind.i64 p)) ((T.nil.node none ((T.nil.node (some (AV.sw (0 : Nat))) T.nil).node none T.nil)).node (some (AV.sI IntKind.i64 (w20 s1))) (T.nil.node none ((T.nil.node (some (AV.eptr (0 : Nat) s1.i.toNat (0 : Nat))) T.nil).node none T.nil)))).node (some (AV.sI IntKind.i64 a)) (((((T.nil.node (some (AV.sB (w21 s1))) T.nil).node none (T.nil.node (some (AV.sI IntKind.i64 s1.j)) T.nil)).node none ((T.nil.node (some (AV.sw (0 : Nat))) T.nil).node (some (AV.sB (w16 s1))) T.nil)).node none (T.nil.node none ((T.nil.node (some (AV.sw (0 : Nat))) T.nil).node none T.nil))).node none ((T.nil.node none ((T.nil.node (some (AV.sw (0 : Nat))) T.nil).node none T.nil)).node none (T.nil.node none ((T.nil.node (some (AV.eptr (0 : Nat) s1.i.toNat (0 : Nat))) T.nil).node none T.nil))))).node (some (AV.sw (0 : Nat))) ((((((T.nil.node (some (AV.sI IntKind.i64 s1.j)) T.nil).node none (T.nil.node (some (AV.sI IntKind.i64 (w25 s1))) T.nil)).node none (T.nil.node (some (AV.sB (w26 s1))) T.nil)).node none (T.nil.node none ((T.nil.node (some (AV.sI IntKind.u64 (rowU s1.rows s1.j.toNat))) T.nil).node none T.nil))).node none ((T.nil.node none ((T.nil.node (some (AV.sI IntKind.i64 s1.j)) T.nil).node none T.nil)).node none (T.nil.node none ((T.nil.node (some (AV.sI IntKind.u64 (rowU s1.rows s1.i.toNat))) T.nil).node (some (AV.sB (w19 a s1))) T.nil)))).node (some (AV.sI IntKind.i64 b)) ((((T.nil.node none (T.nil.node (some (AV.sI IntKind.i64 (w20 s1))) T.nil)).node none ((T.nil.node (some (AV.sI IntKind.i64 s1.i)) T.nil).node none T.nil)).node (some (AV.sI IntKind.i64 (w25 s1))) (T.nil.node none ((T.nil.node (some (AV.sI IntKind.i64 s1.i)) T.nil).node none T.nil))).node none ((T.nil.node none ((T.nil.node (some (AV.sI IntKind.i64 s1.j)) T.nil).node none T.nil)).node none ((T.nil.node (some (AV.sI IntKind.i64 (w27 s1))) T.nil).node none ((T.nil.node (some (AV.eptr (0 : Nat) s1.j.toNat (0 : Nat))) T.nil).node none T.nil)))))) (10 : Nat)
def w29 (a : Int) (b : Int) (p : Int) (s1 : I2) : Int := intOf (((((((T.nil.node (some (AV.sI IntKind.i64 s1.i)) T.nil).node none (T.nil.node (some (AV.sI IntKind.i64 s1.i)) T.nil)).node none (T.nil.node (some (AV.sI IntKind.i64 (w24 s1))) T.nil)).node none (T.nil.node none ((T.nil.node (some (AV.eptr (0 : Nat) s1.j.toNat (0 : Nat))) T.nil).node none T.nil))).node (some (AV.sI IntKind.i64 p)) ((T.nil.node none ((T.nil.node (some (AV.sw (0 : Nat))) T.nil).node none T.nil)).node (some (AV.sI IntKind.i64 (w20 s1))) (T.nil.node none ((T.nil.node (some (AV.eptr (0 : Nat) s1.i.toNat (0 : Nat))) T.nil).node none T.nil)))).node (some (AV.sI IntKind.i64 a)) (((((T.nil.node (some (AV.sB (w21 s1))) T.nil).node none (T.nil.node (some (AV.sI IntKind.i64 s1.j)) T.nil)).node none ((T.nil.node (some (AV.sw (0 : Nat))) T.nil).node (some (AV.sB (w16 s1))) T.nil)).node none (T.nil.node none ((T.nil.node (some (AV.sw (0 : Nat))) T.nil).node none T.nil))).node none ((T.nil.node none ((T.nil.node (some (AV.sw (0 : Nat))) T.nil).node none T.nil)).node none (T.nil.node none ((T.nil.node (some (AV.eptr (0 : Nat) s1.i.toNat (0 : Nat))) T.nil).node none T.nil))))).node (some (AV.sw (0 : Nat))) ((((((T.nil.node (some (AV.sI IntKind.i64 s1.j)) T.nil).node none (T.nil.node (some (AV.sI IntKind.i64 (w25 s1))) T.nil)).node none (T.nil.node (some (AV.sB (w26 s1))) T.nil)).node none (T.nil.node none ((T.nil.node (some (AV.sI IntKind.u64 (rowU s1.rows s1.j.toNat))) T.nil).node none T.nil))).node none ((T.nil.node none ((T.nil.node (some (AV.sI IntKind.i64 s1.j)) T.nil).node none T.nil)).node none (T.nil.node none ((T.nil.node (some (AV.sI IntKind.u64 (rowU s1.rows s1.i.toNat))) T.nil).node (some (AV.sB (w19 a s1))) T.nil)))).node (some (AV.sI IntKind.i64 b)) ((((T.nil.node none (T.nil.node (some (AV.sI IntKind.i64 (w20 s1))) T.nil)).node none ((T.nil.node (some (AV.sI IntKind.i64 s1.i)) T.nil).node none T.nil)).node (some (AV.sI IntKind.i64 (w25 s1))) (T.nil.node none ((T.nil.node (some (AV.sI IntKind.i64 s1.i)) T.nil).node none T.nil))).node none ((T.nil.node none ((T.nil.node (some (AV.sI IntKind.i64 s1.j)) T.nil).node none T.nil)).node none ((T.nil.node (some (AV.sI IntKind.i64 (w27 s1))) T.nil).node none ((T.nil.node (some (AV.eptr (0 : Nat) s1.j.toNat (0 : Nat))) T.nil).node none T.nil)))))) (11 : Nat)
def w30 (a : Int) (b : Int) (p : Int) (s2 : I2) : Int := intOf (((T.nil.node (some (AV.sI IntKind.i64 p)) (T.nil.node (some (AV.sI IntKind.i64 s2.j)) T.nil)).node (some (AV.sI IntKind.i64 a)) T.nil).node (some (AV.sw (0 : Nat))) (T.nil.node (some (AV.sI IntKind.i64 b)) ((T.nil.node (some (AV.sI IntKind.i64 s2.i)) T.nil).node none T.nil))) (10 : Nat)
def w31 (a : Int) (b : Int) (p : Int) (s2 : I2) : Int := intOf (((T.nil.node (some (AV.sI IntKind.i64 p)) (T.nil.node (some (AV.sI IntKind.i64 s2.j)) T.nil)).node (some (AV.sI IntKind.i64 a)) T.nil).node (some (AV.sw (0 : Nat))) (T.nil.node (some (AV.sI IntKind.i64 b)) ((T.nil.node (some (AV.sI IntKind.i64 s2.i)) T.nil).node none T.nil))) (11 : Nat)
def w32 (s3 : I2) : Bool := decide (s3.i ≤ s3.j)
def w33 (s3 : I2) : Int := (↑s3.rows.length : Int)
def w34 (a : Int) (s3 : I2) : Bool := decide (rowU s3.rows s3.i.toNat < rowU s3.rows a.toNat)
def w35 (a : Int) (s3 : I2) : Bool := w32 s3 && bif decide (rowU s3.rows s3.i.toNat ≠ rowU s3.rows s3.i.toNat) then !decide (rowU s3.rows a.toNat ≠ rowU s3.rows a.toNat) || w34 a s3 else w34 a s3
def w36 (s3 : I2) : List Int := s3.rows
def w37 (s3 : I2) : Int := bif w32 s3 then s3.i else s3.i
def w38 (s3 : I2) : Bool := bif w32 s3 then w32 s3 else w32 s3
def w39 (s3 : I2) : Int := bif w32 s3 then s3.j else s3.j
def w40 (a : Int) (b : Int) (p : Int) (s3 : I2) : Int := intOf (((T.nil.node (some (AV.sI IntKind.i64 p)) (((T.nil.node none (T.nil.node (some (AV.sI IntKind.i64 (w37 s3))) T.nil)).node none T.nil).node (some (AV.sI IntKind.i64 s3.j)) T.nil)).node (some (AV.sI IntKind.i64 a)) (T.nil.node none (((T.nil.node none (T.nil.node (some (AV.sB (w38 s3))) T.nil)).node none T.nil).node none T.nil))).node (some (AV.sw (0 : Nat))) ((((T.nil.node none (T.nil.node none (T.nil.node (some (AV.sB (w35 a s3))) T.nil))).node none T.nil).node none (((T.nil.node none (T.nil.node (some (AV.sI IntKind.i64 (w39 s3))) T.nil)).node none T.nil).node none T.nil)).node (some (AV.sI IntKind.i64 b)) ((T.nil.node (some (AV.sI IntKind.i64 s3.i)) T.nil).node none (((T.nil.node none (T.nil.node (some (AV.sB (w32 s3))) T.nil)).node none T.nil).node none T.nil)))) (10 : Nat)
def w41 (a : Int) (b : Int) (p : Int) (s3 : I2) : Int := intOf (((T.nil.node (some (AV.sI IntKind.i64 p)) (((T.nil.node none (T.nil.node (some (AV.sI IntKind.i64 (w37 s3))) T.nil)).node none T.nil).node (some (AV.sI IntKind.i64 s3.j)) T.nil)).node (some (AV.sI IntKind.i64 a)) (T.nil.node none (((T.nil.node none (T.nil.node (some (AV.sB (w38 s3))) T.nil)).node none T.nil).node none T.nil))).node (some (AV.sw (0 : Nat))) ((((T.nil.node none (T.nil.node none (T.nil.node (some (AV.sB (w35 a s3))) T.nil))).node none T.nil).node none (((T.nil.node none (T.nil.node (some (AV.sI IntKind.i64 (w39 s3))) T.nil)).node none T.nil).node none T.nil)).node (some (AV.sI IntKind.i64 b)) ((T.nil.node (some (AV.sI IntKind.i64 s3.i)) T.nil).node none (((T.nil.node none (T.nil.node (some (AV.sB (w32 s3))) T.nil)).node none T.nil).node none T.nil)))) (11 : Nat)
def w42 (s4 : I2) : Bool := decide (s4.i ≤ s4.j)
def w43 (s4 : I2) : Int := (↑s4.rows.length : Int)
def w44 (a : Int) (s4 : I2) : Bool := decide (rowU s4.rows s4.j.toNat < rowU s4.rows a.toNat)
def w45 (a : Int) (s4 : I2) : Bool := w42 s4 && !bif decide (rowU s4.rows s4.j.toNat ≠ rowU s4.rows s4.j.toNat) then !decide (rowU s4.rows a.toNat ≠ rowU s4.rows a.toNat) || w44 a s4 else w44 a s4
def w46 (s4 : I2) : Int := IntKind.i64.wrap (s4.j - (1 : Int))
def w47 (s4 : I2) : Bool := decide (s4.j < s4.i)
def w48 (a : Int) (s4 : I2) : List Int := s4.rows.set s4.j.toNat (rowU s4.rows a.toNat)
def w49 (s4 : I2) : List Int := s4.rows.set s4.i.toNat (rowU s4.rows s4.j.toNat)
def owed (a b p : Int) (rows : List Int) (ok : List Int → Int → Prop) (iA iB iC iD : Int → Int → I2 → Prop) : Prop :=
  (((0 : Int) ≤ p ∧
 p < w0 rows) ∧
 ((0 : Int) ≤ a ∧
 a < w0 rows) ∧
 ((0 : Int) ≤ a ∧
 a < w0 rows) ∧
 p = p ∧
 (0 : Int) ≤ p ∧
 p < (↑(w1 a p rows).length : Int)) ∧
 ∃ s0, iA (w4 a b p rows) (w5 a b p rows) s0 ∧
 (w3 a = s0.i ∧
 w2 b = s0.j ∧
 a = a ∧
 b = b ∧
 p = p ∧
 ((w1 a p rows).set p.toNat (rowU rows a.toNat)) = s0.rows) ∧
 ∀ (s : I2), iA (w4 a b p rows) (w5 a b p rows) s →
 IntKind.i64.has a →
 IntKind.i64.has p →
 IntKind.i64.has s.j →
 IntKind.i64.has b →
 IntKind.i64.has s.i →
 (∀ (row : Int), row ∈ s.rows →
 (RTy.one (CTy.int IntKind.u64)).Has row) →
 (w6 s = true →
 ((0 : Int) ≤ s.i ∧
 s.i < w7 s) ∧
 (0 : Int) ≤ a ∧
 a < w7 s) ∧
 (w9 a s = true →
 ∃ s', iA (w4 a b p rows) (w5 a b p rows) s' ∧
 (s'.j - s'.i + (2 : Int)).toNat < (s.j - s.i + (2 : Int)).toNat ∧
 IntKind.i64.wrap (s.i + (1 : Int)) = s'.i ∧
 s.j = s'.j ∧
 a = a ∧
 b = b ∧
 p = p ∧
 w10 s = s'.rows) ∧
 ((!w9 a s) = true →
 ∃ s01, iB (w14 a b p s) (w15 a b p s) s01 ∧
 (s.i = s01.i ∧
 s.j = s01.j ∧
 a = a ∧
 b = b ∧
 p = p ∧
 w10 s = s01.rows) ∧
 ∀ (s1 : I2), iB (w14 a b p s) (w15 a b p s) s1 →
 IntKind.i64.has a →
 IntKind.i64.has p →
 IntKind.i64.has s1.j →
 IntKind.i64.has b →
 IntKind.i64.has s1.i →
 (∀ (row1 : Int), row1 ∈ s1.rows →
 (RTy.one (CTy.int IntKind.u64)).Has row1) →
 (w16 s1 = true →
 ((0 : Int) ≤ s1.j ∧
 s1.j < w17 s1) ∧
 (0 : Int) ≤ a ∧
 a < w17 s1) ∧
 (w19 a s1 = true →
 ∃ s'1, iB (w14 a b p s) (w15 a b p s) s'1 ∧
 (s'1.j - s'1.i + (2 : Int)).toNat < (s1.j - s1.i + (2 : Int)).toNat ∧
 s1.i = s'1.i ∧
 w20 s1 = s'1.j ∧
 a = a ∧
 b = b ∧
 p = p ∧
 s1.rows = s'1.rows) ∧
 ((!w19 a s1) = true →
 (w21 s1 = true →
 ((0 : Int) ≤ a ∧
 a < w17 s1) ∧
 ((0 : Int) ≤ s1.j ∧
 s1.j < w17 s1) ∧
 ((0 : Int) ≤ s1.j ∧
 s1.j < w17 s1) ∧
 a = a ∧
 (0 : Int) ≤ a ∧
 a < (↑(w22 a s1).length : Int)) ∧
 (w21 s1 = true →
 ok ((w22 a s1).set a.toNat (rowU s1.rows s1.j.toNat)) s1.j ∧
 (1 : Nat) ≤ (1 : Nat)) ∧
 ((!w21 s1) = true →
 (((0 : Int) ≤ s1.j ∧
 s1.j < w17 s1) ∧
 ((0 : Int) ≤ s1.i ∧
 s1.i < w17 s1) ∧
 ((0 : Int) ≤ s1.i ∧
 s1.i < w17 s1) ∧
 s1.j = s1.j ∧
 (0 : Int) ≤ s1.j ∧
 s1.j < (↑(w23 s1).length : Int)) ∧
 ∃ s02, iC (w28 a b p s1) (w29 a b p s1) s02 ∧
 (w25 s1 = s02.i ∧
 w20 s1 = s02.j ∧
 a = a ∧
 b = b ∧
 p = p ∧
 ((w23 s1).set s1.j.toNat (rowU s1.rows s1.i.toNat)) = s02.rows) ∧
 ∀ (s2 : I2), iC (w28 a b p s1) (w29 a b p s1) s2 →
 IntKind.i64.has a →
 IntKind.i64.has p →
 IntKind.i64.has s2.j →
 IntKind.i64.has b →
 IntKind.i64.has s2.i →
 (∀ (row2 : Int), row2 ∈ s2.rows →
 (RTy.one (CTy.int IntKind.u64)).Has row2) →
 ∃ s03, iC (w30 a b p s2) (w31 a b p s2) s03 ∧
 (s2.i = s03.i ∧
 s2.j = s03.j ∧
 a = a ∧
 b = b ∧
 p = p ∧
 s2.rows = s03.rows) ∧
 ∀ (s3 : I2), iC (w30 a b p s2) (w31 a b p s2) s3 →
 IntKind.i64.has a →
 IntKind.i64.has p →
 IntKind.i64.has s3.j →
 IntKind.i64.has b →
 IntKind.i64.has s3.i →
 (∀ (row3 : Int), row3 ∈ s3.rows →
 (RTy.one (CTy.int IntKind.u64)).Has row3) →
 (w32 s3 = true →
 ((0 : Int) ≤ s3.i ∧
 s3.i < w33 s3) ∧
 (0 : Int) ≤ a ∧
 a < w33 s3) ∧
 (w35 a s3 = true →
 ∃ s'2, iC (w30 a b p s2) (w31 a b p s2) s'2 ∧
 (s'2.j - s'2.i + (2 : Int)).toNat < (s3.j - s3.i + (2 : Int)).toNat ∧
 IntKind.i64.wrap (s3.i + (1 : Int)) = s'2.i ∧
 s3.j = s'2.j ∧
 a = a ∧
 b = b ∧
 p = p ∧
 w36 s3 = s'2.rows) ∧
 ((!w35 a s3) = true →
 ∃ s04, iD (w40 a b p s3) (w41 a b p s3) s04 ∧
 (s3.i = s04.i ∧
 s3.j = s04.j ∧
 a = a ∧
 b = b ∧
 p = p ∧
 w36 s3 = s04.rows) ∧
 ∀ (s4 : I2), iD (w40 a b p s3) (w41 a b p s3) s4 →
 IntKind.i64.has a →
 IntKind.i64.has p →
 IntKind.i64.has s4.j →
 IntKind.i64.has b →
 IntKind.i64.has s4.i →
 (∀ (row4 : Int), row4 ∈ s4.rows →
 (RTy.one (CTy.int IntKind.u64)).Has row4) →
 (w42 s4 = true →
 ((0 : Int) ≤ s4.j ∧
 s4.j < w43 s4) ∧
 (0 : Int) ≤ a ∧
 a < w43 s4) ∧
 (w45 a s4 = true →
 ∃ s'3, iD (w40 a b p s3) (w41 a b p s3) s'3 ∧
 (s'3.j - s'3.i + (2 : Int)).toNat < (s4.j - s4.i + (2 : Int)).toNat ∧
 s4.i = s'3.i ∧
 w46 s4 = s'3.j ∧
 a = a ∧
 b = b ∧
 p = p ∧
 s4.rows = s'3.rows) ∧
 ((!w45 a s4) = true →
 (w47 s4 = true →
 (((0 : Int) ≤ a ∧
 a < w43 s4) ∧
 ((0 : Int) ≤ s4.j ∧
 s4.j < w43 s4) ∧
 ((0 : Int) ≤ s4.j ∧
 s4.j < w43 s4) ∧
 a = a ∧
 (0 : Int) ≤ a ∧
 a < (↑(w48 a s4).length : Int)) ∧
 ok ((w48 a s4).set a.toNat (rowU s4.rows s4.j.toNat)) s4.j ∧
 (1 : Nat) ≤ (1 : Nat)) ∧
 ((!w47 s4) = true →
 (((0 : Int) ≤ s4.j ∧
 s4.j < w43 s4) ∧
 ((0 : Int) ≤ s4.i ∧
 s4.i < w43 s4) ∧
 ((0 : Int) ≤ s4.i ∧
 s4.i < w43 s4) ∧
 s4.j = s4.j ∧
 (0 : Int) ≤ s4.j ∧
 s4.j < (↑(w49 s4).length : Int)) ∧
 ∃ s'4, iC (w28 a b p s1) (w29 a b p s1) s'4 ∧
 (s'4.j - s'4.i + (2 : Int)).toNat < (s2.j - s2.i + (2 : Int)).toNat ∧
 IntKind.i64.wrap (s4.i + (1 : Int)) = s'4.i ∧
 w46 s4 = s'4.j ∧
 a = a ∧
 b = b ∧
 p = p ∧
 ((w49 s4).set s4.j.toNat (rowU s4.rows s4.i.toNat)) = s'4.rows))))))

theorem owed_eq (a b p : Int) (rows : List Int) (ok : List Int → Int → Prop) (iA iB iC iD : Int → Int → I2 → Prop) : owed a b p rows ok iA iB iC iD = vTop Try.prog noS (LL iA iB iC iD) 20000 124 [.sw 0, .sI .i64 a, .sI .i64 b, .sI .i64 p] (hS rows) (postIB ok) := by kernel_rfl
end
end Go.Proofs.Ytdeoahhofhmgfaa.Sz.Pt
