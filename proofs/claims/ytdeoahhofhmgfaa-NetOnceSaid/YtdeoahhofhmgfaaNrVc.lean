/- A part of the proof that 'reevelaw10.NetOnce' returns true for every input. No condition. -/
import Derived.Test.YtdeoahhofhmgfaaAmJ
import Derived.KernelRfl
import Derived.Test.YtdeoahhofhmgfaaLsSum
namespace Go.Proofs.Ytdeoahhofhmgfaa.No.Nr
open Go.AM
open Sz
noncomputable section
structure R1 where
  i : Int
  rows : List Letter
structure R2 where
  n : Nat
  rows : List Letter
  l : List Int
/-- Which block a row lies in. -/
def rowId (H : Heap) (c : Nat) : Nat := match cellOf H c 0 with
  | .sw i => i
  | .ss i _ _ => i
  | _ => 0
def ssB (H : Heap) (c : Nat) : Bool := match cellOf H c 0 with
  | .ss _ _ _ => true
  | _ => false
def ifc (fr : Fr) : Nat := match avOf fr 0 with
  | .iface _ (.ptr c _) => c
  | _ => 0
/-- Which block a slot's row lies in. -/
def sliId (fr : Fr) (t : Nat) : Nat := match avOf fr t with
  | .sw i => i
  | .slc i _ _ _ _ => i
  | _ => 0
def seqT (H : Heap) (i : Nat) : List Letter := match H.get i with
  | some (.seq (.cons (.int _) (.cons (.int _) (.cons (.int _) (.cons .txt (.one (.int _)))))) rows _) => rows
  | _ => []
def LA (inv : R1 → Prop) (fr : Fr) (_H : Heap) : LInv := ⟨R1, inv, fun s fr H => patchA [0, 3, 8, 9] (fun _ => [(10, .sI .i64 s.i)]) [(ptrOf fr 3, .cells false 1 [.sw H.next] none)] [.seq letR s.rows none] fr H, fun s => (Go.AM.intOf fr 9 - s.i).toNat⟩
def LB (inv : List Letter → Int → R1 → Prop) (fr : Fr) (H : Heap) : LInv := ⟨R1, inv (seqT H (rowId H (ifc fr))) (Go.AM.intOf fr 2), fun s => patch [0, 2] [(3, .sI .i64 s.i)] [(rowId H (ifc fr), .seq letR s.rows none)], fun s => (s.i + 1).toNat⟩
def LC (inv : List Letter → Int → Int → R1 → Prop) (fr : Fr) (H : Heap) : LInv := ⟨R1, inv (seqT H (rowId H (ifc fr))) (Go.AM.intOf fr 1) (Go.AM.intOf fr 2), fun s => patch [0, 1, 2, 6] [(7, .sI .i64 s.i)] [(rowId H (ifc fr), .seq letR s.rows none)], fun s => (Go.AM.intOf fr 2 - s.i).toNat⟩
def LD (inv : R2 → Prop) (fr : Fr) (H : Heap) : Option LInv := match ssB H (ptrOf fr 3) with
  | true => some ⟨R2, inv, fun s fr H => patch [0, 3] [(6, .sw (sliId fr 6))] [(ptrOf fr 3, .cells false 1 [.ss (rowId H (ptrOf fr 3)) 0 s.n] none), (rowId H (ptrOf fr 3), .seq letR s.rows none), (sliId fr 6, .seq uR s.l none)] fr H, fun s => s.n⟩
  | false => none
def LL (iA : R1 → Prop) (iB : List Letter → Int → R1 → Prop) (iC : List Letter → Int → Int → R1 → Prop) (iD : R2 → Prop) : LTab := fun f k fr H => match f, k with
  | 37, 3 => some (LA iA fr H)
  | 83, 2 => some (LB iB fr H)
  | 102, 2 => some (LC iC fr H)
  | 37, 10 => LD iD fr H
  | _, _ => none
/-- It hands back a new row, and turned nothing. -/
def post (H : Heap) (v : AV) (H' : Heap) : Prop := match v with
  | .sw j => match H'.get j with
    | some (.seq (.one (.int .u64)) rows none) => 3 ≤ j ∧ j < H'.next ∧ LenOk rows ∧ H'.get 0 = H.get 0 ∧ H'.get 1 = H.get 1 ∧ H'.get 2 = H.get 2
    | _ => False
  | .nilSlc => H'.get 0 = H.get 0 ∧ H'.get 1 = H.get 1 ∧ H'.get 2 = H.get 2
  | _ => False
def w0 (rows : List Letter) : Int := (↑rows.length : Int)
def w1 (m : Lm) : List Int := List.map (fun x => x.fst) m
def w2 (m : Lm) : Nat := List.length m
def w3 (cm : Cm) : List (Int × Int) := List.map (fun x => x.fst) cm
def w4 (cm : Cm) : Nat := List.length cm
def w5 (rows : List Letter) (s : R1) : Bool := decide (s.i < w0 rows)
def w6 (cm : Cm) (rows : List Letter) (s : R1) : Bool := !decide ((0 : Int) < (mget cm (min (rowT rows s.i.toNat).snd.fst (rowT rows s.i.toNat).snd.snd.fst, max (rowT rows s.i.toNat).snd.fst (rowT rows s.i.toNat).snd.snd.fst)).getD (0 : Int))
def w7 (s : R1) : List Letter := s.rows
def w8 (rows : List Letter) (s : R1) : List Letter := w7 s ++ [((rowT rows s.i.toNat).fst, (rowT rows s.i.toNat).snd.fst, (rowT rows s.i.toNat).snd.snd.fst, (rowT rows s.i.toNat).snd.snd.snd.fst, (rowT rows s.i.toNat).snd.snd.snd.snd)]
def w9 (rows : List Letter) (s : R1) : Nat := (w8 rows s).length
def w10 (rows : List Letter) : Int := intOf ((((T.nil.node (some (AV.ptr (0 : Nat) (0 : Nat))) T.nil).node (some (AV.ptr (3 : Nat) (0 : Nat))) T.nil).node none ((T.nil.node (some (AV.sI IntKind.i64 (w0 rows))) T.nil).node none T.nil)).node (some (AV.ptr (0 : Nat) (0 : Nat))) (((T.nil.node (some (AV.sw (4 : Nat))) T.nil).node none T.nil).node (some AV.nilSlc) ((T.nil.node (some (AV.int IntKind.i64 (0 : Int))) T.nil).node none T.nil))) (9 : Nat)
def w11 (rows : List Letter) (s : R1) : Nat := (w10 rows - s.i).toNat
def w12 (s : R1) : Int := IntKind.i64.wrap (s.i + (1 : Int))
def w13 : List AV := [AV.sw (5 : Nat)]
def w14 (last : Int) : List AV := [AV.map (1 : Nat), AV.sI IntKind.u64 last, AV.map (2 : Nat)]
def w15 (m : Lm) (bs : List Nat) (clk : Nat) (last : Int) (cm : Cm) (cbs : List Nat) (cclk : Nat) (rows : List Letter) (s : R1) : List Letter := seqT { t := ((T.nil.node (some (AObj.cells false (1 : Nat) w13 none)) T.nil).node (some (AObj.smap false true (RTy.one (CTy.int IntKind.u64)) (RTy.cons (CTy.int IntKind.u64) (RTy.cons (CTy.int IntKind.i64) (RTy.cons (CTy.int IntKind.i64) (RTy.cons CTy.txt (RTy.one (CTy.int IntKind.i64)))))) m bs clk)) (T.nil.node (some (AObj.seq (RTy.cons (CTy.int IntKind.u64) (RTy.cons (CTy.int IntKind.i64) (RTy.cons (CTy.int IntKind.i64) (RTy.cons CTy.txt (RTy.one (CTy.int IntKind.i64)))))) s.rows none)) T.nil)).node (some (AObj.cells false (3 : Nat) (w14 last) (some (121 : Nat)))) ((T.nil.node (some (AObj.seq (RTy.cons (CTy.int IntKind.u64) (RTy.cons (CTy.int IntKind.i64) (RTy.cons (CTy.int IntKind.i64) (RTy.cons CTy.txt (RTy.one (CTy.int IntKind.i64)))))) rows none)) T.nil).node (some (AObj.smap true false (RTy.cons (CTy.int IntKind.i64) (RTy.one (CTy.int IntKind.i64))) (RTy.one (CTy.int IntKind.i64)) cm cbs cclk)) T.nil), next := (6 : Nat), d := (32 : Nat) } (5 : Nat)
def w16 (s : R1) : Int := (↑s.rows.length : Int)
def w17 (s : R1) : Int := IntKind.i64.wrap ((w16 s).tdiv (2 : Int))
def w18 (s : R1) : Int := IntKind.i64.wrap (w17 s - (1 : Int))
def w19 (s : R1) : Int := intOf ((((T.nil.node (some (AV.sI IntKind.i64 (w17 s))) T.nil).node (some (AV.sI IntKind.i64 (w18 s))) T.nil).node none (T.nil.node (some (AV.sI IntKind.i64 (w16 s))) T.nil)).node (some (AV.iface (136 : Nat) (AV.ptr (3 : Nat) (0 : Nat)))) (((T.nil.node (some (AV.sI IntKind.i64 (w18 s))) T.nil).node (some (AV.iface (136 : Nat) (AV.ptr (3 : Nat) (0 : Nat)))) T.nil).node (some (AV.sI IntKind.i64 (w16 s))) (T.nil.node (some (AV.sI IntKind.i64 (w16 s))) T.nil))) (2 : Nat)
def w20 (s1 : R1) : Bool := decide ((0 : Int) ≤ s1.i)
def w21 (m : Lm) (bs : List Nat) (clk : Nat) (last : Int) (cm : Cm) (cbs : List Nat) (cclk : Nat) (rows : List Letter) (s1 : R1) : List Letter := seqT { t := ((T.nil.node (some (AObj.cells false (1 : Nat) w13 none)) T.nil).node (some (AObj.smap false true (RTy.one (CTy.int IntKind.u64)) (RTy.cons (CTy.int IntKind.u64) (RTy.cons (CTy.int IntKind.i64) (RTy.cons (CTy.int IntKind.i64) (RTy.cons CTy.txt (RTy.one (CTy.int IntKind.i64)))))) m bs clk)) (T.nil.node (some (AObj.seq (RTy.cons (CTy.int IntKind.u64) (RTy.cons (CTy.int IntKind.i64) (RTy.cons (CTy.int IntKind.i64) (RTy.cons CTy.txt (RTy.one (CTy.int IntKind.i64)))))) s1.rows none)) T.nil)).node (some (AObj.cells false (3 : Nat) (w14 last) (some (121 : Nat)))) ((T.nil.node (some (AObj.seq (RTy.cons (CTy.int IntKind.u64) (RTy.cons (CTy.int IntKind.i64) (RTy.cons (CTy.int IntKind.i64) (RTy.cons CTy.txt (RTy.one (CTy.int IntKind.i64)))))) rows none)) T.nil).node (some (AObj.smap true false (RTy.cons (CTy.int IntKind.i64) (RTy.one (CTy.int IntKind.i64))) (RTy.one (CTy.int IntKind.i64)) cm cbs cclk)) T.nil), next := (6 : Nat) } (5 : Nat)
def w22 (s : R1) (s1 : R1) : Int := intOf ((((T.nil.node (some (AV.sI IntKind.i64 s1.i)) T.nil).node none (T.nil.node (some (AV.sI IntKind.i64 s1.i)) T.nil)).node (some (AV.sI IntKind.i64 s1.i)) T.nil).node (some (AV.iface (136 : Nat) (AV.ptr (3 : Nat) (0 : Nat)))) (T.nil.node (some (AV.sI IntKind.i64 (w16 s))) (T.nil.node (some (AV.bool false)) T.nil))) (1 : Nat)
def w23 (s : R1) (s1 : R1) : Int := intOf ((((T.nil.node (some (AV.sI IntKind.i64 s1.i)) T.nil).node none (T.nil.node (some (AV.sI IntKind.i64 s1.i)) T.nil)).node (some (AV.sI IntKind.i64 s1.i)) T.nil).node (some (AV.iface (136 : Nat) (AV.ptr (3 : Nat) (0 : Nat)))) (T.nil.node (some (AV.sI IntKind.i64 (w16 s))) (T.nil.node (some (AV.bool false)) T.nil))) (2 : Nat)
def w24 (s2 : R1) : Int := IntKind.i64.wrap (IntKind.i64.wrap ((2 : Int) * s2.i) + (1 : Int))
def w25 (s : R1) (s2 : R1) : Bool := decide (w16 s ≤ w24 s2) || decide (w24 s2 < (0 : Int))
def w26 (s2 : R1) : Int := IntKind.i64.wrap (w24 s2 + (1 : Int))
def w27 (s : R1) (s2 : R1) : Bool := decide (w26 s2 < w16 s)
def w28 (s2 : R1) : Int := (↑s2.rows.length : Int)
def w29 (s2 : R1) : Nat := (w26 s2).toNat
def w30 (s2 : R1) : Nat := (w24 s2).toNat
def w31 (s2 : R1) : Bool := decide ((rowT s2.rows (w29 s2)).snd.snd.snd.snd ≠ (rowT s2.rows (w30 s2)).snd.snd.snd.snd)
def w32 (s2 : R1) : Bool := !w31 s2
def w33 (s : R1) (s2 : R1) : Int := bif w27 s s2 && bif w32 s2 then decide ((rowT s2.rows (w29 s2)).fst < (rowT s2.rows (w30 s2)).fst) else decide ((rowT s2.rows (w30 s2)).snd.snd.snd.snd < (rowT s2.rows (w29 s2)).snd.snd.snd.snd) then w26 s2 else w24 s2
def w34 (s : R1) (s2 : R1) : Nat := (w33 s s2).toNat
def w35 (s : R1) (s2 : R1) : Bool := decide ((rowT s2.rows (w34 s s2)).snd.snd.snd.snd ≠ (rowT s2.rows s2.i.toNat).snd.snd.snd.snd)
def w36 (s : R1) (s2 : R1) : Bool := !w35 s s2
def w37 (s : R1) (s2 : R1) : Bool := !bif w36 s s2 then decide ((rowT s2.rows (w34 s s2)).fst < (rowT s2.rows s2.i.toNat).fst) else decide ((rowT s2.rows s2.i.toNat).snd.snd.snd.snd < (rowT s2.rows (w34 s s2)).snd.snd.snd.snd)
def w38 (s : R1) (s2 : R1) : List Letter := s2.rows.set s2.i.toNat ((rowT s2.rows (w34 s s2)).fst, (rowT s2.rows (w34 s s2)).snd.fst, (rowT s2.rows (w34 s s2)).snd.snd.fst, (rowT s2.rows (w34 s s2)).snd.snd.snd.fst, (rowT s2.rows (w34 s s2)).snd.snd.snd.snd)
def w39 (s1 : R1) : Int := (↑s1.rows.length : Int)
def w40 (s1 : R1) : Bool := decide ((0 : Int) < w39 s1)
def w41 (s1 : R1) : Int := IntKind.i64.wrap (w39 s1 - (1 : Int))
def w42 (s1 : R1) : Nat := (w41 s1).toNat
def w43 (s1 : R1) : List Letter := s1.rows.set (0 : Nat) ((rowT s1.rows (w42 s1)).fst, (rowT s1.rows (w42 s1)).snd.fst, (rowT s1.rows (w42 s1)).snd.snd.fst, (rowT s1.rows (w42 s1)).snd.snd.snd.fst, (rowT s1.rows (w42 s1)).snd.snd.snd.snd)
def w44 (s1 : R1) : List AV := [AV.sI IntKind.u64 (rowT s1.rows (0 : Nat)).fst]
def w45 (s1 : R1) : List Letter := (w43 s1).set (w42 s1) ((rowT s1.rows (0 : Nat)).fst, (rowT s1.rows (0 : Nat)).snd.fst, (rowT s1.rows (0 : Nat)).snd.snd.fst, (rowT s1.rows (0 : Nat)).snd.snd.snd.fst, (rowT s1.rows (0 : Nat)).snd.snd.snd.snd)
def w46 (m : Lm) (bs : List Nat) (clk : Nat) (last : Int) (cm : Cm) (cbs : List Nat) (cclk : Nat) (rows : List Letter) (s1 : R1) : List Letter := seqT { t := (((T.nil.node (some (AObj.cells false (1 : Nat) (w44 s1) (some (25 : Nat)))) T.nil).node (some (AObj.cells false (1 : Nat) w13 none)) T.nil).node (some (AObj.smap false true (RTy.one (CTy.int IntKind.u64)) (RTy.cons (CTy.int IntKind.u64) (RTy.cons (CTy.int IntKind.i64) (RTy.cons (CTy.int IntKind.i64) (RTy.cons CTy.txt (RTy.one (CTy.int IntKind.i64)))))) m bs clk)) (T.nil.node (some (AObj.seq (RTy.cons (CTy.int IntKind.u64) (RTy.cons (CTy.int IntKind.i64) (RTy.cons (CTy.int IntKind.i64) (RTy.cons CTy.txt (RTy.one (CTy.int IntKind.i64)))))) (w45 s1) none)) T.nil)).node (some (AObj.cells false (3 : Nat) (w14 last) (some (121 : Nat)))) ((T.nil.node (some (AObj.seq (RTy.cons (CTy.int IntKind.u64) (RTy.cons (CTy.int IntKind.i64) (RTy.cons (CTy.int IntKind.i64) (RTy.cons CTy.txt (RTy.one (CTy.int IntKind.i64)))))) rows none)) T.nil).node (some (AObj.smap true false (RTy.cons (CTy.int IntKind.i64) (RTy.one (CTy.int IntKind.i64))) (RTy.one (CTy.int IntKind.i64)) cm cbs cclk)) (T.nil.node (some (AObj.cells false (1 : Nat) (w44 s1) (some (25 : Nat)))) T.nil)), next := (8 : Nat), d := (224 : Nat) } (5 : Nat)
def w47 (s1 : R1) : Int := intOf ((((T.nil.node (some (AV.int IntKind.i64 (0 : Int))) T.nil).node none (T.nil.node (some (AV.int IntKind.i64 (0 : Int))) T.nil)).node (some (AV.int IntKind.i64 (0 : Int))) T.nil).node (some (AV.iface (136 : Nat) (AV.ptr (3 : Nat) (0 : Nat)))) (T.nil.node (some (AV.sI IntKind.i64 (w41 s1))) (T.nil.node (some (AV.bool false)) T.nil))) (2 : Nat)
def w48 (s3 : R1) : Int := IntKind.i64.wrap (IntKind.i64.wrap ((2 : Int) * s3.i) + (1 : Int))
def w49 (s1 : R1) (s3 : R1) : Bool := decide (w41 s1 ≤ w48 s3) || decide (w48 s3 < (0 : Int))
def w50 (s3 : R1) : Nat := s3.rows.length
def w51 (s3 : R1) : Int := (↑(w50 s3) : Int)
def w52 (s3 : R1) : Int := IntKind.i64.wrap (w51 s3 - (1 : Int))
def w53 (s3 : R1) : Nat := (w52 s3).toNat
def w54 (s3 : R1) : Nat := List.length (rowT s3.rows (w53 s3)).snd.snd.snd.fst
def w55 (s4 : R2) : Int := (↑s4.n : Int)
def w56 (s4 : R2) : Bool := decide ((0 : Int) < w55 s4)
def w57 (s4 : R2) : List Int := s4.l ++ [(rowT s4.rows (0 : Nat)).fst]
def w58 (s4 : R2) : Nat := (w57 s4).length
def w59 (s4 : R2) : Int := IntKind.i64.wrap (w55 s4 - (1 : Int))
def w60 (s4 : R2) : Nat := (0 : Nat) + (w59 s4).toNat
def w61 (s4 : R2) : List Letter := (s4.rows.set (0 : Nat) ((rowT s4.rows (w60 s4)).fst, (rowT s4.rows (w60 s4)).snd.fst, (rowT s4.rows (w60 s4)).snd.snd.fst, (rowT s4.rows (w60 s4)).snd.snd.snd.fst, (rowT s4.rows (w60 s4)).snd.snd.snd.snd)).set (w60 s4) ((rowT s4.rows (0 : Nat)).fst, (rowT s4.rows (0 : Nat)).snd.fst, (rowT s4.rows (0 : Nat)).snd.snd.fst, (rowT s4.rows (0 : Nat)).snd.snd.snd.fst, (rowT s4.rows (0 : Nat)).snd.snd.snd.snd)
def w62 (m : Lm) (bs : List Nat) (clk : Nat) (last : Int) (cm : Cm) (cbs : List Nat) (cclk : Nat) (rows : List Letter) (s1 : R1) (s3 : R1) (s4 : R2) : List Letter := seqT { t := (((T.nil.node none T.nil).node (some (AObj.cells false (1 : Nat) [AV.ss (5 : Nat) (0 : Nat) s4.n] none)) T.nil).node (some (AObj.smap false true (RTy.one (CTy.int IntKind.u64)) (RTy.cons (CTy.int IntKind.u64) (RTy.cons (CTy.int IntKind.i64) (RTy.cons (CTy.int IntKind.i64) (RTy.cons CTy.txt (RTy.one (CTy.int IntKind.i64)))))) m bs clk)) ((T.nil.node (some (AObj.cells false (1 : Nat) [AV.sI IntKind.u64 (rowT s4.rows (0 : Nat)).fst] (some (25 : Nat)))) T.nil).node (some (AObj.seq (RTy.cons (CTy.int IntKind.u64) (RTy.cons (CTy.int IntKind.i64) (RTy.cons (CTy.int IntKind.i64) (RTy.cons CTy.txt (RTy.one (CTy.int IntKind.i64)))))) (w61 s4) none)) T.nil)).node (some (AObj.cells false (3 : Nat) (w14 last) (some (121 : Nat)))) (((T.nil.node (some (AObj.cells false (5 : Nat) [AV.sI IntKind.u64 (rowT s3.rows (w53 s3)).fst, AV.sI IntKind.i64 (rowT s3.rows (w53 s3)).snd.fst, AV.sI IntKind.i64 (rowT s3.rows (w53 s3)).snd.snd.fst, AV.sS (rowT s3.rows (w53 s3)).snd.snd.snd.fst, AV.sI IntKind.i64 (rowT s3.rows (w53 s3)).snd.snd.snd.snd] (some (45 : Nat)))) T.nil).node (some (AObj.seq (RTy.cons (CTy.int IntKind.u64) (RTy.cons (CTy.int IntKind.i64) (RTy.cons (CTy.int IntKind.i64) (RTy.cons CTy.txt (RTy.one (CTy.int IntKind.i64)))))) rows none)) T.nil).node (some (AObj.smap true false (RTy.cons (CTy.int IntKind.i64) (RTy.one (CTy.int IntKind.i64))) (RTy.one (CTy.int IntKind.i64)) cm cbs cclk)) ((T.nil.node (some (AObj.seq (RTy.one (CTy.int IntKind.u64)) (w57 s4) none)) T.nil).node (some (AObj.cells false (1 : Nat) (w44 s1) (some (25 : Nat)))) T.nil)), next := (11 : Nat), d := (1696 : Nat) } (5 : Nat)
def w63 (s4 : R2) : Int := intOf ((((T.nil.node (some (AV.int IntKind.i64 (0 : Int))) T.nil).node none (T.nil.node (some (AV.int IntKind.i64 (0 : Int))) T.nil)).node (some (AV.int IntKind.i64 (0 : Int))) T.nil).node (some (AV.iface (136 : Nat) (AV.ptr (3 : Nat) (0 : Nat)))) (T.nil.node (some (AV.sI IntKind.i64 (w59 s4))) (T.nil.node (some (AV.bool false)) T.nil))) (2 : Nat)
def w64 (s4 : R2) : List Int := (w57 s4)
def w65 (s5 : R1) : Int := IntKind.i64.wrap (IntKind.i64.wrap ((2 : Int) * s5.i) + (1 : Int))
def w66 (s4 : R2) (s5 : R1) : Bool := decide (w59 s4 ≤ w65 s5) || decide (w65 s5 < (0 : Int))
def w67 (s5 : R1) : Int := IntKind.i64.wrap (w65 s5 + (1 : Int))
def w68 (s4 : R2) (s5 : R1) : Bool := decide (w67 s5 < w59 s4)
def w69 (s5 : R1) : Nat := (0 : Nat) + (w67 s5).toNat
def w70 (s5 : R1) : Nat := (0 : Nat) + (w65 s5).toNat
def w71 (s5 : R1) : Bool := decide ((rowT s5.rows (w69 s5)).snd.snd.snd.snd ≠ (rowT s5.rows (w70 s5)).snd.snd.snd.snd)
def w72 (s5 : R1) : Bool := !w71 s5
def w73 (s4 : R2) (s5 : R1) : Int := bif w68 s4 s5 && bif w72 s5 then decide ((rowT s5.rows (w69 s5)).fst < (rowT s5.rows (w70 s5)).fst) else decide ((rowT s5.rows (w70 s5)).snd.snd.snd.snd < (rowT s5.rows (w69 s5)).snd.snd.snd.snd) then w67 s5 else w65 s5
def w74 (s4 : R2) (s5 : R1) : Nat := (0 : Nat) + (w73 s4 s5).toNat
def w75 (s5 : R1) : Nat := (0 : Nat) + s5.i.toNat
def w76 (s4 : R2) (s5 : R1) : Bool := decide ((rowT s5.rows (w74 s4 s5)).snd.snd.snd.snd ≠ (rowT s5.rows (w75 s5)).snd.snd.snd.snd)
def w77 (s4 : R2) (s5 : R1) : Bool := !w76 s4 s5
def w78 (s4 : R2) (s5 : R1) : Bool := !bif w77 s4 s5 then decide ((rowT s5.rows (w74 s4 s5)).fst < (rowT s5.rows (w75 s5)).fst) else decide ((rowT s5.rows (w75 s5)).snd.snd.snd.snd < (rowT s5.rows (w74 s4 s5)).snd.snd.snd.snd)
def w79 (s3 : R1) : Int := IntKind.i64.wrap (w48 s3 + (1 : Int))
def w80 (s1 : R1) (s3 : R1) : Bool := decide (w79 s3 < w41 s1)
def w81 (s3 : R1) : Nat := (w79 s3).toNat
def w82 (s3 : R1) : Nat := (w48 s3).toNat
def w83 (s3 : R1) : Bool := decide ((rowT s3.rows (w81 s3)).snd.snd.snd.snd ≠ (rowT s3.rows (w82 s3)).snd.snd.snd.snd)
def w84 (s3 : R1) : Bool := !w83 s3
def w85 (s1 : R1) (s3 : R1) : Int := bif w80 s1 s3 && bif w84 s3 then decide ((rowT s3.rows (w81 s3)).fst < (rowT s3.rows (w82 s3)).fst) else decide ((rowT s3.rows (w82 s3)).snd.snd.snd.snd < (rowT s3.rows (w81 s3)).snd.snd.snd.snd) then w79 s3 else w48 s3
def w86 (s1 : R1) (s3 : R1) : Nat := (w85 s1 s3).toNat
def w87 (s1 : R1) (s3 : R1) : Bool := decide ((rowT s3.rows (w86 s1 s3)).snd.snd.snd.snd ≠ (rowT s3.rows s3.i.toNat).snd.snd.snd.snd)
def w88 (s1 : R1) (s3 : R1) : Bool := !w87 s1 s3
def w89 (s1 : R1) (s3 : R1) : Bool := !bif w88 s1 s3 then decide ((rowT s3.rows (w86 s1 s3)).fst < (rowT s3.rows s3.i.toNat).fst) else decide ((rowT s3.rows s3.i.toNat).snd.snd.snd.snd < (rowT s3.rows (w86 s1 s3)).snd.snd.snd.snd)
def w90 (s1 : R1) (s3 : R1) : List Letter := s3.rows.set s3.i.toNat ((rowT s3.rows (w86 s1 s3)).fst, (rowT s3.rows (w86 s1 s3)).snd.fst, (rowT s3.rows (w86 s1 s3)).snd.snd.fst, (rowT s3.rows (w86 s1 s3)).snd.snd.snd.fst, (rowT s3.rows (w86 s1 s3)).snd.snd.snd.snd)
def part0 (m : Lm) : Prop := ∀ (p : Int × Letter), p ∈ m →
 (RTy.one (CTy.int IntKind.u64)).Has p.fst ∧
 (RTy.cons (CTy.int IntKind.u64) (RTy.cons (CTy.int IntKind.i64) (RTy.cons (CTy.int IntKind.i64) (RTy.cons CTy.txt (RTy.one (CTy.int IntKind.i64)))))).Has p.snd
def part1 (cm : Cm) : Prop := ∀ (p1 : (Int × Int) × Int), p1 ∈ cm →
 (RTy.cons (CTy.int IntKind.i64) (RTy.one (CTy.int IntKind.i64))).Has p1.fst ∧
 (RTy.one (CTy.int IntKind.i64)).Has p1.snd
def part2 (m : Lm) (bs : List Nat) (clk : Nat) (last : Int) (cm : Cm) (cbs : List Nat) (cclk : Nat) (iB : List Letter →
 Int →
 R1 →
 Prop) (rows : List Letter) (s : R1) (s1 : R1) (s2 : R1) : Prop := ∃ s'2, iB (w15 m bs clk last cm cbs cclk rows s) (w19 s) s'2 ∧
 (s'2.i + (1 : Int)).toNat < (s1.i + (1 : Int)).toNat ∧
 IntKind.i64.wrap (s1.i - (1 : Int)) = s'2.i ∧
 w16 s = w16 s ∧
 last = last ∧
 m = m ∧
 bs = bs ∧
 clk = clk ∧
 cm = cm ∧
 cbs = cbs ∧
 cclk = cclk ∧
 rows = rows ∧
 s2.rows = s'2.rows
def part3 (s2 : R1) : Prop := ((0 : Int) ≤ w26 s2 ∧
 w26 s2 < w28 s2) ∧
 (0 : Int) ≤ w24 s2 ∧
 w24 s2 < w28 s2
def part4 (s : R1) (s2 : R1) : Prop := (0 : Int) ≤ w33 s s2 ∧
 w33 s s2 < w28 s2
def part5 (s : R1) (s2 : R1) : Prop := part4 s s2 ∧
 (0 : Int) ≤ s2.i ∧
 s2.i < w28 s2
def part6 (s1 : R1) : Prop := (rowT s1.rows (0 : Nat)).fst = (rowT s1.rows (0 : Nat)).fst ∧
 (rowT s1.rows (0 : Nat)).fst = (rowT s1.rows (0 : Nat)).fst
def part7 (s3 : R1) : Prop := (rowT s3.rows (w53 s3)).fst = (rowT s3.rows (w53 s3)).fst ∧
 (rowT s3.rows (w53 s3)).snd.fst = (rowT s3.rows (w53 s3)).snd.fst ∧
 (rowT s3.rows (w53 s3)).snd.snd.fst = (rowT s3.rows (w53 s3)).snd.snd.fst ∧
 (rowT s3.rows (w53 s3)).snd.snd.snd.fst = (rowT s3.rows (w53 s3)).snd.snd.snd.fst ∧
 (rowT s3.rows (w53 s3)).snd.snd.snd.snd = (rowT s3.rows (w53 s3)).snd.snd.snd.snd
def part8 (s4 : R2) : Prop := (0 : Int) ≤ w59 s4 ∧
 w59 s4 < w55 s4
def part9 (s1 : R1) (s3 : R1) (s4 : R2) : Prop := (rowT s1.rows (0 : Nat)).fst = (rowT s1.rows (0 : Nat)).fst ∧
 (rowT s3.rows (w53 s3)).fst = (rowT s3.rows (w53 s3)).fst ∧
 (rowT s3.rows (w53 s3)).snd.fst = (rowT s3.rows (w53 s3)).snd.fst ∧
 (rowT s3.rows (w53 s3)).snd.snd.fst = (rowT s3.rows (w53 s3)).snd.snd.fst ∧
 (rowT s3.rows (w53 s3)).snd.snd.snd.fst = (rowT s3.rows (w53 s3)).snd.snd.snd.fst ∧
 (rowT s3.rows (w53 s3)).snd.snd.snd.snd = (rowT s3.rows (w53 s3)).snd.snd.snd.snd ∧
 (rowT s4.rows (0 : Nat)).fst = (rowT s4.rows (0 : Nat)).fst ∧
 w64 s4 = w57 s4
def part10 (m : Lm) (bs : List Nat) (clk : Nat) (last : Int) (cm : Cm) (cbs : List Nat) (cclk : Nat) (iD : R2 →
 Prop) (rows : List Letter) (s1 : R1) (s3 : R1) (s4 : R2) (s5 : R1) : Prop := (part8 s4 ∧
 (0 : Int) ≤ w59 s4 ∧
 w59 s4 ≤ w55 s4) ∧
 ∃ s'4, iD s'4 ∧
 s'4.n < s4.n ∧
 last = last ∧
 m = m ∧
 bs = bs ∧
 clk = clk ∧
 cm = cm ∧
 cbs = cbs ∧
 cclk = cclk ∧
 (0 : Nat) = (0 : Nat) ∧
 hiT s4.n (some (w59 s4)) - (0 : Nat) = s'4.n ∧
 rows = rows ∧
 s5.rows = s'4.rows ∧
 (rowT s1.rows (0 : Nat)).fst = (rowT s1.rows (0 : Nat)).fst ∧
 w64 s4 = s'4.l ∧
 part7 s3
def part11 (s4 : R2) (s5 : R1) : Prop := ((0 : Int) ≤ w67 s5 ∧
 w67 s5 < w55 s4) ∧
 (0 : Int) ≤ w65 s5 ∧
 w65 s5 < w55 s4
def part12 (s4 : R2) (s5 : R1) : Prop := (0 : Int) ≤ w73 s4 s5 ∧
 w73 s4 s5 < w55 s4
def part13 (s4 : R2) (s5 : R1) : Prop := part12 s4 s5 ∧
 (0 : Int) ≤ s5.i ∧
 s5.i < w55 s4
def part14 (m : Lm) (bs : List Nat) (clk : Nat) (last : Int) (cm : Cm) (cbs : List Nat) (cclk : Nat) : Prop := some (AObj.cells false (3 : Nat) (w14 last) (some (121 : Nat))) = some (AObj.cells false (3 : Nat) (w14 last) (some (121 : Nat))) ∧
 some (AObj.smap false true (RTy.one (CTy.int IntKind.u64)) (RTy.cons (CTy.int IntKind.u64) (RTy.cons (CTy.int IntKind.i64) (RTy.cons (CTy.int IntKind.i64) (RTy.cons CTy.txt (RTy.one (CTy.int IntKind.i64)))))) m bs clk) = some (AObj.smap false true (RTy.one (CTy.int IntKind.u64)) (RTy.cons (CTy.int IntKind.u64) (RTy.cons (CTy.int IntKind.i64) (RTy.cons (CTy.int IntKind.i64) (RTy.cons CTy.txt (RTy.one (CTy.int IntKind.i64)))))) m bs clk) ∧
 some (AObj.smap true false (RTy.cons (CTy.int IntKind.i64) (RTy.one (CTy.int IntKind.i64))) (RTy.one (CTy.int IntKind.i64)) cm cbs cclk) = some (AObj.smap true false (RTy.cons (CTy.int IntKind.i64) (RTy.one (CTy.int IntKind.i64))) (RTy.one (CTy.int IntKind.i64)) cm cbs cclk)
def part15 (m : Lm) (bs : List Nat) (clk : Nat) (last : Int) (cm : Cm) (cbs : List Nat) (cclk : Nat) (iC : List Letter →
 Int →
 Int →
 R1 →
 Prop) (iD : R2 →
 Prop) (rows : List Letter) (s1 : R1) (s3 : R1) : Prop := (((0 : Int) ≤ w52 s3 ∧
 w52 s3 < w51 s3) ∧
 (0 : Int) ≤ w52 s3 ∧
 w52 s3 ≤ w51 s3) ∧
 ∃ s04, iD s04 ∧
 (last = last ∧
 m = m ∧
 bs = bs ∧
 clk = clk ∧
 cm = cm ∧
 cbs = cbs ∧
 cclk = cclk ∧
 (0 : Nat) = (0 : Nat) ∧
 hiT (w50 s3) (some (w52 s3)) - (0 : Nat) = s04.n ∧
 rows = rows ∧
 s3.rows = s04.rows ∧
 (rowT s1.rows (0 : Nat)).fst = (rowT s1.rows (0 : Nat)).fst ∧
 [(rowT s1.rows (0 : Nat)).fst] = s04.l ∧
 part7 s3) ∧
 ∀ (s4 : R2), iD s4 →
 IntKind.u64.has last →
 (w1 m).Nodup →
 part0 m →
 (bs.length = w2 m ∧
 bs.Nodup ∧
 ∀ (b : Nat), b ∈ bs →
 b < clk) →
 (∀ (row5 : Int), row5 ∈ s4.l →
 (RTy.one (CTy.int IntKind.u64)).Has row5) →
 (∀ (row6 : Letter), row6 ∈ s4.rows →
 (RTy.cons (CTy.int IntKind.u64) (RTy.cons (CTy.int IntKind.i64) (RTy.cons (CTy.int IntKind.i64) (RTy.cons CTy.txt (RTy.one (CTy.int IntKind.i64)))))).Has row6) →
 (w3 cm).Nodup →
 part1 cm →
 (cbs.length = w4 cm ∧
 cbs.Nodup ∧
 ∀ (b1 : Nat), b1 ∈ cbs →
 b1 < cclk) →
 (∀ (row1 : Letter), row1 ∈ rows →
 (RTy.cons (CTy.int IntKind.u64) (RTy.cons (CTy.int IntKind.i64) (RTy.cons (CTy.int IntKind.i64) (RTy.cons CTy.txt (RTy.one (CTy.int IntKind.i64)))))).Has row1) →
 IntKind.u64.has (rowT s3.rows (w53 s3)).fst →
 IntKind.i64.has (rowT s3.rows (w53 s3)).snd.fst →
 IntKind.i64.has (rowT s3.rows (w53 s3)).snd.snd.fst →
 w54 s3 ≤ (9223372036854775807 : Nat) →
 IntKind.i64.has (rowT s3.rows (w53 s3)).snd.snd.snd.snd →
 IntKind.u64.has (rowT s1.rows (0 : Nat)).fst →
 (w56 s4 = true →
 (((0 : Int) ≤ (0 : Int) ∧
 (0 : Int) < w55 s4) ∧
 w58 s4 * (8 : Nat) ≤ (140737488355328 : Nat) ∧
 w58 s4 ≤ (4611686018427387904 : Nat)) ∧
 (part8 s4 ∧
 ((0 : Int) ≤ (0 : Int) ∧
 (0 : Int) < w55 s4) ∧
 ((0 : Int) ≤ (0 : Int) ∧
 (0 : Int) < w55 s4) ∧
 (((0 : Nat) = (0 : Nat) ∧
 s4.n = s4.n) ∧
 w59 s4 = w59 s4) ∧
 part8 s4) ∧
 ∃ s05, iC (w62 m bs clk last cm cbs cclk rows s1 s3 s4) (0 : Int) (w63 s4) s05 ∧
 ((0 : Int) = s05.i ∧
 w59 s4 = w59 s4 ∧
 last = last ∧
 m = m ∧
 bs = bs ∧
 clk = clk ∧
 cm = cm ∧
 cbs = cbs ∧
 cclk = cclk ∧
 (0 : Nat) = (0 : Nat) ∧
 s4.n = s4.n ∧
 rows = rows ∧
 (w61 s4) = s05.rows ∧
 part9 s1 s3 s4) ∧
 ∀ (s5 : R1), iC (w62 m bs clk last cm cbs cclk rows s1 s3 s4) (0 : Int) (w63 s4) s5 →
 IntKind.i64.has s5.i →
 IntKind.i64.has (w59 s4) →
 IntKind.u64.has last →
 (w1 m).Nodup →
 part0 m →
 (bs.length = w2 m ∧
 bs.Nodup ∧
 ∀ (b : Nat), b ∈ bs →
 b < clk) →
 (∀ (row7 : Letter), row7 ∈ s5.rows →
 (RTy.cons (CTy.int IntKind.u64) (RTy.cons (CTy.int IntKind.i64) (RTy.cons (CTy.int IntKind.i64) (RTy.cons CTy.txt (RTy.one (CTy.int IntKind.i64)))))).Has row7) →
 IntKind.u64.has (rowT s4.rows (0 : Nat)).fst →
 (w3 cm).Nodup →
 part1 cm →
 (cbs.length = w4 cm ∧
 cbs.Nodup ∧
 ∀ (b1 : Nat), b1 ∈ cbs →
 b1 < cclk) →
 (∀ (row1 : Letter), row1 ∈ rows →
 (RTy.cons (CTy.int IntKind.u64) (RTy.cons (CTy.int IntKind.i64) (RTy.cons (CTy.int IntKind.i64) (RTy.cons CTy.txt (RTy.one (CTy.int IntKind.i64)))))).Has row1) →
 IntKind.u64.has (rowT s3.rows (w53 s3)).fst →
 IntKind.i64.has (rowT s3.rows (w53 s3)).snd.fst →
 IntKind.i64.has (rowT s3.rows (w53 s3)).snd.snd.fst →
 w54 s3 ≤ (9223372036854775807 : Nat) →
 IntKind.i64.has (rowT s3.rows (w53 s3)).snd.snd.snd.snd →
 IntKind.u64.has (rowT s1.rows (0 : Nat)).fst →
 (∀ (row8 : Int), row8 ∈ w57 s4 →
 (RTy.one (CTy.int IntKind.u64)).Has row8) →
 (w66 s4 s5 = true →
 part10 m bs clk last cm cbs cclk iD rows s1 s3 s4 s5) ∧
 ((!w66 s4 s5) = true →
 (w68 s4 s5 = true →
 (part11 s4 s5 ∧
 (w71 s5 = true →
 part11 s4 s5)) ∧
 (w72 s5 = true →
 part11 s4 s5)) ∧
 ((part13 s4 s5 ∧
 (w76 s4 s5 = true →
 part13 s4 s5)) ∧
 (w77 s4 s5 = true →
 part13 s4 s5)) ∧
 (w78 s4 s5 = true →
 part10 m bs clk last cm cbs cclk iD rows s1 s3 s4 s5) ∧
 ((!w78 s4 s5) = true →
 (part12 s4 s5 ∧
 ((0 : Int) ≤ s5.i ∧
 s5.i < w55 s4) ∧
 ((0 : Int) ≤ s5.i ∧
 s5.i < w55 s4) ∧
 (((0 : Nat) = (0 : Nat) ∧
 s4.n = s4.n) ∧
 w73 s4 s5 = w73 s4 s5) ∧
 part12 s4 s5) ∧
 ∃ s'5, iC (w62 m bs clk last cm cbs cclk rows s1 s3 s4) (0 : Int) (w63 s4) s'5 ∧
 (w63 s4 - s'5.i).toNat < (w63 s4 - s5.i).toNat ∧
 w73 s4 s5 = s'5.i ∧
 w59 s4 = w59 s4 ∧
 last = last ∧
 m = m ∧
 bs = bs ∧
 clk = clk ∧
 cm = cm ∧
 cbs = cbs ∧
 cclk = cclk ∧
 (0 : Nat) = (0 : Nat) ∧
 s4.n = s4.n ∧
 rows = rows ∧
 ((s5.rows.set (w75 s5) ((rowT s5.rows (w74 s4 s5)).fst, (rowT s5.rows (w74 s4 s5)).snd.fst, (rowT s5.rows (w74 s4 s5)).snd.snd.fst, (rowT s5.rows (w74 s4 s5)).snd.snd.snd.fst, (rowT s5.rows (w74 s4 s5)).snd.snd.snd.snd)).set (w74 s4 s5) ((rowT s5.rows (w75 s5)).fst, (rowT s5.rows (w75 s5)).snd.fst, (rowT s5.rows (w75 s5)).snd.snd.fst, (rowT s5.rows (w75 s5)).snd.snd.snd.fst, (rowT s5.rows (w75 s5)).snd.snd.snd.snd)) = s'5.rows ∧
 part9 s1 s3 s4))) ∧
 ((!w56 s4) = true →
 (3 : Nat) ≤ (7 : Nat) ∧
 (7 : Nat) < (9 : Nat) ∧
 LenOk s4.l ∧
 part14 m bs clk last cm cbs cclk)
def part16 (s3 : R1) : Prop := ((0 : Int) ≤ w79 s3 ∧
 w79 s3 < w51 s3) ∧
 (0 : Int) ≤ w48 s3 ∧
 w48 s3 < w51 s3
def part17 (s1 : R1) (s3 : R1) : Prop := (0 : Int) ≤ w85 s1 s3 ∧
 w85 s1 s3 < w51 s3
def part18 (s1 : R1) (s3 : R1) : Prop := part17 s1 s3 ∧
 (0 : Int) ≤ s3.i ∧
 s3.i < w51 s3
def owed (m : Lm) (bs : List Nat) (clk : Nat) (last : Int) (cm : Cm) (cbs : List Nat) (cclk : Nat) (iA : R1 → Prop) (iB : List Letter → Int → R1 → Prop) (iC : List Letter → Int → Int → R1 → Prop) (iD : R2 → Prop) : Prop :=
  List.length m ≤ (4096 : Nat) ∧
 ∀ (rows : List Letter), (∃ ks, ks.Perm (keys m) ∧
 rows = List.map (atL m) ks) →
 ∃ s0, iA s0 ∧
 ((0 : Int) = s0.i ∧
 w0 rows = w0 rows ∧
 last = last ∧
 m = m ∧
 bs = bs ∧
 clk = clk ∧
 cm = cm ∧
 cbs = cbs ∧
 cclk = cclk ∧
 rows = rows ∧
 [] = s0.rows) ∧
 ∀ (s : R1), iA s →
 IntKind.i64.has (w0 rows) →
 IntKind.i64.has s.i →
 IntKind.u64.has last →
 (w1 m).Nodup →
 part0 m →
 (bs.length = w2 m ∧
 bs.Nodup ∧
 ∀ (b : Nat), b ∈ bs →
 b < clk) →
 (∀ (row : Letter), row ∈ s.rows →
 (RTy.cons (CTy.int IntKind.u64) (RTy.cons (CTy.int IntKind.i64) (RTy.cons (CTy.int IntKind.i64) (RTy.cons CTy.txt (RTy.one (CTy.int IntKind.i64)))))).Has row) →
 (w3 cm).Nodup →
 part1 cm →
 (cbs.length = w4 cm ∧
 cbs.Nodup ∧
 ∀ (b1 : Nat), b1 ∈ cbs →
 b1 < cclk) →
 (∀ (row1 : Letter), row1 ∈ rows →
 (RTy.cons (CTy.int IntKind.u64) (RTy.cons (CTy.int IntKind.i64) (RTy.cons (CTy.int IntKind.i64) (RTy.cons CTy.txt (RTy.one (CTy.int IntKind.i64)))))).Has row1) →
 (w5 rows s = true →
 ((0 : Int) ≤ s.i ∧
 s.i < w0 rows) ∧
 (w6 cm rows s = true →
 (w9 rows s * (48 : Nat) ≤ (140737488355328 : Nat) ∧
 w9 rows s ≤ (4611686018427387904 : Nat)) ∧
 ∃ s', iA s' ∧
 (w10 rows - s'.i).toNat < w11 rows s ∧
 w12 s = s'.i ∧
 w0 rows = w0 rows ∧
 last = last ∧
 m = m ∧
 bs = bs ∧
 clk = clk ∧
 cm = cm ∧
 cbs = cbs ∧
 cclk = cclk ∧
 rows = rows ∧
 (w8 rows s) = s'.rows) ∧
 (w6 cm rows s = false →
 ∃ s'1, iA s'1 ∧
 (w10 rows - s'1.i).toNat < w11 rows s ∧
 w12 s = s'1.i ∧
 w0 rows = w0 rows ∧
 last = last ∧
 m = m ∧
 bs = bs ∧
 clk = clk ∧
 cm = cm ∧
 cbs = cbs ∧
 cclk = cclk ∧
 rows = rows ∧
 w7 s = s'1.rows)) ∧
 ((!w5 rows s) = true →
 (2 : Int) ≠ (0 : Int) ∧
 ∃ s01, iB (w15 m bs clk last cm cbs cclk rows s) (w19 s) s01 ∧
 (w18 s = s01.i ∧
 w16 s = w16 s ∧
 last = last ∧
 m = m ∧
 bs = bs ∧
 clk = clk ∧
 cm = cm ∧
 cbs = cbs ∧
 cclk = cclk ∧
 rows = rows ∧
 w7 s = s01.rows) ∧
 ∀ (s1 : R1), iB (w15 m bs clk last cm cbs cclk rows s) (w19 s) s1 →
 IntKind.i64.has s1.i →
 IntKind.i64.has (w16 s) →
 IntKind.u64.has last →
 (w1 m).Nodup →
 part0 m →
 (bs.length = w2 m ∧
 bs.Nodup ∧
 ∀ (b : Nat), b ∈ bs →
 b < clk) →
 (∀ (row2 : Letter), row2 ∈ s1.rows →
 (RTy.cons (CTy.int IntKind.u64) (RTy.cons (CTy.int IntKind.i64) (RTy.cons (CTy.int IntKind.i64) (RTy.cons CTy.txt (RTy.one (CTy.int IntKind.i64)))))).Has row2) →
 (w3 cm).Nodup →
 part1 cm →
 (cbs.length = w4 cm ∧
 cbs.Nodup ∧
 ∀ (b1 : Nat), b1 ∈ cbs →
 b1 < cclk) →
 (∀ (row1 : Letter), row1 ∈ rows →
 (RTy.cons (CTy.int IntKind.u64) (RTy.cons (CTy.int IntKind.i64) (RTy.cons (CTy.int IntKind.i64) (RTy.cons CTy.txt (RTy.one (CTy.int IntKind.i64)))))).Has row1) →
 (w20 s1 = true →
 ∃ s02, iC (w21 m bs clk last cm cbs cclk rows s1) (w22 s s1) (w23 s s1) s02 ∧
 (s1.i = s02.i ∧
 s1.i = s1.i ∧
 w16 s = w16 s ∧
 last = last ∧
 m = m ∧
 bs = bs ∧
 clk = clk ∧
 cm = cm ∧
 cbs = cbs ∧
 cclk = cclk ∧
 rows = rows ∧
 s1.rows = s02.rows) ∧
 ∀ (s2 : R1), iC (w21 m bs clk last cm cbs cclk rows s1) (w22 s s1) (w23 s s1) s2 →
 IntKind.i64.has s1.i →
 IntKind.i64.has s2.i →
 IntKind.i64.has (w16 s) →
 IntKind.u64.has last →
 (w1 m).Nodup →
 part0 m →
 (bs.length = w2 m ∧
 bs.Nodup ∧
 ∀ (b : Nat), b ∈ bs →
 b < clk) →
 (∀ (row3 : Letter), row3 ∈ s2.rows →
 (RTy.cons (CTy.int IntKind.u64) (RTy.cons (CTy.int IntKind.i64) (RTy.cons (CTy.int IntKind.i64) (RTy.cons CTy.txt (RTy.one (CTy.int IntKind.i64)))))).Has row3) →
 (w3 cm).Nodup →
 part1 cm →
 (cbs.length = w4 cm ∧
 cbs.Nodup ∧
 ∀ (b1 : Nat), b1 ∈ cbs →
 b1 < cclk) →
 (∀ (row1 : Letter), row1 ∈ rows →
 (RTy.cons (CTy.int IntKind.u64) (RTy.cons (CTy.int IntKind.i64) (RTy.cons (CTy.int IntKind.i64) (RTy.cons CTy.txt (RTy.one (CTy.int IntKind.i64)))))).Has row1) →
 (w25 s s2 = true →
 part2 m bs clk last cm cbs cclk iB rows s s1 s2) ∧
 ((!w25 s s2) = true →
 (w27 s s2 = true →
 (part3 s2 ∧
 (w31 s2 = true →
 part3 s2)) ∧
 (w32 s2 = true →
 part3 s2)) ∧
 ((part5 s s2 ∧
 (w35 s s2 = true →
 part5 s s2)) ∧
 (w36 s s2 = true →
 part5 s s2)) ∧
 (w37 s s2 = true →
 part2 m bs clk last cm cbs cclk iB rows s s1 s2) ∧
 ((!w37 s s2) = true →
 (part4 s s2 ∧
 ((0 : Int) ≤ s2.i ∧
 s2.i < w28 s2) ∧
 ((0 : Int) ≤ s2.i ∧
 s2.i < w28 s2) ∧
 w33 s s2 = w33 s s2 ∧
 (0 : Int) ≤ w33 s s2 ∧
 w33 s s2 < (↑(w38 s s2).length : Int)) ∧
 ∃ s'3, iC (w21 m bs clk last cm cbs cclk rows s1) (w22 s s1) (w23 s s1) s'3 ∧
 (w23 s s1 - s'3.i).toNat < (w23 s s1 - s2.i).toNat ∧
 w33 s s2 = s'3.i ∧
 s1.i = s1.i ∧
 w16 s = w16 s ∧
 last = last ∧
 m = m ∧
 bs = bs ∧
 clk = clk ∧
 cm = cm ∧
 cbs = cbs ∧
 cclk = cclk ∧
 rows = rows ∧
 ((w38 s s2).set (w34 s s2) ((rowT s2.rows s2.i.toNat).fst, (rowT s2.rows s2.i.toNat).snd.fst, (rowT s2.rows s2.i.toNat).snd.snd.fst, (rowT s2.rows s2.i.toNat).snd.snd.snd.fst, (rowT s2.rows s2.i.toNat).snd.snd.snd.snd)) = s'3.rows))) ∧
 ((!w20 s1) = true →
 (w40 s1 = true →
 ((0 : Int) ≤ (0 : Int) ∧
 (0 : Int) < w39 s1) ∧
 (((0 : Int) ≤ w41 s1 ∧
 w41 s1 < w39 s1) ∧
 ((0 : Int) ≤ (0 : Int) ∧
 (0 : Int) < w39 s1) ∧
 ((0 : Int) ≤ (0 : Int) ∧
 (0 : Int) < w39 s1) ∧
 w41 s1 = w41 s1 ∧
 (0 : Int) ≤ w41 s1 ∧
 w41 s1 < (↑(w43 s1).length : Int)) ∧
 ∃ s03, iC (w46 m bs clk last cm cbs cclk rows s1) (0 : Int) (w47 s1) s03 ∧
 ((0 : Int) = s03.i ∧
 w41 s1 = w41 s1 ∧
 last = last ∧
 m = m ∧
 bs = bs ∧
 clk = clk ∧
 cm = cm ∧
 cbs = cbs ∧
 cclk = cclk ∧
 rows = rows ∧
 (w45 s1) = s03.rows ∧
 part6 s1) ∧
 ∀ (s3 : R1), iC (w46 m bs clk last cm cbs cclk rows s1) (0 : Int) (w47 s1) s3 →
 IntKind.i64.has s3.i →
 IntKind.i64.has (w41 s1) →
 IntKind.u64.has last →
 (w1 m).Nodup →
 part0 m →
 (bs.length = w2 m ∧
 bs.Nodup ∧
 ∀ (b : Nat), b ∈ bs →
 b < clk) →
 IntKind.u64.has (rowT s1.rows (0 : Nat)).fst →
 (∀ (row4 : Letter), row4 ∈ s3.rows →
 (RTy.cons (CTy.int IntKind.u64) (RTy.cons (CTy.int IntKind.i64) (RTy.cons (CTy.int IntKind.i64) (RTy.cons CTy.txt (RTy.one (CTy.int IntKind.i64)))))).Has row4) →
 (w3 cm).Nodup →
 part1 cm →
 (cbs.length = w4 cm ∧
 cbs.Nodup ∧
 ∀ (b1 : Nat), b1 ∈ cbs →
 b1 < cclk) →
 (∀ (row1 : Letter), row1 ∈ rows →
 (RTy.cons (CTy.int IntKind.u64) (RTy.cons (CTy.int IntKind.i64) (RTy.cons (CTy.int IntKind.i64) (RTy.cons CTy.txt (RTy.one (CTy.int IntKind.i64)))))).Has row1) →
 IntKind.u64.has (rowT s1.rows (0 : Nat)).fst →
 (w49 s1 s3 = true →
 part15 m bs clk last cm cbs cclk iC iD rows s1 s3) ∧
 ((!w49 s1 s3) = true →
 (w80 s1 s3 = true →
 (part16 s3 ∧
 (w83 s3 = true →
 part16 s3)) ∧
 (w84 s3 = true →
 part16 s3)) ∧
 ((part18 s1 s3 ∧
 (w87 s1 s3 = true →
 part18 s1 s3)) ∧
 (w88 s1 s3 = true →
 part18 s1 s3)) ∧
 (w89 s1 s3 = true →
 part15 m bs clk last cm cbs cclk iC iD rows s1 s3) ∧
 ((!w89 s1 s3) = true →
 (part17 s1 s3 ∧
 ((0 : Int) ≤ s3.i ∧
 s3.i < w51 s3) ∧
 ((0 : Int) ≤ s3.i ∧
 s3.i < w51 s3) ∧
 w85 s1 s3 = w85 s1 s3 ∧
 (0 : Int) ≤ w85 s1 s3 ∧
 w85 s1 s3 < (↑(w90 s1 s3).length : Int)) ∧
 ∃ s'6, iC (w46 m bs clk last cm cbs cclk rows s1) (0 : Int) (w47 s1) s'6 ∧
 (w47 s1 - s'6.i).toNat < (w47 s1 - s3.i).toNat ∧
 w85 s1 s3 = s'6.i ∧
 w41 s1 = w41 s1 ∧
 last = last ∧
 m = m ∧
 bs = bs ∧
 clk = clk ∧
 cm = cm ∧
 cbs = cbs ∧
 cclk = cclk ∧
 rows = rows ∧
 ((w90 s1 s3).set (w86 s1 s3) ((rowT s3.rows s3.i.toNat).fst, (rowT s3.rows s3.i.toNat).snd.fst, (rowT s3.rows s3.i.toNat).snd.snd.fst, (rowT s3.rows s3.i.toNat).snd.snd.snd.fst, (rowT s3.rows s3.i.toNat).snd.snd.snd.snd)) = s'6.rows ∧
 part6 s1))) ∧
 ((!w40 s1) = true →
 part14 m bs clk last cm cbs cclk)))

theorem owed_eq (m : Lm) (bs : List Nat) (clk : Nat) (last : Int) (cm : Cm) (cbs : List Nat) (cclk : Nat) (iA : R1 → Prop) (iB : List Letter → Int → R1 → Prop) (iC : List Letter → Int → Int → R1 → Prop) (iD : R2 → Prop) : owed m bs clk last cm cbs cclk iA iB iC iD = vTop Try.prog S4 (LL iA iB iC iD) 20000 37 [.ptr 0 0] (hN m bs clk last cm cbs cclk) (post (hN m bs clk last cm cbs cclk)) := by kernel_rfl
end
end Go.Proofs.Ytdeoahhofhmgfaa.No.Nr
