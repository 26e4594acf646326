/- A part of the proof that 'reevelaw10.NetOnce' returns true for every input. No condition. -/
import Derived.Test.YtdeoahhofhmgfaaAmJ
import Derived.KernelRfl
import Derived.Test.YtdeoahhofhmgfaaNrSum
namespace Go.Proofs.Ytdeoahhofhmgfaa.No.Mn
open Go.AM
open Sz
noncomputable section
def stepR : RTy := .cons (.int .i64) (.cons (.int .i64) (.cons (.int .i64) (.cons (.int .u64) (.one .txt))))
abbrev Step := Int × Int × Int × Int × List UInt8
def rowP (l : List Step) (i : Nat) : Step := Go.AM.rowAt (r := stepR) l i
structure H1 where
  n : Int
  i : Int
structure V2 where
  js : List Nat
  m : Lm
structure M1 where
  i : Int
  here : Int
  last : Int
  m : Lm
  bs : List Nat
  clk : Nat
  cm : Cm
  cbs : List Nat
  cclk : Nat
  sm : Lm
  sbs : List Nat
  sclk : Nat
def mapI (H : Heap) (c j : Nat) : Nat := idV (cellOf H c j)
def net (H : Heap) (c : Nat) (s : M1) : List (Nat × AObj) :=
  [(c, .cells false 3 [.map (mapI H c 0), .sI .u64 s.last, .map (mapI H c 2)] (some 121)), (mapI H c 0, .smap false true uR letR s.m s.bs s.clk), (mapI H c 2, .smap true false pairR iR s.cm s.cbs s.cclk)]
def LH (inv : H1 → Prop) (_fr : Fr) : LInv := ⟨H1, inv, fun s => patch [0] [(3, .sI .i64 s.n), (4, .sI .i64 s.i)] [], fun s => (300 - s.i).toNat⟩
def LG (inv : Lm → List Nat → V2 → Prop) (fr : Fr) (H : Heap) : LInv :=
  let mi := itMap H (ptrOf fr 10)
  ⟨V2, inv (mOf H mi) (bsOf H mi), fun s => patch [0, 10] [] [(mi, .smap false true uR letR s.m (bsOf H mi) (clkOf H mi)), (ptrOf fr 10, .smIter mi (clkOf H mi) (s.js.map (bornAt (bsOf H mi))) (clkOf H mi))], fun s => (mOf H mi).length - s.js.length⟩
def LM (inv : M1 → Prop) (fr : Fr) (H : Heap) : LInv := ⟨M1, inv, fun s => patch [0, 3, 4] [(5, .sI .i64 s.here), (6, .sI .i64 s.i)] (net H (ptrOf fr 3) s ++ [(idV (avOf fr 4), .smap false true uR letR s.sm s.sbs s.sclk)]), fun s => (200 - s.i).toNat⟩
def LC (inv : Int → M1 → Prop) (fr : Fr) (H : Heap) : LInv := ⟨M1, inv (Go.AM.intOf fr 6), fun s => patch [0, 3, 4, 6] [(5, .sI .i64 s.here)] (net H (ptrOf fr 3) s ++ [(idV (avOf fr 4), .smap false true uR letR s.sm s.sbs s.sclk)]), fun _ => 0⟩
def LL (iH : H1 → Prop) (iG : Lm → List Nat → V2 → Prop) (iM : M1 → Prop) (iC : Int → M1 → Prop) : LTab := fun f k fr H => match f, k with
  | 21, 3 => some (LH iH fr)
  | 32, 2 => some (LG iG fr H)
  | 5, 9 => some (LM iM fr H)
  | 5, 1000054 => some (LC iC fr H)
  | _, _ => none
def w0 (script : List Step) : Int := (↑script.length : Int)
def w1 (script : List Step) (s : H1) : Bool := decide (s.i < w0 script) && decide (s.i < (300 : Int))
def w2 (script : List Step) (s : H1) : Bool := decide ((150 : Int) < w0 script) || decide ((524288 : Int) < s.n)
def w3 : List (Int × Letter) := []
def w4 (s1 : M1) : Nat := List.length s1.m
def w5 (s1 : M1) : List (Int × Int) := List.map (fun x => x.fst) s1.cm
def w6 (s1 : M1) : Nat := List.length s1.cm
def w7 (s1 : M1) : List Int := List.map (fun x => x.fst) s1.sm
def w8 (s1 : M1) : Nat := List.length s1.sm
def w9 (script : List Step) (s1 : M1) : Bool := decide (s1.i < w0 script)
def w10 (script : List Step) (s1 : M1) : Bool := decide ((rowP script s1.i.toNat).fst = (0 : Int))
def w11 (script : List Step) (s1 : M1) : Bool := !(decide ((0 : Int) ≤ (rowP script s1.i.toNat).snd.fst) && decide ((rowP script s1.i.toNat).snd.fst < (256 : Int)))
def w12 (script : List Step) (s1 : M1) : Bool := !(decide ((0 : Int) ≤ (rowP script s1.i.toNat).snd.snd.fst) && decide ((rowP script s1.i.toNat).snd.snd.fst < (256 : Int)))
def w13 (script : List Step) (s1 : M1) : Bool := bif w11 script s1 then w11 script s1 else w12 script s1
def w14 (script : List Step) (s1 : M1) : Nat := List.length (rowP script s1.i.toNat).snd.snd.snd.snd
def w15 (script : List Step) (s1 : M1) : Bool := !w13 script s1 && !decide ((131072 : Int) < (↑(w14 script s1) : Int))
def w16 (s1 : M1) : Bool := !decide ((4096 : Int) ≤ (↑(w4 s1) : Int))
def w17 (s1 : M1) : Int := bif w16 s1 then (0 : Int) else (6 : Int)
def w18 (script : List Step) (s1 : M1) : Bool := decide ((bif w15 script s1 then w17 s1 else bif w13 script s1 then (2 : Int) else (4 : Int)) = (0 : Int))
def w19 (s1 : M1) : Int := IntKind.u64.wrap (s1.last + (1 : Int))
def w20 (s1 : M1) : Int := bif w16 s1 then w19 s1 else (0 : Int)
def w21 (script : List Step) (s1 : M1) : Int := bif w15 script s1 then w20 s1 else (0 : Int)
def w22 (script : List Step) (s1 : M1) : Bool := (mget s1.sm (w21 script s1)).isSome
def w23 (script : List Step) (s1 : M1) : Bool := !w22 script s1
def w24 (script : List Step) (s1 : M1) : List AV := [AV.sI IntKind.i64 (rowP script s1.i.toNat).fst, AV.sI IntKind.i64 (rowP script s1.i.toNat).snd.fst, AV.sI IntKind.i64 (rowP script s1.i.toNat).snd.snd.fst, AV.sI IntKind.u64 (rowP script s1.i.toNat).snd.snd.snd.fst, AV.sS (rowP script s1.i.toNat).snd.snd.snd.snd]
def w25 (script : List Step) (s1 : M1) : Int := intOf ((((T.nil.node (some (AV.ptr (4 : Nat) (0 : Nat))) ((T.nil.node (some (AV.dsl (RTy.cons (CTy.int IntKind.i64) (RTy.cons (CTy.int IntKind.i64) (RTy.cons (CTy.int IntKind.i64) (RTy.cons (CTy.int IntKind.u64) (RTy.one CTy.txt))))) script)) T.nil).node none T.nil)).node (some (AV.ptr (2 : Nat) (0 : Nat))) (((T.nil.node (some (AV.sI IntKind.i64 (w0 script))) T.nil).node none T.nil).node none T.nil)).node none ((((T.nil.node (some (AV.sI IntKind.i64 s1.i)) T.nil).node none T.nil).node none ((T.nil.node (some (AV.dptr (RTy.cons (CTy.int IntKind.i64) (RTy.cons (CTy.int IntKind.i64) (RTy.cons (CTy.int IntKind.i64) (RTy.cons (CTy.int IntKind.u64) (RTy.one CTy.txt))))) (rowP script s1.i.toNat) (0 : Nat))) T.nil).node none T.nil)).node (some (AV.sI IntKind.i64 s1.here)) T.nil)).node (some (AV.dsl (RTy.cons (CTy.int IntKind.i64) (RTy.cons (CTy.int IntKind.i64) (RTy.cons (CTy.int IntKind.i64) (RTy.cons (CTy.int IntKind.u64) (RTy.one CTy.txt))))) script)) (((T.nil.node none ((T.nil.node (some (AV.sI IntKind.i64 s1.i)) T.nil).node none T.nil)).node (some (AV.map (3 : Nat))) (((T.nil.node (some (AV.sB (w9 script s1))) T.nil).node none T.nil).node none T.nil)).node none ((((T.nil.node (some (AV.dsl (RTy.cons (CTy.int IntKind.i64) (RTy.cons (CTy.int IntKind.i64) (RTy.cons (CTy.int IntKind.i64) (RTy.cons (CTy.int IntKind.u64) (RTy.one CTy.txt))))) script)) T.nil).node none T.nil).node none ((T.nil.node (some (AV.agg (w24 script s1))) T.nil).node none T.nil)).node (some (AV.sI IntKind.i64 s1.i)) T.nil))) (6 : Nat)
def w26 (s1 : M1) : Int := IntKind.i64.wrap (s1.here + (1 : Int))
def w27 (script : List Step) (s1 : M1) : Int × Int × List UInt8 × Int := ((rowP script s1.i.toNat).snd.fst, (rowP script s1.i.toNat).snd.snd.fst, (rowP script s1.i.toNat).snd.snd.snd.snd, (0 : Int))
def w28 (s1 : M1) : List (Int × Letter) := s1.m
def w29 (s1 : M1) : List Nat := bif w16 s1 then bput s1.m s1.bs s1.clk (w19 s1) else s1.bs
def w30 (s1 : M1) : Nat := bif w16 s1 then cput s1.m s1.clk (w19 s1) else s1.clk
def w31 (s1 : M1) : List ((Int × Int) × Int) := s1.cm
def w32 (s1 : M1) : Int := bif w16 s1 then w19 s1 else s1.last
def w33 (s1 : M1) : List (Int × Letter) := s1.sm
def w34 (script : List Step) (s1 : M1) : Bool := decide ((rowP script s1.i.toNat).fst = (2 : Int))
def w35 (script : List Step) (s1 : M1) : Bool := !!(mget s1.m (rowP script s1.i.toNat).snd.snd.snd.fst).isSome
def w36 (script : List Step) (s1 : M1) : Int := bif w35 script s1 then (0 : Int) else (5 : Int)
def w37 (script : List Step) (s1 : M1) : Bool := !decide (w36 script s1 ≠ (0 : Int))
def w38 (script : List Step) (s1 : M1) : Bool := decide ((bif w37 script s1 then w17 s1 else w36 script s1) = (0 : Int))
def w39 (script : List Step) (s1 : M1) : Bool := !(mget s1.sm (rowP script s1.i.toNat).snd.snd.snd.fst).isSome
def w40 (script : List Step) (s1 : M1) : Int := bif w37 script s1 then w20 s1 else (0 : Int)
def w41 (script : List Step) (s1 : M1) : Bool := w39 script s1 || (mget s1.sm (w40 script s1)).isSome
def w42 (script : List Step) (s1 : M1) : Bool := !w41 script s1
def w43 : Letter := ((0 : Int), (0 : Int), (0 : Int), [], (0 : Int))
def w44 (script : List Step) (s1 : M1) : Int := bif w35 script s1 then ((mget s1.m (rowP script s1.i.toNat).snd.snd.snd.fst).getD w43).snd.fst else (0 : Int)
def w45 (script : List Step) (s1 : M1) : Int := bif w35 script s1 then ((mget s1.m (rowP script s1.i.toNat).snd.snd.snd.fst).getD w43).snd.snd.fst else (0 : Int)
def w46 (script : List Step) (s1 : M1) : List UInt8 := bif w35 script s1 then ((mget s1.m (rowP script s1.i.toNat).snd.snd.snd.fst).getD w43).snd.snd.snd.fst else []
def w47 (script : List Step) (s1 : M1) : Bool := decide ((rowP script s1.i.toNat).fst = (3 : Int))
def w48 (script : List Step) (s1 : M1) : Bool := decide (w36 script s1 = (0 : Int))
def w49 (script : List Step) (s1 : M1) : Bool := !w39 script s1
def w50 (s1 : M1) : Int := IntKind.i64.wrap (s1.here - (1 : Int))
def w51 (script : List Step) (s1 : M1) : List (Int × Letter) := bif w48 script s1 then mdel s1.m (rowP script s1.i.toNat).snd.snd.snd.fst else w28 s1
def w52 (script : List Step) (s1 : M1) : List Nat := bif w48 script s1 then bdel s1.m s1.bs (rowP script s1.i.toNat).snd.snd.snd.fst else s1.bs
def w53 (script : List Step) (s1 : M1) : Nat := bif w48 script s1 then s1.clk else s1.clk
def w54 (script : List Step) (s1 : M1) : List (Int × Letter) := mdel s1.sm (rowP script s1.i.toNat).snd.snd.snd.fst
def w55 (script : List Step) (s1 : M1) : List Nat := bdel s1.sm s1.sbs (rowP script s1.i.toNat).snd.snd.snd.fst
def w56 (script : List Step) (s1 : M1) : Bool := decide ((rowP script s1.i.toNat).fst = (4 : Int))
def w57 (script : List Step) (s1 : M1) : Bool := decide ((bif !bif w11 script s1 then w11 script s1 else bif w12 script s1 then w12 script s1 else decide ((rowP script s1.i.toNat).snd.fst = (rowP script s1.i.toNat).snd.snd.fst) then (0 : Int) else (2 : Int)) = (0 : Int))
def w58 (script : List Step) (s1 : M1) : Int × Int := (min (rowP script s1.i.toNat).snd.fst (rowP script s1.i.toNat).snd.snd.fst, max (rowP script s1.i.toNat).snd.fst (rowP script s1.i.toNat).snd.snd.fst)
def w59 (script : List Step) (s1 : M1) : Bool := decide ((rowP script s1.i.toNat).fst = (5 : Int))
def w60 (script : List Step) (s1 : M1) : Bool := decide ((rowP script s1.i.toNat).fst = (6 : Int))
def w61 (s1 : M1) : List AV := [AV.map (0 : Nat), AV.sI IntKind.u64 s1.last, AV.map (1 : Nat)]
def w62 (script : List Step) (s1 : M1) : Lm := mOf { t := ((T.nil.node (some (AObj.smap false true (RTy.one (CTy.int IntKind.u64)) (RTy.cons (CTy.int IntKind.u64) (RTy.cons (CTy.int IntKind.i64) (RTy.cons (CTy.int IntKind.i64) (RTy.cons CTy.txt (RTy.one (CTy.int IntKind.i64)))))) s1.sm s1.sbs s1.sclk)) T.nil).node (some (AObj.smap true false (RTy.cons (CTy.int IntKind.i64) (RTy.one (CTy.int IntKind.i64))) (RTy.one (CTy.int IntKind.i64)) s1.cm s1.cbs s1.cclk)) (T.nil.node (some (AObj.smIter (0 : Nat) s1.clk [] s1.clk)) T.nil)).node (some (AObj.smap false true (RTy.one (CTy.int IntKind.u64)) (RTy.cons (CTy.int IntKind.u64) (RTy.cons (CTy.int IntKind.i64) (RTy.cons (CTy.int IntKind.i64) (RTy.cons CTy.txt (RTy.one (CTy.int IntKind.i64)))))) s1.m s1.bs s1.clk)) ((T.nil.node (some (AObj.cells false (5 : Nat) (w24 script s1) (some (41 : Nat)))) T.nil).node (some (AObj.cells false (3 : Nat) (w61 s1) (some (121 : Nat)))) T.nil), next := (6 : Nat), d := (48 : Nat) } (0 : Nat)
def w63 (script : List Step) (s1 : M1) : List Nat := bsOf { t := ((T.nil.node (some (AObj.smap false true (RTy.one (CTy.int IntKind.u64)) (RTy.cons (CTy.int IntKind.u64) (RTy.cons (CTy.int IntKind.i64) (RTy.cons (CTy.int IntKind.i64) (RTy.cons CTy.txt (RTy.one (CTy.int IntKind.i64)))))) s1.sm s1.sbs s1.sclk)) T.nil).node (some (AObj.smap true false (RTy.cons (CTy.int IntKind.i64) (RTy.one (CTy.int IntKind.i64))) (RTy.one (CTy.int IntKind.i64)) s1.cm s1.cbs s1.cclk)) (T.nil.node (some (AObj.smIter (0 : Nat) s1.clk [] s1.clk)) T.nil)).node (some (AObj.smap false true (RTy.one (CTy.int IntKind.u64)) (RTy.cons (CTy.int IntKind.u64) (RTy.cons (CTy.int IntKind.i64) (RTy.cons (CTy.int IntKind.i64) (RTy.cons CTy.txt (RTy.one (CTy.int IntKind.i64)))))) s1.m s1.bs s1.clk)) ((T.nil.node (some (AObj.cells false (5 : Nat) (w24 script s1) (some (41 : Nat)))) T.nil).node (some (AObj.cells false (3 : Nat) (w61 s1) (some (121 : Nat)))) T.nil), next := (6 : Nat), d := (48 : Nat) } (0 : Nat)
def w64 (script : List Step) (s1 : M1) : Nat := clkOf { t := ((T.nil.node (some (AObj.smap false true (RTy.one (CTy.int IntKind.u64)) (RTy.cons (CTy.int IntKind.u64) (RTy.cons (CTy.int IntKind.i64) (RTy.cons (CTy.int IntKind.i64) (RTy.cons CTy.txt (RTy.one (CTy.int IntKind.i64)))))) s1.sm s1.sbs s1.sclk)) T.nil).node (some (AObj.smap true false (RTy.cons (CTy.int IntKind.i64) (RTy.one (CTy.int IntKind.i64))) (RTy.one (CTy.int IntKind.i64)) s1.cm s1.cbs s1.cclk)) (T.nil.node (some (AObj.smIter (0 : Nat) s1.clk [] s1.clk)) T.nil)).node (some (AObj.smap false true (RTy.one (CTy.int IntKind.u64)) (RTy.cons (CTy.int IntKind.u64) (RTy.cons (CTy.int IntKind.i64) (RTy.cons (CTy.int IntKind.i64) (RTy.cons CTy.txt (RTy.one (CTy.int IntKind.i64)))))) s1.m s1.bs s1.clk)) ((T.nil.node (some (AObj.cells false (5 : Nat) (w24 script s1) (some (41 : Nat)))) T.nil).node (some (AObj.cells false (3 : Nat) (w61 s1) (some (121 : Nat)))) T.nil), next := (6 : Nat), d := (48 : Nat) } (0 : Nat)
def w65 (s2 : V2) : Nat := List.length s2.m
def w66 (script : List Step) (s1 : M1) (s2 : V2) : List Nat := List.map (bornAt (w63 script s1)) s2.js
def w67 (script : List Step) (s1 : M1) (j1 : Nat) : Nat := bornAt (w63 script s1) j1
def w68 (script : List Step) (s1 : M1) (s2 : V2) (j1 : Nat) : List Nat := w66 script s1 s2 ++ [w67 script s1 j1]
def w69 (script : List Step) (s1 : M1) (s2 : V2) (j1 : Nat) : Nat := lastT (w68 script s1 s2 j1)
def w70 (script : List Step) (s1 : M1) : Nat := List.length (w62 script s1)
def w71 (script : List Step) (s1 : M1) (s2 : V2) (j1 : Nat) : Nat := List.idxOf (w69 script s1 s2 j1) (w63 script s1)
def w72 (script : List Step) (s1 : M1) : Bool := !(w48 script s1 && decide ((0 : Int) < (mget s1.cm (min (w44 script s1) (w45 script s1), max (w44 script s1) (w45 script s1))).getD (0 : Int)))
def w73 (script : List Step) (s1 : M1) : Bool := decide ((bif w72 script s1 then w36 script s1 else (100 : Int)) ≠ (0 : Int))
def w74 (s1 : M1) : Nat := ((200 : Int) - s1.i).toNat
def w75 (s1 : M1) : Int := IntKind.i64.wrap (s1.i + (1 : Int))
def w76 (script : List Step) (s1 : M1) : List (Int × Letter) := (bif w72 script s1 then w51 script s1 else w28 s1)
def w77 (script : List Step) (s1 : M1) : List Nat := bif w72 script s1 then w52 script s1 else s1.bs
def w78 (script : List Step) (s1 : M1) : Nat := bif w72 script s1 then w53 script s1 else s1.clk
def w79 (script : List Step) (s1 : M1) : Int := bif w72 script s1 then w44 script s1 else (0 : Int)
def w80 (script : List Step) (s1 : M1) : Int := bif w72 script s1 then w45 script s1 else (0 : Int)
def w81 (script : List Step) (s1 : M1) : Bool := w39 script s1 || (decide ((bif w72 script s1 then bif w35 script s1 then ((mget s1.m (rowP script s1.i.toNat).snd.snd.snd.fst).getD w43).fst else (0 : Int) else (0 : Int)) ≠ (rowP script s1.i.toNat).snd.snd.snd.fst) || (decide (w79 script s1 ≠ ((mget s1.sm (rowP script s1.i.toNat).snd.snd.snd.fst).getD w43).snd.fst) || (decide (w80 script s1 ≠ ((mget s1.sm (rowP script s1.i.toNat).snd.snd.snd.fst).getD w43).snd.snd.fst) || (decide ((bif w72 script s1 then w46 script s1 else []) ≠ ((mget s1.sm (rowP script s1.i.toNat).snd.snd.snd.fst).getD w43).snd.snd.snd.fst) || decide ((0 : Int) < (mget s1.cm (min (w79 script s1) (w80 script s1), max (w79 script s1) (w80 script s1))).getD (0 : Int))))))
def w82 (l : List Int) : Int := (↑l.length : Int)
def w83 (script : List Step) (s1 : M1) (l : List Int) : Bool := decide ((rowP script s1.i.toNat).fst = (7 : Int)) && decide ((0 : Int) < w82 l)
def w84 (l : List Int) : Int := IntKind.u64.wrap (w82 l)
def w85 (script : List Step) (s1 : M1) (l : List Int) : Int := Int.tmod (rowP script s1.i.toNat).snd.snd.snd.fst (w84 l)
def w86 (script : List Step) (s1 : M1) (l : List Int) : Int := bif w83 script s1 l then rowU l (w85 script s1 l).toNat else (rowP script s1.i.toNat).snd.snd.snd.fst
def w87 (script : List Step) (s1 : M1) (l : List Int) : Bool := !!(mget s1.m (w86 script s1 l)).isSome
def w88 (script : List Step) (s1 : M1) (l : List Int) : Int := bif w87 script s1 l then (0 : Int) else (5 : Int)
def w89 (script : List Step) (s1 : M1) (l : List Int) : Bool := decide (w88 script s1 l = (0 : Int))
def w90 (script : List Step) (s1 : M1) (l : List Int) : Int := bif w87 script s1 l then ((mget s1.m (w86 script s1 l)).getD w43).snd.fst else (0 : Int)
def w91 (script : List Step) (s1 : M1) (l : List Int) : Int := bif w87 script s1 l then ((mget s1.m (w86 script s1 l)).getD w43).snd.snd.fst else (0 : Int)
def w92 (script : List Step) (s1 : M1) (l : List Int) : Bool := !(w89 script s1 l && decide ((0 : Int) < (mget s1.cm (min (w90 script s1 l) (w91 script s1 l), max (w90 script s1 l) (w91 script s1 l))).getD (0 : Int)))
def w93 (script : List Step) (s1 : M1) (l : List Int) : Bool := decide ((bif w92 script s1 l then w88 script s1 l else (100 : Int)) ≠ (0 : Int))
def w94 (script : List Step) (s1 : M1) (l : List Int) : List (Int × Letter) := (bif w92 script s1 l then bif w89 script s1 l then mdel s1.m (w86 script s1 l) else w28 s1 else w28 s1)
def w95 (script : List Step) (s1 : M1) (l : List Int) : List Nat := bif w92 script s1 l then bif w89 script s1 l then bdel s1.m s1.bs (w86 script s1 l) else s1.bs else s1.bs
def w96 (script : List Step) (s1 : M1) (l : List Int) : Nat := bif w92 script s1 l then bif w89 script s1 l then s1.clk else s1.clk else s1.clk
def w97 (script : List Step) (s1 : M1) (l : List Int) : Int := bif w92 script s1 l then w90 script s1 l else (0 : Int)
def w98 (script : List Step) (s1 : M1) (l : List Int) : Int := bif w92 script s1 l then w91 script s1 l else (0 : Int)
def w99 (script : List Step) (s1 : M1) (l : List Int) : Bool := !(mget s1.sm (w86 script s1 l)).isSome || (decide ((bif w92 script s1 l then bif w87 script s1 l then ((mget s1.m (w86 script s1 l)).getD w43).fst else (0 : Int) else (0 : Int)) ≠ w86 script s1 l) || (decide (w97 script s1 l ≠ ((mget s1.sm (w86 script s1 l)).getD w43).snd.fst) || (decide (w98 script s1 l ≠ ((mget s1.sm (w86 script s1 l)).getD w43).snd.snd.fst) || (decide ((bif w92 script s1 l then bif w87 script s1 l then ((mget s1.m (w86 script s1 l)).getD w43).snd.snd.snd.fst else [] else []) ≠ ((mget s1.sm (w86 script s1 l)).getD w43).snd.snd.snd.fst) || decide ((0 : Int) < (mget s1.cm (min (w97 script s1 l) (w98 script s1 l), max (w97 script s1 l) (w98 script s1 l))).getD (0 : Int))))))
def w100 (s3 : M1) : Nat := List.length s3.m
def w101 (s3 : M1) : Bool := decide ((↑(w100 s3) : Int) ≠ s3.here)
def part0 (s1 : M1) : Prop := ∀ (p1 : (Int × Int) × Int), p1 ∈ s1.cm →
 (RTy.cons (CTy.int IntKind.i64) (RTy.one (CTy.int IntKind.i64))).Has p1.fst ∧
 (RTy.one (CTy.int IntKind.i64)).Has p1.snd
def part1 (s1 : M1) : Prop := ∀ (p2 : Int × Letter), p2 ∈ s1.sm →
 (RTy.one (CTy.int IntKind.u64)).Has p2.fst ∧
 (RTy.cons (CTy.int IntKind.u64) (RTy.cons (CTy.int IntKind.i64) (RTy.cons (CTy.int IntKind.i64) (RTy.cons CTy.txt (RTy.one (CTy.int IntKind.i64)))))).Has p2.snd
def part2 (script : List Step) (s1 : M1) : Prop := (rowP script s1.i.toNat).fst = (rowP script s1.i.toNat).fst ∧
 (rowP script s1.i.toNat).snd.fst = (rowP script s1.i.toNat).snd.fst ∧
 (rowP script s1.i.toNat).snd.snd.fst = (rowP script s1.i.toNat).snd.snd.fst ∧
 (rowP script s1.i.toNat).snd.snd.snd.fst = (rowP script s1.i.toNat).snd.snd.snd.fst ∧
 (rowP script s1.i.toNat).snd.snd.snd.snd = (rowP script s1.i.toNat).snd.snd.snd.snd
def owed (script : List Step) (iH : H1 → Prop) (iG : Lm → List Nat → V2 → Prop) (iM : M1 → Prop) (iC : Int → M1 → Prop) : Prop :=
  ∃ s0, iH s0 ∧
 ((0 : Int) = s0.n ∧
 (0 : Int) = s0.i ∧
 script = script) ∧
 ∀ (s : H1), iH s →
 (CTy.sl (RTy.cons (CTy.int IntKind.i64) (RTy.cons (CTy.int IntKind.i64) (RTy.cons (CTy.int IntKind.i64) (RTy.cons (CTy.int IntKind.u64) (RTy.one CTy.txt)))))).Has script →
 IntKind.i64.has s.n →
 IntKind.i64.has s.i →
 (w1 script s = true →
 ((0 : Int) ≤ s.i ∧
 s.i < w0 script) ∧
 ∃ s', iH s' ∧
 ((300 : Int) - s'.i).toNat < ((300 : Int) - s.i).toNat ∧
 IntKind.i64.wrap (s.n + (↑(List.length (rowP script s.i.toNat).snd.snd.snd.snd) : Int)) = s'.n ∧
 IntKind.i64.wrap (s.i + (1 : Int)) = s'.i ∧
 script = script) ∧
 ((!w1 script s) = true →
 (w2 script s = true →
 true = true) ∧
 ((!w2 script s) = true →
 ∃ s01, iM s01 ∧
 ((0 : Int) = s01.here ∧
 (0 : Int) = s01.i ∧
 script = script ∧
 w3 = s01.m ∧
 [] = s01.bs ∧
 (0 : Nat) = s01.clk ∧
 (List.map (fun x => x.fst) s01.m).Nodup ∧
 [] = s01.cm ∧
 [] = s01.cbs ∧
 (0 : Nat) = s01.cclk ∧
 (List.map (fun x => x.fst) s01.cm).Nodup ∧
 (0 : Int) = s01.last ∧
 w3 = s01.sm ∧
 [] = s01.sbs ∧
 (0 : Nat) = s01.sclk ∧
 (List.map (fun x => x.fst) s01.sm).Nodup) ∧
 ∀ (s1 : M1), iM s1 →
 (CTy.sl (RTy.cons (CTy.int IntKind.i64) (RTy.cons (CTy.int IntKind.i64) (RTy.cons (CTy.int IntKind.i64) (RTy.cons (CTy.int IntKind.u64) (RTy.one CTy.txt)))))).Has script →
 IntKind.i64.has s1.here →
 IntKind.i64.has s1.i →
 (List.map (fun x => x.fst) s1.m).Nodup →
 (∀ (p : Int × Letter), p ∈ s1.m →
 (RTy.one (CTy.int IntKind.u64)).Has p.fst ∧
 (RTy.cons (CTy.int IntKind.u64) (RTy.cons (CTy.int IntKind.i64) (RTy.cons (CTy.int IntKind.i64) (RTy.cons CTy.txt (RTy.one (CTy.int IntKind.i64)))))).Has p.snd) →
 (s1.bs.length = w4 s1 ∧
 s1.bs.Nodup ∧
 ∀ (b : Nat), b ∈ s1.bs →
 b < s1.clk) →
 (w5 s1).Nodup →
 part0 s1 →
 (s1.cbs.length = w6 s1 ∧
 s1.cbs.Nodup ∧
 ∀ (b1 : Nat), b1 ∈ s1.cbs →
 b1 < s1.cclk) →
 (w7 s1).Nodup →
 part1 s1 →
 (s1.sbs.length = w8 s1 ∧
 s1.sbs.Nodup ∧
 ∀ (b2 : Nat), b2 ∈ s1.sbs →
 b2 < s1.sclk) →
 IntKind.u64.has s1.last →
 (w9 script s1 = true →
 ((0 : Int) ≤ s1.i ∧
 s1.i < w0 script) ∧
 ((w10 script s1 = true →
 (w15 script s1 = true →
 w4 s1 ≤ (9223372036854775807 : Nat)) ∧
 ((!w18 script s1 || w23 script s1) = true →
 ∃ s'1, iC (w25 script s1) s'1 ∧
 (bif w18 script s1 then w26 s1 else s1.here) = s'1.here ∧
 script = script ∧
 s1.i = s1.i ∧
 (bif w15 script s1 then bif w16 s1 then mput s1.m (w19 s1) (w19 s1, w27 script s1) else w28 s1 else w28 s1) = s'1.m ∧
 (bif w15 script s1 then w29 s1 else s1.bs) = s'1.bs ∧
 (bif w15 script s1 then w30 s1 else s1.clk) = s'1.clk ∧
 w31 s1 = s'1.cm ∧
 s1.cbs = s'1.cbs ∧
 s1.cclk = s'1.cclk ∧
 (bif w15 script s1 then w32 s1 else s1.last) = s'1.last ∧
 (bif w18 script s1 then mput s1.sm (w21 script s1) ((0 : Int), w27 script s1) else w33 s1) = s'1.sm ∧
 (bif w18 script s1 then bput s1.sm s1.sbs s1.sclk (w21 script s1) else s1.sbs) = s'1.sbs ∧
 (bif w18 script s1 then cput s1.sm s1.sclk (w21 script s1) else s1.sclk) = s'1.sclk ∧
 part2 script s1) ∧
 ((w18 script s1 && (!w23 script s1 && w22 script s1)) = true →
 false = true)) ∧
 (w10 script s1 = false →
 (w34 script s1 = true →
 (w37 script s1 = true →
 w4 s1 ≤ (9223372036854775807 : Nat)) ∧
 ((!w38 script s1 || w42 script s1) = true →
 ∃ s'2, iC (w25 script s1) s'2 ∧
 (bif w38 script s1 then w26 s1 else s1.here) = s'2.here ∧
 script = script ∧
 s1.i = s1.i ∧
 (bif w37 script s1 then bif w16 s1 then mput s1.m (w19 s1) (w19 s1, w44 script s1, w45 script s1, w46 script s1, bif w35 script s1 then ((mget s1.m (rowP script s1.i.toNat).snd.snd.snd.fst).getD w43).snd.snd.snd.snd else (0 : Int)) else w28 s1 else w28 s1) = s'2.m ∧
 (bif w37 script s1 then w29 s1 else s1.bs) = s'2.bs ∧
 (bif w37 script s1 then w30 s1 else s1.clk) = s'2.clk ∧
 w31 s1 = s'2.cm ∧
 s1.cbs = s'2.cbs ∧
 s1.cclk = s'2.cclk ∧
 (bif w37 script s1 then w32 s1 else s1.last) = s'2.last ∧
 (bif w38 script s1 then mput s1.sm (w40 script s1) (((mget s1.sm (rowP script s1.i.toNat).snd.snd.snd.fst).getD w43).fst, ((mget s1.sm (rowP script s1.i.toNat).snd.snd.snd.fst).getD w43).snd.fst, ((mget s1.sm (rowP script s1.i.toNat).snd.snd.snd.fst).getD w43).snd.snd.fst, ((mget s1.sm (rowP script s1.i.toNat).snd.snd.snd.fst).getD w43).snd.snd.snd.fst, ((mget s1.sm (rowP script s1.i.toNat).snd.snd.snd.fst).getD w43).snd.snd.snd.snd) else w33 s1) = s'2.sm ∧
 (bif w38 script s1 then bput s1.sm s1.sbs s1.sclk (w40 script s1) else s1.sbs) = s'2.sbs ∧
 (bif w38 script s1 then cput s1.sm s1.sclk (w40 script s1) else s1.sclk) = s'2.sclk ∧
 part2 script s1) ∧
 ((w38 script s1 && (!w42 script s1 && w41 script s1)) = true →
 false = true)) ∧
 (w34 script s1 = false →
 (w47 script s1 = true →
 ((!w48 script s1 || w49 script s1) = true →
 ∃ s'3, iC (w25 script s1) s'3 ∧
 (bif w48 script s1 then w50 s1 else s1.here) = s'3.here ∧
 script = script ∧
 s1.i = s1.i ∧
 (w51 script s1) = s'3.m ∧
 w52 script s1 = s'3.bs ∧
 w53 script s1 = s'3.clk ∧
 w31 s1 = s'3.cm ∧
 s1.cbs = s'3.cbs ∧
 s1.cclk = s'3.cclk ∧
 s1.last = s'3.last ∧
 (bif w48 script s1 then w54 script s1 else w33 s1) = s'3.sm ∧
 (bif w48 script s1 then w55 script s1 else s1.sbs) = s'3.sbs ∧
 (bif w48 script s1 then s1.sclk else s1.sclk) = s'3.sclk ∧
 part2 script s1) ∧
 ((w48 script s1 && (!w49 script s1 && w39 script s1)) = true →
 false = true)) ∧
 (w47 script s1 = false →
 (w56 script s1 = true →
 ∃ s'4, iC (w25 script s1) s'4 ∧
 s1.here = s'4.here ∧
 script = script ∧
 s1.i = s1.i ∧
 w28 s1 = s'4.m ∧
 s1.bs = s'4.bs ∧
 s1.clk = s'4.clk ∧
 (bif w57 script s1 then mput s1.cm (w58 script s1) (1 : Int) else w31 s1) = s'4.cm ∧
 (bif w57 script s1 then bput s1.cm s1.cbs s1.cclk (w58 script s1) else s1.cbs) = s'4.cbs ∧
 (bif w57 script s1 then cput s1.cm s1.cclk (w58 script s1) else s1.cclk) = s'4.cclk ∧
 s1.last = s'4.last ∧
 w33 s1 = s'4.sm ∧
 s1.sbs = s'4.sbs ∧
 s1.sclk = s'4.sclk ∧
 part2 script s1) ∧
 (w56 script s1 = false →
 (w59 script s1 = true →
 ∃ s'5, iC (w25 script s1) s'5 ∧
 s1.here = s'5.here ∧
 script = script ∧
 s1.i = s1.i ∧
 w28 s1 = s'5.m ∧
 s1.bs = s'5.bs ∧
 s1.clk = s'5.clk ∧
 (bif w57 script s1 then mdel s1.cm (w58 script s1) else w31 s1) = s'5.cm ∧
 (bif w57 script s1 then bdel s1.cm s1.cbs (w58 script s1) else s1.cbs) = s'5.cbs ∧
 (bif w57 script s1 then s1.cclk else s1.cclk) = s'5.cclk ∧
 s1.last = s'5.last ∧
 w33 s1 = s'5.sm ∧
 s1.sbs = s'5.sbs ∧
 s1.sclk = s'5.sclk ∧
 part2 script s1) ∧
 (w59 script s1 = false →
 (w60 script s1 = true →
 ∃ s02, iG (w62 script s1) (w63 script s1) s02 ∧
 (w28 s1 = s02.m ∧
 s1.bs = w63 script s1 ∧
 s1.clk = w64 script s1 ∧
 w31 s1 = s1.cm ∧
 s1.cbs = s1.cbs ∧
 s1.cclk = s1.cclk ∧
 s1.last = s1.last ∧
 w33 s1 = s1.sm ∧
 s1.sbs = s1.sbs ∧
 s1.sclk = s1.sclk ∧
 (rowP script s1.i.toNat).fst = (rowP script s1.i.toNat).fst ∧
 (rowP script s1.i.toNat).snd.fst = (rowP script s1.i.toNat).snd.fst ∧
 (rowP script s1.i.toNat).snd.snd.fst = (rowP script s1.i.toNat).snd.snd.fst ∧
 (rowP script s1.i.toNat).snd.snd.snd.fst = (rowP script s1.i.toNat).snd.snd.snd.fst ∧
 (rowP script s1.i.toNat).snd.snd.snd.snd = (rowP script s1.i.toNat).snd.snd.snd.snd ∧
 s1.clk = w64 script s1 ∧
 [] = List.map (bornAt (w63 script s1)) s02.js ∧
 s1.clk = w64 script s1) ∧
 ∀ (s2 : V2), iG (w62 script s1) (w63 script s1) s2 →
 (List.map (fun x => x.fst) s2.m).Nodup →
 (∀ (p3 : Int × Letter), p3 ∈ s2.m →
 (RTy.one (CTy.int IntKind.u64)).Has p3.fst ∧
 (RTy.cons (CTy.int IntKind.u64) (RTy.cons (CTy.int IntKind.i64) (RTy.cons (CTy.int IntKind.i64) (RTy.cons CTy.txt (RTy.one (CTy.int IntKind.i64)))))).Has p3.snd) →
 ((w63 script s1).length = w65 s2 ∧
 (w63 script s1).Nodup ∧
 ∀ (b3 : Nat), b3 ∈ w63 script s1 →
 b3 < w64 script s1) →
 (w5 s1).Nodup →
 part0 s1 →
 (s1.cbs.length = w6 s1 ∧
 s1.cbs.Nodup ∧
 ∀ (b1 : Nat), b1 ∈ s1.cbs →
 b1 < s1.cclk) →
 (w7 s1).Nodup →
 part1 s1 →
 (s1.sbs.length = w8 s1 ∧
 s1.sbs.Nodup ∧
 ∀ (b2 : Nat), b2 ∈ s1.sbs →
 b2 < s1.sclk) →
 IntKind.u64.has s1.last →
 IntKind.i64.has (rowP script s1.i.toNat).fst →
 IntKind.i64.has (rowP script s1.i.toNat).snd.fst →
 IntKind.i64.has (rowP script s1.i.toNat).snd.snd.fst →
 IntKind.u64.has (rowP script s1.i.toNat).snd.snd.snd.fst →
 w14 script s1 ≤ (9223372036854775807 : Nat) →
 (w66 script s1 s2 = [] ∨ w63 script s1 = [] ∨ ∃ b, b ∈ w63 script s1 ∧
 b < w64 script s1) ∧
 (∀ (j : Nat), (∀ (b4 : Nat), b4 ∈ w63 script s1 →
 b4 < w64 script s1 →
 b4 ∈ w66 script s1 s2) →
 ∃ s'6, iC (w25 script s1) s'6 ∧
 s1.here = s'6.here ∧
 script = script ∧
 s1.i = s1.i ∧
 s2.m = s'6.m ∧
 w63 script s1 = s'6.bs ∧
 w64 script s1 = s'6.clk ∧
 w31 s1 = s'6.cm ∧
 s1.cbs = s'6.cbs ∧
 s1.cclk = s'6.cclk ∧
 s1.last = s'6.last ∧
 w33 s1 = s'6.sm ∧
 s1.sbs = s'6.sbs ∧
 s1.sclk = s'6.sclk ∧
 part2 script s1) ∧
 ∀ (j1 : Nat), j1 < w65 s2 ∧
 ¬w67 script s1 j1 ∈ w66 script s1 s2 →
 (w64 script s1 = w64 script s1 ∧
 w68 script s1 s2 j1 ≠ [] ∧
 w69 script s1 s2 j1 ∈ w63 script s1) ∧
 ∃ s'7, iG (w62 script s1) (w63 script s1) s'7 ∧
 w70 script s1 - s'7.js.length < w70 script s1 - s2.js.length ∧
 (mput s2.m (keyM s2.m (w71 script s1 s2 j1)) ((valM s2.m (w71 script s1 s2 j1)).fst, (valM s2.m (w71 script s1 s2 j1)).snd.fst, (valM s2.m (w71 script s1 s2 j1)).snd.snd.fst, (valM s2.m (w71 script s1 s2 j1)).snd.snd.snd.fst, IntKind.i64.wrap ((valM s2.m (w71 script s1 s2 j1)).snd.snd.snd.snd + (1 : Int)))) = s'7.m ∧
 bput s2.m (w63 script s1) (w64 script s1) (keyM s2.m (w71 script s1 s2 j1)) = w63 script s1 ∧
 cput s2.m (w64 script s1) (keyM s2.m (w71 script s1 s2 j1)) = w64 script s1 ∧
 w31 s1 = s1.cm ∧
 s1.cbs = s1.cbs ∧
 s1.cclk = s1.cclk ∧
 s1.last = s1.last ∧
 w33 s1 = s1.sm ∧
 s1.sbs = s1.sbs ∧
 s1.sclk = s1.sclk ∧
 (rowP script s1.i.toNat).fst = (rowP script s1.i.toNat).fst ∧
 (rowP script s1.i.toNat).snd.fst = (rowP script s1.i.toNat).snd.fst ∧
 (rowP script s1.i.toNat).snd.snd.fst = (rowP script s1.i.toNat).snd.snd.fst ∧
 (rowP script s1.i.toNat).snd.snd.snd.fst = (rowP script s1.i.toNat).snd.snd.snd.fst ∧
 (rowP script s1.i.toNat).snd.snd.snd.snd = (rowP script s1.i.toNat).snd.snd.snd.snd ∧
 w64 script s1 = w64 script s1 ∧
 w68 script s1 s2 j1 = List.map (bornAt (w63 script s1)) s'7.js ∧
 w64 script s1 = w64 script s1) ∧
 (w60 script s1 = false →
 List.length s1.m ≤ (4096 : Nat) ∧
 ((w73 script s1 = true →
 ∃ s'8, iM s'8 ∧
 ((200 : Int) - s'8.i).toNat < w74 s1 ∧
 s1.here = s'8.here ∧
 w75 s1 = s'8.i ∧
 script = script ∧
 w76 script s1 = s'8.m ∧
 w77 script s1 = s'8.bs ∧
 w78 script s1 = s'8.clk ∧
 w31 s1 = s'8.cm ∧
 s1.cbs = s'8.cbs ∧
 s1.cclk = s'8.cclk ∧
 s1.last = s'8.last ∧
 w33 s1 = s'8.sm ∧
 s1.sbs = s'8.sbs ∧
 s1.sclk = s'8.sclk) ∧
 ((!w73 script s1) = true →
 (w81 script s1 = true →
 false = true) ∧
 ((!w81 script s1) = true →
 ∃ s'9, iC (w25 script s1) s'9 ∧
 w50 s1 = s'9.here ∧
 script = script ∧
 s1.i = s1.i ∧
 w76 script s1 = s'9.m ∧
 w77 script s1 = s'9.bs ∧
 w78 script s1 = s'9.clk ∧
 w31 s1 = s'9.cm ∧
 s1.cbs = s'9.cbs ∧
 s1.cclk = s'9.cclk ∧
 s1.last = s'9.last ∧
 (w54 script s1) = s'9.sm ∧
 w55 script s1 = s'9.sbs ∧
 s1.sclk = s'9.sclk ∧
 part2 script s1))) ∧
 ∀ (l : List Int), l.length.le (4096 : Nat) →
 (w83 script s1 l = true →
 w84 l ≠ (0 : Int) ∧
 (0 : Int) ≤ w85 script s1 l ∧
 w85 script s1 l < w82 l) ∧
 (w93 script s1 l = true →
 ∃ s'10, iM s'10 ∧
 ((200 : Int) - s'10.i).toNat < w74 s1 ∧
 s1.here = s'10.here ∧
 w75 s1 = s'10.i ∧
 script = script ∧
 w94 script s1 l = s'10.m ∧
 w95 script s1 l = s'10.bs ∧
 w96 script s1 l = s'10.clk ∧
 w31 s1 = s'10.cm ∧
 s1.cbs = s'10.cbs ∧
 s1.cclk = s'10.cclk ∧
 s1.last = s'10.last ∧
 w33 s1 = s'10.sm ∧
 s1.sbs = s'10.sbs ∧
 s1.sclk = s'10.sclk) ∧
 ((!w93 script s1 l) = true →
 (w99 script s1 l = true →
 false = true) ∧
 ((!w99 script s1 l) = true →
 ∃ s'11, iC (w25 script s1) s'11 ∧
 w50 s1 = s'11.here ∧
 script = script ∧
 s1.i = s1.i ∧
 w94 script s1 l = s'11.m ∧
 w95 script s1 l = s'11.bs ∧
 w96 script s1 l = s'11.clk ∧
 w31 s1 = s'11.cm ∧
 s1.cbs = s'11.cbs ∧
 s1.cclk = s'11.cclk ∧
 s1.last = s'11.last ∧
 (mdel s1.sm (w86 script s1 l)) = s'11.sm ∧
 bdel s1.sm s1.sbs (w86 script s1 l) = s'11.sbs ∧
 s1.sclk = s'11.sclk ∧
 part2 script s1))))))))) ∧
 ∀ (s3 : M1), iC (w25 script s1) s3 →
 (CTy.sl (RTy.cons (CTy.int IntKind.i64) (RTy.cons (CTy.int IntKind.i64) (RTy.cons (CTy.int IntKind.i64) (RTy.cons (CTy.int IntKind.u64) (RTy.one CTy.txt)))))).Has script →
 IntKind.i64.has s3.here →
 IntKind.i64.has s1.i →
 (List.map (fun x => x.fst) s3.m).Nodup →
 (∀ (p4 : Int × Letter), p4 ∈ s3.m →
 (RTy.one (CTy.int IntKind.u64)).Has p4.fst ∧
 (RTy.cons (CTy.int IntKind.u64) (RTy.cons (CTy.int IntKind.i64) (RTy.cons (CTy.int IntKind.i64) (RTy.cons CTy.txt (RTy.one (CTy.int IntKind.i64)))))).Has p4.snd) →
 (s3.bs.length = w100 s3 ∧
 s3.bs.Nodup ∧
 ∀ (b5 : Nat), b5 ∈ s3.bs →
 b5 < s3.clk) →
 (List.map (fun x => x.fst) s3.cm).Nodup →
 (∀ (p5 : (Int × Int) × Int), p5 ∈ s3.cm →
 (RTy.cons (CTy.int IntKind.i64) (RTy.one (CTy.int IntKind.i64))).Has p5.fst ∧
 (RTy.one (CTy.int IntKind.i64)).Has p5.snd) →
 (s3.cbs.length = List.length s3.cm ∧
 s3.cbs.Nodup ∧
 ∀ (b6 : Nat), b6 ∈ s3.cbs →
 b6 < s3.cclk) →
 (List.map (fun x => x.fst) s3.sm).Nodup →
 (∀ (p6 : Int × Letter), p6 ∈ s3.sm →
 (RTy.one (CTy.int IntKind.u64)).Has p6.fst ∧
 (RTy.cons (CTy.int IntKind.u64) (RTy.cons (CTy.int IntKind.i64) (RTy.cons (CTy.int IntKind.i64) (RTy.cons CTy.txt (RTy.one (CTy.int IntKind.i64)))))).Has p6.snd) →
 (s3.sbs.length = List.length s3.sm ∧
 s3.sbs.Nodup ∧
 ∀ (b7 : Nat), b7 ∈ s3.sbs →
 b7 < s3.sclk) →
 IntKind.u64.has s3.last →
 IntKind.i64.has (rowP script s1.i.toNat).fst →
 IntKind.i64.has (rowP script s1.i.toNat).snd.fst →
 IntKind.i64.has (rowP script s1.i.toNat).snd.snd.fst →
 IntKind.u64.has (rowP script s1.i.toNat).snd.snd.snd.fst →
 w14 script s1 ≤ (9223372036854775807 : Nat) →
 w100 s3 ≤ (9223372036854775807 : Nat) ∧
 (w101 s3 = true →
 false = true) ∧
 ((!w101 s3) = true →
 ∃ s'12, iM s'12 ∧
 ((200 : Int) - s'12.i).toNat < w74 s1 ∧
 s3.here = s'12.here ∧
 w75 s1 = s'12.i ∧
 script = script ∧
 s3.m = s'12.m ∧
 s3.bs = s'12.bs ∧
 s3.clk = s'12.clk ∧
 s3.cm = s'12.cm ∧
 s3.cbs = s'12.cbs ∧
 s3.cclk = s'12.cclk ∧
 s3.last = s'12.last ∧
 s3.sm = s'12.sm ∧
 s3.sbs = s'12.sbs ∧
 s3.sclk = s'12.sclk)) ∧
 ((!w9 script s1) = true →
 true = true)))

theorem owed_eq (script : List Step) (iH : H1 → Prop) (iG : Lm → List Nat → V2 → Prop) (iM : M1 → Prop) (iC : Int → M1 → Prop) : owed script iH iG iM iC = vTop Try.prog S5 (LL iH iG iM iC) 20000 5 [.dsl stepR script] H0 (fun v _ => isB v true) := by kernel_rfl
end
end Go.Proofs.Ytdeoahhofhmgfaa.No.Mn
