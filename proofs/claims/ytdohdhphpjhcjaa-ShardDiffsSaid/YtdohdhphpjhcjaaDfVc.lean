/- A part of the proof that 'reevelaw28.ShardDiffs' returns true for every input. No condition. -/
import Derived.Test.YtdohdhphpjhcjaaAmJ
import Derived.KernelRfl
import Derived.Test.YtdohdhphpjhcjaaRpSum
namespace Go.Proofs.Ytdohdhphpjhcjaa.Sh.Df
open Go.AM
noncomputable section
def repR : RTy := .one (.sl rowR)
def taskR : RTy := .cons .txt (.one (.int .i64))
abbrev Task := List UInt8 × Int
abbrev Kn := List (Task × Row)
def rowL (rep : List (List Row)) (i : Nat) : List Row := Go.AM.rowAt (r := repR) rep i
def S5 : SumP := fun f args H => match f, args with
  | 7, [] => some (.val (.bool true))
  | f, args => S4 f args H
structure U1 where
  n : Nat
structure N1 where
  i : Int
  n : Int
structure X1 where
  i : Int
structure A1 where
  i : Int
  m : Mp
  bs : List Nat
  clk : Nat
  kn : Kn
  kbs : List Nat
  kclk : Nat
structure P1 where
  k : Int
  m : Mp
  bs : List Nat
  clk : Nat
structure B1 where
  m : Mp
  bs : List Nat
  clk : Nat
structure D1 where
  i : Int
  j : Int
  rows : List Int
structure K1 where
  k : Int
  kn : Kn
  kbs : List Nat
  kclk : Nat
structure G1 where
  m : Int
  gone : Bool
def mapId (H : Heap) (v : AV) : Nat := match v with
  | .ptr i _ => idV (cellOf H i 1)
  | _ => 0
def fnShard (H : Heap) (v : AV) : AV := match v with
  | .fn _ _ [.ptr i _] => cellOf H i 0
  | _ => .nilPtr
/-- The map of what is known. -/
def knOf (H : Heap) (v : AV) : Kn := match v with
  | .map i => match H.get i with
    | some (.smap _ _ (.cons .txt (.one (.int _))) (.cons .txt (.cons (.int _) (.cons (.int _) (.cons (.int _) (.cons (.int _) (.cons (.int _) (.one (.int _)))))))) m _ _) => m
    | _ => []
  | _ => []
def seqR (H : Heap) (v : AV) : List Row := match H.get (idV v) with
  | some (.seq (.cons .txt (.cons (.int _) (.cons (.int _) (.cons (.int _) (.cons (.int _) (.cons (.int _) (.one (.int _)))))))) rows _) => rows
  | _ => []
def dslR (v : AV) : List Row := match v with
  | .dsl (.cons .txt (.cons (.int _) (.cons (.int _) (.cons (.int _) (.cons (.int _) (.cons (.int _) (.one (.int _)))))))) rows => rows
  | _ => []
structure Invs where
  u : U1 → Prop
  n : N1 → Prop
  x : X1 → Prop
  y : Int → X1 → Prop
  a : A1 → Prop
  p : Mp → List Int → P1 → Prop
  b : Mp → B1 → Prop
  r : List Row → X1 → Prop
  k : Int → Kn → List Row → K1 → Prop
  g : Int → Kn → List Row → Int → G1 → Prop
  z : Int → Kn → X1 → Prop
  i : Mp → List Int → X1 → Prop
  d : Mp → List Int → D1 → Prop
def LN (most : Int) (inv : U1 → Prop) : LInv := ⟨U1, inv, fun _ fr H => patchA [0, 1] (fun n => [(6, .ptr (n + 1) 0)]) [] [.smap false true iR seenR [] [] 0, .cells false 2 [.sI .i64 most, .map H.next] (some 71)] fr H, fun _ => 0⟩
def L3 (rep : List (List Row)) (inv : N1 → Prop) : LInv := ⟨N1, inv, fun s => patch [0, 1, 2] [(7, .sI .i64 s.n), (8, .sI .i64 s.i)] [], fun s => (rep.length - s.i).toNat⟩
def L9 (rep : List (List Row)) (inv : X1 → Prop) : LInv := ⟨X1, inv, fun s => patch [0, 1, 2] [(9, .sI .i64 s.i)] [], fun s => (rep.length - s.i).toNat⟩
def L12 (inv : Int → X1 → Prop) (fr : Fr) : LInv := ⟨X1, inv (Go.AM.intOf fr 9), fun s => patch [0, 1, 2, 9] [(10, .sI .i64 s.i)] [], fun s => (500 - s.i).toNat⟩
def LA (most : Int) (rep : List (List Row)) (inv : A1 → Prop) (fr : Fr) (H : Heap) : LInv := ⟨A1, inv, fun s => patchK [0, 1, 2, 11, 13] [(14, .sI .i64 s.i)] [] [(ptrOf fr 11, .cells false 2 [.sI .i64 most, .map (mapId H (avOf fr 11))] (some 71)), (mapId H (avOf fr 11), .smap false true iR seenR s.m s.bs s.clk), (idV (avOf fr 13), .smap true true taskR rowR s.kn s.kbs s.kclk)], fun s => (rep.length - s.i).toNat⟩
def LP (inv : Mp → List Int → P1 → Prop) (fr : Fr) (H : Heap) : LInv := ⟨P1, inv (mOf H (mapId H (avOf fr 0))) (seqI H (avOf fr 3)), fun s => patch [0, 3, 9, 10] [(11, .sI .i64 s.k)] [(mapId H (avOf fr 0), .smap false true iR seenR s.m s.bs s.clk)], fun s => ((seqI H (avOf fr 3)).length - s.k).toNat⟩
def LB (most : Int) (inv : Mp → B1 → Prop) (fr : Fr) (H : Heap) : LInv := ⟨B1, inv (mOf H (mapId H (avOf fr 11))), fun s => patchK [0, 1, 2, 11, 13, 14] [] [idV (avOf fr 13)] [(ptrOf fr 11, .cells false 2 [.sI .i64 most, .map (mapId H (avOf fr 11))] (some 71)), (mapId H (avOf fr 11), .smap false true iR seenR s.m s.bs s.clk)], fun _ => 0⟩
def LR (inv : List Row → X1 → Prop) (fr : Fr) : LInv := ⟨X1, inv (dslR (avOf fr 0)), fun s => patch [0] [(3, .sI .i64 s.i)] [], fun s => ((dslR (avOf fr 0)).length - s.i).toNat⟩
def LK (inv : Int → Kn → List Row → K1 → Prop) (fr : Fr) (H : Heap) : LInv := ⟨K1, inv (Go.AM.intOf fr 14) (knOf H (avOf fr 13)) (seqR H (avOf fr 15)), fun s => patch [0, 1, 2, 11, 13, 14, 15] [(17, .sI .i64 s.k)] [(idV (avOf fr 13), .smap true true taskR rowR s.kn s.kbs s.kclk)], fun s => ((seqR H (avOf fr 15)).length - s.k).toNat⟩
def LG (rep : List (List Row)) (inv : Int → Kn → List Row → Int → G1 → Prop) (fr : Fr) (H : Heap) : LInv := ⟨G1, inv (Go.AM.intOf fr 14) (knOf H (avOf fr 13)) (seqR H (avOf fr 15)) (Go.AM.intOf fr 17), fun s => patch [0, 1, 2, 11, 13, 14, 15, 17, 19] [(20, .sB s.gone), (21, .sI .i64 s.m)] [], fun s => (500 - s.m).toNat⟩
def LZ (inv : Int → Kn → X1 → Prop) (fr : Fr) (H : Heap) : LInv := ⟨X1, inv (Go.AM.intOf fr 14) (knOf H (avOf fr 13)), fun s => patch [0, 1, 2, 11, 13, 14] [(22, .sI .i64 s.i)] [], fun s => (500 - s.i).toNat⟩
def LI (inv : Mp → List Int → X1 → Prop) (fr : Fr) (H : Heap) : LInv :=
  ⟨X1, inv (mOf H (mapId H (fnShard H (avOf fr 1)))) (seqI H (avOf fr 0)), fun s => patch [0, 1, 6, 7] [(8, .sI .i64 s.i)] [], fun s => ((seqI H (avOf fr 0)).length - s.i).toNat⟩
def LD (inv : Mp → List Int → D1 → Prop) (fr : Fr) (H : Heap) : LInv :=
  ⟨D1, inv (mOf H (mapId H (fnShard H (avOf fr 1)))) (seqI H (avOf fr 0)), fun s => patch [0, 1] [(5, .sI .i64 s.i), (6, .sI .i64 s.j)] [(idV (avOf fr 0), .seq iR s.rows none)], fun s => ((seqI H (avOf fr 0)).length - s.j).toNat⟩
def LL (most : Int) (rep : List (List Row)) (iv : Invs) : LTab := fun f k fr H => match f, k with
  | 8, 1000004 => some (LN most iv.u)
  | 3, 3 => some (L3 rep iv.n)
  | 3, 9 => some (L9 rep iv.x)
  | 3, 12 => some (L12 iv.y fr)
  | 3, 23 => some (LA most rep iv.a fr H)
  | 9, 3 => some (LP iv.p fr H)
  | 3, 1000026 => some (LB most iv.b fr H)
  | 11, 2 => some (LR iv.r fr)
  | 3, 31 => some (LK iv.k fr H)
  | 3, 36 => some (LG rep iv.g fr H)
  | 3, 47 => some (LZ iv.z fr H)
  | 39, 2 => some (LI iv.i fr H)
  | 30, 5 => some (LD iv.d fr H)
  | _, _ => none
def w0 (rep : List (List Row)) : Int := (↑rep.length : Int)
def w1 (rep : List (List Row)) (s : N1) : Bool := decide (s.i < w0 rep) && decide (s.i < (100 : Int))
def w2 (rep : List (List Row)) : Int := (↑rep.length : Int)
def w3 (rep : List (List Row)) (s : N1) : Bool := decide ((50 : Int) < w0 rep) || decide ((500 : Int) < s.n)
def w4 (rep : List (List Row)) (s1 : X1) : Bool := decide (s1.i < w0 rep)
def w5 (a : Int) (most : Int) (rep : List (List Row)) (s1 : X1) : Int := AM.intOf (((T.nil.node none ((T.nil.node none (T.nil.node (some (AV.dsl (RTy.one (CTy.sl (RTy.cons CTy.txt (RTy.cons (CTy.int IntKind.i64) (RTy.cons (CTy.int IntKind.i64) (RTy.cons (CTy.int IntKind.u8) (RTy.cons (CTy.int IntKind.i64) (RTy.cons (CTy.int IntKind.i64) (RTy.one (CTy.int IntKind.i64)))))))))) rep)) T.nil)).node none T.nil)).node (some (AV.sI IntKind.i64 most)) ((T.nil.node (some (AV.sI IntKind.i64 s1.i)) T.nil).node none ((T.nil.node none (T.nil.node (some (AV.sB (w4 rep s1))) T.nil)).node none T.nil))).node (some (AV.sI IntKind.i64 a)) ((T.nil.node none ((T.nil.node none (T.nil.node (some (AV.sI IntKind.i64 (w0 rep))) T.nil)).node none T.nil)).node (some (AV.dsl (RTy.one (CTy.sl (RTy.cons CTy.txt (RTy.cons (CTy.int IntKind.i64) (RTy.cons (CTy.int IntKind.i64) (RTy.cons (CTy.int IntKind.u8) (RTy.cons (CTy.int IntKind.i64) (RTy.cons (CTy.int IntKind.i64) (RTy.one (CTy.int IntKind.i64)))))))))) rep)) (((T.nil.node none (T.nil.node (some (AV.sI IntKind.i64 s1.i)) T.nil)).node (some (AV.int IntKind.i64 (0 : Int))) T.nil).node none T.nil))) (9 : Nat)
def w6 (rep : List (List Row)) (s1 : X1) : Int := (↑(List.length (rowL rep s1.i.toNat)) : Int)
def w7 (rep : List (List Row)) (s1 : X1) (s2 : X1) : Bool := decide (s2.i < w6 rep s1)
def w8 (rep : List (List Row)) (s1 : X1) (s2 : X1) : Bool := decide ((200 : Int) < (↑(List.length (rowR0 (rowL rep s1.i.toNat) s2.i.toNat).fst) : Int))
def w9 (a : Int) : Bool := decide (a < (0 : Int)) || decide ((64 : Int) ≤ a)
def w10 (most : Int) : Bool := decide (most < (1 : Int)) || decide ((100 : Int) < most)
def w11 : List (Int × Seen) := []
def w12 : (CTy.sl rowR).den × (RTy.cons CTy.boo (RTy.one (CTy.int IntKind.i64))).den := ([], false, (0 : Int))
def w13 (s4 : A1) : List Task := List.map (fun x => x.fst) s4.kn
def w14 (s4 : A1) : Nat := List.length s4.kn
def w15 (rep : List (List Row)) (s4 : A1) : Bool := decide (s4.i < w0 rep)
def w16 (most : Int) : List AV := [AV.sI IntKind.i64 most, AV.map (1 : Nat)]
def w17 (most : Int) (s4 : A1) : Mp := mOf { t := ((T.nil.node (some (AObj.smap true true (RTy.cons CTy.txt (RTy.one (CTy.int IntKind.i64))) (RTy.cons CTy.txt (RTy.cons (CTy.int IntKind.i64) (RTy.cons (CTy.int IntKind.i64) (RTy.cons (CTy.int IntKind.u8) (RTy.cons (CTy.int IntKind.i64) (RTy.cons (CTy.int IntKind.i64) (RTy.one (CTy.int IntKind.i64)))))))) s4.kn s4.kbs s4.kclk)) T.nil).node (some (AObj.smap false true (RTy.one (CTy.int IntKind.i64)) (RTy.cons (CTy.sl (RTy.cons CTy.txt (RTy.cons (CTy.int IntKind.i64) (RTy.cons (CTy.int IntKind.i64) (RTy.cons (CTy.int IntKind.u8) (RTy.cons (CTy.int IntKind.i64) (RTy.cons (CTy.int IntKind.i64) (RTy.one (CTy.int IntKind.i64))))))))) (RTy.cons CTy.boo (RTy.one (CTy.int IntKind.i64)))) s4.m s4.bs s4.clk)) T.nil).node none ((T.nil.node (some (AObj.seq (RTy.one (CTy.int IntKind.i64)) (machs s4.m) none)) T.nil).node (some (AObj.cells false (2 : Nat) (w16 most) (some (71 : Nat)))) T.nil), next := (5 : Nat), d := (31 : Nat) } (1 : Nat)
def w18 (most : Int) (s4 : A1) : List Int := seqI { t := ((T.nil.node (some (AObj.smap true true (RTy.cons CTy.txt (RTy.one (CTy.int IntKind.i64))) (RTy.cons CTy.txt (RTy.cons (CTy.int IntKind.i64) (RTy.cons (CTy.int IntKind.i64) (RTy.cons (CTy.int IntKind.u8) (RTy.cons (CTy.int IntKind.i64) (RTy.cons (CTy.int IntKind.i64) (RTy.one (CTy.int IntKind.i64)))))))) s4.kn s4.kbs s4.kclk)) T.nil).node (some (AObj.smap false true (RTy.one (CTy.int IntKind.i64)) (RTy.cons (CTy.sl (RTy.cons CTy.txt (RTy.cons (CTy.int IntKind.i64) (RTy.cons (CTy.int IntKind.i64) (RTy.cons (CTy.int IntKind.u8) (RTy.cons (CTy.int IntKind.i64) (RTy.cons (CTy.int IntKind.i64) (RTy.one (CTy.int IntKind.i64))))))))) (RTy.cons CTy.boo (RTy.one (CTy.int IntKind.i64)))) s4.m s4.bs s4.clk)) T.nil).node none ((T.nil.node (some (AObj.seq (RTy.one (CTy.int IntKind.i64)) (machs s4.m) none)) T.nil).node (some (AObj.cells false (2 : Nat) (w16 most) (some (71 : Nat)))) T.nil), next := (5 : Nat), d := (31 : Nat) } (AV.sw (4 : Nat))
def w19 (s4 : A1) : Int := (↑(machs s4.m).length : Int)
def w20 (s4 : A1) : List (Task × Row) := s4.kn
def w21 (s4 : A1) (s5 : P1) : Bool := decide (s5.k < w19 s4)
def w22 (most : Int) (s4 : A1) : Int := (↑(w18 most s4).length : Int)
def w23 (most : Int) (s4 : A1) : Mp := mOf { t := ((T.nil.node (some (AObj.smap true true (RTy.cons CTy.txt (RTy.one (CTy.int IntKind.i64))) (RTy.cons CTy.txt (RTy.cons (CTy.int IntKind.i64) (RTy.cons (CTy.int IntKind.i64) (RTy.cons (CTy.int IntKind.u8) (RTy.cons (CTy.int IntKind.i64) (RTy.cons (CTy.int IntKind.i64) (RTy.one (CTy.int IntKind.i64)))))))) s4.kn s4.kbs s4.kclk)) T.nil).node (some (AObj.smap false true (RTy.one (CTy.int IntKind.i64)) (RTy.cons (CTy.sl (RTy.cons CTy.txt (RTy.cons (CTy.int IntKind.i64) (RTy.cons (CTy.int IntKind.i64) (RTy.cons (CTy.int IntKind.u8) (RTy.cons (CTy.int IntKind.i64) (RTy.cons (CTy.int IntKind.i64) (RTy.one (CTy.int IntKind.i64))))))))) (RTy.cons CTy.boo (RTy.one (CTy.int IntKind.i64)))) s4.m s4.bs s4.clk)) T.nil).node none (T.nil.node (some (AObj.cells false (2 : Nat) (w16 most) (some (71 : Nat)))) T.nil), next := (4 : Nat) } (1 : Nat)
def w24 (s6 : B1) : List Int := List.map (fun x => x.fst) s6.m
def w25 (s6 : B1) : Nat := List.length s6.m
def w26 (rep : List (List Row)) (s4 : A1) : List Row := (rowL rep s4.i.toNat)
def w27 (rep : List (List Row)) (s4 : A1) : List Row := [] ++ w26 rep s4
def w28 (rep : List (List Row)) (s4 : A1) : Nat := (w27 rep s4).length
def w29 (rep : List (List Row)) (s4 : A1) : Nat := (w27 rep s4).length
def w30 (a : Int) (s6 : B1) : Bool := (mget s6.m a).isSome
def w31 (rep : List (List Row)) (s4 : A1) : List Row := dslR (AV.dsl (RTy.cons CTy.txt (RTy.cons (CTy.int IntKind.i64) (RTy.cons (CTy.int IntKind.i64) (RTy.cons (CTy.int IntKind.u8) (RTy.cons (CTy.int IntKind.i64) (RTy.cons (CTy.int IntKind.i64) (RTy.one (CTy.int IntKind.i64)))))))) (rowL rep s4.i.toNat))
def w32 (s6 : B1) : List (Int × Seen) := s6.m
def w33 (rep : List (List Row)) (s4 : A1) : Int := (↑(List.length (rowL rep s4.i.toNat)) : Int)
def w34 (rep : List (List Row)) (s4 : A1) (s7 : X1) : Bool := decide (s7.i < w33 rep s4)
def w35 (s7 : X1) : Int := IntKind.i64.wrap (s7.i - (1 : Int))
def w36 (s7 : X1) : Nat := (w35 s7).toNat
def w37 (rep : List (List Row)) (s4 : A1) (s7 : X1) : Bool := !(ltB (rowR0 (rowL rep s4.i.toNat) (w36 s7)).fst (rowR0 (rowL rep s4.i.toNat) s7.i.toNat).fst || decide ((rowR0 (rowL rep s4.i.toNat) (w36 s7)).fst = (rowR0 (rowL rep s4.i.toNat) s7.i.toNat).fst) && decide ((rowR0 (rowL rep s4.i.toNat) (w36 s7)).snd.fst < (rowR0 (rowL rep s4.i.toNat) s7.i.toNat).snd.fst))
def w38 (rep : List (List Row)) (s4 : A1) : Nat := (w2 rep - s4.i).toNat
def w39 (s4 : A1) : Int := IntKind.i64.wrap (s4.i + (1 : Int))
def w40 (rep : List (List Row)) (s4 : A1) : Int := (↑(w31 rep s4).length : Int)
def w41 (rep : List (List Row)) (s4 : A1) : Bool := decide (w33 rep s4 ≤ (256 : Int))
def w42 : List AV := [AV.sw (5 : Nat), AV.int IntKind.i64 (0 : Int)]
def w43 (a : Int) (most : Int) (rep : List (List Row)) (s4 : A1) : Int := AM.intOf (((((T.nil.node (some (AV.sw (5 : Nat))) (T.nil.node none (T.nil.node (some (AV.sw (5 : Nat))) T.nil))).node none ((T.nil.node none (T.nil.node (some (AV.ptr (2 : Nat) (0 : Nat))) T.nil)).node none T.nil)).node none (T.nil.node (some (AV.ptr (2 : Nat) (0 : Nat))) ((T.nil.node none (T.nil.node (some (AV.dptr (RTy.one (CTy.sl (RTy.cons CTy.txt (RTy.cons (CTy.int IntKind.i64) (RTy.cons (CTy.int IntKind.i64) (RTy.cons (CTy.int IntKind.u8) (RTy.cons (CTy.int IntKind.i64) (RTy.cons (CTy.int IntKind.i64) (RTy.one (CTy.int IntKind.i64)))))))))) (rowL rep s4.i.toNat) (0 : Nat))) T.nil)).node none T.nil))).node (some (AV.sI IntKind.i64 most)) (((T.nil.node (some (AV.int IntKind.i64 (0 : Int))) (T.nil.node none (T.nil.node (some (AV.int IntKind.i64 (0 : Int))) T.nil))).node none ((T.nil.node none (T.nil.node (some (AV.dsl (RTy.one (CTy.sl (RTy.cons CTy.txt (RTy.cons (CTy.int IntKind.i64) (RTy.cons (CTy.int IntKind.i64) (RTy.cons (CTy.int IntKind.u8) (RTy.cons (CTy.int IntKind.i64) (RTy.cons (CTy.int IntKind.i64) (RTy.one (CTy.int IntKind.i64)))))))))) rep)) T.nil)).node none T.nil)).node none (T.nil.node (some (AV.map (3 : Nat))) ((T.nil.node none (T.nil.node (some (AV.dsl (RTy.cons CTy.txt (RTy.cons (CTy.int IntKind.i64) (RTy.cons (CTy.int IntKind.i64) (RTy.cons (CTy.int IntKind.u8) (RTy.cons (CTy.int IntKind.i64) (RTy.cons (CTy.int IntKind.i64) (RTy.one (CTy.int IntKind.i64)))))))) (w27 rep s4))) T.nil)).node none T.nil)))).node (some (AV.sI IntKind.i64 a)) ((((T.nil.node (some (AV.int IntKind.i64 (0 : Int))) (T.nil.node none (T.nil.node (some (AV.int IntKind.i64 (0 : Int))) T.nil))).node none ((T.nil.node none (T.nil.node (some (AV.sI IntKind.i64 a)) T.nil)).node none T.nil)).node none (T.nil.node none ((T.nil.node none (T.nil.node (some (AV.dsl (RTy.cons CTy.txt (RTy.cons (CTy.int IntKind.i64) (RTy.cons (CTy.int IntKind.i64) (RTy.cons (CTy.int IntKind.u8) (RTy.cons (CTy.int IntKind.i64) (RTy.cons (CTy.int IntKind.i64) (RTy.one (CTy.int IntKind.i64)))))))) (rowL rep s4.i.toNat))) T.nil)).node none T.nil))).node (some (AV.dsl (RTy.one (CTy.sl (RTy.cons CTy.txt (RTy.cons (CTy.int IntKind.i64) (RTy.cons (CTy.int IntKind.i64) (RTy.cons (CTy.int IntKind.u8) (RTy.cons (CTy.int IntKind.i64) (RTy.cons (CTy.int IntKind.i64) (RTy.one (CTy.int IntKind.i64)))))))))) rep)) (((T.nil.node none (T.nil.node none (T.nil.node (some (AV.bool false)) T.nil))).node none ((T.nil.node none (T.nil.node (some (AV.sI IntKind.i64 s4.i)) T.nil)).node none T.nil)).node none (((T.nil.node none (T.nil.node (some (AV.tup w42)) T.nil)).node none T.nil).node (some (AV.sI IntKind.i64 s4.i)) ((T.nil.node none (T.nil.node (some (AV.tup w42)) T.nil)).node none T.nil))))) (14 : Nat)
def w44 (a : Int) (rep : List (List Row)) (s4 : A1) (s6 : B1) : Mp := mP s6.m a (w27 rep s4)
def w45 (a : Int) (s6 : B1) : List Nat := bP s6.m s6.bs s6.clk a
def w46 (a : Int) (s6 : B1) : Nat := cP s6.m s6.clk a
def w47 (a : Int) (rep : List (List Row)) (s4 : A1) (s6 : B1) : List Row := chg (oldOf s6.m a) (w27 rep s4)
def w48 (a : Int) (most : Int) (rep : List (List Row)) (s4 : A1) (s6 : B1) : Kn := knOf { t := ((T.nil.node (some (AObj.smap true true (RTy.cons CTy.txt (RTy.one (CTy.int IntKind.i64))) (RTy.cons CTy.txt (RTy.cons (CTy.int IntKind.i64) (RTy.cons (CTy.int IntKind.i64) (RTy.cons (CTy.int IntKind.u8) (RTy.cons (CTy.int IntKind.i64) (RTy.cons (CTy.int IntKind.i64) (RTy.one (CTy.int IntKind.i64)))))))) s4.kn s4.kbs s4.kclk)) T.nil).node (some (AObj.smap false true (RTy.one (CTy.int IntKind.i64)) (RTy.cons (CTy.sl (RTy.cons CTy.txt (RTy.cons (CTy.int IntKind.i64) (RTy.cons (CTy.int IntKind.i64) (RTy.cons (CTy.int IntKind.u8) (RTy.cons (CTy.int IntKind.i64) (RTy.cons (CTy.int IntKind.i64) (RTy.one (CTy.int IntKind.i64))))))))) (RTy.cons CTy.boo (RTy.one (CTy.int IntKind.i64)))) (w44 a rep s4 s6) (w45 a s6) (w46 a s6))) (T.nil.node (some (AObj.seq (RTy.cons CTy.txt (RTy.cons (CTy.int IntKind.i64) (RTy.cons (CTy.int IntKind.i64) (RTy.cons (CTy.int IntKind.u8) (RTy.cons (CTy.int IntKind.i64) (RTy.cons (CTy.int IntKind.i64) (RTy.one (CTy.int IntKind.i64)))))))) (w47 a rep s4 s6) none)) T.nil)).node none ((T.nil.node none T.nil).node (some (AObj.cells false (2 : Nat) (w16 most) (some (71 : Nat)))) T.nil), next := (6 : Nat), d := (50 : Nat) } (AV.map (3 : Nat))
def w49 (a : Int) (most : Int) (rep : List (List Row)) (s4 : A1) (s6 : B1) : List Row := seqR { t := ((T.nil.node (some (AObj.smap true true (RTy.cons CTy.txt (RTy.one (CTy.int IntKind.i64))) (RTy.cons CTy.txt (RTy.cons (CTy.int IntKind.i64) (RTy.cons (CTy.int IntKind.i64) (RTy.cons (CTy.int IntKind.u8) (RTy.cons (CTy.int IntKind.i64) (RTy.cons (CTy.int IntKind.i64) (RTy.one (CTy.int IntKind.i64)))))))) s4.kn s4.kbs s4.kclk)) T.nil).node (some (AObj.smap false true (RTy.one (CTy.int IntKind.i64)) (RTy.cons (CTy.sl (RTy.cons CTy.txt (RTy.cons (CTy.int IntKind.i64) (RTy.cons (CTy.int IntKind.i64) (RTy.cons (CTy.int IntKind.u8) (RTy.cons (CTy.int IntKind.i64) (RTy.cons (CTy.int IntKind.i64) (RTy.one (CTy.int IntKind.i64))))))))) (RTy.cons CTy.boo (RTy.one (CTy.int IntKind.i64)))) (w44 a rep s4 s6) (w45 a s6) (w46 a s6))) (T.nil.node (some (AObj.seq (RTy.cons CTy.txt (RTy.cons (CTy.int IntKind.i64) (RTy.cons (CTy.int IntKind.i64) (RTy.cons (CTy.int IntKind.u8) (RTy.cons (CTy.int IntKind.i64) (RTy.cons (CTy.int IntKind.i64) (RTy.one (CTy.int IntKind.i64)))))))) (w47 a rep s4 s6) none)) T.nil)).node none ((T.nil.node none T.nil).node (some (AObj.cells false (2 : Nat) (w16 most) (some (71 : Nat)))) T.nil), next := (6 : Nat), d := (50 : Nat) } (AV.sw (5 : Nat))
def w50 (a : Int) (rep : List (List Row)) (s4 : A1) (s6 : B1) : List (Int × Seen) := (w44 a rep s4 s6)
def w51 (a : Int) (rep : List (List Row)) (s4 : A1) (s6 : B1) : List Row := (w47 a rep s4 s6)
def w52 (a : Int) (rep : List (List Row)) (s4 : A1) (s6 : B1) : List Int := List.map (fun x => x.fst) (w44 a rep s4 s6)
def w53 (s8 : K1) : List Task := List.map (fun x => x.fst) s8.kn
def w54 (s8 : K1) : Nat := List.length s8.kn
def w55 (a : Int) (rep : List (List Row)) (s4 : A1) (s6 : B1) : Int := (↑(w47 a rep s4 s6).length : Int)
def w56 (a : Int) (rep : List (List Row)) (s4 : A1) (s6 : B1) (s8 : K1) : Bool := decide (s8.k < w55 a rep s4 s6)
def w57 (a : Int) (rep : List (List Row)) (s4 : A1) (s6 : B1) (s8 : K1) : Task := ((rowR0 (w47 a rep s4 s6) s8.k.toNat).fst, (rowR0 (w47 a rep s4 s6) s8.k.toNat).snd.fst)
def w58 (a : Int) (rep : List (List Row)) (s4 : A1) (s6 : B1) (s8 : K1) : Bool := (mget s8.kn (w57 a rep s4 s6 s8)).isSome
def w59 : CTy.txt.den × (RTy.cons (CTy.int IntKind.i64) (RTy.cons (CTy.int IntKind.i64) (RTy.cons (CTy.int IntKind.u8) (RTy.cons (CTy.int IntKind.i64) (RTy.cons (CTy.int IntKind.i64) (RTy.one (CTy.int IntKind.i64))))))).den := ([], (0 : Int), (0 : Int), (0 : Int), (0 : Int), (0 : Int), (0 : Int))
def w60 (a : Int) (rep : List (List Row)) (s4 : A1) (s6 : B1) (s8 : K1) : List AV := [AV.sS ((mget s8.kn (w57 a rep s4 s6 s8)).getD w59).fst, AV.sI IntKind.i64 ((mget s8.kn (w57 a rep s4 s6 s8)).getD w59).snd.fst, AV.sI IntKind.i64 ((mget s8.kn (w57 a rep s4 s6 s8)).getD w59).snd.snd.fst, AV.sI IntKind.u8 ((mget s8.kn (w57 a rep s4 s6 s8)).getD w59).snd.snd.snd.fst, AV.sI IntKind.i64 ((mget s8.kn (w57 a rep s4 s6 s8)).getD w59).snd.snd.snd.snd.fst, AV.sI IntKind.i64 ((mget s8.kn (w57 a rep s4 s6 s8)).getD w59).snd.snd.snd.snd.snd.fst, AV.sI IntKind.i64 ((mget s8.kn (w57 a rep s4 s6 s8)).getD w59).snd.snd.snd.snd.snd.snd]
def w61 (a : Int) (rep : List (List Row)) (s4 : A1) (s6 : B1) (s8 : K1) : List AV := [AV.agg (w60 a rep s4 s6 s8), AV.sB (w58 a rep s4 s6 s8)]
def w62 (a : Int) (rep : List (List Row)) (s4 : A1) (s6 : B1) (s8 : K1) : List AV := [AV.sS (rowR0 (w47 a rep s4 s6) s8.k.toNat).fst, AV.sI IntKind.i64 (rowR0 (w47 a rep s4 s6) s8.k.toNat).snd.fst]
def w63 (a : Int) (most : Int) (rep : List (List Row)) (s4 : A1) (s6 : B1) (s8 : K1) : Int := AM.intOf ((((((((T.nil.node (some (AV.sB (w56 a rep s4 s6 s8))) T.nil).node none T.nil).node none T.nil).node (some (AV.sw (5 : Nat))) T.nil).node none ((((T.nil.node (some (AV.eptr (5 : Nat) s8.k.toNat (0 : Nat))) T.nil).node none T.nil).node none T.nil).node none T.nil)).node none (((((T.nil.node (some (AV.map (3 : Nat))) T.nil).node none T.nil).node none T.nil).node (some (AV.sB (w58 a rep s4 s6 s8))) T.nil).node (some (AV.ptr (2 : Nat) (0 : Nat))) ((((T.nil.node (some (AV.sB (w58 a rep s4 s6 s8))) T.nil).node none T.nil).node none T.nil).node none T.nil))).node (some (AV.sI IntKind.i64 most)) (((T.nil.node (some (AV.sI IntKind.i64 s8.k)) T.nil).node none ((((T.nil.node (some (AV.tup (w61 a rep s4 s6 s8))) T.nil).node none T.nil).node none T.nil).node none T.nil)).node none (((((T.nil.node (some (AV.sI IntKind.i64 s8.k)) T.nil).node none T.nil).node none T.nil).node (some (AV.int IntKind.i64 (0 : Int))) T.nil).node (some (AV.map (3 : Nat))) (T.nil.node none (T.nil.node none (T.nil.node (some (AV.sw (5 : Nat))) T.nil)))))).node (some (AV.sI IntKind.i64 a)) (((T.nil.node none ((((T.nil.node (some (AV.agg (w62 a rep s4 s6 s8))) T.nil).node none T.nil).node none T.nil).node none T.nil)).node none (((((T.nil.node (some (AV.sw (5 : Nat))) T.nil).node none T.nil).node none T.nil).node (some (AV.bool true)) T.nil).node none (T.nil.node none (T.nil.node none (T.nil.node (some (AV.sI IntKind.i64 s8.k)) T.nil))))).node (some (AV.dsl (RTy.one (CTy.sl (RTy.cons CTy.txt (RTy.cons (CTy.int IntKind.i64) (RTy.cons (CTy.int IntKind.i64) (RTy.cons (CTy.int IntKind.u8) (RTy.cons (CTy.int IntKind.i64) (RTy.cons (CTy.int IntKind.i64) (RTy.one (CTy.int IntKind.i64)))))))))) rep)) ((((((T.nil.node (some (AV.tup (w61 a rep s4 s6 s8))) T.nil).node none T.nil).node none T.nil).node (some (AV.ptr (6 : Nat) (0 : Nat))) T.nil).node none ((((T.nil.node (some (AV.agg (w60 a rep s4 s6 s8))) T.nil).node none T.nil).node none T.nil).node none T.nil)).node none (((((T.nil.node (some (AV.eptr (5 : Nat) s8.k.toNat (0 : Nat))) T.nil).node none T.nil).node none T.nil).node none T.nil).node (some (AV.sI IntKind.i64 s4.i)) (T.nil.node none (T.nil.node none (T.nil.node (some (AV.sI IntKind.i64 (w55 a rep s4 s6))) T.nil))))))) (14 : Nat)
def w64 (a : Int) (most : Int) (rep : List (List Row)) (s4 : A1) (s6 : B1) (s8 : K1) : Kn := knOf { t := ((T.nil.node (some (AObj.smap true true (RTy.cons CTy.txt (RTy.one (CTy.int IntKind.i64))) (RTy.cons CTy.txt (RTy.cons (CTy.int IntKind.i64) (RTy.cons (CTy.int IntKind.i64) (RTy.cons (CTy.int IntKind.u8) (RTy.cons (CTy.int IntKind.i64) (RTy.cons (CTy.int IntKind.i64) (RTy.one (CTy.int IntKind.i64)))))))) s8.kn s8.kbs s8.kclk)) T.nil).node (some (AObj.smap false true (RTy.one (CTy.int IntKind.i64)) (RTy.cons (CTy.sl (RTy.cons CTy.txt (RTy.cons (CTy.int IntKind.i64) (RTy.cons (CTy.int IntKind.i64) (RTy.cons (CTy.int IntKind.u8) (RTy.cons (CTy.int IntKind.i64) (RTy.cons (CTy.int IntKind.i64) (RTy.one (CTy.int IntKind.i64))))))))) (RTy.cons CTy.boo (RTy.one (CTy.int IntKind.i64)))) (w44 a rep s4 s6) (w45 a s6) (w46 a s6))) (T.nil.node (some (AObj.seq (RTy.cons CTy.txt (RTy.cons (CTy.int IntKind.i64) (RTy.cons (CTy.int IntKind.i64) (RTy.cons (CTy.int IntKind.u8) (RTy.cons (CTy.int IntKind.i64) (RTy.cons (CTy.int IntKind.i64) (RTy.one (CTy.int IntKind.i64)))))))) (w47 a rep s4 s6) none)) T.nil)).node none ((T.nil.node none T.nil).node (some (AObj.cells false (2 : Nat) (w16 most) (some (71 : Nat)))) (T.nil.node (some (AObj.cells false (7 : Nat) (w60 a rep s4 s6 s8) (some (30 : Nat)))) T.nil)), next := (7 : Nat), d := (64 : Nat) } (AV.map (3 : Nat))
def w65 (a : Int) (most : Int) (rep : List (List Row)) (s4 : A1) (s6 : B1) (s8 : K1) : List Row := seqR { t := ((T.nil.node (some (AObj.smap true true (RTy.cons CTy.txt (RTy.one (CTy.int IntKind.i64))) (RTy.cons CTy.txt (RTy.cons (CTy.int IntKind.i64) (RTy.cons (CTy.int IntKind.i64) (RTy.cons (CTy.int IntKind.u8) (RTy.cons (CTy.int IntKind.i64) (RTy.cons (CTy.int IntKind.i64) (RTy.one (CTy.int IntKind.i64)))))))) s8.kn s8.kbs s8.kclk)) T.nil).node (some (AObj.smap false true (RTy.one (CTy.int IntKind.i64)) (RTy.cons (CTy.sl (RTy.cons CTy.txt (RTy.cons (CTy.int IntKind.i64) (RTy.cons (CTy.int IntKind.i64) (RTy.cons (CTy.int IntKind.u8) (RTy.cons (CTy.int IntKind.i64) (RTy.cons (CTy.int IntKind.i64) (RTy.one (CTy.int IntKind.i64))))))))) (RTy.cons CTy.boo (RTy.one (CTy.int IntKind.i64)))) (w44 a rep s4 s6) (w45 a s6) (w46 a s6))) (T.nil.node (some (AObj.seq (RTy.cons CTy.txt (RTy.cons (CTy.int IntKind.i64) (RTy.cons (CTy.int IntKind.i64) (RTy.cons (CTy.int IntKind.u8) (RTy.cons (CTy.int IntKind.i64) (RTy.cons (CTy.int IntKind.i64) (RTy.one (CTy.int IntKind.i64)))))))) (w47 a rep s4 s6) none)) T.nil)).node none ((T.nil.node none T.nil).node (some (AObj.cells false (2 : Nat) (w16 most) (some (71 : Nat)))) (T.nil.node (some (AObj.cells false (7 : Nat) (w60 a rep s4 s6 s8) (some (30 : Nat)))) T.nil)), next := (7 : Nat), d := (64 : Nat) } (AV.sw (5 : Nat))
def w66 (a : Int) (most : Int) (rep : List (List Row)) (s4 : A1) (s6 : B1) (s8 : K1) : Int := AM.intOf ((((((((T.nil.node (some (AV.sB (w56 a rep s4 s6 s8))) T.nil).node none T.nil).node none T.nil).node (some (AV.sw (5 : Nat))) T.nil).node none ((((T.nil.node (some (AV.eptr (5 : Nat) s8.k.toNat (0 : Nat))) T.nil).node none T.nil).node none T.nil).node none T.nil)).node none (((((T.nil.node (some (AV.map (3 : Nat))) T.nil).node none T.nil).node none T.nil).node (some (AV.sB (w58 a rep s4 s6 s8))) T.nil).node (some (AV.ptr (2 : Nat) (0 : Nat))) ((((T.nil.node (some (AV.sB (w58 a rep s4 s6 s8))) T.nil).node none T.nil).node none T.nil).node none T.nil))).node (some (AV.sI IntKind.i64 most)) (((T.nil.node (some (AV.sI IntKind.i64 s8.k)) T.nil).node none ((((T.nil.node (some (AV.tup (w61 a rep s4 s6 s8))) T.nil).node none T.nil).node none T.nil).node none T.nil)).node none (((((T.nil.node (some (AV.sI IntKind.i64 s8.k)) T.nil).node none T.nil).node none T.nil).node (some (AV.int IntKind.i64 (0 : Int))) T.nil).node (some (AV.map (3 : Nat))) (T.nil.node none (T.nil.node none (T.nil.node (some (AV.sw (5 : Nat))) T.nil)))))).node (some (AV.sI IntKind.i64 a)) (((T.nil.node none ((((T.nil.node (some (AV.agg (w62 a rep s4 s6 s8))) T.nil).node none T.nil).node none T.nil).node none T.nil)).node none (((((T.nil.node (some (AV.sw (5 : Nat))) T.nil).node none T.nil).node none T.nil).node (some (AV.bool true)) T.nil).node none (T.nil.node none (T.nil.node none (T.nil.node (some (AV.sI IntKind.i64 s8.k)) T.nil))))).node (some (AV.dsl (RTy.one (CTy.sl (RTy.cons CTy.txt (RTy.cons (CTy.int IntKind.i64) (RTy.cons (CTy.int IntKind.i64) (RTy.cons (CTy.int IntKind.u8) (RTy.cons (CTy.int IntKind.i64) (RTy.cons (CTy.int IntKind.i64) (RTy.one (CTy.int IntKind.i64)))))))))) rep)) ((((((T.nil.node (some (AV.tup (w61 a rep s4 s6 s8))) T.nil).node none T.nil).node none T.nil).node (some (AV.ptr (6 : Nat) (0 : Nat))) T.nil).node none ((((T.nil.node (some (AV.agg (w60 a rep s4 s6 s8))) T.nil).node none T.nil).node none T.nil).node none T.nil)).node none (((((T.nil.node (some (AV.eptr (5 : Nat) s8.k.toNat (0 : Nat))) T.nil).node none T.nil).node none T.nil).node none T.nil).node (some (AV.sI IntKind.i64 s4.i)) (T.nil.node none (T.nil.node none (T.nil.node (some (AV.sI IntKind.i64 (w55 a rep s4 s6))) T.nil))))))) (17 : Nat)
def w67 (s8 : K1) : List (Task × Row) := s8.kn
def w68 (rep : List (List Row)) (s4 : A1) (s9 : G1) : Bool := decide (s9.m < w33 rep s4)
def w69 (a : Int) (rep : List (List Row)) (s4 : A1) (s6 : B1) (s8 : K1) : Bool := !w58 a rep s4 s6 s8
def w70 (a : Int) (rep : List (List Row)) (s4 : A1) (s6 : B1) (s8 : K1) : Bool := decide ((rowR0 (w47 a rep s4 s6) s8.k.toNat).snd.snd.snd.fst ≠ (0 : Int))
def w71 (a : Int) (rep : List (List Row)) (s4 : A1) (s6 : B1) (s8 : K1) : Bool := !(decide ((rowR0 (w47 a rep s4 s6) s8.k.toNat).snd.snd.snd.snd.fst = (0 : Int)) && (decide ((rowR0 (w47 a rep s4 s6) s8.k.toNat).snd.snd.snd.snd.snd.fst = (0 : Int)) && decide ((rowR0 (w47 a rep s4 s6) s8.k.toNat).snd.snd.snd.snd.snd.snd = (0 : Int))))
def w72 (a : Int) (rep : List (List Row)) (s4 : A1) (s6 : B1) (s8 : K1) : Bool := w69 a rep s4 s6 s8 || (w70 a rep s4 s6 s8 || (w71 a rep s4 s6 s8 || decide ((rowR0 (w47 a rep s4 s6) s8.k.toNat).snd.snd.fst ≠ ((mget s8.kn (w57 a rep s4 s6 s8)).getD w59).snd.snd.fst)))
def w73 (a : Int) (rep : List (List Row)) (s4 : A1) (s6 : B1) (s8 : K1) : Bool := !w72 a rep s4 s6 s8
def w74 (a : Int) (most : Int) (rep : List (List Row)) (s4 : A1) (s6 : B1) : Int := (↑(w49 a most rep s4 s6).length : Int)
def w75 (s8 : K1) : Int := (↑(w54 s8) : Int)
def w76 (rep : List (List Row)) (s4 : A1) (s8 : K1) : Bool := decide (w75 s8 ≠ w33 rep s4)
def w77 (a : Int) (most : Int) (rep : List (List Row)) (s4 : A1) (s6 : B1) (s8 : K1) : Int := AM.intOf ((((((((T.nil.node (some (AV.sB (w56 a rep s4 s6 s8))) T.nil).node none T.nil).node none (T.nil.node none (T.nil.node (some (AV.dsl (RTy.cons CTy.txt (RTy.cons (CTy.int IntKind.i64) (RTy.cons (CTy.int IntKind.i64) (RTy.cons (CTy.int IntKind.u8) (RTy.cons (CTy.int IntKind.i64) (RTy.cons (CTy.int IntKind.i64) (RTy.one (CTy.int IntKind.i64)))))))) (rowL rep s4.i.toNat))) T.nil))).node (some (AV.sw (5 : Nat))) T.nil).node none T.nil).node none (T.nil.node (some (AV.ptr (2 : Nat) (0 : Nat))) (T.nil.node none ((T.nil.node none (T.nil.node (some (AV.sI IntKind.i64 (w75 s8))) T.nil)).node none T.nil)))).node (some (AV.sI IntKind.i64 most)) ((((T.nil.node none (T.nil.node none (T.nil.node (some (AV.sB (w76 rep s4 s8))) T.nil))).node (some (AV.sI IntKind.i64 s8.k)) T.nil).node none T.nil).node none (T.nil.node (some (AV.map (3 : Nat))) (T.nil.node none ((T.nil.node none (T.nil.node (some (AV.sI IntKind.i64 s4.i)) T.nil)).node none (T.nil.node (some (AV.sw (5 : Nat))) T.nil)))))).node (some (AV.sI IntKind.i64 a)) (((((T.nil.node none (T.nil.node none (T.nil.node (some (AV.sI IntKind.i64 (w33 rep s4))) T.nil))).node none T.nil).node none T.nil).node none (T.nil.node none (T.nil.node none ((T.nil.node none (T.nil.node (some (AV.dsl (RTy.one (CTy.sl (RTy.cons CTy.txt (RTy.cons (CTy.int IntKind.i64) (RTy.cons (CTy.int IntKind.i64) (RTy.cons (CTy.int IntKind.u8) (RTy.cons (CTy.int IntKind.i64) (RTy.cons (CTy.int IntKind.i64) (RTy.one (CTy.int IntKind.i64)))))))))) rep)) T.nil)).node none (T.nil.node (some (AV.sI IntKind.i64 s8.k)) T.nil))))).node (some (AV.dsl (RTy.one (CTy.sl (RTy.cons CTy.txt (RTy.cons (CTy.int IntKind.i64) (RTy.cons (CTy.int IntKind.i64) (RTy.cons (CTy.int IntKind.u8) (RTy.cons (CTy.int IntKind.i64) (RTy.cons (CTy.int IntKind.i64) (RTy.one (CTy.int IntKind.i64)))))))))) rep)) ((T.nil.node none (T.nil.node none ((T.nil.node none (T.nil.node (some (AV.map (3 : Nat))) T.nil)).node none T.nil))).node none ((T.nil.node (some (AV.int IntKind.i64 (0 : Int))) T.nil).node (some (AV.sI IntKind.i64 s4.i)) (T.nil.node none ((T.nil.node none (T.nil.node (some (AV.dptr (RTy.one (CTy.sl (RTy.cons CTy.txt (RTy.cons (CTy.int IntKind.i64) (RTy.cons (CTy.int IntKind.i64) (RTy.cons (CTy.int IntKind.u8) (RTy.cons (CTy.int IntKind.i64) (RTy.cons (CTy.int IntKind.i64) (RTy.one (CTy.int IntKind.i64)))))))))) (rowL rep s4.i.toNat) (0 : Nat))) T.nil)).node none (T.nil.node (some (AV.sI IntKind.i64 (w55 a rep s4 s6))) T.nil))))))) (14 : Nat)
def w78 (a : Int) (most : Int) (rep : List (List Row)) (s4 : A1) (s6 : B1) (s8 : K1) : Kn := knOf { t := ((T.nil.node (some (AObj.smap true true (RTy.cons CTy.txt (RTy.one (CTy.int IntKind.i64))) (RTy.cons CTy.txt (RTy.cons (CTy.int IntKind.i64) (RTy.cons (CTy.int IntKind.i64) (RTy.cons (CTy.int IntKind.u8) (RTy.cons (CTy.int IntKind.i64) (RTy.cons (CTy.int IntKind.i64) (RTy.one (CTy.int IntKind.i64)))))))) s8.kn s8.kbs s8.kclk)) T.nil).node (some (AObj.smap false true (RTy.one (CTy.int IntKind.i64)) (RTy.cons (CTy.sl (RTy.cons CTy.txt (RTy.cons (CTy.int IntKind.i64) (RTy.cons (CTy.int IntKind.i64) (RTy.cons (CTy.int IntKind.u8) (RTy.cons (CTy.int IntKind.i64) (RTy.cons (CTy.int IntKind.i64) (RTy.one (CTy.int IntKind.i64))))))))) (RTy.cons CTy.boo (RTy.one (CTy.int IntKind.i64)))) (w44 a rep s4 s6) (w45 a s6) (w46 a s6))) (T.nil.node (some (AObj.seq (RTy.cons CTy.txt (RTy.cons (CTy.int IntKind.i64) (RTy.cons (CTy.int IntKind.i64) (RTy.cons (CTy.int IntKind.u8) (RTy.cons (CTy.int IntKind.i64) (RTy.cons (CTy.int IntKind.i64) (RTy.one (CTy.int IntKind.i64)))))))) (w47 a rep s4 s6) none)) T.nil)).node none ((T.nil.node none T.nil).node (some (AObj.cells false (2 : Nat) (w16 most) (some (71 : Nat)))) T.nil), next := (6 : Nat) } (AV.map (3 : Nat))
def w79 (rep : List (List Row)) (s4 : A1) (s10 : X1) : Bool := decide (s10.i < w33 rep s4)
def w80 (rep : List (List Row)) (s4 : A1) (s10 : X1) : Task := ((rowR0 (rowL rep s4.i.toNat) s10.i.toNat).fst, (rowR0 (rowL rep s4.i.toNat) s10.i.toNat).snd.fst)
def w81 (rep : List (List Row)) (s4 : A1) (s8 : K1) (s10 : X1) : Bool := !(decide (((mget s8.kn (w80 rep s4 s10)).getD w59).fst = (rowR0 (rowL rep s4.i.toNat) s10.i.toNat).fst) && decide (((mget s8.kn (w80 rep s4 s10)).getD w59).snd.fst = (rowR0 (rowL rep s4.i.toNat) s10.i.toNat).snd.fst) && (decide (((mget s8.kn (w80 rep s4 s10)).getD w59).snd.snd.fst = (rowR0 (rowL rep s4.i.toNat) s10.i.toNat).snd.snd.fst) && (decide (((mget s8.kn (w80 rep s4 s10)).getD w59).snd.snd.snd.fst = (rowR0 (rowL rep s4.i.toNat) s10.i.toNat).snd.snd.snd.fst) && (decide (((mget s8.kn (w80 rep s4 s10)).getD w59).snd.snd.snd.snd.fst = (rowR0 (rowL rep s4.i.toNat) s10.i.toNat).snd.snd.snd.snd.fst) && (decide (((mget s8.kn (w80 rep s4 s10)).getD w59).snd.snd.snd.snd.snd.fst = (rowR0 (rowL rep s4.i.toNat) s10.i.toNat).snd.snd.snd.snd.snd.fst) && decide (((mget s8.kn (w80 rep s4 s10)).getD w59).snd.snd.snd.snd.snd.snd = (rowR0 (rowL rep s4.i.toNat) s10.i.toNat).snd.snd.snd.snd.snd.snd))))))
def w82 (a : Int) (rep : List (List Row)) (s4 : A1) (s6 : B1) : List Row := oldOf (w44 a rep s4 s6) a
def w83 (a : Int) (rep : List (List Row)) (s4 : A1) (s6 : B1) : Bool := (mget (w44 a rep s4 s6) a).isSome
def w84 (a : Int) (rep : List (List Row)) (s4 : A1) (s6 : B1) : List Row := chg (w82 a rep s4 s6) (w27 rep s4)
def w85 (a : Int) (rep : List (List Row)) (s4 : A1) (s6 : B1) : Bool := decide ((↑(w84 a rep s4 s6).length : Int) ≠ (0 : Int))
def w86 (most : Int) : Bool := decide ((2 : Int) ≤ most)
def w87 (a : Int) (rep : List (List Row)) (s4 : A1) (s6 : B1) : Mp := mP (w44 a rep s4 s6) a (w27 rep s4)
def w88 (a : Int) (rep : List (List Row)) (s4 : A1) (s6 : B1) : List Nat := bP (w44 a rep s4 s6) (w45 a s6) (w46 a s6) a
def w89 (a : Int) (rep : List (List Row)) (s4 : A1) (s6 : B1) : Nat := cP (w44 a rep s4 s6) (w46 a s6) a
def w90 (a : Int) (rep : List (List Row)) (s4 : A1) (s6 : B1) : List Int := machs (w87 a rep s4 s6)
def w91 : List AV := [AV.ptr (2 : Nat) (0 : Nat)]
def w92 (a : Int) (most : Int) (rep : List (List Row)) (s4 : A1) (s6 : B1) (s8 : K1) : Mp := mOf { t := (((T.nil.node (some (AObj.seq (RTy.cons CTy.txt (RTy.cons (CTy.int IntKind.i64) (RTy.cons (CTy.int IntKind.i64) (RTy.cons (CTy.int IntKind.u8) (RTy.cons (CTy.int IntKind.i64) (RTy.cons (CTy.int IntKind.i64) (RTy.one (CTy.int IntKind.i64)))))))) (w84 a rep s4 s6) none)) T.nil).node (some (AObj.smap true true (RTy.cons CTy.txt (RTy.one (CTy.int IntKind.i64))) (RTy.cons CTy.txt (RTy.cons (CTy.int IntKind.i64) (RTy.cons (CTy.int IntKind.i64) (RTy.cons (CTy.int IntKind.u8) (RTy.cons (CTy.int IntKind.i64) (RTy.cons (CTy.int IntKind.i64) (RTy.one (CTy.int IntKind.i64)))))))) s8.kn s8.kbs s8.kclk)) T.nil).node (some (AObj.smap false true (RTy.one (CTy.int IntKind.i64)) (RTy.cons (CTy.sl (RTy.cons CTy.txt (RTy.cons (CTy.int IntKind.i64) (RTy.cons (CTy.int IntKind.i64) (RTy.cons (CTy.int IntKind.u8) (RTy.cons (CTy.int IntKind.i64) (RTy.cons (CTy.int IntKind.i64) (RTy.one (CTy.int IntKind.i64))))))))) (RTy.cons CTy.boo (RTy.one (CTy.int IntKind.i64)))) (w87 a rep s4 s6) (w88 a rep s4 s6) (w89 a rep s4 s6))) ((T.nil.node (some (AObj.seq (RTy.one (CTy.int IntKind.i64)) (w90 a rep s4 s6) none)) T.nil).node (some (AObj.seq (RTy.cons CTy.txt (RTy.cons (CTy.int IntKind.i64) (RTy.cons (CTy.int IntKind.i64) (RTy.cons (CTy.int IntKind.u8) (RTy.cons (CTy.int IntKind.i64) (RTy.cons (CTy.int IntKind.i64) (RTy.one (CTy.int IntKind.i64)))))))) (w47 a rep s4 s6) none)) T.nil)).node none (((T.nil.node (some (AObj.cells false (1 : Nat) w91 (some (31 : Nat)))) T.nil).node none T.nil).node (some (AObj.cells false (2 : Nat) (w16 most) (some (71 : Nat)))) (T.nil.node none T.nil)), next := (10 : Nat), d := (962 : Nat) } (1 : Nat)
def w93 (a : Int) (most : Int) (rep : List (List Row)) (s4 : A1) (s6 : B1) (s8 : K1) : List Int := seqI { t := (((T.nil.node (some (AObj.seq (RTy.cons CTy.txt (RTy.cons (CTy.int IntKind.i64) (RTy.cons (CTy.int IntKind.i64) (RTy.cons (CTy.int IntKind.u8) (RTy.cons (CTy.int IntKind.i64) (RTy.cons (CTy.int IntKind.i64) (RTy.one (CTy.int IntKind.i64)))))))) (w84 a rep s4 s6) none)) T.nil).node (some (AObj.smap true true (RTy.cons CTy.txt (RTy.one (CTy.int IntKind.i64))) (RTy.cons CTy.txt (RTy.cons (CTy.int IntKind.i64) (RTy.cons (CTy.int IntKind.i64) (RTy.cons (CTy.int IntKind.u8) (RTy.cons (CTy.int IntKind.i64) (RTy.cons (CTy.int IntKind.i64) (RTy.one (CTy.int IntKind.i64)))))))) s8.kn s8.kbs s8.kclk)) T.nil).node (some (AObj.smap false true (RTy.one (CTy.int IntKind.i64)) (RTy.cons (CTy.sl (RTy.cons CTy.txt (RTy.cons (CTy.int IntKind.i64) (RTy.cons (CTy.int IntKind.i64) (RTy.cons (CTy.int IntKind.u8) (RTy.cons (CTy.int IntKind.i64) (RTy.cons (CTy.int IntKind.i64) (RTy.one (CTy.int IntKind.i64))))))))) (RTy.cons CTy.boo (RTy.one (CTy.int IntKind.i64)))) (w87 a rep s4 s6) (w88 a rep s4 s6) (w89 a rep s4 s6))) ((T.nil.node (some (AObj.seq (RTy.one (CTy.int IntKind.i64)) (w90 a rep s4 s6) none)) T.nil).node (some (AObj.seq (RTy.cons CTy.txt (RTy.cons (CTy.int IntKind.i64) (RTy.cons (CTy.int IntKind.i64) (RTy.cons (CTy.int IntKind.u8) (RTy.cons (CTy.int IntKind.i64) (RTy.cons (CTy.int IntKind.i64) (RTy.one (CTy.int IntKind.i64)))))))) (w47 a rep s4 s6) none)) T.nil)).node none (((T.nil.node (some (AObj.cells false (1 : Nat) w91 (some (31 : Nat)))) T.nil).node none T.nil).node (some (AObj.cells false (2 : Nat) (w16 most) (some (71 : Nat)))) (T.nil.node none T.nil)), next := (10 : Nat), d := (962 : Nat) } (AV.sw (9 : Nat))
def w94 (a : Int) (rep : List (List Row)) (s4 : A1) (s6 : B1) : Int := (↑(w90 a rep s4 s6).length : Int)
def w95 (a : Int) (rep : List (List Row)) (s4 : A1) (s6 : B1) : List (Int × Seen) := (w87 a rep s4 s6)
def w96 (a : Int) (rep : List (List Row)) (s4 : A1) (s6 : B1) : List Row := (w84 a rep s4 s6)
def w97 (a : Int) (rep : List (List Row)) (s4 : A1) (s6 : B1) : List Int := (w90 a rep s4 s6)
def w98 (a : Int) (rep : List (List Row)) (s4 : A1) (s6 : B1) : List Int := List.map (fun x => x.fst) (w87 a rep s4 s6)
def w99 (a : Int) (rep : List (List Row)) (s4 : A1) (s6 : B1) (s11 : X1) : Bool := decide (s11.i < w94 a rep s4 s6)
def w100 (a : Int) (most : Int) (rep : List (List Row)) (s4 : A1) (s6 : B1) (s11 : X1) : Bool := decide (((mget (w87 a rep s4 s6) (rowI (w90 a rep s4 s6) s11.i.toNat)).getD w12).snd.snd < most)
def w101 (s11 : X1) : Bool := decide (s11.i = (-1 : Int))
def w102 (a : Int) (rep : List (List Row)) (s4 : A1) (s6 : B1) : Bool := decide (w94 a rep s4 s6 ≠ (0 : Int))
def w103 (a : Int) (most : Int) (rep : List (List Row)) (s4 : A1) (s6 : B1) (s8 : K1) : Mp := mOf { t := (((T.nil.node (some (AObj.seq (RTy.cons CTy.txt (RTy.cons (CTy.int IntKind.i64) (RTy.cons (CTy.int IntKind.i64) (RTy.cons (CTy.int IntKind.u8) (RTy.cons (CTy.int IntKind.i64) (RTy.cons (CTy.int IntKind.i64) (RTy.one (CTy.int IntKind.i64)))))))) (w84 a rep s4 s6) none)) T.nil).node (some (AObj.smap true true (RTy.cons CTy.txt (RTy.one (CTy.int IntKind.i64))) (RTy.cons CTy.txt (RTy.cons (CTy.int IntKind.i64) (RTy.cons (CTy.int IntKind.i64) (RTy.cons (CTy.int IntKind.u8) (RTy.cons (CTy.int IntKind.i64) (RTy.cons (CTy.int IntKind.i64) (RTy.one (CTy.int IntKind.i64)))))))) s8.kn s8.kbs s8.kclk)) T.nil).node (some (AObj.smap false true (RTy.one (CTy.int IntKind.i64)) (RTy.cons (CTy.sl (RTy.cons CTy.txt (RTy.cons (CTy.int IntKind.i64) (RTy.cons (CTy.int IntKind.i64) (RTy.cons (CTy.int IntKind.u8) (RTy.cons (CTy.int IntKind.i64) (RTy.cons (CTy.int IntKind.i64) (RTy.one (CTy.int IntKind.i64))))))))) (RTy.cons CTy.boo (RTy.one (CTy.int IntKind.i64)))) (w87 a rep s4 s6) (w88 a rep s4 s6) (w89 a rep s4 s6))) ((T.nil.node (some (AObj.seq (RTy.one (CTy.int IntKind.i64)) (w90 a rep s4 s6) none)) T.nil).node (some (AObj.seq (RTy.cons CTy.txt (RTy.cons (CTy.int IntKind.i64) (RTy.cons (CTy.int IntKind.i64) (RTy.cons (CTy.int IntKind.u8) (RTy.cons (CTy.int IntKind.i64) (RTy.cons (CTy.int IntKind.i64) (RTy.one (CTy.int IntKind.i64)))))))) (w47 a rep s4 s6) none)) T.nil)).node none (((T.nil.node (some (AObj.cells false (1 : Nat) w91 (some (31 : Nat)))) T.nil).node none T.nil).node (some (AObj.cells false (2 : Nat) (w16 most) (some (71 : Nat)))) (T.nil.node none T.nil)), next := (10 : Nat) } (1 : Nat)
def w104 (a : Int) (most : Int) (rep : List (List Row)) (s4 : A1) (s6 : B1) (s8 : K1) : List Int := seqI { t := (((T.nil.node (some (AObj.seq (RTy.cons CTy.txt (RTy.cons (CTy.int IntKind.i64) (RTy.cons (CTy.int IntKind.i64) (RTy.cons (CTy.int IntKind.u8) (RTy.cons (CTy.int IntKind.i64) (RTy.cons (CTy.int IntKind.i64) (RTy.one (CTy.int IntKind.i64)))))))) (w84 a rep s4 s6) none)) T.nil).node (some (AObj.smap true true (RTy.cons CTy.txt (RTy.one (CTy.int IntKind.i64))) (RTy.cons CTy.txt (RTy.cons (CTy.int IntKind.i64) (RTy.cons (CTy.int IntKind.i64) (RTy.cons (CTy.int IntKind.u8) (RTy.cons (CTy.int IntKind.i64) (RTy.cons (CTy.int IntKind.i64) (RTy.one (CTy.int IntKind.i64)))))))) s8.kn s8.kbs s8.kclk)) T.nil).node (some (AObj.smap false true (RTy.one (CTy.int IntKind.i64)) (RTy.cons (CTy.sl (RTy.cons CTy.txt (RTy.cons (CTy.int IntKind.i64) (RTy.cons (CTy.int IntKind.i64) (RTy.cons (CTy.int IntKind.u8) (RTy.cons (CTy.int IntKind.i64) (RTy.cons (CTy.int IntKind.i64) (RTy.one (CTy.int IntKind.i64))))))))) (RTy.cons CTy.boo (RTy.one (CTy.int IntKind.i64)))) (w87 a rep s4 s6) (w88 a rep s4 s6) (w89 a rep s4 s6))) ((T.nil.node (some (AObj.seq (RTy.one (CTy.int IntKind.i64)) (w90 a rep s4 s6) none)) T.nil).node (some (AObj.seq (RTy.cons CTy.txt (RTy.cons (CTy.int IntKind.i64) (RTy.cons (CTy.int IntKind.i64) (RTy.cons (CTy.int IntKind.u8) (RTy.cons (CTy.int IntKind.i64) (RTy.cons (CTy.int IntKind.i64) (RTy.one (CTy.int IntKind.i64)))))))) (w47 a rep s4 s6) none)) T.nil)).node none (((T.nil.node (some (AObj.cells false (1 : Nat) w91 (some (31 : Nat)))) T.nil).node none T.nil).node (some (AObj.cells false (2 : Nat) (w16 most) (some (71 : Nat)))) (T.nil.node none T.nil)), next := (10 : Nat) } (AV.sw (9 : Nat))
def w105 (s11 : X1) : Int := IntKind.i64.wrap (s11.i + (1 : Int))
def w106 (s12 : D1) : Nat := s12.rows.length
def w107 (s12 : D1) : Int := (↑(w106 s12) : Int)
def w108 (s12 : D1) : Bool := decide (s12.j < w107 s12)
def w109 (a : Int) (most : Int) (rep : List (List Row)) (s4 : A1) (s6 : B1) (s12 : D1) : Bool := !decide (((mget (w87 a rep s4 s6) (rowI s12.rows s12.j.toNat)).getD w12).snd.snd < most)
def w110 (a : Int) (most : Int) (rep : List (List Row)) (s4 : A1) (s6 : B1) (s8 : K1) : Int := (↑(w104 a most rep s4 s6 s8).length : Int)
def w111 (s12 : D1) : Nat := loT (some s12.i)
def w112 (s12 : D1) : Nat := hiT (w106 s12) none - w111 s12
def w113 (s12 : D1) : Nat := (List.take (w111 s12) s12.rows ++ (List.replicate (w112 s12) (0 : Int) ++ List.drop (w111 s12 + w112 s12) s12.rows)).length
def w114 (s12 : D1) : Bool := decide ((↑(hiT (w113 s12) (some s12.i) - (0 : Nat)) : Int) ≠ (0 : Int))
def w115 (a : Int) (most : Int) (rep : List (List Row)) (s4 : A1) (s6 : B1) (s8 : K1) : Int := (↑(w93 a most rep s4 s6 s8).length : Int)
def part0 (s4 : A1) : Prop := ∀ (p2 : Task × Row), p2 ∈ s4.kn →
 (RTy.cons CTy.txt (RTy.one (CTy.int IntKind.i64))).Has p2.fst ∧
 (RTy.cons CTy.txt (RTy.cons (CTy.int IntKind.i64) (RTy.cons (CTy.int IntKind.i64) (RTy.cons (CTy.int IntKind.u8) (RTy.cons (CTy.int IntKind.i64) (RTy.cons (CTy.int IntKind.i64) (RTy.one (CTy.int IntKind.i64)))))))).Has p2.snd
def part1 (most : Int) (s4 : A1) : Prop := most = most ∧
 w20 s4 = s4.kn ∧
 s4.kbs = s4.kbs ∧
 s4.kclk = s4.kclk ∧
 (machs s4.m) = machs s4.m
def part2 (most : Int) (s4 : A1) : Prop := most = most ∧
 w20 s4 = s4.kn ∧
 s4.kbs = s4.kbs ∧
 s4.kclk = s4.kclk
def part3 (s6 : B1) : Prop := ∀ (p4 : Int × Seen), p4 ∈ s6.m →
 (RTy.one (CTy.int IntKind.i64)).Has p4.fst ∧
 (RTy.cons (CTy.sl (RTy.cons CTy.txt (RTy.cons (CTy.int IntKind.i64) (RTy.cons (CTy.int IntKind.i64) (RTy.cons (CTy.int IntKind.u8) (RTy.cons (CTy.int IntKind.i64) (RTy.cons (CTy.int IntKind.i64) (RTy.one (CTy.int IntKind.i64))))))))) (RTy.cons CTy.boo (RTy.one (CTy.int IntKind.i64)))).Has p4.snd
def part4 (rep : List (List Row)) (s4 : A1) : Prop := w28 rep s4 * (64 : Nat) ≤ (140737488355328 : Nat) ∧
 w28 rep s4 ≤ (4611686018427387904 : Nat)
def part5 (most : Int) (rep : List (List Row)) (s4 : A1) (s6 : B1) : Prop := w26 rep s4 = rowL rep s4.i.toNat ∧
 w32 s6 = s6.m ∧
 s6.bs = s6.bs ∧
 s6.clk = s6.clk ∧
 part2 most s4
def part6 (a : Int) (most : Int) (rep : List (List Row)) (iv : Invs) (s4 : A1) (s6 : B1) : Prop := ∃ s'6, iv.5 s'6 ∧
 (w2 rep - s'6.i).toNat < w38 rep s4 ∧
 w39 s4 = s'6.i ∧
 a = a ∧
 most = most ∧
 rep = rep ∧
 w32 s6 = s'6.m ∧
 s6.bs = s'6.bs ∧
 s6.clk = s'6.clk ∧
 most = most ∧
 w20 s4 = s'6.kn ∧
 s4.kbs = s'6.kbs ∧
 s4.kclk = s'6.kclk
def part7 (rep : List (List Row)) (s4 : A1) : Prop := (∀ (j : Nat), (1 : Nat) ≤ j →
 j < w29 rep s4 →
 ordR (rowR0 (w27 rep s4) (j - (1 : Nat))) (rowR0 (w27 rep s4) j) < (0 : Int)) ∧
 w29 rep s4 ≤ (256 : Nat)
def part8 (a : Int) (rep : List (List Row)) (s4 : A1) (s6 : B1) : Prop := ∀ (p5 : Int × Seen), p5 ∈ w44 a rep s4 s6 →
 (RTy.one (CTy.int IntKind.i64)).Has p5.fst ∧
 (RTy.cons (CTy.sl (RTy.cons CTy.txt (RTy.cons (CTy.int IntKind.i64) (RTy.cons (CTy.int IntKind.i64) (RTy.cons (CTy.int IntKind.u8) (RTy.cons (CTy.int IntKind.i64) (RTy.cons (CTy.int IntKind.i64) (RTy.one (CTy.int IntKind.i64))))))))) (RTy.cons CTy.boo (RTy.one (CTy.int IntKind.i64)))).Has p5.snd
def part9 (a : Int) (rep : List (List Row)) (s4 : A1) (s6 : B1) : Prop := (w45 a s6).length = List.length (w44 a rep s4 s6) ∧
 (w45 a s6).Nodup ∧
 ∀ (b5 : Nat), b5 ∈ w45 a s6 →
 b5 < w46 a s6
def part10 (s8 : K1) : Prop := ∀ (p6 : Task × Row), p6 ∈ s8.kn →
 (RTy.cons CTy.txt (RTy.one (CTy.int IntKind.i64))).Has p6.fst ∧
 (RTy.cons CTy.txt (RTy.cons (CTy.int IntKind.i64) (RTy.cons (CTy.int IntKind.i64) (RTy.cons (CTy.int IntKind.u8) (RTy.cons (CTy.int IntKind.i64) (RTy.cons (CTy.int IntKind.i64) (RTy.one (CTy.int IntKind.i64)))))))).Has p6.snd
def part11 (a : Int) (rep : List (List Row)) (s4 : A1) (s6 : B1) : Prop := ∀ (row1 : Row), row1 ∈ w47 a rep s4 s6 →
 (RTy.cons CTy.txt (RTy.cons (CTy.int IntKind.i64) (RTy.cons (CTy.int IntKind.i64) (RTy.cons (CTy.int IntKind.u8) (RTy.cons (CTy.int IntKind.i64) (RTy.cons (CTy.int IntKind.i64) (RTy.one (CTy.int IntKind.i64)))))))).Has row1
def part12 (a : Int) (rep : List (List Row)) (s4 : A1) (s6 : B1) (s8 : K1) : Prop := (0 : Int) ≤ s8.k ∧
 s8.k < w55 a rep s4 s6
def part13 (a : Int) (most : Int) (rep : List (List Row)) (s4 : A1) (s6 : B1) (s8 : K1) : Prop := a = a ∧
 most = most ∧
 rep = rep ∧
 s4.i = s4.i ∧
 s8.k = s8.k ∧
 w58 a rep s4 s6 s8 = w58 a rep s4 s6 s8 ∧
 w50 a rep s4 s6 = w44 a rep s4 s6 ∧
 w45 a s6 = w45 a s6 ∧
 w46 a s6 = w46 a s6 ∧
 most = most ∧
 w67 s8 = s8.kn ∧
 s8.kbs = s8.kbs ∧
 s8.kclk = s8.kclk ∧
 w51 a rep s4 s6 = w47 a rep s4 s6 ∧
 ((mget s8.kn (w57 a rep s4 s6 s8)).getD w59).fst = ((mget s8.kn (w57 a rep s4 s6 s8)).getD w59).fst ∧
 ((mget s8.kn (w57 a rep s4 s6 s8)).getD w59).snd.fst = ((mget s8.kn (w57 a rep s4 s6 s8)).getD w59).snd.fst ∧
 ((mget s8.kn (w57 a rep s4 s6 s8)).getD w59).snd.snd.fst = ((mget s8.kn (w57 a rep s4 s6 s8)).getD w59).snd.snd.fst ∧
 ((mget s8.kn (w57 a rep s4 s6 s8)).getD w59).snd.snd.snd.fst = ((mget s8.kn (w57 a rep s4 s6 s8)).getD w59).snd.snd.snd.fst ∧
 ((mget s8.kn (w57 a rep s4 s6 s8)).getD w59).snd.snd.snd.snd.fst = ((mget s8.kn (w57 a rep s4 s6 s8)).getD w59).snd.snd.snd.snd.fst ∧
 ((mget s8.kn (w57 a rep s4 s6 s8)).getD w59).snd.snd.snd.snd.snd.fst = ((mget s8.kn (w57 a rep s4 s6 s8)).getD w59).snd.snd.snd.snd.snd.fst ∧
 ((mget s8.kn (w57 a rep s4 s6 s8)).getD w59).snd.snd.snd.snd.snd.snd = ((mget s8.kn (w57 a rep s4 s6 s8)).getD w59).snd.snd.snd.snd.snd.snd
def part14 (a : Int) (rep : List (List Row)) (s4 : A1) (s6 : B1) (s8 : K1) : Prop := part12 a rep s4 s6 s8 ∧
 part12 a rep s4 s6 s8
def part15 (a : Int) (most : Int) (rep : List (List Row)) (s4 : A1) (s6 : B1) (s8 : K1) : Prop := a = a ∧
 most = most ∧
 rep = rep ∧
 s4.i = s4.i ∧
 w50 a rep s4 s6 = w44 a rep s4 s6 ∧
 w45 a s6 = w45 a s6 ∧
 w46 a s6 = w46 a s6 ∧
 most = most ∧
 w67 s8 = s8.kn ∧
 s8.kbs = s8.kbs ∧
 s8.kclk = s8.kclk ∧
 w51 a rep s4 s6 = w47 a rep s4 s6
def part16 (a : Int) (most : Int) (rep : List (List Row)) (s4 : A1) (s6 : B1) (s8 : K1) : Prop := w94 a rep s4 s6 = w94 a rep s4 s6 ∧
 w95 a rep s4 s6 = w87 a rep s4 s6 ∧
 w88 a rep s4 s6 = w88 a rep s4 s6 ∧
 w89 a rep s4 s6 = w89 a rep s4 s6 ∧
 most = most ∧
 w67 s8 = s8.kn ∧
 s8.kbs = s8.kbs ∧
 s8.kclk = s8.kclk ∧
 w51 a rep s4 s6 = w47 a rep s4 s6 ∧
 w96 a rep s4 s6 = w84 a rep s4 s6 ∧
 w97 a rep s4 s6 = w90 a rep s4 s6
def part17 (a : Int) (rep : List (List Row)) (s4 : A1) (s6 : B1) : Prop := ∀ (p7 : Int × Seen), p7 ∈ w87 a rep s4 s6 →
 (RTy.one (CTy.int IntKind.i64)).Has p7.fst ∧
 (RTy.cons (CTy.sl (RTy.cons CTy.txt (RTy.cons (CTy.int IntKind.i64) (RTy.cons (CTy.int IntKind.i64) (RTy.cons (CTy.int IntKind.u8) (RTy.cons (CTy.int IntKind.i64) (RTy.cons (CTy.int IntKind.i64) (RTy.one (CTy.int IntKind.i64))))))))) (RTy.cons CTy.boo (RTy.one (CTy.int IntKind.i64)))).Has p7.snd
def part18 (a : Int) (rep : List (List Row)) (s4 : A1) (s6 : B1) : Prop := (w88 a rep s4 s6).length = List.length (w87 a rep s4 s6) ∧
 (w88 a rep s4 s6).Nodup ∧
 ∀ (b7 : Nat), b7 ∈ w88 a rep s4 s6 →
 b7 < w89 a rep s4 s6
def part19 (a : Int) (rep : List (List Row)) (s4 : A1) (s6 : B1) : Prop := ∀ (row2 : Row), row2 ∈ w84 a rep s4 s6 →
 (RTy.cons CTy.txt (RTy.cons (CTy.int IntKind.i64) (RTy.cons (CTy.int IntKind.i64) (RTy.cons (CTy.int IntKind.u8) (RTy.cons (CTy.int IntKind.i64) (RTy.cons (CTy.int IntKind.i64) (RTy.one (CTy.int IntKind.i64)))))))).Has row2
def part20 (a : Int) (most : Int) (rep : List (List Row)) (iv : Invs) (s4 : A1) (s6 : B1) (s8 : K1) : Prop := ∃ s'11, iv.5 s'11 ∧
 (w2 rep - s'11.i).toNat < w38 rep s4 ∧
 w39 s4 = s'11.i ∧
 a = a ∧
 most = most ∧
 rep = rep ∧
 w95 a rep s4 s6 = s'11.m ∧
 w88 a rep s4 s6 = s'11.bs ∧
 w89 a rep s4 s6 = s'11.clk ∧
 most = most ∧
 w67 s8 = s'11.kn ∧
 s8.kbs = s'11.kbs ∧
 s8.kclk = s'11.kclk
def part21 (a : Int) (most : Int) (rep : List (List Row)) (iv : Invs) (s4 : A1) (s6 : B1) (s8 : K1) : Prop := (w102 a rep s4 s6 = true →
 false = true) ∧
 ((!w102 a rep s4 s6) = true →
 part20 a most rep iv s4 s6 s8)
def owed (a most : Int) (rep : List (List Row)) (iv : Invs) : Prop :=
  ∃ s0, iv.2 s0 ∧
 ((0 : Int) = s0.n ∧
 (0 : Int) = s0.i ∧
 a = a ∧
 most = most ∧
 rep = rep) ∧
 ∀ (s : N1), iv.2 s →
 IntKind.i64.has a →
 IntKind.i64.has most →
 IntKind.i64.has s.n →
 (CTy.sl (RTy.one (CTy.sl (RTy.cons CTy.txt (RTy.cons (CTy.int IntKind.i64) (RTy.cons (CTy.int IntKind.i64) (RTy.cons (CTy.int IntKind.u8) (RTy.cons (CTy.int IntKind.i64) (RTy.cons (CTy.int IntKind.i64) (RTy.one (CTy.int IntKind.i64))))))))))).Has rep →
 IntKind.i64.has s.i →
 (w1 rep s = true →
 ((0 : Int) ≤ s.i ∧
 s.i < w0 rep) ∧
 ∃ s', iv.2 s' ∧
 (w2 rep - s'.i).toNat < (w2 rep - s.i).toNat ∧
 IntKind.i64.wrap (s.n + (↑(List.length (rowL rep s.i.toNat)) : Int)) = s'.n ∧
 IntKind.i64.wrap (s.i + (1 : Int)) = s'.i ∧
 a = a ∧
 most = most ∧
 rep = rep) ∧
 ((!w1 rep s) = true →
 (w3 rep s = true →
 true = true) ∧
 ((!w3 rep s) = true →
 ∃ s01, iv.3 s01 ∧
 ((0 : Int) = s01.i ∧
 a = a ∧
 most = most ∧
 rep = rep) ∧
 ∀ (s1 : X1), iv.3 s1 →
 IntKind.i64.has a →
 IntKind.i64.has most →
 IntKind.i64.has s1.i →
 (CTy.sl (RTy.one (CTy.sl (RTy.cons CTy.txt (RTy.cons (CTy.int IntKind.i64) (RTy.cons (CTy.int IntKind.i64) (RTy.cons (CTy.int IntKind.u8) (RTy.cons (CTy.int IntKind.i64) (RTy.cons (CTy.int IntKind.i64) (RTy.one (CTy.int IntKind.i64))))))))))).Has rep →
 (w4 rep s1 = true →
 ∃ s02, iv.4 (w5 a most rep s1) s02 ∧
 ((0 : Int) = s02.i ∧
 a = a ∧
 most = most ∧
 rep = rep ∧
 s1.i = s1.i) ∧
 ∀ (s2 : X1), iv.4 (w5 a most rep s1) s2 →
 IntKind.i64.has a →
 IntKind.i64.has most →
 IntKind.i64.has s1.i →
 (CTy.sl (RTy.one (CTy.sl (RTy.cons CTy.txt (RTy.cons (CTy.int IntKind.i64) (RTy.cons (CTy.int IntKind.i64) (RTy.cons (CTy.int IntKind.u8) (RTy.cons (CTy.int IntKind.i64) (RTy.cons (CTy.int IntKind.i64) (RTy.one (CTy.int IntKind.i64))))))))))).Has rep →
 IntKind.i64.has s2.i →
 ((0 : Int) ≤ s1.i ∧
 s1.i < w0 rep) ∧
 (w7 rep s1 s2 = true →
 (((0 : Int) ≤ s1.i ∧
 s1.i < w0 rep) ∧
 (0 : Int) ≤ s2.i ∧
 s2.i < w6 rep s1) ∧
 (w8 rep s1 s2 = true →
 true = true) ∧
 ((!w8 rep s1 s2) = true →
 ∃ s'1, iv.4 (w5 a most rep s1) s'1 ∧
 ((500 : Int) - s'1.i).toNat < ((500 : Int) - s2.i).toNat ∧
 IntKind.i64.wrap (s2.i + (1 : Int)) = s'1.i ∧
 a = a ∧
 most = most ∧
 rep = rep ∧
 s1.i = s1.i)) ∧
 ((!w7 rep s1 s2) = true →
 ∃ s'2, iv.3 s'2 ∧
 (w2 rep - s'2.i).toNat < (w2 rep - s1.i).toNat ∧
 IntKind.i64.wrap (s1.i + (1 : Int)) = s'2.i ∧
 a = a ∧
 most = most ∧
 rep = rep)) ∧
 ((!w4 rep s1) = true →
 (w9 a = true →
 true = true) ∧
 ((!w9 a) = true →
 (w10 most = true →
 true = true) ∧
 ((!w10 most) = true →
 (∃ s'3, iv.1 s'3 ∧
 most = most ∧
 a = a ∧
 w11 = w11 ∧
 ([] : List Nat) = [] ∧
 (0 : Nat) = (0 : Nat) ∧
 ([] : List Int).Nodup ∧
 most = most) ∧
 ∀ (s3 : U1), iv.1 s3 →
 IntKind.i64.has most →
 IntKind.i64.has a →
 ([] : List Int).Nodup →
 (∀ (p : Int × Seen), p ∈ w11 →
 (RTy.one (CTy.int IntKind.i64)).Has p.fst ∧
 (RTy.cons (CTy.sl (RTy.cons CTy.txt (RTy.cons (CTy.int IntKind.i64) (RTy.cons (CTy.int IntKind.i64) (RTy.cons (CTy.int IntKind.u8) (RTy.cons (CTy.int IntKind.i64) (RTy.cons (CTy.int IntKind.i64) (RTy.one (CTy.int IntKind.i64))))))))) (RTy.cons CTy.boo (RTy.one (CTy.int IntKind.i64)))).Has p.snd) →
 ((0 : Nat) = (0 : Nat) ∧
 ([] : List Nat).Nodup ∧
 ∀ (b : Nat), b ∈ [] →
 b < (0 : Nat)) →
 IntKind.i64.has most →
 ∃ s03, iv.5 s03 ∧
 ((0 : Int) = s03.i ∧
 a = a ∧
 most = most ∧
 rep = rep ∧
 (a, w12) :: w11 = s03.m ∧
 [(0 : Nat)] = s03.bs ∧
 (1 : Nat) = s03.clk ∧
 most = most ∧
 [] = s03.kn ∧
 [] = s03.kbs ∧
 (0 : Nat) = s03.kclk ∧
 (List.map (fun x => x.fst) s03.kn).Nodup) ∧
 ∀ (s4 : A1), iv.5 s4 →
 IntKind.i64.has a →
 IntKind.i64.has most →
 (CTy.sl (RTy.one (CTy.sl (RTy.cons CTy.txt (RTy.cons (CTy.int IntKind.i64) (RTy.cons (CTy.int IntKind.i64) (RTy.cons (CTy.int IntKind.u8) (RTy.cons (CTy.int IntKind.i64) (RTy.cons (CTy.int IntKind.i64) (RTy.one (CTy.int IntKind.i64))))))))))).Has rep →
 IntKind.i64.has s4.i →
 (List.map (fun x => x.fst) s4.m).Nodup →
 (∀ (p1 : Int × Seen), p1 ∈ s4.m →
 (RTy.one (CTy.int IntKind.i64)).Has p1.fst ∧
 (RTy.cons (CTy.sl (RTy.cons CTy.txt (RTy.cons (CTy.int IntKind.i64) (RTy.cons (CTy.int IntKind.i64) (RTy.cons (CTy.int IntKind.u8) (RTy.cons (CTy.int IntKind.i64) (RTy.cons (CTy.int IntKind.i64) (RTy.one (CTy.int IntKind.i64))))))))) (RTy.cons CTy.boo (RTy.one (CTy.int IntKind.i64)))).Has p1.snd) →
 (s4.bs.length = List.length s4.m ∧
 s4.bs.Nodup ∧
 ∀ (b1 : Nat), b1 ∈ s4.bs →
 b1 < s4.clk) →
 (w13 s4).Nodup →
 part0 s4 →
 (s4.kbs.length = w14 s4 ∧
 s4.kbs.Nodup ∧
 ∀ (b2 : Nat), b2 ∈ s4.kbs →
 b2 < s4.kclk) →
 IntKind.i64.has most →
 (w15 rep s4 = true →
 (List.length s4.m ≤ (1000 : Nat) ∧
 ∃ s04, iv.6 (w17 most s4) (w18 most s4) s04 ∧
 ((0 : Int) = s04.k ∧
 w19 s4 = w19 s4 ∧
 s4.m = s04.m ∧
 s4.bs = s04.bs ∧
 s4.clk = s04.clk ∧
 part1 most s4) ∧
 ∀ (s5 : P1), iv.6 (w17 most s4) (w18 most s4) s5 →
 IntKind.i64.has s5.k →
 IntKind.i64.has (w19 s4) →
 (List.map (fun x => x.fst) s5.m).Nodup →
 (∀ (p3 : Int × Seen), p3 ∈ s5.m →
 (RTy.one (CTy.int IntKind.i64)).Has p3.fst ∧
 (RTy.cons (CTy.sl (RTy.cons CTy.txt (RTy.cons (CTy.int IntKind.i64) (RTy.cons (CTy.int IntKind.i64) (RTy.cons (CTy.int IntKind.u8) (RTy.cons (CTy.int IntKind.i64) (RTy.cons (CTy.int IntKind.i64) (RTy.one (CTy.int IntKind.i64))))))))) (RTy.cons CTy.boo (RTy.one (CTy.int IntKind.i64)))).Has p3.snd) →
 (s5.bs.length = List.length s5.m ∧
 s5.bs.Nodup ∧
 ∀ (b3 : Nat), b3 ∈ s5.bs →
 b3 < s5.clk) →
 (w13 s4).Nodup →
 part0 s4 →
 (s4.kbs.length = w14 s4 ∧
 s4.kbs.Nodup ∧
 ∀ (b2 : Nat), b2 ∈ s4.kbs →
 b2 < s4.kclk) →
 IntKind.i64.has most →
 (∀ (row : Int), row ∈ machs s4.m →
 (RTy.one (CTy.int IntKind.i64)).Has row) →
 (w21 s4 s5 = true →
 ((0 : Int) ≤ s5.k ∧
 s5.k < w19 s4) ∧
 ∃ s'4, iv.6 (w17 most s4) (w18 most s4) s'4 ∧
 (w22 most s4 - s'4.k).toNat < (w22 most s4 - s5.k).toNat ∧
 IntKind.i64.wrap (s5.k + (1 : Int)) = s'4.k ∧
 w19 s4 = w19 s4 ∧
 (mput s5.m (rowI (machs s4.m) s5.k.toNat) (((mget s5.m (rowI (machs s4.m) s5.k.toNat)).getD w12).fst, ((mget s5.m (rowI (machs s4.m) s5.k.toNat)).getD w12).snd.fst, min (IntKind.i64.wrap (((mget s5.m (rowI (machs s4.m) s5.k.toNat)).getD w12).snd.snd + (1 : Int))) (1000 : Int))) = s'4.m ∧
 bput s5.m s5.bs s5.clk (rowI (machs s4.m) s5.k.toNat) = s'4.bs ∧
 cput s5.m s5.clk (rowI (machs s4.m) s5.k.toNat) = s'4.clk ∧
 part1 most s4) ∧
 ((!w21 s4 s5) = true →
 ∃ s'5, iv.7 (w23 most s4) s'5 ∧
 a = a ∧
 most = most ∧
 rep = rep ∧
 s4.i = s4.i ∧
 s5.m = s'5.m ∧
 s5.bs = s'5.bs ∧
 s5.clk = s'5.clk ∧
 part2 most s4)) ∧
 ∀ (s6 : B1), iv.7 (w23 most s4) s6 →
 IntKind.i64.has a →
 IntKind.i64.has most →
 (CTy.sl (RTy.one (CTy.sl (RTy.cons CTy.txt (RTy.cons (CTy.int IntKind.i64) (RTy.cons (CTy.int IntKind.i64) (RTy.cons (CTy.int IntKind.u8) (RTy.cons (CTy.int IntKind.i64) (RTy.cons (CTy.int IntKind.i64) (RTy.one (CTy.int IntKind.i64))))))))))).Has rep →
 IntKind.i64.has s4.i →
 (w24 s6).Nodup →
 part3 s6 →
 (s6.bs.length = w25 s6 ∧
 s6.bs.Nodup ∧
 ∀ (b4 : Nat), b4 ∈ s6.bs →
 b4 < s6.clk) →
 (w13 s4).Nodup →
 part0 s4 →
 (s4.kbs.length = w14 s4 ∧
 s4.kbs.Nodup ∧
 ∀ (b2 : Nat), b2 ∈ s4.kbs →
 b2 < s4.kclk) →
 IntKind.i64.has most →
 ((0 : Int) ≤ s4.i ∧
 s4.i < w0 rep) ∧
 part4 rep s4 ∧
 (w29 rep s4 ≤ (1000000 : Nat) ∧
 (oldOf s6.m a).length ≤ (256 : Nat)) ∧
 (w30 a s6 = false →
 false = true) ∧
 (w30 a s6 = true →
 ¬okRows (w27 rep s4) →
 ((0 : Int) ≤ s4.i ∧
 s4.i < w0 rep) ∧
 ∃ s05, iv.8 (w31 rep s4) s05 ∧
 ((1 : Int) = s05.i ∧
 part5 most rep s4 s6) ∧
 ∀ (s7 : X1), iv.8 (w31 rep s4) s7 →
 (CTy.sl (RTy.cons CTy.txt (RTy.cons (CTy.int IntKind.i64) (RTy.cons (CTy.int IntKind.i64) (RTy.cons (CTy.int IntKind.u8) (RTy.cons (CTy.int IntKind.i64) (RTy.cons (CTy.int IntKind.i64) (RTy.one (CTy.int IntKind.i64))))))))).Has (rowL rep s4.i.toNat) →
 IntKind.i64.has s7.i →
 (w24 s6).Nodup →
 part3 s6 →
 (s6.bs.length = w25 s6 ∧
 s6.bs.Nodup ∧
 ∀ (b4 : Nat), b4 ∈ s6.bs →
 b4 < s6.clk) →
 (w13 s4).Nodup →
 part0 s4 →
 (s4.kbs.length = w14 s4 ∧
 s4.kbs.Nodup ∧
 ∀ (b2 : Nat), b2 ∈ s4.kbs →
 b2 < s4.kclk) →
 IntKind.i64.has most →
 (w34 rep s4 s7 = true →
 (((0 : Int) ≤ w35 s7 ∧
 w35 s7 < w33 rep s4) ∧
 (0 : Int) ≤ s7.i ∧
 s7.i < w33 rep s4) ∧
 (w37 rep s4 s7 = true →
 part6 a most rep iv s4 s6) ∧
 ((!w37 rep s4 s7) = true →
 ∃ s'7, iv.8 (w31 rep s4) s'7 ∧
 (w40 rep s4 - s'7.i).toNat < (w40 rep s4 - s7.i).toNat ∧
 IntKind.i64.wrap (s7.i + (1 : Int)) = s'7.i ∧
 part5 most rep s4 s6)) ∧
 ((!w34 rep s4 s7) = true →
 (w41 rep s4 = true →
 false = true) ∧
 ((!w41 rep s4) = true →
 part6 a most rep iv s4 s6))) ∧
 (w30 a s6 = true →
 part7 rep s4 →
 ∃ s06, iv.9 (w43 a most rep s4) (w48 a most rep s4 s6) (w49 a most rep s4 s6) s06 ∧
 ((0 : Int) = s06.k ∧
 a = a ∧
 most = most ∧
 rep = rep ∧
 s4.i = s4.i ∧
 w50 a rep s4 s6 = w44 a rep s4 s6 ∧
 w45 a s6 = w45 a s6 ∧
 w46 a s6 = w46 a s6 ∧
 most = most ∧
 w20 s4 = s06.kn ∧
 s4.kbs = s06.kbs ∧
 s4.kclk = s06.kclk ∧
 w51 a rep s4 s6 = w47 a rep s4 s6) ∧
 ∀ (s8 : K1), iv.9 (w43 a most rep s4) (w48 a most rep s4 s6) (w49 a most rep s4 s6) s8 →
 IntKind.i64.has a →
 IntKind.i64.has most →
 IntKind.i64.has s8.k →
 (CTy.sl (RTy.one (CTy.sl (RTy.cons CTy.txt (RTy.cons (CTy.int IntKind.i64) (RTy.cons (CTy.int IntKind.i64) (RTy.cons (CTy.int IntKind.u8) (RTy.cons (CTy.int IntKind.i64) (RTy.cons (CTy.int IntKind.i64) (RTy.one (CTy.int IntKind.i64))))))))))).Has rep →
 IntKind.i64.has s4.i →
 (w52 a rep s4 s6).Nodup →
 part8 a rep s4 s6 →
 part9 a rep s4 s6 →
 (w53 s8).Nodup →
 part10 s8 →
 (s8.kbs.length = w54 s8 ∧
 s8.kbs.Nodup ∧
 ∀ (b6 : Nat), b6 ∈ s8.kbs →
 b6 < s8.kclk) →
 part11 a rep s4 s6 →
 IntKind.i64.has most →
 (w56 a rep s4 s6 s8 = true →
 part12 a rep s4 s6 s8 ∧
 ∃ s07, iv.10 (w63 a most rep s4 s6 s8) (w64 a most rep s4 s6 s8) (w65 a most rep s4 s6 s8) (w66 a most rep s4 s6 s8) s07 ∧
 (true = s07.gone ∧
 (0 : Int) = s07.m ∧
 part13 a most rep s4 s6 s8) ∧
 ∀ (s9 : G1), iv.10 (w63 a most rep s4 s6 s8) (w64 a most rep s4 s6 s8) (w65 a most rep s4 s6 s8) (w66 a most rep s4 s6 s8) s9 →
 IntKind.i64.has a →
 IntKind.i64.has most →
 IntKind.i64.has s8.k →
 IntKind.i64.has s9.m →
 (CTy.sl (RTy.one (CTy.sl (RTy.cons CTy.txt (RTy.cons (CTy.int IntKind.i64) (RTy.cons (CTy.int IntKind.i64) (RTy.cons (CTy.int IntKind.u8) (RTy.cons (CTy.int IntKind.i64) (RTy.cons (CTy.int IntKind.i64) (RTy.one (CTy.int IntKind.i64))))))))))).Has rep →
 IntKind.i64.has s4.i →
 (w52 a rep s4 s6).Nodup →
 part8 a rep s4 s6 →
 part9 a rep s4 s6 →
 (w53 s8).Nodup →
 part10 s8 →
 (s8.kbs.length = w54 s8 ∧
 s8.kbs.Nodup ∧
 ∀ (b6 : Nat), b6 ∈ s8.kbs →
 b6 < s8.kclk) →
 part11 a rep s4 s6 →
 IntKind.i64.has most →
 List.length ((mget s8.kn (w57 a rep s4 s6 s8)).getD w59).fst ≤ (9223372036854775807 : Nat) →
 IntKind.i64.has ((mget s8.kn (w57 a rep s4 s6 s8)).getD w59).snd.fst →
 IntKind.i64.has ((mget s8.kn (w57 a rep s4 s6 s8)).getD w59).snd.snd.fst →
 IntKind.u8.has ((mget s8.kn (w57 a rep s4 s6 s8)).getD w59).snd.snd.snd.fst →
 IntKind.i64.has ((mget s8.kn (w57 a rep s4 s6 s8)).getD w59).snd.snd.snd.snd.fst →
 IntKind.i64.has ((mget s8.kn (w57 a rep s4 s6 s8)).getD w59).snd.snd.snd.snd.snd.fst →
 IntKind.i64.has ((mget s8.kn (w57 a rep s4 s6 s8)).getD w59).snd.snd.snd.snd.snd.snd →
 ((0 : Int) ≤ s4.i ∧
 s4.i < w0 rep) ∧
 (w68 rep s4 s9 = true →
 (s9.gone = true →
 ((0 : Int) ≤ s4.i ∧
 s4.i < w0 rep) ∧
 ((0 : Int) ≤ s9.m ∧
 s9.m < w33 rep s4) ∧
 part12 a rep s4 s6 s8) ∧
 ∃ s'8, iv.10 (w63 a most rep s4 s6 s8) (w64 a most rep s4 s6 s8) (w65 a most rep s4 s6 s8) (w66 a most rep s4 s6 s8) s'8 ∧
 ((500 : Int) - s'8.m).toNat < ((500 : Int) - s9.m).toNat ∧
 (s9.gone && !(decide ((rowR0 (rowL rep s4.i.toNat) s9.m.toNat).fst = (rowR0 (w47 a rep s4 s6) s8.k.toNat).fst) && decide ((rowR0 (rowL rep s4.i.toNat) s9.m.toNat).snd.fst = (rowR0 (w47 a rep s4 s6) s8.k.toNat).snd.fst))) = s'8.gone ∧
 IntKind.i64.wrap (s9.m + (1 : Int)) = s'8.m ∧
 part13 a most rep s4 s6 s8) ∧
 ((!w68 rep s4 s9) = true →
 ((s9.gone = true →
 (w69 a rep s4 s6 s8 = false →
 part12 a rep s4 s6 s8 ∧
 (w70 a rep s4 s6 s8 = false →
 part12 a rep s4 s6 s8 ∧
 (w71 a rep s4 s6 s8 = false →
 part14 a rep s4 s6 s8))) ∧
 (w73 a rep s4 s6 s8 = true →
 part12 a rep s4 s6 s8)) ∧
 (s9.gone = false →
 part14 a rep s4 s6 s8)) ∧
 ((!s9.gone || w73 a rep s4 s6 s8) = true →
 ∃ s'9, iv.9 (w43 a most rep s4) (w48 a most rep s4 s6) (w49 a most rep s4 s6) s'9 ∧
 (w74 a most rep s4 s6 - s'9.k).toNat < (w74 a most rep s4 s6 - s8.k).toNat ∧
 IntKind.i64.wrap (s8.k + (1 : Int)) = s'9.k ∧
 a = a ∧
 most = most ∧
 rep = rep ∧
 s4.i = s4.i ∧
 w50 a rep s4 s6 = w44 a rep s4 s6 ∧
 w45 a s6 = w45 a s6 ∧
 w46 a s6 = w46 a s6 ∧
 most = most ∧
 (bif s9.gone then mdel s8.kn (w57 a rep s4 s6 s8) else (mput s8.kn (w57 a rep s4 s6 s8) ((rowR0 (w47 a rep s4 s6) s8.k.toNat).fst, (rowR0 (w47 a rep s4 s6) s8.k.toNat).snd.fst, (rowR0 (w47 a rep s4 s6) s8.k.toNat).snd.snd.fst, (rowR0 (w47 a rep s4 s6) s8.k.toNat).snd.snd.snd.fst, (rowR0 (w47 a rep s4 s6) s8.k.toNat).snd.snd.snd.snd.fst, (rowR0 (w47 a rep s4 s6) s8.k.toNat).snd.snd.snd.snd.snd.fst, (rowR0 (w47 a rep s4 s6) s8.k.toNat).snd.snd.snd.snd.snd.snd))) = s'9.kn ∧
 (bif s9.gone then bdel s8.kn s8.kbs (w57 a rep s4 s6 s8) else bput s8.kn s8.kbs s8.kclk (w57 a rep s4 s6 s8)) = s'9.kbs ∧
 (bif s9.gone then s8.kclk else cput s8.kn s8.kclk (w57 a rep s4 s6 s8)) = s'9.kclk ∧
 w51 a rep s4 s6 = w47 a rep s4 s6) ∧
 ((s9.gone && (!w73 a rep s4 s6 s8 && w72 a rep s4 s6 s8)) = true →
 false = true))) ∧
 ((!w56 a rep s4 s6 s8) = true →
 (w54 s8 ≤ (9223372036854775807 : Nat) ∧
 (0 : Int) ≤ s4.i ∧
 s4.i < w0 rep) ∧
 (w76 rep s4 s8 = true →
 false = true) ∧
 ((!w76 rep s4 s8) = true →
 ∃ s08, iv.11 (w77 a most rep s4 s6 s8) (w78 a most rep s4 s6 s8) s08 ∧
 ((0 : Int) = s08.i ∧
 part15 a most rep s4 s6 s8) ∧
 ∀ (s10 : X1), iv.11 (w77 a most rep s4 s6 s8) (w78 a most rep s4 s6 s8) s10 →
 IntKind.i64.has a →
 IntKind.i64.has most →
 (CTy.sl (RTy.one (CTy.sl (RTy.cons CTy.txt (RTy.cons (CTy.int IntKind.i64) (RTy.cons (CTy.int IntKind.i64) (RTy.cons (CTy.int IntKind.u8) (RTy.cons (CTy.int IntKind.i64) (RTy.cons (CTy.int IntKind.i64) (RTy.one (CTy.int IntKind.i64))))))))))).Has rep →
 IntKind.i64.has s4.i →
 IntKind.i64.has s10.i →
 (w52 a rep s4 s6).Nodup →
 part8 a rep s4 s6 →
 part9 a rep s4 s6 →
 (w53 s8).Nodup →
 part10 s8 →
 (s8.kbs.length = w54 s8 ∧
 s8.kbs.Nodup ∧
 ∀ (b6 : Nat), b6 ∈ s8.kbs →
 b6 < s8.kclk) →
 part11 a rep s4 s6 →
 IntKind.i64.has most →
 ((0 : Int) ≤ s4.i ∧
 s4.i < w0 rep) ∧
 (w79 rep s4 s10 = true →
 (((0 : Int) ≤ s4.i ∧
 s4.i < w0 rep) ∧
 ((0 : Int) ≤ s10.i ∧
 s10.i < w33 rep s4) ∧
 ((0 : Int) ≤ s4.i ∧
 s4.i < w0 rep) ∧
 (0 : Int) ≤ s10.i ∧
 s10.i < w33 rep s4) ∧
 (w81 rep s4 s8 s10 = true →
 false = true) ∧
 ((!w81 rep s4 s8 s10) = true →
 ∃ s'10, iv.11 (w77 a most rep s4 s6 s8) (w78 a most rep s4 s6 s8) s'10 ∧
 ((500 : Int) - s'10.i).toNat < ((500 : Int) - s10.i).toNat ∧
 IntKind.i64.wrap (s10.i + (1 : Int)) = s'10.i ∧
 part15 a most rep s4 s6 s8)) ∧
 ((!w79 rep s4 s10) = true →
 ((0 : Int) ≤ s4.i ∧
 s4.i < w0 rep) ∧
 part4 rep s4 ∧
 (w29 rep s4 ≤ (1000000 : Nat) ∧
 (w82 a rep s4 s6).length ≤ (256 : Nat)) ∧
 (w83 a rep s4 s6 = false →
 false = true) ∧
 (w83 a rep s4 s6 = true →
 ¬okRows (w27 rep s4) →
 false = true) ∧
 (w83 a rep s4 s6 = true →
 part7 rep s4 →
 (w85 a rep s4 s6 = true →
 false = true) ∧
 (w85 a rep s4 s6 = false →
 (w86 most = true →
 List.length (w87 a rep s4 s6) ≤ (1000 : Nat) ∧
 ∃ s09, iv.12 (w92 a most rep s4 s6 s8) (w93 a most rep s4 s6 s8) s09 ∧
 ((0 : Int) = s09.i ∧
 part16 a most rep s4 s6 s8) ∧
 ∀ (s11 : X1), iv.12 (w92 a most rep s4 s6 s8) (w93 a most rep s4 s6 s8) s11 →
 IntKind.i64.has (w94 a rep s4 s6) →
 IntKind.i64.has s11.i →
 (w98 a rep s4 s6).Nodup →
 part17 a rep s4 s6 →
 part18 a rep s4 s6 →
 (w53 s8).Nodup →
 part10 s8 →
 (s8.kbs.length = w54 s8 ∧
 s8.kbs.Nodup ∧
 ∀ (b6 : Nat), b6 ∈ s8.kbs →
 b6 < s8.kclk) →
 part19 a rep s4 s6 →
 part11 a rep s4 s6 →
 (∀ (row3 : Int), row3 ∈ w90 a rep s4 s6 →
 (RTy.one (CTy.int IntKind.i64)).Has row3) →
 IntKind.i64.has most →
 (w99 a rep s4 s6 s11 = true →
 ((0 : Int) ≤ s11.i ∧
 s11.i < w94 a rep s4 s6) ∧
 (w100 a most rep s4 s6 s11 = true →
 (w101 s11 = true →
 part21 a most rep iv s4 s6 s8) ∧
 ((!w101 s11) = true →
 ∃ s010, iv.13 (w103 a most rep s4 s6 s8) (w104 a most rep s4 s6 s8) s010 ∧
 (s11.i = s010.i ∧
 w105 s11 = s010.j ∧
 w95 a rep s4 s6 = w87 a rep s4 s6 ∧
 w88 a rep s4 s6 = w88 a rep s4 s6 ∧
 w89 a rep s4 s6 = w89 a rep s4 s6 ∧
 most = most ∧
 w67 s8 = s8.kn ∧
 s8.kbs = s8.kbs ∧
 s8.kclk = s8.kclk ∧
 w51 a rep s4 s6 = w47 a rep s4 s6 ∧
 w96 a rep s4 s6 = w84 a rep s4 s6 ∧
 w97 a rep s4 s6 = s010.rows) ∧
 ∀ (s12 : D1), iv.13 (w103 a most rep s4 s6 s8) (w104 a most rep s4 s6 s8) s12 →
 IntKind.i64.has s12.i →
 IntKind.i64.has s12.j →
 (w98 a rep s4 s6).Nodup →
 part17 a rep s4 s6 →
 part18 a rep s4 s6 →
 (w53 s8).Nodup →
 part10 s8 →
 (s8.kbs.length = w54 s8 ∧
 s8.kbs.Nodup ∧
 ∀ (b6 : Nat), b6 ∈ s8.kbs →
 b6 < s8.kclk) →
 part19 a rep s4 s6 →
 part11 a rep s4 s6 →
 (∀ (row4 : Int), row4 ∈ s12.rows →
 (RTy.one (CTy.int IntKind.i64)).Has row4) →
 IntKind.i64.has most →
 (w108 s12 = true →
 ((0 : Int) ≤ s12.j ∧
 s12.j < w107 s12) ∧
 (w109 a most rep s4 s6 s12 = true →
 (0 : Int) ≤ s12.i ∧
 s12.i < w107 s12) ∧
 ∃ s'12, iv.13 (w103 a most rep s4 s6 s8) (w104 a most rep s4 s6 s8) s'12 ∧
 (w110 a most rep s4 s6 s8 - s'12.j).toNat < (w110 a most rep s4 s6 s8 - s12.j).toNat ∧
 (bif w109 a most rep s4 s6 s12 then IntKind.i64.wrap (s12.i + (1 : Int)) else s12.i) = s'12.i ∧
 IntKind.i64.wrap (s12.j + (1 : Int)) = s'12.j ∧
 w95 a rep s4 s6 = w87 a rep s4 s6 ∧
 w88 a rep s4 s6 = w88 a rep s4 s6 ∧
 w89 a rep s4 s6 = w89 a rep s4 s6 ∧
 most = most ∧
 w67 s8 = s8.kn ∧
 s8.kbs = s8.kbs ∧
 s8.kclk = s8.kclk ∧
 w51 a rep s4 s6 = w47 a rep s4 s6 ∧
 w96 a rep s4 s6 = w84 a rep s4 s6 ∧
 (bif w109 a most rep s4 s6 s12 then (s12.rows.set s12.i.toNat (rowI s12.rows s12.j.toNat)) else s12.rows) = s'12.rows) ∧
 ((!w108 s12) = true →
 ((0 : Int) ≤ s12.i ∧
 s12.i ≤ w107 s12) ∧
 ((0 : Int) ≤ s12.i ∧
 s12.i ≤ (↑(w113 s12) : Int)) ∧
 (w114 s12 = true →
 false = true) ∧
 ((!w114 s12) = true →
 part20 a most rep iv s4 s6 s8)))) ∧
 ((!w100 a most rep s4 s6 s11) = true →
 ∃ s'13, iv.12 (w92 a most rep s4 s6 s8) (w93 a most rep s4 s6 s8) s'13 ∧
 (w115 a most rep s4 s6 s8 - s'13.i).toNat < (w115 a most rep s4 s6 s8 - s11.i).toNat ∧
 w105 s11 = s'13.i ∧
 part16 a most rep s4 s6 s8)) ∧
 ((!w99 a rep s4 s6 s11) = true →
 part21 a most rep iv s4 s6 s8)) ∧
 (w86 most = false →
 part20 a most rep iv s4 s6 s8)))))))) ∧
 ((!w15 rep s4) = true →
 true = true))))))

theorem owed_eq (a most : Int) (rep : List (List Row)) (iv : Invs) : owed a most rep iv = vTop Try.prog S5 (LL most rep iv) 20000 3 [.sI .i64 a, .sI .i64 most, .dsl repR rep] H0 (fun v _ => isB v true) := by kernel_rfl
end
end Go.Proofs.Ytdohdhphpjhcjaa.Sh.Df
