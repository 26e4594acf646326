/- A part of the proof that 'reevelaw28.ShardSilent' returns true for every input. No condition. -/
import Derived.Test.YtdohdhphpjhcjaaAmJ
import Derived.KernelRfl
import Derived.Test.YtdohdhphpjhcjaaMaSum
namespace Go.Proofs.Ytdohdhphpjhcjaa.Sh.Si
open Go.AM
noncomputable section
/-- A region's operations, by its number. -/
def regGo (k : Nat) : Code → Option (List Oper)
  | .region j ops _ => bif Nat.beq j k then some ops.toList else none
  | .seq a b => (regGo k a).orElse fun _ => regGo k b
  | .cond _ a b => (regGo k a).orElse fun _ => regGo k b
  | .rangeFunc _ _ a b => (regGo k a).orElse fun _ => regGo k b
  | .block _ a => regGo k a
  | .loop a => regGo k a
  | .scope a => regGo k a
  | _ => none
def regOps (P : Program) (f : FuncId) (k : Nat) : List Oper := ((P.funcs[f]?.bind Func.body).bind (regGo k)).getD []
def S3 : SumP := fun f args H => match f, args with
  | 7, [] => some (.val (.bool true))
  | f, args => S2 f args H
structure U1 where
  n : Nat
structure A1 where
  i : Int
  t : Bool
  m : Mp
  bs : List Nat
  clk : Nat
structure P1 where
  k : Int
  m : Mp
  bs : List Nat
  clk : Nat
structure I1 where
  i : Int
structure D1 where
  i : Int
  j : Int
  rows : List Int
structure B1 where
  m : Mp
  bs : List Nat
  clk : Nat
structure E1 where
  e : Int
  m : Mp
  bs : List Nat
  clk : Nat
structure F1 where
  n : Int
  e : Int
structure Invs where
  a : A1 → Prop
  b : Int → Mp → B1 → Prop
  e : Mp → E1 → Prop
  fb : Mp → F1 → Prop
  fa : Mp → F1 → Prop
  g : Mp → E1 → Prop
  u : U1 → Prop
  x : U1 → Prop
  p : Mp → List Int → P1 → Prop
  i : Mp → List Int → I1 → Prop
  d : Mp → List Int → D1 → Prop
/-- The map of a shard. -/
def mapId (H : Heap) (v : AV) : Nat := match v with
  | .ptr i _ => idV (cellOf H i 1)
  | _ => 0
def fnShard (H : Heap) (v : AV) : AV := match v with
  | .fn _ _ [.ptr i _] => cellOf H i 0
  | _ => .nilPtr
def LN (most : Int) (inv : U1 → Prop) : LInv := ⟨U1, inv, fun _ fr H => patchA [0, 1] (fun n => [(6, .ptr (n + 1) 0)]) [] [.smap false true iR seenR [] [] 0, .cells false 2 [.sI .i64 most, .map H.next] (some 71)] fr H, fun _ => 0⟩
def LA (most : Int) (inv : A1 → Prop) (fr : Fr) (H : Heap) : LInv := ⟨A1, inv, fun s => patchK [0, 1, 2, 7] [(9, .sI .i64 s.i)] [] [(ptrOf fr 7, .cells false 2 [.sI .i64 most, .map (mapId H (avOf fr 7))] (some 71)), (mapId H (avOf fr 7), .smap false true iR seenR s.m s.bs s.clk)], fun s => (most + 6 - s.i).toNat⟩
def LP (inv : Mp → List Int → P1 → Prop) (fr : Fr) (H : Heap) : LInv := ⟨P1, inv (mOf H (mapId H (avOf fr 0))) (seqI H (avOf fr 3)), fun s => patch [0, 3, 9, 10] [(11, .sI .i64 s.k)] [(mapId H (avOf fr 0), .smap false true iR seenR s.m s.bs s.clk)], fun s => ((seqI H (avOf fr 3)).length - s.k).toNat⟩
def LC (inv : U1 → Prop) (fr : Fr) : LInv := ⟨U1, inv, fun _ => patch [0, 1, 2] [] [(ptrOf fr 1, .cells false 1 [.dsl rowR []] (some 23)), (ptrOf fr 2, .cells false 1 [.dsl rowR []] (some 23))], fun _ => 0⟩
/-- Nobody comes here. -/
def LX (inv : U1 → Prop) : LInv := ⟨U1, inv, fun _ _ H => ([], { t := .nil, next := H.next }), fun _ => 0⟩
def LI (inv : Mp → List Int → I1 → Prop) (fr : Fr) (H : Heap) : LInv :=
  ⟨I1, inv (mOf H (mapId H (fnShard H (avOf fr 1)))) (seqI H (avOf fr 0)), fun s => patch [0, 1, 6, 7] [(8, .sI .i64 s.i)] [], fun s => ((seqI H (avOf fr 0)).length - s.i).toNat⟩
def LD (inv : Mp → List Int → D1 → Prop) (fr : Fr) (H : Heap) : LInv :=
  ⟨D1, inv (mOf H (mapId H (fnShard H (avOf fr 1)))) (seqI H (avOf fr 0)), fun s => patch [0, 1] [(5, .sI .i64 s.i), (6, .sI .i64 s.j)] [(idV (avOf fr 0), .seq iR s.rows none)], fun s => ((seqI H (avOf fr 0)).length - s.j).toNat⟩
def LB (most : Int) (inv : Int → Mp → B1 → Prop) (fr : Fr) (H : Heap) : LInv := ⟨B1, inv (Go.AM.intOf fr 9) (mOf H (mapId H (avOf fr 7))), fun s => patchK [0, 1, 2, 7, 9] [] [] [(ptrOf fr 7, .cells false 2 [.sI .i64 most, .map (mapId H (avOf fr 7))] (some 71)), (mapId H (avOf fr 7), .smap false true iR seenR s.m s.bs s.clk)], fun _ => 0⟩
def LE (most : Int) (t : Nat) (ks : List Nat) (inv : Mp → E1 → Prop) (fr : Fr) (H : Heap) : LInv := ⟨E1, inv (mOf H (mapId H (avOf fr 7))), fun s => patchK ks [(t, .sI .i64 s.e)] [] [(ptrOf fr 7, .cells false 2 [.sI .i64 most, .map (mapId H (avOf fr 7))] (some 71)), (mapId H (avOf fr 7), .smap false true iR seenR s.m s.bs s.clk)], fun _ => 0⟩
def LF (most : Int) (ks : List Nat) (t1 t2 : Nat) (inv : Mp → F1 → Prop) (fr : Fr) (H : Heap) : LInv := ⟨F1, inv (mOf H (mapId H (avOf fr 7))), fun s => patch ks [(t1, .sI .i64 s.n), (t2, .sI .i64 s.e)] [], fun _ => 0⟩
def LL (most : Int) (iv : Invs) : LTab := fun f k fr H => match f, k with
  | 8, 1000004 => some (LN most iv.u)
  | 5, 7 => some (LA most iv.a fr H)
  | 5, 1000010 => some (LB most iv.b fr H)
  | 5, 1000011 => some (LE most 11 [0, 1, 2, 7, 9] iv.e fr H)
  | 5, 1000012 => some (LF most [0, 1, 2, 7, 9, 11] 12 13 iv.fb fr H)
  | 5, 1000013 => some (LF most [0, 1, 2, 7, 9, 11, 12, 13] 14 15 iv.fa fr H)
  | 5, 1000017 => some (LE most 8 [0, 1, 2, 7] iv.g fr H)
  | 9, 3 => some (LP iv.p fr H)
  | 38, 0 => some (LC iv.u fr)
  | 38, 1000002 => some (LX iv.x)
  | 39, 2 => some (LI iv.i fr H)
  | 30, 5 => some (LD iv.d fr H)
  | _, _ => none
def w0 (a : Int) (b : Int) : Int := min a b
def w1 (a : Int) (b : Int) : Bool := decide (w0 a b < (0 : Int)) || decide ((64 : Int) ≤ w0 a b)
def w2 (a : Int) (b : Int) : Int := max a b
def w3 (a : Int) (b : Int) : Bool := decide (w2 a b < (0 : Int)) || (decide ((64 : Int) ≤ w2 a b) || decide (w2 a b ≤ w0 a b))
def w4 (most : Int) : Bool := decide (most < (1 : Int)) || decide ((100 : Int) < most)
def w5 (most : Int) : Bool := !w4 most
def w6 : List (Int × Seen) := []
def w7 : (CTy.sl rowR).den × (RTy.cons CTy.boo (RTy.one (CTy.int IntKind.i64))).den := ([], false, (0 : Int))
def w8 (a : Int) (b : Int) : List (Int × Seen) := (w0 a b, w7) :: w6
def w9 (s1 : A1) : List Int := List.map (fun x => x.fst) s1.m
def w10 (s1 : A1) : Nat := List.length s1.m
def w11 (most : Int) : Int := IntKind.i64.wrap (most + (5 : Int))
def w12 (most : Int) (s1 : A1) : Bool := decide (s1.i ≤ w11 most)
def w13 (most : Int) : List AV := [AV.sI IntKind.i64 most, AV.map (1 : Nat)]
def w14 (most : Int) (s1 : A1) : Mp := mOf { t := ((T.nil.node (some (AObj.seq (RTy.one (CTy.int IntKind.i64)) (machs s1.m) none)) T.nil).node (some (AObj.smap false true (RTy.one (CTy.int IntKind.i64)) (RTy.cons (CTy.sl (RTy.cons CTy.txt (RTy.cons (CTy.int IntKind.i64) (RTy.cons (CTy.int IntKind.i64) (RTy.cons (CTy.int IntKind.u8) (RTy.cons (CTy.int IntKind.i64) (RTy.cons (CTy.int IntKind.i64) (RTy.one (CTy.int IntKind.i64))))))))) (RTy.cons CTy.boo (RTy.one (CTy.int IntKind.i64)))) s1.m s1.bs s1.clk)) T.nil).node none (T.nil.node (some (AObj.cells false (2 : Nat) (w13 most) (some (71 : Nat)))) T.nil), next := (4 : Nat), d := (15 : Nat) } (1 : Nat)
def w15 (most : Int) (s1 : A1) : List Int := seqI { t := ((T.nil.node (some (AObj.seq (RTy.one (CTy.int IntKind.i64)) (machs s1.m) none)) T.nil).node (some (AObj.smap false true (RTy.one (CTy.int IntKind.i64)) (RTy.cons (CTy.sl (RTy.cons CTy.txt (RTy.cons (CTy.int IntKind.i64) (RTy.cons (CTy.int IntKind.i64) (RTy.cons (CTy.int IntKind.u8) (RTy.cons (CTy.int IntKind.i64) (RTy.cons (CTy.int IntKind.i64) (RTy.one (CTy.int IntKind.i64))))))))) (RTy.cons CTy.boo (RTy.one (CTy.int IntKind.i64)))) s1.m s1.bs s1.clk)) T.nil).node none (T.nil.node (some (AObj.cells false (2 : Nat) (w13 most) (some (71 : Nat)))) T.nil), next := (4 : Nat), d := (15 : Nat) } (AV.sw (3 : Nat))
def w16 (s1 : A1) : Int := (↑(machs s1.m).length : Int)
def w17 (s1 : A1) : List (Int × Seen) := s1.m
def w18 (s1 : A1) : List Int := (machs s1.m)
def w19 (s1 : A1) (s2 : P1) : Bool := decide (s2.k < w16 s1)
def w20 (most : Int) (s1 : A1) : Int := (↑(w15 most s1).length : Int)
def w21 (a : Int) (b : Int) (most : Int) (s1 : A1) : Int := AM.intOf (((((T.nil.node none (T.nil.node (some (AV.sI IntKind.i64 most)) T.nil)).node (some (AV.ptr (2 : Nat) (0 : Nat))) T.nil).node none T.nil).node (some (AV.sI IntKind.i64 b)) (((T.nil.node none (T.nil.node (some (AV.sB (w12 most s1))) T.nil)).node (some (AV.sI IntKind.i64 s1.i)) T.nil).node none T.nil)).node (some (AV.sI IntKind.i64 a)) ((((T.nil.node none (T.nil.node (some (AV.sI IntKind.i64 (w11 most))) T.nil)).node none T.nil).node none T.nil).node (some (AV.sI IntKind.i64 most)) (T.nil.node none (T.nil.node none ((T.nil.node (some (AV.sI IntKind.i64 s1.i)) T.nil).node none T.nil))))) (9 : Nat)
def w22 (most : Int) (s1 : A1) : Mp := mOf { t := (T.nil.node (some (AObj.smap false true (RTy.one (CTy.int IntKind.i64)) (RTy.cons (CTy.sl (RTy.cons CTy.txt (RTy.cons (CTy.int IntKind.i64) (RTy.cons (CTy.int IntKind.i64) (RTy.cons (CTy.int IntKind.u8) (RTy.cons (CTy.int IntKind.i64) (RTy.cons (CTy.int IntKind.i64) (RTy.one (CTy.int IntKind.i64))))))))) (RTy.cons CTy.boo (RTy.one (CTy.int IntKind.i64)))) s1.m s1.bs s1.clk)) T.nil).node none (T.nil.node (some (AObj.cells false (2 : Nat) (w13 most) (some (71 : Nat)))) T.nil), next := (3 : Nat) } (1 : Nat)
def w23 (s3 : B1) : List Int := List.map (fun x => x.fst) s3.m
def w24 (s3 : B1) : Nat := List.length s3.m
def w25 (a : Int) (s3 : B1) : Bool := (mget s3.m a).isSome
def w26 (a : Int) (s3 : B1) : Bool := !w25 a s3
def w27 (most : Int) (s3 : B1) : Mp := mOf { t := (T.nil.node (some (AObj.smap false true (RTy.one (CTy.int IntKind.i64)) (RTy.cons (CTy.sl (RTy.cons CTy.txt (RTy.cons (CTy.int IntKind.i64) (RTy.cons (CTy.int IntKind.i64) (RTy.cons (CTy.int IntKind.u8) (RTy.cons (CTy.int IntKind.i64) (RTy.cons (CTy.int IntKind.i64) (RTy.one (CTy.int IntKind.i64))))))))) (RTy.cons CTy.boo (RTy.one (CTy.int IntKind.i64)))) s3.m s3.bs s3.clk)) T.nil).node none (T.nil.node (some (AObj.cells false (2 : Nat) (w13 most) (some (71 : Nat)))) T.nil), next := (3 : Nat) } (1 : Nat)
def w28 (s3 : B1) : List (Int × Seen) := s3.m
def w29 (a : Int) (s3 : B1) : List Row := ((mget s3.m a).getD w7).fst
def w30 : List Oper := regOps Try.prog 10 15
def w31 : List Oper := regOps Try.prog 10 16
def w32 : (CTy.sl rowR).den × (RTy.cons CTy.boo (RTy.one (CTy.int IntKind.i64))).den := ([], true, (0 : Int))
def w33 (s6 : E1) : List Int := List.map (fun x => x.fst) s6.m
def w34 (s6 : E1) : Nat := List.length s6.m
def w35 (most : Int) (s6 : E1) : Mp := mOf { t := (T.nil.node (some (AObj.smap false true (RTy.one (CTy.int IntKind.i64)) (RTy.cons (CTy.sl (RTy.cons CTy.txt (RTy.cons (CTy.int IntKind.i64) (RTy.cons (CTy.int IntKind.i64) (RTy.cons (CTy.int IntKind.u8) (RTy.cons (CTy.int IntKind.i64) (RTy.cons (CTy.int IntKind.i64) (RTy.one (CTy.int IntKind.i64))))))))) (RTy.cons CTy.boo (RTy.one (CTy.int IntKind.i64)))) s6.m s6.bs s6.clk)) T.nil).node none (T.nil.node (some (AObj.cells false (2 : Nat) (w13 most) (some (71 : Nat)))) T.nil), next := (3 : Nat) } (1 : Nat)
def w36 (b : Int) (s6 : E1) : Bool := !!(mget s6.m b).isSome
def w37 (s6 : E1) : List (Int × Seen) := s6.m
def w38 (a : Int) (s6 : E1) : Bool := !!(mget s6.m a).isSome
def w39 : List AV := [AV.ptr (2 : Nat) (0 : Nat)]
def w40 (most : Int) (s6 : E1) : Mp := mOf { t := ((T.nil.node (some (AObj.cells false (1 : Nat) w39 (some (31 : Nat)))) T.nil).node (some (AObj.smap false true (RTy.one (CTy.int IntKind.i64)) (RTy.cons (CTy.sl (RTy.cons CTy.txt (RTy.cons (CTy.int IntKind.i64) (RTy.cons (CTy.int IntKind.i64) (RTy.cons (CTy.int IntKind.u8) (RTy.cons (CTy.int IntKind.i64) (RTy.cons (CTy.int IntKind.i64) (RTy.one (CTy.int IntKind.i64))))))))) (RTy.cons CTy.boo (RTy.one (CTy.int IntKind.i64)))) s6.m s6.bs s6.clk)) T.nil).node none ((T.nil.node (some (AObj.seq (RTy.one (CTy.int IntKind.i64)) (machs s6.m) none)) T.nil).node (some (AObj.cells false (2 : Nat) (w13 most) (some (71 : Nat)))) T.nil), next := (5 : Nat), d := (24 : Nat) } (1 : Nat)
def w41 (most : Int) (s6 : E1) : List Int := seqI { t := ((T.nil.node (some (AObj.cells false (1 : Nat) w39 (some (31 : Nat)))) T.nil).node (some (AObj.smap false true (RTy.one (CTy.int IntKind.i64)) (RTy.cons (CTy.sl (RTy.cons CTy.txt (RTy.cons (CTy.int IntKind.i64) (RTy.cons (CTy.int IntKind.i64) (RTy.cons (CTy.int IntKind.u8) (RTy.cons (CTy.int IntKind.i64) (RTy.cons (CTy.int IntKind.i64) (RTy.one (CTy.int IntKind.i64))))))))) (RTy.cons CTy.boo (RTy.one (CTy.int IntKind.i64)))) s6.m s6.bs s6.clk)) T.nil).node none ((T.nil.node (some (AObj.seq (RTy.one (CTy.int IntKind.i64)) (machs s6.m) none)) T.nil).node (some (AObj.cells false (2 : Nat) (w13 most) (some (71 : Nat)))) T.nil), next := (5 : Nat), d := (24 : Nat) } (AV.sw (4 : Nat))
def w42 (s6 : E1) : Int := (↑(machs s6.m).length : Int)
def w43 (s6 : E1) : List Int := (machs s6.m)
def w44 (s6 : E1) (s9 : I1) : Bool := decide (s9.i < w42 s6)
def w45 (most : Int) (s6 : E1) (s9 : I1) : Bool := decide (((mget s6.m (rowI (machs s6.m) s9.i.toNat)).getD w7).snd.snd < most)
def w46 : Int := (-1 : Int)
def w47 (s9 : I1) : Bool := decide (s9.i = w46)
def w48 (s6 : E1) : Bool := decide (s6.e ≠ (0 : Int))
def w49 (s7 : F1) : Bool := decide (s7.e ≠ (0 : Int))
def w50 (s8 : F1) : Bool := decide (s8.e ≠ (0 : Int))
def w51 (s1 : A1) (s7 : F1) : Bool := decide (s7.n ≠ s1.i)
def w52 (s8 : F1) : Bool := decide (s8.n ≠ (0 : Int))
def w53 (s6 : E1) : Bool := decide (w42 s6 = (1 : Int))
def w54 (most : Int) (s1 : A1) : Bool := decide (most ≤ s1.i)
def w55 (most : Int) (s1 : A1) (s6 : E1) : Bool := !w53 s6 == w54 most s1
def w56 (s6 : E1) : Bool := decide ((1 : Int) < w42 s6)
def w57 (b : Int) (most : Int) (s1 : A1) (s6 : E1) (s7 : F1) (s8 : F1) : Bool := w48 s6 || (w49 s7 || (w50 s8 || (w51 s1 s7 || (w52 s8 || (w55 most s1 s6 || (w56 s6 || w53 s6 && decide (rowI (machs s6.m) (0 : Nat) ≠ b)))))))
def w58 (most : Int) : Int := most + (6 : Int)
def w59 (most : Int) (s6 : E1) : Mp := mOf { t := ((T.nil.node (some (AObj.cells false (1 : Nat) w39 (some (31 : Nat)))) T.nil).node (some (AObj.smap false true (RTy.one (CTy.int IntKind.i64)) (RTy.cons (CTy.sl (RTy.cons CTy.txt (RTy.cons (CTy.int IntKind.i64) (RTy.cons (CTy.int IntKind.i64) (RTy.cons (CTy.int IntKind.u8) (RTy.cons (CTy.int IntKind.i64) (RTy.cons (CTy.int IntKind.i64) (RTy.one (CTy.int IntKind.i64))))))))) (RTy.cons CTy.boo (RTy.one (CTy.int IntKind.i64)))) s6.m s6.bs s6.clk)) T.nil).node none ((T.nil.node (some (AObj.seq (RTy.one (CTy.int IntKind.i64)) (machs s6.m) none)) T.nil).node (some (AObj.cells false (2 : Nat) (w13 most) (some (71 : Nat)))) T.nil), next := (5 : Nat) } (1 : Nat)
def w60 (most : Int) (s6 : E1) : List Int := seqI { t := ((T.nil.node (some (AObj.cells false (1 : Nat) w39 (some (31 : Nat)))) T.nil).node (some (AObj.smap false true (RTy.one (CTy.int IntKind.i64)) (RTy.cons (CTy.sl (RTy.cons CTy.txt (RTy.cons (CTy.int IntKind.i64) (RTy.cons (CTy.int IntKind.i64) (RTy.cons (CTy.int IntKind.u8) (RTy.cons (CTy.int IntKind.i64) (RTy.cons (CTy.int IntKind.i64) (RTy.one (CTy.int IntKind.i64))))))))) (RTy.cons CTy.boo (RTy.one (CTy.int IntKind.i64)))) s6.m s6.bs s6.clk)) T.nil).node none ((T.nil.node (some (AObj.seq (RTy.one (CTy.int IntKind.i64)) (machs s6.m) none)) T.nil).node (some (AObj.cells false (2 : Nat) (w13 most) (some (71 : Nat)))) T.nil), next := (5 : Nat) } (AV.sw (4 : Nat))
def w61 (s9 : I1) : Int := IntKind.i64.wrap (s9.i + (1 : Int))
def w62 (s10 : D1) : Nat := s10.rows.length
def w63 (s10 : D1) : Int := (↑(w62 s10) : Int)
def w64 (s10 : D1) : Bool := decide (s10.j < w63 s10)
def w65 (most : Int) (s6 : E1) (s10 : D1) : Bool := !decide (((mget s6.m (rowI s10.rows s10.j.toNat)).getD w7).snd.snd < most)
def w66 (most : Int) (s6 : E1) : Int := (↑(w60 most s6).length : Int)
def w67 (s10 : D1) : Nat := loT (some s10.i)
def w68 (s10 : D1) : Nat := hiT (w62 s10) none - w67 s10
def w69 (s10 : D1) : List Int := List.take (w67 s10) s10.rows ++ (List.replicate (w68 s10) (0 : Int) ++ List.drop (w67 s10 + w68 s10) s10.rows)
def w70 (s10 : D1) : Nat := (w69 s10).length
def w71 (s10 : D1) : Int := (↑(hiT (w70 s10) (some s10.i) - (0 : Nat)) : Int)
def w72 (s10 : D1) : Bool := decide (w71 s10 = (1 : Int))
def w73 (most : Int) (s1 : A1) (s10 : D1) : Bool := !w72 s10 == w54 most s1
def w74 (s10 : D1) : Bool := decide ((1 : Int) < w71 s10)
def w75 (b : Int) (most : Int) (s1 : A1) (s6 : E1) (s7 : F1) (s8 : F1) (s10 : D1) : Bool := w48 s6 || (w49 s7 || (w50 s8 || (w51 s1 s7 || (w52 s8 || (w73 most s1 s10 || (w74 s10 || w72 s10 && decide (rowI (w69 s10) (0 : Nat) ≠ b)))))))
def w76 (most : Int) (s6 : E1) : Int := (↑(w41 most s6).length : Int)
def w77 (b : Int) (s1 : A1) : Bool := (mget s1.m b).isSome
def w78 (b : Int) (s1 : A1) : Bool := !w77 b s1
def w79 (b : Int) (s1 : A1) : List Row := ((mget s1.m b).getD w7).fst
def w80 (s12 : E1) : List Int := List.map (fun x => x.fst) s12.m
def w81 (s12 : E1) : Nat := List.length s12.m
def w82 (s12 : E1) : Bool := decide (s12.e = (0 : Int))
def w83 (most : Int) (s12 : E1) : Mp := mOf { t := ((T.nil.node (some (AObj.cells false (1 : Nat) w39 (some (31 : Nat)))) T.nil).node (some (AObj.smap false true (RTy.one (CTy.int IntKind.i64)) (RTy.cons (CTy.sl (RTy.cons CTy.txt (RTy.cons (CTy.int IntKind.i64) (RTy.cons (CTy.int IntKind.i64) (RTy.cons (CTy.int IntKind.u8) (RTy.cons (CTy.int IntKind.i64) (RTy.cons (CTy.int IntKind.i64) (RTy.one (CTy.int IntKind.i64))))))))) (RTy.cons CTy.boo (RTy.one (CTy.int IntKind.i64)))) s12.m s12.bs s12.clk)) T.nil).node none ((T.nil.node (some (AObj.seq (RTy.one (CTy.int IntKind.i64)) (machs s12.m) none)) T.nil).node (some (AObj.cells false (2 : Nat) (w13 most) (some (71 : Nat)))) T.nil), next := (5 : Nat), d := (24 : Nat) } (1 : Nat)
def w84 (most : Int) (s12 : E1) : List Int := seqI { t := ((T.nil.node (some (AObj.cells false (1 : Nat) w39 (some (31 : Nat)))) T.nil).node (some (AObj.smap false true (RTy.one (CTy.int IntKind.i64)) (RTy.cons (CTy.sl (RTy.cons CTy.txt (RTy.cons (CTy.int IntKind.i64) (RTy.cons (CTy.int IntKind.i64) (RTy.cons (CTy.int IntKind.u8) (RTy.cons (CTy.int IntKind.i64) (RTy.cons (CTy.int IntKind.i64) (RTy.one (CTy.int IntKind.i64))))))))) (RTy.cons CTy.boo (RTy.one (CTy.int IntKind.i64)))) s12.m s12.bs s12.clk)) T.nil).node none ((T.nil.node (some (AObj.seq (RTy.one (CTy.int IntKind.i64)) (machs s12.m) none)) T.nil).node (some (AObj.cells false (2 : Nat) (w13 most) (some (71 : Nat)))) T.nil), next := (5 : Nat), d := (24 : Nat) } (AV.sw (4 : Nat))
def w85 (s12 : E1) : Int := (↑(machs s12.m).length : Int)
def w86 (s12 : E1) : List (Int × Seen) := s12.m
def w87 (s12 : E1) : List Int := (machs s12.m)
def w88 (s12 : E1) (s13 : I1) : Bool := decide (s13.i < w85 s12)
def w89 (most : Int) (s12 : E1) (s13 : I1) : Bool := decide (((mget s12.m (rowI (machs s12.m) s13.i.toNat)).getD w7).snd.snd < most)
def w90 (s13 : I1) : Bool := decide (s13.i = w46)
def w91 (s12 : E1) : Bool := decide (w85 s12 = (0 : Int))
def w92 (most : Int) (s12 : E1) : Mp := mOf { t := ((T.nil.node (some (AObj.cells false (1 : Nat) w39 (some (31 : Nat)))) T.nil).node (some (AObj.smap false true (RTy.one (CTy.int IntKind.i64)) (RTy.cons (CTy.sl (RTy.cons CTy.txt (RTy.cons (CTy.int IntKind.i64) (RTy.cons (CTy.int IntKind.i64) (RTy.cons (CTy.int IntKind.u8) (RTy.cons (CTy.int IntKind.i64) (RTy.cons (CTy.int IntKind.i64) (RTy.one (CTy.int IntKind.i64))))))))) (RTy.cons CTy.boo (RTy.one (CTy.int IntKind.i64)))) s12.m s12.bs s12.clk)) T.nil).node none ((T.nil.node (some (AObj.seq (RTy.one (CTy.int IntKind.i64)) (machs s12.m) none)) T.nil).node (some (AObj.cells false (2 : Nat) (w13 most) (some (71 : Nat)))) T.nil), next := (5 : Nat) } (1 : Nat)
def w93 (most : Int) (s12 : E1) : List Int := seqI { t := ((T.nil.node (some (AObj.cells false (1 : Nat) w39 (some (31 : Nat)))) T.nil).node (some (AObj.smap false true (RTy.one (CTy.int IntKind.i64)) (RTy.cons (CTy.sl (RTy.cons CTy.txt (RTy.cons (CTy.int IntKind.i64) (RTy.cons (CTy.int IntKind.i64) (RTy.cons (CTy.int IntKind.u8) (RTy.cons (CTy.int IntKind.i64) (RTy.cons (CTy.int IntKind.i64) (RTy.one (CTy.int IntKind.i64))))))))) (RTy.cons CTy.boo (RTy.one (CTy.int IntKind.i64)))) s12.m s12.bs s12.clk)) T.nil).node none ((T.nil.node (some (AObj.seq (RTy.one (CTy.int IntKind.i64)) (machs s12.m) none)) T.nil).node (some (AObj.cells false (2 : Nat) (w13 most) (some (71 : Nat)))) T.nil), next := (5 : Nat) } (AV.sw (4 : Nat))
def w94 (s13 : I1) : Int := IntKind.i64.wrap (s13.i + (1 : Int))
def w95 (s14 : D1) : Nat := s14.rows.length
def w96 (s14 : D1) : Int := (↑(w95 s14) : Int)
def w97 (s14 : D1) : Bool := decide (s14.j < w96 s14)
def w98 (most : Int) (s12 : E1) (s14 : D1) : Bool := !decide (((mget s12.m (rowI s14.rows s14.j.toNat)).getD w7).snd.snd < most)
def w99 (most : Int) (s12 : E1) : Int := (↑(w93 most s12).length : Int)
def w100 (s14 : D1) : Nat := loT (some s14.i)
def w101 (s14 : D1) : Nat := hiT (w95 s14) none - w100 s14
def w102 (s14 : D1) : Nat := (List.take (w100 s14) s14.rows ++ (List.replicate (w101 s14) (0 : Int) ++ List.drop (w100 s14 + w101 s14) s14.rows)).length
def w103 (most : Int) (s12 : E1) : Int := (↑(w84 most s12).length : Int)
def part0 (s1 : A1) : Prop := ∀ (p1 : Int × Seen), p1 ∈ s1.m →
 (RTy.one (CTy.int IntKind.i64)).Has p1.fst ∧
 (RTy.cons (CTy.sl (RTy.cons CTy.txt (RTy.cons (CTy.int IntKind.i64) (RTy.cons (CTy.int IntKind.i64) (RTy.cons (CTy.int IntKind.u8) (RTy.cons (CTy.int IntKind.i64) (RTy.cons (CTy.int IntKind.i64) (RTy.one (CTy.int IntKind.i64))))))))) (RTy.cons CTy.boo (RTy.one (CTy.int IntKind.i64)))).Has p1.snd
def part1 (s3 : B1) : Prop := ∀ (p3 : Int × Seen), p3 ∈ s3.m →
 (RTy.one (CTy.int IntKind.i64)).Has p3.fst ∧
 (RTy.cons (CTy.sl (RTy.cons CTy.txt (RTy.cons (CTy.int IntKind.i64) (RTy.cons (CTy.int IntKind.i64) (RTy.cons (CTy.int IntKind.u8) (RTy.cons (CTy.int IntKind.i64) (RTy.cons (CTy.int IntKind.i64) (RTy.one (CTy.int IntKind.i64))))))))) (RTy.cons CTy.boo (RTy.one (CTy.int IntKind.i64)))).Has p3.snd
def part2 : Prop := Code.region (15 : Nat) w30.toArray false = Code.region (15 : Nat) w30.toArray false ∧
 Code.block (3 : Nat) (Code.region (16 : Nat) w31.toArray false) = Code.block (3 : Nat) (Code.region (16 : Nat) w31.toArray false)
def part3 (s6 : E1) : Prop := ∀ (p4 : Int × Seen), p4 ∈ s6.m →
 (RTy.one (CTy.int IntKind.i64)).Has p4.fst ∧
 (RTy.cons (CTy.sl (RTy.cons CTy.txt (RTy.cons (CTy.int IntKind.i64) (RTy.cons (CTy.int IntKind.i64) (RTy.cons (CTy.int IntKind.u8) (RTy.cons (CTy.int IntKind.i64) (RTy.cons (CTy.int IntKind.i64) (RTy.one (CTy.int IntKind.i64))))))))) (RTy.cons CTy.boo (RTy.one (CTy.int IntKind.i64)))).Has p4.snd
def part4 (most : Int) (s6 : E1) : Prop := w37 s6 = s6.m ∧
 s6.bs = s6.bs ∧
 s6.clk = s6.clk ∧
 most = most
def part5 (most : Int) (s6 : E1) : Prop := w42 s6 = w42 s6 ∧
 w37 s6 = s6.m ∧
 s6.bs = s6.bs ∧
 s6.clk = s6.clk ∧
 most = most ∧
 w43 s6 = machs s6.m
def part6 (a : Int) (b : Int) (most : Int) (iv : Invs) (s1 : A1) (s6 : E1) : Prop := ∃ s'8, iv.1 s'8 ∧
 (w58 most - s'8.i).toNat < (w58 most - s1.i).toNat ∧
 IntKind.i64.wrap (s1.i + (1 : Int)) = s'8.i ∧
 a = a ∧
 b = b ∧
 most = most ∧
 w37 s6 = s'8.m ∧
 s6.bs = s'8.bs ∧
 s6.clk = s'8.clk ∧
 most = most
def part7 (a : Int) (b : Int) (most : Int) (iv : Invs) (s1 : A1) (s6 : E1) (s7 : F1) (s8 : F1) : Prop := (w48 s6 = false →
 w49 s7 = false →
 w50 s8 = false →
 w51 s1 s7 = false →
 w52 s8 = false →
 w55 most s1 s6 = false →
 w56 s6 = false →
 w53 s6 = true →
 (0 : Int) ≤ (0 : Int) ∧
 (0 : Int) < w42 s6) ∧
 (w57 b most s1 s6 s7 s8 = true →
 false = true) ∧
 ((!w57 b most s1 s6 s7 s8) = true →
 part6 a b most iv s1 s6)
def part8 (s12 : E1) : Prop := ∀ (p5 : Int × Seen), p5 ∈ s12.m →
 (RTy.one (CTy.int IntKind.i64)).Has p5.fst ∧
 (RTy.cons (CTy.sl (RTy.cons CTy.txt (RTy.cons (CTy.int IntKind.i64) (RTy.cons (CTy.int IntKind.i64) (RTy.cons (CTy.int IntKind.u8) (RTy.cons (CTy.int IntKind.i64) (RTy.cons (CTy.int IntKind.i64) (RTy.one (CTy.int IntKind.i64))))))))) (RTy.cons CTy.boo (RTy.one (CTy.int IntKind.i64)))).Has p5.snd
def part9 (most : Int) (s12 : E1) : Prop := w85 s12 = w85 s12 ∧
 w86 s12 = s12.m ∧
 s12.bs = s12.bs ∧
 s12.clk = s12.clk ∧
 most = most ∧
 w87 s12 = machs s12.m
def owed (a b most : Int) (iv : Invs) : Prop :=
  (w1 a b = true →
 true = true) ∧
 ((!w1 a b) = true →
 (w3 a b = true →
 true = true) ∧
 ((!w3 a b) = true →
 (w4 most = true →
 true = true) ∧
 (w5 most = true →
 (∃ s', iv.7 s' ∧
 most = most ∧
 w0 a b = w0 a b ∧
 w2 a b = w2 a b ∧
 w6 = w6 ∧
 ([] : List Nat) = [] ∧
 (0 : Nat) = (0 : Nat) ∧
 ([] : List Int).Nodup ∧
 most = most) ∧
 ∀ (s : U1), iv.7 s →
 IntKind.i64.has most →
 IntKind.i64.has (w0 a b) →
 IntKind.i64.has (w2 a b) →
 ([] : List Int).Nodup →
 (∀ (p : Int × Seen), p ∈ w6 →
 (RTy.one (CTy.int IntKind.i64)).Has p.fst ∧
 (RTy.cons (CTy.sl (RTy.cons CTy.txt (RTy.cons (CTy.int IntKind.i64) (RTy.cons (CTy.int IntKind.i64) (RTy.cons (CTy.int IntKind.u8) (RTy.cons (CTy.int IntKind.i64) (RTy.cons (CTy.int IntKind.i64) (RTy.one (CTy.int IntKind.i64))))))))) (RTy.cons CTy.boo (RTy.one (CTy.int IntKind.i64)))).Has p.snd) →
 ((0 : Nat) = (0 : Nat) ∧
 ([] : List Nat).Nodup ∧
 ∀ (b1 : Nat), b1 ∈ [] →
 b1 < (0 : Nat)) →
 IntKind.i64.has most →
 (w4 most = true →
 false = true) ∧
 (w5 most = true →
 ∃ s0, iv.1 s0 ∧
 ((1 : Int) = s0.i ∧
 a = a ∧
 b = b ∧
 most = most ∧
 (mput (w8 a b) (w2 a b) w7) = s0.m ∧
 bput (w8 a b) [(0 : Nat)] (1 : Nat) (w2 a b) = s0.bs ∧
 cput (w8 a b) (1 : Nat) (w2 a b) = s0.clk ∧
 most = most) ∧
 ∀ (s1 : A1), iv.1 s1 →
 IntKind.i64.has a →
 IntKind.i64.has b →
 IntKind.i64.has s1.i →
 IntKind.i64.has most →
 (w9 s1).Nodup →
 part0 s1 →
 (s1.bs.length = w10 s1 ∧
 s1.bs.Nodup ∧
 ∀ (b2 : Nat), b2 ∈ s1.bs →
 b2 < s1.clk) →
 IntKind.i64.has most →
 (w12 most s1 = true →
 (List.length s1.m ≤ (1000 : Nat) ∧
 ∃ s01, iv.9 (w14 most s1) (w15 most s1) s01 ∧
 ((0 : Int) = s01.k ∧
 w16 s1 = w16 s1 ∧
 w17 s1 = s01.m ∧
 s1.bs = s01.bs ∧
 s1.clk = s01.clk ∧
 most = most ∧
 w18 s1 = machs s1.m) ∧
 ∀ (s2 : P1), iv.9 (w14 most s1) (w15 most s1) s2 →
 IntKind.i64.has s2.k →
 IntKind.i64.has (w16 s1) →
 (List.map (fun x => x.fst) s2.m).Nodup →
 (∀ (p2 : Int × Seen), p2 ∈ s2.m →
 (RTy.one (CTy.int IntKind.i64)).Has p2.fst ∧
 (RTy.cons (CTy.sl (RTy.cons CTy.txt (RTy.cons (CTy.int IntKind.i64) (RTy.cons (CTy.int IntKind.i64) (RTy.cons (CTy.int IntKind.u8) (RTy.cons (CTy.int IntKind.i64) (RTy.cons (CTy.int IntKind.i64) (RTy.one (CTy.int IntKind.i64))))))))) (RTy.cons CTy.boo (RTy.one (CTy.int IntKind.i64)))).Has p2.snd) →
 (s2.bs.length = List.length s2.m ∧
 s2.bs.Nodup ∧
 ∀ (b3 : Nat), b3 ∈ s2.bs →
 b3 < s2.clk) →
 (∀ (row : Int), row ∈ machs s1.m →
 (RTy.one (CTy.int IntKind.i64)).Has row) →
 IntKind.i64.has most →
 (w19 s1 s2 = true →
 ((0 : Int) ≤ s2.k ∧
 s2.k < w16 s1) ∧
 ∃ s'1, iv.9 (w14 most s1) (w15 most s1) s'1 ∧
 (w20 most s1 - s'1.k).toNat < (w20 most s1 - s2.k).toNat ∧
 IntKind.i64.wrap (s2.k + (1 : Int)) = s'1.k ∧
 w16 s1 = w16 s1 ∧
 (mput s2.m (rowI (machs s1.m) s2.k.toNat) (((mget s2.m (rowI (machs s1.m) s2.k.toNat)).getD w7).fst, ((mget s2.m (rowI (machs s1.m) s2.k.toNat)).getD w7).snd.fst, min (IntKind.i64.wrap (((mget s2.m (rowI (machs s1.m) s2.k.toNat)).getD w7).snd.snd + (1 : Int))) (1000 : Int))) = s'1.m ∧
 bput s2.m s2.bs s2.clk (rowI (machs s1.m) s2.k.toNat) = s'1.bs ∧
 cput s2.m s2.clk (rowI (machs s1.m) s2.k.toNat) = s'1.clk ∧
 most = most ∧
 w18 s1 = machs s1.m) ∧
 ((!w19 s1 s2) = true →
 ∃ s'2, iv.2 (w21 a b most s1) (w22 most s1) s'2 ∧
 a = a ∧
 b = b ∧
 most = most ∧
 s1.i = s1.i ∧
 s2.m = s'2.m ∧
 s2.bs = s'2.bs ∧
 s2.clk = s'2.clk ∧
 most = most)) ∧
 ∀ (s3 : B1), iv.2 (w21 a b most s1) (w22 most s1) s3 →
 IntKind.i64.has a →
 IntKind.i64.has b →
 IntKind.i64.has s1.i →
 IntKind.i64.has most →
 (w23 s3).Nodup →
 part1 s3 →
 (s3.bs.length = w24 s3 ∧
 s3.bs.Nodup ∧
 ∀ (b4 : Nat), b4 ∈ s3.bs →
 b4 < s3.clk) →
 IntKind.i64.has most →
 ((w26 a s3 = true →
 ∃ s'3, iv.3 (w27 most s3) s'3 ∧
 (5 : Int) = s'3.e ∧
 a = a ∧
 b = b ∧
 most = most ∧
 s1.i = s1.i ∧
 w28 s3 = s'3.m ∧
 s3.bs = s'3.bs ∧
 s3.clk = s'3.clk ∧
 most = most) ∧
 ((!w26 a s3) = true →
 ∃ s02, iv.7 s02 ∧
 (w28 s3 = s3.m ∧
 s3.bs = s3.bs ∧
 s3.clk = s3.clk ∧
 most = most ∧
 w29 a s3 = ((mget s3.m a).getD w7).fst ∧
 ((mget s3.m a).getD w7).snd.fst = ((mget s3.m a).getD w7).snd.fst ∧
 ((mget s3.m a).getD w7).snd.snd = ((mget s3.m a).getD w7).snd.snd ∧
 w29 a s3 = [] ∧
 ([] : List Row) = [] ∧
 a = a ∧
 w29 a s3 = ((mget s3.m a).getD w7).fst ∧
 ((mget s3.m a).getD w7).snd.fst = ((mget s3.m a).getD w7).snd.fst ∧
 ((mget s3.m a).getD w7).snd.snd = ((mget s3.m a).getD w7).snd.snd ∧
 w29 a s3 = ((mget s3.m a).getD w7).fst ∧
 w25 a s3 = w25 a s3 ∧
 w25 a s3 = w25 a s3 ∧
 a = a ∧
 w29 a s3 = ((mget s3.m a).getD w7).fst ∧
 ((mget s3.m a).getD w7).snd.fst = ((mget s3.m a).getD w7).snd.fst ∧
 ((mget s3.m a).getD w7).snd.snd = ((mget s3.m a).getD w7).snd.snd ∧
 w25 a s3 = w25 a s3 ∧
 w25 a s3 = w25 a s3 ∧
 w26 a s3 = w26 a s3 ∧
 w29 a s3 = ((mget s3.m a).getD w7).fst ∧
 ((mget s3.m a).getD w7).snd.fst = ((mget s3.m a).getD w7).snd.fst ∧
 ((mget s3.m a).getD w7).snd.snd = ((mget s3.m a).getD w7).snd.snd ∧
 w25 a s3 = w25 a s3 ∧
 part2) ∧
 ∀ (s4 : U1), iv.7 s4 →
 (w23 s3).Nodup →
 part1 s3 →
 (s3.bs.length = w24 s3 ∧
 s3.bs.Nodup ∧
 ∀ (b4 : Nat), b4 ∈ s3.bs →
 b4 < s3.clk) →
 (CTy.sl (RTy.cons CTy.txt (RTy.cons (CTy.int IntKind.i64) (RTy.cons (CTy.int IntKind.i64) (RTy.cons (CTy.int IntKind.u8) (RTy.cons (CTy.int IntKind.i64) (RTy.cons (CTy.int IntKind.i64) (RTy.one (CTy.int IntKind.i64))))))))).Has ((mget s3.m a).getD w7).fst →
 IntKind.i64.has ((mget s3.m a).getD w7).snd.snd →
 (CTy.sl (RTy.cons CTy.txt (RTy.cons (CTy.int IntKind.i64) (RTy.cons (CTy.int IntKind.i64) (RTy.cons (CTy.int IntKind.u8) (RTy.cons (CTy.int IntKind.i64) (RTy.cons (CTy.int IntKind.i64) (RTy.one (CTy.int IntKind.i64))))))))).Has [] →
 IntKind.i64.has most →
 (CTy.sl (RTy.cons CTy.txt (RTy.cons (CTy.int IntKind.i64) (RTy.cons (CTy.int IntKind.i64) (RTy.cons (CTy.int IntKind.u8) (RTy.cons (CTy.int IntKind.i64) (RTy.cons (CTy.int IntKind.i64) (RTy.one (CTy.int IntKind.i64))))))))).Has [] →
 (false = true →
 (∃ s'4, iv.8 s'4 ∧
 True) ∧
 ∀ (s5 : U1), iv.8 s5 →
 Stuck "shard.go:90") ∧
 (true = true →
 a = a ∧
 ∃ s'5, iv.3 (w27 most s3) s'5 ∧
 (0 : Int) = s'5.e ∧
 a = a ∧
 b = b ∧
 most = most ∧
 s1.i = s1.i ∧
 (mput s3.m a w32) = s'5.m ∧
 bput s3.m s3.bs s3.clk a = s'5.bs ∧
 cput s3.m s3.clk a = s'5.clk ∧
 most = most))) ∧
 ∀ (s6 : E1), iv.3 (w27 most s3) s6 →
 IntKind.i64.has a →
 IntKind.i64.has b →
 IntKind.i64.has s6.e →
 IntKind.i64.has s1.i →
 IntKind.i64.has most →
 (w33 s6).Nodup →
 part3 s6 →
 (s6.bs.length = w34 s6 ∧
 s6.bs.Nodup ∧
 ∀ (b5 : Nat), b5 ∈ s6.bs →
 b5 < s6.clk) →
 IntKind.i64.has most →
 (∃ s'6, iv.4 (w35 most s6) s'6 ∧
 (bif w36 b s6 then ((mget s6.m b).getD w7).snd.snd else (0 : Int)) = s'6.n ∧
 (bif w36 b s6 then (0 : Int) else (5 : Int)) = s'6.e ∧
 a = a ∧
 b = b ∧
 most = most ∧
 s1.i = s1.i ∧
 s6.e = s6.e ∧
 part4 most s6) ∧
 ∀ (s7 : F1), iv.4 (w35 most s6) s7 →
 IntKind.i64.has a →
 IntKind.i64.has b →
 IntKind.i64.has s6.e →
 IntKind.i64.has s1.i →
 IntKind.i64.has s7.e →
 IntKind.i64.has most →
 IntKind.i64.has s7.n →
 (w33 s6).Nodup →
 part3 s6 →
 (s6.bs.length = w34 s6 ∧
 s6.bs.Nodup ∧
 ∀ (b5 : Nat), b5 ∈ s6.bs →
 b5 < s6.clk) →
 IntKind.i64.has most →
 (∃ s'7, iv.5 (w35 most s6) s'7 ∧
 (bif w38 a s6 then ((mget s6.m a).getD w7).snd.snd else (0 : Int)) = s'7.n ∧
 (bif w38 a s6 then (0 : Int) else (5 : Int)) = s'7.e ∧
 a = a ∧
 b = b ∧
 most = most ∧
 s1.i = s1.i ∧
 s6.e = s6.e ∧
 s7.n = s7.n ∧
 s7.e = s7.e ∧
 part4 most s6) ∧
 ∀ (s8 : F1), iv.5 (w35 most s6) s8 →
 IntKind.i64.has a →
 IntKind.i64.has b →
 IntKind.i64.has s8.e →
 IntKind.i64.has s6.e →
 IntKind.i64.has s1.i →
 IntKind.i64.has s7.e →
 IntKind.i64.has most →
 IntKind.i64.has s7.n →
 IntKind.i64.has s8.n →
 (w33 s6).Nodup →
 part3 s6 →
 (s6.bs.length = w34 s6 ∧
 s6.bs.Nodup ∧
 ∀ (b5 : Nat), b5 ∈ s6.bs →
 b5 < s6.clk) →
 IntKind.i64.has most →
 List.length s6.m ≤ (1000 : Nat) ∧
 ∃ s03, iv.10 (w40 most s6) (w41 most s6) s03 ∧
 ((0 : Int) = s03.i ∧
 part5 most s6) ∧
 ∀ (s9 : I1), iv.10 (w40 most s6) (w41 most s6) s9 →
 IntKind.i64.has (w42 s6) →
 IntKind.i64.has s9.i →
 (w33 s6).Nodup →
 part3 s6 →
 (s6.bs.length = w34 s6 ∧
 s6.bs.Nodup ∧
 ∀ (b5 : Nat), b5 ∈ s6.bs →
 b5 < s6.clk) →
 IntKind.i64.has most →
 (∀ (row1 : Int), row1 ∈ machs s6.m →
 (RTy.one (CTy.int IntKind.i64)).Has row1) →
 (w44 s6 s9 = true →
 ((0 : Int) ≤ s9.i ∧
 s9.i < w42 s6) ∧
 (w45 most s6 s9 = true →
 (w47 s9 = true →
 part7 a b most iv s1 s6 s7 s8) ∧
 ((!w47 s9) = true →
 ∃ s04, iv.11 (w59 most s6) (w60 most s6) s04 ∧
 (s9.i = s04.i ∧
 w61 s9 = s04.j ∧
 w37 s6 = s6.m ∧
 s6.bs = s6.bs ∧
 s6.clk = s6.clk ∧
 most = most ∧
 w43 s6 = s04.rows) ∧
 ∀ (s10 : D1), iv.11 (w59 most s6) (w60 most s6) s10 →
 IntKind.i64.has s10.i →
 IntKind.i64.has s10.j →
 (w33 s6).Nodup →
 part3 s6 →
 (s6.bs.length = w34 s6 ∧
 s6.bs.Nodup ∧
 ∀ (b5 : Nat), b5 ∈ s6.bs →
 b5 < s6.clk) →
 IntKind.i64.has most →
 (∀ (row2 : Int), row2 ∈ s10.rows →
 (RTy.one (CTy.int IntKind.i64)).Has row2) →
 (w64 s10 = true →
 ((0 : Int) ≤ s10.j ∧
 s10.j < w63 s10) ∧
 (w65 most s6 s10 = true →
 (0 : Int) ≤ s10.i ∧
 s10.i < w63 s10) ∧
 ∃ s'9, iv.11 (w59 most s6) (w60 most s6) s'9 ∧
 (w66 most s6 - s'9.j).toNat < (w66 most s6 - s10.j).toNat ∧
 (bif w65 most s6 s10 then IntKind.i64.wrap (s10.i + (1 : Int)) else s10.i) = s'9.i ∧
 IntKind.i64.wrap (s10.j + (1 : Int)) = s'9.j ∧
 w37 s6 = s6.m ∧
 s6.bs = s6.bs ∧
 s6.clk = s6.clk ∧
 most = most ∧
 (bif w65 most s6 s10 then (s10.rows.set s10.i.toNat (rowI s10.rows s10.j.toNat)) else s10.rows) = s'9.rows) ∧
 ((!w64 s10) = true →
 ((0 : Int) ≤ s10.i ∧
 s10.i ≤ w63 s10) ∧
 ((0 : Int) ≤ s10.i ∧
 s10.i ≤ (↑(w70 s10) : Int)) ∧
 (w48 s6 = false →
 w49 s7 = false →
 w50 s8 = false →
 w51 s1 s7 = false →
 w52 s8 = false →
 w73 most s1 s10 = false →
 w74 s10 = false →
 w72 s10 = true →
 (0 : Int) ≤ (0 : Int) ∧
 (0 : Int) < w71 s10) ∧
 (w75 b most s1 s6 s7 s8 s10 = true →
 false = true) ∧
 ((!w75 b most s1 s6 s7 s8 s10) = true →
 part6 a b most iv s1 s6)))) ∧
 ((!w45 most s6 s9) = true →
 ∃ s'10, iv.10 (w40 most s6) (w41 most s6) s'10 ∧
 (w76 most s6 - s'10.i).toNat < (w76 most s6 - s9.i).toNat ∧
 w61 s9 = s'10.i ∧
 part5 most s6)) ∧
 ((!w44 s6 s9) = true →
 part7 a b most iv s1 s6 s7 s8)) ∧
 ((!w12 most s1) = true →
 ((w78 b s1 = true →
 ∃ s'11, iv.6 (w22 most s1) s'11 ∧
 (5 : Int) = s'11.e ∧
 a = a ∧
 b = b ∧
 most = most ∧
 w17 s1 = s'11.m ∧
 s1.bs = s'11.bs ∧
 s1.clk = s'11.clk ∧
 most = most) ∧
 ((!w78 b s1) = true →
 ∃ s05, iv.7 s05 ∧
 (w17 s1 = s1.m ∧
 s1.bs = s1.bs ∧
 s1.clk = s1.clk ∧
 most = most ∧
 w79 b s1 = ((mget s1.m b).getD w7).fst ∧
 ((mget s1.m b).getD w7).snd.fst = ((mget s1.m b).getD w7).snd.fst ∧
 ((mget s1.m b).getD w7).snd.snd = ((mget s1.m b).getD w7).snd.snd ∧
 w79 b s1 = [] ∧
 ([] : List Row) = [] ∧
 b = b ∧
 w79 b s1 = ((mget s1.m b).getD w7).fst ∧
 ((mget s1.m b).getD w7).snd.fst = ((mget s1.m b).getD w7).snd.fst ∧
 ((mget s1.m b).getD w7).snd.snd = ((mget s1.m b).getD w7).snd.snd ∧
 w79 b s1 = ((mget s1.m b).getD w7).fst ∧
 w77 b s1 = w77 b s1 ∧
 w77 b s1 = w77 b s1 ∧
 b = b ∧
 w79 b s1 = ((mget s1.m b).getD w7).fst ∧
 ((mget s1.m b).getD w7).snd.fst = ((mget s1.m b).getD w7).snd.fst ∧
 ((mget s1.m b).getD w7).snd.snd = ((mget s1.m b).getD w7).snd.snd ∧
 w77 b s1 = w77 b s1 ∧
 w77 b s1 = w77 b s1 ∧
 w78 b s1 = w78 b s1 ∧
 w79 b s1 = ((mget s1.m b).getD w7).fst ∧
 ((mget s1.m b).getD w7).snd.fst = ((mget s1.m b).getD w7).snd.fst ∧
 ((mget s1.m b).getD w7).snd.snd = ((mget s1.m b).getD w7).snd.snd ∧
 w77 b s1 = w77 b s1 ∧
 part2) ∧
 ∀ (s11 : U1), iv.7 s11 →
 (w9 s1).Nodup →
 part0 s1 →
 (s1.bs.length = w10 s1 ∧
 s1.bs.Nodup ∧
 ∀ (b2 : Nat), b2 ∈ s1.bs →
 b2 < s1.clk) →
 (CTy.sl (RTy.cons CTy.txt (RTy.cons (CTy.int IntKind.i64) (RTy.cons (CTy.int IntKind.i64) (RTy.cons (CTy.int IntKind.u8) (RTy.cons (CTy.int IntKind.i64) (RTy.cons (CTy.int IntKind.i64) (RTy.one (CTy.int IntKind.i64))))))))).Has ((mget s1.m b).getD w7).fst →
 IntKind.i64.has ((mget s1.m b).getD w7).snd.snd →
 (CTy.sl (RTy.cons CTy.txt (RTy.cons (CTy.int IntKind.i64) (RTy.cons (CTy.int IntKind.i64) (RTy.cons (CTy.int IntKind.u8) (RTy.cons (CTy.int IntKind.i64) (RTy.cons (CTy.int IntKind.i64) (RTy.one (CTy.int IntKind.i64))))))))).Has [] →
 IntKind.i64.has most →
 (CTy.sl (RTy.cons CTy.txt (RTy.cons (CTy.int IntKind.i64) (RTy.cons (CTy.int IntKind.i64) (RTy.cons (CTy.int IntKind.u8) (RTy.cons (CTy.int IntKind.i64) (RTy.cons (CTy.int IntKind.i64) (RTy.one (CTy.int IntKind.i64))))))))).Has [] →
 (false = true →
 (∃ s'4, iv.8 s'4 ∧
 True) ∧
 ∀ (s5 : U1), iv.8 s5 →
 Stuck "shard.go:90") ∧
 (true = true →
 b = b ∧
 ∃ s'12, iv.6 (w22 most s1) s'12 ∧
 (0 : Int) = s'12.e ∧
 a = a ∧
 b = b ∧
 most = most ∧
 (mput s1.m b w32) = s'12.m ∧
 bput s1.m s1.bs s1.clk b = s'12.bs ∧
 cput s1.m s1.clk b = s'12.clk ∧
 most = most))) ∧
 ∀ (s12 : E1), iv.6 (w22 most s1) s12 →
 IntKind.i64.has a →
 IntKind.i64.has b →
 IntKind.i64.has most →
 IntKind.i64.has s12.e →
 (w80 s12).Nodup →
 part8 s12 →
 (s12.bs.length = w81 s12 ∧
 s12.bs.Nodup ∧
 ∀ (b6 : Nat), b6 ∈ s12.bs →
 b6 < s12.clk) →
 IntKind.i64.has most →
 (w82 s12 = true →
 List.length s12.m ≤ (1000 : Nat) ∧
 ∃ s06, iv.10 (w83 most s12) (w84 most s12) s06 ∧
 ((0 : Int) = s06.i ∧
 part9 most s12) ∧
 ∀ (s13 : I1), iv.10 (w83 most s12) (w84 most s12) s13 →
 IntKind.i64.has (w85 s12) →
 IntKind.i64.has s13.i →
 (w80 s12).Nodup →
 part8 s12 →
 (s12.bs.length = w81 s12 ∧
 s12.bs.Nodup ∧
 ∀ (b6 : Nat), b6 ∈ s12.bs →
 b6 < s12.clk) →
 IntKind.i64.has most →
 (∀ (row3 : Int), row3 ∈ machs s12.m →
 (RTy.one (CTy.int IntKind.i64)).Has row3) →
 (w88 s12 s13 = true →
 ((0 : Int) ≤ s13.i ∧
 s13.i < w85 s12) ∧
 (w89 most s12 s13 = true →
 (w90 s13 = true →
 w91 s12 = true) ∧
 ((!w90 s13) = true →
 ∃ s07, iv.11 (w92 most s12) (w93 most s12) s07 ∧
 (s13.i = s07.i ∧
 w94 s13 = s07.j ∧
 w86 s12 = s12.m ∧
 s12.bs = s12.bs ∧
 s12.clk = s12.clk ∧
 most = most ∧
 w87 s12 = s07.rows) ∧
 ∀ (s14 : D1), iv.11 (w92 most s12) (w93 most s12) s14 →
 IntKind.i64.has s14.i →
 IntKind.i64.has s14.j →
 (w80 s12).Nodup →
 part8 s12 →
 (s12.bs.length = w81 s12 ∧
 s12.bs.Nodup ∧
 ∀ (b6 : Nat), b6 ∈ s12.bs →
 b6 < s12.clk) →
 IntKind.i64.has most →
 (∀ (row4 : Int), row4 ∈ s14.rows →
 (RTy.one (CTy.int IntKind.i64)).Has row4) →
 (w97 s14 = true →
 ((0 : Int) ≤ s14.j ∧
 s14.j < w96 s14) ∧
 (w98 most s12 s14 = true →
 (0 : Int) ≤ s14.i ∧
 s14.i < w96 s14) ∧
 ∃ s'13, iv.11 (w92 most s12) (w93 most s12) s'13 ∧
 (w99 most s12 - s'13.j).toNat < (w99 most s12 - s14.j).toNat ∧
 (bif w98 most s12 s14 then IntKind.i64.wrap (s14.i + (1 : Int)) else s14.i) = s'13.i ∧
 IntKind.i64.wrap (s14.j + (1 : Int)) = s'13.j ∧
 w86 s12 = s12.m ∧
 s12.bs = s12.bs ∧
 s12.clk = s12.clk ∧
 most = most ∧
 (bif w98 most s12 s14 then (s14.rows.set s14.i.toNat (rowI s14.rows s14.j.toNat)) else s14.rows) = s'13.rows) ∧
 ((!w97 s14) = true →
 ((0 : Int) ≤ s14.i ∧
 s14.i ≤ w96 s14) ∧
 ((0 : Int) ≤ s14.i ∧
 s14.i ≤ (↑(w102 s14) : Int)) ∧
 decide ((↑(hiT (w102 s14) (some s14.i) - (0 : Nat)) : Int) = (0 : Int)) = true))) ∧
 ((!w89 most s12 s13) = true →
 ∃ s'14, iv.10 (w83 most s12) (w84 most s12) s'14 ∧
 (w103 most s12 - s'14.i).toNat < (w103 most s12 - s13.i).toNat ∧
 w94 s13 = s'14.i ∧
 part9 most s12)) ∧
 ((!w88 s12 s13) = true →
 w91 s12 = true)) ∧
 (w82 s12 = false →
 false = true))))))

theorem owed_eq (a b most : Int) (iv : Invs) : owed a b most iv = vTop Try.prog S3 (LL most iv) 20000 5 [.sI .i64 a, .sI .i64 b, .sI .i64 most] H0 (fun v _ => isB v true) := by kernel_rfl
end
end Go.Proofs.Ytdohdhphpjhcjaa.Sh.Si
