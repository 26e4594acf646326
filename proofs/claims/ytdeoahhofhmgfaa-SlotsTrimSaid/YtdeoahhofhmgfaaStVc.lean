/- A part of the proof that 'reevelaw15.SlotsTrim' returns true for every input. No condition. -/
import Derived.Test.YtdeoahhofhmgfaaAmJ
import Derived.KernelRfl
import Derived.Test.YtdeoahhofhmgfaaProg
namespace Go.Proofs.Ytdeoahhofhmgfaa.SlotsTrim
open Go.AM
noncomputable section
/-- A region's operations, by its number. -/
def regGo (k : Nat) : Code → Option (List Oper)
  | .region j ops _ => bif Nat.beq j k then some ops.toList else none
  | .seq a b => (regGo k a).orElse fun _ => regGo k b
  | .cond _ a b => (regGo k a).orElse fun _ => regGo k b
  | .rangeFunc _ _ a b => (regGo k a).orElse fun _ => regGo k b
  | .block _ a => regGo k a
  | .loop a => regGo k a
  | .scope a => regGo k a
  | _ => none
def regOps (P : Program) (f : FuncId) (k : Nat) : List Oper := ((P.funcs[f]?.bind Func.body).bind (regGo k)).getD []
def S1 : SumP := fun f args _ => match f, args with
  | 40, [] => some (.val (.bool true))
  | _, _ => none
def vR : RTy := .one .txt
def kR : RTy := .one .boo
def uR : RTy := .one (.int .u64)
abbrev Mp := List (Int × List UInt8)
structure A1 where
  n : Int
  i : Int
structure B1 where
  i : Int
  next : Int
  most : Int
  m : Mp
  bs : List Nat
  clk : Nat
structure R1 where
  n : Int
structure G1 where
  n : Int
  l : List Int
structure J1 where
  m : Mp
  bs : List Nat
  seen : List Nat
def mOf (H : Heap) (i : Nat) : Mp := match H.get i with
  | some (.smap _ _ (.one (.int _)) (.one .txt) m _ _) => m
  | _ => []
def bsOf (H : Heap) (i : Nat) : List Nat := match H.get i with
  | some (.smap _ _ _ _ _ bs _) => bs
  | _ => []
def clkOf (H : Heap) (i : Nat) : Nat := match H.get i with
  | some (.smap _ _ _ _ _ _ clk) => clk
  | _ => 0
def seqI (H : Heap) (v : AV) : List Int := match H.get (idV v) with
  | some (.seq (.one (.int _)) rows _) => rows
  | _ => []
def smp (m : Mp) (bs : List Nat) (clk : Nat) : AObj := .smap false false uR vR m bs clk
def slo (first next most : AV) : AObj := .cells false 4 [first, next, most, .map 0] none
def rowS (l : List (List UInt8)) (i : Nat) : List UInt8 := Go.AM.rowAt (r := vR) l i
def rowB (l : List Bool) (i : Nat) : Bool := Go.AM.rowAt (r := kR) l i
def rowI (l : List Int) (i : Nat) : Int := Go.AM.rowAt (r := uR) l i
def keyM (m : Mp) (j : Nat) : Int := Go.AM.keyAt (kr := uR) (vr := vR) m j
def LA (vals : List (List UInt8)) (inv : A1 → Prop) : LInv := ⟨A1, inv, fun s => patch [0, 1, 2, 6] [(7, .sI .i64 s.n), (8, .sI .i64 s.i)] [], fun s => vals.length - s.i.toNat⟩
def LB (vals : List (List UInt8)) (inv : B1 → Prop) : LInv := ⟨B1, inv, fun s => patchK [0, 1, 2, 6, 9] [(10, .sI .i64 s.i)] [] [(0, smp s.m s.bs s.clk), (1, slo (.int .u64 0) (.sI .u64 s.next) (.sI .u64 s.most))], fun s => vals.length - s.i.toNat⟩
def LR (inv : Mp → Int → R1 → Prop) (fr : Fr) (H : Heap) : LInv := ⟨R1, inv (mOf H 0) (intV (cellOf H (ptrOf fr 1) 0)),
  fun s fr H => patch [0, 1, 2] [(4, .sI .u64 s.n)] ((1, slo (cellOf H 1 0) (.sI .u64 s.n) (cellOf H 1 2)) :: loopKeep [1] H (yldOf fr 0)) fr H, fun s => 1000 - s.n.toNat⟩
def LG (inv : Mp → Int → Int → G1 → Prop) (fr : Fr) (H : Heap) : LInv := ⟨G1, inv (mOf H 0) (intOf fr 4) (intV (cellOf H 1 2)),
  fun s => patchA [0, 2] (fun nx => [(3, .sw nx), (4, .sI .u64 s.n)]) [] [.seq uR s.l none], fun s => (intV (cellOf H 1 2) - s.n).toNat⟩
def LU (inv : List Int → List Int → R1 → Prop) (fr : Fr) (H : Heap) : LInv := ⟨R1, inv (seqI H (avOf fr 0)) (seqI H (avOf fr 1)),
  fun s => patch [0, 1, 4] [(5, .sI .i64 s.n)] [], fun s => (seqI H (avOf fr 0)).length - s.n.toNat⟩
def LJ (inv : Mp → List Nat → Nat → Int → J1 → Prop) (fr : Fr) (H : Heap) : LInv := ⟨J1, inv (mOf H 0) (bsOf H 0) (clkOf H 0) (intOf fr 1),
  fun s => patch [0, 1, 4, 23] [] [(0, smp s.m s.bs (clkOf H 0)), (ptrOf fr 23, .smIter 0 (clkOf H 0) s.seen (clkOf H 0))], fun s => (bsOf H 0).length - s.seen.length⟩
def LV (vals : List (List UInt8)) (inv : R1 → Prop) : LInv := ⟨R1, inv, fun s => patchK [0, 1, 2, 6, 9, 16] [(18, .sI .i64 s.n)] [0, 1] [], fun s => vals.length - s.n.toNat⟩
def L1 (vals : List (List UInt8)) (inv1 : A1 → Prop) (inv2 : B1 → Prop) (inv3 : Mp → Int → R1 → Prop) (inv4 : Mp → Int → Int → G1 → Prop) (inv5 : List Int → List Int → R1 → Prop) (inv6 : Mp → List Nat → Nat → Int → J1 → Prop) (inv7 : R1 → Prop) : LTab := fun f k fr H => match f, k with
  | 8, 3 => some (LA vals inv1)
  | 8, 12 => some (LB vals inv2)
  | 103, 2 => some (LR inv3 fr H)
  | 45, 3 => some (LG inv4 fr H)
  | 48, 4 => some (LU inv5 fr H)
  | 51, 8 => some (LJ inv6 fr H)
  | 8, 28 => some (LV vals inv7)
  | _, _ => none
def w0 (vals : List (List UInt8)) : Int := (↑vals.length : Int)
def w1 (vals : List (List UInt8)) (s : A1) : Bool := decide (s.i < w0 vals)
def w2 (kn : List Bool) : Int := (↑kn.length : Int)
def w3 (vals : List (List UInt8)) (kn : List Bool) (s : A1) : Bool := decide ((200 : Int) < w0 vals) || (decide ((400 : Int) < w2 kn) || decide ((8192 : Int) < s.n))
def w4 (s1 : B1) : List Int := List.map (fun x => x.fst) s1.m
def w5 (s1 : B1) : Nat := List.length s1.m
def w6 (vals : List (List UInt8)) (s1 : B1) : Bool := decide (s1.i < w0 vals)
def w7 (kn : List Bool) (s1 : B1) : Bool := decide (s1.i < w2 kn)
def w8 (kn : List Bool) (s1 : B1) : Bool := w7 kn s1 && !rowB kn s1.i.toNat
def w9 (vals : List (List UInt8)) (s1 : B1) : Nat := vals.length - s1.i.toNat
def w10 (s1 : B1) : Int := IntKind.i64.wrap (s1.i + (1 : Int))
def w11 (s1 : B1) : List (Int × List UInt8) := s1.m
def w12 (vals : List (List UInt8)) (s1 : B1) : Bool := decide ((8192 : Int) < (↑(List.length (rowS vals s1.i.toNat)) : Int))
def w13 (s1 : B1) : Bool := decide (IntKind.u64.wrap s1.i < (0 : Int))
def w14 (vals : List (List UInt8)) (s1 : B1) : Bool := decide ((bif w12 vals s1 then (4 : Int) else (152 : Int)) ≠ (0 : Int))
def w15 (s1 : B1) : Bool := (mget s1.m (IntKind.u64.wrap s1.i)).isSome
def w16 (vals : List (List UInt8)) (s1 : B1) : Bool := w15 s1 && decide ((mget s1.m (IntKind.u64.wrap s1.i)).getD [] ≠ rowS vals s1.i.toNat)
def w17 (s1 : B1) : Bool := decide (IntKind.u64.wrap (s1.next + (256 : Int)) ≤ IntKind.u64.wrap s1.i)
def w18 (s1 : B1) : Bool := bif w17 s1 then w17 s1 else decide ((1099511627776 : Int) < IntKind.u64.wrap s1.i)
def w19 (vals : List (List UInt8)) (s1 : B1) : Bool := decide ((bif w16 vals s1 then (150 : Int) else bif w15 s1 then (0 : Int) else (151 : Int)) ≠ (0 : Int))
def w20 : List AV := [AV.ptr (1 : Nat) (0 : Nat)]
def w21 (s1 : B1) : Int := max s1.most (IntKind.u64.wrap (IntKind.u64.wrap s1.i + (1 : Int)))
def w22 : List AV := [AV.map (0 : Nat)]
def w23 : List Nat := [(9 : Nat), (10 : Nat)]
def w24 : List Oper := regOps Try.prog 85 2
def w25 : List Edge := [{ on := (0 : Nat), ground := Ground.phase }, { on := (1 : Nat), ground := Ground.phase }, { on := (2 : Nat), ground := Ground.phase }]
def w26 : List Oper := regOps Try.prog 85 3
def w27 (vals : List (List UInt8)) (s1 : B1) : List (Int × List UInt8) := mput s1.m (IntKind.u64.wrap s1.i) (rowS vals s1.i.toNat)
def w28 (s1 : B1) : List Nat := bput s1.m s1.bs s1.clk (IntKind.u64.wrap s1.i)
def w29 (s1 : B1) : Nat := cput s1.m s1.clk (IntKind.u64.wrap s1.i)
def w30 (vals : List (List UInt8)) (s1 : B1) : Mp := mOf { t := ((T.nil.node (some (AObj.cells false (1 : Nat) w20 (some (60 : Nat)))) T.nil).node (some (AObj.cells false (4 : Nat) (AV.int IntKind.u64 (0 : Int) :: AV.sI IntKind.u64 s1.next :: AV.sI IntKind.u64 (w21 s1) :: w22) none)) (T.nil.node (some (AObj.loop LoopState.ready none (85 : Nat) ((((T.nil.node (some (AV.sI IntKind.u64 s1.next)) T.nil).node (some (AV.ptr (1 : Nat) (0 : Nat))) T.nil).node (some (AV.ptr (2 : Nat) (0 : Nat))) (T.nil.node (some (AV.ptr (1 : Nat) (0 : Nat))) T.nil)).node (some (AV.ptr (1 : Nat) (0 : Nat))) (((T.nil.node (some (AV.fn (Fn.func (103 : Nat)) [] [AV.ptr (4 : Nat) (0 : Nat), AV.ptr (3 : Nat) (0 : Nat)])) T.nil).node (some (AV.ptr (1 : Nat) (0 : Nat))) T.nil).node none (T.nil.node (some (AV.ptr (1 : Nat) (1 : Nat))) T.nil))) (28 : Nat) w23 (Code.region (2 : Nat) w24.toArray false) (Code.block (1 : Nat) (Code.region (3 : Nat) w26.toArray false)))) T.nil)).node (some (AObj.smap false false (RTy.one (CTy.int IntKind.u64)) (RTy.one CTy.txt) (w27 vals s1) (w28 s1) (w29 s1))) ((T.nil.node (some (AObj.cells false (1 : Nat) [AV.sI IntKind.u64 s1.next] (some (25 : Nat)))) T.nil).node (some (AObj.cells false (1 : Nat) w20 (some (60 : Nat)))) T.nil), next := (6 : Nat), d := (63 : Nat) } (0 : Nat)
def w31 (s1 : B1) : Int := intV (AV.sI IntKind.u64 s1.next)
def w32 (vals : List (List UInt8)) (s1 : B1) : List (Int × List UInt8) := (w27 vals s1)
def w33 (vals : List (List UInt8)) (s1 : B1) (s2 : R1) : Bool := !(mget (w27 vals s1) s2.n).isSome
def w34 (s2 : R1) : Int := IntKind.u64.wrap (s2.n + (1 : Int))
def w35 (s1 : B1) : List AV := AV.int IntKind.u64 (0 : Int) :: AV.sI IntKind.u64 s1.next :: AV.sI IntKind.u64 s1.most :: w22
def w36 (s1 : B1) : Mp := mOf { t := (T.nil.node (some (AObj.cells false (4 : Nat) (w35 s1) none)) T.nil).node (some (AObj.smap false false (RTy.one (CTy.int IntKind.u64)) (RTy.one CTy.txt) s1.m s1.bs s1.clk)) T.nil, next := (2 : Nat) } (0 : Nat)
def w37 (s1 : B1) : Int := intOf ((((T.nil.node (some (AV.ptr (1 : Nat) (0 : Nat))) T.nil).node (some AV.nilSlc) T.nil).node none T.nil).node (some (AV.ptr (1 : Nat) (0 : Nat))) (((T.nil.node (some (AV.sI IntKind.u64 s1.next)) T.nil).node (some (AV.sI IntKind.u64 s1.next)) T.nil).node (some AV.nilSlc) T.nil)) (4 : Nat)
def w38 (s1 : B1) : Int := intV (AV.sI IntKind.u64 s1.most)
def w39 (s1 : B1) (s3 : G1) : Bool := decide (s3.n < s1.most)
def w40 (s1 : B1) (s3 : G1) : Bool := !(mget s1.m s3.n).isSome
def w41 (s3 : G1) : List Int := s3.l
def w42 (s3 : G1) : List Int := w41 s3 ++ [s3.n]
def w43 (s3 : G1) : Nat := (w42 s3).length
def w44 (s1 : B1) (s3 : G1) : Nat := (w38 s1 - s3.n).toNat
def w45 (s3 : G1) : Int := IntKind.u64.wrap (s3.n + (1 : Int))
def w46 (vals : List (List UInt8)) (s1 : B1) : Bool := decide (IntKind.u64.wrap (w0 vals) < s1.next)
def w47 (s1 : B1) : Int := IntKind.u64.wrap (s1.next + (2 : Int))
def w48 (cut : Int) (s1 : B1) : Int := (IntKind.u64.wrap cut).tmod (w47 s1)
def w49 (cut : Int) (s1 : B1) : Bool := decide (s1.next < w48 cut s1)
def w50 (cut : Int) (s1 : B1) : Bool := !w49 cut s1
def w51 (cut : Int) (s1 : B1) : Bool := decide (w48 cut s1 < (0 : Int))
def w52 (cut : Int) (s1 : B1) : Bool := decide ((1099511627776 : Int) < w48 cut s1)
def w53 (cut : Int) (s1 : B1) : Int := bif w51 cut s1 then (152 : Int) else (2 : Int)
def w54 (cut : Int) (s1 : B1) : Bool := decide (w53 cut s1 ≠ (0 : Int))
def w55 (cut : Int) (s1 : B1) : Bool := decide ((0 : Int) ≠ w48 cut s1)
def w56 (s1 : B1) : Bool := decide (s1.next ≠ s1.next)
def w57 (s1 : B1) : Bool := decide (s1.most ≠ s1.most)
def w58 (s1 : B1) (s3 : G1) : Mp := mOf { t := (T.nil.node (some (AObj.cells false (4 : Nat) (w35 s1) none)) T.nil).node (some (AObj.smap false false (RTy.one (CTy.int IntKind.u64)) (RTy.one CTy.txt) s1.m s1.bs s1.clk)) (T.nil.node (some (AObj.seq (RTy.one (CTy.int IntKind.u64)) s3.l none)) T.nil), next := (3 : Nat), d := (4 : Nat) } (0 : Nat)
def w59 (s1 : B1) (s4 : G1) : Bool := decide (s4.n < s1.most)
def w60 (s1 : B1) (s4 : G1) : Bool := !(mget s1.m s4.n).isSome
def w61 (s4 : G1) : List Int := s4.l
def w62 (s4 : G1) : List Int := w61 s4 ++ [s4.n]
def w63 (s4 : G1) : Nat := (w62 s4).length
def w64 (s1 : B1) (s4 : G1) : Nat := (w38 s1 - s4.n).toNat
def w65 (s4 : G1) : Int := IntKind.u64.wrap (s4.n + (1 : Int))
def w66 (s4 : G1) : Int := (↑s4.l.length : Int)
def w67 (s3 : G1) : Int := (↑s3.l.length : Int)
def w68 (s3 : G1) (s4 : G1) : Bool := decide (w66 s4 ≠ w67 s3)
def w69 (s1 : B1) (s3 : G1) (s4 : G1) : List Int := seqI { t := ((T.nil.node (some (AObj.seq (RTy.one (CTy.int IntKind.u64)) s4.l none)) T.nil).node (some (AObj.cells false (4 : Nat) (w35 s1) none)) T.nil).node (some (AObj.smap false false (RTy.one (CTy.int IntKind.u64)) (RTy.one CTy.txt) s1.m s1.bs s1.clk)) (T.nil.node (some (AObj.seq (RTy.one (CTy.int IntKind.u64)) s3.l none)) T.nil), next := (4 : Nat), d := (8 : Nat) } (AV.sw (3 : Nat))
def w70 (s1 : B1) (s3 : G1) (s4 : G1) : List Int := seqI { t := ((T.nil.node (some (AObj.seq (RTy.one (CTy.int IntKind.u64)) s4.l none)) T.nil).node (some (AObj.cells false (4 : Nat) (w35 s1) none)) T.nil).node (some (AObj.smap false false (RTy.one (CTy.int IntKind.u64)) (RTy.one CTy.txt) s1.m s1.bs s1.clk)) (T.nil.node (some (AObj.seq (RTy.one (CTy.int IntKind.u64)) s3.l none)) T.nil), next := (4 : Nat), d := (8 : Nat) } (AV.sw (2 : Nat))
def w71 (s4 : G1) (s5 : R1) : Bool := decide (s5.n < w66 s4)
def w72 (s3 : G1) (s4 : G1) (s5 : R1) : Bool := decide (rowI s4.l s5.n.toNat ≠ rowI s3.l s5.n.toNat)
def w73 (s1 : B1) (s3 : G1) (s4 : G1) : Nat := (w69 s1 s3 s4).length
def w74 (vals : List (List UInt8)) (s6 : R1) : Bool := decide (s6.n < w0 vals)
def w75 (kn : List Bool) (s6 : R1) : Bool := decide (w2 kn ≤ s6.n)
def w76 (cut : Int) (s1 : B1) (s6 : R1) : Bool := decide (IntKind.u64.wrap s6.n < w48 cut s1)
def w77 (s6 : R1) : Bool := !decide (IntKind.u64.wrap s6.n < (0 : Int))
def w78 (s6 : R1) : Int := bif w77 s6 then (0 : Int) else (152 : Int)
def w79 (s6 : R1) : Bool := decide (w78 s6 ≠ (0 : Int))
def w80 (s1 : B1) (s6 : R1) : Bool := w77 s6 && (mget s1.m (IntKind.u64.wrap s6.n)).isSome
def w81 (kn : List Bool) (s1 : B1) (s6 : R1) : Bool := !w80 s1 s6 == (w75 kn s6 || rowB kn s6.n.toNat)
def w82 (s6 : R1) : Bool := decide (w78 s6 ≠ (152 : Int))
def w83 (vals : List (List UInt8)) (kn : List Bool) (s1 : B1) (s6 : R1) : Bool := w79 s6 || (w81 kn s1 s6 || w80 s1 s6 && decide ((bif w77 s6 then (mget s1.m (IntKind.u64.wrap s6.n)).getD [] else []) ≠ rowS vals s6.n.toNat))
def w84 (s1 : B1) (s3 : G1) : Mp := mOf { t := ((T.nil.node (some (AObj.smIter (0 : Nat) s1.clk [] s1.clk)) T.nil).node (some (AObj.cells false (4 : Nat) (w35 s1) none)) T.nil).node (some (AObj.smap false false (RTy.one (CTy.int IntKind.u64)) (RTy.one CTy.txt) s1.m s1.bs s1.clk)) (T.nil.node (some (AObj.seq (RTy.one (CTy.int IntKind.u64)) s3.l none)) T.nil), next := (4 : Nat), d := (12 : Nat) } (0 : Nat)
def w85 (s1 : B1) (s3 : G1) : List Nat := bsOf { t := ((T.nil.node (some (AObj.smIter (0 : Nat) s1.clk [] s1.clk)) T.nil).node (some (AObj.cells false (4 : Nat) (w35 s1) none)) T.nil).node (some (AObj.smap false false (RTy.one (CTy.int IntKind.u64)) (RTy.one CTy.txt) s1.m s1.bs s1.clk)) (T.nil.node (some (AObj.seq (RTy.one (CTy.int IntKind.u64)) s3.l none)) T.nil), next := (4 : Nat), d := (12 : Nat) } (0 : Nat)
def w86 (s1 : B1) (s3 : G1) : Nat := clkOf { t := ((T.nil.node (some (AObj.smIter (0 : Nat) s1.clk [] s1.clk)) T.nil).node (some (AObj.cells false (4 : Nat) (w35 s1) none)) T.nil).node (some (AObj.smap false false (RTy.one (CTy.int IntKind.u64)) (RTy.one CTy.txt) s1.m s1.bs s1.clk)) (T.nil.node (some (AObj.seq (RTy.one (CTy.int IntKind.u64)) s3.l none)) T.nil), next := (4 : Nat), d := (12 : Nat) } (0 : Nat)
def w87 (cut : Int) (s1 : B1) : Int := intOf (((((T.nil.node (some (AV.sB (w51 cut s1))) T.nil).node (some (AV.ptr (1 : Nat) (0 : Nat))) (T.nil.node (some (AV.ptr (3 : Nat) (0 : Nat))) T.nil)).node none ((T.nil.node (some (AV.ptr (1 : Nat) (0 : Nat))) T.nil).node (some (AV.ptr (1 : Nat) (0 : Nat))) T.nil)).node (some (AV.sI IntKind.u64 (w48 cut s1))) (((T.nil.node (some (AV.sI IntKind.u64 (w48 cut s1))) T.nil).node (some (AV.sB (w51 cut s1))) T.nil).node none ((T.nil.node (some (AV.ptr (1 : Nat) (3 : Nat))) T.nil).node (some (AV.ptr (1 : Nat) (0 : Nat))) T.nil))).node (some (AV.ptr (1 : Nat) (0 : Nat))) ((((T.nil.node (some (AV.sB (w52 cut s1))) T.nil).node (some (AV.bool false)) T.nil).node (some (AV.int IntKind.i64 (0 : Int))) ((T.nil.node (some (AV.ptr (1 : Nat) (0 : Nat))) T.nil).node (some (AV.ptr (1 : Nat) (0 : Nat))) T.nil)).node none (((T.nil.node (some (AV.sB (w52 cut s1))) T.nil).node (some (AV.sI IntKind.u64 (w48 cut s1))) T.nil).node (some (AV.bool false)) ((T.nil.node (some (AV.map (0 : Nat))) T.nil).node (some (AV.int IntKind.u64 (0 : Int))) T.nil)))) (1 : Nat)
def w88 (s7 : J1) : List Int := List.map (fun x => x.fst) s7.m
def w89 (s7 : J1) : Nat := List.length s7.m
def w90 (cut : Int) (s1 : B1) : Int := max s1.next (w48 cut s1)
def w91 (cut : Int) (s1 : B1) : Int := max s1.most (w48 cut s1)
def w92 (cut : Int) (s1 : B1) : List AV := [AV.sI IntKind.u64 (w90 cut s1)]
def w93 (cut : Int) (s1 : B1) (s3 : G1) (s7 : J1) : Mp := mOf { t := (((T.nil.node (some (AObj.loop LoopState.ready none (85 : Nat) ((((T.nil.node (some (AV.sI IntKind.u64 (w90 cut s1))) T.nil).node (some (AV.ptr (1 : Nat) (0 : Nat))) T.nil).node (some (AV.ptr (4 : Nat) (0 : Nat))) (T.nil.node (some (AV.ptr (1 : Nat) (0 : Nat))) T.nil)).node (some (AV.ptr (1 : Nat) (0 : Nat))) (((T.nil.node (some (AV.fn (Fn.func (103 : Nat)) [] [AV.ptr (6 : Nat) (0 : Nat), AV.ptr (5 : Nat) (0 : Nat)])) T.nil).node (some (AV.ptr (1 : Nat) (0 : Nat))) T.nil).node none (T.nil.node (some (AV.ptr (1 : Nat) (1 : Nat))) T.nil))) (28 : Nat) w23 (Code.region (2 : Nat) w24.toArray false) (Code.block (1 : Nat) (Code.region (3 : Nat) w26.toArray false)))) T.nil).node (some (AObj.smIter (0 : Nat) (w86 s1 s3) s7.seen (w86 s1 s3))) T.nil).node (some (AObj.cells false (4 : Nat) (AV.sI IntKind.u64 (w48 cut s1) :: AV.sI IntKind.u64 (w90 cut s1) :: AV.sI IntKind.u64 (w91 cut s1) :: w22) none)) (T.nil.node (some (AObj.cells false (1 : Nat) w20 (some (60 : Nat)))) T.nil)).node (some (AObj.smap false false (RTy.one (CTy.int IntKind.u64)) (RTy.one CTy.txt) s7.m s7.bs (w86 s1 s3))) ((T.nil.node (some (AObj.cells false (1 : Nat) w20 (some (60 : Nat)))) T.nil).node (some (AObj.seq (RTy.one (CTy.int IntKind.u64)) s3.l none)) (T.nil.node (some (AObj.cells false (1 : Nat) (w92 cut s1) (some (25 : Nat)))) T.nil)), next := (8 : Nat), d := (242 : Nat) } (0 : Nat)
def w94 (cut : Int) (s1 : B1) : Int := intV (AV.sI IntKind.u64 (w90 cut s1))
def w95 (s7 : J1) : List (Int × List UInt8) := s7.m
def w96 (s7 : J1) (s8 : R1) : Bool := !(mget s7.m s8.n).isSome
def w97 (cut : Int) (s1 : B1) : Bool := decide (w48 cut s1 ≠ w48 cut s1)
def w98 (s1 : B1) (s8 : R1) : Bool := decide (s8.n ≠ s1.next)
def w99 (cut : Int) (s1 : B1) (s8 : R1) : Int := max (w91 cut s1) s8.n
def w100 (cut : Int) (s1 : B1) (s8 : R1) : Bool := decide (w99 cut s1 s8 ≠ s1.most)
def w101 (cut : Int) (s1 : B1) (s8 : R1) : List AV := AV.sI IntKind.u64 (w48 cut s1) :: AV.sI IntKind.u64 s8.n :: AV.sI IntKind.u64 (w99 cut s1 s8) :: w22
def w102 (cut : Int) (s1 : B1) (s3 : G1) (s7 : J1) (s8 : R1) : Mp := mOf { t := (((T.nil.node (some (AObj.loop LoopState.exhausted none (85 : Nat) ((T.nil.node (some (AV.ptr (4 : Nat) (0 : Nat))) T.nil).node none T.nil) (28 : Nat) w23 (Code.region (2 : Nat) w24.toArray false) (Code.block (1 : Nat) (Code.region (3 : Nat) w26.toArray false)))) T.nil).node (some (AObj.smIter (0 : Nat) (w86 s1 s3) s7.seen (w86 s1 s3))) T.nil).node (some (AObj.cells false (4 : Nat) (w101 cut s1 s8) none)) (T.nil.node (some (AObj.cells false (1 : Nat) w20 (some (60 : Nat)))) T.nil)).node (some (AObj.smap false false (RTy.one (CTy.int IntKind.u64)) (RTy.one CTy.txt) s7.m s7.bs (w86 s1 s3))) ((T.nil.node (some (AObj.cells false (1 : Nat) w20 (some (60 : Nat)))) T.nil).node (some (AObj.seq (RTy.one (CTy.int IntKind.u64)) s3.l none)) (T.nil.node (some (AObj.cells false (1 : Nat) (w92 cut s1) (some (25 : Nat)))) T.nil)), next := (8 : Nat), d := (130 : Nat) } (0 : Nat)
def w103 (s8 : R1) : Int := intOf ((((T.nil.node (some (AV.ptr (1 : Nat) (0 : Nat))) T.nil).node (some AV.nilSlc) T.nil).node none T.nil).node (some (AV.ptr (1 : Nat) (0 : Nat))) (((T.nil.node (some (AV.sI IntKind.u64 s8.n)) T.nil).node (some (AV.sI IntKind.u64 s8.n)) T.nil).node (some AV.nilSlc) T.nil)) (4 : Nat)
def w104 (cut : Int) (s1 : B1) (s8 : R1) : Int := intV (AV.sI IntKind.u64 (w99 cut s1 s8))
def w105 (cut : Int) (s1 : B1) (s8 : R1) (s9 : G1) : Bool := decide (s9.n < w99 cut s1 s8)
def w106 (s7 : J1) (s9 : G1) : Bool := !(mget s7.m s9.n).isSome
def w107 (s9 : G1) : List Int := s9.l
def w108 (s9 : G1) : List Int := w107 s9 ++ [s9.n]
def w109 (s9 : G1) : Nat := (w108 s9).length
def w110 (cut : Int) (s1 : B1) (s8 : R1) (s9 : G1) : Nat := (w104 cut s1 s8 - s9.n).toNat
def w111 (s9 : G1) : Int := IntKind.u64.wrap (s9.n + (1 : Int))
def w112 (s9 : G1) : Int := (↑s9.l.length : Int)
def w113 (s3 : G1) (s9 : G1) : Bool := decide (w112 s9 ≠ w67 s3)
def w114 (cut : Int) (s1 : B1) (s3 : G1) (s7 : J1) (s8 : R1) (s9 : G1) : List Int := seqI { t := (((T.nil.node (some (AObj.loop LoopState.exhausted none (85 : Nat) ((T.nil.node (some (AV.ptr (4 : Nat) (0 : Nat))) T.nil).node none T.nil) (28 : Nat) w23 (Code.region (2 : Nat) w24.toArray false) (Code.block (1 : Nat) (Code.region (3 : Nat) w26.toArray false)))) T.nil).node (some (AObj.smIter (0 : Nat) (w86 s1 s3) s7.seen (w86 s1 s3))) T.nil).node (some (AObj.cells false (4 : Nat) (w101 cut s1 s8) none)) (T.nil.node (some (AObj.cells false (1 : Nat) w20 (some (60 : Nat)))) T.nil)).node (some (AObj.smap false false (RTy.one (CTy.int IntKind.u64)) (RTy.one CTy.txt) s7.m s7.bs (w86 s1 s3))) (((T.nil.node (some (AObj.seq (RTy.one (CTy.int IntKind.u64)) s9.l none)) T.nil).node (some (AObj.cells false (1 : Nat) w20 (some (60 : Nat)))) T.nil).node (some (AObj.seq (RTy.one (CTy.int IntKind.u64)) s3.l none)) (T.nil.node (some (AObj.cells false (1 : Nat) (w92 cut s1) (some (25 : Nat)))) T.nil)), next := (9 : Nat), d := (256 : Nat) } (AV.sw (8 : Nat))
def w115 (cut : Int) (s1 : B1) (s3 : G1) (s7 : J1) (s8 : R1) (s9 : G1) : List Int := seqI { t := (((T.nil.node (some (AObj.loop LoopState.exhausted none (85 : Nat) ((T.nil.node (some (AV.ptr (4 : Nat) (0 : Nat))) T.nil).node none T.nil) (28 : Nat) w23 (Code.region (2 : Nat) w24.toArray false) (Code.block (1 : Nat) (Code.region (3 : Nat) w26.toArray false)))) T.nil).node (some (AObj.smIter (0 : Nat) (w86 s1 s3) s7.seen (w86 s1 s3))) T.nil).node (some (AObj.cells false (4 : Nat) (w101 cut s1 s8) none)) (T.nil.node (some (AObj.cells false (1 : Nat) w20 (some (60 : Nat)))) T.nil)).node (some (AObj.smap false false (RTy.one (CTy.int IntKind.u64)) (RTy.one CTy.txt) s7.m s7.bs (w86 s1 s3))) (((T.nil.node (some (AObj.seq (RTy.one (CTy.int IntKind.u64)) s9.l none)) T.nil).node (some (AObj.cells false (1 : Nat) w20 (some (60 : Nat)))) T.nil).node (some (AObj.seq (RTy.one (CTy.int IntKind.u64)) s3.l none)) (T.nil.node (some (AObj.cells false (1 : Nat) (w92 cut s1) (some (25 : Nat)))) T.nil)), next := (9 : Nat), d := (256 : Nat) } (AV.sw (2 : Nat))
def w116 (s9 : G1) (s10 : R1) : Bool := decide (s10.n < w112 s9)
def w117 (s3 : G1) (s9 : G1) (s10 : R1) : Bool := decide (rowI s9.l s10.n.toNat ≠ rowI s3.l s10.n.toNat)
def w118 (cut : Int) (s1 : B1) (s3 : G1) (s7 : J1) (s8 : R1) (s9 : G1) : Nat := (w114 cut s1 s3 s7 s8 s9).length
def w119 (vals : List (List UInt8)) (s11 : R1) : Bool := decide (s11.n < w0 vals)
def w120 (kn : List Bool) (s11 : R1) : Bool := decide (w2 kn ≤ s11.n)
def w121 (cut : Int) (s1 : B1) (s11 : R1) : Bool := decide (IntKind.u64.wrap s11.n < w48 cut s1)
def w122 (cut : Int) (s1 : B1) (s11 : R1) : Bool := !w121 cut s1 s11
def w123 (cut : Int) (s1 : B1) (s11 : R1) : Int := bif w122 cut s1 s11 then (0 : Int) else (152 : Int)
def w124 (cut : Int) (s1 : B1) (s11 : R1) : Bool := decide (w123 cut s1 s11 ≠ (0 : Int))
def w125 (cut : Int) (s1 : B1) (s7 : J1) (s11 : R1) : Bool := w122 cut s1 s11 && (mget s7.m (IntKind.u64.wrap s11.n)).isSome
def w126 (kn : List Bool) (cut : Int) (s1 : B1) (s7 : J1) (s11 : R1) : Bool := !w125 cut s1 s7 s11 == (w120 kn s11 || rowB kn s11.n.toNat)
def w127 (cut : Int) (s1 : B1) (s11 : R1) : Bool := decide (w123 cut s1 s11 ≠ (152 : Int))
def w128 (vals : List (List UInt8)) (kn : List Bool) (cut : Int) (s1 : B1) (s7 : J1) (s11 : R1) : Bool := w124 cut s1 s11 || (w126 kn cut s1 s7 s11 || w125 cut s1 s7 s11 && decide ((bif w122 cut s1 s11 then (mget s7.m (IntKind.u64.wrap s11.n)).getD [] else []) ≠ rowS vals s11.n.toNat))
def w129 (s8 : R1) : Int := IntKind.u64.wrap (s8.n + (1 : Int))
def w130 (s7 : J1) (j1 : Nat) : List Nat := s7.seen ++ [bornAt s7.bs j1]
def w131 (s7 : J1) (j1 : Nat) : Nat := lastT (w130 s7 j1)
def w132 (s1 : B1) (s3 : G1) : Nat := (w85 s1 s3).length
def w133 (s7 : J1) (j1 : Nat) : Nat := List.idxOf (w131 s7 j1) s7.bs
def w134 (cut : Int) (s1 : B1) (s7 : J1) (j1 : Nat) : Bool := decide (keyM s7.m (w133 s7 j1) < w48 cut s1)
def part0 (s1 : B1) : Prop := ∀ (p : Int × List UInt8), p ∈ s1.m →
 (RTy.one (CTy.int IntKind.u64)).Has p.fst ∧
 (RTy.one CTy.txt).Has p.snd
def part1 (vals : List (List UInt8)) (kn : List Bool) (cut : Int) (inv2 : B1 →
 Prop) (s1 : B1) : Prop := ∃ s'1, inv2 s'1 ∧
 vals.length - s'1.i.toNat < w9 vals s1 ∧
 w10 s1 = s'1.i ∧
 vals = vals ∧
 kn = kn ∧
 cut = cut ∧
 w11 s1 = s'1.m ∧
 s1.bs = s'1.bs ∧
 s1.clk = s'1.clk ∧
 s1.next = s'1.next ∧
 s1.most = s'1.most
def part2 : Prop := Code.region (2 : Nat) w24.toArray false = Code.region (2 : Nat) w24.toArray false ∧
 Code.block (1 : Nat) (Code.region (3 : Nat) w26.toArray false) = Code.block (1 : Nat) (Code.region (3 : Nat) w26.toArray false)
def part3 (s1 : B1) : Prop := w21 s1 = w21 s1 ∧
 s1.next = s1.next ∧
 part2
def part4 (s1 : B1) (s3 : G1) (s4 : G1) : Prop := w11 s1 = s1.m ∧
 s1.bs = s1.bs ∧
 s1.clk = s1.clk ∧
 s1.next = s1.next ∧
 s1.most = s1.most ∧
 w41 s3 = s3.l ∧
 w61 s4 = s4.l
def part5 (vals : List (List UInt8)) (kn : List Bool) (cut : Int) (s1 : B1) : Prop := vals = vals ∧
 kn = kn ∧
 cut = cut ∧
 w48 cut s1 = w48 cut s1 ∧
 w11 s1 = s1.m ∧
 s1.bs = s1.bs ∧
 s1.clk = s1.clk ∧
 s1.next = s1.next ∧
 s1.most = s1.most
def part6 (s7 : J1) : Prop := ∀ (p2 : Int × List UInt8), p2 ∈ s7.m →
 (RTy.one (CTy.int IntKind.u64)).Has p2.fst ∧
 (RTy.one CTy.txt).Has p2.snd
def part7 (s1 : B1) (s3 : G1) (s7 : J1) : Prop := s7.bs.length = w89 s7 ∧
 s7.bs.Nodup ∧
 ∀ (b2 : Nat), b2 ∈ s7.bs →
 b2 < w86 s1 s3
def part8 (cut : Int) (s1 : B1) : Prop := w48 cut s1 = w48 cut s1 ∧
 w91 cut s1 = w91 cut s1
def part9 (cut : Int) (s1 : B1) (s3 : G1) (s7 : J1) : Prop := w91 cut s1 = w91 cut s1 ∧
 w41 s3 = s3.l ∧
 w86 s1 s3 = w86 s1 s3 ∧
 s7.seen = s7.seen ∧
 w86 s1 s3 = w86 s1 s3 ∧
 w90 cut s1 = w90 cut s1 ∧
 part2
def part10 (cut : Int) (s1 : B1) (s3 : G1) (s7 : J1) (s8 : R1) (s9 : G1) : Prop := w95 s7 = s7.m ∧
 s7.bs = s7.bs ∧
 w86 s1 s3 = w86 s1 s3 ∧
 w48 cut s1 = w48 cut s1 ∧
 s8.n = s8.n ∧
 w99 cut s1 s8 = w99 cut s1 s8 ∧
 w41 s3 = s3.l ∧
 w86 s1 s3 = w86 s1 s3 ∧
 s7.seen = s7.seen ∧
 w86 s1 s3 = w86 s1 s3 ∧
 w90 cut s1 = w90 cut s1 ∧
 Code.region (2 : Nat) w24.toArray false = Code.region (2 : Nat) w24.toArray false ∧
 Code.block (1 : Nat) (Code.region (3 : Nat) w26.toArray false) = Code.block (1 : Nat) (Code.region (3 : Nat) w26.toArray false) ∧
 w107 s9 = s9.l
def part11 (vals : List (List UInt8)) (kn : List Bool) (cut : Int) (s1 : B1) (s3 : G1) (s7 : J1) (s8 : R1) : Prop := vals = vals ∧
 kn = kn ∧
 cut = cut ∧
 w48 cut s1 = w48 cut s1 ∧
 w95 s7 = s7.m ∧
 s7.bs = s7.bs ∧
 w86 s1 s3 = w86 s1 s3 ∧
 w48 cut s1 = w48 cut s1 ∧
 s8.n = s8.n ∧
 w99 cut s1 s8 = w99 cut s1 s8
def owed (vals : List (List UInt8)) (kn : List Bool) (cut : Int) (inv1 : A1 → Prop) (inv2 : B1 → Prop) (inv3 : Mp → Int → R1 → Prop) (inv4 : Mp → Int → Int → G1 → Prop) (inv5 : List Int → List Int → R1 → Prop) (inv6 : Mp → List Nat → Nat → Int → J1 → Prop) (inv7 : R1 → Prop) : Prop :=
  ∃ s0, inv1 s0 ∧
 ((0 : Int) = s0.n ∧
 (0 : Int) = s0.i ∧
 vals = vals ∧
 kn = kn ∧
 cut = cut) ∧
 ∀ (s : A1), inv1 s →
 (CTy.sl (RTy.one CTy.txt)).Has vals →
 (CTy.sl (RTy.one CTy.boo)).Has kn →
 IntKind.i64.has s.n →
 IntKind.u16.has cut →
 IntKind.i64.has s.i →
 (w1 vals s = true →
 ((0 : Int) ≤ s.i ∧
 s.i < w0 vals) ∧
 ∃ s', inv1 s' ∧
 vals.length - s'.i.toNat < vals.length - s.i.toNat ∧
 IntKind.i64.wrap (s.n + (↑(List.length (rowS vals s.i.toNat)) : Int)) = s'.n ∧
 IntKind.i64.wrap (s.i + (1 : Int)) = s'.i ∧
 vals = vals ∧
 kn = kn ∧
 cut = cut) ∧
 ((!w1 vals s) = true →
 (w3 vals kn s = true →
 true = true) ∧
 ((!w3 vals kn s) = true →
 ∃ s01, inv2 s01 ∧
 ((0 : Int) = s01.i ∧
 vals = vals ∧
 kn = kn ∧
 cut = cut ∧
 [] = s01.m ∧
 [] = s01.bs ∧
 (0 : Nat) = s01.clk ∧
 (List.map (fun x => x.fst) s01.m).Nodup ∧
 (0 : Int) = s01.next ∧
 (0 : Int) = s01.most) ∧
 ∀ (s1 : B1), inv2 s1 →
 (CTy.sl (RTy.one CTy.txt)).Has vals →
 (CTy.sl (RTy.one CTy.boo)).Has kn →
 IntKind.u16.has cut →
 IntKind.i64.has s1.i →
 (w4 s1).Nodup →
 part0 s1 →
 (s1.bs.length = w5 s1 ∧
 s1.bs.Nodup ∧
 ∀ (b : Nat), b ∈ s1.bs →
 b < s1.clk) →
 IntKind.u64.has s1.next →
 IntKind.u64.has s1.most →
 (w6 vals s1 = true →
 (w7 kn s1 = true →
 (0 : Int) ≤ s1.i ∧
 s1.i < w2 kn) ∧
 (w8 kn s1 = true →
 part1 vals kn cut inv2 s1) ∧
 ((!w8 kn s1) = true →
 ((0 : Int) ≤ s1.i ∧
 s1.i < w0 vals) ∧
 ((w12 vals s1 || w13 s1) = true →
 (w14 vals s1 = true →
 false = true) ∧
 ((!w14 vals s1) = true →
 part1 vals kn cut inv2 s1)) ∧
 ((!w12 vals s1 && !w13 s1) = true →
 ((w16 vals s1 || (w15 s1 || w18 s1)) = true →
 (w19 vals s1 = true →
 false = true) ∧
 ((!w19 vals s1) = true →
 part1 vals kn cut inv2 s1)) ∧
 ((!w16 vals s1 && (!w15 s1 && !w18 s1)) = true →
 ∃ s02, inv3 (w30 vals s1) (w31 s1) s02 ∧
 (s1.next = s02.n ∧
 w32 vals s1 = w27 vals s1 ∧
 w28 s1 = w28 s1 ∧
 w29 s1 = w29 s1 ∧
 s1.next = s02.n ∧
 part3 s1) ∧
 ∀ (s2 : R1), inv3 (w30 vals s1) (w31 s1) s2 →
 IntKind.u64.has s2.n →
 (List.map (fun x => x.fst) (w27 vals s1)).Nodup →
 (∀ (p1 : Int × List UInt8), p1 ∈ w27 vals s1 →
 (RTy.one (CTy.int IntKind.u64)).Has p1.fst ∧
 (RTy.one CTy.txt).Has p1.snd) →
 ((w28 s1).length = (w27 vals s1).length ∧
 (w28 s1).Nodup ∧
 ∀ (b1 : Nat), b1 ∈ w28 s1 →
 b1 < w29 s1) →
 IntKind.u64.has s2.n →
 IntKind.u64.has (w21 s1) →
 IntKind.u64.has s1.next →
 (w33 vals s1 s2 = true →
 ∃ s'2, inv2 s'2 ∧
 vals.length - s'2.i.toNat < w9 vals s1 ∧
 w10 s1 = s'2.i ∧
 vals = vals ∧
 kn = kn ∧
 cut = cut ∧
 w32 vals s1 = s'2.m ∧
 w28 s1 = s'2.bs ∧
 w29 s1 = s'2.clk ∧
 s2.n = s'2.next ∧
 max (w21 s1) s2.n = s'2.most) ∧
 (w33 vals s1 s2 = false →
 ∃ s'3, inv3 (w30 vals s1) (w31 s1) s'3 ∧
 (1000 : Nat) - s'3.n.toNat < (1000 : Nat) - s2.n.toNat ∧
 w34 s2 = s'3.n ∧
 w32 vals s1 = w27 vals s1 ∧
 w28 s1 = w28 s1 ∧
 w29 s1 = w29 s1 ∧
 w34 s2 = s'3.n ∧
 part3 s1))))) ∧
 ((!w6 vals s1) = true →
 ∃ s03, inv4 (w36 s1) (w37 s1) (w38 s1) s03 ∧
 (s1.next = s03.n ∧
 w11 s1 = s1.m ∧
 s1.bs = s1.bs ∧
 s1.clk = s1.clk ∧
 s1.next = s1.next ∧
 s1.most = s1.most ∧
 [] = s03.l) ∧
 ∀ (s3 : G1), inv4 (w36 s1) (w37 s1) (w38 s1) s3 →
 IntKind.u64.has s3.n →
 (w4 s1).Nodup →
 part0 s1 →
 (s1.bs.length = w5 s1 ∧
 s1.bs.Nodup ∧
 ∀ (b : Nat), b ∈ s1.bs →
 b < s1.clk) →
 IntKind.u64.has s1.next →
 IntKind.u64.has s1.most →
 (∀ (row : Int), row ∈ s3.l →
 (RTy.one (CTy.int IntKind.u64)).Has row) →
 (w39 s1 s3 = true →
 (w40 s1 s3 = true →
 (w43 s3 * (8 : Nat) ≤ (140737488355328 : Nat) ∧
 w43 s3 ≤ (4611686018427387904 : Nat)) ∧
 ∃ s'4, inv4 (w36 s1) (w37 s1) (w38 s1) s'4 ∧
 (w38 s1 - s'4.n).toNat < w44 s1 s3 ∧
 w45 s3 = s'4.n ∧
 w11 s1 = s1.m ∧
 s1.bs = s1.bs ∧
 s1.clk = s1.clk ∧
 s1.next = s1.next ∧
 s1.most = s1.most ∧
 (w42 s3) = s'4.l) ∧
 (w40 s1 s3 = false →
 ∃ s'5, inv4 (w36 s1) (w37 s1) (w38 s1) s'5 ∧
 (w38 s1 - s'5.n).toNat < w44 s1 s3 ∧
 w45 s3 = s'5.n ∧
 w11 s1 = s1.m ∧
 s1.bs = s1.bs ∧
 s1.clk = s1.clk ∧
 s1.next = s1.next ∧
 s1.most = s1.most ∧
 w41 s3 = s'5.l)) ∧
 ((!w39 s1 s3) = true →
 (w46 vals s1 = true →
 false = true) ∧
 ((!w46 vals s1) = true →
 w47 s1 ≠ (0 : Int) ∧
 (w49 cut s1 = true →
 (w49 cut s1 = true →
 true = true) ∧
 (w50 cut s1 = true →
 false = true)) ∧
 (w50 cut s1 = true →
 ((w51 cut s1 || w52 cut s1) = true →
 (w49 cut s1 = true →
 decide (w53 cut s1 = (2 : Int)) = true) ∧
 (w50 cut s1 = true →
 (w54 cut s1 = true →
 false = true) ∧
 (w54 cut s1 = false →
 (w55 cut s1 = true →
 false = true) ∧
 (w55 cut s1 = false →
 (w56 s1 = true →
 false = true) ∧
 (w56 s1 = false →
 (w57 s1 = true →
 false = true) ∧
 (w57 s1 = false →
 ∃ s04, inv4 (w58 s1 s3) (w37 s1) (w38 s1) s04 ∧
 (s1.next = s04.n ∧
 w11 s1 = s1.m ∧
 s1.bs = s1.bs ∧
 s1.clk = s1.clk ∧
 s1.next = s1.next ∧
 s1.most = s1.most ∧
 w41 s3 = s3.l ∧
 [] = s04.l) ∧
 ∀ (s4 : G1), inv4 (w58 s1 s3) (w37 s1) (w38 s1) s4 →
 IntKind.u64.has s4.n →
 (w4 s1).Nodup →
 part0 s1 →
 (s1.bs.length = w5 s1 ∧
 s1.bs.Nodup ∧
 ∀ (b : Nat), b ∈ s1.bs →
 b < s1.clk) →
 IntKind.u64.has s1.next →
 IntKind.u64.has s1.most →
 (∀ (row1 : Int), row1 ∈ s4.l →
 (RTy.one (CTy.int IntKind.u64)).Has row1) →
 (∀ (row : Int), row ∈ s3.l →
 (RTy.one (CTy.int IntKind.u64)).Has row) →
 (w59 s1 s4 = true →
 (w60 s1 s4 = true →
 (w63 s4 * (8 : Nat) ≤ (140737488355328 : Nat) ∧
 w63 s4 ≤ (4611686018427387904 : Nat)) ∧
 ∃ s'6, inv4 (w58 s1 s3) (w37 s1) (w38 s1) s'6 ∧
 (w38 s1 - s'6.n).toNat < w64 s1 s4 ∧
 w65 s4 = s'6.n ∧
 w11 s1 = s1.m ∧
 s1.bs = s1.bs ∧
 s1.clk = s1.clk ∧
 s1.next = s1.next ∧
 s1.most = s1.most ∧
 w41 s3 = s3.l ∧
 (w62 s4) = s'6.l) ∧
 (w60 s1 s4 = false →
 ∃ s'7, inv4 (w58 s1 s3) (w37 s1) (w38 s1) s'7 ∧
 (w38 s1 - s'7.n).toNat < w64 s1 s4 ∧
 w65 s4 = s'7.n ∧
 w11 s1 = s1.m ∧
 s1.bs = s1.bs ∧
 s1.clk = s1.clk ∧
 s1.next = s1.next ∧
 s1.most = s1.most ∧
 w41 s3 = s3.l ∧
 w61 s4 = s'7.l)) ∧
 ((!w59 s1 s4) = true →
 (w68 s3 s4 = true →
 false = true) ∧
 ((!w68 s3 s4) = true →
 ∃ s05, inv5 (w69 s1 s3 s4) (w70 s1 s3 s4) s05 ∧
 ((0 : Int) = s05.n ∧
 part4 s1 s3 s4) ∧
 ∀ (s5 : R1), inv5 (w69 s1 s3 s4) (w70 s1 s3 s4) s5 →
 IntKind.i64.has s5.n →
 (w4 s1).Nodup →
 part0 s1 →
 (s1.bs.length = w5 s1 ∧
 s1.bs.Nodup ∧
 ∀ (b : Nat), b ∈ s1.bs →
 b < s1.clk) →
 IntKind.u64.has s1.next →
 IntKind.u64.has s1.most →
 (∀ (row1 : Int), row1 ∈ s4.l →
 (RTy.one (CTy.int IntKind.u64)).Has row1) →
 (∀ (row : Int), row ∈ s3.l →
 (RTy.one (CTy.int IntKind.u64)).Has row) →
 (w71 s4 s5 = true →
 (((0 : Int) ≤ s5.n ∧
 s5.n < w66 s4) ∧
 (0 : Int) ≤ s5.n ∧
 s5.n < w67 s3) ∧
 (w72 s3 s4 s5 = true →
 false = true) ∧
 ((!w72 s3 s4 s5) = true →
 ∃ s'8, inv5 (w69 s1 s3 s4) (w70 s1 s3 s4) s'8 ∧
 w73 s1 s3 s4 - s'8.n.toNat < w73 s1 s3 s4 - s5.n.toNat ∧
 IntKind.i64.wrap (s5.n + (1 : Int)) = s'8.n ∧
 part4 s1 s3 s4)) ∧
 ((!w71 s4 s5) = true →
 ∃ s06, inv7 s06 ∧
 ((0 : Int) = s06.n ∧
 part5 vals kn cut s1) ∧
 ∀ (s6 : R1), inv7 s6 →
 (CTy.sl (RTy.one CTy.txt)).Has vals →
 (CTy.sl (RTy.one CTy.boo)).Has kn →
 IntKind.u16.has cut →
 IntKind.u64.has (w48 cut s1) →
 IntKind.i64.has s6.n →
 (w4 s1).Nodup →
 part0 s1 →
 (s1.bs.length = w5 s1 ∧
 s1.bs.Nodup ∧
 ∀ (b : Nat), b ∈ s1.bs →
 b < s1.clk) →
 IntKind.u64.has s1.next →
 IntKind.u64.has s1.most →
 (w74 vals s6 = true →
 (w75 kn s6 = false →
 (0 : Int) ≤ s6.n ∧
 s6.n < w2 kn) ∧
 (w76 cut s1 s6 = false →
 w79 s6 = false →
 w81 kn s1 s6 = false →
 w80 s1 s6 = true →
 (0 : Int) ≤ s6.n ∧
 s6.n < w0 vals) ∧
 ((bif w76 cut s1 s6 then w82 s6 else w83 vals kn s1 s6) = true →
 false = true) ∧
 ((bif w76 cut s1 s6 then !w82 s6 else !w83 vals kn s1 s6) = true →
 ∃ s'9, inv7 s'9 ∧
 vals.length - s'9.n.toNat < vals.length - s6.n.toNat ∧
 IntKind.i64.wrap (s6.n + (1 : Int)) = s'9.n ∧
 part5 vals kn cut s1)) ∧
 ((!w74 vals s6) = true →
 true = true)))))))))) ∧
 ((!w51 cut s1 && !w52 cut s1) = true →
 ∃ s07, inv6 (w84 s1 s3) (w85 s1 s3) (w86 s1 s3) (w87 cut s1) s07 ∧
 (w48 cut s1 = w48 cut s1 ∧
 w11 s1 = s07.m ∧
 s1.bs = s07.bs ∧
 s1.clk = w86 s1 s3 ∧
 s1.next = s1.next ∧
 s1.most = s1.most ∧
 w41 s3 = s3.l ∧
 s1.clk = w86 s1 s3 ∧
 [] = s07.seen ∧
 s1.clk = w86 s1 s3) ∧
 ∀ (s7 : J1), inv6 (w84 s1 s3) (w85 s1 s3) (w86 s1 s3) (w87 cut s1) s7 →
 IntKind.u64.has (w48 cut s1) →
 (w88 s7).Nodup →
 part6 s7 →
 part7 s1 s3 s7 →
 IntKind.u64.has s1.next →
 IntKind.u64.has s1.most →
 (∀ (row : Int), row ∈ s3.l →
 (RTy.one (CTy.int IntKind.u64)).Has row) →
 (s7.seen = [] ∨ s7.bs = [] ∨ ∃ b, b ∈ s7.bs ∧
 b < w86 s1 s3) ∧
 (∀ (j : Nat), (∀ (b3 : Nat), b3 ∈ s7.bs →
 b3 < w86 s1 s3 →
 b3 ∈ s7.seen) →
 ((w48 cut s1 = w48 cut s1 ∧
 w90 cut s1 = w90 cut s1 ∧
 part8 cut s1) ∧
 part8 cut s1) ∧
 ∃ s08, inv3 (w93 cut s1 s3 s7) (w94 cut s1) s08 ∧
 (w90 cut s1 = s08.n ∧
 w95 s7 = s7.m ∧
 s7.bs = s7.bs ∧
 w86 s1 s3 = w86 s1 s3 ∧
 w48 cut s1 = w48 cut s1 ∧
 w90 cut s1 = s08.n ∧
 part9 cut s1 s3 s7) ∧
 ∀ (s8 : R1), inv3 (w93 cut s1 s3 s7) (w94 cut s1) s8 →
 IntKind.u64.has s8.n →
 (w88 s7).Nodup →
 part6 s7 →
 part7 s1 s3 s7 →
 IntKind.u64.has (w48 cut s1) →
 IntKind.u64.has s8.n →
 IntKind.u64.has (w91 cut s1) →
 (∀ (row : Int), row ∈ s3.l →
 (RTy.one (CTy.int IntKind.u64)).Has row) →
 IntKind.u64.has (w90 cut s1) →
 (w96 s7 s8 = true →
 (w49 cut s1 = true →
 false = true) ∧
 (w50 cut s1 = true →
 (w97 cut s1 = true →
 false = true) ∧
 (w97 cut s1 = false →
 (w98 s1 s8 = true →
 false = true) ∧
 (w98 s1 s8 = false →
 (w100 cut s1 s8 = true →
 false = true) ∧
 (w100 cut s1 s8 = false →
 ∃ s09, inv4 (w102 cut s1 s3 s7 s8) (w103 s8) (w104 cut s1 s8) s09 ∧
 (s8.n = s09.n ∧
 w95 s7 = s7.m ∧
 s7.bs = s7.bs ∧
 w86 s1 s3 = w86 s1 s3 ∧
 w48 cut s1 = w48 cut s1 ∧
 s8.n = s8.n ∧
 w99 cut s1 s8 = w99 cut s1 s8 ∧
 w41 s3 = s3.l ∧
 w86 s1 s3 = w86 s1 s3 ∧
 s7.seen = s7.seen ∧
 w86 s1 s3 = w86 s1 s3 ∧
 w90 cut s1 = w90 cut s1 ∧
 Code.region (2 : Nat) w24.toArray false = Code.region (2 : Nat) w24.toArray false ∧
 Code.block (1 : Nat) (Code.region (3 : Nat) w26.toArray false) = Code.block (1 : Nat) (Code.region (3 : Nat) w26.toArray false) ∧
 [] = s09.l) ∧
 ∀ (s9 : G1), inv4 (w102 cut s1 s3 s7 s8) (w103 s8) (w104 cut s1 s8) s9 →
 IntKind.u64.has s9.n →
 (w88 s7).Nodup →
 part6 s7 →
 part7 s1 s3 s7 →
 IntKind.u64.has (w48 cut s1) →
 IntKind.u64.has s8.n →
 IntKind.u64.has (w99 cut s1 s8) →
 (∀ (row : Int), row ∈ s3.l →
 (RTy.one (CTy.int IntKind.u64)).Has row) →
 (∀ (row2 : Int), row2 ∈ s9.l →
 (RTy.one (CTy.int IntKind.u64)).Has row2) →
 IntKind.u64.has (w90 cut s1) →
 (w105 cut s1 s8 s9 = true →
 (w106 s7 s9 = true →
 (w109 s9 * (8 : Nat) ≤ (140737488355328 : Nat) ∧
 w109 s9 ≤ (4611686018427387904 : Nat)) ∧
 ∃ s'10, inv4 (w102 cut s1 s3 s7 s8) (w103 s8) (w104 cut s1 s8) s'10 ∧
 (w104 cut s1 s8 - s'10.n).toNat < w110 cut s1 s8 s9 ∧
 w111 s9 = s'10.n ∧
 w95 s7 = s7.m ∧
 s7.bs = s7.bs ∧
 w86 s1 s3 = w86 s1 s3 ∧
 w48 cut s1 = w48 cut s1 ∧
 s8.n = s8.n ∧
 w99 cut s1 s8 = w99 cut s1 s8 ∧
 w41 s3 = s3.l ∧
 w86 s1 s3 = w86 s1 s3 ∧
 s7.seen = s7.seen ∧
 w86 s1 s3 = w86 s1 s3 ∧
 w90 cut s1 = w90 cut s1 ∧
 Code.region (2 : Nat) w24.toArray false = Code.region (2 : Nat) w24.toArray false ∧
 Code.block (1 : Nat) (Code.region (3 : Nat) w26.toArray false) = Code.block (1 : Nat) (Code.region (3 : Nat) w26.toArray false) ∧
 (w108 s9) = s'10.l) ∧
 (w106 s7 s9 = false →
 ∃ s'11, inv4 (w102 cut s1 s3 s7 s8) (w103 s8) (w104 cut s1 s8) s'11 ∧
 (w104 cut s1 s8 - s'11.n).toNat < w110 cut s1 s8 s9 ∧
 w111 s9 = s'11.n ∧
 w95 s7 = s7.m ∧
 s7.bs = s7.bs ∧
 w86 s1 s3 = w86 s1 s3 ∧
 w48 cut s1 = w48 cut s1 ∧
 s8.n = s8.n ∧
 w99 cut s1 s8 = w99 cut s1 s8 ∧
 w41 s3 = s3.l ∧
 w86 s1 s3 = w86 s1 s3 ∧
 s7.seen = s7.seen ∧
 w86 s1 s3 = w86 s1 s3 ∧
 w90 cut s1 = w90 cut s1 ∧
 Code.region (2 : Nat) w24.toArray false = Code.region (2 : Nat) w24.toArray false ∧
 Code.block (1 : Nat) (Code.region (3 : Nat) w26.toArray false) = Code.block (1 : Nat) (Code.region (3 : Nat) w26.toArray false) ∧
 w107 s9 = s'11.l)) ∧
 ((!w105 cut s1 s8 s9) = true →
 (w113 s3 s9 = true →
 false = true) ∧
 ((!w113 s3 s9) = true →
 ∃ s010, inv5 (w114 cut s1 s3 s7 s8 s9) (w115 cut s1 s3 s7 s8 s9) s010 ∧
 ((0 : Int) = s010.n ∧
 part10 cut s1 s3 s7 s8 s9) ∧
 ∀ (s10 : R1), inv5 (w114 cut s1 s3 s7 s8 s9) (w115 cut s1 s3 s7 s8 s9) s10 →
 IntKind.i64.has s10.n →
 (w88 s7).Nodup →
 part6 s7 →
 part7 s1 s3 s7 →
 IntKind.u64.has (w48 cut s1) →
 IntKind.u64.has s8.n →
 IntKind.u64.has (w99 cut s1 s8) →
 (∀ (row : Int), row ∈ s3.l →
 (RTy.one (CTy.int IntKind.u64)).Has row) →
 (∀ (row2 : Int), row2 ∈ s9.l →
 (RTy.one (CTy.int IntKind.u64)).Has row2) →
 IntKind.u64.has (w90 cut s1) →
 (w116 s9 s10 = true →
 (((0 : Int) ≤ s10.n ∧
 s10.n < w112 s9) ∧
 (0 : Int) ≤ s10.n ∧
 s10.n < w67 s3) ∧
 (w117 s3 s9 s10 = true →
 false = true) ∧
 ((!w117 s3 s9 s10) = true →
 ∃ s'12, inv5 (w114 cut s1 s3 s7 s8 s9) (w115 cut s1 s3 s7 s8 s9) s'12 ∧
 w118 cut s1 s3 s7 s8 s9 - s'12.n.toNat < w118 cut s1 s3 s7 s8 s9 - s10.n.toNat ∧
 IntKind.i64.wrap (s10.n + (1 : Int)) = s'12.n ∧
 part10 cut s1 s3 s7 s8 s9)) ∧
 ((!w116 s9 s10) = true →
 ∃ s011, inv7 s011 ∧
 ((0 : Int) = s011.n ∧
 part11 vals kn cut s1 s3 s7 s8) ∧
 ∀ (s11 : R1), inv7 s11 →
 (CTy.sl (RTy.one CTy.txt)).Has vals →
 (CTy.sl (RTy.one CTy.boo)).Has kn →
 IntKind.u16.has cut →
 IntKind.u64.has (w48 cut s1) →
 IntKind.i64.has s11.n →
 (w88 s7).Nodup →
 part6 s7 →
 part7 s1 s3 s7 →
 IntKind.u64.has (w48 cut s1) →
 IntKind.u64.has s8.n →
 IntKind.u64.has (w99 cut s1 s8) →
 (w119 vals s11 = true →
 (w120 kn s11 = false →
 (0 : Int) ≤ s11.n ∧
 s11.n < w2 kn) ∧
 (w121 cut s1 s11 = false →
 w124 cut s1 s11 = false →
 w126 kn cut s1 s7 s11 = false →
 w125 cut s1 s7 s11 = true →
 (0 : Int) ≤ s11.n ∧
 s11.n < w0 vals) ∧
 ((bif w121 cut s1 s11 then w127 cut s1 s11 else w128 vals kn cut s1 s7 s11) = true →
 false = true) ∧
 ((bif w121 cut s1 s11 then !w127 cut s1 s11 else !w128 vals kn cut s1 s7 s11) = true →
 ∃ s'13, inv7 s'13 ∧
 vals.length - s'13.n.toNat < vals.length - s11.n.toNat ∧
 IntKind.i64.wrap (s11.n + (1 : Int)) = s'13.n ∧
 part11 vals kn cut s1 s3 s7 s8)) ∧
 ((!w119 vals s11) = true →
 true = true))))))))) ∧
 (w96 s7 s8 = false →
 ∃ s'14, inv3 (w93 cut s1 s3 s7) (w94 cut s1) s'14 ∧
 (1000 : Nat) - s'14.n.toNat < (1000 : Nat) - s8.n.toNat ∧
 w129 s8 = s'14.n ∧
 w95 s7 = s7.m ∧
 s7.bs = s7.bs ∧
 w86 s1 s3 = w86 s1 s3 ∧
 w48 cut s1 = w48 cut s1 ∧
 w129 s8 = s'14.n ∧
 part9 cut s1 s3 s7)) ∧
 ∀ (j1 : Nat), j1 < w89 s7 ∧
 ¬bornAt s7.bs j1 ∈ s7.seen →
 (w86 s1 s3 = w86 s1 s3 ∧
 w130 s7 j1 ≠ [] ∧
 w131 s7 j1 ∈ s7.bs) ∧
 ∃ s'15, inv6 (w84 s1 s3) (w85 s1 s3) (w86 s1 s3) (w87 cut s1) s'15 ∧
 w132 s1 s3 - s'15.seen.length < w132 s1 s3 - s7.seen.length ∧
 w48 cut s1 = w48 cut s1 ∧
 (bif w134 cut s1 s7 j1 then mdel s7.m (keyM s7.m (w133 s7 j1)) else w95 s7) = s'15.m ∧
 (bif w134 cut s1 s7 j1 then bdel s7.m s7.bs (keyM s7.m (w133 s7 j1)) else s7.bs) = s'15.bs ∧
 (bif w134 cut s1 s7 j1 then w86 s1 s3 else w86 s1 s3) = w86 s1 s3 ∧
 s1.next = s1.next ∧
 s1.most = s1.most ∧
 w41 s3 = s3.l ∧
 w86 s1 s3 = w86 s1 s3 ∧
 w130 s7 j1 = s'15.seen ∧
 w86 s1 s3 = w86 s1 s3)))))))

theorem owed_eq (vals : List (List UInt8)) (kn : List Bool) (cut : Int) (inv1 : A1 → Prop) (inv2 : B1 → Prop) (inv3 : Mp → Int → R1 → Prop) (inv4 : Mp → Int → Int → G1 → Prop) (inv5 : List Int → List Int → R1 → Prop) (inv6 : Mp → List Nat → Nat → Int → J1 → Prop) (inv7 : R1 → Prop) : owed vals kn cut inv1 inv2 inv3 inv4 inv5 inv6 inv7 = vTop Try.prog S1 (L1 vals inv1 inv2 inv3 inv4 inv5 inv6 inv7) 1000 8 [.dsl vR vals, .dsl kR kn, .sI .u16 cut] H0 (fun v _ => isB v true) := by kernel_rfl
end
end Go.Proofs.Ytdeoahhofhmgfaa.SlotsTrim
