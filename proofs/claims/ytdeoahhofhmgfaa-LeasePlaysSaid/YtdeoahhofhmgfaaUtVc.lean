/- A part of the proof that 'reevelaw26.LeasePlays' returns true for every input. No condition. -/
import Derived.Test.YtdeoahhofhmgfaaAmJ
import Derived.KernelRfl
import Derived.Test.YtdeoahhofhmgfaaProg
namespace Go.Proofs.Ytdeoahhofhmgfaa.LeasePlays
open Go.AM
noncomputable section
/-- A region's operations, by its number. -/
def regGo (k : Nat) : Code → Option (List Oper)
  | .region j ops _ => bif Nat.beq j k then some ops.toList else none
  | .seq a b => (regGo k a).orElse fun _ => regGo k b
  | .cond _ a b => (regGo k a).orElse fun _ => regGo k b
  | .rangeFunc _ _ a b => (regGo k a).orElse fun _ => regGo k b
  | .block _ a => regGo k a
  | .loop a => regGo k a
  | .scope a => regGo k a
  | _ => none
def regOps (P : Program) (f : FuncId) (k : Nat) : List Oper := ((P.funcs[f]?.bind Func.body).bind (regGo k)).getD []
def S1 : SumP := fun f args H => match f, args with
  | 52, [] => some (.val (.bool true))
  | 105, [.sw i] => match H.get i with
    | some (.seq (.one (.int .i64)) rows ty) => some (.fn (some (List.length (α := Int) rows < 4611686018427387904)) (.tup []) (H.set i (.seq (.one (.int .i64)) (sortI rows) ty)))
    | _ => none
  | _, _ => none
def stR : RTy := .cons .boo (.cons (.int .i64) (.cons (.int .u64) (.cons (.int .i64) (.one (.int .i64)))))
def iR : RTy := .one (.int .i64)
def bR1 : RTy := .one .boo
abbrev Stp := Bool × Int × Int × Int × Int
abbrev Mp := List (Int × Int)
structure M1 where
  i : Int
  gR : Int
  gN : Int
  gU : Int
  m : Mp
  bs : List Nat
  clk : Nat
  has : List Bool
  tk : List Int
structure V1 where
  js : List Nat
structure O1 where
  i : Int
  best : Int
  is : Bool
structure K1 where
  k : Int
  who : List Int
structure Q1 where
  c : Int
  i : Int
structure P1 where
  j : Int
  h : Bool
structure R1 where
  k : Int
def rowT (l : List Stp) (i : Nat) : Stp := Go.AM.rowAt (r := stR) l i
def rowB (l : List Bool) (i : Nat) : Bool := Go.AM.rowAt (r := bR1) l i
def rowI (l : List Int) (i : Nat) : Int := Go.AM.rowAt (r := iR) l i
def keyM (m : Mp) (j : Nat) : Int := Go.AM.keyAt (kr := iR) (vr := iR) m j
def valM (m : Mp) (j : Nat) : Int := Go.AM.valAt (kr := iR) (vr := iR) m j
def mOf (H : Heap) (i : Nat) : Mp := match H.get i with
  | some (.smap _ _ (.one (.int _)) (.one (.int _)) m _ _) => m
  | _ => []
def bsOf (H : Heap) (i : Nat) : List Nat := match H.get i with
  | some (.smap _ _ _ _ _ bs _) => bs
  | _ => []
def clkOf (H : Heap) (i : Nat) : Nat := match H.get i with
  | some (.smap _ _ _ _ _ _ clk) => clk
  | _ => 0
def seqI (H : Heap) (v : AV) : List Int := match H.get (idV v) with
  | some (.seq (.one (.int _)) rows _) => rows
  | _ => []
def seqB (H : Heap) (v : AV) : List Bool := match H.get (idV v) with
  | some (.seq (.one .boo) rows _) => rows
  | _ => []
def itMap (H : Heap) (i : Nat) : Nat := match H.get i with
  | some (.smIter m _ _ _) => m
  | _ => 0
def loopSlot (H : Heap) (l t : Nat) : AV := match H.get l with
  | some (.loop _ _ _ fr _ _ _ _) => avOf fr t
  | _ => .nilPtr
def isPtr (v : AV) : Bool := match v with
  | .ptr _ _ => true
  | _ => false
def objL (l : List (Nat × AObj)) : T AObj := l.foldl (fun t p => t.set p.1 (some p.2)) .nil
def LM (length bound bR bN n : Int) (steps : List Stp) (inv : M1 → Prop) (fr : Fr) : LInv := ⟨M1, inv, fun s _ _ =>
  let g := isPtr (avOf fr 13)
  let h := isPtr (avOf fr 16)
  ([(5, .dsl stR steps), (9, .ptr 7 0), (12, .bool false), (19, .sI .i64 s.i), (13, bif g then .ptr 0 0 else .nilPtr), (15, bif g then .ptr 1 0 else .nilPtr), (16, bif h then .ptr 2 0 else .nilPtr), (18, bif h then .ptr 4 0 else .nilPtr)],
   { t := objL ([(7, .cells false 2 [.sI .u64 bR, .sI .i64 bN] none)] ++
      (bif g then [(0, .cells false 4 [.sI .i64 length, .sI .u64 s.gR, .sI .i64 s.gN, .sI .i64 s.gU] none), (1, .cells false 4 [.sI .i64 length, .sI .u64 s.gR, .sI .i64 s.gN, .sI .i64 s.gU] none)] else []) ++
      (bif h then [(2, .cells false 6 [.sI .u64 bR, .sI .i64 bN, .sI .i64 n, .sI .i64 length, .sI .i64 bound, .map 3] none), (3, .smap false false iR iR s.m s.bs s.clk),
        (4, .cells false 7 [.sI .u64 bR, .sI .i64 bN, .sI .i64 n, .sI .i64 length, .sI .i64 bound, .sw 5, .sw 6] none), (5, .seq bR1 s.has none), (6, .seq iR s.tk none)] else [])), next := 8 }), fun s => steps.length - s.i.toNat⟩
def LVal (inv : Mp → List Nat → V1 → Prop) (fr : Fr) (H : Heap) : LInv :=
  let mi := itMap H (ptrOf fr 6)
  ⟨V1, inv (mOf H mi) (bsOf H mi), fun s fr H => patchA [0, 1, 6] (fun _ => []) ((ptrOf (frOf [(0, loopSlot H (yldOf fr 0) 2)]) 0, .cells false 1 [.sw H.next] none) :: (ptrOf fr 6, .smIter mi (clkOf H mi) (s.js.map (bornAt (bsOf H mi))) (clkOf H mi)) :: loopKeep [2] H (yldOf fr 0)) [.seq iR (s.js.map (valM (mOf H mi))) none] fr H, fun s => (mOf H mi).length - s.js.length⟩
def LO (inv : List Bool → List Int → Int → O1 → Prop) (fr : Fr) (H : Heap) : LInv :=
  ⟨O1, inv (seqB H (cellOf H (ptrOf fr 0) 5)) (seqI H (cellOf H (ptrOf fr 0) 6)) (intV (cellOf H (ptrOf fr 0) 2)), patchS, fun s => (intV (cellOf H (ptrOf fr 0) 2) - s.i).toNat⟩
where patchS (s : O1) : Fr → Heap → List (Nat × AV) × Heap := patch [0, 2, 3] [(4, .sI .i64 s.best), (5, .sB s.is), (6, .sI .i64 s.i)] []
def LK (inv : List Bool → List Int → Int → Int → K1 → Prop) (fr : Fr) (H : Heap) : LInv :=
  ⟨K1, inv (seqB H (cellOf H (ptrOf fr 0) 5)) (seqI H (cellOf H (ptrOf fr 0) 6)) (intV (cellOf H (ptrOf fr 0) 2)) (intOf fr 6), fun s => patchA [0, 2, 3, 4, 5, 6] (fun nx => [(7, .sw nx), (8, .sI .i64 s.k)]) [] [.seq iR s.who none], fun s => (intV (cellOf H (ptrOf fr 0) 2) - s.k).toNat⟩
def LQ (inv : List Int → Int → Q1 → Prop) (fr : Fr) (H : Heap) : LInv :=
  ⟨Q1, inv (seqI H (avOf fr 0)) (intOf fr 1), fun s => patch [0, 1, 4] [(5, .sI .i64 s.c), (6, .sI .i64 s.i)] [], fun s => (intOf fr 1 - s.i).toNat⟩
def LP (inv : List Int → Int → P1 → Prop) (fr : Fr) (H : Heap) : LInv :=
  ⟨P1, inv (seqI H (avOf fr 0)) (intOf fr 6), fun s => patch [0, 1, 4, 5, 6] [(7, .sB s.h), (8, .sI .i64 s.j)] [], fun s => (seqI H (avOf fr 0)).length - s.j.toNat⟩
def LR (inv : Int → R1 → Prop) (fr : Fr) : LInv :=
  ⟨R1, inv (intOf fr 0), fun s => patch [0, 2] [(3, .sI .i64 s.k)] [], fun s => (intOf fr 0 + 2 - s.k).toNat⟩
structure Invs where
  m : M1 → Prop
  v : Mp → List Nat → V1 → Prop
  o : List Bool → List Int → Int → O1 → Prop
  k : List Bool → List Int → Int → Int → K1 → Prop
  q : List Int → Int → Q1 → Prop
  p : List Int → Int → P1 → Prop
  r : Int → R1 → Prop
def L1 (length bound bR bN n : Int) (steps : List Stp) (iv : Invs) : LTab := fun f k fr H => match f, k with
  | 10, 10 => some (LM length bound bR bN n steps iv.m fr)
  | 106, 1 => some (LVal iv.v fr H)
  | 60, 3 => some (LO iv.o fr H)
  | 60, 8 => some (LK iv.k fr H)
  | 95, 3 => some (LQ iv.q fr H)
  | 95, 7 => some (LP iv.p fr H)
  | 107, 2 => some (LR iv.r fr)
  | _, _ => none
def hU (bR bN n len bound : Int) (m : Mp) (bs : List Nat) (clk : Nat) : Heap := { t := objL [(0, .cells false 6 [.sI .u64 bR, .sI .i64 bN, .sI .i64 n, .sI .i64 len, .sI .i64 bound, .map 1] none), (1, .smap false false iR iR m bs clk)], next := 2 }
def uPost (U : Int) (b : Bool) (v : AV) (H' H : Heap) : Prop := match v with
  | .tup [x, y] => match x.asX, y.asB with
    | some (.i64, u), some c => u = U ∧ c = b ∧ H'.get 0 = H.get 0 ∧ H'.get 1 = H.get 1
    | _, _ => False
  | _ => False
def LU1 (inv : Mp → List Nat → V1 → Prop) : LTab := fun f k fr H => match f, k with
  | 106, 1 => some (LVal inv fr H)
  | _, _ => none
def w0 (n : Int) : Bool := !(decide (n < (1 : Int)) || decide ((7 : Int) < n))
def w1 (m : Mp) : Nat := List.length m
def w2 (n : Int) : Int := bif w0 n then IntKind.i64.wrap (IntKind.i64.wrap (n.tdiv (2 : Int)) + (1 : Int)) else (0 : Int)
def w3 (n : Int) (m : Mp) : Bool := decide ((↑(w1 m) : Int) < w2 n)
def w4 : List AV := [AV.map (1 : Nat)]
def w5 (bR : Int) (bN : Int) (n : Int) (len : Int) (bound : Int) : List AV := AV.sI IntKind.u64 bR :: AV.sI IntKind.i64 bN :: AV.sI IntKind.i64 n :: AV.sI IntKind.i64 len :: AV.sI IntKind.i64 bound :: w4
def w6 : List Oper := regOps Try.prog 114 2
def w7 : List Oper := regOps Try.prog 114 3
def w8 : List AV := [AV.ptr (2 : Nat) (0 : Nat)]
def w9 (bR : Int) (bN : Int) (n : Int) (len : Int) (bound : Int) (m : Mp) (bs : List Nat) (clk : Nat) : Nat := clkOf { t := ((T.nil.node (some (AObj.cells false (1 : Nat) [AV.nilSlc] (some (152 : Nat)))) T.nil).node (some (AObj.smap false false (RTy.one (CTy.int IntKind.i64)) (RTy.one (CTy.int IntKind.i64)) m bs clk)) (T.nil.node (some (AObj.smIter (1 : Nat) clk [] clk)) T.nil)).node (some (AObj.cells false (6 : Nat) (w5 bR bN n len bound) none)) ((T.nil.node (some (AObj.loop LoopState.ready none (114 : Nat) ((T.nil.node (some (AV.fn (Fn.func (106 : Nat)) [] w8)) T.nil).node (some AV.nilSlc) ((T.nil.node (some AV.nilSlc) T.nil).node (some (AV.ptr (3 : Nat) (0 : Nat))) (T.nil.node (some (AV.fn (Fn.func (106 : Nat)) [] w8)) T.nil))) (13 : Nat) [(7 : Nat)] (Code.region (2 : Nat) w6.toArray false) (Code.block (1 : Nat) (Code.region (3 : Nat) w7.toArray false)))) T.nil).node (some (AObj.cells false (1 : Nat) w4 (some (149 : Nat)))) T.nil), next := (6 : Nat), d := (60 : Nat) } (1 : Nat)
def w10 (m : Mp) (s : V1) : List Int := List.map (valM m) s.js
def w11 (bs : List Nat) (s : V1) : List Nat := List.map (bornAt bs) s.js
def w12 (m : Mp) (s : V1) : List Int := sortI (w10 m s)
def w13 (m : Mp) (s : V1) : Int := (↑(w12 m s).length : Int)
def w14 (n : Int) (m : Mp) (s : V1) : Int := IntKind.i64.wrap (w13 m s - w2 n)
def w15 (bs : List Nat) (s : V1) (j1 : Nat) : List Nat := w11 bs s ++ [bornAt bs j1]
def w16 (bs : List Nat) (s : V1) (j1 : Nat) : Nat := lastT (w15 bs s j1)
def w17 (m : Mp) (bs : List Nat) (s : V1) (j1 : Nat) : List Int := (w10 m s) ++ [valM m (List.idxOf (w16 bs s j1) bs)]
def w18 (m : Mp) (bs : List Nat) (s : V1) (j1 : Nat) : Nat := (w17 m bs s j1).length
def w19 (m : Mp) : Nat := List.length m
def part0 (bR : Int) (bN : Int) (n : Int) (len : Int) (bound : Int) (m : Mp) (bs : List Nat) (clk : Nat) : Prop := some (AObj.cells false (6 : Nat) (w5 bR bN n len bound) none) = some (AObj.cells false (6 : Nat) (w5 bR bN n len bound) none) ∧
 some (AObj.smap false false (RTy.one (CTy.int IntKind.i64)) (RTy.one (CTy.int IntKind.i64)) m bs clk) = some (AObj.smap false false (RTy.one (CTy.int IntKind.i64)) (RTy.one (CTy.int IntKind.i64)) m bs clk)
def owed (bR bN n len bound : Int) (m : Mp) (bs : List Nat) (clk : Nat) (U : Int) (b : Bool) (inv : Mp → List Nat → V1 → Prop) : Prop :=
  (w0 n = true →
 (2 : Int) ≠ (0 : Int)) ∧
 w1 m ≤ (9223372036854775807 : Nat) ∧
 (w3 n m = true →
 (0 : Int) = U ∧
 false = b ∧
 part0 bR bN n len bound m bs clk) ∧
 ((!w3 n m) = true →
 ∃ s0, inv m bs s0 ∧
 (bR = bR ∧
 bN = bN ∧
 n = n ∧
 len = len ∧
 bound = bound ∧
 m = m ∧
 bs = bs ∧
 clk = clk ∧
 Code.region (2 : Nat) w6.toArray false = Code.region (2 : Nat) w6.toArray false ∧
 Code.block (1 : Nat) (Code.region (3 : Nat) w7.toArray false) = Code.block (1 : Nat) (Code.region (3 : Nat) w7.toArray false) ∧
 clk = w9 bR bN n len bound m bs clk ∧
 [] = List.map (bornAt bs) s0.js ∧
 clk = w9 bR bN n len bound m bs clk ∧
 [] = List.map (valM m) s0.js) ∧
 ∀ (s : V1), inv m bs s →
 IntKind.u64.has bR →
 IntKind.i64.has bN →
 IntKind.i64.has n →
 IntKind.i64.has len →
 IntKind.i64.has bound →
 (List.map (fun x => x.fst) m).Nodup →
 (∀ (p : Int × Int), p ∈ m →
 (RTy.one (CTy.int IntKind.i64)).Has p.fst ∧
 (RTy.one (CTy.int IntKind.i64)).Has p.snd) →
 (bs.length = w1 m ∧
 bs.Nodup ∧
 ∀ (b1 : Nat), b1 ∈ bs →
 b1 < clk) →
 (∀ (row : Int), row ∈ w10 m s →
 (RTy.one (CTy.int IntKind.i64)).Has row) →
 (w11 bs s = [] ∨ bs = [] ∨ ∃ b, b ∈ bs ∧
 b < w9 bR bN n len bound m bs clk) ∧
 (∀ (j : Nat), (∀ (b2 : Nat), b2 ∈ bs →
 b2 < w9 bR bN n len bound m bs clk →
 b2 ∈ w11 bs s) →
 (w10 m s).length < (4611686018427387904 : Nat) ∧
 ((0 : Int) ≤ w14 n m s ∧
 w14 n m s < w13 m s) ∧
 IntKind.i64.wrap (IntKind.i64.wrap (rowI (w12 m s) (w14 n m s).toNat + len) - IntKind.i64.wrap ((2 : Int) * bound)) = U ∧
 true = b ∧
 part0 bR bN n len bound m bs clk) ∧
 ∀ (j1 : Nat), j1 < w1 m ∧
 ¬bornAt bs j1 ∈ w11 bs s →
 (clk = clk ∧
 w15 bs s j1 ≠ [] ∧
 w16 bs s j1 ∈ bs) ∧
 (w18 m bs s j1 * (8 : Nat) ≤ (140737488355328 : Nat) ∧
 w18 m bs s j1 ≤ (4611686018427387904 : Nat)) ∧
 ∃ s', inv m bs s' ∧
 w19 m - s'.js.length < w19 m - s.js.length ∧
 bR = bR ∧
 bN = bN ∧
 n = n ∧
 len = len ∧
 bound = bound ∧
 m = m ∧
 bs = bs ∧
 clk = clk ∧
 Code.region (2 : Nat) w6.toArray false = Code.region (2 : Nat) w6.toArray false ∧
 Code.block (1 : Nat) (Code.region (3 : Nat) w7.toArray false) = Code.block (1 : Nat) (Code.region (3 : Nat) w7.toArray false) ∧
 w9 bR bN n len bound m bs clk = w9 bR bN n len bound m bs clk ∧
 w15 bs s j1 = List.map (bornAt bs) s'.js ∧
 clk = w9 bR bN n len bound m bs clk ∧
 (w17 m bs s j1) = List.map (valM m) s'.js)

theorem owed_eq (bR bN n len bound : Int) (m : Mp) (bs : List Nat) (clk : Nat) (U : Int) (b : Bool) (inv : Mp → List Nat → V1 → Prop) : owed bR bN n len bound m bs clk U b inv = vTop Try.prog S1 (LU1 inv) 1000 59 [.ptr 0 0] (hU bR bN n len bound m bs clk) (fun v H' => uPost U b v H' (hU bR bN n len bound m bs clk)) := by kernel_rfl
end
end Go.Proofs.Ytdeoahhofhmgfaa.LeasePlays
