/- A part of the proof that 'reevelaw10.NetOnce' returns true for every input. No condition. -/
import Derived.Test.YtdeoahhofhmgfaaAmJ
import Derived.KernelRfl
import Derived.Test.YtdeoahhofhmgfaaNoT
namespace Go.Proofs.Ytdeoahhofhmgfaa.No.Ls
open Go.AM
open Sz
noncomputable section
/-- A region's operations, by its number. -/
def regGo (k : Nat) : Code → Option (List Oper)
  | .region j ops _ => bif Nat.beq j k then some ops.toList else none
  | .seq a b => (regGo k a).orElse fun _ => regGo k b
  | .cond _ a b => (regGo k a).orElse fun _ => regGo k b
  | .rangeFunc _ _ a b => (regGo k a).orElse fun _ => regGo k b
  | .block _ a => regGo k a
  | .loop a => regGo k a
  | .scope a => regGo k a
  | _ => none
def regOps (P : Program) (f : FuncId) (k : Nat) : List Oper := ((P.funcs[f]?.bind Func.body).bind (regGo k)).getD []
structure L1 where
  i : Int
  rows : List Letter
def LL1 (inv : List Int → L1 → Prop) (fr : Fr) (H : Heap) : LInv := ⟨L1, inv (seqU H (avOf fr 13)), fun s => patchA [0, 13, 14] (fun n => [(15, .sI .i64 s.i), (3, .sw n)]) [] [.seq letR s.rows none], fun s => ((seqU H (avOf fr 13)).length - s.i).toNat⟩
def LL (iK : Lm → List Nat → V1 → Prop) (iL : List Int → L1 → Prop) : LTab := fun f k fr H => match f, k with
  | 101, 1 => some (LKey iK fr H)
  | 35, 5 => some (LL1 iL fr H)
  | _, _ => none
/-- It hands back a new row, and turned nothing. -/
def post (H : Heap) (ok : List Letter → Prop) (v : AV) (H' : Heap) : Prop := match v with
  | .sw j => match H'.get j with
    | some (.seq (.cons (.int .u64) (.cons (.int .i64) (.cons (.int .i64) (.cons .txt (.one (.int .i64)))))) rows none) => ok rows ∧ 3 ≤ j ∧ j < H'.next ∧ H'.get 0 = H.get 0 ∧ H'.get 1 = H.get 1 ∧ H'.get 2 = H.get 2
    | _ => False
  | _ => False
def w0 : List Oper := regOps Try.prog 111 2
def w1 : List Oper := regOps Try.prog 111 3
def w2 : List AV := [AV.ptr (3 : Nat) (0 : Nat)]
def w3 (last : Int) : List AV := [AV.map (1 : Nat), AV.sI IntKind.u64 last, AV.map (2 : Nat)]
def w4 (m : Lm) (bs : List Nat) (clk : Nat) (last : Int) (cm : Cm) (cbs : List Nat) (cclk : Nat) : Nat := clkOf { t := ((T.nil.node (some (AObj.cells false (1 : Nat) [AV.map (1 : Nat)] (some (53 : Nat)))) T.nil).node (some (AObj.smap false true (RTy.one (CTy.int IntKind.u64)) (RTy.cons (CTy.int IntKind.u64) (RTy.cons (CTy.int IntKind.i64) (RTy.cons (CTy.int IntKind.i64) (RTy.cons CTy.txt (RTy.one (CTy.int IntKind.i64)))))) m bs clk)) (T.nil.node (some (AObj.loop LoopState.ready none (111 : Nat) ((T.nil.node (some (AV.fn (Fn.func (101 : Nat)) [] w2)) T.nil).node (some AV.nilSlc) ((T.nil.node (some AV.nilSlc) T.nil).node (some (AV.ptr (4 : Nat) (0 : Nat))) (T.nil.node (some (AV.fn (Fn.func (101 : Nat)) [] w2)) T.nil))) (13 : Nat) [(7 : Nat)] (Code.region (2 : Nat) w0.toArray false) (Code.block (1 : Nat) (Code.region (3 : Nat) w1.toArray false)))) T.nil)).node (some (AObj.cells false (3 : Nat) (w3 last) (some (121 : Nat)))) ((T.nil.node (some (AObj.cells false (1 : Nat) [AV.nilSlc] (some (42 : Nat)))) T.nil).node (some (AObj.smap true false (RTy.cons (CTy.int IntKind.i64) (RTy.one (CTy.int IntKind.i64))) (RTy.one (CTy.int IntKind.i64)) cm cbs cclk)) (T.nil.node (some (AObj.smIter (1 : Nat) clk [] clk)) T.nil)), next := (7 : Nat), d := (120 : Nat) } (1 : Nat)
def w5 (m : Lm) : List Int := List.map (fun x => x.fst) m
def w6 (m : Lm) : Nat := List.length m
def w7 (m : Lm) (s : V1) : List Int := List.map (keyM m) s.js
def w8 (cm : Cm) : List (Int × Int) := List.map (fun x => x.fst) cm
def w9 (cm : Cm) : Nat := List.length cm
def w10 (bs : List Nat) (s : V1) : List Nat := List.map (bornAt bs) s.js
def w11 (m : Lm) (s : V1) : Int := (↑(w7 m s).length : Int)
def w12 (m : Lm) (s : V1) : Int := IntKind.u64.wrap (w11 m s)
def w13 (m : Lm) (bs : List Nat) (clk : Nat) (last : Int) (cm : Cm) (cbs : List Nat) (cclk : Nat) (s : V1) : Bool := decide ((4294967296 : Int) ≤ w12 m s)
def w14 (m : Lm) (bs : List Nat) (clk : Nat) (last : Int) (cm : Cm) (cbs : List Nat) (cclk : Nat) (s : V1) : Int := bif w13 m bs clk last cm cbs cclk s then (w12 m s).fdiv (4294967296 : Int) else w12 m s
def w15 (m : Lm) (bs : List Nat) (clk : Nat) (last : Int) (cm : Cm) (cbs : List Nat) (cclk : Nat) (s : V1) : Bool := decide ((65536 : Int) ≤ w14 m bs clk last cm cbs cclk s)
def w16 (m : Lm) (bs : List Nat) (clk : Nat) (last : Int) (cm : Cm) (cbs : List Nat) (cclk : Nat) (s : V1) : Int := bif w15 m bs clk last cm cbs cclk s then (w14 m bs clk last cm cbs cclk s).fdiv (65536 : Int) else w14 m bs clk last cm cbs cclk s
def w17 (m : Lm) (bs : List Nat) (clk : Nat) (last : Int) (cm : Cm) (cbs : List Nat) (cclk : Nat) (s : V1) : Bool := decide ((256 : Int) ≤ w16 m bs clk last cm cbs cclk s)
def w18 (m : Lm) (bs : List Nat) (clk : Nat) (last : Int) (cm : Cm) (cbs : List Nat) (cclk : Nat) (s : V1) : Int := IntKind.u8.wrap (bif w17 m bs clk last cm cbs cclk s then (w16 m bs clk last cm cbs cclk s).fdiv (256 : Int) else w16 m bs clk last cm cbs cclk s)
def w19 (m : Lm) (s : V1) : Nat := (w7 m s).length
def w20 (r : List Int) : Int := (↑r.length : Int)
def w21 (r : List Int) (s1 : L1) : Bool := decide (s1.i < w20 r)
def w22 : Letter := ((0 : Int), (0 : Int), (0 : Int), [], (0 : Int))
def w23 (m : Lm) (r : List Int) (s1 : L1) : List Letter := s1.rows ++ [(((mget m (rowU r s1.i.toNat)).getD w22).fst, ((mget m (rowU r s1.i.toNat)).getD w22).snd.fst, ((mget m (rowU r s1.i.toNat)).getD w22).snd.snd.fst, ((mget m (rowU r s1.i.toNat)).getD w22).snd.snd.snd.fst, ((mget m (rowU r s1.i.toNat)).getD w22).snd.snd.snd.snd)]
def w24 (m : Lm) (r : List Int) (s1 : L1) : Nat := (w23 m r s1).length
def w25 (r : List Int) : Int := (↑r.length : Int)
def w26 (bs : List Nat) (s : V1) (j1 : Nat) : List Nat := w10 bs s ++ [bornAt bs j1]
def w27 (bs : List Nat) (s : V1) (j1 : Nat) : Nat := lastT (w26 bs s j1)
def w28 (m : Lm) (bs : List Nat) (s : V1) (j1 : Nat) : List Int := (w7 m s) ++ [keyM m (List.idxOf (w27 bs s j1) bs)]
def w29 (m : Lm) (bs : List Nat) (s : V1) (j1 : Nat) : Nat := (w28 m bs s j1).length
def w30 (m : Lm) : Nat := List.length m
def part0 (m : Lm) : Prop := ∀ (p : Int × Letter), p ∈ m →
 (RTy.one (CTy.int IntKind.u64)).Has p.fst ∧
 (RTy.cons (CTy.int IntKind.u64) (RTy.cons (CTy.int IntKind.i64) (RTy.cons (CTy.int IntKind.i64) (RTy.cons CTy.txt (RTy.one (CTy.int IntKind.i64)))))).Has p.snd
def part1 (cm : Cm) : Prop := ∀ (p1 : (Int × Int) × Int), p1 ∈ cm →
 (RTy.cons (CTy.int IntKind.i64) (RTy.one (CTy.int IntKind.i64))).Has p1.fst ∧
 (RTy.one (CTy.int IntKind.i64)).Has p1.snd
def owed (m : Lm) (bs : List Nat) (clk : Nat) (last : Int) (cm : Cm) (cbs : List Nat) (cclk : Nat) (ok : List Letter → Prop) (iK : Lm → List Nat → V1 → Prop) (iL : List Int → L1 → Prop) : Prop :=
  ∃ s0, iK m bs s0 ∧
 (last = last ∧
 m = m ∧
 bs = bs ∧
 clk = clk ∧
 cm = cm ∧
 cbs = cbs ∧
 cclk = cclk ∧
 Code.region (2 : Nat) w0.toArray false = Code.region (2 : Nat) w0.toArray false ∧
 Code.block (1 : Nat) (Code.region (3 : Nat) w1.toArray false) = Code.block (1 : Nat) (Code.region (3 : Nat) w1.toArray false) ∧
 clk = w4 m bs clk last cm cbs cclk ∧
 [] = List.map (bornAt bs) s0.js ∧
 clk = w4 m bs clk last cm cbs cclk ∧
 [] = List.map (keyM m) s0.js) ∧
 ∀ (s : V1), iK m bs s →
 IntKind.u64.has last →
 (w5 m).Nodup →
 part0 m →
 (bs.length = w6 m ∧
 bs.Nodup ∧
 ∀ (b : Nat), b ∈ bs →
 b < clk) →
 (∀ (row : Int), row ∈ w7 m s →
 (RTy.one (CTy.int IntKind.u64)).Has row) →
 (w8 cm).Nodup →
 part1 cm →
 (cbs.length = w9 cm ∧
 cbs.Nodup ∧
 ∀ (b1 : Nat), b1 ∈ cbs →
 b1 < cclk) →
 (w10 bs s = [] ∨ bs = [] ∨ ∃ b, b ∈ bs ∧
 b < w4 m bs clk last cm cbs cclk) ∧
 (∀ (j : Nat), (∀ (b2 : Nat), b2 ∈ bs →
 b2 < w4 m bs clk last cm cbs cclk →
 b2 ∈ w10 bs s) →
 ((w13 m bs clk last cm cbs cclk s = true →
 (0 : Int) ≤ (32 : Int)) ∧
 (w15 m bs clk last cm cbs cclk s = true →
 (0 : Int) ≤ (16 : Int)) ∧
 (w17 m bs clk last cm cbs cclk s = true →
 (0 : Int) ≤ (8 : Int)) ∧
 (0 : Int) ≤ w18 m bs clk last cm cbs cclk s ∧
 w18 m bs clk last cm cbs cclk s < (256 : Int)) ∧
 ((0 : Int) ≤ (0 : Int) ∧
 (0 : Int) ≤ w11 m s ∧
 w11 m s ≤ (↑(w19 m s) : Int) ∧
 w19 m s < (4611686018427387904 : Nat) ∧
 w11 m s - (0 : Int) < (9223372036854775807 : Int)) ∧
 ∀ (r : List Int), r.Perm (w7 m s) →
 ∃ s01, iL r s01 ∧
 ((0 : Int) = s01.i ∧
 w20 r = w20 r ∧
 last = last ∧
 m = m ∧
 bs = bs ∧
 clk = clk ∧
 cm = cm ∧
 cbs = cbs ∧
 cclk = cclk ∧
 Code.region (2 : Nat) w0.toArray false = Code.region (2 : Nat) w0.toArray false ∧
 Code.block (1 : Nat) (Code.region (3 : Nat) w1.toArray false) = Code.block (1 : Nat) (Code.region (3 : Nat) w1.toArray false) ∧
 w4 m bs clk last cm cbs cclk = w4 m bs clk last cm cbs cclk ∧
 w10 bs s = w10 bs s ∧
 w4 m bs clk last cm cbs cclk = w4 m bs clk last cm cbs cclk ∧
 r = r ∧
 [] = s01.rows) ∧
 ∀ (s1 : L1), iL r s1 →
 IntKind.i64.has s1.i →
 IntKind.i64.has (w20 r) →
 IntKind.u64.has last →
 (w5 m).Nodup →
 part0 m →
 (bs.length = w6 m ∧
 bs.Nodup ∧
 ∀ (b : Nat), b ∈ bs →
 b < clk) →
 (∀ (row1 : Int), row1 ∈ r →
 (RTy.one (CTy.int IntKind.u64)).Has row1) →
 (w8 cm).Nodup →
 part1 cm →
 (cbs.length = w9 cm ∧
 cbs.Nodup ∧
 ∀ (b1 : Nat), b1 ∈ cbs →
 b1 < cclk) →
 (∀ (row2 : Letter), row2 ∈ s1.rows →
 (RTy.cons (CTy.int IntKind.u64) (RTy.cons (CTy.int IntKind.i64) (RTy.cons (CTy.int IntKind.i64) (RTy.cons CTy.txt (RTy.one (CTy.int IntKind.i64)))))).Has row2) →
 (w21 r s1 = true →
 ((0 : Int) ≤ s1.i ∧
 s1.i < w20 r) ∧
 (w24 m r s1 * (48 : Nat) ≤ (140737488355328 : Nat) ∧
 w24 m r s1 ≤ (4611686018427387904 : Nat)) ∧
 ∃ s', iL r s' ∧
 (w25 r - s'.i).toNat < (w25 r - s1.i).toNat ∧
 IntKind.i64.wrap (s1.i + (1 : Int)) = s'.i ∧
 w20 r = w20 r ∧
 last = last ∧
 m = m ∧
 bs = bs ∧
 clk = clk ∧
 cm = cm ∧
 cbs = cbs ∧
 cclk = cclk ∧
 Code.region (2 : Nat) w0.toArray false = Code.region (2 : Nat) w0.toArray false ∧
 Code.block (1 : Nat) (Code.region (3 : Nat) w1.toArray false) = Code.block (1 : Nat) (Code.region (3 : Nat) w1.toArray false) ∧
 w4 m bs clk last cm cbs cclk = w4 m bs clk last cm cbs cclk ∧
 w10 bs s = w10 bs s ∧
 w4 m bs clk last cm cbs cclk = w4 m bs clk last cm cbs cclk ∧
 r = r ∧
 (w23 m r s1) = s'.rows) ∧
 ((!w21 r s1) = true →
 ok s1.rows ∧
 (3 : Nat) ≤ (8 : Nat) ∧
 (8 : Nat) < (9 : Nat) ∧
 some (AObj.cells false (3 : Nat) (w3 last) (some (121 : Nat))) = some (AObj.cells false (3 : Nat) (w3 last) (some (121 : Nat))) ∧
 some (AObj.smap false true (RTy.one (CTy.int IntKind.u64)) (RTy.cons (CTy.int IntKind.u64) (RTy.cons (CTy.int IntKind.i64) (RTy.cons (CTy.int IntKind.i64) (RTy.cons CTy.txt (RTy.one (CTy.int IntKind.i64)))))) m bs clk) = some (AObj.smap false true (RTy.one (CTy.int IntKind.u64)) (RTy.cons (CTy.int IntKind.u64) (RTy.cons (CTy.int IntKind.i64) (RTy.cons (CTy.int IntKind.i64) (RTy.cons CTy.txt (RTy.one (CTy.int IntKind.i64)))))) m bs clk) ∧
 some (AObj.smap true false (RTy.cons (CTy.int IntKind.i64) (RTy.one (CTy.int IntKind.i64))) (RTy.one (CTy.int IntKind.i64)) cm cbs cclk) = some (AObj.smap true false (RTy.cons (CTy.int IntKind.i64) (RTy.one (CTy.int IntKind.i64))) (RTy.one (CTy.int IntKind.i64)) cm cbs cclk))) ∧
 ∀ (j1 : Nat), j1 < w6 m ∧
 ¬bornAt bs j1 ∈ w10 bs s →
 (clk = clk ∧
 w26 bs s j1 ≠ [] ∧
 w27 bs s j1 ∈ bs) ∧
 (w29 m bs s j1 * (8 : Nat) ≤ (140737488355328 : Nat) ∧
 w29 m bs s j1 ≤ (4611686018427387904 : Nat)) ∧
 ∃ s'1, iK m bs s'1 ∧
 w30 m - s'1.js.length < w30 m - s.js.length ∧
 last = last ∧
 m = m ∧
 bs = bs ∧
 clk = clk ∧
 cm = cm ∧
 cbs = cbs ∧
 cclk = cclk ∧
 Code.region (2 : Nat) w0.toArray false = Code.region (2 : Nat) w0.toArray false ∧
 Code.block (1 : Nat) (Code.region (3 : Nat) w1.toArray false) = Code.block (1 : Nat) (Code.region (3 : Nat) w1.toArray false) ∧
 w4 m bs clk last cm cbs cclk = w4 m bs clk last cm cbs cclk ∧
 w26 bs s j1 = List.map (bornAt bs) s'1.js ∧
 clk = w4 m bs clk last cm cbs cclk ∧
 (w28 m bs s j1) = List.map (keyM m) s'1.js

theorem owed_eq (m : Lm) (bs : List Nat) (clk : Nat) (last : Int) (cm : Cm) (cbs : List Nat) (cclk : Nat) (ok : List Letter → Prop) (iK : Lm → List Nat → V1 → Prop) (iL : List Int → L1 → Prop) : owed m bs clk last cm cbs cclk ok iK iL = vTop Try.prog S3 (LL iK iL) 20000 35 [.ptr 0 0] (hN m bs clk last cm cbs cclk) (post (hN m bs clk last cm cbs cclk) ok) := by kernel_rfl
end
end Go.Proofs.Ytdeoahhofhmgfaa.No.Ls
