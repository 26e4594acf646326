/- A part of the proof that 'reevelaw28' returns true for every input. No condition. -/
import Derived.Test.YtdohdhphpjhcjaaAmJ
import Derived.KernelRfl
import Derived.Test.YtdohdhphpjhcjaaShT
namespace Go.Proofs.Ytdohdhphpjhcjaa.Sh.Ma
open Go.AM
noncomputable section
/-- A region's operations, by its number. -/
def regGo (k : Nat) : Code → Option (List Oper)
  | .region j ops _ => bif Nat.beq j k then some ops.toList else none
  | .seq a b => (regGo k a).orElse fun _ => regGo k b
  | .cond _ a b => (regGo k a).orElse fun _ => regGo k b
  | .rangeFunc _ _ a b => (regGo k a).orElse fun _ => regGo k b
  | .block _ a => regGo k a
  | .loop a => regGo k a
  | .scope a => regGo k a
  | _ => none
def regOps (P : Program) (f : FuncId) (k : Nat) : List Oper := ((P.funcs[f]?.bind Func.body).bind (regGo k)).getD []
def LM1 (inv : Mp → List Nat → V1 → Prop) : LTab := fun f k fr H => match f, k with
  | 42, 1 => some (LKey inv fr H)
  | _, _ => none
def post (R : List Int) (v : AV) (H' H : Heap) : Prop := match v with
  | .sw j => match H'.get j with
    | some (.seq (.one (.int .i64)) rows none) => rows = R ∧ 2 ≤ j ∧ j < H'.next ∧ H'.get 0 = H.get 0 ∧ H'.get 1 = H.get 1
    | _ => False
  | _ => False
def w0 : List Oper := regOps Try.prog 46 2
def w1 : List Oper := regOps Try.prog 46 3
def w2 : List AV := [AV.map (1 : Nat)]
def w3 (most : Int) : List AV := AV.sI IntKind.i64 most :: w2
def w4 : List AV := [AV.ptr (2 : Nat) (0 : Nat)]
def w5 (most : Int) (m : Mp) (bs : List Nat) (clk : Nat) : Nat := clkOf { t := ((T.nil.node (some (AObj.cells false (1 : Nat) [AV.nilSlc] (some (35 : Nat)))) T.nil).node (some (AObj.smap false true (RTy.one (CTy.int IntKind.i64)) (RTy.cons (CTy.sl (RTy.cons CTy.txt (RTy.cons (CTy.int IntKind.i64) (RTy.cons (CTy.int IntKind.i64) (RTy.cons (CTy.int IntKind.u8) (RTy.cons (CTy.int IntKind.i64) (RTy.cons (CTy.int IntKind.i64) (RTy.one (CTy.int IntKind.i64))))))))) (RTy.cons CTy.boo (RTy.one (CTy.int IntKind.i64)))) m bs clk)) (T.nil.node (some (AObj.smIter (1 : Nat) clk [] clk)) T.nil)).node (some (AObj.cells false (2 : Nat) (w3 most) (some (71 : Nat)))) ((T.nil.node (some (AObj.loop LoopState.ready none (46 : Nat) ((T.nil.node (some (AV.fn (Fn.func (42 : Nat)) [] w4)) T.nil).node (some AV.nilSlc) ((T.nil.node (some AV.nilSlc) T.nil).node (some (AV.ptr (3 : Nat) (0 : Nat))) (T.nil.node (some (AV.fn (Fn.func (42 : Nat)) [] w4)) T.nil))) (13 : Nat) [(7 : Nat)] (Code.region (2 : Nat) w0.toArray false) (Code.block (1 : Nat) (Code.region (3 : Nat) w1.toArray false)))) T.nil).node (some (AObj.cells false (1 : Nat) w2 (some (69 : Nat)))) T.nil), next := (6 : Nat), d := (60 : Nat) } (1 : Nat)
def w6 (m : Mp) : Nat := List.length m
def w7 (m : Mp) (s : V1) : List Int := List.map (keyM m) s.js
def w8 (bs : List Nat) (s : V1) : List Nat := List.map (bornAt bs) s.js
def w9 (bs : List Nat) (s : V1) (j1 : Nat) : List Nat := w8 bs s ++ [bornAt bs j1]
def w10 (bs : List Nat) (s : V1) (j1 : Nat) : Nat := lastT (w9 bs s j1)
def w11 (m : Mp) (bs : List Nat) (s : V1) (j1 : Nat) : List Int := (w7 m s) ++ [keyM m (List.idxOf (w10 bs s j1) bs)]
def w12 (m : Mp) (bs : List Nat) (s : V1) (j1 : Nat) : Nat := (w11 m bs s j1).length
def w13 (m : Mp) : Nat := List.length m
def owed (most : Int) (m : Mp) (bs : List Nat) (clk : Nat) (R : List Int) (inv : Mp → List Nat → V1 → Prop) : Prop :=
  ∃ s0, inv m bs s0 ∧
 (most = most ∧
 m = m ∧
 bs = bs ∧
 clk = clk ∧
 Code.region (2 : Nat) w0.toArray false = Code.region (2 : Nat) w0.toArray false ∧
 Code.block (1 : Nat) (Code.region (3 : Nat) w1.toArray false) = Code.block (1 : Nat) (Code.region (3 : Nat) w1.toArray false) ∧
 clk = w5 most m bs clk ∧
 [] = List.map (bornAt bs) s0.js ∧
 clk = w5 most m bs clk ∧
 [] = List.map (keyM m) s0.js) ∧
 ∀ (s : V1), inv m bs s →
 IntKind.i64.has most →
 (List.map (fun x => x.fst) m).Nodup →
 (∀ (p : Int × Seen), p ∈ m →
 (RTy.one (CTy.int IntKind.i64)).Has p.fst ∧
 (RTy.cons (CTy.sl (RTy.cons CTy.txt (RTy.cons (CTy.int IntKind.i64) (RTy.cons (CTy.int IntKind.i64) (RTy.cons (CTy.int IntKind.u8) (RTy.cons (CTy.int IntKind.i64) (RTy.cons (CTy.int IntKind.i64) (RTy.one (CTy.int IntKind.i64))))))))) (RTy.cons CTy.boo (RTy.one (CTy.int IntKind.i64)))).Has p.snd) →
 (bs.length = w6 m ∧
 bs.Nodup ∧
 ∀ (b : Nat), b ∈ bs →
 b < clk) →
 (∀ (row : Int), row ∈ w7 m s →
 (RTy.one (CTy.int IntKind.i64)).Has row) →
 (w8 bs s = [] ∨ bs = [] ∨ ∃ b, b ∈ bs ∧
 b < w5 most m bs clk) ∧
 (∀ (j : Nat), (∀ (b1 : Nat), b1 ∈ bs →
 b1 < w5 most m bs clk →
 b1 ∈ w8 bs s) →
 (w7 m s).length < (4611686018427387904 : Nat) ∧
 sortI (w7 m s) = R ∧
 (2 : Nat) ≤ (6 : Nat) ∧
 (6 : Nat) < (7 : Nat) ∧
 some (AObj.cells false (2 : Nat) (w3 most) (some (71 : Nat))) = some (AObj.cells false (2 : Nat) (w3 most) (some (71 : Nat))) ∧
 some (AObj.smap false true (RTy.one (CTy.int IntKind.i64)) (RTy.cons (CTy.sl (RTy.cons CTy.txt (RTy.cons (CTy.int IntKind.i64) (RTy.cons (CTy.int IntKind.i64) (RTy.cons (CTy.int IntKind.u8) (RTy.cons (CTy.int IntKind.i64) (RTy.cons (CTy.int IntKind.i64) (RTy.one (CTy.int IntKind.i64))))))))) (RTy.cons CTy.boo (RTy.one (CTy.int IntKind.i64)))) m bs clk) = some (AObj.smap false true (RTy.one (CTy.int IntKind.i64)) (RTy.cons (CTy.sl (RTy.cons CTy.txt (RTy.cons (CTy.int IntKind.i64) (RTy.cons (CTy.int IntKind.i64) (RTy.cons (CTy.int IntKind.u8) (RTy.cons (CTy.int IntKind.i64) (RTy.cons (CTy.int IntKind.i64) (RTy.one (CTy.int IntKind.i64))))))))) (RTy.cons CTy.boo (RTy.one (CTy.int IntKind.i64)))) m bs clk)) ∧
 ∀ (j1 : Nat), j1 < w6 m ∧
 ¬bornAt bs j1 ∈ w8 bs s →
 (clk = clk ∧
 w9 bs s j1 ≠ [] ∧
 w10 bs s j1 ∈ bs) ∧
 (w12 m bs s j1 * (8 : Nat) ≤ (140737488355328 : Nat) ∧
 w12 m bs s j1 ≤ (4611686018427387904 : Nat)) ∧
 ∃ s', inv m bs s' ∧
 w13 m - s'.js.length < w13 m - s.js.length ∧
 most = most ∧
 m = m ∧
 bs = bs ∧
 clk = clk ∧
 Code.region (2 : Nat) w0.toArray false = Code.region (2 : Nat) w0.toArray false ∧
 Code.block (1 : Nat) (Code.region (3 : Nat) w1.toArray false) = Code.block (1 : Nat) (Code.region (3 : Nat) w1.toArray false) ∧
 w5 most m bs clk = w5 most m bs clk ∧
 w9 bs s j1 = List.map (bornAt bs) s'.js ∧
 clk = w5 most m bs clk ∧
 (w11 m bs s j1) = List.map (keyM m) s'.js

theorem owed_eq (most : Int) (m : Mp) (bs : List Nat) (clk : Nat) (R : List Int) (inv : Mp → List Nat → V1 → Prop) : owed most m bs clk R inv = vTop Try.prog S1 (LM1 inv) 1000 20 [.ptr 0 0] (hS most m bs clk) (fun v H' => post R v H' (hS most m bs clk)) := by kernel_rfl
end
end Go.Proofs.Ytdohdhphpjhcjaa.Sh.Ma
