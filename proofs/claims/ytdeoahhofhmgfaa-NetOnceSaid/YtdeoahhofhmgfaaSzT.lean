/- A part of the proofs about sorting numbers (uint64): words. No condition. -/
import Derived.Test.YtdeoahhofhmgfaaAmJ
import Derived.Test.YtdeoahhofhmgfaaProg
namespace Go.Proofs.Ytdeoahhofhmgfaa.Sz
open Go.AM
noncomputable section
def uR : RTy := .one (.int .u64)
def rowU (l : List Int) (i : Nat) : Int := Go.AM.rowAt (r := uR) l i
def objL (l : List (Nat × AObj)) : T AObj := l.foldl (fun t p => t.set p.1 (some p.2)) .nil
def hS (rows : List Int) : Heap := { t := objL [(0, .seq uR rows none)], next := 1 }
/-- The numbers of a block. -/
def rowsOf (H : Heap) (i : Nat) : List Int := match H.get i with
  | some (.seq (.one (.int _)) rows _) => rows
  | _ => []
def noS : SumP := fun _ _ _ => none
def noL : LTab := fun _ _ _ _ => none
/-- It hands back nothing, and the block's numbers are others of that kind. -/
def postN (ok : List Int → Prop) (v : AV) (H' : Heap) : Prop := match v with
  | .tup [] => match H'.get 0 with
    | some (.seq (.one (.int .u64)) rows none) => ok rows ∧ 1 ≤ H'.next
    | _ => False
  | _ => False
/-- It hands back a truth. -/
def postB (ok : List Int → Prop) (v : AV) (H' : Heap) : Prop := match v.asB with
  | some _ => match H'.get 0 with
    | some (.seq (.one (.int .u64)) rows none) => ok rows ∧ 1 ≤ H'.next
    | _ => False
  | none => False
/-- It hands back a place. -/
def postI (ok : List Int → Int → Prop) (v : AV) (H' : Heap) : Prop := match v.asX with
  | some (.i64, n) => match H'.get 0 with
    | some (.seq (.one (.int .u64)) rows none) => ok rows n ∧ 1 ≤ H'.next
    | _ => False
  | _ => False
/-- It hands back a place and a truth. -/
def postIB (ok : List Int → Int → Prop) (v : AV) (H' : Heap) : Prop := match v with
  | .tup [x, y] => match x.asX, y.asB with
    | some (.i64, n), some _ => match H'.get 0 with
      | some (.seq (.one (.int .u64)) rows none) => ok rows n ∧ 1 ≤ H'.next
      | _ => False
    | _, _ => False
  | _ => False
structure I1 where
  rows : List Int
  i : Int
structure J1 where
  rows : List Int
  j : Int
structure I2 where
  rows : List Int
  i : Int
  j : Int
end
end Go.Proofs.Ytdeoahhofhmgfaa.Sz
