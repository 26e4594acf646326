/- THE ABSTRACT MACHINE, 28: what holds at a round's head, told from the state where the loop began: some slots and blocks new, some as they were. -/
import Derived.Test.YtdeoahhofhmgfaaAmRow
import Derived.Test.YtdeoahhofhmgfaaAmMap
namespace Go.AM
noncomputable section
/-- Slots that are new, then those that stay; blocks that are new. -/
def patch (keep : List Nat) (sl : List (Nat × AV)) (ob : List (Nat × AObj)) (fr : Fr) (H : Heap) : List (Nat × AV) × Heap :=
  (sl ++ keep.filterMap fun t => (fr.get t).map fun v => (t, v), ob.foldl (fun H p => { t := H.t.set p.1 (some p.2), next := H.next }) { t := H.t, next := H.next })
/-- The same, with blocks laid behind. -/
def patchA (keep : List Nat) (sl : Nat → List (Nat × AV)) (ob : List (Nat × AObj)) (new : List AObj) (fr : Fr) (H : Heap) : List (Nat × AV) × Heap :=
  (sl H.next ++ keep.filterMap fun t => (fr.get t).map fun v => (t, v), new.foldl Heap.alloc (ob.foldl (fun H p => { t := H.t.set p.1 (some p.2), next := H.next }) { t := H.t, next := H.next }))
def ptrOf (fr : Fr) (t : Nat) : Nat := match fr.get t with
  | some (.ptr i _) => i
  | _ => 0
def intOf (fr : Fr) (t : Nat) : Int := match fr.get t with
  | some (.sI _ n) => n
  | some (.int _ n) => n
  | _ => 0
def avOf (fr : Fr) (t : Nat) : AV := (fr.get t).getD .nilPtr
def cellOf (H : Heap) (i j : Nat) : AV := match H.get i with
  | some (.cells _ _ cs _) => (cs[j]?).getD .nilPtr
  | _ => .nilPtr
def intV : AV → Int
  | .sI _ n => n
  | .int _ n => n
  | _ => 0
def idV : AV → Nat
  | .ptr i _ => i
  | .map i => i
  | .sw i => i
  | _ => 0
def yldOf (fr : Fr) (t : Nat) : Nat := match fr.get t with
  | some (.yld i) => i
  | _ => 0
/-- A range loop's record, with some of its slots. -/
def loopKeep (keep : List Nat) (H : Heap) (l : Nat) : List (Nat × AObj) := match H.get l with
  | some (.loop st pd f fr n ps as bd) => [(l, .loop st pd f (frOf (keep.filterMap fun t => (fr.get t).map fun v => (t, v))) n ps as bd)]
  | _ => []
/-- Only these blocks stay. -/
def patchK (keep : List Nat) (sl : List (Nat × AV)) (ks : List Nat) (ob : List (Nat × AObj)) (fr : Fr) (H : Heap) : List (Nat × AV) × Heap :=
  (sl ++ keep.filterMap fun t => (fr.get t).map fun v => (t, v), (ks.filterMap (fun i => (H.get i).map fun o => (i, o)) ++ ob).foldl (fun H p => { t := H.t.set p.1 (some p.2), next := H.next }) { t := .nil, next := H.next })
end
end Go.AM
