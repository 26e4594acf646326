/- A part of the proofs about shards: words. No condition. -/
import Derived.Test.YtdohdhphpjhcjaaAmJ
import Derived.Test.YtdohdhphpjhcjaaProg
namespace Go.Proofs.Ytdohdhphpjhcjaa.Sh
open Go.AM
noncomputable section
def iR : RTy := .one (.int .i64)
def rowR : RTy := .cons .txt (.cons (.int .i64) (.cons (.int .i64) (.cons (.int .u8) (.cons (.int .i64) (.cons (.int .i64) (.one (.int .i64)))))))
def seenR : RTy := .cons (.sl rowR) (.cons .boo (.one (.int .i64)))
abbrev Row := List UInt8 × Int × Int × Int × Int × Int × Int
abbrev Seen := List Row × Bool × Int
abbrev Mp := List (Int × Seen)
def objL (l : List (Nat × AObj)) : T AObj := l.foldl (fun t p => t.set p.1 (some p.2)) .nil
def hS (most : Int) (m : Mp) (bs : List Nat) (clk : Nat) : Heap := { t := objL [(0, .cells false 2 [.sI .i64 most, .map 1] (some 71)), (1, .smap false true iR seenR m bs clk)], next := 2 }
def keyM (m : Mp) (j : Nat) : Int := Go.AM.keyAt (kr := iR) (vr := seenR) m j
def rowI (l : List Int) (i : Nat) : Int := Go.AM.rowAt (r := iR) l i
def mOf (H : Heap) (i : Nat) : Mp := match H.get i with
  | some (.smap _ _ (.one (.int _)) (.cons (.sl (.cons .txt (.cons (.int _) (.cons (.int _) (.cons (.int _) (.cons (.int _) (.cons (.int _) (.one (.int _))))))))) (.cons .boo (.one (.int _)))) m _ _) => m
  | _ => []
def bsOf (H : Heap) (i : Nat) : List Nat := match H.get i with
  | some (.smap _ _ _ _ _ bs _) => bs
  | _ => []
def clkOf (H : Heap) (i : Nat) : Nat := match H.get i with
  | some (.smap _ _ _ _ _ _ clk) => clk
  | _ => 0
def itMap (H : Heap) (i : Nat) : Nat := match H.get i with
  | some (.smIter m _ _ _) => m
  | _ => 0
def loopSlot (H : Heap) (l t : Nat) : AV := match H.get l with
  | some (.loop _ _ _ fr _ _ _ _) => avOf fr t
  | _ => .nilPtr
def seqI (H : Heap) (v : AV) : List Int := match H.get (idV v) with
  | some (.seq (.one (.int _)) rows _) => rows
  | _ => []
def noS : SumP := fun _ _ _ => none
def noL : LTab := fun _ _ _ _ => none
/-- The library's sort. -/
def S1 : SumP := fun f args H => match f, args with
  | 41, [.sw i] => match H.get i with
    | some (.seq (.one (.int .i64)) rows ty) => some (.fn (some (List.length (α := Int) rows < 4611686018427387904)) (.tup []) (H.set i (.seq (.one (.int .i64)) (sortI rows) ty)))
    | _ => none
  | _, _ => none
structure V1 where
  js : List Nat
def LKey (inv : Mp → List Nat → V1 → Prop) (fr : Fr) (H : Heap) : LInv :=
  let mi := itMap H (ptrOf fr 5)
  ⟨V1, inv (mOf H mi) (bsOf H mi), fun s fr H => patchA [0, 1, 5] (fun _ => []) ((ptrOf (frOf [(0, loopSlot H (yldOf fr 0) 2)]) 0, .cells false 1 [.sw H.next] none) :: (ptrOf fr 5, .smIter mi (clkOf H mi) (s.js.map (bornAt (bsOf H mi))) (clkOf H mi)) :: loopKeep [2] H (yldOf fr 0)) [.seq iR (s.js.map (keyM (mOf H mi))) none] fr H, fun s => (mOf H mi).length - s.js.length⟩
end
end Go.Proofs.Ytdohdhphpjhcjaa.Sh
