/- A part of the proof that 'reevelaw10.NetOnce' returns true for every input: words. No condition. -/
import Derived.Test.YtdeoahhofhmgfaaSzSum
import Derived.Test.YtdeoahhofhmgfaaAmE
namespace Go.Proofs.Ytdeoahhofhmgfaa.No
open Go.AM Sz
noncomputable section
def letR : RTy := .cons (.int .u64) (.cons (.int .i64) (.cons (.int .i64) (.cons .txt (.one (.int .i64)))))
def pairR : RTy := .cons (.int .i64) (.one (.int .i64))
def iR : RTy := .one (.int .i64)
abbrev Letter := Int × Int × Int × List UInt8 × Int
abbrev Lm := List (Int × Letter)
abbrev Cm := List ((Int × Int) × Int)
/-- A net: its letters, its last number, its cuts. -/
def hN (m : Lm) (bs : List Nat) (clk : Nat) (last : Int) (cm : Cm) (cbs : List Nat) (cclk : Nat) : Heap :=
  { t := objL [(0, .cells false 3 [.map 1, .sI .u64 last, .map 2] (some 121)), (1, .smap false true uR letR m bs clk), (2, .smap true false pairR iR cm cbs cclk)], next := 3 }
def mOf (H : Heap) (i : Nat) : Lm := match H.get i with
  | some (.smap _ _ (.one (.int _)) (.cons (.int _) (.cons (.int _) (.cons (.int _) (.cons .txt (.one (.int _)))))) m _ _) => m
  | _ => []
def bsOf (H : Heap) (i : Nat) : List Nat := match H.get i with
  | some (.smap _ _ _ _ _ bs _) => bs
  | _ => []
def clkOf (H : Heap) (i : Nat) : Nat := match H.get i with
  | some (.smap _ _ _ _ _ _ clk) => clk
  | _ => 0
def itMap (H : Heap) (i : Nat) : Nat := match H.get i with
  | some (.smIter m _ _ _) => m
  | _ => 0
def loopSlot (H : Heap) (l t : Nat) : AV := match H.get l with
  | some (.loop _ _ _ fr _ _ _ _) => avOf fr t
  | _ => .nilPtr
def seqU (H : Heap) (v : AV) : List Int := match H.get (idV v) with
  | some (.seq (.one (.int _)) rows _) => rows
  | _ => []
/-- At most so many. -/
def LenOk (l : List Int) : Prop := l.length ≤ 4096
def valM (m : Lm) (j : Nat) : Letter := Go.AM.valAt (kr := uR) (vr := letR) m j
def keyM (m : Lm) (j : Nat) : Int := Go.AM.keyAt (kr := uR) (vr := letR) m j
def rowT (l : List Letter) (i : Nat) : Letter := Go.AM.rowAt (r := letR) l i
structure V1 where
  js : List Nat
/-- All keys, one behind the other. -/
def LKey (inv : Lm → List Nat → V1 → Prop) (fr : Fr) (H : Heap) : LInv :=
  let mi := itMap H (ptrOf fr 5)
  ⟨V1, inv (mOf H mi) (bsOf H mi), fun s fr H => patchA [0, 1, 5] (fun _ => []) ((ptrOf (frOf [(0, loopSlot H (yldOf fr 0) 2)]) 0, .cells false 1 [.sw H.next] none) :: (ptrOf fr 5, .smIter mi (clkOf H mi) (s.js.map (bornAt (bsOf H mi))) (clkOf H mi)) :: loopKeep [2] H (yldOf fr 0)) [.seq uR (s.js.map (keyM (mOf H mi))) none] fr H, fun s => (mOf H mi).length - s.js.length⟩
end
end Go.Proofs.Ytdeoahhofhmgfaa.No
