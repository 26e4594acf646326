/- A part of the proof that 'reevelaw28' returns true for every input. No condition. -/
import Derived.Test.YtdohdhphpjhcjaaAmJ
import Derived.KernelRfl
import Derived.Test.YtdohdhphpjhcjaaShD
namespace Go.Proofs.Ytdohdhphpjhcjaa.Sh.Rp
open Go.AM
noncomputable section
/-- A region's operations, by its number. -/
def regGo (k : Nat) : Code → Option (List Oper)
  | .region j ops _ => bif Nat.beq j k then some ops.toList else none
  | .seq a b => (regGo k a).orElse fun _ => regGo k b
  | .cond _ a b => (regGo k a).orElse fun _ => regGo k b
  | .rangeFunc _ _ a b => (regGo k a).orElse fun _ => regGo k b
  | .block _ a => regGo k a
  | .loop a => regGo k a
  | .scope a => regGo k a
  | _ => none
def regOps (P : Program) (f : FuncId) (k : Nat) : List Oper := ((P.funcs[f]?.bind Func.body).bind (regGo k)).getD []
structure I1 where
  i : Int
  r : Bool
structure C1 where
  old : List Row
  l : List Row
  out : List Row
def LI (inv : I1 → Prop) (l : List Row) : LInv := ⟨I1, inv, fun s => patch [0, 1, 2, 8, 9] [(10, .sB s.r), (11, .sI .i64 s.i)] [], fun s => (l.length - s.i).toNat⟩
def LC (inv : C1 → Prop) : LInv := ⟨C1, inv, fun s fr H => patchA [0, 1, 2] (fun _ => []) ((ptrOf (frOf [(0, loopSlot H (yldOf fr 0) 12)]) 0, .cells false 1 [.sw H.next] (some 23)) :: (ptrOf fr 1, .cells false 1 [.dsl rowR s.old] (some 23)) :: (ptrOf fr 2, .cells false 1 [.dsl rowR s.l] (some 23)) :: loopKeep [0, 1, 2, 12] H (yldOf fr 0)) [.seq rowR s.out none] fr H, fun s => s.old.length + s.l.length⟩
def post (er : Int → Prop) (ok : Prop) (R : List Row) (M : Mp) (B : List Nat) (C : Nat) (v : AV) (H' H : Heap) : Prop := match v with
  | .tup [.nilSlc, .int .i64 e] => er e ∧ 2 ≤ H'.next ∧ H'.get 0 = H.get 0 ∧ H'.get 1 = H.get 1
  | .tup [.sw j, .int .i64 0] => match H'.get j with
    | some (.seq (.cons .txt (.cons (.int .i64) (.cons (.int .i64) (.cons (.int .u8) (.cons (.int .i64) (.cons (.int .i64) (.one (.int .i64)))))))) rows none) => ok ∧ rows = R ∧ 2 ≤ j ∧ j < H'.next ∧ H'.get 0 = H.get 0 ∧ H'.get 1 = some (.smap false true iR seenR M B C)
    | _ => False
  | _ => False
def LL (l : List Row) (iv : I1 → Prop) (cv : C1 → Prop) : LTab := fun f k fr H => match f, k with
  | 10, 8 => some (LI iv l)
  | 38, 0 => some (LC cv)
  | _, _ => none
def w0 (a : Int) (m : Mp) : Bool := (mget m a).isSome
def w1 (a : Int) (m : Mp) : Bool := !w0 a m
def w2 (most : Int) : List AV := [AV.sI IntKind.i64 most, AV.map (1 : Nat)]
def w3 : (CTy.sl rowR).den × (RTy.cons CTy.boo (RTy.one (CTy.int IntKind.i64))).den := ([], false, (0 : Int))
def w4 (a : Int) (m : Mp) : List Row := ((mget m a).getD w3).fst
def w5 (m : Mp) : List Int := List.map (fun x => x.fst) m
def w6 (m : Mp) : Nat := List.length m
def w7 (l : List Row) : Int := (↑l.length : Int)
def w8 (l : List Row) (s : I1) : Bool := decide (s.i < w7 l)
def w9 (s : I1) : Int := IntKind.i64.wrap (s.i - (1 : Int))
def w10 (l : List Row) : Int := (↑l.length : Int)
def w11 (s : I1) : Nat := (w9 s).toNat
def w12 (l : List Row) (s : I1) : Bool := !s.r || decide ((256 : Int) < w7 l)
def w13 : List Oper := regOps Try.prog 10 15
def w14 : List Oper := regOps Try.prog 10 16
def w15 (s1 : C1) : Int := (↑s1.old.length : Int)
def w16 (s1 : C1) : Int := (↑s1.l.length : Int)
def w17 (s1 : C1) : Bool := decide ((0 : Int) < w16 s1)
def w18 (s1 : C1) : Bool := decide ((0 : Int) < w15 s1) || w17 s1
def w19 (s1 : C1) : Bool := decide (w15 s1 = (0 : Int))
def w20 (s1 : C1) : Int := bif w19 s1 then (1 : Int) else bif w17 s1 then ordT (rowR0 s1.old (0 : Nat)).fst (rowR0 s1.old (0 : Nat)).snd.fst (rowR0 s1.l (0 : Nat)).fst (rowR0 s1.l (0 : Nat)).snd.fst else (-1 : Int)
def w21 (s1 : C1) : Bool := decide (w20 s1 < (0 : Int))
def w22 (s1 : C1) : Bool := decide ((0 : Int) < w20 s1)
def w23 (s1 : C1) : Bool := decide (w20 s1 ≤ (0 : Int))
def w24 (s1 : C1) : Bool := w21 s1 || (w22 s1 || !(decide ((rowR0 s1.old (0 : Nat)).fst = (rowR0 s1.l (0 : Nat)).fst) && decide ((rowR0 s1.old (0 : Nat)).snd.fst = (rowR0 s1.l (0 : Nat)).snd.fst) && (decide ((rowR0 s1.old (0 : Nat)).snd.snd.fst = (rowR0 s1.l (0 : Nat)).snd.snd.fst) && (decide ((rowR0 s1.old (0 : Nat)).snd.snd.snd.fst = (rowR0 s1.l (0 : Nat)).snd.snd.snd.fst) && (decide ((rowR0 s1.old (0 : Nat)).snd.snd.snd.snd.fst = (rowR0 s1.l (0 : Nat)).snd.snd.snd.snd.fst) && (decide ((rowR0 s1.old (0 : Nat)).snd.snd.snd.snd.snd.fst = (rowR0 s1.l (0 : Nat)).snd.snd.snd.snd.snd.fst) && decide ((rowR0 s1.old (0 : Nat)).snd.snd.snd.snd.snd.snd = (rowR0 s1.l (0 : Nat)).snd.snd.snd.snd.snd.snd)))))))
def w25 (s1 : C1) : List Row := s1.out
def w26 (s1 : C1) : List Row := w25 s1 ++ [(bif w21 s1 then (rowR0 s1.old (0 : Nat)).fst else bif w22 s1 then (rowR0 s1.l (0 : Nat)).fst else (rowR0 s1.l (0 : Nat)).fst, bif w21 s1 then (rowR0 s1.old (0 : Nat)).snd.fst else bif w22 s1 then (rowR0 s1.l (0 : Nat)).snd.fst else (rowR0 s1.l (0 : Nat)).snd.fst, bif w21 s1 then (rowR0 s1.old (0 : Nat)).snd.snd.fst else bif w22 s1 then (rowR0 s1.l (0 : Nat)).snd.snd.fst else (rowR0 s1.l (0 : Nat)).snd.snd.fst, bif w21 s1 then (0 : Int) else bif w22 s1 then (rowR0 s1.l (0 : Nat)).snd.snd.snd.fst else (rowR0 s1.l (0 : Nat)).snd.snd.snd.fst, bif w21 s1 then (0 : Int) else bif w22 s1 then (rowR0 s1.l (0 : Nat)).snd.snd.snd.snd.fst else (rowR0 s1.l (0 : Nat)).snd.snd.snd.snd.fst, bif w21 s1 then (0 : Int) else bif w22 s1 then (rowR0 s1.l (0 : Nat)).snd.snd.snd.snd.snd.fst else (rowR0 s1.l (0 : Nat)).snd.snd.snd.snd.snd.fst, bif w21 s1 then (0 : Int) else bif w22 s1 then (rowR0 s1.l (0 : Nat)).snd.snd.snd.snd.snd.snd else (rowR0 s1.l (0 : Nat)).snd.snd.snd.snd.snd.snd)]
def w27 (s1 : C1) : Nat := (w26 s1).length
def w28 (s1 : C1) : Nat := s1.old.length + s1.l.length
def w29 (s1 : C1) : List Row := (bif w23 s1 then pieceT s1.old (some (1 : Int)) none else s1.old)
def w30 (s1 : C1) : List Row := (bif w21 s1 then s1.l else (pieceT s1.l (some (1 : Int)) none))
def w31 : CTy.boo.den × (RTy.one (CTy.int IntKind.i64)).den := (true, (0 : Int))
def w32 (a : Int) (m : Mp) (bs : List Nat) (clk : Nat) : List Nat := bput m bs clk a
def w33 (a : Int) (m : Mp) (clk : Nat) : Nat := cput m clk a
def w34 (a : Int) (l : List Row) (m : Mp) : List (Int × Seen) := mput m a (l, true, (0 : Int))
def w35 (a : Int) (m : Mp) (bs : List Nat) (clk : Nat) : List Nat := bput m bs clk a
def w36 (a : Int) (m : Mp) (clk : Nat) : Nat := cput m clk a
def part0 (most : Int) (m : Mp) (bs : List Nat) (clk : Nat) : Prop := (2 : Nat) ≤ (3 : Nat) ∧
 some (AObj.cells false (2 : Nat) (w2 most) (some (71 : Nat))) = some (AObj.cells false (2 : Nat) (w2 most) (some (71 : Nat))) ∧
 some (AObj.smap false true (RTy.one (CTy.int IntKind.i64)) (RTy.cons (CTy.sl (RTy.cons CTy.txt (RTy.cons (CTy.int IntKind.i64) (RTy.cons (CTy.int IntKind.i64) (RTy.cons (CTy.int IntKind.u8) (RTy.cons (CTy.int IntKind.i64) (RTy.cons (CTy.int IntKind.i64) (RTy.one (CTy.int IntKind.i64))))))))) (RTy.cons CTy.boo (RTy.one (CTy.int IntKind.i64)))) m bs clk) = some (AObj.smap false true (RTy.one (CTy.int IntKind.i64)) (RTy.cons (CTy.sl (RTy.cons CTy.txt (RTy.cons (CTy.int IntKind.i64) (RTy.cons (CTy.int IntKind.i64) (RTy.cons (CTy.int IntKind.u8) (RTy.cons (CTy.int IntKind.i64) (RTy.cons (CTy.int IntKind.i64) (RTy.one (CTy.int IntKind.i64))))))))) (RTy.cons CTy.boo (RTy.one (CTy.int IntKind.i64)))) m bs clk)
def part1 (most : Int) (a : Int) (l : List Row) (m : Mp) (bs : List Nat) (clk : Nat) : Prop := a = a ∧
 l = l ∧
 w0 a m = w0 a m ∧
 most = most ∧
 m = m ∧
 bs = bs ∧
 clk = clk ∧
 w4 a m = ((mget m a).getD w3).fst ∧
 ((mget m a).getD w3).snd.fst = ((mget m a).getD w3).snd.fst ∧
 ((mget m a).getD w3).snd.snd = ((mget m a).getD w3).snd.snd
def part2 (m : Mp) : Prop := ∀ (p : Int × Seen), p ∈ m →
 (RTy.one (CTy.int IntKind.i64)).Has p.fst ∧
 (RTy.cons (CTy.sl (RTy.cons CTy.txt (RTy.cons (CTy.int IntKind.i64) (RTy.cons (CTy.int IntKind.i64) (RTy.cons (CTy.int IntKind.u8) (RTy.cons (CTy.int IntKind.i64) (RTy.cons (CTy.int IntKind.i64) (RTy.one (CTy.int IntKind.i64))))))))) (RTy.cons CTy.boo (RTy.one (CTy.int IntKind.i64)))).Has p.snd
def part3 (s1 : C1) : Prop := ((0 : Int) ≤ (0 : Int) ∧
 (0 : Int) < w15 s1) ∧
 (0 : Int) ≤ (0 : Int) ∧
 (0 : Int) < w16 s1
def owed (most a : Int) (l : List Row) (m : Mp) (bs : List Nat) (clk : Nat) (iv : I1 → Prop) (cv : C1 → Prop) (er : Int → Prop) (ok : Prop) (R : List Row) : Prop :=
  (w1 a m = true →
 er (5 : Int) ∧
 part0 most m bs clk) ∧
 ((!w1 a m) = true →
 ∃ s0, iv s0 ∧
 (true = s0.r ∧
 (1 : Int) = s0.i ∧
 part1 most a l m bs clk) ∧
 ∀ (s : I1), iv s →
 IntKind.i64.has a →
 IntKind.i64.has s.i →
 (CTy.sl (RTy.cons CTy.txt (RTy.cons (CTy.int IntKind.i64) (RTy.cons (CTy.int IntKind.i64) (RTy.cons (CTy.int IntKind.u8) (RTy.cons (CTy.int IntKind.i64) (RTy.cons (CTy.int IntKind.i64) (RTy.one (CTy.int IntKind.i64))))))))).Has l →
 IntKind.i64.has most →
 (w5 m).Nodup →
 part2 m →
 (bs.length = w6 m ∧
 bs.Nodup ∧
 ∀ (b : Nat), b ∈ bs →
 b < clk) →
 (CTy.sl (RTy.cons CTy.txt (RTy.cons (CTy.int IntKind.i64) (RTy.cons (CTy.int IntKind.i64) (RTy.cons (CTy.int IntKind.u8) (RTy.cons (CTy.int IntKind.i64) (RTy.cons (CTy.int IntKind.i64) (RTy.one (CTy.int IntKind.i64))))))))).Has ((mget m a).getD w3).fst →
 IntKind.i64.has ((mget m a).getD w3).snd.snd →
 (w8 l s = true →
 (s.r = true →
 ((0 : Int) ≤ w9 s ∧
 w9 s < w7 l) ∧
 (0 : Int) ≤ s.i ∧
 s.i < w7 l) ∧
 ∃ s', iv s' ∧
 (w10 l - s'.i).toNat < (w10 l - s.i).toNat ∧
 (s.r && decide (ordT (rowR0 l (w11 s)).fst (rowR0 l (w11 s)).snd.fst (rowR0 l s.i.toNat).fst (rowR0 l s.i.toNat).snd.fst < (0 : Int))) = s'.r ∧
 IntKind.i64.wrap (s.i + (1 : Int)) = s'.i ∧
 part1 most a l m bs clk) ∧
 ((!w8 l s) = true →
 (w12 l s = true →
 er (2 : Int) ∧
 part0 most m bs clk) ∧
 ((!w12 l s) = true →
 ∃ s01, cv s01 ∧
 (most = most ∧
 m = m ∧
 bs = bs ∧
 clk = clk ∧
 w4 a m = ((mget m a).getD w3).fst ∧
 ((mget m a).getD w3).snd.fst = ((mget m a).getD w3).snd.fst ∧
 ((mget m a).getD w3).snd.snd = ((mget m a).getD w3).snd.snd ∧
 w4 a m = s01.old ∧
 l = s01.l ∧
 a = a ∧
 l = l ∧
 Code.region (15 : Nat) w13.toArray false = Code.region (15 : Nat) w13.toArray false ∧
 Code.block (3 : Nat) (Code.region (16 : Nat) w14.toArray false) = Code.block (3 : Nat) (Code.region (16 : Nat) w14.toArray false) ∧
 [] = s01.out) ∧
 ∀ (s1 : C1), cv s1 →
 IntKind.i64.has most →
 (w5 m).Nodup →
 part2 m →
 (bs.length = w6 m ∧
 bs.Nodup ∧
 ∀ (b : Nat), b ∈ bs →
 b < clk) →
 (∀ (row : Row), row ∈ s1.out →
 (RTy.cons CTy.txt (RTy.cons (CTy.int IntKind.i64) (RTy.cons (CTy.int IntKind.i64) (RTy.cons (CTy.int IntKind.u8) (RTy.cons (CTy.int IntKind.i64) (RTy.cons (CTy.int IntKind.i64) (RTy.one (CTy.int IntKind.i64)))))))).Has row) →
 (CTy.sl (RTy.cons CTy.txt (RTy.cons (CTy.int IntKind.i64) (RTy.cons (CTy.int IntKind.i64) (RTy.cons (CTy.int IntKind.u8) (RTy.cons (CTy.int IntKind.i64) (RTy.cons (CTy.int IntKind.i64) (RTy.one (CTy.int IntKind.i64))))))))).Has s1.l →
 (CTy.sl (RTy.cons CTy.txt (RTy.cons (CTy.int IntKind.i64) (RTy.cons (CTy.int IntKind.i64) (RTy.cons (CTy.int IntKind.u8) (RTy.cons (CTy.int IntKind.i64) (RTy.cons (CTy.int IntKind.i64) (RTy.one (CTy.int IntKind.i64))))))))).Has ((mget m a).getD w3).fst →
 IntKind.i64.has ((mget m a).getD w3).snd.snd →
 (CTy.sl (RTy.cons CTy.txt (RTy.cons (CTy.int IntKind.i64) (RTy.cons (CTy.int IntKind.i64) (RTy.cons (CTy.int IntKind.u8) (RTy.cons (CTy.int IntKind.i64) (RTy.cons (CTy.int IntKind.i64) (RTy.one (CTy.int IntKind.i64))))))))).Has s1.old →
 (w18 s1 = true →
 (w19 s1 = false →
 w17 s1 = true →
 part3 s1) ∧
 ((w21 s1 = true →
 ((0 : Int) ≤ (0 : Int) ∧
 (0 : Int) < w15 s1) ∧
 (0 : Int) ≤ (0 : Int) ∧
 (0 : Int) < w15 s1) ∧
 (w21 s1 = false →
 ((0 : Int) ≤ (0 : Int) ∧
 (0 : Int) < w16 s1) ∧
 (w22 s1 = false →
 part3 s1) ∧
 (0 : Int) ≤ (1 : Int) ∧
 (1 : Int) ≤ w16 s1)) ∧
 (w23 s1 = true →
 (0 : Int) ≤ (1 : Int) ∧
 (1 : Int) ≤ w15 s1) ∧
 (w24 s1 = true →
 (w27 s1 * (64 : Nat) ≤ (140737488355328 : Nat) ∧
 w27 s1 ≤ (4611686018427387904 : Nat)) ∧
 ∃ s'1, cv s'1 ∧
 s'1.old.length + s'1.l.length < w28 s1 ∧
 most = most ∧
 m = m ∧
 bs = bs ∧
 clk = clk ∧
 w4 a m = ((mget m a).getD w3).fst ∧
 ((mget m a).getD w3).snd.fst = ((mget m a).getD w3).snd.fst ∧
 ((mget m a).getD w3).snd.snd = ((mget m a).getD w3).snd.snd ∧
 w29 s1 = s'1.old ∧
 w30 s1 = s'1.l ∧
 a = a ∧
 l = l ∧
 Code.region (15 : Nat) w13.toArray false = Code.region (15 : Nat) w13.toArray false ∧
 Code.block (3 : Nat) (Code.region (16 : Nat) w14.toArray false) = Code.block (3 : Nat) (Code.region (16 : Nat) w14.toArray false) ∧
 (w26 s1) = s'1.out) ∧
 (w24 s1 = false →
 ∃ s'2, cv s'2 ∧
 s'2.old.length + s'2.l.length < w28 s1 ∧
 most = most ∧
 m = m ∧
 bs = bs ∧
 clk = clk ∧
 w4 a m = ((mget m a).getD w3).fst ∧
 ((mget m a).getD w3).snd.fst = ((mget m a).getD w3).snd.fst ∧
 ((mget m a).getD w3).snd.snd = ((mget m a).getD w3).snd.snd ∧
 w29 s1 = s'2.old ∧
 w30 s1 = s'2.l ∧
 a = a ∧
 l = l ∧
 Code.region (15 : Nat) w13.toArray false = Code.region (15 : Nat) w13.toArray false ∧
 Code.block (3 : Nat) (Code.region (16 : Nat) w14.toArray false) = Code.block (3 : Nat) (Code.region (16 : Nat) w14.toArray false) ∧
 w25 s1 = s'2.out)) ∧
 ((!w18 s1) = true →
 (∀ (j : Nat), l.length = (0 : Nat) →
 a = a ∧
 ok ∧
 s1.out = R ∧
 (2 : Nat) ≤ (7 : Nat) ∧
 (7 : Nat) < (8 : Nat) ∧
 some (AObj.cells false (2 : Nat) (w2 most) (some (71 : Nat))) = some (AObj.cells false (2 : Nat) (w2 most) (some (71 : Nat))) ∧
 some (AObj.smap false true (RTy.one (CTy.int IntKind.i64)) (RTy.cons (CTy.sl (RTy.cons CTy.txt (RTy.cons (CTy.int IntKind.i64) (RTy.cons (CTy.int IntKind.i64) (RTy.cons (CTy.int IntKind.u8) (RTy.cons (CTy.int IntKind.i64) (RTy.cons (CTy.int IntKind.i64) (RTy.one (CTy.int IntKind.i64))))))))) (RTy.cons CTy.boo (RTy.one (CTy.int IntKind.i64)))) (mput m a ([], w31)) (w32 a m bs clk) (w33 a m clk)) = some (AObj.smap false true (RTy.one (CTy.int IntKind.i64)) (RTy.cons (CTy.sl (RTy.cons CTy.txt (RTy.cons (CTy.int IntKind.i64) (RTy.cons (CTy.int IntKind.i64) (RTy.cons (CTy.int IntKind.u8) (RTy.cons (CTy.int IntKind.i64) (RTy.cons (CTy.int IntKind.i64) (RTy.one (CTy.int IntKind.i64))))))))) (RTy.cons CTy.boo (RTy.one (CTy.int IntKind.i64)))) (w34 a l m) (w35 a m bs clk) (w36 a m clk))) ∧
 ∀ (j1 : Nat), True →
 (l.length * (64 : Nat) ≤ (140737488355328 : Nat) ∧
 l.length ≤ (4611686018427387904 : Nat)) ∧
 a = a ∧
 ok ∧
 s1.out = R ∧
 (2 : Nat) ≤ (7 : Nat) ∧
 (7 : Nat) < (10 : Nat) ∧
 some (AObj.cells false (2 : Nat) (w2 most) (some (71 : Nat))) = some (AObj.cells false (2 : Nat) (w2 most) (some (71 : Nat))) ∧
 some (AObj.smap false true (RTy.one (CTy.int IntKind.i64)) (RTy.cons (CTy.sl (RTy.cons CTy.txt (RTy.cons (CTy.int IntKind.i64) (RTy.cons (CTy.int IntKind.i64) (RTy.cons (CTy.int IntKind.u8) (RTy.cons (CTy.int IntKind.i64) (RTy.cons (CTy.int IntKind.i64) (RTy.one (CTy.int IntKind.i64))))))))) (RTy.cons CTy.boo (RTy.one (CTy.int IntKind.i64)))) (mput m a (l, w31)) (w32 a m bs clk) (w33 a m clk)) = some (AObj.smap false true (RTy.one (CTy.int IntKind.i64)) (RTy.cons (CTy.sl (RTy.cons CTy.txt (RTy.cons (CTy.int IntKind.i64) (RTy.cons (CTy.int IntKind.i64) (RTy.cons (CTy.int IntKind.u8) (RTy.cons (CTy.int IntKind.i64) (RTy.cons (CTy.int IntKind.i64) (RTy.one (CTy.int IntKind.i64))))))))) (RTy.cons CTy.boo (RTy.one (CTy.int IntKind.i64)))) (w34 a l m) (w35 a m bs clk) (w36 a m clk))))))

theorem owed_eq (most a : Int) (l : List Row) (m : Mp) (bs : List Nat) (clk : Nat) (iv : I1 → Prop) (cv : C1 → Prop) (er : Int → Prop) (ok : Prop) (R : List Row) : owed most a l m bs clk iv cv er ok R = vTop Try.prog S3 (LL l iv cv) 20000 10 [.ptr 0 0, .sI .i64 a, .dsl rowR l] (hS most m bs clk) (fun v H' => post er ok R (mput m a (l, true, 0)) (bput m bs clk a) (cput m clk a) v H' (hS most m bs clk)) := by kernel_rfl
end
end Go.Proofs.Ytdohdhphpjhcjaa.Sh.Rp
