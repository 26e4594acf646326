/- THE ABSTRACT MACHINE, 13b: operations on what is known by terms alone (definitions). -/
import Derived.Test.YtdeoahhofhmgfaaAmSnd10
set_option linter.unusedVariables false
namespace Go.AM
noncomputable section

/-- What is owed for an operation, and what it does. -/
abbrev XRes := Option Prop × Res

def obOk : Option Prop → Prop
  | none => True
  | some p => p

def hasB (k : IntKind) (n : Int) : Bool := decide (k.min ≤ n) && decide (n ≤ k.max)

/-- A number, with its kind. -/
def AV.asX : AV → Option (IntKind × Int)
  | .int k n => bif hasB k n then some (k, n) else none
  | .sI k n => some (k, n)
  | _ => none

def AV.asB : AV → Option Bool
  | .bool b => some b
  | .sB b => some b
  | _ => none

def AV.asS : AV → Option (List UInt8)
  | .str s => bif Nat.ble s.length maxI then some s else none
  | .sS s => some s
  | _ => none

/-! ### Rows -/
mutual
def CTy.dflt : (c : CTy) → c.den
  | .int _ => (0 : Int)
  | .boo => false
  | .txt => ([] : List UInt8)
  | .sl r => ([] : List r.den)
def RTy.dflt : (r : RTy) → r.den
  | .one c => c.dflt
  | .cons c r => (c.dflt, r.dflt)
end

def rowAt {r : RTy} (rows : List r.den) (k : Nat) : r.den := rows.getD k r.dflt

def castRows {r r' : RTy} (h : r = r') (rows : List r.den) : List r'.den := h ▸ rows

def CTy.dec : (c : CTy) → AV → Option c.den
  | .int k, v => match v.asX with
    | some (k', n) => bif decide (k' = k) then some n else none
    | none => none
  | .boo, v => v.asB
  | .txt, v => v.asS
  | .sl r, v => match v with
    | .nilSlc => some ([] : List r.den)
    | .dsl r' rows => if h : RTy.same r' r = true then some (castRows (RTy.same_eq h) rows) else none
    | _ => none

def RTy.dec : (r : RTy) → List AV → Option r.den
  | .one c, [v] => c.dec v
  | .cons c r, v :: vs => match c.dec v with
    | some x => match RTy.dec r vs with
      | some y => some (x, y)
      | none => none
    | none => none
  | _, _ => none

/-- Rows, cells by cells. -/
def RTy.decs (r : RTy) : Nat → List AV → Option (List r.den)
  | 0, [] => some []
  | n + 1, cs => match r.dec (cs.take r.size) with
    | some x => match RTy.decs r n (cs.drop r.size) with
      | some xs => some (x :: xs)
      | none => none
    | none => none
  | _, _ => none

/-! ### Maps, as lists of keys and values -/
section
open Classical
variable {κ ν : Type}
noncomputable def mget (m : List (κ × ν)) (k : κ) : Option ν := (m.find? fun p => decide (p.1 = k)).map (·.2)
noncomputable def mput (m : List (κ × ν)) (k : κ) (v : ν) : List (κ × ν) :=
  if (mget m k).isSome then m.map fun p => if p.1 = k then (k, v) else p else m ++ [(k, v)]
noncomputable def mdel (m : List (κ × ν)) (k : κ) : List (κ × ν) := m.filter fun p => decide (p.1 ≠ k)
/-- The stamps of the entries, behind. -/
noncomputable def bput (m : List (κ × ν)) (bs : List Nat) (c : Nat) (k : κ) : List Nat := bif (mget m k).isSome then bs else bs ++ [c]
noncomputable def cput (m : List (κ × ν)) (c : Nat) (k : κ) : Nat := bif (mget m k).isSome then c else c + 1
noncomputable def bdel (m : List (κ × ν)) (bs : List Nat) (k : κ) : List Nat := (mdel ((m.map (·.1)).zip bs) k).map (·.2)
end

/-- The cells of a key or a value in a map. -/
def AV.cellsOf (a : Bool) : AV → Option (List AV)
  | .agg cs => bif a then some cs else none
  | v => bif a then none else some [v]

def ofCells (a : Bool) (cs : List AV) : AV := bif a then .agg cs else cs.headD (.tup [])

/-! ### Operations -/
def sInt (op : BinOp) (k : IntKind) (a : Int) (k' : IntKind) (b : Int) : Option (Option Prop × AV) :=
  match op with
  | .shl => some (some (0 ≤ b), .sI k (k.wrap (a * 2 ^ (min b.toNat k.bits))))
  | .shr => some (some (0 ≤ b), .sI k (a.fdiv (2 ^ (min b.toNat k.bits))))
  | op => bif decide (k = k') then
      match op with
      | .add => some (none, .sI k (k.wrap (a + b)))
      | .sub => some (none, .sI k (k.wrap (a - b)))
      | .mul => some (none, .sI k (k.wrap (a * b)))
      | .quo => some (some (b ≠ 0), .sI k (k.wrap (a.tdiv b)))
      | .rem => some (some (b ≠ 0), .sI k (a.tmod b))
      | .and => some (none, .sI k (k.wrap (BitVec.ofInt k.bits a &&& BitVec.ofInt k.bits b).toNat))
      | .or => some (none, .sI k (k.wrap (BitVec.ofInt k.bits a ||| BitVec.ofInt k.bits b).toNat))
      | .xor => some (none, .sI k (k.wrap (BitVec.ofInt k.bits a ^^^ BitVec.ofInt k.bits b).toNat))
      | .andNot => some (none, .sI k (k.wrap (BitVec.ofInt k.bits a &&& ~~~BitVec.ofInt k.bits b).toNat))
      | .eql => some (none, .sB (decide (a = b)))
      | .neq => some (none, .sB (decide (a ≠ b)))
      | .lss => some (none, .sB (decide (a < b)))
      | .leq => some (none, .sB (decide (a ≤ b)))
      | .gtr => some (none, .sB (decide (b < a)))
      | .geq => some (none, .sB (decide (b ≤ a)))
      | _ => none
    else none

def sStr (op : BinOp) (a b : List UInt8) : Option (Option Prop × AV) :=
  match op with
  | .add => some (some (a.length + b.length ≤ maxI), .sS (a ++ b))
  | .eql => some (none, .sB (decide (a = b)))
  | .neq => some (none, .sB (decide (a ≠ b)))
  | .lss => some (none, .sB (ltB a b))
  | .leq => some (none, .sB (ltB a b || decide (a = b)))
  | .gtr => some (none, .sB (!(ltB a b || decide (a = b))))
  | .geq => some (none, .sB (!ltB a b))
  | _ => none

section
variable (P : Program)

/-- Are they the same? As a term. -/
def aeqXF (eq : TypeId → AV → AV → Option Bool) (xs ys : List AV) : List Field → Option Bool
  | [] => some true
  | f :: fs => bif f.name == "_" then aeqXF eq xs ys fs else
    (apart P f.type xs f.offset).bind fun a => (apart P f.type ys f.offset).bind fun b => (eq f.type a b).bind fun r => (aeqXF eq xs ys fs).map fun s =>
      match fs with
      | [] => r
      | _ => r && s

def aeqXN (eq : TypeId → AV → AV → Option Bool) (e n : Nat) (xs ys : List AV) : Nat → Nat → Option Bool
  | 0, _ => some true
  | k + 1, i => (apart P e xs (i * n)).bind fun a => (apart P e ys (i * n)).bind fun b => (eq e a b).bind fun r => (aeqXN eq e n xs ys k (i + 1)).map fun s =>
      match k with
      | 0 => r
      | _ => r && s

def aeqX : Nat → TypeId → AV → AV → Option Bool
  | 0, _, _, _ => none
  | d + 1, t, x, y => (P.underlying t).bind fun u =>
    match u with
    | .bool => x.asB.bind fun a => y.asB.map fun b => a == b
    | .int _ => x.asX.bind fun a => y.asX.bind fun b => bif decide (a.1 = b.1) then some (decide (a.2 = b.2)) else none
    | .string => x.asS.bind fun a => y.asS.map fun b => decide (a = b)
    | .struct fs => match x, y with
      | .agg xs, .agg ys => bif P.stoodInHeld t then none else aeqXF P (aeqX d) xs ys fs.toList
      | _, _ => none
    | .array n e => match x, y with
      | .agg xs, .agg ys => (P.info? e).bind fun inf => aeqXN P (aeqX d) e inf.size xs ys n 0
      | _, _ => none
    | _ => none

def xBin (op : BinOp) (t : TypeId) (x y : AV) : Option (Option Prop × AV) :=
  match x.asX, y.asX with
  | some a, some b => sInt op a.1 a.2 b.1 b.2
  | _, _ => match x.asS, y.asS with
    | some a, some b => sStr op a b
    | _, _ => bif P.eqGuardType P.depth t then none else
      match op with
      | .eql => (aeqX P Op.maxDepth t x y).map fun b => (none, .sB b)
      | .neq => (aeqX P Op.maxDepth t x y).map fun b => (none, .sB (!b))
      | _ => none

def xUn (op : UnOp) (x : AV) : Option AV :=
  match op, x with
  | .neg, .sI k n => some (.sI k (k.wrap (0 - n)))
  | .xor, .sI k n => some (.sI k (k.wrap (BitVec.ofInt k.bits (if k.signed then -1 else k.max) ^^^ BitVec.ofInt k.bits n).toNat))
  | .not, .sB b => some (.sB (!b))
  | _, _ => none

def u8r : RTy := .one (.int .u8)
def bytesD (s : List UInt8) : List Int := s.map fun b => (b.toNat : Int)
/-- Bytes, as rows. -/
def bytesR (s : List UInt8) : List u8r.den := bytesD s
def ofBytesD (l : List Int) : List UInt8 := l.map fun n => UInt8.ofNat n.toNat

/-- The rows of a sequence, if they are of that kind. -/
def rowsAs (r : RTy) : AObj → Option (List r.den)
  | .seq r' rows _ => if h : RTy.same r' r = true then some (castRows (RTy.same_eq h) rows) else none
  | _ => none

/-- The rows of a slice, of whatever kind. -/
def srcRows (H : Heap) (r : RTy) (es : Nat) : AV → Option (List r.den)
  | .nilSlc => some []
  | .emp => some []
  | .dsl r' rows => if h : RTy.same r' r = true then some (castRows (RTy.same_eq h) rows) else none
  | .sw i => (H.get i).bind (rowsAs r)
  | .ss i lo len => ((H.get i).bind (rowsAs r)).map fun rows => (rows.drop lo).take len
  | .slc i off len _ _ => (ldN H i off (len * es)).bind fun cs => r.decs len cs
  | _ => none

def xConv (H : Heap) (src dst : TypeId) (x : AV) : Option (Option Prop × AV × Heap) :=
  (P.underlying src).bind fun us => (P.underlying dst).bind fun ud =>
  match us, ud, x with
  | _, .int k, .sI _ n => some (none, .sI k (k.wrap n), H)
  | _, .string, .sS s => some (none, .sS s, H)
  | _, .slice e, .sS s => (P.underlying e).bind fun ue =>
    match ue with
    | .int .u8 => some (none, .sw H.next, H.alloc (.seq u8r (bytesR s) none))
    | _ => none
  | .slice e, .string, x => (P.underlying e).bind fun ue =>
    match ue, x with
    | .int .u8, .dsl r rows => (srcRows H u8r 1 (.dsl r rows)).map fun l => (none, .sS (ofBytesD l), H)
    | .int .u8, .sw i => (srcRows H u8r 1 (.sw i)).map fun l => (none, .sS (ofBytesD l), H)
    | .int .u8, .ss i lo len => (srcRows H u8r 1 (.ss i lo len)).map fun l => (none, .sS (ofBytesD l), H)
    | _, _ => none
  | _, _, _ => none

def rowLoad {r : RTy} (row : r.den) (j : Nat) (t : TypeId) : Option AV :=
  (P.underlying t).bind fun d => bif isAggD d then (P.info? t).bind fun inf => bif Nat.ble (j + inf.size) r.size then some (.agg (((r.enc row).drop j).take inf.size)) else none else (r.enc row)[j]?

def xLoad (H : Heap) (t : TypeId) : AV → Option AV
  | .eptr i k j => match H.get i with
    | some (.seq r rows _) => rowLoad P (rowAt rows k) j t
    | _ => none
  | .dptr _ row j => rowLoad P row j t
  | _ => none

def xStore (H : Heap) (t : TypeId) (a v : AV) : Option Heap :=
  match a with
  | .eptr i k j => match H.get i with
    | some (.seq r rows ty) => v.cells.bind fun cs => (P.info? t).bind fun inf =>
      bif Nat.beq cs.length inf.size && Nat.ble (j + cs.length) r.size then
        (r.dec (spl (r.enc (rowAt rows k)) j cs)).map fun row => H.set i (.seq r (rows.set k row) ty)
      else none
    | _ => none
  | _ => none

def xFieldAddr (s : TypeId) (x : AV) (field : Nat) : Option AV :=
  (P.underlying s).bind fun u => match u with
    | .struct fs => (fs[field]?).bind fun f => (P.info? f.type).bind fun inf => bif Nat.beq inf.size 0 then none else match x with
      | .eptr i k j => some (.eptr i k (j + f.offset))
      | .dptr r row j => some (.dptr r row (j + f.offset))
      | _ => none
    | _ => none

def inB (n : Int) (len : Nat) : Prop := 0 ≤ n ∧ n < len

def xIndexAddr (H : Heap) (t : TypeId) (x ix : AV) : Option (Option Prop × AV) :=
  (P.underlying t).bind fun u => ix.asX.bind fun n => match u, x with
  | .slice e, .sw i => match H.get i with
    | some (.seq r rows _) => (P.info? e).bind fun inf => bif Nat.beq inf.size r.size then some (some (inB n.2 rows.length), .eptr i n.2.toNat 0) else none
    | _ => none
  | .slice e, .ss i lo len => match H.get i with
    | some (.seq r rows _) => (P.info? e).bind fun inf => bif Nat.beq inf.size r.size then some (some (inB n.2 len), .eptr i (lo + n.2.toNat) 0) else none
    | _ => none
  | .slice e, .dsl r rows => (P.info? e).bind fun inf => bif Nat.beq inf.size r.size then some (some (inB n.2 rows.length), .dptr r (rowAt rows n.2.toNat) 0) else none
  | .array m e, .eptr i k j => match ix with
    | .int _ (.ofNat q) => bif Nat.blt q m then (P.info? e).map fun inf => (none, .eptr i k (j + q * inf.size)) else none
    | _ => none
  | .array m e, .dptr r row j => match ix with
    | .int _ (.ofNat q) => bif Nat.blt q m then (P.info? e).map fun inf => (none, .dptr r row (j + q * inf.size)) else none
    | _ => none
  | _, _ => none

def xIndex (t : TypeId) (x ix : AV) : Option (Option Prop × AV) :=
  (P.underlying t).bind fun u => match u with
  | .string => x.asS.bind fun s => ix.asX.map fun n => (some (inB n.2 s.length), .sI .u8 ((s.getD n.2.toNat 0).toNat : Int))
  | _ => none

/-- A bound of a slice, as a term. -/
def xBnd (o : Option AV) : Option (Option Int) :=
  match o with
  | none => some none
  | some v => v.asX.map fun n => some n.2

def loT : Option Int → Nat
  | none => 0
  | some n => n.toNat
def hiT (len : Nat) : Option Int → Nat
  | none => len
  | some n => n.toNat
def bndP (lo hi : Option Int) (len : Nat) : Prop :=
  match lo, hi with
  | none, none => True
  | some l, none => 0 ≤ l ∧ l ≤ len
  | none, some h => 0 ≤ h ∧ h ≤ len
  | some l, some h => 0 ≤ l ∧ l ≤ h ∧ h ≤ len

def pieceT {α : Type} (l : List α) : Option Int → Option Int → List α
  | none, none => l
  | some a, none => l.drop a.toNat
  | none, some b => l.take b.toNat
  | some a, some b => (l.take b.toNat).drop a.toNat

def xSlice (H : Heap) (t : TypeId) (x : AV) (lo hi mx : Option AV) : Option (Option Prop × AV) :=
  match mx with
  | some _ => none
  | none => (P.underlying t).bind fun u => (xBnd lo).bind fun l => (xBnd hi).bind fun h => match u with
    | .string => x.asS.map fun s => (some (bndP l h s.length), .sS (pieceT s l h))
    | .slice e => (P.info? e).bind fun inf => match x with
      | .sw i => match H.get i with
        | some (.seq r rows _) => bif Nat.beq inf.size r.size then some (some (bndP l h rows.length), match l, h with
            | none, none => .sw i
            | _, _ => .ss i (loT l) (hiT rows.length h - loT l)) else none
        | _ => none
      | .ss i lo0 len0 => match H.get i with
        | some (.seq r rows _) => bif Nat.beq inf.size r.size then some (some (bndP l h len0), .ss i (lo0 + loT l) (hiT len0 h - loT l)) else none
        | _ => none
      | .dsl r rows => bif Nat.beq inf.size r.size then some (some (bndP l h rows.length), .dsl r (pieceT rows l h)) else none
      | _ => none
    | _ => none

/-- Is a key's type one whose keys are compared cell by cell? -/
def keyFs : List Field → Nat → RTy → Bool
  | [f], j, .one c => !(f.name == "_") && Nat.beq f.offset j && keyC f.type c
  | f :: fs, j, .cons c r => !(f.name == "_") && Nat.beq f.offset j && keyC f.type c && keyFs fs (j + 1) r
  | _, _, _ => false
where keyC (t : TypeId) (c : CTy) : Bool := match P.underlying t, c with
  | some (.int _), .int _ => true
  | some .string, .txt => true
  | some .bool, .boo => true
  | _, _ => false

def keyOk (t : TypeId) (a : Bool) (r : RTy) : Bool :=
  match P.underlying t with
  | some (.struct fs) => a && !(P.stoodInHeld t) && keyFs P fs.toList 0 r
  | some (.int _) => !a && match r with
    | .one (.int _) => true
    | _ => false
  | some .string => !a && match r with
    | .one .txt => true
    | _ => false
  | some .bool => !a && match r with
    | .one .boo => true
    | _ => false
  | _ => false

def xLookup (H : Heap) (t : TypeId) (x ix : AV) (ok : Bool) : Option AV :=
  (P.underlying t).bind fun u => match u, x with
  | .map kt et, .map i => match H.get i with
    | some (.smap ka va kr vr m _ _) => bif keyOk P kt ka kr then (ix.cellsOf ka).bind fun kc => (kr.dec kc).bind fun k =>
        (zeroA P et).bind fun z => (z.cellsOf va).bind fun zc => (vr.dec zc).map fun zd =>
          let v := ofCells va (vr.enc ((mget m k).getD zd))
          bif ok then .tup [v, .sB (mget m k).isSome] else v
      else none
    | _ => none
  | _, _ => none

def xMapUpdate (H : Heap) (t : TypeId) (m k v : AV) : Option Heap :=
  (P.underlying t).bind fun u => match u, m with
  | .map kt _, .map i => match H.get i with
    | some (.smap ka va kr vr m bs clk) => bif keyOk P kt ka kr then (k.cellsOf ka).bind fun kc => (kr.dec kc).bind fun kd => (v.cellsOf va).bind fun vc => (vr.dec vc).map fun vd =>
        H.set i (.smap ka va kr vr (mput m kd vd) (bput m bs clk kd) (cput m clk kd))
      else none
    | _ => none
  | _, _ => none

def xDelete (H : Heap) (t : TypeId) (m k : AV) : Option Heap :=
  (P.underlying t).bind fun u => match u, m with
  | .map kt _, .map i => match H.get i with
    | some (.smap ka va kr vr m bs clk) => bif keyOk P kt ka kr then (k.cellsOf ka).bind fun kc => (kr.dec kc).map fun kd => H.set i (.smap ka va kr vr (mdel m kd) (bdel m bs kd) clk) else none
    | _ => none
  | _, _ => none

def xLen (H : Heap) (t : TypeId) (x : AV) : Option (Option Prop × AV) :=
  (P.underlying t).bind fun u => match u, x with
  | .string, .sS s => some (none, .sI .i64 s.length)
  | .slice _, .dsl _ rows => some (none, .sI .i64 rows.length)
  | .slice _, .ss _ _ len => some (none, .sI .i64 len)
  | .slice _, .sw i => match H.get i with
    | some (.seq _ rows _) => some (none, .sI .i64 rows.length)
    | _ => none
  | .map _ _, .map i => match H.get i with
    | some (.smap _ _ _ _ m _ _) => some (some (m.length ≤ maxI), .sI .i64 m.length)
    | _ => none
  | _, _ => none

/-- A map that is known by a term, entry by entry. -/
def xRange (H : Heap) (t : TypeId) (x : AV) : Option (AV × Heap) :=
  (P.underlying t).bind fun u => match u, x with
  | .map _ _, .map i => match H.get i with
    | some (.smap _ _ _ _ _ _ clk) => some (.ptr H.next 0, H.alloc (.smIter i clk [] clk))
    | _ => none
  | _, _ => none

def keyAt {kr vr : RTy} (m : List (kr.den × vr.den)) (j : Nat) : kr.den := (m.getD j (kr.dflt, vr.dflt)).1
def valAt {kr vr : RTy} (m : List (kr.den × vr.den)) (j : Nat) : vr.den := (m.getD j (kr.dflt, vr.dflt)).2
/-- The entry's stamp. -/
def bornAt (bs : List Nat) (j : Nat) : Nat := bs.getD j 0
/-- All that were there at the beginning, and are still, were seen. -/
def seenAll (bs : List Nat) (since : Nat) (seen : List Nat) : Prop := ∀ b, b ∈ bs → b < since → b ∈ seen
def notGone (bs seen : List Nat) (stepped : Nat) : Prop := seen = [] ∨ bs = [] ∨ ∃ b, b ∈ bs ∧ b < stepped

def xNext (H : Heap) (it : AV) (isString : Bool) : Option (Option Prop × List ((Nat → Prop) × (Nat → AV × Heap))) :=
  match it with
  | .ptr r 0 => match H.get r, isString with
    | some (.smIter i since seen stepped), false => match H.get i with
      | some (.smap ka va kr vr m bs clk) => some (some (notGone bs seen stepped),
          [(fun _ => seenAll bs since seen, fun _ => (.tup [.bool false], H)),
           (fun j => j < m.length ∧ bornAt bs j ∉ seen, fun j => (.tup [.bool true, ofCells ka (kr.enc (keyAt m j)), ofCells va (vr.enc (valAt m j))], H.set r (.smIter i since (seen ++ [bornAt bs j]) clk)))])
      | _ => none
    | _, _ => none
  | _ => none

/-- The entry that an iterator stands on. -/
def lastT (seen : List Nat) : Nat := seen.getLastD 0
def xEntry (H : Heap) (it : AV) : Option (Option Prop × AV) :=
  match it with
  | .ptr r 0 => match H.get r with
    | some (.smIter i since seen stepped) => match H.get i with
      | some (.smap ka va kr vr m bs clk) => some (some (clk = stepped ∧ seen ≠ [] ∧ lastT seen ∈ bs),
          .tup [ofCells ka (kr.enc (keyAt m (bs.idxOf (lastT seen)))), ofCells va (vr.enc (valAt m (bs.idxOf (lastT seen))))])
      | _ => none
    | _ => none
  | _ => none

/-- The kind of the rows of a slice that grows. -/
def dstKind (H : Heap) (x : AV) : AV → Option RTy
  | .sw i => match H.get i with
    | some (.seq r _ _) => some r
    | _ => none
  | .ss i _ _ => match H.get i with
    | some (.seq r _ _) => some r
    | _ => none
  | _ => match x with
    | .sw i => match H.get i with
      | some (.seq r _ _) => some r
      | _ => none
    | .ss i _ _ => match H.get i with
      | some (.seq r _ _) => some r
      | _ => none
    | .dsl r _ => some r
    | .sS _ => some u8r
    | _ => none

def dstId : AV → Option Nat
  | .sw i => some i
  | .ss i _ _ => some i
  | .slc i _ _ _ false => some i
  | _ => none

/-- What may be appended to. -/
def dstOk (es : Nat) (H : Heap) : AV → Bool
  | .sw _ => true
  | .ss _ _ _ => true
  | .nilSlc => true
  | .slc i _ _ _ false => esIs H i es && (match H.get i with
    | some (.cells false _ _ _) => true
    | _ => false)
  | .slc _ _ 0 0 true => true
  | _ => false

def killO (H : Heap) : Option Nat → Heap
  | none => H
  | some i => H.kill i

/-- What is appended. -/
def newRows (H : Heap) (r : RTy) (es : Nat) (x : AV) : Option (List r.den) :=
  match x with
  | .sS b => if h : RTy.same u8r r = true then some (castRows (RTy.same_eq h) (bytesR b)) else none
  | x => srcRows H r es x

def xAppend (H : Heap) (argTypes : List TypeId) (s x : AV) : Option (Option Prop × AV × Heap) :=
  match argTypes with
  | [st, xt] => (P.underlying st).bind fun u => (P.underlying xt).bind fun ux => match u with
    | .slice e => (P.info? e).bind fun ie =>
      match ux with
      | .int _ => none
      | _ => (dstKind H x s).bind fun r => bif Nat.beq ie.size r.size && zeroFits ie && dstOk ie.size H s then
          (srcRows H r ie.size s).bind fun old => (newRows H r ie.size x).map fun new =>
            (some ((old ++ new).length * ie.bytes ≤ 140737488355328 ∧ (old ++ new).length ≤ 4611686018427387904), .sw H.next, (killO H (dstId s)).alloc (.seq r (old ++ new) none))
        else none
    | _ => none
  | _ => none

/-- The kind of rows of a type's zero value. -/
def kindOf : List AV → Option RTy
  | [.int k _] => some (.one (.int k))
  | [.bool _] => some (.one .boo)
  | [.str _] => some (.one .txt)
  | .int k _ :: r => (kindOf r).map (.cons (.int k))
  | .bool _ :: r => (kindOf r).map (.cons .boo)
  | .str _ :: r => (kindOf r).map (.cons .txt)
  | _ => none

def xMakeSlice (H : Heap) (t : TypeId) (len cap : AV) : Option (Option Prop × AV × Heap) :=
  (P.underlying t).bind fun u => match u with
  | .slice e => (P.info? e).bind fun ie => (ie.zero.bind conv).bind fun z => z.cells.bind fun zs => (kindOf zs).bind fun r => (r.dec zs).bind fun zd =>
    len.asX.bind fun l => cap.asX.bind fun c => bif Nat.beq zs.length ie.size && Nat.beq r.size ie.size then
      some (some (0 ≤ l.2 ∧ l.2 = c.2 ∧ l.2 * ie.bytes ≤ 140737488355328 ∧ l.2 ≤ 4611686018427387904), .sw H.next, H.alloc (.seq r (List.replicate l.2.toNat zd) none)) else none
  | _ => none

def xMinMax (mx : Bool) : List AV → Option AV
  | [x, y] => x.asX.bind fun a => y.asX.bind fun b => bif decide (a.1 = b.1) then some (.sI a.1 (bif mx then max a.2 b.2 else min a.2 b.2)) else none
  | _ => none

def xBuiltin (H : Heap) (b : Builtin) (argTypes : List TypeId) (args : List AV) : Option (Option Prop × AV × Heap) :=
  match b, args with
  | .len, [x] => (argTypes[0]?).bind fun t => (xLen P H t x).map fun r => (r.1, r.2, H)
  | .append, [s, x] => xAppend P H argTypes s x
  | .delete, [m, k] => (argTypes[0]?).bind fun t => (xDelete P H t m k).map fun H' => (none, .tup [], H')
  | .min, xs => (xMinMax false xs).map fun v => (none, v, H)
  | .max, xs => (xMinMax true xs).map fun v => (none, v, H)
  | _, _ => none

def vx (H : Heap) (r : Option Prop × AV) : XRes := (r.1, .val r.2 H)
def vh (r : Option Prop × AV × Heap) : XRes := (r.1, .val r.2.1 r.2.2)

def optX (fr : Fr) : Option Operand → Option (Option AV)
  | none => some none
  | some y => (aeval fr y).map some

def aopX (fr : Fr) (H : Heap) (o : Oper) : Option XRes :=
  match o.op with
  | .load t a => (aeval fr a).bind fun v => (xLoad P H t v).map fun r => (none, .val r H)
  | .store t a x => (aeval fr a).bind fun p => (aeval fr x).bind fun v => (xStore P H t p v).map fun H' => (none, .val (.tup []) H')
  | .nilCheck x => (aeval fr x).bind fun v => match v with
    | .eptr i k j => some (none, .val (.eptr i k j) H)
    | .dptr r row j => some (none, .val (.dptr r row j) H)
    | _ => none
  | .binOp op t x y _ => (aeval fr x).bind fun a => (aeval fr y).bind fun b => (xBin P op t a b).map (vx H)
  | .unOp op _ x => (aeval fr x).bind fun a => (xUn op a).map fun v => (none, .val v H)
  | .convert src dst x => (aeval fr x).bind fun a => (xConv P H src dst a).map vh
  | .makeSlice t l c => (aeval fr l).bind fun a => (aeval fr c).bind fun b => (xMakeSlice P H t a b).map vh
  | .slice t x lo hi mx => (aeval fr x).bind fun v => (optX fr lo).bind fun l => (optX fr hi).bind fun h => (optX fr mx).bind fun m => (xSlice P H t v l h m).map (vx H)
  | .fieldAddr s x f => (aeval fr x).bind fun v => (xFieldAddr P s v f).map fun r => (none, .val r H)
  | .indexAddr t x ix => (aeval fr x).bind fun v => (aeval fr ix).bind fun k => (xIndexAddr P H t v k).map (vx H)
  | .index t x ix => (aeval fr x).bind fun v => (aeval fr ix).bind fun k => (xIndex P t v k).map (vx H)
  | .lookup t x ix ok => (aeval fr x).bind fun v => (aeval fr ix).bind fun k => (xLookup P H t v k ok).map fun r => (none, .val r H)
  | .mapUpdate t m k x | .insert t m k x => (aeval fr m).bind fun a => (aeval fr k).bind fun b => (aeval fr x).bind fun c => (xMapUpdate P H t a b c).map fun H' => (none, .val (.tup []) H')
  | .range t x => (aeval fr x).bind fun v => (xRange P H t v).map fun r => (none, .val r.1 r.2)
  | .next it isS => (aeval fr it).bind fun v => (xNext H v isS).map fun r => (r.1, .fams r.2)
  | .entry it => (aeval fr it).bind fun v => (xEntry H v).map (vx H)
  | .call c => match c.callee with
    | .builtin b => (evalL fr c.args.toList).bind fun args => (xBuiltin P H b c.argTypes.toList args).map vh
    | _ => none
  | _ => none

def aopC (fr : Fr) (H : Heap) (o : Oper) : Option XRes :=
  match aop0 P fr H o with
  | some r => some (none, r)
  | none => aopX P fr H o

open Classical in
noncomputable def aop (fr : Fr) (H : Heap) (o : Oper) : Option Res :=
  match aopC P fr H o with
  | some (p, r) => if obOk p then some r else none
  | none => none
end
end
end Go.AM
