/- THE ABSTRACT MACHINE, 13b: operations on what is known by terms alone (definitions). -/
import Derived.Test.YtdeoahhofhmgfaaAmC
set_option linter.unusedVariables false
namespace Go.AM
noncomputable section

/-- What is owed for an operation, and what it does. -/
abbrev XRes := Option Prop × Res

def obOk : Option Prop → Prop
  | none => True
  | some p => p

def hasB (k : IntKind) (n : Int) : Bool := decide (k.min ≤ n) && decide (n ≤ k.max)

/-- A number, with its kind. -/
def AV.asX : AV → Option (IntKind × Int)
  | .int k n => bif hasB k n then some (k, n) else none
  | .sI k n => some (k, n)
  | _ => none

def AV.asB : AV → Option Bool
  | .bool b => some b
  | .sB b => some b
  | _ => none

def AV.asS : AV → Option (List UInt8)
  | .str s => bif Nat.ble s.length maxI then some s else none
  | .sS s => some s
  | _ => none

/-! ### Rows -/
mutual
def CTy.dflt : (c : CTy) → c.den
  | .int _ => (0 : Int)
  | .boo => false
  | .txt => ([] : List UInt8)
  | .sl r => ([] : List r.den)
def RTy.dflt : (r : RTy) → r.den
  | .one c => c.dflt
  | .cons c r => (c.dflt, r.dflt)
end

def rowAt {r : RTy} (rows : List r.den) (k : Nat) : r.den := rows.getD k r.dflt

def castRows {r r' : RTy} (h : r = r') (rows : List r.den) : List r'.den := h ▸ rows

def CTy.dec : (c : CTy) → AV → Option c.den
  | .int k, v => match v.asX with
    | some (k', n) => bif decide (k' = k) then some n else none
    | none => none
  | .boo, v => v.asB
  | .txt, v => v.asS
  | .sl r, v => match v with
    | .nilSlc => some ([] : List r.den)
    | .dsl r' rows => if h : RTy.same r' r = true then some (castRows (RTy.same_eq h) rows) else none
    | _ => none

def RTy.dec : (r : RTy) → List AV → Option r.den
  | .one c, [v] => c.dec v
  | .cons c r, v :: vs => match c.dec v with
    | some x => match RTy.dec r vs with
      | some y => some (x, y)
      | none => none
    | none => none
  | _, _ => none

/-- Rows, cells by cells. -/
def RTy.decs (r : RTy) : Nat → List AV → Option (List r.den)
  | 0, [] => some []
  | n + 1, cs => match r.dec (cs.take r.size) with
    | some x => match RTy.decs r n (cs.drop r.size) with
      | some xs => some (x :: xs)
      | none => none
    | none => none
  | _, _ => none

def RTy.app : RTy → RTy → RTy
  | .one c, r => .cons c r
  | .cons c s, r => .cons c (RTy.app s r)

/-- The rows of a struct's fields. -/
def tyF (P : Program) (g : TypeId → Option RTy) : List Field → Nat → Option RTy
  | [], _ => none
  | f :: fs, j => (g f.type).bind fun r => bif Nat.beq f.offset j && Nat.beq r.size (P.cellsOf f.type) then
      match fs with
      | [] => some r
      | fs => (tyF P g fs (j + r.size)).map (RTy.app r)
    else none

def tyR (P : Program) : Nat → TypeId → Option RTy
  | 0, _ => none
  | d + 1, t => match P.underlying t with
    | some .bool => some (.one .boo)
    | some (.int k) => some (.one (.int k))
    | some .string => some (.one .txt)
    | some (.struct fs) => (tyF P (tyR P d) fs.toList 0).bind fun r => bif Nat.beq r.size (P.cellsOf t) then some r else none
    | some (.slice e) => (tyR P d e).bind fun r => bif Nat.beq r.size (P.cellsOf e) then some (.one (.sl r)) else none
    | _ => none

/-! ### Maps, as lists of keys and values -/
section
open Classical
variable {κ ν : Type}
noncomputable def mget (m : List (κ × ν)) (k : κ) : Option ν := (m.find? fun p => decide (p.1 = k)).map (·.2)
noncomputable def mput (m : List (κ × ν)) (k : κ) (v : ν) : List (κ × ν) :=
  if (mget m k).isSome then m.map fun p => if p.1 = k then (k, v) else p else m ++ [(k, v)]
noncomputable def mdel (m : List (κ × ν)) (k : κ) : List (κ × ν) := m.filter fun p => decide (p.1 ≠ k)
/-- The stamps of the entries, behind. -/
noncomputable def bput (m : List (κ × ν)) (bs : List Nat) (c : Nat) (k : κ) : List Nat := bif (mget m k).isSome then bs else bs ++ [c]
noncomputable def cput (m : List (κ × ν)) (c : Nat) (k : κ) : Nat := bif (mget m k).isSome then c else c + 1
noncomputable def bdel (m : List (κ × ν)) (bs : List Nat) (k : κ) : List Nat := (mdel ((m.map (·.1)).zip bs) k).map (·.2)
end

/-- The cells of a key or a value in a map. -/
def AV.cellsOf (a : Bool) : AV → Option (List AV)
  | .agg cs => bif a then some cs else none
  | v => bif a then none else some [v]

def ofCells (a : Bool) (cs : List AV) : AV := bif a then .agg cs else cs.headD (.tup [])

/-! ### Operations -/
def sInt (op : BinOp) (k : IntKind) (a : Int) (k' : IntKind) (b : Int) : Option (Option Prop × AV) :=
  match op with
  | .shl => some (some (0 ≤ b), .sI k (k.wrap (a * 2 ^ (min b.toNat k.bits))))
  | .shr => some (some (0 ≤ b), .sI k (a.fdiv (2 ^ (min b.toNat k.bits))))
  | op => bif decide (k = k') then
      match op with
      | .add => some (none, .sI k (k.wrap (a + b)))
      | .sub => some (none, .sI k (k.wrap (a - b)))
      | .mul => some (none, .sI k (k.wrap (a * b)))
      | .quo => some (some (b ≠ 0), .sI k (k.wrap (a.tdiv b)))
      | .rem => some (some (b ≠ 0), .sI k (a.tmod b))
      | .and => some (none, .sI k (k.wrap (BitVec.ofInt k.bits a &&& BitVec.ofInt k.bits b).toNat))
      | .or => some (none, .sI k (k.wrap (BitVec.ofInt k.bits a ||| BitVec.ofInt k.bits b).toNat))
      | .xor => some (none, .sI k (k.wrap (BitVec.ofInt k.bits a ^^^ BitVec.ofInt k.bits b).toNat))
      | .andNot => some (none, .sI k (k.wrap (BitVec.ofInt k.bits a &&& ~~~BitVec.ofInt k.bits b).toNat))
      | .eql => some (none, .sB (decide (a = b)))
      | .neq => some (none, .sB (decide (a ≠ b)))
      | .lss => some (none, .sB (decide (a < b)))
      | .leq => some (none, .sB (decide (a ≤ b)))
      | .gtr => some (none, .sB (decide (b < a)))
      | .geq => some (none, .sB (decide (b ≤ a)))
      | _ => none
    else none

def sStr (op : BinOp) (a b : List UInt8) : Option (Option Prop × AV) :=
  match op with
  | .add => some (some (a.length + b.length ≤ maxI), .sS (a ++ b))
  | .eql => some (none, .sB (decide (a = b)))
  | .neq => some (none, .sB (decide (a ≠ b)))
  | .lss => some (none, .sB (ltB a b))
  | .leq => some (none, .sB (ltB a b || decide (a = b)))
  | .gtr => some (none, .sB (!(ltB a b || decide (a = b))))
  | .geq => some (none, .sB (!ltB a b))
  | _ => none

section
variable (P : Program)

/-- Are they the same? As a term. -/
def aeqXF (eq : TypeId → AV → AV → Option Bool) (xs ys : List AV) : List Field → Option Bool
  | [] => some true
  | f :: fs => bif f.name == "_" then aeqXF eq xs ys fs else
    (apart P f.type xs f.offset).bind fun a => (apart P f.type ys f.offset).bind fun b => (eq f.type a b).bind fun r => (aeqXF eq xs ys fs).map fun s =>
      match fs with
      | [] => r
      | _ => r && s

def aeqXN (eq : TypeId → AV → AV → Option Bool) (e n : Nat) (xs ys : List AV) : Nat → Nat → Option Bool
  | 0, _ => some true
  | k + 1, i => (apart P e xs (i * n)).bind fun a => (apart P e ys (i * n)).bind fun b => (eq e a b).bind fun r => (aeqXN eq e n xs ys k (i + 1)).map fun s =>
      match k with
      | 0 => r
      | _ => r && s

def aeqX : Nat → TypeId → AV → AV → Option Bool
  | 0, _, _, _ => none
  | d + 1, t, x, y => (P.underlying t).bind fun u =>
    match u with
    | .bool => x.asB.bind fun a => y.asB.map fun b => a == b
    | .int _ => x.asX.bind fun a => y.asX.bind fun b => bif decide (a.1 = b.1) then some (decide (a.2 = b.2)) else none
    | .string => x.asS.bind fun a => y.asS.map fun b => decide (a = b)
    | .struct fs => match x, y with
      | .agg xs, .agg ys => bif P.stoodInHeld t then none else aeqXF P (aeqX d) xs ys fs.toList
      | _, _ => none
    | .array n e => match x, y with
      | .agg xs, .agg ys => (P.info? e).bind fun inf => aeqXN P (aeqX d) e inf.size xs ys n 0
      | _, _ => none
    | _ => none

def xBin (op : BinOp) (t : TypeId) (x y : AV) : Option (Option Prop × AV) :=
  match x.asX, y.asX with
  | some a, some b => sInt op a.1 a.2 b.1 b.2
  | _, _ => match x.asS, y.asS with
    | some a, some b => sStr op a b
    | _, _ => bif P.eqGuardType P.depth t then none else
      match op with
      | .eql => (aeqX P Op.maxDepth t x y).map fun b => (none, .sB b)
      | .neq => (aeqX P Op.maxDepth t x y).map fun b => (none, .sB (!b))
      | _ => none

def xUn (op : UnOp) (x : AV) : Option AV :=
  match op, x with
  | .neg, .sI k n => some (.sI k (k.wrap (0 - n)))
  | .xor, .sI k n => some (.sI k (k.wrap (BitVec.ofInt k.bits (if k.signed then -1 else k.max) ^^^ BitVec.ofInt k.bits n).toNat))
  | .not, .sB b => some (.sB (!b))
  | _, _ => none

def u8r : RTy := .one (.int .u8)
def bytesD (s : List UInt8) : List Int := s.map fun b => (b.toNat : Int)
/-- Bytes, as rows. -/
def bytesR (s : List UInt8) : List u8r.den := bytesD s
def ofBytesD (l : List Int) : List UInt8 := l.map fun n => UInt8.ofNat n.toNat

/-- The rows of a sequence, if they are of that kind. -/
def rowsAs (r : RTy) : AObj → Option (List r.den)
  | .seq r' rows _ => if h : RTy.same r' r = true then some (castRows (RTy.same_eq h) rows) else none
  | _ => none

/-- The rows of a slice, of whatever kind. -/
def srcRows (H : Heap) (r : RTy) (es : Nat) : AV → Option (List r.den)
  | .nilSlc => some []
  | .emp => some []
  | .dsl r' rows => if h : RTy.same r' r = true then some (castRows (RTy.same_eq h) rows) else none
  | .sw i => (H.get i).bind (rowsAs r)
  | .ss i lo len => ((H.get i).bind (rowsAs r)).map fun rows => (rows.drop lo).take len
  | .slc i off len _ _ => (ldN H i off (len * es)).bind fun cs => r.decs len cs
  | _ => none

def xConv (H : Heap) (src dst : TypeId) (x : AV) : Option (Option Prop × AV × Heap) :=
  (P.underlying src).bind fun us => (P.underlying dst).bind fun ud =>
  match us, ud, x with
  | _, .int k, .sI _ n => some (none, .sI k (k.wrap n), H)
  | _, .string, .sS s => some (none, .sS s, H)
  | _, .slice e, .sS s => (P.underlying e).bind fun ue =>
    match ue with
    | .int .u8 => some (none, .sw H.next, H.alloc (.seq u8r (bytesR s) none))
    | _ => none
  | .slice e, .string, x => (P.underlying e).bind fun ue =>
    match ue, x with
    | .int .u8, .dsl r rows => (srcRows H u8r 1 (.dsl r rows)).map fun l => (none, .sS (ofBytesD l), H)
    | .int .u8, .sw i => (srcRows H u8r 1 (.sw i)).map fun l => (none, .sS (ofBytesD l), H)
    | .int .u8, .ss i lo len => (srcRows H u8r 1 (.ss i lo len)).map fun l => (none, .sS (ofBytesD l), H)
    | _, _ => none
  | .pointer t, .unsafePointer, .ptr i off => (P.info? t).bind fun j => bif Nat.beq j.size 0 then none else match H.get i with
    | some (.cells _ _ cs _) => bif Nat.blt off cs.length then some (none, .ptr i off, H) else none
    | _ => none
  | .unsafePointer, .pointer u, .ptr i off => (P.info? u).bind fun _ => match H.get i with
    | some (.cells _ _ cs (some e)) => bif liesAt P P.depth e (cs.length / P.cellsOf e) off u 1 then some (none, .ptr i off, H) else none
    | _ => none
  | _, _, _ => none

def rowLoad {r : RTy} (row : r.den) (j : Nat) (t : TypeId) : Option AV :=
  (P.underlying t).bind fun d => bif isAggD d then (P.info? t).bind fun inf => bif Nat.ble (j + inf.size) r.size then some (.agg (((r.enc row).drop j).take inf.size)) else none else (r.enc row)[j]?

def xLoad (H : Heap) (t : TypeId) : AV → Option AV
  | .eptr i k j => match H.get i with
    | some (.seq r rows _) => rowLoad P (rowAt rows k) j t
    | _ => none
  | .dptr _ row j => rowLoad P row j t
  | _ => none

def xStore (H : Heap) (t : TypeId) (a v : AV) : Option Heap :=
  match a with
  | .eptr i k j => match H.get i with
    | some (.seq r rows ty) => v.cells.bind fun cs => (P.info? t).bind fun inf =>
      bif Nat.beq cs.length inf.size && Nat.ble (j + cs.length) r.size then
        (r.dec (spl (r.enc (rowAt rows k)) j cs)).map fun row => H.set i (.seq r (rows.set k row) ty)
      else none
    | _ => none
  | _ => none

def xFieldAddr (s : TypeId) (x : AV) (field : Nat) : Option AV :=
  (P.underlying s).bind fun u => match u with
    | .struct fs => (fs[field]?).bind fun f => (P.info? f.type).bind fun inf => bif Nat.beq inf.size 0 then none else match x with
      | .eptr i k j => some (.eptr i k (j + f.offset))
      | .dptr r row j => some (.dptr r row (j + f.offset))
      | _ => none
    | _ => none

def inB (n : Int) (len : Nat) : Prop := 0 ≤ n ∧ n < len

def xIndexAddr (H : Heap) (t : TypeId) (x ix : AV) : Option (Option Prop × AV) :=
  (P.underlying t).bind fun u => ix.asX.bind fun n => match u, x with
  | .slice e, .sw i => match H.get i with
    | some (.seq r rows _) => (P.info? e).bind fun inf => bif Nat.beq inf.size r.size then some (some (inB n.2 rows.length), .eptr i n.2.toNat 0) else none
    | _ => none
  | .slice e, .ss i lo len => match H.get i with
    | some (.seq r rows _) => (P.info? e).bind fun inf => bif Nat.beq inf.size r.size then some (some (inB n.2 len), .eptr i (lo + n.2.toNat) 0) else none
    | _ => none
  | .slice e, .dsl r rows => (P.info? e).bind fun inf => bif Nat.beq inf.size r.size then some (some (inB n.2 rows.length), .dptr r (rowAt rows n.2.toNat) 0) else none
  | .array m e, .eptr i k j => match ix with
    | .int _ (.ofNat q) => bif Nat.blt q m then (P.info? e).map fun inf => (none, .eptr i k (j + q * inf.size)) else none
    | _ => none
  | .array m e, .dptr r row j => match ix with
    | .int _ (.ofNat q) => bif Nat.blt q m then (P.info? e).map fun inf => (none, .dptr r row (j + q * inf.size)) else none
    | _ => none
  | _, _ => none

def xIndex (t : TypeId) (x ix : AV) : Option (Option Prop × AV) :=
  (P.underlying t).bind fun u => match u with
  | .string => x.asS.bind fun s => ix.asX.map fun n => (some (inB n.2 s.length), .sI .u8 ((s.getD n.2.toNat 0).toNat : Int))
  | _ => none

/-- A bound of a slice, as a term. -/
def xBnd (o : Option AV) : Option (Option Int) :=
  match o with
  | none => some none
  | some v => v.asX.map fun n => some n.2

def loT : Option Int → Nat
  | none => 0
  | some n => n.toNat
def hiT (len : Nat) : Option Int → Nat
  | none => len
  | some n => n.toNat
def bndP (lo hi : Option Int) (len : Nat) : Prop :=
  match lo, hi with
  | none, none => True
  | some l, none => 0 ≤ l ∧ l ≤ len
  | none, some h => 0 ≤ h ∧ h ≤ len
  | some l, some h => 0 ≤ l ∧ l ≤ h ∧ h ≤ len

def pieceT {α : Type} (l : List α) : Option Int → Option Int → List α
  | none, none => l
  | some a, none => l.drop a.toNat
  | none, some b => l.take b.toNat
  | some a, some b => (l.take b.toNat).drop a.toNat

def xSlice (H : Heap) (t : TypeId) (x : AV) (lo hi mx : Option AV) : Option (Option Prop × AV) :=
  match mx with
  | some _ => none
  | none => (P.underlying t).bind fun u => (xBnd lo).bind fun l => (xBnd hi).bind fun h => match u with
    | .string => x.asS.map fun s => (some (bndP l h s.length), .sS (pieceT s l h))
    | .slice e => (P.info? e).bind fun inf => match x with
      | .sw i => match H.get i with
        | some (.seq r rows _) => bif Nat.beq inf.size r.size then some (some (bndP l h rows.length), match l, h with
            | none, none => .sw i
            | _, _ => .ss i (loT l) (hiT rows.length h - loT l)) else none
        | _ => none
      | .ss i lo0 len0 => match H.get i with
        | some (.seq r rows _) => bif Nat.beq inf.size r.size then some (some (bndP l h len0), .ss i (lo0 + loT l) (hiT len0 h - loT l)) else none
        | _ => none
      | .dsl r rows => bif Nat.beq inf.size r.size then some (some (bndP l h rows.length), .dsl r (pieceT rows l h)) else none
      | _ => none
    | _ => none

/-- Is a key's type one whose keys are compared cell by cell? -/
def keyFs : List Field → Nat → RTy → Bool
  | [f], j, .one c => !(f.name == "_") && Nat.beq f.offset j && keyC f.type c
  | f :: fs, j, .cons c r => !(f.name == "_") && Nat.beq f.offset j && keyC f.type c && keyFs fs (j + 1) r
  | _, _, _ => false
where keyC (t : TypeId) (c : CTy) : Bool := match P.underlying t, c with
  | some (.int _), .int _ => true
  | some .string, .txt => true
  | some .bool, .boo => true
  | _, _ => false

def keyOk (t : TypeId) (a : Bool) (r : RTy) : Bool :=
  match P.underlying t with
  | some (.struct fs) => a && !(P.stoodInHeld t) && keyFs P fs.toList 0 r
  | some (.int _) => !a && match r with
    | .one (.int _) => true
    | _ => false
  | some .string => !a && match r with
    | .one .txt => true
    | _ => false
  | some .bool => !a && match r with
    | .one .boo => true
    | _ => false
  | _ => false

def xLookup (H : Heap) (t : TypeId) (x ix : AV) (ok : Bool) : Option AV :=
  (P.underlying t).bind fun u => match u, x with
  | .map kt et, .map i => match H.get i with
    | some (.smap ka va kr vr m _ _) => bif keyOk P kt ka kr then (ix.cellsOf ka).bind fun kc => (kr.dec kc).bind fun k =>
        (zeroA P et).bind fun z => (z.cellsOf va).bind fun zc => (vr.dec zc).map fun zd =>
          let v := ofCells va (vr.enc ((mget m k).getD zd))
          bif ok then .tup [v, .sB (mget m k).isSome] else v
      else none
    | _ => none
  | _, _ => none

def xMapUpdate (H : Heap) (t : TypeId) (m k v : AV) : Option Heap :=
  (P.underlying t).bind fun u => match u, m with
  | .map kt _, .map i => match H.get i with
    | some (.smap ka va kr vr m bs clk) => bif keyOk P kt ka kr then (k.cellsOf ka).bind fun kc => (kr.dec kc).bind fun kd => (v.cellsOf va).bind fun vc => (vr.dec vc).map fun vd =>
        H.set i (.smap ka va kr vr (mput m kd vd) (bput m bs clk kd) (cput m clk kd))
      else none
    | _ => none
  | _, _ => none

def xDelete (H : Heap) (t : TypeId) (m k : AV) : Option Heap :=
  (P.underlying t).bind fun u => match u, m with
  | .map kt _, .map i => match H.get i with
    | some (.smap ka va kr vr m bs clk) => bif keyOk P kt ka kr then (k.cellsOf ka).bind fun kc => (kr.dec kc).map fun kd => H.set i (.smap ka va kr vr (mdel m kd) (bdel m bs kd) clk) else none
    | _ => none
  | _, _ => none

def xLen (H : Heap) (t : TypeId) (x : AV) : Option (Option Prop × AV) :=
  (P.underlying t).bind fun u => match u, x with
  | .string, .sS s => some (none, .sI .i64 s.length)
  | .slice _, .dsl _ rows => some (none, .sI .i64 rows.length)
  | .slice _, .ss _ _ len => some (none, .sI .i64 len)
  | .slice _, .sw i => match H.get i with
    | some (.seq _ rows _) => some (none, .sI .i64 rows.length)
    | _ => none
  | .map _ _, .map i => match H.get i with
    | some (.smap _ _ _ _ m _ _) => some (some (m.length ≤ maxI), .sI .i64 m.length)
    | _ => none
  | _, _ => none

/-- A map that is known by a term, entry by entry. -/
def xRange (H : Heap) (t : TypeId) (x : AV) : Option (AV × Heap) :=
  (P.underlying t).bind fun u => match u, x with
  | .map _ _, .map i => match H.get i with
    | some (.smap _ _ _ _ _ _ clk) => some (.ptr H.next 0, H.alloc (.smIter i clk [] clk))
    | some (.map _ clk) => some (.ptr H.next 0, H.alloc (.cmIter i clk [] [] clk))
    | _ => none
  | _, _ => none

def keyAt {kr vr : RTy} (m : List (kr.den × vr.den)) (j : Nat) : kr.den := (m.getD j (kr.dflt, vr.dflt)).1
def valAt {kr vr : RTy} (m : List (kr.den × vr.den)) (j : Nat) : vr.den := (m.getD j (kr.dflt, vr.dflt)).2
/-- The entry's stamp. -/
def bornAt (bs : List Nat) (j : Nat) : Nat := bs.getD j 0
/-- All that were there at the beginning, and are still, were seen. -/
def seenAll (bs : List Nat) (since : Nat) (seen : List Nat) : Prop := ∀ b, b ∈ bs → b < since → b ∈ seen
def notGone (bs seen : List Nat) (stepped : Nat) : Prop := seen = [] ∨ bs = [] ∨ ∃ b, b ∈ bs ∧ b < stepped

def xNext (H : Heap) (it : AV) (isString : Bool) : Option (Option Prop × List ((Nat → Prop) × (Nat → AV × Heap))) :=
  match it with
  | .ptr r 0 => match H.get r, isString with
    | some (.smIter i since seen stepped), false => match H.get i with
      | some (.smap ka va kr vr m bs clk) => some (some (notGone bs seen stepped),
          [(fun _ => seenAll bs since seen, fun _ => (.tup [.bool false], H)),
           (fun j => j < m.length ∧ bornAt bs j ∉ seen, fun j => (.tup [.bool true, ofCells ka (kr.enc (keyAt m j)), ofCells va (vr.enc (valAt m j))], H.set r (.smIter i since (seen ++ [bornAt bs j]) clk)))])
      | _ => none
    | some (.cmIter i since pre now stepped), false => match H.get i with
      | some (.map es clk) => some (some (notGone (es.map (·.born)) (pre ++ now) stepped),
          (fun _ => seenAll (es.map (·.born)) since (pre ++ now), fun _ => (.tup [.bool false], H)) ::
          es.map fun e => (fun _ => e.born ∉ pre ++ now, fun _ => (.tup [.bool true, e.key, e.val], H.set r (.cmIter i since pre (now ++ [e.born]) clk))))
      | _ => none
    | _, _ => none
  | _ => none

/-- The entry that an iterator stands on. -/
def lastT (seen : List Nat) : Nat := seen.getLastD 0
def xEntry (H : Heap) (it : AV) : Option (Option Prop × AV) :=
  match it with
  | .ptr r 0 => match H.get r with
    | some (.smIter i since seen stepped) => match H.get i with
      | some (.smap ka va kr vr m bs clk) => some (some (clk = stepped ∧ seen ≠ [] ∧ lastT seen ∈ bs),
          .tup [ofCells ka (kr.enc (keyAt m (bs.idxOf (lastT seen)))), ofCells va (vr.enc (valAt m (bs.idxOf (lastT seen))))])
      | _ => none
    | some (.cmIter i since pre now stepped) => match H.get i with
      | some (.map es clk) => (lastN now).bind fun s => (findE s es).map fun e => (some (clk = stepped), .tup [e.key, e.val])
      | _ => none
    | _ => none
  | _ => none

/-- The kind of the rows of a slice that grows. -/
def dstKind (H : Heap) (x : AV) : AV → Option RTy
  | .sw i => match H.get i with
    | some (.seq r _ _) => some r
    | _ => none
  | .ss i _ _ => match H.get i with
    | some (.seq r _ _) => some r
    | _ => none
  | _ => match x with
    | .sw i => match H.get i with
      | some (.seq r _ _) => some r
      | _ => none
    | .ss i _ _ => match H.get i with
      | some (.seq r _ _) => some r
      | _ => none
    | .dsl r _ => some r
    | .sS _ => some u8r
    | _ => none

def dstId : AV → Option Nat
  | .sw i => some i
  | .ss i _ _ => some i
  | .slc i _ _ _ false => some i
  | _ => none

/-- What may be appended to. -/
def dstOk (es : Nat) (H : Heap) : AV → Bool
  | .sw _ => true
  | .ss _ _ _ => true
  | .nilSlc => true
  | .slc i _ _ _ false => esIs H i es && (match H.get i with
    | some (.cells false _ _ _) => true
    | _ => false)
  | .slc _ _ 0 0 true => true
  | _ => false

def killO (H : Heap) : Option Nat → Heap
  | none => H
  | some i => H.kill i

/-- What is appended. -/
def newRows (H : Heap) (r : RTy) (es : Nat) (x : AV) : Option (List r.den) :=
  match x with
  | .sS b => if h : RTy.same u8r r = true then some (castRows (RTy.same_eq h) (bytesR b)) else none
  | x => srcRows H r es x

def xAppend (H : Heap) (argTypes : List TypeId) (s x : AV) : Option (Option Prop × AV × Heap) :=
  match argTypes with
  | [st, xt] => (P.underlying st).bind fun u => (P.underlying xt).bind fun ux => match u with
    | .slice e => (P.info? e).bind fun ie =>
      match ux with
      | .int _ => none
      | _ => (dstKind H x s).bind fun r => bif Nat.beq ie.size r.size && zeroFits ie && dstOk ie.size H s then
          (srcRows H r ie.size s).bind fun old => (newRows H r ie.size x).map fun new =>
            (some ((old ++ new).length * ie.bytes ≤ 140737488355328 ∧ (old ++ new).length ≤ 4611686018427387904), .sw H.next, (killO H (dstId s)).alloc (.seq r (old ++ new) none))
        else none
    | _ => none
  | _ => none

/-- The kind of rows of a type's zero value. -/
def kindOf : List AV → Option RTy
  | [.int k _] => some (.one (.int k))
  | [.bool _] => some (.one .boo)
  | [.str _] => some (.one .txt)
  | .int k _ :: r => (kindOf r).map (.cons (.int k))
  | .bool _ :: r => (kindOf r).map (.cons .boo)
  | .str _ :: r => (kindOf r).map (.cons .txt)
  | _ => none

/-- The same, or by the type. -/
def kindE (P : Program) (zs : List AV) (e : TypeId) : Option RTy := match kindOf zs with
  | some r => some r
  | none => tyR P 50 e

def xMakeSlice (H : Heap) (t : TypeId) (len cap : AV) : Option (Option Prop × AV × Heap) :=
  (P.underlying t).bind fun u => match u with
  | .slice e => (P.info? e).bind fun ie => (ie.zero.bind conv).bind fun z => z.cells.bind fun zs => (kindE P zs e).bind fun r => (r.dec zs).bind fun zd =>
    len.asX.bind fun l => cap.asX.bind fun c => bif Nat.beq zs.length ie.size && Nat.beq r.size ie.size then
      some (some (0 ≤ l.2 ∧ l.2 = c.2 ∧ l.2 * ie.bytes ≤ 140737488355328 ∧ l.2 ≤ 4611686018427387904), .sw H.next, H.alloc (.seq r (List.replicate l.2.toNat zd) none)) else none
  | _ => none

/-- Rows of nought. -/
def xClear (H : Heap) (t : TypeId) (x : AV) : Option Heap :=
  let zero (r : RTy) : Option r.den := (P.underlying t).bind fun u => match u with
    | .slice e => (P.info? e).bind fun ie => (ie.zero.bind conv).bind fun z => z.cells.bind fun zs => bif Nat.beq zs.length ie.size && Nat.beq r.size ie.size then r.dec zs else none
    | _ => none
  match x with
  | .ss i lo len => match H.get i with
    | some (.seq r rows ty) => (zero r).map fun zd => H.set i (.seq r (rows.take lo ++ (List.replicate len zd ++ rows.drop (lo + len))) ty)
    | _ => none
  | _ => none

def xMinMax (mx : Bool) : List AV → Option AV
  | [x, y] => x.asX.bind fun a => y.asX.bind fun b => bif decide (a.1 = b.1) then some (.sI a.1 (bif mx then max a.2 b.2 else min a.2 b.2)) else none
  | _ => none

/-- Cells that hold bytes. -/
def bytesOfAV : List AV → Option (List UInt8)
  | [] => some []
  | .int .u8 (.ofNat n) :: r => bif Nat.blt n 256 then (bytesOfAV r).map (UInt8.ofNat n :: ·) else none
  | _ => none

/-- unsafe.SliceData, of a row that has room. -/
def xSData (x : AV) : Option AV := match x with
  | .slc i off _ cap _ => bif Nat.blt 0 cap then some (.ptr i off) else none
  | .nilSlc => some .nilPtr
  | _ => none

/-- unsafe.String over the head of a row of bytes of one's own; the row is not known from there on. -/
def xUStr (H : Heap) (ts : List TypeId) (x l : AV) : Option (AV × Heap) := match ts, l with
  | [pt, _], .int .i64 (.ofNat n) => match x with
    | .nilPtr => bif Nat.beq n 0 then some (.str [], H) else none
    | .ptr i off => bif Nat.beq n 0 then some (.str [], H) else bif Nat.beq off 0 && Nat.ble n maxI then
        (match P.underlying pt, H.get i with
        | some (.pointer e0), some (.cells false _ cs (some e)) => bif Nat.beq e0 e && Nat.beq (P.cellsOf e) 1 && Nat.ble n cs.length then (bytesOfAV (cs.take n)).map fun bs => (.str bs, H.kill i) else none
        | _, _ => none) else none
    | _ => none
  | _, _ => none

/-! ### A row that is handed over: it turns no more -/
def frz1 (H : Heap) : AV → AV × Heap
  | .sw j => match H.get j with
    | some (.seq r rows _) => (.dsl r rows, H.kill j)
    | _ => (.sw j, H)
  | v => (v, H)
def frzL : List AV → Heap → List AV × Heap
  | [], H => ([], H)
  | v :: vs, H => ((frz1 H v).1 :: (frzL vs (frz1 H v).2).1, (frzL vs (frz1 H v).2).2)
def frzA (H : Heap) : AV → AV × Heap
  | .agg cs => (.agg (frzL cs H).1, (frzL cs H).2)
  | v => frz1 H v

/-- A copy of rows that turn no more turns no more. -/
def cpyA (s x : AV) (r : Option Prop × AV × Heap) : Option Prop × AV × Heap := match s, x with
  | .nilSlc, .dsl _ _ => (r.1, (frz1 r.2.2 r.2.1).1, (frz1 r.2.2 r.2.1).2)
  | _, _ => r

def xBuiltin (H : Heap) (b : Builtin) (argTypes : List TypeId) (args : List AV) : Option (Option Prop × AV × Heap) :=
  match b, args with
  | .len, [x] => (argTypes[0]?).bind fun t => (xLen P H t x).map fun r => (r.1, r.2, H)
  | .append, [s, x] => (xAppend P H argTypes s x).map (cpyA s x)
  | .delete, [m, k] => (argTypes[0]?).bind fun t => (xDelete P H t m k).map fun H' => (none, .tup [], H')
  | .clear, [x] => (argTypes[0]?).bind fun t => (xClear P H t x).map fun H' => (none, .tup [], H')
  | .min, xs => (xMinMax false xs).map fun v => (none, v, H)
  | .max, xs => (xMinMax true xs).map fun v => (none, v, H)
  | .unsafeSliceData, [x] => (xSData x).map fun v => (none, v, H)
  | .unsafeString, [x, l] => (xUStr P H argTypes x l).map fun r => (none, r.1, r.2)
  | _, _ => none

/-- The functions without a body that the machine answers: 1: one of the runtime that hands back what it is given; 2, 3: sums and differences with a carry. -/
def extId (k : FuncId) : Nat := match P.funcs[k]? with
  | some fn => bif fn.body.isNone && (Extern.findNext fn).isNone then
      (bif fn.name == "internal/abi.NoEscape" then 1 else bif fn.name == "math/bits.Add64" then 2 else bif fn.name == "math/bits.Sub64" then 3 else 0) else 0
  | none => 0

def addX (args : List AV) : Option (Option Prop × AV) := match args with
  | [.int .u64 (.ofNat x), .int .u64 (.ofNat y), .int .u64 (.ofNat c)] => bif Nat.ble x 18446744073709551615 && Nat.ble y 18446744073709551615 && Nat.ble c 1 then
      some (none, .tup [.int .u64 (.ofNat ((x + y + c) % 18446744073709551616)), .int .u64 (.ofNat ((x + y + c) / 18446744073709551616))]) else none
  | [a, b, d] => a.asX.bind fun x => b.asX.bind fun y => d.asX.bind fun c => bif decide (x.1 = .u64) && decide (y.1 = .u64) && decide (c.1 = .u64) then
      some (some (c.2 ≤ 1), .tup [.sI .u64 ((x.2 + y.2 + c.2) % 18446744073709551616), .sI .u64 ((x.2 + y.2 + c.2) / 18446744073709551616)]) else none
  | _ => none

def subX (args : List AV) : Option (Option Prop × AV) := match args with
  | [.int .u64 (.ofNat x), .int .u64 (.ofNat y), .int .u64 (.ofNat c)] => bif Nat.ble x 18446744073709551615 && Nat.ble y 18446744073709551615 && Nat.ble c 1 then
      some (none, .tup [.int .u64 (.ofNat ((x + 18446744073709551616 - y - c) % 18446744073709551616)), .int .u64 (.ofNat (bif Nat.blt x (y + c) then 1 else 0))]) else none
  | [a, b, d] => a.asX.bind fun x => b.asX.bind fun y => d.asX.bind fun c => bif decide (x.1 = .u64) && decide (y.1 = .u64) && decide (c.1 = .u64) then
      some (some (c.2 ≤ 1), .tup [.sI .u64 ((x.2 - y.2 - c.2) % 18446744073709551616), .sI .u64 (bif decide (x.2 < y.2 + c.2) then 1 else 0)]) else none
  | _ => none

def xExt (i : Nat) (args : List AV) : Option (Option Prop × AV) := match i with
  | 1 => match args with
    | [v] => some (none, v)
    | _ => none
  | 2 => addX args
  | 3 => subX args
  | _ => none

/-! ### Is a row nil? -/
def nilW (H : Heap) : AV → Option Prop
  | .sw i => match H.get i with
    | some (.seq _ rows _) => some (rows.length = 0)
    | _ => none
  | .ss _ _ len => some (len = 0)
  | .dsl r rows => some (List.length (α := r.den) rows = 0)
  | _ => none
def xNil (P : Program) (H : Heap) (op : BinOp) (t : TypeId) (a b : AV) : Option (List ((Nat → Prop) × (Nat → AV × Heap))) := match b with
  | .nilSlc => (P.underlying t).bind fun u => match u, op with
    | .slice _, .eql => (nilW H a).map fun p => [(fun _ => p, fun _ => (.bool true, H)), (fun _ => True, fun _ => (.bool false, H))]
    | .slice _, .neq => (nilW H a).map fun p => [(fun _ => p, fun _ => (.bool false, H)), (fun _ => True, fun _ => (.bool true, H))]
    | _, _ => none
  | _ => none

def vx (H : Heap) (r : Option Prop × AV) : XRes := (r.1, .val r.2 H)
def vh (r : Option Prop × AV × Heap) : XRes := (r.1, .val r.2.1 r.2.2)

def optX (fr : Fr) : Option Operand → Option (Option AV)
  | none => some none
  | some y => (aeval fr y).map some

def aopX (fr : Fr) (H : Heap) (o : Oper) : Option XRes :=
  match o.op with
  | .load t a => (aeval fr a).bind fun v => (xLoad P H t v).map fun r => (none, .val r H)
  | .store t a x => (aeval fr a).bind fun p => (aeval fr x).bind fun v => match xStore P H t p v with
    | some H' => some (none, .val (.tup []) H')
    | none => (xStore P (frzA H v).2 t p (frzA H v).1).map fun H' => (none, .val (.tup []) H')
  | .nilCheck x => (aeval fr x).bind fun v => match v with
    | .eptr i k j => some (none, .val (.eptr i k j) H)
    | .dptr r row j => some (none, .val (.dptr r row j) H)
    | _ => none
  | .binOp op t x y _ => (aeval fr x).bind fun a => (aeval fr y).bind fun b => match xBin P op t a b with
    | some r => some (vx H r)
    | none => (xNil P H op t a b).map fun l => (none, .fams l)
  | .unOp op _ x => (aeval fr x).bind fun a => (xUn op a).map fun v => (none, .val v H)
  | .convert src dst x => (aeval fr x).bind fun a => (xConv P H src dst a).map vh
  | .makeSlice t l c => (aeval fr l).bind fun a => (aeval fr c).bind fun b => (xMakeSlice P H t a b).map vh
  | .slice t x lo hi mx => (aeval fr x).bind fun v => (optX fr lo).bind fun l => (optX fr hi).bind fun h => (optX fr mx).bind fun m => (xSlice P H t v l h m).map (vx H)
  | .fieldAddr s x f => (aeval fr x).bind fun v => (xFieldAddr P s v f).map fun r => (none, .val r H)
  | .indexAddr t x ix => (aeval fr x).bind fun v => (aeval fr ix).bind fun k => (xIndexAddr P H t v k).map (vx H)
  | .index t x ix => (aeval fr x).bind fun v => (aeval fr ix).bind fun k => (xIndex P t v k).map (vx H)
  | .lookup t x ix ok => (aeval fr x).bind fun v => (aeval fr ix).bind fun k => (xLookup P H t v k ok).map fun r => (none, .val r H)
  | .mapUpdate t m k x | .insert t m k x => (aeval fr m).bind fun a => (aeval fr k).bind fun b => (aeval fr x).bind fun c => match xMapUpdate P H t a b c with
    | some H' => some (none, .val (.tup []) H')
    | none => (xMapUpdate P (frzA H c).2 t a b (frzA H c).1).map fun H' => (none, .val (.tup []) H')
  | .range t x => (aeval fr x).bind fun v => (xRange P H t v).map fun r => (none, .val r.1 r.2)
  | .next it isS => (aeval fr it).bind fun v => (xNext H v isS).map fun r => (r.1, .fams r.2)
  | .entry it => (aeval fr it).bind fun v => (xEntry H v).map (vx H)
  | .call c => match c.callee with
    | .builtin b => (evalL fr c.args.toList).bind fun args => (xBuiltin P H b c.argTypes.toList args).map vh
    | .value (.func k) => (evalL fr c.args.toList).bind fun args => (xExt (extId P k) args).map (vx H)
    | _ => none
  | _ => none

def aopC (fr : Fr) (H : Heap) (o : Oper) : Option XRes :=
  match aop0 P fr H o with
  | some r => some (none, r)
  | none => aopX P fr H o

open Classical in
noncomputable def aop (fr : Fr) (H : Heap) (o : Oper) : Option Res :=
  match aopC P fr H o with
  | some (p, r) => if obOk p then some r else none
  | none => none
end
end
end Go.AM
set_option linter.unusedSimpArgs false
set_option linter.unusedVariables false
namespace Go.AM
open Go.RowKit

theorem wrap_has (k : IntKind) (n : Int) : k.has (k.wrap n) := by
  cases k <;> simp only [IntKind.has, IntKind.wrap, IntKind.min, IntKind.max, IntKind.bits, IntKind.signed] <;> simp <;> (try split) <;> omega

theorem tmod_has {k : IntKind} {a b : Int} (h : k.has a) (hb : k.has b) (h0 : b ≠ 0) : k.has (a.tmod b) := by
  have h1 : (a.tmod b).natAbs ≤ a.natAbs := by
    rw [Int.natAbs_tmod]; exact Nat.mod_le _ _
  have h2 : 0 ≤ a → 0 ≤ a.tmod b := fun h => Int.tmod_nonneg b h
  have h3 : a ≤ 0 → a.tmod b ≤ 0 := fun h => by
    have := Int.tmod_nonneg b (show 0 ≤ -a by omega)
    rw [Int.neg_tmod] at this; omega
  have key : ∀ lo hi : Int, lo ≤ 0 → 0 ≤ hi → lo ≤ a → a ≤ hi → lo ≤ a.tmod b ∧ a.tmod b ≤ hi := fun lo hi hlo hhi ha1 ha2 => by
    rcases Int.le_total 0 a with h | h
    · have := h2 h; omega
    · have := h3 h; omega
  cases k <;> simp only [IntKind.has, IntKind.min, IntKind.max, IntKind.bits, IntKind.signed] at h ⊢ <;> exact key _ _ (by decide) (by decide) h.1 h.2

theorem fdiv_has {k : IntKind} {a : Int} (h : k.has a) (n : Nat) : k.has (a.fdiv (2 ^ n)) := by
  have hp : (0 : Int) < 2 ^ n := Int.pow_pos (by decide)
  rw [Int.fdiv_eq_ediv_of_nonneg _ (Int.le_of_lt hp)]
  have key : ∀ lo hi : Int, lo ≤ 0 → 0 ≤ hi → lo ≤ a → a ≤ hi → lo ≤ a / 2 ^ n ∧ a / 2 ^ n ≤ hi := fun lo hi hlo hhi ha1 ha2 => by
    constructor
    · rw [Int.le_ediv_iff_mul_le hp]
      have : lo * 2 ^ n ≤ lo * 1 := Int.mul_le_mul_of_nonpos_left hlo (by omega)
      omega
    · rcases Int.le_total 0 a with h | h
      · exact Int.le_trans (Int.ediv_le_self _ h) ha2
      · have : a / 2 ^ n ≤ 0 := by
          have := Int.ediv_le_ediv hp h
          simpa using this
        omega
  cases k <;> simp only [IntKind.has, IntKind.min, IntKind.max, IntKind.bits, IntKind.signed] at h ⊢ <;> exact key _ _ (by decide) (by decide) h.1 h.2

section
variable {B : Nat} {ρ : Env} {H : Heap} {w : World} {P : Program}

theorem asX_sound {v : AV} {k : IntKind} {n : Int} (h : v.asX = some (k, n)) {x : Value} (hr : Rel ρ v x) : x = .int k n ∧ k.has n := by
  cases v <;> simp only [AV.asX] at h <;> try (cases h; done)
  · rename_i k' n'
    cases hb : hasB k' n' with
    | false => rw [hb] at h; cases h
    | true =>
      rw [hb] at h; cases h; simp only [Rel] at hr
      unfold hasB at hb
      simp only [Bool.and_eq_true, decide_eq_true_eq] at hb
      exact ⟨hr, hb⟩
  · cases h; simp only [Rel] at hr; exact hr

theorem asB_sound {v : AV} {b : Bool} (h : v.asB = some b) {x : Value} (hr : Rel ρ v x) : x = .bool b := by
  cases v <;> simp only [AV.asB] at h <;> try (cases h; done)
  all_goals (cases h; simp only [Rel] at hr; exact hr)

theorem asS_sound {v : AV} {s : List UInt8} (h : v.asS = some s) {x : Value} (hr : Rel ρ v x) : x = .string ⟨s.toArray⟩ ∧ s.length ≤ maxI := by
  cases v <;> simp only [AV.asS] at h <;> try (cases h; done)
  · rename_i s'
    cases hb : Nat.ble s'.length maxI with
    | false => rw [hb] at h; cases h
    | true => rw [hb] at h; cases h; simp only [Rel] at hr; exact ⟨hr, Nat.le_of_ble_eq_true hb⟩
  · cases h; simp only [Rel] at hr; exact hr

theorem sInt_sound {op : BinOp} {t : TypeId} {ox oy : Operand} {k k' : IntKind} {a b : Int} {p : Option Prop} {v : AV} (ha : k.has a) (hb : k'.has b) (h : sInt op k a k' b = some (p, v)) (hp : obOk p) :
    ∃ z, ((do eqGuard op t ox oy (.int k a) (.int k' b); binOp op t (.int k a) (.int k' b)) : Sem Value).run P w = .ok z w ∧ Rel ρ v z := by
  have hrun : ∀ z, (binOp op t (.int k a) (.int k' b)).run P w = .ok z w → ((do eqGuard op t ox oy (.int k a) (.int k' b); binOp op t (.int k a) (.int k' b)) : Sem Value).run P w = .ok z w := fun z hz => by
    simp [eqGuard_at_int, hz]
  unfold sInt at h
  split at h
  · cases h
    have hp : (0 : Int) ≤ b := hp
    refine ⟨_, hrun (.int k (k.wrap (a * 2 ^ (min b.toNat k.bits)))) ?_, by simp only [Rel]; exact ⟨trivial, wrap_has _ _⟩⟩
    simp only [binOp, Op.shift]; rw [if_neg (by omega)]; rfl
  · cases h
    have hp : (0 : Int) ≤ b := hp
    refine ⟨_, hrun (.int k (a.fdiv (2 ^ (min b.toNat k.bits)))) ?_, by simp only [Rel]; exact ⟨trivial, fdiv_has ha _⟩⟩
    simp only [binOp, Op.shift]; rw [if_neg (by omega)]; rfl
  · cases hk : decide (k = k') with
    | false => rw [hk] at h; cases h
    | true =>
      rw [hk, cond_true] at h
      obtain rfl := of_decide_eq_true hk
      split at h
      · cases h; exact ⟨.int k (k.wrap (a + b)), hrun _ (by simp [binOp, Op.intArith]), by simp only [Rel]; exact ⟨trivial, wrap_has _ _⟩⟩
      · cases h; exact ⟨.int k (k.wrap (a - b)), hrun _ (by simp [binOp, Op.intArith]), by simp only [Rel]; exact ⟨trivial, wrap_has _ _⟩⟩
      · cases h; exact ⟨.int k (k.wrap (a * b)), hrun _ (by simp [binOp, Op.intArith]), by simp only [Rel]; exact ⟨trivial, wrap_has _ _⟩⟩
      · cases h
        have hp : b ≠ 0 := hp
        exact ⟨.int k (k.wrap (a.tdiv b)), hrun _ (by simp [binOp, Op.intDiv, hp]), by simp only [Rel]; exact ⟨trivial, wrap_has _ _⟩⟩
      · cases h
        have hp : b ≠ 0 := hp
        exact ⟨.int k (a.tmod b), hrun _ (by simp [binOp, Op.intDiv, hp]), by simp only [Rel]; exact ⟨trivial, tmod_has ha hb hp⟩⟩
      · cases h; exact ⟨.int k (k.wrap ((BitVec.ofInt k.bits a &&& BitVec.ofInt k.bits b).toNat)), hrun _ (by simp only [binOp, Op.intBits, ne_eq, not_true_eq_false, if_false]; rfl), by simp only [Rel]; exact ⟨trivial, wrap_has _ _⟩⟩
      · cases h; exact ⟨.int k (k.wrap ((BitVec.ofInt k.bits a ||| BitVec.ofInt k.bits b).toNat)), hrun _ (by simp only [binOp, Op.intBits, ne_eq, not_true_eq_false, if_false]; rfl), by simp only [Rel]; exact ⟨trivial, wrap_has _ _⟩⟩
      · cases h; exact ⟨.int k (k.wrap ((BitVec.ofInt k.bits a ^^^ BitVec.ofInt k.bits b).toNat)), hrun _ (by simp only [binOp, Op.intBits, ne_eq, not_true_eq_false, if_false]; rfl), by simp only [Rel]; exact ⟨trivial, wrap_has _ _⟩⟩
      · cases h; exact ⟨.int k (k.wrap ((BitVec.ofInt k.bits a &&& ~~~BitVec.ofInt k.bits b).toNat)), hrun _ (by simp only [binOp, Op.intBits, ne_eq, not_true_eq_false, if_false]; rfl), by simp only [Rel]; exact ⟨trivial, wrap_has _ _⟩⟩
      · cases h; exact ⟨.bool (a == b), hrun _ (by simp [binOp, Op.intCmp]), by simp only [Rel]; exact congrArg Value.bool (by rw [Bool.eq_iff_iff]; simp)⟩
      · cases h; exact ⟨.bool (a != b), hrun _ (by simp [binOp, Op.intCmp]), by simp only [Rel] <;> (try (congr 1; rw [Bool.eq_iff_iff]; simp))⟩
      · cases h; exact ⟨.bool (decide (a < b)), hrun _ (by simp [binOp, Op.intCmp]), by simp only [Rel] <;> (try (congr 1; rw [Bool.eq_iff_iff]; simp))⟩
      · cases h; exact ⟨.bool (decide (a ≤ b)), hrun _ (by simp [binOp, Op.intCmp]), by simp only [Rel] <;> (try (congr 1; rw [Bool.eq_iff_iff]; simp))⟩
      · cases h; exact ⟨.bool (decide (a > b)), hrun _ (by simp [binOp, Op.intCmp]), by simp only [Rel] <;> (try (congr 1; rw [Bool.eq_iff_iff]; simp))⟩
      · cases h; exact ⟨.bool (decide (a ≥ b)), hrun _ (by simp [binOp, Op.intCmp]), by simp only [Rel] <;> (try (congr 1; rw [Bool.eq_iff_iff]; simp))⟩
      · cases h

theorem sStr_sound {op : BinOp} {t : TypeId} {ox oy : Operand} {a b : List UInt8} {p : Option Prop} {v : AV} (h : sStr op a b = some (p, v)) (hp : obOk p) :
    ∃ z, ((do eqGuard op t ox oy (.string ⟨a.toArray⟩) (.string ⟨b.toArray⟩); binOp op t (.string ⟨a.toArray⟩) (.string ⟨b.toArray⟩)) : Sem Value).run P w = .ok z w ∧ Rel ρ v z := by
  have hg : eqGuard op t ox oy (.string ⟨a.toArray⟩) (.string ⟨b.toArray⟩) = pure () := eqGuard_at_string ..
  have hbin : binOp op t (.string ⟨a.toArray⟩) (.string ⟨b.toArray⟩) = Op.stringOp op ⟨a.toArray⟩ ⟨b.toArray⟩ := by cases op <;> rfl
  have hs1 : (⟨a.toArray⟩ : ByteArray).size = a.length := by simp [ByteArray.size]
  have hs2 : (⟨b.toArray⟩ : ByteArray).size = b.length := by simp [ByteArray.size]
  have hd : decide (a = b) = (a == b) := by rw [Bool.eq_iff_iff]; simp
  rw [hg, hbin]
  unfold sStr at h
  split at h
  · cases h
    have hp : a.length + b.length ≤ maxI := hp
    refine ⟨.string ⟨(a ++ b).toArray⟩, ?_, by simp only [Rel]; exact ⟨trivial, by rw [List.length_append]; exact hp⟩⟩
    have hnot : ¬ (((⟨a.toArray⟩ : ByteArray).size + (⟨b.toArray⟩ : ByteArray).size : Nat) : Int) > IntKind.i64.max := by
      rw [hs1, hs2, IntKind.max_i64]; unfold maxI at hp; omega
    simp only [Op.stringOp, Sem.run_bind, Sem.run_pure, Result.andThen_ok]
    rw [if_neg hnot]
    simp only [Sem.run_pure]
    congr 2
  all_goals first
    | (cases h; done)
    | (cases h; refine ⟨_, by simp only [Op.stringOp, Sem.run_bind, Sem.run_pure, Result.andThen_ok]; rfl, ?_⟩; simp [Rel, hd, ltB_eq, ByteArray.toList_eq])

end
end Go.AM
set_option linter.unusedSimpArgs false
set_option linter.unusedVariables false
namespace Go.AM
open Go.RowKit
section
variable {B : Nat} {ρ : Env} {H : Heap} {w : World} {P : Program}

theorem aeqXF_sound {eq : TypeId → AV → AV → Option Bool} {d : Nat} (he : AeqOk P ρ eq d) {xs ys : List AV} {xs' ys' : Array Value} (hx : RelL ρ xs xs'.toList) (hy : RelL ρ ys ys'.toList) :
    ∀ {fs : List Field} {r : Bool}, aeqXF P eq xs ys fs = some r → (Op.eqFields d xs' ys' fs).run P w = .ok r w
  | [], r, h => by simp [aeqXF] at h; subst h; simp [Op.eqFields]
  | f :: fs, r, h => by
    simp only [aeqXF] at h
    simp only [Op.eqFields]
    cases hn : f.name == "_" with
    | true =>
      simp only [hn, cond_true] at h
      rw [if_neg (by simpa using hn)]
      exact aeqXF_sound he hx hy h
    | false =>
      simp only [hn, cond_false] at h
      rw [if_pos (by simpa using hn)]
      simp only [Option.bind_eq_some_iff, Option.map_eq_some_iff] at h
      obtain ⟨a, h1, b, h2, q, h3, s, h4, h5⟩ := h
      obtain ⟨x, hx1, hx2⟩ := apart_sound (w := w) h1 hx
      obtain ⟨y, hy1, hy2⟩ := apart_sound (w := w) h2 hy
      have h6 := he f.type a b q x y w hx2 hy2 h3
      have ih := aeqXF_sound he hx hy h4
      simp only [Sem.run_bind, hx1, hy1, h6, Result.andThen_ok]
      have hr : r = (q && s) := by
        split at h5
        · simp [aeqXF] at h4; subst h4; subst h5; simp
        · exact h5.symm
      subst hr
      cases q with
      | true => simpa using ih
      | false => simp

theorem aeqXN_sound {eq : TypeId → AV → AV → Option Bool} {d : Nat} (he : AeqOk P ρ eq d) {e n : Nat} {xs ys : List AV} {xs' ys' : Array Value} (hx : RelL ρ xs xs'.toList) (hy : RelL ρ ys ys'.toList) :
    ∀ {k i : Nat} {r : Bool}, aeqXN P eq e n xs ys k i = some r →
      ((do for i in List.range' i k do
            if !(← Op.equalIn d e (← part e xs' (i * n)) (← part e ys' (i * n))) then return false
           pure true : Sem Bool)).run P w = .ok r w
  | 0, i, r, h => by simp [aeqXN] at h; subst h; simp
  | k + 1, i, r, h => by
    simp only [aeqXN, Option.bind_eq_some_iff, Option.map_eq_some_iff] at h
    obtain ⟨a, h1, b, h2, q, h3, s, h4, h5⟩ := h
    obtain ⟨x, hx1, hx2⟩ := apart_sound (w := w) h1 hx
    obtain ⟨y, hy1, hy2⟩ := apart_sound (w := w) h2 hy
    have h6 := he e a b q x y w hx2 hy2 h3
    have ih := aeqXN_sound he hx hy h4
    have hr : r = (q && s) := by
      split at h5
      · simp [aeqXN] at h4; subst h4; subst h5; simp
      · exact h5.symm
    subst hr
    cases q with
    | true => simpa [List.range'_succ, hx1, hy1, h6] using ih
    | false => simp [List.range'_succ, hx1, hy1, h6]

theorem aeqX_sound : ∀ (d : Nat), AeqOk P ρ (aeqX P d) d := by
  intro d
  induction d with
  | zero => intro t a b r x y w _ _ h; simp [aeqX] at h
  | succ d ih =>
    intro t a b r x y w ha hb h
    unfold aeqX at h
    cases hu : P.underlying t with
    | none => simp [hu] at h
    | some u =>
      simp only [hu, Option.bind_some] at h
      split at h
      · simp only [Option.bind_eq_some_iff, Option.map_eq_some_iff] at h
        obtain ⟨p, h1, q, h2, rfl⟩ := h
        have := asB_sound h1 ha; subst this
        have := asB_sound h2 hb; subst this
        simp [Op.equalIn, run_underlying hu]
      · simp only [Option.bind_eq_some_iff] at h
        obtain ⟨⟨k1, p⟩, h1, ⟨k2, q⟩, h2, h3⟩ := h
        obtain ⟨rfl, _⟩ := asX_sound h1 ha
        obtain ⟨rfl, _⟩ := asX_sound h2 hb
        cases hk : decide (k1 = k2) with
        | false => simp only [hk] at h3; cases h3
        | true =>
          simp only [hk, cond_true, Option.some.injEq] at h3
          have hk := of_decide_eq_true hk
          subst h3
          have : decide (p = q) = (p == q) := by rw [Bool.eq_iff_iff]; simp
          simp [Op.equalIn, run_underlying hu, hk, this]
      · simp only [Option.bind_eq_some_iff, Option.map_eq_some_iff] at h
        obtain ⟨p, h1, q, h2, rfl⟩ := h
        obtain ⟨rfl, _⟩ := asS_sound h1 ha
        obtain ⟨rfl, _⟩ := asS_sound h2 hb
        have : decide (p = q) = (p == q) := by rw [Bool.eq_iff_iff]; simp
        rw [run_equalIn_string w d t _ _ hu, this, ByteArray.toList_eq, ByteArray.toList_eq]
      · rename_i fs
        split at h
        · rename_i xs ys
          simp only [Rel] at ha hb
          obtain ⟨xs', rfl, hx⟩ := ha
          obtain ⟨ys', rfl, hy⟩ := hb
          cases hp : P.stoodInHeld t with
          | true => simp [hp] at h
          | false =>
            simp only [hp, cond_false] at h
            have hf : P.fieldsOf t = fs := by unfold Program.fieldsOf; rw [hu]
            rw [run_equalIn_struct w d t xs' ys' (by rw [hf]; exact hu) hp, hf]
            exact aeqXF_sound ih hx hy h
        · cases h
      · rename_i n e
        split at h
        · rename_i xs ys
          simp only [Rel] at ha hb
          obtain ⟨xs', rfl, hx⟩ := ha
          obtain ⟨ys', rfl, hy⟩ := hb
          simp only [Option.bind_eq_some_iff] at h
          obtain ⟨inf, hi, h⟩ := h
          have := aeqXN_sound (w := w) ih hx hy h
          simp only [Op.equalIn, Sem.run_bind, run_underlying hu, Result.andThen_ok, sizeOf_run hi]
          rw [Std.Legacy.Range.forIn_eq_forIn_range']
          simpa [Std.Legacy.Range.size] using this
        · cases h
      · cases h

theorem aeqX_form {d : Nat} {t : TypeId} {a b : AV} {r : Bool} (h : aeqX P d t a b = some r) {x y : Value} (ha : Rel ρ a x) (hb : Rel ρ b y) (hn : ∀ p q, a.asX = some p → b.asX = some q → False) (hs : ∀ p q, a.asS = some p → b.asS = some q → False) :
    binOp .eql t x y = (do pure (.bool (← Op.equal t x y))) ∧ binOp .neq t x y = (do pure (.bool (!(← Op.equal t x y)))) := by
  cases d with
  | zero => cases h
  | succ d =>
    unfold aeqX at h
    simp only [Option.bind_eq_some_iff] at h
    obtain ⟨u, hu, h⟩ := h
    split at h
    · simp only [Option.bind_eq_some_iff, Option.map_eq_some_iff] at h
      obtain ⟨p, h1, q, h2, rfl⟩ := h
      have := asB_sound h1 ha; subst this
      have := asB_sound h2 hb; subst this
      exact ⟨rfl, rfl⟩
    · simp only [Option.bind_eq_some_iff] at h
      obtain ⟨p, h1, q, h2, h3⟩ := h
      exact (hn p q h1 h2).elim
    · simp only [Option.bind_eq_some_iff, Option.map_eq_some_iff] at h
      obtain ⟨p, h1, q, h2, rfl⟩ := h
      exact (hs p q h1 h2).elim
    · split at h
      · simp only [Rel] at ha hb
        obtain ⟨xs', rfl, hx⟩ := ha
        obtain ⟨ys', rfl, hy⟩ := hb
        exact ⟨rfl, rfl⟩
      · cases h
    · split at h
      · simp only [Rel] at ha hb
        obtain ⟨xs', rfl, hx⟩ := ha
        obtain ⟨ys', rfl, hy⟩ := hb
        exact ⟨rfl, rfl⟩
      · cases h
    · cases h

theorem xBin_sound {op : BinOp} {t : TypeId} {ox oy : Operand} {a b v : AV} {p : Option Prop} {x y : Value} (ha : Rel ρ a x) (hb : Rel ρ b y) (h : xBin P op t a b = some (p, v)) (hp : obOk p) :
    ∃ z, ((do eqGuard op t ox oy x y; binOp op t x y) : Sem Value).run P w = .ok z w ∧ Rel ρ v z := by
  unfold xBin at h
  split at h
  · rename_i m n hm hn
    obtain ⟨rfl, g1⟩ := asX_sound (k := m.1) (n := m.2) hm ha
    obtain ⟨rfl, g2⟩ := asX_sound (k := n.1) (n := n.2) hn hb
    exact sInt_sound g1 g2 h hp
  · rename_i hnn
    have hn' : ∀ p q, a.asX = some p → b.asX = some q → False := fun p q h1 h2 => hnn p q h1 h2
    split at h
    · rename_i m n hm hn
      obtain ⟨rfl, g1⟩ := asS_sound hm ha
      obtain ⟨rfl, g2⟩ := asS_sound hn hb
      exact sStr_sound h hp
    · rename_i hss
      have hs' : ∀ p q, a.asS = some p → b.asS = some q → False := fun p q h1 h2 => hss p q h1 h2
      cases hg0 : P.eqGuardType P.depth t with
      | true => rw [hg0] at h; cases h
      | false =>
        rw [hg0, cond_false] at h
        have key : ∀ r, aeqX P Op.maxDepth t a b = some r → (eqGuard op t ox oy x y).run P w = .ok () w := fun r hr => by
          refine eqGuard_ok ha hb (fun _ _ _ _ => hg0) fun h1 h2 => ?_
          subst h1
          unfold aeqX Op.maxDepth at hr
          simp only [Option.bind_eq_some_iff] at hr
          obtain ⟨u, hu, hr⟩ := hr
          split at hr <;> simp [AV.asB, AV.asX, AV.asS] at hr
        split at h
        · rw [Option.map_eq_some_iff] at h
          obtain ⟨r, h1, h2⟩ := h
          cases h2
          exact ⟨.bool r, by simp only [Sem.run_bind, key r h1, Result.andThen_ok]; exact binOp_eql_any (aeqX_form h1 ha hb hn' hs').1 (aeqX_sound (ρ := ρ) Op.maxDepth t _ _ _ _ _ w ha hb h1), by simp [Rel]⟩
        · rw [Option.map_eq_some_iff] at h
          obtain ⟨r, h1, h2⟩ := h
          cases h2
          exact ⟨.bool (!r), by simp only [Sem.run_bind, key r h1, Result.andThen_ok]; exact binOp_neq_any (aeqX_form h1 ha hb hn' hs').2 (aeqX_sound (ρ := ρ) Op.maxDepth t _ _ _ _ _ w ha hb h1), by simp [Rel]⟩
        · cases h

theorem xUn_sound {op : UnOp} {a v : AV} {x : Value} (ha : Rel ρ a x) (h : xUn op a = some v) : ∃ z, (Op.unary op x).run P w = .ok z w ∧ Rel ρ v z := by
  unfold xUn at h
  split at h
  · rename_i k n
    cases h; simp only [Rel] at ha; obtain ⟨rfl, _⟩ := ha
    exact ⟨.int k (k.wrap (0 - n)), by simp only [Op.unary, Op.intArith]; rfl, by simp only [Rel]; exact ⟨trivial, wrap_has _ _⟩⟩
  · rename_i k n
    cases h; simp only [Rel] at ha; obtain ⟨rfl, _⟩ := ha
    exact ⟨.int k _, by simp only [Op.unary, Op.intBits]; rfl, by simp only [Rel]; exact ⟨trivial, wrap_has _ _⟩⟩
  · rename_i b
    cases h; simp only [Rel] at ha; subst ha
    exact ⟨.bool (!b), by simp [Op.unary], by simp only [Rel]⟩
  · cases h

/-! ### Rows -/
theorem RTy.enc_length (r : RTy) : ∀ d : r.den, (r.enc d).length = r.size := by
  refine RTy.rec (motive_1 := fun _ => True) (motive_2 := fun r => ∀ d : r.den, (r.enc d).length = r.size) (fun _ => trivial) trivial trivial (fun _ _ => trivial) ?_ ?_ r
  · intro c _ d; rfl
  · intro c r _ ih d; simp only [RTy.enc, RTy.size, List.length_cons]; rw [ih]

theorem rowAt_get {r : RTy} {rows : List r.den} {k : Nat} (h : k < rows.length) : rows[k]? = some (rowAt rows k) := by
  unfold rowAt
  rw [List.getD_eq_getElem?_getD, List.getElem?_eq_getElem h]; rfl

theorem rowLoad_sound {r : RTy} {row : r.den} {j : Nat} {t : TypeId} {v : AV} (h : rowLoad P row j t = some v) {b off : Nat} {ys : List Value} (hr : RTy.Rd ρ.fz r row ys)
    (hc : ∀ (i : Nat) (y : Value), ys[i]? = some y → w.cell? ⟨b, off + i, none⟩ = some y) : ∃ y, (loadVar t ⟨b, off + j, none⟩).run P w = .ok y w ∧ Rel ρ v y := by
  have hrel := hr.rel
  unfold rowLoad at h
  simp only [Option.bind_eq_some_iff] at h
  obtain ⟨d, hu, h⟩ := h
  cases hd : isAggD d with
  | true =>
    rw [hd, cond_true] at h
    simp only [Option.bind_eq_some_iff] at h
    obtain ⟨inf, hi, h⟩ := h
    cases hb : Nat.ble (j + inf.size) r.size with
    | false => rw [hb] at h; cases h
    | true =>
      rw [hb, cond_true] at h
      cases h
      have hle := Nat.le_of_ble_eq_true hb
      have hlen := hr.length
      refine ⟨.agg ((ys.drop j).take inf.size).toArray, ?_, ⟨_, rfl, by simpa using RelL.take inf.size (RelL.drop j hrel)⟩⟩
      have hld : (loadCells ⟨b, off + j, none⟩ inf.size).run P w = .ok ((ys.drop j).take inf.size).toArray w := by
        refine run_loadCells_at (by simp; omega) fun i y hy => ?_
        have hi' : i < inf.size := by have := (List.getElem?_eq_some_iff.1 hy).1; simp at this; omega
        rw [List.getElem?_take_of_lt hi', List.getElem?_drop] at hy
        rw [Nat.add_assoc]
        exact hc _ _ hy
      simp [loadVar, isAgg_run hu, hd, sizeOf_run hi, hld]
  | false =>
    rw [hd, cond_false] at h
    obtain ⟨y, hy, hry⟩ := hrel.get h
    exact ⟨y, by simp [loadVar, isAgg_run hu, hd, hc j y hy], hry⟩

/-- The cells of a row of a sequence. -/
theorem seq_row (h : HR B ρ H w) {i k : Nat} {r : RTy} {rows : List r.den} {ty : Option TypeId} {e : At} (ho : H.get i = some (.seq r rows ty)) (he : ρ.ats[i]? = some e) (hn : e.nb = false) (hk : k < rows.length) :
    ∃ ys, RTy.Rd ρ.fz r (rowAt rows k) ys ∧ ∀ (j : Nat) (y : Value), ys[j]? = some y → w.cell? ⟨e.b, e.sh + k * e.es + j, none⟩ = some y := by
  obtain ⟨h1, h2, h3 | ⟨h3, arr, ty0, fz, h4, h5, h6, h7⟩⟩ := h.at' ho he
  · rw [h3.1] at hn; cases hn
  · obtain ⟨ys, g1, g2⟩ := h6 k _ (rowAt_get hk)
    refine ⟨ys, g2, fun j y hy => ?_⟩
    rw [h1]
    simp [World.cell?, h4, g1 j y hy]

theorem fz_cell (h : HR B ρ H w) {b : Nat} {arr : Array Value} (hb : ρ.fz b = some arr) {o : Nat} {y : Value} (hy : arr[o]? = some y) : w.cell? ⟨b, o, none⟩ = some y := by
  obtain ⟨arr', ty, f, h1, h2⟩ := h.fz b arr hb
  simp [World.cell?, h1, h2 _ _ hy]

theorem xLoad_sound (h : HR B ρ H w) {t : TypeId} {p v : AV} {x : Value} (hp : Rel ρ p x) (hl : xLoad P H t p = some v) : ∃ y, (Instr.loadAt t x).run P w = .ok y w ∧ Rel ρ v y := by
  unfold xLoad at hl
  split at hl
  · rename_i i k j
    split at hl
    · rename_i r rows ty ho
      simp only [Rel] at hp
      obtain ⟨e, he, hn, hk, rfl⟩ := hp
      obtain ⟨h1, h2, _⟩ := h.at' ho he
      obtain ⟨ys, g1, g2⟩ := seq_row h ho he hn (k := k) (by omega)
      obtain ⟨y, hy, hr⟩ := rowLoad_sound (P := P) (w := w) hl g1 g2
      exact ⟨y, by simp [Instr.loadAt, Instr.sureAddr, hy], hr⟩
    · cases hl
  · rename_i r row j
    simp only [Rel] at hp
    obtain ⟨b, off, arr, ys, rfl, h1, h2, h3⟩ := hp
    obtain ⟨y, hy, hr⟩ := rowLoad_sound (P := P) (w := w) (b := b) (off := off) hl h3 fun i y hy => fz_cell h h1 (h2 i y hy)
    exact ⟨y, by simp [Instr.loadAt, Instr.sureAddr, hy], hr⟩
  · cases hl

theorem xFieldAddr_sound {s : TypeId} {p v : AV} {x : Value} {f : Nat} (hp : Rel ρ p x) (h : xFieldAddr P s p f = some v) : ∃ y, (Instr.fieldAt s x f).run P w = .ok y w ∧ Rel ρ v y := by
  unfold xFieldAddr at h
  simp only [Option.bind_eq_some_iff] at h
  obtain ⟨d, hu, h⟩ := h
  split at h
  · simp only [Option.bind_eq_some_iff] at h
    obtain ⟨fd, hf, inf, hi, h⟩ := h
    cases hb : Nat.beq inf.size 0 with
    | true => rw [hb] at h; cases h
    | false =>
      rw [hb, cond_false] at h
      have hne : inf.size ≠ 0 := Nat.ne_of_beq_eq_false hb
      have hrun : ∀ b o, (Instr.fieldAt s (.pointer (some ⟨b, o, none⟩)) f).run P w = .ok (.pointer (some ⟨b, o + fd.offset, none⟩)) w := fun b o => by
        simp [Instr.fieldAt, run_underlying hu, hf, Instr.sureAddr, fieldPlace, sizeOf_run hi, hne, addr_add]
      split at h
      · cases h
        simp only [Rel] at hp ⊢
        obtain ⟨e, he, hn, hk, rfl⟩ := hp
        exact ⟨_, hrun _ _, e, he, hn, hk, by rw [Nat.add_assoc]⟩
      · cases h
        simp only [Rel] at hp ⊢
        obtain ⟨b, off, arr, ys, rfl, h1⟩ := hp
        exact ⟨_, hrun _ _, b, off, arr, ys, by rw [Nat.add_assoc], h1⟩
      · cases h
  · cases h

theorem int_toNat {n : Int} (h : 0 ≤ n) : ((n.toNat : Nat) : Int) = n := Int.toNat_of_nonneg h

theorem xIndexAddr_sound (h : HR B ρ H w) {t : TypeId} {p ix v : AV} {q : Option Prop} {x y : Value} (hp : Rel ρ p x) (hx : Rel ρ ix y) (hl : xIndexAddr P H t p ix = some (q, v)) (hq : obOk q) :
    ∃ z, (Instr.indexAt t x y).run P w = .ok z w ∧ Rel ρ v z := by
  unfold xIndexAddr at hl
  simp only [Option.bind_eq_some_iff] at hl
  obtain ⟨u, hu, ⟨kd, n⟩, hn, hl⟩ := hl
  obtain ⟨rfl, _⟩ := asX_sound hn hx
  split at hl
  · rename_i e i
    split at hl
    · rename_i r rows ty ho
      simp only [Option.bind_eq_some_iff] at hl
      obtain ⟨inf, hi, hl⟩ := hl
      cases hb : Nat.beq inf.size r.size with
      | false => rw [hb] at hl; cases hl
      | true =>
        rw [hb, cond_true] at hl
        cases hl
        have hsz := Nat.eq_of_beq_eq_true hb
        obtain ⟨q1, q2⟩ : 0 ≤ n ∧ n < (rows.length : Nat) := hq
        simp only [Rel] at hp ⊢
        obtain ⟨a, base, c, ha, rfl, k1, k2, k3⟩ := hp
        obtain ⟨h1, h2, h3⟩ := h.at' ho ha
        have hlt : n.toNat < a.len := by omega
        rcases k3 with ⟨_, hc⟩ | ⟨_, _, _, hc⟩ | ⟨hnb, rfl, hc⟩
        · omega
        · omega
        · refine ⟨.pointer (some ⟨a.b, a.sh + n.toNat * inf.size, none⟩), ?_, a, ha, hnb, hlt, by rw [h1, hsz]; rfl⟩
          have hin : (0 : Int) ≤ n ∧ n < (a.len : Int) := ⟨q1, by omega⟩
          simp [Instr.indexAt, run_underlying hu, asIntOf, hin.1, hin.2, sizeOf_run hi, addr_add]
    · cases hl
  · rename_i e i lo len
    split at hl
    · rename_i r rows ty ho
      simp only [Option.bind_eq_some_iff] at hl
      obtain ⟨inf, hi, hl⟩ := hl
      cases hb : Nat.beq inf.size r.size with
      | false => rw [hb] at hl; cases hl
      | true =>
        rw [hb, cond_true] at hl
        cases hl
        have hsz := Nat.eq_of_beq_eq_true hb
        obtain ⟨q1, q2⟩ : 0 ≤ n ∧ n < (len : Nat) := hq
        simp only [Rel] at hp ⊢
        obtain ⟨a, base, c, ha, rfl, k1, k2, kk, k3⟩ := hp
        obtain ⟨h1, h2, h3⟩ := h.at' ho ha
        rcases k3 with ⟨_, hc⟩ | ⟨_, _, _, hc⟩ | ⟨hnb, rfl, hc⟩
        · omega
        · omega
        · refine ⟨.pointer (some ⟨a.b, a.sh + lo * a.es + n.toNat * inf.size, none⟩), ?_, a, ha, hnb, by omega, by rw [h1, hsz, Nat.add_mul]; simp [Nat.add_assoc]⟩
          simp [Instr.indexAt, run_underlying hu, asIntOf, q1, q2, sizeOf_run hi, addr_add]
    · cases hl
  · rename_i e r rows
    simp only [Option.bind_eq_some_iff] at hl
    obtain ⟨inf, hi, hl⟩ := hl
    cases hb : Nat.beq inf.size r.size with
    | false => rw [hb] at hl; cases hl
    | true =>
      rw [hb, cond_true] at hl
      cases hl
      have hsz := Nat.eq_of_beq_eq_true hb
      obtain ⟨q1, q2⟩ : 0 ≤ n ∧ n < (rows.length : Nat) := hq
      simp only [Rel, CTy.Rd] at hp ⊢
      obtain ⟨base, cap, rfl, k1, k2, k3, k5⟩ := hp
      have hlt : n.toNat < rows.length := by omega
      obtain ⟨b, off, arr, ys, rfl, g1, g2, g3⟩ := k5 n.toNat _ (rowAt_get hlt)
      refine ⟨.pointer (some ⟨b, off + n.toNat * inf.size, none⟩), ?_, b, off + n.toNat * r.size, arr, ys, by rw [hsz]; rfl, g1, g2, g3⟩
      have q2' : n < ((List.length (α := r.den) rows : Nat) : Int) := q2
      simp [Instr.indexAt, run_underlying hu, asIntOf, q1, q2', sizeOf_run hi, addr_add]
  · rename_i m e i k j
    split at hl
    · rename_i kd' q'
      cases hb : Nat.blt q' m with
      | false => rw [hb] at hl; cases hl
      | true =>
        rw [hb, cond_true] at hl
        simp only [Option.map_eq_some_iff] at hl
        obtain ⟨inf, hi, hl⟩ := hl
        cases hl
        have hlt : q' < m := by simpa [Nat.blt_eq] using hb
        simp only [AV.asX] at hn
        have hnn : n = (q' : Int) := by
          cases hh : hasB kd' (Int.ofNat q') with
          | false => rw [hh] at hn; cases hn
          | true => rw [hh] at hn; cases hn; rfl
        subst hnn
        simp only [Rel] at hp ⊢
        obtain ⟨a, ha, hnb, hk, rfl⟩ := hp
        refine ⟨_, ?_, a, ha, hnb, hk, rfl⟩
        simp [Instr.indexAt, run_underlying hu, asIntOf, hlt, sizeOf_run hi, addr_add, Instr.sureAddr, Nat.add_assoc]
    · cases hl
  · rename_i m e r row j
    split at hl
    · rename_i kd' q'
      cases hb : Nat.blt q' m with
      | false => rw [hb] at hl; cases hl
      | true =>
        rw [hb, cond_true] at hl
        simp only [Option.map_eq_some_iff] at hl
        obtain ⟨inf, hi, hl⟩ := hl
        cases hl
        have hlt : q' < m := by simpa [Nat.blt_eq] using hb
        simp only [AV.asX] at hn
        have hnn : n = (q' : Int) := by
          cases hh : hasB kd' (Int.ofNat q') with
          | false => rw [hh] at hn; cases hn
          | true => rw [hh] at hn; cases hn; rfl
        subst hnn
        simp only [Rel] at hp ⊢
        obtain ⟨b, off, arr, ys, rfl, g⟩ := hp
        refine ⟨_, ?_, b, off, arr, ys, rfl, g⟩
        simp [Instr.indexAt, run_underlying hu, asIntOf, hlt, sizeOf_run hi, addr_add, Instr.sureAddr, Nat.add_assoc]
    · cases hl
  · cases hl

theorem xIndex_sound {t : TypeId} {p ix v : AV} {q : Option Prop} {x y : Value} (hp : Rel ρ p x) (hx : Rel ρ ix y) (hl : xIndex P t p ix = some (q, v)) (hq : obOk q) :
    ∃ z, (Instr.index t x y).run P w = .ok z w ∧ Rel ρ v z := by
  unfold xIndex at hl
  simp only [Option.bind_eq_some_iff] at hl
  obtain ⟨u, hu, hl⟩ := hl
  split at hl
  · simp only [Option.bind_eq_some_iff, Option.map_eq_some_iff] at hl
    obtain ⟨s, h1, ⟨kd, n⟩, h2, hl⟩ := hl
    cases hl
    obtain ⟨rfl, _⟩ := asS_sound h1 hp
    obtain ⟨rfl, _⟩ := asX_sound h2 hx
    obtain ⟨q1, q2⟩ : 0 ≤ n ∧ n < (s.length : Nat) := hq
    have hlt : n.toNat < s.length := by omega
    have hget : (⟨s.toArray⟩ : ByteArray)[n.toNat]? = some (s.getD n.toNat 0) := by
      rw [getElem?_pos (⟨s.toArray⟩ : ByteArray) n.toNat (by simpa [ByteArray.size] using hlt)]
      rw [List.getD_eq_getElem?_getD, List.getElem?_eq_getElem hlt]
      rfl
    refine ⟨.int .u8 ((s.getD n.toNat 0).toNat : Int), ?_, by
      simp only [Rel]
      have := (s.getD n.toNat 0).toNat_lt
      refine ⟨trivial, ?_⟩
      generalize (s.getD n.toNat 0).toNat = q at this ⊢
      simp only [IntKind.has, IntKind.min, IntKind.max, IntKind.bits, IntKind.signed]
      simp; omega⟩
    simp only [Instr.index, asIntOf, Sem.run_bind, Sem.run_pure, Result.andThen_ok, run_underlying hu, q1, if_true, hget]
  · cases hl

theorem xMinMax_sound {mx : Bool} {xs : List AV} {v : AV} {ys : List Value} (hr : RelL ρ xs ys) (h : xMinMax mx xs = some v) (ts : Array TypeId) (ty : TypeId) :
    ∃ z, ((bif mx then Builtin.max_ ts ty ys.toArray else Builtin.min_ ts ty ys.toArray) : Sem Value).run P w = .ok z w ∧ Rel ρ v z := by
  unfold xMinMax at h
  split at h
  · rename_i a b
    simp only [Option.bind_eq_some_iff] at h
    obtain ⟨⟨k1, m⟩, h1, ⟨k2, n⟩, h2, h⟩ := h
    simp only [RelL] at hr
    obtain ⟨x, _, rfl, hx, y, _, rfl, hy, rfl⟩ := hr
    obtain ⟨rfl, g1⟩ := asX_sound h1 hx
    obtain ⟨rfl, g2⟩ := asX_sound h2 hy
    cases hk : decide (k1 = k2) with
    | false => simp only [hk] at h; cases h
    | true =>
      simp only [hk, cond_true, Option.some.injEq] at h
      have hk := of_decide_eq_true hk
      subst hk
      subst h
      cases mx with
      | true =>
        refine ⟨.int k1 (max m n), ?_, ?_⟩
        · simp only [cond_true, Builtin.max_, List.foldlM, Builtin.max2, Sem.run_bind, Sem.run_pure, Result.andThen_ok]
          congr 2
          split <;> omega
        · simp only [Rel, cond_true]
          refine ⟨trivial, ?_⟩
          rcases Int.le_total m n with hh | hh
          · rw [Int.max_eq_right hh]; exact g2
          · rw [Int.max_eq_left hh]; exact g1
      | false =>
        refine ⟨.int k1 (min m n), ?_, ?_⟩
        · simp only [cond_false, Builtin.min_, List.foldlM, Builtin.min2, Sem.run_bind, Sem.run_pure, Result.andThen_ok]
          congr 2
          split <;> omega
        · simp only [Rel, cond_false]
          refine ⟨trivial, ?_⟩
          rcases Int.le_total m n with hh | hh
          · rw [Int.min_eq_left hh]; exact g1
          · rw [Int.min_eq_right hh]; exact g2
  · cases h
end
end Go.AM
set_option linter.unusedSimpArgs false
set_option linter.unusedVariables false
namespace Go.AM
open Go.RowKit
section
variable {B : Nat} {ρ : Env} {H : Heap} {w : World} {P : Program}

theorem i64_has {n : Nat} (h : n ≤ maxI) : IntKind.i64.has (n : Int) := by
  unfold maxI at h
  simp only [IntKind.has, IntKind.min, IntKind.max, IntKind.bits, IntKind.signed]
  simp; omega

theorem xLen_sound (h : HR B ρ H w) {t ty : TypeId} {rest : List TypeId} {x v : AV} {p : Option Prop} {y : Value} (hx : Rel ρ x y) (hc : xLen P H t x = some (p, v)) (hp : obOk p) :
    ∃ z, (Builtin.len_ (t :: rest).toArray ty #[y]).run P w = .ok z w ∧ Rel ρ v z := by
  unfold xLen at hc
  simp only [Option.bind_eq_some_iff] at hc
  obtain ⟨u, hu, hc⟩ := hc
  split at hc
  · rename_i s
    cases hc
    simp only [Rel] at hx; obtain ⟨rfl, hl⟩ := hx
    have hsz : (⟨s.toArray⟩ : ByteArray).size = s.length := by simp [ByteArray.size]
    exact ⟨goInt s.length, by simp [Builtin.len_, run_underlying hu, hsz], by simp only [Rel, goInt]; exact ⟨trivial, i64_has hl⟩⟩
  · rename_i e r rows
    cases hc
    simp only [Rel, CTy.Rd] at hx
    obtain ⟨base, cap, rfl, _, h3, _⟩ := hx
    exact ⟨goInt (List.length rows), by simp [Builtin.len_, run_underlying hu], by simp only [Rel, goInt]; exact ⟨trivial, i64_has h3⟩⟩
  · rename_i e i lo len
    cases hc
    simp only [Rel] at hx
    obtain ⟨a, base, c, _, rfl, _, h3, _⟩ := hx
    exact ⟨goInt len, by simp [Builtin.len_, run_underlying hu], by simp only [Rel, goInt]; exact ⟨trivial, i64_has h3⟩⟩
  · rename_i e i
    split at hc
    · rename_i r rows ty' ho
      cases hc
      simp only [Rel] at hx
      obtain ⟨a, base, c, ha, rfl, _, h3, _⟩ := hx
      obtain ⟨h1, h2, _⟩ := h.at' ho ha
      exact ⟨goInt a.len, by simp [Builtin.len_, run_underlying hu], by simp only [Rel, goInt]; rw [h2]; exact ⟨rfl, i64_has h3⟩⟩
    · cases hc
  · rename_i kt et i
    split at hc
    · rename_i ka va kr vr m bs clk ho
      cases hc
      simp only [Rel] at hx
      obtain ⟨a, ha, rfl⟩ := hx
      obtain ⟨h1, h2, h3, arr, h4, h5, hb, h7, _⟩ := h.at' ho ha
      have hl : arr.size = m.length := by rw [h7]; simp
      exact ⟨goInt arr.size, by simp [Builtin.len_, run_underlying hu, run_getObj_map h4], by simp only [Rel, goInt]; rw [hl]; exact ⟨rfl, i64_has hp⟩⟩
    · cases hc
  · cases hc

theorem xBnd_sound {o : Option AV} {l : Option Int} (h : xBnd o = some l) {o' : Option Value} (hr : RelO ρ o o') : (l = none ∧ o' = none) ∨ ∃ k n, l = some n ∧ o' = some (.int k n) := by
  unfold xBnd at h
  split at h
  · cases h; simp only [RelO] at hr; exact .inl ⟨rfl, hr⟩
  · rename_i v
    simp only [Option.map_eq_some_iff] at h
    obtain ⟨⟨k, n⟩, h1, rfl⟩ := h
    obtain ⟨y, rfl, hy⟩ := hr
    obtain ⟨rfl, _⟩ := asX_sound h1 hy
    exact .inr ⟨k, n, rfl, rfl⟩

theorem sliceBound_int {k : IntKind} {n : Int} {m : Nat} {code : BoundsCode} (h0 : 0 ≤ n) (h1 : n ≤ m) : (Instr.sliceBound (.int k n) m code).run P w = .ok n.toNat w := by
  simp [Instr.sliceBound, asIntOf, h0, h1]

theorem sliceBounds_x {isS : Bool} {len c : Nat} {lo hi : Option AV} {l h : Option Int} {lo' hi' : Option Value} (hl : xBnd lo = some l) (hh : xBnd hi = some h) (hlo : RelO ρ lo lo') (hhi : RelO ρ hi hi') (hb : bndP l h len) (hc : len ≤ c) :
    (Instr.sliceBounds isS len c lo' hi' none).run P w = .ok (loT l, hiT len h, c) w ∧ loT l ≤ hiT len h ∧ hiT len h ≤ len := by
  rcases xBnd_sound hl hlo with ⟨rfl, rfl⟩ | ⟨k1, n1, rfl, rfl⟩ <;> rcases xBnd_sound hh hhi with ⟨rfl, rfl⟩ | ⟨k2, n2, rfl, rfl⟩
  · exact ⟨by simp [Instr.sliceBounds, loT, hiT], by simp [loT], by simp [hiT]⟩
  · obtain ⟨b1, b2⟩ := hb
    refine ⟨?_, by simp [loT], by simp only [hiT]; omega⟩
    simp [Instr.sliceBounds, sliceBound_int (P := P) (w := w) b1 (show n2 ≤ (c : Nat) by omega), loT, hiT]
  · obtain ⟨b1, b2⟩ := hb
    refine ⟨?_, by simp only [loT, hiT]; omega, by simp [hiT]⟩
    simp [Instr.sliceBounds, sliceBound_int (P := P) (w := w) b1 b2, loT, hiT]
  · obtain ⟨b1, b2, b3⟩ := hb
    refine ⟨?_, by simp only [loT, hiT]; omega, by simp only [hiT]; omega⟩
    simp [Instr.sliceBounds, sliceBound_int (P := P) (w := w) (show 0 ≤ n2 by omega) (show n2 ≤ (c : Nat) by omega), sliceBound_int (P := P) (w := w) (m := n2.toNat) b1 (show n1 ≤ (n2.toNat : Nat) by omega), loT, hiT]

theorem pieceT_eq {α : Type} (l : List α) (a b : Option Int) : pieceT l a b = (l.take (hiT l.length b)).drop (loT a) := by
  cases a <;> cases b <;> simp [pieceT, hiT, loT]

theorem xSlice_sound (hH : HR B ρ H w) {t : TypeId} {p v : AV} {q : Option Prop} {x : Value} {lo hi mx : Option AV} {lo' hi' mx' : Option Value} (hp : Rel ρ p x) (hlo : RelO ρ lo lo') (hhi : RelO ρ hi hi') (hmx : RelO ρ mx mx')
    (h : xSlice P H t p lo hi mx = some (q, v)) (hq : obOk q) : ∃ y, (Instr.sliceAt t x lo' hi' mx').run P w = .ok y w ∧ Rel ρ v y := by
  unfold xSlice at h
  split at h
  · cases h
  · simp only [RelO] at hmx; subst hmx
    simp only [Option.bind_eq_some_iff] at h
    obtain ⟨u, hu, l, hl, k, hk, h⟩ := h
    split at h
    · simp only [Option.map_eq_some_iff] at h
      obtain ⟨s, hs, h⟩ := h
      cases h
      obtain ⟨rfl, hsl⟩ := asS_sound hs hp
      have hsz : (⟨s.toArray⟩ : ByteArray).size = s.length := by simp [ByteArray.size]
      obtain ⟨g1, g2, g3⟩ := sliceBounds_x (P := P) (w := w) (isS := false) hl hk hlo hhi hq (Nat.le_refl _)
      refine ⟨.string ⟨(pieceT s l k).toArray⟩, ?_, by simp only [Rel]; exact ⟨trivial, by rw [pieceT_eq]; simp; omega⟩⟩
      rw [pieceT_eq]
      simp [Instr.sliceAt, run_underlying hu, Instr.slice, hsz, g1, extract_str]
    · rename_i e
      simp only [Option.bind_eq_some_iff] at h
      obtain ⟨inf, hi0, h⟩ := h
      have hrun : ∀ (base : Option Addr) (len c : Nat), bndP l k len → len ≤ c → (Instr.sliceAt t (.slice base len c) lo' hi' none).run P w =
          .ok (.slice (if c = loT l then base else base.map (·.add (loT l * inf.size))) (hiT len k - loT l) (c - loT l)) w ∧ loT l ≤ hiT len k ∧ hiT len k ≤ len := fun base len c hb hc => by
        obtain ⟨g1, g2, g3⟩ := sliceBounds_x (P := P) (w := w) (isS := true) hl hk hlo hhi hb hc
        exact ⟨by simp [Instr.sliceAt, run_underlying hu, Instr.slice, g1, sizeOf_run hi0], g2, g3⟩
      -- a piece of rows that are somewhere
      have part : ∀ {i lo0 len0 : Nat} {r : RTy} {rows : List r.den} {ty : Option TypeId} {a : At} {base : Option Addr} {c : Nat}, H.get i = some (.seq r rows ty) → ρ.ats[i]? = some a → inf.size = r.size → len0 ≤ c → len0 ≤ maxI → lo0 + len0 ≤ a.len →
          ((base = none ∧ c = 0) ∨ (∃ a, base = some a ∧ a.spot = none ∧ c = 0) ∨ (a.nb = false ∧ base = some ⟨a.b, a.sh + lo0 * a.es, none⟩ ∧ a.sh + lo0 * a.es + c * a.es ≤ a.n)) → bndP l k len0 →
          ∃ y, (Instr.sliceAt t (.slice base len0 c) lo' hi' none).run P w = .ok y w ∧ Rel ρ (.ss i (lo0 + loT l) (hiT len0 k - loT l)) y := by
        intro i lo0 len0 r rows ty a base c ho ha hsz k1 k2 k3 k4 hb
        obtain ⟨g1, g2, g3⟩ := hrun base len0 c hb k1
        refine ⟨_, g1, ?_⟩
        simp only [Rel]
        refine ⟨a, _, _, ha, rfl, by omega, by omega, by omega, ?_⟩
        have h1 := (hH.at' ho ha).1
        rcases k4 with ⟨rfl, rfl⟩ | ⟨b, rfl, hb1, rfl⟩ | ⟨hnb, rfl, hn⟩
        · exact .inl ⟨by split <;> rfl, by omega⟩
        · refine .inr (.inl ⟨b, ?_, hb1, by omega⟩)
          rw [if_pos (by omega)]
        · by_cases hcl : c = loT l
          · rw [if_pos hcl]
            exact .inr (.inl ⟨_, rfl, rfl, by omega⟩)
          · rw [if_neg hcl]
            refine .inr (.inr ⟨hnb, ?_, ?_⟩)
            · simp only [Option.map_some, addr_add, hsz, h1, Nat.add_mul, Nat.add_assoc]
            · rw [Nat.add_mul]
              have : loT l * a.es + (c - loT l) * a.es = c * a.es := by rw [← Nat.add_mul]; congr 1; omega
              omega
      split at h
      · rename_i i
        split at h
        · rename_i r rows ty ho
          cases hb : Nat.beq inf.size r.size with
          | false => rw [hb] at h; cases h
          | true =>
            rw [hb, cond_true] at h
            have hsz := Nat.eq_of_beq_eq_true hb
            simp only [Option.some.injEq, Prod.mk.injEq] at h
            obtain ⟨rfl, h⟩ := h
            simp only [Rel] at hp
            obtain ⟨a, base, c, ha, rfl, k1, k2, k3⟩ := hp
            obtain ⟨h1, h2, h3⟩ := hH.at' ho ha
            have hq' : bndP l k a.len := by rw [← h2]; exact hq
            split at h
            · rename_i hl0 hk0
              subst h
              refine ⟨.slice base a.len c, ?_, by simp only [Rel]; exact ⟨a, base, c, ha, rfl, k1, k2, k3⟩⟩
              obtain ⟨g1, _⟩ := hrun base a.len c hq' k1
              rw [g1]
              simp only [loT, hiT, Nat.sub_zero, Nat.zero_mul]
              congr 2
              split
              · rfl
              · cases base <;> simp [Addr.add]
            · subst h
              have := part (lo0 := 0) ho ha hsz k1 k2 (by omega) (by simpa using k3) hq'
              rw [Nat.zero_add] at this
              rw [h2]
              exact this
        · cases h
      · rename_i i lo0 len0
        split at h
        · rename_i r rows ty ho
          cases hb : Nat.beq inf.size r.size with
          | false => rw [hb] at h; cases h
          | true =>
            rw [hb, cond_true] at h
            have hsz := Nat.eq_of_beq_eq_true hb
            simp only [Option.some.injEq, Prod.mk.injEq] at h
            obtain ⟨rfl, rfl⟩ := h
            simp only [Rel] at hp
            obtain ⟨a, base, c, ha, rfl, k1, k2, kk, k3⟩ := hp
            exact part ho ha hsz k1 k2 kk k3 hq
        · cases h
      · rename_i r rows
        cases hb : Nat.beq inf.size r.size with
        | false => rw [hb] at h; cases h
        | true =>
          rw [hb, cond_true] at h
          have hsz := Nat.eq_of_beq_eq_true hb
          simp only [Option.some.injEq, Prod.mk.injEq] at h
          obtain ⟨rfl, rfl⟩ := h
          simp only [Rel, CTy.Rd] at hp ⊢
          obtain ⟨base, cap, rfl, k1, k2, k3, k5⟩ := hp
          have hq' : bndP l k (List.length (α := r.den) rows) := hq
          obtain ⟨g1, g2, g3⟩ := hrun base _ cap hq' k1
          have hlen : List.length (α := r.den) (pieceT rows l k) = hiT (List.length (α := r.den) rows) k - loT l := by rw [pieceT_eq]; simp; omega
          refine ⟨_, g1, _, _, by rw [hlen], by omega, by omega, ?_, ?_⟩
          · intro hbn
            by_cases hcl : cap = loT l
            · omega
            · rw [if_neg hcl] at hbn
              simp only [Option.map_eq_none_iff] at hbn
              have := k3 hbn; omega
          · intro j row hj
            have hj' : j < hiT (List.length (α := r.den) rows) k - loT l := by rw [← hlen]; exact (List.getElem?_eq_some_iff.1 hj).1
            have hjr : (show List r.den from rows)[loT l + j]? = some row := by
              have : (show List r.den from pieceT rows l k)[j]? = some row := hj
              rw [pieceT_eq, List.getElem?_drop, List.getElem?_take_of_lt (by omega)] at this
              exact this
            obtain ⟨b, off, arr, ys, rfl, m1, m2, m3⟩ := k5 _ row hjr
            rw [if_neg (by omega)]
            refine ⟨b, off + loT l * inf.size, arr, ys, by simp [addr_add], m1, fun i y hy => ?_, m3⟩
            have := m2 i y hy
            rw [← this]; congr 1
            rw [Nat.add_mul, hsz]; omega
      · cases h
    · cases h
end
end Go.AM
set_option linter.unusedSimpArgs false
set_option linter.unusedVariables false
namespace Go.AM
open Go.RowKit
section
variable {B : Nat} {ρ : Env} {H : Heap} {w : World} {P : Program}

theorem castRows_rfl {r : RTy} (h : r = r) (rows : List r.den) : castRows h rows = rows := rfl

theorem CTy.dec_sound : ∀ {c : CTy} {v : AV} {d : c.den}, c.dec v = some d → ∀ {x : Value}, Rel ρ v x → CTy.Rd ρ.fz c d x := by
  intro c v d h x hr
  cases c with
  | int k =>
    simp only [CTy.dec] at h
    split at h
    · rename_i k' n hx
      cases hb : decide (k' = k) with
      | false => rw [hb] at h; cases h
      | true =>
        rw [hb] at h; cases h
        obtain rfl := of_decide_eq_true hb
        simp only [CTy.Rd]
        exact asX_sound hx hr
    · cases h
  | boo => simp only [CTy.dec] at h; simp only [CTy.Rd]; exact asB_sound h hr
  | txt => simp only [CTy.dec] at h; simp only [CTy.Rd]; exact asS_sound h hr
  | sl r =>
    simp only [CTy.dec] at h
    split at h
    · cases h
      simp only [Rel] at hr; subst hr
      simp only [CTy.Rd]
      exact ⟨none, 0, rfl, Nat.le_refl _, Nat.zero_le _, fun _ => rfl, fun k row hk => by cases hk⟩
    · rename_i r' rows
      split at h
      · rename_i hs
        cases h
        have e := RTy.same_eq hs
        subst e
        simp only [Rel] at hr
        exact hr
      · cases h
    · cases h

theorem RTy.dec_one {c : CTy} {vs : List AV} {d : (RTy.one c).den} (h : (RTy.one c).dec vs = some d) : ∃ v, vs = [v] ∧ c.dec v = some d := by
  cases vs with
  | nil =>
    have e : (RTy.one c).dec [] = none := rfl
    exact absurd (e.symm.trans h).symm (Option.some_ne_none _)
  | cons v vs =>
    cases vs with
    | nil => exact ⟨v, rfl, h⟩
    | cons v' vs' =>
      have e : (RTy.one c).dec (v :: v' :: vs') = none := rfl
      exact absurd (e.symm.trans h).symm (Option.some_ne_none _)

theorem RTy.dec_cons_nil (c : CTy) (r : RTy) : (RTy.cons c r).dec [] = none := rfl
theorem RTy.dec_cons_cons (c : CTy) (r : RTy) (v : AV) (vs : List AV) : (RTy.cons c r).dec (v :: vs) = match c.dec v with
    | some x => match RTy.dec r vs with
      | some y => some (x, y)
      | none => none
    | none => none := rfl

theorem RTy.dec_cons {c : CTy} {r : RTy} {vs : List AV} {d : (RTy.cons c r).den} (h : (RTy.cons c r).dec vs = some d) : ∃ v vs' a b, vs = v :: vs' ∧ c.dec v = some a ∧ r.dec vs' = some b ∧ d = (a, b) := by
  match vs, h with
  | [], h => rw [RTy.dec_cons_nil] at h; exact absurd h.symm (Option.some_ne_none _)
  | v :: vs, h =>
    rw [RTy.dec_cons_cons] at h
    cases ha : c.dec v with
    | none => rw [ha] at h; exact absurd h.symm (Option.some_ne_none _)
    | some a =>
      cases hb : r.dec vs with
      | none => rw [ha, hb] at h; exact absurd h.symm (Option.some_ne_none _)
      | some b => rw [ha, hb] at h; exact ⟨v, vs, a, b, rfl, ha, hb, (Option.some.inj h).symm⟩

theorem RTy.dec_sound (r : RTy) : ∀ {vs : List AV} {d : r.den}, r.dec vs = some d → ∀ {xs : List Value}, RelL ρ vs xs → RTy.Rd ρ.fz r d xs := by
  refine RTy.rec (motive_1 := fun _ => True) (motive_2 := fun r => ∀ {vs : List AV} {d : r.den}, r.dec vs = some d → ∀ {xs : List Value}, RelL ρ vs xs → RTy.Rd ρ.fz r d xs) (fun _ => trivial) trivial trivial (fun _ _ => trivial) ?_ ?_ r
  · intro c _ vs d h xs hr
    obtain ⟨v, rfl, h⟩ := RTy.dec_one h
    simp only [RelL] at hr
    obtain ⟨y, ys, rfl, h1, h2⟩ := hr
    subst h2
    simp only [RTy.Rd]
    exact ⟨y, rfl, CTy.dec_sound h h1⟩
  · intro c r _ ih vs d h xs hr
    obtain ⟨v, vs', a, b, rfl, h1, h2, rfl⟩ := RTy.dec_cons h
    simp only [RelL] at hr
    obtain ⟨y, ys, rfl, k1, k2⟩ := hr
    simp only [RTy.Rd]
    exact ⟨y, ys, rfl, CTy.dec_sound h1 k1, ih h2 k2⟩

theorem RTy.dec_length (r : RTy) : ∀ {vs : List AV} {d : r.den}, r.dec vs = some d → vs.length = r.size := by
  refine RTy.rec (motive_1 := fun _ => True) (motive_2 := fun r => ∀ {vs : List AV} {d : r.den}, r.dec vs = some d → vs.length = r.size) (fun _ => trivial) trivial trivial (fun _ _ => trivial) ?_ ?_ r
  · intro c _ vs d h
    obtain ⟨v, rfl, h⟩ := RTy.dec_one h
    rfl
  · intro c r _ ih vs d h
    obtain ⟨v, vs', a, b, rfl, h1, h2, rfl⟩ := RTy.dec_cons h
    simp [RTy.size, ih h2]

theorem RTy.decs_sound {r : RTy} (n : Nat) : ∀ {cs : List AV} {rows : List r.den}, r.decs n cs = some rows → rows.length = n ∧ cs.length = n * r.size ∧ ∀ {ρ : Env} {xs : List Value}, RelL ρ cs xs →
    ∀ (k : Nat) (row : r.den), rows[k]? = some row → RTy.Rd ρ.fz r row ((xs.drop (k * r.size)).take r.size) := by
  induction n with
  | zero =>
    intro cs rows h
    cases cs with
    | nil =>
      have e : r.decs 0 [] = some [] := rfl
      (rw [e] at h); obtain rfl := (Option.some.inj h); exact ⟨rfl, by simp, fun _ k row hk => by simp at hk⟩
    | cons a l =>
      have e : r.decs 0 (a :: l) = none := rfl
      exact absurd (e.symm.trans h).symm (Option.some_ne_none _)
  | succ n ih =>
    intro cs rows h
    unfold RTy.decs at h
    split at h
    · rename_i a ha
      split at h
      · rename_i b hb
        cases h
        obtain ⟨h1, h2, h3⟩ := ih hb
        have hlen := RTy.dec_length r ha
        have hsz : r.size ≤ cs.length := by rw [List.length_take] at hlen; omega
        refine ⟨by simp [h1], ?_, fun {ρ xs} hr k row hk => ?_⟩
        · rw [List.length_drop] at h2; rw [Nat.add_mul]; omega
        · cases k with
          | zero =>
            simp at hk; subst hk
            simp only [Nat.zero_mul, List.drop_zero]
            exact RTy.dec_sound r ha (hr.take r.size)
          | succ k =>
            simp at hk
            have := h3 (hr.drop r.size) k row hk
            rw [List.drop_drop] at this
            rw [show (k + 1) * r.size = r.size + k * r.size by rw [Nat.add_mul]; omega]
            exact this
      · cases h
    · cases h

/-- Rows, as a run of cells. -/
structure Cells (ρ : Env) (r : RTy) (rows : List r.den) (cs : List Value) : Prop where
  len : cs.length = rows.length * r.size
  row : ∀ (k : Nat) (row : r.den), rows[k]? = some row → RTy.Rd ρ.fz r row ((cs.drop (k * r.size)).take r.size)

theorem Cells.get {r : RTy} {rows : List r.den} {cs : List Value} (h : Cells ρ r rows cs) {k : Nat} {row : r.den} (hk : rows[k]? = some row) :
    ∃ ys, (∀ (j : Nat) (y : Value), ys[j]? = some y → cs[k * r.size + j]? = some y) ∧ RTy.Rd ρ.fz r row ys := by
  refine ⟨_, fun j y hy => ?_, h.row k row hk⟩
  have hj : j < r.size := by have := (List.getElem?_eq_some_iff.1 hy).1; simp at this; omega
  rw [List.getElem?_take_of_lt hj, List.getElem?_drop] at hy
  exact hy

theorem Cells.append {r : RTy} {a b : List r.den} {xs ys : List Value} (h : Cells ρ r a xs) (k : Cells ρ r b ys) : Cells ρ r (a ++ b) (xs ++ ys) := by
  refine ⟨by simp [h.len, k.len, Nat.add_mul], fun i row hi => ?_⟩
  by_cases hlt : i < a.length
  · rw [List.getElem?_append_left hlt] at hi
    have := h.row i row hi
    have hmul : i * r.size + r.size ≤ a.length * r.size := by
      have : (i + 1) * r.size ≤ a.length * r.size := Nat.mul_le_mul_right _ hlt
      rw [Nat.add_mul] at this; omega
    rw [List.drop_append_of_le_length (by rw [h.len]; omega), List.take_append_of_le_length (by simp [h.len]; omega)]
    exact this
  · rw [List.getElem?_append_right (by omega)] at hi
    have := k.row _ row hi
    have hmul : i * r.size = a.length * r.size + (i - a.length) * r.size := by rw [← Nat.add_mul]; congr 1; omega
    rw [hmul, ← h.len, ← List.drop_drop, List.drop_left]
    exact this

/-- What a slice of rows has, cell by cell. -/
structure SrcOk (ρ : Env) (P : Program) (w : World) (r : RTy) (rows : List r.den) (es : Nat) (y : Value) : Prop where
  lenOf : (Builtin.lenOf y).run P w = .ok rows.length w
  cells : ∃ cs : List Value, Cells ρ r rows cs ∧ (Builtin.firstCells es rows.length y).run P w = .ok cs.toArray w
  again : ∀ w' : World, w'.heap = w.heap → ∀ cs, (Builtin.firstCells es rows.length y).run P w = .ok cs w → (Builtin.firstCells es rows.length y).run P w' = .ok cs w'

theorem loadCells_again {w' : World} (hw : w'.heap = w.heap) {a : Addr} {n : Nat} {cs : List Value} (hs : a.spot = none) (hc : cs.length = n) (h : ∀ (j : Nat) (x : Value), cs[j]? = some x → w.cell? ⟨a.block, a.off + j, none⟩ = some x) : (loadCells a n).run P w' = .ok cs.toArray w' := by
  obtain ⟨b, o, s⟩ := a
  simp only at hs; subst hs
  refine run_loadCells_at hc fun j x hx => ?_
  have := h j x hx
  simp only [World.cell?] at this ⊢
  rw [hw]; exact this

/-- Rows that lie in a block, one behind the other. -/
theorem rows_cells {r : RTy} {rows : List r.den} {b off : Nat} (h : ∀ (k : Nat) (row : r.den), rows[k]? = some row → ∃ ys, (∀ (j : Nat) (y : Value), ys[j]? = some y → w.cell? ⟨b, off + k * r.size + j, none⟩ = some y) ∧ RTy.Rd ρ.fz r row ys) :
    ∃ cs : List Value, Cells ρ r rows cs ∧ ∀ (j : Nat) (x : Value), cs[j]? = some x → w.cell? ⟨b, off + j, none⟩ = some x := by
  have hpos := r.size_pos
  let cs : List Value := (List.range (rows.length * r.size)).map fun j => (w.cell? ⟨b, off + j, none⟩).getD undef
  have hcell : ∀ k j, k < rows.length → j < r.size → ∃ x, w.cell? ⟨b, off + (k * r.size + j), none⟩ = some x ∧ ∀ row ys, rows[k]? = some row → (∀ (j : Nat) (y : Value), ys[j]? = some y → w.cell? ⟨b, off + k * r.size + j, none⟩ = some y) → RTy.Rd ρ.fz r row ys → ys[j]? = some x := fun k j hk hj => by
    obtain ⟨ys, h1, h2⟩ := h k _ (List.getElem?_eq_getElem hk)
    have hl := h2.length
    have hy : ys[j]? = some (ys[j]'(by omega)) := List.getElem?_eq_getElem _
    refine ⟨_, by rw [← Nat.add_assoc]; exact h1 j _ hy, fun row ys' hr h3 h4 => ?_⟩
    have hl' := h4.length
    have hy' : ys'[j]? = some (ys'[j]'(by omega)) := List.getElem?_eq_getElem _
    have e1 := h1 j _ hy
    have e2 := h3 j _ hy'
    rw [e1] at e2
    rw [hy', Option.some.inj e2]
  have hsplit : ∀ j, j < rows.length * r.size → j / r.size < rows.length ∧ j % r.size < r.size ∧ j = j / r.size * r.size + j % r.size := fun j hj =>
    ⟨(Nat.div_lt_iff_lt_mul hpos).2 hj, Nat.mod_lt _ hpos, by rw [Nat.mul_comm]; exact (Nat.div_add_mod j r.size).symm⟩
  refine ⟨cs, ⟨by simp [cs], fun k row hk => ?_⟩, fun j x hx => ?_⟩
  · have hkl : k < rows.length := (List.getElem?_eq_some_iff.1 hk).1
    obtain ⟨ys, h1, h2⟩ := h k row hk
    have hl := h2.length
    have : (cs.drop (k * r.size)).take r.size = ys := by
      apply List.ext_getElem?
      intro j
      have hmul : k * r.size + r.size ≤ rows.length * r.size := by
        have : (k + 1) * r.size ≤ rows.length * r.size := Nat.mul_le_mul_right _ hkl
        rw [Nat.add_mul] at this; omega
      by_cases hj : j < r.size
      · rw [List.getElem?_take_of_lt hj, List.getElem?_drop]
        have hy : ys[j]? = some (ys[j]'(by omega)) := List.getElem?_eq_getElem _
        have := h1 j _ hy
        rw [Nat.add_assoc] at this
        rw [hy]
        simp only [cs, List.getElem?_map, List.getElem?_range (show k * r.size + j < rows.length * r.size by omega), Option.map_some, this, Option.getD_some]
      · rw [List.getElem?_eq_none (by simp; omega), List.getElem?_eq_none (by omega)]
    rw [this]; exact h2
  · have hj : j < rows.length * r.size := by have := (List.getElem?_eq_some_iff.1 hx).1; simpa [cs] using this
    obtain ⟨s1, s2, s3⟩ := hsplit j hj
    obtain ⟨x', hx', _⟩ := hcell _ _ s1 s2
    rw [← s3] at hx'
    simp only [cs, List.getElem?_map, List.getElem?_range hj, Option.map_some, hx', Option.getD_some, Option.some.injEq] at hx
    rw [← hx]; exact hx'

theorem SrcOk.of_cells {r : RTy} {rows : List r.den} {base : Option Addr} {c : Nat} (h : rows.length = 0 ∨ ∃ b off, base = some ⟨b, off, none⟩ ∧ ∀ (k : Nat) (row : r.den), rows[k]? = some row → ∃ ys, (∀ (j : Nat) (y : Value), ys[j]? = some y → w.cell? ⟨b, off + k * r.size + j, none⟩ = some y) ∧ RTy.Rd ρ.fz r row ys) :
    SrcOk ρ P w r rows r.size (.slice base rows.length c) := by
  rcases h with h | ⟨b, off, rfl, h⟩
  · have hr : rows = [] := List.length_eq_zero_iff.1 h
    subst hr
    have hf : ∀ w : World, (Builtin.firstCells r.size 0 (.slice base 0 c)).run P w = .ok #[] w := fun w => by
      cases base with
      | none => simp [Builtin.firstCells]
      | some a => simp [Builtin.firstCells, loadCells, loadCellsFrom]
    refine ⟨by simp [Builtin.lenOf], ⟨[], ⟨by simp, fun k row hk => by simp at hk⟩, hf w⟩, fun w' hw cs hcs => ?_⟩
    have := hf w
    simp only [List.length_nil] at hcs
    rw [this] at hcs; cases hcs; exact hf w'
  · obtain ⟨cs, h1, h2⟩ := rows_cells h
    have hrun : ∀ w' : World, w'.heap = w.heap → (Builtin.firstCells r.size rows.length (.slice (some ⟨b, off, none⟩) rows.length c)).run P w' = .ok cs.toArray w' := fun w' hw => by
      simp only [Builtin.firstCells]
      exact loadCells_again (w := w) hw rfl h1.len h2
    exact ⟨by simp [Builtin.lenOf], ⟨cs, h1, hrun w rfl⟩, fun w' hw cs' hcs => by rw [hrun w rfl] at hcs; cases hcs; exact hrun w' hw⟩

/-- The rows of a sequence's slice. -/
theorem seq_src (h : HR B ρ H w) {i lo len : Nat} {r : RTy} {rows : List r.den} {ty : Option TypeId} {a : At} {base : Option Addr} {c : Nat} (ho : H.get i = some (.seq r rows ty)) (ha : ρ.ats[i]? = some a) (hlc : len ≤ c) (hll : lo + len ≤ a.len)
    (hb : (base = none ∧ c = 0) ∨ (∃ a, base = some a ∧ a.spot = none ∧ c = 0) ∨ (a.nb = false ∧ base = some ⟨a.b, a.sh + lo * a.es, none⟩ ∧ a.sh + lo * a.es + c * a.es ≤ a.n)) :
    ((rows.drop lo).take len).length = len ∧ SrcOk ρ P w r ((rows.drop lo).take len) r.size (.slice base len c) := by
  obtain ⟨h1, h2, h3⟩ := h.at' ho ha
  have hl : ((rows.drop lo).take len).length = len := by simp; omega
  refine ⟨hl, ?_⟩
  have := SrcOk.of_cells (ρ := ρ) (P := P) (w := w) (rows := (rows.drop lo).take len) (base := base) (c := c) ?_
  · rw [hl] at this; exact this
  · rcases hb with ⟨rfl, rfl⟩ | ⟨_, rfl, _, rfl⟩ | ⟨hnb, rfl, hn⟩
    · exact .inl (by omega)
    · exact .inl (by omega)
    · refine .inr ⟨a.b, a.sh + lo * a.es, rfl, fun k row hk => ?_⟩
      have hkl : k < len := by rw [← hl]; exact (List.getElem?_eq_some_iff.1 hk).1
      rw [List.getElem?_take_of_lt hkl, List.getElem?_drop] at hk
      rcases h3 with ⟨hnb', _⟩ | ⟨_, arr, ty0, fz, h4, h5, h6, h7⟩
      · rw [hnb] at hnb'; cases hnb'
      · obtain ⟨ys, g1, g2⟩ := h6 _ row hk
        refine ⟨ys, fun j y hy => ?_, g2⟩
        have := g1 j y hy
        rw [h1]
        have e : (lo + k) * r.size = lo * r.size + k * r.size := Nat.add_mul ..
        rw [show a.sh + lo * r.size + k * r.size + j = a.sh + (lo + k) * r.size + j by rw [e]; omega]
        simp [World.cell?, h4, this]

theorem srcRows_sound (h : HR B ρ H w) {r : RTy} {es : Nat} {x : AV} {rows : List r.den} (hes : es = r.size) (hc : srcRows H r es x = some rows) {y : Value} (hx : Rel ρ x y) : ∃ base c, y = .slice base rows.length c ∧ SrcOk ρ P w r rows es y := by
  subst hes
  unfold srcRows at hc
  split at hc
  · cases hc
    simp only [Rel] at hx; subst hx
    exact ⟨none, 0, rfl, SrcOk.of_cells (rows := []) (.inl rfl)⟩
  · cases hc
    simp only [Rel] at hx; obtain ⟨a, c, rfl⟩ := hx
    exact ⟨some a, c, rfl, SrcOk.of_cells (rows := []) (.inl rfl)⟩
  · rename_i r' rows'
    split at hc
    · rename_i hs
      have e := RTy.same_eq hs
      subst e
      rw [castRows_rfl] at hc
      cases hc
      simp only [Rel, CTy.Rd] at hx
      obtain ⟨base, cap, rfl, k1, k2, k3, k5⟩ := hx
      refine ⟨base, cap, rfl, SrcOk.of_cells ?_⟩
      by_cases hz : rows'.length = 0
      · exact .inl hz
      · obtain ⟨b, off, _, _, rfl, _⟩ := k5 0 _ (List.getElem?_eq_getElem (by omega))
        refine .inr ⟨b, off, rfl, fun k row hk => ?_⟩
        obtain ⟨b', off', arr, ys, he, g1, g2, g3⟩ := k5 k row hk
        cases he
        exact ⟨ys, fun j y hy => fz_cell h g1 (g2 j y hy), g3⟩
    · cases hc
  · rename_i i
    simp only [Option.bind_eq_some_iff] at hc
    obtain ⟨o, ho, hc⟩ := hc
    unfold rowsAs at hc
    split at hc
    · rename_i r' rows' ty
      split at hc
      · rename_i hs
        have e := RTy.same_eq hs
        subst e
        rw [castRows_rfl] at hc
        cases hc
        simp only [Rel] at hx
        obtain ⟨a, base, c, ha, rfl, k1, k2, k3⟩ := hx
        obtain ⟨h1, h2, _⟩ := h.at' ho ha
        obtain ⟨g1, g2⟩ := seq_src (P := P) h ho ha k1 (lo := 0) (by omega) (by simpa using k3)
        have e : (rows'.drop 0).take a.len = rows' := by rw [List.drop_zero, ← h2, List.take_length]
        rw [e] at g2
        rw [← h2] at g2 ⊢
        exact ⟨base, c, rfl, g2⟩
      · cases hc
    · cases hc
  · rename_i i lo len
    simp only [Option.map_eq_some_iff, Option.bind_eq_some_iff] at hc
    obtain ⟨rows', ⟨o, ho, hc⟩, rfl⟩ := hc
    unfold rowsAs at hc
    split at hc
    · rename_i r' rows'' ty
      split at hc
      · rename_i hs
        have e := RTy.same_eq hs
        subst e
        rw [castRows_rfl] at hc
        cases hc
        simp only [Rel] at hx
        obtain ⟨a, base, c, ha, rfl, k1, k2, kk, k3⟩ := hx
        obtain ⟨g1, g2⟩ := seq_src (P := P) h ho ha k1 kk k3
        rw [g1]
        exact ⟨base, c, rfl, g2⟩
      · cases hc
    · cases hc
  · rename_i i off len cap ex
    simp only [Option.bind_eq_some_iff] at hc
    obtain ⟨cs, hl, hd⟩ := hc
    obtain ⟨d1, d2, d3⟩ := RTy.decs_sound len hd
    simp only [Rel] at hx
    obtain ⟨a, c, ha, rfl, _⟩ := hx
    obtain ⟨g1, xs, g2, g3, g4⟩ := ldN_sound h ha hl
    rw [← d1]
    refine ⟨_, c, rfl, ?_⟩
    refine SrcOk.of_cells (.inr ⟨a.b, a.sh + off, rfl, fun k row hk => ?_⟩)
    have hkl : k < len := by rw [← d1]; exact (List.getElem?_eq_some_iff.1 hk).1
    refine ⟨_, fun j y hy => ?_, d3 g3 k row hk⟩
    have hj : j < r.size := by have := (List.getElem?_eq_some_iff.1 hy).1; simp at this; omega
    rw [List.getElem?_take_of_lt hj, List.getElem?_drop] at hy
    rw [Nat.add_assoc]
    exact g4 _ y hy
  · cases hc
end
end Go.AM
