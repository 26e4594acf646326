/- THE ABSTRACT MACHINE, 3: what one operation does (definitions alone). -/
import Derived.Test.YtdeoahhofhmgfaaAmMem
namespace Go.AM

inductive Res where
  | val (v : AV) (H : Heap)
  | call (f : FuncId) (args : List AV)
  | yield (l : Nat) (args : List AV)
  | opts (l : List (AV × Heap))
  | fams (l : List ((Nat → Prop) × (Nat → AV × Heap)))

def pureOf {α : Type} : Sem α → Option α
  | .pure a => some a
  | _ => none

def eqB : List UInt8 → List UInt8 → Bool
  | [], [] => true
  | a :: x, b :: y => bif Nat.beq a.toNat b.toNat then eqB x y else false
  | _, _ => false

def ltB : List UInt8 → List UInt8 → Bool
  | _, [] => false
  | [], _ :: _ => true
  | a :: x, b :: y => bif Nat.blt a.toNat b.toNat then true else bif Nat.beq a.toNat b.toNat then ltB x y else false

/-- The plain values of one cell. -/
def toV : AV → Option Value
  | .bool b => some (.bool b)
  | .int k n => some (.int k n)
  | .str s => some (.string ⟨s.toArray⟩)
  | .nilPtr => some (.pointer none)
  | .nilSlc => some (.slice none 0 0)
  | .nilMap => some (.map none)
  | .nilFn => some .nilFunc
  | .nilIface => some .nilIface
  | _ => none

def convS : Value → Option AV
  | .bool b => some (.bool b)
  | .int k n => some (.int k n)
  | .string s => some (.str s.data.toList)
  | .pointer none => some .nilPtr
  | .slice none 0 0 => some .nilSlc
  | .map none => some .nilMap
  | .nilFunc => some .nilFn
  | .nilIface => some .nilIface
  | _ => none

def conv : Value → Option AV
  | .agg cs => (cs.toList.mapM convS).map .agg
  | v => convS v

def aeval (fr : Fr) : Operand → Option AV
  | .tmp t => fr.get t
  | .const v => conv v
  | .global _ => none
  | .func f => some (.fn (.func f) [] [])

def AV.cells : AV → Option (List AV)
  | .agg cs => some cs
  | .tup _ => none
  | v => some [v]

def isAggD : TypeDesc → Bool
  | .struct _ | .array _ _ => true
  | _ => false

section
variable (P : Program)

def zeroA (t : TypeId) : Option AV := ((P.info? t).bind (·.zero)).bind conv

def apart (t : TypeId) (cs : List AV) (off : Nat) : Option AV :=
  (P.underlying t).bind fun d => bif isAggD d then (P.info? t).bind fun i => some (.agg ((cs.drop off).take i.size)) else cs[off]?

def aload (H : Heap) (t : TypeId) : AV → Option AV
  | .ptr i off => (P.underlying t).bind fun d => bif isAggD d then (P.info? t).bind fun inf => (ldN H i off inf.size).map .agg else ld1 H i off
  | _ => none

def astore (H : Heap) (t : TypeId) (a v : AV) : Option Heap :=
  match a with
  | .ptr i off => v.cells.bind fun cs => (P.info? t).bind fun inf => bif Nat.beq cs.length inf.size then stN H i off cs else none
  | _ => none

def newCells (H : Heap) (ty : Option TypeId) (es : Nat) (cs : List AV) : Option (Nat × Heap) :=
  bif cs.all AV.scalar then some (H.next, H.alloc (.cells false es cs ty)) else none

/-- Are they the same? -/
def aeqF (eq : TypeId → AV → AV → Option Bool) (xs ys : List AV) : List Field → Option Bool
  | [] => some true
  | f :: fs => bif f.name == "_" then aeqF eq xs ys fs else
    (apart P f.type xs f.offset).bind fun a => (apart P f.type ys f.offset).bind fun b => (eq f.type a b).bind fun r => bif r then aeqF eq xs ys fs else some false

def aeqN (eq : TypeId → AV → AV → Option Bool) (e n : Nat) (xs ys : List AV) : Nat → Nat → Option Bool
  | 0, _ => some true
  | k + 1, i => (apart P e xs (i * n)).bind fun a => (apart P e ys (i * n)).bind fun b => (eq e a b).bind fun r => bif r then aeqN eq e n xs ys k (i + 1) else some false

def aeq : Nat → TypeId → AV → AV → Option Bool
  | 0, _, _, _ => none
  | d + 1, t, x, y => (P.underlying t).bind fun u =>
    match u, x, y with
    | .bool, .bool a, .bool b => some (a == b)
    | .int _, .int k a, .int k' b => bif decide (k = k') then some (a == b) else none
    | .string, .str a, .str b => some (eqB a b)
    | .pointer _, .nilPtr, .nilPtr => some true
    | .pointer _, .nilPtr, .ptr _ _ => some false
    | .pointer _, .ptr _ _, .nilPtr => some false
    | .pointer e, .ptr i a, .ptr j b => bif Nat.beq i j then (P.info? e).bind fun inf => bif Nat.beq inf.size 0 then none else some (Nat.beq a b) else none
    | .struct fs, .agg xs, .agg ys => bif P.stoodInHeld t then none else aeqF P (aeq d) xs ys fs.toList
    | .array n e, .agg xs, .agg ys => (P.info? e).bind fun inf => aeqN P (aeq d) e inf.size xs ys n 0
    | .slice _, .nilSlc, .nilSlc => some true
    | .slice _, .nilSlc, .slc .. => some false
    | .slice _, .nilSlc, .emp => some false
    | .slice _, .slc .., .nilSlc => some false
    | .slice _, .emp, .nilSlc => some false
    | .map _ _, .nilMap, .nilMap => some true
    | .map _ _, .nilMap, .map _ => some false
    | .map _ _, .map _, .nilMap => some false
    | .func _ _ _, .nilFn, .nilFn => some true
    | .func _ _ _, .nilFn, .fn .. => some false
    | .func _ _ _, .fn .., .nilFn => some false
    | .interface _, .nilIface, .iface .. => some false
    | .interface _, .iface .., .nilIface => some false
    | _, _, _ => none

def isConstB : Operand → Bool
  | .const _ => true
  | _ => false

def aBin (op : BinOp) (t : TypeId) (ox oy : Operand) (x y : AV) : Option AV :=
  match x, y with
  | .int k a, .int k' b => (pureOf (binOp op t (.int k a) (.int k' b))).bind convS
  | .str a, .str b =>
    match op with
    | .add => bif Nat.ble (a.length + b.length) 9223372036854775807 then some (.str (a ++ b)) else none
    | .eql => some (.bool (eqB a b))
    | .neq => some (.bool (!eqB a b))
    | .lss => some (.bool (ltB a b))
    | .leq => some (.bool (ltB a b || eqB a b))
    | .gtr => some (.bool (!(ltB a b || eqB a b)))
    | .geq => some (.bool (!ltB a b))
    | _ => none
  | .nilIface, .nilIface =>
    bif isConstB ox || isConstB oy then
      (P.underlying t).bind fun u => match u, op with
      | .interface _, .eql => some (.bool true)
      | .interface _, .neq => some (.bool false)
      | _, _ => none
    else none
  | .agg xs, .agg ys =>
    bif P.eqGuardType P.depth t then none else
      match op with
      | .eql => (aeq P Op.maxDepth t (.agg xs) (.agg ys)).map .bool
      | .neq => (aeq P Op.maxDepth t (.agg xs) (.agg ys)).map fun b => .bool (!b)
      | _ => none
  | x, y =>
    match op with
    | .eql => (aeq P Op.maxDepth t x y).map .bool
    | .neq => (aeq P Op.maxDepth t x y).map fun b => .bool (!b)
    | _ => none

def aUn (op : UnOp) (x : AV) : Option AV :=
  match x with
  | .int k n => (pureOf (Op.unary op (.int k n))).bind convS
  | .bool b => (pureOf (Op.unary op (.bool b))).bind convS
  | _ => none

/-! A bool that is known by a term alone. -/
def AV.ub : AV → AV
  | .sB b => .bool b
  | v => v

def AV.isS : AV → Bool
  | .sB _ => true
  | _ => false

/-- What no operation of the machine without terms takes. -/
def AV.isX : AV → Bool
  | .sI .. => true
  | .sB _ => true
  | .sS _ => true
  | .dsl .. => true
  | .dptr .. => true
  | .sw _ => true
  | .ss .. => true
  | .eptr .. => true
  | _ => false

def bytesOfCells : List AV → Option (List UInt8)
  | [] => some []
  | .int .u8 n :: r => (bytesOfCells r).map (UInt8.ofNat n.toNat :: ·)
  | _ => none

def bytesAV (s : List UInt8) : List AV := s.map fun b => .int .u8 b.toNat

/-- A conversion. -/
def aConv (H : Heap) (src dst : TypeId) (x : AV) : Option (AV × Heap) :=
  (P.underlying src).bind fun us => (P.underlying dst).bind fun ud =>
  match us, ud, x with
  | _, .int k, .int _ n => some (.int k (k.wrap n), H)
  | _, .string, .str s => some (.str s, H)
  | _, .slice e, .str s => (P.underlying e).bind fun ue =>
    match ue with
    | .int .u8 => some (.slc H.next 0 s.length s.length false, H.alloc (.cells false 1 (bytesAV s) (some e)))
    | _ => none
  | .slice e, .string, x => (P.underlying e).bind fun ue =>
    match ue, x with
    | .int .u8, .nilSlc => some (.str [], H)
    | .int .u8, .slc i off len _ _ => (ldN H i off len).bind fun cs => (bytesOfCells cs).map fun s => (.str s, H)
    | _, _ => none
  | _, _, _ => none

def aFill (place : Nat → Option (Nat × Nat)) (cells : List AV) : List (Nat × AV) → Option (List AV)
  | [] => some cells
  | (i, v) :: rest => (place i).bind fun p => v.cells.bind fun cs =>
    bif Nat.beq cs.length p.2 && Nat.ble (p.1 + cs.length) cells.length then aFill place (spl cells p.1 cs) rest else none

def aBuild (t : TypeId) (parts : List (Nat × AV)) : Option AV :=
  (P.info? t).bind fun it => (P.underlying t).bind fun u => (it.zero.bind conv).bind fun z => z.cells.bind fun zs =>
  match u with
  | .array _ e => (P.info? e).bind fun ie => (aFill (fun i => some (i * ie.size, ie.size)) zs parts).map .agg
  | .struct fields => (fields.toList.mapM (fun f => (P.info? f.type).map fun i => (f.offset, i.size))).bind fun places => (aFill (fun i => places[i]?) zs parts).map .agg
  | _ => none

def repCells (n : Nat) (zs : List AV) : List AV := (List.replicate n zs).flatten

def aBuildSlice (H : Heap) (t : TypeId) (len : Nat) (parts : List (Nat × AV)) : Option (AV × Heap) :=
  (P.underlying t).bind fun u => match u with
  | .slice e => (P.info? e).bind fun ie => (ie.zero.bind conv).bind fun z => z.cells.bind fun zs =>
    bif Nat.ble (len * ie.size) 16777216 && Nat.beq zs.length ie.size && !Nat.beq ie.size 0 then
      (aFill (fun i => some (i * ie.size, ie.size)) (repCells len zs) parts).bind fun cs => (newCells H (some e) ie.size cs).map fun r => (.slc r.1 0 len len true, r.2)
    else none
  | _ => none

def evalParts (fr : Fr) : List (Nat × Operand) → Option (List (Nat × AV))
  | [] => some []
  | (i, x) :: r => (aeval fr x).bind fun v => (evalParts fr r).map ((i, v) :: ·)

def evalL (fr : Fr) : List Operand → Option (List AV)
  | [] => some []
  | x :: r => (aeval fr x).bind fun v => (evalL fr r).map (v :: ·)

def aFieldAddr (s : TypeId) (x : AV) (field : Nat) : Option AV :=
  match x with
  | .ptr i off => (P.underlying s).bind fun u => match u with
    | .struct fs => (fs[field]?).bind fun f => (P.info? f.type).bind fun inf => bif Nat.beq inf.size 0 then none else some (.ptr i (off + f.offset))
    | _ => none
  | _ => none

def aField (t : TypeId) (x : AV) (field : Nat) : Option AV :=
  match x with
  | .agg cs => (P.underlying t).bind fun u => match u with
    | .struct fs => (fs[field]?).bind fun f => apart P f.type cs f.offset
    | _ => none
  | _ => none

/-- An index within bounds. -/
def idx (v : AV) (n : Nat) : Option Nat :=
  match v with
  | .int _ (.ofNat i) => bif Nat.blt i n then some i else none
  | _ => none

/-- A bound of a slice. -/
def bnd (v : AV) (n : Nat) : Option Nat :=
  match v with
  | .int _ (.ofNat i) => bif Nat.ble i n then some i else none
  | _ => none

def aIndexAddr (t : TypeId) (x ix : AV) : Option AV :=
  (P.underlying t).bind fun u => match u, x with
  | .array n e, .ptr i off => (idx ix n).bind fun k => (P.info? e).map fun inf => .ptr i (off + k * inf.size)
  | .slice e, .slc i off len _ _ => (idx ix len).bind fun k => (P.info? e).map fun inf => .ptr i (off + k * inf.size)
  | _, _ => none

def aIndex (t : TypeId) (x ix : AV) : Option AV :=
  (P.underlying t).bind fun u => match u, x with
  | .array n e, .agg cs => (idx ix n).bind fun k => (P.info? e).bind fun inf => apart P e cs (k * inf.size)
  | .string, .str s => (idx ix s.length).bind fun k => (s[k]?).map fun b => .int .u8 b.toNat
  | _, _ => none

def bndO (o : Option AV) (n dflt : Nat) : Option Nat :=
  match o with
  | some v => bnd v n
  | none => some dflt

/-- A piece of a slice, an array, a string. -/
def esIs (H : Heap) (i n : Nat) : Bool := match H.get i with
  | some (.cells _ es _ _) => Nat.beq es n
  | _ => false

def aSlice (H : Heap) (t : TypeId) (x : AV) (lo hi mx : Option AV) : Option AV :=
  (P.underlying t).bind fun u => match u, x with
  | .string, .str s => match mx with
    | none => (bndO hi s.length s.length).bind fun h => (bndO lo h 0).map fun l => .str ((s.take h).drop l)
    | some _ => none
  | .slice e, .slc i off len cap ex => (P.info? e).bind fun inf =>
    match mx with
    | none => (bndO hi cap len).bind fun h => (bndO lo h 0).bind fun l => bif Nat.beq cap l then some .emp else bif ex || Nat.beq l 0 || esIs H i inf.size then some (.slc i (off + l * inf.size) (h - l) (cap - l) ex) else none
    | some m => match hi with
      | none => none
      | some hv => (bnd m cap).bind fun m => (bnd hv m).bind fun h => (bndO lo h 0).map fun l => bif Nat.beq m l then .emp else .slc i (off + l * inf.size) (h - l) (m - l) true
  | .slice e, .nilSlc => (P.info? e).bind fun _ => match mx with
    | none => (bndO hi 0 0).bind fun h => (bndO lo h 0).map fun _ => .nilSlc
    | some _ => none
  | .slice e, .emp => (P.info? e).bind fun _ => match mx with
    | none => (bndO hi 0 0).bind fun h => (bndO lo h 0).map fun _ => .emp
    | some _ => none
  | .array n e, .ptr i off => (P.info? e).bind fun inf => match mx with
    | none => (bndO hi n n).bind fun h => (bndO lo h 0).map fun l => bif Nat.beq n l then .emp else .slc i (off + l * inf.size) (h - l) (n - l) true
    | some _ => none
  | _, _ => none

def aMakeSlice (H : Heap) (t : TypeId) (len cap : AV) : Option (AV × Heap) :=
  (P.underlying t).bind fun u => match u with
  | .slice e => (P.info? e).bind fun ie => (ie.zero.bind conv).bind fun z => z.cells.bind fun zs =>
    match len, cap with
    | .int _ (.ofNat l), .int _ (.ofNat c) =>
      bif Nat.ble l c && Nat.ble c 9223372036854775807 && Nat.ble (ie.bytes * c) 281474976710656 && Nat.beq zs.length ie.size && !Nat.beq ie.size 0 then
        (newCells H (some e) ie.size (repCells c zs)).map fun r => (.slc r.1 0 l c true, r.2)
      else none
    | _, _ => none
  | _ => none

/-! maps -/
def plainEq : AV → AV → Bool
  | .bool a, .bool b => a == b
  | .int j a, .int k b => decide (j = k) && a == b
  | .str a, .str b => eqB a b
  | .agg xs, .agg ys => plainEqL xs ys
  | _, _ => false
where plainEqL : List AV → List AV → Bool
  | [], [] => true
  | .bool a :: xs, .bool b :: ys => a == b && plainEqL xs ys
  | .int j a :: xs, .int k b :: ys => decide (j = k) && a == b && plainEqL xs ys
  | .str a :: xs, .str b :: ys => eqB a b && plainEqL xs ys
  | _, _ => false

def aFind (kt : TypeId) (k : AV) : List Ent → Nat → Option (Option (Nat × Ent))
  | [], _ => some none
  | e :: es, i => (aeq P Op.maxDepth kt k e.key).bind fun r => bif r then some (some (i, e)) else aFind kt k es (i + 1)

def aCheckF (chk : TypeId → AV → Bool) (cs : List AV) : List Field → Bool
  | [] => true
  | f :: fs => (bif f.name == "_" then true else match apart P f.type cs f.offset with | some v => chk f.type v | none => false) && aCheckF chk cs fs

def aCheckKey : Nat → TypeId → AV → Bool
  | 0, _, _ => false
  | d + 1, t, v => match P.underlying t, v with
    | some (.interface _), _ => false
    | some (.array _ _), _ => false
    | some (.struct fs), .agg cs => aCheckF P (aCheckKey d) cs fs.toList
    | some (.struct _), _ => false
    | some _, _ => true
    | none, _ => false

def aMap (H : Heap) : AV → Option (List Ent)
  | .nilMap => some []
  | .map i => match H.get i with
    | some (.map es _) => some es
    | _ => none
  | _ => none

def keyDepth : Nat := 10000

def aLookup (H : Heap) (t : TypeId) (m k : AV) (ok : Bool) : Option AV :=
  (P.underlying t).bind fun u => match u with
  | .map kt et => (aMap H m).bind fun es => bif aCheckKey P keyDepth kt k then (aFind P kt k es 0).bind fun r =>
      ((match r with | some (_, e) => some (e.val, true) | none => (zeroA P et).map fun z => (z, false) : Option (AV × Bool))).map fun p => bif ok then .tup [p.1, .bool p.2] else p.1
    else none
  | _ => none

def setEnt (es : List Ent) (i : Nat) (e : Ent) : List Ent := es.set i e

def aMapUpdate (H : Heap) (t : TypeId) (m k v : AV) : Option Heap :=
  (P.underlying t).bind fun u => match u, m with
  | .map kt _, .map i => match H.get i with
    | some (.map es clock) => bif aCheckKey P keyDepth kt k then (aFind P kt k es 0).bind fun r => match r with
        | some (j, e) => bif plainEq e.key k then some (H.set i (.map (es.set j { key := k, val := v, born := e.born }) clock)) else none
        | none => some (H.set i (.map (es ++ [{ key := k, val := v, born := clock }]) (clock + 1)))
      else none
    | _ => none
  | _, _ => none

def aMapEntry (H : Heap) (t : TypeId) (m k : AV) : Option (AV × Heap) :=
  (P.underlying t).bind fun u => match u, m with
  | .map kt et, .map i => match H.get i with
    | some (.map es clock) => bif aCheckKey P keyDepth kt k then (aFind P kt k es 0).bind fun r => match r with
        | some (j, e) => bif plainEq e.key k then some (.tup [e.val, .int .i64 e.born], H.set i (.map (es.set j { key := k, val := e.val, born := e.born }) clock)) else none
        | none => (zeroA P et).map fun z => (.tup [z, .int .i64 clock], H.set i (.map (es ++ [{ key := k, val := z, born := clock }]) (clock + 1)))
      else none
    | _ => none
  | _, _ => none

def findBorn (s : Int) : List Ent → Nat → Option (Nat × Ent)
  | [], _ => none
  | e :: es, i => bif decide ((e.born : Int) = s) then some (i, e) else findBorn s es (i + 1)

def aEntryStore (H : Heap) (m s v : AV) : Option Heap :=
  match m, s with
  | .map i, .int _ n => match H.get i with
    | some (.map es clock) => (findBorn n es 0).map fun r => H.set i (.map (es.set r.1 { key := r.2.key, val := v, born := r.2.born }) clock)
    | _ => none
  | _, _ => none

def aDelete (H : Heap) (t : TypeId) (m k : AV) : Option Heap :=
  (P.underlying t).bind fun u => match u, m with
  | .map kt _, .nilMap => bif aCheckKey P keyDepth kt k then some H else none
  | .map kt _, .map i => match H.get i with
    | some (.map es clock) => bif aCheckKey P keyDepth kt k then (aFind P kt k es 0).bind fun r => match r with
        | some (j, _) => some (H.set i (.map (es.eraseIdx j) clock))
        | none => some H
      else none
    | _ => none
  | _, _ => none

def aRange (H : Heap) (t : TypeId) (x : AV) : Option (AV × Heap) :=
  (P.underlying t).bind fun u => match u, x with
  | .string, .str s => some (.ptr H.next 0, H.alloc (.sIter s 0))
  | .map _ _, .map i => match H.get i with
    | some (.map _ clock) => some (.ptr H.next 0, H.alloc (.mIter i clock [] clock))
    | _ => none
  | _, _ => none

def natMem (n : Nat) : List Nat → Bool
  | [] => false
  | m :: l => Nat.beq n m || natMem n l

def aNext (H : Heap) (it : AV) (isString : Bool) : Option (List (AV × Heap)) :=
  match it with
  | .ptr r 0 => match H.get r, isString with
    | some (.sIter s pos), true =>
      bif Nat.blt pos s.length then
        let d := Utf8.decode ⟨s.toArray⟩ pos
        some [(.tup [.bool true, .int .i64 pos, .int .i32 d.1], H.set r (.sIter s (pos + d.2)))]
      else some [(.tup [.bool false], H)]
    | some (.mIter m since seen stepped), false => match H.get m with
      | some (.map es clock) =>
        bif !seen.isEmpty && !es.isEmpty && es.all (fun e => Nat.ble stepped e.born) then none else
        let left := es.filter fun e => !natMem e.born seen
        let old := left.filter fun e => Nat.blt e.born since
        let new := left.filter fun e => !Nat.blt e.born since
        let cands : List (Option Ent) := (bif old.isEmpty then [none] else []) ++ (old ++ new).map some
        some (cands.map fun c => match c with
          | some e => (.tup [.bool true, e.key, e.val], H.set r (.mIter m since (seen ++ [e.born]) clock))
          | none => (.tup [.bool false], H))
      | _ => none
    | _, _ => none
  | _ => none

def lastN : List Nat → Option Nat
  | [] => none
  | a :: l => match l with
    | [] => some a
    | l => lastN l

def findE (s : Nat) : List Ent → Option Ent
  | [] => none
  | e :: es => bif Nat.beq e.born s then some e else findE s es

/-- The entry that an iterator stands on. -/
def aEntry (H : Heap) (it : AV) : Option AV :=
  match it with
  | .ptr r 0 => match H.get r with
    | some (.mIter m _ seen stepped) => match H.get m with
      | some (.map es clock) => bif Nat.beq clock stepped then (lastN seen).bind fun s => (findE s es).map fun e => .tup [e.key, e.val] else none
      | _ => none
    | _ => none
  | _ => none

def aTypeAssert (x : AV) (asserted : TypeId) (ok : Bool) : Option AV :=
  (P.underlying asserted).bind fun u => match u, x with
  | .interface _, _ => none
  | _, .iface t v => bif Nat.beq t asserted then some (bif ok then .tup [v, .bool true] else v) else bif ok then (zeroA P asserted).map fun z => .tup [z, .bool false] else none
  | _, .nilIface => bif ok then (zeroA P asserted).map fun z => .tup [z, .bool false] else none
  | _, _ => none

def srcLen : AV → Option Nat
  | .nilSlc => some 0
  | .emp => some 0
  | .slc _ _ n _ _ => some n
  | .str s => some s.length
  | _ => none

/-- The cells of the first n elements. -/
def srcCells (H : Heap) (size n : Nat) : AV → Option (List AV)
  | .nilSlc => some []
  | .emp => bif Nat.beq n 0 then some [] else none
  | .slc i off _ _ _ => ldN H i off (n * size)
  | .str s => some (bytesAV (s.take n))
  | _ => none

def zeroFits (ie : TypeInfo) : Bool := match (ie.zero.bind conv).bind AV.cells with
  | some zs => Nat.beq zs.length ie.size
  | none => false

def isTy (o : Option TypeId) (e : TypeId) : Bool := match o with
  | some t => Nat.beq t e
  | none => false

def aGrow (H : Heap) (ty : Option TypeId) (ie : TypeInfo) (need : Nat) (cs : List AV) : Option (AV × Heap) :=
  bif Nat.ble (need * ie.bytes) 140737488355328 && Nat.ble need 4611686018427387904 && zeroFits ie then
    (newCells H ty ie.size cs).map fun r => (.slc r.1 0 need need false, r.2)
  else none

def strFits (x : AV) (size : Nat) : Bool := match x with
  | .str _ => Nat.beq size 1
  | _ => true

def aAppend (H : Heap) (argTypes : List TypeId) (s x : AV) : Option (AV × Heap) :=
  match argTypes with
  | [st, xt] => (P.underlying st).bind fun u => (P.underlying xt).bind fun ux => match u with
    | .slice e => (P.info? e).bind fun ie =>
      match ux with
      | .int _ => none
      | _ => bif !strFits x ie.size then none else (srcLen x).bind fun n => (srcCells H ie.size n x).bind fun new =>
        match s with
        | .nilSlc => bif Nat.beq n 0 then some (.nilSlc, H) else aGrow H (some e) ie n new
        | .slc i off len cap ex =>
          bif Nat.ble (len + n) cap then (stN H i (off + len * ie.size) new).map fun H' => (.slc i off (len + n) cap ex, H')
          else bif ex then (ldN H i off (len * ie.size)).bind fun old => aGrow H (some e) ie (len + n) (old ++ new)
          else (ldN H i off (len * ie.size)).bind fun old => match H.get i with
            | some (.cells false es _ oty) => bif Nat.beq es ie.size then aGrow (H.kill i) (bif Nat.beq off 0 && isTy oty e then some e else none) ie (len + n) (old ++ new) else none
            | _ => none
        | .emp => none
        | _ => none
    | _ => none
  | _ => none

def aCopy (H : Heap) (argTypes : List TypeId) (d x : AV) : Option (AV × Heap) :=
  match argTypes with
  | dt :: _ => (P.underlying dt).bind fun u => match u with
    | .slice e => (P.info? e).bind fun ie => bif !strFits x ie.size then none else (srcLen x).bind fun n => match d with
      | .nilSlc => some (.int .i64 0, H)
      | .slc i off len _ _ => (srcCells H ie.size (Nat.min n len) x).bind fun cs => (stN H i off cs).map fun H' => (.int .i64 (Nat.min n len : Nat), H')
      | _ => none
    | _ => none
  | _ => none

def aLen (H : Heap) (t : TypeId) (x : AV) : Option AV :=
  (P.underlying t).bind fun u => match u, x with
  | .string, .str s => some (.int .i64 s.length)
  | .array n _, _ => some (.int .i64 n)
  | .slice _, .nilSlc => some (.int .i64 0)
  | .slice _, .emp => some (.int .i64 0)
  | .slice _, .slc _ _ n _ _ => some (.int .i64 n)
  | .map _ _, m => (aMap H m).map fun es => .int .i64 es.length
  | _, _ => none

def aCap (t : TypeId) (x : AV) : Option AV :=
  (P.underlying t).bind fun u => match u, x with
  | .array n _, _ => some (.int .i64 n)
  | .slice _, .nilSlc => some (.int .i64 0)
  | .slice _, .slc _ _ _ c true => some (.int .i64 c)
  | _, _ => none

def toVL : List AV → Option (List Value)
  | [] => some []
  | v :: r => (toV v).bind fun x => (toVL r).map (x :: ·)

def aClear (H : Heap) (t : TypeId) (x : AV) : Option Heap :=
  (P.underlying t).bind fun u => match u, x with
  | .slice _, .nilSlc => some H
  | .slice _, .emp => some H
  | .slice e, .slc i off len _ _ => bif Nat.beq len 0 then some H else (P.info? e).bind fun ie => (ie.zero.bind conv).bind fun z => z.cells.bind fun zs =>
    bif Nat.beq zs.length ie.size && !Nat.beq ie.size 0 then stN H i off (repCells len zs) else none
  | _, _ => none

def aBuiltin (H : Heap) (b : Builtin) (argTypes : List TypeId) (args : List AV) : Option (AV × Heap) :=
  match b, args with
  | .len, [x] => (argTypes[0]?).bind fun t => (aLen P H t x).map (·, H)
  | .cap, [x] => (argTypes[0]?).bind fun t => (aCap P t x).map (·, H)
  | .append, [s, x] => aAppend P H argTypes s x
  | .copy, [d, x] => aCopy P H argTypes d x
  | .delete, [m, k] => (argTypes[0]?).bind fun t => (aDelete P H t m k).map (.tup [], ·)
  | .clear, [x] => (argTypes[0]?).bind fun t => (aClear P H t x).map (.tup [], ·)
  | .min, xs => (toVL xs).bind fun vs => (pureOf (Builtin.min_ #[] 0 vs.toArray)).bind fun v => (convS v).map (·, H)
  | .max, xs => (toVL xs).bind fun vs => (pureOf (Builtin.max_ #[] 0 vs.toArray)).bind fun v => (convS v).map (·, H)
  | _, _ => none

/-- A function that has a body. -/
def isFunc (f : FuncId) : Bool := match P.funcs[f]? with
  | some fn => !(fn.name == "runtime.NumGoroutine") && fn.body.isSome
  | none => false

def aCallV (f : AV) (args : List AV) : Option Res :=
  match f with
  | .fn (.func k) first captured => bif isFunc P k then some (.call k (first ++ args ++ captured)) else none
  | .yld l => some (.yield l args)
  | _ => none

/-- A method of a value behind an interface. -/
def aMethod (H : Heap) (t : TypeId) (v : AV) (name : String) (args : List AV) : Option Res :=
  (P.info? t).bind fun inf => (inf.methods.find? (·.name == name)).bind fun m =>
    bif !m.path.isEmpty then none else m.func.bind fun fp => (P.underlying t).bind fun u =>
    (match u, fp.2 with
     | .pointer _, true => some v
     | .pointer e, false => aload P H e v
     | _, true => none
     | _, false => some v).bind fun r => bif isFunc P fp.1 then some (.call fp.1 (r :: args)) else none

def aop0 (fr : Fr) (H : Heap) (o : Oper) : Option Res :=
  match o.op with
  | .move x | .assign x => (aeval fr x).map (.val · H)
  | .pick c a b => (aeval fr c).bind fun v => match v with
    | .bool true => (aeval fr a).map (.val · H)
    | .bool false => (aeval fr b).map (.val · H)
    | _ => none
  | .alloc e => (P.info? e).bind fun ie => (ie.zero.bind conv).bind fun z => z.cells.bind fun cs => (newCells H (some e) ie.size cs).map fun r => .val (.ptr r.1 0) r.2
  | .box e x => (aeval fr x).bind fun v => v.cells.bind fun cs => (P.info? e).bind fun ie => (newCells H (some e) ie.size cs).map fun r => .val (.ptr r.1 0) r.2
  | .build t parts => (evalParts fr parts.toList).bind fun ps => (aBuild P t ps).map (.val · H)
  | .buildSlice t len parts => (evalParts fr parts.toList).bind fun ps => (aBuildSlice P H t len ps).map fun r => .val r.1 r.2
  | .load t a => (aeval fr a).bind fun v => (aload P H t v).map (.val · H)
  | .store t a x => (aeval fr a).bind fun p => (aeval fr x).bind fun v => (astore P H t p v).map (.val (.tup []) ·)
  | .nilCheck x => (aeval fr x).bind fun v => match v with
    | .ptr i off => some (.val (.ptr i off) H)
    | .fn (.func f) a b => some (.val (.fn (.func f) a b) H)
    | .yld l => some (.val (.yld l) H)
    | .iface t u => some (.val (.iface t u) H)
    | _ => none
  | .binOp op t x y _ => (aeval fr x).bind fun a => (aeval fr y).bind fun b => (aBin P op t x y a b).map (.val · H)
  | .unOp op _ x => (aeval fr x).bind fun a => (aUn op a).map (.val · H)
  | .convert src dst x => (aeval fr x).bind fun a => (aConv P H src dst a).map fun r => .val r.1 r.2
  | .makeInterface t x => (aeval fr x).bind fun a => (P.underlying t).bind fun u => match u with
    | .interface _ => none
    | _ => some (.val (.iface t a) H)
  | .makeFunc f first captured => match f with
    | .yield _ => none
    | f => (evalL fr first.toList).bind fun a => (evalL fr captured.toList).map fun b => .val (.fn f a b) H
  | .makeMap t r => match r with
    | none => some (.val (.map H.next) (H.alloc (.map [] 0)))
    | some x => (aeval fr x).bind fun v => match v with
      | .int _ _ => (P.underlying t).bind fun u => match u with
        | .map _ _ => some (.val (.map H.next) (H.alloc (.map [] 0)))
        | _ => none
      | _ => none
  | .makeSlice t l c => (aeval fr l).bind fun a => (aeval fr c).bind fun b => (aMakeSlice P H t a b).map fun r => .val r.1 r.2
  | .slice t x lo hi mx => (aeval fr x).bind fun v =>
    (match lo with | none => some none | some y => (aeval fr y).map some).bind fun l =>
    (match hi with | none => some none | some y => (aeval fr y).map some).bind fun h =>
    (match mx with | none => some none | some y => (aeval fr y).map some).bind fun m => (aSlice P H t v l h m).map (.val · H)
  | .fieldAddr s x f => (aeval fr x).bind fun v => (aFieldAddr P s v f).map (.val · H)
  | .field t x f => (aeval fr x).bind fun v => (aField P t v f).map (.val · H)
  | .indexAddr t x ix => (aeval fr x).bind fun v => (aeval fr ix).bind fun k => (aIndexAddr P t v k).map (.val · H)
  | .index t x ix => (aeval fr x).bind fun v => (aeval fr ix).bind fun k => (aIndex P t v k).map (.val · H)
  | .lookup t x ix ok => (aeval fr x).bind fun v => (aeval fr ix).bind fun k => (aLookup P H t v k ok).map (.val · H)
  | .mapUpdate t m k x | .insert t m k x => (aeval fr m).bind fun a => (aeval fr k).bind fun b => (aeval fr x).bind fun c => (aMapUpdate P H t a b c).map (.val (.tup []) ·)
  | .mapEntry t m k => (aeval fr m).bind fun a => (aeval fr k).bind fun b => (aMapEntry P H t a b).map fun r => .val r.1 r.2
  | .entryStore _ m s x => (aeval fr m).bind fun a => (aeval fr s).bind fun b => (aeval fr x).bind fun c => (aEntryStore H a b c).map (.val (.tup []) ·)
  | .range t x => (aeval fr x).bind fun v => (aRange P H t v).map fun r => .val r.1 r.2
  | .entry it => (aeval fr it).bind fun v => (aEntry H v).map (.val · H)
  | .next it isS => (aeval fr it).bind fun v => (aNext H v isS).bind fun l => match l with
    | [r] => some (.val r.1 r.2)
    | l => some (.opts l)
  | .typeAssert x _ asserted ok => (aeval fr x).bind fun v => (aTypeAssert P v asserted ok).map (.val · H)
  | .extract t ix => (aeval fr t).bind fun v => match v with
    | .tup vs => (vs[ix]?).map (.val · H)
    | _ => none
  | .call c => (evalL fr c.args.toList).bind fun args => match c.callee with
    | .builtin b => (aBuiltin P H b c.argTypes.toList args).map fun r => .val r.1 r.2
    | .value f => (aeval fr f).bind fun fv => aCallV P fv args
    | .invoke recv name => (aeval fr recv).bind fun rv => match rv with
      | .iface t v => aMethod P H t v name args
      | _ => none
  | _ => none
end
end Go.AM
