/- THE ABSTRACT MACHINE, 24: what is owed for a piece of code, as a statement that the kernel writes out. -/
import Derived.Test.YtdeoahhofhmgfaaAmAbs4
set_option linter.unusedSimpArgs false
set_option linter.unusedVariables false
namespace Go.AM
noncomputable section

/-- The machine does not know on. -/
inductive Stuck (why : String) : Prop

abbrev KF := AV → Heap → Prop
abbrev KO := Fr → Heap → Prop

/-- A loop, with what holds at its rounds' heads. -/
structure LInv where
  σ : Type
  inv : σ → Prop
  st : σ → Fr → Heap → List (Nat × AV) × Heap
  mu : σ → Nat

abbrev VC := FuncId → Bool → Bool → Nat → Nat → Code → Fr → Heap → Post → Prop
abbrev SumP := FuncId → List AV → Heap → Option (KF → Prop)
abbrev LTab := FuncId → Nat → Option LInv

def withOb (o : Option Prop) (q : Prop) : Prop := match o with
  | none => q
  | some p => p ∧ q

def impP : List Prop → Prop → Prop
  | [], q => q
  | p :: ps, q => p → impP ps q

/-! ### What is known of terms -/
mutual
def CTy.Has : (c : CTy) → c.den → Prop
  | .int k, n => k.has n
  | .boo, _ => True
  | .txt, s => List.length (α := UInt8) s ≤ maxI
  | .sl r, rows => List.length (α := r.den) rows ≤ maxI ∧ ∀ row, List.Mem (α := r.den) row rows → RTy.Has r row
def RTy.Has : (r : RTy) → r.den → Prop
  | .one c, x => CTy.Has c x
  | .cons c r, x => CTy.Has c x.1 ∧ RTy.Has r x.2
end

mutual
def rngV : AV → List Prop
  | .sI k n => [k.has n]
  | .sS s => [s.length ≤ maxI]
  | .dsl r rows => [CTy.Has (.sl r) rows]
  | .agg cs => rngL cs
  | .tup cs => rngL cs
  | .iface _ v => rngV v
  | _ => []
def rngL : List AV → List Prop
  | [] => []
  | v :: vs => rngV v ++ rngL vs
end

def rngO : AObj → List Prop
  | .cells _ _ cs _ => rngL cs
  | .seq r rows _ => [∀ row, row ∈ rows → RTy.Has r row]
  | .smap _ _ kr vr m => [(m.map (·.1)).Nodup, ∀ p, p ∈ m → RTy.Has kr p.1 ∧ RTy.Has vr p.2]
  | _ => []

def rngT {α : Type} (f : α → List Prop) : T α → List Prop
  | .nil => []
  | .node l v r => (match v with
    | some x => f x
    | none => []) ++ rngT f l ++ rngT f r

def msOf (K : Nat) (p : List (Nat × AV) × Heap) (fr : Fr) (H : Heap) : Option (List Prop) := mS K (findRen K p.1 p.2 fr H) p.1 p.2 fr H

def vMs (K : Nat) (p : List (Nat × AV) × Heap) (fr : Fr) (H : Heap) : Prop :=
  match msOf K p fr H with
  | some ps => conjP ps
  | none => Stuck "match"

/-! ### A state is written out, that the kernel need not come to it again -/
section
universe u
variable {β : Sort u}

def natF (n : Nat) (c : Nat → β) : β := match n with
  | 0 => c 0
  | m + 1 => c (Nat.succ m)

def kindF (k : IntKind) (c : IntKind → β) : β := match k with
  | .i8 => c .i8
  | .i16 => c .i16
  | .i32 => c .i32
  | .i64 => c .i64
  | .u8 => c .u8
  | .u16 => c .u16
  | .u32 => c .u32
  | .u64 => c .u64

def boolF (b : Bool) (c : Bool → β) : β := match b with
  | true => c true
  | false => c false

def optF (b : Option Nat) (c : Option Nat → β) : β := match b with
  | none => c none
  | some n => natF n fun n => c (some n)

mutual
def AV.force : AV → (AV → β) → β
  | .sI k n, c => kindF k fun k => c (.sI k n)
  | .int k n, c => kindF k fun k => c (.int k n)
  | .ptr i off, c => natF i fun i => natF off fun off => c (.ptr i off)
  | .slc i off len cap ex, c => natF i fun i => natF off fun off => natF len fun len => natF cap fun cap => boolF ex fun ex => c (.slc i off len cap ex)
  | .map i, c => natF i fun i => c (.map i)
  | .yld i, c => natF i fun i => c (.yld i)
  | .sw i, c => natF i fun i => c (.sw i)
  | .ss i lo len, c => natF i fun i => c (.ss i lo len)
  | .eptr i k j, c => natF i fun i => natF j fun j => c (.eptr i k j)
  | .dptr r row j, c => natF j fun j => c (.dptr r row j)
  | .agg cs, c => AV.forceL cs fun cs => c (.agg cs)
  | .tup cs, c => AV.forceL cs fun cs => c (.tup cs)
  | .iface t v, c => AV.force v fun v => c (.iface t v)
  | .fn f a b, c => AV.forceL a fun a => AV.forceL b fun b => c (.fn f a b)
  | v, c => c v
def AV.forceL : List AV → (List AV → β) → β
  | [], c => c []
  | v :: vs, c => AV.force v fun v => AV.forceL vs fun vs => c (v :: vs)
end

def forceT {α : Type} (f : α → (α → β) → β) : T α → (T α → β) → β
  | .nil, c => c .nil
  | .node l v r, c => forceT f l fun l => forceT f r fun r => match v with
    | none => c (.node l none r)
    | some x => f x fun x => c (.node l (some x) r)

def forceE : List Ent → (List Ent → β) → β
  | [], c => c []
  | e :: es, c => AV.force e.key fun k => AV.force e.val fun v => natF e.born fun b => forceE es fun es => c ({ key := k, val := v, born := b } :: es)

def AObj.force (o : AObj) (c : AObj → β) : β := match o with
  | .cells ro es cs ty => boolF ro fun ro => natF es fun es => optF ty fun ty => AV.forceL cs fun cs => c (.cells ro es cs ty)
  | .map es clock => natF clock fun clock => forceE es fun es => c (.map es clock)
  | .loop st pd f fr n ps as bd => forceT AV.force fr fun fr => c (.loop st pd f fr n ps as bd)
  | o => c o

def forceS (fr : Fr) (H : Heap) (c : Fr → Heap → β) : β :=
  forceT AV.force fr fun fr => forceT AObj.force H.t fun t => natF H.next fun n => c fr { t := t, next := n }
end

def firstReg : Code → Option Nat
  | .region id _ _ => some id
  | .seq a b => match firstReg a with
    | some i => some i
    | none => firstReg b
  | .cond _ a b => match firstReg a with
    | some i => some i
    | none => firstReg b
  | .block _ a => firstReg a
  | .loop a => firstReg a
  | .scope a => firstReg a
  | .rangeFunc _ _ a b => match firstReg a with
    | some i => some i
    | none => firstReg b
  | _ => none

def codeKey (c : Code) : Nat := (firstReg c).getD 1000000

section
variable (P : Program) (S : SumP) (L : LTab) (rc : VC)

def vF (f : FuncId) (args : List AV) (H : Heap) (Q : KF) : Prop :=
  match S f args H with
  | some φ => φ Q
  | none => match P.funcs[f]? with
    | none => Stuck "no function"
    | some fn => match fn.body with
      | none => Stuck fn.name
      | some c => rc f false false H.next (args.length + (fn.ntmps - args.length)) c (initFr args 0 .nil) H fun x fr' H' => match x with
        | .ex _ => Stuck "exit"
        | _ => match ares P fn fr' H' with
          | none => Stuck "results"
          | some v => Q v H'

def vY (l : Nat) (args : List AV) (H : Heap) (Q : Bool → Heap → Prop) : Prop :=
  match H.get l with
  | some (.loop _ _ f fr0 nt ps as bd) => match setParams nt fr0 ps args with
    | none => Stuck "params"
    | some fr1 => rc f true false H.next nt as fr1 H fun x fr2 H2 => match x with
      | .nor => match H2.get l with
        | some (.loop .ready pd fn fr0 nt' ps as bd') => rc f true false H.next nt bd fr2 (H2.set l (.loop .busy pd fn fr0 nt' ps as bd')) fun x fr3 H3 => match H3.get l with
            | some (.loop _ _ fn fr0 nt ps as bd) => Q x.isNor (H3.set l (.loop (bif x.isNor then .ready else .done) (jumpOf x) fn fr0 nt ps as bd))
            | _ => Stuck "loop gone"
        | _ => Stuck "loop not ready"
      | _ => Stuck "assign leaves"
  | _ => Stuck "no loop"

def vPut (n : Nat) (fr : Fr) (dst : Option Tmp) (v : AV) (H : Heap) (k : KO) : Prop :=
  match aput n fr dst v with
  | none => Stuck "put"
  | some fr' => k fr' H

/-- Does somebody hang on this temporary? -/
def usedG (ops : Array Oper) (dst : Option Tmp) : Bool := match dst with
  | none => false
  | some d => ops.toList.any fun o => match o.guard with
    | none => false
    | some (j, _) => match (ops[j]?).bind (·.dst) with
      | some d' => Nat.beq d' d
      | none => false

def vPutS (g : Bool) (n : Nat) (fr : Fr) (dst : Option Tmp) (v : AV) (H : Heap) (k : KO) : Prop :=
  match g with
  | false => vPut n fr dst v H k
  | true => match v with
    | .sB b => (b = true → vPut n fr dst (.bool true) H k) ∧ (b = false → vPut n fr dst (.bool false) H k)
    | v => vPut n fr dst v H k

def allQ {α : Type} (f : α → Prop) : List α → Prop
  | [] => True
  | a :: l => match l with
    | [] => f a
    | l => f a ∧ allQ f l

def vOp (n : Nat) (ops : Array Oper) (o : Oper) (k : KO) (fr : Fr) (H : Heap) : Prop :=
  match aWant ops fr o with
  | none => Stuck "want"
  | some false => vPut n fr o.dst (.tup []) H k
  | some true => match aopC P fr H o with
    | none => Stuck o.pos
    | some (ob, r) => withOb ob (match r with
      | .val v H' => vPutS (usedG ops o.dst) n fr o.dst v H' k
      | .opts l => allQ (fun q : AV × Heap => vPut n fr o.dst q.1 q.2 k) l
      | .call f args => vF P S rc f args H fun v H' => vPutS (usedG ops o.dst) n fr o.dst v H' k
      | .yield l args => vY rc l args H fun b H' => vPut n fr o.dst (.bool b) H' k)

def vO (n : Nat) (ops : Array Oper) : List Nat → Fr → Heap → KO → Prop
  | [], fr, H, k => k fr H
  | i :: rest, fr, H, k => match ops[i]? with
    | none => Stuck "ops"
    | some o => vOp P S rc n ops o (fun fr' H' => vO n ops rest fr' H' k) fr H

mutual
/-- The very same value; what is owed for it. -/
def sameA : AV → AV → Option (List Prop)
  | .sI k n, v => match v with
    | .sI k' n' => bif decide (k = k') then some [n = n'] else none
    | _ => none
  | .sB b, v => match v with
    | .sB b' => some [b = b']
    | _ => none
  | .sS s, v => match v with
    | .sS s' => some [s = s']
    | _ => none
  | .dsl r rows, v => match v with
    | .dsl r' rows' => if h : RTy.same r' r = true then some [rows = castRows (RTy.same_eq h) rows'] else none
    | _ => none
  | .eptr i k j, v => match v with
    | .eptr i' k' j' => bif Nat.beq i i' && Nat.beq j j' then some [k = k'] else none
    | _ => none
  | .ss i lo len, v => match v with
    | .ss i' lo' len' => bif Nat.beq i i' then some [lo = lo', len = len'] else none
    | _ => none
  | .sw i, v => match v with
    | .sw i' => bif Nat.beq i i' then some [] else none
    | _ => none
  | .agg a, v => match v with
    | .agg b => sameL a b
    | _ => none
  | .tup a, v => match v with
    | .tup b => sameL a b
    | _ => none
  | .iface t u, v => match v with
    | .iface t' u' => bif Nat.beq t t' then sameA u u' else none
    | _ => none
  | u, v => bif AV.same u v then some [] else none
def sameL : List AV → List AV → Option (List Prop)
  | [], [] => some []
  | a :: x, b :: y => andP (sameA a b) (sameL x y)
  | _, _ => none
end

def sameP (u v : AV) : Option (List Prop) := match u, v with
  | .bool b, .sB c => some [b = c]
  | u, v => sameA u v

/-- What only looks. -/
def roX (ops : Array Oper) (fr : Fr) (H : Heap) (o : Oper) : Option (Option Prop × AV) :=
  match aWant ops fr o with
  | some true => match aopC P fr H o with
    | some (p, .val v _) => some (p, v)
    | _ => none
  | some false => some (none, .tup [])
  | none => none

def vChk (ops : Array Oper) (fr : Fr) (H : Heap) (js : List Nat) (q : Prop) : Prop :=
  match js with
  | [] => q
  | j :: js => match ops[j]? with
    | none => vChk ops fr H js q
    | some oj => match roX P ops fr H oj with
      | none => Stuck "again"
      | some (p, v) => withOb p (match oj.dst with
        | none => vChk ops fr H js q
        | some d => match fr.get d with
          | none => Stuck "again: unknown"
          | some u => match sameP u v with
            | none => Stuck "again: not the same"
            | some ps => match ps with
              | [] => vChk ops fr H js q
              | ps => conjP ps ∧ vChk ops fr H js q)

def vPl (n : Nat) (ops : Array Oper) : List St → Fr → Heap → KO → Prop
  | [], fr, H, k => k fr H
  | .ro i :: rest, fr, H, k => match ops[i]? with
    | none => Stuck "ops"
    | some o => match roX P ops fr H o with
      | none => Stuck o.pos
      | some (p, v) => withOb p (vPutS (usedG ops o.dst) n fr o.dst v H fun fr' H' => vPl n ops rest fr' H' k)
  | .loud i js :: rest, fr, H, k => match ops[i]? with
    | none => Stuck "ops"
    | some o => vOp P S rc n ops o (fun fr' H' => vChk P ops fr' H' js (vPl n ops rest fr' H' k)) fr H

def vR (f0 : FuncId) (K n : Nat) (g : Operand) (ps : Array Tmp) (as bd : Code) (fr : Fr) (H : Heap) (Q : Post) : Prop :=
  match aeval fr g with
  | none => Stuck "range over what"
  | some gv => match aCallV P gv [.yld H.next] with
    | some (.call f args) => vF P S rc f args (H.alloc (.loop .ready none f0 fr n ps.toList as bd)) fun _ H2 => match H2.get H.next with
      | some (.loop st pd fn fr0 nt ps as bd) => bif st == .busy then Stuck "busy" else match pd with
        | none => Q .nor fr (H2.set H.next (.loop .exhausted pd fn fr0 nt ps as bd))
        | some c => rc f0 false false K n c fr (H2.set H.next (.loop .exhausted pd fn fr0 nt ps as bd)) Q
      | _ => Stuck "range record"
    | _ => Stuck "range call"

/-- A round, and what comes behind it. -/
def vThen (f : FuncId) (inR : Bool) (K n : Nat) (c : Code) (Q : Post) : Post := fun x fr' H' => match x with
  | .nor => forceS fr' H' fun fr' H' => rc f inR true K n c fr' H' Q
  | x => Q x fr' H'

def vBlk (id : Nat) (Q : Post) : Post := fun x fr' H' => match x with
  | .ex id' => bif Nat.beq id' id then Q .nor fr' H' else Q (.ex id') fr' H'
  | x => Q x fr' H'

def vSeq (f : FuncId) (inR : Bool) (K n : Nat) (y : Code) (Q : Post) : Post := fun x fr' H' => match x with
  | .nor => forceS fr' H' fun fr' H' => rc f inR false K n y fr' H' Q
  | x => Q x fr' H'

def vBack (li : LInv) (K : Nat) (fr : Fr) (H : Heap) (s : li.σ) (Q : Post) : Post := fun x fr' H' => match x with
  | .nor => ∃ s', li.inv s' ∧ li.mu s' < li.mu s ∧ vMs K (li.st s' fr H) fr' H'
  | x => Q x fr' H'

def vStep : VC := fun f inR begun K n c fr H Q =>
  match begun with
  | true => rc f inR false K n c fr H (vThen rc f inR K n c Q)
  | false => match c with
    | .skip => Q .nor fr H
    | .label _ => Q .nor fr H
    | .exit id => Q (.ex id) fr H
    | .ret => Q .ret fr H
    | .seq x y => rc f inR false K n x fr H (vSeq rc f inR K n y Q)
    | .cond x c d => match aeval fr x with
      | some (.bool t) => rc f inR false K n (bif t then c else d) fr H Q
      | some (.sB b) => (b = true → rc f inR false K n c fr H Q) ∧ (b = false → rc f inR false K n d fr H Q)
      | _ => Stuck "cond"
    | .block id c => rc f inR false K n c fr H (vBlk id Q)
    | .loop c => match L f (codeKey c) with
      | some li => ∃ s0, li.inv s0 ∧ vMs K (li.st s0 fr H) fr H ∧ ∀ s, li.inv s →
          impP (rngT rngV (frOf (li.st s fr H).1) ++ rngT rngO (li.st s fr H).2.t) (rc f inR false K n c (frOf (li.st s fr H).1) (li.st s fr H).2 (vBack li K fr H s Q))
      | none => rc f inR false K n c fr H (vThen rc f inR K n c Q)
    | .region _ ops false => vO P S rc n ops (List.range ops.size) fr H (Q .nor)
    | .region _ ops true => match plan P ops with
      | none => Stuck "plan"
      | some pl => vPl P S rc n ops pl fr H (Q .nor)
    | .rangeFunc g ps as bd => match inR with
      | true => Stuck "range in a round"
      | false => vR P S rc f K n g ps as bd fr H Q
    | _ => Stuck "code"

def vC : Nat → VC
  | 0 => fun _ _ _ _ _ _ _ _ _ => Stuck "fuel"
  | k + 1 => vStep P S L (vC k)

end
end
end Go.AM
