/- THE ABSTRACT MACHINE, 23d: what is owed: words. -/
import Derived.Test.YtdeoahhofhmgfaaAmJoin
set_option linter.unusedSimpArgs false
set_option linter.unusedVariables false
namespace Go.AM
noncomputable section

/-- The machine does not know on. -/
inductive Stuck (why : String) : Prop

abbrev KF := AV → Heap → Prop
abbrev KO := Fr → Heap → Prop

/-- A loop, with what holds at its rounds' heads. -/
structure LInv where
  σ : Type
  inv : σ → Prop
  st : σ → Fr → Heap → List (Nat × AV) × Heap
  mu : σ → Nat

abbrev VC := FuncId → Bool → Bool → Nat → Nat → Code → Fr → Heap → Post → Prop
/-- What is known of a call ahead: it hands back a value and leaves no trace; or what is owed for it. -/
inductive SumR where
  | val (v : AV)
  | fn (ob : Option Prop) (v : AV) (H : Heap)
  | path
  | gen (φ : KF → Prop)
abbrev SumP := FuncId → List AV → Heap → Option SumR
/-- Which loops have an invariant: by the function, the loop, and the state at a round's head (none there: one more round is played out). -/
abbrev LTab := FuncId → Nat → Fr → Heap → Option LInv

def withOb (o : Option Prop) (q : Prop) : Prop := match o with
  | none => q
  | some p => p ∧ q

def impP : List Prop → Prop → Prop
  | [], q => q
  | p :: ps, q => p → impP ps q

/-! ### What is known of terms -/
mutual
def CTy.Has : (c : CTy) → c.den → Prop
  | .int k, n => k.has n
  | .boo, _ => True
  | .txt, s => List.length (α := UInt8) s ≤ maxI
  | .sl r, rows => List.length (α := r.den) rows ≤ maxI ∧ ∀ row, List.Mem (α := r.den) row rows → RTy.Has r row
def RTy.Has : (r : RTy) → r.den → Prop
  | .one c, x => CTy.Has c x
  | .cons c r, x => CTy.Has c x.1 ∧ RTy.Has r x.2
end

mutual
def rngV : AV → List Prop
  | .sI k n => [k.has n]
  | .sS s => [s.length ≤ maxI]
  | .dsl r rows => [CTy.Has (.sl r) rows]
  | .agg cs => rngL cs
  | .tup cs => rngL cs
  | .iface _ v => rngV v
  | _ => []
def rngL : List AV → List Prop
  | [] => []
  | v :: vs => rngV v ++ rngL vs
end

def rngO : AObj → List Prop
  | .cells _ _ cs _ => rngL cs
  | .seq r rows _ => [∀ row, row ∈ rows → RTy.Has r row]
  | .smap _ _ kr vr m bs clk => [(m.map (·.1)).Nodup, ∀ p, p ∈ m → RTy.Has kr p.1 ∧ RTy.Has vr p.2, bs.length = m.length ∧ bs.Nodup ∧ ∀ b, b ∈ bs → b < clk]
  | _ => []

def rngT {α : Type} (f : α → List Prop) : T α → List Prop
  | .nil => []
  | .node l v r => (match v with
    | some x => f x
    | none => []) ++ rngT f l ++ rngT f r

def msOf (K : Nat) (p : List (Nat × AV) × Heap) (fr : Fr) (H : Heap) : Option (List Prop) := mS K (findRen K p.1 p.2 fr H) p.1 p.2 fr H

def vMs (K : Nat) (p : List (Nat × AV) × Heap) (fr : Fr) (H : Heap) : Prop :=
  match msOf K p fr H with
  | some ps => conjP ps
  | none => Stuck "match"

/-! ### A state is written out, that the kernel need not come to it again -/
section
universe u
variable {β : Sort u}

def natF (n : Nat) (c : Nat → β) : β := match n with
  | 0 => c 0
  | m + 1 => c (Nat.succ m)

def kindF (k : IntKind) (c : IntKind → β) : β := match k with
  | .i8 => c .i8
  | .i16 => c .i16
  | .i32 => c .i32
  | .i64 => c .i64
  | .u8 => c .u8
  | .u16 => c .u16
  | .u32 => c .u32
  | .u64 => c .u64

def boolF (b : Bool) (c : Bool → β) : β := match b with
  | true => c true
  | false => c false

def optF (b : Option Nat) (c : Option Nat → β) : β := match b with
  | none => c none
  | some n => natF n fun n => c (some n)

mutual
def AV.force : AV → (AV → β) → β
  | .sI k n, c => kindF k fun k => c (.sI k n)
  | .int k n, c => kindF k fun k => c (.int k n)
  | .ptr i off, c => natF i fun i => natF off fun off => c (.ptr i off)
  | .slc i off len cap ex, c => natF i fun i => natF off fun off => natF len fun len => natF cap fun cap => boolF ex fun ex => c (.slc i off len cap ex)
  | .map i, c => natF i fun i => c (.map i)
  | .yld i, c => natF i fun i => c (.yld i)
  | .sw i, c => natF i fun i => c (.sw i)
  | .ss i lo len, c => natF i fun i => c (.ss i lo len)
  | .eptr i k j, c => natF i fun i => natF j fun j => c (.eptr i k j)
  | .dptr r row j, c => natF j fun j => c (.dptr r row j)
  | .agg cs, c => AV.forceL cs fun cs => c (.agg cs)
  | .tup cs, c => AV.forceL cs fun cs => c (.tup cs)
  | .iface t v, c => AV.force v fun v => c (.iface t v)
  | .fn f a b, c => AV.forceL a fun a => AV.forceL b fun b => c (.fn f a b)
  | v, c => c v
def AV.forceL : List AV → (List AV → β) → β
  | [], c => c []
  | v :: vs, c => AV.force v fun v => AV.forceL vs fun vs => c (v :: vs)
end

/-- The same, where it need not go down: without the recursion over both kinds. -/
def AV.forceF (v : AV) (c : AV → β) : β := match v with
  | .sI k n => kindF k fun k => c (.sI k n)
  | .int k n => kindF k fun k => c (.int k n)
  | .ptr i off => natF i fun i => natF off fun off => c (.ptr i off)
  | .slc i off len cap ex => natF i fun i => natF off fun off => natF len fun len => natF cap fun cap => boolF ex fun ex => c (.slc i off len cap ex)
  | .map i => natF i fun i => c (.map i)
  | .agg cs => AV.force (.agg cs) c
  | .tup cs => AV.force (.tup cs) c
  | .iface t v => AV.force (.iface t v) c
  | .fn f a b => AV.force (.fn f a b) c
  | .yld i => natF i fun i => c (.yld i)
  | .sw i => natF i fun i => c (.sw i)
  | .ss i lo len => natF i fun i => natF lo fun lo => natF len fun len => c (.ss i lo len)
  | .eptr i k j => natF i fun i => natF j fun j => c (.eptr i k j)
  | .dptr r row j => natF j fun j => c (.dptr r row j)
  | v => c v

def forceC (cs : List AV) : (List AV → β) → β :=
  List.rec (motive := fun _ => (List AV → β) → β) (fun c => c []) (fun v _ ih c => v.forceF fun v => ih fun vs => c (v :: vs)) cs

def forceT {α : Type} (f : α → (α → β) → β) : T α → (T α → β) → β
  | .nil, c => c .nil
  | .node l v r, c => forceT f l fun l => forceT f r fun r => match v with
    | none => c (.node l none r)
    | some x => f x fun x => c (.node l (some x) r)

def forceE : List Ent → (List Ent → β) → β
  | [], c => c []
  | e :: es, c => AV.force e.key fun k => AV.force e.val fun v => natF e.born fun b => forceE es fun es => c ({ key := k, val := v, born := b } :: es)

def AObj.force (o : AObj) (c : AObj → β) : β := match o with
  | .cells ro es cs ty => boolF ro fun ro => natF es fun es => optF ty fun ty => forceC cs fun cs => c (.cells ro es cs ty)
  | .map es clock => natF clock fun clock => forceE es fun es => c (.map es clock)
  | .loop st pd f fr n ps as bd => forceT AV.forceF fr fun fr => c (.loop st pd f fr n ps as bd)
  | o => c o

/-- Written out, told apart from what comes next: so the kernel finds again what it wrote out before. -/
def AV.box (v : AV) : Option AV := AV.forceF v some
def AObj.box (o : AObj) : Option AObj := AObj.force o some
def boxT {α : Type} (f : α → Option α) : T α → Option (T α)
  | .nil => some .nil
  | .node l v r => match boxT f l with
    | none => none
    | some l => match boxT f r with
      | none => none
      | some r => match v with
        | none => some (.node l none r)
        | some x => match f x with
          | none => none
          | some x => some (.node l (some x) r)

def forceS (fr : Fr) (H : Heap) (c : Fr → Heap → β) : β := match boxT AV.box fr with
  | none => c fr H
  | some fr => match boxT AObj.box H.t with
    | none => c fr H
    | some t => natF H.next fun n => natF H.d fun d => c fr { t := t, next := n, d := d }
end

def firstReg : Code → Option Nat
  | .region id _ _ => some id
  | .seq a b => match firstReg a with
    | some i => some i
    | none => firstReg b
  | .cond _ a b => match firstReg a with
    | some i => some i
    | none => firstReg b
  | .block _ a => firstReg a
  | .loop a => firstReg a
  | .scope a => firstReg a
  | .rangeFunc _ _ a b => match firstReg a with
    | some i => some i
    | none => firstReg b
  | _ => none

def codeKey (c : Code) : Nat := (firstReg c).getD 1000000

/-- Does somebody hang on this temporary? -/
def usedG (ops : Array Oper) (dst : Option Tmp) : Bool := match dst with
  | none => false
  | some d => ops.toList.any fun o => match o.guard with
    | none => false
    | some (j, _) => match (ops[j]?).bind (·.dst) with
      | some d' => Nat.beq d' d
      | none => false

def allQ {α : Type} (f : α → Prop) : List α → Prop
  | [] => True
  | a :: l => match l with
    | [] => f a
    | l => f a ∧ allQ f l

mutual
/-- The very same value; what is owed for it. -/
def sameA : AV → AV → Option (List Prop)
  | .sI k n, v => match v with
    | .sI k' n' => bif decide (k = k') then some [n = n'] else none
    | _ => none
  | .sB b, v => match v with
    | .sB b' => some [b = b']
    | _ => none
  | .sS s, v => match v with
    | .sS s' => some [s = s']
    | _ => none
  | .dsl r rows, v => match v with
    | .dsl r' rows' => if h : RTy.same r' r = true then some [rows = castRows (RTy.same_eq h) rows'] else none
    | _ => none
  | .eptr i k j, v => match v with
    | .eptr i' k' j' => bif Nat.beq i i' && Nat.beq j j' then some [k = k'] else none
    | _ => none
  | .ss i lo len, v => match v with
    | .ss i' lo' len' => bif Nat.beq i i' then some [lo = lo', len = len'] else none
    | _ => none
  | .sw i, v => match v with
    | .sw i' => bif Nat.beq i i' then some [] else none
    | _ => none
  | .agg a, v => match v with
    | .agg b => sameL a b
    | _ => none
  | .tup a, v => match v with
    | .tup b => sameL a b
    | _ => none
  | .iface t u, v => match v with
    | .iface t' u' => bif Nat.beq t t' then sameA u u' else none
    | _ => none
  | u, v => bif AV.same u v then some [] else none
def sameL : List AV → List AV → Option (List Prop)
  | [], [] => some []
  | a :: x, b :: y => andP (sameA a b) (sameL x y)
  | _, _ => none
end

def sameP (u v : AV) : Option (List Prop) := match u, v with
  | .bool b, .sB c => some [b = c]
  | u, v => sameA u v

section
variable (P : Program)
/-- What only looks. -/
def roX (ops : Array Oper) (fr : Fr) (H : Heap) (o : Oper) : Option (Option Prop × AV) :=
  match aWant ops fr o with
  | some true => match aopC P fr H o with
    | some (p, .val v _) => some (p, v)
    | _ => none
  | some false => some (none, .tup [])
  | none => none

def vChk (ops : Array Oper) (fr : Fr) (H : Heap) (js : List Nat) (q : Prop) : Prop :=
  match js with
  | [] => q
  | j :: js => match ops[j]? with
    | none => vChk ops fr H js q
    | some oj => match roX P ops fr H oj with
      | none => Stuck "again"
      | some (p, v) => withOb p (match oj.dst with
        | none => vChk ops fr H js q
        | some d => match fr.get d with
          | none => Stuck "again: unknown"
          | some u => match sameP u v with
            | none => Stuck "again: not the same"
            | some ps => match ps with
              | [] => vChk ops fr H js q
              | ps => conjP ps ∧ vChk ops fr H js q)

end
end
end Go.AM
