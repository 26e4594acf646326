/- THE ABSTRACT MACHINE, 23d: what is owed: words. -/
import Derived.Test.YtdeoahhofhmgfaaAmG
import Derived.Test.YtdeoahhofhmgfaaAmE
set_option linter.unusedSimpArgs false
set_option linter.unusedVariables false
namespace Go.AM
noncomputable section

/-- The machine does not know on. -/
inductive Stuck (why : String) : Prop

abbrev KF := AV → Heap → Prop
abbrev KO := Fr → Heap → Prop

/-- A loop, with what holds at its rounds' heads. -/
structure LInv where
  σ : Type
  inv : σ → Prop
  st : σ → Fr → Heap → List (Nat × AV) × Heap
  mu : σ → Nat

abbrev VC := FuncId → Bool → Bool → Nat → Nat → Code → Fr → Heap → Post → Prop
/-- What is known of a call ahead: it hands back a value and leaves no trace; or what is owed for it. -/
inductive SumR where
  | val (v : AV)
  | fn (ob : Option Prop) (v : AV) (H : Heap)
  | path
  | gen (φ : KF → Prop)
abbrev SumP := FuncId → List AV → Heap → Option SumR
/-- Which loops have an invariant: by the function, the loop, and the state at a round's head (none there: one more round is played out). -/
abbrev LTab := FuncId → Nat → Fr → Heap → Option LInv

def withOb (o : Option Prop) (q : Prop) : Prop := match o with
  | none => q
  | some p => p ∧ q

def impP : List Prop → Prop → Prop
  | [], q => q
  | p :: ps, q => p → impP ps q

/-! ### What is known of terms -/
mutual
def CTy.Has : (c : CTy) → c.den → Prop
  | .int k, n => k.has n
  | .boo, _ => True
  | .txt, s => List.length (α := UInt8) s ≤ maxI
  | .sl r, rows => List.length (α := r.den) rows ≤ maxI ∧ ∀ row, List.Mem (α := r.den) row rows → RTy.Has r row
def RTy.Has : (r : RTy) → r.den → Prop
  | .one c, x => CTy.Has c x
  | .cons c r, x => CTy.Has c x.1 ∧ RTy.Has r x.2
end

mutual
def rngV : AV → List Prop
  | .sI k n => [k.has n]
  | .sS s => [s.length ≤ maxI]
  | .dsl r rows => [CTy.Has (.sl r) rows]
  | .agg cs => rngL cs
  | .tup cs => rngL cs
  | .iface _ v => rngV v
  | _ => []
def rngL : List AV → List Prop
  | [] => []
  | v :: vs => rngV v ++ rngL vs
end

def rngO : AObj → List Prop
  | .cells _ _ cs _ => rngL cs
  | .seq r rows _ => [∀ row, row ∈ rows → RTy.Has r row]
  | .smap _ _ kr vr m bs clk => [(m.map (·.1)).Nodup, ∀ p, p ∈ m → RTy.Has kr p.1 ∧ RTy.Has vr p.2, bs.length = m.length ∧ bs.Nodup ∧ ∀ b, b ∈ bs → b < clk]
  | _ => []

def rngT {α : Type} (f : α → List Prop) : T α → List Prop
  | .nil => []
  | .node l v r => (match v with
    | some x => f x
    | none => []) ++ rngT f l ++ rngT f r

def msOf (K : Nat) (p : List (Nat × AV) × Heap) (fr : Fr) (H : Heap) : Option (List Prop) := mS K (findRen K p.1 p.2 fr H) p.1 p.2 fr H

def vMs (K : Nat) (p : List (Nat × AV) × Heap) (fr : Fr) (H : Heap) : Prop :=
  match msOf K p fr H with
  | some ps => conjP ps
  | none => Stuck "match"

/-! ### A state is written out, that the kernel need not come to it again -/
section
universe u
variable {β : Sort u}

def natF (n : Nat) (c : Nat → β) : β := match n with
  | 0 => c 0
  | m + 1 => c (Nat.succ m)

def kindF (k : IntKind) (c : IntKind → β) : β := match k with
  | .i8 => c .i8
  | .i16 => c .i16
  | .i32 => c .i32
  | .i64 => c .i64
  | .u8 => c .u8
  | .u16 => c .u16
  | .u32 => c .u32
  | .u64 => c .u64

def boolF (b : Bool) (c : Bool → β) : β := match b with
  | true => c true
  | false => c false

def intF (n : Int) (c : Int → β) : β := match n with
  | .ofNat k => natF k fun k => c (.ofNat k)
  | .negSucc k => natF k fun k => c (.negSucc k)

def optF (b : Option Nat) (c : Option Nat → β) : β := match b with
  | none => c none
  | some n => natF n fun n => c (some n)

mutual
def AV.force : AV → (AV → β) → β
  | .sI k n, c => kindF k fun k => c (.sI k n)
  | .int k n, c => kindF k fun k => intF n fun n => c (.int k n)
  | .bool b, c => boolF b fun b => c (.bool b)
  | .ptr i off, c => natF i fun i => natF off fun off => c (.ptr i off)
  | .slc i off len cap ex, c => natF i fun i => natF off fun off => natF len fun len => natF cap fun cap => boolF ex fun ex => c (.slc i off len cap ex)
  | .map i, c => natF i fun i => c (.map i)
  | .yld i, c => natF i fun i => c (.yld i)
  | .sw i, c => natF i fun i => c (.sw i)
  | .ss i lo len, c => natF i fun i => c (.ss i lo len)
  | .eptr i k j, c => natF i fun i => natF j fun j => c (.eptr i k j)
  | .dptr r row j, c => natF j fun j => c (.dptr r row j)
  | .agg cs, c => AV.forceL cs fun cs => c (.agg cs)
  | .tup cs, c => AV.forceL cs fun cs => c (.tup cs)
  | .iface t v, c => AV.force v fun v => c (.iface t v)
  | .fn f a b, c => AV.forceL a fun a => AV.forceL b fun b => c (.fn f a b)
  | v, c => c v
def AV.forceL : List AV → (List AV → β) → β
  | [], c => c []
  | v :: vs, c => AV.force v fun v => AV.forceL vs fun vs => c (v :: vs)
end

/-- The same, where it need not go down: without the recursion over both kinds. -/
def AV.forceF (v : AV) (c : AV → β) : β := match v with
  | .sI k n => kindF k fun k => c (.sI k n)
  | .int k n => kindF k fun k => intF n fun n => c (.int k n)
  | .bool b => boolF b fun b => c (.bool b)
  | .ptr i off => natF i fun i => natF off fun off => c (.ptr i off)
  | .slc i off len cap ex => natF i fun i => natF off fun off => natF len fun len => natF cap fun cap => boolF ex fun ex => c (.slc i off len cap ex)
  | .map i => natF i fun i => c (.map i)
  | .agg cs => AV.force (.agg cs) c
  | .tup cs => AV.force (.tup cs) c
  | .iface t v => AV.force (.iface t v) c
  | .fn f a b => AV.force (.fn f a b) c
  | .yld i => natF i fun i => c (.yld i)
  | .sw i => natF i fun i => c (.sw i)
  | .ss i lo len => natF i fun i => c (.ss i lo len)
  | .eptr i k j => natF i fun i => natF j fun j => c (.eptr i k j)
  | .dptr r row j => natF j fun j => c (.dptr r row j)
  | v => c v

def forceC (cs : List AV) : (List AV → β) → β :=
  List.rec (motive := fun _ => (List AV → β) → β) (fun c => c []) (fun v _ ih c => v.forceF fun v => ih fun vs => c (v :: vs)) cs

def forceT {α : Type} (f : α → (α → β) → β) : T α → (T α → β) → β
  | .nil, c => c .nil
  | .node l v r, c => forceT f l fun l => forceT f r fun r => match v with
    | none => c (.node l none r)
    | some x => f x fun x => c (.node l (some x) r)

def forceE : List Ent → (List Ent → β) → β
  | [], c => c []
  | e :: es, c => AV.force e.key fun k => AV.force e.val fun v => natF e.born fun b => forceE es fun es => c ({ key := k, val := v, born := b } :: es)

def AObj.force (o : AObj) (c : AObj → β) : β := match o with
  | .cells ro es cs ty => boolF ro fun ro => natF es fun es => optF ty fun ty => forceC cs fun cs => c (.cells ro es cs ty)
  | .map es clock => natF clock fun clock => forceE es fun es => c (.map es clock)
  | .loop st pd f fr n ps as bd => forceT AV.forceF fr fun fr => c (.loop st pd f fr n ps as bd)
  | o => c o

/-- Written out, told apart from what comes next: so the kernel finds again what it wrote out before. -/
def AV.box (v : AV) : Option AV := AV.forceF v some
def AObj.box (o : AObj) : Option AObj := AObj.force o some
def boxT {α : Type} (f : α → Option α) : T α → Option (T α)
  | .nil => some .nil
  | .node l v r => match boxT f l with
    | none => none
    | some l => match boxT f r with
      | none => none
      | some r => match v with
        | none => some (.node l none r)
        | some x => match f x with
          | none => none
          | some x => some (.node l (some x) r)

def forceS (fr : Fr) (H : Heap) (c : Fr → Heap → β) : β := match boxT AV.box fr with
  | none => c fr H
  | some fr => match boxT AObj.box H.t with
    | none => c fr H
    | some t => natF H.next fun n => natF H.d fun d => c fr { t := t, next := n, d := d }
end

def firstReg : Code → Option Nat
  | .region id _ _ => some id
  | .seq a b => match firstReg a with
    | some i => some i
    | none => firstReg b
  | .cond _ a b => match firstReg a with
    | some i => some i
    | none => firstReg b
  | .block _ a => firstReg a
  | .loop a => firstReg a
  | .scope a => firstReg a
  | .rangeFunc _ _ a b => match firstReg a with
    | some i => some i
    | none => firstReg b
  | _ => none

def codeKey (c : Code) : Nat := (firstReg c).getD 1000000

/-- Does somebody hang on this temporary? -/
def usedG (ops : Array Oper) (dst : Option Tmp) : Bool := match dst with
  | none => false
  | some d => ops.toList.any fun o => match o.guard with
    | none => false
    | some (j, _) => match (ops[j]?).bind (·.dst) with
      | some d' => Nat.beq d' d
      | none => false

def allQ {α : Type} (f : α → Prop) : List α → Prop
  | [] => True
  | a :: l => match l with
    | [] => f a
    | l => f a ∧ allQ f l

mutual
/-- The very same value; what is owed for it. -/
def sameA : AV → AV → Option (List Prop)
  | .sI k n, v => match v with
    | .sI k' n' => bif decide (k = k') then some [n = n'] else none
    | _ => none
  | .sB b, v => match v with
    | .sB b' => some [b = b']
    | _ => none
  | .sS s, v => match v with
    | .sS s' => some [s = s']
    | _ => none
  | .dsl r rows, v => match v with
    | .dsl r' rows' => if h : RTy.same r' r = true then some [rows = castRows (RTy.same_eq h) rows'] else none
    | _ => none
  | .eptr i k j, v => match v with
    | .eptr i' k' j' => bif Nat.beq i i' && Nat.beq j j' then some [k = k'] else none
    | _ => none
  | .ss i lo len, v => match v with
    | .ss i' lo' len' => bif Nat.beq i i' then some [lo = lo', len = len'] else none
    | _ => none
  | .sw i, v => match v with
    | .sw i' => bif Nat.beq i i' then some [] else none
    | _ => none
  | .agg a, v => match v with
    | .agg b => sameL a b
    | _ => none
  | .tup a, v => match v with
    | .tup b => sameL a b
    | _ => none
  | .iface t u, v => match v with
    | .iface t' u' => bif Nat.beq t t' then sameA u u' else none
    | _ => none
  | u, v => bif AV.same u v then some [] else none
def sameL : List AV → List AV → Option (List Prop)
  | [], [] => some []
  | a :: x, b :: y => andP (sameA a b) (sameL x y)
  | _, _ => none
end

def sameP (u v : AV) : Option (List Prop) := match u, v with
  | .bool b, .sB c => some [b = c]
  | u, v => sameA u v

section
variable (P : Program)
/-- What only looks. -/
def roX (ops : Array Oper) (fr : Fr) (H : Heap) (o : Oper) : Option (Option Prop × AV) :=
  match aWant ops fr o with
  | some true => match aopC P fr H o with
    | some (p, .val v _) => some (p, v)
    | _ => none
  | some false => some (none, .tup [])
  | none => none

def vChk (ops : Array Oper) (fr : Fr) (H : Heap) (js : List Nat) (q : Prop) : Prop :=
  match js with
  | [] => q
  | j :: js => match ops[j]? with
    | none => vChk ops fr H js q
    | some oj => match roX P ops fr H oj with
      | none => Stuck "again"
      | some (p, v) => withOb p (match oj.dst with
        | none => vChk ops fr H js q
        | some d => match fr.get d with
          | none => Stuck "again: unknown"
          | some u => match sameP u v with
            | none => Stuck "again: not the same"
            | some ps => match ps with
              | [] => vChk ops fr H js q
              | ps => conjP ps ∧ vChk ops fr H js q)

end
end
end Go.AM
set_option linter.unusedSimpArgs false
set_option linter.unusedVariables false
namespace Go.AM
noncomputable section

def XT.beq : XT → XT → Bool
  | .nor, .nor => true
  | .ret, .ret => true
  | .ex i, .ex j => Nat.beq i j
  | _, _ => false

/-- A way out: when; the state there. -/
structure Out where
  g : Option Bool
  fr : Fr
  H : Heap
  ds : Nat
  hs : Nat

/-- What is owed; how many names there were where the ways parted; the ways out, each with the slots and the blocks that may differ from there. -/
structure MR where
  ob : Option Prop
  kb : Nat
  outs : List (XT × Out)

def Out.on (o : Out) : Prop := o.g.getD true = true

def andOb : Option Prop → Option Prop → Option Prop
  | none, q => q
  | some p, none => some p
  | some p, some q => some (p ∧ q)

def impOb (g : Bool) : Option Prop → Option Prop
  | none => none
  | some p => some (g = true → p)

def iteOb (b : Bool) : Option Prop → Option Prop → Option Prop
  | none, none => none
  | some p, none => some (b = true → p)
  | none, some q => some (b = false → q)
  | some p, some q => some ((b = true → p) ∧ (b = false → q))

def addOb (p : Option Prop) (R : MR) : MR := ⟨andOb p R.ob, R.kb, R.outs⟩

def one (x : XT) (fr : Fr) (H : Heap) : MR := ⟨none, H.next, [(x, ⟨none, fr, H, 0, 0⟩)]⟩

def lkO (x : XT) : List (XT × Out) → Option Out
  | [] => none
  | p :: l => bif XT.beq p.1 x then some p.2 else lkO x l

def dropO (x : XT) : List (XT × Out) → List (XT × Out)
  | [] => []
  | p :: l => bif XT.beq p.1 x then dropO x l else p :: dropO x l

def gL (b : Bool) : Option Bool → Option Bool
  | none => some b
  | some g => some (b && g)
def gR (b : Bool) : Option Bool → Option Bool
  | none => some (!b)
  | some g => some (!b && g)
def gB (b : Bool) : Option Bool → Option Bool → Option Bool
  | none, none => none
  | some g, none => some (!b || g)
  | none, some g => some (b || g)
  | some g, some h => some (bif b then g else h)

def joinL (b : Bool) (K : Nat) (L2 : List (XT × Out)) : List (XT × Out) → Option (List (XT × Out))
  | [] => some []
  | p :: l => match lkO p.1 L2 with
    | none => (joinL b K L2 l).map ((p.1, { p.2 with g := gL b p.2.g }) :: ·)
    | some o2 => match join b K (p.2.ds ||| o2.ds) (p.2.hs ||| o2.hs) p.2.fr p.2.H o2.fr o2.H with
      | none => none
      | some s => (joinL b K L2 l).map ((p.1, ⟨gB b p.2.g o2.g, s.1, s.2, p.2.ds ||| o2.ds, p.2.hs ||| o2.hs⟩) :: ·)

def restL (b : Bool) (L1 : List (XT × Out)) : List (XT × Out) → List (XT × Out)
  | [] => []
  | p :: l => match lkO p.1 L1 with
    | none => (p.1, { p.2 with g := gR b p.2.g }) :: restL b L1 l
    | some _ => restL b L1 l

def joinLs (b : Bool) (K : Nat) (L1 L2 : List (XT × Out)) : Option (List (XT × Out)) := (joinL b K L2 L1).map fun l => l ++ restL b L1 L2

def Heap.fresh (H : Heap) : Heap := { t := H.t, next := H.next, d := 0 }

/-- A way out, told from a state further back. -/
def reb (m h0 d0 : Nat) (p : XT × Out) : XT × Out := (p.1, { p.2 with ds := m, hs := h0 ||| p.2.H.d, H := { t := p.2.H.t, next := p.2.H.next, d := d0 ||| p.2.H.d } })

def dJoin (b : Bool) (K d0 m : Nat) (R1 R2 : Option MR) : Option MR := match R1 with
  | none => none
  | some a => match R2 with
    | none => none
    | some c => (joinLs b K (a.outs.map (reb m 0 d0)) (c.outs.map (reb m 0 d0))).map fun l => ⟨iteOb b a.ob c.ob, K, l⟩

def dSeq (my : Nat) (R : MR) (cont : Fr → Heap → Option MR) : Option MR := match lkO .nor R.outs with
  | none => some R
  | some o => match o.g with
    | none => (cont o.fr o.H).map (addOb R.ob)
    | some g => match cont o.fr o.H.fresh with
      | none => none
      | some R2 => (joinLs g R.kb (R2.outs.map (reb (o.ds ||| my) o.hs o.H.d)) (dropO .nor R.outs)).map fun l => ⟨andOb R.ob (impOb g R2.ob), R.kb, l⟩

def dBlk (id : Nat) (R : MR) : Option MR := match lkO (.ex id) R.outs with
  | none => some R
  | some o => match o.g with
    | none => some ⟨R.ob, R.kb, [(.nor, o)]⟩
    | some g => (joinLs g R.kb [(.nor, { o with g := none })] (dropO (.ex id) R.outs)).map fun l => ⟨R.ob, R.kb, l⟩

/-- The slots that code fills. -/
def omask : List Oper → Nat
  | [] => 0
  | o :: l => match o.dst with
    | none => omask l
    | some d => 2 ^ d ||| omask l

def rmask (ops : Array Oper) : Nat := omask ops.toList

def dmask : Code → Nat
  | .region _ ops _ => rmask ops
  | .seq a b => dmask a ||| dmask b
  | .cond _ a b => dmask a ||| dmask b
  | .block _ a => dmask a
  | .scope a => dmask a
  | .loop a => dmask a
  | _ => 0

/-- A state written out, ahead of going on. -/
def forced (fr : Fr) (H : Heap) (c : Fr → Heap → Option MR) : Option MR := forceS fr H c

abbrev MC := Bool → Nat → Code → Fr → Heap → Option MR

section
variable (P : Program) (S : SumP) (rc : MC)

def dF (f : FuncId) (args : List AV) (H : Heap) : Option (Option Prop × AV × Heap) :=
  match S f args H with
  | some (.val v) => some (none, v, H)
  | some (.fn ob v H') => bif Nat.ble H.next H'.next then some (ob, v, { t := H'.t, next := H'.next, d := H.d ||| (2 ^ H'.next - 1) }) else none
  | some (.gen _) => none
  | some .path => none
  | none => match P.funcs[f]? with
    | none => none
    | some fn => match fn.body with
      | none => none
      | some c => match rc false (args.length + (fn.ntmps - args.length)) c (initFr args 0 .nil) H with
        | none => none
        | some R => match dSeq 0 R fun fr H => some (one .ret fr H) with
          | none => none
          | some R' => match lkO .ret R'.outs with
            | none => none
            | some o => match dropO .ret R'.outs with
              | [] => (ares P fn o.fr o.H).map fun v => (R'.ob, v, o.H)
              | _ => none

def dPutS (fz g : Bool) (m n : Nat) (fr : Fr) (dst : Option Tmp) (v : AV) (H : Heap) (k : Fr → Heap → Option MR) : Option MR :=
  match v with
  | .sB b => match g with
    | false => (aput n fr dst (.sB b)).bind fun f => k f H
    | true => match aput n fr dst (.bool true) with
      | none => none
      | some f1 => match aput n fr dst (.bool false) with
        | none => none
        | some f2 => bif fz then dJoin b H.next H.d m (k f1 H.fresh) (k f2 H.fresh) else dJoin b H.next H.d m (k f1 H) (k f2 H)
  | v => (aput n fr dst v).bind fun f => k f H

def dOp (fz : Bool) (m n : Nat) (ops : Array Oper) (o : Oper) (k : Fr → Heap → Option MR) (fr : Fr) (H : Heap) : Option MR :=
  match aWant ops fr o with
  | none => none
  | some false => (aput n fr o.dst (.tup [])).bind fun f => k f H
  | some true => match aopC P fr H o with
    | none => none
    | some (ob, r) => match r with
      | .val v H' => (dPutS fz (usedG ops o.dst) m n fr o.dst v H' k).map (addOb ob)
      | .call f args => match dF P S rc f args H with
        | none => none
        | some (ob2, v, H') => (dPutS fz (usedG ops o.dst) m n fr o.dst v H' k).map (addOb (andOb ob ob2))
      | _ => none

def dO (m n : Nat) (ops : Array Oper) : List Nat → Fr → Heap → Option MR
  | [], fr, H => some (one .nor fr H)
  | i :: rest, fr, H => match ops[i]? with
    | none => none
    | some o => dOp P S rc true m n ops o (fun fr' H' => dO m n ops rest fr' H') fr H

/-- What must be said again. -/
def chkOb (ops : Array Oper) (fr : Fr) (H : Heap) : List Nat → Option Prop
  | [] => none
  | j :: js => match ops[j]? with
    | none => chkOb ops fr H js
    | some oj => match roX P ops fr H oj with
      | none => some False
      | some (p, v) => andOb p (match oj.dst with
        | none => chkOb ops fr H js
        | some d => match fr.get d with
          | none => some False
          | some u => match sameP u v with
            | none => some False
            | some [] => chkOb ops fr H js
            | some (q :: qs) => andOb (some (conjP (q :: qs))) (chkOb ops fr H js))

/-- All that a frame holds. -/
def T.toL {α : Type} (a b : Nat) : T α → List (Nat × α)
  | .nil => []
  | .node l v r => match v with
    | none => T.toL (2 * a) (a + b) l ++ T.toL (2 * a) (2 * a + b) r
    | some x => (b, x) :: (T.toL (2 * a) (a + b) l ++ T.toL (2 * a) (2 * a + b) r)

/-- The only way out, that is always taken. -/
def soleO (R : MR) : Option Out := match R.outs with
  | [] => none
  | p :: l => match l with
    | [] => match p.1 with
      | .nor => match p.2.g with
        | none => some p.2
        | some _ => none
      | _ => none
    | _ => none

def listOb : List Prop → Option Prop
  | [] => none
  | p :: ps => some (conjP (p :: ps))

def someB (o : Option AObj) : Bool := match o with
  | some _ => true
  | none => false

/-- All blocks, but those that nobody turned since. -/
def mOsF (d K : Nat) (r : Ren) (H0 H : Heap) : List Nat → Option (List Prop)
  | [] => some []
  | i :: is => andP (match H0.get i with
      | none => some []
      | some o => bif Nat.blt i K && !(Nat.testBit d i) && someB (H.get i) && selfO K o then some [] else match lk r i with
        | none => none
        | some s => mO r o s (s.id?.bind H.get)) (mOsF d K r H0 H is)

def mSF (d K : Nat) (r : Ren) (fl : List (Nat × AV)) (H0 : Heap) (fr : Fr) (H : Heap) : Option (List Prop) :=
  bif rootsOk r K && Nat.ble K H0.next && Nat.ble K H.next && distinct r && keysOk r H0.next && subsOk H0 r && T.allK (fun i => Nat.blt i H0.next) H0.t then
    andP (mF r fr fl) (mOsF d K r H0 H (List.range H0.next))
  else none

/-- Two roads to the same: what is owed that the second one is the first one. -/
def dBoth (m : Nat) (H : Heap) (A B : MR) : Option MR := match soleO A with
  | none => none
  | some oa => match soleO B with
    | none => none
    | some ob => match mSF (oa.H.d ||| ob.H.d) H.next (findRenD (oa.H.d ||| ob.H.d) H.next (T.toL 1 0 oa.fr) oa.H ob.fr ob.H) (T.toL 1 0 oa.fr) oa.H ob.fr ob.H with
      | none => none
      | some ps => some ⟨andOb A.ob (andOb B.ob (listOb ps)), H.next, A.outs.map (reb m 0 H.d)⟩

def dPl (m n : Nat) (ops : Array Oper) : Pl → Fr → Heap → Option MR
  | .done, fr, H => some (one .nor fr H)
  | .ro i rest, fr, H => match ops[i]? with
    | none => none
    | some o => match roX P ops fr H o with
      | none => none
      | some (p, v) => (dPutS false (usedG ops o.dst) m n fr o.dst v H fun fr' H' => dPl m n ops rest fr' H').map (addOb p)
  | .loud i js rest, fr, H => match ops[i]? with
    | none => none
    | some o => dOp P S rc false m n ops o (fun fr' H' => (dPl m n ops rest fr' H').map (addOb (chkOb P ops fr' H' js))) fr H
  | .both a b, fr, H => match dPl m n ops a fr H.fresh with
    | none => none
    | some A => match dPl m n ops b fr H.fresh with
      | none => none
      | some B => dBoth m H A B

/-- One round, and on. -/
def dRound (n : Nat) (c : Code) (fr : Fr) (H : Heap) : Option MR := match rc false n c fr H with
  | none => none
  | some R => match lkO .nor R.outs with
    | none => some R
    | some o => match o.g with
      | none => (forced o.fr o.H fun fr' H' => rc true n c fr' H').map (addOb R.ob)
      | some _ => none

def dStep : MC := fun begun n c fr H =>
  match begun with
  | true => dRound rc n c fr H
  | false => match c with
    | .skip => some (one .nor fr H)
    | .label _ => some (one .nor fr H)
    | .exit id => some (one (.ex id) fr H)
    | .ret => some (one .ret fr H)
    | .seq x y => match rc false n x fr H with
      | none => none
      | some R => dSeq (dmask y) R fun fr' H' => forced fr' H' fun fr' H' => rc false n y fr' H'
    | .cond x c d => match aeval fr x with
      | some (.bool t) => rc false n (bif t then c else d) fr H
      | some (.sB b) => dJoin b H.next H.d (dmask c ||| dmask d) (rc false n c fr H.fresh) (rc false n d fr H.fresh)
      | _ => none
    | .block id c => match rc false n c fr H with
      | none => none
      | some R => dBlk id R
    | .loop c => dRound rc n c fr H
    | .region _ ops false => dO P S rc (rmask ops) n ops (List.range ops.size) fr H
    | .region _ ops true => match plan P ops with
      | none => none
      | some pl => dPl P S rc (rmask ops) n ops pl fr H
    | .scope c => rc false n c fr H
    | _ => none

def dC : Nat → MC
  | 0 => fun _ _ _ _ _ => none
  | k + 1 => dStep P S (dC k)
end

/-- What is owed at the ways out. -/
def outsP (Q : Post) : List (XT × Out) → Prop
  | [] => True
  | p :: l => match l with
    | [] => match p.2.g with
      | none => Q p.1 p.2.fr p.2.H
      | some g => g = true → Q p.1 p.2.fr p.2.H
    | l => (match p.2.g with
      | none => Q p.1 p.2.fr p.2.H
      | some g => g = true → Q p.1 p.2.fr p.2.H) ∧ outsP Q l
end
end Go.AM
set_option linter.unusedSimpArgs false
set_option linter.unusedVariables false
namespace Go.AM
open Go.RowKit
universe u

theorem withOb_inv {o : Option Prop} {q : Prop} (h : withOb o q) : obOk o ∧ q := by
  cases o with
  | none => exact ⟨trivial, h⟩
  | some p => exact h

theorem impP_inv : ∀ {ps : List Prop} {q : Prop}, impP ps q → AllP ps → q
  | [], q, h, _ => h
  | p :: ps, q, h, hp => impP_inv (h hp.1) hp.2

theorem allP_app : ∀ {ps qs : List Prop}, AllP ps → AllP qs → AllP (ps ++ qs)
  | [], qs, _, h => h
  | p :: ps, qs, h, k => ⟨h.1, allP_app h.2 k⟩

theorem natF_eq {β : Sort u} (n : Nat) (c : Nat → β) : natF n c = c n := by cases n <;> rfl
theorem intF_eq {β : Sort u} (n : Int) (c : Int → β) : intF n c = c n := by cases n <;> simp only [intF, natF_eq]
theorem kindF_eq {β : Sort u} (k : IntKind) (c : IntKind → β) : kindF k c = c k := by cases k <;> rfl
theorem boolF_eq {β : Sort u} (k : Bool) (c : Bool → β) : boolF k c = c k := by cases k <;> rfl
theorem optF_eq {β : Sort u} (k : Option Nat) (c : Option Nat → β) : optF k c = c k := by cases k <;> simp [optF, natF_eq]

mutual
theorem AV.force_eq {β : Sort u} : ∀ (v : AV) (c : AV → β), AV.force v c = c v
  | .sI k n, c => by simp only [AV.force, kindF_eq]
  | .int k n, c => by simp only [AV.force, kindF_eq, intF_eq]
  | .bool b, c => by simp only [AV.force, boolF_eq]
  | .ptr i off, c => by simp only [AV.force, natF_eq]
  | .slc i off len cap ex, c => by simp only [AV.force, natF_eq, boolF_eq]
  | .map i, c => by simp only [AV.force, natF_eq]
  | .yld i, c => by simp only [AV.force, natF_eq]
  | .sw i, c => by simp only [AV.force, natF_eq]
  | .ss i lo len, c => by simp only [AV.force, natF_eq]
  | .eptr i k j, c => by simp only [AV.force, natF_eq]
  | .dptr r row j, c => by simp only [AV.force, natF_eq]
  | .agg cs, c => by simp only [AV.force]; exact AV.forceL_eq cs _
  | .tup cs, c => by simp only [AV.force]; exact AV.forceL_eq cs _
  | .iface t v, c => by simp only [AV.force]; exact AV.force_eq v _
  | .fn f a b, c => by simp only [AV.force]; rw [AV.forceL_eq a, AV.forceL_eq b]
  | .str _, _ | .nilPtr, _ | .nilSlc, _ | .emp, _ | .nilMap, _ | .nilFn, _ | .nilIface, _ | .sB _, _ | .sS _, _ | .dsl .., _ => rfl
theorem AV.forceL_eq {β : Sort u} : ∀ (v : List AV) (c : List AV → β), AV.forceL v c = c v
  | [], c => rfl
  | v :: vs, c => by simp only [AV.forceL]; rw [AV.force_eq v, AV.forceL_eq vs]
end

theorem AV.forceF_eq {β : Sort u} (v : AV) (c : AV → β) : AV.forceF v c = c v := by
  cases v <;> simp only [AV.forceF, AV.force_eq, kindF_eq, natF_eq, boolF_eq, intF_eq]

theorem forceC_eq {β : Sort u} : ∀ (v : List AV) (c : List AV → β), forceC v c = c v
  | [], c => rfl
  | v :: vs, c => by
    show v.forceF (fun v => forceC vs fun vs => c (v :: vs)) = _
    rw [AV.forceF_eq, forceC_eq vs]

theorem forceT_eq {α : Type} {β : Sort u} {f : α → (α → β) → β} (hf : ∀ a c, f a c = c a) : ∀ (t : T α) (c : T α → β), forceT f t c = c t
  | .nil, c => rfl
  | .node l v r, c => by
    simp only [forceT]
    rw [forceT_eq hf l, forceT_eq hf r]
    cases v with
    | none => rfl
    | some x => simp only [hf]

theorem forceE_eq {β : Sort u} : ∀ (es : List Ent) (c : List Ent → β), forceE es c = c es
  | [], c => rfl
  | e :: es, c => by simp only [forceE, AV.force_eq, natF_eq]; rw [forceE_eq es]

theorem AObj.force_eq {β : Sort u} (o : AObj) (c : AObj → β) : AObj.force o c = c o := by
  cases o <;> simp only [AObj.force, boolF_eq, natF_eq, optF_eq, forceC_eq, forceE_eq, forceT_eq AV.forceF_eq]

theorem boxT_eq {α : Type} {f : α → Option α} (hf : ∀ a, f a = some a) : ∀ (t : T α), boxT f t = some t
  | .nil => rfl
  | .node l v r => by
    simp only [boxT]
    rw [boxT_eq hf l, boxT_eq hf r]
    cases v with
    | none => rfl
    | some x => simp only [hf]

theorem forceS_eq {β : Sort u} (fr : Fr) (H : Heap) (c : Fr → Heap → β) : forceS fr H c = c fr H := by
  unfold forceS
  rw [boxT_eq (fun a => by unfold AV.box; rw [AV.forceF_eq]), boxT_eq (fun a => by unfold AObj.box; rw [AObj.force_eq])]
  simp only [natF_eq]

/-! ### Ranges -/
theorem RTy.Rd.hasAll (σ : Nat → Option (Array Value)) (r : RTy) : ∀ (d : r.den) (ys : List Value), RTy.Rd σ r d ys → RTy.Has r d := by
  refine RTy.rec (motive_1 := fun c => ∀ (d : c.den) (x : Value), CTy.Rd σ c d x → CTy.Has c d) (motive_2 := fun r => ∀ (d : r.den) (ys : List Value), RTy.Rd σ r d ys → RTy.Has r d) ?_ ?_ ?_ ?_ ?_ ?_ r
  · intro k d x h; simp only [CTy.Rd] at h; simp only [CTy.Has]; exact h.2
  · intro d x h; simp only [CTy.Has]
  · intro d x h; simp only [CTy.Rd] at h; simp only [CTy.Has]; exact h.2
  · intro r ih d x h
    simp only [CTy.Rd] at h
    simp only [CTy.Has]
    obtain ⟨base, cap, _, _, h3, _, h6⟩ := h
    refine ⟨h3, fun row hm => ?_⟩
    obtain ⟨k, hk⟩ := List.getElem?_of_mem (show row ∈ (show List r.den from d) from hm)
    obtain ⟨b, off, arr, ys, _, _, _, g⟩ := h6 k row hk
    exact ih row ys g
  · intro c ih d ys h
    simp only [RTy.Rd] at h; simp only [RTy.Has]
    obtain ⟨y, _, h⟩ := h; exact ih d y h
  · intro c r ih1 ih2 d ys h
    simp only [RTy.Rd] at h; simp only [RTy.Has]
    obtain ⟨y, ys', _, h1, h2⟩ := h; exact ⟨ih1 _ y h1, ih2 _ ys' h2⟩

theorem CTy.Rd.has1 {σ : Nat → Option (Array Value)} {c : CTy} {d : c.den} {x : Value} (h : CTy.Rd σ c d x) : CTy.Has c d := by
  have := RTy.Rd.hasAll σ (.one c) d [x] (by simp only [RTy.Rd]; exact ⟨x, rfl, h⟩)
  simpa only [RTy.Has] using this

mutual
theorem rngV_sound {ρ : Env} : ∀ {v : AV} {x : Value}, Rel ρ v x → AllP (rngV v) := by
  intro v x h
  cases v <;> simp only [rngV] <;> try exact trivial
  · simp only [Rel] at h; obtain ⟨y, _, h⟩ := h; exact rngV_sound h
  · simp only [Rel] at h; obtain ⟨y, _, h⟩ := h; exact rngL_sound h
  · simp only [Rel] at h; obtain ⟨y, _, h⟩ := h; exact rngL_sound h
  · simp only [Rel] at h; exact ⟨h.2, trivial⟩
  · simp only [Rel] at h; exact ⟨h.2, trivial⟩
  · simp only [Rel] at h; exact ⟨h.has1, trivial⟩
theorem rngL_sound {ρ : Env} : ∀ {v : List AV} {x : List Value}, RelL ρ v x → AllP (rngL v) := by
  intro v x h
  cases v with
  | nil => exact trivial
  | cons v vs =>
    simp only [RelL] at h
    obtain ⟨y, ys, rfl, h1, h2⟩ := h
    simp only [rngL]
    exact allP_app (rngV_sound h1) (rngL_sound h2)
end

theorem rngL_each : ∀ {l : List AV}, (∀ v ∈ l, AllP (rngV v)) → AllP (rngL l)
  | [], _ => trivial
  | v :: l, h => allP_app (h v (List.mem_cons_self ..)) (rngL_each fun u hu => h u (List.mem_cons_of_mem _ hu))

theorem RowV.has {σ : Nat → Option (Array Value)} {a : Bool} {r : RTy} {d : r.den} {x : Value} (h : RowV σ a r d x) : RTy.Has r d :=
  let ⟨ys, h1, _⟩ := h; RTy.Rd.hasAll σ r d ys h1

theorem rngO_sound {ρ : Env} {B : Nat} {w : World} {e : At} {o : AObj} (h : ORel ρ B w e o) : AllP (rngO o) := by
  cases o <;> simp only [rngO] <;> try exact trivial
  · obtain ⟨h0, h1, arr, ty, fz, h2, h3, h4, h5⟩ := h
    refine rngL_each fun v hv => ?_
    obtain ⟨j, hj⟩ := List.getElem?_of_mem hv
    obtain ⟨x, _, hx⟩ := h4 j v hj
    exact rngV_sound hx
  · refine ⟨fun row hm => ?_, trivial⟩
    obtain ⟨h0, h1, h2 | ⟨h2, arr, ty, fz, h3, h4, h6, h7⟩⟩ := h
    · rw [h2.2] at hm; cases hm
    · obtain ⟨k, hk⟩ := List.getElem?_of_mem hm
      obtain ⟨ys, _, g⟩ := h6 k row hk
      exact RTy.Rd.hasAll _ _ _ _ g
  · obtain ⟨h0, h1, h2, arr, h3, h4, hb, h6, h7⟩ := h
    refine ⟨h2, fun p hp => ?_, ⟨by rw [hb, List.length_map, h6], by rw [hb]; exact h4.1, fun b hm => ?_⟩, trivial⟩
    rotate_left
    · rw [hb] at hm
      obtain ⟨x, hx, rfl⟩ := List.mem_map.1 hm
      exact h4.2 x hx
    obtain ⟨i, hi⟩ := List.getElem?_of_mem hp
    have hlt : i < arr.toList.length := by rw [← h6]; exact (List.getElem?_eq_some_iff.1 hi).1
    obtain ⟨g1, g2⟩ := h7 i p _ hi (List.getElem?_eq_getElem hlt)
    exact ⟨g1.has, g2.has⟩

theorem rngT_sound {α : Type} {f : α → List Prop} : ∀ {t : T α}, (∀ i v, t.get i = some v → AllP (f v)) → AllP (rngT f t)
  | .nil, _ => trivial
  | .node l x r, h => by
    simp only [rngT]
    refine allP_app (allP_app ?_ (rngT_sound fun i v hv => ?_)) (rngT_sound fun i v hv => ?_)
    · cases x with
      | none => exact trivial
      | some x => exact h 0 x rfl
    · refine h (2 * i + 1) v ?_
      have e : Nat.beq (2 * i % 2) 0 = true := by rw [show 2 * i % 2 = 0 by omega]; rfl
      simp only [T.get, e, cond_true, show 2 * i / 2 = i by omega]
      exact hv
    · refine h (2 * i + 1 + 1) v ?_
      have e : Nat.beq ((2 * i + 1) % 2) 0 = false := by rw [show (2 * i + 1) % 2 = 1 by omega]; rfl
      simp only [T.get, e, cond_false, show (2 * i + 1) / 2 = i by omega]
      exact hv

theorem vMs_sound {K : Nat} {p : List (Nat × AV) × Heap} {fr : Fr} {H : Heap} (h : vMs K p fr H) : Abs K fr H (frOf p.1) p.2 := by
  unfold vMs at h
  split at h
  · rename_i ps hps; exact mS_sound hps (allP_of h)
  · exact nomatch h

/-! ### The very same -/
mutual
theorem sameA_sound : ∀ {u v : AV} {ps : List Prop}, sameA u v = some ps → AllP ps → u = v := by
  intro u v ps h hp
  cases u <;> simp only [sameA] at h
  case sI k n =>
    split at h
    · rename_i k' n'
      cases hb : decide (k = k') with
      | false => rw [hb] at h; cases h
      | true => rw [hb] at h; obtain rfl := of_decide_eq_true hb; rw [allP_one hp h]
    · cases h
  case sB => split at h <;> first | (cases h; done) | rw [allP_one hp h]
  case sS => split at h <;> first | (cases h; done) | rw [allP_one hp h]
  case dsl r rows =>
    split at h
    · split at h
      · rename_i hs
        have e := RTy.same_eq hs
        subst e
        have := allP_one hp h
        rw [castRows_rfl] at this
        rw [this]
      · cases h
    · cases h
  case eptr i k j =>
    split at h
    · rename_i i' k' j'
      cases hb : (Nat.beq i i' && Nat.beq j j') with
      | false => rw [hb] at h; cases h
      | true =>
        rw [hb] at h
        simp only [Bool.and_eq_true] at hb
        rw [Nat.eq_of_beq_eq_true hb.1, Nat.eq_of_beq_eq_true hb.2, allP_one hp h]
    · cases h
  case ss i lo len =>
    split at h
    · rename_i i' lo' len'
      cases hb : Nat.beq i i' with
      | false => rw [hb] at h; cases h
      | true =>
        rw [hb] at h
        cases h
        rw [Nat.eq_of_beq_eq_true hb, hp.1, hp.2.1]
    · cases h
  case sw i =>
    split at h
    · rename_i i'
      cases hb : Nat.beq i i' with
      | false => rw [hb] at h; cases h
      | true => rw [Nat.eq_of_beq_eq_true hb]
    · cases h
  case agg a => split at h <;> first | (cases h; done) | rw [sameL_sound h hp]
  case tup a => split at h <;> first | (cases h; done) | rw [sameL_sound h hp]
  case iface t a =>
    split at h
    · rename_i t' a'
      cases hb : Nat.beq t t' with
      | false => rw [hb] at h; cases h
      | true => rw [hb] at h; rw [Nat.eq_of_beq_eq_true hb, sameA_sound h hp]
    · cases h
  all_goals
    cases hb : AV.same _ v with
    | false => rw [hb] at h; cases h
    | true => exact AV.same_eq hb
theorem sameL_sound : ∀ {u v : List AV} {ps : List Prop}, sameL u v = some ps → AllP ps → u = v := by
  intro u v ps h hp
  cases u with
  | nil => cases v with
    | nil => rfl
    | cons => simp [sameL] at h
  | cons a x => cases v with
    | nil => simp [sameL] at h
    | cons b y =>
      simp only [sameL] at h
      obtain ⟨p1, q1, h1, h2, hp1, hq1⟩ := andP_inv h hp
      rw [sameA_sound h1 hp1, sameL_sound h2 hq1]
end

theorem sameP_sound {u v : AV} {ps : List Prop} (h : sameP u v = some ps) (hp : AllP ps) : u.ub = v.ub := by
  unfold sameP at h
  split at h
  · rw [allP_one hp h]; rfl
  · rw [sameA_sound h hp]

/-! ### Code -/
section
variable {P : Program} {B K : Nat} {r : Option Nat} {n : Nat} {fr : Fr} {H : Heap} {S : SumP} {L : LTab} {ops : Array Oper}

def SumR.Ok (P : Program) (B : Nat) (f : FuncId) (args : List AV) (H : Heap) : SumR → Prop
  | .val v => WF P B f args H fun v' H' => v' = v ∧ H' = H
  | .fn ob v H2 => obOk ob → WF P B f args H fun v' H' => v' = v ∧ H' = H2
  | .path => True
  | .gen φ => ∀ Q, φ Q → WF P B f args H Q

def SumPOk (P : Program) (B : Nat) (S : SumP) : Prop := ∀ f args H s, S f args H = some s → s.Ok P B f args H

/-! ### A scope through which the run goes without a jump -/
section
variable {P : Program} {b : Frame} {a : Act} {k : List Item} {cs : List Frame} {w : World}
theorem stepR_scope {c : Code} : step P (lone (b.atR a (.code (.scope c) :: k)) cs w) = .next (lone (b.atR a (.code c :: .inScope c :: k)) cs w) :=
  step_lone_go (by simp [stepG, stepG.exec, Frame.atR])
theorem stepR_inScope {c : Code} : step P (lone (b.atR a (.inScope c :: k)) cs w) = .next (lone (b.atR a k) cs w) :=
  step_lone_go (by simp [stepG, stepG.exec, Frame.atR])
end

theorem wpIn_scope_straight {P : Program} {F : Fence} {n : Nat} {Q : Exit → Act → World → Prop} {a : Act} {w : World} {c : Code} (h : c.wpIn F n P Q a w) (hg : ∀ l a w, ¬ Q (.goto l) a w) : (Code.scope c).wpIn F n P Q a w := by
  intro b k cs hro hb hr
  have h0 : (lone (b.atR a (.code (.scope c) :: k)) cs w).fenced P F := fenced_calm hb hr rfl
  obtain ⟨e, a₁, w₁, hq, harr⟩ := h b (.inScope c :: k) cs hro hb hr
  cases e with
  | normal => exact ⟨.normal, a₁, w₁, hq, .head h0 stepR_scope (StepsIn.trans harr (.one (fenced_calm hb hr rfl) stepR_inScope))⟩
  | exit id =>
    have hx : exitTo id (.inScope c :: k) = exitTo id k := by simp [exitTo]
    exact ⟨.exit id, a₁, w₁, hq, fun k' hk => .head h0 stepR_scope (harr.1 k' (by rw [hx]; exact hk)),
      fun hr' hk => let ⟨k₁, h1, h2⟩ := harr.2 hr' (by rw [hx]; exact hk); ⟨k₁, h1, .head h0 stepR_scope h2⟩⟩
  | goto l => exact (hg _ _ _ hq).elim
  | ret => exact ⟨_, a₁, w₁, hq, .of_steps (.one h0 stepR_scope) harr⟩
  | panic ch => exact ⟨_, a₁, w₁, hq, .of_steps (.one h0 stepR_scope) harr⟩
  | outgrown => exact ⟨_, a₁, w₁, hq, .of_steps (.one h0 stepR_scope) harr⟩

theorem WC.scope {c : Code} {Q : Post} (h : WC P B K r n c fr H Q) : WC P B K r n (.scope c) fr H Q := by
  intro M ρ w a hk h1 h2 h3 h4
  refine wpIn_scope_straight (h M ρ w a hk h1 h2 h3 h4) ?_
  rintro l a' w' ⟨x, fr', H', ρ', e, g2, g3⟩
  cases x <;> simp [XT.out] at e

theorem WC.condS' {c : Operand} {x y : Code} {b : Bool} {Q : Post} (hc : aeval fr c = some (.sB b)) (h1 : b = true → WC P B K r n x fr H Q) (h2 : b = false → WC P B K r n y fr H Q) : WC P B K r n (.cond c x y) fr H Q := by
  intro M ρ w a hk g1 g2 g3 g4
  have hv := aeval_sound g2 hc
  simp only [Rel] at hv
  refine wpIn_cond hv ?_
  cases b
  · exact h2 rfl M ρ w a hk g1 g2 g3 g4
  · exact h1 rfl M ρ w a hk g1 g2 g3 g4

theorem WC.rng {c : Code} {Q : Post} {ps : List Prop} (hps : ∀ (ρ : Env) (w : World) (tmps : Array Value), HR B ρ H w → FRel ρ fr tmps → AllP ps) (h : AllP ps → WC P B K r n c fr H Q) : WC P B K r n c fr H Q :=
  fun M ρ w a hk h1 h2 h3 h4 => h (hps ρ w a.tmps h1 h2) M ρ w a hk h1 h2 h3 h4

theorem WF.ub {f : FuncId} {args : List AV} {Q : KF} (h : WF P B f args H Q) : WF P B f args H fun v' H' => ∃ v, Q v H' ∧ v' = v.ub :=
  fun ρ w xs h1 h2 => (h ρ w xs h1 h2).mono fun e w' ⟨v, x, H', ρ', g1, g2, g3, g4, g5⟩ => ⟨v.ub, x, H', ρ', g1, ⟨v, g2, rfl⟩, g3, g4, g5.ub⟩

theorem allQ_inv {α : Type} {f : α → Prop} : ∀ {l : List α}, allQ f l → ∀ a ∈ l, f a
  | [], _, a, ha => by cases ha
  | [b], h, a, ha => by rw [List.mem_singleton] at ha; subst ha; exact h
  | b :: c :: l, h, a, ha => by
    rcases List.mem_cons.1 ha with rfl | ha
    · exact h.1
    · exact allQ_inv h.2 a ha

theorem WF.reval0 {f : FuncId} {args : List AV} {Q Q' : AV → Heap → Prop} (h : WF P B f args H Q) (hq : ∀ v H' (ρ : Env) x, Q v H' → Rel ρ v x → ∃ v', Q' v' H' ∧ Rel ρ v' x) : WF P B f args H Q' :=
  fun ρ w xs h1 h2 => (h ρ w xs h1 h2).mono fun e w' ⟨v, x, H', ρ', g1, g2, g3, g4, g5⟩ => by
    obtain ⟨v', k1, k2⟩ := hq v H' ρ' x g2 g5
    exact ⟨v', x, H', ρ', g1, k1, g3, g4, k2⟩

theorem roX_ok {o : Oper} {p : Option Prop} {v : AV} (h : roX P ops fr H o = some (p, v)) (hp : obOk p) : roVal P ops fr H o = some v := by
  unfold roX at h
  unfold roVal
  split at h
  · rename_i hw
    rw [hw]
    simp only
    split at h
    · rename_i q u H' he
      cases h
      rw [aop_of he hp]
    · cases h
  · rename_i hw; rw [hw]; cases h; rfl
  · cases h

theorem vChk_inv : ∀ {js : List Nat} {fr : Fr} {H : Heap} {q : Prop}, vChk P ops fr H js q → (∀ j ∈ js, ∀ oj, ops[j]? = some oj → ∃ v v' : AV, roVal P ops fr H oj = some v ∧ v'.ub = v.ub ∧ ∀ d, oj.dst = some d → fr.get d = some v') ∧ q
  | [], fr, H, q, h => ⟨fun j hj => (by cases hj), h⟩
  | j :: js, fr, H, q, h => by
    have key : ∀ {q' : Prop}, vChk P ops fr H js q → (∀ oj, ops[j]? = some oj → ∃ v v' : AV, roVal P ops fr H oj = some v ∧ v'.ub = v.ub ∧ ∀ d, oj.dst = some d → fr.get d = some v') →
        (∀ i ∈ j :: js, ∀ oj, ops[i]? = some oj → ∃ v v' : AV, roVal P ops fr H oj = some v ∧ v'.ub = v.ub ∧ ∀ d, oj.dst = some d → fr.get d = some v') ∧ q := by
      intro _ hh hj
      obtain ⟨h1, h2⟩ := vChk_inv hh
      refine ⟨fun i hi oj hoj => ?_, h2⟩
      rcases List.mem_cons.1 hi with rfl | hi
      · exact hj oj hoj
      · exact h1 i hi oj hoj
    unfold vChk at h
    split at h
    · rename_i hn; exact key (q' := q) h fun oj hoj => by rw [hn] at hoj; cases hoj
    · rename_i oj hoj
      split at h
      · exact nomatch h
      · rename_i p v hro
        obtain ⟨hp, h⟩ := withOb_inv h
        have hv := roX_ok hro hp
        split at h
        · rename_i hd
          exact key (q' := q) h fun oj' hoj' => by rw [hoj] at hoj'; cases hoj'; exact ⟨v, v, hv, rfl, fun d hd' => by rw [hd] at hd'; cases hd'⟩
        · rename_i d hd
          split at h
          · exact nomatch h
          · rename_i u hu
            split at h
            · exact nomatch h
            · rename_i ps hps
              have fin : AllP ps → vChk P ops fr H js q → _ := fun hps' hh => key (q' := q) hh fun oj' hoj' => by
                rw [hoj] at hoj'; cases hoj'
                exact ⟨v, u, hv, sameP_sound hps hps', fun d' hd' => by rw [hd] at hd'; cases hd'; exact hu⟩
              split at h
              · exact fin trivial h
              · exact fin (allP_of h.1) h.2


theorem WO.mono {l : List Nat} {Q Q' : Fr → Heap → Prop} (h : WO P B K r n ops l fr H Q) (hq : ∀ fr H, Q fr H → Q' fr H) : WO P B K r n ops l fr H Q' :=
  fun M ρ w a h0 h1 h2 h3 h4 => wpOpsIn_mono (fun e a' w' ⟨x, fr', H', ρ', g1, g2, g3⟩ => ⟨x, fr', H', ρ', g1, ⟨g2.1, hq _ _ g2.2⟩, g3⟩) l a w (h M ρ w a h0 h1 h2 h3 h4)

theorem WD.mono {an : Nat → Nat} {lA : Nat} {Q Q' : Fr → Heap → Prop} (h : WD P B K r n ops an lA fr H Q) (hq : ∀ fr H, Q fr H → Q' fr H) : WD P B K r n ops an lA fr H Q' :=
  fun fuel M ρ w a lR hk hc hf Qr hQr => h fuel M ρ w a lR hk hc hf Qr fun e a' w' ⟨x, fr', H', ρ', g1, g2, g3⟩ => hQr e a' w' ⟨x, fr', H', ρ', g1, ⟨g2.1, hq _ _ g2.2⟩, g3⟩

theorem WI.mono {an : Nat → Nat} {lA i : Nat} {o : Oper} {Q Q' : Fr → Heap → Prop} (h : WI P B K r n ops an lA i o fr H Q) (hq : ∀ fr H, Q fr H → Q' fr H) : WI P B K r n ops an lA i o fr H Q' := by
  intro ρ w a fr0 Kw Qr h1 h2 h3 h4 h5
  refine h ρ w a fr0 Kw Qr h1 h2 h3 h4 fun ρ' w' v x fr' H' e1 e2 e3 e4 e5 hw => h5 ρ' w' v x fr' H' e1 e2 e3 e4 e5 (WD.mono hw hq)

theorem WL.mono {c : Code} {Q Q' : Post} (h : WL P B K r n c fr H Q) (hq : ∀ x fr H, Q x fr H → Q' x fr H) : WL P B K r n c fr H Q' :=
  fun M ρ w a h0 h1 h2 h3 h4 b k cs hb => let ⟨e, a', w', ⟨x, fr', H', ρ', g1, g2, g3⟩, harr⟩ := h M ρ w a h0 h1 h2 h3 h4 b k cs hb; ⟨e, a', w', ⟨x, fr', H', ρ', g1, hq _ _ _ g2, g3⟩, harr⟩

/-- A state at the end may be told otherwise. -/
theorem WC.absPost {c : Code} {Q : Post} (h : WC P B K r n c fr H fun x f H' => ∃ f2 H2, Abs K f H' f2 H2 ∧ Q x f2 H2) : WC P B K r n c fr H Q :=
  fun M ρ w a h0 h1 h2 h3 h4 => wpIn_mono (h M ρ w a h0 h1 h2 h3 h4) fun e a' w' ⟨x, fr', H', ρ', g1, ⟨f2, H2, ha, hq⟩, g3, g4, g5, g6, g7⟩ =>
    let ⟨ρ2, k1, k2, k3⟩ := ha B ρ' w' a'.tmps g3.kle g4 g5
    ⟨x, f2, H2, ρ2, g1, hq, g3.trans k3, k1, k2, g6, g7.extK k3⟩
end
end Go.AM
set_option linter.unusedSimpArgs false
set_option linter.unusedVariables false
namespace Go.AM

/-- What has no bit is as it was. -/
structure Heap.Kp (H H' : Heap) : Prop where
  get : ∀ i, H'.d.testBit i = false → H'.get i = H.get i
  bit : ∀ i, H'.d.testBit i = false → H.d.testBit i = false
  next : H.next ≤ H'.next

theorem Heap.Kp.refl (H : Heap) : H.Kp H := ⟨fun _ _ => rfl, fun _ h => h, Nat.le_refl _⟩
theorem Heap.Kp.trans {H H1 H2 : Heap} (h : H.Kp H1) (k : H1.Kp H2) : H.Kp H2 :=
  ⟨fun i hi => (k.get i hi).trans (h.get i (k.bit i hi)), fun i hi => h.bit i (k.bit i hi), Nat.le_trans h.next k.next⟩

theorem or_bit {d i j : Nat} (h : (d ||| 2 ^ j).testBit i = false) : d.testBit i = false ∧ i ≠ j := by
  rw [Nat.testBit_or, Bool.or_eq_false_iff] at h
  refine ⟨h.1, fun e => ?_⟩
  subst e
  rw [Nat.testBit_two_pow_self] at h
  exact Bool.noConfusion h.2

theorem Heap.Kp.set (H : Heap) (i : Nat) (o : AObj) : H.Kp (H.set i o) :=
  ⟨fun j hj => by rw [Heap.get_set, if_neg (or_bit hj).2], fun j hj => (or_bit hj).1, Nat.le_refl _⟩
theorem Heap.Kp.kill (H : Heap) (i : Nat) : H.Kp (H.kill i) :=
  ⟨fun j hj => by rw [Heap.get_kill, if_neg (or_bit hj).2], fun j hj => (or_bit hj).1, Nat.le_refl _⟩
theorem Heap.Kp.alloc (H : Heap) (o : AObj) : H.Kp (H.alloc o) :=
  ⟨fun j hj => by rw [Heap.get_alloc, if_neg (or_bit hj).2], fun j hj => (or_bit hj).1, Nat.le_succ _⟩

def OK {β : Type} (Q : β → Prop) (o : Option β) : Prop := ∀ b, o = some b → Q b
section
variable {α β : Type} {Q : β → Prop}
theorem OK.none : OK Q none := fun b h => by cases h
theorem OK.some {b : β} (h : Q b) : OK Q (some b) := fun c hc => by cases hc; exact h
theorem OK.bind {o : Option α} {f : α → Option β} (h : ∀ a, o = .some a → OK Q (f a)) : OK Q (o.bind f) := fun b hb => by
  rw [Option.bind_eq_some_iff] at hb
  obtain ⟨a, h1, h2⟩ := hb
  exact h a h1 b h2
theorem OK.map {o : Option α} {f : α → β} (h : ∀ a, o = .some a → Q (f a)) : OK Q (o.map f) := fun b hb => by
  rw [Option.map_eq_some_iff] at hb
  obtain ⟨a, h1, rfl⟩ := hb
  exact h a h1
theorem OK.cond {c : Bool} {a b : Option β} (h : OK Q a) (k : OK Q b) : OK Q (bif c then a else b) := by cases c <;> assumption
theorem OK.cond' {c : Bool} {a b : Option β} (h : c = true → OK Q a) (k : c = false → OK Q b) : OK Q (bif c then a else b) := by
  cases c
  · exact k rfl
  · exact h rfl
end

section
variable {P : Program} {H : Heap}
abbrev K1 (H : Heap) {α : Type} (r : α × Heap) : Prop := H.Kp r.2

theorem stN_kp {i off : Nat} {cs : List AV} : OK (fun H' => H.Kp H') (stN H i off cs) := by
  unfold stN
  split
  · exact OK.cond (OK.some (Heap.Kp.set ..)) OK.none
  · exact OK.none

theorem newCells_kp {ty : Option TypeId} {es : Nat} {cs : List AV} : OK (K1 H) (newCells H ty es cs) := by
  unfold newCells
  exact OK.cond (OK.some (Heap.Kp.alloc ..)) OK.none

theorem astore_kp {t : TypeId} {a v : AV} : OK (fun H' => H.Kp H') (astore P H t a v) := by
  unfold astore
  split
  · exact OK.bind fun _ _ => OK.bind fun _ _ => OK.cond stN_kp OK.none
  · exact OK.none

theorem aConv_kp {s d : TypeId} {x : AV} : OK (K1 H) (aConv P H s d x) := by
  unfold aConv
  refine OK.bind fun _ _ => OK.bind fun _ _ => ?_
  repeat' first
    | exact OK.none
    | exact OK.some (Heap.Kp.refl _)
    | exact OK.some (Heap.Kp.alloc ..)
    | exact OK.map fun _ _ => Heap.Kp.refl _
    | refine OK.bind fun _ _ => ?_
    | split

theorem aBuildSlice_kp {t : TypeId} {len : Nat} {ps : List (Nat × AV)} : OK (K1 H) (aBuildSlice P H t len ps) := by
  unfold aBuildSlice
  refine OK.bind fun _ _ => ?_
  split
  · exact OK.bind fun _ _ => OK.bind fun _ _ => OK.bind fun _ _ => OK.cond (OK.bind fun _ _ => OK.map fun r hr => newCells_kp r hr) OK.none
  · exact OK.none

theorem aMakeSlice_kp {t : TypeId} {l c : AV} : OK (K1 H) (aMakeSlice P H t l c) := by
  unfold aMakeSlice
  refine OK.bind fun _ _ => ?_
  split
  · refine OK.bind fun _ _ => OK.bind fun _ _ => OK.bind fun _ _ => ?_
    split
    · exact OK.cond (OK.map fun r hr => newCells_kp r hr) OK.none
    · exact OK.none
  · exact OK.none

theorem aMapUpdate_kp {t : TypeId} {m k v : AV} : OK (fun H' => H.Kp H') (aMapUpdate P H t m k v) := by
  unfold aMapUpdate
  refine OK.bind fun _ _ => ?_
  split
  · split
    · refine OK.cond (OK.bind fun r _ => ?_) OK.none
      split
      · exact OK.cond (OK.some (Heap.Kp.set ..)) OK.none
      · exact OK.some (Heap.Kp.set ..)
    · exact OK.none
  · exact OK.none

theorem aMapEntry_kp {t : TypeId} {m k : AV} : OK (K1 H) (aMapEntry P H t m k) := by
  unfold aMapEntry
  refine OK.bind fun _ _ => ?_
  split
  · split
    · refine OK.cond (OK.bind fun r _ => ?_) OK.none
      split
      · exact OK.cond (OK.some (Heap.Kp.set ..)) OK.none
      · exact OK.map fun _ _ => Heap.Kp.set ..
    · exact OK.none
  · exact OK.none

theorem aEntryStore_kp {m s v : AV} : OK (fun H' => H.Kp H') (aEntryStore H m s v) := by
  unfold aEntryStore
  repeat' first
    | exact OK.none
    | exact OK.map fun _ _ => Heap.Kp.set ..
    | split

theorem aDelete_kp {t : TypeId} {m k : AV} : OK (fun H' => H.Kp H') (aDelete P H t m k) := by
  unfold aDelete
  refine OK.bind fun _ _ => ?_
  split
  · exact OK.cond (OK.some (Heap.Kp.refl _)) OK.none
  · split
    · refine OK.cond (OK.bind fun r _ => ?_) OK.none
      split
      · exact OK.some (Heap.Kp.set ..)
      · exact OK.some (Heap.Kp.refl _)
    · exact OK.none
  · exact OK.none

theorem aRange_kp {t : TypeId} {x : AV} : OK (K1 H) (aRange P H t x) := by
  unfold aRange
  refine OK.bind fun _ _ => ?_
  repeat' first
    | exact OK.none
    | exact OK.some (Heap.Kp.alloc ..)
    | refine OK.cond ?_ ?_
    | split

theorem aNext_kp {it : AV} {s : Bool} : OK (fun l => ∀ q ∈ l, H.Kp q.2) (aNext H it s) := by
  unfold aNext
  split
  · split
    · refine OK.cond (OK.some ?_) (OK.some ?_)
      · intro q hq; rw [List.mem_singleton] at hq; subst hq; exact Heap.Kp.set ..
      · intro q hq; rw [List.mem_singleton] at hq; subst hq; exact Heap.Kp.refl _
    · split
      · refine OK.cond OK.none (OK.some ?_)
        intro q hq
        obtain ⟨c, _, rfl⟩ := List.mem_map.1 hq
        cases c with
        | none => exact Heap.Kp.refl _
        | some e => exact Heap.Kp.set ..
      · exact OK.none
    · exact OK.none
  · exact OK.none

theorem aGrow_kp {ty : Option TypeId} {ie : TypeInfo} {n : Nat} {cs : List AV} : OK (K1 H) (aGrow H ty ie n cs) := by
  unfold aGrow
  exact OK.cond (OK.map fun r hr => newCells_kp r hr) OK.none

theorem aAppend_kp {ts : List TypeId} {s x : AV} : OK (K1 H) (aAppend P H ts s x) := by
  unfold aAppend
  split
  · refine OK.bind fun _ _ => OK.bind fun _ _ => ?_
    split
    · refine OK.bind fun _ _ => ?_
      split
      · exact OK.none
      · refine OK.cond OK.none (OK.bind fun _ _ => OK.bind fun _ _ => ?_)
        split
        · exact OK.cond (OK.some (Heap.Kp.refl _)) aGrow_kp
        · refine OK.cond (OK.map fun H' h => stN_kp H' h) (OK.cond (OK.bind fun _ _ => aGrow_kp) (OK.bind fun _ _ => ?_))
          split
          · exact OK.cond (fun r hr => (Heap.Kp.kill ..).trans (aGrow_kp r hr)) OK.none
          · exact OK.none
        · exact OK.none
        · exact OK.none
    · exact OK.none
  · exact OK.none

theorem aCopy_kp {ts : List TypeId} {s x : AV} : OK (K1 H) (aCopy P H ts s x) := by
  unfold aCopy
  split
  · refine OK.bind fun _ _ => ?_
    split
    · refine OK.bind fun _ _ => OK.cond OK.none (OK.bind fun _ _ => ?_)
      split
      · exact OK.some (Heap.Kp.refl _)
      · exact OK.bind fun _ _ => OK.map fun H' h => stN_kp H' h
      · exact OK.none
    · exact OK.none
  · exact OK.none

theorem aClear_kp {t : TypeId} {x : AV} : OK (fun H' => H.Kp H') (aClear P H t x) := by
  unfold aClear
  refine OK.bind fun _ _ => ?_
  split
  · exact OK.some (Heap.Kp.refl _)
  · exact OK.some (Heap.Kp.refl _)
  · exact OK.cond (OK.some (Heap.Kp.refl _)) (OK.bind fun _ _ => OK.bind fun _ _ => OK.bind fun _ _ => OK.cond stN_kp OK.none)
  · exact OK.none

theorem aBuiltin_kp {b : Builtin} {ts : List TypeId} {args : List AV} : OK (K1 H) (aBuiltin P H b ts args) := by
  unfold aBuiltin
  split
  · exact OK.bind fun _ _ => OK.map fun _ _ => Heap.Kp.refl _
  · exact OK.bind fun _ _ => OK.map fun _ _ => Heap.Kp.refl _
  · exact aAppend_kp
  · exact aCopy_kp
  · exact OK.bind fun _ _ => OK.map fun H' h => aDelete_kp H' h
  · exact OK.bind fun _ _ => OK.map fun H' h => aClear_kp H' h
  · exact OK.bind fun _ _ => OK.bind fun _ _ => OK.map fun _ _ => Heap.Kp.refl _
  · exact OK.bind fun _ _ => OK.bind fun _ _ => OK.map fun _ _ => Heap.Kp.refl _
  · exact OK.none

/-- What a result leaves as it was. -/
def Res.Kp (H : Heap) : Res → Prop
  | .val _ H' => H.Kp H'
  | .opts l => ∀ q ∈ l, H.Kp q.2
  | .fams l => ∀ q ∈ l, ∀ i, H.Kp (q.2 i).2
  | _ => True

theorem aCallV_kp {f : AV} {args : List AV} : OK (Res.Kp H) (aCallV P f args) := by
  unfold aCallV
  split
  · exact OK.cond (OK.some trivial) OK.none
  · exact OK.some trivial
  · exact OK.none

theorem aMethod_kp {t : TypeId} {v : AV} {n : String} {args : List AV} : OK (Res.Kp H) (aMethod P H t v n args) := by
  unfold aMethod
  exact OK.bind fun _ _ => OK.bind fun _ _ => OK.cond OK.none (OK.bind fun _ _ => OK.bind fun _ _ => OK.bind fun _ _ => OK.cond (OK.some trivial) OK.none)

theorem aop0_kp {fr : Fr} {o : Oper} : OK (Res.Kp H) (aop0 P fr H o) := by
  unfold aop0
  split
  · exact OK.map fun _ _ => Heap.Kp.refl _
  · exact OK.map fun _ _ => Heap.Kp.refl _
  · refine OK.bind fun _ _ => ?_
    split
    · exact OK.map fun _ _ => Heap.Kp.refl _
    · exact OK.map fun _ _ => Heap.Kp.refl _
    · exact OK.none
  · exact OK.bind fun _ _ => OK.bind fun _ _ => OK.bind fun _ _ => OK.map fun r hr => newCells_kp r hr
  · exact OK.bind fun _ _ => OK.bind fun _ _ => OK.bind fun _ _ => OK.map fun r hr => newCells_kp r hr
  · exact OK.bind fun _ _ => OK.map fun _ _ => Heap.Kp.refl _
  · exact OK.bind fun _ _ => OK.map fun r hr => aBuildSlice_kp r hr
  · exact OK.bind fun _ _ => OK.map fun _ _ => Heap.Kp.refl _
  · exact OK.bind fun _ _ => OK.bind fun _ _ => OK.map fun r hr => astore_kp r hr
  · refine OK.bind fun _ _ => ?_
    split
    · exact OK.some (Heap.Kp.refl _)
    · exact OK.some (Heap.Kp.refl _)
    · exact OK.some (Heap.Kp.refl _)
    · exact OK.some (Heap.Kp.refl _)
    · exact OK.none
  · exact OK.bind fun _ _ => OK.bind fun _ _ => OK.map fun _ _ => Heap.Kp.refl _
  · exact OK.bind fun _ _ => OK.map fun _ _ => Heap.Kp.refl _
  · exact OK.bind fun _ _ => OK.map fun r hr => aConv_kp r hr
  · refine OK.bind fun _ _ => OK.bind fun _ _ => ?_
    split
    · exact OK.none
    · exact OK.some (Heap.Kp.refl _)
  · split
    · exact OK.none
    · exact OK.bind fun _ _ => OK.map fun _ _ => Heap.Kp.refl _
  · split
    · exact OK.some (Heap.Kp.alloc ..)
    · refine OK.bind fun _ _ => ?_
      split
      · refine OK.bind fun _ _ => ?_
        split
        · exact OK.some (Heap.Kp.alloc ..)
        · exact OK.none
      · exact OK.none
  · exact OK.bind fun _ _ => OK.bind fun _ _ => OK.map fun r hr => aMakeSlice_kp r hr
  · exact OK.bind fun _ _ => OK.bind fun _ _ => OK.bind fun _ _ => OK.bind fun _ _ => OK.map fun _ _ => Heap.Kp.refl _
  · exact OK.bind fun _ _ => OK.map fun _ _ => Heap.Kp.refl _
  · exact OK.bind fun _ _ => OK.map fun _ _ => Heap.Kp.refl _
  · exact OK.bind fun _ _ => OK.bind fun _ _ => OK.map fun _ _ => Heap.Kp.refl _
  · exact OK.bind fun _ _ => OK.bind fun _ _ => OK.map fun _ _ => Heap.Kp.refl _
  · exact OK.bind fun _ _ => OK.bind fun _ _ => OK.map fun _ _ => Heap.Kp.refl _
  · exact OK.bind fun _ _ => OK.bind fun _ _ => OK.bind fun _ _ => OK.map fun r hr => aMapUpdate_kp r hr
  · exact OK.bind fun _ _ => OK.bind fun _ _ => OK.bind fun _ _ => OK.map fun r hr => aMapUpdate_kp r hr
  · exact OK.bind fun _ _ => OK.bind fun _ _ => OK.map fun r hr => aMapEntry_kp r hr
  · exact OK.bind fun _ _ => OK.bind fun _ _ => OK.bind fun _ _ => OK.map fun r hr => aEntryStore_kp r hr
  · exact OK.bind fun _ _ => OK.map fun r hr => aRange_kp r hr
  · exact OK.bind fun _ _ => OK.map fun _ _ => Heap.Kp.refl _
  · refine OK.bind fun _ _ => OK.bind fun l hl => ?_
    have h := aNext_kp l hl
    split
    · exact OK.some (h _ (List.mem_cons_self ..))
    · exact OK.some h
  · exact OK.bind fun _ _ => OK.map fun _ _ => Heap.Kp.refl _
  · refine OK.bind fun _ _ => ?_
    split
    · exact OK.map fun _ _ => Heap.Kp.refl _
    · exact OK.none
  · refine OK.bind fun _ _ => ?_
    split
    · exact OK.map fun r hr => aBuiltin_kp r hr
    · exact OK.bind fun _ _ => aCallV_kp
    · refine OK.bind fun _ _ => ?_
      split
      · exact aMethod_kp
      · exact OK.none
  · exact OK.none

theorem xStore_kp {t : TypeId} {a v : AV} : OK (fun H' => H.Kp H') (xStore P H t a v) := by
  unfold xStore
  split
  · split
    · exact OK.bind fun _ _ => OK.bind fun _ _ => OK.cond (OK.map fun _ _ => Heap.Kp.set ..) OK.none
    · exact OK.none
  · exact OK.none

abbrev K2 (H : Heap) (r : Option Prop × AV × Heap) : Prop := H.Kp r.2.2

theorem xConv_kp {s d : TypeId} {x : AV} : OK (K2 H) (xConv P H s d x) := by
  unfold xConv
  refine OK.bind fun _ _ => OK.bind fun _ _ => ?_
  repeat' first
    | exact OK.none
    | exact OK.some (Heap.Kp.refl _)
    | exact OK.some (Heap.Kp.alloc ..)
    | exact OK.map fun _ _ => Heap.Kp.refl _
    | refine OK.bind fun _ _ => ?_
    | refine OK.cond ?_ ?_
    | split

theorem xMakeSlice_kp {t : TypeId} {l c : AV} : OK (K2 H) (xMakeSlice P H t l c) := by
  unfold xMakeSlice
  refine OK.bind fun _ _ => ?_
  split
  · exact OK.bind fun _ _ => OK.bind fun _ _ => OK.bind fun _ _ => OK.bind fun _ _ => OK.bind fun _ _ => OK.bind fun _ _ => OK.bind fun _ _ => OK.cond (OK.some (Heap.Kp.alloc ..)) OK.none
  · exact OK.none

theorem xMapUpdate_kp {t : TypeId} {m k v : AV} : OK (fun H' => H.Kp H') (xMapUpdate P H t m k v) := by
  unfold xMapUpdate
  refine OK.bind fun _ _ => ?_
  split
  · split
    · exact OK.cond (OK.bind fun _ _ => OK.bind fun _ _ => OK.bind fun _ _ => OK.map fun _ _ => Heap.Kp.set ..) OK.none
    · exact OK.none
  · exact OK.none

theorem xDelete_kp {t : TypeId} {m k : AV} : OK (fun H' => H.Kp H') (xDelete P H t m k) := by
  unfold xDelete
  refine OK.bind fun _ _ => ?_
  split
  · split
    · exact OK.cond (OK.bind fun _ _ => OK.map fun _ _ => Heap.Kp.set ..) OK.none
    · exact OK.none
  · exact OK.none

theorem killO_kp {o : Option Nat} : H.Kp (killO H o) := by
  cases o
  · exact Heap.Kp.refl _
  · exact Heap.Kp.kill ..

theorem xAppend_kp {ts : List TypeId} {s x : AV} : OK (K2 H) (xAppend P H ts s x) := by
  unfold xAppend
  split
  · refine OK.bind fun _ _ => OK.bind fun _ _ => ?_
    split
    · refine OK.bind fun _ _ => ?_
      split
      · exact OK.none
      · exact OK.bind fun _ _ => OK.cond (OK.bind fun _ _ => OK.map fun _ _ => killO_kp.trans (Heap.Kp.alloc ..)) OK.none
    · exact OK.none
  · exact OK.none

theorem xUStr_kp {ts : List TypeId} {x l : AV} : OK (fun r : AV × Heap => H.Kp r.2) (xUStr P H ts x l) := by
  unfold xUStr
  split
  · split
    · exact OK.cond (OK.some (Heap.Kp.refl _)) OK.none
    · refine OK.cond (OK.some (Heap.Kp.refl _)) (OK.cond ?_ OK.none)
      split
      · exact OK.cond (OK.map fun _ _ => Heap.Kp.kill _ _) OK.none
      · exact OK.none
    · exact OK.none
  · exact OK.none

theorem frz1_kp {v : AV} : H.Kp (frz1 H v).2 := by
  unfold frz1
  split
  · split
    · exact Heap.Kp.kill ..
    · exact Heap.Kp.refl _
  · exact Heap.Kp.refl _

theorem frzL_kp : ∀ {vs : List AV} {H : Heap}, H.Kp (frzL vs H).2
  | [], H => Heap.Kp.refl _
  | v :: vs, H => frz1_kp.trans (frzL_kp (vs := vs) (H := (frz1 H v).2))

theorem frzA_kp {v : AV} : H.Kp (frzA H v).2 := by
  unfold frzA
  split
  · exact frzL_kp
  · exact frz1_kp

theorem xClear_kp {t : TypeId} {x : AV} : OK (fun H' => H.Kp H') (xClear P H t x) := by
  unfold xClear
  simp only
  split
  · split
    · exact OK.map fun _ _ => Heap.Kp.set ..
    · exact OK.none
  · exact OK.none

theorem xBuiltin_kp {b : Builtin} {ts : List TypeId} {args : List AV} : OK (K2 H) (xBuiltin P H b ts args) := by
  unfold xBuiltin
  split
  · exact OK.bind fun _ _ => OK.map fun _ _ => Heap.Kp.refl _
  · refine OK.map fun r hr => ?_
    have hk : H.Kp r.2.2 := xAppend_kp r hr
    unfold cpyA
    split
    · exact hk.trans frz1_kp
    · exact hk
  · exact OK.bind fun _ _ => OK.map fun H' h => xDelete_kp H' h
  · exact OK.bind fun _ _ => OK.map fun H' h => xClear_kp H' h
  · exact OK.map fun _ _ => Heap.Kp.refl _
  · exact OK.map fun _ _ => Heap.Kp.refl _
  · exact OK.map fun _ _ => Heap.Kp.refl _
  · exact OK.map fun r hr => xUStr_kp r hr
  · exact OK.none

theorem xRange_kp {t : TypeId} {x : AV} : OK (fun r : AV × Heap => H.Kp r.2) (xRange P H t x) := by
  unfold xRange
  refine OK.bind fun _ _ => ?_
  split
  · split
    · exact OK.some (Heap.Kp.alloc _ _)
    · exact OK.some (Heap.Kp.alloc _ _)
    · exact OK.none
  · exact OK.none
theorem xNext_kp {it : AV} {s : Bool} : OK (fun r : Option Prop × List ((Nat → Prop) × (Nat → AV × Heap)) => ∀ q ∈ r.2, ∀ i, H.Kp (q.2 i).2) (xNext H it s) := by
  unfold xNext
  split
  · split
    · split
      · refine OK.some fun q hq i => ?_
        rcases List.mem_cons.1 hq with rfl | hq
        · exact Heap.Kp.refl _
        · rw [List.mem_singleton] at hq; subst hq; exact Heap.Kp.set _ _ _
      · exact OK.none
    · split
      · refine OK.some fun q hq i => ?_
        rcases List.mem_cons.1 hq with rfl | hq
        · exact Heap.Kp.refl _
        · obtain ⟨e, _, rfl⟩ := List.mem_map.1 hq
          exact Heap.Kp.set _ _ _
      · exact OK.none
    · exact OK.none
  · exact OK.none
theorem xNil_kp {op : BinOp} {t : TypeId} {a b : AV} : OK (fun l : List ((Nat → Prop) × (Nat → AV × Heap)) => ∀ q ∈ l, ∀ i, H.Kp (q.2 i).2) (xNil P H op t a b) := by
  have key : ∀ (p : Prop) (u v : AV), ∀ q ∈ ([(fun _ => p, fun _ => (u, H)), (fun _ => True, fun _ => (v, H))] : List ((Nat → Prop) × (Nat → AV × Heap))), ∀ i, H.Kp (q.2 i).2 := by
    intro p u v q hq i
    rcases List.mem_cons.1 hq with rfl | hq
    · exact Heap.Kp.refl _
    · rw [List.mem_singleton] at hq; subst hq; exact Heap.Kp.refl _
  unfold xNil
  split
  · refine OK.bind fun _ _ => ?_
    split
    · exact OK.map fun p _ => key p _ _
    · exact OK.map fun p _ => key p _ _
    · exact OK.none
  · exact OK.none

theorem aopX_kp {fr : Fr} {o : Oper} : OK (fun r : XRes => Res.Kp H r.2) (aopX P fr H o) := by
  unfold aopX
  split
  · exact OK.bind fun _ _ => OK.map fun _ _ => Heap.Kp.refl _
  · refine OK.bind fun _ _ => OK.bind fun _ _ => ?_
    split
    · rename_i r hr; exact OK.some (xStore_kp r hr)
    · exact OK.map fun r hr => frzA_kp.trans (xStore_kp r hr)
  · refine OK.bind fun _ _ => ?_
    split
    · exact OK.some (Heap.Kp.refl _)
    · exact OK.some (Heap.Kp.refl _)
    · exact OK.none
  · refine OK.bind fun _ _ => OK.bind fun _ _ => ?_
    split
    · exact OK.some (Heap.Kp.refl _)
    · exact OK.map fun l hl => xNil_kp l hl
  · exact OK.bind fun _ _ => OK.map fun _ _ => Heap.Kp.refl _
  · exact OK.bind fun _ _ => OK.map fun r hr => xConv_kp r hr
  · exact OK.bind fun _ _ => OK.bind fun _ _ => OK.map fun r hr => xMakeSlice_kp r hr
  · exact OK.bind fun _ _ => OK.bind fun _ _ => OK.bind fun _ _ => OK.bind fun _ _ => OK.map fun _ _ => Heap.Kp.refl _
  · exact OK.bind fun _ _ => OK.map fun _ _ => Heap.Kp.refl _
  · exact OK.bind fun _ _ => OK.bind fun _ _ => OK.map fun _ _ => Heap.Kp.refl _
  · exact OK.bind fun _ _ => OK.bind fun _ _ => OK.map fun _ _ => Heap.Kp.refl _
  · exact OK.bind fun _ _ => OK.bind fun _ _ => OK.map fun _ _ => Heap.Kp.refl _
  · refine OK.bind fun _ _ => OK.bind fun _ _ => OK.bind fun _ _ => ?_
    split
    · rename_i r hr; exact OK.some (xMapUpdate_kp r hr)
    · exact OK.map fun r hr => frzA_kp.trans (xMapUpdate_kp r hr)
  · refine OK.bind fun _ _ => OK.bind fun _ _ => OK.bind fun _ _ => ?_
    split
    · rename_i r hr; exact OK.some (xMapUpdate_kp r hr)
    · exact OK.map fun r hr => frzA_kp.trans (xMapUpdate_kp r hr)
  · exact OK.bind fun _ _ => OK.map fun r hr => xRange_kp r hr
  · exact OK.bind fun _ _ => OK.map fun r hr => xNext_kp r hr
  · exact OK.bind fun _ _ => OK.map fun _ _ => Heap.Kp.refl _
  · split
    · exact OK.bind fun _ _ => OK.map fun r hr => xBuiltin_kp r hr
    · exact OK.bind fun _ _ => OK.map fun _ _ => Heap.Kp.refl _
    · exact OK.none
  · exact OK.none

theorem aopC_kp {fr : Fr} {o : Oper} {ob : Option Prop} {r : Res} (h : aopC P fr H o = some (ob, r)) : Res.Kp H r := by
  unfold aopC at h
  split at h
  · rename_i r' hr; cases h; exact aop0_kp _ hr
  · exact aopX_kp _ h
end
end Go.AM
