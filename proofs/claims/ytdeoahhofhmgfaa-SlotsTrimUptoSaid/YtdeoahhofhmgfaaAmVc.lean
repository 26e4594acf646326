/- THE ABSTRACT MACHINE, 24: what is owed for a piece of code, as a statement that the kernel writes out. -/
import Derived.Test.YtdeoahhofhmgfaaAmMc
set_option linter.unusedSimpArgs false
set_option linter.unusedVariables false
namespace Go.AM
noncomputable section
section
variable (P : Program) (S : SumP) (L : LTab) (mc : MC) (rc : VC)

/-- A function's body, path by path. -/
def vBody (f : FuncId) (args : List AV) (H : Heap) (Q : KF) : Prop := match P.funcs[f]? with
  | none => Stuck "no function"
  | some fn => match fn.body with
    | none => Stuck fn.name
    | some c => rc f false false H.next (args.length + (fn.ntmps - args.length)) c (initFr args 0 .nil) H fun x fr' H' => match x with
      | .ex _ => Stuck "exit"
      | _ => match ares P fn fr' H' with
        | none => Stuck "results"
        | some v => Q v H'

def vF (f : FuncId) (args : List AV) (H : Heap) (Q : KF) : Prop :=
  match S f args H with
  | some (.val v) => Q v H
  | some (.fn ob v H') => withOb ob (Q v H')
  | some (.gen φ) => φ Q
  | some .path => vBody P rc f args H Q
  | none => match dF P S mc f args H with
    | some (ob, v, H') => withOb ob (Q v H')
    | none => vBody P rc f args H Q

def vY (l : Nat) (args : List AV) (H : Heap) (Q : Bool → Heap → Prop) : Prop :=
  match H.get l with
  | some (.loop _ _ f fr0 nt ps as bd) => match setParams nt fr0 ps args with
    | none => Stuck "params"
    | some fr1 => rc f true false H.next nt as fr1 H fun x fr2 H2 => match x with
      | .nor => match H2.get l with
        | some (.loop .ready pd fn fr0 nt' ps as bd') => rc f true false H.next nt bd fr2 (H2.set l (.loop .busy pd fn fr0 nt' ps as bd')) fun x fr3 H3 => match H3.get l with
            | some (.loop _ _ fn fr0 nt ps as bd) => Q x.isNor (H3.set l (.loop (bif x.isNor then .ready else .done) (jumpOf x) fn fr0 nt ps as bd))
            | _ => Stuck "loop gone"
        | _ => Stuck "loop not ready"
      | _ => Stuck "assign leaves"
  | _ => Stuck "no loop"

def vPut (n : Nat) (fr : Fr) (dst : Option Tmp) (v : AV) (H : Heap) (k : KO) : Prop :=
  match aput n fr dst v with
  | none => Stuck "put"
  | some fr' => k fr' H

def vPutS (g : Bool) (n : Nat) (fr : Fr) (dst : Option Tmp) (v : AV) (H : Heap) (k : KO) : Prop :=
  match v with
  | .sB b => match g with
    | false => vPut n fr dst (.sB b) H k
    | true => (b = true → vPut n fr dst (.bool true) H k) ∧ (b = false → vPut n fr dst (.bool false) H k)
  | v => vPut n fr dst v H k

def vOp (n : Nat) (ops : Array Oper) (o : Oper) (k : KO) (fr : Fr) (H : Heap) : Prop :=
  match aWant ops fr o with
  | none => Stuck "want"
  | some false => vPut n fr o.dst (.tup []) H k
  | some true => match aopC P fr H o with
    | none => Stuck o.pos
    | some (ob, r) => withOb ob (match r with
      | .val v H' => vPutS (usedG ops o.dst) n fr o.dst v H' k
      | .opts l => allQ (fun q : AV × Heap => vPut n fr o.dst q.1 q.2 k) l
      | .fams l => allQ (fun q : (Nat → Prop) × (Nat → AV × Heap) => ∀ j : Nat, q.1 j → vPut n fr o.dst (q.2 j).1 (q.2 j).2 k) l
      | .call f args => vF P S mc rc f args H fun v H' => vPutS (usedG ops o.dst) n fr o.dst v H' k
      | .yield l args => vY rc l args H fun b H' => vPut n fr o.dst (.bool b) H' k)

/-- Operations one behind the other; where told so, what is left of the region is told as one, if it can be. -/
def vO (n : Nat) (ops : Array Oper) : Bool → List Nat → Fr → Heap → KO → Prop
  | _, [], fr, H, k => k fr H
  | t, i :: rest, fr, H, k => match (match t with
      | true => dO P S mc (rmask ops) n ops (i :: rest) fr H
      | false => none) with
    | some R => withOb R.ob (outsP (fun _ fr' H' => k fr' H') R.outs)
    | none => match ops[i]? with
      | none => Stuck "ops"
      | some o => vOp P S mc rc n ops o (fun fr' H' => vO n ops (!(roOp P o.op)) rest fr' H' k) fr H

def vPl (n : Nat) (ops : Array Oper) : Pl → Fr → Heap → KO → Prop
  | .done, fr, H, k => k fr H
  | .ro i rest, fr, H, k => match ops[i]? with
    | none => Stuck "ops"
    | some o => match roX P ops fr H o with
      | none => Stuck o.pos
      | some (p, v) => withOb p (vPutS (usedG ops o.dst) n fr o.dst v H fun fr' H' => vPl n ops rest fr' H' k)
  | .loud i js rest, fr, H, k => match ops[i]? with
    | none => Stuck "ops"
    | some o => vOp P S mc rc n ops o (fun fr' H' => vChk P ops fr' H' js (vPl n ops rest fr' H' k)) fr H
  | .both a b, fr, H, k => vPl n ops a fr H k ∧ vPl n ops b fr H k

def vR (f0 : FuncId) (K n : Nat) (g : Operand) (ps : Array Tmp) (as bd : Code) (fr : Fr) (H : Heap) (Q : Post) : Prop :=
  match aeval fr g with
  | none => Stuck "range over what"
  | some gv => match aCallV P gv [.yld H.next] with
    | some (.call f args) => vF P S mc rc f args (H.alloc (.loop .ready none f0 fr n ps.toList as bd)) fun _ H2 => match H2.get H.next with
      | some (.loop st pd fn fr0 nt ps as bd) => bif st == .busy then Stuck "busy" else match pd with
        | none => Q .nor fr (H2.set H.next (.loop .exhausted pd fn fr0 nt ps as bd))
        | some c => rc f0 false false K n c fr (H2.set H.next (.loop .exhausted pd fn fr0 nt ps as bd)) Q
      | _ => Stuck "range record"
    | _ => Stuck "range call"

/-- A round, and what comes behind it. -/
def vThen (f : FuncId) (inR : Bool) (K n : Nat) (c : Code) (Q : Post) : Post := fun x fr' H' => match x with
  | .nor => forceS fr' H' fun fr' H' => rc f inR true K n c fr' H' Q
  | x => Q x fr' H'

def vBlk (id : Nat) (Q : Post) : Post := fun x fr' H' => match x with
  | .ex id' => bif Nat.beq id' id then Q .nor fr' H' else Q (.ex id') fr' H'
  | x => Q x fr' H'

def vSeq (f : FuncId) (inR : Bool) (K n : Nat) (y : Code) (Q : Post) : Post := fun x fr' H' => match x with
  | .nor => forceS fr' H' fun fr' H' => rc f inR false K n y fr' H' Q
  | x => Q x fr' H'

def vBack (li : LInv) (K : Nat) (fr : Fr) (H : Heap) (s : li.σ) (Q : Post) : Post := fun x fr' H' => match x with
  | .nor => ∃ s', li.inv s' ∧ li.mu s' < li.mu s ∧ vMs K (li.st s' fr H) fr' H'
  | x => Q x fr' H'

def vLoop (li : LInv) (f : FuncId) (inR : Bool) (K n : Nat) (c : Code) (fr : Fr) (H : Heap) (Q : Post) : Prop :=
  ∃ s0, li.inv s0 ∧ vMs K (li.st s0 fr H) fr H ∧ ∀ s, li.inv s →
    impP (rngT rngV (frOf (li.st s fr H).1) ++ rngT rngO (li.st s fr H).2.t) (rc f inR false K n c (frOf (li.st s fr H).1) (li.st s fr H).2 (vBack li K fr H s Q))

/-- A cut: what holds between two pieces of code. -/
def vCutQ (li : LInv) (K : Nat) (fr : Fr) (H : Heap) (Q : Post) : Post := fun x fr' H' => match x with
  | .nor => ∃ s', li.inv s' ∧ vMs K (li.st s' fr H) fr' H'
  | x => Q x fr' H'

def vCut (li : LInv) (f : FuncId) (inR : Bool) (K n : Nat) (x y : Code) (fr : Fr) (H : Heap) (Q : Post) : Prop :=
  rc f inR false K n x fr H (vCutQ li K fr H Q) ∧ ∀ s, li.inv s →
    impP (rngT rngV (frOf (li.st s fr H).1) ++ rngT rngO (li.st s fr H).2.t) (rc f inR false K n y (frOf (li.st s fr H).1) (li.st s fr H).2 Q)

/-- With this key in the table: path by path throughout a function. -/
def noMrg : Nat := 2000000

def mayM (f : FuncId) (fr : Fr) (H : Heap) : Bool := match L f noMrg fr H with
  | some _ => false
  | none => true

/-- One piece told as one, if it can be. -/
def vTry (f : FuncId) (K n : Nat) (c : Code) (fr : Fr) (H : Heap) (Q : Post) (q : Prop) : Prop := match mayM L f fr H with
  | false => q
  | true => match mc false n c fr H with
    | none => q
    | some R => withOb R.ob (outsP Q R.outs)

/-- The cuts' keys in the table begin here. -/
def cutKey (k : Nat) : Nat := 1000000 + k

def vStep : VC := fun f inR begun K n c fr H Q =>
  match begun with
  | true => match L f (codeKey c) fr H with
    | some li => vLoop rc li f inR K n c fr H Q
    | none => rc f inR false K n c fr H (vThen rc f inR K n c Q)
  | false => match c with
    | .skip => Q .nor fr H
    | .label _ => Q .nor fr H
    | .exit id => Q (.ex id) fr H
    | .ret => Q .ret fr H
    | .seq x y => match L f (cutKey (codeKey y)) fr H with
      | some li => vCut rc li f inR K n x y fr H Q
      | none => rc f inR false K n x fr H (vSeq rc f inR K n y Q)
    | .cond x c d => match aeval fr x with
      | some (.bool t) => rc f inR false K n (bif t then c else d) fr H Q
      | some (.sB b) => vTry L mc f K n (.cond x c d) fr H Q ((b = true → rc f inR false K n c fr H Q) ∧ (b = false → rc f inR false K n d fr H Q))
      | _ => Stuck "cond"
    | .block id c => rc f inR false K n c fr H (vBlk id Q)
    | .loop c => match L f (codeKey c) fr H with
      | some li => vLoop rc li f inR K n c fr H Q
      | none => rc f inR false K n c fr H (vThen rc f inR K n c Q)
    | .region id ops false => vTry L mc f K n (.region id ops false) fr H Q (vO P S mc rc n ops (!(mayM L f fr H)) (List.range ops.size) fr H (Q .nor))
    | .region id ops true => vTry L mc f K n (.region id ops true) fr H Q (match plan P ops with
      | none => Stuck "plan"
      | some pl => vPl P S mc rc n ops pl fr H (Q .nor))
    | .rangeFunc g ps as bd => match inR with
      | true => Stuck "range in a round"
      | false => vR P S mc rc f K n g ps as bd fr H Q
    | .scope c => rc f inR false K n c fr H Q
    | _ => Stuck "code"

end

section
variable (P : Program) (S : SumP) (L : LTab)
def vC : Nat → VC
  | 0 => fun _ _ _ _ _ _ _ _ _ => Stuck "fuel"
  | k + 1 => vStep P S L (dC P S k) (vC k)

/-- What is owed for a function. -/
def vTop (k : Nat) (f : FuncId) (args : List AV) (H : Heap) (Q : KF) : Prop := vBody P (vC P S L k) f args H Q
end
end
end Go.AM
