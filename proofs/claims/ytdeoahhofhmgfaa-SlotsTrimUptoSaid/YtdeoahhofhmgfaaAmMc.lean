/- THE ABSTRACT MACHINE, 23e: a piece of code told as one: one state for each way out. -/
import Derived.Test.YtdeoahhofhmgfaaAmVc0
set_option linter.unusedSimpArgs false
set_option linter.unusedVariables false
namespace Go.AM
noncomputable section

def XT.beq : XT → XT → Bool
  | .nor, .nor => true
  | .ret, .ret => true
  | .ex i, .ex j => Nat.beq i j
  | _, _ => false

/-- A way out: when; the state there. -/
structure Out where
  g : Option Bool
  fr : Fr
  H : Heap
  ds : Nat
  hs : Nat

/-- What is owed; how many names there were where the ways parted; the ways out, each with the slots and the blocks that may differ from there. -/
structure MR where
  ob : Option Prop
  kb : Nat
  outs : List (XT × Out)

def Out.on (o : Out) : Prop := o.g.getD true = true

def andOb : Option Prop → Option Prop → Option Prop
  | none, q => q
  | some p, none => some p
  | some p, some q => some (p ∧ q)

def impOb (g : Bool) : Option Prop → Option Prop
  | none => none
  | some p => some (g = true → p)

def iteOb (b : Bool) : Option Prop → Option Prop → Option Prop
  | none, none => none
  | some p, none => some (b = true → p)
  | none, some q => some (b = false → q)
  | some p, some q => some ((b = true → p) ∧ (b = false → q))

def addOb (p : Option Prop) (R : MR) : MR := ⟨andOb p R.ob, R.kb, R.outs⟩

def one (x : XT) (fr : Fr) (H : Heap) : MR := ⟨none, H.next, [(x, ⟨none, fr, H, 0, 0⟩)]⟩

def lkO (x : XT) : List (XT × Out) → Option Out
  | [] => none
  | p :: l => bif XT.beq p.1 x then some p.2 else lkO x l

def dropO (x : XT) : List (XT × Out) → List (XT × Out)
  | [] => []
  | p :: l => bif XT.beq p.1 x then dropO x l else p :: dropO x l

def gL (b : Bool) : Option Bool → Option Bool
  | none => some b
  | some g => some (b && g)
def gR (b : Bool) : Option Bool → Option Bool
  | none => some (!b)
  | some g => some (!b && g)
def gB (b : Bool) : Option Bool → Option Bool → Option Bool
  | none, none => none
  | some g, none => some (!b || g)
  | none, some g => some (b || g)
  | some g, some h => some (bif b then g else h)

def joinL (b : Bool) (K : Nat) (L2 : List (XT × Out)) : List (XT × Out) → Option (List (XT × Out))
  | [] => some []
  | p :: l => match lkO p.1 L2 with
    | none => (joinL b K L2 l).map ((p.1, { p.2 with g := gL b p.2.g }) :: ·)
    | some o2 => match join b K (p.2.ds ||| o2.ds) (p.2.hs ||| o2.hs) p.2.fr p.2.H o2.fr o2.H with
      | none => none
      | some s => (joinL b K L2 l).map ((p.1, ⟨gB b p.2.g o2.g, s.1, s.2, p.2.ds ||| o2.ds, p.2.hs ||| o2.hs⟩) :: ·)

def restL (b : Bool) (L1 : List (XT × Out)) : List (XT × Out) → List (XT × Out)
  | [] => []
  | p :: l => match lkO p.1 L1 with
    | none => (p.1, { p.2 with g := gR b p.2.g }) :: restL b L1 l
    | some _ => restL b L1 l

def joinLs (b : Bool) (K : Nat) (L1 L2 : List (XT × Out)) : Option (List (XT × Out)) := (joinL b K L2 L1).map fun l => l ++ restL b L1 L2

def Heap.fresh (H : Heap) : Heap := { t := H.t, next := H.next, d := 0 }

/-- A way out, told from a state further back. -/
def reb (m h0 d0 : Nat) (p : XT × Out) : XT × Out := (p.1, { p.2 with ds := m, hs := h0 ||| p.2.H.d, H := { t := p.2.H.t, next := p.2.H.next, d := d0 ||| p.2.H.d } })

def dJoin (b : Bool) (K d0 m : Nat) (R1 R2 : Option MR) : Option MR := match R1 with
  | none => none
  | some a => match R2 with
    | none => none
    | some c => (joinLs b K (a.outs.map (reb m 0 d0)) (c.outs.map (reb m 0 d0))).map fun l => ⟨iteOb b a.ob c.ob, K, l⟩

def dSeq (my : Nat) (R : MR) (cont : Fr → Heap → Option MR) : Option MR := match lkO .nor R.outs with
  | none => some R
  | some o => match o.g with
    | none => (cont o.fr o.H).map (addOb R.ob)
    | some g => match cont o.fr o.H.fresh with
      | none => none
      | some R2 => (joinLs g R.kb (R2.outs.map (reb (o.ds ||| my) o.hs o.H.d)) (dropO .nor R.outs)).map fun l => ⟨andOb R.ob (impOb g R2.ob), R.kb, l⟩

def dBlk (id : Nat) (R : MR) : Option MR := match lkO (.ex id) R.outs with
  | none => some R
  | some o => match o.g with
    | none => some ⟨R.ob, R.kb, [(.nor, o)]⟩
    | some g => (joinLs g R.kb [(.nor, { o with g := none })] (dropO (.ex id) R.outs)).map fun l => ⟨R.ob, R.kb, l⟩

/-- The slots that code fills. -/
def omask : List Oper → Nat
  | [] => 0
  | o :: l => match o.dst with
    | none => omask l
    | some d => 2 ^ d ||| omask l

def rmask (ops : Array Oper) : Nat := omask ops.toList

def dmask : Code → Nat
  | .region _ ops _ => rmask ops
  | .seq a b => dmask a ||| dmask b
  | .cond _ a b => dmask a ||| dmask b
  | .block _ a => dmask a
  | .scope a => dmask a
  | .loop a => dmask a
  | _ => 0

/-- A state written out, ahead of going on. -/
def forced (fr : Fr) (H : Heap) (c : Fr → Heap → Option MR) : Option MR := forceS fr H c

abbrev MC := Bool → Nat → Code → Fr → Heap → Option MR

section
variable (P : Program) (S : SumP) (rc : MC)

def dF (f : FuncId) (args : List AV) (H : Heap) : Option (Option Prop × AV × Heap) :=
  match S f args H with
  | some (.val v) => some (none, v, H)
  | some (.fn ob v H') => bif Nat.ble H.next H'.next then some (ob, v, { t := H'.t, next := H'.next, d := H.d ||| (2 ^ H'.next - 1) }) else none
  | some (.gen _) => none
  | some .path => none
  | none => match P.funcs[f]? with
    | none => none
    | some fn => match fn.body with
      | none => none
      | some c => match rc false (args.length + (fn.ntmps - args.length)) c (initFr args 0 .nil) H with
        | none => none
        | some R => match dSeq 0 R fun fr H => some (one .ret fr H) with
          | none => none
          | some R' => match lkO .ret R'.outs with
            | none => none
            | some o => match dropO .ret R'.outs with
              | [] => (ares P fn o.fr o.H).map fun v => (R'.ob, v, o.H)
              | _ => none

def dPutS (fz g : Bool) (m n : Nat) (fr : Fr) (dst : Option Tmp) (v : AV) (H : Heap) (k : Fr → Heap → Option MR) : Option MR :=
  match v with
  | .sB b => match g with
    | false => (aput n fr dst (.sB b)).bind fun f => k f H
    | true => match aput n fr dst (.bool true) with
      | none => none
      | some f1 => match aput n fr dst (.bool false) with
        | none => none
        | some f2 => bif fz then dJoin b H.next H.d m (k f1 H.fresh) (k f2 H.fresh) else dJoin b H.next H.d m (k f1 H) (k f2 H)
  | v => (aput n fr dst v).bind fun f => k f H

def dOp (fz : Bool) (m n : Nat) (ops : Array Oper) (o : Oper) (k : Fr → Heap → Option MR) (fr : Fr) (H : Heap) : Option MR :=
  match aWant ops fr o with
  | none => none
  | some false => (aput n fr o.dst (.tup [])).bind fun f => k f H
  | some true => match aopC P fr H o with
    | none => none
    | some (ob, r) => match r with
      | .val v H' => (dPutS fz (usedG ops o.dst) m n fr o.dst v H' k).map (addOb ob)
      | .call f args => match dF P S rc f args H with
        | none => none
        | some (ob2, v, H') => (dPutS fz (usedG ops o.dst) m n fr o.dst v H' k).map (addOb (andOb ob ob2))
      | _ => none

def dO (m n : Nat) (ops : Array Oper) : List Nat → Fr → Heap → Option MR
  | [], fr, H => some (one .nor fr H)
  | i :: rest, fr, H => match ops[i]? with
    | none => none
    | some o => dOp P S rc true m n ops o (fun fr' H' => dO m n ops rest fr' H') fr H

/-- What must be said again. -/
def chkOb (ops : Array Oper) (fr : Fr) (H : Heap) : List Nat → Option Prop
  | [] => none
  | j :: js => match ops[j]? with
    | none => chkOb ops fr H js
    | some oj => match roX P ops fr H oj with
      | none => some False
      | some (p, v) => andOb p (match oj.dst with
        | none => chkOb ops fr H js
        | some d => match fr.get d with
          | none => some False
          | some u => match sameP u v with
            | none => some False
            | some [] => chkOb ops fr H js
            | some (q :: qs) => andOb (some (conjP (q :: qs))) (chkOb ops fr H js))

/-- All that a frame holds. -/
def T.toL {α : Type} (a b : Nat) : T α → List (Nat × α)
  | .nil => []
  | .node l v r => match v with
    | none => T.toL (2 * a) (a + b) l ++ T.toL (2 * a) (2 * a + b) r
    | some x => (b, x) :: (T.toL (2 * a) (a + b) l ++ T.toL (2 * a) (2 * a + b) r)

/-- The only way out, that is always taken. -/
def soleO (R : MR) : Option Out := match R.outs with
  | [] => none
  | p :: l => match l with
    | [] => match p.1 with
      | .nor => match p.2.g with
        | none => some p.2
        | some _ => none
      | _ => none
    | _ => none

def listOb : List Prop → Option Prop
  | [] => none
  | p :: ps => some (conjP (p :: ps))

def someB (o : Option AObj) : Bool := match o with
  | some _ => true
  | none => false

/-- All blocks, but those that nobody turned since. -/
def mOsF (d K : Nat) (r : Ren) (H0 H : Heap) : List Nat → Option (List Prop)
  | [] => some []
  | i :: is => andP (match H0.get i with
      | none => some []
      | some o => bif Nat.blt i K && !(Nat.testBit d i) && someB (H.get i) && selfO K o then some [] else match lk r i with
        | none => none
        | some s => mO r o s (s.id?.bind H.get)) (mOsF d K r H0 H is)

def mSF (d K : Nat) (r : Ren) (fl : List (Nat × AV)) (H0 : Heap) (fr : Fr) (H : Heap) : Option (List Prop) :=
  bif rootsOk r K && Nat.ble K H0.next && Nat.ble K H.next && distinct r [] [] && r.all (fun p => Nat.blt p.1 H0.next) && subsOk H0 r && T.allK (fun i => Nat.blt i H0.next) H0.t then
    andP (mF r fr fl) (mOsF d K r H0 H (List.range H0.next))
  else none

/-- Two roads to the same: what is owed that the second one is the first one. -/
def dBoth (m : Nat) (H : Heap) (A B : MR) : Option MR := match soleO A with
  | none => none
  | some oa => match soleO B with
    | none => none
    | some ob => match mSF (oa.H.d ||| ob.H.d) H.next (findRen H.next (T.toL 1 0 oa.fr) oa.H ob.fr ob.H) (T.toL 1 0 oa.fr) oa.H ob.fr ob.H with
      | none => none
      | some ps => some ⟨andOb A.ob (andOb B.ob (listOb ps)), H.next, A.outs.map (reb m 0 H.d)⟩

def dPl (m n : Nat) (ops : Array Oper) : Pl → Fr → Heap → Option MR
  | .done, fr, H => some (one .nor fr H)
  | .ro i rest, fr, H => match ops[i]? with
    | none => none
    | some o => match roX P ops fr H o with
      | none => none
      | some (p, v) => (dPutS false (usedG ops o.dst) m n fr o.dst v H fun fr' H' => dPl m n ops rest fr' H').map (addOb p)
  | .loud i js rest, fr, H => match ops[i]? with
    | none => none
    | some o => dOp P S rc false m n ops o (fun fr' H' => (dPl m n ops rest fr' H').map (addOb (chkOb P ops fr' H' js))) fr H
  | .both a b, fr, H => match dPl m n ops a fr H.fresh with
    | none => none
    | some A => match dPl m n ops b fr H.fresh with
      | none => none
      | some B => dBoth m H A B

/-- One round, and on. -/
def dRound (n : Nat) (c : Code) (fr : Fr) (H : Heap) : Option MR := match rc false n c fr H with
  | none => none
  | some R => match lkO .nor R.outs with
    | none => some R
    | some o => match o.g with
      | none => (forced o.fr o.H fun fr' H' => rc true n c fr' H').map (addOb R.ob)
      | some _ => none

def dStep : MC := fun begun n c fr H =>
  match begun with
  | true => dRound rc n c fr H
  | false => match c with
    | .skip => some (one .nor fr H)
    | .label _ => some (one .nor fr H)
    | .exit id => some (one (.ex id) fr H)
    | .ret => some (one .ret fr H)
    | .seq x y => match rc false n x fr H with
      | none => none
      | some R => dSeq (dmask y) R fun fr' H' => forced fr' H' fun fr' H' => rc false n y fr' H'
    | .cond x c d => match aeval fr x with
      | some (.bool t) => rc false n (bif t then c else d) fr H
      | some (.sB b) => dJoin b H.next H.d (dmask c ||| dmask d) (rc false n c fr H.fresh) (rc false n d fr H.fresh)
      | _ => none
    | .block id c => match rc false n c fr H with
      | none => none
      | some R => dBlk id R
    | .loop c => dRound rc n c fr H
    | .region _ ops false => dO P S rc (rmask ops) n ops (List.range ops.size) fr H
    | .region _ ops true => match plan P ops with
      | none => none
      | some pl => dPl P S rc (rmask ops) n ops pl fr H
    | .scope c => rc false n c fr H
    | _ => none

def dC : Nat → MC
  | 0 => fun _ _ _ _ _ => none
  | k + 1 => dStep P S (dC k)
end

/-- What is owed at the ways out. -/
def outsP (Q : Post) : List (XT × Out) → Prop
  | [] => True
  | p :: l => match l with
    | [] => match p.2.g with
      | none => Q p.1 p.2.fr p.2.H
      | some g => g = true → Q p.1 p.2.fr p.2.H
    | l => (match p.2.g with
      | none => Q p.1 p.2.fr p.2.H
      | some g => g = true → Q p.1 p.2.fr p.2.H) ∧ outsP Q l
end
end Go.AM
