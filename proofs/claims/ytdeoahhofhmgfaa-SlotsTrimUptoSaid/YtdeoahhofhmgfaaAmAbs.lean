/- THE ABSTRACT MACHINE, 20: a state that is one of a kind: names are given anew, rows and maps are taken as terms, what nobody needs is left. -/
import Derived.Test.YtdeoahhofhmgfaaAmRun
set_option linter.unusedSimpArgs false
set_option linter.unusedVariables false
namespace Go.AM
open Go.RowKit

/-- Where a block of the pattern is in the state. -/
inductive Src where
  | same (j : Nat)
  | sub (j off es len cap : Nat) (ex : Bool)
  | void (es : Nat)

def Src.atE (ρ : Env) : Src → Option At
  | .same j => ρ.ats[j]?
  | .sub j off es len _ _ => ρ.ats[j]?.map fun e => { b := e.b, sh := e.sh + off, n := e.n, es := es, len := len, nb := e.nb }
  | .void es => some { b := 0, sh := 0, n := 0, es := es, len := 0, nb := true }

def Src.id? : Src → Option Nat
  | .same j => some j
  | .sub j .. => some j
  | .void _ => none

abbrev Ren := List (Nat × Src)

def lk : Ren → Nat → Option Src
  | [], _ => none
  | (j, s) :: r, i => bif Nat.beq j i then some s else lk r i

def isSame (r : Ren) (i j : Nat) : Bool := match lk r i with
  | some (.same j') => Nat.beq j' j
  | _ => false

def AllP : List Prop → Prop
  | [] => True
  | p :: ps => p ∧ AllP ps

def conjP : List Prop → Prop
  | [] => True
  | [p] => p
  | p :: q :: ps => p ∧ conjP (q :: ps)

theorem allP_of : ∀ {ps : List Prop}, conjP ps → AllP ps
  | [], _ => trivial
  | [_], h => ⟨h, trivial⟩
  | _ :: _ :: _, h => ⟨h.1, allP_of h.2⟩

theorem allP_append : ∀ {ps qs : List Prop}, AllP (ps ++ qs) → AllP ps ∧ AllP qs
  | [], qs, h => ⟨trivial, h⟩
  | p :: ps, qs, h => ⟨⟨h.1, (allP_append h.2).1⟩, (allP_append h.2).2⟩

def chkB (b : Bool) : Option (List Prop) := bif b then some [] else none
def andP (a b : Option (List Prop)) : Option (List Prop) := match a with
  | none => none
  | some ps => match b with
    | none => none
    | some qs => some (ps ++ qs)

theorem chkB_inv {b : Bool} {ps : List Prop} (h : chkB b = some ps) : b = true := by cases b <;> simp [chkB] at h ⊢
theorem andP_inv {a b : Option (List Prop)} {ps : List Prop} (h : andP a b = some ps) (hp : AllP ps) : ∃ p q, a = some p ∧ b = some q ∧ AllP p ∧ AllP q := by
  unfold andP at h
  split at h
  · cases h
  · split at h
    · cases h
    · cases h; exact ⟨_, _, rfl, rfl, (allP_append hp).1, (allP_append hp).2⟩

def castRow {r r' : RTy} (h : r = r') (row : r.den) : r'.den := h ▸ row

mutual
/-- Does a value fit the pattern's? What is owed for it. -/
def mV (r : Ren) : AV → AV → Option (List Prop)
  | .bool b, v => match v with
    | .bool b' => chkB (b == b')
    | .sB c => some [c = b]
    | _ => none
  | .sB b, v => match v.asB with
    | some c => some [c = b]
    | none => none
  | .int k n, v => match v with
    | .int k' n' => chkB (decide (k = k') && decide (n = n'))
    | .sI k' n' => bif decide (k = k') then some [n' = n] else none
    | _ => none
  | .sI k n, v => match v.asX with
    | some (k', n') => bif decide (k' = k) then some [n' = n] else none
    | none => none
  | .str s, v => match v with
    | .str s' => chkB (eqB s s')
    | .sS s' => some [s' = s]
    | _ => none
  | .sS s, v => match v.asS with
    | some s' => some [s' = s]
    | none => none
  | .nilPtr, v => match v with | .nilPtr => some [] | _ => none
  | .nilSlc, v => match v with | .nilSlc => some [] | _ => none
  | .emp, v => match v with | .emp => some [] | _ => none
  | .nilMap, v => match v with | .nilMap => some [] | _ => none
  | .nilFn, v => match v with | .nilFn => some [] | _ => none
  | .nilIface, v => match v with | .nilIface => some [] | _ => none
  | .ptr i off, v => match v with
    | .ptr j off' => chkB (isSame r i j && Nat.beq off off')
    | _ => none
  | .slc i off len cap ex, v => match v with
    | .slc j off' len' cap' ex' => chkB (isSame r i j && Nat.beq off off' && Nat.beq len len' && Nat.beq cap cap' && (ex == ex'))
    | _ => none
  | .map i, v => match v with
    | .map j => chkB (isSame r i j)
    | _ => none
  | .yld i, v => match v with
    | .yld j => chkB (isSame r i j)
    | _ => none
  | .fn f a b, v => match f, v with
    | .func f, .fn (.func f') a' b' => andP (chkB (Nat.beq f f')) (andP (mVL r a a') (mVL r b b'))
    | _, _ => none
  | .iface t u, v => match v with
    | .iface t' u' => andP (chkB (Nat.beq t t')) (mV r u u')
    | _ => none
  | .agg a, v => match v with
    | .agg b => mVL r a b
    | _ => none
  | .tup a, v => match v with
    | .tup b => mVL r a b
    | _ => none
  | .dsl t rows, v => match v with
    | .dsl t' rows' => if h : RTy.same t' t = true then some [castRows (RTy.same_eq h) rows' = rows] else none
    | .nilSlc => some [[] = rows]
    | _ => none
  | .sw i, v => match v with
    | .sw j => chkB (isSame r i j)
    | .slc j off len cap ex => match lk r i with
      | some (.sub j' off' _ len' cap' ex') => chkB (Nat.beq j j' && Nat.beq off off' && Nat.beq len len' && Nat.beq cap cap' && (ex == ex'))
      | _ => none
    | .nilSlc => match lk r i with
      | some (.void _) => some []
      | _ => none
    | _ => none
  | .ss i lo len, v => match v with
    | .ss j lo' len' => bif isSame r i j then some [lo' = lo, len' = len] else none
    | _ => none
  | .eptr i k j, v => match v with
    | .eptr i' k' j' => bif isSame r i i' && Nat.beq j j' then some [k' = k] else none
    | _ => none
  | .dptr t row j, v => match v with
    | .dptr t' row' j' => bif Nat.beq j j' then (if h : RTy.same t' t = true then some [castRow (RTy.same_eq h) row' = row] else none) else none
    | _ => none
def mVL (r : Ren) : List AV → List AV → Option (List Prop)
  | [], [] => some []
  | a :: x, b :: y => andP (mV r a b) (mVL r x y)
  | _, _ => none
end

/-- Frames. -/
def mT (r : Ren) : T AV → T AV → Option (List Prop)
  | .nil, _ => some []
  | .node a v b, .node a' v' b' => andP (match v with
      | none => some []
      | some p => match v' with
        | some q => mV r p q
        | none => none) (andP (mT r a a') (mT r b b'))
  | .node a v b, .nil => match v with
      | none => andP (mT r a .nil) (mT r b .nil)
      | some _ => none

def mE (r : Ren) : List Ent → List Ent → Option (List Prop)
  | [], [] => some []
  | a :: x, b :: y => andP (andP (chkB (Nat.beq a.born b.born)) (andP (mV r a.key b.key) (mV r a.val b.val))) (mE r x y)
  | _, _ => none

def tyFits : Option TypeId → Option TypeId → Bool
  | none, _ => true
  | some t, some t' => Nat.beq t t'
  | some _, none => false

def natsEq : List Nat → List Nat → Bool
  | [], [] => true
  | a :: x, b :: y => Nat.beq a b && natsEq x y
  | _, _ => false

def castMap {kr kr' vr vr' : RTy} (h : kr = kr') (h2 : vr = vr') (m : List (kr.den × vr.den)) : List (kr'.den × vr'.den) := h ▸ h2 ▸ m

/-- The entries of a map, as terms. -/
def decE (ka va : Bool) (kr vr : RTy) : List Ent → Option (List (kr.den × vr.den))
  | [] => some []
  | e :: es => (e.key.cellsOf ka).bind fun kc => (kr.dec kc).bind fun k => (e.val.cellsOf va).bind fun vc => (vr.dec vc).bind fun v => (decE ka va kr vr es).map ((k, v) :: ·)

def bornsOk : List Ent → List Nat → Nat → Bool
  | [], _, _ => true
  | e :: es, seen, clock => Nat.blt e.born clock && !natMem e.born seen && bornsOk es (e.born :: seen) clock

/-- Does a block fit the pattern's? -/
def mO (r : Ren) : AObj → Src → Option AObj → Option (List Prop)
  | .seq t rows ty, .void es, _ => bif Nat.beq es t.size && tyFits ty none then some [[] = rows] else none
  | .cells ro es cs ty, .same _, some (.cells ro' es' cs' ty') => andP (chkB ((ro == ro') && Nat.beq es es' && tyFits ty ty')) (mVL r cs cs')
  | .map es clock, .same _, some (.map es' clock') => andP (chkB (Nat.beq clock clock')) (mE r es es')
  | .loop st pd _ fr n ps as bd, .same _, some (.loop st' pd' _ fr' n' ps' as' bd') =>
    match pd, pd' with
    | none, none => andP (chkB ((st == st') && Nat.beq n n' && natsEq ps ps')) (andP (mT r fr fr') (some [as' = as, bd' = bd]))
    | _, _ => none
  | .sIter s pos, .same _, some (.sIter s' pos') => chkB (eqB s s' && Nat.beq pos pos')
  | .mIter m since seen stepped, .same _, some (.mIter m' since' seen' stepped') => chkB (isSame r m m' && Nat.beq since since' && natsEq seen seen' && Nat.beq stepped stepped')
  | .seq t rows ty, .same _, some (.seq t' rows' ty') => bif tyFits ty ty' then if h : RTy.same t' t = true then some [castRows (RTy.same_eq h) rows' = rows] else none else none
  | .seq t rows ty, .sub _ off es len cap ex, some (.cells false es' cs _) =>
    bif Nat.beq es t.size && tyFits ty none && Nat.ble len maxI && Nat.ble len cap && Nat.ble (off + len * es) cs.length && (bif ex then Nat.ble (off + cap * es) cs.length && Nat.blt 0 cap else Nat.beq es' es) then
      match t.decs len ((cs.drop off).take (len * es)) with
      | some rows' => some [rows' = rows]
      | none => none
    else none
  | .smap ka va kr vr m bs clk, .same _, some (.smap ka' va' kr' vr' m' bs' clk') => bif (ka == ka') && (va == va') then
      if h : RTy.same kr' kr = true then if h2 : RTy.same vr' vr = true then some [castMap (RTy.same_eq h) (RTy.same_eq h2) m' = m, bs' = bs, clk' = clk] else none else none
    else none
  | .smap ka va kr vr m bs clk, .same _, some (.map es clock) => bif bornsOk es [] clock && (ka || Nat.beq kr.size 1) && (va || Nat.beq vr.size 1) then
      match decE ka va kr vr es with
      | some m' => some [m' = m, es.map (·.born) = bs, clock = clk, (m.map (·.1)).Nodup]
      | none => none
    else none
  | .smIter m since seen stepped, .same _, some (.smIter m' since' seen' stepped') => bif isSame r m m' then some [since' = since, seen' = seen, stepped' = stepped] else none
  | _, _, _ => none

/-- All blocks of the pattern. -/
def mOs (r : Ren) (H0 H : Heap) : List Nat → Option (List Prop)
  | [] => some []
  | i :: is => andP (match H0.get i with
      | none => some []
      | some o => match lk r i with
        | none => none
        | some s => mO r o s (s.id?.bind H.get)) (mOs r H0 H is)

def mF (r : Ren) (fr : Fr) : List (Nat × AV) → Option (List Prop)
  | [] => some []
  | (t, p) :: l => andP (match fr.get t with
      | some v => mV r p v
      | none => none) (mF r fr l)

def distinct : Ren → List Nat → List Nat → Bool
  | [], _, _ => true
  | (i, s) :: r, is, js => !natMem i is && (match s.id? with
      | none => distinct r (i :: is) js
      | some j => !natMem j js && distinct r (i :: is) (j :: js))

def rootsOk (r : Ren) : Nat → Bool
  | 0 => true
  | k + 1 => isSame r k k && rootsOk r k

def frOf : List (Nat × AV) → Fr
  | [] => .nil
  | (t, v) :: l => (frOf l).set t (some v)

def T.allK {α : Type} : (Nat → Bool) → T α → Bool
  | _, .nil => true
  | f, .node l v r => (v.isNone || f 0) && T.allK (fun k => f (2 * k + 1)) l && T.allK (fun k => f (2 * k + 2)) r

def subsOk (H0 : Heap) (r : Ren) : Bool := r.all fun p => match p.2 with
  | .sub .. => (H0.get p.1).isSome
  | _ => true

def mS (K : Nat) (r : Ren) (fl : List (Nat × AV)) (H0 : Heap) (fr : Fr) (H : Heap) : Option (List Prop) :=
  bif rootsOk r K && Nat.ble K H0.next && Nat.ble K H.next && distinct r [] [] && r.all (fun p => Nat.blt p.1 H0.next) && subsOk H0 r && T.allK (fun i => Nat.blt i H0.next) H0.t then
    andP (mF r fr fl) (mOs r H0 H (List.range H0.next))
  else none

/-! ### Finding the names (nothing here is relied upon) -/
mutual
def fV (H0 : Heap) (r : Ren) : AV → AV → Ren
  | .ptr i _, .ptr j _ => fI r i (.same j)
  | .slc i _ _ _ _, .slc j _ _ _ _ => fI r i (.same j)
  | .map i, .map j => fI r i (.same j)
  | .yld i, .yld j => fI r i (.same j)
  | .fn _ a b, .fn _ a' b' => fVL H0 (fVL H0 r a a') b b'
  | .iface _ u, .iface _ u' => fV H0 r u u'
  | .agg a, .agg b => fVL H0 r a b
  | .tup a, .tup b => fVL H0 r a b
  | .sw i, .sw j => fI r i (.same j)
  | .sw i, .slc j off len cap ex => fI r i (.sub j off (seqEs H0 i) len cap ex)
  | .sw i, .nilSlc => fI r i (.void (seqEs H0 i))
  | .ss i _ _, .ss j _ _ => fI r i (.same j)
  | .eptr i _ _, .eptr j _ _ => fI r i (.same j)
  | _, _ => r
def fVL (H0 : Heap) (r : Ren) : List AV → List AV → Ren
  | a :: x, b :: y => fVL H0 (fV H0 r a b) x y
  | _, _ => r
def fI (r : Ren) (i : Nat) (s : Src) : Ren := match lk r i with
  | none => r ++ [(i, s)]
  | some _ => r
def seqEs (H0 : Heap) (i : Nat) : Nat := match H0.get i with
  | some (.seq t _ _) => t.size
  | _ => 0
end

def fE (H0 : Heap) (r : Ren) : List Ent → List Ent → Ren
  | a :: x, b :: y => fE H0 (fV H0 (fV H0 r a.key b.key) a.val b.val) x y
  | _, _ => r

def fT (H0 : Heap) (r : Ren) : T AV → T AV → Ren
  | .node a v b, .node a' v' b' => fT H0 (fT H0 (match v, v' with
      | some p, some q => fV H0 r p q
      | _, _ => r) a a') b b'
  | _, _ => r

def fO (H0 : Heap) (r : Ren) : Option AObj → Option AObj → Ren
  | some (.cells _ _ cs _), some (.cells _ _ cs' _) => fVL H0 r cs cs'
  | some (.map es _), some (.map es' _) => fE H0 r es es'
  | some (.loop _ _ _ fr _ _ _ _), some (.loop _ _ _ fr' _ _ _ _) => fT H0 r fr fr'
  | some (.mIter m _ _ _), some (.mIter m' _ _ _) => fI r m (.same m')
  | some (.smIter m _ _ _), some (.smIter m' _ _ _) => fI r m (.same m')
  | _, _ => r

def fF (H0 : Heap) (fr : Fr) (r : Ren) : List (Nat × AV) → Ren
  | [] => r
  | (t, p) :: l => fF H0 fr (match fr.get t with
      | some v => fV H0 r p v
      | none => r) l

/-- Goes through the blocks found, one behind the other. -/
def fGo (H0 H : Heap) : Nat → Nat → Ren → Ren
  | 0, _, r => r
  | f + 1, d, r => match r[d]? with
    | none => r
    | some (i, s) => fGo H0 H f (d + 1) (fO H0 r (H0.get i) (s.id?.bind H.get))

def fRoots : Nat → Ren
  | 0 => []
  | k + 1 => fRoots k ++ [(k, .same k)]

def findRen (K : Nat) (fl : List (Nat × AV)) (H0 : Heap) (fr : Fr) (H : Heap) : Ren :=
  fGo H0 H (H0.next + 1) 0 (fF H0 fr (fRoots K) fl)

end Go.AM
