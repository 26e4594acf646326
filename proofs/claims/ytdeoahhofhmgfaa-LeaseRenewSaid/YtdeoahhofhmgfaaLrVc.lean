/- A part of the proof that 'reevelaw26.LeaseRenew' returns true for every input. No condition. -/
import Derived.Test.YtdeoahhofhmgfaaAmPure
import Derived.KernelRfl
import Derived.Test.YtdeoahhofhmgfaaProg
namespace Go.Proofs.Ytdeoahhofhmgfaa.LeaseRenew
open Go.AM
noncomputable section
def S1 : SumP := fun f args _ => match f, args with
  | 52, [] => some (.val (.bool true))
  | _, _ => none
def stR : RTy := .one (.int .u16)
def heapOf (l : List AObj) : Heap := l.foldl Heap.alloc H0
def first (fr : Fr) : Bool := match fr.get 16 with
  | some (.int _ (.ofNat 0)) => true
  | _ => false
def rowS (l : List Int) (i : Nat) : Int := Go.AM.rowAt (r := stR) l i
structure LS where
  i : Int
  now : Int
  p : Int
  u : Int
def LI (size bd oR oN : Int) (steps : List Int) (inv : LS → Prop) : LInv := ⟨LS, inv,
  fun s _ _ => ([(2, .dsl stR steps), (7, .ptr 0 0), (9, .sI .i64 size), (10, .ptr 1 0), (11, .ptr 2 0), (13, .ptr 3 0), (15, .sI .i64 s.now), (16, .sI .i64 s.i), (1, .sI .u16 bd)],
    heapOf [.cells false 2 [.sI .u64 oR, .sI .i64 oN] none, .cells false 2 [.int .u64 1099511627776, .int .i64 3] none,
      .cells false 4 [.sI .i64 size, .int .u64 1099511627776, .int .i64 3, .sI .i64 s.u] none,
      .cells false 6 [.int .u64 1099511627776, .int .i64 3, .int .i64 1, .sI .i64 size, .sI .i64 bd, .map 4] none,
      .map [{ key := .int .i64 0, val := .sI .i64 s.p, born := 0 }] 1]), fun s => steps.length + 1 - s.i.toNat⟩
def L1 (size bd oR oN : Int) (steps : List Int) (inv : LS → Prop) : LTab := fun f k fr => match f, k with
  | 12, 11 => bif first fr then none else some (LI size bd oR oN steps inv)
  | _, _ => none
def w0 (steps : List Int) : Int := (↑steps.length : Int)
def w1 (steps : List Int) : Bool := decide ((200 : Int) < w0 steps)
def w2 (length : Int) : Int := IntKind.i64.wrap (IntKind.i64.wrap length + (1 : Int))
def w3 (length : Int) : Bool := decide (w2 length < (1 : Int))
def w4 (length : Int) : Bool := decide ((4294967296 : Int) < w2 length)
def w5 (length : Int) : Bool := w3 length || w4 length
def w6 (length : Int) (bound : Int) : Bool := w3 length || (w4 length || (decide (IntKind.i64.wrap bound < (0 : Int)) || decide ((4294967296 : Int) < IntKind.i64.wrap bound)))
def w7 (length : Int) (bound : Int) : Bool := !w6 length bound
def w8 (length : Int) : Bool := !(decide ((0 : Int) ≤ w2 length) && decide (w2 length ≤ (17592186044416 : Int)))
def w9 (length : Int) : Bool := !w8 length
def w10 (length : Int) : Int := IntKind.i64.wrap ((0 : Int) + w2 length)
def w11 (length : Int) : Bool := !!decide (w10 length ≤ w2 length)
def w12 (length : Int) : Int := IntKind.i64.wrap (w2 length + w2 length)
def w13 (length : Int) : Bool := !(w9 length && w11 length)
def w14 (length : Int) : Bool := decide ((bif w9 length then (0 : Int) else (2 : Int)) ≠ (0 : Int))
def w15 (length : Int) : Int := max (0 : Int) (w2 length)
def w16 (bound : Int) : Int := IntKind.i64.wrap ((2 : Int) * IntKind.i64.wrap bound)
def w17 (length : Int) (bound : Int) : Int := IntKind.i64.wrap (IntKind.i64.wrap (w15 length + w2 length) - w16 bound)
def w18 (length : Int) (bound : Int) : Int := IntKind.i64.wrap (w2 length - w16 bound)
def w19 (length : Int) (bound : Int) : Bool := decide ((0 : Int) < w18 length bound)
def w20 (length : Int) (bound : Int) : Bool := !decide (w2 length < w17 length bound) == w19 length bound
def w21 (length : Int) (bound : Int) : Bool := decide (w12 length < w17 length bound)
def w22 (length : Int) (bound : Int) : Int := IntKind.i64.wrap (w2 length + w18 length bound)
def w23 (length : Int) (bound : Int) : Bool := !decide (IntKind.i64.wrap (w22 length bound - (1 : Int)) < w17 length bound)
def w24 (length : Int) (bound : Int) : Bool := decide (w22 length bound < w17 length bound)
def w25 (steps : List Int) : Bool := decide ((0 : Int) = w0 steps)
def w26 (oR : Int) (oN : Int) : Bool := !(decide ((0 : Int) ≤ oN) && (decide (oN < (7 : Int)) && decide (oR ≤ (281474976710656 : Int))) && !(decide (oR = (0 : Int)) && decide (oN = (0 : Int))))
def w27 (length : Int) (steps : List Int) : Int := IntKind.i64.wrap (w2 length + (IntKind.i64.wrap (rowS steps (0 : Nat))).tmod (w2 length))
def w28 (length : Int) (oR : Int) (oN : Int) (steps : List Int) : Bool := !bif w26 oR oN then w26 oR oN else !(decide ((0 : Int) ≤ w27 length steps) && decide (w27 length steps ≤ (17592186044416 : Int)))
def w29 (length : Int) : Int := bif w9 length then bif w11 length then (1099511627776 : Int) else (0 : Int) else (0 : Int)
def w30 (length : Int) : Int := bif w9 length then bif w11 length then (3 : Int) else (0 : Int) else (0 : Int)
def w31 (length : Int) (oR : Int) (oN : Int) : Bool := decide (oR = w29 length) && decide (oN = w30 length)
def w32 (length : Int) : Int := bif w9 length then bif w11 length then w12 length else w10 length else w10 length
def w33 (length : Int) (oR : Int) (oN : Int) (steps : List Int) : Bool := !w31 length oR oN && !!decide (w32 length ≤ w27 length steps)
def w34 (length : Int) : Int := bif w9 length then bif w11 length then w2 length else w2 length else w2 length
def w35 (length : Int) (steps : List Int) : Int := IntKind.i64.wrap (w27 length steps + w34 length)
def w36 (length : Int) (oR : Int) (oN : Int) (steps : List Int) : Bool := w28 length oR oN steps && (w33 length oR oN steps || w31 length oR oN)
def w37 (oR : Int) (oN : Int) : Bool := decide (oR = (1099511627776 : Int)) && decide (oN = (3 : Int))
def w38 (oR : Int) (oN : Int) : Bool := !w37 oR oN
def w39 (length : Int) (oR : Int) (oN : Int) (steps : List Int) : Bool := decide ((bif w28 length oR oN steps then (0 : Int) else (2 : Int)) = (0 : Int)) && !w36 length oR oN steps == w37 oR oN
def w40 (length : Int) (oR : Int) (oN : Int) (steps : List Int) : Bool := bif w36 length oR oN steps then w38 oR oN || w39 length oR oN steps else w39 length oR oN steps
def w41 (steps : List Int) (s : LS) : Bool := decide (s.i ≤ w0 steps)
def w42 (s : LS) : Bool := !!(decide ((0 : Int) ≤ s.now) && decide (s.now ≤ (17592186044416 : Int)))
def w43 (s : LS) : Bool := !w42 s
def w44 (s : LS) : Int := bif w42 s then (0 : Int) else (2 : Int)
def w45 (s : LS) : Bool := decide (w44 s ≠ (0 : Int))
def w46 (s : LS) : Bool := w43 s || (w45 s || decide (w44 s ≠ (0 : Int)))
def w47 (s : LS) : Int := bif w43 s then s.p else bif w45 s then s.p else bif w42 s then max s.p s.now else s.p
def w48 (bound : Int) (size : Int) (s : LS) : Int := IntKind.i64.wrap (IntKind.i64.wrap (w47 s + size) - IntKind.i64.wrap ((2 : Int) * bound))
def w49 (bound : Int) (size : Int) : Int := IntKind.i64.wrap (size - w16 bound)
def w50 (bound : Int) (size : Int) : Bool := decide ((0 : Int) < w49 bound size)
def w51 (bound : Int) (size : Int) (s : LS) : Bool := !decide (s.now < w48 bound size s) == w50 bound size
def w52 (size : Int) (s : LS) : Int := IntKind.i64.wrap (s.now + size)
def w53 (bound : Int) (size : Int) (s : LS) : Bool := decide (w52 size s < w48 bound size s)
def w54 (bound : Int) (size : Int) (s : LS) : Int := IntKind.i64.wrap (s.now + w49 bound size)
def w55 (bound : Int) (size : Int) (s : LS) : Bool := !decide (IntKind.i64.wrap (w54 bound size s - (1 : Int)) < w48 bound size s)
def w56 (bound : Int) (size : Int) (s : LS) : Bool := decide (w54 bound size s < w48 bound size s)
def w57 (steps : List Int) (s : LS) : Bool := decide (s.i = w0 steps)
def w58 (size : Int) (steps : List Int) (s : LS) : Int := IntKind.i64.wrap (s.now + (IntKind.i64.wrap (rowS steps s.i.toNat)).tmod size)
def w59 (oR : Int) (oN : Int) (size : Int) (steps : List Int) (s : LS) : Bool := !bif w26 oR oN then w26 oR oN else !(decide ((0 : Int) ≤ w58 size steps s) && decide (w58 size steps s ≤ (17592186044416 : Int)))
def w60 (size : Int) (s : LS) : Int := bif w42 s then max s.u (w52 size s) else s.u
def w61 (oR : Int) (oN : Int) (size : Int) (steps : List Int) (s : LS) : Bool := w38 oR oN && !!decide (w60 size s ≤ w58 size steps s)
def w62 (size : Int) (s : LS) : Int := bif w42 s then size else size
def w63 (size : Int) (steps : List Int) (s : LS) : Int := IntKind.i64.wrap (w58 size steps s + w62 size s)
def w64 (oR : Int) (oN : Int) (size : Int) (steps : List Int) (s : LS) : Bool := w59 oR oN size steps s && (w61 oR oN size steps s || w37 oR oN)
def w65 (oR : Int) (oN : Int) (size : Int) (steps : List Int) (s : LS) : Bool := decide ((bif w59 oR oN size steps s then (0 : Int) else (2 : Int)) = (0 : Int)) && !w64 oR oN size steps s == w37 oR oN
def w66 (oR : Int) (oN : Int) (size : Int) (steps : List Int) (s : LS) : Bool := bif w64 oR oN size steps s then w38 oR oN || w65 oR oN size steps s else w65 oR oN size steps s
def w67 (steps : List Int) : Nat := steps.length + (1 : Nat)
def part0 (length : Int) (bound : Int) : Prop := w6 length bound = true →
 false = true
def part1 (bound : Int) (oR : Int) (oN : Int) (size : Int) (steps : List Int) (inv : LS →
 Prop) (s : LS) : Prop := (w57 steps s = true →
 true = true) ∧
 ((!w57 steps s) = true →
 (((0 : Int) ≤ s.i ∧
 s.i < w0 steps) ∧
 size ≠ (0 : Int)) ∧
 (w59 oR oN size steps s = true →
 w61 oR oN size steps s = true →
 w58 size steps s = w58 size steps s ∧
 w63 size steps s = w63 size steps s) ∧
 (w66 oR oN size steps s = true →
 false = true) ∧
 ((!w66 oR oN size steps s) = true →
 ∃ s', inv s' ∧
 w67 steps - s'.i.toNat < w67 steps - s.i.toNat ∧
 steps = steps ∧
 size = size ∧
 w58 size steps s = s'.now ∧
 IntKind.i64.wrap (s.i + (1 : Int)) = s'.i ∧
 bound = bound ∧
 oR = oR ∧
 oN = oN ∧
 (bif w59 oR oN size steps s then bif w61 oR oN size steps s then w62 size s else bif w37 oR oN then w62 size s else w62 size s else w62 size s) = size ∧
 (bif w59 oR oN size steps s then bif w61 oR oN size steps s then oR else (1099511627776 : Int) else (1099511627776 : Int)) = (1099511627776 : Int) ∧
 (bif w59 oR oN size steps s then bif w61 oR oN size steps s then oN else (3 : Int) else (3 : Int)) = (3 : Int) ∧
 (bif w59 oR oN size steps s then bif w61 oR oN size steps s then w63 size steps s else bif w37 oR oN then max (w60 size s) (w63 size steps s) else w60 size s else w60 size s) = s'.u ∧
 size = size ∧
 bound = bound ∧
 w47 s = s'.p))
def part2 (length : Int) (bound : Int) (oR : Int) (oN : Int) (size : Int) (steps : List Int) (inv : LS →
 Prop) : Prop := (w25 steps = true →
 true = true) ∧
 ((!w25 steps) = true →
 (((0 : Int) ≤ (0 : Int) ∧
 (0 : Int) < w0 steps) ∧
 w2 length ≠ (0 : Int)) ∧
 (w28 length oR oN steps = true →
 w33 length oR oN steps = true →
 w27 length steps = w27 length steps ∧
 w35 length steps = w35 length steps) ∧
 (w40 length oR oN steps = true →
 false = true) ∧
 ((!w40 length oR oN steps) = true →
 ∃ s0, inv s0 ∧
 (steps = steps ∧
 w2 length = size ∧
 w27 length steps = s0.now ∧
 (1 : Int) = s0.i ∧
 bound = bound ∧
 oR = oR ∧
 oN = oN ∧
 (bif w28 length oR oN steps then bif w33 length oR oN steps then w34 length else bif w31 length oR oN then w34 length else w34 length else w34 length) = size ∧
 (bif w28 length oR oN steps then bif w33 length oR oN steps then oR else bif w31 length oR oN then w29 length else w29 length else w29 length) = (1099511627776 : Int) ∧
 (bif w28 length oR oN steps then bif w33 length oR oN steps then oN else bif w31 length oR oN then w30 length else w30 length else w30 length) = (3 : Int) ∧
 (bif w28 length oR oN steps then bif w33 length oR oN steps then w35 length steps else bif w31 length oR oN then max (w32 length) (w35 length steps) else w32 length else w32 length) = s0.u ∧
 w2 length = size ∧
 IntKind.i64.wrap bound = bound ∧
 w15 length = s0.p) ∧
 ∀ (s : LS), inv s →
 IntKind.u16.has bound →
 IntKind.i64.has s.now →
 IntKind.i64.has size →
 (CTy.sl (RTy.one (CTy.int IntKind.u16))).Has steps →
 IntKind.i64.has s.i →
 IntKind.u64.has oR →
 IntKind.i64.has oN →
 IntKind.i64.has size →
 IntKind.i64.has bound →
 IntKind.i64.has size →
 IntKind.i64.has s.u →
 (w41 steps s = true →
 (w46 s = true →
 false = true) ∧
 ((!w46 s) = true →
 (w51 bound size s = true →
 false = true) ∧
 (w51 bound size s = false →
 (w53 bound size s = true →
 false = true) ∧
 (w53 bound size s = false →
 (w50 bound size = true →
 (w55 bound size s = true →
 false = true) ∧
 (w55 bound size s = false →
 (w56 bound size s = true →
 false = true) ∧
 ((!w56 bound size s) = true →
 part1 bound oR oN size steps inv s))) ∧
 (w50 bound size = false →
 part1 bound oR oN size steps inv s))))) ∧
 ((!w41 steps s) = true →
 true = true)))
def owed (length bound oR oN size : Int) (steps : List Int) (inv : LS → Prop) : Prop :=
  (w1 steps = true →
 true = true) ∧
 ((!w1 steps) = true →
 (w5 length = true →
 part0 length bound ∧
 (w7 length bound = true →
 false = true)) ∧
 ((!w5 length) = true →
 part0 length bound ∧
 (w7 length bound = true →
 (true = true →
 (w9 length = true →
 w11 length = true →
 w2 length = w2 length ∧
 w12 length = w12 length) ∧
 (w13 length = true →
 false = true) ∧
 (w13 length = false →
 (w14 length = true →
 false = true) ∧
 (w14 length = false →
 (w8 length = true →
 false = true) ∧
 (w9 length = true →
 (w20 length bound = true →
 false = true) ∧
 (w20 length bound = false →
 (w21 length bound = true →
 false = true) ∧
 (w21 length bound = false →
 (w19 length bound = true →
 (w23 length bound = true →
 false = true) ∧
 (w23 length bound = false →
 (w24 length bound = true →
 false = true) ∧
 ((!w24 length bound) = true →
 part2 length bound oR oN size steps inv))) ∧
 (w19 length bound = false →
 part2 length bound oR oN size steps inv))))))) ∧
 (false = true →
 true = true))))

theorem owed_eq (length bound oR oN size : Int) (steps : List Int) (inv : LS → Prop) : owed length bound oR oN size steps inv = vTop Try.prog S1 (L1 size bound oR oN steps inv) 1000 12 [.sI .u16 length, .sI .u16 bound, .dsl stR steps, .agg [.sI .u64 oR, .sI .i64 oN]] H0 (fun v _ => isB v true) := by kernel_rfl
end
end Go.Proofs.Ytdeoahhofhmgfaa.LeaseRenew
