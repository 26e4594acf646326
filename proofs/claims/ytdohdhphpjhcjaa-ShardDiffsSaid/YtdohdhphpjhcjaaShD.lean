/- A part of the proofs about shards: rows, their order, and what changes. No condition. -/
import Derived.Test.YtdohdhphpjhcjaaOrPf
import Derived.Test.YtdohdhphpjhcjaaMaSum
namespace Go.Proofs.Ytdohdhphpjhcjaa.Sh
open Go.AM
noncomputable section
def rowR0 (l : List Row) (i : Nat) : Row := Go.AM.rowAt (r := rowR) l i
/-- The order of two rows. -/
def ordR (x y : Row) : Int := ordT x.1 x.2.1 y.1 y.2.1
/-- A row that is gone. -/
def goneR (x : Row) : Row := (x.1, x.2.1, x.2.2.1, 0, 0, 0, 0)
/-- What changes from rows to others. -/
def chg (old l : List Row) : List Row := match old, l with
  | [], [] => []
  | [], y :: l' => y :: chg [] l'
  | x :: old', [] => goneR x :: chg old' []
  | x :: old', y :: l' =>
    if ordR x y < 0 then goneR x :: chg old' (y :: l')
    else if 0 < ordR x y then y :: chg (x :: old') l'
    else if x = y then chg old' l' else y :: chg old' l'
termination_by old.length + l.length
/-- With the order of rows. -/
def S3 : SumP := fun f args H => match f, args with
  | 26, [.agg [.sS ja, .sI .i64 na, .sI .i64 _, .sI .u8 _, .sI .i64 _, .sI .i64 _, .sI .i64 _], .agg [.sS jb, .sI .i64 nb, .sI .i64 _, .sI .u8 _, .sI .i64 _, .sI .i64 _, .sI .i64 _]] => some (.val (.sI .i64 (ordT ja na jb nb)))
  | f, args => S2 f args H
theorem S3_ok {B : Nat} : SumPOk Try.prog B S3 := by
  intro f args H s h
  unfold S3 at h
  split at h
  · cases h
    exact order_ok _ _ _ _ _ _ _ _ _ _ _ _ _ _
  · exact S2_ok _ _ _ _ h
/-- Do rows rise? -/
def rises (l : List Row) : Prop := ∀ j : Nat, 1 ≤ j → j < l.length → ordR (rowR0 l (j - 1)) (rowR0 l j) < 0
def okRows (l : List Row) : Prop := rises l ∧ l.length ≤ 256
end
end Go.Proofs.Ytdohdhphpjhcjaa.Sh
