/- A part of the proof that 'reevelaw28' returns true for every input. No condition. -/
import Derived.Test.YtdohdhphpjhcjaaAmJ
import Derived.KernelRfl
import Derived.Test.YtdohdhphpjhcjaaMaPf
namespace Go.Proofs.Ytdohdhphpjhcjaa.Sh.Odr
open Go.AM
noncomputable section
def isI (v : AV) (n : Int) : Prop := match v.asX with
  | some (.i64, m) => m = n
  | _ => False
def w0 (jb : List UInt8) : Bool := !decide (jb ≠ jb)
def w1 : Int := (-1 : Int)
def w2 (ja : List UInt8) (jb : List UInt8) : Int := bif !decide (ja ≠ ja) then bif w0 jb then bif !ltB ja jb then bif !!(ltB ja jb || decide (ja = jb)) then (0 : Int) else (1 : Int) else w1 else (1 : Int) else bif w0 jb then w1 else (0 : Int)
def w3 (ja : List UInt8) (jb : List UInt8) : Bool := decide (w2 ja jb ≠ (0 : Int))
def w4 (nb : Int) : Bool := !decide (nb ≠ nb)
def w5 (na : Int) (nb : Int) : Int := bif !decide (na ≠ na) then bif w4 nb then bif !decide (na < nb) then bif !decide (nb < na) then (0 : Int) else (1 : Int) else w1 else (1 : Int) else bif w4 nb then w1 else (0 : Int)
def w6 (na : Int) (nb : Int) : Bool := decide (w5 na nb ≠ (0 : Int))
def owed (ja jb : List UInt8) (na nb ga gb sa sb c1 c2 c3 d1 d2 d3 X : Int) : Prop :=
  na = na ∧
 nb = nb ∧
 (w3 ja jb = true →
 w2 ja jb = X) ∧
 ((!w3 ja jb) = true →
 (w6 na nb = true →
 w5 na nb = X) ∧
 ((!w6 na nb) = true →
 (0 : Int) = X))

theorem owed_eq (ja jb : List UInt8) (na nb ga gb sa sb c1 c2 c3 d1 d2 d3 X : Int) : owed ja jb na nb ga gb sa sb c1 c2 c3 d1 d2 d3 X = vTop Try.prog noS noL 1000 26 [.agg [.sS ja, .sI .i64 na, .sI .i64 ga, .sI .u8 sa, .sI .i64 c1, .sI .i64 c2, .sI .i64 c3], .agg [.sS jb, .sI .i64 nb, .sI .i64 gb, .sI .u8 sb, .sI .i64 d1, .sI .i64 d2, .sI .i64 d3]] H0 (fun v _ => isI v X) := by kernel_rfl
end
end Go.Proofs.Ytdohdhphpjhcjaa.Sh.Odr
