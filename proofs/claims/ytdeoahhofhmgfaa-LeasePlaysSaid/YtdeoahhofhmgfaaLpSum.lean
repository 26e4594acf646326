/- A part of the proof that 'reevelaw26.LeasePlays' returns true for every input. No condition. -/
import Derived.Test.YtdeoahhofhmgfaaLpPf
namespace Go.Proofs.Ytdeoahhofhmgfaa.LeasePlays
open Go.AM
noncomputable section
theorem ran {B : Nat} (length : Int) (_hl : IntKind.i64.has length) (now : Int) (_hn : IntKind.i64.has now) (bound : Int) (_hb : IntKind.i64.has bound) (bR bN n : Int) (_h : IntKind.i64.has n) (steps : List stR.den) :
    WF Try.prog B 10 [.sI .i64 length, .sI .i64 now, .sI .i64 bound, .agg [.sI .u64 bR, .sI .i64 bN], .sI .i64 n, .dsl stR steps] H0 (fun v _ => isB v true) :=
  WF.owe (Owe.of (Main.owed_eq length now bound bR bN n steps (Main.inv n steps)) Main.owed_ok) mixed Ref.S3_ok
end
end Go.Proofs.Ytdeoahhofhmgfaa.LeasePlays
