/- A part of the proof that 'reevelaw10.NetOnce' returns true for every input. No condition. -/
import Derived.Test.YtdeoahhofhmgfaaNoPf
namespace Go.Proofs.Ytdeoahhofhmgfaa.NetOnce
open Go.AM No Sz
noncomputable section
theorem ran {B : Nat} (script : List Mn.Step) : WF Try.prog B 5 [.dsl Mn.stepR script] H0 (fun v _ => isB v true) :=
  WF.owe (Owe.of (Mn.owed_eq script iH iG iM iC) (no_ok script)) mixed S5_ok
end
end Go.Proofs.Ytdeoahhofhmgfaa.NetOnce
