/- A part of the proof that 'reevelaw07.CkptNil' returns true for every input: a closed run, call by call. No condition. -/
import Derived.Test.YtkcflepmingghaaDoorCkR8
import Derived.Test.YtkcflepmingghaaDoorAmJ
import Derived.KernelRfl
namespace Go.Proofs.YtkcflepmingghaaDoor.CkptNil
open Go.AM
noncomputable section
set_option maxHeartbeats 0
set_option maxRecDepth 1000000
def CkRT : Prop := HCkR0.t = HCkR0.t ∧ HCkR1.t = HCkR1.t ∧ HCkR2.t = HCkR2.t ∧ HCkR3.t = HCkR3.t ∧ HCkR4.t = HCkR4.t ∧ HCkR5.t = HCkR5.t ∧ HCkR6.t = HCkR6.t ∧ (HCkR7.t = HCkR7.t ∧ HCkR8.t = HCkR8.t) ∧ true = true
theorem CkRE : CkRT = vTop Tryd.prog SCkR9 (autoL Tryd.prog SCkR9 3000 [] 6 0) 20000 6 [] H0 (fun v _ => isB v true) := by kernel_rfl
theorem CkRW {B : Nat} : WF Tryd.prog B 6 [] H0 (fun v _ => isB v true) := WF.owe (Owe.of CkRE (by repeat' (first | exact rfl | exact trivial | refine ⟨?_, ?_⟩))) mixed SCkR9_ok
end
end Go.Proofs.YtkcflepmingghaaDoor.CkptNil
