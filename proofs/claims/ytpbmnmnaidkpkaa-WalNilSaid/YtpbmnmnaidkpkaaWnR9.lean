/- A part of the proof that 'reevelaw06.WalNil' returns true for every input: a closed run, call by call. No condition. -/
import Derived.Test.YtpbmnmnaidkpkaaWnR8
import Derived.Test.YtpbmnmnaidkpkaaAmJ
import Derived.KernelRfl
namespace Go.Proofs.Ytpbmnmnaidkpkaa.WalNil
open Go.AM
noncomputable section
set_option maxHeartbeats 0
set_option maxRecDepth 1000000
def WnRT : Prop := HWnR0.t = HWnR0.t ∧ HWnR1.t = HWnR1.t ∧ HWnR2.t = HWnR2.t ∧ HWnR3.t = HWnR3.t ∧ HWnR4.t = HWnR4.t ∧ HWnR5.t = HWnR5.t ∧ HWnR6.t = HWnR6.t ∧ HWnR7.t = HWnR7.t ∧ HWnR8.t = HWnR8.t ∧ true = true
theorem WnRE : WnRT = vTop Try.prog SWnR9 (autoL Try.prog SWnR9 3000 [] 6 0) 20000 6 [] H0 (fun v _ => isB v true) := by kernel_rfl
theorem WnRW {B : Nat} : WF Try.prog B 6 [] H0 (fun v _ => isB v true) := WF.owe (Owe.of WnRE (by repeat' (first | exact rfl | exact trivial | refine ⟨?_, ?_⟩))) mixed SWnR9_ok
end
end Go.Proofs.Ytpbmnmnaidkpkaa.WalNil
