/- A part of the proof that 'reevelaw22.StateNone' returns true for every input: a closed run, call by call. No condition. -/
import Derived.Test.YtknaacdeinnpjaaGreatZnA11
import Derived.Test.YtknaacdeinnpjaaGreatAmJ
import Derived.KernelRfl
namespace Go.Proofs.YtknaacdeinnpjaaGreat.StateNone
open Go.AM
noncomputable section
set_option maxHeartbeats 0
set_option maxRecDepth 1000000
def ZnAT : Prop := (∃ _s : One, True ∧ True) ∧ ∀ (_s : One), True → (∃ _s : One, True ∧ True) ∧ ∀ (_s : One), True → ((∃ _s : One, True ∧ True) ∧ ∀ (_s : One), True → ∃ _s : One, True ∧ True) ∧ ∀ (_s : One), True → (HZnA0.t = HZnA0.t ∧ ∃ _s : One, True ∧ True) ∧ ∀ (_s : One), True → (HZnA1.t = HZnA1.t ∧ ∃ _s : One, True ∧ True) ∧ ∀ (_s : One), True → (HZnA2.t = HZnA2.t ∧ ∃ _s : One, True ∧ True) ∧ ∀ (_s : One), True → (HZnA3.t = HZnA3.t ∧ ∃ _s : One, True ∧ True) ∧ ∀ (_s : One), True → (HZnA4.t = HZnA4.t ∧ ∃ _s : One, True ∧ True) ∧ ∀ (_s : One), True → (HZnA5.t = HZnA5.t ∧ ∃ _s : One, True ∧ True) ∧ ∀ (_s : One), True → (HZnA6.t = HZnA6.t ∧ ∃ _s : One, True ∧ True) ∧ ∀ (_s : One), True → (HZnA7.t = HZnA7.t ∧ ∃ _s : One, True ∧ True) ∧ ∀ (_s : One), True → (HZnA8.t = HZnA8.t ∧ ∃ _s : One, True ∧ True) ∧ ∀ (_s : One), True → (HZnA9.t = HZnA9.t ∧ ∃ _s : One, True ∧ True) ∧ ∀ (_s : One), True → ((HZnA10.t = HZnA10.t ∧ HZnA11.t = HZnA11.t) ∧ ∃ _s : One, True ∧ True) ∧ ∀ (_s : One), True → true = true
theorem ZnAE : ZnAT = vTop Tryz.prog SZnA12 (autoT Tryz.prog SZnA12 3000 [] 5 0) 20000 5 [] H0 (fun v _ => isB v true) := by kernel_rfl
theorem ZnAW {B : Nat} : WF Tryz.prog B 5 [] H0 (fun v _ => isB v true) := WF.owe (Owe.of ZnAE (by repeat' (first | exact rfl | exact trivial | refine ⟨⟨0⟩, ?_⟩ | refine ⟨?_, ?_⟩ | intro _))) mixed SZnA12_ok
end
end Go.Proofs.YtknaacdeinnpjaaGreat.StateNone
