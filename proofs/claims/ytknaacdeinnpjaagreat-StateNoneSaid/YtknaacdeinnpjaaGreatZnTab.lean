/- A part of the proof that 'StateNone' returns true for every input. No condition. -/
import Derived.Test.YtknaacdeinnpjaaGreatAmJ
import Derived.Test.YtknaacdeinnpjaaGreatProg
import Derived.KernelRfl
namespace Go.Proofs.YtknaacdeinnpjaaGreat.StateNone
open Go.AM
noncomputable section
theorem mixed : Tryz.prog.follows .mixedOrders = true := by kernel_rfl
def S2 : SumP := fun _ _ _ => some .path
theorem S2_ok {B : Nat} : SumPOk Tryz.prog B S2 := fun _ _ _ _ h => by cases h; trivial
end
end Go.Proofs.YtknaacdeinnpjaaGreat.StateNone
