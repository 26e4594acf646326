/- A part of the proofs about shards. No condition. -/
import Derived.Test.YtdohdhphpjhcjaaMaSum
import Derived.Test.YtdohdhphpjhcjaaAmJ
namespace Go.Proofs.Ytdohdhphpjhcjaa.Sh
open Go.AM
noncomputable section
def SP : SumP := fun _ _ _ => some .path
theorem SP_ok {B : Nat} : SumPOk Try.prog B SP := fun _ _ _ _ h => by cases h; trivial
end
end Go.Proofs.Ytdohdhphpjhcjaa.Sh
