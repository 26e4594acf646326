/- A part of the proof that 'reevelaw28.ShardDiffs' returns true for every input. No condition. -/
import Derived.Test.YtdohdhphpjhcjaaDfPf
import Derived.Test.YtdohdhphpjhcjaaSiSum
namespace Go.Proofs.Ytdohdhphpjhcjaa.ShardDiffs
open Go.AM Sh
noncomputable section
theorem S5_ok {B : Nat} : SumPOk Try.prog B Df.S5 := by
  intro f args H s h
  unfold Df.S5 at h
  split at h
  · cases h; exact ShardSilent.works_ok
  · exact S4_ok _ _ _ _ h
theorem ran {B : Nat} (a : Int) (_ha : IntKind.i64.has a) (most : Int) (_hm : IntKind.i64.has most) (rep : List (List Row)) (hw : ∀ r ∈ rep, r.length ≤ 140737488355328) : WF Try.prog B 3 [.sI .i64 a, .sI .i64 most, .dsl Df.repR rep] H0 (fun v _ => isB v true) :=
  WF.owe (Owe.of (Df.owed_eq a most rep (Df.ivs a rep)) (Df.df_ok hw)) mixed S5_ok
end
end Go.Proofs.Ytdohdhphpjhcjaa.ShardDiffs
