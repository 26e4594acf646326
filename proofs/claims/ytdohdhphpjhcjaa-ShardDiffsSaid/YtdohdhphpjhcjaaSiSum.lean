/- A part of the proof that 'reevelaw28.ShardSilent' returns true for every input. No condition. -/
import Derived.Test.YtdohdhphpjhcjaaSiPf
import Derived.Test.YtdohdhphpjhcjaaSwVc
namespace Go.Proofs.Ytdohdhphpjhcjaa.ShardSilent
open Go.AM Sh
noncomputable section
theorem works7 {B : Nat} : WF Try.prog B 7 [] H0 (fun v _ => isB v true) := WF.owe (Owe.of (Sw.owed_eq 0) (by repeat' (first | exact trivial | exact rfl | refine ⟨⟨0⟩, ?_⟩ | refine ⟨?_, ?_⟩ | intro _))) mixed SP_ok
theorem works_ok {B : Nat} {H : Heap} : WF Try.prog B 7 [] H (fun v H' => v = .bool true ∧ H' = H) :=
  WF.reval (WF.pureB (b := true) works7 rfl) fun v H' ρ x hv hr => ⟨.bool true, ⟨rfl, hv.2⟩, by rw [hv.1] at hr; simp only [Rel] at hr ⊢; exact hr⟩
theorem S3_ok {B : Nat} : SumPOk Try.prog B Si.S3 := by
  intro f args H s h
  unfold Si.S3 at h
  split at h
  · cases h; exact works_ok
  · exact S2_ok _ _ _ _ h
theorem ran {B : Nat} (a : Int) (_ha : IntKind.i64.has a) (b : Int) (_hb : IntKind.i64.has b) (most : Int) (_hm : IntKind.i64.has most) : WF Try.prog B 5 [.sI .i64 a, .sI .i64 b, .sI .i64 most] H0 (fun v _ => isB v true) :=
  WF.owe (Owe.of (Si.owed_eq a b most (ivs a b most)) si_ok) mixed S3_ok
end
end Go.Proofs.Ytdohdhphpjhcjaa.ShardSilent
