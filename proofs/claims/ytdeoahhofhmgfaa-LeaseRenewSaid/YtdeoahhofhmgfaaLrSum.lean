/- A part of the proof that 'reevelaw26.LeaseRenew' returns true for every input. No condition. -/
import Derived.Test.YtdeoahhofhmgfaaLrPf
namespace Go.Proofs.Ytdeoahhofhmgfaa.LeaseRenew
open Go.AM
theorem mixed : Try.prog.follows .mixedOrders = true := by kernel_rfl
def noS : SumP := fun _ _ _ => none
def noL : LTab := fun _ _ _ => none
theorem noS_ok {P : Program} {B : Nat} : SumPOk P B noS := fun _ _ _ _ h => by cases h
def works52T : Prop := ((true = true ∧ true = true) ∧ true = true ∧ true = true) ∧ (true = true ∧ true = true) ∧ true = true ∧ true = true
theorem works52E : works52T = vTop Try.prog noS noL 20000 52 [] H0 (fun v _ => isB v true) := by kernel_rfl
theorem works52 {B : Nat} : WF Try.prog B 52 [] H0 (fun v _ => isB v true) := WF.owe (Owe.of works52E ⟨⟨⟨rfl, rfl⟩, rfl, rfl⟩, ⟨rfl, rfl⟩, rfl, rfl⟩) mixed noS_ok
theorem works_ok {B : Nat} {H : Heap} : WF Try.prog B 52 [] H (fun v H' => v = .bool true ∧ H' = H) :=
  WF.reval (WF.pureB (b := true) works52 rfl) fun v H' ρ x hv hr => ⟨.bool true, ⟨rfl, hv.2⟩, by rw [hv.1] at hr; simp only [Rel] at hr ⊢; exact hr⟩
theorem sum_ok {B : Nat} : SumPOk Try.prog B S1 := by
  intro f args H s h
  unfold S1 at h
  split at h
  · cases h; exact works_ok
  · cases h
theorem ran {B : Nat} (length : Int) (hl : IntKind.u16.has length) (bound : Int) (hb : IntKind.u16.has bound) (steps : List stR.den) (oR oN : Int) :
    WF Try.prog B 12 [.sI .u16 length, .sI .u16 bound, .dsl stR steps, .agg [.sI .u64 oR, .sI .i64 oN]] H0 (fun v _ => isB v true) :=
  WF.rng fun h => WF.owe (Owe.of (owed_eq length bound oR oN (length + 1) steps (inv (length + 1) steps)) (owed_ok hl hb h.2.2.1)) mixed sum_ok
end Go.Proofs.Ytdeoahhofhmgfaa.LeaseRenew
