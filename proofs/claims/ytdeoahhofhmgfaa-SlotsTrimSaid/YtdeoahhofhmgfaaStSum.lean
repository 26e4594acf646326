/- A part of the proof that 'reevelaw15.SlotsTrim' returns true for every input. No condition. -/
import Derived.Test.YtdeoahhofhmgfaaStPf
namespace Go.Proofs.Ytdeoahhofhmgfaa.SlotsTrim
open Go.AM
theorem mixed : Try.prog.follows .mixedOrders = true := by kernel_rfl
def noS : SumP := fun _ _ _ => none
def noL : LTab := fun _ _ _ _ => none
theorem noS_ok {P : Program} {B : Nat} : SumPOk P B noS := fun _ _ _ _ h => by cases h
def works40T : Prop := true = true
theorem works40E : works40T = vTop Try.prog noS noL 20000 40 [] H0 (fun v _ => isB v true) := by kernel_rfl
theorem works40 {B : Nat} : WF Try.prog B 40 [] H0 (fun v _ => isB v true) := WF.owe (Owe.of works40E rfl) mixed noS_ok
theorem works_ok {B : Nat} {H : Heap} : WF Try.prog B 40 [] H (fun v H' => v = .bool true ∧ H' = H) :=
  WF.reval (WF.pureB (b := true) works40 rfl) fun v H' ρ x hv hr => ⟨.bool true, ⟨rfl, hv.2⟩, by rw [hv.1] at hr; simp only [Rel] at hr ⊢; exact hr⟩
theorem sum_ok {B : Nat} : SumPOk Try.prog B S1 := by
  intro f args H s h
  unfold S1 at h
  split at h
  · cases h; exact works_ok
  · cases h
theorem ran {B : Nat} (vals : List (List UInt8)) (hT : ∀ r ∈ vals, r.length ≤ 140737488355328) (kn : List Bool) (cut : Int) (_hc : IntKind.u16.has cut) :
    WF Try.prog B 8 [.dsl vR vals, .dsl kR kn, .sI .u16 cut] H0 (fun v _ => isB v true) :=
  WF.owe (Owe.of (owed_eq vals kn cut (i1 vals) (I2 vals kn) i3 i4 i5 I6 (i7 vals)) (owed_ok hT)) mixed sum_ok
end Go.Proofs.Ytdeoahhofhmgfaa.SlotsTrim
