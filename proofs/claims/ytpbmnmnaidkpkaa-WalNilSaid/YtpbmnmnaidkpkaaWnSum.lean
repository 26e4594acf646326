/- A part of the proof that 'reevelaw06.WalNil' returns true for every input. No condition. -/
import Derived.Test.YtpbmnmnaidkpkaaWnR9
import Derived.KernelRfl
namespace Go.Proofs.Ytpbmnmnaidkpkaa.WalNil
open Go.AM
noncomputable section
theorem works_ok {B : Nat} {H : Heap} : WF Try.prog B 6 [] H (fun v H' => v = .bool true ∧ H' = H) :=
  WF.reval (WF.pureB (b := true) WnRW rfl) fun v H' ρ x hv hr => ⟨.bool true, ⟨rfl, hv.2⟩, by rw [hv.1] at hr; simp only [Rel] at hr ⊢; exact hr⟩
def S3 : SumP := fun f args _ => match f, args with
  | 6, [] => some (.val (.bool true))
  | _, _ => none
theorem sum_ok {B : Nat} : SumPOk Try.prog B S3 := by
  intro f args H s h
  unfold S3 at h
  split at h
  · cases h; exact works_ok
  · cases h
def noL : LTab := fun _ _ _ _ => none
def owed (s : List UInt8) : Prop := (decide ((4096 : Int) < ((s.length : Nat) : Int)) = true → true = true) ∧ ((!decide ((4096 : Int) < ((s.length : Nat) : Int))) = true → true = true)
theorem owed_eq (n : Int) (s : List UInt8) : owed s = vTop Try.prog S3 noL 20000 3 [.sS s, .sI .i64 n] H0 (fun v _ => isB v true) := by kernel_rfl
theorem ran {B : Nat} (s : List UInt8) (_hs : s.length ≤ maxI) (n : Int) (_h : IntKind.i64.has n) : WF Try.prog B 3 [.sS s, .sI .i64 n] H0 (fun v _ => isB v true) :=
  WF.owe (Owe.of (owed_eq n s) ⟨fun _ => rfl, fun _ => rfl⟩) mixed sum_ok
end
end Go.Proofs.Ytpbmnmnaidkpkaa.WalNil
