/- A part of the proof that 'reevelaw07.CkptNil' returns true for every input. No condition. -/
import Derived.Test.YtkcflepmingghaaDoorCkR9
import Derived.KernelRfl
namespace Go.Proofs.YtkcflepmingghaaDoor.CkptNil
open Go.AM
noncomputable section
theorem works_ok {B : Nat} {H : Heap} : WF Tryd.prog B 6 [] H (fun v H' => v = .bool true ∧ H' = H) :=
  WF.reval (WF.pureB (b := true) CkRW rfl) fun v H' ρ x hv hr => ⟨.bool true, ⟨rfl, hv.2⟩, by rw [hv.1] at hr; simp only [Rel] at hr ⊢; exact hr⟩
def S3 : SumP := fun f args _ => match f, args with
  | 6, [] => some (.val (.bool true))
  | _, _ => none
theorem sum_ok {B : Nat} : SumPOk Tryd.prog B S3 := by
  intro f args H s h
  unfold S3 at h
  split at h
  · cases h; exact works_ok
  · cases h
def noL : LTab := fun _ _ _ _ => none
def owed (s : List UInt8) : Prop := (decide ((4096 : Int) < ((s.length : Nat) : Int)) = true → true = true) ∧ ((!decide ((4096 : Int) < ((s.length : Nat) : Int))) = true → true = true)
theorem owed_eq (n g : Int) (s : List UInt8) : owed s = vTop Tryd.prog S3 noL 20000 3 [.sI .i64 n, .sI .u64 g, .sS s] H0 (fun v _ => isB v true) := by kernel_rfl
theorem ran {B : Nat} (n : Int) (_h : IntKind.i64.has n) (g : Int) (_g : IntKind.u64.has g) (s : List UInt8) (_hs : s.length ≤ maxI) : WF Tryd.prog B 3 [.sI .i64 n, .sI .u64 g, .sS s] H0 (fun v _ => isB v true) :=
  WF.owe (Owe.of (owed_eq n g s) ⟨fun _ => rfl, fun _ => rfl⟩) mixed sum_ok
end
end Go.Proofs.YtkcflepmingghaaDoor.CkptNil
