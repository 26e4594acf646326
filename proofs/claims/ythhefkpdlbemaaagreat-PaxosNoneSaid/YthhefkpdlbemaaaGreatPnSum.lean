/- A part of the proof that 'reevelaw25.PaxosNone' returns true for every input. No condition. -/
import Derived.Test.YthhefkpdlbemaaaGreatAmJ
import Derived.Test.YthhefkpdlbemaaaGreatProg
import Derived.KernelRfl
namespace Go.Proofs.YthhefkpdlbemaaaGreat.PaxosNone
open Go.AM
noncomputable section
theorem mixed : Tryz.prog.follows .mixedOrders = true := by kernel_rfl
def paths : List Nat := [4, 25, 23, 24, 27, 11, 10, 7, 50, 51, 52, 53, 54, 55, 73, 38, 40, 58, 61, 74, 77, 60, 63, 64, 28, 46, 68, 20, 21, 35, 66, 9]
def noS : SumP := fun f _ _ => bif natMem f paths then some .path else none
def noL : LTab := fun _ _ _ _ => none
theorem noS_ok {P : Program} {B : Nat} : SumPOk P B noS := fun f _ _ s h => by
  unfold noS at h
  cases hb : natMem f paths with
  | false => rw [hb] at h; cases h
  | true => rw [hb] at h; cases h; trivial
def worksT : Prop := (true = true ∧ true = true) ∧ true = true ∧ true = true
theorem worksE : worksT = vTop Tryz.prog noS noL 20000 4 [] H0 (fun v _ => isB v true) := by kernel_rfl
theorem works4 {B : Nat} : WF Tryz.prog B 4 [] H0 (fun v _ => isB v true) := WF.owe (Owe.of worksE ⟨⟨rfl, rfl⟩, rfl, rfl⟩) mixed noS_ok
theorem works_ok {B : Nat} {H : Heap} : WF Tryz.prog B 4 [] H (fun v H' => v = .bool true ∧ H' = H) :=
  WF.reval (WF.pureB (b := true) works4 rfl) fun v H' ρ x hv hr => ⟨.bool true, ⟨rfl, hv.2⟩, by rw [hv.1] at hr; simp only [Rel] at hr ⊢; exact hr⟩
def S1 : SumP := fun f args _ => match f, args with
  | 4, [] => some (.val (.bool true))
  | _, _ => none
theorem sum_ok {B : Nat} : SumPOk Tryz.prog B S1 := by
  intro f args H s h
  unfold S1 at h
  split at h
  · cases h; exact works_ok
  · cases h
def owed (s : List UInt8) : Prop := (decide ((1024 : Int) < ((s.length : Nat) : Int)) = true → true = true) ∧ ((!decide ((1024 : Int) < ((s.length : Nat) : Int))) = true → true = true)
theorem owed_eq (n : Int) (s : List UInt8) : owed s = vTop Tryz.prog S1 noL 20000 3 [.sI .u64 n, .sS s] H0 (fun v _ => isB v true) := by kernel_rfl
theorem ran {B : Nat} (n : Int) (_h : IntKind.u64.has n) (s : List UInt8) (_hs : s.length ≤ maxI) : WF Tryz.prog B 3 [.sI .u64 n, .sS s] H0 (fun v _ => isB v true) :=
  WF.owe (Owe.of (owed_eq n s) ⟨fun _ => rfl, fun _ => rfl⟩) mixed sum_ok
end
end Go.Proofs.YthhefkpdlbemaaaGreat.PaxosNone
