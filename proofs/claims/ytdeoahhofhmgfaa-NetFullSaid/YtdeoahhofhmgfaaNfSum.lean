/- A part of the proof that 'reevelaw10.NetFull' returns true for every input. No condition. -/
import Derived.Test.YtdeoahhofhmgfaaNfPf
namespace Go.Proofs.Ytdeoahhofhmgfaa.NetFull
open Go.AM
theorem mixed : Try.prog.follows .mixedOrders = true := by kernel_rfl
def noS : SumP := fun _ _ _ => none
def noL : LTab := fun _ _ => none
theorem noS_ok {P : Program} {B : Nat} : SumPOk P B noS := fun _ _ _ _ _ h => by cases h
def addrT (n : Int) : Prop := (decide ((0 : Int) ≤ n) = true → decide (n < (256 : Int)) = adr n) ∧ (decide ((0 : Int) ≤ n) = false → false = adr n)
theorem addrE (n : Int) : addrT n = vF Try.prog noS (vC Try.prog noS noL 1000) 73 [.sI .i64 n] H0 (fun v _ => isB v (adr n)) := by kernel_rfl
theorem addrP (n : Int) : addrT n := by
  unfold addrT
  simp only [adr]
  refine ⟨fun h1 => ?_, fun h1 => ?_⟩ <;> simp only [*, Bool.true_and, Bool.false_and]
theorem addr73 {B : Nat} (n : Int) : WF Try.prog B 73 [.sI .i64 n] H0 (fun v _ => isB v (adr n)) := WF.owe (Owe.of (addrE n) (addrP n)) mixed noS_ok
theorem worksE : (true = true) = vF Try.prog noS (vC Try.prog noS noL 20000) 15 [] H0 (fun v _ => isB v true) := by kernel_rfl
theorem works15 {B : Nat} : WF Try.prog B 15 [] H0 (fun v _ => isB v true) := WF.owe (Owe.of worksE rfl) mixed noS_ok
theorem works_ok {B : Nat} {H : Heap} : WF Try.prog B 15 [] H (fun v H' => v = .bool true ∧ H' = H) :=
  WF.reval (WF.pureB (b := true) works15 rfl) fun v H' ρ x hv hr => ⟨.bool true, ⟨rfl, hv.2⟩, by rw [hv.1] at hr; simp only [Rel] at hr ⊢; exact hr⟩

theorem sum_ok {B : Nat} : SumPOk Try.prog B S1 := by
  intro f args H φ Q h hφ
  unfold S1 at h
  split at h
  · cases h
    exact works_ok.mono fun v H' ⟨e1, e2⟩ => by rw [e1, e2]; exact hφ
  · cases h
    exact (WF.pureB (addr73 _) rfl).mono fun v H' ⟨e1, e2⟩ => by rw [e1, e2]; exact hφ
  · cases h

theorem ran {B : Nat} (src : Int) (h0 : IntKind.u8.has src) (dst : Int) (h1 : IntKind.u8.has dst) (s : List UInt8) (h2 : s.length ≤ maxI) (more : Int) (h3 : IntKind.u8.has more) :
    WF Try.prog B 3 [.sI .u8 src, .sI .u8 dst, .sS s, .sI .u8 more] H0 (fun v _ => isB v true) :=
  WF.owe (Owe.of (owed_eq src dst more s invA invB) (owed_ok src dst more s h0 h1 h3)) mixed sum_ok
end Go.Proofs.Ytdeoahhofhmgfaa.NetFull
