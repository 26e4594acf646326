/- A part of the proof that 'reevelaw26.LeaseKeeps' returns true for every input. No condition. -/
import Derived.Test.YtdeoahhofhmgfaaLkVc
namespace Go.Proofs.Ytdeoahhofhmgfaa.LeaseKeeps
open Go.AM
theorem mixed : Try.prog.follows .mixedOrders = true := by kernel_rfl
def noS : SumP := fun _ _ _ => none
def noL : LTab := fun _ _ => none
theorem noS_ok {P : Program} {B : Nat} : SumPOk P B noS := fun _ _ _ _ _ h => by cases h
def named89T (r n : Int) : Prop := (decide (0 ≤ n) = true → (decide (n < 7) = true → (decide (r ≤ 281474976710656) = true → (!(decide (r = 0) && decide (n = 0))) = nmd r n) ∧ (decide (r ≤ 281474976710656) = false → false = nmd r n)) ∧ (decide (n < 7) = false → false = nmd r n)) ∧ (decide (0 ≤ n) = false → false = nmd r n)
theorem named89E (r n : Int) : named89T r n = vF Try.prog noS (vC Try.prog noS noL 1000) 89 [.agg [.sI .u64 r, .sI .i64 n]] H0 (fun v _ => isB v (nmd r n)) := by kernel_rfl
theorem named89P (r n : Int) : named89T r n := by
  unfold named89T
  simp only [nmd]
  refine ⟨fun h1 => ⟨fun h2 => ⟨fun h3 => ?_, fun h3 => ?_⟩, fun h2 => ?_⟩, fun h1 => ?_⟩ <;> simp only [*, Bool.true_and, Bool.false_and, Bool.and_false]
theorem named89{B : Nat} (r n : Int) : WF Try.prog B 89 [.agg [.sI .u64 r, .sI .i64 n]] H0 (fun v _ => isB v (nmd r n)) := WF.owe (Owe.of (named89E r n) (named89P r n)) mixed noS_ok
def named68T (r n : Int) : Prop := (decide (0 ≤ n) = true → (decide (n < 7) = true → (decide (r ≤ 281474976710656) = true → (!(decide (r = 0) && decide (n = 0))) = nmd r n) ∧ (decide (r ≤ 281474976710656) = false → false = nmd r n)) ∧ (decide (n < 7) = false → false = nmd r n)) ∧ (decide (0 ≤ n) = false → false = nmd r n)
theorem named68E (r n : Int) : named68T r n = vF Try.prog noS (vC Try.prog noS noL 1000) 68 [.agg [.sI .u64 r, .sI .i64 n]] H0 (fun v _ => isB v (nmd r n)) := by kernel_rfl
theorem named68P (r n : Int) : named68T r n := by
  unfold named68T
  simp only [nmd]
  refine ⟨fun h1 => ⟨fun h2 => ⟨fun h3 => ?_, fun h3 => ?_⟩, fun h2 => ?_⟩, fun h1 => ?_⟩ <;> simp only [*, Bool.true_and, Bool.false_and, Bool.and_false]
theorem named68{B : Nat} (r n : Int) : WF Try.prog B 68 [.agg [.sI .u64 r, .sI .i64 n]] H0 (fun v _ => isB v (nmd r n)) := WF.owe (Owe.of (named68E r n) (named68P r n)) mixed noS_ok
def time87T (n : Int) : Prop := (decide (0 ≤ n) = true → decide (n ≤ 17592186044416) = tmd n) ∧ (decide (0 ≤ n) = false → false = tmd n)
theorem time87E (n : Int) : time87T n = vF Try.prog noS (vC Try.prog noS noL 1000) 87 [.sI .i64 n] H0 (fun v _ => isB v (tmd n)) := by kernel_rfl
theorem time87P (n : Int) : time87T n := by
  unfold time87T
  simp only [tmd]
  refine ⟨fun h1 => ?_, fun h1 => ?_⟩ <;> simp only [*, Bool.true_and, Bool.false_and]
theorem time87{B : Nat} (n : Int) : WF Try.prog B 87 [.sI .i64 n] H0 (fun v _ => isB v (tmd n)) := WF.owe (Owe.of (time87E n) (time87P n)) mixed noS_ok
def works52T : Prop := ((true = true ∧ true = true) ∧ true = true ∧ true = true) ∧ (true = true ∧ true = true) ∧ true = true ∧ true = true
theorem works52E : works52T = vF Try.prog noS (vC Try.prog noS noL 20000) 52 [] H0 (fun v _ => isB v true) := by kernel_rfl
theorem works52P : works52T := by
  exact ⟨⟨⟨rfl, rfl⟩, rfl, rfl⟩, ⟨rfl, rfl⟩, rfl, rfl⟩
theorem works52{B : Nat} : WF Try.prog B 52 [] H0 (fun v _ => isB v true) := WF.owe (Owe.of works52E works52P) mixed noS_ok

theorem works_ok {B : Nat} {H : Heap} : WF Try.prog B 52 [] H (fun v H' => v = .bool true ∧ H' = H) :=
  WF.reval (WF.pureB (b := true) works52 rfl) fun v H' ρ x hv hr => ⟨.bool true, ⟨rfl, hv.2⟩, by rw [hv.1] at hr; simp only [Rel] at hr ⊢; exact hr⟩

theorem sum_ok {B : Nat} : SumPOk Try.prog B S1 := by
  intro f args H φ Q h hφ
  unfold S1 at h
  split at h
  · cases h
    exact works_ok.mono fun v H' ⟨e1, e2⟩ => by rw [e1, e2]; exact hφ
  · cases h
    exact (WF.pureB (named68 _ _) rfl).mono fun v H' ⟨e1, e2⟩ => by rw [e1, e2]; exact hφ
  · cases h
    exact (WF.pureB (named89 _ _) rfl).mono fun v H' ⟨e1, e2⟩ => by rw [e1, e2]; exact hφ
  · cases h
    exact (WF.pureB (time87 _) rfl).mono fun v H' ⟨e1, e2⟩ => by rw [e1, e2]; exact hφ
  · cases h
end Go.Proofs.Ytdeoahhofhmgfaa.LeaseKeeps
