/- A part of the proofs about sorting numbers (uint64): plain words. No condition. -/
import Derived.Test.YtdeoahhofhmgfaaSzT
namespace Go.Proofs.Ytdeoahhofhmgfaa.Sz
open Go.AM
noncomputable section
theorem w64b {n : Int} (h1 : -9223372036854775808 ≤ n) (h2 : n ≤ 9223372036854775807) : IntKind.i64.wrap n = n := by
  simp only [IntKind.wrap, IntKind.bits, IntKind.signed, Bool.true_and, decide_eq_true_eq, Nat.reduceSub, Int.reducePow, ge_iff_le]
  split <;> omega
theorem nt {b : Bool} (h : (!b) = true) : b = false := by simpa using h
theorem rowU_at {l : List Int} {i : Nat} (h : i < l.length) : rowU l i = l[i] := by
  have h2 : ∀ d : Int, l.getD i d = l[i] := fun d => by simp [h]
  exact h2 _
/-- Two places change their numbers. -/
theorem swap_perm {l : List Int} {i j : Nat} (hi : i < l.length) (hj : j < l.length) : ((l.set i (rowU l j)).set j (rowU l i)).Perm l := by
  rw [rowU_at hi, rowU_at hj]
  exact List.set_set_perm hi hj
/-- Two places that come nearer to each other. -/
def iv (a b : Int) (rows : List Int) (i0 j0 : Int) (s : I2) : Prop := i0 ≤ s.i ∧ s.j ≤ j0 ∧ a + 1 ≤ s.i ∧ s.i ≤ b ∧ a ≤ s.j ∧ s.j ≤ b - 1 ∧ s.i ≤ s.j + 2 ∧ s.rows.Perm rows
theorem and_l {a b : Bool} {p : Prop} (h : (a && b) = true) (hp : a = true → p) : p := hp (Bool.and_eq_true_iff.1 h).1
end
end Go.Proofs.Ytdeoahhofhmgfaa.Sz
