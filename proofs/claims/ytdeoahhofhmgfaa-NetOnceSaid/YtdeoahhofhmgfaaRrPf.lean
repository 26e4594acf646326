/- A part of the proofs about sorting numbers (uint64): the other way round. No condition. -/
import Derived.Test.YtdeoahhofhmgfaaRrVc
import Derived.Test.YtdeoahhofhmgfaaSzP
namespace Go.Proofs.Ytdeoahhofhmgfaa.Sz.Rr
open Go.AM
noncomputable section
variable {a b : Int} {rows : List Int}
def iA (a b : Int) (rows : List Int) (s : I2) : Prop := a ≤ s.i ∧ s.j ≤ b - 1 ∧ s.rows.Perm rows
theorem rr_ok (h0 : 0 ≤ a) (hb0 : 0 ≤ b) (hb : b ≤ rows.length) (hn : rows.length < 4611686018427387904) : owed a b rows (fun r => r.Perm rows) (iA a b rows) := by
  refine ⟨⟨rows, a, b - 1⟩, ⟨Int.le_refl _, Int.le_refl _, List.Perm.refl _⟩, ⟨rfl, w64b (by omega) (by omega), rfl, rfl, rfl⟩, ?_⟩
  rintro ⟨r, i, j⟩ ⟨i1, i2, i3⟩ _ _ _ _ _
  simp only at i1 i2 i3
  have hl := i3.length_eq
  refine ⟨fun h => ?_, fun _ => ⟨i3, Nat.le_refl _⟩⟩
  have h : i < j := of_decide_eq_true h
  have hj : j < (r.length : Int) := by omega
  have hi : i < (r.length : Int) := by omega
  refine ⟨⟨⟨by simp only; omega, hj⟩, ⟨by simp only; omega, hi⟩, ⟨by simp only; omega, hi⟩, rfl, by simp only; omega, ?_⟩, ⟨_, i + 1, j - 1⟩, ⟨by simp only; omega, by simp only; omega, ?_⟩, by simp only; omega, w64b (by simp only; omega) (by simp only; omega), w64b (by simp only; omega) (by simp only; omega), rfl, rfl, rfl⟩
  · show j < ((r.set _ _).length : Int)
    rw [List.length_set]
    exact hj
  · show ((r.set i.toNat (rowU r j.toNat)).set j.toNat (rowU r i.toNat)).Perm rows
    exact (swap_perm (by omega) (by omega)).trans i3
end
end Go.Proofs.Ytdeoahhofhmgfaa.Sz.Rr
