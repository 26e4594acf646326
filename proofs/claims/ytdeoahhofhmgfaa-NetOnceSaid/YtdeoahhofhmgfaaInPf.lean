/- A part of the proofs about sorting numbers (uint64): one behind the other. No condition. -/
import Derived.Test.YtdeoahhofhmgfaaInVc
import Derived.Test.YtdeoahhofhmgfaaSzP
namespace Go.Proofs.Ytdeoahhofhmgfaa.Sz.In
open Go.AM
noncomputable section
variable {a b : Int} {rows : List Int}
def iI (a b : Int) (rows : List Int) (s : I1) : Prop := a + 1 ≤ s.i ∧ (s.i ≤ b ∨ s.i = a + 1) ∧ s.rows.Perm rows
def iJ (a : Int) (rows : List Int) (i : Int) (s : J1) : Prop := a ≤ s.j ∧ s.j ≤ i ∧ s.rows.Perm rows
theorem in_ok (h0 : 0 ≤ a) (hb : b ≤ rows.length) (ha : a ≤ rows.length) (hn : rows.length < 4611686018427387904) : owed a b rows (fun r => r.Perm rows) (iI a b rows) (iJ a rows) := by
  refine ⟨⟨rows, a + 1⟩, ⟨by simp, .inr rfl, List.Perm.refl _⟩, ⟨w64b (by omega) (by omega), rfl, rfl, rfl⟩, ?_⟩
  rintro ⟨r, i⟩ ⟨i1, i2, i3⟩ _ _ _ _
  simp only at i1 i2 i3
  have hl := i3.length_eq
  refine ⟨fun h => ?_, fun _ => ⟨i3, Nat.le_refl _⟩⟩
  have hib : i < b := of_decide_eq_true h
  refine ⟨⟨r, i⟩, ⟨by simp only; omega, Int.le_refl _, i3⟩, ⟨rfl, rfl, rfl, rfl, rfl⟩, ?_⟩
  rintro ⟨q, j⟩ ⟨j1, j2, j3⟩ _ _ _ _ _
  have j2 : j ≤ i := j2
  simp only at j1 j3
  have hl2 := j3.length_eq
  have e4 : w4 ⟨q, j⟩ = j - 1 := w64b (by simp only; omega) (by simp only; omega)
  have hj : j < (q.length : Int) := by omega
  refine ⟨fun h2 => ?_, fun h7 => ?_, fun _ => ?_⟩
  · have h2 : a < j := of_decide_eq_true h2
    refine ⟨⟨by simp only; omega, hj⟩, ?_⟩
    unfold part0
    rw [e4]
    exact ⟨by omega, show j - 1 < (q.length : Int) by omega⟩
  · have h2 : a < j := of_decide_eq_true (Bool.and_eq_true_iff.1 h7).1
    have hp : part0 ⟨q, j⟩ := by
      unfold part0
      rw [e4]
      exact ⟨by omega, show j - 1 < (q.length : Int) by omega⟩
    have h0j : (0 : Int) ≤ j := by omega
    refine ⟨⟨hp, ⟨h0j, hj⟩, ⟨h0j, hj⟩, ⟨rfl, rfl⟩, hp.1, ?_⟩, ⟨_, j - 1⟩, ⟨by simp only; omega, by show j - 1 ≤ i; omega, ?_⟩, by simp only; omega, e4, rfl, rfl, rfl, rfl⟩
    · show w4 _ < ((q.set j.toNat _).length : Int)
      rw [List.length_set]
      exact hp.2
    · show ((w8 ⟨q, j⟩).set (w5 ⟨q, j⟩) (rowU q j.toNat)).Perm rows
      unfold w8 w5
      rw [e4]
      exact (swap_perm (l := q) (i := j.toNat) (j := (j - 1).toNat) (by omega) (by omega)).trans j3
  · exact ⟨⟨q, i + 1⟩, ⟨by simp only; omega, .inl (by simp only; omega), j3⟩, by simp only; omega, w64b (by simp only; omega) (by simp only; omega), rfl, rfl, rfl⟩
end
end Go.Proofs.Ytdeoahhofhmgfaa.Sz.In
