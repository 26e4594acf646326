/- A part of the proofs about sorting numbers (uint64): by a heap. No condition. -/
import Derived.Test.YtdeoahhofhmgfaaHsVc
import Derived.Test.YtdeoahhofhmgfaaSzP
namespace Go.Proofs.Ytdeoahhofhmgfaa.Sz.Hs
open Go.AM
noncomputable section
variable {a b : Int} {rows : List Int}
def jA (a b : Int) (rows : List Int) (s : I1) : Prop := -1 ≤ s.i ∧ s.i ≤ b - a ∧ s.rows.Perm rows
def jB (a b : Int) (rows : List Int) (s : I1) : Prop := -1 ≤ s.i ∧ s.i ≤ b - a - 1 ∧ s.rows.Perm rows
theorem hs_ok (h0 : 0 ≤ a) (hab : a ≤ b) (hb : b ≤ rows.length) (hn : rows.length < 4611686018427387904) : owed a b rows (fun r => r.Perm rows) (jA a b rows) (jB a b rows) := by
  have e0 : w0 a b = b - a := w64b (by omega) (by omega)
  have e1 : w1 a b = b - a - 1 := by
    unfold w1
    rw [e0]
    exact w64b (by omega) (by omega)
  obtain ⟨k, ek, k1, k2⟩ : ∃ k : Int, IntKind.i64.wrap ((w1 a b).tdiv 2) = k ∧ -1 ≤ k ∧ k ≤ b - a := by
    by_cases h : b - a = 0
    · refine ⟨0, ?_, by omega, by omega⟩
      rw [e1, h]
      rfl
    · refine ⟨(b - a - 1) / 2, ?_, by omega, by omega⟩
      rw [e1, Int.tdiv_eq_ediv_of_nonneg (by omega)]
      exact w64b (by omega) (by omega)
  refine ⟨by decide, ⟨rows, k⟩, ⟨k1, k2, List.Perm.refl _⟩, ⟨ek, rfl, rfl, rfl, rfl, rfl⟩, ?_⟩
  rintro ⟨q, i⟩ ⟨i1, i2, i3⟩ _ _ _ _ _ _
  simp only at i1 i2 i3
  have hq := i3.length_eq
  refine ⟨fun h => ?_, fun _ => ?_⟩
  · have h : 0 ≤ i := of_decide_eq_true h
    refine ⟨⟨h, show i ≤ (q.length : Int) by omega, h0, show a ≤ (q.length : Int) by omega, by rw [e0]; omega, by rw [e0]; show a + (b - a) ≤ (q.length : Int); omega, show q.length < 4611686018427387904 by omega⟩, fun r hr => ?_⟩
    exact ⟨⟨r, i - 1⟩, ⟨by simp only; omega, by simp only; omega, hr.trans i3⟩, by simp only; omega, w64b (by simp only; omega) (by simp only; omega), rfl, rfl, rfl, rfl, rfl⟩
  refine ⟨⟨q, b - a - 1⟩, ⟨by simp only; omega, Int.le_refl _, i3⟩, ⟨e1, rfl, rfl, rfl, rfl, rfl⟩, ?_⟩
  rintro ⟨u, j⟩ ⟨j1, j2, j3⟩ _ _ _ _ _ _
  simp only at j1 j2 j3
  have hu := j3.length_eq
  refine ⟨fun h => ?_, fun _ => ⟨j3, Nat.le_refl _⟩⟩
  have h : 0 ≤ j := of_decide_eq_true h
  have e6 : w6 a ⟨u, j⟩ = a + j := w64b (by simp only [w5]; omega) (by simp only [w5]; omega)
  have h6 : a + j < (u.length : Int) := by omega
  have ha : a < (u.length : Int) := by omega
  have sw : (w10 a ⟨u, j⟩).Perm u := by
    unfold w10 w9 w8
    rw [e6]
    exact swap_perm (l := u) (i := a.toNat) (j := (a + j).toNat) (by omega) (by omega)
  have hl := sw.length_eq
  refine ⟨⟨⟨by rw [e6]; omega, by rw [e6]; exact h6⟩, ⟨h0, ha⟩, ⟨h0, ha⟩, ⟨rfl, rfl, rfl⟩, by rw [e6]; omega, ?_⟩, ⟨Int.le_refl _, ?_, h0, ?_, h, ?_, ?_⟩, fun r hr => ?_⟩
  · show w6 a ⟨u, j⟩ < ((u.set _ _).length : Int)
    rw [List.length_set, e6]
    exact h6
  · unfold w12 w11; omega
  · unfold w12 w11; omega
  · unfold w12 w11 w5; simp only; omega
  · unfold w11; omega
  · exact ⟨⟨r, j - 1⟩, ⟨by simp only; omega, by simp only; omega, (hr.trans sw).trans j3⟩, by simp only; omega, w64b (by simp only; omega) (by simp only; omega), rfl, rfl, rfl, rfl, rfl⟩
end
end Go.Proofs.Ytdeoahhofhmgfaa.Sz.Hs
