/- A part of the proofs about sorting numbers (uint64): some are thrown about. No condition. -/
import Derived.Test.YtdeoahhofhmgfaaBpVc
import Derived.Test.YtdeoahhofhmgfaaSzP
namespace Go.Proofs.Ytdeoahhofhmgfaa.Sz.Bp
open Go.AM
noncomputable section
variable {a b : Int} {rows : List Int}
def jA (a : Int) (rows : List Int) (b : Int) (s : X1) : Prop := w2 a b - 1 ≤ s.i ∧ s.i ≤ w2 a b + 2 ∧ s.rows.Perm rows
theorem and_le {x m : Int} (h1 : 0 ≤ m) (h2 : m < 18446744073709551616) : (((BitVec.ofInt 64 x &&& BitVec.ofInt 64 m).toNat : Nat) : Int) ≤ m := by
  rw [BitVec.toNat_and]
  have h := Nat.and_le_right (n := (BitVec.ofInt 64 x).toNat) (m := (BitVec.ofInt 64 m).toNat)
  have e : (BitVec.ofInt 64 m).toNat = m.toNat := by
    rw [BitVec.toNat_ofInt]
    congr 1
    exact Int.emod_eq_of_lt h1 (by simpa using h2)
  omega
theorem wu64 {n : Int} (h1 : 0 ≤ n) (h2 : n < 18446744073709551616) : IntKind.u64.wrap n = n := by
  simp only [IntKind.wrap, IntKind.bits, IntKind.signed, Bool.false_and, Int.reducePow]
  split
  · contradiction
  · omega
theorem bp_ok (h0 : 0 ≤ a) (hab : a ≤ b) (hb : b ≤ rows.length) (hn : rows.length < 4611686018427387904) : owed a b rows (fun r => r.Perm rows) (jA a rows) := by
  have e0 : w0 a b = b - a := w64b (by omega) (by omega)
  refine ⟨fun h => ?_, fun _ => ⟨List.Perm.refl _, Nat.le_refl _⟩⟩
  have h8 : (8 : Int) ≤ w0 a b := of_decide_eq_true h
  rw [e0] at h8 ⊢
  refine ⟨⟨by omega, by omega⟩, fun m m1 m2 => ⟨by decide, ?_⟩⟩
  have e2 : w2 a b = a + (b - a) / 4 * 2 := by
    unfold w2
    rw [e0, Int.tdiv_eq_ediv_of_nonneg (by omega), w64b (n := (b - a) / 4) (by omega) (by omega), w64b (n := (b - a) / 4 * 2) (by omega) (by omega)]
    exact w64b (by omega) (by omega)
  refine ⟨⟨rows, w2 a b - 1, _⟩, ⟨Int.le_refl _, by simp only; omega, List.Perm.refl _⟩, ⟨w64b (by rw [e2]; omega) (by rw [e2]; omega), rfl, rfl, rfl, rfl, rfl, rfl⟩, ?_⟩
  rintro ⟨q, i, x⟩ ⟨i1, i2, i3⟩ _ _ _ _ _ _ _
  simp only at i1 i2 i3
  have hq := i3.length_eq
  refine ⟨by decide, fun h3 => ?_, fun _ => ⟨i3, by decide⟩⟩
  have h3 : i ≤ IntKind.i64.wrap (w2 a b + 1) := of_decide_eq_true h3
  rw [w64b (n := w2 a b + 1) (by rw [e2]; omega) (by rw [e2]; omega)] at h3
  have hi0 : 0 ≤ i := by omega
  have hi : i < (q.length : Int) := by omega
  have h17 : 0 ≤ w17 m ⟨q, i, x⟩ ∧ w17 m ⟨q, i, x⟩ ≤ m - 1 := by
    unfold w17
    rw [wu64 (n := m - 1) (by omega) (by omega)]
    have h := and_le (x := w16 ⟨q, i, x⟩) (m := m - 1) (by omega) (by omega)
    have h2 : (0 : Int) ≤ (((BitVec.ofInt 64 (w16 ⟨q, i, x⟩) &&& BitVec.ofInt 64 (m - 1)).toNat : Nat) : Int) := Int.natCast_nonneg _
    rw [wu64 h2 (by omega), w64b (by omega) (by omega)]
    exact ⟨h2, h⟩
  have h18 : 0 ≤ w18 a b m ⟨q, i, x⟩ ∧ w18 a b m ⟨q, i, x⟩ < b - a := by
    unfold w18
    rw [e0]
    by_cases hc : b - a ≤ w17 m ⟨q, i, x⟩
    · rw [decide_eq_true hc, cond_true, w64b (by omega) (by omega)]
      omega
    · rw [decide_eq_false hc, cond_false]
      omega
  have e19 : w19 a b m ⟨q, i, x⟩ = a + w18 a b m ⟨q, i, x⟩ := w64b (by omega) (by omega)
  have h19 : w19 a b m ⟨q, i, x⟩ < (q.length : Int) := by omega
  have h190 : 0 ≤ w19 a b m ⟨q, i, x⟩ := by omega
  refine ⟨⟨by decide, by decide, by decide⟩, ⟨⟨h190, h19⟩, ⟨hi0, hi⟩, ⟨hi0, hi⟩, ⟨rfl, rfl, rfl⟩, h190, ?_⟩, ⟨_, i + 1, _⟩, ⟨by simp only; omega, by simp only; omega, ?_⟩, by simp only; omega, w64b (by simp only; omega) (by simp only; omega), rfl, rfl, rfl, rfl, rfl, rfl⟩
  · show w19 a b m ⟨q, i, x⟩ < ((q.set _ _).length : Int)
    rw [List.length_set]
    exact h19
  · show ((q.set i.toNat (rowU q (w21 a b m ⟨q, i, x⟩))).set (w21 a b m ⟨q, i, x⟩) (rowU q i.toNat)).Perm rows
    exact (swap_perm (by omega) (by unfold w21; omega)).trans i3
end
end Go.Proofs.Ytdeoahhofhmgfaa.Sz.Bp
