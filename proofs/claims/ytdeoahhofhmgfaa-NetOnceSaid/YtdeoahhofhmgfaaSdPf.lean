/- A part of the proofs about sorting numbers (uint64): down a heap. No condition. -/
import Derived.Test.YtdeoahhofhmgfaaSdVc
import Derived.Test.YtdeoahhofhmgfaaSzP
namespace Go.Proofs.Ytdeoahhofhmgfaa.Sz.Sd
open Go.AM
noncomputable section
variable {lo hi first : Int} {rows : List Int}
def iA (lo hi : Int) (rows : List Int) (s : I1) : Prop := lo ≤ s.i ∧ (s.i < hi ∨ s.i = lo) ∧ s.rows.Perm rows
theorem sd_ok (h0 : 0 ≤ lo) (hl : lo ≤ rows.length) (hf : 0 ≤ first) (hf2 : first ≤ rows.length) (hh : 0 ≤ hi) (hb : first + hi ≤ rows.length) (hn : rows.length < 4611686018427387904) : owed lo hi first rows (fun r => r.Perm rows) (iA lo hi rows) := by
  refine ⟨⟨rows, lo⟩, ⟨Int.le_refl _, .inr rfl, List.Perm.refl _⟩, ⟨rfl, rfl, rfl, rfl, rfl⟩, ?_⟩
  rintro ⟨r, i⟩ ⟨i1, i2, i3⟩ _ _ _ _ _
  simp only at i1 i2 i3
  have hl := i3.length_eq
  have e0 : w0 ⟨r, i⟩ = 2 * i + 1 := by
    unfold w0
    rw [w64b (n := 2 * i) (by omega) (by omega)]
    exact w64b (by omega) (by omega)
  refine ⟨fun _ => ⟨i3, Nat.le_refl _⟩, fun h1 => ?_⟩
  have h1 : ¬ hi ≤ w0 ⟨r, i⟩ := of_decide_eq_false (nt h1)
  rw [e0] at h1
  have e2 : w2 ⟨r, i⟩ = 2 * i + 2 := by
    unfold w2
    rw [e0]
    exact (w64b (by omega) (by omega)).trans (by omega)
  have e4 : w4 first ⟨r, i⟩ = first + (2 * i + 1) := by
    unfold w4
    rw [e0]
    exact w64b (by omega) (by omega)
  have e6 : w6 first ⟨r, i⟩ = first + (2 * i + 2) := by
    unfold w6
    rw [e4]
    exact (w64b (by omega) (by omega)).trans (by omega)
  have e7 : w7 first ⟨r, i⟩ = first + i := w64b (by simp only; omega) (by simp only; omega)
  have h11 : i < w11 hi first ⟨r, i⟩ ∧ w11 hi first ⟨r, i⟩ < hi := by
    have key : ∀ c d : Bool, (c = true → w2 ⟨r, i⟩ < hi) → i < (bif c && d then w2 ⟨r, i⟩ else w0 ⟨r, i⟩) ∧ (bif c && d then w2 ⟨r, i⟩ else w0 ⟨r, i⟩) < hi := fun c d hc => by
      rw [e0]
      rw [e2] at hc ⊢
      cases c with
      | false => simp only [Bool.false_and, cond_false]; omega
      | true =>
        have := hc rfl
        cases d <;> simp only [Bool.true_and, cond_false, cond_true] <;> omega
    exact key _ _ fun h => of_decide_eq_true h
  have e12 : w12 hi first ⟨r, i⟩ = first + w11 hi first ⟨r, i⟩ := w64b (by omega) (by omega)
  have p0 : part0 first ⟨r, i⟩ := by
    unfold part0
    rw [e7]
    exact ⟨by omega, show first + i < (r.length : Int) by omega⟩
  have p1 : part1 hi first ⟨r, i⟩ := by
    unfold part1
    rw [e12]
    exact ⟨by omega, show first + _ < (r.length : Int) by omega⟩
  refine ⟨fun h3 => ?_, ⟨p0, p1⟩, fun _ => ⟨i3, Nat.le_refl _⟩, fun _ => ⟨⟨p1, p0, p0, ⟨rfl, rfl, rfl⟩, p1.1, ?_⟩, ⟨_, _⟩, ⟨?_, ?_, ?_⟩, ?_, rfl, rfl, rfl, rfl, rfl⟩⟩
  · have h3 : w2 ⟨r, i⟩ < hi := of_decide_eq_true h3
    rw [e2] at h3
    rw [e4, e6]
    exact ⟨⟨by omega, show first + (2 * i + 1) < (r.length : Int) by omega⟩, by omega, show first + (2 * i + 2) < (r.length : Int) by omega⟩
  · show w12 _ _ _ < ((r.set _ _).length : Int)
    rw [List.length_set]
    exact p1.2
  · show lo ≤ w11 hi first ⟨r, i⟩
    omega
  · exact .inl h11.2
  · show ((w17 hi first ⟨r, i⟩).set (w14 hi first ⟨r, i⟩) (rowU r (w13 first ⟨r, i⟩))).Perm rows
    unfold w17
    have a1 : w13 first ⟨r, i⟩ < r.length := by unfold w13; rw [e7]; omega
    have a2 : w14 hi first ⟨r, i⟩ < r.length := by unfold w14; rw [e12]; omega
    exact (swap_perm a1 a2).trans i3
  · show (hi - w11 hi first ⟨r, i⟩).toNat < (hi - i).toNat
    omega
end
end Go.Proofs.Ytdeoahhofhmgfaa.Sz.Sd
