/- A part of the proofs about sorting numbers (uint64): the same ones first. No condition. -/
import Derived.Test.YtdeoahhofhmgfaaPeVc
import Derived.Test.YtdeoahhofhmgfaaSzP
namespace Go.Proofs.Ytdeoahhofhmgfaa.Sz.Pe
open Go.AM
noncomputable section
variable {a b p : Int} {rows : List Int}
theorem pe_ok (h0 : 0 ≤ a) (hab : a < b) (hb : b ≤ rows.length) (hp : a ≤ p) (hp2 : p < b) (hn : rows.length < 4611686018427387904) : owed a b p rows (fun r i => r.Perm rows ∧ a + 1 ≤ i ∧ i ≤ b) (iv a b rows) (iv a b rows) := by
  have e2 : w2 a = a + 1 := w64b (by omega) (by omega)
  have e3 : w3 b = b - 1 := w64b (by omega) (by omega)
  have hpl : p < (rows.length : Int) := by omega
  have hal : a < (rows.length : Int) := by omega
  have sw0 : ((w1 a p rows).set p.toNat (rowU rows a.toNat)).Perm rows := swap_perm (by omega) (by omega)
  have i0 : iv a b rows (w4 a b p rows) (w5 a b p rows) ⟨(w1 a p rows).set p.toNat (rowU rows a.toNat), a + 1, b - 1⟩ := by
    refine ⟨?_, ?_, Int.le_refl _, by simp only; omega, by simp only; omega, Int.le_refl _, by simp only; omega, sw0⟩
    · show w2 a ≤ a + 1
      omega
    · show b - 1 ≤ w3 b
      omega
  refine ⟨⟨⟨by omega, hpl⟩, ⟨h0, hal⟩, ⟨h0, hal⟩, rfl, by omega, ?_⟩, _, i0, ⟨e2, e3, rfl, rfl, rfl, rfl⟩, ?_⟩
  · show p < ((rows.set _ _).length : Int)
    rw [List.length_set]
    exact hpl
  rintro ⟨r, i, j⟩ hs _ _ _ _ _ _
  have hs : w2 a ≤ i ∧ j ≤ w3 b ∧ a + 1 ≤ i ∧ i ≤ b ∧ a ≤ j ∧ j ≤ b - 1 ∧ i ≤ j + 2 ∧ r.Perm rows := hs
  obtain ⟨s1, s2, s3, s4, s5, s6, s7, s8⟩ := hs
  refine ⟨⟨r, i, j⟩, ⟨Int.le_refl _, Int.le_refl _, s3, s4, s5, s6, s7, s8⟩, ⟨rfl, rfl, rfl, rfl, rfl, rfl⟩, ?_⟩
  rintro ⟨q, x, y⟩ ht _ _ _ _ _ _
  have ht : i ≤ x ∧ y ≤ j ∧ a + 1 ≤ x ∧ x ≤ b ∧ a ≤ y ∧ y ≤ b - 1 ∧ x ≤ y + 2 ∧ q.Perm rows := ht
  obtain ⟨t1, t2, t3, t4, t5, t6, t7, t8⟩ := ht
  have hq := t8.length_eq
  refine ⟨fun h => ?_, fun h => ?_, fun _ => ?_⟩
  · have h : x ≤ y := of_decide_eq_true h
    exact ⟨⟨h0, show a < (q.length : Int) by omega⟩, by simp only; omega, show x < (q.length : Int) by omega⟩
  · have h : x ≤ y := and_l h of_decide_eq_true
    refine ⟨⟨q, x + 1, y⟩, ⟨?_, t2, by simp only; omega, by simp only; omega, t5, t6, by simp only; omega, t8⟩, by simp only; omega, w64b (by simp only; omega) (by simp only; omega), rfl, rfl, rfl, rfl, rfl⟩
    show i ≤ x + 1
    omega
  refine ⟨⟨q, x, y⟩, ⟨Int.le_refl _, Int.le_refl _, t3, t4, t5, t6, t7, t8⟩, ⟨rfl, rfl, rfl, rfl, rfl, rfl⟩, ?_⟩
  rintro ⟨u, c, d⟩ hv _ _ _ _ _ _
  have hv : (w16 a b p ⟨q, x, y⟩) ≤ c ∧ d ≤ (w17 a b p ⟨q, x, y⟩) ∧ a + 1 ≤ c ∧ c ≤ b ∧ a ≤ d ∧ d ≤ b - 1 ∧ c ≤ d + 2 ∧ u.Perm rows := hv
  have ex : w16 a b p ⟨q, x, y⟩ = x := rfl
  have ey : w17 a b p ⟨q, x, y⟩ = y := rfl
  rw [ex, ey] at hv
  obtain ⟨v1, v2, v3, v4, v5, v6, v7, v8⟩ := hv
  have hu := v8.length_eq
  have ed : w22 ⟨u, c, d⟩ = d - 1 := w64b (by simp only; omega) (by simp only; omega)
  refine ⟨fun h => ?_, fun h => ?_, fun h21 => ⟨fun _ => ⟨⟨v8, v3, v4⟩, Nat.le_refl _⟩, fun h23 => ?_⟩⟩
  · have h : c ≤ d := of_decide_eq_true h
    exact ⟨⟨h0, show a < (u.length : Int) by omega⟩, by simp only; omega, show d < (u.length : Int) by omega⟩
  · have h : c ≤ d := and_l h of_decide_eq_true
    refine ⟨⟨u, c, d - 1⟩, ⟨?_, ?_, v3, v4, by simp only; omega, by simp only; omega, by simp only; omega, v8⟩, by simp only; omega, rfl, ed, rfl, rfl, rfl, rfl⟩
    · rw [ex]; exact v1
    · rw [ey]; simp only; omega
  · have h23 : ¬ d < c := of_decide_eq_false (nt h23)
    have hd : d < (u.length : Int) := by omega
    have hc : c < (u.length : Int) := by omega
    refine ⟨⟨⟨by simp only; omega, hd⟩, ⟨by simp only; omega, hc⟩, ⟨by simp only; omega, hc⟩, rfl, by simp only; omega, ?_⟩, ⟨_, c + 1, d - 1⟩, ⟨?_, ?_, by simp only; omega, by simp only; omega, by simp only; omega, by simp only; omega, by simp only; omega, ?_⟩, by simp only; omega, w64b (by simp only; omega) (by simp only; omega), ed, rfl, rfl, rfl, rfl⟩
    · show d < ((u.set _ _).length : Int)
      rw [List.length_set]
      exact hd
    · show w2 a ≤ c + 1
      omega
    · show d - 1 ≤ w3 b
      omega
    · show ((u.set c.toNat (rowU u d.toNat)).set d.toNat (rowU u c.toNat)).Perm rows
      exact (swap_perm (by omega) (by omega)).trans v8
end
end Go.Proofs.Ytdeoahhofhmgfaa.Sz.Pe
