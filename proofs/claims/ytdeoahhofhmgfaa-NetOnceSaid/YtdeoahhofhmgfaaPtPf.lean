/- A part of the proofs about sorting numbers (uint64): two parts. No condition. -/
import Derived.Test.YtdeoahhofhmgfaaPtVc
import Derived.Test.YtdeoahhofhmgfaaSzP
namespace Go.Proofs.Ytdeoahhofhmgfaa.Sz.Pt
open Go.AM
noncomputable section
variable {a b p : Int} {rows : List Int}
theorem pt_ok (h0 : 0 ≤ a) (hab : a < b) (hb : b ≤ rows.length) (hp : a ≤ p) (hp2 : p < b) (hn : rows.length < 4611686018427387904) : owed a b p rows (fun r i => r.Perm rows ∧ a ≤ i ∧ i < b) (iv a b rows) (iv a b rows) (iv a b rows) (iv a b rows) := by
  have e2 : w3 a = a + 1 := w64b (by omega) (by omega)
  have e3 : w2 b = b - 1 := w64b (by omega) (by omega)
  have hpl : p < (rows.length : Int) := by omega
  have hal : a < (rows.length : Int) := by omega
  have sw0 : ((w1 a p rows).set p.toNat (rowU rows a.toNat)).Perm rows := swap_perm (by omega) (by omega)
  have i0 : iv a b rows (w4 a b p rows) (w5 a b p rows) ⟨(w1 a p rows).set p.toNat (rowU rows a.toNat), a + 1, b - 1⟩ := by
    refine ⟨?_, ?_, Int.le_refl _, by simp only; omega, by simp only; omega, Int.le_refl _, by simp only; omega, sw0⟩
    · show w3 a ≤ a + 1
      omega
    · show b - 1 ≤ w2 b
      omega
  refine ⟨⟨⟨by omega, hpl⟩, ⟨h0, hal⟩, ⟨h0, hal⟩, rfl, by omega, ?_⟩, _, i0, ⟨e2, e3, rfl, rfl, rfl, rfl⟩, ?_⟩
  · show p < ((rows.set _ _).length : Int)
    rw [List.length_set]
    exact hpl
  rintro ⟨q, x, y⟩ ht _ _ _ _ _ _
  have ht : w3 a ≤ x ∧ y ≤ w2 b ∧ a + 1 ≤ x ∧ x ≤ b ∧ a ≤ y ∧ y ≤ b - 1 ∧ x ≤ y + 2 ∧ q.Perm rows := ht
  obtain ⟨t1, t2, t3, t4, t5, t6, t7, t8⟩ := ht
  have hq := t8.length_eq
  refine ⟨fun h => ?_, fun h => ?_, fun _ => ?_⟩
  · have h : x ≤ y := of_decide_eq_true h
    exact ⟨⟨by simp only; omega, show x < (q.length : Int) by omega⟩, h0, show a < (q.length : Int) by omega⟩
  · have h : x ≤ y := and_l h of_decide_eq_true
    refine ⟨⟨q, x + 1, y⟩, ⟨?_, t2, by simp only; omega, by simp only; omega, t5, t6, by simp only; omega, t8⟩, by simp only; omega, w64b (by simp only; omega) (by simp only; omega), rfl, rfl, rfl, rfl, rfl⟩
    show w3 a ≤ x + 1
    omega
  refine ⟨⟨q, x, y⟩, ⟨Int.le_refl _, Int.le_refl _, t3, t4, t5, t6, t7, t8⟩, ⟨rfl, rfl, rfl, rfl, rfl, rfl⟩, ?_⟩
  rintro ⟨u, c, d⟩ hv _ _ _ _ _ _
  have hv : (w14 a b p ⟨q, x, y⟩) ≤ c ∧ d ≤ (w15 a b p ⟨q, x, y⟩) ∧ a + 1 ≤ c ∧ c ≤ b ∧ a ≤ d ∧ d ≤ b - 1 ∧ c ≤ d + 2 ∧ u.Perm rows := hv
  have ex : w14 a b p ⟨q, x, y⟩ = x := rfl
  have ey : w15 a b p ⟨q, x, y⟩ = y := rfl
  rw [ex, ey] at hv
  obtain ⟨v1, v2, v3, v4, v5, v6, v7, v8⟩ := hv
  have hu := v8.length_eq
  have ed : w20 ⟨u, c, d⟩ = d - 1 := w64b (by simp only; omega) (by simp only; omega)
  have hd : d < (u.length : Int) := by omega
  have ha : a < (u.length : Int) := by omega
  have hd0 : (0 : Int) ≤ d := by omega
  refine ⟨fun _ => ⟨⟨hd0, hd⟩, h0, ha⟩, fun h => ?_, fun _ => ⟨fun _ => ⟨⟨h0, ha⟩, ⟨hd0, hd⟩, ⟨hd0, hd⟩, rfl, h0, ?_⟩, fun _ => ⟨⟨?_, v5, by simp only; omega⟩, Nat.le_refl _⟩, fun h23 => ?_⟩⟩
  · have h : c ≤ d := and_l h of_decide_eq_true
    refine ⟨⟨u, c, d - 1⟩, ⟨?_, ?_, v3, v4, by simp only; omega, by simp only; omega, by simp only; omega, v8⟩, by simp only; omega, rfl, ed, rfl, rfl, rfl, rfl⟩
    · rw [ex]; exact v1
    · rw [ey]; simp only; omega
  · show a < ((u.set _ _).length : Int)
    rw [List.length_set]
    exact ha
  · show ((u.set d.toNat (rowU u a.toNat)).set a.toNat (rowU u d.toNat)).Perm rows
    exact (swap_perm (by omega) (by omega)).trans v8
  have h23 : ¬ d < c := of_decide_eq_false (nt h23)
  have hc : c < (u.length : Int) := by omega
  have ec : w25 ⟨u, c, d⟩ = c + 1 := w64b (by simp only; omega) (by simp only; omega)
  have sw1 : ((w23 ⟨u, c, d⟩).set d.toNat (rowU u c.toNat)).Perm rows := (swap_perm (l := u) (i := c.toNat) (j := d.toNat) (by omega) (by omega)).trans v8
  refine ⟨⟨⟨hd0, hd⟩, ⟨by simp only; omega, hc⟩, ⟨by simp only; omega, hc⟩, rfl, hd0, ?_⟩, ⟨_, c + 1, d - 1⟩, ⟨?_, ?_, by simp only; omega, by simp only; omega, by simp only; omega, by simp only; omega, by simp only; omega, sw1⟩, ⟨ec, ed, rfl, rfl, rfl, rfl⟩, ?_⟩
  · show d < ((u.set _ _).length : Int)
    rw [List.length_set]
    exact hd
  · show w25 ⟨u, c, d⟩ ≤ c + 1
    omega
  · show d - 1 ≤ w20 ⟨u, c, d⟩
    omega
  -- the second loop
  rintro ⟨r, i, j⟩ hs _ _ _ _ _ _
  have hs : w25 ⟨u, c, d⟩ ≤ i ∧ j ≤ w20 ⟨u, c, d⟩ ∧ a + 1 ≤ i ∧ i ≤ b ∧ a ≤ j ∧ j ≤ b - 1 ∧ i ≤ j + 2 ∧ r.Perm rows := hs
  obtain ⟨s1, s2, s3, s4, s5, s6, s7, s8⟩ := hs
  refine ⟨⟨r, i, j⟩, ⟨Int.le_refl _, Int.le_refl _, s3, s4, s5, s6, s7, s8⟩, ⟨rfl, rfl, rfl, rfl, rfl, rfl⟩, ?_⟩
  rintro ⟨m, x', y'⟩ ht _ _ _ _ _ _
  have ht : i ≤ x' ∧ y' ≤ j ∧ a + 1 ≤ x' ∧ x' ≤ b ∧ a ≤ y' ∧ y' ≤ b - 1 ∧ x' ≤ y' + 2 ∧ m.Perm rows := ht
  obtain ⟨t1', t2', t3', t4', t5', t6', t7', t8'⟩ := ht
  have hm := t8'.length_eq
  refine ⟨fun h => ?_, fun h => ?_, fun _ => ?_⟩
  · have h : x' ≤ y' := of_decide_eq_true h
    exact ⟨⟨by simp only; omega, show x' < (m.length : Int) by omega⟩, h0, show a < (m.length : Int) by omega⟩
  · have h : x' ≤ y' := and_l h of_decide_eq_true
    refine ⟨⟨m, x' + 1, y'⟩, ⟨?_, t2', by simp only; omega, by simp only; omega, t5', t6', by simp only; omega, t8'⟩, by simp only; omega, w64b (by simp only; omega) (by simp only; omega), rfl, rfl, rfl, rfl, rfl⟩
    show i ≤ x' + 1
    omega
  refine ⟨⟨m, x', y'⟩, ⟨Int.le_refl _, Int.le_refl _, t3', t4', t5', t6', t7', t8'⟩, ⟨rfl, rfl, rfl, rfl, rfl, rfl⟩, ?_⟩
  rintro ⟨z, e, f⟩ hz _ _ _ _ _ _
  have hz : (w40 a b p ⟨m, x', y'⟩) ≤ e ∧ f ≤ (w41 a b p ⟨m, x', y'⟩) ∧ a + 1 ≤ e ∧ e ≤ b ∧ a ≤ f ∧ f ≤ b - 1 ∧ e ≤ f + 2 ∧ z.Perm rows := hz
  have ex' : w40 a b p ⟨m, x', y'⟩ = x' := rfl
  have ey' : w41 a b p ⟨m, x', y'⟩ = y' := rfl
  rw [ex', ey'] at hz
  obtain ⟨z1, z2, z3, z4, z5, z6, z7, z8⟩ := hz
  have hzl := z8.length_eq
  have ef : w46 ⟨z, e, f⟩ = f - 1 := w64b (by simp only; omega) (by simp only; omega)
  have hf : f < (z.length : Int) := by omega
  have ha' : a < (z.length : Int) := by omega
  have hf0 : (0 : Int) ≤ f := by omega
  refine ⟨fun _ => ⟨⟨hf0, hf⟩, h0, ha'⟩, fun h => ?_, fun _ => ⟨fun _ => ⟨⟨⟨h0, ha'⟩, ⟨hf0, hf⟩, ⟨hf0, hf⟩, rfl, h0, ?_⟩, ⟨?_, z5, by simp only; omega⟩, Nat.le_refl _⟩, fun h47 => ?_⟩⟩
  · have h : e ≤ f := and_l h of_decide_eq_true
    refine ⟨⟨z, e, f - 1⟩, ⟨?_, ?_, z3, z4, by simp only; omega, by simp only; omega, by simp only; omega, z8⟩, by simp only; omega, rfl, ef, rfl, rfl, rfl, rfl⟩
    · rw [ex']; exact z1
    · rw [ey']; simp only; omega
  · show a < ((z.set _ _).length : Int)
    rw [List.length_set]
    exact ha'
  · show ((z.set f.toNat (rowU z a.toNat)).set a.toNat (rowU z f.toNat)).Perm rows
    exact (swap_perm (by omega) (by omega)).trans z8
  have h47 : ¬ f < e := of_decide_eq_false (nt h47)
  have he : e < (z.length : Int) := by omega
  refine ⟨⟨⟨hf0, hf⟩, ⟨by simp only; omega, he⟩, ⟨by simp only; omega, he⟩, rfl, hf0, ?_⟩, ⟨_, e + 1, f - 1⟩, ⟨?_, ?_, by simp only; omega, by simp only; omega, by simp only; omega, by simp only; omega, by simp only; omega, ?_⟩, by simp only; omega, w64b (by simp only; omega) (by simp only; omega), ef, rfl, rfl, rfl, rfl⟩
  · show f < ((z.set _ _).length : Int)
    rw [List.length_set]
    exact hf
  · show w25 ⟨u, c, d⟩ ≤ e + 1
    omega
  · show f - 1 ≤ w20 ⟨u, c, d⟩
    omega
  · show ((z.set e.toNat (rowU z f.toNat)).set f.toNat (rowU z e.toNat)).Perm rows
    exact (swap_perm (by omega) (by omega)).trans z8
end
end Go.Proofs.Ytdeoahhofhmgfaa.Sz.Pt
