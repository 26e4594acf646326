/- A part of the proofs about sorting numbers (uint64): the whole of it. No condition. -/
import Derived.Test.YtdeoahhofhmgfaaPqVc
import Derived.Test.YtdeoahhofhmgfaaSzP
namespace Go.Proofs.Ytdeoahhofhmgfaa.Sz.Pq
open Go.AM
noncomputable section
variable {a b l : Int} {rows : List Int}
def jA (a b : Int) (rows : List Int) (s : Q1) : Prop := a ≤ s.a ∧ s.a ≤ s.b ∧ s.b ≤ b ∧ s.rows.Perm rows
def jC (rows : List Int) (s : C1) : Prop := s.rows.Perm rows
def jD (rows : List Int) (x y : Int) (s : D1) : Prop := x ≤ s.p ∧ s.p < y ∧ s.rows.Perm rows
theorem pq_ok (h0 : 0 ≤ a) (hab : a ≤ b) (hb : b ≤ rows.length) (hn : rows.length < 4611686018427387904) : owed a b l (b - a) rows (fun r => r.Perm rows) (jA a b rows) (jC rows) (jD rows) := by
  refine ⟨⟨rows, a, b, l, true, true⟩, ⟨Int.le_refl _, hab, Int.le_refl _, List.Perm.refl _⟩, ⟨rfl, rfl, rfl, rfl, rfl, rfl⟩, ?_⟩
  rintro ⟨q, c, d, k, x, y⟩ ⟨i1, i2, i3, i4⟩ _ _ _ _
  simp only at i1 i2 i3 i4
  have hq := i4.length_eq
  have e1 : w1 ⟨q, c, d, k, x, y⟩ = d - c := w64b (by simp only [w0]; omega) (by simp only [w0]; omega)
  have hc0 : 0 ≤ c := by omega
  have hdq : d ≤ (q.length : Int) := by omega
  have hqn : q.length < 4611686018427387904 := by omega
  have p0 : part0 ⟨q, c, d, k, x, y⟩ := ⟨hc0, i2, hdq, hqn⟩
  refine ⟨fun _ => ⟨⟨hc0, hdq, show c ≤ (q.length : Int) by omega, hqn⟩, fun r hr => ⟨hr.trans i4, Nat.le_refl _⟩⟩, fun h2 => ⟨fun _ => ⟨p0, fun r hr => ⟨hr.trans i4, Nat.le_refl _⟩⟩, fun _ => ⟨⟨fun _ => ⟨p0, fun r hr => ⟨⟨r, _⟩, hr.trans i4, rfl, rfl, rfl, rfl, rfl, rfl, rfl⟩⟩, fun _ => ⟨⟨q, k⟩, i4, rfl, rfl, rfl, rfl, rfl, rfl, rfl⟩⟩, ?_⟩⟩⟩
  have h2 : ¬ w1 ⟨q, c, d, k, x, y⟩ ≤ 12 := of_decide_eq_false h2
  rw [e1] at h2
  rintro ⟨u, k1⟩ hu _ _ _ _ _
  have hu : u.Perm rows := hu
  have hul := hu.length_eq
  refine ⟨⟨hc0, by simp only; omega, show d ≤ (u.length : Int) by omega, show u.length < 4611686018427387904 by omega⟩, fun p m p1 p2 => ?_⟩
  have p1 : c ≤ p := p1
  have p2 : p < d := p2
  refine ⟨⟨fun _ => ⟨⟨hc0, by simp only; omega, show d ≤ (u.length : Int) by omega, show u.length < 4611686018427387904 by omega⟩, fun r hr => ⟨⟨r, d - 1 - (p - c), 1⟩, ⟨?_, ?_, hr.trans hu⟩, ?_, rfl, rfl, rfl, rfl, rfl, rfl, rfl, rfl⟩⟩, fun _ => ⟨⟨u, p, m⟩, ⟨p1, p2, hu⟩, rfl, rfl, rfl, rfl, rfl, rfl, rfl, rfl, rfl⟩⟩, ?_⟩
  · show c ≤ d - 1 - (p - c)
    omega
  · show d - 1 - (p - c) < d
    omega
  · show IntKind.i64.wrap (IntKind.i64.wrap (d - 1) - IntKind.i64.wrap (p - c)) = d - 1 - (p - c)
    rw [w64b (n := d - 1) (by omega) (by omega), w64b (n := p - c) (by omega) (by omega)]
    exact w64b (by omega) (by omega)
  rintro ⟨v, p', m'⟩ hv _ _ _ _ _ _ _
  have hv : c ≤ p' ∧ p' < d ∧ v.Perm rows := hv
  obtain ⟨v1, v2, v3⟩ := hv
  have hvl := v3.length_eq
  refine ⟨⟨fun _ => ⟨⟨hc0, by simp only; omega, show d ≤ (v.length : Int) by omega, show v.length < 4611686018427387904 by omega⟩, fun r cc hr => ⟨fun _ => ⟨hr.trans v3, Nat.le_refl _⟩, fun _ => ⟨⟨r, p', m'⟩, ⟨v1, v2, hr.trans v3⟩, rfl, rfl, rfl, rfl, rfl, rfl, rfl, rfl, rfl⟩⟩⟩, fun _ => ⟨⟨v, p', m'⟩, ⟨v1, v2, v3⟩, rfl, rfl, rfl, rfl, rfl, rfl, rfl, rfl, rfl⟩⟩, ?_⟩
  rintro ⟨z, e, f⟩ hz _ _ _ _ _ _ _
  have hz : c ≤ e ∧ e < d ∧ z.Perm rows := hz
  obtain ⟨z1, z2, z3⟩ := hz
  have hzl := z3.length_eq
  have hzn : z.length < 4611686018427387904 := by omega
  have hdz : d ≤ (z.length : Int) := by omega
  have p1' : part1 ⟨q, c, d, k, x, y⟩ ⟨z, e, f⟩ := ⟨hc0, by simp only; omega, hdz, z1, z2, hzn⟩
  refine ⟨fun h => ?_, fun _ => ⟨p1', fun r n hr n1 n2 => ?_⟩, fun _ => ⟨p1', fun r n cc hr n1 n2 => ⟨by decide, fun _ => ⟨⟨hc0, n1, ?_, ?_, ?_⟩, fun r6 h6 => ?_⟩, fun _ => ⟨⟨?_, ?_, ?_, ?_, ?_⟩, fun r7 h7 => ?_⟩⟩⟩⟩
  · have h : 0 < c := of_decide_eq_true h
    have e14 : w14 ⟨q, c, d, k, x, y⟩ = c - 1 := w64b (by simp only; omega) (by simp only; omega)
    rw [e14]
    exact ⟨⟨by omega, show c - 1 < (z.length : Int) by omega⟩, by simp only; omega, show e < (z.length : Int) by omega⟩
  · have n1 : c + 1 ≤ n := n1
    have n2 : n ≤ d := n2
    refine ⟨⟨r, n, d, k1, x, y⟩, ⟨by simp only; omega, n2, i3, hr.trans z3⟩, ?_, rfl, rfl, rfl, rfl, rfl, rfl⟩
    show (d - n).toNat < (d - c).toNat
    omega
  all_goals
    have n1 : c ≤ n := n1
    have n2 : n < d := n2
    have hrl := (hr.trans z3).length_eq
  · show n ≤ (r.length : Int)
    omega
  · omega
  · show n - c < b - a
    omega
  · have e25 : w25 n = n + 1 := w64b (by omega) (by omega)
    refine ⟨⟨r6, n + 1, d, k1, _, cc⟩, ⟨by simp only; omega, by simp only; omega, i3, (h6.trans hr).trans z3⟩, ?_, e25, rfl, rfl, rfl, rfl, rfl⟩
    show (d - (n + 1)).toNat < (d - c).toNat
    omega
  · have e25 : w25 n = n + 1 := w64b (by omega) (by omega)
    rw [e25]; omega
  · have e25 : w25 n = n + 1 := w64b (by omega) (by omega)
    rw [e25]; simp only; omega
  · show d ≤ (r.length : Int)
    omega
  · omega
  · have e25 : w25 n = n + 1 := w64b (by omega) (by omega)
    rw [e25]
    show d - (n + 1) < b - a
    omega
  · refine ⟨⟨r7, c, n, k1, _, cc⟩, ⟨i1, n1, by simp only; omega, (h7.trans hr).trans z3⟩, ?_, rfl, rfl, rfl, rfl, rfl, rfl⟩
    show (n - c).toNat < (d - c).toNat
    omega
end
end Go.Proofs.Ytdeoahhofhmgfaa.Sz.Pq
