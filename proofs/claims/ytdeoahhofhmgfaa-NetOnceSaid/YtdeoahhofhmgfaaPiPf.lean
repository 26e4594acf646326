/- A part of the proofs about sorting numbers (uint64): a few steps. No condition. -/
import Derived.Test.YtdeoahhofhmgfaaPiVc
import Derived.Test.YtdeoahhofhmgfaaSzP
namespace Go.Proofs.Ytdeoahhofhmgfaa.Sz.Pi
open Go.AM
noncomputable section
variable {a b : Int} {rows : List Int}
def jA (a b : Int) (rows : List Int) (s : I2) : Prop := a + 1 ≤ s.i ∧ s.i ≤ b ∧ 0 ≤ s.j ∧ s.j ≤ 5 ∧ s.rows.Perm rows
def jB (a b : Int) (rows : List Int) (s : I1) : Prop := a + 1 ≤ s.i ∧ s.i ≤ b ∧ s.rows.Perm rows
def jC (rows : List Int) (i : Int) (s : I1) : Prop := 0 ≤ s.i ∧ s.i ≤ i - 1 ∧ s.rows.Perm rows
def jD (b : Int) (rows : List Int) (i : Int) (s : I1) : Prop := i + 1 ≤ s.i ∧ s.i ≤ b ∧ s.rows.Perm rows
theorem nx {s : I2} {s1 s3 : I1} (h1 : a + 1 ≤ s1.i) (h2 : s1.i ≤ b) (h3 : 0 ≤ s.j) (h4 : s.j < 5) (hp : s3.rows.Perm rows) : part3 a b (jA a b rows) s s1 s3 := by
  have e : w38 s = s.j + 1 := w64b (by omega) (by omega)
  refine ⟨⟨s3.rows, s1.i, s.j + 1⟩, ⟨h1, h2, by simp only; omega, by simp only; omega, hp⟩, ?_, rfl, e, rfl, rfl, rfl⟩
  show ((5 : Int) - (s.j + 1)).toNat < ((5 : Int) - s.j).toNat
  omega
theorem dl {s : I2} {s1 : I1} {i : Int} (h0 : 0 ≤ a) (hb : b ≤ rows.length) (hn : rows.length < 4611686018427387904) (hi : i = s1.i) (h1 : a + 1 ≤ s1.i) (h2 : s1.i ≤ b) (h3 : 0 ≤ s.j) (h4 : s.j < 5) (s3 : I1) (hd : jD b rows i s3) :
    (w31 b s3 = true →
     (((0 : Int) ≤ s3.i ∧ s3.i < w32 s3) ∧ part2 s3) ∧
     (w36 s3 = true → part3 a b (jA a b rows) s s1 s3) ∧
     ((!w36 s3) = true →
      (part2 s3 ∧ ((0 : Int) ≤ s3.i ∧ s3.i < w32 s3) ∧ ((0 : Int) ≤ s3.i ∧ s3.i < w32 s3) ∧ (s3.i = s3.i ∧ w33 s3 = w33 s3) ∧ (0 : Int) ≤ w33 s3 ∧ w33 s3 < (↑(w39 s3).length : Int)) ∧
      ∃ s'2, jD b rows i s'2 ∧ (b - s'2.i).toNat < (b - s3.i).toNat ∧ IntKind.i64.wrap (s3.i + (1 : Int)) = s'2.i ∧ a = a ∧ b = b ∧ s1.i = s1.i ∧ s.j = s.j ∧ ((w39 s3).set (w34 s3) (rowU s3.rows s3.i.toNat)) = s'2.rows)) ∧
    ((!w31 b s3) = true → part3 a b (jA a b rows) s s1 s3) := by
  obtain ⟨q, x⟩ := s3
  obtain ⟨d1, d2, d3⟩ := hd
  simp only at d1 d2 d3
  have hq := d3.length_eq
  have n3 : part3 a b (jA a b rows) s s1 ⟨q, x⟩ := nx h1 h2 h3 h4 d3
  refine ⟨fun h => ?_, fun _ => n3⟩
  have h : x < b := of_decide_eq_true h
  have e : w33 ⟨q, x⟩ = x - 1 := w64b (by simp only; omega) (by simp only; omega)
  have hx : x < (q.length : Int) := by omega
  have hx0 : (0 : Int) ≤ x := by omega
  have p2 : part2 ⟨q, x⟩ := by
    unfold part2
    rw [e]
    exact ⟨by omega, show x - 1 < (q.length : Int) by omega⟩
  refine ⟨⟨⟨hx0, hx⟩, p2⟩, fun _ => n3, fun _ => ⟨⟨p2, ⟨hx0, hx⟩, ⟨hx0, hx⟩, ⟨rfl, rfl⟩, p2.1, ?_⟩, ⟨_, x + 1⟩, ⟨by simp only; omega, by simp only; omega, ?_⟩, by simp only; omega, w64b (by simp only; omega) (by simp only; omega), rfl, rfl, rfl, rfl, rfl⟩⟩
  · show w33 _ < ((q.set _ _).length : Int)
    rw [List.length_set]
    exact p2.2
  · show ((w39 ⟨q, x⟩).set (w34 ⟨q, x⟩) (rowU q x.toNat)).Perm rows
    unfold w39 w34
    rw [e]
    exact (swap_perm (l := q) (i := x.toNat) (j := (x - 1).toNat) (by omega) (by omega)).trans d3
theorem pi_ok (h0 : 0 ≤ a) (hab : a < b) (hb : b ≤ rows.length) (hn : rows.length < 4611686018427387904) : owed a b rows (fun r => r.Perm rows) (jA a b rows) (jB a b rows) (jC rows) (jD b rows) := by
  refine ⟨⟨rows, a + 1, 0⟩, ⟨Int.le_refl _, by simp only; omega, by simp, by simp, List.Perm.refl _⟩, ⟨w64b (by omega) (by omega), rfl, rfl, rfl, rfl⟩, ?_⟩
  rintro ⟨r, i0, j0⟩ ⟨a1, a2, a3, a4, a5⟩ _ _ _ _ _
  simp only at a1 a2 a3 a4 a5
  refine ⟨fun h => ?_, fun _ => ⟨a5, Nat.le_refl _⟩⟩
  have hj5 : j0 < 5 := of_decide_eq_true h
  refine ⟨⟨r, i0⟩, ⟨a1, a2, a5⟩, ⟨rfl, rfl, rfl, rfl, rfl⟩, ?_⟩
  rintro ⟨q, i⟩ ⟨b1, b2, b3⟩ _ _ _ _ _
  simp only at b1 b2 b3
  have hq := b3.length_eq
  have e3 : w3 ⟨q, i⟩ = i - 1 := w64b (by simp only; omega) (by simp only; omega)
  have e8 : w8 ⟨q, i⟩ = i + 1 := w64b (by simp only; omega) (by simp only; omega)
  have hi0 : (0 : Int) ≤ i := by omega
  have p0 : part0 ⟨q, i⟩ := by
    unfold part0
    rw [e3]
    exact ⟨by omega, show i - 1 < (q.length : Int) by omega⟩
  refine ⟨fun h => ?_, fun h => ?_, fun _ => ⟨fun _ => ⟨b3, Nat.le_refl _⟩, fun h9 => ⟨fun _ => ⟨b3, Nat.le_refl _⟩, fun _ => ?_⟩⟩⟩
  · have h : i < b := of_decide_eq_true h
    exact ⟨⟨hi0, show i < (q.length : Int) by omega⟩, p0⟩
  · have h : i < b := and_l h of_decide_eq_true
    refine ⟨⟨q, i + 1⟩, ⟨by simp only; omega, by simp only; omega, b3⟩, ?_, e8, rfl, rfl, rfl, rfl⟩
    show (b - (i + 1)).toNat < (b - i).toNat
    omega
  have h9 : ¬ i = b := of_decide_eq_false (nt h9)
  have hil : i < (q.length : Int) := by omega
  have sw : (w19 ⟨q, i⟩).Perm rows := by
    unfold w19 w12 w4
    rw [e3]
    exact (swap_perm (l := q) (i := i.toNat) (j := (i - 1).toNat) (by omega) (by omega)).trans b3
  have D : ∀ m : List Int, m.Perm rows → w28 b ⟨q, i⟩ = true → jD b rows i ⟨m, i + 1⟩ := fun m hm h28 => by
    have e27 : w27 b ⟨q, i⟩ = b - i := w64b (by simp only [w7]; omega) (by simp only [w7]; omega)
    have h28 : (2 : Int) ≤ w27 b ⟨q, i⟩ := of_decide_eq_true h28
    exact ⟨Int.le_refl _, by simp only; omega, hm⟩
  refine ⟨⟨p0, ⟨hi0, hil⟩, ⟨hi0, hil⟩, ⟨rfl, rfl⟩, p0.1, ?_⟩, fun _ => ?_, fun _ => ⟨fun h28 => ?_, fun _ => ?_⟩⟩
  · show w3 _ < ((q.set _ _).length : Int)
    rw [List.length_set]
    exact p0.2
  · refine ⟨⟨w19 ⟨q, i⟩, i - 1⟩, ⟨by simp only; omega, Int.le_refl _, sw⟩, ⟨e3, rfl, rfl, rfl, rfl, rfl⟩, ?_⟩
    rintro ⟨m, x⟩ hc _ _ _ _ _ _
    have hc : 0 ≤ x ∧ x ≤ i - 1 ∧ m.Perm rows := hc
    obtain ⟨c1, c2, c3⟩ := hc
    have hm := c3.length_eq
    have e22 : w22 ⟨m, x⟩ = x - 1 := w64b (by simp only; omega) (by simp only; omega)
    have hx : x < (m.length : Int) := by omega
    have n4 : part4 a b (jA a b rows) ⟨r, i0, j0⟩ ⟨q, i⟩ ⟨m, x⟩ := fun _ => nx (s3 := ⟨m, x⟩) b1 b2 a3 hj5 c3
    refine ⟨fun h20 => ?_, fun _ => ⟨fun h28 => ?_, n4⟩⟩
    · have h20 : (1 : Int) ≤ x := of_decide_eq_true h20
      have p1 : part1 ⟨m, x⟩ := by
        unfold part1
        rw [e22]
        exact ⟨by omega, show x - 1 < (m.length : Int) by omega⟩
      refine ⟨⟨⟨c1, hx⟩, p1⟩, fun _ => ⟨fun h28 => ?_, n4⟩, fun _ => ⟨⟨p1, ⟨c1, hx⟩, ⟨c1, hx⟩, ⟨rfl, rfl⟩, p1.1, ?_⟩, ⟨_, x - 1⟩, ⟨by simp only; omega, ?_, ?_⟩, by simp only; omega, e22, rfl, rfl, rfl, rfl, rfl⟩⟩
      · refine ⟨⟨m, i + 1⟩, D m c3 h28, ⟨e8, rfl, rfl, rfl, rfl, rfl⟩, fun s3 hs _ _ _ _ _ _ => dl h0 hb hn rfl b1 b2 a3 hj5 s3 hs⟩
      · show w22 _ < ((m.set _ _).length : Int)
        rw [List.length_set]
        exact p1.2
      · show x - 1 ≤ i - 1
        omega
      · show ((w40 ⟨m, x⟩).set (w23 ⟨m, x⟩) (rowU m x.toNat)).Perm rows
        unfold w40 w23
        rw [e22]
        exact (swap_perm (l := m) (i := x.toNat) (j := (x - 1).toNat) (by omega) (by omega)).trans c3
    · exact ⟨⟨m, i + 1⟩, D m c3 h28, ⟨e8, rfl, rfl, rfl, rfl, rfl⟩, fun s3 hs _ _ _ _ _ _ => dl h0 hb hn rfl b1 b2 a3 hj5 s3 hs⟩
  · exact ⟨⟨w19 ⟨q, i⟩, i + 1⟩, D _ sw h28, ⟨e8, rfl, rfl, rfl, rfl, rfl⟩, fun s3 hs _ _ _ _ _ _ => dl h0 hb hn rfl b1 b2 a3 hj5 s3 hs⟩
  · have := nx (a := a) (b := b) (rows := rows) (s := ⟨r, i0, j0⟩) (s1 := ⟨q, i⟩) (s3 := ⟨w19 ⟨q, i⟩, 0⟩) b1 b2 a3 hj5 sw
    exact this
end
end Go.Proofs.Ytdeoahhofhmgfaa.Sz.Pi
