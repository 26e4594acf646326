/- A part of the proof that 'reevelaw10.NetOnce' returns true for every input: those that are ready. No condition. -/
import Derived.Test.YtdeoahhofhmgfaaNrVc
import Derived.Test.YtdeoahhofhmgfaaSzP
namespace Go.Proofs.Ytdeoahhofhmgfaa.No.Nr
open Go.AM Sz
noncomputable section
variable {m : Lm} {bs : List Nat} {clk : Nat} {last : Int} {cm : Cm} {cbs : List Nat} {cclk : Nat}
def jA (s : R1) : Prop := 0 ≤ s.i ∧ s.i ≤ 4096 ∧ s.rows.length ≤ s.i
def jB (r0 : List Letter) (_n : Int) (s : R1) : Prop := -1 ≤ s.i ∧ s.i ≤ r0.length ∧ s.rows.length = r0.length
def jC (r0 : List Letter) (i0 n : Int) (s : R1) : Prop := i0 ≤ s.i ∧ (s.i < n ∨ s.i = i0) ∧ s.rows.length = r0.length
def jD (s : R2) : Prop := s.n ≤ s.rows.length ∧ s.rows.length ≤ 4096 ∧ s.l.length + s.n ≤ 4096
theorem pickC {c d : Bool} {x y i n : Int} (hx : i < x ∧ x < n) (hy : c = true → i < y ∧ y < n) : i < (bif c && d then y else x) ∧ (bif c && d then y else x) < n := by
  cases c with
  | false => exact hx
  | true =>
    cases d with
    | false => exact hx
    | true => exact hy rfl
theorem or_f {a b : Bool} (h : (!(a || b)) = true) : a = false ∧ b = false := by cases a <;> cases b <;> simp_all
theorem nr_ok (hm : m.length ≤ 4096) : owed m bs clk last cm cbs cclk jA jB jC jD := by
  refine ⟨hm, fun rows hrows => ?_⟩
  obtain ⟨ks, hk, hr⟩ := hrows
  have hrl : rows.length ≤ 4096 := by
    have := hk.length_eq
    rw [hr]
    simp only [List.length_map, keys] at *
    omega
  refine ⟨⟨0, []⟩, ⟨by simp, by simp, by simp⟩, (by and_intros <;> rfl), ?_⟩
  rintro ⟨i, q⟩ ⟨i1, i2, i3⟩ _ _ _ _ _ _ _ _ _ _ _
  simp only at i1 i2 i3
  refine ⟨fun h => ?_, fun h => ⟨by decide, ?_⟩⟩
  · have h : i < (rows.length : Int) := of_decide_eq_true h
    have e12 : w12 ⟨i, q⟩ = i + 1 := w64b (by simp only; omega) (by simp only; omega)
    have e9 : w9 rows ⟨i, q⟩ = q.length + 1 := by unfold w9 w8 w7; simp
    have hmu : (w10 rows - (i + 1)).toNat < w11 rows ⟨i, q⟩ := by
      show ((rows.length : Int) - (i + 1)).toNat < ((rows.length : Int) - i).toNat
      omega
    refine ⟨⟨i1, h⟩, fun _ => ⟨⟨by rw [e9]; omega, by rw [e9]; omega⟩, ⟨i + 1, _⟩, ⟨by simp only; omega, by simp only; omega, ?_⟩, hmu, e12, rfl, rfl, rfl, rfl, rfl, rfl, rfl, rfl, rfl, rfl⟩, fun _ => ⟨⟨i + 1, _⟩, ⟨by simp only; omega, by simp only; omega, ?_⟩, hmu, e12, rfl, rfl, rfl, rfl, rfl, rfl, rfl, rfl, rfl, rfl⟩⟩
    · show ((w8 rows ⟨i, q⟩).length : Int) ≤ i + 1
      unfold w8 w7
      simp only [List.length_append, List.length_cons, List.length_nil]
      omega
    · show ((w7 ⟨i, q⟩).length : Int) ≤ i + 1
      unfold w7
      simp only
      omega
  -- the heap is made
  have hql : q.length ≤ 4096 := by omega
  have e16 : w16 ⟨i, q⟩ = (q.length : Int) := rfl
  have e17 : w17 ⟨i, q⟩ = (q.length : Int) / 2 := by
    unfold w17
    rw [e16, Int.tdiv_eq_ediv_of_nonneg (by omega)]
    exact w64b (by omega) (by omega)
  have e18 : w18 ⟨i, q⟩ = (q.length : Int) / 2 - 1 := by
    unfold w18
    rw [e17]
    exact w64b (by omega) (by omega)
  have e15 : w15 m bs clk last cm cbs cclk rows ⟨i, q⟩ = q := rfl
  refine ⟨⟨(q.length : Int) / 2 - 1, q⟩, ⟨by simp only; omega, ?_, ?_⟩, ⟨e18, (by and_intros <;> rfl)⟩, ?_⟩
  · rw [e15]; simp only; omega
  · rw [e15]
  rintro ⟨j, u⟩ hB _ _ _ _ _ _ _ _ _ _ _
  have hB : -1 ≤ j ∧ j ≤ q.length ∧ u.length = q.length := hB
  obtain ⟨b1, b2, b3⟩ := hB
  refine ⟨fun h20 => ?_, fun _ => ⟨fun h40 => ?_, fun _ => (by unfold part14; and_intros <;> rfl)⟩⟩
  · have h20 : 0 ≤ j := of_decide_eq_true h20
    refine ⟨⟨j, u⟩, ⟨Int.le_refl _, .inr rfl, rfl⟩, (by and_intros <;> rfl), ?_⟩
    rintro ⟨x, v⟩ hC _ _ _ _ _ _ _ _ _ _ _ _
    have hC : j ≤ x ∧ (x < (q.length : Int) ∨ x = j) ∧ v.length = u.length := hC
    obtain ⟨c1, c2, c3⟩ := hC
    have e24 : w24 ⟨x, v⟩ = 2 * x + 1 := by
      unfold w24
      rw [w64b (n := 2 * x) (by omega) (by omega)]
      exact w64b (by omega) (by omega)
    have e26 : w26 ⟨x, v⟩ = 2 * x + 2 := by
      unfold w26
      rw [e24]
      exact (w64b (by omega) (by omega)).trans (by omega)
    have p2 : part2 m bs clk last cm cbs cclk jB rows ⟨i, q⟩ ⟨j, u⟩ ⟨x, v⟩ := by
      refine ⟨⟨j - 1, v⟩, ⟨by simp only; omega, ?_, ?_⟩, by simp only; omega, w64b (by simp only; omega) (by simp only; omega), (by and_intros <;> rfl)⟩
      · rw [e15]; simp only; omega
      · rw [e15]; simp only; omega
    refine ⟨fun _ => p2, fun h25 => ?_⟩
    obtain ⟨h25, _⟩ := or_f h25
    have h25 : ¬ w16 ⟨i, q⟩ ≤ w24 ⟨x, v⟩ := of_decide_eq_false h25
    rw [e16, e24] at h25
    have e28 : w28 ⟨x, v⟩ = (v.length : Int) := rfl
    have p3 : w27 ⟨i, q⟩ ⟨x, v⟩ = true → part3 ⟨x, v⟩ := fun h27 => by
      have h27 : w26 ⟨x, v⟩ < w16 ⟨i, q⟩ := of_decide_eq_true h27
      rw [e26, e16] at h27
      unfold part3
      rw [e26, e24, e28]
      omega
    have g33 : x < w33 ⟨i, q⟩ ⟨x, v⟩ ∧ w33 ⟨i, q⟩ ⟨x, v⟩ < (q.length : Int) := by
      unfold w33
      refine pickC ?_ fun h27 => ?_
      · rw [e24]; omega
      · have h27 : w26 ⟨x, v⟩ < w16 ⟨i, q⟩ := of_decide_eq_true h27
        rw [e16] at h27
        rw [e26] at h27 ⊢
        omega
    have p4 : part4 ⟨i, q⟩ ⟨x, v⟩ := by
      unfold part4
      rw [e28]
      omega
    have p5 : part5 ⟨i, q⟩ ⟨x, v⟩ := ⟨p4, by simp only; omega, by rw [e28]; simp only; omega⟩
    refine ⟨fun h27 => ⟨⟨p3 h27, fun _ => p3 h27⟩, fun _ => p3 h27⟩, ⟨⟨p5, fun _ => p5⟩, fun _ => p5⟩, fun _ => p2, fun _ => ⟨⟨p4, p5.2, p5.2, rfl, p4.1, ?_⟩, ⟨_, _⟩, ⟨?_, .inl g33.2, ?_⟩, ?_, rfl, (by and_intros <;> rfl)⟩⟩
    · show w33 _ _ < ((v.set _ _).length : Int)
      rw [List.length_set]
      exact p4.2
    · show j ≤ w33 ⟨i, q⟩ ⟨x, v⟩
      omega
    · show (((v.set _ _).set _ _).length) = u.length
      rw [List.length_set, List.length_set]
      exact c3
    · show ((q.length : Int) - w33 ⟨i, q⟩ ⟨x, v⟩).toNat < ((q.length : Int) - x).toNat
      omega
  -- the first one is taken
  have h40 : 0 < (u.length : Int) := of_decide_eq_true h40
  have e39 : w39 ⟨j, u⟩ = (u.length : Int) := rfl
  have e41 : w41 ⟨j, u⟩ = (u.length : Int) - 1 := w64b (by rw [e39]; omega) (by rw [e39]; omega)
  have l45 : (w45 ⟨j, u⟩).length = u.length := by
    show ((u.set _ _).set _ _).length = _
    rw [List.length_set, List.length_set]
  refine ⟨⟨Int.le_refl _, h40⟩, ⟨⟨by rw [e41]; omega, by rw [e41, e39]; omega⟩, ⟨Int.le_refl _, h40⟩, ⟨Int.le_refl _, h40⟩, rfl, by rw [e41]; omega, ?_⟩, ⟨0, w45 ⟨j, u⟩⟩, ⟨Int.le_refl _, .inr rfl, rfl⟩, (by and_intros <;> rfl), ?_⟩
  · show w41 _ < ((u.set _ _).length : Int)
    rw [List.length_set, e41]
    omega
  rintro ⟨x, v⟩ hC _ _ _ _ _ _ _ _ _ _ _ _ _
  have hC : 0 ≤ x ∧ (x < w41 ⟨j, u⟩ ∨ x = 0) ∧ v.length = (w45 ⟨j, u⟩).length := hC
  obtain ⟨c1, c2, c3⟩ := hC
  rw [l45] at c3
  rw [e41] at c2
  have e51 : w51 ⟨x, v⟩ = (v.length : Int) := rfl
  have e52 : w52 ⟨x, v⟩ = (v.length : Int) - 1 := w64b (by rw [e51]; omega) (by rw [e51]; omega)
  have p15 : part15 m bs clk last cm cbs cclk jC jD rows ⟨j, u⟩ ⟨x, v⟩ := by
    refine ⟨⟨⟨by rw [e52]; omega, by rw [e52, e51]; omega⟩, by rw [e52]; omega, by rw [e52, e51]; omega⟩, ⟨(w52 ⟨x, v⟩).toNat, v, [(rowT u 0).1]⟩, ⟨?_, ?_, ?_⟩, (by unfold part7; and_intros <;> rfl), ?_⟩
    · rw [e52]; simp only; omega
    · simp only; omega
    · rw [e52]; simp only [List.length_cons, List.length_nil]; omega
    rintro ⟨n, r, l⟩ ⟨d1, d2, d3⟩ _ _ _ _ _ _ _ _ _ _ _ _ _ _ _ _
    simp only at d1 d2 d3
    have e55 : w55 ⟨n, r, l⟩ = (n : Int) := rfl
    refine ⟨fun h56 => ?_, fun _ => ⟨by decide, by decide, (by show l.length ≤ 4096; omega), (by unfold part14; and_intros <;> rfl)⟩⟩
    have h56 : 0 < (n : Int) := of_decide_eq_true h56
    have e59 : w59 ⟨n, r, l⟩ = (n : Int) - 1 := w64b (by rw [e55]; omega) (by rw [e55]; omega)
    have p8 : part8 ⟨n, r, l⟩ := by
      unfold part8
      rw [e59, e55]
      omega
    have e58 : w58 ⟨n, r, l⟩ = l.length + 1 := by unfold w58 w57; simp
    have l61 : (w61 ⟨n, r, l⟩).length = r.length := by
      unfold w61
      simp only [List.length_set]
    refine ⟨⟨⟨Int.le_refl _, h56⟩, by rw [e58]; omega, by rw [e58]; omega⟩, ⟨p8, ⟨Int.le_refl _, h56⟩, ⟨Int.le_refl _, h56⟩, ⟨⟨rfl, rfl⟩, rfl⟩, p8⟩, ⟨0, w61 ⟨n, r, l⟩⟩, ⟨Int.le_refl _, .inr rfl, rfl⟩, (by unfold part9; and_intros <;> rfl), ?_⟩
    rintro ⟨y, z⟩ hC' _ _ _ _ _ _ _ _ _ _ _ _ _ _ _ _ _ _ _
    have hC' : 0 ≤ y ∧ (y < w59 ⟨n, r, l⟩ ∨ y = 0) ∧ z.length = (w61 ⟨n, r, l⟩).length := hC'
    obtain ⟨k1, k2, k3⟩ := hC'
    rw [l61] at k3
    rw [e59] at k2
    have e65 : w65 ⟨y, z⟩ = 2 * y + 1 := by
      unfold w65
      rw [w64b (n := 2 * y) (by omega) (by omega)]
      exact w64b (by omega) (by omega)
    have e67 : w67 ⟨y, z⟩ = 2 * y + 2 := by
      unfold w67
      rw [e65]
      exact (w64b (by omega) (by omega)).trans (by omega)
    have p10 : part10 m bs clk last cm cbs cclk jD rows ⟨j, u⟩ ⟨x, v⟩ ⟨n, r, l⟩ ⟨y, z⟩ := by
      refine ⟨⟨p8, by rw [e59]; omega, by rw [e59, e55]; omega⟩, ⟨(w59 ⟨n, r, l⟩).toNat, z, w64 ⟨n, r, l⟩⟩, ⟨?_, ?_, ?_⟩, ?_, (by unfold part7; and_intros <;> rfl)⟩
      · rw [e59]; simp only; omega
      · simp only; omega
      · have : (w64 ⟨n, r, l⟩).length = l.length + 1 := e58
        rw [e59]
        simp only [this]
        omega
      · rw [e59]; simp only; omega
    refine ⟨fun _ => p10, fun h66 => ?_⟩
    obtain ⟨h66, _⟩ := or_f h66
    have h66 : ¬ w59 ⟨n, r, l⟩ ≤ w65 ⟨y, z⟩ := of_decide_eq_false h66
    rw [e59, e65] at h66
    have p11 : w68 ⟨n, r, l⟩ ⟨y, z⟩ = true → part11 ⟨n, r, l⟩ ⟨y, z⟩ := fun h68 => by
      have h68 : w67 ⟨y, z⟩ < w59 ⟨n, r, l⟩ := of_decide_eq_true h68
      rw [e67, e59] at h68
      unfold part11
      rw [e67, e65, e55]
      omega
    have g73 : y < w73 ⟨n, r, l⟩ ⟨y, z⟩ ∧ w73 ⟨n, r, l⟩ ⟨y, z⟩ < (n : Int) - 1 := by
      unfold w73
      refine pickC ?_ fun h68 => ?_
      · rw [e65]; omega
      · have h68 : w67 ⟨y, z⟩ < w59 ⟨n, r, l⟩ := of_decide_eq_true h68
        rw [e59] at h68
        rw [e67] at h68 ⊢
        omega
    have p12 : part12 ⟨n, r, l⟩ ⟨y, z⟩ := by
      unfold part12
      rw [e55]
      omega
    have p13 : part13 ⟨n, r, l⟩ ⟨y, z⟩ := ⟨p12, k1, by rw [e55]; simp only; omega⟩
    refine ⟨fun h68 => ⟨⟨p11 h68, fun _ => p11 h68⟩, fun _ => p11 h68⟩, ⟨⟨p13, fun _ => p13⟩, fun _ => p13⟩, fun _ => p10, fun _ => ⟨⟨p12, p13.2, p13.2, ⟨⟨rfl, rfl⟩, rfl⟩, p12⟩, ⟨_, _⟩, ⟨?_, .inl ?_, ?_⟩, ?_, rfl, (by unfold part9; and_intros <;> rfl)⟩⟩
    · show 0 ≤ w73 ⟨n, r, l⟩ ⟨y, z⟩
      omega
    · show w73 ⟨n, r, l⟩ ⟨y, z⟩ < w59 ⟨n, r, l⟩
      rw [e59]; omega
    · show ((z.set _ _).set _ _).length = (w61 ⟨n, r, l⟩).length
      rw [List.length_set, List.length_set, l61]
      exact k3
    · show (w59 ⟨n, r, l⟩ - w73 ⟨n, r, l⟩ ⟨y, z⟩).toNat < (w59 ⟨n, r, l⟩ - y).toNat
      omega
  have e48 : w48 ⟨x, v⟩ = 2 * x + 1 := by
    unfold w48
    rw [w64b (n := 2 * x) (by omega) (by omega)]
    exact w64b (by omega) (by omega)
  have e79 : w79 ⟨x, v⟩ = 2 * x + 2 := by
    unfold w79
    rw [e48]
    exact (w64b (by omega) (by omega)).trans (by omega)
  refine ⟨fun _ => p15, fun h49 => ?_⟩
  obtain ⟨h49, _⟩ := or_f h49
  have h49 : ¬ w41 ⟨j, u⟩ ≤ w48 ⟨x, v⟩ := of_decide_eq_false h49
  rw [e41, e48] at h49
  have p16 : w80 ⟨j, u⟩ ⟨x, v⟩ = true → part16 ⟨x, v⟩ := fun h80 => by
    have h80 : w79 ⟨x, v⟩ < w41 ⟨j, u⟩ := of_decide_eq_true h80
    rw [e79, e41] at h80
    unfold part16
    rw [e79, e48, e51]
    omega
  have g85 : x < w85 ⟨j, u⟩ ⟨x, v⟩ ∧ w85 ⟨j, u⟩ ⟨x, v⟩ < (u.length : Int) - 1 := by
    unfold w85
    refine pickC ?_ fun h80 => ?_
    · rw [e48]; omega
    · have h80 : w79 ⟨x, v⟩ < w41 ⟨j, u⟩ := of_decide_eq_true h80
      rw [e41] at h80
      rw [e79] at h80 ⊢
      omega
  have p17 : part17 ⟨j, u⟩ ⟨x, v⟩ := by
    unfold part17
    rw [e51]
    omega
  have p18 : part18 ⟨j, u⟩ ⟨x, v⟩ := ⟨p17, c1, by rw [e51]; simp only; omega⟩
  refine ⟨fun h80 => ⟨⟨p16 h80, fun _ => p16 h80⟩, fun _ => p16 h80⟩, ⟨⟨p18, fun _ => p18⟩, fun _ => p18⟩, fun _ => p15, fun _ => ⟨⟨p17, p18.2, p18.2, rfl, p17.1, ?_⟩, ⟨_, _⟩, ⟨?_, .inl ?_, ?_⟩, ?_, rfl, (by and_intros <;> rfl)⟩⟩
  · show w85 _ _ < ((v.set _ _).length : Int)
    rw [List.length_set]
    exact p17.2
  · show 0 ≤ w85 ⟨j, u⟩ ⟨x, v⟩
    omega
  · show w85 ⟨j, u⟩ ⟨x, v⟩ < w41 ⟨j, u⟩
    rw [e41]; omega
  · show ((v.set _ _).set _ _).length = (w45 ⟨j, u⟩).length
    rw [List.length_set, List.length_set, l45]
    exact c3
  · show (w41 ⟨j, u⟩ - w85 ⟨j, u⟩ ⟨x, v⟩).toNat < (w41 ⟨j, u⟩ - x).toNat
    omega
end
end Go.Proofs.Ytdeoahhofhmgfaa.No.Nr
