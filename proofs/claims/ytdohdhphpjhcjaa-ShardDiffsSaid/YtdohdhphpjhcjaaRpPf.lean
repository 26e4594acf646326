/- A part of the proofs about shards: what a report owes, in plain words. No condition. -/
import Derived.Test.YtdohdhphpjhcjaaRpVc
import Derived.Test.YtdohdhphpjhcjaaSiPf
namespace Go.Proofs.Ytdohdhphpjhcjaa.Sh.Rp
open Go.AM
noncomputable section
def invI (l : List Row) (s : I1) : Prop := 1 ≤ s.i ∧ (s.i ≤ l.length ∨ s.i = 1) ∧ (s.r = true ↔ ∀ j : Nat, 1 ≤ j → (j : Int) < s.i → ordR (rowR0 l (j - 1)) (rowR0 l j) < 0)
def invC (old0 l : List Row) (s : C1) : Prop := s.out ++ chg s.old s.l = chg old0 l ∧ s.out.length + s.old.length + s.l.length ≤ old0.length + l.length
def erI (a : Int) (m : Mp) (l : List Row) (e : Int) : Prop := (e = 5 ∧ (mget m a).isSome = false) ∨ (e = 2 ∧ (mget m a).isSome = true ∧ ¬ okRows l)
theorem eq7 (x y : Row) : (decide (x.1 = y.1) && decide (x.2.1 = y.2.1) && (decide (x.2.2.1 = y.2.2.1) && (decide (x.2.2.2.1 = y.2.2.2.1) && (decide (x.2.2.2.2.1 = y.2.2.2.2.1) && (decide (x.2.2.2.2.2.1 = y.2.2.2.2.2.1) && decide (x.2.2.2.2.2.2 = y.2.2.2.2.2.2)))))) = decide (x = y) := by
  rw [Bool.eq_iff_iff]
  constructor
  · intro h
    simp only [Bool.and_eq_true] at h
    obtain ⟨⟨h1, h2⟩, h3, h4, h5, h6, h7⟩ := h
    exact decide_eq_true (Prod.ext (of_decide_eq_true h1) (Prod.ext (of_decide_eq_true h2) (Prod.ext (of_decide_eq_true h3) (Prod.ext (of_decide_eq_true h4) (Prod.ext (of_decide_eq_true h5) (Prod.ext (of_decide_eq_true h6) (of_decide_eq_true h7)))))))
  · intro h
    have e := of_decide_eq_true h
    subst e
    simp only [decide_true, Bool.and_self]
theorem nB {b : Bool} (h : (!b) = true) : b = false := by cases b <;> simp_all
theorem row_cons (x : Row) (l : List Row) : rowR0 (x :: l) 0 = x := rfl
theorem step_ok (s : C1) (h : w18 s = true) : (w24 s = true → w26 s ++ chg (w29 s) (w30 s) = s.out ++ chg s.old s.l ∧ (w26 s).length = s.out.length + 1) ∧ (w24 s = false → chg (w29 s) (w30 s) = chg s.old s.l) ∧ (w29 s).length + (w30 s).length < w28 s ∧
    (w19 s = false → w17 s = true → part3 s) ∧ (w21 s = true → 0 < w15 s) ∧ (w21 s = false → 0 < w16 s) ∧ (w21 s = false → w22 s = false → 0 < w15 s) ∧ (w23 s = true → 0 < w15 s) := by
  obtain ⟨old, l, out⟩ := s
  match old, l with
  | [], [] => simp [w18, w17, w15, w16] at h
  | [], y :: l' =>
    have e20 : w20 ⟨[], y :: l', out⟩ = 1 := by simp [w20, w19, w15]
    have e21 : w21 ⟨[], y :: l', out⟩ = false := by simp [w21, e20]
    have e22 : w22 ⟨[], y :: l', out⟩ = true := by simp [w22, e20]
    have e23 : w23 ⟨[], y :: l', out⟩ = false := by simp [w23, e20]
    have e24 : w24 ⟨[], y :: l', out⟩ = true := by simp [w24, e22]
    have e29 : w29 ⟨[], y :: l', out⟩ = [] := by simp [w29, e23]
    have e30 : w30 ⟨[], y :: l', out⟩ = l' := by simp [w30, e21, pieceT]
    have e26 : w26 ⟨[], y :: l', out⟩ = out ++ [y] := by simp [w26, w25, e21, e22, row_cons]
    refine ⟨fun _ => ⟨?_, by rw [e26]; simp⟩, fun h => absurd (e24.symm.trans h) (by simp), by rw [e29, e30]; simp [w28], fun h => by simp [w19, w15] at h, fun h => absurd (e21.symm.trans h) (by simp), fun _ => by simp [w16], fun _ h => absurd (e22.symm.trans h) (by simp), fun h => absurd (e23.symm.trans h) (by simp)⟩
    rw [e26, e29, e30]
    conv => rhs; rw [chg]
    simp
  | x :: o', [] =>
    have e20 : w20 ⟨x :: o', [], out⟩ = -1 := by
      have e19 : w19 ⟨x :: o', [], out⟩ = false := by simp only [w19, w15, List.length_cons]; exact decide_eq_false (by omega)
      simp [w20, e19, w17, w16]
    have e21 : w21 ⟨x :: o', [], out⟩ = true := by simp [w21, e20]
    have e22 : w22 ⟨x :: o', [], out⟩ = false := by simp [w22, e20]
    have e23 : w23 ⟨x :: o', [], out⟩ = true := by simp [w23, e20]
    have e24 : w24 ⟨x :: o', [], out⟩ = true := by simp [w24, e21]
    have e29 : w29 ⟨x :: o', [], out⟩ = o' := by simp [w29, e23, pieceT]
    have e30 : w30 ⟨x :: o', [], out⟩ = [] := by simp [w30, e21]
    have e26 : w26 ⟨x :: o', [], out⟩ = out ++ [goneR x] := by simp [w26, w25, e21, row_cons, goneR]
    have p15 : 0 < w15 ⟨x :: o', [], out⟩ := by simp [w15]
    refine ⟨fun _ => ⟨?_, by rw [e26]; simp⟩, fun h => absurd (e24.symm.trans h) (by simp), by rw [e29, e30]; simp [w28], fun _ h => by simp [w17, w16] at h, fun _ => p15, fun h => absurd (e21.symm.trans h) (by simp), fun h => absurd (e21.symm.trans h) (by simp), fun _ => p15⟩
    rw [e26, e29, e30]
    conv => rhs; rw [chg]
    simp
  | x :: o', y :: l' =>
    have p15 : 0 < w15 ⟨x :: o', y :: l', out⟩ := by simp [w15]
    have p16 : 0 < w16 ⟨x :: o', y :: l', out⟩ := by simp [w16]
    have p3 : part3 ⟨x :: o', y :: l', out⟩ := ⟨⟨by omega, p15⟩, by omega, p16⟩
    have e17 : w17 ⟨x :: o', y :: l', out⟩ = true := by simp only [w17]; exact decide_eq_true p16
    have e19 : w19 ⟨x :: o', y :: l', out⟩ = false := by simp only [w19]; exact decide_eq_false (by omega)
    have e20 : w20 ⟨x :: o', y :: l', out⟩ = ordR x y := by simp only [w20, e17, e19]; rfl
    have tail : (w24 ⟨x :: o', y :: l', out⟩ = true → w26 ⟨x :: o', y :: l', out⟩ ++ chg (w29 ⟨x :: o', y :: l', out⟩) (w30 ⟨x :: o', y :: l', out⟩) = out ++ chg (x :: o') (y :: l') ∧ (w26 ⟨x :: o', y :: l', out⟩).length = out.length + 1) ∧ (w24 ⟨x :: o', y :: l', out⟩ = false → chg (w29 ⟨x :: o', y :: l', out⟩) (w30 ⟨x :: o', y :: l', out⟩) = chg (x :: o') (y :: l')) ∧ (w29 ⟨x :: o', y :: l', out⟩).length + (w30 ⟨x :: o', y :: l', out⟩).length < w28 ⟨x :: o', y :: l', out⟩ := by
      rw [chg]
      rcases Int.lt_trichotomy (ordR x y) 0 with ho | ho | ho
      · have e21 : w21 ⟨x :: o', y :: l', out⟩ = true := by simp [w21, e20, ho]
        have e23 : w23 ⟨x :: o', y :: l', out⟩ = true := by simp only [w23, e20]; exact decide_eq_true (by omega)
        have e24 : w24 ⟨x :: o', y :: l', out⟩ = true := by simp [w24, e21]
        have e29 : w29 ⟨x :: o', y :: l', out⟩ = o' := by simp [w29, e23, pieceT]
        have e30 : w30 ⟨x :: o', y :: l', out⟩ = y :: l' := by simp [w30, e21]
        have e26 : w26 ⟨x :: o', y :: l', out⟩ = out ++ [goneR x] := by simp [w26, w25, e21, row_cons, goneR]
        rw [e26, e29, e30, e24, if_pos ho]
        exact ⟨fun _ => ⟨by simp, by simp⟩, fun h => absurd h (by simp), by simp [w28]⟩
      · have e21 : w21 ⟨x :: o', y :: l', out⟩ = false := by simp [w21, e20, ho]
        have e22 : w22 ⟨x :: o', y :: l', out⟩ = false := by simp [w22, e20, ho]
        have e23 : w23 ⟨x :: o', y :: l', out⟩ = true := by simp only [w23, e20]; exact decide_eq_true (by omega)
        have e29 : w29 ⟨x :: o', y :: l', out⟩ = o' := by simp [w29, e23, pieceT]
        have e30 : w30 ⟨x :: o', y :: l', out⟩ = l' := by simp [w30, e21, pieceT]
        have e26 : w26 ⟨x :: o', y :: l', out⟩ = out ++ [y] := by simp [w26, w25, e21, e22, row_cons]
        have e24 : w24 ⟨x :: o', y :: l', out⟩ = !decide (x = y) := by
          simp only [w24, e21, e22, Bool.false_or, row_cons]
          exact congrArg (! ·) (eq7 x y)
        rw [e26, e29, e30, e24, if_neg (by omega), if_neg (by omega)]
        by_cases hxy : x = y
        · rw [if_pos hxy, decide_eq_true hxy]
          exact ⟨fun h => by simp at h, fun _ => rfl, by simp [w28]; omega⟩
        · rw [if_neg hxy, decide_eq_false hxy]
          exact ⟨fun _ => ⟨by simp, by simp⟩, fun h => by simp at h, by simp [w28]; omega⟩
      · have e21 : w21 ⟨x :: o', y :: l', out⟩ = false := by simp only [w21, e20]; exact decide_eq_false (by omega)
        have e22 : w22 ⟨x :: o', y :: l', out⟩ = true := by simp [w22, e20, ho]
        have e23 : w23 ⟨x :: o', y :: l', out⟩ = false := by simp only [w23, e20]; exact decide_eq_false (by omega)
        have e24 : w24 ⟨x :: o', y :: l', out⟩ = true := by simp [w24, e22]
        have e29 : w29 ⟨x :: o', y :: l', out⟩ = x :: o' := by simp [w29, e23]
        have e30 : w30 ⟨x :: o', y :: l', out⟩ = l' := by simp [w30, e21, pieceT]
        have e26 : w26 ⟨x :: o', y :: l', out⟩ = out ++ [y] := by simp [w26, w25, e21, e22, row_cons]
        rw [e26, e29, e30, e24, if_neg (by omega), if_pos ho]
        exact ⟨fun _ => ⟨by simp, by simp⟩, fun h => absurd h (by simp), by simp [w28]⟩
    exact ⟨tail.1, tail.2.1, tail.2.2, fun _ _ => p3, fun _ => p15, fun _ => p16, fun _ _ => p15, fun _ => p15⟩
theorem rp_ok {most a : Int} {l : List Row} {m : Mp} {bs : List Nat} {clk : Nat} (hl : l.length ≤ 1000000) (ho : (w4 a m).length ≤ 256) :
    owed most a l m bs clk (invI l) (invC (w4 a m) l) (erI a m l) ((mget m a).isSome = true ∧ okRows l) (chg (w4 a m) l) := by
  have p0 : part0 most m bs clk := ⟨by omega, rfl, rfl⟩
  have p1 : part1 most a l m bs clk := ⟨rfl, rfl, rfl, rfl, rfl, rfl, rfl, rfl, rfl, rfl⟩
  refine ⟨fun h => ⟨.inl ⟨rfl, by simpa [w1, w0] using h⟩, p0⟩, fun h => ?_⟩
  have his : (mget m a).isSome = true := by simpa [w1, w0] using h
  refine ⟨⟨1, true⟩, ⟨by simp, .inr rfl, by simp; intro j h1 h2; omega⟩, ⟨rfl, rfl, p1⟩, ?_⟩
  rintro ⟨i, r⟩ ⟨i1, i2, i3⟩ _ _ _ _ _ _ _ _ _
  simp only at i1 i2 i3
  have e9 : w9 ⟨i, r⟩ = i - 1 := w64b (by simp only; omega) (by simp only; omega)
  refine ⟨fun hlt => ?_, fun hge => ⟨fun hbad => ⟨.inr ⟨rfl, his, ?_⟩, p0⟩, fun hgood => ?_⟩⟩
  · have hlt : i < l.length := of_decide_eq_true hlt
    have e1 : IntKind.i64.wrap (i + 1) = i + 1 := w64b (by omega) (by omega)
    refine ⟨fun _ => ⟨⟨by rw [e9]; omega, by rw [e9]; simp only [w7]; omega⟩, by simp only; omega, by simp only [w7]; omega⟩, ⟨i + 1, r && decide (ordR (rowR0 l (i.toNat - 1)) (rowR0 l i.toNat) < 0)⟩, ⟨by simp only; omega, by simp only; omega, ?_⟩, by simp only [w10]; omega, ?_, e1, p1⟩
    · simp only [Bool.and_eq_true, decide_eq_true_eq, i3]
      constructor
      · rintro ⟨h1, h2⟩ j hj1 hj2
        by_cases hji : (j : Int) < i
        · exact h1 j hj1 hji
        · have : j = i.toNat := by omega
          rw [this]; exact h2
      · intro h1
        exact ⟨fun j hj1 hj2 => h1 j hj1 (by omega), h1 i.toNat (by omega) (by omega)⟩
    · have e11 : w11 ⟨i, r⟩ = i.toNat - 1 := by unfold w11; rw [e9]; omega
      rw [e11]; rfl
  · have hge : ¬ i < l.length := of_decide_eq_false (nB hge)
    rintro ⟨h1, h2⟩
    have hr : r = true := i3.2 fun j hj1 hj2 => h1 j hj1 (by omega)
    have hb : (!r || decide ((256 : Int) < w7 l)) = true := hbad
    rw [hr] at hb
    have : (256 : Int) < l.length := of_decide_eq_true hb
    omega
  · have hge : ¬ i < l.length := of_decide_eq_false (nB hge)
    have hb : (!(!r || decide ((256 : Int) < w7 l))) = true := hgood
    have hb2 : r = true ∧ ¬ (256 : Int) < l.length := by
      have hb := nB hb
      rw [Bool.or_eq_false_iff] at hb
      exact ⟨by simpa using hb.1, of_decide_eq_false hb.2⟩
    have hok : okRows l := ⟨fun j hj1 hj2 => i3.1 hb2.1 j hj1 (by omega), by omega⟩
    refine ⟨⟨w4 a m, l, []⟩, ⟨by simp, by simp⟩, ⟨rfl, rfl, rfl, rfl, rfl, rfl, rfl, rfl, rfl, rfl, rfl, rfl, rfl, rfl⟩, ?_⟩
    rintro s ⟨c1, c2⟩ _ _ _ _ _ _ _ _ _
    refine ⟨fun hn => ?_, fun hd => ?_⟩
    · obtain ⟨t1, t2, t3, t4, t5, t6, t7, t8⟩ := step_ok s hn
      refine ⟨t4, ⟨fun h => ⟨⟨by omega, t5 h⟩, by omega, t5 h⟩, fun h => ⟨⟨by omega, t6 h⟩, fun h2 => ⟨⟨by omega, t7 h h2⟩, by omega, t6 h⟩, by omega, t6 h⟩⟩, fun h => ⟨by omega, t8 h⟩, fun h => ?_, fun h => ?_⟩
      · obtain ⟨u1, u2⟩ := t1 h
        have t3' : (w29 s).length + (w30 s).length < s.old.length + s.l.length := t3
        refine ⟨by simp only [w27]; omega, ⟨w29 s, w30 s, w26 s⟩, ⟨by rw [← c1]; exact u1, by simp only; omega⟩, t3, rfl, rfl, rfl, rfl, rfl, rfl, rfl, rfl, rfl, rfl, rfl, rfl, rfl, rfl⟩
      · have t3' : (w29 s).length + (w30 s).length < s.old.length + s.l.length := t3
        exact ⟨⟨w29 s, w30 s, s.out⟩, ⟨by rw [← c1, ← t2 h], by simp only; omega⟩, t3, rfl, rfl, rfl, rfl, rfl, rfl, rfl, rfl, rfl, rfl, rfl, rfl, rfl, rfl⟩
    · have hz : s.old = [] ∧ s.l = [] := by
        have : w18 s = false := by simpa using hd
        have : ¬ (0 : Int) < s.old.length ∧ ¬ (0 : Int) < s.l.length := ⟨of_decide_eq_false (Bool.or_eq_false_iff.1 this).1, of_decide_eq_false (Bool.or_eq_false_iff.1 this).2⟩
        exact ⟨List.length_eq_zero_iff.1 (by omega), List.length_eq_zero_iff.1 (by omega)⟩
      have hout : s.out = chg (w4 a m) l := by
        rw [hz.1, hz.2, chg, List.append_nil] at c1
        exact c1
      refine ⟨fun j h0 => ?_, fun j _ => ?_⟩
      · have hl0 : l = [] := List.length_eq_zero_iff.1 h0
        subst hl0
        exact ⟨rfl, ⟨his, hok⟩, hout, by omega, by omega, rfl, rfl⟩
      · exact ⟨⟨by omega, by omega⟩, rfl, ⟨his, hok⟩, hout, by omega, by omega, rfl, rfl⟩
end
end Go.Proofs.Ytdohdhphpjhcjaa.Sh.Rp
