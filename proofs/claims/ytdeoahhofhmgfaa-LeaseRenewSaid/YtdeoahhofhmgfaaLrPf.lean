/- A part of the proof that 'reevelaw26.LeaseRenew' returns true for every input. No condition. -/
import Derived.Test.YtdeoahhofhmgfaaLrVc
namespace Go.Proofs.Ytdeoahhofhmgfaa.LeaseRenew
open Go.AM
theorem w64b {n : Int} (h1 : -9223372036854775808 ≤ n) (h2 : n ≤ 9223372036854775807) : IntKind.i64.wrap n = n := by
  simp only [IntKind.wrap, IntKind.bits, IntKind.signed, Bool.true_and, decide_eq_true_eq, Nat.reduceSub, Int.reducePow, ge_iff_le]
  split <;> omega
def inv (size : Int) (steps : List Int) (s : LS) : Prop :=
  1 ≤ s.i ∧ s.i ≤ steps.length ∧ 0 ≤ s.p ∧ s.p ≤ s.now ∧ s.now < s.u ∧ s.p + size ≤ s.u ∧ s.u ≤ s.now + size ∧ s.now ≤ (s.i + 1) * 65536
theorem rowB {steps : List Int} (h : (CTy.sl (RTy.one (CTy.int IntKind.u16))).Has steps) (i : Nat) : 0 ≤ rowS steps i ∧ rowS steps i ≤ 65535 := by
  simp only [CTy.Has] at h
  have key : 0 ≤ (steps[i]?).getD (0 : Int) ∧ (steps[i]?).getD (0 : Int) ≤ 65535 := by
    cases hi : steps[i]? with
    | none => simp
    | some x =>
      have := h.2 x (List.mem_of_getElem? hi)
      simp only [RTy.Has, CTy.Has, IntKind.has, IntKind.min, IntKind.max, IntKind.bits, IntKind.signed] at this
      simp only [Option.getD_some]
      simpa using this
  have e : rowS steps i = (steps[i]?).getD (0 : Int) := by
    show List.getD (α := Int) steps i 0 = _
    exact List.getD_eq_getElem?_getD ..
  rw [e]; exact key
theorem modB {x L : Int} (h0 : 0 ≤ x) (hL : 0 < L) : 0 ≤ x.tmod L ∧ x.tmod L < L := by
  rw [Int.tmod_eq_emod_of_nonneg h0]
  exact ⟨Int.emod_nonneg _ (by omega), Int.emod_lt_of_pos _ hL⟩
theorem tmdT {n : Int} (h1 : 0 ≤ n) (h2 : n ≤ 17592186044416) : (decide ((0 : Int) ≤ n) && decide (n ≤ (17592186044416 : Int))) = true := by
  simp only [decide_eq_true h1, decide_eq_true h2]; rfl

section
variable {length bound oR oN : Int} {steps : List Int}
set_option maxHeartbeats 0 in
theorem part1_ok (L : Int) (hL : 1 ≤ L) (hL2 : L ≤ 65536) (hlen : (steps.length : Int) ≤ 200) (hs : (CTy.sl (RTy.one (CTy.int IntKind.u16))).Has steps) (s : LS) (hi : inv L steps s) : part1 bound oR oN L steps (inv L steps) s := by
  obtain ⟨h1, h2, h3, h4, h5, h6, h7, h8⟩ := hi
  have hnow : s.now ≤ 13172736 := by omega
  have t1 : w42 s = true := by simp only [w42, tmdT (show 0 ≤ s.now by omega) (show s.now ≤ 17592186044416 by omega)]; rfl
  have e43 : w44 s = 0 := by simp only [w44, t1, cond_true]
  have e44 : w45 s = false := by simp only [w45, e43]; decide
  have e46 : w47 s = s.now := by simp only [w47, w43, t1, e44, Bool.not_true, cond_false, cond_true]; omega
  have e51 : w52 L s = s.now + L := by simp only [w52]; exact w64b (by omega) (by omega)
  unfold part1
  refine ⟨fun _ => rfl, fun hne => ?_⟩
  have hlt : s.i < steps.length := by
    have : ¬ (s.i = steps.length) := fun h => by rw [show w57 steps s = true from decide_eq_true h] at hne; cases hne
    omega
  obtain ⟨r1, r2⟩ := rowB hs s.i.toNat
  have er : IntKind.i64.wrap (rowS steps s.i.toNat) = rowS steps s.i.toNat := w64b (by omega) (by omega)
  obtain ⟨m1, m2⟩ := modB r1 (show 0 < L by omega)
  obtain ⟨d, hd⟩ : ∃ d, (rowS steps s.i.toNat).tmod L = d := ⟨_, rfl⟩
  rw [hd] at m1 m2
  have e57 : w58 L steps s = s.now + d := by simp only [w58, er, hd]; exact w64b (by omega) (by omega)
  have e59 : w60 L s = s.now + L := by simp only [w60, t1, cond_true, e51]; omega
  have e60 : w61 oR oN L steps s = false := by simp only [w61, e59, e57]; rw [decide_eq_false (by omega)]; simp
  have e61 : w62 L s = L := by simp only [w62, t1, cond_true]
  have e62 : w63 L steps s = s.now + d + L := by simp only [w63, e57, e61]; exact w64b (by omega) (by omega)
  have e63 : w64 oR oN L steps s = (w59 oR oN L steps s && w37 oR oN) := by simp only [w64, e60, Bool.false_or]
  have e64 : w65 oR oN L steps s = false := by
    simp only [w65, e63]
    cases w59 oR oN L steps s <;> cases w37 oR oN <;> decide
  have e65 : w66 oR oN L steps s = false := by
    simp only [w66, e64, e63, w38, Bool.or_false]
    cases w59 oR oN L steps s <;> cases w37 oR oN <;> decide
  have ei : IntKind.i64.wrap (s.i + 1) = s.i + 1 := w64b (by omega) (by omega)
  refine ⟨⟨⟨by omega, hlt⟩, by omega⟩, fun _ _ => ⟨rfl, rfl⟩, fun h => by rw [e65] at h; exact Bool.noConfusion h, fun _ => ?_⟩
  refine ⟨⟨s.i + 1, s.now + d, s.now, bif w59 oR oN L steps s then bif w37 oR oN then s.now + d + L else s.now + L else s.now + L⟩, ?_, ?_, rfl, rfl, e57, ei, rfl, rfl, rfl, ?_, ?_, ?_, ?_, rfl, rfl, e46⟩
  · simp only [inv]
    refine ⟨by omega, by omega, by omega, by omega, ?_, ?_, ?_, by omega⟩ <;> (cases w59 oR oN L steps s <;> cases w37 oR oN <;> simp only [cond_true, cond_false] <;> omega)
  · simp only [w67]; omega
  · rw [e61, e60]; cases w59 oR oN L steps s <;> cases w37 oR oN <;> rfl
  · rw [e60]; cases w59 oR oN L steps s <;> rfl
  · rw [e60]; cases w59 oR oN L steps s <;> rfl
  · rw [e60, e59, e62]; cases w59 oR oN L steps s <;> cases w37 oR oN <;> simp only [cond_true, cond_false]; omega
end
section
variable {length bound oR oN : Int} {steps : List Int}
set_option maxHeartbeats 0 in
theorem owed_ok (hl : IntKind.u16.has length) (hb : IntKind.u16.has bound) (hs : (CTy.sl (RTy.one (CTy.int IntKind.u16))).Has steps) :
    owed length bound oR oN (length + 1) steps (inv (length + 1) steps) := by
  have hl' : 0 ≤ length ∧ length ≤ 65535 := by simpa [IntKind.has, IntKind.min, IntKind.max, IntKind.bits, IntKind.signed] using hl
  have hb' : 0 ≤ bound ∧ bound ≤ 65535 := by simpa [IntKind.has, IntKind.min, IntKind.max, IntKind.bits, IntKind.signed] using hb
  have e0 : IntKind.i64.wrap length = length := w64b (by omega) (by omega)
  have eb : IntKind.i64.wrap bound = bound := w64b (by omega) (by omega)
  have e2 : w2 length = length + 1 := by simp only [w2, e0]; exact w64b (by omega) (by omega)
  have e3 : w3 length = false := by simp only [w3, e2]; exact decide_eq_false (by omega)
  have e4 : w4 length = false := by simp only [w4, e2]; exact decide_eq_false (by omega)
  have e5 : w5 length = false := by simp only [w5, e3, e4, Bool.or_false]
  have e6 : w6 length bound = false := by simp only [w6, e3, e4, Bool.false_or, eb]; rw [decide_eq_false (by omega), decide_eq_false (by omega)]; rfl
  have t2 := tmdT (n := length + 1) (by omega) (by omega)
  have e8 : w8 length = false := by simp only [w8, e2, t2, Bool.not_true]
  have e9 : w9 length = true := by simp only [w9, e8, Bool.not_false]
  have e10 : w10 length = length + 1 := by simp only [w10, e2]; rw [w64b (by omega) (by omega)]; omega
  have e11 : w11 length = true := by simp only [w11, e10, e2, Bool.not_not]; exact decide_eq_true (by omega)
  have e12 : w12 length = 2 * (length + 1) := by simp only [w12, e2]; rw [w64b (by omega) (by omega)]; omega
  have e13 : w13 length = false := by simp only [w13, e9, e11]; rfl
  have e14 : w14 length = false := by simp only [w14, e9, cond_true]; decide
  have e15 : w15 length = length + 1 := by simp only [w15, e2]; omega
  have e16 : w16 bound = 2 * bound := by simp only [w16, eb]; exact w64b (by omega) (by omega)
  have e53 : IntKind.i64.wrap (2 * bound) = 2 * bound := w64b (by omega) (by omega)
  have e17 : w17 length bound = 2 * (length + 1) - 2 * bound := by simp only [w17, e15, e2, e16]; rw [w64b (n := length + 1 + (length + 1)) (by omega) (by omega), w64b (by omega) (by omega)]; omega
  have e18 : w18 length bound = length + 1 - 2 * bound := by simp only [w18, e2, e16]; exact w64b (by omega) (by omega)
  have e20 : w20 length bound = false := by
    simp only [w20, w19, e2, e17, e18]
    by_cases h : 0 < length + 1 - 2 * bound
    · rw [decide_eq_true h, decide_eq_true (by omega)]; rfl
    · rw [decide_eq_false h, decide_eq_false (by omega)]; rfl
  have e21 : w21 length bound = false := by simp only [w21, e12, e17]; exact decide_eq_false (by omega)
  have e22 : w22 length bound = 2 * (length + 1) - 2 * bound := by simp only [w22, e2, e18]; rw [w64b (n := length + 1 + (length + 1 - 2 * bound)) (by omega) (by omega)]; omega
  have e23 : w23 length bound = false := by simp only [w23, e22, e17]; rw [w64b (by omega) (by omega), decide_eq_true (by omega)]; rfl
  have e24 : w24 length bound = false := by simp only [w24, e22, e17]; exact decide_eq_false (by omega)
  have rest : (steps.length : Int) ≤ 200 → part2 length bound oR oN (length + 1) steps (inv (length + 1) steps) := by
    intro hlen
    unfold part2
    refine ⟨fun _ => rfl, fun h25 => ?_⟩
    have hpos : 0 < (steps.length : Int) := by
      have : ¬ ((0 : Int) = steps.length) := fun h => by rw [show w25 steps = true from decide_eq_true h] at h25; cases h25
      omega
    obtain ⟨r1, r2⟩ := rowB hs 0
    have er : IntKind.i64.wrap (rowS steps 0) = rowS steps 0 := w64b (by omega) (by omega)
    obtain ⟨m1, m2⟩ := modB r1 (show 0 < length + 1 by omega)
    obtain ⟨d, hd⟩ : ∃ d, (rowS steps 0).tmod (length + 1) = d := ⟨_, rfl⟩
    rw [hd] at m1 m2
    have e26 : w27 length steps = length + 1 + d := by simp only [w27, er, e2, hd]; exact w64b (by omega) (by omega)
    have e28 : w29 length = 1099511627776 := by simp only [w29, e9, e11, cond_true]
    have e29 : w30 length = 3 := by simp only [w30, e9, e11, cond_true]
    have e30 : w31 length oR oN = w37 oR oN := by simp only [w31, e28, e29, w37]
    have e31 : w32 length = 2 * (length + 1) := by simp only [w32, e9, e11, cond_true, e12]
    have e32 : w33 length oR oN steps = false := by simp only [w33, e31, e26]; rw [decide_eq_false (by omega)]; simp
    have e33 : w34 length = length + 1 := by simp only [w34, e9, e11, cond_true, e2]
    have e34 : w35 length steps = length + 1 + d + (length + 1) := by simp only [w35, e26, e33]; exact w64b (by omega) (by omega)
    have e35 : w36 length oR oN steps = (w28 length oR oN steps && w37 oR oN) := by simp only [w36, e32, e30, Bool.false_or]
    have e38 : w39 length oR oN steps = false := by
      simp only [w39, e35]
      cases w28 length oR oN steps <;> cases w37 oR oN <;> decide
    have e39 : w40 length oR oN steps = false := by
      simp only [w40, e38, e35, w38, Bool.or_false]
      cases w28 length oR oN steps <;> cases w37 oR oN <;> decide
    refine ⟨⟨⟨by omega, show (0 : Int) < steps.length from hpos⟩, by rw [e2]; omega⟩, fun _ _ => ⟨rfl, rfl⟩, fun h => by rw [e39] at h; exact Bool.noConfusion h, fun _ => ⟨⟨1, length + 1 + d, length + 1, bif w28 length oR oN steps then bif w37 oR oN then length + 1 + d + (length + 1) else 2 * (length + 1) else 2 * (length + 1)⟩, ?_, ⟨rfl, e2, e26, rfl, rfl, rfl, rfl, ?_, ?_, ?_, ?_, e2, eb, e15⟩, ?_⟩⟩
    · simp only [inv]
      refine ⟨by omega, by omega, by omega, by omega, ?_, ?_, ?_, by omega⟩ <;> (cases w28 length oR oN steps <;> cases w37 oR oN <;> simp only [cond_true, cond_false] <;> omega)
    · rw [e32, e33]; cases w28 length oR oN steps <;> cases w31 length oR oN <;> rfl
    · rw [e32, e28]; cases w28 length oR oN steps <;> cases w31 length oR oN <;> rfl
    · rw [e32, e29]; cases w28 length oR oN steps <;> cases w31 length oR oN <;> rfl
    · rw [e32, e31, e34, e30]; cases w28 length oR oN steps <;> cases w37 oR oN <;> simp only [cond_true, cond_false]; omega
    · intro s hinv _ _ _ _ _ _ _ _ _ _ _
      have P1 := part1_ok (bound := bound) (oR := oR) (oN := oN) (length + 1) (by omega) (by omega) hlen hs s hinv
      obtain ⟨h1, h2, h3, h4, h5, h6, h7, h8⟩ := hinv
      have hnow : s.now ≤ 13172736 := by omega
      have t1 : w42 s = true := by simp only [w42, tmdT (show 0 ≤ s.now by omega) (show s.now ≤ 17592186044416 by omega)]; rfl
      have f43 : w44 s = 0 := by simp only [w44, t1, cond_true]
      have f44 : w45 s = false := by simp only [w45, f43]; decide
      have f45 : w46 s = false := by simp only [w46, w43, t1, f44, f43]; decide
      have f46 : w47 s = s.now := by simp only [w47, w43, t1, f44, Bool.not_true, cond_false, cond_true]; omega
      have f47 : w48 bound (length + 1) s = s.now + (length + 1) - 2 * bound := by simp only [w48, f46, e53]; rw [w64b (n := s.now + (length + 1)) (by omega) (by omega), w64b (by omega) (by omega)]
      have f48 : w49 bound (length + 1) = length + 1 - 2 * bound := by simp only [w49, e16]; exact w64b (by omega) (by omega)
      have f50 : w51 bound (length + 1) s = false := by
        simp only [w51, w50, f47, f48]
        by_cases h : 0 < length + 1 - 2 * bound
        · rw [decide_eq_true h, decide_eq_true (by omega)]; rfl
        · rw [decide_eq_false h, decide_eq_false (by omega)]; rfl
      have f51 : w52 (length + 1) s = s.now + (length + 1) := by simp only [w52]; exact w64b (by omega) (by omega)
      have f52 : w53 bound (length + 1) s = false := by simp only [w53, f51, f47]; exact decide_eq_false (by omega)
      have f53 : w54 bound (length + 1) s = s.now + (length + 1) - 2 * bound := by simp only [w54, f48]; rw [w64b (by omega) (by omega)]; omega
      have f54 : w55 bound (length + 1) s = false := by simp only [w55, f53, f47]; rw [w64b (by omega) (by omega), decide_eq_true (by omega)]; rfl
      have f55 : w56 bound (length + 1) s = false := by simp only [w56, f53, f47]; exact decide_eq_false (by omega)
      exact ⟨fun _ => ⟨fun h => by rw [f45] at h; exact Bool.noConfusion h, fun _ => ⟨fun h => by rw [f50] at h; exact Bool.noConfusion h, fun _ => ⟨fun h => by rw [f52] at h; exact Bool.noConfusion h, fun _ =>
        ⟨fun _ => ⟨fun h => by rw [f54] at h; exact Bool.noConfusion h, fun _ => ⟨fun h => by rw [f55] at h; exact Bool.noConfusion h, fun _ => P1⟩⟩, fun _ => P1⟩⟩⟩⟩, fun _ => rfl⟩
  have p0 : part0 length bound := fun h => by rw [e6] at h; cases h
  unfold owed
  refine ⟨fun _ => rfl, fun h200 => ?_⟩
  have hlen : (steps.length : Int) ≤ 200 := by
    have : ¬ ((200 : Int) < steps.length) := fun h => by rw [show w1 steps = true from decide_eq_true h] at h200; cases h200
    omega
  refine ⟨fun h => by rw [e5] at h; exact Bool.noConfusion h, fun _ => ⟨p0, fun _ => ⟨fun _ => ⟨fun _ _ => ⟨rfl, rfl⟩, fun h => by rw [e13] at h; exact Bool.noConfusion h, fun _ =>
    ⟨fun h => by rw [e14] at h; exact Bool.noConfusion h, fun _ => ⟨fun h => by rw [e8] at h; exact Bool.noConfusion h, fun _ => ⟨fun h => by rw [e20] at h; exact Bool.noConfusion h, fun _ => ⟨fun h => by rw [e21] at h; exact Bool.noConfusion h, fun _ =>
    ⟨fun _ => ⟨fun h => by rw [e23] at h; exact Bool.noConfusion h, fun _ => ⟨fun h => by rw [e24] at h; exact Bool.noConfusion h, fun _ => rest hlen⟩⟩, fun _ => rest hlen⟩⟩⟩⟩⟩⟩, fun h => by cases h⟩⟩⟩
end
end Go.Proofs.Ytdeoahhofhmgfaa.LeaseRenew
