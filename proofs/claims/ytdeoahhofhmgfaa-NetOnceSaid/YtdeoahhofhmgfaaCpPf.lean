/- A part of the proofs about sorting numbers (uint64): a place in the midst. No condition. -/
import Derived.Test.YtdeoahhofhmgfaaCpVc
import Derived.Test.YtdeoahhofhmgfaaSzP
namespace Go.Proofs.Ytdeoahhofhmgfaa.Sz.Cp
open Go.AM
noncomputable section
variable {a b : Int} {rows : List Int}
/-- A place between the two. -/
def Pl (a b x : Int) : Prop := a ≤ x ∧ x < b
theorem bf {c : Bool} {x y : Int} (h1 : Pl a b x) (h2 : Pl a b y) : Pl a b (bif c then x else y) := by cases c <;> assumption
theorem bf2 {c : Bool} {x y : Int} (h1 : c = true → Pl a b x) (h2 : Pl a b y) : Pl a b (bif c then x else y) := by
  cases c
  · exact h2
  · exact h1 rfl
theorem cp_ok (h0 : 0 ≤ a) (h8 : a + 8 ≤ b) (hb : b ≤ rows.length) (hn : rows.length < 4611686018427387904) : owed a b rows (Pl a b) := by
  have e0 : w0 a b = b - a := w64b (by omega) (by omega)
  have e3 : w3 a b = (b - a) / 4 := by
    unfold w3
    rw [e0, Int.tdiv_eq_ediv_of_nonneg (by omega)]
    exact w64b (by omega) (by omega)
  have e4 : w4 a b = a + (b - a) / 4 := by
    unfold w4
    rw [e3, w64b (n := (b - a) / 4 * 1) (by omega) (by omega), w64b (by omega) (by omega)]
    omega
  have e19 : w19 a b = a + (b - a) / 4 * 2 := by
    unfold w19
    rw [e3, w64b (n := (b - a) / 4 * 2) (by omega) (by omega)]
    exact w64b (by omega) (by omega)
  have e33 : w33 a b = a + (b - a) / 4 * 3 := by
    unfold w33
    rw [e3, w64b (n := (b - a) / 4 * 3) (by omega) (by omega)]
    exact w64b (by omega) (by omega)
  have W : ∀ {x : Int}, Pl a b x → 0 ≤ x ∧ x < w5 rows := fun {x} ⟨h1, h2⟩ => ⟨by omega, show x < (rows.length : Int) by omega⟩
  have h1 : w1 a b = true := decide_eq_true (by rw [e0]; omega)
  have g4 : Pl a b (w4 a b) := by unfold Pl; omega
  have g19 : Pl a b (w19 a b) := by unfold Pl; omega
  have g33 : Pl a b (w33 a b) := by unfold Pl; omega
  have G : w2 a b = true → Pl a b (w6 a b) ∧ Pl a b (w7 a b) ∧ Pl a b (w20 a b) ∧ Pl a b (w21 a b) ∧ Pl a b (w34 a b) ∧ Pl a b (w35 a b) := fun h => by
    have h : (50 : Int) ≤ w0 a b := of_decide_eq_true h
    rw [e0] at h
    have f6 : w6 a b = w4 a b - 1 := w64b (by omega) (by omega)
    have f7 : w7 a b = w4 a b + 1 := w64b (by omega) (by omega)
    have f20 : w20 a b = w19 a b - 1 := w64b (by omega) (by omega)
    have f21 : w21 a b = w19 a b + 1 := w64b (by omega) (by omega)
    have f34 : w34 a b = w33 a b - 1 := w64b (by omega) (by omega)
    have f35 : w35 a b = w33 a b + 1 := w64b (by omega) (by omega)
    unfold Pl
    omega
  have g12 : w2 a b = true → Pl a b (w12 a b rows) := fun h => bf g4 (G h).1
  have g17 : w2 a b = true → Pl a b (w17 a b rows) := fun h => bf (g12 h) (G h).2.1
  have g18 : w2 a b = true → Pl a b (w18 a b rows) := fun h => bf (G h).1 g4
  have g26 : w2 a b = true → Pl a b (w26 a b rows) := fun h => bf g19 (G h).2.2.1
  have g31 : w2 a b = true → Pl a b (w31 a b rows) := fun h => bf (g26 h) (G h).2.2.2.1
  have g32 : w2 a b = true → Pl a b (w32 a b rows) := fun h => bf (G h).2.2.1 g19
  have g40 : w2 a b = true → Pl a b (w40 a b rows) := fun h => bf g33 (G h).2.2.2.2.1
  have g45 : w2 a b = true → Pl a b (w45 a b rows) := fun h => bf (g40 h) (G h).2.2.2.2.2
  have g46 : w2 a b = true → Pl a b (w46 a b rows) := fun h => bf (G h).2.2.2.2.1 g33
  have g51 : Pl a b (w51 a b rows) := bf2 (fun h => bf (g31 h) (g32 h)) g19
  have g56 : Pl a b (w56 a b rows) := bf2 (fun h => bf (g17 h) (g18 h)) g4
  have g61 : Pl a b (w61 a b rows) := bf2 (fun h => bf (g45 h) (g46 h)) g33
  have g66 : Pl a b (w66 a b rows) := bf g51 g56
  have g71 : Pl a b (w71 a b rows) := bf g66 g61
  have g72 : Pl a b (w72 a b rows) := bf g56 g51
  have g90 : Pl a b (w90 a b rows) := bf (bf g71 g72) g19
  have g92 : 0 ≤ w92 a b rows ∧ w92 a b rows ≤ 2 := by
    unfold w92
    cases w89 a b rows
    · cases w91 a b rows <;> simp
    · simp
  exact ⟨by decide, by decide, by decide, fun _ => ⟨fun h => ⟨⟨⟨W g4, W (G h).1⟩, ⟨W (G h).2.1, W (g12 h)⟩, W (g17 h), W (g18 h)⟩, ⟨⟨W g19, W (G h).2.2.1⟩, ⟨W (G h).2.2.2.1, W (g26 h)⟩, W (g31 h), W (g32 h)⟩, ⟨W g33, W (G h).2.2.2.2.1⟩, ⟨W (G h).2.2.2.2.2, W (g40 h)⟩, W (g45 h), W (g46 h)⟩, ⟨W g51, W g56⟩, ⟨W g61, W g66⟩, W g71, W g72⟩, bf g90 (bf g90 g90), g92.1, g92.2, rfl, by decide⟩
end
end Go.Proofs.Ytdeoahhofhmgfaa.Sz.Cp
