/- A part of the proof that 'reevelaw26.LeaseKeeps' returns true for every input. No condition. -/
import Derived.Test.YtdeoahhofhmgfaaLkVc
namespace Go.Proofs.Ytdeoahhofhmgfaa.LeaseKeeps
open Go.AM
theorem w64 {n : Int} (h1 : -9223372036854775808 ≤ n) (h2 : n ≤ 9223372036854775807) : IntKind.i64.wrap n = n := by
  simp only [IntKind.wrap, IntKind.bits, IntKind.signed, Bool.true_and, decide_eq_true_eq, Nat.reduceSub, Int.reducePow, ge_iff_le]
  split <;> omega
theorem and15 (x : Int) : 0 ≤ (((BitVec.ofInt 64 x &&& BitVec.ofInt 64 15).toNat : Nat) : Int) ∧ (((BitVec.ofInt 64 x &&& BitVec.ofInt 64 15).toNat : Nat) : Int) ≤ 15 := by
  refine ⟨by omega, ?_⟩
  have : (BitVec.ofInt 64 x &&& BitVec.ofInt 64 15).toNat ≤ 15 := by
    rw [BitVec.toNat_and]
    exact Nat.le_trans Nat.and_le_right (by decide)
  omega
def inv (length now : Int) (script : List stepR.den) (s : LK) : Prop :=
  s.gR = s.toR ∧ s.gN = s.toN ∧ s.gU = s.til ∧ 0 ≤ s.i ∧ s.i ≤ script.length ∧ now ≤ s.t ∧ s.t ≤ now + 15 * s.i ∧ s.til ≤ s.t + (length + 1) ∧ 0 ≤ s.til
theorem fin {length now : Int} {script : List stepR.den} {i t til gR gN gU toR toN : Int} {M : Nat} (h : inv length now script ⟨i, t, til, toR, toN, gR, gN, gU⟩) (h2 : script.length - i.toNat < M) :
    ∃ s' : LK, inv length now script s' ∧ script.length - s'.i.toNat < M ∧ True ∧ True ∧ t = s'.t ∧ til = s'.til ∧ i = s'.i ∧ True ∧ gR = s'.gR ∧ gN = s'.gN ∧ gU = s'.gU ∧ toR = s'.toR ∧ toN = s'.toN :=
  ⟨_, h, h2, trivial, trivial, rfl, rfl, rfl, trivial, rfl, rfl, rfl, rfl, rfl⟩
set_option maxHeartbeats 0 in
theorem owed_ok (length now : Int) (hl : IntKind.u16.has length) (hn : IntKind.u16.has now) (script : List stepR.den) : owed length now (length + 1) script (inv length now script) := by
  have hl' : 0 ≤ length ∧ length ≤ 65535 := by simpa [IntKind.has, IntKind.min, IntKind.max, IntKind.bits, IntKind.signed] using hl
  have hn' : 0 ≤ now ∧ now ≤ 65535 := by simpa [IntKind.has, IntKind.min, IntKind.max, IntKind.bits, IntKind.signed] using hn
  have e1 : IntKind.i64.wrap length = length := w64 (by omega) (by omega)
  have e2 : IntKind.i64.wrap (length + 1) = length + 1 := w64 (by omega) (by omega)
  have e3 : IntKind.i64.wrap now = now := w64 (by omega) (by omega)
  have e4 : IntKind.i64.wrap (now + (length + 1)) = now + (length + 1) := w64 (by omega) (by omega)
  unfold owed
  simp only [e1, e2, e3, e4]
  refine ⟨fun _ => by trivial, fun h300 => ⟨fun h => ?_, fun _ => ⟨fun h => ?_, fun _ => ⟨fun h => ?_, fun _ => ⟨⟨0, now, now + (length + 1), 0, 0, 0, 0, now + (length + 1)⟩, ?_, by simp, ?_⟩⟩⟩⟩⟩
  · simp only [decide_eq_true_eq] at h; omega
  · simp only [decide_eq_true_eq] at h; omega
  · simp [tmd] at h; omega
  · simp only [inv, true_and]; omega
  · intro (s : LK) hinv g1 g2 g3 g4 g5 g6 g7 g8 g9 g10 g11
    clear g1 g2 g3 g4 g5 g6 g7 g8 g9 g10 g11
    obtain ⟨i, t, til, toR, toN, gR, gN, gU⟩ := s
    simp only [inv] at hinv
    obtain ⟨h1, h2, h3, h4, h5, h6, h7, h8, h9⟩ := hinv
    simp only [decide_eq_false_iff_not] at h300
    dsimp only
    refine ⟨fun hi => ?_, fun _ => by trivial⟩
    simp only [decide_eq_true_eq] at hi
    have hm := and15 (xT script i)
    generalize ((BitVec.ofInt 64 (xT script i) &&& BitVec.ofInt 64 15).toNat : Int) = m at hm ⊢
    generalize xR script i = r at hm ⊢
    generalize xN script i = n at hm ⊢
    have f1 : IntKind.i64.wrap m = m := w64 (by omega) (by omega)
    have f2 : IntKind.i64.wrap (t + m) = t + m := w64 (by omega) (by omega)
    have f3 : IntKind.i64.wrap (t + m + (length + 1)) = t + m + (length + 1) := w64 (by omega) (by omega)
    have f4 : IntKind.i64.wrap (i + 1) = i + 1 := w64 (by omega) (by omega)
    have hti : tmd (t + m) = true := by simp only [tmd, Bool.and_eq_true, decide_eq_true_eq]; omega
    simp only [f1, f2, f3, f4, cond_true]
    clear f1 f2 f3 f4 e1 e2 e3 e4 hl hn
    simp only [Bool.true_beq, Bool.false_beq, Bool.not_not, Bool.not_eq_true', Bool.not_eq_false', Bool.and_eq_true, Bool.and_eq_false_imp, decide_eq_true_eq, decide_eq_false_iff_not, ne_eq, Decidable.not_not, Bool.false_eq_true, Bool.not_true, Bool.not_false]
    repeat' first
      | apply fin
      | apply And.intro
      | intro _
    all_goals first | trivial | omega | (exfalso; exact Bool.noConfusion (Eq.trans (Eq.symm ‹tmd (t + m) = false›) hti)) | (dsimp only; omega) | (exfalso; exact Bool.noConfusion (Eq.trans (Eq.symm ‹nmd r n = false›) ‹nmd r n = true›)) | (exfalso; exact ‹True → ¬True› trivial trivial)
end Go.Proofs.Ytdeoahhofhmgfaa.LeaseKeeps
