/- A part of the proofs about shards: the order of rows. No condition. -/
import Derived.Test.YtdohdhphpjhcjaaOrVc
import Derived.Test.YtdohdhphpjhcjaaMaSum
namespace Go.Proofs.Ytdohdhphpjhcjaa.Sh
open Go.AM
noncomputable section
/-- The order of two tasks. -/
def ordT (ja : List UInt8) (na : Int) (jb : List UInt8) (nb : Int) : Int :=
  bif ltB ja jb then -1 else bif decide (ja ≠ jb) then 1 else bif decide (na < nb) then -1 else bif decide (nb < na) then 1 else 0
open Odr in
theorem or_ok (ja jb : List UInt8) (na nb ga gb sa sb c1 c2 c3 d1 d2 d3 : Int) : Odr.owed ja jb na nb ga gb sa sb c1 c2 c3 d1 d2 d3 (ordT ja na jb nb) := by
  have e2 : w2 ja jb = bif ltB ja jb then -1 else bif decide (ja ≠ jb) then 1 else 0 := by
    simp only [w2, w0, w1, ne_eq, not_true_eq_false, decide_false, Bool.not_false, cond_true]
    cases ltB ja jb with
    | true => simp
    | false => by_cases h : ja = jb <;> simp [h]
  have e5 : w5 na nb = bif decide (na < nb) then -1 else bif decide (nb < na) then 1 else 0 := by
    simp only [w5, w4, w1, ne_eq, not_true_eq_false, decide_false, Bool.not_false, cond_true]
    by_cases h : na < nb
    · simp [h]
    · by_cases h2 : nb < na <;> simp [h, h2]
  have e3 : w3 ja jb = decide (w2 ja jb ≠ 0) := rfl
  have e6 : w6 na nb = decide (w5 na nb ≠ 0) := rfl
  refine ⟨rfl, rfl, fun h => ?_, fun h => ⟨fun h' => ?_, fun h' => ?_⟩⟩
  · rw [e3, e2] at h
    rw [e2]
    unfold ordT
    cases hl : ltB ja jb with
    | true => rfl
    | false =>
      rw [hl] at h
      cases hd : decide (ja ≠ jb) with
      | true => rfl
      | false => rw [hd] at h; simp at h
  all_goals
    have h2 : w2 ja jb = 0 := by
      have := nt h
      rw [e3] at this
      exact Classical.not_not.1 (of_decide_eq_false this)
    rw [e2] at h2
    unfold ordT
    cases hl : ltB ja jb with
    | true => rw [hl] at h2; simp at h2
    | false =>
      rw [hl] at h2
      cases hd : decide (ja ≠ jb) with
      | true => rw [hd] at h2; simp at h2
      | false =>
        simp only [cond_false]
        first
          | (rw [← e5]; done)
          | (have h5 : w5 na nb = 0 := by
               have := nt h'
               rw [e6] at this
               exact Classical.not_not.1 (of_decide_eq_false this)
             rw [← e5, h5])
theorem order_ok {B : Nat} {H : Heap} (ja jb : List UInt8) (na nb ga gb sa sb c1 c2 c3 d1 d2 d3 : Int) :
    WF Try.prog B 26 [.agg [.sS ja, .sI .i64 na, .sI .i64 ga, .sI .u8 sa, .sI .i64 c1, .sI .i64 c2, .sI .i64 c3], .agg [.sS jb, .sI .i64 nb, .sI .i64 gb, .sI .u8 sb, .sI .i64 d1, .sI .i64 d2, .sI .i64 d3]] H fun v H' => v = .sI .i64 (ordT ja na jb nb) ∧ H' = H := by
  have h := WF.owe (B := B) (Owe.of (Odr.owed_eq ja jb na nb ga gb sa sb c1 c2 c3 d1 d2 d3 (ordT ja na jb nb)) (or_ok ja jb na nb ga gb sa sb c1 c2 c3 d1 d2 d3)) mixed noS_ok
  have h2 := WF.reval h (Q' := fun v _ => v = .sI .i64 (ordT ja na jb nb)) fun v H' ρ x hv hr => by
    unfold Odr.isI at hv
    split at hv
    · rename_i m hm
      subst hv
      obtain ⟨rfl, hh⟩ := asX_sound hm hr
      exact ⟨_, rfl, by simp only [Rel]; exact ⟨trivial, hh⟩⟩
    · exact hv.elim
  exact h2.pure rfl fun v H' e => ⟨e, by rw [e]; rfl⟩
end
end Go.Proofs.Ytdohdhphpjhcjaa.Sh
