/- THE ABSTRACT MACHINE, 13b1: operations on terms are sound: numbers, strings, tests. -/
import Derived.Test.YtdeoahhofhmgfaaAmXd
set_option linter.unusedSimpArgs false
set_option linter.unusedVariables false
namespace Go.AM
open Go.RowKit

theorem wrap_has (k : IntKind) (n : Int) : k.has (k.wrap n) := by
  cases k <;> simp only [IntKind.has, IntKind.wrap, IntKind.min, IntKind.max, IntKind.bits, IntKind.signed] <;> simp <;> (try split) <;> omega

theorem tmod_has {k : IntKind} {a b : Int} (h : k.has a) (hb : k.has b) (h0 : b ≠ 0) : k.has (a.tmod b) := by
  have h1 : (a.tmod b).natAbs ≤ a.natAbs := by
    rw [Int.natAbs_tmod]; exact Nat.mod_le _ _
  have h2 : 0 ≤ a → 0 ≤ a.tmod b := fun h => Int.tmod_nonneg b h
  have h3 : a ≤ 0 → a.tmod b ≤ 0 := fun h => by
    have := Int.tmod_nonneg b (show 0 ≤ -a by omega)
    rw [Int.neg_tmod] at this; omega
  have key : ∀ lo hi : Int, lo ≤ 0 → 0 ≤ hi → lo ≤ a → a ≤ hi → lo ≤ a.tmod b ∧ a.tmod b ≤ hi := fun lo hi hlo hhi ha1 ha2 => by
    rcases Int.le_total 0 a with h | h
    · have := h2 h; omega
    · have := h3 h; omega
  cases k <;> simp only [IntKind.has, IntKind.min, IntKind.max, IntKind.bits, IntKind.signed] at h ⊢ <;> exact key _ _ (by decide) (by decide) h.1 h.2

theorem fdiv_has {k : IntKind} {a : Int} (h : k.has a) (n : Nat) : k.has (a.fdiv (2 ^ n)) := by
  have hp : (0 : Int) < 2 ^ n := Int.pow_pos (by decide)
  rw [Int.fdiv_eq_ediv_of_nonneg _ (Int.le_of_lt hp)]
  have key : ∀ lo hi : Int, lo ≤ 0 → 0 ≤ hi → lo ≤ a → a ≤ hi → lo ≤ a / 2 ^ n ∧ a / 2 ^ n ≤ hi := fun lo hi hlo hhi ha1 ha2 => by
    constructor
    · rw [Int.le_ediv_iff_mul_le hp]
      have : lo * 2 ^ n ≤ lo * 1 := Int.mul_le_mul_of_nonpos_left hlo (by omega)
      omega
    · rcases Int.le_total 0 a with h | h
      · exact Int.le_trans (Int.ediv_le_self _ h) ha2
      · have : a / 2 ^ n ≤ 0 := by
          have := Int.ediv_le_ediv hp h
          simpa using this
        omega
  cases k <;> simp only [IntKind.has, IntKind.min, IntKind.max, IntKind.bits, IntKind.signed] at h ⊢ <;> exact key _ _ (by decide) (by decide) h.1 h.2

section
variable {B : Nat} {ρ : Env} {H : Heap} {w : World} {P : Program}

theorem asX_sound {v : AV} {k : IntKind} {n : Int} (h : v.asX = some (k, n)) {x : Value} (hr : Rel ρ v x) : x = .int k n ∧ k.has n := by
  cases v <;> simp only [AV.asX] at h <;> try (cases h; done)
  · rename_i k' n'
    cases hb : hasB k' n' with
    | false => rw [hb] at h; cases h
    | true =>
      rw [hb] at h; cases h; simp only [Rel] at hr
      unfold hasB at hb
      simp only [Bool.and_eq_true, decide_eq_true_eq] at hb
      exact ⟨hr, hb⟩
  · cases h; simp only [Rel] at hr; exact hr

theorem asB_sound {v : AV} {b : Bool} (h : v.asB = some b) {x : Value} (hr : Rel ρ v x) : x = .bool b := by
  cases v <;> simp only [AV.asB] at h <;> try (cases h; done)
  all_goals (cases h; simp only [Rel] at hr; exact hr)

theorem asS_sound {v : AV} {s : List UInt8} (h : v.asS = some s) {x : Value} (hr : Rel ρ v x) : x = .string ⟨s.toArray⟩ ∧ s.length ≤ maxI := by
  cases v <;> simp only [AV.asS] at h <;> try (cases h; done)
  · rename_i s'
    cases hb : Nat.ble s'.length maxI with
    | false => rw [hb] at h; cases h
    | true => rw [hb] at h; cases h; simp only [Rel] at hr; exact ⟨hr, Nat.le_of_ble_eq_true hb⟩
  · cases h; simp only [Rel] at hr; exact hr

theorem sInt_sound {op : BinOp} {t : TypeId} {ox oy : Operand} {k k' : IntKind} {a b : Int} {p : Option Prop} {v : AV} (ha : k.has a) (hb : k'.has b) (h : sInt op k a k' b = some (p, v)) (hp : obOk p) :
    ∃ z, ((do eqGuard op t ox oy (.int k a) (.int k' b); binOp op t (.int k a) (.int k' b)) : Sem Value).run P w = .ok z w ∧ Rel ρ v z := by
  have hrun : ∀ z, (binOp op t (.int k a) (.int k' b)).run P w = .ok z w → ((do eqGuard op t ox oy (.int k a) (.int k' b); binOp op t (.int k a) (.int k' b)) : Sem Value).run P w = .ok z w := fun z hz => by
    simp [eqGuard_at_int, hz]
  unfold sInt at h
  split at h
  · cases h
    have hp : (0 : Int) ≤ b := hp
    refine ⟨_, hrun (.int k (k.wrap (a * 2 ^ (min b.toNat k.bits)))) ?_, by simp only [Rel]; exact ⟨trivial, wrap_has _ _⟩⟩
    simp only [binOp, Op.shift]; rw [if_neg (by omega)]; rfl
  · cases h
    have hp : (0 : Int) ≤ b := hp
    refine ⟨_, hrun (.int k (a.fdiv (2 ^ (min b.toNat k.bits)))) ?_, by simp only [Rel]; exact ⟨trivial, fdiv_has ha _⟩⟩
    simp only [binOp, Op.shift]; rw [if_neg (by omega)]; rfl
  · cases hk : decide (k = k') with
    | false => rw [hk] at h; cases h
    | true =>
      rw [hk, cond_true] at h
      obtain rfl := of_decide_eq_true hk
      split at h
      · cases h; exact ⟨.int k (k.wrap (a + b)), hrun _ (by simp [binOp, Op.intArith]), by simp only [Rel]; exact ⟨trivial, wrap_has _ _⟩⟩
      · cases h; exact ⟨.int k (k.wrap (a - b)), hrun _ (by simp [binOp, Op.intArith]), by simp only [Rel]; exact ⟨trivial, wrap_has _ _⟩⟩
      · cases h; exact ⟨.int k (k.wrap (a * b)), hrun _ (by simp [binOp, Op.intArith]), by simp only [Rel]; exact ⟨trivial, wrap_has _ _⟩⟩
      · cases h
        have hp : b ≠ 0 := hp
        exact ⟨.int k (k.wrap (a.tdiv b)), hrun _ (by simp [binOp, Op.intDiv, hp]), by simp only [Rel]; exact ⟨trivial, wrap_has _ _⟩⟩
      · cases h
        have hp : b ≠ 0 := hp
        exact ⟨.int k (a.tmod b), hrun _ (by simp [binOp, Op.intDiv, hp]), by simp only [Rel]; exact ⟨trivial, tmod_has ha hb hp⟩⟩
      · cases h; exact ⟨.int k (k.wrap ((BitVec.ofInt k.bits a &&& BitVec.ofInt k.bits b).toNat)), hrun _ (by simp only [binOp, Op.intBits, ne_eq, not_true_eq_false, if_false]; rfl), by simp only [Rel]; exact ⟨trivial, wrap_has _ _⟩⟩
      · cases h; exact ⟨.int k (k.wrap ((BitVec.ofInt k.bits a ||| BitVec.ofInt k.bits b).toNat)), hrun _ (by simp only [binOp, Op.intBits, ne_eq, not_true_eq_false, if_false]; rfl), by simp only [Rel]; exact ⟨trivial, wrap_has _ _⟩⟩
      · cases h; exact ⟨.int k (k.wrap ((BitVec.ofInt k.bits a ^^^ BitVec.ofInt k.bits b).toNat)), hrun _ (by simp only [binOp, Op.intBits, ne_eq, not_true_eq_false, if_false]; rfl), by simp only [Rel]; exact ⟨trivial, wrap_has _ _⟩⟩
      · cases h; exact ⟨.int k (k.wrap ((BitVec.ofInt k.bits a &&& ~~~BitVec.ofInt k.bits b).toNat)), hrun _ (by simp only [binOp, Op.intBits, ne_eq, not_true_eq_false, if_false]; rfl), by simp only [Rel]; exact ⟨trivial, wrap_has _ _⟩⟩
      · cases h; exact ⟨.bool (a == b), hrun _ (by simp [binOp, Op.intCmp]), by simp only [Rel]; exact congrArg Value.bool (by rw [Bool.eq_iff_iff]; simp)⟩
      · cases h; exact ⟨.bool (a != b), hrun _ (by simp [binOp, Op.intCmp]), by simp only [Rel] <;> (try (congr 1; rw [Bool.eq_iff_iff]; simp))⟩
      · cases h; exact ⟨.bool (decide (a < b)), hrun _ (by simp [binOp, Op.intCmp]), by simp only [Rel] <;> (try (congr 1; rw [Bool.eq_iff_iff]; simp))⟩
      · cases h; exact ⟨.bool (decide (a ≤ b)), hrun _ (by simp [binOp, Op.intCmp]), by simp only [Rel] <;> (try (congr 1; rw [Bool.eq_iff_iff]; simp))⟩
      · cases h; exact ⟨.bool (decide (a > b)), hrun _ (by simp [binOp, Op.intCmp]), by simp only [Rel] <;> (try (congr 1; rw [Bool.eq_iff_iff]; simp))⟩
      · cases h; exact ⟨.bool (decide (a ≥ b)), hrun _ (by simp [binOp, Op.intCmp]), by simp only [Rel] <;> (try (congr 1; rw [Bool.eq_iff_iff]; simp))⟩
      · cases h

theorem sStr_sound {op : BinOp} {t : TypeId} {ox oy : Operand} {a b : List UInt8} {p : Option Prop} {v : AV} (h : sStr op a b = some (p, v)) (hp : obOk p) :
    ∃ z, ((do eqGuard op t ox oy (.string ⟨a.toArray⟩) (.string ⟨b.toArray⟩); binOp op t (.string ⟨a.toArray⟩) (.string ⟨b.toArray⟩)) : Sem Value).run P w = .ok z w ∧ Rel ρ v z := by
  have hg : eqGuard op t ox oy (.string ⟨a.toArray⟩) (.string ⟨b.toArray⟩) = pure () := eqGuard_at_string ..
  have hbin : binOp op t (.string ⟨a.toArray⟩) (.string ⟨b.toArray⟩) = Op.stringOp op ⟨a.toArray⟩ ⟨b.toArray⟩ := by cases op <;> rfl
  have hs1 : (⟨a.toArray⟩ : ByteArray).size = a.length := by simp [ByteArray.size]
  have hs2 : (⟨b.toArray⟩ : ByteArray).size = b.length := by simp [ByteArray.size]
  have hd : decide (a = b) = (a == b) := by rw [Bool.eq_iff_iff]; simp
  rw [hg, hbin]
  unfold sStr at h
  split at h
  · cases h
    have hp : a.length + b.length ≤ maxI := hp
    refine ⟨.string ⟨(a ++ b).toArray⟩, ?_, by simp only [Rel]; exact ⟨trivial, by rw [List.length_append]; exact hp⟩⟩
    have hnot : ¬ (((⟨a.toArray⟩ : ByteArray).size + (⟨b.toArray⟩ : ByteArray).size : Nat) : Int) > IntKind.i64.max := by
      rw [hs1, hs2, IntKind.max_i64]; unfold maxI at hp; omega
    simp only [Op.stringOp, Sem.run_bind, Sem.run_pure, Result.andThen_ok]
    rw [if_neg hnot]
    simp only [Sem.run_pure]
    congr 2
  all_goals first
    | (cases h; done)
    | (cases h; refine ⟨_, by simp only [Op.stringOp, Sem.run_bind, Sem.run_pure, Result.andThen_ok]; rfl, ?_⟩; simp [Rel, hd, ltB_eq, ByteArray.toList_eq])

end
end Go.AM
