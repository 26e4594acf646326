/- THE ABSTRACT MACHINE, 27: a call with plain arguments and a plain result leaves no trace. -/
import Derived.Test.YtdeoahhofhmgfaaAmFrm
set_option linter.unusedSimpArgs false
set_option linter.unusedVariables false
namespace Go.AM
open Go.RowKit

mutual
/-- It names no block of a run. -/
def AV.closed : AV → Bool
  | .ptr _ _ => false
  | .slc _ _ _ _ _ => false
  | .map _ => false
  | .yld _ => false
  | .eptr _ _ _ => false
  | .sw _ => false
  | .ss _ _ _ => false
  | .fn _ fs cs => closedL fs && closedL cs
  | .iface _ v => v.closed
  | .agg cs => closedL cs
  | .tup cs => closedL cs
  | _ => true
def closedL : List AV → Bool
  | [] => true
  | v :: vs => v.closed && closedL vs
end

mutual
theorem Rel.closed {ρ ρ' : Env} (h : FzLe ρ.fz ρ'.fz) : ∀ {v : AV} {x : Value}, v.closed = true → Rel ρ v x → Rel ρ' v x
  | .sI _ _, _, _, hr | .sB _, _, _, hr | .sS _, _, _, hr | .bool _, _, _, hr | .int _ _, _, _, hr | .str _, _, _, hr | .nilPtr, _, _, hr | .nilSlc, _, _, hr | .nilMap, _, _, hr | .nilFn, _, _, hr | .nilIface, _, _, hr | .emp, _, _, hr => by
    simp only [Rel] at *; exact hr
  | .ptr _ _, _, hc, hr | .slc _ _ _ _ _, _, hc, hr | .map _, _, hc, hr | .yld _, _, hc, hr | .eptr _ _ _, _, hc, hr | .sw _, _, hc, hr | .ss _ _ _, _, hc, hr => by
    simp [AV.closed] at hc
  | .dsl r rows, _, _, hr => by
    simp only [Rel] at *; exact hr.mono h
  | .dptr r row j, _, _, hr => by
    simp only [Rel] at *; obtain ⟨b, off, arr, ys, h1, h2, h3, h4⟩ := hr; exact ⟨b, off, arr, ys, h1, h _ _ h2, h3, h4.mono h⟩
  | .fn f fs cs, _, hc, hr => by
    simp only [AV.closed, Bool.and_eq_true] at hc
    simp only [Rel] at *; obtain ⟨fs', cs', hx, h1, h2⟩ := hr; exact ⟨fs', cs', hx, RelL.closed h hc.1 h1, RelL.closed h hc.2 h2⟩
  | .iface t v, _, hc, hr => by
    simp only [AV.closed] at hc
    simp only [Rel] at *; obtain ⟨y, hx, h1⟩ := hr; exact ⟨y, hx, Rel.closed h hc h1⟩
  | .agg cs, _, hc, hr => by
    simp only [AV.closed] at hc
    simp only [Rel] at *; obtain ⟨y, hx, h1⟩ := hr; exact ⟨y, hx, RelL.closed h hc h1⟩
  | .tup cs, _, hc, hr => by
    simp only [AV.closed] at hc
    simp only [Rel] at *; obtain ⟨y, hx, h1⟩ := hr; exact ⟨y, hx, RelL.closed h hc h1⟩
theorem RelL.closed {ρ ρ' : Env} (h : FzLe ρ.fz ρ'.fz) : ∀ {vs : List AV} {xs : List Value}, closedL vs = true → RelL ρ vs xs → RelL ρ' vs xs
  | [], _, _, hr => by simp only [RelL] at *; exact hr
  | v :: vs, _, hc, hr => by
    simp only [closedL, Bool.and_eq_true] at hc
    simp only [RelL] at *
    obtain ⟨y, ys, e, h1, h2⟩ := hr
    exact ⟨y, ys, e, Rel.closed h hc.1 h1, RelL.closed h hc.2 h2⟩
end

def H0 : Heap := { t := .nil, next := 0 }

section
variable {P : Program} {B : Nat} {f : FuncId} {args : List AV} {H : Heap}

theorem HR.bare {ρ : Env} {w : World} (h : HR B ρ H w) : HR B ⟨[], ρ.fz⟩ H0 w where
  next := rfl
  base := h.base
  bnd := fun b hb => by obtain ⟨e, he, _⟩ := hb; cases he
  obj := fun i o hi => by simp [H0, Heap.get] at hi
  inj := fun i j o o' e e' hi => by simp [H0, Heap.get] at hi
  fz := h.fz
  fzo := fun i o e c hi => by simp [H0, Heap.get] at hi

/-- What was proved at the empty heap holds at every heap. -/
theorem WF.pure {Q : AV → Heap → Prop} {Q' : AV → Prop} (h : WF P B f args H0 Q) (ha : closedL args = true) (hq : ∀ v H', Q v H' → Q' v ∧ v.closed = true) :
    WF P B f args H fun v H' => Q' v ∧ H' = H := by
  intro ρ w xs hr hx
  have hx0 : RelL ⟨[], ρ.fz⟩ args xs.toList := RelL.closed (ρ := ρ) (ρ' := ⟨[], ρ.fz⟩) (fun _ _ h => h) ha hx
  refine (h ⟨[], ρ.fz⟩ w xs hr.bare hx0).mono ?_
  rintro e w' ⟨v, x, H1, ρ1, he, hQ, hE, hR, hv⟩
  obtain ⟨hq1, hc⟩ := hq v H1 hQ
  have hno : ∀ k, ¬ (Env.mk [] ρ.fz).blk k := fun k hk => by obtain ⟨e, he, _⟩ := hk; cases he
  have same : ∀ k, k < w.heap.size → w'.heap[k]? = w.heap[k]? := fun k hk => hE.other k hk (hno k)
  have hobj : ∀ b, ρ.blk b → w'.heap[b]? = w.heap[b]? := fun b hb => same b (hr.bnd b hb)
  have hle : ρ.le ⟨ρ.ats, ρ1.fz⟩ := ⟨List.prefix_refl _, hE.pre.fz⟩
  refine ⟨v, x, H, ⟨ρ.ats, ρ1.fz⟩, he, ⟨hq1, rfl⟩, ⟨hle, hE.os, hE.tape, hE.output, hE.size, hE.below, fun k hk _ => same k hk, fun _ h => .inl h, fun b c hb => ?_⟩, ?_, ?_⟩
  · rcases hE.fzn b c hb with h | h | h
    · exact .inl h
    · exact absurd h (hno b)
    · exact .inr (.inr h)
  · exact {
      next := hr.next
      base := Nat.le_trans hr.base hE.size
      bnd := fun b hb => Nat.lt_of_lt_of_le (hr.bnd b hb) hE.size
      obj := fun i o hi => by
        obtain ⟨e, he, ho⟩ := hr.obj i o hi
        exact ⟨e, he, ho.mono hle fun hn => hobj _ ⟨e, List.mem_of_getElem? he, hn, rfl⟩⟩
      inj := hr.inj
      fz := hR.fz
      fzo := fun i o e c hi he hn hb => by
        rcases hE.fzn e.b c hb with h | h | h
        · exact hr.fzo i o e c hi he hn h
        · exact absurd h (hno _)
        · exact absurd (hr.bnd e.b ⟨e, List.mem_of_getElem? he, hn, rfl⟩) (Nat.not_lt.2 h) }
  · exact Rel.closed (ρ := ρ1) (ρ' := ⟨ρ.ats, ρ1.fz⟩) (fun _ _ h => h) hc hv

/-- What is known of the arguments' terms. -/
theorem WF.rng {Q : KF} (h : AllP (rngL args) → WF P B f args H Q) : WF P B f args H Q := fun ρ w xs hr hx => h (rngL_sound hx) ρ w xs hr hx

/-- A wrap, so that nothing is unfolded. -/
structure Owe (p : Prop) : Prop where
  h : p

theorem Owe.of {p q : Prop} (e : p = q) (h : p) : Owe q := ⟨e ▸ h⟩

theorem WF.owe {S : SumP} {L : LTab} {k : Nat} {Q : KF} (h : Owe (vTop P S L k f args H Q)) (hm : P.follows .mixedOrders = true) (hS : SumPOk P B S) : WF P B f args H Q :=
  WF.of_vc hm hS h.h

/-- The same value, told otherwise. -/
theorem WF.reval {Q Q' : AV → Heap → Prop} (h : WF P B f args H Q) (hq : ∀ v H' (ρ : Env) x, Q v H' → Rel ρ v x → ∃ v', Q' v' H' ∧ Rel ρ v' x) : WF P B f args H Q' :=
  fun ρ w xs h1 h2 => (h ρ w xs h1 h2).mono fun e w' ⟨v, x, H', ρ', g1, g2, g3, g4, g5⟩ => by
    obtain ⟨v', k1, k2⟩ := hq v H' ρ' x g2 g5
    exact ⟨v', x, H', ρ', g1, k1, g3, g4, k2⟩

/-- What a call hands back, if nothing is owed. -/
noncomputable def dRes (P : Program) (S : SumP) (k : Nat) (f : FuncId) (args : List AV) (H : Heap) : Option AV := match dF P S (dC P S k) f args H with
  | some (none, v, _) => some v
  | _ => none

theorem WF.of_dRes {S : SumP} {k : Nat} {v : AV} (h : dRes P S k f args H = some v) (hm : P.follows .mixedOrders = true) (hS : SumPOk P B S) : WF P B f args H fun v' _ => v' = v := by
  unfold dRes at h
  split at h
  · rename_i v' H' hd
    cases h
    exact ((dF_sound hS (dC_sound hm hS k) hd).w trivial).mono fun _ _ e => e.1
  · cases h

def isB (v : AV) (b : Bool) : Prop := match v with
  | .bool c => c = b
  | .sB c => c = b
  | _ => False

theorem isB_rel {v : AV} {b : Bool} (h : isB v b) {ρ : Env} {x : Value} (hr : Rel ρ v x) : Rel ρ (.sB b) x := by
  unfold isB at h
  split at h
  · simp only [Rel] at hr ⊢; rw [hr, h]
  · simp only [Rel] at hr ⊢; rw [hr, h]
  · exact h.elim

theorem isB_closed {v : AV} {b : Bool} (h : isB v b) : v.closed = true := by
  unfold isB at h
  split at h
  · rfl
  · rfl
  · exact h.elim

/-- A call with plain arguments that answers yes or no. -/
theorem WF.pureB {b : Bool} (h : WF P B f args H0 fun v _ => isB v b) (ha : closedL args = true) : WF P B f args H fun v H' => v = .sB b ∧ H' = H :=
  (h.pure (Q' := fun v => isB v b) ha fun v H' hv => ⟨hv, isB_closed hv⟩).reval fun v H' ρ x hv hr => ⟨.sB b, ⟨rfl, hv.2⟩, isB_rel hv.1 hr⟩

end
end Go.AM
