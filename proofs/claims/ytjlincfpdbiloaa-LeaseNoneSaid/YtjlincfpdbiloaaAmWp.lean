/- THE ABSTRACT MACHINE, 14: what code does, said of the machine alone; rules for straight code, branches, loops, regions in the text's order, calls. -/
import Derived.Test.YtjlincfpdbiloaaAmSnd10
import Derived.OrdersIn
import Derived.RangeFuncLeaves
set_option linter.unusedSimpArgs false
set_option linter.unusedVariables false
namespace Go.AM
open Go.RowKit

/-- A fence that fences nothing, of a function's frame or of a round's. -/
def F0 (r : Option Nat) : Fence := { fn := fun _ => True, depth := none, alive := false, round := r }

theorem room0 (r : Option Nat) (n : Nat) : (F0 r).room n := fun _ h => by simp [F0] at h
theorem fenced0 (P : Program) (r : Option Nat) (m : Machine) : m.fenced P (F0 r) := by
  intro g _
  refine ⟨fun h => ?_, .inl trivial, fun _ _ => trivial, room0 r _⟩
  simp [F0] at h
theorem steps0 {P : Program} {r : Option Nat} {m m' : Machine} : StepsIn (Machine.fenced P (F0 r)) P m m' ↔ Steps P m m' :=
  ⟨StepsIn.steps, fun h => (StepsIn.of_steps h).mono fun m _ => fenced0 P r m⟩

theorem calls0 {P : Program} {r : Option Nat} {k : Nat} {f : FuncId} {args : Array Value} {w : World} {R : Ending → World → Prop} (h : Calls P f args w R) : CallsIn (F0 r) k P f args w R :=
  ⟨trivial, fun cs _ => by
    obtain ⟨e, w', fr, h1, h2, h3, h4⟩ := h cs
    refine ⟨e, w', fr, h1, ?_, h3, h4⟩
    cases e with
    | returned v => exact steps0.2 h2
    | panicked c => exact steps0.2 h2
    | outgrown => exact h2⟩

theorem calls_of0 {P : Program} {f : FuncId} {args : Array Value} {w : World} {R : Ending → World → Prop} (h : CallsIn (F0 none) 0 P f args w R) : Calls P f args w R :=
  fun cs => by
    obtain ⟨e, w', fr, h1, h2, h3, h4⟩ := h.2 cs (room0 none _)
    refine ⟨e, w', fr, h1, ?_, h3, h4⟩
    cases e with
    | returned v => exact steps0.1 h2
    | panicked c => exact steps0.1 h2
    | outgrown => exact h2

/-- The ways out of code. -/
inductive XT where
  | nor
  | ex (id : Nat)
  | ret

def XT.out : XT → Exit
  | .nor => .normal
  | .ex id => .exit id
  | .ret => .ret

abbrev Post := XT → Fr → Heap → Prop

def markOf (b : Nat) : Deferred := { target := .collected b, args := #[] }

/-- The marks of a frame's loops over functions. -/
def Marks (M : Nat) (ρ : List At) (w : World) (ds : List Deferred) : Prop :=
  M ≤ w.heap.size ∧ ∃ bs : List Nat, ds = bs.map markOf ∧ bs.Nodup ∧ ∀ b ∈ bs, w.heap[b]? = some (.deferred (some [])) ∧ M ≤ b ∧ ∀ e ∈ ρ, e.b ≠ b

theorem Marks.nil {M : Nat} (ρ : List At) {w : World} (h : M ≤ w.heap.size) : Marks M ρ w [] := ⟨h, [], rfl, List.nodup_nil, fun b hb => by cases hb⟩

theorem Marks.ext {B M : Nat} {ρ ρ' : List At} {w w' : World} {ds : List Deferred} (h : Marks M ρ w ds) (e : Ext B ρ w ρ' w') : Marks M ρ' w' ds := by
  obtain ⟨h0, bs, h1, h2, h3⟩ := h
  refine ⟨Nat.le_trans h0 e.size, bs, h1, h2, fun b hb => ?_⟩
  obtain ⟨g1, g2, g3⟩ := h3 b hb
  have hlt : b < w.heap.size := (Array.getElem?_eq_some_iff.1 g1).1
  refine ⟨(e.other b hlt g3).trans g1, g2, fun e' he' hbb => ?_⟩
  rcases e.new e' he' with ⟨e2, he2, hee⟩ | hge
  · exact g3 e2 he2 (hee.trans hbb)
  · omega

def After (B : Nat) (n M : Nat) (ρ : List At) (w : World) (Q : Post) : Exit → Act → World → Prop := fun e a' w' =>
  ∃ x fr' H' ρ', e = x.out ∧ Q x fr' H' ∧ Ext B ρ w ρ' w' ∧ HR B ρ' H' w' ∧ FRel ρ' fr' a'.tmps ∧ a'.tmps.size = n ∧ Marks M ρ' w' a'.defers

theorem After.ext {B n M : Nat} {ρ ρ1 : List At} {w w1 : World} {Q : Post} {e : Exit} {a : Act} {w' : World} (h : Ext B ρ w ρ1 w1) (k : After B n M ρ1 w1 Q e a w') : After B n M ρ w Q e a w' := by
  obtain ⟨x, fr', H', ρ', h1, h2, h3, h4⟩ := k
  exact ⟨x, fr', H', ρ', h1, h2, h.trans h3, h4⟩

section
variable (P : Program) (B : Nat)

/-- Code, from a frame and a heap of the machine's. -/
def WC (r : Option Nat) (n : Nat) (c : Code) (fr : Fr) (H : Heap) (Q : Post) : Prop :=
  ∀ (M : Nat) (ρ : List At) (w : World) (a : Act), HR B ρ H w → FRel ρ fr a.tmps → a.tmps.size = n → Marks M ρ w a.defers → c.wpIn (F0 r) 0 P (After B n M ρ w Q) a w

/-- A loop that has begun. -/
def WL (r : Option Nat) (n : Nat) (c : Code) (fr : Fr) (H : Heap) (Q : Post) : Prop :=
  ∀ (M : Nat) (ρ : List At) (w : World) (a : Act), HR B ρ H w → FRel ρ fr a.tmps → a.tmps.size = n → Marks M ρ w a.defers →
    ∀ (b : Frame) (k : List Item) (cs : List Frame), b.roundOf = r →
      ∃ e a' w', After B n M ρ w Q e a' w' ∧ ArrivesIn (Machine.fenced P (F0 r)) P (lone (b.atR a (.inLoop c :: k)) cs w) b k cs e a' w'

/-- A call. -/
def WF (f : FuncId) (args : List AV) (H : Heap) (Q : AV → Heap → Prop) : Prop :=
  ∀ (ρ : List At) (w : World) (xs : Array Value), HR B ρ H w → RelL ρ args xs.toList →
    Calls P f xs w fun e w' => ∃ v x H' ρ', e = .returned x ∧ Q v H' ∧ Ext B ρ w ρ' w' ∧ HR B ρ' H' w' ∧ Rel ρ' v x

/-- Operations of a region, one behind the other. -/
def WO (r : Option Nat) (n : Nat) (ops : Array Oper) (l : List Nat) (fr : Fr) (H : Heap) (Q : Fr → Heap → Prop) : Prop :=
  ∀ (M : Nat) (ρ : List At) (w : World) (a : Act), HR B ρ H w → FRel ρ fr a.tmps → a.tmps.size = n → Marks M ρ w a.defers →
    wpOpsIn (F0 r) 0 P ops (After B n M ρ w fun x fr' H' => x = .nor ∧ Q fr' H') l a w
end

section
variable {P : Program} {B : Nat} {r : Option Nat} {n : Nat} {fr : Fr} {H : Heap} {Q : Post}

theorem WC.mono {c : Code} {Q' : Post} (h : WC P B r n c fr H Q) (hq : ∀ x fr H, Q x fr H → Q' x fr H) : WC P B r n c fr H Q' :=
  fun M ρ w a h1 h2 h3 h4 => wpIn_mono (h M ρ w a h1 h2 h3 h4) fun e a' w' ⟨x, fr', H', ρ', g1, g2, g3⟩ => ⟨x, fr', H', ρ', g1, hq _ _ _ g2, g3⟩

theorem WF.mono {f : FuncId} {args : List AV} {Q Q' : AV → Heap → Prop} (h : WF P B f args H Q) (hq : ∀ v H, Q v H → Q' v H) : WF P B f args H Q' :=
  fun ρ w xs h1 h2 => (h ρ w xs h1 h2).mono fun e w' ⟨v, x, H', ρ', g1, g2, g3⟩ => ⟨v, x, H', ρ', g1, hq _ _ g2, g3⟩

theorem WC.skip (h : Q .nor fr H) : WC P B r n .skip fr H Q :=
  fun M ρ w a h1 h2 h3 h4 => wpIn_skip ⟨.nor, fr, H, ρ, rfl, h, Ext.refl _ _ _, h1, h2, h3, h4⟩

theorem WC.label {l : Nat} (h : Q .nor fr H) : WC P B r n (.label l) fr H Q :=
  fun M ρ w a h1 h2 h3 h4 => wpIn_label ⟨.nor, fr, H, ρ, rfl, h, Ext.refl _ _ _, h1, h2, h3, h4⟩

theorem WC.ret (h : Q .ret fr H) : WC P B r n .ret fr H Q :=
  fun M ρ w a h1 h2 h3 h4 => wpIn_ret ⟨.ret, fr, H, ρ, rfl, h, Ext.refl _ _ _, h1, h2, h3, h4⟩

theorem WC.exit {id : Nat} (h : Q (.ex id) fr H) : WC P B r n (.exit id) fr H Q :=
  fun M ρ w a h1 h2 h3 h4 => wpIn_exit ⟨.ex id, fr, H, ρ, rfl, h, Ext.refl _ _ _, h1, h2, h3, h4⟩

theorem WC.seq {x y : Code} {R : Post} (h : WC P B r n x fr H R) (hn : ∀ fr' H', R .nor fr' H' → WC P B r n y fr' H' Q) (he : ∀ x fr' H', x ≠ .nor → R x fr' H' → Q x fr' H') : WC P B r n (.seq x y) fr H Q := by
  intro M ρ w a h1 h2 h3 h4
  refine wpIn_seq (wpIn_mono (h M ρ w a h1 h2 h3 h4) ?_)
  rintro e a' w' ⟨x, fr', H', ρ', rfl, g2, g3, g4, g5, g6, g7⟩
  cases x with
  | nor => exact wpIn_mono (hn fr' H' g2 M ρ' w' a' g4 g5 g6 g7) fun e a w hh => hh.ext g3
  | ex id => exact ⟨.ex id, fr', H', ρ', rfl, he _ _ _ (by simp) g2, g3, g4, g5, g6, g7⟩
  | ret => exact ⟨.ret, fr', H', ρ', rfl, he _ _ _ (by simp) g2, g3, g4, g5, g6, g7⟩

theorem WC.cond {c : Operand} {x y : Code} {t : Bool} (hc : aeval fr c = some (.bool t)) (h : WC P B r n (bif t then x else y) fr H Q) : WC P B r n (.cond c x y) fr H Q := by
  intro M ρ w a h1 h2 h3 h4
  have hv := aeval_sound h2 hc
  simp only [Rel] at hv
  refine wpIn_cond hv ?_
  cases t
  · exact h M ρ w a h1 h2 h3 h4
  · exact h M ρ w a h1 h2 h3 h4

theorem WC.block {id : Nat} {c : Code} (h : WC P B r n c fr H fun x fr' H' => match x with | .ex id' => if id' = id then Q .nor fr' H' else Q (.ex id') fr' H' | x => Q x fr' H') : WC P B r n (.block id c) fr H Q := by
  intro M ρ w a h1 h2 h3 h4
  refine wpIn_block (wpIn_mono (h M ρ w a h1 h2 h3 h4) ?_)
  rintro e a' w' ⟨x, fr', H', ρ', rfl, g2, g3⟩
  cases x with
  | nor => exact ⟨.nor, fr', H', ρ', rfl, g2, g3⟩
  | ret => exact ⟨.ret, fr', H', ρ', rfl, g2, g3⟩
  | ex id' =>
    simp only [XT.out, Exit.inBlock]
    simp only at g2
    by_cases hi : id' = id
    · rw [if_pos hi] at g2 ⊢; exact ⟨.nor, fr', H', ρ', rfl, g2, g3⟩
    · rw [if_neg hi] at g2 ⊢; exact ⟨.ex id', fr', H', ρ', rfl, g2, g3⟩

/-- One round more. -/
theorem round_arrives {c : Code} {R : Post} (h : WC P B r n c fr H R) (hn : ∀ fr' H', R .nor fr' H' → WL P B r n c fr' H' Q) (he : ∀ x fr' H', x ≠ .nor → R x fr' H' → Q x fr' H') {M : Nat} {ρ : List At} {w : World} {a : Act}
    (h1 : HR B ρ H w) (h2 : FRel ρ fr a.tmps) (h3 : a.tmps.size = n) (h4 : Marks M ρ w a.defers) (b : Frame) (k : List Item) (cs : List Frame) (hb : b.roundOf = r) :
    ∃ e a' w', After B n M ρ w Q e a' w' ∧ ArrivesIn (Machine.fenced P (F0 r)) P (lone (b.atR a (.code c :: .inLoop c :: k)) cs w) b k cs e a' w' := by
  obtain ⟨e, a', w', ⟨x, fr', H', ρ', rfl, g2, g3, g4, g5, g6, g7⟩, harr⟩ := h M ρ w a h1 h2 h3 h4 b (.inLoop c :: k) cs hb trivial (room0 r _)
  cases x with
  | nor =>
    obtain ⟨e2, a2, w2, hq2, harr2⟩ := hn fr' H' g2 M ρ' w' a' g4 g5 g6 g7 b k cs hb
    exact ⟨e2, a2, w2, hq2.ext g3, .of_steps harr harr2⟩
  | ex id => exact ⟨_, a', w', ⟨.ex id, fr', H', ρ', rfl, he _ _ _ (by simp) g2, g3, g4, g5, g6, g7⟩, .pass (x := .inLoop c) rfl (fun _ _ => .inl (by simp [XT.out])) harr⟩
  | ret => exact ⟨_, a', w', ⟨.ret, fr', H', ρ', rfl, he _ _ _ (by simp) g2, g3, g4, g5, g6, g7⟩, .pass (x := .inLoop c) rfl (fun _ _ => .inl (by simp [XT.out])) harr⟩

theorem WL.round {c : Code} {R : Post} (h : WC P B r n c fr H R) (hn : ∀ fr' H', R .nor fr' H' → WL P B r n c fr' H' Q) (he : ∀ x fr' H', x ≠ .nor → R x fr' H' → Q x fr' H') : WL P B r n c fr H Q := by
  intro M ρ w a h1 h2 h3 h4 b k cs hb
  obtain ⟨e, a', w', hq, harr⟩ := round_arrives h hn he h1 h2 h3 h4 b k cs hb
  exact ⟨e, a', w', hq, .of_steps (.one (fenced0 P r _) stepR_inLoop) harr⟩

theorem WC.loop {c : Code} {R : Post} (h : WC P B r n c fr H R) (hn : ∀ fr' H', R .nor fr' H' → WL P B r n c fr' H' Q) (he : ∀ x fr' H', x ≠ .nor → R x fr' H' → Q x fr' H') : WC P B r n (.loop c) fr H Q := by
  intro M ρ w a h1 h2 h3 h4 b k cs hb _ _
  obtain ⟨e, a', w', hq, harr⟩ := round_arrives h hn he h1 h2 h3 h4 b k cs hb
  exact ⟨e, a', w', hq, .of_steps (.one (fenced0 P r _) stepR_loop) harr⟩

theorem WC.region {id : Nat} {ops : Array Oper} (h : WO P B r n ops (List.range ops.size) fr H fun fr' H' => Q .nor fr' H') : WC P B r n (.region id ops false) fr H Q := by
  intro M ρ w a h1 h2 h3 h4
  refine wpIn_mono (wpIn_region (h M ρ w a h1 h2 h3 h4)) ?_
  rintro e a' w' ⟨x, fr', H', ρ', rfl, ⟨rfl, g2⟩, g3⟩
  exact ⟨.nor, fr', H', ρ', rfl, g2, g3⟩

end
end Go.AM
