/- THE ABSTRACT MACHINE, 14: what code does, said of the machine alone; rules for straight code, branches, loops, regions in the text's order, calls. -/
import Derived.Test.YtdeoahhofhmgfaaAmE
import Derived.OrdersIn
import Derived.RangeFuncLeaves
import Derived.RangeFuncIn
import Derived.DefersIn
set_option linter.unusedSimpArgs false
set_option linter.unusedVariables false
namespace Go.AM
open Go.RowKit

/-- A fence that fences nothing, of a function's frame or of a round's. -/
def F0 (r : Option Nat) : Fence := { fn := fun _ => True, depth := none, alive := false, round := r }

theorem room0 (r : Option Nat) (n : Nat) : (F0 r).room n := fun _ h => by simp [F0] at h
theorem fenced0 (P : Program) (r : Option Nat) (m : Machine) : m.fenced P (F0 r) := by
  intro g _
  refine ⟨fun h => ?_, .inl trivial, fun _ _ => trivial, room0 r _⟩
  simp [F0] at h
theorem steps0 {P : Program} {r : Option Nat} {m m' : Machine} : StepsIn (Machine.fenced P (F0 r)) P m m' ↔ Steps P m m' :=
  ⟨StepsIn.steps, fun h => (StepsIn.of_steps h).mono fun m _ => fenced0 P r m⟩

theorem calls0 {P : Program} {r : Option Nat} {k : Nat} {f : FuncId} {args : Array Value} {w : World} {R : Ending → World → Prop} (h : Calls P f args w R) : CallsIn (F0 r) k P f args w R :=
  ⟨trivial, fun cs _ => by
    obtain ⟨e, w', fr, h1, h2, h3, h4⟩ := h cs
    refine ⟨e, w', fr, h1, ?_, h3, h4⟩
    cases e with
    | returned v => exact steps0.2 h2
    | panicked c => exact steps0.2 h2
    | outgrown => exact h2⟩

theorem calls_of0 {P : Program} {f : FuncId} {args : Array Value} {w : World} {R : Ending → World → Prop} (h : CallsIn (F0 none) 0 P f args w R) : Calls P f args w R :=
  fun cs => by
    obtain ⟨e, w', fr, h1, h2, h3, h4⟩ := h.2 cs (room0 none _)
    refine ⟨e, w', fr, h1, ?_, h3, h4⟩
    cases e with
    | returned v => exact steps0.1 h2
    | panicked c => exact steps0.1 h2
    | outgrown => exact h2

/-- The ways out of code. -/
inductive XT where
  | nor
  | ex (id : Nat)
  | ret

def XT.out : XT → Exit
  | .nor => .normal
  | .ex id => .exit id
  | .ret => .ret

abbrev Post := XT → Fr → Heap → Prop

def markOf (b : Nat) : Deferred := { target := .collected b, args := #[] }

/-- Marks among deferred calls. -/
inductive Weave : List Nat → List Deferred → List Deferred → Prop
  | nil : Weave [] [] []
  | mark {b : Nat} {bs : List Nat} {tl ds : List Deferred} : Weave bs tl ds → Weave (b :: bs) tl (markOf b :: ds)
  | call {d : Deferred} {bs : List Nat} {tl ds : List Deferred} : Weave bs tl ds → Weave bs (d :: tl) (d :: ds)

theorem Weave.self : ∀ (tl : List Deferred), Weave [] tl tl
  | [] => .nil
  | _ :: tl => .call (Weave.self tl)

theorem Weave.marks : ∀ {bs : List Nat} {ds : List Deferred}, Weave bs [] ds → ds = bs.map markOf ++ []
  | [], _, .nil => rfl
  | _ :: _, _, .mark h => by rw [h.marks]; rfl

/-- Behind which block a frame's marks lie; the deferred calls that were there ahead of them. -/
abbrev Mk := Nat × List Deferred

/-- The marks of a frame's loops over functions. -/
def Marks (M : Mk) (ρ : Env) (w : World) (ds : List Deferred) : Prop :=
  M.1 ≤ w.heap.size ∧ ∃ bs : List Nat, Weave bs M.2 ds ∧ bs.Nodup ∧ ∀ b ∈ bs, w.heap[b]? = some (.deferred (some [])) ∧ M.1 ≤ b ∧ ¬ ρ.blk b

theorem Marks.nil {M : Mk} (ρ : Env) {w : World} (h : M.1 ≤ w.heap.size) : Marks M ρ w M.2 := ⟨h, [], Weave.self _, List.nodup_nil, fun b hb => by cases hb⟩

/-- What a piece of a run does to the world, where only the first names are kept. -/
structure ExtK (K : Nat) (B : Nat) (ρ : Env) (w : World) (ρ' : Env) (w' : World) : Prop where
  pre : ρ'.ats.take K = ρ.ats.take K
  kle : K ≤ ρ'.ats.length
  fz : FzLe ρ.fz ρ'.fz
  os : w'.os = w.os
  tape : w'.tape = w.tape
  output : w'.output = w.output
  size : w.heap.size ≤ w'.heap.size
  below : ∀ k, k < B → w'.heap[k]? = w.heap[k]?
  other : ∀ k, k < w.heap.size → ¬ ρ.blk k → w'.heap[k]? = w.heap[k]?
  new : ∀ b, ρ'.blk b → ρ.blk b ∨ w.heap.size ≤ b
  fzn : ∀ b c, ρ'.fz b = some c → ρ.fz b = some c ∨ ρ.blk b ∨ w.heap.size ≤ b

theorem take_prefix {α : Type} {l l' : List α} {K : Nat} (h : l <+: l') (hk : K ≤ l.length) : l'.take K = l.take K := by
  obtain ⟨t, rfl⟩ := h
  rw [List.take_append_of_le_length hk]

theorem Ext.toK {B K : Nat} {ρ ρ' : Env} {w w' : World} (h : Ext B ρ w ρ' w') (hk : K ≤ ρ.ats.length) : ExtK K B ρ w ρ' w' :=
  ⟨take_prefix h.pre.ats hk, Nat.le_trans hk h.pre.ats.length_le, h.pre.fz, h.os, h.tape, h.output, h.size, h.below, h.other, h.new, h.fzn⟩

theorem ExtK.toExt {B : Nat} {ρ ρ' : Env} {w w' : World} (h : ExtK ρ.ats.length B ρ w ρ' w') : Ext B ρ w ρ' w' :=
  ⟨⟨by have := h.pre; rw [List.take_length] at this; rw [← this]; exact List.take_prefix _ _, h.fz⟩, h.os, h.tape, h.output, h.size, h.below, h.other, h.new, h.fzn⟩

theorem ExtK.refl {K : Nat} (B : Nat) (ρ : Env) (w : World) (hk : K ≤ ρ.ats.length) : ExtK K B ρ w ρ w := (Ext.refl B ρ w).toK hk

theorem ExtK.trans {B K : Nat} {ρ ρ1 ρ2 : Env} {w w1 w2 : World} (h : ExtK K B ρ w ρ1 w1) (k : ExtK K B ρ1 w1 ρ2 w2) : ExtK K B ρ w ρ2 w2 where
  pre := k.pre.trans h.pre
  kle := k.kle
  fz b c hb := k.fz b c (h.fz b c hb)
  os := k.os.trans h.os
  tape := k.tape.trans h.tape
  output := k.output.trans h.output
  size := Nat.le_trans h.size k.size
  below b hb := (k.below b hb).trans (h.below b hb)
  other b hb hn := by
    refine (k.other b (Nat.lt_of_lt_of_le hb h.size) fun e => ?_).trans (h.other b hb hn)
    rcases h.new b e with g | hge
    · exact hn g
    · omega
  new e he := by
    rcases k.new e he with g | hge
    · exact h.new e g
    · exact .inr (Nat.le_trans h.size hge)
  fzn b c hb := by
    rcases k.fzn b c hb with g | g | hge
    · exact h.fzn b c g
    · exact .inr (h.new b g)
    · exact .inr (.inr (Nat.le_trans h.size hge))

theorem Marks.extK {B K : Nat} {M : Mk} {ρ ρ' : Env} {w w' : World} {ds : List Deferred} (h : Marks M ρ w ds) (e : ExtK K B ρ w ρ' w') : Marks M ρ' w' ds := by
  obtain ⟨h0, bs, h1, h2, h3⟩ := h
  refine ⟨Nat.le_trans h0 e.size, bs, h1, h2, fun b hb => ?_⟩
  obtain ⟨g1, g2, g3⟩ := h3 b hb
  have hlt : b < w.heap.size := (Array.getElem?_eq_some_iff.1 g1).1
  refine ⟨(e.other b hlt g3).trans g1, g2, fun hbk => ?_⟩
  rcases e.new b hbk with hb2 | hge
  · exact g3 hb2
  · omega

theorem Marks.ext {B : Nat} {M : Mk} {ρ ρ' : Env} {w w' : World} {ds : List Deferred} (h : Marks M ρ w ds) (e : Ext B ρ w ρ' w') : Marks M ρ' w' ds := h.extK (e.toK (Nat.zero_le _))

def After (B : Nat) (K n : Nat) (M : Mk) (ρ : Env) (w : World) (Q : Post) : Exit → Act → World → Prop := fun e a' w' =>
  ∃ x fr' H' ρ', e = x.out ∧ Q x fr' H' ∧ ExtK K B ρ w ρ' w' ∧ HR B ρ' H' w' ∧ FRel ρ' fr' a'.tmps ∧ a'.tmps.size = n ∧ Marks M ρ' w' a'.defers

theorem After.extK {B K n : Nat} {M : Mk} {ρ ρ1 : Env} {w w1 : World} {Q : Post} {e : Exit} {a : Act} {w' : World} (h : ExtK K B ρ w ρ1 w1) (k : After B K n M ρ1 w1 Q e a w') : After B K n M ρ w Q e a w' := by
  obtain ⟨x, fr', H', ρ', h1, h2, h3, h4⟩ := k
  exact ⟨x, fr', H', ρ', h1, h2, h.trans h3, h4⟩

theorem After.ext {B K n : Nat} {M : Mk} {ρ ρ1 : Env} {w w1 : World} {Q : Post} {e : Exit} {a : Act} {w' : World} (hk : K ≤ ρ.ats.length) (h : Ext B ρ w ρ1 w1) (k : After B K n M ρ1 w1 Q e a w') : After B K n M ρ w Q e a w' := k.extK (h.toK hk)

section
variable (P : Program) (B : Nat)

/-- Code, from a frame and a heap of the machine's. -/
def WC (K : Nat) (r : Option Nat) (n : Nat) (c : Code) (fr : Fr) (H : Heap) (Q : Post) : Prop :=
  ∀ (M : Mk) (ρ : Env) (w : World) (a : Act), K ≤ ρ.ats.length → HR B ρ H w → FRel ρ fr a.tmps → a.tmps.size = n → Marks M ρ w a.defers → c.wpIn (F0 r) 0 P (After B K n M ρ w Q) a w

/-- A loop that has begun. -/
def WL (K : Nat) (r : Option Nat) (n : Nat) (c : Code) (fr : Fr) (H : Heap) (Q : Post) : Prop :=
  ∀ (M : Mk) (ρ : Env) (w : World) (a : Act), K ≤ ρ.ats.length → HR B ρ H w → FRel ρ fr a.tmps → a.tmps.size = n → Marks M ρ w a.defers →
    ∀ (b : Frame) (k : List Item) (cs : List Frame), b.roundOf = r →
      ∃ e a' w', After B K n M ρ w Q e a' w' ∧ ArrivesIn (Machine.fenced P (F0 r)) P (lone (b.atR a (.inLoop c :: k)) cs w) b k cs e a' w'

/-- A call. -/
def WF (f : FuncId) (args : List AV) (H : Heap) (Q : AV → Heap → Prop) : Prop :=
  ∀ (ρ : Env) (w : World) (xs : Array Value), HR B ρ H w → RelL ρ args xs.toList →
    Calls P f xs w fun e w' => ∃ v x H' ρ', e = .returned x ∧ Q v H' ∧ Ext B ρ w ρ' w' ∧ HR B ρ' H' w' ∧ Rel ρ' v x

/-- Operations of a region, one behind the other. -/
def WO (K : Nat) (r : Option Nat) (n : Nat) (ops : Array Oper) (l : List Nat) (fr : Fr) (H : Heap) (Q : Fr → Heap → Prop) : Prop :=
  ∀ (M : Mk) (ρ : Env) (w : World) (a : Act), K ≤ ρ.ats.length → HR B ρ H w → FRel ρ fr a.tmps → a.tmps.size = n → Marks M ρ w a.defers →
    wpOpsIn (F0 r) 0 P ops (After B K n M ρ w fun x fr' H' => x = .nor ∧ Q fr' H') l a w
end

section
variable {P : Program} {B K : Nat} {r : Option Nat} {n : Nat} {fr : Fr} {H : Heap} {Q : Post}

theorem WC.mono {c : Code} {Q' : Post} (h : WC P B K r n c fr H Q) (hq : ∀ x fr H, Q x fr H → Q' x fr H) : WC P B K r n c fr H Q' :=
  fun M ρ w a hk h1 h2 h3 h4 => wpIn_mono (h M ρ w a hk h1 h2 h3 h4) fun e a' w' ⟨x, fr', H', ρ', g1, g2, g3⟩ => ⟨x, fr', H', ρ', g1, hq _ _ _ g2, g3⟩

theorem WF.mono {f : FuncId} {args : List AV} {Q Q' : AV → Heap → Prop} (h : WF P B f args H Q) (hq : ∀ v H, Q v H → Q' v H) : WF P B f args H Q' :=
  fun ρ w xs h1 h2 => (h ρ w xs h1 h2).mono fun e w' ⟨v, x, H', ρ', g1, g2, g3⟩ => ⟨v, x, H', ρ', g1, hq _ _ g2, g3⟩

theorem WC.skip (h : Q .nor fr H) : WC P B K r n .skip fr H Q :=
  fun M ρ w a hk h1 h2 h3 h4 => wpIn_skip ⟨.nor, fr, H, ρ, rfl, h, ExtK.refl _ _ _ hk, h1, h2, h3, h4⟩

theorem WC.label {l : Nat} (h : Q .nor fr H) : WC P B K r n (.label l) fr H Q :=
  fun M ρ w a hk h1 h2 h3 h4 => wpIn_label ⟨.nor, fr, H, ρ, rfl, h, ExtK.refl _ _ _ hk, h1, h2, h3, h4⟩

theorem WC.ret (h : Q .ret fr H) : WC P B K r n .ret fr H Q :=
  fun M ρ w a hk h1 h2 h3 h4 => wpIn_ret ⟨.ret, fr, H, ρ, rfl, h, ExtK.refl _ _ _ hk, h1, h2, h3, h4⟩

theorem WC.exit {id : Nat} (h : Q (.ex id) fr H) : WC P B K r n (.exit id) fr H Q :=
  fun M ρ w a hk h1 h2 h3 h4 => wpIn_exit ⟨.ex id, fr, H, ρ, rfl, h, ExtK.refl _ _ _ hk, h1, h2, h3, h4⟩

theorem WC.seq {x y : Code} {R : Post} (h : WC P B K r n x fr H R) (hn : ∀ fr' H', R .nor fr' H' → WC P B K r n y fr' H' Q) (he : ∀ x fr' H', x ≠ .nor → R x fr' H' → Q x fr' H') : WC P B K r n (.seq x y) fr H Q := by
  intro M ρ w a hk h1 h2 h3 h4
  refine wpIn_seq (wpIn_mono (h M ρ w a hk h1 h2 h3 h4) ?_)
  rintro e a' w' ⟨x, fr', H', ρ', rfl, g2, g3, g4, g5, g6, g7⟩
  cases x with
  | nor => exact wpIn_mono (hn fr' H' g2 M ρ' w' a' g3.kle g4 g5 g6 g7) fun e a w hh => hh.extK g3
  | ex id => exact ⟨.ex id, fr', H', ρ', rfl, he _ _ _ (by simp) g2, g3, g4, g5, g6, g7⟩
  | ret => exact ⟨.ret, fr', H', ρ', rfl, he _ _ _ (by simp) g2, g3, g4, g5, g6, g7⟩

theorem WC.cond {c : Operand} {x y : Code} {t : Bool} (hc : aeval fr c = some (.bool t)) (h : WC P B K r n (bif t then x else y) fr H Q) : WC P B K r n (.cond c x y) fr H Q := by
  intro M ρ w a hk h1 h2 h3 h4
  have hv := aeval_sound h2 hc
  simp only [Rel] at hv
  refine wpIn_cond hv ?_
  cases t
  · exact h M ρ w a hk h1 h2 h3 h4
  · exact h M ρ w a hk h1 h2 h3 h4

theorem WC.block {id : Nat} {c : Code} (h : WC P B K r n c fr H fun x fr' H' => match x with | .ex id' => if id' = id then Q .nor fr' H' else Q (.ex id') fr' H' | x => Q x fr' H') : WC P B K r n (.block id c) fr H Q := by
  intro M ρ w a hk h1 h2 h3 h4
  refine wpIn_block (wpIn_mono (h M ρ w a hk h1 h2 h3 h4) ?_)
  rintro e a' w' ⟨x, fr', H', ρ', rfl, g2, g3⟩
  cases x with
  | nor => exact ⟨.nor, fr', H', ρ', rfl, g2, g3⟩
  | ret => exact ⟨.ret, fr', H', ρ', rfl, g2, g3⟩
  | ex id' =>
    simp only [XT.out, Exit.inBlock]
    simp only at g2
    by_cases hi : id' = id
    · rw [if_pos hi] at g2 ⊢; exact ⟨.nor, fr', H', ρ', rfl, g2, g3⟩
    · rw [if_neg hi] at g2 ⊢; exact ⟨.ex id', fr', H', ρ', rfl, g2, g3⟩

/-- One round more. -/
theorem round_arrives {c : Code} {R : Post} (h : WC P B K r n c fr H R) (hn : ∀ fr' H', R .nor fr' H' → WL P B K r n c fr' H' Q) (he : ∀ x fr' H', x ≠ .nor → R x fr' H' → Q x fr' H') {M : Mk} {ρ : Env} {w : World} {a : Act}
    (hk : K ≤ ρ.ats.length) (h1 : HR B ρ H w) (h2 : FRel ρ fr a.tmps) (h3 : a.tmps.size = n) (h4 : Marks M ρ w a.defers) (b : Frame) (k : List Item) (cs : List Frame) (hb : b.roundOf = r) :
    ∃ e a' w', After B K n M ρ w Q e a' w' ∧ ArrivesIn (Machine.fenced P (F0 r)) P (lone (b.atR a (.code c :: .inLoop c :: k)) cs w) b k cs e a' w' := by
  obtain ⟨e, a', w', ⟨x, fr', H', ρ', rfl, g2, g3, g4, g5, g6, g7⟩, harr⟩ := h M ρ w a hk h1 h2 h3 h4 b (.inLoop c :: k) cs hb trivial (room0 r _)
  cases x with
  | nor =>
    obtain ⟨e2, a2, w2, hq2, harr2⟩ := hn fr' H' g2 M ρ' w' a' g3.kle g4 g5 g6 g7 b k cs hb
    exact ⟨e2, a2, w2, hq2.extK g3, .of_steps harr harr2⟩
  | ex id => exact ⟨_, a', w', ⟨.ex id, fr', H', ρ', rfl, he _ _ _ (by simp) g2, g3, g4, g5, g6, g7⟩, .pass (x := .inLoop c) rfl (fun _ _ => .inl (by simp [XT.out])) harr⟩
  | ret => exact ⟨_, a', w', ⟨.ret, fr', H', ρ', rfl, he _ _ _ (by simp) g2, g3, g4, g5, g6, g7⟩, .pass (x := .inLoop c) rfl (fun _ _ => .inl (by simp [XT.out])) harr⟩

theorem WL.round {c : Code} {R : Post} (h : WC P B K r n c fr H R) (hn : ∀ fr' H', R .nor fr' H' → WL P B K r n c fr' H' Q) (he : ∀ x fr' H', x ≠ .nor → R x fr' H' → Q x fr' H') : WL P B K r n c fr H Q := by
  intro M ρ w a hk h1 h2 h3 h4 b k cs hb
  obtain ⟨e, a', w', hq, harr⟩ := round_arrives h hn he hk h1 h2 h3 h4 b k cs hb
  exact ⟨e, a', w', hq, .of_steps (.one (fenced0 P r _) stepR_inLoop) harr⟩

theorem WC.loop {c : Code} {R : Post} (h : WC P B K r n c fr H R) (hn : ∀ fr' H', R .nor fr' H' → WL P B K r n c fr' H' Q) (he : ∀ x fr' H', x ≠ .nor → R x fr' H' → Q x fr' H') : WC P B K r n (.loop c) fr H Q := by
  intro M ρ w a hk h1 h2 h3 h4 b k cs hb _ _
  obtain ⟨e, a', w', hq, harr⟩ := round_arrives h hn he hk h1 h2 h3 h4 b k cs hb
  exact ⟨e, a', w', hq, .of_steps (.one (fenced0 P r _) stepR_loop) harr⟩

theorem WC.region {id : Nat} {ops : Array Oper} (h : WO P B K r n ops (List.range ops.size) fr H fun fr' H' => Q .nor fr' H') : WC P B K r n (.region id ops false) fr H Q := by
  intro M ρ w a hk h1 h2 h3 h4
  refine wpIn_mono (wpIn_region (h M ρ w a hk h1 h2 h3 h4)) ?_
  rintro e a' w' ⟨x, fr', H', ρ', rfl, ⟨rfl, g2⟩, g3⟩
  exact ⟨.nor, fr', H', ρ', rfl, g2, g3⟩

end
end Go.AM
set_option linter.unusedSimpArgs false
set_option linter.unusedVariables false
namespace Go.AM
open Go.RowKit

def aput (n : Nat) (fr : Fr) (dst : Option Tmp) (v : AV) : Option Fr :=
  match dst with
  | none => some fr
  | some d => bif Nat.blt d n then some (fr.set d (some v)) else none

def aWant (ops : Array Oper) (fr : Fr) (o : Oper) : Option Bool :=
  match o.guard with
  | none => some true
  | some (j, want) => match (ops[j]?).bind (·.dst) with
    | none => some false
    | some d => match fr.get d with
      | some (.bool b) => some (b == want)
      | some v => bif v.isS then none else some false
      | none => none

section
variable {P : Program} {B K : Nat} {r : Option Nat} {n : Nat} {fr : Fr} {H : Heap} {ρ : Env} {w : World}

theorem Rel.inv_bool {v : AV} {b : Bool} (h : Rel ρ v (.bool b)) (hs : v.isS = false) : v = .bool b := by
  cases v <;> simp only [Rel, CTy.Rd] at h <;> first
    | (exact Bool.noConfusion hs)
    | (cases h; rfl)
    | (cases h; done)
    | (cases h.1; done)
    | (obtain ⟨_, _, h⟩ := h; cases h; done)
    | (obtain ⟨_, h, _⟩ := h; cases h; done)
    | (obtain ⟨_, _, h, _⟩ := h; cases h; done)
    | (obtain ⟨_, _, _, h, _⟩ := h; cases h; done)
    | (obtain ⟨_, _, _, _, h, _⟩ := h; cases h; done)
    | (obtain ⟨_, _, _, _, h⟩ := h; cases h; done)

theorem aput_sound {a : Act} {dst : Option Tmp} {v : AV} {x : Value} {fr' : Fr} (hf : FRel ρ fr a.tmps) (hn : a.tmps.size = n) (hr : Rel ρ v x) (hp : aput n fr dst v = some fr') :
    FRel ρ fr' (a.put dst x).tmps ∧ (a.put dst x).tmps.size = n ∧ (a.put dst x).defers = a.defers := by
  unfold aput at hp
  split at hp
  · cases hp; exact ⟨hf, hn, rfl⟩
  · rename_i d
    cases hb : Nat.blt d n with
    | false => simp [hb] at hp
    | true =>
      simp [hb] at hp
      subst hp
      have hlt : d < n := by simpa [Nat.blt_eq] using hb
      exact ⟨hf.set (by rw [hn]; exact hlt) hr, by simp [Act.put, hn], rfl⟩

theorem aWant_sound {a : Act} {ops : Array Oper} {o : Oper} {b : Bool} (hf : FRel ρ fr a.tmps) (h : aWant ops fr o = some b) : Region.wanted o (yielded ops a.tmps) = b := by
  unfold aWant at h
  unfold Region.wanted
  split at h
  · rename_i hg; cases h; rw [hg]
  · rename_i j want hg
    rw [hg]
    simp only
    unfold yielded
    split at h
    · rename_i hd; cases h; rw [hd]; rfl
    · rename_i d hd
      rw [hd]
      simp only [Option.bind_some]
      split at h
      · rename_i b' hget
        cases h
        obtain ⟨x, hx, hr⟩ := hf d _ hget
        simp only [Rel] at hr
        subst hr
        rw [hx]
        simp
      · rename_i v hnb hget
        cases hs : v.isS with
        | true => rw [hs] at h; cases h
        | false =>
        rw [hs] at h
        cases h
        obtain ⟨x, hx, hr⟩ := hf d _ hget
        rw [hx]
        cases x <;> first
          | rfl
          | exact (hnb _ (hr.inv_bool hs)).elim
      · cases h

theorem WO.nil {ops : Array Oper} {Q : Fr → Heap → Prop} (h : Q fr H) : WO P B K r n ops [] fr H Q :=
  fun M ρ w a hk h1 h2 h3 h4 => ⟨.nor, fr, H, ρ, rfl, ⟨rfl, h⟩, ExtK.refl _ _ _ hk, h1, h2, h3, h4⟩

theorem semAt_of {ρ' : Operand → Value} {o : Oper} (hnd : ∀ c, o.op ≠ .defer c) : o.semAt r ρ' = execOp ρ' o := by
  unfold Oper.semAt
  split
  · rename_i hd; exact absurd hd (hnd _)
  · rfl

theorem aop_not_defer {o : Oper} {q : Res} (h : aop P fr H o = some q) : ∀ c, o.op ≠ .defer c := by
  intro c hc
  obtain ⟨p, h, _⟩ := aop_inv h
  unfold aopC at h
  split at h
  · rename_i r hr
    obtain ⟨dst, op, type, pos, after, guard⟩ := o
    simp only at hc
    subst hc
    simp [aop0] at hr
  · exact aopX_not_defer h c hc

theorem wpOpsIn_step {F : Fence} {k : Nat} {ops : Array Oper} {Q : Exit → Act → World → Prop} {i : Nat} {rest : List Nat} {o : Oper} {a : Act} (ho : ops[i]? = some o) (hw : Region.wanted o (yielded ops a.tmps) = true)
    (h : o.wpIn F k P a w (wpOpsIn F k P ops Q rest) Q) : wpOpsIn F k P ops Q (i :: rest) a w := by
  simp only [wpOpsIn, ho, hw, if_true]
  exact h

theorem wpOpsIn_mono {F : Fence} {k : Nat} {ops : Array Oper} {Q Q' : Exit → Act → World → Prop} (hq : ∀ e a w, Q e a w → Q' e a w) : ∀ (l : List Nat) (a : Act) (w : World), wpOpsIn F k P ops Q l a w → wpOpsIn F k P ops Q' l a w
  | [], a, w, h => hq _ _ _ h
  | i :: rest, a, w, h => by
    simp only [wpOpsIn] at h ⊢
    split
    · rename_i ho; simp only [ho] at h; exact wpOpsIn_mono hq rest a w h
    · rename_i o ho
      simp only [ho] at h
      split
      · rename_i hw
        simp only [hw, if_true] at h
        refine ⟨h.1, ?_⟩
        have h2 := h.2
        generalize (o.semAt F.round a.eval).run P w = res at h2 ⊢
        cases res with
        | ok x w' =>
          cases x <;> simp only [Oper.uponIn] at h2 ⊢ <;>
            first
              | exact wpOpsIn_mono hq rest _ _ h2
              | exact ⟨h2.1, CallsIn.mono h2.2 fun e w'' he => by cases e <;> first | exact wpOpsIn_mono hq rest _ _ he | exact hq _ _ _ he | exact ⟨_, _, hq _ _ _ he.choose_spec.choose_spec⟩⟩
              | exact ⟨h2.1, RowsIn.mono h2.2 fun _ _ he => wpOpsIn_mono hq rest _ _ he⟩
              | exact ⟨h2.1, RoundIn.mono h2.2 fun e w'' he => by cases e <;> first | exact wpOpsIn_mono hq rest _ _ he | exact hq _ _ _ he | exact ⟨_, _, hq _ _ _ he.choose_spec.choose_spec⟩⟩
        | halt x w' => cases x <;> simp only [Oper.uponIn] at h2 ⊢ <;> first | exact hq _ _ _ h2 | exact h2
      · rename_i hw
        simp only [hw] at h
        exact ⟨h.1, wpOpsIn_mono hq rest _ _ h.2⟩

theorem After.exto {M : Mk} {ρ1 : Env} {w1 : World} {Q : Post} (hk : K ≤ ρ.ats.length) (h : Ext B ρ w ρ1 w1) {F : Fence} {k : Nat} {ops : Array Oper} {l : List Nat} {a : Act} (hh : wpOpsIn F k P ops (After B K n M ρ1 w1 Q) l a w1) :
    wpOpsIn F k P ops (After B K n M ρ w Q) l a w1 := wpOpsIn_mono (fun _ _ _ => After.ext hk h) l a w1 hh

theorem WO.val' {ops : Array Oper} {i : Nat} {rest : List Nat} {o : Oper} {v v' : AV} {H' : Heap} {fr' : Fr} {Q : Fr → Heap → Prop} (ho : ops[i]? = some o) (hw : aWant ops fr o = some true) (he : aop P fr H o = some (.val v H'))
    (hun : v'.ub = v.ub) (hp : aput n fr o.dst v' = some fr') (h : WO P B K r n ops rest fr' H' Q) : WO P B K r n ops (i :: rest) fr H Q := by
  intro M ρ w a hk h1 h2 h3 h4
  refine wpOpsIn_step ho (aWant_sound h2 hw) ⟨fun f _ => trivial, ?_⟩
  rw [semAt_of (aop_not_defer he)]
  obtain ⟨x, w', ρ', hrun, g2, g3, g4⟩ := aop_sound h1 h2 he
  obtain ⟨p1, p2, p3⟩ := aput_sound (h2.mono g2.pre) h3 (g4.eqv hun) hp
  rcases hrun with hrun | ⟨hrun, rfl⟩
  · rw [hrun]; exact After.exto hk g2 (h M ρ' w' _ (Nat.le_trans hk g2.pre.ats.length_le) g3 p1 p2 (by rw [p3]; exact h4.ext g2))
  · rw [hrun]; exact After.exto hk g2 (h M ρ' w' _ (Nat.le_trans hk g2.pre.ats.length_le) g3 p1 p2 (by rw [p3]; exact h4.ext g2))

theorem WO.val {ops : Array Oper} {i : Nat} {rest : List Nat} {o : Oper} {v : AV} {H' : Heap} {fr' : Fr} {Q : Fr → Heap → Prop} (ho : ops[i]? = some o) (hw : aWant ops fr o = some true) (he : aop P fr H o = some (.val v H'))
    (hp : aput n fr o.dst v = some fr') (h : WO P B K r n ops rest fr' H' Q) : WO P B K r n ops (i :: rest) fr H Q := WO.val' ho hw he rfl hp h

theorem WO.opts {ops : Array Oper} {i : Nat} {rest : List Nat} {o : Oper} {l : List (AV × Heap)} {Q : Fr → Heap → Prop} (ho : ops[i]? = some o) (hw : aWant ops fr o = some true) (he : aop P fr H o = some (.opts l))
    (h : ∀ q ∈ l, ∃ fr', aput n fr o.dst q.1 = some fr' ∧ WO P B K r n ops rest fr' q.2 Q) : WO P B K r n ops (i :: rest) fr H Q := by
  intro M ρ w a hk h1 h2 h3 h4
  refine wpOpsIn_step ho (aWant_sound h2 hw) ⟨fun f _ => trivial, ?_⟩
  rw [semAt_of (aop_not_defer he)]
  obtain ⟨q, hq, x, w', ρ', hrun, g2, g3, g4⟩ := aop_sound h1 h2 he
  obtain ⟨fr', hp, hrest⟩ := h q hq
  obtain ⟨p1, p2, p3⟩ := aput_sound (h2.mono g2.pre) h3 g4 hp
  rw [hrun]; exact After.exto hk g2 (hrest M ρ' w' _ (Nat.le_trans hk g2.pre.ats.length_le) g3 p1 p2 (by rw [p3]; exact h4.ext g2))

theorem WO.fams {ops : Array Oper} {i : Nat} {rest : List Nat} {o : Oper} {l : List ((Nat → Prop) × (Nat → AV × Heap))} {Q : Fr → Heap → Prop} (ho : ops[i]? = some o) (hw : aWant ops fr o = some true) (he : aop P fr H o = some (.fams l))
    (h : ∀ q ∈ l, ∀ j, q.1 j → ∃ fr', aput n fr o.dst (q.2 j).1 = some fr' ∧ WO P B K r n ops rest fr' (q.2 j).2 Q) : WO P B K r n ops (i :: rest) fr H Q := by
  intro M ρ w a hk h1 h2 h3 h4
  refine wpOpsIn_step ho (aWant_sound h2 hw) ⟨fun f _ => trivial, ?_⟩
  rw [semAt_of (aop_not_defer he)]
  obtain ⟨q, hq, j, hj, x, w', ρ', hrun, g2, g3, g4⟩ := aop_sound h1 h2 he
  obtain ⟨fr', hp, hrest⟩ := h q hq j hj
  obtain ⟨p1, p2, p3⟩ := aput_sound (h2.mono g2.pre) h3 g4 hp
  rw [hrun]; exact After.exto hk g2 (hrest M ρ' w' _ (Nat.le_trans hk g2.pre.ats.length_le) g3 p1 p2 (by rw [p3]; exact h4.ext g2))

theorem WO.skipped {ops : Array Oper} {i : Nat} {rest : List Nat} {o : Oper} {fr' : Fr} {Q : Fr → Heap → Prop} (ho : ops[i]? = some o) (hw : aWant ops fr o = some false)
    (hp : aput n fr o.dst (.tup []) = some fr') (h : WO P B K r n ops rest fr' H Q) : WO P B K r n ops (i :: rest) fr H Q := by
  intro M ρ w a hk h1 h2 h3 h4
  obtain ⟨p1, p2, p3⟩ := aput_sound (x := undef) h2 h3 (by simp [Rel, RelL, undef]) hp
  simp only [wpOpsIn, ho, aWant_sound h2 hw]
  exact ⟨fun f _ => trivial, h M ρ w _ hk h1 p1 p2 (by rw [p3]; exact h4)⟩

theorem WO.call {ops : Array Oper} {i : Nat} {rest : List Nat} {o : Oper} {f : FuncId} {args : List AV} {Q : Fr → Heap → Prop} (ho : ops[i]? = some o) (hw : aWant ops fr o = some true) (he : aop P fr H o = some (.call f args))
    (h : WF P B f args H fun v H' => ∃ fr', aput n fr o.dst v = some fr' ∧ WO P B K r n ops rest fr' H' Q) : WO P B K r n ops (i :: rest) fr H Q := by
  intro M ρ w a hk h1 h2 h3 h4
  refine wpOpsIn_step ho (aWant_sound h2 hw) ⟨fun f _ => trivial, ?_⟩
  rw [semAt_of (aop_not_defer he)]
  obtain ⟨xs, hrun, hargs⟩ := aop_sound h1 h2 he
  rw [hrun]
  refine ⟨fun h => by simp [F0] at h, calls0 ((h ρ w xs h1 hargs).mono ?_)⟩
  rintro e w' ⟨v, x, H', ρ', rfl, ⟨fr', hp, hrest⟩, g2, g3, g4⟩
  obtain ⟨p1, p2, p3⟩ := aput_sound (h2.mono g2.pre) h3 g4 hp
  exact After.exto hk g2 (hrest M ρ' w' _ (Nat.le_trans hk g2.pre.ats.length_le) g3 p1 p2 (by rw [p3]; exact h4.ext g2))


/-! ### A function -/
def initFr : List AV → Nat → Fr → Fr
  | [], _, fr => fr
  | v :: vs, i, fr => initFr vs (i + 1) (fr.set i (some v))

theorem initFr_get : ∀ (vs : List AV) (i : Nat) (fr : Fr) (t : Nat), (initFr vs i fr).get t = if i ≤ t ∧ t < i + vs.length then vs[t - i]? else fr.get t
  | [], i, fr, t => by rw [if_neg (by simp)]; rfl
  | v :: vs, i, fr, t => by
    simp only [initFr, initFr_get vs (i + 1), T.get_set, List.length_cons]
    by_cases ht : t = i
    · subst ht
      rw [if_neg (by omega), if_pos rfl, if_pos (by omega)]
      simp
    · by_cases hin : i + 1 ≤ t ∧ t < i + 1 + vs.length
      · rw [if_pos hin, if_pos (by omega), show t - i = (t - (i + 1)) + 1 by omega]
        simp
      · rw [if_neg hin, if_neg ht, if_neg (by omega)]

theorem initFr_rel {args : List AV} {xs : Array Value} (h : RelL ρ args xs.toList) (k : Nat) : FRel ρ (initFr args 0 .nil) (xs ++ Array.replicate k undef) := by
  intro t v ht
  rw [initFr_get] at ht
  by_cases hin : 0 ≤ t ∧ t < 0 + args.length
  · rw [if_pos hin] at ht
    rw [Nat.sub_zero] at ht
    obtain ⟨x, hx, hr⟩ := h.get ht
    refine ⟨x, ?_, hr⟩
    have hlt : t < xs.size := by have := (List.getElem?_eq_some_iff.1 hx).1; simpa using this
    rw [Array.getElem?_append_left hlt]
    simpa using hx
  · rw [if_neg hin] at ht
    simp at ht

def aresL (P : Program) (fr : Fr) (H : Heap) : List ResultVar → Option (List AV)
  | [] => some []
  | .tmp t :: rs => (fr.get t).bind fun v => (aresL P fr H rs).map (v :: ·)
  | .cell a t :: rs => (fr.get a).bind fun p => (aload P H t p).bind fun v => (aresL P fr H rs).map (v :: ·)

def ares (P : Program) (fn : Func) (fr : Fr) (H : Heap) : Option AV :=
  (aresL P fr H fn.results.toList).map fun vs => match vs with
    | [v] => v
    | vs => .tup vs

theorem aresL_sound (h : HR B ρ H w) {tmps : Array Value} (hf : FRel ρ fr tmps) : ∀ {rs : List ResultVar} {vs : List AV}, aresL P fr H rs = some vs →
    ∃ xs : List Value, (rs.mapM (fun (x : ResultVar) => match x with | ResultVar.tmp t => (pure (tmps.getD t undef) : Sem Value) | ResultVar.cell a t => do loadVar t (← asAddr (tmps.getD a undef)))).run P w = .ok xs w ∧ RelL ρ vs xs
  | [], vs, hr => by simp [aresL] at hr; subst hr; exact ⟨[], by simp, rfl⟩
  | .tmp t :: rs, vs, hr => by
    simp only [aresL, Option.bind_eq_some_iff, Option.map_eq_some_iff] at hr
    obtain ⟨v, hv, vs', hvs, rfl⟩ := hr
    obtain ⟨x, hx, hrx⟩ := hf t v hv
    obtain ⟨xs, hxs, hrs⟩ := aresL_sound h hf hvs
    refine ⟨x :: xs, ?_, ⟨x, xs, rfl, hrx, hrs⟩⟩
    have hg : tmps.getD t undef = x := by simp [hx]
    simp only [List.mapM_cons, Sem.run_bind, Sem.run_pure, Result.andThen_ok, hxs, hg]
  | .cell a t :: rs, vs, hr => by
    simp only [aresL, Option.bind_eq_some_iff, Option.map_eq_some_iff] at hr
    obtain ⟨p, hp, v, hv, vs', hvs, rfl⟩ := hr
    obtain ⟨x, hx, hrx⟩ := hf a p hp
    obtain ⟨xs, hxs, hrs⟩ := aresL_sound h hf hvs
    obtain ⟨y, _, hy2, ad, rfl, hy3⟩ := aload_sound h hrx hv
    refine ⟨y :: xs, ?_, ⟨y, xs, rfl, hy2, hrs⟩⟩
    have hg : tmps.getD a undef = .pointer (some ad) := by simp [hx]
    have hao : (asAddr (.pointer (some ad))).run P w = .ok ad w := rfl
    simp only [List.mapM_cons, Sem.run_bind, Sem.run_pure, Result.andThen_ok, hg, hao, hy3, hxs]

theorem ares_sound (h : HR B ρ H w) {tmps : Array Value} (hf : FRel ρ fr tmps) {fn : Func} {v : AV} (hr : ares P fn fr H = some v) : ∃ x, (results fn tmps).run P w = .ok x w ∧ Rel ρ v x := by
  unfold ares at hr
  rw [Option.map_eq_some_iff] at hr
  obtain ⟨vs, hvs, hv⟩ := hr
  obtain ⟨xs, hxs, hrs⟩ := aresL_sound h hf hvs
  have hrun : ∀ g : Array Value → Value, (do let vs ← fn.results.mapM (fun (x : ResultVar) => match x with | ResultVar.tmp t => (pure (tmps.getD t undef) : Sem Value) | ResultVar.cell a t => do loadVar t (← asAddr (tmps.getD a undef))); pure (g vs) : Sem Value).run P w = .ok (g xs.toArray) w := by
    intro g
    rw [Array.mapM_eq_mapM_toList]
    simp only [Sem.run_bind, Sem.run_map, hxs, Result.andThen_ok, Sem.run_pure]
  have h0 := hrun (fun vs => if h : vs.size = 1 then vs[0] else .tuple vs)
  refine ⟨_, h0, ?_⟩
  have hlen := hrs.length
  subst hv
  split
  · rename_i v'
    obtain ⟨x, rfl, hx⟩ := hrs.one
    simpa using hx
  · rename_i hne
    have hsz : ¬ (xs.toArray.size = 1) := by
      simp only [List.size_toArray]
      intro h1
      rw [h1] at hlen
      match vs, hlen with
      | [v'], _ => exact hne v' rfl
    rw [dif_neg hsz]
    exact ⟨_, rfl, by simpa using hrs⟩

theorem HR.others {B : Nat} {ρ : Env} {H : Heap} {w w' : World} (h : HR B ρ H w) (hsz : w'.heap.size = w.heap.size) (hoth : ∀ b, ρ.blk b ∨ ρ.fz b ≠ none → w'.heap[b]? = w.heap[b]?) : HR B ρ H w' where
  next := h.next
  base := hsz ▸ h.base
  bnd := hsz ▸ h.bnd
  obj i o hi := let ⟨e, he, ho⟩ := h.obj i o hi; ⟨e, he, ho.mono (Env.le_refl _) fun hn => hoth _ (.inl (Env.blk_of he hn))⟩
  inj := h.inj
  fz b c hc := let ⟨arr, ty, f, h1, h2⟩ := h.fz b c hc; ⟨arr, ty, f, (hoth b (.inr (by rw [hc]; simp))).trans h1, h2⟩
  fzo := h.fzo

/-- The marks are taken up on the way out. -/
theorem marks_out {M : Nat} {tl : List Deferred} : ∀ (bs : List Nat) {ρ : Env} {H : Heap} {w : World} (fr : Frame) (cs : List Frame), fr.mode = .returning → fr.defers = bs.map markOf ++ tl → bs.Nodup →
    (∀ b ∈ bs, w.heap[b]? = some (.deferred (some [])) ∧ M ≤ b ∧ ¬ ρ.blk b) → HR B ρ H w →
    ∃ w', Steps P (lone fr cs w) (lone { fr with defers := tl } cs w') ∧ HR B ρ H w' ∧ w'.os = w.os ∧ w'.tape = w.tape ∧ w'.output = w.output ∧ w'.heap.size = w.heap.size ∧ (∀ k, k ∉ bs → w'.heap[k]? = w.heap[k]?)
  | [], ρ, H, w, fr, cs, hm, hd, _, _, h => ⟨w, by
    have e : ({ fr with defers := tl } : Frame) = fr := by
      obtain ⟨f1, f2, f3, f4, f5, f6, f7⟩ := fr
      simp only at hd
      subst hd
      rfl
    rw [e]; exact .refl P _, h, rfl, rfl, rfl, rfl, fun _ _ => rfl⟩
  | b :: bs, ρ, H, w, fr, cs, hm, hd, hnd, hb, h => by
    obtain ⟨g1, g2, g3⟩ := hb b (List.mem_cons_self ..)
    have hlt : b < w.heap.size := (Array.getElem?_eq_some_iff.1 g1).1
    let w1 : World := { w with heap := w.heap.setIfInBounds b (.deferred none) }
    have hoth1 : ∀ k, k ≠ b → w1.heap[k]? = w.heap[k]? := fun k hk => by
      show (w.heap.setIfInBounds b _)[k]? = _
      rw [Array.getElem?_setIfInBounds_ne (Ne.symm hk)]
    have htake : (Instr.takeDeferred b).run P w = .ok [] w1 := by
      simp only [Instr.takeDeferred, Sem.run_bind, run_getObj_any (P := P) (by intro c t f hh; cases hh) g1, Result.andThen_ok]
      simp only [Sem.run_bind, run_setObj_any (P := P) (by intro c t f hh; cases hh) g1, Result.andThen_ok, Sem.run_pure]
      rfl
    have hstep := step_collected (P := P) (fr := fr) (cs := cs) (w := w) (w' := w1) (d := markOf b) (r := b) (ds := bs.map markOf ++ tl) (calls := []) (by rw [hm]; simp) (by rw [hd]; rfl) rfl htake
    simp only [List.nil_append] at hstep
    have h1 : HR B ρ H w1 := h.others (by simp [w1]) fun b' hb' => hoth1 _ fun hbb => by
      subst hbb
      rcases hb' with hb' | hb'
      · exact g3 hb'
      · cases hc : ρ.fz b' with
        | none => exact hb' hc
        | some c =>
          obtain ⟨arr, ty, f, k1, _⟩ := h.fz b' c hc
          rw [g1] at k1; cases k1
    rw [List.nodup_cons] at hnd
    obtain ⟨w', s1, s2, s3, s4, s5, s6, s7⟩ := marks_out bs { fr with defers := bs.map markOf ++ tl } cs hm rfl hnd.2 (fun b' hb' => by
      obtain ⟨q1, q2, q3⟩ := hb b' (List.mem_cons_of_mem _ hb')
      exact ⟨(hoth1 b' fun e => hnd.1 (e ▸ hb')).trans q1, q2, q3⟩) h1
    refine ⟨w', .head hstep s1, s2, s3, s4, s5, by rw [s6]; simp [w1], fun k hk => ?_⟩
    rw [List.mem_cons, not_or] at hk
    exact (s7 k hk.2).trans (hoth1 k hk.1)

theorem WF.body {f : FuncId} {fn : Func} {c : Code} {args : List AV} {Q : AV → Heap → Prop} (hf : P.funcs[f]? = some fn) (hb : fn.body = some c)
    (h : WC P B H.next none (args.length + (fn.ntmps - args.length)) c (initFr args 0 .nil) H fun x fr' H' => (x = .nor ∨ x = .ret) ∧ ∃ v, ares P fn fr' H' = some v ∧ Q v H') : WF P B f args H Q := by
  intro ρ w xs h1 h2 cs
  have hlen : xs.size = args.length := by have := h2.length; simpa using this
  let a0 : Act := { tmps := xs ++ Array.replicate (fn.ntmps - xs.size) undef, defers := [] }
  let b : Frame := { (default : Frame) with fn := f, kind := .normal }
  have henter : Frame.enter P f xs .normal = b.atR a0 [.code c] := by
    simp [Frame.enter, Frame.atR, hf, hb, b, a0]; rfl
  obtain ⟨e, a', w', ⟨x, fr', H', ρ', rfl, ⟨hx, v, hv, hq⟩, g3, g4, g5, g6, g7⟩, harr⟩   := h (w.heap.size, []) ρ w a0 (Nat.le_of_eq h1.next) h1 (initFr_rel h2 _) (by simp [a0, hlen]) (Marks.nil _ (Nat.le_refl _)) b [] cs rfl trivial (room0 none _)
  have hret : ∃ todo, Steps P (lone (Frame.enter P f xs .normal) cs w) (lone { b.atR a' todo with mode := .returning } cs w') := by
    rw [henter]
    rcases hx with rfl | rfl
    · exact ⟨[], Steps.trans (steps0.1 harr) (.one (stepR_end rfl))⟩
    · obtain ⟨todo, hs⟩ := harr.1 rfl
      exact ⟨todo, steps0.1 hs⟩
  obtain ⟨todo, hs⟩ := hret
  obtain ⟨d0, bs, d1, d2, d3⟩ := g7
  obtain ⟨w2, s1, s2, s3, s4, s5, s6, s7⟩ := marks_out (P := P) bs { b.atR a' todo with mode := .returning } cs rfl d1.marks d2 d3 g4
  obtain ⟨y, hy, hry⟩ := ares_sound (P := P) s2 g5 hv
  refine ⟨.returned y, w2, { { b.atR a' todo with mode := .returning } with defers := [] }, ⟨v, y, H', ρ', rfl, hq, ?_, s2, hry⟩, Steps.trans hs s1, rfl, rfl, rfl, rfl, fn, hf, hy⟩
  rw [h1.next] at g3
  have g3 := g3.toExt
  refine ⟨g3.pre, s3.trans g3.os, s4.trans g3.tape, s5.trans g3.output, by have := g3.size; omega, fun k hk => ?_, fun k hk hn => ?_, fun e he => g3.new e he, g3.fzn⟩
  · refine (s7 k fun hkb => ?_).trans (g3.below k hk)
    have := (d3 k hkb).2.1; have := h1.base; omega
  · refine (s7 k fun hkb => ?_).trans (g3.other k hk hn)
    have := (d3 k hkb).2.1; omega

end
end Go.AM
namespace Go.AM
open Go.RowKit

/-- Operations that only look. -/
def roOp (P : Program) : Op → Bool
  | .move _ | .pick .. | .load .. | .nilCheck _ | .binOp .. | .unOp .. | .makeInterface .. | .makeFunc .. | .slice .. | .fieldAddr .. | .field .. | .indexAddr .. | .index .. | .entry _ | .lookup .. | .typeAssert .. | .extract .. | .build .. => true
  | .convert _ dst _ => match P.underlying dst with
    | some (.int _) => true
    | some .string => true
    | _ => false
  | .call { callee := .builtin b, .. } => match b with
    | .len | .cap | .min | .max => true
    | _ => false
  | _ => false

section
variable {P : Program} {fr fr' : Fr} {H : Heap}

theorem bind_map_val {α β : Type} {x : Option α} {g : α → Option β} {h : β → Res} {q : Res} (hr : (x.bind fun a => (g a).map h) = some q) : ∃ a b, x = some a ∧ g a = some b ∧ h b = q := by
  cases hx : x with
  | none => simp [hx] at hr
  | some a =>
    cases hg : g a with
    | none => simp [hx, hg] at hr
    | some b => simp [hx, hg] at hr; exact ⟨a, b, rfl, hg, hr⟩

set_option maxHeartbeats 4000000 in
theorem ro_val0 {o : Oper} {q : Res} (ho : roOp P o.op = true) (h : aop0 P fr H o = some q) : ∃ v, q = .val v H := by
  obtain ⟨dst, op, type, pos, after, guard⟩ := o
  unfold aop0 at h
  cases op <;> simp only [roOp, Bool.false_eq_true] at ho <;> simp only at h
  case move x => rw [Option.map_eq_some_iff] at h; obtain ⟨v, _, rfl⟩ := h; exact ⟨v, rfl⟩
  case pick c a b =>
    simp only [Option.bind_eq_some_iff] at h
    obtain ⟨v, _, h⟩ := h
    split at h
    · rw [Option.map_eq_some_iff] at h; obtain ⟨v, _, rfl⟩ := h; exact ⟨v, rfl⟩
    · rw [Option.map_eq_some_iff] at h; obtain ⟨v, _, rfl⟩ := h; exact ⟨v, rfl⟩
    · cases h
  case nilCheck x =>
    simp only [Option.bind_eq_some_iff] at h
    obtain ⟨v, _, h⟩ := h
    split at h <;> cases h <;> exact ⟨_, rfl⟩
  case makeInterface t x =>
    simp only [Option.bind_eq_some_iff] at h
    obtain ⟨v, _, d, _, h⟩ := h
    split at h
    · cases h
    · cases h; exact ⟨_, rfl⟩
  case makeFunc f a b =>
    split at h
    · cases h
    · simp only [Option.bind_eq_some_iff, Option.map_eq_some_iff] at h
      obtain ⟨v, _, u, _, rfl⟩ := h; exact ⟨_, rfl⟩
  case extract t i =>
    simp only [Option.bind_eq_some_iff] at h
    obtain ⟨v, _, h⟩ := h
    split at h
    · rw [Option.map_eq_some_iff] at h; obtain ⟨v, _, rfl⟩ := h; exact ⟨v, rfl⟩
    · cases h
  case convert s d x =>
    simp only [Option.bind_eq_some_iff, Option.map_eq_some_iff] at h
    obtain ⟨v, _, u, hu, rfl⟩ := h
    have hu' : ∃ v' r, aConv P H s d v' = some r ∧ u.2 = r.2 := ⟨v, u, hu, rfl⟩
    clear hu
    obtain ⟨v', u', hu, hu2⟩ := hu'
    refine ⟨u.1, ?_⟩
    rw [hu2]
    suffices h : u'.2 = H by rw [h]
    unfold aConv at hu
    simp only [Option.bind_eq_some_iff] at hu
    obtain ⟨us, _, ud, hud, hu⟩ := hu
    rw [hud] at ho
    split at hu
    · cases hu; rfl
    · cases hu; rfl
    · simp at ho
    · simp only [Option.bind_eq_some_iff] at hu
      obtain ⟨ue, _, hu⟩ := hu
      split at hu
      · cases hu; rfl
      · simp only [Option.bind_eq_some_iff, Option.map_eq_some_iff] at hu
        obtain ⟨_, _, _, _, rfl⟩ := hu; rfl
      · cases hu
    · cases hu
  case call c =>
    obtain ⟨callee, args, ats⟩ := c
    cases callee <;> simp only [Bool.false_eq_true] at ho
    rename_i b
    simp only [Option.bind_eq_some_iff, Option.map_eq_some_iff] at h
    obtain ⟨vs, _, u, hu, rfl⟩ := h
    cases b <;> simp only [Bool.false_eq_true] at ho <;> unfold aBuiltin at hu <;> split at hu <;> simp_all only [reduceCtorEq] <;>
      (simp only [Option.bind_eq_some_iff, Option.map_eq_some_iff] at hu) <;>
      first
        | (obtain ⟨_, _, _, _, rfl⟩ := hu; exact ⟨_, rfl⟩)
        | (obtain ⟨_, _, _, _, _, _, rfl⟩ := hu; exact ⟨_, rfl⟩)
        | (cases hu; done)
  all_goals
    simp only [Option.bind_eq_some_iff, Option.map_eq_some_iff] at h
    first
      | (obtain ⟨_, _, _, _, rfl⟩ := h; exact ⟨_, rfl⟩)
      | (obtain ⟨_, _, _, _, _, _, rfl⟩ := h; exact ⟨_, rfl⟩)
      | (obtain ⟨_, _, _, _, _, _, _, _, _, _, rfl⟩ := h; exact ⟨_, rfl⟩)

def tmpsOf (xs : List Operand) : List Tmp := xs.filterMap fun | .tmp t => some t | _ => none

theorem aeval_congr {x : Operand} (h : ∀ t, x = .tmp t → fr.get t = fr'.get t) : aeval fr x = aeval fr' x := by
  cases x <;> simp only [aeval]
  exact h _ rfl

theorem evalL_congr : ∀ {xs : List Operand}, (∀ x ∈ xs, aeval fr x = aeval fr' x) → evalL fr xs = evalL fr' xs
  | [], _ => rfl
  | x :: xs, h => by simp only [evalL, h x (List.mem_cons_self ..), evalL_congr (xs := xs) fun y hy => h y (List.mem_cons_of_mem _ hy)]

theorem evalParts_congr : ∀ {xs : List (Nat × Operand)}, (∀ x ∈ xs, aeval fr x.2 = aeval fr' x.2) → evalParts fr xs = evalParts fr' xs
  | [], _ => rfl
  | (i, x) :: xs, h => by simp only [evalParts, h (i, x) (List.mem_cons_self ..), evalParts_congr (xs := xs) fun y hy => h y (List.mem_cons_of_mem _ hy)]

set_option maxHeartbeats 4000000 in
theorem aop0_congr {o : Oper} (h : ∀ x ∈ o.op.operands, aeval fr x = aeval fr' x) : aop0 P fr H o = aop0 P fr' H o := by
  obtain ⟨dst, op, type, pos, after, guard⟩ := o
  unfold aop0
  cases op <;> simp only [Op.operands] at h <;> simp only
  case build t ps =>
    rw [evalParts_congr (fr' := fr') fun x hx => h x.2 (by simp only [List.mem_toArray, List.mem_map]; exact ⟨x, hx, rfl⟩)]
  case buildSlice t n ps =>
    rw [evalParts_congr (fr' := fr') fun x hx => h x.2 (by simp only [List.mem_toArray, List.mem_map]; exact ⟨x, hx, rfl⟩)]
  case makeFunc f a b =>
    rw [evalL_congr (xs := a.toList) (fr' := fr') fun x hx => h x (by simp at hx ⊢; exact .inl hx), evalL_congr (xs := b.toList) (fr' := fr') fun x hx => h x (by simp at hx ⊢; exact .inr hx)]
  case makeMap t r => cases r <;> simp_all
  case slice t x lo hi mx => cases lo <;> cases hi <;> cases mx <;> simp_all
  case call c =>
    obtain ⟨callee, args, ats⟩ := c
    rw [evalL_congr (xs := args.toList) (fr' := fr') fun x hx => h x (by simp [Call.operands] at hx ⊢; exact .inr hx)]
    cases callee with
    | builtin b => rfl
    | value f => simp only [h f (by simp [Call.operands])]
    | invoke rv m => simp only [h rv (by simp [Call.operands])]
  all_goals (first | rfl | (simp_all; done))


theorem cond_some {α : Type} {b : Bool} {x y : α} (h : (bif b then some x else none) = some y) : x = y := by
  cases b with
  | true => exact Option.some.inj h
  | false => cases h

theorem ro_valX {o : Oper} {q : XRes} (ho : roOp P o.op = true) (h : aopX P fr H o = some q) : (∃ v, q.2 = .val v H) ∨ ∃ l, q.2 = .fams l := by
  obtain ⟨dst, op, type, pos, after, guard⟩ := o
  unfold aopX at h
  cases op <;> simp only [roOp, Bool.false_eq_true] at ho <;> (try simp only at h) <;> (try (cases h; done))
  case binOp op t x y _ =>
    simp only [Option.bind_eq_some_iff] at h
    obtain ⟨_, _, _, _, h⟩ := h
    split at h
    · cases h; exact .inl ⟨_, rfl⟩
    · rw [Option.map_eq_some_iff] at h
      obtain ⟨l, _, rfl⟩ := h
      exact .inr ⟨l, rfl⟩
  all_goals refine .inl ?_
  case nilCheck x =>
    simp only [Option.bind_eq_some_iff] at h
    obtain ⟨v, _, h⟩ := h
    split at h <;> cases h <;> exact ⟨_, rfl⟩
  case convert s d x =>
    simp only [Option.bind_eq_some_iff, Option.map_eq_some_iff] at h
    obtain ⟨v, _, u, hu, rfl⟩ := h
    refine ⟨u.2.1, ?_⟩
    suffices h : u.2.2 = H by simp only [vh, h]
    unfold xConv at hu
    simp only [Option.bind_eq_some_iff] at hu
    obtain ⟨us, _, ud, hud, hu⟩ := hu
    rw [hud] at ho
    split at hu
    · cases hu; rfl
    · cases hu; rfl
    · simp at ho
    · simp only [Option.bind_eq_some_iff] at hu
      obtain ⟨ue, _, hu⟩ := hu
      split at hu <;> first
        | (cases hu; done)
        | (obtain ⟨_, _, rfl⟩ := Option.map_eq_some_iff.1 hu; rfl)
    · simp only [Option.bind_eq_some_iff] at hu
      obtain ⟨j, _, hu⟩ := hu
      cases hz : Nat.beq j.size 0 with
      | true => rw [hz] at hu; cases hu
      | false =>
        rw [hz, cond_false] at hu
        split at hu
        · have := cond_some hu; subst this; rfl
        · cases hu
    · simp only [Option.bind_eq_some_iff] at hu
      obtain ⟨j, _, hu⟩ := hu
      split at hu
      · have := cond_some hu; subst this; rfl
      · cases hu
    · cases hu
  case call c =>
    obtain ⟨callee, args, ats⟩ := c
    cases callee <;> simp only [Bool.false_eq_true, reduceCtorEq] at ho h
    rename_i b
    simp only [Option.bind_eq_some_iff, Option.map_eq_some_iff] at h
    obtain ⟨vs, _, u, hu, rfl⟩ := h
    cases b <;> simp only [Bool.false_eq_true] at ho <;> unfold xBuiltin at hu <;> split at hu <;> simp_all only [reduceCtorEq] <;>
      (simp only [Option.bind_eq_some_iff, Option.map_eq_some_iff] at hu) <;>
      first
        | (obtain ⟨_, _, rfl⟩ := hu; exact ⟨_, rfl⟩)
        | (obtain ⟨_, _, _, _, rfl⟩ := hu; exact ⟨_, rfl⟩)
        | (cases hu; done)
  all_goals
    simp only [Option.bind_eq_some_iff, Option.map_eq_some_iff] at h
    first
      | (obtain ⟨_, _, _, _, rfl⟩ := h; exact ⟨_, rfl⟩)
      | (obtain ⟨_, _, _, _, _, _, rfl⟩ := h; exact ⟨_, rfl⟩)
      | (obtain ⟨_, _, _, _, _, _, _, _, _, _, rfl⟩ := h; exact ⟨_, rfl⟩)

theorem optX_congr {x : Option Operand} (h : ∀ y, x = some y → aeval fr y = aeval fr' y) : optX fr x = optX fr' x := by
  cases x with
  | none => rfl
  | some y => simp only [optX, h y rfl]

theorem aopX_congr {o : Oper} (h : ∀ x ∈ o.op.operands, aeval fr x = aeval fr' x) : aopX P fr H o = aopX P fr' H o := by
  obtain ⟨dst, op, type, pos, after, guard⟩ := o
  unfold aopX
  cases op <;> simp only [Op.operands] at h <;> simp only
  case slice t x lo hi mx =>
    rw [h x (by simp), optX_congr (fr' := fr') fun y hy => h y (by subst hy; simp), optX_congr (x := hi) (fr' := fr') fun y hy => h y (by subst hy; simp), optX_congr (x := mx) (fr' := fr') fun y hy => h y (by subst hy; simp)]
  case call c =>
    obtain ⟨callee, args, ats⟩ := c
    cases callee with
    | builtin b => simp only; rw [evalL_congr (xs := args.toList) (fr' := fr') fun x hx => h x (by simp [Call.operands] at hx ⊢; exact hx)]
    | value f =>
      simp only
      rw [evalL_congr (xs := args.toList) (fr' := fr') fun x hx => h x (by
        simp only [Call.operands, Array.toList_append, List.mem_append, Array.mem_append, Array.mem_toList_iff] at hx ⊢
        first | exact .inr hx | exact .inl hx | simp_all)]
    | invoke rv m => rfl
  all_goals (first | rfl | (simp_all; done))

theorem ro_val {o : Oper} {q : Res} (ho : roOp P o.op = true) (h : aop P fr H o = some q) : (∃ v, q = .val v H) ∨ ∃ l, q = .fams l := by
  obtain ⟨p, h, _⟩ := aop_inv h
  unfold aopC at h
  split at h
  · rename_i r hr; cases h; exact .inl (ro_val0 ho hr)
  · exact ro_valX ho h

theorem aopC_congr {o : Oper} (h : ∀ x ∈ o.op.operands, aeval fr x = aeval fr' x) : aopC P fr H o = aopC P fr' H o := by
  unfold aopC; rw [aop0_congr h, aopX_congr h]

theorem aop_congr {o : Oper} (h : ∀ x ∈ o.op.operands, aeval fr x = aeval fr' x) : aop P fr H o = aop P fr' H o := by
  unfold aop; rw [aopC_congr h]

end
end Go.AM
namespace Go.AM
open Go.RowKit

noncomputable def roVal (P : Program) (ops : Array Oper) (fr : Fr) (H : Heap) (o : Oper) : Option AV :=
  match aWant ops fr o with
  | some true => match aop P fr H o with
    | some (.val v _) => some v
    | _ => none
  | some false => some (.tup [])
  | none => none

/-- What is below, before and behind, in a region. -/
structure Anc (ops : Array Oper) (an : Nat → Nat) : Prop where
  back : ∀ i o, ops[i]? = some o → ∀ e ∈ o.after, Region.binds .any e = true → e.on < i ∧ (an i).testBit e.on = true
  close : ∀ L : Nat → Prop, (∀ i o, ops[i]? = some o → L i → ∀ e ∈ o.after, Region.binds .any e = true → L e.on) →
    ∀ i o, ops[i]? = some o → (∀ e ∈ o.after, Region.binds .any e = true → L e.on) → ∀ j, (an i).testBit j = true → L j

/-- Nobody else writes where this one writes; who looks there has it behind himself. -/
def DstOk (ops : Array Oper) (an : Nat → Nat) (i : Nat) : Prop :=
  ∀ o d, ops[i]? = some o → o.dst = some d → ∀ k ok, ops[k]? = some ok →
    (k ≠ i → ok.dst ≠ some d) ∧ (Operand.tmp d ∈ ok.op.operands → (an k).testBit i = true) ∧
    (∀ j b, ok.guard = some (j, b) → (ops[j]?).bind (·.dst) = some d → (an k).testBit i = true)

section
variable (P : Program) (B : Nat)

structure Cpl (n : Nat) (ops : Array Oper) (an : Nat → Nat) (lA : Nat) (fr : Fr) (H : Heap) (lR : Array Bool) (M : Mk) (ρ : Env) (w : World) (a : Act) : Prop where
  hr : HR B ρ H w
  fr0 : ∃ fr0, FRel ρ fr0 a.tmps ∧ ∀ t, fr0.get t = fr.get t ∨ ∃ j o, lA.testBit j = true ∧ lR.getD j false = false ∧ ops[j]? = some o ∧ o.dst = some t
  size : lR.size = ops.size
  sub : ∀ j, lR.getD j false = true → lA.testBit j = true
  closed : ∀ j o, ops[j]? = some o → lR.getD j false = true → ∀ e ∈ o.after, Region.binds .any e = true → lR.getD e.on false = true
  pend : ∀ j o, ops[j]? = some o → lA.testBit j = true → lR.getD j false = false → roOp P o.op = true ∧ DstOk ops an j ∧ ∃ v v' : AV, roVal P ops fr H o = some v ∧ v'.ub = v.ub ∧ ∀ d, o.dst = some d → d < n ∧ fr.get d = some v'
  tmps : a.tmps.size = n
  marks : Marks M ρ w a.defers

def WD (K : Nat) (r : Option Nat) (n : Nat) (ops : Array Oper) (an : Nat → Nat) (lA : Nat) (fr : Fr) (H : Heap) (Q : Fr → Heap → Prop) : Prop :=
  ∀ (fuel : Nat) (M : Mk) (ρ : Env) (w : World) (a : Act) (lR : Array Bool), K ≤ ρ.ats.length → Cpl P B n ops an lA fr H lR M ρ w a → lR.toList.countP (! ·) ≤ fuel →
    ∀ Qr : Exit → Act → World → Prop, (∀ e a' w', After B K n M ρ w (fun x fr' H' => x = .nor ∧ Q fr' H') e a' w' → Qr e a' w') →
    wpAnyIn (F0 r) 0 P .any ops Qr fuel lR a w
end

section
variable {P : Program} {B K : Nat} {r : Option Nat} {n : Nat} {fr : Fr} {H : Heap} {ρ : Env} {w : World} {ops : Array Oper} {an : Nat → Nat} {lA : Nat} {lR : Array Bool} {M : Mk} {a : Act} {Q : Fr → Heap → Prop}

def Down (ops : Array Oper) (lA : Nat) : Prop := ∀ j o, ops[j]? = some o → lA.testBit j = true → ∀ e ∈ o.after, Region.binds .any e = true → lA.testBit e.on = true

theorem bit_or {lA i j : Nat} : (lA ||| 2 ^ i).testBit j = true ↔ lA.testBit j = true ∨ j = i := by
  rw [Nat.testBit_or, Bool.or_eq_true, Nat.testBit_two_pow, decide_eq_true_iff]
  exact ⟨fun h => h.imp id Eq.symm, fun h => h.imp id Eq.symm⟩

theorem aput_get {fr fr' : Fr} {dst : Option Tmp} {v : AV} (h : aput n fr dst v = some fr') : (∀ d, dst = some d → d < n ∧ fr'.get d = some v) ∧ ∀ t, dst ≠ some t → fr'.get t = fr.get t := by
  unfold aput at h
  cases dst with
  | none => cases h; exact ⟨fun d hd => (by cases hd), fun t _ => rfl⟩
  | some d =>
    simp only at h
    cases hb : Nat.blt d n with
    | false => rw [hb] at h; cases h
    | true =>
      rw [hb] at h
      cases h
      refine ⟨fun d' hd' => ?_, fun t ht => ?_⟩
      · cases hd'; exact ⟨by simpa [Nat.blt_eq] using hb, by rw [T.get_set]; simp⟩
      · rw [T.get_set, if_neg fun e => ht (by rw [e])]

theorem aput_ok {fr : Fr} {dst : Option Tmp} {v : AV} (h : ∀ d, dst = some d → d < n) : ∃ fr', aput n fr dst v = some fr' := by
  unfold aput
  cases dst with
  | none => exact ⟨_, rfl⟩
  | some d =>
    have hb : Nat.blt d n = true := by rw [Nat.blt_eq]; exact h d rfl
    simp only [hb]
    exact ⟨_, rfl⟩

theorem Down.add {i : Nat} {o : Oper} (h : Down ops lA) (ho : ops[i]? = some o) (ha : ∀ e ∈ o.after, Region.binds .any e = true → lA.testBit e.on = true) : Down ops (lA ||| 2 ^ i) := by
  intro j oj hj hb e he hbind
  rw [bit_or] at hb ⊢
  rcases hb with hb | rfl
  · exact .inl (h j oj hj hb e he hbind)
  · rw [ho] at hj; cases hj; exact .inl (ha e he hbind)

theorem aWant_congr {fr fr' : Fr} {o : Oper} (h : ∀ j b d, o.guard = some (j, b) → (ops[j]?).bind (·.dst) = some d → fr.get d = fr'.get d) : aWant ops fr o = aWant ops fr' o := by
  unfold aWant
  split
  · rfl
  · rename_i j want hg
    split
    · rfl
    · rename_i d hd
      rw [h j want d hg hd]

theorem roVal_congr {fr fr' : Fr} {o : Oper} (hg : ∀ j b d, o.guard = some (j, b) → (ops[j]?).bind (·.dst) = some d → fr.get d = fr'.get d) (h : ∀ t, Operand.tmp t ∈ o.op.operands → fr.get t = fr'.get t) : roVal P ops fr H o = roVal P ops fr' H o := by
  unfold roVal
  rw [aWant_congr hg, aop_congr (fr' := fr') fun x hx => aeval_congr fun t ht => h t (ht ▸ hx)]

/-- What an operation that is not yet run looks at stands in the real frame as in the machine's. -/
theorem Cpl.looks (hc : Cpl P B n ops an lA fr H lR M ρ w a) (hA : Anc ops an) {i : Nat} {o : Oper} (ho : ops[i]? = some o)
    (hin : ∀ e ∈ o.after, Region.binds .any e = true → lR.getD e.on false = true) :
    ∃ fr0, FRel ρ fr0 a.tmps ∧ (∀ t, fr0.get t = fr.get t ∨ ∃ j o, lA.testBit j = true ∧ lR.getD j false = false ∧ ops[j]? = some o ∧ o.dst = some t) ∧
      (∀ j b d, o.guard = some (j, b) → (ops[j]?).bind (·.dst) = some d → fr0.get d = fr.get d) ∧ (∀ t, Operand.tmp t ∈ o.op.operands → fr0.get t = fr.get t) := by
  obtain ⟨fr0, h1, h2⟩ := hc.fr0
  have key : ∀ j, lR.getD j false = false → (an i).testBit j = true → False := by
    intro j hl hb
    have := hA.close (fun k => lR.getD k false = true) (fun k ok hk hl e he hb => hc.closed k ok hk hl e he hb) i o ho hin j hb
    rw [hl] at this; cases this
  refine ⟨fr0, h1, h2, fun j b d hg hd => ?_, fun t ht => ?_⟩
  · rcases h2 d with h | ⟨k, ok, k1, k2, k3, k4⟩
    · exact h
    · obtain ⟨_, hdst, _⟩ := hc.pend k ok k3 k1 k2
      exact (key k k2 ((hdst ok d k3 k4 i o ho).2.2 j b hg hd)).elim
  · rcases h2 t with h | ⟨k, ok, k1, k2, k3, k4⟩
    · exact h
    · obtain ⟨_, hdst, _⟩ := hc.pend k ok k3 k1 k2
      exact (key k k2 ((hdst ok t k3 k4 i o ho).2.1 ht)).elim

theorem getD_set {lR : Array Bool} {i j : Nat} (hi : i < lR.size) : (lR.setIfInBounds i true).getD j false = true ↔ lR.getD j false = true ∨ j = i := by
  by_cases h : j = i
  · subst h; simp [hi]
  · rw [getD_set_ne false (Ne.symm h)]; simp [h]

theorem count_set {l : List Bool} {i : Nat} (h : l[i]? = some false) : (l.set i true).countP (! ·) + 1 = l.countP (! ·) := by
  induction l generalizing i with
  | nil => simp at h
  | cons b l ih =>
    cases i with
    | zero => simp at h; subst h; simp
    | succ i => simp only [List.getElem?_cons_succ] at h; simp only [List.set_cons_succ, List.countP_cons]; have := ih h; omega

theorem count_set' {lR : Array Bool} {i : Nat} (hi : i < lR.size) (h : lR.getD i false = false) {fuel : Nat} (hf : lR.toList.countP (! ·) ≤ fuel + 1) : (lR.setIfInBounds i true).toList.countP (! ·) ≤ fuel := by
  have h' : lR.toList[i]? = some false := by
    rw [Array.getElem?_toList]
    rw [Array.getD_eq_getD_getElem?, Array.getElem?_eq_getElem hi] at h
    rw [Array.getElem?_eq_getElem hi]
    simpa using h
  rw [Array.toList_setIfInBounds]
  have := count_set h'
  omega

theorem fuel_pos {lR : Array Bool} {i : Nat} (hi : i < lR.size) (h : lR.getD i false = false) : 0 < lR.toList.countP (! ·) := by
  rw [List.countP_pos_iff]
  refine ⟨lR[i], Array.getElem_mem_toList hi, ?_⟩
  rw [Array.getD_eq_getD_getElem?, Array.getElem?_eq_getElem hi] at h
  simpa using h

/-- One that was only to come is run. -/
theorem Cpl.late (hc : Cpl P B n ops an lA fr H lR M ρ w a) (hA : Anc ops an) {i : Nat} {o : Oper} (ho : ops[i]? = some o) (hp : lA.testBit i = true) (hl : lR.getD i false = false)
    (hin : ∀ e ∈ o.after, Region.binds .any e = true → lR.getD e.on false = true) {K : Act → World → Prop} {Qr : Exit → Act → World → Prop}
    (hK : ∀ ρ' w' a', Ext B ρ w ρ' w' → Cpl P B n ops an lA fr H (lR.setIfInBounds i true) M ρ' w' a' → K a' w') : wpOpIn (F0 r) 0 P ops Qr i K a w := by
  obtain ⟨hro, hdst, v, v', hv, hun, hd⟩ := hc.pend i o ho hp hl
  obtain ⟨fr0, f1, f2, f3, f4⟩ := hc.looks hA ho hin
  have hi : i < lR.size := by rw [hc.size]; exact (Array.getElem?_eq_some_iff.1 ho).1
  have hv0 : roVal P ops fr0 H o = some v := by rw [roVal_congr f3 f4]; exact hv
  -- what holds when the value is put
  have fin : ∀ ρ' w' x, Ext B ρ w ρ' w' → HR B ρ' H w' → Rel ρ' v x → K (a.put o.dst x) w' := by
    intro ρ' w' x e1 e2 e30
    have e3 : Rel ρ' v' x := e30.eqv hun
    obtain ⟨fr1, hp1⟩ := aput_ok (n := n) (fr := fr0) (v := v') fun d hdd => (hd d hdd).1
    obtain ⟨hq1, hq2⟩ := aput_get hp1
    obtain ⟨p1, p2, p3⟩ := aput_sound (f1.mono e1.pre) hc.tmps e3 hp1
    refine hK ρ' w' _ e1 ⟨e2, ⟨fr1, p1, fun t => ?_⟩, by simp [hc.size], fun j hj => ?_, fun j oj hj hjl e he hb => ?_, fun j oj hj hjA hjl => ?_, p2, by rw [p3]; exact hc.marks.ext e1⟩
    · by_cases hdt : o.dst = some t
      · exact .inl ((hq1 t hdt).2.trans (hd t hdt).2.symm)
      · rw [hq2 t hdt]
        rcases f2 t with g | ⟨j, oj, g1, g2, g3, g4⟩
        · exact .inl g
        · refine .inr ⟨j, oj, g1, ?_, g3, g4⟩
          have hji : j ≠ i := by rintro rfl; rw [ho] at g3; cases g3; exact hdt g4
          rw [getD_set_ne false (Ne.symm hji)]; exact g2
    · rcases (getD_set hi).1 hj with h | rfl
      · exact hc.sub j h
      · exact hp
    · rw [getD_set hi] at hjl ⊢
      rcases hjl with h | rfl
      · exact .inl (hc.closed j oj hj h e he hb)
      · rw [ho] at hj; cases hj; exact .inl (hin e he hb)
    · refine hc.pend j oj hj hjA ?_
      cases hh : lR.getD j false with
      | false => rfl
      | true => rw [(getD_set hi).2 (.inl hh)] at hjl; cases hjl
  unfold wpOpIn
  simp only [ho]
  unfold roVal at hv0
  cases hw : aWant ops fr0 o with
  | none => rw [hw] at hv0; cases hv0
  | some b =>
    rw [hw] at hv0
    rw [aWant_sound f1 hw]
    cases b with
    | false =>
      simp only at hv0; cases hv0
      exact ⟨fun f _ => trivial, fin ρ w undef (Ext.refl _ _ _) hc.hr (by simp [Rel, RelL, undef])⟩
    | true =>
      simp only at hv0
      simp only [if_true]
      refine ⟨fun f _ => trivial, ?_⟩
      cases hq : aop P fr0 H o with
      | none => rw [hq] at hv0; cases hv0
      | some q =>
        rcases ro_val hro hq with ⟨v', rfl⟩ | ⟨l, rfl⟩
        rotate_left
        · rw [hq] at hv0; cases hv0
        rw [hq] at hv0; cases hv0
        rw [semAt_of (aop_not_defer hq)]
        obtain ⟨x, w', ρ', hrun, g2, g3, g4⟩ := aop_sound hc.hr f1 hq
        rcases hrun with hrun | ⟨hrun, rfl⟩
        · rw [hrun]; exact fin ρ' w' x g2 g3 g4
        · rw [hrun]; exact fin ρ' w' undef g2 g3 g4

/-- Anything that is ready is either to come late, or is the one. -/
theorem Cpl.go {hs : List Nat} (hA : Anc ops an)
    (hone : ∀ k ok, ops[k]? = some ok → lA.testBit k = false → k ∉ hs → ∃ e ∈ ok.after, Region.binds .any e = true ∧ lA.testBit e.on = false)
    {ρ0 : Env} {w0 : World} {Qr : Exit → Act → World → Prop}
    (hi : ∀ i ∈ hs, ∀ o, ops[i]? = some o → lA.testBit i = false → ∀ (fuel : Nat) (ρ : Env) (w : World) (a : Act) (lR : Array Bool), Ext B ρ0 w0 ρ w → Cpl P B n ops an lA fr H lR M ρ w a →
      (∀ e ∈ o.after, Region.binds .any e = true → lR.getD e.on false = true) → lR.getD i false = false → lR.toList.countP (! ·) ≤ fuel + 1 →
      wpOpIn (F0 r) 0 P ops Qr i (wpAnyIn (F0 r) 0 P .any ops Qr fuel (lR.setIfInBounds i true)) a w)
    (hQ : (∀ k, k < ops.size → lA.testBit k = true) → ∀ (ρ : Env) (w : World) (a : Act), Ext B ρ0 w0 ρ w → HR B ρ H w → FRel ρ fr a.tmps → a.tmps.size = n → Marks M ρ w a.defers → Qr .normal a w) :
    ∀ (fuel : Nat) (ρ : Env) (w : World) (a : Act) (lR : Array Bool), Ext B ρ0 w0 ρ w → Cpl P B n ops an lA fr H lR M ρ w a → lR.toList.countP (! ·) ≤ fuel →
      wpAnyIn (F0 r) 0 P .any ops Qr fuel lR a w := by
  have hall : ∀ lR : Array Bool, Region.ready .any ops lR = [] → lR.size = ops.size → ∀ k, k < ops.size → lR.getD k false = true := by
    intro lR hnil hsz k
    induction k using Nat.strongRecOn with
    | ind k ih =>
      intro hk
      cases hh : lR.getD k false with
      | true => rfl
      | false =>
        have ho : ops[k]? = some ops[k] := Array.getElem?_eq_getElem hk
        have hmem : k ∈ Region.ready .any ops lR := by
          rw [mem_ready]
          refine ⟨?_, ops[k], ho, fun e he hb => ih e.on (hA.back k _ ho e he hb).1 (Nat.lt_trans (hA.back k _ ho e he hb).1 hk)⟩
          rw [Array.getD_eq_getD_getElem?, Array.getElem?_eq_getElem (by rw [hsz]; exact hk)] at hh ⊢
          simpa using hh
        rw [hnil] at hmem; cases hmem
  have hend : ∀ (ρ : Env) (w : World) (a : Act) (lR : Array Bool), Ext B ρ0 w0 ρ w → Cpl P B n ops an lA fr H lR M ρ w a → Region.ready .any ops lR = [] → Qr .normal a w := by
    intro ρ w a lR he hc hnil
    have hR := hall lR hnil hc.size
    refine hQ (fun k hk => hc.sub k (hR k hk)) ρ w a he hc.hr ?_ hc.tmps hc.marks
    obtain ⟨fr0, f1, f2⟩ := hc.fr0
    intro t v ht
    refine f1 t v ?_
    rcases f2 t with g | ⟨j, oj, g1, g2, g3, g4⟩
    · rw [g]; exact ht
    · rw [hR j (Array.getElem?_eq_some_iff.1 g3).1] at g2; cases g2
  intro fuel
  induction fuel with
  | zero =>
    intro ρ w a lR he hc hf
    have hnil : Region.ready .any ops lR = [] := by
      cases hr : Region.ready .any ops lR with
      | nil => rfl
      | cons x xs =>
        have hx : x ∈ Region.ready .any ops lR := by rw [hr]; exact List.mem_cons_self ..
        obtain ⟨h1, o, h2, _⟩ := mem_ready.1 hx
        have hlt : x < lR.size := by rw [hc.size]; exact (Array.getElem?_eq_some_iff.1 h2).1
        have h3 : lR.getD x false = false := by
          rw [Array.getD_eq_getD_getElem?, Array.getElem?_eq_getElem hlt] at h1 ⊢
          simpa using h1
        have := fuel_pos hlt h3
        omega
    exact ⟨hnil, hend ρ w a lR he hc hnil⟩
  | succ fuel ih =>
    intro ρ w a lR he hc hf
    refine ⟨fun hnil => hend ρ w a lR he hc hnil, fun k hk => ?_⟩
    obtain ⟨h1, o, h2, h3⟩ := mem_ready.1 hk
    have hlt : k < lR.size := by rw [hc.size]; exact (Array.getElem?_eq_some_iff.1 h2).1
    have h4 : lR.getD k false = false := by
      rw [Array.getD_eq_getD_getElem?, Array.getElem?_eq_getElem hlt] at h1 ⊢
      simpa using h1
    cases hA' : lA.testBit k with
    | true =>
      exact hc.late hA h2 hA' h4 h3 fun ρ' w' a' e1 hc' => ih ρ' w' a' _ (he.trans e1) hc' (count_set' hlt h4 hf)
    | false =>
      by_cases hki : k ∈ hs
      · exact hi k hki o h2 hA' fuel ρ w a lR he hc h3 h4 hf
      · obtain ⟨e, he1, he2, he3⟩ := hone k o h2 hA' hki
        have := hc.sub _ (h3 e he1 he2)
        rw [he3] at this; cases this

/-- The end. -/
theorem WD.done (hA : Anc ops an) (hall : ∀ k, k < ops.size → lA.testBit k = true) (h : Q fr H) : WD P B K r n ops an lA fr H Q := by
  intro fuel M ρ w a lR hk hc hf Qr hQr
  refine Cpl.go (hs := []) hA (fun k ok hk hb _ => ?_) (fun i hi => nomatch hi) (fun _ ρ' w' a' e1 e2 e3 e4 e5 => ?_) fuel ρ w a lR (Ext.refl _ _ _) hc hf
  · rw [hall k (Array.getElem?_eq_some_iff.1 hk).1] at hb; cases hb
  · exact hQr _ _ _ ⟨.nor, fr, H, ρ', rfl, ⟨rfl, h⟩, e1.toK hk, e2, e3, e4, e5⟩

/-- One that only looks: the machine runs it now. -/
theorem WD.ro {i : Nat} {o : Oper} {v v' : AV} {fr' : Fr} (hA : Anc ops an) (ho : ops[i]? = some o) (hdown : Down ops lA) (hn : lA.testBit i = false) (hro : roOp P o.op = true) (hdst : DstOk ops an i)
    (hv : roVal P ops fr H o = some v) (hun : v'.ub = v.ub) (hp : aput n fr o.dst v' = some fr') (h : WD P B K r n ops an (lA ||| 2 ^ i) fr' H Q) : WD P B K r n ops an lA fr H Q := by
  intro fuel M ρ w a lR hk hc hf Qr hQr
  obtain ⟨q1, q2⟩ := aput_get hp
  have hnR : lR.getD i false = false := by
    cases hh : lR.getD i false with
    | false => rfl
    | true => rw [hc.sub i hh] at hn; cases hn
  refine h fuel M ρ w a lR hk ⟨hc.hr, ?_, hc.size, fun j hj => bit_or.2 (.inl (hc.sub j hj)), hc.closed, fun j oj hj hjA hjl => ?_, hc.tmps, hc.marks⟩ hf Qr hQr
  · obtain ⟨fr0, f1, f2⟩ := hc.fr0
    refine ⟨fr0, f1, fun t => ?_⟩
    by_cases ht : o.dst = some t
    · exact .inr ⟨i, o, bit_or.2 (.inr rfl), hnR, ho, ht⟩
    · rw [q2 t ht]
      rcases f2 t with g | ⟨j, oj, g1, g2, g3, g4⟩
      · exact .inl g
      · exact .inr ⟨j, oj, bit_or.2 (.inl g1), g2, g3, g4⟩
  · -- nobody in the machine's past looks at what is written now
    have hpast : ∀ k ok, ops[k]? = some ok → (k = i ∨ lA.testBit k = true) → roVal P ops fr' H ok = roVal P ops fr H ok := by
      intro k ok hk hor
      have hno : (an k).testBit i = true → False := fun hb => by
        rcases hor with rfl | hkA
        · have := hA.close (fun j => j < k) (fun m om hm hmk e he hb => Nat.lt_trans (hA.back m om hm e he hb).1 hmk) k ok hk (fun e he hb => (hA.back k ok hk e he hb).1) k hb
          exact Nat.lt_irrefl _ this
        · have := hA.close (fun j => lA.testBit j = true) (fun m om hm hmk e he hb => hdown m om hm hmk e he hb) k ok hk (fun e he hb => hdown k ok hk hkA e he hb) i hb
          rw [hn] at this; cases this
      refine roVal_congr (fun j b d hg hd => ?_) fun t ht => ?_
      · refine q2 d fun hod => ?_
        exact hno ((hdst o d ho hod k ok hk).2.2 j b hg hd)
      · refine q2 t fun hod => ?_
        exact hno ((hdst o t ho hod k ok hk).2.1 ht)
    rw [bit_or] at hjA
    rcases hjA with hjA | rfl
    · obtain ⟨p1, p2, v1, v2, p3, pun, p4⟩ := hc.pend j oj hj hjA hjl
      refine ⟨p1, p2, v1, v2, by rw [hpast j oj hj (.inr hjA)]; exact p3, pun, fun d hd => ⟨(p4 d hd).1, ?_⟩⟩
      rw [q2 d fun hod => ?_]
      · exact (p4 d hd).2
      · have hji : j ≠ i := by rintro rfl; rw [hn] at hjA; cases hjA
        exact (hdst o d ho hod j oj hj).1 hji hd
    · rw [ho] at hj; cases hj
      exact ⟨hro, hdst, v, v', by rw [hpast j o ho (.inl rfl)]; exact hv, hun, fun d hd => q1 d hd⟩

/-- What must be said again behind an operation that does more than look. -/
def Again (P : Program) (_n : Nat) (ops : Array Oper) (an : Nat → Nat) (lA i : Nat) (fr : Fr) (H : Heap) : Prop :=
  ∀ j oj, ops[j]? = some oj → lA.testBit j = true → (an i).testBit j = false → roOp P oj.op = true → ∃ v v' : AV, roVal P ops fr H oj = some v ∧ v'.ub = v.ub ∧ ∀ d, oj.dst = some d → fr.get d = some v'

def Alone (ops : Array Oper) (lA : Nat) (hs : List Nat) : Prop :=
  ∀ k ok, ops[k]? = some ok → lA.testBit k = false → k ∉ hs → ∃ e ∈ ok.after, Region.binds .any e = true ∧ lA.testBit e.on = false

theorem Cpl.loud {ρ' : Env} {w' : World} {i : Nat} {o : Oper} {v : AV} {x : Value} {fr0 fr' : Fr} {H' : Heap} (hA : Anc ops an) (hc : Cpl P B n ops an lA fr H lR M ρ w a) (ho : ops[i]? = some o)
    (hn : lA.testBit i = false) (hin : ∀ e ∈ o.after, Region.binds .any e = true → lR.getD e.on false = true)
    (f1 : FRel ρ fr0 a.tmps) (f2 : ∀ t, fr0.get t = fr.get t ∨ ∃ j o, lA.testBit j = true ∧ lR.getD j false = false ∧ ops[j]? = some o ∧ o.dst = some t)
    (e1 : Ext B ρ w ρ' w') (e2 : HR B ρ' H' w') (e3 : Rel ρ' v x) (hp : aput n fr o.dst v = some fr') (hag : Again P n ops an lA i fr' H') :
    Cpl P B n ops an (lA ||| 2 ^ i) fr' H' (lR.setIfInBounds i true) M ρ' w' (a.put o.dst x) := by
  obtain ⟨q1, q2⟩ := aput_get hp
  obtain ⟨fr1, hp1⟩ := aput_ok (n := n) (fr := fr0) (v := v) fun d hdd => (q1 d hdd).1
  obtain ⟨r1, r2⟩ := aput_get hp1
  obtain ⟨p1, p2, p3⟩ := aput_sound (f1.mono e1.pre) hc.tmps e3 hp1
  have hi : i < lR.size := by rw [hc.size]; exact (Array.getElem?_eq_some_iff.1 ho).1
  refine ⟨e2, ⟨fr1, p1, fun t => ?_⟩, by simp [hc.size], fun j hj => ?_, fun j oj hj hjl e he hb => ?_, fun j oj hj hjA hjl => ?_, p2, by rw [p3]; exact hc.marks.ext e1⟩
  · by_cases hdt : o.dst = some t
    · exact .inl ((r1 t hdt).2.trans (q1 t hdt).2.symm)
    · rw [r2 t hdt, q2 t hdt]
      rcases f2 t with g | ⟨j, oj, g1, g2, g3, g4⟩
      · exact .inl g
      · have hji : j ≠ i := by rintro rfl; rw [hn] at g1; cases g1
        exact .inr ⟨j, oj, bit_or.2 (.inl g1), by rw [getD_set_ne false (Ne.symm hji)]; exact g2, g3, g4⟩
  · rcases (getD_set hi).1 hj with h | rfl
    · exact bit_or.2 (.inl (hc.sub j h))
    · exact bit_or.2 (.inr rfl)
  · rw [getD_set hi] at hjl ⊢
    rcases hjl with h | rfl
    · exact .inl (hc.closed j oj hj h e he hb)
    · rw [ho] at hj; cases hj; exact .inl (hin e he hb)
  · have hji : j ≠ i := by rintro rfl; rw [(getD_set hi).2 (.inr rfl)] at hjl; cases hjl
    have hjA' : lA.testBit j = true := (bit_or.1 hjA).resolve_right hji
    rw [getD_set_ne false (Ne.symm hji)] at hjl
    obtain ⟨p1, p2, _, _, _, _, p4⟩ := hc.pend j oj hj hjA' hjl
    have hanc : (an i).testBit j = false := by
      cases hh : (an i).testBit j with
      | false => rfl
      | true =>
        have := hA.close (fun k => lR.getD k false = true) (fun k ok hk hl e he hb => hc.closed k ok hk hl e he hb) i o ho hin j hh
        rw [hjl] at this; cases this
    obtain ⟨v1, v2, g1, gun, g2⟩ := hag j oj hj hjA' hanc p1
    exact ⟨p1, p2, v1, v2, g1, gun, fun d hd => ⟨(p4 d hd).1, g2 d hd⟩⟩

/-- One that does more than look: what it does, from any frame that agrees where it looks. -/
def WI (P : Program) (B K : Nat) (r : Option Nat) (n : Nat) (ops : Array Oper) (an : Nat → Nat) (lA i : Nat) (o : Oper) (fr : Fr) (H : Heap) (Q : Fr → Heap → Prop) : Prop :=
  ∀ (ρ : Env) (w : World) (a : Act) (fr0 : Fr) (Kw : Act → World → Prop) (Qr : Exit → Act → World → Prop), HR B ρ H w → FRel ρ fr0 a.tmps → aWant ops fr0 o = aWant ops fr o → (∀ x ∈ o.op.operands, aeval fr0 x = aeval fr x) →
      (∀ ρ' w' v x fr' H', Ext B ρ w ρ' w' → HR B ρ' H' w' → Rel ρ' v x → aput n fr o.dst v = some fr' → Again P n ops an lA i fr' H' → WD P B K r n ops an (lA ||| 2 ^ i) fr' H' Q → Kw (a.put o.dst x) w') →
      wpOpIn (F0 r) 0 P ops Qr i Kw a w

/-- Some that are ready, any of which may be next. -/
theorem WD.louds {hs : List Nat} {i0 : Nat} (hA : Anc ops an) (hone : Alone ops lA hs) (h0 : i0 ∈ hs)
    (h : ∀ i ∈ hs, ∃ o, ops[i]? = some o ∧ lA.testBit i = false ∧ WI P B K r n ops an lA i o fr H Q) : WD P B K r n ops an lA fr H Q := by
  intro fuel M ρ w a lR hk hc hf Qr hQr
  refine Cpl.go (hs := hs) hA hone (fun i hi o' ho' _ fuel ρ1 w1 a1 lR1 he hc1 hin hl hf1 => ?_) (fun hall => ?_) fuel ρ w a lR (Ext.refl _ _ _) hc hf
  · obtain ⟨o, ho, hn, h⟩ := h i hi
    rw [ho] at ho'; cases ho'
    have hlt : i < ops.size := (Array.getElem?_eq_some_iff.1 ho).1
    obtain ⟨fr0, f1, f2, f3, f4⟩ := hc1.looks hA ho hin
    have hi1 : i < lR1.size := by rw [hc1.size]; exact hlt
    refine h ρ1 w1 a1 fr0 _ _ hc1.hr f1 (aWant_congr f3) (fun x hx => aeval_congr fun t ht => f4 t (ht ▸ hx)) ?_
    intro ρ' w' v x fr' H' e1 e2 e3 hp hag hWD
    exact hWD fuel M ρ' w' _ _ (Nat.le_trans hk (he.trans e1).pre.ats.length_le) (hc1.loud hA ho hn hin f1 f2 e1 e2 e3 hp hag) (count_set' hi1 hl hf1) Qr fun e a' w' hh => hQr e a' w' (hh.ext hk (he.trans e1))
  · obtain ⟨o, ho, hn, _⟩ := h i0 h0
    rw [hall i0 (Array.getElem?_eq_some_iff.1 ho).1] at hn; cases hn

theorem HR.fresh (h : HR B ρ H w) : HR B ρ { t := H.t, next := H.next, d := 0 } w := ⟨h.next, h.base, h.bnd, h.obj, h.inj, h.fz, h.fzo⟩

theorem WI.fresh {i : Nat} {o : Oper} (h : WI P B K r n ops an lA i o fr { t := H.t, next := H.next, d := 0 } Q) : WI P B K r n ops an lA i o fr H Q :=
  fun ρ w a fr0 Kw Qr h1 h2 h3 h4 h5 => h ρ w a fr0 Kw Qr h1.fresh h2 h3 h4 h5

theorem WI.val {i : Nat} {o : Oper} {v v' : AV} {fr' : Fr} {H' : Heap} (ho : ops[i]? = some o) (hw : aWant ops fr o = some true) (he : aop P fr H o = some (.val v H'))
    (hun : v'.ub = v.ub) (hp : aput n fr o.dst v' = some fr') (hag : Again P n ops an lA i fr' H') (h : WD P B K r n ops an (lA ||| 2 ^ i) fr' H' Q) : WI P B K r n ops an lA i o fr H Q := by
  intro ρ w a fr0 K Qr h1 h2 g1 g2 hK
  have g2 : aop P fr0 H o = aop P fr H o := aop_congr g2
  rw [hw] at g1; rw [he] at g2
  unfold wpOpIn
  simp only [ho, aWant_sound h2 g1, if_true]
  refine ⟨fun f _ => trivial, ?_⟩
  rw [semAt_of (aop_not_defer g2)]
  obtain ⟨x, w', ρ', hrun, e2, e3, e4⟩ := aop_sound h1 h2 g2
  rcases hrun with hrun | ⟨hrun, rfl⟩
  · rw [hrun]; exact hK ρ' w' v' x fr' H' e2 e3 (e4.eqv hun) hp hag h
  · rw [hrun]; exact hK ρ' w' v' undef fr' H' e2 e3 (e4.eqv hun) hp hag h

theorem WI.opts {i : Nat} {o : Oper} {l : List (AV × Heap)} (ho : ops[i]? = some o) (hw : aWant ops fr o = some true) (he : aop P fr H o = some (.opts l))
    (h : ∀ q ∈ l, ∃ fr', aput n fr o.dst q.1 = some fr' ∧ Again P n ops an lA i fr' q.2 ∧ WD P B K r n ops an (lA ||| 2 ^ i) fr' q.2 Q) : WI P B K r n ops an lA i o fr H Q := by
  intro ρ w a fr0 K Qr h1 h2 g1 g2 hK
  have g2 : aop P fr0 H o = aop P fr H o := aop_congr g2
  rw [hw] at g1; rw [he] at g2
  unfold wpOpIn
  simp only [ho, aWant_sound h2 g1, if_true]
  refine ⟨fun f _ => trivial, ?_⟩
  rw [semAt_of (aop_not_defer g2)]
  obtain ⟨q, hq, x, w', ρ', hrun, e2, e3, e4⟩ := aop_sound h1 h2 g2
  obtain ⟨fr', hp, hag, hWD⟩ := h q hq
  rw [hrun]; exact hK ρ' w' q.1 x fr' q.2 e2 e3 e4 hp hag hWD

theorem WI.fams {i : Nat} {o : Oper} {l : List ((Nat → Prop) × (Nat → AV × Heap))} (ho : ops[i]? = some o) (hw : aWant ops fr o = some true) (he : aop P fr H o = some (.fams l))
    (h : ∀ q ∈ l, ∀ j, q.1 j → ∃ fr', aput n fr o.dst (q.2 j).1 = some fr' ∧ Again P n ops an lA i fr' (q.2 j).2 ∧ WD P B K r n ops an (lA ||| 2 ^ i) fr' (q.2 j).2 Q) : WI P B K r n ops an lA i o fr H Q := by
  intro ρ w a fr0 K Qr h1 h2 g1 g2 hK
  have g2 : aop P fr0 H o = aop P fr H o := aop_congr g2
  rw [hw] at g1; rw [he] at g2
  unfold wpOpIn
  simp only [ho, aWant_sound h2 g1, if_true]
  refine ⟨fun f _ => trivial, ?_⟩
  rw [semAt_of (aop_not_defer g2)]
  obtain ⟨q, hq, j, hj, x, w', ρ', hrun, e2, e3, e4⟩ := aop_sound h1 h2 g2
  obtain ⟨fr', hp, hag, hWD⟩ := h q hq j hj
  rw [hrun]; exact hK ρ' w' (q.2 j).1 x fr' (q.2 j).2 e2 e3 e4 hp hag hWD

theorem WI.skipped {i : Nat} {o : Oper} {fr' : Fr} (ho : ops[i]? = some o) (hw : aWant ops fr o = some false)
    (hp : aput n fr o.dst (.tup []) = some fr') (hag : Again P n ops an lA i fr' H) (h : WD P B K r n ops an (lA ||| 2 ^ i) fr' H Q) : WI P B K r n ops an lA i o fr H Q := by
  intro ρ w a fr0 K Qr h1 h2 g1 g2 hK
  rw [hw] at g1
  unfold wpOpIn
  simp only [ho, aWant_sound h2 g1]
  exact ⟨fun f _ => trivial, hK ρ w (.tup []) undef fr' H (Ext.refl _ _ _) h1 (by simp [Rel, RelL, undef]) hp hag h⟩

theorem WI.call {i : Nat} {o : Oper} {f : FuncId} {args : List AV} (ho : ops[i]? = some o) (hw : aWant ops fr o = some true) (he : aop P fr H o = some (.call f args))
    (h : WF P B f args H fun v H' => ∃ fr', aput n fr o.dst v = some fr' ∧ Again P n ops an lA i fr' H' ∧ WD P B K r n ops an (lA ||| 2 ^ i) fr' H' Q) : WI P B K r n ops an lA i o fr H Q := by
  intro ρ w a fr0 K Qr h1 h2 g1 g2 hK
  have g2 : aop P fr0 H o = aop P fr H o := aop_congr g2
  rw [hw] at g1; rw [he] at g2
  unfold wpOpIn
  simp only [ho, aWant_sound h2 g1, if_true]
  refine ⟨fun f _ => trivial, ?_⟩
  rw [semAt_of (aop_not_defer g2)]
  obtain ⟨xs, hrun, hargs⟩ := aop_sound h1 h2 g2
  rw [hrun]
  refine ⟨fun h => by simp [F0] at h, calls0 ((h ρ w xs h1 hargs).mono ?_)⟩
  rintro e w' ⟨v, x, H', ρ', rfl, ⟨fr', hp, hag, hWD⟩, e2, e3, e4⟩
  exact hK ρ' w' v x fr' H' e2 e3 e4 hp hag hWD

theorem HR.drawn {k : Nat} (h : HR B ρ H w) : HR B ρ H { w with drawn := k } where
  next := h.next
  base := h.base
  bnd := h.bnd
  obj := fun i o hi => let ⟨e, he, ho⟩ := h.obj i o hi; ⟨e, he, ho.mono (Env.le_refl _) fun _ => rfl⟩
  inj := h.inj
  fz := h.fz
  fzo := h.fzo

theorem WC.drawn {id : Nat} {Q : Post} (hm : P.follows .mixedOrders = true) (h : WD P B K r n ops an 0 fr H fun fr' H' => Q .nor fr' H') : WC P B K r n (.region id ops true) fr H Q := by
  intro M ρ w a hk h1 h2 h3 h4
  refine wpIn_region_any hm (h ops.size M ρ { w with drawn := w.drawn + 1 } a (Array.replicate ops.size false) hk ⟨h1.drawn, ⟨fr, h2, fun t => .inl rfl⟩, Array.size_replicate, fun j hj => ?_, fun j o hj hl => ?_, fun j o hj hl => ?_, h3, h4⟩ ?_ _ ?_)
  · exfalso; revert hj; simp only [Array.getD_eq_getD_getElem?, Array.getElem?_replicate]; split <;> simp
  · exfalso; revert hl; simp only [Array.getD_eq_getD_getElem?, Array.getElem?_replicate]; split <;> simp
  · simp at hl
  · refine Nat.le_trans List.countP_le_length (by simp)
  · rintro e a' w' ⟨x, fr', H', ρ', rfl, ⟨rfl, g2⟩, g3, g4⟩
    exact ⟨.nor, fr', H', ρ', rfl, g2, ⟨g3.pre, g3.kle, g3.fz, g3.os, g3.tape, g3.output, g3.size, g3.below, g3.other, g3.new, g3.fzn⟩, g4⟩

end
end Go.AM
set_option linter.unusedSimpArgs false
set_option linter.unusedVariables false
namespace Go.AM
open Go.RowKit

section
variable {P : Program} {B K : Nat} {r : Option Nat} {n : Nat} {fr : Fr} {H : Heap} {ρ : Env} {w : World}

theorem HR.grow (h : HR B ρ H w) (O : Obj) : HR B ρ H (w.alloc O) where
  next := h.next
  base := Nat.le_trans h.base (by rw [size_alloc]; omega)
  bnd := fun b hb => by rw [size_alloc]; have := h.bnd b hb; omega
  obj := fun i o hi => let ⟨e, he, ho⟩ := h.obj i o hi; ⟨e, he, ho.mono (Env.le_refl _) fun hn => heap_alloc w O e.b (ho.lt hn)⟩
  inj := h.inj
  fz := fun b c hc => let ⟨arr, ty, f, h1, h2⟩ := h.fz b c hc; ⟨arr, ty, f, (heap_alloc w O b (h.fzlt hc)).trans h1, h2⟩
  fzo := h.fzo

theorem Ext.grow (B : Nat) (ρ : Env) (w : World) (hB : B ≤ w.heap.size) (O : Obj) : Ext B ρ w ρ (w.alloc O) where
  pre := Env.le_refl _
  os := rfl
  tape := rfl
  output := rfl
  size := by rw [size_alloc]; omega
  below k hk := heap_alloc w O k (Nat.lt_of_lt_of_le hk hB)
  other k hk _ := heap_alloc w O k hk
  new b hb := .inl hb
  fzn _ _ h := .inl h

theorem run_newObj' (O : Obj) : (newObj O).run P w = .ok w.heap.size (w.alloc O) := by
  first
    | rfl
    | simp [newObj, Sem.run_bind]

def setParams (nt : Nat) : Fr → List Tmp → List AV → Option Fr
  | fr, [], [] => some fr
  | fr, p :: ps, v :: vs => (aput nt fr (some p) v).bind fun fr' => setParams nt fr' ps vs
  | _, _, _ => none

theorem setParams_sound : ∀ {ps : List Tmp} {vs : List AV} {xs : List Value} {fr fr' : Fr} {tmps : Array Value}, FRel ρ fr tmps → tmps.size = n → RelL ρ vs xs → setParams n fr ps vs = some fr' →
    xs.length = ps.length ∧ FRel ρ fr' ((ps.zip xs).foldl (fun tmps (q : Tmp × Value) => tmps.setIfInBounds q.1 q.2) tmps) ∧ ((ps.zip xs).foldl (fun tmps (q : Tmp × Value) => tmps.setIfInBounds q.1 q.2) tmps).size = n
  | [], [], xs, fr, fr', tmps, hf, hn, hr, hp => by
    simp only [RelL] at hr; subst hr; cases hp; exact ⟨rfl, hf, hn⟩
  | p :: ps, v :: vs, xs, fr, fr', tmps, hf, hn, hr, hp => by
    simp only [RelL] at hr
    obtain ⟨x, xs', rfl, h1, h2⟩ := hr
    simp only [setParams, Option.bind_eq_some_iff] at hp
    obtain ⟨fr1, hp1, hp2⟩ := hp
    obtain ⟨q1, q2, _⟩ := aput_sound (a := { tmps := tmps, defers := [] }) hf hn h1 hp1
    obtain ⟨g1, g2, g3⟩ := setParams_sound (ps := ps) (vs := vs) (xs := xs') q1 q2 h2 hp2
    exact ⟨by simp [g1], g2, g3⟩
  | [], _ :: _, _, _, _, _, _, _, _, hp => by simp [setParams] at hp
  | _ :: _, [], _, _, _, _, _, _, _, hp => by simp [setParams] at hp

theorem aev_const (a : Act) (v : Value) : a.eval (.const v) = v := rfl

def jumpOf : XT → Option Code
  | .nor => none
  | .ex id => some (.exit id)
  | .ret => some .ret

def XT.isNor : XT → Bool
  | .nor => true
  | _ => false

/-- One round: yield is called. -/
def WY (P : Program) (B : Nat) (i : Nat) (args : List AV) (H : Heap) (Q : Bool → Heap → Prop) : Prop :=
  ∀ (ρ : Env) (w : World) (e : At) (xs : Array Value) (r : Option Nat), HR B ρ H w → ρ.ats[i]? = some e → RelL ρ args xs.toList →
    ∃ f tmps as bd, (Instr.yield e.b xs).run P w = .ok (.round e.b f tmps as bd) w ∧ RoundIn (F0 r) 0 P e.b f tmps as bd w fun en w' =>
      ∃ b H' ρ', en = .returned (.bool b) ∧ Q b H' ∧ Ext B ρ w ρ' w' ∧ HR B ρ' H' w'

theorem loop_at (h : HR B ρ H w) {i : Nat} {e : At} (he : ρ.ats[i]? = some e) {st : LoopState} {pd : Option Code} {fn : FuncId} {fr0 : Fr} {nt : Nat} {ps : List Tmp} {as bd : Code} (hi : H.get i = some (.loop st pd fn fr0 nt ps as bd)) :
    e.nb = false ∧ B ≤ e.b ∧ ∃ tmps d f, w.heap[e.b]? = some (.loop { state := st, pending := pd, fn := f, tmps, params := ps.toArray, assign := as, body := bd, defers := d }) ∧ FRel ρ fr0 tmps ∧ tmps.size = nt := by
  obtain ⟨e', he', ho⟩ := h.obj i _ hi
  rw [he] at he'; cases he'
  exact ho

theorem getLoop_run {l : Nat} {L : Loop} (h : w.heap[l]? = some (.loop L)) : (Instr.getLoop l).run P w = .ok L w := by
  simp only [Instr.getLoop, Sem.run_bind, run_getObj_any (P := P) (by intro c t f hh; cases hh) h, Result.andThen_ok, Sem.run_pure]

/-- The record of a loop is turned. -/
theorem turnLoop (h : HR B ρ H w) {i : Nat} {e : At} (he : ρ.ats[i]? = some e) {st : LoopState} {pd : Option Code} {fn : FuncId} {fr0 : Fr} {nt : Nat} {ps : List Tmp} {as bd : Code} (hi : H.get i = some (.loop st pd fn fr0 nt ps as bd))
    {L : Loop} (hL : w.heap[e.b]? = some (.loop L)) (st' : LoopState) (pd' : Option Code) :
    ∃ w', (setObj e.b (.loop { L with state := st', pending := pd' })).run P w = .ok () w' ∧ HR B ρ (H.set i (.loop st' pd' fn fr0 nt ps as bd)) w' ∧ Ext B ρ w ρ w' := by
  obtain ⟨hnb, hB, tmps, d, f, h1, h2, h3⟩ := loop_at h he hi
  rw [hL] at h1; cases h1
  have hlt : e.b < w.heap.size := (Array.getElem?_eq_some_iff.1 hL).1
  refine ⟨_, run_setObj_any (P := P) (by intro c t f hh; cases hh) hL, ?_, ?_⟩
  · refine h.turn hi he hnb hB _ (by simp) (fun k hk => ?_) ⟨hnb, hB, tmps, d, f, ?_, h2, h3⟩
    · rw [Array.getElem?_setIfInBounds_ne (Ne.symm hk)]
    · simp [hlt]
  · refine Ext.turn (Env.blk_of he hnb) hB (by simp) (fun k hk => ?_) rfl rfl rfl
    rw [Array.getElem?_setIfInBounds_ne (Ne.symm hk)]

/-- How a round ends. -/
def RoundEnd (i : Nat) (Q : Bool → Heap → Prop) : Post := fun x _ H3 =>
  ∃ st pd fn fr0 nt ps as bd, H3.get i = some (.loop st pd fn fr0 nt ps as bd) ∧ Q x.isNor (H3.set i (.loop (bif x.isNor then .ready else .done) (jumpOf x) fn fr0 nt ps as bd))

/-- How its body begins. -/
def RoundMid (P : Program) (B K : Nat) (i : Nat) (l : Nat) (nt : Nat) (body : Code) (Q : Bool → Heap → Prop) : Post := fun x fr2 H2 =>
  x = .nor ∧ ∃ pd fn fr0 nt' ps as bd, H2.get i = some (.loop .ready pd fn fr0 nt' ps as bd) ∧ WC P B K (some l) nt body fr2 (H2.set i (.loop .busy pd fn fr0 nt' ps as bd)) (RoundEnd i Q)

theorem WY.round {i : Nat} {args : List AV} {Q : Bool → Heap → Prop} {st : LoopState} {pd : Option Code} {fn : FuncId} {fr0 fr1 : Fr} {nt : Nat} {ps : List Tmp} {as bd : Code}
    (hi : H.get i = some (.loop st pd fn fr0 nt ps as bd)) (hp : setParams nt fr0 ps args = some fr1)
    (h : ∀ l, WC P B H.next (some l) nt as fr1 H (RoundMid P B H.next i l nt bd Q)) : WY P B i args H Q := by
  intro ρ w e xs r hr he hargs
  obtain ⟨hnb, hB, tmps, d, f, h1, h2, h3⟩ := loop_at hr he hi
  obtain ⟨g1, g2, g3⟩ := setParams_sound h2 h3 hargs hp
  let tmps1 := (ps.zip xs.toList).foldl (fun tmps (q : Tmp × Value) => tmps.setIfInBounds q.1 q.2) tmps
  refine ⟨f, tmps1, as, bd, ?_, ?_⟩
  · simp only [Instr.yield, Sem.run_bind, getLoop_run h1, Result.andThen_ok]
    have hsz : ¬ (xs.size ≠ ps.toArray.size) := by simp only [List.size_toArray, ← g1, Array.length_toList, ne_eq, not_true_eq_false, not_false_iff]
    rw [if_neg hsz]
    simp only [Sem.run_pure, Result.andThen_ok]
    congr 2
    show Array.foldl _ tmps _ 0 _ = _
    rw [← Array.foldl_toList]
    simp only [Array.toList_zip]
    rfl
  · refine roundIn_of_wpIn trivial ?_
    show as.wpIn (F0 (some e.b)) 0 P _ _ w
    refine wpIn_mono (h e.b (w.heap.size, []) ρ w { tmps := tmps1, defers := [] } (Nat.le_of_eq hr.next) hr g2 g3 (Marks.nil _ (Nat.le_refl _))) ?_
    rintro x1 a1 w1 ⟨x, fr2, H2, ρ2, rfl, ⟨rfl, pd2, fn2, fr02, nt2, ps2, as2, bd2, hi2, hbody⟩, e1, e2, e3, e4, e5⟩
    rw [hr.next] at e1 hbody
    have e1 := e1.toExt
    have he2 := pre_get e1.pre.ats he
    obtain ⟨hnb2, hB2, tmps2, d2, f2, k1, k2, k3⟩ := loop_at e2 he2 hi2
    obtain ⟨w2, s1, s2, s3⟩ := turnLoop (P := P) e2 he2 hi2 k1 .busy pd2
    refine ⟨w2, ?_, ?_⟩
    · simp only [Instr.beginRound, Sem.run_bind, getLoop_run k1, Result.andThen_ok]
      erw [s1]
      simp only [Result.andThen_ok, Sem.run_pure]
    · refine wpIn_mono (hbody (w.heap.size, []) ρ2 w2 a1 e1.pre.ats.length_le s2 e3 e4 (e5.ext s3)) ?_
      rintro x3 a3 w3 ⟨x, fr3, H3, ρ3, rfl, ⟨st3, pd3, fn3, fr03, nt3, ps3, as3, bd3, hi3, hq⟩, c1, c2, c3, c4, c5⟩
      have he3 : ρ3.ats[i]? = some e := by
        have hlt : i < ρ.ats.length := (List.getElem?_eq_some_iff.1 he).1
        have h1 := congrArg (·[i]?) c1.pre
        simp only [List.getElem?_take_of_lt hlt] at h1
        rw [h1]; exact he2
      obtain ⟨hnb3, hB3, tmps3, d3, f3, m1, m2, m3⟩ := loop_at c2 he3 hi3
      obtain ⟨w4, t1, t2, t3⟩ := turnLoop (P := P) c2 he3 hi3 m1 (bif x.isNor then .ready else .done) (jumpOf x)
      have hfin : ∀ j : Option Code, j = jumpOf x → ∃ v w', (Instr.endRound e.b j).run P w3 = .ok v w' ∧
          ∃ b H' ρ', Ending.returned v = .returned (.bool b) ∧ Q b H' ∧ Ext B ρ w ρ' w' ∧ HR B ρ' H' w' := by
        rintro j rfl
        refine ⟨.bool x.isNor, w4, ?_, x.isNor, _, ρ3, rfl, hq, (((e1.toK (Nat.le_refl _)).trans ((s3.toK e1.pre.ats.length_le).trans c1)).trans (t3.toK c1.kle)).toExt, t2⟩
        have hj : (jumpOf x).isNone = x.isNor := by cases x <;> rfl
        simp only [Instr.endRound, Sem.run_bind, getLoop_run m1, Result.andThen_ok, hj]
        have hs : (if x.isNor = true then LoopState.ready else LoopState.done) = (bif x.isNor then .ready else .done) := by cases x.isNor <;> rfl
        rw [hs]
        erw [t1]
        simp only [Result.andThen_ok, Sem.run_pure]
      cases x with
      | nor => exact hfin none rfl
      | ex id => exact hfin _ rfl
      | ret => exact hfin _ rfl

theorem WO.yield {ops : Array Oper} {i : Nat} {rest : List Nat} {o : Oper} {l : Nat} {args : List AV} {Q : Fr → Heap → Prop} (ho : ops[i]? = some o) (hw : aWant ops fr o = some true) (he : aop P fr H o = some (.yield l args))
    (h : WY P B l args H fun b H' => ∃ fr', aput n fr o.dst (.bool b) = some fr' ∧ WO P B K r n ops rest fr' H' Q) : WO P B K r n ops (i :: rest) fr H Q := by
  intro M ρ w a hk h1 h2 h3 h4
  refine wpOpsIn_step ho (aWant_sound h2 hw) ⟨fun f _ => trivial, ?_⟩
  rw [semAt_of (aop_not_defer he)]
  obtain ⟨xs, e, hee, hrun, hargs⟩ := aop_sound h1 h2 he
  obtain ⟨f, tmps, as, bd, hy, hround⟩ := h ρ w e xs r h1 hee hargs
  rw [hrun, hy]
  refine ⟨fun h => by simp [F0] at h, RoundIn.mono hround ?_⟩
  rintro en w' ⟨b, H', ρ', rfl, ⟨fr', hp, hrest⟩, g2, g3⟩
  obtain ⟨p1, p2, p3⟩ := aput_sound (v := .bool b) (x := .bool b) (h2.mono g2.pre) h3 (by simp [Rel]) hp
  exact After.exto hk g2 (hrest M ρ' w' _ (Nat.le_trans hk g2.pre.ats.length_le) g3 p1 p2 (by rw [p3]; exact h4.ext g2))

theorem WI.yield {ops : Array Oper} {an : Nat → Nat} {lA : Nat} {i : Nat} {o : Oper} {l : Nat} {args : List AV} {Q : Fr → Heap → Prop} (ho : ops[i]? = some o) (hw : aWant ops fr o = some true) (he : aop P fr H o = some (.yield l args))
    (h : WY P B l args H fun b H' => ∃ fr', aput n fr o.dst (.bool b) = some fr' ∧ Again P n ops an lA i fr' H' ∧ WD P B K r n ops an (lA ||| 2 ^ i) fr' H' Q) : WI P B K r n ops an lA i o fr H Q := by
  intro ρ w a fr0 K Qr h1 h2 g1 g2 hK
  have g2 : aop P fr0 H o = aop P fr H o := aop_congr g2
  rw [hw] at g1; rw [he] at g2
  unfold wpOpIn
  simp only [ho, aWant_sound h2 g1, if_true]
  refine ⟨fun f _ => trivial, ?_⟩
  rw [semAt_of (aop_not_defer g2)]
  obtain ⟨xs, e, hee, hrun, hargs⟩ := aop_sound h1 h2 g2
  obtain ⟨f, tmps, as, bd, hy, hround⟩ := h ρ w e xs r h1 hee hargs
  rw [hrun, hy]
  refine ⟨fun h => by simp [F0] at h, RoundIn.mono hround ?_⟩
  rintro en w' ⟨b, H', ρ', rfl, ⟨fr', hp, hag, hWD⟩, e2, e3⟩
  exact hK ρ' w' (.bool b) (.bool b) fr' H' e2 e3 (by simp [Rel]) hp hag hWD

theorem Marks.push {M : Mk} {ds : List Deferred} (h : Marks M ρ w ds) (hr : HR B ρ H w) : Marks M ρ (w.alloc (.deferred (some []))) (markOf w.heap.size :: ds) := by
  obtain ⟨h0, bs, hw, h2, h3⟩ := h
  refine ⟨Nat.le_trans h0 (by rw [size_alloc]; omega), w.heap.size :: bs, .mark hw, ?_, fun b hb => ?_⟩
  · rw [List.nodup_cons]
    exact ⟨fun hm => Nat.lt_irrefl _ (Array.getElem?_eq_some_iff.1 (h3 _ hm).1).1, h2⟩
  · rw [List.mem_cons] at hb
    rcases hb with rfl | hb
    · exact ⟨heap_alloc_new w _, h0, fun hb => by have := hr.bnd _ hb; omega⟩
    · obtain ⟨g1, g2, g3⟩ := h3 b hb
      exact ⟨(heap_alloc w _ b (Array.getElem?_eq_some_iff.1 g1).1).trans g1, g2, g3⟩

/-- The statement: its record, the call, what is pending behind it. -/
theorem WC.rangeFunc' {g : Operand} {ps : Array Tmp} {as bd : Code} {gv : AV} {f : FuncId} {args : List AV} {Q : Post} (hg : aeval fr g = some gv) (hc : aCallV P gv [.yld H.next] = some (.call f args)) (f0 : FuncId)
    (h : WF P B f args (H.alloc (.loop .ready none f0 fr n ps.toList as bd)) fun _ H2 => ∃ st pd fn fr0 nt ps' as' bd', H2.get H.next = some (.loop st pd fn fr0 nt ps' as' bd') ∧ (st == .busy) = false ∧
      match pd with
      | none => Q .nor fr (H2.set H.next (.loop .exhausted pd fn fr0 nt ps' as' bd'))
      | some c => WC P B K none n c fr (H2.set H.next (.loop .exhausted pd fn fr0 nt ps' as' bd')) Q) : WC P B K none n (.rangeFunc g ps as bd) fr H Q := by
  intro M ρ w a hk h1 h2 h3 h4
  refine wpIn_rangeFunc fun fn _ => ?_
  let w0 : World := w.alloc (.deferred (some []))
  let e0 : At := ⟨w0.heap.size, 0, 0, 0, 0, false⟩
  let L : Loop := { state := .ready, pending := none, fn := fn, tmps := a.tmps, params := ps, assign := as, body := bd, defers := w.heap.size }
  let w1 : World := w0.alloc (.loop L)
  have hr0 : HR B ρ H w0 := h1.grow _
  have hr1 : HR B (ρ.add e0) (H.alloc (.loop .ready none f0 fr n ps.toList as bd)) w1 :=
    hr0.alloc _ _ e0 rfl ⟨rfl, hr0.base, a.tmps, w.heap.size, fn, heap_alloc_new w0 _, h2.mono (Env.le_add _ _), h3⟩
  have e1 : Ext B ρ w (ρ.add e0) w1 := (Ext.grow B ρ w h1.base _).trans (Ext.alloc _ e0 hr0.base rfl)
  have hlast : (ρ.add e0).ats[H.next]? = some e0 := by rw [h1.next]; simp
  have hgv := (aeval_sound h2 hg).mono (Env.le_add ρ e0)
  have hy : RelL (ρ.add e0) [.yld H.next] (#[Value.func (.yield w0.heap.size) #[] #[]] : Array Value).toList := ⟨_, [], rfl, ⟨e0, hlast, rfl⟩, rfl⟩
  obtain ⟨xs, hrun, hxs⟩ := aCallV_sound (B := B) (P := P) (w := w1) hgv hy hc
  have hm1 : Marks M (ρ.add e0) w1 (markOf w.heap.size :: a.defers) := (h4.push h1).ext (Ext.alloc _ e0 hr0.base rfl)
  -- the call
  have hres : ∃ d, (resolve a.eval (rangeCall g w0.heap.size) 0).run P w1 = .ok d w1 ∧ (invoke d.target d.args).run P w1 = .ok (.enter f xs) w1 := by
    have hx : (resolve a.eval (rangeCall g w0.heap.size) 0) = Deferred.ofValue (a.eval g) #[Value.func (.yield w0.heap.size) #[] #[]] := by
      simp only [resolve, rangeCall, List.map_toArray, List.map_cons, List.map_nil, aev_const]
    rw [hx]
    rw [Sem.run_bind] at hrun
    cases hd : (Deferred.ofValue (a.eval g) #[Value.func (.yield w0.heap.size) #[] #[]]).run P w1 with
    | ok d w2 =>
      rw [hd] at hrun
      unfold aCallV at hc
      split at hc
      · simp only [Rel] at hgv
        obtain ⟨fs', cs', hv, _, _⟩ := hgv
        rw [hv] at hd
        simp only [Deferred.ofValue, Sem.run_pure] at hd
        injection hd with hd1 hd2
        subst hd2
        exact ⟨d, rfl, hrun⟩
      · cases hc
      · cases hc
    | halt x w2 => rw [hd] at hrun; cases hrun
  obtain ⟨d, hd1, hd2⟩ := hres
  refine ⟨w0.heap.size, [markOf w.heap.size], w1, d, w1, f, xs, w1, ?_, hd1, fun _ _ => trivial, hd2, fun h => by simp [F0] at h, calls0 ((h (ρ.add e0) w1 xs hr1 hxs).mono ?_)⟩
  · show (Instr.enterLoop fn a.tmps ps as bd none).run P w = _
    simp only [Instr.enterLoop, Sem.run_bind, run_newObj', Result.andThen_ok, Sem.run_pure]
    rfl
  · rintro e w3 ⟨v, x, H3, ρ3, rfl, ⟨st, pd, fn3, fr03, nt3, ps3, as3, bd3, hi3, hst, hq⟩, g2, g3, g4⟩
    have he3 := pre_get g2.pre.ats hlast
    obtain ⟨hnb3, hB3, tmps3, d3, f3, m1, m2, m3⟩ := loop_at g3 he3 hi3
    obtain ⟨w4, t1, t2, t3⟩ := turnLoop (P := P) g3 he3 hi3 m1 .exhausted pd
    have hend : (Instr.endLoop w0.heap.size).run P w3 = .ok pd w4 := by
      have m1' := getLoop_run (P := P) m1
      have t1' := t1
      simp only [e0] at m1' t1'
      simp only [Instr.endLoop, Sem.run_bind, m1', Result.andThen_ok, hst, Bool.false_eq_true, if_false, Sem.run_pure, t1']
    have ee : Ext B ρ w ρ3 w4 := e1.trans (g2.trans t3)
    have hf4 : FRel ρ3 fr a.tmps := h2.mono ee.pre
    have hm4 : Marks M ρ3 w4 ([markOf w.heap.size] ++ a.defers) := hm1.ext (g2.trans t3)
    refine ⟨pd, w4, hend, ?_⟩
    cases pd with
    | none => exact ⟨.nor, fr, _, ρ3, rfl, hq, ee.toK hk, t2, hf4, h3, hm4⟩
    | some c => exact wpIn_mono (hq M ρ3 w4 { a with defers := [markOf w.heap.size] ++ a.defers } (Nat.le_trans hk ee.pre.ats.length_le) t2 hf4 h3 hm4) fun e a' w' hh => hh.ext hk ee

end
end Go.AM
namespace Go.AM
open Go.RowKit

/-! ### The same value -/
def sameK : IntKind → IntKind → Bool := fun a b => decide (a = b)

mutual
def AV.same : AV → AV → Bool
  | .bool a, .bool b => a == b
  | .int k a, .int k' b => sameK k k' && decide (a = b)
  | .str a, .str b => eqB a b
  | .nilPtr, .nilPtr => true
  | .ptr i o, .ptr i' o' => Nat.beq i i' && Nat.beq o o'
  | .nilSlc, .nilSlc => true
  | .slc i o l c e, .slc i' o' l' c' e' => Nat.beq i i' && Nat.beq o o' && Nat.beq l l' && Nat.beq c c' && (e == e')
  | .emp, .emp => true
  | .nilMap, .nilMap => true
  | .map i, .map i' => Nat.beq i i'
  | .nilFn, .nilFn => true
  | .fn (.func f) a b, .fn (.func f') a' b' => Nat.beq f f' && AV.sameL a a' && AV.sameL b b'
  | .yld i, .yld i' => Nat.beq i i'
  | .nilIface, .nilIface => true
  | .iface t v, .iface t' v' => Nat.beq t t' && AV.same v v'
  | .agg a, .agg b => AV.sameL a b
  | .tup a, .tup b => AV.sameL a b
  | _, _ => false
def AV.sameL : List AV → List AV → Bool
  | [], [] => true
  | a :: x, b :: y => AV.same a b && AV.sameL x y
  | _, _ => false
end

theorem eqB_sound {a b : List UInt8} (h : eqB a b = true) : a = b := by
  first | exact eqB_eq.1 h | (rw [eqB_eq] at h; simpa using h)

theorem nbeq {a b : Nat} (h : Nat.beq a b = true) : a = b := Nat.eq_of_beq_eq_true h

mutual
theorem AV.same_eq : ∀ {a b : AV}, AV.same a b = true → a = b := by
  intro a b h
  unfold AV.same at h
  split at h <;> (try simp only [Bool.and_eq_true] at h)
  all_goals first
    | rfl
    | (cases h; done)
    | skip
  · rw [eq_of_beq h]
  · rw [of_decide_eq_true h.1, of_decide_eq_true h.2]
  · rw [eqB_sound h]
  · rw [nbeq h.1, nbeq h.2]
  · rw [nbeq h.1.1.1.1, nbeq h.1.1.1.2, nbeq h.1.1.2, nbeq h.1.2, eq_of_beq h.2]
  · rw [nbeq h]
  · rw [nbeq h.1.1, AV.sameL_eq h.1.2, AV.sameL_eq h.2]
  · rw [nbeq h]
  · rw [nbeq h.1, AV.same_eq h.2]
  · rw [AV.sameL_eq h]
  · rw [AV.sameL_eq h]
theorem AV.sameL_eq : ∀ {a b : List AV}, AV.sameL a b = true → a = b := by
  intro a b h
  unfold AV.sameL at h
  split at h
  · rfl
  · rw [Bool.and_eq_true] at h
    rw [AV.same_eq h.1, AV.sameL_eq h.2]
  · cases h
end

/-! ### The plan of a region -/
def bmask (acc : List Nat) (o : Oper) : Nat := o.after.toList.foldl (fun s e => bif Region.binds .any e then s ||| (2 ^ e.on ||| acc.getD e.on 0) else s) 0

def ancsGo : List Oper → List Nat → List Nat
  | [], acc => acc
  | o :: os, acc => ancsGo os (acc ++ [bmask acc o])

def ancs (ops : Array Oper) : List Nat := ancsGo ops.toList []

def backOk : Nat → List Oper → Bool
  | _, [] => true
  | i, o :: os => o.after.toList.all (fun e => !Region.binds .any e || Nat.blt e.on i) && backOk (i + 1) os

/-- What is run next; where any of several may be next: each of them. -/
inductive Pl where
  | done
  | ro (i : Nat) (rest : Pl)
  | loud (i : Nat) (js : List Nat) (rest : Pl)
  | both (a b : Pl)

def Pl.heads : Pl → List Nat
  | .loud i _ _ => [i]
  | .both a b => a.heads ++ b.heads
  | _ => []

def Pl.grp : Pl → Bool
  | .loud _ _ _ => true
  | .both a b => a.grp && b.grp
  | _ => false

def inM (m i : Nat) : Bool := Nat.testBit m i
def subM (a b : Nat) : Bool := Nat.beq (a ||| b) b

section
variable (P : Program)

def firstSt (ops : Array Oper) (an : List Nat) (lA : Nat) (ro : Bool) : Option Nat :=
  (List.range ops.size).find? fun i => !inM lA i && subM (an.getD i 0) lA && match ops[i]? with
    | some o => roOp P o.op == ro
    | none => false

def louds (ops : Array Oper) (an : List Nat) (lA : Nat) : List Nat :=
  (List.range ops.size).filter fun i => !inM lA i && subM (an.getD i 0) lA && match ops[i]? with
    | some o => !roOp P o.op
    | none => false

def loudPl (ops : Array Oper) (an : List Nat) (lA i : Nat) (rest : Pl) : Pl :=
  .loud i ((List.range ops.size).filter fun j => inM lA j && !inM (an.getD i 0) j && match ops[j]? with
          | some o => roOp P o.op
          | none => false) rest

def mkPlan (ops : Array Oper) (an : List Nat) : Nat → Nat → Pl
  | 0, _ => .done
  | k + 1, lA => match firstSt P ops an lA true with
    | some i => .ro i (mkPlan ops an k (lA ||| 2 ^ i))
    | none => match louds P ops an lA with
      | [] => .done
      | i :: is => bif Nat.ble is.length 2 then is.foldl (fun p j => .both p (loudPl P ops an lA j (mkPlan ops an k (lA ||| 2 ^ j)))) (loudPl P ops an lA i (mkPlan ops an k (lA ||| 2 ^ i))) else .done

def dstOkR (ops : Array Oper) (an : List Nat) (i : Nat) : Bool :=
  match ops[i]? with
  | none => false
  | some o => match o.dst with
    | none => true
    | some d => (List.range ops.size).all fun k => match ops[k]? with
      | none => true
      | some ok =>
        (Nat.beq k i || match ok.dst with
          | some d' => !Nat.beq d' d
          | none => true) &&
        ((ok.op.operands.toList.all fun | .tmp t => !Nat.beq t d | _ => true) || inM (an.getD k 0) i) &&
        (match ok.guard with
          | some (j, _) => (match (ops[j]?).bind (·.dst) with
            | some d' => !Nat.beq d' d
            | none => true) || inM (an.getD k 0) i
          | none => true)

def okPlan (ops : Array Oper) (an : List Nat) : List Nat → Nat → Pl → Bool
  | _, lA, .done => (List.range ops.size).all fun k => inM lA k
  | _, lA, .ro i rest => !inM lA i && subM (an.getD i 0) lA && dstOkR ops an i && (match ops[i]? with
      | some o => roOp P o.op
      | none => false) && okPlan ops an rest.heads (lA ||| 2 ^ i) rest
  | hs, lA, .loud i js rest => !inM lA i && subM (an.getD i 0) lA && (ops[i]?).isSome &&
      ((List.range ops.size).all fun k => inM lA k || hs.any (Nat.beq k) || !subM (an.getD k 0) lA) &&
      ((List.range ops.size).all fun j => !inM lA j || inM (an.getD i 0) j || (match ops[j]? with
        | some o => !roOp P o.op
        | none => true) || js.any (Nat.beq j)) && okPlan ops an rest.heads (lA ||| 2 ^ i) rest
  | hs, lA, .both a b => a.grp && b.grp && okPlan ops an hs lA a && okPlan ops an hs lA b

def plan (ops : Array Oper) : Option Pl :=
  let an := ancs ops
  let p := mkPlan P ops an ops.size 0
  bif backOk 0 ops.toList && okPlan P ops an p.heads 0 p then some p else none
end

section
variable {P : Program} {ops : Array Oper}

theorem foldl_mask {f : Edge → Nat} {g : Edge → Bool} : ∀ (l : List Edge) (s j : Nat), (l.foldl (fun s e => bif g e then s ||| f e else s) s).testBit j = true ↔ s.testBit j = true ∨ ∃ e ∈ l, g e = true ∧ (f e).testBit j = true
  | [], s, j => by simp
  | e :: l, s, j => by
    rw [List.foldl_cons, foldl_mask l]
    cases hg : g e with
    | false =>
      simp only [cond_false, List.mem_cons]
      constructor
      · rintro (h | ⟨e', h1, h2⟩)
        · exact .inl h
        · exact .inr ⟨e', .inr h1, h2⟩
      · rintro (h | ⟨e', rfl | h1, h2, h3⟩)
        · exact .inl h
        · rw [hg] at h2; cases h2
        · exact .inr ⟨e', h1, h2, h3⟩
    | true =>
      simp only [cond_true, Nat.testBit_or, Bool.or_eq_true, List.mem_cons]
      constructor
      · rintro ((h | h) | ⟨e', h1, h2⟩)
        · exact .inl h
        · exact .inr ⟨e, .inl rfl, hg, h⟩
        · exact .inr ⟨e', .inr h1, h2⟩
      · rintro (h | ⟨e', rfl | h1, h2, h3⟩)
        · exact .inl (.inl h)
        · exact .inl (.inr h3)
        · exact .inr ⟨e', h1, h2, h3⟩

theorem bmask_bit {acc : List Nat} {o : Oper} {j : Nat} : (bmask acc o).testBit j = true ↔ ∃ e ∈ o.after, Region.binds .any e = true ∧ (j = e.on ∨ (acc.getD e.on 0).testBit j = true) := by
  unfold bmask
  rw [foldl_mask]
  simp only [Nat.zero_testBit, Bool.false_eq_true, false_or, Nat.testBit_or, Bool.or_eq_true, Nat.testBit_two_pow, decide_eq_true_iff, Array.mem_toList_iff]
  constructor
  · rintro ⟨e, h1, h2, h3⟩; exact ⟨e, h1, h2, h3.imp Eq.symm id⟩
  · rintro ⟨e, h1, h2, h3⟩; exact ⟨e, h1, h2, h3.imp Eq.symm id⟩

/-- What the list of the masks says, as far as it is laid. -/
def AncTo (ops : Array Oper) (acc : List Nat) : Prop :=
  (∀ i o, ops[i]? = some o → i < acc.length → ∀ e ∈ o.after, Region.binds .any e = true → (acc.getD i 0).testBit e.on = true) ∧
  (∀ L : Nat → Prop, (∀ i o, ops[i]? = some o → L i → ∀ e ∈ o.after, Region.binds .any e = true → L e.on) →
    ∀ i o, ops[i]? = some o → i < acc.length → (∀ e ∈ o.after, Region.binds .any e = true → L e.on) → ∀ j, (acc.getD i 0).testBit j = true → L j)

theorem getD_append_lt {acc : List Nat} {x i : Nat} (h : i < acc.length) : (acc ++ [x]).getD i 0 = acc.getD i 0 := by
  rw [List.getD_eq_getElem?_getD, List.getD_eq_getElem?_getD, List.getElem?_append_left h]

theorem getD_append_eq {acc : List Nat} {x : Nat} : (acc ++ [x]).getD acc.length 0 = x := by
  rw [List.getD_eq_getElem?_getD]; simp

theorem ancsGo_ok : ∀ (os pre : List Oper) (acc : List Nat), ops.toList = pre ++ os → acc.length = pre.length → AncTo ops acc → AncTo ops (ancsGo os acc) ∧ (ancsGo os acc).length = ops.size
  | [], pre, acc, hs, hl, h => ⟨h, by
    have : ops.toList.length = pre.length := by rw [hs]; simp
    simpa [ancsGo, hl] using this.symm⟩
  | o :: os, pre, acc, hs, hl, h => by
    refine ancsGo_ok os (pre ++ [o]) _ (by rw [hs]; simp) (by simp [hl]) ⟨fun i oi hi hlt e he hb => ?_, fun L hL i oi hi hlt hin j hj => ?_⟩
    · by_cases hia : i < acc.length
      · rw [getD_append_lt hia]; exact h.1 i oi hi hia e he hb
      · have hie : i = acc.length := by simp at hlt; omega
        subst hie
        have : oi = o := by
          rw [← Array.getElem?_toList, hs, hl] at hi
          simpa using hi.symm
        subst this
        rw [getD_append_eq, bmask_bit]
        exact ⟨e, he, hb, .inl rfl⟩
    · by_cases hia : i < acc.length
      · rw [getD_append_lt hia] at hj; exact h.2 L hL i oi hi hia hin j hj
      · have hie : i = acc.length := by simp at hlt; omega
        subst hie
        have : oi = o := by
          rw [← Array.getElem?_toList, hs, hl] at hi
          simpa using hi.symm
        subst this
        rw [getD_append_eq, bmask_bit] at hj
        obtain ⟨e, he, hb, rfl | hj⟩ := hj
        · exact hin e he hb
        · by_cases hea : e.on < acc.length
          · have hop : ∃ oe, ops[e.on]? = some oe := by
              have : e.on < ops.size := by
                have h1 : ops.toList.length = pre.length + (os.length + 1) := by rw [hs]; simp
                rw [Array.length_toList] at h1; omega
              exact ⟨_, Array.getElem?_eq_getElem this⟩
            obtain ⟨oe, hoe⟩ := hop
            exact h.2 L hL e.on oe hoe hea (hL e.on oe hoe (hin e he hb)) j hj
          · rw [List.getD_eq_getElem?_getD, List.getElem?_eq_none (by omega)] at hj
            simp at hj

theorem backOk_ok : ∀ (os pre : List Oper), ops.toList = pre ++ os → backOk pre.length os = true → ∀ i o, pre.length ≤ i → ops[i]? = some o → ∀ e ∈ o.after, Region.binds .any e = true → e.on < i
  | [], pre, hs, _, i, o, hle, hi, _, _, _ => by
    have := (Array.getElem?_eq_some_iff.1 hi).1
    have h1 : ops.toList.length = pre.length := by rw [hs]; simp
    rw [Array.length_toList] at h1; omega
  | o :: os, pre, hs, hb, i, oi, hle, hi, e, he, hbe => by
    simp only [backOk, Bool.and_eq_true, List.all_eq_true] at hb
    by_cases hie : i = pre.length
    · subst hie
      have : oi = o := by
        rw [← Array.getElem?_toList, hs] at hi
        simpa using hi.symm
      subst this
      have := hb.1 e (Array.mem_toList_iff.2 he)
      rw [hbe] at this
      simpa [Nat.blt_eq] using this
    · exact backOk_ok os (pre ++ [o]) (by rw [hs]; simp) (by simpa using hb.2) i oi (by simp; omega) hi e he hbe

theorem anc_of (h : backOk 0 ops.toList = true) : Anc ops fun i => (ancs ops).getD i 0 := by
  have hp : AncTo ops (ancs ops) ∧ (ancs ops).length = ops.size := ancsGo_ok ops.toList [] [] (by simp) rfl ⟨fun i o _ hlt => (by simp at hlt), fun L _ i o _ hlt => (by simp at hlt)⟩
  obtain ⟨hA, hl⟩ := hp
  have hlt : ∀ i o, ops[i]? = some o → i < (ancs ops).length := fun i o hi => by rw [hl]; exact (Array.getElem?_eq_some_iff.1 hi).1
  exact ⟨fun i o hi e he hb => ⟨backOk_ok ops.toList [] (by simp) h i o (Nat.zero_le _) hi e he hb, hA.1 i o hi (hlt i o hi) e he hb⟩,
    fun L hL i o hi hin j hj => hA.2 L hL i o hi (hlt i o hi) hin j hj⟩

theorem subM_bit {a b : Nat} (h : subM a b = true) {j : Nat} (hj : a.testBit j = true) : b.testBit j = true := by
  have := nbeq h
  rw [← this, Nat.testBit_or, hj]; rfl

theorem not_subM {a b : Nat} (h : subM a b = false) : ∃ j, a.testBit j = true ∧ b.testBit j = false := by
  refine Classical.byContradiction fun hno => ?_
  have : a ||| b = b := by
    refine Nat.eq_of_testBit_eq fun j => ?_
    rw [Nat.testBit_or]
    cases ha : a.testBit j with
    | false => simp
    | true =>
      cases hb : b.testBit j with
      | true => rfl
      | false => exact (hno ⟨j, ha, hb⟩).elim
  unfold subM at h
  rw [this, Nat.beq_refl] at h
  cases h

theorem grp_heads : ∀ {p : Pl}, p.grp = true → ∃ i, i ∈ p.heads
  | .loud i _ _, _ => ⟨i, List.mem_singleton.2 rfl⟩
  | .both a b, h => by
    simp only [Pl.grp, Bool.and_eq_true] at h
    obtain ⟨i, hi⟩ := grp_heads h.1
    exact ⟨i, List.mem_append_left _ hi⟩

/-- Who is not among the heads of a group waits for somebody. -/
theorem okPlan_alone {an : List Nat} (hA : Anc ops fun i => an.getD i 0) {hs : List Nat} {lA : Nat} (hd : Down ops lA) : ∀ {p : Pl}, p.grp = true → okPlan P ops an hs lA p = true → Alone ops lA hs
  | .both a b, hg, h => by
    simp only [okPlan, Bool.and_eq_true] at h
    exact okPlan_alone hA hd h.1.1.1 h.1.2
  | .loud i js rest, _, hok => by
    simp only [okPlan, Bool.and_eq_true, Bool.not_eq_true', List.all_eq_true, List.mem_range] at hok
    obtain ⟨⟨⟨⟨⟨k1, k2⟩, k3⟩, k4⟩, k5⟩, k6⟩ := hok
    intro k ok hk hb hki
    have := k4 k (Array.getElem?_eq_some_iff.1 hk).1
    simp only [Bool.or_eq_true, Bool.not_eq_true'] at this
    have hs : subM (an.getD k 0) lA = false := by
      rcases this with (h | h) | h
      · unfold inM at h; rw [hb] at h; cases h
      · rw [List.any_eq_true] at h
        obtain ⟨x, hx, hx2⟩ := h
        rw [← nbeq hx2] at hx
        exact absurd hx hki
      · exact h
    refine Classical.byContradiction fun hno => ?_
    obtain ⟨j, hj1, hj2⟩ := not_subM hs
    have := hA.close (fun j => lA.testBit j = true) (fun m om hm hmk e he hb => hd m om hm hmk e he hb) k ok hk (fun e he hbe => ?_) j hj1
    · rw [hj2] at this; cases this
    · cases hh : lA.testBit e.on with
      | true => rfl
      | false => exact (hno ⟨e, he, hbe, hh⟩).elim

theorem dstOk_ok {an : List Nat} {i : Nat} (h : dstOkR ops an i = true) : DstOk ops (fun i => an.getD i 0) i := by
  intro o d ho hd k ok hk
  unfold dstOkR at h
  rw [ho] at h
  simp only [hd, List.all_eq_true, List.mem_range] at h
  have hlt : k < ops.size := (Array.getElem?_eq_some_iff.1 hk).1
  have := h k hlt
  rw [hk] at this
  simp only [Bool.and_eq_true, Bool.or_eq_true] at this
  obtain ⟨⟨h1, h2⟩, h3⟩ := this
  refine ⟨fun hki hdst => ?_, fun hop => ?_, fun j b hg hd' => ?_⟩
  · rcases h1 with h1 | h1
    · exact hki (nbeq h1)
    · rw [hdst] at h1; simp [Nat.beq_refl] at h1
  · rcases h2 with h2 | h2
    · rw [List.all_eq_true] at h2
      have := h2 _ (Array.mem_toList_iff.2 hop)
      simp [Nat.beq_refl] at this
    · exact h2
  · rw [hg] at h3
    simp only [hd', Bool.or_eq_true] at h3
    rcases h3 with h3 | h3
    · simp [Nat.beq_refl] at h3
    · exact h3

end

end Go.AM
set_option linter.unusedSimpArgs false
set_option linter.unusedVariables false
namespace Go.AM
open Go.RowKit

/-- A call that is to come: the function, its arguments. -/
abbrev DC := FuncId × List AV

def RelD (P : Program) (ρ : Env) : List DC → List Deferred → Prop
  | [], ds => ds = []
  | d :: D, ds => ∃ e es fv cap xs, ds = e :: es ∧ e.target = .fn fv cap ∧ RelL ρ d.2 xs.toList ∧ (∀ w, (invoke e.target e.args).run P w = .ok (.enter d.1 xs) w) ∧ RelD P ρ D es

theorem RelD.mono {P : Program} {ρ ρ' : Env} (h : ρ.le ρ') : ∀ {D : List DC} {ds : List Deferred}, RelD P ρ D ds → RelD P ρ' D ds
  | [], _, hd => hd
  | _ :: _, _, ⟨e, es, fv, cap, xs, h1, h2, h3, h4, h5⟩ => ⟨e, es, fv, cap, xs, h1, h2, h3.mono h, h4, RelD.mono h h5⟩

section
variable (P : Program) (B : Nat)

/-- A call as a deferred one. -/
def WFD (f : FuncId) (args : List AV) (H : Heap) (Q : Heap → Prop) : Prop :=
  ∀ (ρ : Env) (w : World) (xs : Array Value), HR B ρ H w → RelL ρ args xs.toList →
    CallsD P f xs .returning w fun e u' w' => ∃ x H' ρ', e = .returned x ∧ u' = .returning ∧ Q H' ∧ Ext B ρ w ρ' w' ∧ HR B ρ' H' w'

/-- The deferred calls, one behind the other. -/
def LeaveW : List DC → Heap → (Heap → Prop) → Prop
  | [], H, Q => Q H
  | d :: D, H, Q => WFD P B d.1 d.2 H fun H' => LeaveW D H' Q

def AfterD (K n m : Nat) (ρ : Env) (w : World) (Q : XT → Fr → Heap → List DC → Prop) : Exit → Act → World → Prop := fun e a' w' =>
  ∃ x fr' H' D' ds' ρ', e = x.out ∧ Q x fr' H' D' ∧ RelD P ρ' D' ds' ∧ ExtK K B ρ w ρ' w' ∧ HR B ρ' H' w' ∧ FRel ρ' fr' a'.tmps ∧ a'.tmps.size = n ∧ Marks (m, ds') ρ' w' a'.defers

/-- Code of a function that defers, outside of its loops. -/
def WB (K n : Nat) (c : Code) (fr : Fr) (H : Heap) (D : List DC) (Q : XT → Fr → Heap → List DC → Prop) : Prop :=
  ∀ (m : Nat) (ds : List Deferred) (ρ : Env) (w : World) (a : Act), K ≤ ρ.ats.length → HR B ρ H w → FRel ρ fr a.tmps → a.tmps.size = n → RelD P ρ D ds → Marks (m, ds) ρ w a.defers →
    c.wpIn (F0 none) 0 P (AfterD P B K n m ρ w Q) a w

def WOD (K n : Nat) (ops : Array Oper) (l : List Nat) (fr : Fr) (H : Heap) (D : List DC) (Q : XT → Fr → Heap → List DC → Prop) : Prop :=
  ∀ (m : Nat) (ds : List Deferred) (ρ : Env) (w : World) (a : Act), K ≤ ρ.ats.length → HR B ρ H w → FRel ρ fr a.tmps → a.tmps.size = n → RelD P ρ D ds → Marks (m, ds) ρ w a.defers →
    wpOpsIn (F0 none) 0 P ops (AfterD P B K n m ρ w Q) l a w
end

section
variable {P : Program} {B K n : Nat} {fr : Fr} {H : Heap} {D : List DC} {Q : XT → Fr → Heap → List DC → Prop}

theorem AfterD.extK {m : Nat} {ρ ρ1 : Env} {w w1 : World} {e : Exit} {a : Act} {w' : World} (h : ExtK K B ρ w ρ1 w1) (k : AfterD P B K n m ρ1 w1 Q e a w') : AfterD P B K n m ρ w Q e a w' := by
  obtain ⟨x, fr', H', D', ds', ρ', h1, h2, h3, h4, h5⟩ := k
  exact ⟨x, fr', H', D', ds', ρ', h1, h2, h3, h.trans h4, h5⟩

/-- Code that defers nothing. -/
theorem WB.plain {c : Code} (h : WC P B H.next none n c fr H fun x fr' H' => Q x fr' H' D) (hk : K ≤ H.next) : WB P B K n c fr H D Q := by
  intro m ds ρ w a _ h1 h2 h3 hd h4
  refine wpIn_mono (h (m, ds) ρ w a (Nat.le_of_eq h1.next) h1 h2 h3 h4) ?_
  rintro e a' w' ⟨x, fr', H', ρ', g1, g2, g3, g4, g5, g6, g7⟩
  rw [h1.next] at g3
  have hp : ρ.le ρ' := g3.toExt.pre
  refine ⟨x, fr', H', D, ds, ρ', g1, g2, hd.mono hp, ?_, g4, g5, g6, g7⟩
  exact g3.toExt.toK (by rw [← h1.next]; exact hk)

theorem WB.seq {x y : Code} {R : XT → Fr → Heap → List DC → Prop} (h : WB P B K n x fr H D R) (hn : ∀ fr' H' D', R .nor fr' H' D' → WB P B K n y fr' H' D' Q) (he : ∀ x fr' H' D', x ≠ .nor → R x fr' H' D' → Q x fr' H' D') : WB P B K n (.seq x y) fr H D Q := by
  intro m ds ρ w a hk h1 h2 h3 hd h4
  refine wpIn_seq (wpIn_mono (h m ds ρ w a hk h1 h2 h3 hd h4) ?_)
  rintro e a' w' ⟨x, fr', H', D', ds', ρ', rfl, g2, gd, g3, g4, g5, g6, g7⟩
  cases x with
  | nor => exact wpIn_mono (hn fr' H' D' g2 m ds' ρ' w' a' g3.kle g4 g5 g6 gd g7) fun e a w hh => hh.extK g3
  | ex id => exact ⟨.ex id, fr', H', D', ds', ρ', rfl, he _ _ _ _ (by simp) g2, gd, g3, g4, g5, g6, g7⟩
  | ret => exact ⟨.ret, fr', H', D', ds', ρ', rfl, he _ _ _ _ (by simp) g2, gd, g3, g4, g5, g6, g7⟩

/-- The same; behind it there are no fewer names. -/
theorem WB.seqN {x y : Code} {R : XT → Fr → Heap → List DC → Prop} (h : WB P B K n x fr H D R) (hn : ∀ fr' H' D', R .nor fr' H' D' → K ≤ H'.next → WB P B K n y fr' H' D' Q) (he : ∀ x fr' H' D', x ≠ .nor → R x fr' H' D' → Q x fr' H' D') : WB P B K n (.seq x y) fr H D Q := by
  intro m ds ρ w a hk h1 h2 h3 hd h4
  refine wpIn_seq (wpIn_mono (h m ds ρ w a hk h1 h2 h3 hd h4) ?_)
  rintro e a' w' ⟨x, fr', H', D', ds', ρ', rfl, g2, gd, g3, g4, g5, g6, g7⟩
  cases x with
  | nor => exact wpIn_mono (hn fr' H' D' g2 (by rw [g4.next]; exact g3.kle) m ds' ρ' w' a' g3.kle g4 g5 g6 gd g7) fun e a w hh => hh.extK g3
  | ex id => exact ⟨.ex id, fr', H', D', ds', ρ', rfl, he _ _ _ _ (by simp) g2, gd, g3, g4, g5, g6, g7⟩
  | ret => exact ⟨.ret, fr', H', D', ds', ρ', rfl, he _ _ _ _ (by simp) g2, gd, g3, g4, g5, g6, g7⟩

theorem WB.mono {c : Code} {Q' : XT → Fr → Heap → List DC → Prop} (h : WB P B K n c fr H D Q) (hq : ∀ x fr H D, Q x fr H D → Q' x fr H D) : WB P B K n c fr H D Q' :=
  fun m ds ρ w a hk h1 h2 h3 hd h4 => wpIn_mono (h m ds ρ w a hk h1 h2 h3 hd h4) fun e a' w' ⟨x, fr', H', D', ds', ρ', g1, g2, g3⟩ => ⟨x, fr', H', D', ds', ρ', g1, hq _ _ _ _ g2, g3⟩

theorem WFD.mono {f : FuncId} {args : List AV} {Q Q' : Heap → Prop} (h : WFD P B f args H Q) (hq : ∀ H, Q H → Q' H) : WFD P B f args H Q' := by
  intro ρ w xs h1 h2 c cs hu
  obtain ⟨e, u', w', fr, ⟨x, H', ρ', g1, g2, g3, g4⟩, rest⟩ := h ρ w xs h1 h2 c cs hu
  exact ⟨e, u', w', fr, ⟨x, H', ρ', g1, g2, hq _ g3, g4⟩, rest⟩

theorem LeaveW.mono {Q Q' : Heap → Prop} (hq : ∀ H, Q H → Q' H) : ∀ {D : List DC} {H : Heap}, LeaveW P B D H Q → LeaveW P B D H Q'
  | [], _, h => hq _ h
  | _ :: _, _, h => WFD.mono h fun _ hh => LeaveW.mono hq hh

theorem AfterD.exto {m : Nat} {ρ ρ1 : Env} {w w1 : World} (hk : K ≤ ρ.ats.length) (h : Ext B ρ w ρ1 w1) {F : Fence} {k : Nat} {ops : Array Oper} {l : List Nat} {a : Act} (hh : wpOpsIn F k P ops (AfterD P B K n m ρ1 w1 Q) l a w1) :
    wpOpsIn F k P ops (AfterD P B K n m ρ w Q) l a w1 := wpOpsIn_mono (fun _ _ _ => AfterD.extK (h.toK hk)) l a w1 hh

theorem WOD.nil {ops : Array Oper} (h : Q .nor fr H D) : WOD P B K n ops [] fr H D Q :=
  fun m ds ρ w a hk h1 h2 h3 hd h4 => ⟨.nor, fr, H, D, ds, ρ, rfl, h, hd, ExtK.refl _ _ _ hk, h1, h2, h3, h4⟩

theorem WOD.val' {ops : Array Oper} {i : Nat} {rest : List Nat} {o : Oper} {v v' : AV} {H' : Heap} {fr' : Fr} (ho : ops[i]? = some o) (hw : aWant ops fr o = some true) (he : aop P fr H o = some (.val v H'))
    (hun : v'.ub = v.ub) (hp : aput n fr o.dst v' = some fr') (h : WOD P B K n ops rest fr' H' D Q) : WOD P B K n ops (i :: rest) fr H D Q := by
  intro m ds ρ w a hk h1 h2 h3 hd h4
  refine wpOpsIn_step ho (aWant_sound h2 hw) ⟨fun f _ => trivial, ?_⟩
  rw [semAt_of (aop_not_defer he)]
  obtain ⟨x, w', ρ', hrun, g2, g3, g4⟩ := aop_sound h1 h2 he
  obtain ⟨p1, p2, p3⟩ := aput_sound (h2.mono g2.pre) h3 (g4.eqv hun) hp
  rcases hrun with hrun | ⟨hrun, rfl⟩
  · rw [hrun]; exact AfterD.exto hk g2 (h m ds ρ' w' _ (Nat.le_trans hk g2.pre.ats.length_le) g3 p1 p2 (hd.mono g2.pre) (by rw [p3]; exact h4.ext g2))
  · rw [hrun]; exact AfterD.exto hk g2 (h m ds ρ' w' _ (Nat.le_trans hk g2.pre.ats.length_le) g3 p1 p2 (hd.mono g2.pre) (by rw [p3]; exact h4.ext g2))

theorem WOD.skipped {ops : Array Oper} {i : Nat} {rest : List Nat} {o : Oper} {fr' : Fr} (ho : ops[i]? = some o) (hw : aWant ops fr o = some false)
    (hp : aput n fr o.dst (.tup []) = some fr') (h : WOD P B K n ops rest fr' H D Q) : WOD P B K n ops (i :: rest) fr H D Q := by
  intro m ds ρ w a hk h1 h2 h3 hd h4
  obtain ⟨p1, p2, p3⟩ := aput_sound (x := undef) h2 h3 (by simp [Rel, RelL, undef]) hp
  simp only [wpOpsIn, ho, aWant_sound h2 hw]
  exact ⟨fun f _ => trivial, h m ds ρ w _ hk h1 p1 p2 hd (by rw [p3]; exact h4)⟩

theorem WOD.call {ops : Array Oper} {i : Nat} {rest : List Nat} {o : Oper} {f : FuncId} {args : List AV} (ho : ops[i]? = some o) (hw : aWant ops fr o = some true) (he : aop P fr H o = some (.call f args))
    (h : WF P B f args H fun v H' => ∃ fr', aput n fr o.dst v = some fr' ∧ WOD P B K n ops rest fr' H' D Q) : WOD P B K n ops (i :: rest) fr H D Q := by
  intro m ds ρ w a hk h1 h2 h3 hd h4
  refine wpOpsIn_step ho (aWant_sound h2 hw) ⟨fun f _ => trivial, ?_⟩
  rw [semAt_of (aop_not_defer he)]
  obtain ⟨xs, hrun, hargs⟩ := aop_sound h1 h2 he
  rw [hrun]
  refine ⟨fun h => by simp [F0] at h, calls0 ((h ρ w xs h1 hargs).mono ?_)⟩
  rintro e w' ⟨v, x, H', ρ', rfl, ⟨fr', hp, hrest⟩, g2, g3, g4⟩
  obtain ⟨p1, p2, p3⟩ := aput_sound (h2.mono g2.pre) h3 g4 hp
  exact AfterD.exto hk g2 (hrest m ds ρ' w' _ (Nat.le_trans hk g2.pre.ats.length_le) g3 p1 p2 (hd.mono g2.pre) (by rw [p3]; exact h4.ext g2))

/-- One more call that is to come. -/
theorem WOD.defer {ops : Array Oper} {i : Nat} {rest : List Nat} {o : Oper} {c : Call} {x : Operand} {fv : AV} {args as : List AV} {f : FuncId} {fr' : Fr} (ho : ops[i]? = some o) (hw : aWant ops fr o = some true)
    (hop : o.op = .defer c) (hc : c.callee = .value x) (hx : aeval fr x = some fv) (ha : evalL fr c.args.toList = some args) (hcall : aCallV P fv args = some (.call f as))
    (hp : aput n fr o.dst (.tup []) = some fr') (h : WOD P B K n ops rest fr' H ((f, as) :: D) Q) : WOD P B K n ops (i :: rest) fr H D Q := by
  intro m ds ρ w a hk h1 h2 h3 hd h4
  obtain ⟨dst, op, type, pos, after, guard⟩ := o
  simp only at hop
  subst hop
  refine wpOpsIn_step ho (aWant_sound h2 hw) ⟨fun f _ => trivial, ?_⟩
  have hfv := aeval_sound h2 hx
  have hargs := evalL_sound h2 ha
  unfold aCallV at hcall
  split at hcall
  · rename_i k first captured
    cases hk' : isFunc P k with
    | false => simp [hk'] at hcall
    | true =>
      simp [hk'] at hcall
      obtain ⟨rfl, rfl⟩ := hcall
      simp only [Rel] at hfv
      obtain ⟨fs, cs, hv, g1, g2⟩ := hfv
      have hr : (Oper.semAt (F0 none).round a.eval { dst := dst, op := .defer c, type := type, pos := pos, after := after, guard := guard }).run P w = .ok (.defer { target := .fn (.func k) cs, args := fs ++ c.args.map a.eval }) w := by
        rw [show (F0 none).round = none from rfl, Oper.semAt_none]
        simp only [execOp, resolve, hc, hv, Deferred.ofValue, Sem.run_bind, Sem.run_pure, Result.andThen_ok]
      rw [hr]
      have hu : Rel ρ (.tup []) undef := by simp [Rel, RelL, undef]
      obtain ⟨p1, p2, p3⟩ := aput_sound (a := { a with defers := { target := .fn (.func k) cs, args := fs ++ c.args.map a.eval } :: a.defers }) (x := undef) h2 h3 hu hp
      obtain ⟨m0, bs, m1, m2⟩ := h4
      refine h m ({ target := .fn (.func k) cs, args := fs ++ c.args.map a.eval } :: ds) ρ w _ hk h1 p1 p2 ⟨_, ds, .func k, cs, fs ++ c.args.map a.eval ++ cs, rfl, rfl, ?_, fun w => ?_, hd⟩ ?_
      · simp only [Array.toList_append, Array.toList_map]
        rw [List.append_assoc]
        exact g1.append (hargs.append g2)
      · simp only [invoke, callFunc_run hk']
      · rw [p3]; exact ⟨m0, bs, .call m1, m2⟩
  · cases hcall
  · cases hcall

theorem WB.region {id : Nat} {ops : Array Oper} (h : WOD P B K n ops (List.range ops.size) fr H D Q) : WB P B K n (.region id ops false) fr H D Q := by
  intro m ds ρ w a hk h1 h2 h3 hd h4
  exact wpIn_region (h m ds ρ w a hk h1 h2 h3 hd h4)

/-! ### The way out -/
/-- What the way out does to the world: the marks' blocks are turned, too. -/
structure ExtM (B : Nat) (bs : List Nat) (ρ : Env) (w : World) (ρ' : Env) (w' : World) : Prop where
  pre : ρ.le ρ'
  os : w'.os = w.os
  tape : w'.tape = w.tape
  output : w'.output = w.output
  size : w.heap.size ≤ w'.heap.size
  below : ∀ k, k < B → k ∉ bs → w'.heap[k]? = w.heap[k]?
  other : ∀ k, k < w.heap.size → ¬ ρ.blk k → k ∉ bs → w'.heap[k]? = w.heap[k]?
  new : ∀ b, ρ'.blk b → ρ.blk b ∨ w.heap.size ≤ b
  fzn : ∀ b c, ρ'.fz b = some c → ρ.fz b = some c ∨ ρ.blk b ∨ w.heap.size ≤ b

theorem leave_out {M : Nat} {Q : Heap → Prop} : ∀ {bs : List Nat} {tl ds : List Deferred}, Weave bs tl ds → ∀ {D : List DC} {ρ : Env} {H : Heap} {w : World} (fr : Frame) (cs : List Frame), fr.mode = .returning → fr.defers = ds → bs.Nodup →
    (∀ b ∈ bs, w.heap[b]? = some (.deferred (some [])) ∧ M ≤ b ∧ ¬ ρ.blk b) → RelD P ρ D tl → HR B ρ H w → LeaveW P B D H Q →
    ∃ w' ρ' H', Steps P (lone fr cs w) (lone { fr with defers := [] } cs w') ∧ Q H' ∧ HR B ρ' H' w' ∧ ExtM B bs ρ w ρ' w' := by
  intro bs tl ds hw
  induction hw with
  | nil =>
    intro D ρ H w fr cs hm hd _ _ hD hr hl
    cases D with
    | nil =>
      have e : ({ fr with defers := [] } : Frame) = fr := by
        obtain ⟨f1, f2, f3, f4, f5, f6, f7⟩ := fr
        simp only at hd
        subst hd
        rfl
      exact ⟨w, ρ, H, by rw [e]; exact .refl P _, hl, hr, Env.le_refl _, rfl, rfl, rfl, Nat.le_refl _, fun _ _ _ => rfl, fun _ _ _ _ => rfl, fun _ h => .inl h, fun _ _ h => .inl h⟩
    | cons d D => obtain ⟨e, es, fv, cap, xs, h1, _⟩ := hD; cases h1
  | @mark b bs tl ds hw ih =>
    intro D ρ H w fr cs hm hd hnd hb hD hr hl
    have hb0 := hb b (List.mem_cons_self ..)
    rw [List.nodup_cons] at hnd
    obtain ⟨w1, s1, s2, s3, s4, s5, s6, s7⟩ := marks_out (P := P) (M := M) (tl := ds) [b] fr cs hm (by rw [hd]; rfl) (by simp) (fun b' hb' => by rw [List.mem_singleton] at hb'; subst hb'; exact hb0) hr
    have hbw : ∀ b' ∈ bs, w1.heap[b']? = some (.deferred (some [])) ∧ M ≤ b' ∧ ¬ ρ.blk b' := fun b' hb' => by
      obtain ⟨q1, q2, q3⟩ := hb b' (List.mem_cons_of_mem _ hb')
      exact ⟨(s7 b' fun e => by rw [List.mem_singleton] at e; subst e; exact hnd.1 hb').trans q1, q2, q3⟩
    obtain ⟨w2, ρ2, H2, t1, t2, t3, t4⟩ := ih { fr with defers := ds } cs hm rfl hnd.2 hbw hD s2 hl
    refine ⟨w2, ρ2, H2, Steps.trans s1 t1, t2, t3, t4.pre, t4.os.trans s3, t4.tape.trans s4, t4.output.trans s5, by have := t4.size; omega, fun k hk hn => ?_, fun k hk hn hkb => ?_, fun b' hb' => ?_, fun b' c hb' => ?_⟩
    · rw [List.mem_cons, not_or] at hn
      exact (t4.below k hk hn.2).trans (s7 k (by simp [hn.1]))
    · rw [List.mem_cons, not_or] at hkb
      exact (t4.other k (by rw [s6]; exact hk) hn hkb.2).trans (s7 k (by simp [hkb.1]))
    · rw [← s6]; exact t4.new b' hb'
    · rw [← s6]; exact t4.fzn b' c hb'
  | @call d bs tl ds hw ih =>
    intro D ρ H w fr cs hm hd hnd hb hD hr hl
    cases D with
    | nil => cases hD
    | cons d0 D =>
      obtain ⟨e, es, fv, cap, xs, h1, h2, h3, h4, h5⟩ := hD
      cases h1
      have hs1 := step_defer (P := P) (fr := fr) (cs := cs) (w := w) (d := d) (ds := ds) (by rw [hm]; simp) hd h2 (h4 w)
      obtain ⟨e1, u1, w1, frx, ⟨x, H1, ρ1, rfl, rfl, hl1, he1, hr1⟩, hst, hkx, hgo⟩ := hl ρ w xs hr h3 { fr with defers := ds } cs hm
      have hs2 := step_going_returned (P := P) (c := { { fr with defers := ds } with mode := .returning }) (cs := cs) hkx hgo
      have hse : ({ { { fr with defers := ds } with mode := .returning } with mode := settle .returning } : Frame) = { fr with defers := ds } := by
        obtain ⟨f1, f2, f3, f4, f5, f6, f7⟩ := fr
        simp only at hm
        subst hm
        rfl
      have hbw : ∀ b' ∈ bs, w1.heap[b']? = some (.deferred (some [])) ∧ M ≤ b' ∧ ¬ ρ1.blk b' := fun b' hb' => by
        obtain ⟨q1, q2, q3⟩ := hb b' hb'
        have hlt : b' < w.heap.size := (Array.getElem?_eq_some_iff.1 q1).1
        refine ⟨(he1.other b' hlt q3).trans q1, q2, fun hbk => ?_⟩
        rcases he1.new b' hbk with hb2 | hge
        · exact q3 hb2
        · omega
      obtain ⟨w2, ρ2, H2, t1, t2, t3, t4⟩ := ih { fr with defers := ds } cs hm rfl hnd hbw (h5.mono he1.pre) hr1 hl1
      refine ⟨w2, ρ2, H2, ?_, t2, t3, he1.pre.trans t4.pre, t4.os.trans he1.os, t4.tape.trans he1.tape, t4.output.trans he1.output, Nat.le_trans he1.size t4.size, fun k hk hn => (t4.below k hk hn).trans (he1.below k hk), fun k hk hn hkb => ?_, fun b' hb' => ?_, fun b' c hb' => ?_⟩
      · refine .head hs1 (Steps.trans hst (.head hs2 ?_))
        rw [hse]
        exact t1
      · refine (t4.other k (Nat.lt_of_lt_of_le hk he1.size) (fun hbk => ?_) hkb).trans (he1.other k hk hn)
        rcases he1.new k hbk with hb2 | hge
        · exact hn hb2
        · omega
      · rcases t4.new b' hb' with g | g
        · exact he1.new b' g
        · exact .inr (Nat.le_trans he1.size g)
      · rcases t4.fzn b' c hb' with g | g | g
        · exact he1.fzn b' c g
        · exact .inr (he1.new b' g)
        · exact .inr (.inr (Nat.le_trans he1.size g))

/-- A function that defers. -/
theorem WF.bodyD {f : FuncId} {fn : Func} {c : Code} {args : List AV} {Q : AV → Heap → Prop} (hf : P.funcs[f]? = some fn) (hb : fn.body = some c)
    (h : WB P B H.next (args.length + (fn.ntmps - args.length)) c (initFr args 0 .nil) H [] fun x fr' H' D' => (x = .nor ∨ x = .ret) ∧ LeaveW P B D' H' fun H2 => ∃ v, ares P fn fr' H2 = some v ∧ Q v H2) : WF P B f args H Q := by
  intro ρ w xs h1 h2 cs
  have hlen : xs.size = args.length := by have := h2.length; simpa using this
  let a0 : Act := { tmps := xs ++ Array.replicate (fn.ntmps - xs.size) undef, defers := [] }
  let b : Frame := { (default : Frame) with fn := f, kind := .normal }
  have henter : Frame.enter P f xs .normal = b.atR a0 [.code c] := by
    simp [Frame.enter, Frame.atR, hf, hb, b, a0]; rfl
  obtain ⟨e, a', w', ⟨x, fr', H', D', ds', ρ', rfl, ⟨hx, hl⟩, gd, g3, g4, g5, g6, g7⟩, harr⟩ := h w.heap.size [] ρ w a0 (Nat.le_of_eq h1.next) h1 (initFr_rel h2 _) (by simp [a0, hlen]) rfl (Marks.nil (M := (w.heap.size, [])) _ (Nat.le_refl _)) b [] cs rfl trivial (room0 none _)
  have hret : ∃ todo, Steps P (lone (Frame.enter P f xs .normal) cs w) (lone { b.atR a' todo with mode := .returning } cs w') := by
    rw [henter]
    rcases hx with rfl | rfl
    · exact ⟨[], Steps.trans (steps0.1 harr) (.one (stepR_end rfl))⟩
    · obtain ⟨todo, hs⟩ := harr.1 rfl
      exact ⟨todo, steps0.1 hs⟩
  obtain ⟨todo, hs⟩ := hret
  obtain ⟨d0, bs, d1, d2, d3⟩ := g7
  obtain ⟨w2, ρ2, H2, s1, ⟨v, hv, hq⟩, s2, s3⟩ := leave_out (P := P) (M := w.heap.size) d1 { b.atR a' todo with mode := .returning } cs rfl rfl d2 d3 gd g4 hl
  obtain ⟨y, hy, hry⟩ := ares_sound (P := P) s2 (g5.mono s3.pre) hv
  refine ⟨.returned y, w2, { { b.atR a' todo with mode := .returning } with defers := [] }, ⟨v, y, H2, ρ2, rfl, hq, ?_, s2, hry⟩, Steps.trans hs s1, rfl, rfl, rfl, rfl, fn, hf, hy⟩
  rw [h1.next] at g3
  have g3 := g3.toExt
  refine ⟨g3.pre.trans s3.pre, s3.os.trans g3.os, s3.tape.trans g3.tape, s3.output.trans g3.output, Nat.le_trans g3.size s3.size, fun k hk => ?_, fun k hk hn => ?_, fun e he => ?_, fun b c hc => ?_⟩
  · refine (s3.below k hk fun hkb => ?_).trans (g3.below k hk)
    have := (d3 k hkb).2.1; have := h1.base; omega
  · refine (s3.other k (Nat.lt_of_lt_of_le hk g3.size) (fun hbk => ?_) fun hkb => ?_).trans (g3.other k hk hn)
    · rcases g3.new k hbk with hb2 | hge
      · exact hn hb2
      · omega
    · have := (d3 k hkb).2.1; omega
  · rcases s3.new e he with g | g
    · exact g3.new e g
    · exact .inr (Nat.le_trans g3.size g)
  · rcases s3.fzn b c hc with g | g | g
    · exact g3.fzn b c g
    · exact .inr (g3.new b g)
    · exact .inr (.inr (Nat.le_trans g3.size g))

/-- A function that is called as a deferred one; it defers nothing itself. -/
theorem WFD.body {f : FuncId} {fn : Func} {c : Code} {args : List AV} {Q : Heap → Prop} (hf : P.funcs[f]? = some fn) (hb : fn.body = some c)
    (h : WC P B H.next none (args.length + (fn.ntmps - args.length)) c (initFr args 0 .nil) H fun x fr' H' => (x = .nor ∨ x = .ret) ∧ ∃ v, ares P fn fr' H' = some v ∧ Q H') : WFD P B f args H Q := by
  intro ρ w xs h1 h2 c0 cs hc0
  have hlen : xs.size = args.length := by have := h2.length; simpa using this
  let a0 : Act := { tmps := xs ++ Array.replicate (fn.ntmps - xs.size) undef, defers := [] }
  let b : Frame := { (default : Frame) with fn := f, kind := .deferred }
  have henter : Frame.enter P f xs .deferred = b.atR a0 [.code c] := by
    simp [Frame.enter, Frame.atR, hf, hb, b, a0]; rfl
  have hc : ({ c0 with mode := .returning } : Frame) = c0 := by
    obtain ⟨f1, f2, f3, f4, f5, f6, f7⟩ := c0
    simp only at hc0
    subst hc0
    rfl
  obtain ⟨e, a', w', ⟨x, fr', H', ρ', rfl, ⟨hx, v, hv, hq⟩, g3, g4, g5, g6, g7⟩, harr⟩ := h (w.heap.size, []) ρ w a0 (Nat.le_of_eq h1.next) h1 (initFr_rel h2 _) (by simp [a0, hlen]) (Marks.nil _ (Nat.le_refl _)) b [] (c0 :: cs) rfl trivial (room0 none _)
  have hret : ∃ todo, Steps P (lone (Frame.enter P f xs .deferred) (c0 :: cs) w) (lone { b.atR a' todo with mode := .returning } (c0 :: cs) w') := by
    rw [henter]
    rcases hx with rfl | rfl
    · exact ⟨[], Steps.trans (steps0.1 harr) (.one (stepR_end rfl))⟩
    · obtain ⟨todo, hs⟩ := harr.1 rfl
      exact ⟨todo, steps0.1 hs⟩
  obtain ⟨todo, hs⟩ := hret
  obtain ⟨d0, bs, d1, d2, d3⟩ := g7
  obtain ⟨w2, s1, s2, s3, s4, s5, s6, s7⟩ := marks_out (P := P) bs { b.atR a' todo with mode := .returning } (c0 :: cs) rfl d1.marks d2 d3 g4
  obtain ⟨y, hy, hry⟩ := ares_sound (P := P) s2 g5 hv
  refine ⟨.returned y, .returning, w2, { { b.atR a' todo with mode := .returning } with defers := [] }, ⟨y, H', ρ', rfl, rfl, hq, ?_, s2⟩, by rw [hc]; exact Steps.trans hs s1, rfl, rfl, rfl, fn, hf, hy⟩
  rw [h1.next] at g3
  have g3 := g3.toExt
  refine ⟨g3.pre, s3.trans g3.os, s4.trans g3.tape, s5.trans g3.output, by have := g3.size; omega, fun k hk => ?_, fun k hk hn => ?_, fun e he => g3.new e he, g3.fzn⟩
  · refine (s7 k fun hkb => ?_).trans (g3.below k hk)
    have := (d3 k hkb).2.1; have := h1.base; omega
  · refine (s7 k fun hkb => ?_).trans (g3.other k hk hn)
    have := (d3 k hkb).2.1; omega

end
end Go.AM
