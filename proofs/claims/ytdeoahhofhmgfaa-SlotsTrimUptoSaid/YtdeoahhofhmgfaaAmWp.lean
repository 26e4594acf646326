/- THE ABSTRACT MACHINE, 14: what code does, said of the machine alone; rules for straight code, branches, loops, regions in the text's order, calls. -/
import Derived.Test.YtdeoahhofhmgfaaAmX
import Derived.OrdersIn
import Derived.RangeFuncLeaves
set_option linter.unusedSimpArgs false
set_option linter.unusedVariables false
namespace Go.AM
open Go.RowKit

/-- A fence that fences nothing, of a function's frame or of a round's. -/
def F0 (r : Option Nat) : Fence := { fn := fun _ => True, depth := none, alive := false, round := r }

theorem room0 (r : Option Nat) (n : Nat) : (F0 r).room n := fun _ h => by simp [F0] at h
theorem fenced0 (P : Program) (r : Option Nat) (m : Machine) : m.fenced P (F0 r) := by
  intro g _
  refine ⟨fun h => ?_, .inl trivial, fun _ _ => trivial, room0 r _⟩
  simp [F0] at h
theorem steps0 {P : Program} {r : Option Nat} {m m' : Machine} : StepsIn (Machine.fenced P (F0 r)) P m m' ↔ Steps P m m' :=
  ⟨StepsIn.steps, fun h => (StepsIn.of_steps h).mono fun m _ => fenced0 P r m⟩

theorem calls0 {P : Program} {r : Option Nat} {k : Nat} {f : FuncId} {args : Array Value} {w : World} {R : Ending → World → Prop} (h : Calls P f args w R) : CallsIn (F0 r) k P f args w R :=
  ⟨trivial, fun cs _ => by
    obtain ⟨e, w', fr, h1, h2, h3, h4⟩ := h cs
    refine ⟨e, w', fr, h1, ?_, h3, h4⟩
    cases e with
    | returned v => exact steps0.2 h2
    | panicked c => exact steps0.2 h2
    | outgrown => exact h2⟩

theorem calls_of0 {P : Program} {f : FuncId} {args : Array Value} {w : World} {R : Ending → World → Prop} (h : CallsIn (F0 none) 0 P f args w R) : Calls P f args w R :=
  fun cs => by
    obtain ⟨e, w', fr, h1, h2, h3, h4⟩ := h.2 cs (room0 none _)
    refine ⟨e, w', fr, h1, ?_, h3, h4⟩
    cases e with
    | returned v => exact steps0.1 h2
    | panicked c => exact steps0.1 h2
    | outgrown => exact h2

/-- The ways out of code. -/
inductive XT where
  | nor
  | ex (id : Nat)
  | ret

def XT.out : XT → Exit
  | .nor => .normal
  | .ex id => .exit id
  | .ret => .ret

abbrev Post := XT → Fr → Heap → Prop

def markOf (b : Nat) : Deferred := { target := .collected b, args := #[] }

/-- The marks of a frame's loops over functions. -/
def Marks (M : Nat) (ρ : Env) (w : World) (ds : List Deferred) : Prop :=
  M ≤ w.heap.size ∧ ∃ bs : List Nat, ds = bs.map markOf ∧ bs.Nodup ∧ ∀ b ∈ bs, w.heap[b]? = some (.deferred (some [])) ∧ M ≤ b ∧ ¬ ρ.blk b

theorem Marks.nil {M : Nat} (ρ : Env) {w : World} (h : M ≤ w.heap.size) : Marks M ρ w [] := ⟨h, [], rfl, List.nodup_nil, fun b hb => by cases hb⟩

/-- What a piece of a run does to the world, where only the first names are kept. -/
structure ExtK (K : Nat) (B : Nat) (ρ : Env) (w : World) (ρ' : Env) (w' : World) : Prop where
  pre : ρ'.ats.take K = ρ.ats.take K
  kle : K ≤ ρ'.ats.length
  fz : FzLe ρ.fz ρ'.fz
  os : w'.os = w.os
  tape : w'.tape = w.tape
  output : w'.output = w.output
  size : w.heap.size ≤ w'.heap.size
  below : ∀ k, k < B → w'.heap[k]? = w.heap[k]?
  other : ∀ k, k < w.heap.size → ¬ ρ.blk k → w'.heap[k]? = w.heap[k]?
  new : ∀ b, ρ'.blk b → ρ.blk b ∨ w.heap.size ≤ b
  fzn : ∀ b c, ρ'.fz b = some c → ρ.fz b = some c ∨ ρ.blk b ∨ w.heap.size ≤ b

theorem take_prefix {α : Type} {l l' : List α} {K : Nat} (h : l <+: l') (hk : K ≤ l.length) : l'.take K = l.take K := by
  obtain ⟨t, rfl⟩ := h
  rw [List.take_append_of_le_length hk]

theorem Ext.toK {B K : Nat} {ρ ρ' : Env} {w w' : World} (h : Ext B ρ w ρ' w') (hk : K ≤ ρ.ats.length) : ExtK K B ρ w ρ' w' :=
  ⟨take_prefix h.pre.ats hk, Nat.le_trans hk h.pre.ats.length_le, h.pre.fz, h.os, h.tape, h.output, h.size, h.below, h.other, h.new, h.fzn⟩

theorem ExtK.toExt {B : Nat} {ρ ρ' : Env} {w w' : World} (h : ExtK ρ.ats.length B ρ w ρ' w') : Ext B ρ w ρ' w' :=
  ⟨⟨by have := h.pre; rw [List.take_length] at this; rw [← this]; exact List.take_prefix _ _, h.fz⟩, h.os, h.tape, h.output, h.size, h.below, h.other, h.new, h.fzn⟩

theorem ExtK.refl {K : Nat} (B : Nat) (ρ : Env) (w : World) (hk : K ≤ ρ.ats.length) : ExtK K B ρ w ρ w := (Ext.refl B ρ w).toK hk

theorem ExtK.trans {B K : Nat} {ρ ρ1 ρ2 : Env} {w w1 w2 : World} (h : ExtK K B ρ w ρ1 w1) (k : ExtK K B ρ1 w1 ρ2 w2) : ExtK K B ρ w ρ2 w2 where
  pre := k.pre.trans h.pre
  kle := k.kle
  fz b c hb := k.fz b c (h.fz b c hb)
  os := k.os.trans h.os
  tape := k.tape.trans h.tape
  output := k.output.trans h.output
  size := Nat.le_trans h.size k.size
  below b hb := (k.below b hb).trans (h.below b hb)
  other b hb hn := by
    refine (k.other b (Nat.lt_of_lt_of_le hb h.size) fun e => ?_).trans (h.other b hb hn)
    rcases h.new b e with g | hge
    · exact hn g
    · omega
  new e he := by
    rcases k.new e he with g | hge
    · exact h.new e g
    · exact .inr (Nat.le_trans h.size hge)
  fzn b c hb := by
    rcases k.fzn b c hb with g | g | hge
    · exact h.fzn b c g
    · exact .inr (h.new b g)
    · exact .inr (.inr (Nat.le_trans h.size hge))

theorem Marks.extK {B K M : Nat} {ρ ρ' : Env} {w w' : World} {ds : List Deferred} (h : Marks M ρ w ds) (e : ExtK K B ρ w ρ' w') : Marks M ρ' w' ds := by
  obtain ⟨h0, bs, h1, h2, h3⟩ := h
  refine ⟨Nat.le_trans h0 e.size, bs, h1, h2, fun b hb => ?_⟩
  obtain ⟨g1, g2, g3⟩ := h3 b hb
  have hlt : b < w.heap.size := (Array.getElem?_eq_some_iff.1 g1).1
  refine ⟨(e.other b hlt g3).trans g1, g2, fun hbk => ?_⟩
  rcases e.new b hbk with hb2 | hge
  · exact g3 hb2
  · omega

theorem Marks.ext {B M : Nat} {ρ ρ' : Env} {w w' : World} {ds : List Deferred} (h : Marks M ρ w ds) (e : Ext B ρ w ρ' w') : Marks M ρ' w' ds := h.extK (e.toK (Nat.zero_le _))

def After (B : Nat) (K n M : Nat) (ρ : Env) (w : World) (Q : Post) : Exit → Act → World → Prop := fun e a' w' =>
  ∃ x fr' H' ρ', e = x.out ∧ Q x fr' H' ∧ ExtK K B ρ w ρ' w' ∧ HR B ρ' H' w' ∧ FRel ρ' fr' a'.tmps ∧ a'.tmps.size = n ∧ Marks M ρ' w' a'.defers

theorem After.extK {B K n M : Nat} {ρ ρ1 : Env} {w w1 : World} {Q : Post} {e : Exit} {a : Act} {w' : World} (h : ExtK K B ρ w ρ1 w1) (k : After B K n M ρ1 w1 Q e a w') : After B K n M ρ w Q e a w' := by
  obtain ⟨x, fr', H', ρ', h1, h2, h3, h4⟩ := k
  exact ⟨x, fr', H', ρ', h1, h2, h.trans h3, h4⟩

theorem After.ext {B K n M : Nat} {ρ ρ1 : Env} {w w1 : World} {Q : Post} {e : Exit} {a : Act} {w' : World} (hk : K ≤ ρ.ats.length) (h : Ext B ρ w ρ1 w1) (k : After B K n M ρ1 w1 Q e a w') : After B K n M ρ w Q e a w' := k.extK (h.toK hk)

section
variable (P : Program) (B : Nat)

/-- Code, from a frame and a heap of the machine's. -/
def WC (K : Nat) (r : Option Nat) (n : Nat) (c : Code) (fr : Fr) (H : Heap) (Q : Post) : Prop :=
  ∀ (M : Nat) (ρ : Env) (w : World) (a : Act), K ≤ ρ.ats.length → HR B ρ H w → FRel ρ fr a.tmps → a.tmps.size = n → Marks M ρ w a.defers → c.wpIn (F0 r) 0 P (After B K n M ρ w Q) a w

/-- A loop that has begun. -/
def WL (K : Nat) (r : Option Nat) (n : Nat) (c : Code) (fr : Fr) (H : Heap) (Q : Post) : Prop :=
  ∀ (M : Nat) (ρ : Env) (w : World) (a : Act), K ≤ ρ.ats.length → HR B ρ H w → FRel ρ fr a.tmps → a.tmps.size = n → Marks M ρ w a.defers →
    ∀ (b : Frame) (k : List Item) (cs : List Frame), b.roundOf = r →
      ∃ e a' w', After B K n M ρ w Q e a' w' ∧ ArrivesIn (Machine.fenced P (F0 r)) P (lone (b.atR a (.inLoop c :: k)) cs w) b k cs e a' w'

/-- A call. -/
def WF (f : FuncId) (args : List AV) (H : Heap) (Q : AV → Heap → Prop) : Prop :=
  ∀ (ρ : Env) (w : World) (xs : Array Value), HR B ρ H w → RelL ρ args xs.toList →
    Calls P f xs w fun e w' => ∃ v x H' ρ', e = .returned x ∧ Q v H' ∧ Ext B ρ w ρ' w' ∧ HR B ρ' H' w' ∧ Rel ρ' v x

/-- Operations of a region, one behind the other. -/
def WO (K : Nat) (r : Option Nat) (n : Nat) (ops : Array Oper) (l : List Nat) (fr : Fr) (H : Heap) (Q : Fr → Heap → Prop) : Prop :=
  ∀ (M : Nat) (ρ : Env) (w : World) (a : Act), K ≤ ρ.ats.length → HR B ρ H w → FRel ρ fr a.tmps → a.tmps.size = n → Marks M ρ w a.defers →
    wpOpsIn (F0 r) 0 P ops (After B K n M ρ w fun x fr' H' => x = .nor ∧ Q fr' H') l a w
end

section
variable {P : Program} {B K : Nat} {r : Option Nat} {n : Nat} {fr : Fr} {H : Heap} {Q : Post}

theorem WC.mono {c : Code} {Q' : Post} (h : WC P B K r n c fr H Q) (hq : ∀ x fr H, Q x fr H → Q' x fr H) : WC P B K r n c fr H Q' :=
  fun M ρ w a hk h1 h2 h3 h4 => wpIn_mono (h M ρ w a hk h1 h2 h3 h4) fun e a' w' ⟨x, fr', H', ρ', g1, g2, g3⟩ => ⟨x, fr', H', ρ', g1, hq _ _ _ g2, g3⟩

theorem WF.mono {f : FuncId} {args : List AV} {Q Q' : AV → Heap → Prop} (h : WF P B f args H Q) (hq : ∀ v H, Q v H → Q' v H) : WF P B f args H Q' :=
  fun ρ w xs h1 h2 => (h ρ w xs h1 h2).mono fun e w' ⟨v, x, H', ρ', g1, g2, g3⟩ => ⟨v, x, H', ρ', g1, hq _ _ g2, g3⟩

theorem WC.skip (h : Q .nor fr H) : WC P B K r n .skip fr H Q :=
  fun M ρ w a hk h1 h2 h3 h4 => wpIn_skip ⟨.nor, fr, H, ρ, rfl, h, ExtK.refl _ _ _ hk, h1, h2, h3, h4⟩

theorem WC.label {l : Nat} (h : Q .nor fr H) : WC P B K r n (.label l) fr H Q :=
  fun M ρ w a hk h1 h2 h3 h4 => wpIn_label ⟨.nor, fr, H, ρ, rfl, h, ExtK.refl _ _ _ hk, h1, h2, h3, h4⟩

theorem WC.ret (h : Q .ret fr H) : WC P B K r n .ret fr H Q :=
  fun M ρ w a hk h1 h2 h3 h4 => wpIn_ret ⟨.ret, fr, H, ρ, rfl, h, ExtK.refl _ _ _ hk, h1, h2, h3, h4⟩

theorem WC.exit {id : Nat} (h : Q (.ex id) fr H) : WC P B K r n (.exit id) fr H Q :=
  fun M ρ w a hk h1 h2 h3 h4 => wpIn_exit ⟨.ex id, fr, H, ρ, rfl, h, ExtK.refl _ _ _ hk, h1, h2, h3, h4⟩

theorem WC.seq {x y : Code} {R : Post} (h : WC P B K r n x fr H R) (hn : ∀ fr' H', R .nor fr' H' → WC P B K r n y fr' H' Q) (he : ∀ x fr' H', x ≠ .nor → R x fr' H' → Q x fr' H') : WC P B K r n (.seq x y) fr H Q := by
  intro M ρ w a hk h1 h2 h3 h4
  refine wpIn_seq (wpIn_mono (h M ρ w a hk h1 h2 h3 h4) ?_)
  rintro e a' w' ⟨x, fr', H', ρ', rfl, g2, g3, g4, g5, g6, g7⟩
  cases x with
  | nor => exact wpIn_mono (hn fr' H' g2 M ρ' w' a' g3.kle g4 g5 g6 g7) fun e a w hh => hh.extK g3
  | ex id => exact ⟨.ex id, fr', H', ρ', rfl, he _ _ _ (by simp) g2, g3, g4, g5, g6, g7⟩
  | ret => exact ⟨.ret, fr', H', ρ', rfl, he _ _ _ (by simp) g2, g3, g4, g5, g6, g7⟩

theorem WC.cond {c : Operand} {x y : Code} {t : Bool} (hc : aeval fr c = some (.bool t)) (h : WC P B K r n (bif t then x else y) fr H Q) : WC P B K r n (.cond c x y) fr H Q := by
  intro M ρ w a hk h1 h2 h3 h4
  have hv := aeval_sound h2 hc
  simp only [Rel] at hv
  refine wpIn_cond hv ?_
  cases t
  · exact h M ρ w a hk h1 h2 h3 h4
  · exact h M ρ w a hk h1 h2 h3 h4

theorem WC.block {id : Nat} {c : Code} (h : WC P B K r n c fr H fun x fr' H' => match x with | .ex id' => if id' = id then Q .nor fr' H' else Q (.ex id') fr' H' | x => Q x fr' H') : WC P B K r n (.block id c) fr H Q := by
  intro M ρ w a hk h1 h2 h3 h4
  refine wpIn_block (wpIn_mono (h M ρ w a hk h1 h2 h3 h4) ?_)
  rintro e a' w' ⟨x, fr', H', ρ', rfl, g2, g3⟩
  cases x with
  | nor => exact ⟨.nor, fr', H', ρ', rfl, g2, g3⟩
  | ret => exact ⟨.ret, fr', H', ρ', rfl, g2, g3⟩
  | ex id' =>
    simp only [XT.out, Exit.inBlock]
    simp only at g2
    by_cases hi : id' = id
    · rw [if_pos hi] at g2 ⊢; exact ⟨.nor, fr', H', ρ', rfl, g2, g3⟩
    · rw [if_neg hi] at g2 ⊢; exact ⟨.ex id', fr', H', ρ', rfl, g2, g3⟩

/-- One round more. -/
theorem round_arrives {c : Code} {R : Post} (h : WC P B K r n c fr H R) (hn : ∀ fr' H', R .nor fr' H' → WL P B K r n c fr' H' Q) (he : ∀ x fr' H', x ≠ .nor → R x fr' H' → Q x fr' H') {M : Nat} {ρ : Env} {w : World} {a : Act}
    (hk : K ≤ ρ.ats.length) (h1 : HR B ρ H w) (h2 : FRel ρ fr a.tmps) (h3 : a.tmps.size = n) (h4 : Marks M ρ w a.defers) (b : Frame) (k : List Item) (cs : List Frame) (hb : b.roundOf = r) :
    ∃ e a' w', After B K n M ρ w Q e a' w' ∧ ArrivesIn (Machine.fenced P (F0 r)) P (lone (b.atR a (.code c :: .inLoop c :: k)) cs w) b k cs e a' w' := by
  obtain ⟨e, a', w', ⟨x, fr', H', ρ', rfl, g2, g3, g4, g5, g6, g7⟩, harr⟩ := h M ρ w a hk h1 h2 h3 h4 b (.inLoop c :: k) cs hb trivial (room0 r _)
  cases x with
  | nor =>
    obtain ⟨e2, a2, w2, hq2, harr2⟩ := hn fr' H' g2 M ρ' w' a' g3.kle g4 g5 g6 g7 b k cs hb
    exact ⟨e2, a2, w2, hq2.extK g3, .of_steps harr harr2⟩
  | ex id => exact ⟨_, a', w', ⟨.ex id, fr', H', ρ', rfl, he _ _ _ (by simp) g2, g3, g4, g5, g6, g7⟩, .pass (x := .inLoop c) rfl (fun _ _ => .inl (by simp [XT.out])) harr⟩
  | ret => exact ⟨_, a', w', ⟨.ret, fr', H', ρ', rfl, he _ _ _ (by simp) g2, g3, g4, g5, g6, g7⟩, .pass (x := .inLoop c) rfl (fun _ _ => .inl (by simp [XT.out])) harr⟩

theorem WL.round {c : Code} {R : Post} (h : WC P B K r n c fr H R) (hn : ∀ fr' H', R .nor fr' H' → WL P B K r n c fr' H' Q) (he : ∀ x fr' H', x ≠ .nor → R x fr' H' → Q x fr' H') : WL P B K r n c fr H Q := by
  intro M ρ w a hk h1 h2 h3 h4 b k cs hb
  obtain ⟨e, a', w', hq, harr⟩ := round_arrives h hn he hk h1 h2 h3 h4 b k cs hb
  exact ⟨e, a', w', hq, .of_steps (.one (fenced0 P r _) stepR_inLoop) harr⟩

theorem WC.loop {c : Code} {R : Post} (h : WC P B K r n c fr H R) (hn : ∀ fr' H', R .nor fr' H' → WL P B K r n c fr' H' Q) (he : ∀ x fr' H', x ≠ .nor → R x fr' H' → Q x fr' H') : WC P B K r n (.loop c) fr H Q := by
  intro M ρ w a hk h1 h2 h3 h4 b k cs hb _ _
  obtain ⟨e, a', w', hq, harr⟩ := round_arrives h hn he hk h1 h2 h3 h4 b k cs hb
  exact ⟨e, a', w', hq, .of_steps (.one (fenced0 P r _) stepR_loop) harr⟩

theorem WC.region {id : Nat} {ops : Array Oper} (h : WO P B K r n ops (List.range ops.size) fr H fun fr' H' => Q .nor fr' H') : WC P B K r n (.region id ops false) fr H Q := by
  intro M ρ w a hk h1 h2 h3 h4
  refine wpIn_mono (wpIn_region (h M ρ w a hk h1 h2 h3 h4)) ?_
  rintro e a' w' ⟨x, fr', H', ρ', rfl, ⟨rfl, g2⟩, g3⟩
  exact ⟨.nor, fr', H', ρ', rfl, g2, g3⟩

end
end Go.AM
