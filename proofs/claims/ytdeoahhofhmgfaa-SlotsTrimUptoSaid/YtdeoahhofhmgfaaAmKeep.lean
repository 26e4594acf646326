/- THE ABSTRACT MACHINE, 13f: which blocks an operation turns. -/
import Derived.Test.YtdeoahhofhmgfaaAmX
set_option linter.unusedSimpArgs false
set_option linter.unusedVariables false
namespace Go.AM

/-- What has no bit is as it was. -/
structure Heap.Kp (H H' : Heap) : Prop where
  get : ∀ i, H'.d.testBit i = false → H'.get i = H.get i
  bit : ∀ i, H'.d.testBit i = false → H.d.testBit i = false
  next : H.next ≤ H'.next

theorem Heap.Kp.refl (H : Heap) : H.Kp H := ⟨fun _ _ => rfl, fun _ h => h, Nat.le_refl _⟩
theorem Heap.Kp.trans {H H1 H2 : Heap} (h : H.Kp H1) (k : H1.Kp H2) : H.Kp H2 :=
  ⟨fun i hi => (k.get i hi).trans (h.get i (k.bit i hi)), fun i hi => h.bit i (k.bit i hi), Nat.le_trans h.next k.next⟩

theorem or_bit {d i j : Nat} (h : (d ||| 2 ^ j).testBit i = false) : d.testBit i = false ∧ i ≠ j := by
  rw [Nat.testBit_or, Bool.or_eq_false_iff] at h
  refine ⟨h.1, fun e => ?_⟩
  subst e
  rw [Nat.testBit_two_pow_self] at h
  exact Bool.noConfusion h.2

theorem Heap.Kp.set (H : Heap) (i : Nat) (o : AObj) : H.Kp (H.set i o) :=
  ⟨fun j hj => by rw [Heap.get_set, if_neg (or_bit hj).2], fun j hj => (or_bit hj).1, Nat.le_refl _⟩
theorem Heap.Kp.kill (H : Heap) (i : Nat) : H.Kp (H.kill i) :=
  ⟨fun j hj => by rw [Heap.get_kill, if_neg (or_bit hj).2], fun j hj => (or_bit hj).1, Nat.le_refl _⟩
theorem Heap.Kp.alloc (H : Heap) (o : AObj) : H.Kp (H.alloc o) :=
  ⟨fun j hj => by rw [Heap.get_alloc, if_neg (or_bit hj).2], fun j hj => (or_bit hj).1, Nat.le_succ _⟩

def OK {β : Type} (Q : β → Prop) (o : Option β) : Prop := ∀ b, o = some b → Q b
section
variable {α β : Type} {Q : β → Prop}
theorem OK.none : OK Q none := fun b h => by cases h
theorem OK.some {b : β} (h : Q b) : OK Q (some b) := fun c hc => by cases hc; exact h
theorem OK.bind {o : Option α} {f : α → Option β} (h : ∀ a, o = .some a → OK Q (f a)) : OK Q (o.bind f) := fun b hb => by
  rw [Option.bind_eq_some_iff] at hb
  obtain ⟨a, h1, h2⟩ := hb
  exact h a h1 b h2
theorem OK.map {o : Option α} {f : α → β} (h : ∀ a, o = .some a → Q (f a)) : OK Q (o.map f) := fun b hb => by
  rw [Option.map_eq_some_iff] at hb
  obtain ⟨a, h1, rfl⟩ := hb
  exact h a h1
theorem OK.cond {c : Bool} {a b : Option β} (h : OK Q a) (k : OK Q b) : OK Q (bif c then a else b) := by cases c <;> assumption
theorem OK.cond' {c : Bool} {a b : Option β} (h : c = true → OK Q a) (k : c = false → OK Q b) : OK Q (bif c then a else b) := by
  cases c
  · exact k rfl
  · exact h rfl
end

section
variable {P : Program} {H : Heap}
abbrev K1 (H : Heap) {α : Type} (r : α × Heap) : Prop := H.Kp r.2

theorem stN_kp {i off : Nat} {cs : List AV} : OK (fun H' => H.Kp H') (stN H i off cs) := by
  unfold stN
  split
  · exact OK.cond (OK.some (Heap.Kp.set ..)) OK.none
  · exact OK.none

theorem newCells_kp {ty : Option TypeId} {es : Nat} {cs : List AV} : OK (K1 H) (newCells H ty es cs) := by
  unfold newCells
  exact OK.cond (OK.some (Heap.Kp.alloc ..)) OK.none

theorem astore_kp {t : TypeId} {a v : AV} : OK (fun H' => H.Kp H') (astore P H t a v) := by
  unfold astore
  split
  · exact OK.bind fun _ _ => OK.bind fun _ _ => OK.cond stN_kp OK.none
  · exact OK.none

theorem aConv_kp {s d : TypeId} {x : AV} : OK (K1 H) (aConv P H s d x) := by
  unfold aConv
  refine OK.bind fun _ _ => OK.bind fun _ _ => ?_
  repeat' first
    | exact OK.none
    | exact OK.some (Heap.Kp.refl _)
    | exact OK.some (Heap.Kp.alloc ..)
    | exact OK.map fun _ _ => Heap.Kp.refl _
    | refine OK.bind fun _ _ => ?_
    | split

theorem aBuildSlice_kp {t : TypeId} {len : Nat} {ps : List (Nat × AV)} : OK (K1 H) (aBuildSlice P H t len ps) := by
  unfold aBuildSlice
  refine OK.bind fun _ _ => ?_
  split
  · exact OK.bind fun _ _ => OK.bind fun _ _ => OK.bind fun _ _ => OK.cond (OK.bind fun _ _ => OK.map fun r hr => newCells_kp r hr) OK.none
  · exact OK.none

theorem aMakeSlice_kp {t : TypeId} {l c : AV} : OK (K1 H) (aMakeSlice P H t l c) := by
  unfold aMakeSlice
  refine OK.bind fun _ _ => ?_
  split
  · refine OK.bind fun _ _ => OK.bind fun _ _ => OK.bind fun _ _ => ?_
    split
    · exact OK.cond (OK.map fun r hr => newCells_kp r hr) OK.none
    · exact OK.none
  · exact OK.none

theorem aMapUpdate_kp {t : TypeId} {m k v : AV} : OK (fun H' => H.Kp H') (aMapUpdate P H t m k v) := by
  unfold aMapUpdate
  refine OK.bind fun _ _ => ?_
  split
  · split
    · refine OK.cond (OK.bind fun r _ => ?_) OK.none
      split
      · exact OK.cond (OK.some (Heap.Kp.set ..)) OK.none
      · exact OK.some (Heap.Kp.set ..)
    · exact OK.none
  · exact OK.none

theorem aMapEntry_kp {t : TypeId} {m k : AV} : OK (K1 H) (aMapEntry P H t m k) := by
  unfold aMapEntry
  refine OK.bind fun _ _ => ?_
  split
  · split
    · refine OK.cond (OK.bind fun r _ => ?_) OK.none
      split
      · exact OK.cond (OK.some (Heap.Kp.set ..)) OK.none
      · exact OK.map fun _ _ => Heap.Kp.set ..
    · exact OK.none
  · exact OK.none

theorem aEntryStore_kp {m s v : AV} : OK (fun H' => H.Kp H') (aEntryStore H m s v) := by
  unfold aEntryStore
  repeat' first
    | exact OK.none
    | exact OK.map fun _ _ => Heap.Kp.set ..
    | split

theorem aDelete_kp {t : TypeId} {m k : AV} : OK (fun H' => H.Kp H') (aDelete P H t m k) := by
  unfold aDelete
  refine OK.bind fun _ _ => ?_
  split
  · exact OK.cond (OK.some (Heap.Kp.refl _)) OK.none
  · split
    · refine OK.cond (OK.bind fun r _ => ?_) OK.none
      split
      · exact OK.some (Heap.Kp.set ..)
      · exact OK.some (Heap.Kp.refl _)
    · exact OK.none
  · exact OK.none

theorem aRange_kp {t : TypeId} {x : AV} : OK (K1 H) (aRange P H t x) := by
  unfold aRange
  refine OK.bind fun _ _ => ?_
  repeat' first
    | exact OK.none
    | exact OK.some (Heap.Kp.alloc ..)
    | split

theorem aNext_kp {it : AV} {s : Bool} : OK (fun l => ∀ q ∈ l, H.Kp q.2) (aNext H it s) := by
  unfold aNext
  split
  · split
    · refine OK.cond (OK.some ?_) (OK.some ?_)
      · intro q hq; rw [List.mem_singleton] at hq; subst hq; exact Heap.Kp.set ..
      · intro q hq; rw [List.mem_singleton] at hq; subst hq; exact Heap.Kp.refl _
    · split
      · refine OK.cond OK.none (OK.some ?_)
        intro q hq
        obtain ⟨c, _, rfl⟩ := List.mem_map.1 hq
        cases c with
        | none => exact Heap.Kp.refl _
        | some e => exact Heap.Kp.set ..
      · exact OK.none
    · exact OK.none
  · exact OK.none

theorem aGrow_kp {ty : Option TypeId} {ie : TypeInfo} {n : Nat} {cs : List AV} : OK (K1 H) (aGrow H ty ie n cs) := by
  unfold aGrow
  exact OK.cond (OK.map fun r hr => newCells_kp r hr) OK.none

theorem aAppend_kp {ts : List TypeId} {s x : AV} : OK (K1 H) (aAppend P H ts s x) := by
  unfold aAppend
  split
  · refine OK.bind fun _ _ => OK.bind fun _ _ => ?_
    split
    · refine OK.bind fun _ _ => ?_
      split
      · exact OK.none
      · refine OK.cond OK.none (OK.bind fun _ _ => OK.bind fun _ _ => ?_)
        split
        · exact OK.cond (OK.some (Heap.Kp.refl _)) aGrow_kp
        · refine OK.cond (OK.map fun H' h => stN_kp H' h) (OK.cond (OK.bind fun _ _ => aGrow_kp) (OK.bind fun _ _ => ?_))
          split
          · exact OK.cond (fun r hr => (Heap.Kp.kill ..).trans (aGrow_kp r hr)) OK.none
          · exact OK.none
        · exact OK.none
        · exact OK.none
    · exact OK.none
  · exact OK.none

theorem aCopy_kp {ts : List TypeId} {s x : AV} : OK (K1 H) (aCopy P H ts s x) := by
  unfold aCopy
  split
  · refine OK.bind fun _ _ => ?_
    split
    · refine OK.bind fun _ _ => OK.cond OK.none (OK.bind fun _ _ => ?_)
      split
      · exact OK.some (Heap.Kp.refl _)
      · exact OK.bind fun _ _ => OK.map fun H' h => stN_kp H' h
      · exact OK.none
    · exact OK.none
  · exact OK.none

theorem aClear_kp {t : TypeId} {x : AV} : OK (fun H' => H.Kp H') (aClear P H t x) := by
  unfold aClear
  refine OK.bind fun _ _ => ?_
  split
  · exact OK.some (Heap.Kp.refl _)
  · exact OK.some (Heap.Kp.refl _)
  · exact OK.cond (OK.some (Heap.Kp.refl _)) (OK.bind fun _ _ => OK.bind fun _ _ => OK.bind fun _ _ => OK.cond stN_kp OK.none)
  · exact OK.none

theorem aBuiltin_kp {b : Builtin} {ts : List TypeId} {args : List AV} : OK (K1 H) (aBuiltin P H b ts args) := by
  unfold aBuiltin
  split
  · exact OK.bind fun _ _ => OK.map fun _ _ => Heap.Kp.refl _
  · exact OK.bind fun _ _ => OK.map fun _ _ => Heap.Kp.refl _
  · exact aAppend_kp
  · exact aCopy_kp
  · exact OK.bind fun _ _ => OK.map fun H' h => aDelete_kp H' h
  · exact OK.bind fun _ _ => OK.map fun H' h => aClear_kp H' h
  · exact OK.bind fun _ _ => OK.bind fun _ _ => OK.map fun _ _ => Heap.Kp.refl _
  · exact OK.bind fun _ _ => OK.bind fun _ _ => OK.map fun _ _ => Heap.Kp.refl _
  · exact OK.none

/-- What a result leaves as it was. -/
def Res.Kp (H : Heap) : Res → Prop
  | .val _ H' => H.Kp H'
  | .opts l => ∀ q ∈ l, H.Kp q.2
  | .fams l => ∀ q ∈ l, ∀ i, H.Kp (q.2 i).2
  | _ => True

theorem aCallV_kp {f : AV} {args : List AV} : OK (Res.Kp H) (aCallV P f args) := by
  unfold aCallV
  split
  · exact OK.cond (OK.some trivial) OK.none
  · exact OK.some trivial
  · exact OK.none

theorem aMethod_kp {t : TypeId} {v : AV} {n : String} {args : List AV} : OK (Res.Kp H) (aMethod P H t v n args) := by
  unfold aMethod
  exact OK.bind fun _ _ => OK.bind fun _ _ => OK.cond OK.none (OK.bind fun _ _ => OK.bind fun _ _ => OK.bind fun _ _ => OK.cond (OK.some trivial) OK.none)

theorem aop0_kp {fr : Fr} {o : Oper} : OK (Res.Kp H) (aop0 P fr H o) := by
  unfold aop0
  split
  · exact OK.map fun _ _ => Heap.Kp.refl _
  · exact OK.map fun _ _ => Heap.Kp.refl _
  · refine OK.bind fun _ _ => ?_
    split
    · exact OK.map fun _ _ => Heap.Kp.refl _
    · exact OK.map fun _ _ => Heap.Kp.refl _
    · exact OK.none
  · exact OK.bind fun _ _ => OK.bind fun _ _ => OK.bind fun _ _ => OK.map fun r hr => newCells_kp r hr
  · exact OK.bind fun _ _ => OK.bind fun _ _ => OK.bind fun _ _ => OK.map fun r hr => newCells_kp r hr
  · exact OK.bind fun _ _ => OK.map fun _ _ => Heap.Kp.refl _
  · exact OK.bind fun _ _ => OK.map fun r hr => aBuildSlice_kp r hr
  · exact OK.bind fun _ _ => OK.map fun _ _ => Heap.Kp.refl _
  · exact OK.bind fun _ _ => OK.bind fun _ _ => OK.map fun r hr => astore_kp r hr
  · refine OK.bind fun _ _ => ?_
    split
    · exact OK.some (Heap.Kp.refl _)
    · exact OK.some (Heap.Kp.refl _)
    · exact OK.some (Heap.Kp.refl _)
    · exact OK.some (Heap.Kp.refl _)
    · exact OK.none
  · exact OK.bind fun _ _ => OK.bind fun _ _ => OK.map fun _ _ => Heap.Kp.refl _
  · exact OK.bind fun _ _ => OK.map fun _ _ => Heap.Kp.refl _
  · exact OK.bind fun _ _ => OK.map fun r hr => aConv_kp r hr
  · refine OK.bind fun _ _ => OK.bind fun _ _ => ?_
    split
    · exact OK.none
    · exact OK.some (Heap.Kp.refl _)
  · split
    · exact OK.none
    · exact OK.bind fun _ _ => OK.map fun _ _ => Heap.Kp.refl _
  · split
    · exact OK.some (Heap.Kp.alloc ..)
    · refine OK.bind fun _ _ => ?_
      split
      · refine OK.bind fun _ _ => ?_
        split
        · exact OK.some (Heap.Kp.alloc ..)
        · exact OK.none
      · exact OK.none
  · exact OK.bind fun _ _ => OK.bind fun _ _ => OK.map fun r hr => aMakeSlice_kp r hr
  · exact OK.bind fun _ _ => OK.bind fun _ _ => OK.bind fun _ _ => OK.bind fun _ _ => OK.map fun _ _ => Heap.Kp.refl _
  · exact OK.bind fun _ _ => OK.map fun _ _ => Heap.Kp.refl _
  · exact OK.bind fun _ _ => OK.map fun _ _ => Heap.Kp.refl _
  · exact OK.bind fun _ _ => OK.bind fun _ _ => OK.map fun _ _ => Heap.Kp.refl _
  · exact OK.bind fun _ _ => OK.bind fun _ _ => OK.map fun _ _ => Heap.Kp.refl _
  · exact OK.bind fun _ _ => OK.bind fun _ _ => OK.map fun _ _ => Heap.Kp.refl _
  · exact OK.bind fun _ _ => OK.bind fun _ _ => OK.bind fun _ _ => OK.map fun r hr => aMapUpdate_kp r hr
  · exact OK.bind fun _ _ => OK.bind fun _ _ => OK.bind fun _ _ => OK.map fun r hr => aMapUpdate_kp r hr
  · exact OK.bind fun _ _ => OK.bind fun _ _ => OK.map fun r hr => aMapEntry_kp r hr
  · exact OK.bind fun _ _ => OK.bind fun _ _ => OK.bind fun _ _ => OK.map fun r hr => aEntryStore_kp r hr
  · exact OK.bind fun _ _ => OK.map fun r hr => aRange_kp r hr
  · exact OK.bind fun _ _ => OK.map fun _ _ => Heap.Kp.refl _
  · refine OK.bind fun _ _ => OK.bind fun l hl => ?_
    have h := aNext_kp l hl
    split
    · exact OK.some (h _ (List.mem_cons_self ..))
    · exact OK.some h
  · exact OK.bind fun _ _ => OK.map fun _ _ => Heap.Kp.refl _
  · refine OK.bind fun _ _ => ?_
    split
    · exact OK.map fun _ _ => Heap.Kp.refl _
    · exact OK.none
  · refine OK.bind fun _ _ => ?_
    split
    · exact OK.map fun r hr => aBuiltin_kp r hr
    · exact OK.bind fun _ _ => aCallV_kp
    · refine OK.bind fun _ _ => ?_
      split
      · exact aMethod_kp
      · exact OK.none
  · exact OK.none

theorem xStore_kp {t : TypeId} {a v : AV} : OK (fun H' => H.Kp H') (xStore P H t a v) := by
  unfold xStore
  split
  · split
    · exact OK.bind fun _ _ => OK.bind fun _ _ => OK.cond (OK.map fun _ _ => Heap.Kp.set ..) OK.none
    · exact OK.none
  · exact OK.none

abbrev K2 (H : Heap) (r : Option Prop × AV × Heap) : Prop := H.Kp r.2.2

theorem xConv_kp {s d : TypeId} {x : AV} : OK (K2 H) (xConv P H s d x) := by
  unfold xConv
  refine OK.bind fun _ _ => OK.bind fun _ _ => ?_
  repeat' first
    | exact OK.none
    | exact OK.some (Heap.Kp.refl _)
    | exact OK.some (Heap.Kp.alloc ..)
    | exact OK.map fun _ _ => Heap.Kp.refl _
    | refine OK.bind fun _ _ => ?_
    | split

theorem xMakeSlice_kp {t : TypeId} {l c : AV} : OK (K2 H) (xMakeSlice P H t l c) := by
  unfold xMakeSlice
  refine OK.bind fun _ _ => ?_
  split
  · exact OK.bind fun _ _ => OK.bind fun _ _ => OK.bind fun _ _ => OK.bind fun _ _ => OK.bind fun _ _ => OK.bind fun _ _ => OK.bind fun _ _ => OK.cond (OK.some (Heap.Kp.alloc ..)) OK.none
  · exact OK.none

theorem xMapUpdate_kp {t : TypeId} {m k v : AV} : OK (fun H' => H.Kp H') (xMapUpdate P H t m k v) := by
  unfold xMapUpdate
  refine OK.bind fun _ _ => ?_
  split
  · split
    · exact OK.cond (OK.bind fun _ _ => OK.bind fun _ _ => OK.bind fun _ _ => OK.map fun _ _ => Heap.Kp.set ..) OK.none
    · exact OK.none
  · exact OK.none

theorem xDelete_kp {t : TypeId} {m k : AV} : OK (fun H' => H.Kp H') (xDelete P H t m k) := by
  unfold xDelete
  refine OK.bind fun _ _ => ?_
  split
  · split
    · exact OK.cond (OK.bind fun _ _ => OK.map fun _ _ => Heap.Kp.set ..) OK.none
    · exact OK.none
  · exact OK.none

theorem killO_kp {o : Option Nat} : H.Kp (killO H o) := by
  cases o
  · exact Heap.Kp.refl _
  · exact Heap.Kp.kill ..

theorem xAppend_kp {ts : List TypeId} {s x : AV} : OK (K2 H) (xAppend P H ts s x) := by
  unfold xAppend
  split
  · refine OK.bind fun _ _ => OK.bind fun _ _ => ?_
    split
    · refine OK.bind fun _ _ => ?_
      split
      · exact OK.none
      · exact OK.bind fun _ _ => OK.cond (OK.bind fun _ _ => OK.map fun _ _ => killO_kp.trans (Heap.Kp.alloc ..)) OK.none
    · exact OK.none
  · exact OK.none

theorem xBuiltin_kp {b : Builtin} {ts : List TypeId} {args : List AV} : OK (K2 H) (xBuiltin P H b ts args) := by
  unfold xBuiltin
  split
  · exact OK.bind fun _ _ => OK.map fun _ _ => Heap.Kp.refl _
  · exact xAppend_kp
  · exact OK.bind fun _ _ => OK.map fun H' h => xDelete_kp H' h
  · exact OK.map fun _ _ => Heap.Kp.refl _
  · exact OK.map fun _ _ => Heap.Kp.refl _
  · exact OK.none

theorem xRange_kp {t : TypeId} {x : AV} : OK (fun r : AV × Heap => H.Kp r.2) (xRange P H t x) := by
  unfold xRange
  refine OK.bind fun _ _ => ?_
  split
  · split
    · exact OK.some (Heap.Kp.alloc _ _)
    · exact OK.none
  · exact OK.none
theorem xNext_kp {it : AV} {s : Bool} : OK (fun r : Option Prop × List ((Nat → Prop) × (Nat → AV × Heap)) => ∀ q ∈ r.2, ∀ i, H.Kp (q.2 i).2) (xNext H it s) := by
  unfold xNext
  split
  · split
    · split
      · refine OK.some fun q hq i => ?_
        rcases List.mem_cons.1 hq with rfl | hq
        · exact Heap.Kp.refl _
        · rw [List.mem_singleton] at hq; subst hq; exact Heap.Kp.set _ _ _
      · exact OK.none
    · exact OK.none
  · exact OK.none
theorem aopX_kp {fr : Fr} {o : Oper} : OK (fun r : XRes => Res.Kp H r.2) (aopX P fr H o) := by
  unfold aopX
  split
  · exact OK.bind fun _ _ => OK.map fun _ _ => Heap.Kp.refl _
  · exact OK.bind fun _ _ => OK.bind fun _ _ => OK.map fun r hr => xStore_kp r hr
  · refine OK.bind fun _ _ => ?_
    split
    · exact OK.some (Heap.Kp.refl _)
    · exact OK.some (Heap.Kp.refl _)
    · exact OK.none
  · exact OK.bind fun _ _ => OK.bind fun _ _ => OK.map fun _ _ => Heap.Kp.refl _
  · exact OK.bind fun _ _ => OK.map fun _ _ => Heap.Kp.refl _
  · exact OK.bind fun _ _ => OK.map fun r hr => xConv_kp r hr
  · exact OK.bind fun _ _ => OK.bind fun _ _ => OK.map fun r hr => xMakeSlice_kp r hr
  · exact OK.bind fun _ _ => OK.bind fun _ _ => OK.bind fun _ _ => OK.bind fun _ _ => OK.map fun _ _ => Heap.Kp.refl _
  · exact OK.bind fun _ _ => OK.map fun _ _ => Heap.Kp.refl _
  · exact OK.bind fun _ _ => OK.bind fun _ _ => OK.map fun _ _ => Heap.Kp.refl _
  · exact OK.bind fun _ _ => OK.bind fun _ _ => OK.map fun _ _ => Heap.Kp.refl _
  · exact OK.bind fun _ _ => OK.bind fun _ _ => OK.map fun _ _ => Heap.Kp.refl _
  · exact OK.bind fun _ _ => OK.bind fun _ _ => OK.bind fun _ _ => OK.map fun r hr => xMapUpdate_kp r hr
  · exact OK.bind fun _ _ => OK.bind fun _ _ => OK.bind fun _ _ => OK.map fun r hr => xMapUpdate_kp r hr
  · exact OK.bind fun _ _ => OK.map fun r hr => xRange_kp r hr
  · exact OK.bind fun _ _ => OK.map fun r hr => xNext_kp r hr
  · exact OK.bind fun _ _ => OK.map fun _ _ => Heap.Kp.refl _
  · split
    · exact OK.bind fun _ _ => OK.map fun r hr => xBuiltin_kp r hr
    · exact OK.none
  · exact OK.none

theorem aopC_kp {fr : Fr} {o : Oper} {ob : Option Prop} {r : Res} (h : aopC P fr H o = some (ob, r)) : Res.Kp H r := by
  unfold aopC at h
  split at h
  · rename_i r' hr; cases h; exact aop0_kp _ hr
  · exact aopX_kp _ h
end
end Go.AM
