/- THE ABSTRACT MACHINE, 1: values, heap, and how they stand to the model's values and worlds. -/
import Derived.CallsIn
import Derived.Laws.World
import Derived.Laws.Cells
import Derived.Laws.Entries
import Derived.Below
namespace Go.AM

/-- A tree by numbers. -/
inductive T (α : Type) where
  | nil
  | node (l : T α) (v : Option α) (r : T α)

namespace T
variable {α : Type}

def get : T α → Nat → Option α
  | .nil, _ => none
  | .node _ v _, 0 => v
  | .node l _ r, k + 1 => bif Nat.beq (k % 2) 0 then l.get (k / 2) else r.get (k / 2)

def setF (v : Option α) : Nat → T α → Nat → T α
  | 0, t, _ => t
  | _ + 1, .nil, 0 => .node .nil v .nil
  | f + 1, .nil, k + 1 => bif Nat.beq (k % 2) 0 then .node (setF v f .nil (k / 2)) none .nil else .node .nil none (setF v f .nil (k / 2))
  | _ + 1, .node l _ r, 0 => .node l v r
  | f + 1, .node l x r, k + 1 => bif Nat.beq (k % 2) 0 then .node (setF v f l (k / 2)) x r else .node l x (setF v f r (k / 2))

def set (t : T α) (k : Nat) (v : Option α) : T α := setF v (k + 1) t k

@[simp] theorem get_nil (k : Nat) : (T.nil : T α).get k = none := rfl

theorem get_setF (v : Option α) : ∀ (f : Nat) (t : T α) (k j : Nat), k < f → (setF v f t k).get j = if j = k then v else t.get j := by
  intro f
  induction f with
  | zero => intro t k j h; omega
  | succ f ih =>
    intro t k j hk
    cases t with
    | nil =>
      cases k with
      | zero => cases j <;> simp [setF, get]
      | succ k =>
        simp only [setF]
        have hk2 : k / 2 < f := by omega
        cases hb : Nat.beq (k % 2) 0 with
        | true =>
          simp only [cond_true]
          have e : k % 2 = 0 := Nat.eq_of_beq_eq_true hb
          cases j with
          | zero => simp [get]
          | succ j =>
            simp only [get]
            cases hj : Nat.beq (j % 2) 0 with
            | true =>
              have e' : j % 2 = 0 := Nat.eq_of_beq_eq_true hj
              simp only [cond_true, ih _ _ _ hk2, get_nil]
              by_cases h : j = k
              · subst h; simp
              · have : j / 2 ≠ k / 2 := by omega
                simp [h, this]
            | false =>
              have e' : j % 2 ≠ 0 := Nat.ne_of_beq_eq_false hj
              have : j ≠ k := by intro h; subst h; exact e' e
              simp [this]
        | false =>
          simp only [cond_false]
          have e : k % 2 ≠ 0 := Nat.ne_of_beq_eq_false hb
          cases j with
          | zero => simp [get]
          | succ j =>
            simp only [get]
            cases hj : Nat.beq (j % 2) 0 with
            | true =>
              have e' : j % 2 = 0 := Nat.eq_of_beq_eq_true hj
              have : j ≠ k := by intro h; subst h; exact e e'
              simp [this]
            | false =>
              have e' : j % 2 ≠ 0 := Nat.ne_of_beq_eq_false hj
              simp only [cond_false, ih _ _ _ hk2, get_nil]
              by_cases h : j = k
              · subst h; simp
              · have : j / 2 ≠ k / 2 := by omega
                simp [h, this]
    | node l x r =>
      cases k with
      | zero => cases j <;> simp [setF, get]
      | succ k =>
        simp only [setF]
        have hk2 : k / 2 < f := by omega
        cases hb : Nat.beq (k % 2) 0 with
        | true =>
          simp only [cond_true]
          have e : k % 2 = 0 := Nat.eq_of_beq_eq_true hb
          cases j with
          | zero => simp [get]
          | succ j =>
            simp only [get]
            cases hj : Nat.beq (j % 2) 0 with
            | true =>
              have e' : j % 2 = 0 := Nat.eq_of_beq_eq_true hj
              simp only [cond_true, ih _ _ _ hk2]
              by_cases h : j = k
              · subst h; simp
              · have : j / 2 ≠ k / 2 := by omega
                simp [h, this]
            | false =>
              have e' : j % 2 ≠ 0 := Nat.ne_of_beq_eq_false hj
              have : j ≠ k := by intro h; subst h; exact e' e
              simp [this]
        | false =>
          simp only [cond_false]
          have e : k % 2 ≠ 0 := Nat.ne_of_beq_eq_false hb
          cases j with
          | zero => simp [get]
          | succ j =>
            simp only [get]
            cases hj : Nat.beq (j % 2) 0 with
            | true =>
              have e' : j % 2 = 0 := Nat.eq_of_beq_eq_true hj
              have : j ≠ k := by intro h; subst h; exact e e'
              simp [this]
            | false =>
              have e' : j % 2 ≠ 0 := Nat.ne_of_beq_eq_false hj
              simp only [cond_false, ih _ _ _ hk2]
              by_cases h : j = k
              · subst h; simp
              · have : j / 2 ≠ k / 2 := by omega
                simp [h, this]

theorem get_set (t : T α) (k j : Nat) (v : Option α) : (t.set k v).get j = if j = k then v else t.get j :=
  get_setF v _ t k j (Nat.lt_succ_self k)

end T

/-- Abstract values: blocks by the machine's own numbers. -/
inductive AV where
  | bool (b : Bool)
  | int (k : IntKind) (n : Int)
  | str (s : List UInt8)
  | nilPtr
  | ptr (i off : Nat)
  | nilSlc
  | slc (i off len cap : Nat) (ex : Bool)
  | emp
  | nilMap
  | map (i : Nat)
  | nilFn
  | fn (f : Fn) (first captured : List AV)
  | yld (i : Nat)
  | nilIface
  | iface (t : TypeId) (v : AV)
  | agg (cs : List AV)
  | tup (vs : List AV)
  | sI (k : IntKind) (n : Int)
  | sB (b : Bool)
  | sS (s : List UInt8)
  deriving Inhabited

abbrev Fr := T AV

structure Ent where
  key : AV
  val : AV
  born : Nat

inductive AObj where
  | cells (ro : Bool) (es : Nat) (cs : List AV)
  | map (es : List Ent) (clock : Nat)
  | sIter (s : List UInt8) (pos : Nat)
  | mIter (m since : Nat) (seen : List Nat) (stepped : Nat)
  | loop (st : LoopState) (pending : Option Code) (fn : FuncId) (fr : Fr) (ntmps : Nat) (params : List Tmp) (assign body : Code)

structure Heap where
  t : T AObj
  next : Nat

def Heap.get (H : Heap) (i : Nat) : Option AObj := H.t.get i
def Heap.set (H : Heap) (i : Nat) (o : AObj) : Heap := { H with t := H.t.set i (some o) }
def Heap.kill (H : Heap) (i : Nat) : Heap := { H with t := H.t.set i none }
def Heap.alloc (H : Heap) (o : AObj) : Heap := { t := H.t.set H.next (some o), next := H.next + 1 }

theorem Heap.get_set (H : Heap) (i j : Nat) (o : AObj) : (H.set i o).get j = if j = i then some o else H.get j := T.get_set _ _ _ _
theorem Heap.get_kill (H : Heap) (i j : Nat) : (H.kill i).get j = if j = i then none else H.get j := T.get_set _ _ _ _
theorem Heap.get_alloc (H : Heap) (j : Nat) (o : AObj) : (H.alloc o).get j = if j = H.next then some o else H.get j := T.get_set _ _ _ _
@[simp] theorem Heap.next_set (H : Heap) (i : Nat) (o : AObj) : (H.set i o).next = H.next := rfl
@[simp] theorem Heap.next_kill (H : Heap) (i : Nat) : (H.kill i).next = H.next := rfl
@[simp] theorem Heap.next_alloc (H : Heap) (o : AObj) : (H.alloc o).next = H.next + 1 := rfl

/-- Where an abstract block lies: its block; its first cell there; how many cells the block has; the size of an element that may be appended. -/
structure At where
  b : Nat
  sh : Nat
  n : Nat
  es : Nat

mutual
def Rel (ρ : List At) : AV → Value → Prop
  | .bool b, x => x = .bool b
  | .int k n, x => x = .int k n
  | .str s, x => x = .string ⟨s.toArray⟩
  | .nilPtr, x => x = .pointer none
  | .ptr i off, x => ∃ e, ρ[i]? = some e ∧ x = .pointer (some ⟨e.b, e.sh + off, none⟩)
  | .nilSlc, x => x = .slice none 0 0
  | .slc i off len cap ex, x => ∃ e c, ρ[i]? = some e ∧ x = .slice (some ⟨e.b, e.sh + off, none⟩) len c ∧ len ≤ cap ∧ cap ≤ c ∧
      (ex = true → c = cap) ∧ (ex = false → e.sh + off + c * e.es ≤ e.n)
  | .emp, x => ∃ a c, x = .slice (some a) 0 c
  | .nilMap, x => x = .map none
  | .map i, x => ∃ e, ρ[i]? = some e ∧ x = .map (some e.b)
  | .nilFn, x => x = .nilFunc
  | .fn f fs cs, x => ∃ fs' cs', x = .func f fs' cs' ∧ RelL ρ fs fs'.toList ∧ RelL ρ cs cs'.toList
  | .yld i, x => ∃ e, ρ[i]? = some e ∧ x = .func (.yield e.b) #[] #[]
  | .nilIface, x => x = .nilIface
  | .iface t v, x => ∃ y, x = .iface t y ∧ Rel ρ v y
  | .agg cs, x => ∃ ys, x = .agg ys ∧ RelL ρ cs ys.toList
  | .tup vs, x => ∃ ys, x = .tuple ys ∧ RelL ρ vs ys.toList
  | .sI k n, x => x = .int k n
  | .sB b, x => x = .bool b
  | .sS s, x => x = .string ⟨s.toArray⟩
def RelL (ρ : List At) : List AV → List Value → Prop
  | [], xs => xs = []
  | v :: vs, xs => ∃ y ys, xs = y :: ys ∧ Rel ρ v y ∧ RelL ρ vs ys
end

theorem RelL.length {ρ : List At} : ∀ {vs : List AV} {xs : List Value}, RelL ρ vs xs → xs.length = vs.length
  | [], _, h => by simp only [RelL] at h; simp [h]
  | v :: vs, xs, h => by
    simp only [RelL] at h
    obtain ⟨y, ys, rfl, _, h2⟩ := h
    simp [RelL.length h2]

theorem RelL.get {ρ : List At} : ∀ {vs : List AV} {xs : List Value}, RelL ρ vs xs → ∀ {j : Nat} {v : AV}, vs[j]? = some v → ∃ x, xs[j]? = some x ∧ Rel ρ v x
  | [], _, _, j, v, hv => by simp at hv
  | v0 :: vs, xs, h, j, v, hv => by
    simp only [RelL] at h
    obtain ⟨y, ys, rfl, h1, h2⟩ := h
    cases j with
    | zero => simp at hv; subst hv; exact ⟨y, by simp, h1⟩
    | succ j => simp at hv; obtain ⟨x, hx, hr⟩ := h2.get hv; exact ⟨x, by simpa using hx, hr⟩

theorem RelL.mk {ρ : List At} : ∀ {vs : List AV} {xs : List Value}, xs.length = vs.length →
    (∀ (j : Nat) (v : AV), vs[j]? = some v → ∃ x, xs[j]? = some x ∧ Rel ρ v x) → RelL ρ vs xs
  | [], xs, hl, _ => by simp only [RelL]; exact List.length_eq_zero_iff.1 (by simpa using hl)
  | v :: vs, [], hl, _ => by simp at hl
  | v :: vs, x :: xs, hl, h => by
    simp only [RelL]
    refine ⟨x, xs, rfl, ?_, RelL.mk (by simpa using hl) fun j v' hv' => ?_⟩
    · obtain ⟨y, hy, hr⟩ := h 0 v (by simp); simp at hy; exact hy ▸ hr
    · obtain ⟨y, hy, hr⟩ := h (j + 1) v' (by simpa using hv'); exact ⟨y, by simpa using hy, hr⟩

theorem RelL.append {ρ : List At} : ∀ {vs : List AV} {xs : List Value} {vs' : List AV} {xs' : List Value}, RelL ρ vs xs → RelL ρ vs' xs' → RelL ρ (vs ++ vs') (xs ++ xs')
  | [], xs, _, _, h, h' => by simp only [RelL] at h; subst h; exact h'
  | v :: vs, xs, _, _, h, h' => by
    simp only [RelL] at h
    obtain ⟨y, ys, rfl, h1, h2⟩ := h
    exact ⟨y, ys ++ _, rfl, h1, h2.append h'⟩

theorem RelL.take {ρ : List At} : ∀ (n : Nat) {vs : List AV} {xs : List Value}, RelL ρ vs xs → RelL ρ (vs.take n) (xs.take n)
  | 0, _, _, _ => by simp [RelL]
  | n + 1, [], xs, h => by simp only [RelL] at h; subst h; simp [RelL]
  | n + 1, v :: vs, xs, h => by
    simp only [RelL] at h
    obtain ⟨y, ys, rfl, h1, h2⟩ := h
    exact ⟨y, _, rfl, h1, h2.take n⟩

theorem RelL.drop {ρ : List At} : ∀ (n : Nat) {vs : List AV} {xs : List Value}, RelL ρ vs xs → RelL ρ (vs.drop n) (xs.drop n)
  | 0, _, _, h => h
  | n + 1, [], xs, h => by simp only [RelL] at h; subst h; simp [RelL]
  | n + 1, v :: vs, xs, h => by
    simp only [RelL] at h
    obtain ⟨y, ys, rfl, h1, h2⟩ := h
    exact h2.drop n

theorem pre_get {α : Type} {l l' : List α} (h : l <+: l') {i : Nat} {x : α} (hx : l[i]? = some x) : l'[i]? = some x := by
  obtain ⟨t, rfl⟩ := h
  have := (List.getElem?_eq_some_iff.1 hx).1
  rw [List.getElem?_append_left this]; exact hx

mutual
theorem Rel.mono {ρ ρ' : List At} (h : ρ <+: ρ') : ∀ {v : AV} {x : Value}, Rel ρ v x → Rel ρ' v x
  | .sI _ _, _, hr | .sB _, _, hr | .sS _, _, hr | .bool _, _, hr | .int _ _, _, hr | .str _, _, hr | .nilPtr, _, hr | .nilSlc, _, hr | .nilMap, _, hr | .nilFn, _, hr | .nilIface, _, hr | .emp, _, hr => by
    simp only [Rel] at *; exact hr
  | .ptr i off, _, hr => by
    simp only [Rel] at *; obtain ⟨e, he, hx⟩ := hr; exact ⟨e, pre_get h he, hx⟩
  | .slc i off len cap ex, _, hr => by
    simp only [Rel] at *; obtain ⟨e, c, he, hx⟩ := hr; exact ⟨e, c, pre_get h he, hx⟩
  | .map i, _, hr => by
    simp only [Rel] at *; obtain ⟨e, he, hx⟩ := hr; exact ⟨e, pre_get h he, hx⟩
  | .yld i, _, hr => by
    simp only [Rel] at *; obtain ⟨e, he, hx⟩ := hr; exact ⟨e, pre_get h he, hx⟩
  | .fn f fs cs, _, hr => by
    simp only [Rel] at *; obtain ⟨fs', cs', hx, h1, h2⟩ := hr; exact ⟨fs', cs', hx, h1.mono h, h2.mono h⟩
  | .iface t v, _, hr => by
    simp only [Rel] at *; obtain ⟨y, hx, h1⟩ := hr; exact ⟨y, hx, h1.mono h⟩
  | .agg cs, _, hr => by
    simp only [Rel] at *; obtain ⟨y, hx, h1⟩ := hr; exact ⟨y, hx, h1.mono h⟩
  | .tup cs, _, hr => by
    simp only [Rel] at *; obtain ⟨y, hx, h1⟩ := hr; exact ⟨y, hx, h1.mono h⟩
theorem RelL.mono {ρ ρ' : List At} (h : ρ <+: ρ') : ∀ {vs : List AV} {xs : List Value}, RelL ρ vs xs → RelL ρ' vs xs
  | [], _, hr => by simp only [RelL] at *; exact hr
  | v :: vs, _, hr => by
    simp only [RelL] at *
    obtain ⟨y, ys, e, h1, h2⟩ := hr
    exact ⟨y, ys, e, h1.mono h, h2.mono h⟩
end

/-! ### Frames -/
def FRel (ρ : List At) (fr : Fr) (tmps : Array Value) : Prop := ∀ t v, fr.get t = some v → ∃ x, tmps[t]? = some x ∧ Rel ρ v x

theorem FRel.mono {ρ ρ' : List At} (h : ρ <+: ρ') {fr : Fr} {tmps : Array Value} (hf : FRel ρ fr tmps) : FRel ρ' fr tmps :=
  fun t v ht => let ⟨x, hx, hr⟩ := hf t v ht; ⟨x, hx, hr.mono h⟩

theorem FRel.set {ρ : List At} {fr : Fr} {tmps : Array Value} (hf : FRel ρ fr tmps) {d : Nat} (hd : d < tmps.size) {v : AV} {x : Value} (hr : Rel ρ v x) :
    FRel ρ (fr.set d (some v)) (tmps.setIfInBounds d x) := by
  intro t u ht
  rw [T.get_set] at ht
  by_cases e : t = d
  · subst e
    simp only [if_true] at ht
    cases ht
    exact ⟨x, by simp [hd], hr⟩
  · simp only [e, if_false] at ht
    obtain ⟨y, hy, hr'⟩ := hf t u ht
    exact ⟨y, by rw [Array.getElem?_setIfInBounds_ne (fun h => e h.symm)]; exact hy, hr'⟩

/-! ### Objects and worlds -/
def EntL (ρ : List At) : List Ent → List MapEntry → Prop
  | [], xs => xs = []
  | e :: es, xs => ∃ y ys, xs = y :: ys ∧ Rel ρ e.key y.key ∧ Rel ρ e.val y.val ∧ y.born = e.born ∧ EntL ρ es ys

theorem EntL.mono {ρ ρ' : List At} (h : ρ <+: ρ') : ∀ {es : List Ent} {xs : List MapEntry}, EntL ρ es xs → EntL ρ' es xs
  | [], _, hr => hr
  | _ :: _, _, hr => by
    obtain ⟨y, ys, e, h1, h2, h3, h4⟩ := hr
    exact ⟨y, ys, e, h1.mono h, h2.mono h, h3, h4.mono h⟩

def unfrozen (fz : Nat × Nat) (n : Nat) : Prop := ∀ j, j < n → ¬ (fz.1 ≤ j ∧ j < fz.2)

def ORel (ρ : List At) (B : Nat) (w : World) (e : At) : AObj → Prop
  | .cells ro es cs => e.es = es ∧ ∃ arr ty fz, w.heap[e.b]? = some (.cells arr ty fz) ∧ arr.size = e.n ∧
      (∀ (j : Nat) (v : AV), cs[j]? = some v → ∃ x, arr[e.sh + j]? = some x ∧ Rel ρ v x) ∧
      (ro = true → e.b < B) ∧ (ro = false → B ≤ e.b ∧ unfrozen fz e.n)
  | .map es clock => B ≤ e.b ∧ ∃ arr, w.heap[e.b]? = some (.map arr clock) ∧ EntL ρ es arr.toList
  | .sIter s pos => e.sh = 0 ∧ B ≤ e.b ∧ w.heap[e.b]? = some (.stringIter ⟨s.toArray⟩ pos)
  | .mIter m since seen stepped => e.sh = 0 ∧ B ≤ e.b ∧ ∃ em, ρ[m]? = some em ∧ w.heap[e.b]? = some (.mapIter (some em.b) since seen.toArray stepped)
  | .loop st pending _ fr n params assign body => B ≤ e.b ∧ ∃ tmps d fn, w.heap[e.b]? = some (.loop { state := st, pending, fn, tmps, params := params.toArray, assign, body, defers := d }) ∧
      FRel ρ fr tmps ∧ tmps.size = n

theorem ORel.mono {ρ ρ' : List At} {B : Nat} {w w' : World} {e : At} {o : AObj} (h : ρ <+: ρ') (hw : w'.heap[e.b]? = w.heap[e.b]?) (ho : ORel ρ B w e o) : ORel ρ' B w' e o := by
  cases o with
  | cells ro es cs =>
    obtain ⟨h1, arr, ty, fz, h2, h3, h4, h5⟩ := ho
    exact ⟨h1, arr, ty, fz, hw.trans h2, h3, fun j v hj => let ⟨x, hx, hr⟩ := h4 j v hj; ⟨x, hx, hr.mono h⟩, h5⟩
  | map es clock => obtain ⟨h1, arr, h2, h3⟩ := ho; exact ⟨h1, arr, hw.trans h2, h3.mono h⟩
  | sIter s pos => exact ⟨ho.1, ho.2.1, hw.trans ho.2.2⟩
  | mIter m since seen stepped => obtain ⟨h0, h1, em, h2, h3⟩ := ho; exact ⟨h0, h1, em, pre_get h h2, hw.trans h3⟩
  | loop st pending fn fr n params assign body =>
    obtain ⟨h1, tmps, d, f, h2, h3, h4⟩ := ho
    exact ⟨h1, tmps, d, f, hw.trans h2, h3.mono h, h4⟩

theorem ORel.lt {ρ : List At} {B : Nat} {w : World} {e : At} {o : AObj} (ho : ORel ρ B w e o) : e.b < w.heap.size := by
  have key : ∀ x : Obj, w.heap[e.b]? = some x → e.b < w.heap.size := fun x hx => (Array.getElem?_eq_some_iff.1 hx).1
  cases o with
  | cells ro es cs => obtain ⟨h1, arr, ty, fz, h2, _⟩ := ho; exact key _ h2
  | map es clock => obtain ⟨h1, arr, h2, h3⟩ := ho; exact key _ h2
  | sIter s pos => exact key _ ho.2.2
  | mIter m since seen stepped => obtain ⟨h0, h1, em, h2, h3⟩ := ho; exact key _ h3
  | loop st pending fn fr n params assign body => obtain ⟨h1, tmps, d, f, h2, h3, h4⟩ := ho; exact key _ h2

structure HR (B : Nat) (ρ : List At) (H : Heap) (w : World) : Prop where
  next : H.next = ρ.length
  base : B ≤ w.heap.size
  bnd : ∀ e ∈ ρ, e.b < w.heap.size
  obj : ∀ i o, H.get i = some o → ∃ e, ρ[i]? = some e ∧ ORel ρ B w e o
  inj : ∀ i j o o' e e', H.get i = some o → H.get j = some o' → ρ[i]? = some e → ρ[j]? = some e' → e.b = e'.b → i ≠ j → e.b < B

/-- What a piece of a run does to the world, seen from outside. -/
structure Ext (B : Nat) (ρ : List At) (w : World) (ρ' : List At) (w' : World) : Prop where
  pre : ρ <+: ρ'
  os : w'.os = w.os
  tape : w'.tape = w.tape
  output : w'.output = w.output
  size : w.heap.size ≤ w'.heap.size
  below : ∀ k, k < B → w'.heap[k]? = w.heap[k]?
  other : ∀ k, k < w.heap.size → (∀ e ∈ ρ, e.b ≠ k) → w'.heap[k]? = w.heap[k]?
  new : ∀ e ∈ ρ', (∃ e' ∈ ρ, e'.b = e.b) ∨ w.heap.size ≤ e.b

theorem Ext.refl (B : Nat) (ρ : List At) (w : World) : Ext B ρ w ρ w :=
  ⟨List.prefix_refl _, rfl, rfl, rfl, Nat.le_refl _, fun _ _ => rfl, fun _ _ _ => rfl, fun e he => .inl ⟨e, he, rfl⟩⟩

theorem Ext.trans {B : Nat} {ρ ρ1 ρ2 : List At} {w w1 w2 : World} (h : Ext B ρ w ρ1 w1) (k : Ext B ρ1 w1 ρ2 w2) : Ext B ρ w ρ2 w2 where
  pre := h.pre.trans k.pre
  os := k.os.trans h.os
  tape := k.tape.trans h.tape
  output := k.output.trans h.output
  size := Nat.le_trans h.size k.size
  below b hb := (k.below b hb).trans (h.below b hb)
  other b hb hn := by
    refine (k.other b (Nat.lt_of_lt_of_le hb h.size) fun e he => ?_).trans (h.other b hb hn)
    rcases h.new e he with ⟨e', he', hee⟩ | hge
    · rw [← hee]; exact hn e' he'
    · omega
  new e he := by
    rcases k.new e he with ⟨e', he', hee⟩ | hge
    · rcases h.new e' he' with ⟨e2, he2, hee2⟩ | hge
      · exact .inl ⟨e2, he2, hee2.trans hee⟩
      · exact .inr (hee ▸ hge)
    · exact .inr (Nat.le_trans h.size hge)

theorem HR.old {B : Nat} {ρ : List At} {H : Heap} {w : World} (h : HR B ρ H w) {i : Nat} {o : AObj} (ho : H.get i = some o) : i < H.next := by
  obtain ⟨e, he, _⟩ := h.obj i o ho
  rw [h.next]; exact (List.getElem?_eq_some_iff.1 he).1

theorem size_alloc (w : World) (O : Obj) : (w.alloc O).heap.size = w.heap.size + 1 := by
  show (w.heap.push O).size = _
  simp
theorem heap_alloc (w : World) (O : Obj) (k : Nat) (h : k < w.heap.size) : (w.alloc O).heap[k]? = w.heap[k]? := by
  show (w.heap.push O)[k]? = _
  rw [Array.getElem?_push_lt h]; simp [h]
theorem heap_alloc_new (w : World) (O : Obj) : (w.alloc O).heap[w.heap.size]? = some O := by
  show (w.heap.push O)[w.heap.size]? = _
  simp

/-- A block that nobody knows is laid. -/
theorem HR.alloc {B : Nat} {ρ : List At} {H : Heap} {w : World} (h : HR B ρ H w) (o : AObj) (O : Obj) (e : At) (hb : e.b = w.heap.size)
    (ho : ORel (ρ ++ [e]) B (w.alloc O) e o) : HR B (ρ ++ [e]) (H.alloc o) (w.alloc O) where
  next := by simp [h.next]
  base := Nat.le_trans h.base (by rw [size_alloc]; omega)
  bnd e' he' := by
    rw [size_alloc]
    rcases List.mem_append.1 he' with g | g
    · have := h.bnd e' g; omega
    · rw [List.mem_singleton] at g; subst g; omega
  obj i o' hi := by
    rw [Heap.get_alloc] at hi
    by_cases hn : i = H.next
    · simp only [hn, if_true] at hi
      cases hi
      exact ⟨e, by rw [hn, h.next]; simp, ho⟩
    · simp only [hn, if_false] at hi
      obtain ⟨e', he', ho'⟩ := h.obj i o' hi
      exact ⟨e', pre_get (List.prefix_append _ _) he', ho'.mono (List.prefix_append _ _) (heap_alloc w O _ ho'.lt)⟩
  inj i j o1 o2 e1 e2 hi hj h1 h2 hb12 hne := by
    rw [Heap.get_alloc] at hi hj
    have hi' : i = H.next ∨ (i ≠ H.next ∧ H.get i = some o1) := by
      by_cases hn : i = H.next
      · exact .inl hn
      · simp only [hn, if_false] at hi; exact .inr ⟨hn, hi⟩
    have hj' : j = H.next ∨ (j ≠ H.next ∧ H.get j = some o2) := by
      by_cases hn : j = H.next
      · exact .inl hn
      · simp only [hn, if_false] at hj; exact .inr ⟨hn, hj⟩
    have old : ∀ i o e', H.get i = some o → (ρ ++ [e])[i]? = some e' → ρ[i]? = some e' ∧ e'.b < w.heap.size := fun i o e' hi he' => by
      obtain ⟨e1, he1, ho1⟩ := h.obj i o hi
      have := (List.getElem?_eq_some_iff.1 he1).1
      rw [List.getElem?_append_left this] at he'
      have : e1 = e' := by rw [he1] at he'; exact Option.some.inj he'
      subst this
      exact ⟨he1, ho1.lt⟩
    have new : ∀ i e', i = H.next → (ρ ++ [e])[i]? = some e' → e' = e := fun i e' hi he' => by
      rw [hi, h.next] at he'; simp at he'; exact he'.symm
    rcases hi' with hi1 | ⟨_, hi1⟩ <;> rcases hj' with hj1 | ⟨_, hj1⟩
    · exact absurd (hi1.trans hj1.symm) hne
    · have := new _ _ hi1 h1; subst this
      have := (old _ _ _ hj1 h2).2; omega
    · have := new _ _ hj1 h2; subst this
      have := (old _ _ _ hi1 h1).2; omega
    · exact h.inj i j o1 o2 e1 e2 hi1 hj1 (old _ _ _ hi1 h1).1 (old _ _ _ hj1 h2).1 hb12 hne

theorem Ext.alloc {B : Nat} {ρ : List At} {w : World} (O : Obj) (e : At) (hB : B ≤ w.heap.size) (hb : e.b = w.heap.size) : Ext B ρ w (ρ ++ [e]) (w.alloc O) where
  pre := List.prefix_append _ _
  os := rfl
  tape := rfl
  output := rfl
  size := by rw [size_alloc]; omega
  below k hk := heap_alloc w O k (Nat.lt_of_lt_of_le hk hB)
  other k hk _ := heap_alloc w O k hk
  new e' he' := by
    rcases List.mem_append.1 he' with h | h
    · exact .inl ⟨e', h, rfl⟩
    · simp at h; subst h; exact .inr (by omega)

/-- A block that is known turns. -/
theorem HR.turn {B : Nat} {ρ : List At} {H : Heap} {w w' : World} (h : HR B ρ H w) {i : Nat} {o : AObj} {e : At} (hi : H.get i = some o) (he : ρ[i]? = some e) (hB : B ≤ e.b)
    (o' : AObj) (hsz : w'.heap.size = w.heap.size) (hoth : ∀ k, k ≠ e.b → w'.heap[k]? = w.heap[k]?) (ho : ORel ρ B w' e o') : HR B ρ (H.set i o') w' where
  next := h.next
  base := hsz ▸ h.base
  bnd := hsz ▸ h.bnd
  obj j o1 hj := by
    rw [Heap.get_set] at hj
    by_cases hn : j = i
    · simp only [hn, if_true] at hj
      cases hj
      exact ⟨e, hn ▸ he, ho⟩
    · simp only [hn, if_false] at hj
      obtain ⟨e', he', ho'⟩ := h.obj j o1 hj
      refine ⟨e', he', ho'.mono (List.prefix_refl _) (hoth _ fun hb => ?_)⟩
      have := h.inj j i o1 o e' e hj hi he' he hb hn
      omega
  inj j k o1 o2 e1 e2 hj hk h1 h2 hb12 hne := by
    rw [Heap.get_set] at hj hk
    have live : ∀ j o1, (if j = i then some o' else H.get j) = some o1 → ∃ o2, H.get j = some o2 := fun j o1 hj => by
      by_cases hn : j = i
      · exact ⟨o, hn ▸ hi⟩
      · simp only [hn, if_false] at hj; exact ⟨o1, hj⟩
    obtain ⟨o3, hj'⟩ := live _ _ hj
    obtain ⟨o4, hk'⟩ := live _ _ hk
    exact h.inj j k o3 o4 e1 e2 hj' hk' h1 h2 hb12 hne

theorem Ext.turn {B : Nat} {ρ : List At} {w w' : World} {e : At} (he : e ∈ ρ) (hB : B ≤ e.b) (hsz : w'.heap.size = w.heap.size) (hoth : ∀ k, k ≠ e.b → w'.heap[k]? = w.heap[k]?)
    (hos : w'.os = w.os) (htape : w'.tape = w.tape) (hout : w'.output = w.output) : Ext B ρ w ρ w' where
  pre := List.prefix_refl _
  os := hos
  tape := htape
  output := hout
  size := by omega
  below k hk := hoth k (by omega)
  other k _ hn := hoth k (fun h => hn e he h.symm)
  new e' he' := .inl ⟨e', he', rfl⟩

theorem HR.heap {B : Nat} {ρ : List At} {H : Heap} {w w' : World} (h : HR B ρ H w) (hw : w'.heap = w.heap) : HR B ρ H w' where
  next := h.next
  base := hw ▸ h.base
  bnd := by rw [hw]; exact h.bnd
  obj i o hi := let ⟨e, he, ho⟩ := h.obj i o hi; ⟨e, he, ho.mono (List.prefix_refl _) (by rw [hw])⟩
  inj := h.inj

theorem Ext.heap {B : Nat} {ρ : List At} {w w' : World} (hw : w'.heap = w.heap) (hos : w'.os = w.os) (htape : w'.tape = w.tape) (hout : w'.output = w.output) : Ext B ρ w ρ w' :=
  ⟨List.prefix_refl _, hos, htape, hout, by rw [hw]; exact Nat.le_refl _, fun _ _ => by rw [hw], fun _ _ _ => by rw [hw], fun e he => .inl ⟨e, he, rfl⟩⟩

theorem HR.kill {B : Nat} {ρ : List At} {H : Heap} {w : World} (h : HR B ρ H w) (i : Nat) : HR B ρ (H.kill i) w where
  next := h.next
  base := h.base
  bnd := h.bnd
  obj j o hj := by
    rw [Heap.get_kill] at hj
    by_cases hn : j = i
    · simp [hn] at hj
    · simp only [hn, if_false] at hj; exact h.obj j o hj
  inj j k o1 o2 e1 e2 hj hk := by
    rw [Heap.get_kill] at hj hk
    by_cases hn : j = i
    · simp [hn] at hj
    · by_cases hm : k = i
      · simp [hm] at hk
      · simp only [hn, hm, if_false] at hj hk
        exact h.inj j k o1 o2 e1 e2 hj hk
end Go.AM
