/- THE ABSTRACT MACHINE, 1: values, heap, and how they stand to the model's values and worlds. -/
import Derived.CallsIn
import Derived.Laws.World
import Derived.Laws.Cells
import Derived.Laws.Entries
import Derived.Below
namespace Go.AM

/-- A tree by numbers. -/
inductive T (α : Type) where
  | nil
  | node (l : T α) (v : Option α) (r : T α)

namespace T
variable {α : Type}

def get : T α → Nat → Option α
  | .nil, _ => none
  | .node _ v _, 0 => v
  | .node l _ r, k + 1 => bif Nat.beq (k % 2) 0 then l.get (k / 2) else r.get (k / 2)

def setF (v : Option α) : Nat → T α → Nat → T α
  | 0, t, _ => t
  | _ + 1, .nil, 0 => .node .nil v .nil
  | f + 1, .nil, k + 1 => bif Nat.beq (k % 2) 0 then .node (setF v f .nil (k / 2)) none .nil else .node .nil none (setF v f .nil (k / 2))
  | _ + 1, .node l _ r, 0 => .node l v r
  | f + 1, .node l x r, k + 1 => bif Nat.beq (k % 2) 0 then .node (setF v f l (k / 2)) x r else .node l x (setF v f r (k / 2))

def set (t : T α) (k : Nat) (v : Option α) : T α := setF v (k + 1) t k

@[simp] theorem get_nil (k : Nat) : (T.nil : T α).get k = none := rfl

theorem get_setF (v : Option α) : ∀ (f : Nat) (t : T α) (k j : Nat), k < f → (setF v f t k).get j = if j = k then v else t.get j := by
  intro f
  induction f with
  | zero => intro t k j h; omega
  | succ f ih =>
    intro t k j hk
    cases t with
    | nil =>
      cases k with
      | zero => cases j <;> simp [setF, get]
      | succ k =>
        simp only [setF]
        have hk2 : k / 2 < f := by omega
        cases hb : Nat.beq (k % 2) 0 with
        | true =>
          simp only [cond_true]
          have e : k % 2 = 0 := Nat.eq_of_beq_eq_true hb
          cases j with
          | zero => simp [get]
          | succ j =>
            simp only [get]
            cases hj : Nat.beq (j % 2) 0 with
            | true =>
              have e' : j % 2 = 0 := Nat.eq_of_beq_eq_true hj
              simp only [cond_true, ih _ _ _ hk2, get_nil]
              by_cases h : j = k
              · subst h; simp
              · have : j / 2 ≠ k / 2 := by omega
                simp [h, this]
            | false =>
              have e' : j % 2 ≠ 0 := Nat.ne_of_beq_eq_false hj
              have : j ≠ k := by intro h; subst h; exact e' e
              simp [this]
        | false =>
          simp only [cond_false]
          have e : k % 2 ≠ 0 := Nat.ne_of_beq_eq_false hb
          cases j with
          | zero => simp [get]
          | succ j =>
            simp only [get]
            cases hj : Nat.beq (j % 2) 0 with
            | true =>
              have e' : j % 2 = 0 := Nat.eq_of_beq_eq_true hj
              have : j ≠ k := by intro h; subst h; exact e e'
              simp [this]
            | false =>
              have e' : j % 2 ≠ 0 := Nat.ne_of_beq_eq_false hj
              simp only [cond_false, ih _ _ _ hk2, get_nil]
              by_cases h : j = k
              · subst h; simp
              · have : j / 2 ≠ k / 2 := by omega
                simp [h, this]
    | node l x r =>
      cases k with
      | zero => cases j <;> simp [setF, get]
      | succ k =>
        simp only [setF]
        have hk2 : k / 2 < f := by omega
        cases hb : Nat.beq (k % 2) 0 with
        | true =>
          simp only [cond_true]
          have e : k % 2 = 0 := Nat.eq_of_beq_eq_true hb
          cases j with
          | zero => simp [get]
          | succ j =>
            simp only [get]
            cases hj : Nat.beq (j % 2) 0 with
            | true =>
              have e' : j % 2 = 0 := Nat.eq_of_beq_eq_true hj
              simp only [cond_true, ih _ _ _ hk2]
              by_cases h : j = k
              · subst h; simp
              · have : j / 2 ≠ k / 2 := by omega
                simp [h, this]
            | false =>
              have e' : j % 2 ≠ 0 := Nat.ne_of_beq_eq_false hj
              have : j ≠ k := by intro h; subst h; exact e' e
              simp [this]
        | false =>
          simp only [cond_false]
          have e : k % 2 ≠ 0 := Nat.ne_of_beq_eq_false hb
          cases j with
          | zero => simp [get]
          | succ j =>
            simp only [get]
            cases hj : Nat.beq (j % 2) 0 with
            | true =>
              have e' : j % 2 = 0 := Nat.eq_of_beq_eq_true hj
              have : j ≠ k := by intro h; subst h; exact e e'
              simp [this]
            | false =>
              have e' : j % 2 ≠ 0 := Nat.ne_of_beq_eq_false hj
              simp only [cond_false, ih _ _ _ hk2]
              by_cases h : j = k
              · subst h; simp
              · have : j / 2 ≠ k / 2 := by omega
                simp [h, this]

theorem get_set (t : T α) (k j : Nat) (v : Option α) : (t.set k v).get j = if j = k then v else t.get j :=
  get_setF v _ t k j (Nat.lt_succ_self k)

end T

/-! ### Plain data, as terms -/
mutual
/-- What a cell holds that is known by a term. -/
inductive CTy where
  | int (k : IntKind)
  | boo
  | txt
  | sl (r : RTy)
/-- A row of cells. -/
inductive RTy where
  | one (c : CTy)
  | cons (c : CTy) (r : RTy)
end

mutual
def CTy.den : CTy → Type
  | .int _ => Int
  | .boo => Bool
  | .txt => List UInt8
  | .sl r => List r.den
def RTy.den : RTy → Type
  | .one c => c.den
  | .cons c r => c.den × r.den
end

def RTy.size : RTy → Nat
  | .one _ => 1
  | .cons _ r => r.size + 1

theorem RTy.size_pos (r : RTy) : 0 < r.size := by cases r <;> simp [RTy.size]

mutual
def CTy.same : CTy → CTy → Bool
  | .int k, .int k' => decide (k = k')
  | .boo, .boo => true
  | .txt, .txt => true
  | .sl r, .sl r' => RTy.same r r'
  | _, _ => false
def RTy.same : RTy → RTy → Bool
  | .one c, .one c' => CTy.same c c'
  | .cons c r, .cons c' r' => bif CTy.same c c' then RTy.same r r' else false
  | _, _ => false
end

mutual
theorem CTy.same_eq : ∀ {a b : CTy}, CTy.same a b = true → a = b := by
  intro a b h
  unfold CTy.same at h
  split at h
  · rw [of_decide_eq_true h]
  · rfl
  · rfl
  · rw [RTy.same_eq h]
  · cases h
theorem RTy.same_eq : ∀ {a b : RTy}, RTy.same a b = true → a = b := by
  intro a b h
  unfold RTy.same at h
  split at h
  · rw [CTy.same_eq h]
  · rename_i c r c' r'
    cases hc : CTy.same c c' with
    | false => rw [hc] at h; cases h
    | true => rw [hc] at h; rw [CTy.same_eq hc, RTy.same_eq h]
  · cases h
end

/-- Abstract values: blocks by the machine's own numbers. -/
inductive AV where
  | bool (b : Bool)
  | int (k : IntKind) (n : Int)
  | str (s : List UInt8)
  | nilPtr
  | ptr (i off : Nat)
  | nilSlc
  | slc (i off len cap : Nat) (ex : Bool)
  | emp
  | nilMap
  | map (i : Nat)
  | nilFn
  | fn (f : Fn) (first captured : List AV)
  | yld (i : Nat)
  | nilIface
  | iface (t : TypeId) (v : AV)
  | agg (cs : List AV)
  | tup (vs : List AV)
  | sI (k : IntKind) (n : Int)
  | sB (b : Bool)
  | sS (s : List UInt8)
  | dsl (r : RTy) (rows : List r.den)
  | dptr (r : RTy) (row : r.den) (j : Nat)
  | sw (i : Nat)
  | ss (i lo len : Nat)
  | eptr (i k j : Nat)
  deriving Inhabited

mutual
def CTy.enc : (c : CTy) → c.den → AV
  | .int k, n => .sI k n
  | .boo, b => .sB b
  | .txt, s => .sS s
  | .sl r, rows => .dsl r rows
def RTy.enc : (r : RTy) → r.den → List AV
  | .one c, x => [CTy.enc c x]
  | .cons c r, x => CTy.enc c x.1 :: RTy.enc r x.2
end

abbrev Fr := T AV

structure Ent where
  key : AV
  val : AV
  born : Nat

inductive AObj where
  | cells (ro : Bool) (es : Nat) (cs : List AV) (ty : Option TypeId)
  | map (es : List Ent) (clock : Nat)
  | sIter (s : List UInt8) (pos : Nat)
  | mIter (m since : Nat) (seen : List Nat) (stepped : Nat)
  | loop (st : LoopState) (pending : Option Code) (fn : FuncId) (fr : Fr) (ntmps : Nat) (params : List Tmp) (assign body : Code)
  | seq (r : RTy) (rows : List r.den) (ty : Option TypeId)
  | smap (ka va : Bool) (kr vr : RTy) (m : List (kr.den × vr.den)) (bs : List Nat) (clk : Nat)
  | smIter (m since : Nat) (seen : List Nat) (stepped : Nat)

/-- Blocks by their names; the next name; which blocks have turned (one bit for each). -/
structure Heap where
  t : T AObj
  next : Nat
  d : Nat := 0

def Heap.get (H : Heap) (i : Nat) : Option AObj := H.t.get i
def Heap.set (H : Heap) (i : Nat) (o : AObj) : Heap := { t := H.t.set i (some o), next := H.next, d := H.d ||| 2 ^ i }
def Heap.kill (H : Heap) (i : Nat) : Heap := { t := H.t.set i none, next := H.next, d := H.d ||| 2 ^ i }
def Heap.alloc (H : Heap) (o : AObj) : Heap := { t := H.t.set H.next (some o), next := H.next + 1, d := H.d ||| 2 ^ H.next }

theorem Heap.get_set (H : Heap) (i j : Nat) (o : AObj) : (H.set i o).get j = if j = i then some o else H.get j := T.get_set _ _ _ _
theorem Heap.get_kill (H : Heap) (i j : Nat) : (H.kill i).get j = if j = i then none else H.get j := T.get_set _ _ _ _
theorem Heap.get_alloc (H : Heap) (j : Nat) (o : AObj) : (H.alloc o).get j = if j = H.next then some o else H.get j := T.get_set _ _ _ _
@[simp] theorem Heap.next_set (H : Heap) (i : Nat) (o : AObj) : (H.set i o).next = H.next := rfl
@[simp] theorem Heap.next_kill (H : Heap) (i : Nat) : (H.kill i).next = H.next := rfl
@[simp] theorem Heap.next_alloc (H : Heap) (o : AObj) : (H.alloc o).next = H.next + 1 := rfl

/-- Where an abstract block lies: its block; its first cell there; how many cells the block has; the size of an element that may be appended; how many rows a sequence has; or no block at all. -/
structure At where
  b : Nat
  sh : Nat
  n : Nat
  es : Nat
  len : Nat
  nb : Bool

/-- Where all lies; which blocks hold what for good. -/
structure Env where
  ats : List At
  fz : Nat → Option (Array Value)

structure Env.le (ρ ρ' : Env) : Prop where
  ats : ρ.ats <+: ρ'.ats
  fz : ∀ b c, ρ.fz b = some c → ρ'.fz b = some c

theorem Env.le_refl (ρ : Env) : ρ.le ρ := ⟨List.prefix_refl _, fun _ _ h => h⟩
theorem Env.le.trans {a b c : Env} (h : a.le b) (k : b.le c) : a.le c := ⟨h.ats.trans k.ats, fun _ _ hh => k.fz _ _ (h.fz _ _ hh)⟩
def Env.add (ρ : Env) (e : At) : Env := { ρ with ats := ρ.ats ++ [e] }
theorem Env.le_add (ρ : Env) (e : At) : ρ.le (ρ.add e) := ⟨List.prefix_append _ _, fun _ _ h => h⟩
@[simp] theorem Env.add_ats (ρ : Env) (e : At) : (ρ.add e).ats = ρ.ats ++ [e] := rfl
@[simp] theorem Env.add_fz (ρ : Env) (e : At) : (ρ.add e).fz = ρ.fz := rfl

/-- A block that somebody knows. -/
def Env.blk (ρ : Env) (b : Nat) : Prop := ∃ e ∈ ρ.ats, e.nb = false ∧ e.b = b

def FzLe (f g : Nat → Option (Array Value)) : Prop := ∀ b c, f b = some c → g b = some c

/-- The most that a length may be. -/
abbrev maxI : Nat := 9223372036854775807

mutual
/-- A value that reads as data, by what lies in blocks for good. -/
def CTy.Rd (σ : Nat → Option (Array Value)) : (c : CTy) → c.den → Value → Prop
  | .int k, n, x => x = .int k n ∧ k.has n
  | .boo, b, x => x = .bool b
  | .txt, s, x => x = .string ⟨s.toArray⟩ ∧ s.length ≤ maxI
  | .sl r, rows, x => ∃ base cap, x = .slice base (List.length (α := r.den) rows) cap ∧ List.length (α := r.den) rows ≤ cap ∧ List.length (α := r.den) rows ≤ maxI ∧ (base = none → cap = 0) ∧
      (∀ a, base = some a → a.spot = none) ∧
      ∀ (k : Nat) (row : r.den), (show List r.den from rows)[k]? = some row → ∃ b off arr ys, base = some ⟨b, off, none⟩ ∧ σ b = some arr ∧
        (∀ (j : Nat) (y : Value), ys[j]? = some y → arr[off + k * r.size + j]? = some y) ∧ RTy.Rd σ r row ys
def RTy.Rd (σ : Nat → Option (Array Value)) : (r : RTy) → r.den → List Value → Prop
  | .one c, x, ys => ∃ y, ys = [y] ∧ CTy.Rd σ c x y
  | .cons c r, x, ys => ∃ y ys', ys = y :: ys' ∧ CTy.Rd σ c x.1 y ∧ RTy.Rd σ r x.2 ys'
end

mutual
theorem CTy.Rd.mono {f g : Nat → Option (Array Value)} (h : FzLe f g) : ∀ {c : CTy} {d : c.den} {x : Value}, CTy.Rd f c d x → CTy.Rd g c d x := by
  intro c d x hr
  cases c with
  | int k => simp only [CTy.Rd] at hr ⊢; exact hr
  | boo => simp only [CTy.Rd] at hr ⊢; exact hr
  | txt => simp only [CTy.Rd] at hr ⊢; exact hr
  | sl r =>
    simp only [CTy.Rd] at hr ⊢
    obtain ⟨base, cap, h1, h2, h3, h4, h5, h6⟩ := hr
    refine ⟨base, cap, h1, h2, h3, h4, h5, fun k row hk => ?_⟩
    obtain ⟨b, off, arr, ys, g1, g2, g3, g4⟩ := h6 k row hk
    exact ⟨b, off, arr, ys, g1, h _ _ g2, g3, RTy.Rd.mono h g4⟩
theorem RTy.Rd.mono {f g : Nat → Option (Array Value)} (h : FzLe f g) : ∀ {r : RTy} {d : r.den} {ys : List Value}, RTy.Rd f r d ys → RTy.Rd g r d ys := by
  intro r d ys hr
  cases r with
  | one c => simp only [RTy.Rd] at hr ⊢; obtain ⟨y, h1, h2⟩ := hr; exact ⟨y, h1, h2.mono h⟩
  | cons c r => simp only [RTy.Rd] at hr ⊢; obtain ⟨y, ys', h1, h2, h3⟩ := hr; exact ⟨y, ys', h1, h2.mono h, h3.mono h⟩
end

theorem RTy.Rd.length {σ : Nat → Option (Array Value)} : ∀ {r : RTy} {d : r.den} {ys : List Value}, RTy.Rd σ r d ys → ys.length = r.size
  | .one c, d, ys, h => by simp only [RTy.Rd] at h; obtain ⟨y, rfl, _⟩ := h; rfl
  | .cons c r, d, ys, h => by simp only [RTy.Rd] at h; obtain ⟨y, ys', rfl, _, h3⟩ := h; simp [RTy.size, h3.length]

mutual
def Rel (ρ : Env) : AV → Value → Prop
  | .bool b, x => x = .bool b
  | .int k n, x => x = .int k n
  | .str s, x => x = .string ⟨s.toArray⟩
  | .nilPtr, x => x = .pointer none
  | .ptr i off, x => ∃ e, ρ.ats[i]? = some e ∧ x = .pointer (some ⟨e.b, e.sh + off, none⟩)
  | .nilSlc, x => x = .slice none 0 0
  | .slc i off len cap ex, x => ∃ e c, ρ.ats[i]? = some e ∧ x = .slice (some ⟨e.b, e.sh + off, none⟩) len c ∧ len ≤ cap ∧ cap ≤ c ∧
      (ex = true → c = cap) ∧ (ex = false → e.sh + off + c * e.es ≤ e.n)
  | .emp, x => ∃ a c, x = .slice (some a) 0 c
  | .nilMap, x => x = .map none
  | .map i, x => ∃ e, ρ.ats[i]? = some e ∧ x = .map (some e.b)
  | .nilFn, x => x = .nilFunc
  | .fn f fs cs, x => ∃ fs' cs', x = .func f fs' cs' ∧ RelL ρ fs fs'.toList ∧ RelL ρ cs cs'.toList
  | .yld i, x => ∃ e, ρ.ats[i]? = some e ∧ x = .func (.yield e.b) #[] #[]
  | .nilIface, x => x = .nilIface
  | .iface t v, x => ∃ y, x = .iface t y ∧ Rel ρ v y
  | .agg cs, x => ∃ ys, x = .agg ys ∧ RelL ρ cs ys.toList
  | .tup vs, x => ∃ ys, x = .tuple ys ∧ RelL ρ vs ys.toList
  | .sI k n, x => x = .int k n ∧ k.has n
  | .sB b, x => x = .bool b
  | .sS s, x => x = .string ⟨s.toArray⟩ ∧ s.length ≤ maxI
  | .dsl r rows, x => CTy.Rd ρ.fz (.sl r) rows x
  | .dptr r row j, x => ∃ b off arr ys, x = .pointer (some ⟨b, off + j, none⟩) ∧ ρ.fz b = some arr ∧
      (∀ (j : Nat) (y : Value), ys[j]? = some y → arr[off + j]? = some y) ∧ RTy.Rd ρ.fz r row ys
  | .sw i, x => ∃ e base c, ρ.ats[i]? = some e ∧ x = .slice base e.len c ∧ e.len ≤ c ∧ e.len ≤ maxI ∧ ((base = none ∧ c = 0) ∨ (∃ a, base = some a ∧ a.spot = none ∧ c = 0) ∨ (e.nb = false ∧ base = some ⟨e.b, e.sh, none⟩ ∧ e.sh + c * e.es ≤ e.n))
  | .ss i lo len, x => ∃ e base c, ρ.ats[i]? = some e ∧ x = .slice base len c ∧ len ≤ c ∧ len ≤ maxI ∧ lo + len ≤ e.len ∧ ((base = none ∧ c = 0) ∨ (∃ a, base = some a ∧ a.spot = none ∧ c = 0) ∨ (e.nb = false ∧ base = some ⟨e.b, e.sh + lo * e.es, none⟩ ∧ e.sh + lo * e.es + c * e.es ≤ e.n))
  | .eptr i k j, x => ∃ e, ρ.ats[i]? = some e ∧ e.nb = false ∧ k < e.len ∧ x = .pointer (some ⟨e.b, e.sh + k * e.es + j, none⟩)
def RelL (ρ : Env) : List AV → List Value → Prop
  | [], xs => xs = []
  | v :: vs, xs => ∃ y ys, xs = y :: ys ∧ Rel ρ v y ∧ RelL ρ vs ys
end

theorem CTy.Rd.rel {ρ : Env} {c : CTy} {d : c.den} {x : Value} (h : CTy.Rd ρ.fz c d x) : Rel ρ (c.enc d) x := by
  cases c <;> simp only [CTy.enc, Rel] <;> simp only [CTy.Rd] at h ⊢ <;> exact h

theorem RTy.Rd.rel {ρ : Env} : ∀ {r : RTy} {d : r.den} {ys : List Value}, RTy.Rd ρ.fz r d ys → RelL ρ (r.enc d) ys
  | .one c, d, ys, h => by simp only [RTy.Rd] at h; obtain ⟨y, rfl, h2⟩ := h; simp only [RTy.enc, RelL]; exact ⟨y, [], rfl, h2.rel, rfl⟩
  | .cons c r, d, ys, h => by simp only [RTy.Rd] at h; obtain ⟨y, ys', rfl, h2, h3⟩ := h; simp only [RTy.enc, RelL]; exact ⟨y, ys', rfl, h2.rel, h3.rel⟩

theorem RelL.length {ρ : Env} : ∀ {vs : List AV} {xs : List Value}, RelL ρ vs xs → xs.length = vs.length
  | [], _, h => by simp only [RelL] at h; simp [h]
  | v :: vs, xs, h => by
    simp only [RelL] at h
    obtain ⟨y, ys, rfl, _, h2⟩ := h
    simp [RelL.length h2]

theorem RelL.get {ρ : Env} : ∀ {vs : List AV} {xs : List Value}, RelL ρ vs xs → ∀ {j : Nat} {v : AV}, vs[j]? = some v → ∃ x, xs[j]? = some x ∧ Rel ρ v x
  | [], _, _, j, v, hv => by simp at hv
  | v0 :: vs, xs, h, j, v, hv => by
    simp only [RelL] at h
    obtain ⟨y, ys, rfl, h1, h2⟩ := h
    cases j with
    | zero => simp at hv; subst hv; exact ⟨y, by simp, h1⟩
    | succ j => simp at hv; obtain ⟨x, hx, hr⟩ := h2.get hv; exact ⟨x, by simpa using hx, hr⟩

theorem RelL.mk {ρ : Env} : ∀ {vs : List AV} {xs : List Value}, xs.length = vs.length →
    (∀ (j : Nat) (v : AV), vs[j]? = some v → ∃ x, xs[j]? = some x ∧ Rel ρ v x) → RelL ρ vs xs
  | [], xs, hl, _ => by simp only [RelL]; exact List.length_eq_zero_iff.1 (by simpa using hl)
  | v :: vs, [], hl, _ => by simp at hl
  | v :: vs, x :: xs, hl, h => by
    simp only [RelL]
    refine ⟨x, xs, rfl, ?_, RelL.mk (by simpa using hl) fun j v' hv' => ?_⟩
    · obtain ⟨y, hy, hr⟩ := h 0 v (by simp); simp at hy; exact hy ▸ hr
    · obtain ⟨y, hy, hr⟩ := h (j + 1) v' (by simpa using hv'); exact ⟨y, by simpa using hy, hr⟩

theorem RelL.append {ρ : Env} : ∀ {vs : List AV} {xs : List Value} {vs' : List AV} {xs' : List Value}, RelL ρ vs xs → RelL ρ vs' xs' → RelL ρ (vs ++ vs') (xs ++ xs')
  | [], xs, _, _, h, h' => by simp only [RelL] at h; subst h; exact h'
  | v :: vs, xs, _, _, h, h' => by
    simp only [RelL] at h
    obtain ⟨y, ys, rfl, h1, h2⟩ := h
    exact ⟨y, ys ++ _, rfl, h1, h2.append h'⟩

theorem RelL.take {ρ : Env} : ∀ (n : Nat) {vs : List AV} {xs : List Value}, RelL ρ vs xs → RelL ρ (vs.take n) (xs.take n)
  | 0, _, _, _ => by simp [RelL]
  | n + 1, [], xs, h => by simp only [RelL] at h; subst h; simp [RelL]
  | n + 1, v :: vs, xs, h => by
    simp only [RelL] at h
    obtain ⟨y, ys, rfl, h1, h2⟩ := h
    exact ⟨y, _, rfl, h1, h2.take n⟩

theorem RelL.drop {ρ : Env} : ∀ (n : Nat) {vs : List AV} {xs : List Value}, RelL ρ vs xs → RelL ρ (vs.drop n) (xs.drop n)
  | 0, _, _, h => h
  | n + 1, [], xs, h => by simp only [RelL] at h; subst h; simp [RelL]
  | n + 1, v :: vs, xs, h => by
    simp only [RelL] at h
    obtain ⟨y, ys, rfl, h1, h2⟩ := h
    exact h2.drop n

theorem pre_get {α : Type} {l l' : List α} (h : l <+: l') {i : Nat} {x : α} (hx : l[i]? = some x) : l'[i]? = some x := by
  obtain ⟨t, rfl⟩ := h
  have := (List.getElem?_eq_some_iff.1 hx).1
  rw [List.getElem?_append_left this]; exact hx

mutual
theorem Rel.mono {ρ ρ' : Env} (h : ρ.le ρ') : ∀ {v : AV} {x : Value}, Rel ρ v x → Rel ρ' v x
  | .sI _ _, _, hr | .sB _, _, hr | .sS _, _, hr | .bool _, _, hr | .int _ _, _, hr | .str _, _, hr | .nilPtr, _, hr | .nilSlc, _, hr | .nilMap, _, hr | .nilFn, _, hr | .nilIface, _, hr | .emp, _, hr => by
    simp only [Rel] at *; exact hr
  | .ptr i off, _, hr => by
    simp only [Rel] at *; obtain ⟨e, he, hx⟩ := hr; exact ⟨e, pre_get h.ats he, hx⟩
  | .slc i off len cap ex, _, hr => by
    simp only [Rel] at *; obtain ⟨e, c, he, hx⟩ := hr; exact ⟨e, c, pre_get h.ats he, hx⟩
  | .map i, _, hr => by
    simp only [Rel] at *; obtain ⟨e, he, hx⟩ := hr; exact ⟨e, pre_get h.ats he, hx⟩
  | .yld i, _, hr => by
    simp only [Rel] at *; obtain ⟨e, he, hx⟩ := hr; exact ⟨e, pre_get h.ats he, hx⟩
  | .eptr i k j, _, hr => by
    simp only [Rel] at *; obtain ⟨e, he, hx⟩ := hr; exact ⟨e, pre_get h.ats he, hx⟩
  | .sw i, _, hr => by
    simp only [Rel] at *; obtain ⟨e, b, c, he, hx⟩ := hr; exact ⟨e, b, c, pre_get h.ats he, hx⟩
  | .ss i lo len, _, hr => by
    simp only [Rel] at *; obtain ⟨e, b, c, he, hx⟩ := hr; exact ⟨e, b, c, pre_get h.ats he, hx⟩
  | .dsl r rows, _, hr => by
    simp only [Rel] at *; exact hr.mono h.fz
  | .dptr r row j, _, hr => by
    simp only [Rel] at *; obtain ⟨b, off, arr, ys, h1, h2, h3, h4⟩ := hr; exact ⟨b, off, arr, ys, h1, h.fz _ _ h2, h3, h4.mono h.fz⟩
  | .fn f fs cs, _, hr => by
    simp only [Rel] at *; obtain ⟨fs', cs', hx, h1, h2⟩ := hr; exact ⟨fs', cs', hx, h1.mono h, h2.mono h⟩
  | .iface t v, _, hr => by
    simp only [Rel] at *; obtain ⟨y, hx, h1⟩ := hr; exact ⟨y, hx, h1.mono h⟩
  | .agg cs, _, hr => by
    simp only [Rel] at *; obtain ⟨y, hx, h1⟩ := hr; exact ⟨y, hx, h1.mono h⟩
  | .tup cs, _, hr => by
    simp only [Rel] at *; obtain ⟨y, hx, h1⟩ := hr; exact ⟨y, hx, h1.mono h⟩
theorem RelL.mono {ρ ρ' : Env} (h : ρ.le ρ') : ∀ {vs : List AV} {xs : List Value}, RelL ρ vs xs → RelL ρ' vs xs
  | [], _, hr => by simp only [RelL] at *; exact hr
  | v :: vs, _, hr => by
    simp only [RelL] at *
    obtain ⟨y, ys, e, h1, h2⟩ := hr
    exact ⟨y, ys, e, h1.mono h, h2.mono h⟩
end

/-! ### Frames -/
def FRel (ρ : Env) (fr : Fr) (tmps : Array Value) : Prop := ∀ t v, fr.get t = some v → ∃ x, tmps[t]? = some x ∧ Rel ρ v x

theorem FRel.mono {ρ ρ' : Env} (h : ρ.le ρ') {fr : Fr} {tmps : Array Value} (hf : FRel ρ fr tmps) : FRel ρ' fr tmps :=
  fun t v ht => let ⟨x, hx, hr⟩ := hf t v ht; ⟨x, hx, hr.mono h⟩

theorem FRel.set {ρ : Env} {fr : Fr} {tmps : Array Value} (hf : FRel ρ fr tmps) {d : Nat} (hd : d < tmps.size) {v : AV} {x : Value} (hr : Rel ρ v x) :
    FRel ρ (fr.set d (some v)) (tmps.setIfInBounds d x) := by
  intro t u ht
  rw [T.get_set] at ht
  by_cases e : t = d
  · subst e
    simp only [if_true] at ht
    cases ht
    exact ⟨x, by simp [hd], hr⟩
  · simp only [e, if_false] at ht
    obtain ⟨y, hy, hr'⟩ := hf t u ht
    exact ⟨y, by rw [Array.getElem?_setIfInBounds_ne (fun h => e h.symm)]; exact hy, hr'⟩

/-! ### Objects and worlds -/
def EntL (ρ : Env) : List Ent → List MapEntry → Prop
  | [], xs => xs = []
  | e :: es, xs => ∃ y ys, xs = y :: ys ∧ Rel ρ e.key y.key ∧ Rel ρ e.val y.val ∧ y.born = e.born ∧ EntL ρ es ys

theorem EntL.mono {ρ ρ' : Env} (h : ρ.le ρ') : ∀ {es : List Ent} {xs : List MapEntry}, EntL ρ es xs → EntL ρ' es xs
  | [], _, hr => hr
  | _ :: _, _, hr => by
    obtain ⟨y, ys, e, h1, h2, h3, h4⟩ := hr
    exact ⟨y, ys, e, h1.mono h, h2.mono h, h3, h4.mono h⟩

def unfrozen (fz : Nat × Nat) (n : Nat) : Prop := ∀ j, j < n → ¬ (fz.1 ≤ j ∧ j < fz.2)

/-- A value that is a struct (or an array), or one cell. -/
def valOf (a : Bool) (ys : List Value) : Value := bif a then .agg ys.toArray else ys.headD undef

/-- A row in a map: one cell, or a struct. -/
def RowV (σ : Nat → Option (Array Value)) (a : Bool) (r : RTy) (d : r.den) (x : Value) : Prop := ∃ ys, RTy.Rd σ r d ys ∧ x = valOf a ys ∧ (a = false → r.size = 1)

theorem RowV.mono {f g : Nat → Option (Array Value)} (h : FzLe f g) {a : Bool} {r : RTy} {d : r.den} {x : Value} (hr : RowV f a r d x) : RowV g a r d x :=
  let ⟨ys, h1, h2⟩ := hr; ⟨ys, h1.mono h, h2⟩

/-- A map's entries are these. -/
def SMapL (σ : Nat → Option (Array Value)) (ka va : Bool) (kr vr : RTy) (m : List (kr.den × vr.den)) (l : List MapEntry) : Prop :=
  m.length = l.length ∧ ∀ (i : Nat) (p : kr.den × vr.den) (x : MapEntry), m[i]? = some p → l[i]? = some x → RowV σ ka kr p.1 x.key ∧ RowV σ va vr p.2 x.val

theorem SMapL.mono {f g : Nat → Option (Array Value)} (h : FzLe f g) {ka va : Bool} {kr vr : RTy} {m : List (kr.den × vr.den)} {l : List MapEntry} (hr : SMapL f ka va kr vr m l) : SMapL g ka va kr vr m l :=
  let ⟨h2, h3⟩ := hr; ⟨h2, fun i p x hp hx => let ⟨g1, g2⟩ := h3 i p x hp hx; ⟨g1.mono h, g2.mono h⟩⟩

/-- The stamps of a map's entries rise, below its clock. -/
def Stamps (l : List MapEntry) (clock : Nat) : Prop := (l.map (·.born)).Nodup ∧ ∀ x ∈ l, x.born < clock

/-- Rows in a block. -/
def SeqIn (σ : Nat → Option (Array Value)) (sh : Nat) (r : RTy) (rows : List r.den) (arr : Array Value) : Prop :=
  ∀ (k : Nat) (row : r.den), rows[k]? = some row → ∃ ys, (∀ (j : Nat) (y : Value), ys[j]? = some y → arr[sh + k * r.size + j]? = some y) ∧ RTy.Rd σ r row ys

theorem SeqIn.mono {f g : Nat → Option (Array Value)} (h : FzLe f g) {sh : Nat} {r : RTy} {rows : List r.den} {arr : Array Value} (hr : SeqIn f sh r rows arr) : SeqIn g sh r rows arr :=
  fun k row hk => let ⟨ys, h1, h2⟩ := hr k row hk; ⟨ys, h1, h2.mono h⟩

def ORel (ρ : Env) (B : Nat) (w : World) (e : At) : AObj → Prop
  | .cells ro es cs oty => e.nb = false ∧ e.es = es ∧ ∃ arr ty fz, w.heap[e.b]? = some (.cells arr ty fz) ∧ arr.size = e.n ∧
      (∀ (j : Nat) (v : AV), cs[j]? = some v → ∃ x, arr[e.sh + j]? = some x ∧ Rel ρ v x) ∧
      (ro = true → e.b < B) ∧ (ro = false → B ≤ e.b ∧ unfrozen fz e.n) ∧ (∀ t, oty = some t → ty = t ∧ e.sh = 0)
  | .map es clock => e.nb = false ∧ B ≤ e.b ∧ ∃ arr, w.heap[e.b]? = some (.map arr clock) ∧ EntL ρ es arr.toList
  | .sIter s pos => e.nb = false ∧ e.sh = 0 ∧ B ≤ e.b ∧ w.heap[e.b]? = some (.stringIter ⟨s.toArray⟩ pos)
  | .mIter m since seen stepped => e.nb = false ∧ e.sh = 0 ∧ B ≤ e.b ∧ ∃ em, ρ.ats[m]? = some em ∧ w.heap[e.b]? = some (.mapIter (some em.b) since seen.toArray stepped)
  | .loop st pending _ fr n params assign body => e.nb = false ∧ B ≤ e.b ∧ ∃ tmps d fn, w.heap[e.b]? = some (.loop { state := st, pending, fn, tmps, params := params.toArray, assign, body, defers := d }) ∧
      FRel ρ fr tmps ∧ tmps.size = n
  | .seq r rows oty => e.es = r.size ∧ rows.length = e.len ∧ ((e.nb = true ∧ rows = []) ∨ (e.nb = false ∧ ∃ arr ty fz, w.heap[e.b]? = some (.cells arr ty fz) ∧ arr.size = e.n ∧
      SeqIn ρ.fz e.sh r rows arr ∧ B ≤ e.b ∧ unfrozen fz e.n ∧ (∀ t, oty = some t → ty = t ∧ e.sh = 0)))
  | .smap ka va kr vr m bs clk => e.nb = false ∧ B ≤ e.b ∧ (m.map (·.1)).Nodup ∧ ∃ arr, w.heap[e.b]? = some (.map arr clk) ∧ Stamps arr.toList clk ∧ bs = arr.toList.map (·.born) ∧ SMapL ρ.fz ka va kr vr m arr.toList
  | .smIter m since seen stepped => e.nb = false ∧ e.sh = 0 ∧ B ≤ e.b ∧ ∃ em, ρ.ats[m]? = some em ∧ w.heap[e.b]? = some (.mapIter (some em.b) since seen.toArray stepped)

theorem ORel.mono {ρ ρ' : Env} {B : Nat} {w w' : World} {e : At} {o : AObj} (h : ρ.le ρ') (hw : e.nb = false → w'.heap[e.b]? = w.heap[e.b]?) (ho : ORel ρ B w e o) : ORel ρ' B w' e o := by
  cases o with
  | cells ro es cs oty =>
    obtain ⟨h0, h1, arr, ty, fz, h2, h3, h4, h5⟩ := ho
    exact ⟨h0, h1, arr, ty, fz, (hw h0).trans h2, h3, fun j v hj => let ⟨x, hx, hr⟩ := h4 j v hj; ⟨x, hx, hr.mono h⟩, h5⟩
  | map es clock => obtain ⟨h0, h1, arr, h2, h3⟩ := ho; exact ⟨h0, h1, arr, (hw h0).trans h2, h3.mono h⟩
  | sIter s pos => exact ⟨ho.1, ho.2.1, ho.2.2.1, (hw ho.1).trans ho.2.2.2⟩
  | mIter m since seen stepped => obtain ⟨h00, h0, h1, em, h2, h3⟩ := ho; exact ⟨h00, h0, h1, em, pre_get h.ats h2, (hw h00).trans h3⟩
  | loop st pending fn fr n params assign body =>
    obtain ⟨h0, h1, tmps, d, f, h2, h3, h4⟩ := ho
    exact ⟨h0, h1, tmps, d, f, (hw h0).trans h2, h3.mono h, h4⟩
  | seq r rows oty =>
    obtain ⟨h0, h1, h2⟩ := ho
    refine ⟨h0, h1, ?_⟩
    rcases h2 with h2 | ⟨h2, arr, ty, fz, h3, h4, h6, h7⟩
    · exact .inl h2
    · exact .inr ⟨h2, arr, ty, fz, (hw h2).trans h3, h4, h6.mono h.fz, h7⟩
  | smap ka va kr vr m bs clk =>
    obtain ⟨h0, h1, h2, arr, h3, h4, hb, h5⟩ := ho
    exact ⟨h0, h1, h2, arr, (hw h0).trans h3, h4, hb, h5.mono h.fz⟩
  | smIter m since seen stepped => obtain ⟨h00, h0, h1, em, h2, h3⟩ := ho; exact ⟨h00, h0, h1, em, pre_get h.ats h2, (hw h00).trans h3⟩

theorem ORel.lt {ρ : Env} {B : Nat} {w : World} {e : At} {o : AObj} (ho : ORel ρ B w e o) (hn : e.nb = false) : e.b < w.heap.size := by
  have key : ∀ x : Obj, w.heap[e.b]? = some x → e.b < w.heap.size := fun x hx => (Array.getElem?_eq_some_iff.1 hx).1
  cases o with
  | cells ro es cs => obtain ⟨_, h1, arr, ty, fz, h2, _⟩ := ho; exact key _ h2
  | map es clock => obtain ⟨_, h1, arr, h2, h3⟩ := ho; exact key _ h2
  | sIter s pos => exact key _ ho.2.2.2
  | mIter m since seen stepped => obtain ⟨_, h0, h1, em, h2, h3⟩ := ho; exact key _ h3
  | loop st pending fn fr n params assign body => obtain ⟨_, h1, tmps, d, f, h2, h3, h4⟩ := ho; exact key _ h2
  | seq r rows oty =>
    obtain ⟨h0, h1, h2 | ⟨h2, arr, ty, fz, h3, _⟩⟩ := ho
    · rw [hn] at h2; cases h2.1
    · exact key _ h3
  | smap ka va kr vr m bs clk => obtain ⟨h0, h1, h2, arr, h3, _⟩ := ho; exact key _ h3
  | smIter m since seen stepped => obtain ⟨_, h0, h1, em, h2, h3⟩ := ho; exact key _ h3

structure HR (B : Nat) (ρ : Env) (H : Heap) (w : World) : Prop where
  next : H.next = ρ.ats.length
  base : B ≤ w.heap.size
  bnd : ∀ b, ρ.blk b → b < w.heap.size
  obj : ∀ i o, H.get i = some o → ∃ e, ρ.ats[i]? = some e ∧ ORel ρ B w e o
  inj : ∀ i j o o' e e', H.get i = some o → H.get j = some o' → ρ.ats[i]? = some e → ρ.ats[j]? = some e' → e.nb = false → e'.nb = false → e.b = e'.b → i ≠ j → e.b < B
  fz : ∀ b c, ρ.fz b = some c → ∃ arr ty f, w.heap[b]? = some (.cells arr ty f) ∧ ∀ (j : Nat) (x : Value), c[j]? = some x → arr[j]? = some x
  fzo : ∀ i o e c, H.get i = some o → ρ.ats[i]? = some e → e.nb = false → ρ.fz e.b = some c → e.b < B

/-- What a piece of a run does to the world, seen from outside. -/
structure Ext (B : Nat) (ρ : Env) (w : World) (ρ' : Env) (w' : World) : Prop where
  pre : ρ.le ρ'
  os : w'.os = w.os
  tape : w'.tape = w.tape
  output : w'.output = w.output
  size : w.heap.size ≤ w'.heap.size
  below : ∀ k, k < B → w'.heap[k]? = w.heap[k]?
  other : ∀ k, k < w.heap.size → ¬ ρ.blk k → w'.heap[k]? = w.heap[k]?
  new : ∀ b, ρ'.blk b → ρ.blk b ∨ w.heap.size ≤ b
  fzn : ∀ b c, ρ'.fz b = some c → ρ.fz b = some c ∨ ρ.blk b ∨ w.heap.size ≤ b

theorem Ext.refl (B : Nat) (ρ : Env) (w : World) : Ext B ρ w ρ w :=
  ⟨Env.le_refl _, rfl, rfl, rfl, Nat.le_refl _, fun _ _ => rfl, fun _ _ _ => rfl, fun _ h => .inl h, fun _ _ h => .inl h⟩

theorem Ext.trans {B : Nat} {ρ ρ1 ρ2 : Env} {w w1 w2 : World} (h : Ext B ρ w ρ1 w1) (k : Ext B ρ1 w1 ρ2 w2) : Ext B ρ w ρ2 w2 where
  pre := h.pre.trans k.pre
  os := k.os.trans h.os
  tape := k.tape.trans h.tape
  output := k.output.trans h.output
  size := Nat.le_trans h.size k.size
  below b hb := (k.below b hb).trans (h.below b hb)
  other b hb hn := by
    refine (k.other b (Nat.lt_of_lt_of_le hb h.size) fun e => ?_).trans (h.other b hb hn)
    rcases h.new b e with g | hge
    · exact hn g
    · omega
  new e he := by
    rcases k.new e he with g | hge
    · exact h.new e g
    · exact .inr (Nat.le_trans h.size hge)
  fzn b c hb := by
    rcases k.fzn b c hb with g | g | hge
    · exact h.fzn b c g
    · exact .inr (h.new b g)
    · exact .inr (.inr (Nat.le_trans h.size hge))

theorem HR.old {B : Nat} {ρ : Env} {H : Heap} {w : World} (h : HR B ρ H w) {i : Nat} {o : AObj} (ho : H.get i = some o) : i < H.next := by
  obtain ⟨e, he, _⟩ := h.obj i o ho
  rw [h.next]; exact (List.getElem?_eq_some_iff.1 he).1

theorem size_alloc (w : World) (O : Obj) : (w.alloc O).heap.size = w.heap.size + 1 := by
  show (w.heap.push O).size = _
  simp
theorem heap_alloc (w : World) (O : Obj) (k : Nat) (h : k < w.heap.size) : (w.alloc O).heap[k]? = w.heap[k]? := by
  show (w.heap.push O)[k]? = _
  rw [Array.getElem?_push_lt h]; simp [h]
theorem heap_alloc_new (w : World) (O : Obj) : (w.alloc O).heap[w.heap.size]? = some O := by
  show (w.heap.push O)[w.heap.size]? = _
  simp

theorem Env.blk_add {ρ : Env} {e : At} {b : Nat} : (ρ.add e).blk b ↔ ρ.blk b ∨ (e.nb = false ∧ e.b = b) := by
  unfold Env.blk
  simp only [Env.add_ats, List.mem_append, List.mem_singleton]
  constructor
  · rintro ⟨e', h | rfl, h2⟩
    · exact .inl ⟨e', h, h2⟩
    · exact .inr h2
  · rintro (⟨e', h, h2⟩ | h)
    · exact ⟨e', .inl h, h2⟩
    · exact ⟨e, .inr rfl, h⟩

theorem Env.blk_of {ρ : Env} {i : Nat} {e : At} (h : ρ.ats[i]? = some e) (hn : e.nb = false) : ρ.blk e.b := ⟨e, List.mem_of_getElem? h, hn, rfl⟩

theorem HR.fzlt {B : Nat} {ρ : Env} {H : Heap} {w : World} (h : HR B ρ H w) {b : Nat} {c : Array Value} (hb : ρ.fz b = some c) : b < w.heap.size := by
  obtain ⟨arr, ty, f, h1, _⟩ := h.fz b c hb
  exact (Array.getElem?_eq_some_iff.1 h1).1

/-- A block that nobody knows is laid. -/
theorem HR.alloc {B : Nat} {ρ : Env} {H : Heap} {w : World} (h : HR B ρ H w) (o : AObj) (O : Obj) (e : At) (hb : e.b = w.heap.size)
    (ho : ORel (ρ.add e) B (w.alloc O) e o) : HR B (ρ.add e) (H.alloc o) (w.alloc O) where
  next := by simp [h.next]
  base := Nat.le_trans h.base (by rw [size_alloc]; omega)
  bnd b hbk := by
    rw [size_alloc]
    rcases Env.blk_add.1 hbk with g | g
    · have := h.bnd b g; omega
    · have := g.2; omega
  obj i o' hi := by
    rw [Heap.get_alloc] at hi
    by_cases hn : i = H.next
    · simp only [hn, if_true] at hi
      cases hi
      exact ⟨e, by rw [hn, h.next]; simp, ho⟩
    · simp only [hn, if_false] at hi
      obtain ⟨e', he', ho'⟩ := h.obj i o' hi
      exact ⟨e', pre_get (List.prefix_append _ _) he', ho'.mono (Env.le_add _ _) fun hnb => heap_alloc w O _ (ho'.lt hnb)⟩
  inj i j o1 o2 e1 e2 hi hj h1 h2 hn1 hn2 hb12 hne := by
    rw [Heap.get_alloc] at hi hj
    have hi' : i = H.next ∨ (i ≠ H.next ∧ H.get i = some o1) := by
      by_cases hn : i = H.next
      · exact .inl hn
      · simp only [hn, if_false] at hi; exact .inr ⟨hn, hi⟩
    have hj' : j = H.next ∨ (j ≠ H.next ∧ H.get j = some o2) := by
      by_cases hn : j = H.next
      · exact .inl hn
      · simp only [hn, if_false] at hj; exact .inr ⟨hn, hj⟩
    have old : ∀ i o e', H.get i = some o → (ρ.add e).ats[i]? = some e' → e'.nb = false → ρ.ats[i]? = some e' ∧ e'.b < w.heap.size := fun i o e' hi he' hnb => by
      obtain ⟨e1, he1, ho1⟩ := h.obj i o hi
      have := (List.getElem?_eq_some_iff.1 he1).1
      rw [Env.add_ats, List.getElem?_append_left this] at he'
      have : e1 = e' := by rw [he1] at he'; exact Option.some.inj he'
      subst this
      exact ⟨he1, ho1.lt hnb⟩
    have new : ∀ i e', i = H.next → (ρ.add e).ats[i]? = some e' → e' = e := fun i e' hi he' => by
      rw [hi, h.next] at he'; simp at he'; exact he'.symm
    rcases hi' with hi1 | ⟨_, hi1⟩ <;> rcases hj' with hj1 | ⟨_, hj1⟩
    · exact absurd (hi1.trans hj1.symm) hne
    · have := new _ _ hi1 h1; subst this
      have := (old _ _ _ hj1 h2 hn2).2; omega
    · have := new _ _ hj1 h2; subst this
      have := (old _ _ _ hi1 h1 hn1).2; omega
    · exact h.inj i j o1 o2 e1 e2 hi1 hj1 (old _ _ _ hi1 h1 hn1).1 (old _ _ _ hj1 h2 hn2).1 hn1 hn2 hb12 hne
  fz b c hbc := by
    obtain ⟨arr, ty, f, h1, h2⟩ := h.fz b c hbc
    exact ⟨arr, ty, f, (heap_alloc w O b (h.fzlt hbc)).trans h1, h2⟩
  fzo i o' e' c hi he' hnb hc := by
    rw [Heap.get_alloc] at hi
    by_cases hn : i = H.next
    · have : e' = e := by rw [hn, h.next] at he'; simp at he'; exact he'.symm
      subst this
      have := h.fzlt hc
      omega
    · simp only [hn, if_false] at hi
      have := (h.old hi)
      rw [Env.add_ats, List.getElem?_append_left (by rw [← h.next]; exact this)] at he'
      exact h.fzo i o' e' c hi he' hnb hc

theorem Ext.alloc {B : Nat} {ρ : Env} {w : World} (O : Obj) (e : At) (hB : B ≤ w.heap.size) (hb : e.b = w.heap.size) : Ext B ρ w (ρ.add e) (w.alloc O) where
  pre := Env.le_add _ _
  os := rfl
  tape := rfl
  output := rfl
  size := by rw [size_alloc]; omega
  below k hk := heap_alloc w O k (Nat.lt_of_lt_of_le hk hB)
  other k hk _ := heap_alloc w O k hk
  new b hbk := by
    rcases Env.blk_add.1 hbk with h | h
    · exact .inl h
    · exact .inr (by have := h.2; omega)
  fzn _ _ h := .inl h

/-- A block that is known turns. -/
theorem HR.turn {B : Nat} {ρ : Env} {H : Heap} {w w' : World} (h : HR B ρ H w) {i : Nat} {o : AObj} {e : At} (hi : H.get i = some o) (he : ρ.ats[i]? = some e) (hn : e.nb = false) (hB : B ≤ e.b)
    (o' : AObj) (hsz : w'.heap.size = w.heap.size) (hoth : ∀ k, k ≠ e.b → w'.heap[k]? = w.heap[k]?) (ho : ORel ρ B w' e o') : HR B ρ (H.set i o') w' where
  next := h.next
  base := hsz ▸ h.base
  bnd := hsz ▸ h.bnd
  obj j o1 hj := by
    rw [Heap.get_set] at hj
    by_cases hn' : j = i
    · simp only [hn', if_true] at hj
      cases hj
      exact ⟨e, hn' ▸ he, ho⟩
    · simp only [hn', if_false] at hj
      obtain ⟨e', he', ho'⟩ := h.obj j o1 hj
      refine ⟨e', he', ho'.mono (Env.le_refl _) fun hnb => hoth _ fun hb => ?_⟩
      have := h.inj j i o1 o e' e hj hi he' he hnb hn hb hn'
      omega
  inj j k o1 o2 e1 e2 hj hk h1 h2 hn1 hn2 hb12 hne := by
    rw [Heap.get_set] at hj hk
    have live : ∀ j o1, (if j = i then some o' else H.get j) = some o1 → ∃ o2, H.get j = some o2 := fun j o1 hj => by
      by_cases hn' : j = i
      · exact ⟨o, hn' ▸ hi⟩
      · simp only [hn', if_false] at hj; exact ⟨o1, hj⟩
    obtain ⟨o3, hj'⟩ := live _ _ hj
    obtain ⟨o4, hk'⟩ := live _ _ hk
    exact h.inj j k o3 o4 e1 e2 hj' hk' h1 h2 hn1 hn2 hb12 hne
  fz b c hbc := by
    obtain ⟨arr, ty, f, h1, h2⟩ := h.fz b c hbc
    refine ⟨arr, ty, f, (hoth b fun hb => ?_).trans h1, h2⟩
    have := h.fzo i o e c hi he hn (hb ▸ hbc)
    omega
  fzo j o1 e1 c hj h1 hn1 hc := by
    rw [Heap.get_set] at hj
    by_cases hn' : j = i
    · subst hn'
      exact h.fzo j o e1 c hi h1 hn1 hc
    · simp only [hn', if_false] at hj
      exact h.fzo j o1 e1 c hj h1 hn1 hc

theorem Ext.turn {B : Nat} {ρ : Env} {w w' : World} {e : At} (he : ρ.blk e.b) (hB : B ≤ e.b) (hsz : w'.heap.size = w.heap.size) (hoth : ∀ k, k ≠ e.b → w'.heap[k]? = w.heap[k]?)
    (hos : w'.os = w.os) (htape : w'.tape = w.tape) (hout : w'.output = w.output) : Ext B ρ w ρ w' where
  pre := Env.le_refl _
  os := hos
  tape := htape
  output := hout
  size := by omega
  below k hk := hoth k (by omega)
  other k _ hn := hoth k (fun h => hn (h ▸ he))
  new b hb := .inl hb
  fzn _ _ h := .inl h

theorem HR.heap {B : Nat} {ρ : Env} {H : Heap} {w w' : World} (h : HR B ρ H w) (hw : w'.heap = w.heap) : HR B ρ H w' where
  next := h.next
  base := hw ▸ h.base
  bnd := by rw [hw]; exact h.bnd
  obj i o hi := let ⟨e, he, ho⟩ := h.obj i o hi; ⟨e, he, ho.mono (Env.le_refl _) fun _ => by rw [hw]⟩
  inj := h.inj
  fz := by rw [hw]; exact h.fz
  fzo := h.fzo

theorem Ext.heap {B : Nat} {ρ : Env} {w w' : World} (hw : w'.heap = w.heap) (hos : w'.os = w.os) (htape : w'.tape = w.tape) (hout : w'.output = w.output) : Ext B ρ w ρ w' :=
  ⟨Env.le_refl _, hos, htape, hout, by rw [hw]; exact Nat.le_refl _, fun _ _ => by rw [hw], fun _ _ _ => by rw [hw], fun _ h => .inl h, fun _ _ h => .inl h⟩

theorem HR.kill {B : Nat} {ρ : Env} {H : Heap} {w : World} (h : HR B ρ H w) (i : Nat) : HR B ρ (H.kill i) w where
  next := h.next
  base := h.base
  bnd := h.bnd
  obj j o hj := by
    rw [Heap.get_kill] at hj
    by_cases hn : j = i
    · simp [hn] at hj
    · simp only [hn, if_false] at hj; exact h.obj j o hj
  inj j k o1 o2 e1 e2 hj hk := by
    rw [Heap.get_kill] at hj hk
    by_cases hn : j = i
    · simp [hn] at hj
    · by_cases hm : k = i
      · simp [hm] at hk
      · simp only [hn, hm, if_false] at hj hk
        exact h.inj j k o1 o2 e1 e2 hj hk
  fz := h.fz
  fzo j o e c hj := by
    rw [Heap.get_kill] at hj
    by_cases hn : j = i
    · simp [hn] at hj
    · simp only [hn, if_false] at hj
      exact h.fzo j o e c hj
end Go.AM
