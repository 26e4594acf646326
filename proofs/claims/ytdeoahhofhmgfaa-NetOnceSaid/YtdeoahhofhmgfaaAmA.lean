/- THE ABSTRACT MACHINE, 1: values, heap, and how they stand to the model's values and worlds. -/
import Derived.CallsIn
import Derived.Laws.World
import Derived.Laws.Cells
import Derived.Laws.Entries
import Derived.Below
namespace Go.AM

/-- A tree by numbers. -/
inductive T (α : Type) where
  | nil
  | node (l : T α) (v : Option α) (r : T α)

namespace T
variable {α : Type}

def get : T α → Nat → Option α
  | .nil, _ => none
  | .node _ v _, 0 => v
  | .node l _ r, k + 1 => bif Nat.beq (k % 2) 0 then l.get (k / 2) else r.get (k / 2)

def setF (v : Option α) : Nat → T α → Nat → T α
  | 0, t, _ => t
  | _ + 1, .nil, 0 => .node .nil v .nil
  | f + 1, .nil, k + 1 => bif Nat.beq (k % 2) 0 then .node (setF v f .nil (k / 2)) none .nil else .node .nil none (setF v f .nil (k / 2))
  | _ + 1, .node l _ r, 0 => .node l v r
  | f + 1, .node l x r, k + 1 => bif Nat.beq (k % 2) 0 then .node (setF v f l (k / 2)) x r else .node l x (setF v f r (k / 2))

def set (t : T α) (k : Nat) (v : Option α) : T α := setF v (k + 1) t k

@[simp] theorem get_nil (k : Nat) : (T.nil : T α).get k = none := rfl

theorem get_setF (v : Option α) : ∀ (f : Nat) (t : T α) (k j : Nat), k < f → (setF v f t k).get j = if j = k then v else t.get j := by
  intro f
  induction f with
  | zero => intro t k j h; omega
  | succ f ih =>
    intro t k j hk
    cases t with
    | nil =>
      cases k with
      | zero => cases j <;> simp [setF, get]
      | succ k =>
        simp only [setF]
        have hk2 : k / 2 < f := by omega
        cases hb : Nat.beq (k % 2) 0 with
        | true =>
          simp only [cond_true]
          have e : k % 2 = 0 := Nat.eq_of_beq_eq_true hb
          cases j with
          | zero => simp [get]
          | succ j =>
            simp only [get]
            cases hj : Nat.beq (j % 2) 0 with
            | true =>
              have e' : j % 2 = 0 := Nat.eq_of_beq_eq_true hj
              simp only [cond_true, ih _ _ _ hk2, get_nil]
              by_cases h : j = k
              · subst h; simp
              · have : j / 2 ≠ k / 2 := by omega
                simp [h, this]
            | false =>
              have e' : j % 2 ≠ 0 := Nat.ne_of_beq_eq_false hj
              have : j ≠ k := by intro h; subst h; exact e' e
              simp [this]
        | false =>
          simp only [cond_false]
          have e : k % 2 ≠ 0 := Nat.ne_of_beq_eq_false hb
          cases j with
          | zero => simp [get]
          | succ j =>
            simp only [get]
            cases hj : Nat.beq (j % 2) 0 with
            | true =>
              have e' : j % 2 = 0 := Nat.eq_of_beq_eq_true hj
              have : j ≠ k := by intro h; subst h; exact e e'
              simp [this]
            | false =>
              have e' : j % 2 ≠ 0 := Nat.ne_of_beq_eq_false hj
              simp only [cond_false, ih _ _ _ hk2, get_nil]
              by_cases h : j = k
              · subst h; simp
              · have : j / 2 ≠ k / 2 := by omega
                simp [h, this]
    | node l x r =>
      cases k with
      | zero => cases j <;> simp [setF, get]
      | succ k =>
        simp only [setF]
        have hk2 : k / 2 < f := by omega
        cases hb : Nat.beq (k % 2) 0 with
        | true =>
          simp only [cond_true]
          have e : k % 2 = 0 := Nat.eq_of_beq_eq_true hb
          cases j with
          | zero => simp [get]
          | succ j =>
            simp only [get]
            cases hj : Nat.beq (j % 2) 0 with
            | true =>
              have e' : j % 2 = 0 := Nat.eq_of_beq_eq_true hj
              simp only [cond_true, ih _ _ _ hk2]
              by_cases h : j = k
              · subst h; simp
              · have : j / 2 ≠ k / 2 := by omega
                simp [h, this]
            | false =>
              have e' : j % 2 ≠ 0 := Nat.ne_of_beq_eq_false hj
              have : j ≠ k := by intro h; subst h; exact e' e
              simp [this]
        | false =>
          simp only [cond_false]
          have e : k % 2 ≠ 0 := Nat.ne_of_beq_eq_false hb
          cases j with
          | zero => simp [get]
          | succ j =>
            simp only [get]
            cases hj : Nat.beq (j % 2) 0 with
            | true =>
              have e' : j % 2 = 0 := Nat.eq_of_beq_eq_true hj
              have : j ≠ k := by intro h; subst h; exact e e'
              simp [this]
            | false =>
              have e' : j % 2 ≠ 0 := Nat.ne_of_beq_eq_false hj
              simp only [cond_false, ih _ _ _ hk2]
              by_cases h : j = k
              · subst h; simp
              · have : j / 2 ≠ k / 2 := by omega
                simp [h, this]

theorem get_set (t : T α) (k j : Nat) (v : Option α) : (t.set k v).get j = if j = k then v else t.get j :=
  get_setF v _ t k j (Nat.lt_succ_self k)

end T

/-! ### Plain data, as terms -/
mutual
/-- What a cell holds that is known by a term. -/
inductive CTy where
  | int (k : IntKind)
  | boo
  | txt
  | sl (r : RTy)
/-- A row of cells. -/
inductive RTy where
  | one (c : CTy)
  | cons (c : CTy) (r : RTy)
end

mutual
def CTy.den : CTy → Type
  | .int _ => Int
  | .boo => Bool
  | .txt => List UInt8
  | .sl r => List r.den
def RTy.den : RTy → Type
  | .one c => c.den
  | .cons c r => c.den × r.den
end

def RTy.size : RTy → Nat
  | .one _ => 1
  | .cons _ r => r.size + 1

theorem RTy.size_pos (r : RTy) : 0 < r.size := by cases r <;> simp [RTy.size]

mutual
def CTy.same : CTy → CTy → Bool
  | .int k, .int k' => decide (k = k')
  | .boo, .boo => true
  | .txt, .txt => true
  | .sl r, .sl r' => RTy.same r r'
  | _, _ => false
def RTy.same : RTy → RTy → Bool
  | .one c, .one c' => CTy.same c c'
  | .cons c r, .cons c' r' => bif CTy.same c c' then RTy.same r r' else false
  | _, _ => false
end

mutual
theorem CTy.same_eq : ∀ {a b : CTy}, CTy.same a b = true → a = b := by
  intro a b h
  unfold CTy.same at h
  split at h
  · rw [of_decide_eq_true h]
  · rfl
  · rfl
  · rw [RTy.same_eq h]
  · cases h
theorem RTy.same_eq : ∀ {a b : RTy}, RTy.same a b = true → a = b := by
  intro a b h
  unfold RTy.same at h
  split at h
  · rw [CTy.same_eq h]
  · rename_i c r c' r'
    cases hc : CTy.same c c' with
    | false => rw [hc] at h; cases h
    | true => rw [hc] at h; rw [CTy.same_eq hc, RTy.same_eq h]
  · cases h
end

/-- Abstract values: blocks by the machine's own numbers. -/
inductive AV where
  | bool (b : Bool)
  | int (k : IntKind) (n : Int)
  | str (s : List UInt8)
  | nilPtr
  | ptr (i off : Nat)
  | nilSlc
  | slc (i off len cap : Nat) (ex : Bool)
  | emp
  | nilMap
  | map (i : Nat)
  | nilFn
  | fn (f : Fn) (first captured : List AV)
  | yld (i : Nat)
  | nilIface
  | iface (t : TypeId) (v : AV)
  | agg (cs : List AV)
  | tup (vs : List AV)
  | sI (k : IntKind) (n : Int)
  | sB (b : Bool)
  | sS (s : List UInt8)
  | dsl (r : RTy) (rows : List r.den)
  | dptr (r : RTy) (row : r.den) (j : Nat)
  | sw (i : Nat)
  | ss (i lo len : Nat)
  | eptr (i k j : Nat)
  deriving Inhabited

mutual
def CTy.enc : (c : CTy) → c.den → AV
  | .int k, n => .sI k n
  | .boo, b => .sB b
  | .txt, s => .sS s
  | .sl r, rows => .dsl r rows
def RTy.enc : (r : RTy) → r.den → List AV
  | .one c, x => [CTy.enc c x]
  | .cons c r, x => CTy.enc c x.1 :: RTy.enc r x.2
end

abbrev Fr := T AV

structure Ent where
  key : AV
  val : AV
  born : Nat

inductive AObj where
  | cells (ro : Bool) (es : Nat) (cs : List AV) (ty : Option TypeId)
  | map (es : List Ent) (clock : Nat)
  | sIter (s : List UInt8) (pos : Nat)
  | mIter (m since : Nat) (seen : List Nat) (stepped : Nat)
  | loop (st : LoopState) (pending : Option Code) (fn : FuncId) (fr : Fr) (ntmps : Nat) (params : List Tmp) (assign body : Code)
  | seq (r : RTy) (rows : List r.den) (ty : Option TypeId)
  | smap (ka va : Bool) (kr vr : RTy) (m : List (kr.den × vr.den)) (bs : List Nat) (clk : Nat)
  | smIter (m since : Nat) (seen : List Nat) (stepped : Nat)
  /-- Over a map that is told entry by entry: `pre` (a term) were seen, and then `now`. -/
  | cmIter (m since : Nat) (pre now : List Nat) (stepped : Nat)

/-- Blocks by their names; the next name; which blocks have turned (one bit for each). -/
structure Heap where
  t : T AObj
  next : Nat
  d : Nat := 0

def Heap.get (H : Heap) (i : Nat) : Option AObj := H.t.get i
def Heap.set (H : Heap) (i : Nat) (o : AObj) : Heap := { t := H.t.set i (some o), next := H.next, d := H.d ||| 2 ^ i }
def Heap.kill (H : Heap) (i : Nat) : Heap := { t := H.t.set i none, next := H.next, d := H.d ||| 2 ^ i }
def Heap.alloc (H : Heap) (o : AObj) : Heap := { t := H.t.set H.next (some o), next := H.next + 1, d := H.d ||| 2 ^ H.next }

theorem Heap.get_set (H : Heap) (i j : Nat) (o : AObj) : (H.set i o).get j = if j = i then some o else H.get j := T.get_set _ _ _ _
theorem Heap.get_kill (H : Heap) (i j : Nat) : (H.kill i).get j = if j = i then none else H.get j := T.get_set _ _ _ _
theorem Heap.get_alloc (H : Heap) (j : Nat) (o : AObj) : (H.alloc o).get j = if j = H.next then some o else H.get j := T.get_set _ _ _ _
@[simp] theorem Heap.next_set (H : Heap) (i : Nat) (o : AObj) : (H.set i o).next = H.next := rfl
@[simp] theorem Heap.next_kill (H : Heap) (i : Nat) : (H.kill i).next = H.next := rfl
@[simp] theorem Heap.next_alloc (H : Heap) (o : AObj) : (H.alloc o).next = H.next + 1 := rfl

/-- Where an abstract block lies: its block; its first cell there; how many cells the block has; the size of an element that may be appended; how many rows a sequence has; or no block at all. -/
structure At where
  b : Nat
  sh : Nat
  n : Nat
  es : Nat
  len : Nat
  nb : Bool

/-- Where all lies; which blocks hold what for good. -/
structure Env where
  ats : List At
  fz : Nat → Option (Array Value)

structure Env.le (ρ ρ' : Env) : Prop where
  ats : ρ.ats <+: ρ'.ats
  fz : ∀ b c, ρ.fz b = some c → ρ'.fz b = some c

theorem Env.le_refl (ρ : Env) : ρ.le ρ := ⟨List.prefix_refl _, fun _ _ h => h⟩
theorem Env.le.trans {a b c : Env} (h : a.le b) (k : b.le c) : a.le c := ⟨h.ats.trans k.ats, fun _ _ hh => k.fz _ _ (h.fz _ _ hh)⟩
def Env.add (ρ : Env) (e : At) : Env := { ρ with ats := ρ.ats ++ [e] }
theorem Env.le_add (ρ : Env) (e : At) : ρ.le (ρ.add e) := ⟨List.prefix_append _ _, fun _ _ h => h⟩
@[simp] theorem Env.add_ats (ρ : Env) (e : At) : (ρ.add e).ats = ρ.ats ++ [e] := rfl
@[simp] theorem Env.add_fz (ρ : Env) (e : At) : (ρ.add e).fz = ρ.fz := rfl

/-- A block that somebody knows. -/
def Env.blk (ρ : Env) (b : Nat) : Prop := ∃ e ∈ ρ.ats, e.nb = false ∧ e.b = b

def FzLe (f g : Nat → Option (Array Value)) : Prop := ∀ b c, f b = some c → g b = some c

/-- The most that a length may be. -/
abbrev maxI : Nat := 9223372036854775807

mutual
/-- A value that reads as data, by what lies in blocks for good. -/
def CTy.Rd (σ : Nat → Option (Array Value)) : (c : CTy) → c.den → Value → Prop
  | .int k, n, x => x = .int k n ∧ k.has n
  | .boo, b, x => x = .bool b
  | .txt, s, x => x = .string ⟨s.toArray⟩ ∧ s.length ≤ maxI
  | .sl r, rows, x => ∃ base cap, x = .slice base (List.length (α := r.den) rows) cap ∧ List.length (α := r.den) rows ≤ cap ∧ List.length (α := r.den) rows ≤ maxI ∧ (base = none → cap = 0) ∧
      ∀ (k : Nat) (row : r.den), (show List r.den from rows)[k]? = some row → ∃ b off arr ys, base = some ⟨b, off, none⟩ ∧ σ b = some arr ∧
        (∀ (j : Nat) (y : Value), ys[j]? = some y → arr[off + k * r.size + j]? = some y) ∧ RTy.Rd σ r row ys
def RTy.Rd (σ : Nat → Option (Array Value)) : (r : RTy) → r.den → List Value → Prop
  | .one c, x, ys => ∃ y, ys = [y] ∧ CTy.Rd σ c x y
  | .cons c r, x, ys => ∃ y ys', ys = y :: ys' ∧ CTy.Rd σ c x.1 y ∧ RTy.Rd σ r x.2 ys'
end

mutual
theorem CTy.Rd.mono {f g : Nat → Option (Array Value)} (h : FzLe f g) : ∀ {c : CTy} {d : c.den} {x : Value}, CTy.Rd f c d x → CTy.Rd g c d x := by
  intro c d x hr
  cases c with
  | int k => simp only [CTy.Rd] at hr ⊢; exact hr
  | boo => simp only [CTy.Rd] at hr ⊢; exact hr
  | txt => simp only [CTy.Rd] at hr ⊢; exact hr
  | sl r =>
    simp only [CTy.Rd] at hr ⊢
    obtain ⟨base, cap, h1, h2, h3, h4, h6⟩ := hr
    refine ⟨base, cap, h1, h2, h3, h4, fun k row hk => ?_⟩
    obtain ⟨b, off, arr, ys, g1, g2, g3, g4⟩ := h6 k row hk
    exact ⟨b, off, arr, ys, g1, h _ _ g2, g3, RTy.Rd.mono h g4⟩
theorem RTy.Rd.mono {f g : Nat → Option (Array Value)} (h : FzLe f g) : ∀ {r : RTy} {d : r.den} {ys : List Value}, RTy.Rd f r d ys → RTy.Rd g r d ys := by
  intro r d ys hr
  cases r with
  | one c => simp only [RTy.Rd] at hr ⊢; obtain ⟨y, h1, h2⟩ := hr; exact ⟨y, h1, h2.mono h⟩
  | cons c r => simp only [RTy.Rd] at hr ⊢; obtain ⟨y, ys', h1, h2, h3⟩ := hr; exact ⟨y, ys', h1, h2.mono h, h3.mono h⟩
end

theorem RTy.Rd.length {σ : Nat → Option (Array Value)} : ∀ {r : RTy} {d : r.den} {ys : List Value}, RTy.Rd σ r d ys → ys.length = r.size
  | .one c, d, ys, h => by simp only [RTy.Rd] at h; obtain ⟨y, rfl, _⟩ := h; rfl
  | .cons c r, d, ys, h => by simp only [RTy.Rd] at h; obtain ⟨y, ys', rfl, _, h3⟩ := h; simp [RTy.size, h3.length]

mutual
def Rel (ρ : Env) : AV → Value → Prop
  | .bool b, x => x = .bool b
  | .int k n, x => x = .int k n
  | .str s, x => x = .string ⟨s.toArray⟩
  | .nilPtr, x => x = .pointer none
  | .ptr i off, x => ∃ e, ρ.ats[i]? = some e ∧ x = .pointer (some ⟨e.b, e.sh + off, none⟩)
  | .nilSlc, x => x = .slice none 0 0
  | .slc i off len cap ex, x => ∃ e c, ρ.ats[i]? = some e ∧ x = .slice (some ⟨e.b, e.sh + off, none⟩) len c ∧ len ≤ cap ∧ cap ≤ c ∧
      (ex = true → c = cap) ∧ (ex = false → e.sh + off + c * e.es ≤ e.n)
  | .emp, x => ∃ a c, x = .slice (some a) 0 c
  | .nilMap, x => x = .map none
  | .map i, x => ∃ e, ρ.ats[i]? = some e ∧ x = .map (some e.b)
  | .nilFn, x => x = .nilFunc
  | .fn f fs cs, x => ∃ fs' cs', x = .func f fs' cs' ∧ RelL ρ fs fs'.toList ∧ RelL ρ cs cs'.toList
  | .yld i, x => ∃ e, ρ.ats[i]? = some e ∧ x = .func (.yield e.b) #[] #[]
  | .nilIface, x => x = .nilIface
  | .iface t v, x => ∃ y, x = .iface t y ∧ Rel ρ v y
  | .agg cs, x => ∃ ys, x = .agg ys ∧ RelL ρ cs ys.toList
  | .tup vs, x => ∃ ys, x = .tuple ys ∧ RelL ρ vs ys.toList
  | .sI k n, x => x = .int k n ∧ k.has n
  | .sB b, x => x = .bool b
  | .sS s, x => x = .string ⟨s.toArray⟩ ∧ s.length ≤ maxI
  | .dsl r rows, x => CTy.Rd ρ.fz (.sl r) rows x
  | .dptr r row j, x => ∃ b off arr ys, x = .pointer (some ⟨b, off + j, none⟩) ∧ ρ.fz b = some arr ∧
      (∀ (j : Nat) (y : Value), ys[j]? = some y → arr[off + j]? = some y) ∧ RTy.Rd ρ.fz r row ys
  | .sw i, x => ∃ e base c, ρ.ats[i]? = some e ∧ x = .slice base e.len c ∧ e.len ≤ c ∧ e.len ≤ maxI ∧ ((base = none ∧ c = 0) ∨ (∃ a, base = some a ∧ a.spot = none ∧ c = 0) ∨ (e.nb = false ∧ base = some ⟨e.b, e.sh, none⟩ ∧ e.sh + c * e.es ≤ e.n))
  | .ss i lo len, x => ∃ e base c, ρ.ats[i]? = some e ∧ x = .slice base len c ∧ len ≤ c ∧ len ≤ maxI ∧ lo + len ≤ e.len ∧ ((base = none ∧ c = 0) ∨ (∃ a, base = some a ∧ a.spot = none ∧ c = 0) ∨ (e.nb = false ∧ base = some ⟨e.b, e.sh + lo * e.es, none⟩ ∧ e.sh + lo * e.es + c * e.es ≤ e.n))
  | .eptr i k j, x => ∃ e, ρ.ats[i]? = some e ∧ e.nb = false ∧ k < e.len ∧ x = .pointer (some ⟨e.b, e.sh + k * e.es + j, none⟩)
def RelL (ρ : Env) : List AV → List Value → Prop
  | [], xs => xs = []
  | v :: vs, xs => ∃ y ys, xs = y :: ys ∧ Rel ρ v y ∧ RelL ρ vs ys
end

theorem CTy.Rd.rel {ρ : Env} {c : CTy} {d : c.den} {x : Value} (h : CTy.Rd ρ.fz c d x) : Rel ρ (c.enc d) x := by
  cases c <;> simp only [CTy.enc, Rel] <;> simp only [CTy.Rd] at h ⊢ <;> exact h

theorem RTy.Rd.rel {ρ : Env} : ∀ {r : RTy} {d : r.den} {ys : List Value}, RTy.Rd ρ.fz r d ys → RelL ρ (r.enc d) ys
  | .one c, d, ys, h => by simp only [RTy.Rd] at h; obtain ⟨y, rfl, h2⟩ := h; simp only [RTy.enc, RelL]; exact ⟨y, [], rfl, h2.rel, rfl⟩
  | .cons c r, d, ys, h => by simp only [RTy.Rd] at h; obtain ⟨y, ys', rfl, h2, h3⟩ := h; simp only [RTy.enc, RelL]; exact ⟨y, ys', rfl, h2.rel, h3.rel⟩

theorem RelL.length {ρ : Env} : ∀ {vs : List AV} {xs : List Value}, RelL ρ vs xs → xs.length = vs.length
  | [], _, h => by simp only [RelL] at h; simp [h]
  | v :: vs, xs, h => by
    simp only [RelL] at h
    obtain ⟨y, ys, rfl, _, h2⟩ := h
    simp [RelL.length h2]

theorem RelL.get {ρ : Env} : ∀ {vs : List AV} {xs : List Value}, RelL ρ vs xs → ∀ {j : Nat} {v : AV}, vs[j]? = some v → ∃ x, xs[j]? = some x ∧ Rel ρ v x
  | [], _, _, j, v, hv => by simp at hv
  | v0 :: vs, xs, h, j, v, hv => by
    simp only [RelL] at h
    obtain ⟨y, ys, rfl, h1, h2⟩ := h
    cases j with
    | zero => simp at hv; subst hv; exact ⟨y, by simp, h1⟩
    | succ j => simp at hv; obtain ⟨x, hx, hr⟩ := h2.get hv; exact ⟨x, by simpa using hx, hr⟩

theorem RelL.mk {ρ : Env} : ∀ {vs : List AV} {xs : List Value}, xs.length = vs.length →
    (∀ (j : Nat) (v : AV), vs[j]? = some v → ∃ x, xs[j]? = some x ∧ Rel ρ v x) → RelL ρ vs xs
  | [], xs, hl, _ => by simp only [RelL]; exact List.length_eq_zero_iff.1 (by simpa using hl)
  | v :: vs, [], hl, _ => by simp at hl
  | v :: vs, x :: xs, hl, h => by
    simp only [RelL]
    refine ⟨x, xs, rfl, ?_, RelL.mk (by simpa using hl) fun j v' hv' => ?_⟩
    · obtain ⟨y, hy, hr⟩ := h 0 v (by simp); simp at hy; exact hy ▸ hr
    · obtain ⟨y, hy, hr⟩ := h (j + 1) v' (by simpa using hv'); exact ⟨y, by simpa using hy, hr⟩

theorem RelL.append {ρ : Env} : ∀ {vs : List AV} {xs : List Value} {vs' : List AV} {xs' : List Value}, RelL ρ vs xs → RelL ρ vs' xs' → RelL ρ (vs ++ vs') (xs ++ xs')
  | [], xs, _, _, h, h' => by simp only [RelL] at h; subst h; exact h'
  | v :: vs, xs, _, _, h, h' => by
    simp only [RelL] at h
    obtain ⟨y, ys, rfl, h1, h2⟩ := h
    exact ⟨y, ys ++ _, rfl, h1, h2.append h'⟩

theorem RelL.take {ρ : Env} : ∀ (n : Nat) {vs : List AV} {xs : List Value}, RelL ρ vs xs → RelL ρ (vs.take n) (xs.take n)
  | 0, _, _, _ => by simp [RelL]
  | n + 1, [], xs, h => by simp only [RelL] at h; subst h; simp [RelL]
  | n + 1, v :: vs, xs, h => by
    simp only [RelL] at h
    obtain ⟨y, ys, rfl, h1, h2⟩ := h
    exact ⟨y, _, rfl, h1, h2.take n⟩

theorem RelL.drop {ρ : Env} : ∀ (n : Nat) {vs : List AV} {xs : List Value}, RelL ρ vs xs → RelL ρ (vs.drop n) (xs.drop n)
  | 0, _, _, h => h
  | n + 1, [], xs, h => by simp only [RelL] at h; subst h; simp [RelL]
  | n + 1, v :: vs, xs, h => by
    simp only [RelL] at h
    obtain ⟨y, ys, rfl, h1, h2⟩ := h
    exact h2.drop n

theorem pre_get {α : Type} {l l' : List α} (h : l <+: l') {i : Nat} {x : α} (hx : l[i]? = some x) : l'[i]? = some x := by
  obtain ⟨t, rfl⟩ := h
  have := (List.getElem?_eq_some_iff.1 hx).1
  rw [List.getElem?_append_left this]; exact hx

mutual
theorem Rel.mono {ρ ρ' : Env} (h : ρ.le ρ') : ∀ {v : AV} {x : Value}, Rel ρ v x → Rel ρ' v x
  | .sI _ _, _, hr | .sB _, _, hr | .sS _, _, hr | .bool _, _, hr | .int _ _, _, hr | .str _, _, hr | .nilPtr, _, hr | .nilSlc, _, hr | .nilMap, _, hr | .nilFn, _, hr | .nilIface, _, hr | .emp, _, hr => by
    simp only [Rel] at *; exact hr
  | .ptr i off, _, hr => by
    simp only [Rel] at *; obtain ⟨e, he, hx⟩ := hr; exact ⟨e, pre_get h.ats he, hx⟩
  | .slc i off len cap ex, _, hr => by
    simp only [Rel] at *; obtain ⟨e, c, he, hx⟩ := hr; exact ⟨e, c, pre_get h.ats he, hx⟩
  | .map i, _, hr => by
    simp only [Rel] at *; obtain ⟨e, he, hx⟩ := hr; exact ⟨e, pre_get h.ats he, hx⟩
  | .yld i, _, hr => by
    simp only [Rel] at *; obtain ⟨e, he, hx⟩ := hr; exact ⟨e, pre_get h.ats he, hx⟩
  | .eptr i k j, _, hr => by
    simp only [Rel] at *; obtain ⟨e, he, hx⟩ := hr; exact ⟨e, pre_get h.ats he, hx⟩
  | .sw i, _, hr => by
    simp only [Rel] at *; obtain ⟨e, b, c, he, hx⟩ := hr; exact ⟨e, b, c, pre_get h.ats he, hx⟩
  | .ss i lo len, _, hr => by
    simp only [Rel] at *; obtain ⟨e, b, c, he, hx⟩ := hr; exact ⟨e, b, c, pre_get h.ats he, hx⟩
  | .dsl r rows, _, hr => by
    simp only [Rel] at *; exact hr.mono h.fz
  | .dptr r row j, _, hr => by
    simp only [Rel] at *; obtain ⟨b, off, arr, ys, h1, h2, h3, h4⟩ := hr; exact ⟨b, off, arr, ys, h1, h.fz _ _ h2, h3, h4.mono h.fz⟩
  | .fn f fs cs, _, hr => by
    simp only [Rel] at *; obtain ⟨fs', cs', hx, h1, h2⟩ := hr; exact ⟨fs', cs', hx, h1.mono h, h2.mono h⟩
  | .iface t v, _, hr => by
    simp only [Rel] at *; obtain ⟨y, hx, h1⟩ := hr; exact ⟨y, hx, h1.mono h⟩
  | .agg cs, _, hr => by
    simp only [Rel] at *; obtain ⟨y, hx, h1⟩ := hr; exact ⟨y, hx, h1.mono h⟩
  | .tup cs, _, hr => by
    simp only [Rel] at *; obtain ⟨y, hx, h1⟩ := hr; exact ⟨y, hx, h1.mono h⟩
theorem RelL.mono {ρ ρ' : Env} (h : ρ.le ρ') : ∀ {vs : List AV} {xs : List Value}, RelL ρ vs xs → RelL ρ' vs xs
  | [], _, hr => by simp only [RelL] at *; exact hr
  | v :: vs, _, hr => by
    simp only [RelL] at *
    obtain ⟨y, ys, e, h1, h2⟩ := hr
    exact ⟨y, ys, e, h1.mono h, h2.mono h⟩
end

/-! ### Frames -/
def FRel (ρ : Env) (fr : Fr) (tmps : Array Value) : Prop := ∀ t v, fr.get t = some v → ∃ x, tmps[t]? = some x ∧ Rel ρ v x

theorem FRel.mono {ρ ρ' : Env} (h : ρ.le ρ') {fr : Fr} {tmps : Array Value} (hf : FRel ρ fr tmps) : FRel ρ' fr tmps :=
  fun t v ht => let ⟨x, hx, hr⟩ := hf t v ht; ⟨x, hx, hr.mono h⟩

theorem FRel.set {ρ : Env} {fr : Fr} {tmps : Array Value} (hf : FRel ρ fr tmps) {d : Nat} (hd : d < tmps.size) {v : AV} {x : Value} (hr : Rel ρ v x) :
    FRel ρ (fr.set d (some v)) (tmps.setIfInBounds d x) := by
  intro t u ht
  rw [T.get_set] at ht
  by_cases e : t = d
  · subst e
    simp only [if_true] at ht
    cases ht
    exact ⟨x, by simp [hd], hr⟩
  · simp only [e, if_false] at ht
    obtain ⟨y, hy, hr'⟩ := hf t u ht
    exact ⟨y, by rw [Array.getElem?_setIfInBounds_ne (fun h => e h.symm)]; exact hy, hr'⟩

/-! ### Objects and worlds -/
def EntL (ρ : Env) : List Ent → List MapEntry → Prop
  | [], xs => xs = []
  | e :: es, xs => ∃ y ys, xs = y :: ys ∧ Rel ρ e.key y.key ∧ Rel ρ e.val y.val ∧ y.born = e.born ∧ EntL ρ es ys

theorem EntL.mono {ρ ρ' : Env} (h : ρ.le ρ') : ∀ {es : List Ent} {xs : List MapEntry}, EntL ρ es xs → EntL ρ' es xs
  | [], _, hr => hr
  | _ :: _, _, hr => by
    obtain ⟨y, ys, e, h1, h2, h3, h4⟩ := hr
    exact ⟨y, ys, e, h1.mono h, h2.mono h, h3, h4.mono h⟩

def unfrozen (fz : Nat × Nat) (n : Nat) : Prop := ∀ j, j < n → ¬ (fz.1 ≤ j ∧ j < fz.2)

/-- A value that is a struct (or an array), or one cell. -/
def valOf (a : Bool) (ys : List Value) : Value := bif a then .agg ys.toArray else ys.headD undef

/-- A row in a map: one cell, or a struct. -/
def RowV (σ : Nat → Option (Array Value)) (a : Bool) (r : RTy) (d : r.den) (x : Value) : Prop := ∃ ys, RTy.Rd σ r d ys ∧ x = valOf a ys ∧ (a = false → r.size = 1)

theorem RowV.mono {f g : Nat → Option (Array Value)} (h : FzLe f g) {a : Bool} {r : RTy} {d : r.den} {x : Value} (hr : RowV f a r d x) : RowV g a r d x :=
  let ⟨ys, h1, h2⟩ := hr; ⟨ys, h1.mono h, h2⟩

/-- A map's entries are these. -/
def SMapL (σ : Nat → Option (Array Value)) (ka va : Bool) (kr vr : RTy) (m : List (kr.den × vr.den)) (l : List MapEntry) : Prop :=
  m.length = l.length ∧ ∀ (i : Nat) (p : kr.den × vr.den) (x : MapEntry), m[i]? = some p → l[i]? = some x → RowV σ ka kr p.1 x.key ∧ RowV σ va vr p.2 x.val

theorem SMapL.mono {f g : Nat → Option (Array Value)} (h : FzLe f g) {ka va : Bool} {kr vr : RTy} {m : List (kr.den × vr.den)} {l : List MapEntry} (hr : SMapL f ka va kr vr m l) : SMapL g ka va kr vr m l :=
  let ⟨h2, h3⟩ := hr; ⟨h2, fun i p x hp hx => let ⟨g1, g2⟩ := h3 i p x hp hx; ⟨g1.mono h, g2.mono h⟩⟩

/-- The stamps of a map's entries rise, below its clock. -/
def Stamps (l : List MapEntry) (clock : Nat) : Prop := (l.map (·.born)).Nodup ∧ ∀ x ∈ l, x.born < clock

/-- Rows in a block. -/
def SeqIn (σ : Nat → Option (Array Value)) (sh : Nat) (r : RTy) (rows : List r.den) (arr : Array Value) : Prop :=
  ∀ (k : Nat) (row : r.den), rows[k]? = some row → ∃ ys, (∀ (j : Nat) (y : Value), ys[j]? = some y → arr[sh + k * r.size + j]? = some y) ∧ RTy.Rd σ r row ys

theorem SeqIn.mono {f g : Nat → Option (Array Value)} (h : FzLe f g) {sh : Nat} {r : RTy} {rows : List r.den} {arr : Array Value} (hr : SeqIn f sh r rows arr) : SeqIn g sh r rows arr :=
  fun k row hk => let ⟨ys, h1, h2⟩ := hr k row hk; ⟨ys, h1, h2.mono h⟩

def ORel (ρ : Env) (B : Nat) (w : World) (e : At) : AObj → Prop
  | .cells ro es cs oty => e.nb = false ∧ e.es = es ∧ ∃ arr ty fz, w.heap[e.b]? = some (.cells arr ty fz) ∧ arr.size = e.n ∧
      (∀ (j : Nat) (v : AV), cs[j]? = some v → ∃ x, arr[e.sh + j]? = some x ∧ Rel ρ v x) ∧
      (ro = true → e.b < B) ∧ (ro = false → B ≤ e.b ∧ unfrozen fz e.n) ∧ (∀ t, oty = some t → ty = t ∧ e.sh = 0)
  | .map es clock => e.nb = false ∧ B ≤ e.b ∧ ∃ arr, w.heap[e.b]? = some (.map arr clock) ∧ EntL ρ es arr.toList
  | .sIter s pos => e.nb = false ∧ e.sh = 0 ∧ B ≤ e.b ∧ w.heap[e.b]? = some (.stringIter ⟨s.toArray⟩ pos)
  | .mIter m since seen stepped => e.nb = false ∧ e.sh = 0 ∧ B ≤ e.b ∧ ∃ em, ρ.ats[m]? = some em ∧ w.heap[e.b]? = some (.mapIter (some em.b) since seen.toArray stepped)
  | .loop st pending _ fr n params assign body => e.nb = false ∧ B ≤ e.b ∧ ∃ tmps d fn, w.heap[e.b]? = some (.loop { state := st, pending, fn, tmps, params := params.toArray, assign, body, defers := d }) ∧
      FRel ρ fr tmps ∧ tmps.size = n
  | .seq r rows oty => e.es = r.size ∧ rows.length = e.len ∧ ((e.nb = true ∧ rows = []) ∨ (e.nb = false ∧ ∃ arr ty fz, w.heap[e.b]? = some (.cells arr ty fz) ∧ arr.size = e.n ∧
      SeqIn ρ.fz e.sh r rows arr ∧ B ≤ e.b ∧ unfrozen fz e.n ∧ (∀ t, oty = some t → ty = t ∧ e.sh = 0)))
  | .smap ka va kr vr m bs clk => e.nb = false ∧ B ≤ e.b ∧ (m.map (·.1)).Nodup ∧ ∃ arr, w.heap[e.b]? = some (.map arr clk) ∧ Stamps arr.toList clk ∧ bs = arr.toList.map (·.born) ∧ SMapL ρ.fz ka va kr vr m arr.toList
  | .smIter m since seen stepped => e.nb = false ∧ e.sh = 0 ∧ B ≤ e.b ∧ ∃ em, ρ.ats[m]? = some em ∧ w.heap[e.b]? = some (.mapIter (some em.b) since seen.toArray stepped)
  | .cmIter m since pre now stepped => e.nb = false ∧ e.sh = 0 ∧ B ≤ e.b ∧ ∃ em, ρ.ats[m]? = some em ∧ w.heap[e.b]? = some (.mapIter (some em.b) since (pre ++ now).toArray stepped)

theorem ORel.mono {ρ ρ' : Env} {B : Nat} {w w' : World} {e : At} {o : AObj} (h : ρ.le ρ') (hw : e.nb = false → w'.heap[e.b]? = w.heap[e.b]?) (ho : ORel ρ B w e o) : ORel ρ' B w' e o := by
  cases o with
  | cells ro es cs oty =>
    obtain ⟨h0, h1, arr, ty, fz, h2, h3, h4, h5⟩ := ho
    exact ⟨h0, h1, arr, ty, fz, (hw h0).trans h2, h3, fun j v hj => let ⟨x, hx, hr⟩ := h4 j v hj; ⟨x, hx, hr.mono h⟩, h5⟩
  | map es clock => obtain ⟨h0, h1, arr, h2, h3⟩ := ho; exact ⟨h0, h1, arr, (hw h0).trans h2, h3.mono h⟩
  | sIter s pos => exact ⟨ho.1, ho.2.1, ho.2.2.1, (hw ho.1).trans ho.2.2.2⟩
  | mIter m since seen stepped => obtain ⟨h00, h0, h1, em, h2, h3⟩ := ho; exact ⟨h00, h0, h1, em, pre_get h.ats h2, (hw h00).trans h3⟩
  | loop st pending fn fr n params assign body =>
    obtain ⟨h0, h1, tmps, d, f, h2, h3, h4⟩ := ho
    exact ⟨h0, h1, tmps, d, f, (hw h0).trans h2, h3.mono h, h4⟩
  | seq r rows oty =>
    obtain ⟨h0, h1, h2⟩ := ho
    refine ⟨h0, h1, ?_⟩
    rcases h2 with h2 | ⟨h2, arr, ty, fz, h3, h4, h6, h7⟩
    · exact .inl h2
    · exact .inr ⟨h2, arr, ty, fz, (hw h2).trans h3, h4, h6.mono h.fz, h7⟩
  | smap ka va kr vr m bs clk =>
    obtain ⟨h0, h1, h2, arr, h3, h4, hb, h5⟩ := ho
    exact ⟨h0, h1, h2, arr, (hw h0).trans h3, h4, hb, h5.mono h.fz⟩
  | smIter m since seen stepped => obtain ⟨h00, h0, h1, em, h2, h3⟩ := ho; exact ⟨h00, h0, h1, em, pre_get h.ats h2, (hw h00).trans h3⟩
  | cmIter m since pre now stepped => obtain ⟨h00, h0, h1, em, h2, h3⟩ := ho; exact ⟨h00, h0, h1, em, pre_get h.ats h2, (hw h00).trans h3⟩

theorem ORel.lt {ρ : Env} {B : Nat} {w : World} {e : At} {o : AObj} (ho : ORel ρ B w e o) (hn : e.nb = false) : e.b < w.heap.size := by
  have key : ∀ x : Obj, w.heap[e.b]? = some x → e.b < w.heap.size := fun x hx => (Array.getElem?_eq_some_iff.1 hx).1
  cases o with
  | cells ro es cs => obtain ⟨_, h1, arr, ty, fz, h2, _⟩ := ho; exact key _ h2
  | map es clock => obtain ⟨_, h1, arr, h2, h3⟩ := ho; exact key _ h2
  | sIter s pos => exact key _ ho.2.2.2
  | mIter m since seen stepped => obtain ⟨_, h0, h1, em, h2, h3⟩ := ho; exact key _ h3
  | loop st pending fn fr n params assign body => obtain ⟨_, h1, tmps, d, f, h2, h3, h4⟩ := ho; exact key _ h2
  | seq r rows oty =>
    obtain ⟨h0, h1, h2 | ⟨h2, arr, ty, fz, h3, _⟩⟩ := ho
    · rw [hn] at h2; cases h2.1
    · exact key _ h3
  | smap ka va kr vr m bs clk => obtain ⟨h0, h1, h2, arr, h3, _⟩ := ho; exact key _ h3
  | smIter m since seen stepped => obtain ⟨_, h0, h1, em, h2, h3⟩ := ho; exact key _ h3
  | cmIter m since pre now stepped => obtain ⟨_, h0, h1, em, h2, h3⟩ := ho; exact key _ h3

structure HR (B : Nat) (ρ : Env) (H : Heap) (w : World) : Prop where
  next : H.next = ρ.ats.length
  base : B ≤ w.heap.size
  bnd : ∀ b, ρ.blk b → b < w.heap.size
  obj : ∀ i o, H.get i = some o → ∃ e, ρ.ats[i]? = some e ∧ ORel ρ B w e o
  inj : ∀ i j o o' e e', H.get i = some o → H.get j = some o' → ρ.ats[i]? = some e → ρ.ats[j]? = some e' → e.nb = false → e'.nb = false → e.b = e'.b → i ≠ j → e.b < B
  fz : ∀ b c, ρ.fz b = some c → ∃ arr ty f, w.heap[b]? = some (.cells arr ty f) ∧ ∀ (j : Nat) (x : Value), c[j]? = some x → arr[j]? = some x
  fzo : ∀ i o e c, H.get i = some o → ρ.ats[i]? = some e → e.nb = false → ρ.fz e.b = some c → e.b < B

/-- What a piece of a run does to the world, seen from outside. -/
structure Ext (B : Nat) (ρ : Env) (w : World) (ρ' : Env) (w' : World) : Prop where
  pre : ρ.le ρ'
  os : w'.os = w.os
  tape : w'.tape = w.tape
  output : w'.output = w.output
  size : w.heap.size ≤ w'.heap.size
  below : ∀ k, k < B → w'.heap[k]? = w.heap[k]?
  other : ∀ k, k < w.heap.size → ¬ ρ.blk k → w'.heap[k]? = w.heap[k]?
  new : ∀ b, ρ'.blk b → ρ.blk b ∨ w.heap.size ≤ b
  fzn : ∀ b c, ρ'.fz b = some c → ρ.fz b = some c ∨ ρ.blk b ∨ w.heap.size ≤ b

theorem Ext.refl (B : Nat) (ρ : Env) (w : World) : Ext B ρ w ρ w :=
  ⟨Env.le_refl _, rfl, rfl, rfl, Nat.le_refl _, fun _ _ => rfl, fun _ _ _ => rfl, fun _ h => .inl h, fun _ _ h => .inl h⟩

theorem Ext.trans {B : Nat} {ρ ρ1 ρ2 : Env} {w w1 w2 : World} (h : Ext B ρ w ρ1 w1) (k : Ext B ρ1 w1 ρ2 w2) : Ext B ρ w ρ2 w2 where
  pre := h.pre.trans k.pre
  os := k.os.trans h.os
  tape := k.tape.trans h.tape
  output := k.output.trans h.output
  size := Nat.le_trans h.size k.size
  below b hb := (k.below b hb).trans (h.below b hb)
  other b hb hn := by
    refine (k.other b (Nat.lt_of_lt_of_le hb h.size) fun e => ?_).trans (h.other b hb hn)
    rcases h.new b e with g | hge
    · exact hn g
    · omega
  new e he := by
    rcases k.new e he with g | hge
    · exact h.new e g
    · exact .inr (Nat.le_trans h.size hge)
  fzn b c hb := by
    rcases k.fzn b c hb with g | g | hge
    · exact h.fzn b c g
    · exact .inr (h.new b g)
    · exact .inr (.inr (Nat.le_trans h.size hge))

theorem HR.old {B : Nat} {ρ : Env} {H : Heap} {w : World} (h : HR B ρ H w) {i : Nat} {o : AObj} (ho : H.get i = some o) : i < H.next := by
  obtain ⟨e, he, _⟩ := h.obj i o ho
  rw [h.next]; exact (List.getElem?_eq_some_iff.1 he).1

theorem size_alloc (w : World) (O : Obj) : (w.alloc O).heap.size = w.heap.size + 1 := by
  show (w.heap.push O).size = _
  simp
theorem heap_alloc (w : World) (O : Obj) (k : Nat) (h : k < w.heap.size) : (w.alloc O).heap[k]? = w.heap[k]? := by
  show (w.heap.push O)[k]? = _
  rw [Array.getElem?_push_lt h]; simp [h]
theorem heap_alloc_new (w : World) (O : Obj) : (w.alloc O).heap[w.heap.size]? = some O := by
  show (w.heap.push O)[w.heap.size]? = _
  simp

theorem Env.blk_add {ρ : Env} {e : At} {b : Nat} : (ρ.add e).blk b ↔ ρ.blk b ∨ (e.nb = false ∧ e.b = b) := by
  unfold Env.blk
  simp only [Env.add_ats, List.mem_append, List.mem_singleton]
  constructor
  · rintro ⟨e', h | rfl, h2⟩
    · exact .inl ⟨e', h, h2⟩
    · exact .inr h2
  · rintro (⟨e', h, h2⟩ | h)
    · exact ⟨e', .inl h, h2⟩
    · exact ⟨e, .inr rfl, h⟩

theorem Env.blk_of {ρ : Env} {i : Nat} {e : At} (h : ρ.ats[i]? = some e) (hn : e.nb = false) : ρ.blk e.b := ⟨e, List.mem_of_getElem? h, hn, rfl⟩

theorem HR.fzlt {B : Nat} {ρ : Env} {H : Heap} {w : World} (h : HR B ρ H w) {b : Nat} {c : Array Value} (hb : ρ.fz b = some c) : b < w.heap.size := by
  obtain ⟨arr, ty, f, h1, _⟩ := h.fz b c hb
  exact (Array.getElem?_eq_some_iff.1 h1).1

/-- A block that nobody knows is laid. -/
theorem HR.alloc {B : Nat} {ρ : Env} {H : Heap} {w : World} (h : HR B ρ H w) (o : AObj) (O : Obj) (e : At) (hb : e.b = w.heap.size)
    (ho : ORel (ρ.add e) B (w.alloc O) e o) : HR B (ρ.add e) (H.alloc o) (w.alloc O) where
  next := by simp [h.next]
  base := Nat.le_trans h.base (by rw [size_alloc]; omega)
  bnd b hbk := by
    rw [size_alloc]
    rcases Env.blk_add.1 hbk with g | g
    · have := h.bnd b g; omega
    · have := g.2; omega
  obj i o' hi := by
    rw [Heap.get_alloc] at hi
    by_cases hn : i = H.next
    · simp only [hn, if_true] at hi
      cases hi
      exact ⟨e, by rw [hn, h.next]; simp, ho⟩
    · simp only [hn, if_false] at hi
      obtain ⟨e', he', ho'⟩ := h.obj i o' hi
      exact ⟨e', pre_get (List.prefix_append _ _) he', ho'.mono (Env.le_add _ _) fun hnb => heap_alloc w O _ (ho'.lt hnb)⟩
  inj i j o1 o2 e1 e2 hi hj h1 h2 hn1 hn2 hb12 hne := by
    rw [Heap.get_alloc] at hi hj
    have hi' : i = H.next ∨ (i ≠ H.next ∧ H.get i = some o1) := by
      by_cases hn : i = H.next
      · exact .inl hn
      · simp only [hn, if_false] at hi; exact .inr ⟨hn, hi⟩
    have hj' : j = H.next ∨ (j ≠ H.next ∧ H.get j = some o2) := by
      by_cases hn : j = H.next
      · exact .inl hn
      · simp only [hn, if_false] at hj; exact .inr ⟨hn, hj⟩
    have old : ∀ i o e', H.get i = some o → (ρ.add e).ats[i]? = some e' → e'.nb = false → ρ.ats[i]? = some e' ∧ e'.b < w.heap.size := fun i o e' hi he' hnb => by
      obtain ⟨e1, he1, ho1⟩ := h.obj i o hi
      have := (List.getElem?_eq_some_iff.1 he1).1
      rw [Env.add_ats, List.getElem?_append_left this] at he'
      have : e1 = e' := by rw [he1] at he'; exact Option.some.inj he'
      subst this
      exact ⟨he1, ho1.lt hnb⟩
    have new : ∀ i e', i = H.next → (ρ.add e).ats[i]? = some e' → e' = e := fun i e' hi he' => by
      rw [hi, h.next] at he'; simp at he'; exact he'.symm
    rcases hi' with hi1 | ⟨_, hi1⟩ <;> rcases hj' with hj1 | ⟨_, hj1⟩
    · exact absurd (hi1.trans hj1.symm) hne
    · have := new _ _ hi1 h1; subst this
      have := (old _ _ _ hj1 h2 hn2).2; omega
    · have := new _ _ hj1 h2; subst this
      have := (old _ _ _ hi1 h1 hn1).2; omega
    · exact h.inj i j o1 o2 e1 e2 hi1 hj1 (old _ _ _ hi1 h1 hn1).1 (old _ _ _ hj1 h2 hn2).1 hn1 hn2 hb12 hne
  fz b c hbc := by
    obtain ⟨arr, ty, f, h1, h2⟩ := h.fz b c hbc
    exact ⟨arr, ty, f, (heap_alloc w O b (h.fzlt hbc)).trans h1, h2⟩
  fzo i o' e' c hi he' hnb hc := by
    rw [Heap.get_alloc] at hi
    by_cases hn : i = H.next
    · have : e' = e := by rw [hn, h.next] at he'; simp at he'; exact he'.symm
      subst this
      have := h.fzlt hc
      omega
    · simp only [hn, if_false] at hi
      have := (h.old hi)
      rw [Env.add_ats, List.getElem?_append_left (by rw [← h.next]; exact this)] at he'
      exact h.fzo i o' e' c hi he' hnb hc

theorem Ext.alloc {B : Nat} {ρ : Env} {w : World} (O : Obj) (e : At) (hB : B ≤ w.heap.size) (hb : e.b = w.heap.size) : Ext B ρ w (ρ.add e) (w.alloc O) where
  pre := Env.le_add _ _
  os := rfl
  tape := rfl
  output := rfl
  size := by rw [size_alloc]; omega
  below k hk := heap_alloc w O k (Nat.lt_of_lt_of_le hk hB)
  other k hk _ := heap_alloc w O k hk
  new b hbk := by
    rcases Env.blk_add.1 hbk with h | h
    · exact .inl h
    · exact .inr (by have := h.2; omega)
  fzn _ _ h := .inl h

/-- A block that is known turns. -/
theorem HR.turn {B : Nat} {ρ : Env} {H : Heap} {w w' : World} (h : HR B ρ H w) {i : Nat} {o : AObj} {e : At} (hi : H.get i = some o) (he : ρ.ats[i]? = some e) (hn : e.nb = false) (hB : B ≤ e.b)
    (o' : AObj) (hsz : w'.heap.size = w.heap.size) (hoth : ∀ k, k ≠ e.b → w'.heap[k]? = w.heap[k]?) (ho : ORel ρ B w' e o') : HR B ρ (H.set i o') w' where
  next := h.next
  base := hsz ▸ h.base
  bnd := hsz ▸ h.bnd
  obj j o1 hj := by
    rw [Heap.get_set] at hj
    by_cases hn' : j = i
    · simp only [hn', if_true] at hj
      cases hj
      exact ⟨e, hn' ▸ he, ho⟩
    · simp only [hn', if_false] at hj
      obtain ⟨e', he', ho'⟩ := h.obj j o1 hj
      refine ⟨e', he', ho'.mono (Env.le_refl _) fun hnb => hoth _ fun hb => ?_⟩
      have := h.inj j i o1 o e' e hj hi he' he hnb hn hb hn'
      omega
  inj j k o1 o2 e1 e2 hj hk h1 h2 hn1 hn2 hb12 hne := by
    rw [Heap.get_set] at hj hk
    have live : ∀ j o1, (if j = i then some o' else H.get j) = some o1 → ∃ o2, H.get j = some o2 := fun j o1 hj => by
      by_cases hn' : j = i
      · exact ⟨o, hn' ▸ hi⟩
      · simp only [hn', if_false] at hj; exact ⟨o1, hj⟩
    obtain ⟨o3, hj'⟩ := live _ _ hj
    obtain ⟨o4, hk'⟩ := live _ _ hk
    exact h.inj j k o3 o4 e1 e2 hj' hk' h1 h2 hn1 hn2 hb12 hne
  fz b c hbc := by
    obtain ⟨arr, ty, f, h1, h2⟩ := h.fz b c hbc
    refine ⟨arr, ty, f, (hoth b fun hb => ?_).trans h1, h2⟩
    have := h.fzo i o e c hi he hn (hb ▸ hbc)
    omega
  fzo j o1 e1 c hj h1 hn1 hc := by
    rw [Heap.get_set] at hj
    by_cases hn' : j = i
    · subst hn'
      exact h.fzo j o e1 c hi h1 hn1 hc
    · simp only [hn', if_false] at hj
      exact h.fzo j o1 e1 c hj h1 hn1 hc

theorem Ext.turn {B : Nat} {ρ : Env} {w w' : World} {e : At} (he : ρ.blk e.b) (hB : B ≤ e.b) (hsz : w'.heap.size = w.heap.size) (hoth : ∀ k, k ≠ e.b → w'.heap[k]? = w.heap[k]?)
    (hos : w'.os = w.os) (htape : w'.tape = w.tape) (hout : w'.output = w.output) : Ext B ρ w ρ w' where
  pre := Env.le_refl _
  os := hos
  tape := htape
  output := hout
  size := by omega
  below k hk := hoth k (by omega)
  other k _ hn := hoth k (fun h => hn (h ▸ he))
  new b hb := .inl hb
  fzn _ _ h := .inl h

theorem HR.heap {B : Nat} {ρ : Env} {H : Heap} {w w' : World} (h : HR B ρ H w) (hw : w'.heap = w.heap) : HR B ρ H w' where
  next := h.next
  base := hw ▸ h.base
  bnd := by rw [hw]; exact h.bnd
  obj i o hi := let ⟨e, he, ho⟩ := h.obj i o hi; ⟨e, he, ho.mono (Env.le_refl _) fun _ => by rw [hw]⟩
  inj := h.inj
  fz := by rw [hw]; exact h.fz
  fzo := h.fzo

theorem Ext.heap {B : Nat} {ρ : Env} {w w' : World} (hw : w'.heap = w.heap) (hos : w'.os = w.os) (htape : w'.tape = w.tape) (hout : w'.output = w.output) : Ext B ρ w ρ w' :=
  ⟨Env.le_refl _, hos, htape, hout, by rw [hw]; exact Nat.le_refl _, fun _ _ => by rw [hw], fun _ _ _ => by rw [hw], fun _ h => .inl h, fun _ _ h => .inl h⟩

theorem HR.kill {B : Nat} {ρ : Env} {H : Heap} {w : World} (h : HR B ρ H w) (i : Nat) : HR B ρ (H.kill i) w where
  next := h.next
  base := h.base
  bnd := h.bnd
  obj j o hj := by
    rw [Heap.get_kill] at hj
    by_cases hn : j = i
    · simp [hn] at hj
    · simp only [hn, if_false] at hj; exact h.obj j o hj
  inj j k o1 o2 e1 e2 hj hk := by
    rw [Heap.get_kill] at hj hk
    by_cases hn : j = i
    · simp [hn] at hj
    · by_cases hm : k = i
      · simp [hm] at hk
      · simp only [hn, hm, if_false] at hj hk
        exact h.inj j k o1 o2 e1 e2 hj hk
  fz := h.fz
  fzo j o e c hj := by
    rw [Heap.get_kill] at hj
    by_cases hn : j = i
    · simp [hn] at hj
    · simp only [hn, if_false] at hj
      exact h.fzo j o e c hj
end Go.AM
namespace Go.AM
open Go.RowKit

theorem addr_add (b o n : Nat) : (⟨b, o, none⟩ : Addr).add n = ⟨b, o + n, none⟩ := by
  unfold Addr.add; split
  · subst_vars; rfl
  · rfl

def AV.scalar : AV → Bool
  | .agg _ | .tup _ => false
  | _ => true

theorem oneCell_of {ρ : Env} {v : AV} {x : Value} (hs : v.scalar = true) (hr : Rel ρ v x) : x.oneCell' = true := by
  cases v <;> simp only [Rel, CTy.Rd] at hr <;> simp only [AV.scalar, Bool.false_eq_true] at hs <;>
    first
      | (subst hr; rfl)
      | (obtain ⟨rfl, _⟩ := hr; rfl)
      | (obtain ⟨_, _, _, _, rfl⟩ := hr; rfl)
      | (obtain ⟨_, _, _, _, rfl, _⟩ := hr; rfl)
      | (obtain ⟨_, _, rfl⟩ := hr; rfl)
      | (obtain ⟨_, rfl, _⟩ := hr; rfl)
      | (obtain ⟨_, _, rfl, _⟩ := hr; rfl)
      | (obtain ⟨_, _, _, rfl, _⟩ := hr; rfl)

/-- One cell. -/
def ld1 (H : Heap) (i off : Nat) : Option AV :=
  match H.get i with
  | some (.cells _ _ cs _) => cs[off]?
  | _ => none

/-- Some cells. -/
def ldN (H : Heap) (i off n : Nat) : Option (List AV) :=
  match H.get i with
  | some (.cells _ _ cs _) => bif Nat.ble (off + n) cs.length then some ((cs.drop off).take n) else none
  | _ => none

def spl (cs : List AV) (off : Nat) (new : List AV) : List AV := cs.take off ++ new ++ cs.drop (off + new.length)

/-- Some cells are written. -/
def stN (H : Heap) (i off : Nat) (new : List AV) : Option Heap :=
  match H.get i with
  | some (.cells false es cs ty) => bif Nat.ble (off + new.length) cs.length && new.all AV.scalar then some (H.set i (.cells false es (spl cs off new) ty)) else none
  | _ => none

section
variable {B : Nat} {ρ : Env} {H : Heap} {w : World} {P : Program}

theorem HR.at' (h : HR B ρ H w) {i : Nat} {o : AObj} (ho : H.get i = some o) {e : At} (he : ρ.ats[i]? = some e) : ORel ρ B w e o := by
  obtain ⟨e', he', hr⟩ := h.obj i o ho
  rw [he] at he'
  cases he'
  exact hr

theorem ld1_sound (h : HR B ρ H w) {i off : Nat} {v : AV} {e : At} (he : ρ.ats[i]? = some e) (hl : ld1 H i off = some v) : ∃ x, w.cell? ⟨e.b, e.sh + off, none⟩ = some x ∧ Rel ρ v x := by
  unfold ld1 at hl
  split at hl
  · rename_i ro es cs oty ho
    obtain ⟨_, _, arr, ty, fz, h2, h3, h4, _⟩ := h.at' ho he
    obtain ⟨x, hx, hr⟩ := h4 _ _ hl
    exact ⟨x, by simp [World.cell?, h2, hx], hr⟩
  · cases hl

theorem ldN_sound (h : HR B ρ H w) {i off n : Nat} {vs : List AV} {e : At} (he : ρ.ats[i]? = some e) (hl : ldN H i off n = some vs) :
    vs.length = n ∧ ∃ xs : List Value, xs.length = n ∧ RelL ρ vs xs ∧ ∀ (j : Nat) (x : Value), xs[j]? = some x → w.cell? ⟨e.b, e.sh + off + j, none⟩ = some x := by
  unfold ldN at hl
  split at hl
  · rename_i ro es cs oty ho
    cases hb : Nat.ble (off + n) cs.length with
    | false => rw [hb] at hl; cases hl
    | true =>
      rw [hb] at hl
      simp only [cond_true, Option.some.injEq] at hl
      have hle2 := Nat.le_of_ble_eq_true hb
      obtain ⟨_, _, arr, ty, fz, h2, h3, h4, _⟩ := h.at' ho he
      have hlen : vs.length = n := by subst hl; simp; omega
      have hg : ∀ j, j < n → ∃ x, arr[e.sh + off + j]? = some x ∧ ∀ v, vs[j]? = some v → Rel ρ v x := fun j hj => by
        have hv : cs[off + j]? = some (cs[off + j]'(by omega)) := List.getElem?_eq_getElem _
        obtain ⟨x, hx, hr⟩ := h4 _ _ hv
        rw [← Nat.add_assoc] at hx
        refine ⟨x, hx, fun v hv' => ?_⟩
        subst hl
        rw [List.getElem?_take_of_lt hj, List.getElem?_drop, hv] at hv'
        cases hv'; exact hr
      refine ⟨hlen, (List.range n).map fun j => (arr[e.sh + off + j]?).getD default, by simp, RelL.mk (by simp [hlen]) fun j v hv => ?_, fun j x hx => ?_⟩
      · have hj : j < n := by have := (List.getElem?_eq_some_iff.1 hv).1; omega
        obtain ⟨x, hx, hr⟩ := hg j hj
        exact ⟨x, by simp [hj, hx], hr v hv⟩
      · have hj : j < n := by have := (List.getElem?_eq_some_iff.1 hx).1; simpa using this
        obtain ⟨y, hy, _⟩ := hg j hj
        have : x = y := by simp [hj, hy] at hx; exact hx.symm
        subst this
        simp [World.cell?, h2, hy]
  · cases hl

theorem run_loadCells_at {b off n : Nat} {xs : List Value} (hn : xs.length = n) (h : ∀ (j : Nat) (x : Value), xs[j]? = some x → w.cell? ⟨b, off + j, none⟩ = some x) :
    (loadCells ⟨b, off, none⟩ n).run P w = .ok xs.toArray w := by
  subst hn
  exact run_loadCells_list w _ _ fun j v hv => by rw [addr_add]; exact h j v hv

theorem heap_setCell_same {w : World} {b o : Nat} {arr : Array Value} {ty : TypeId} {fz : Nat × Nat} (v : Value) (h : w.heap[b]? = some (.cells arr ty fz)) :
    (w.setCell ⟨b, o, none⟩ v).heap[b]? = some (.cells (arr.setIfInBounds o v) ty fz) := by
  have hlt : b < w.heap.size := (Array.getElem?_eq_some_iff.1 h).1
  simp only [World.setCell]
  rw [Array.getElem?_modify]
  simp [h]

theorem heap_setCell_other {w : World} {b o k : Nat} (v : Value) (h : k ≠ b) : (w.setCell ⟨b, o, none⟩ v).heap[k]? = w.heap[k]? := by
  simp only [World.setCell]
  rw [Array.getElem?_modify]
  simp [Ne.symm h]

theorem size_setCell {w : World} {b o : Nat} (v : Value) : (w.setCell ⟨b, o, none⟩ v).heap.size = w.heap.size := by
  simp [World.setCell]

theorem run_storeCells (b o : Nat) (ty : TypeId) (fz : Nat × Nat) : ∀ (vs : List Value) (i : Nat) (arr : Array Value) (w : World), w.heap[b]? = some (.cells arr ty fz) →
    unfrozen fz arr.size → o + i + vs.length ≤ arr.size → (∀ v ∈ vs, v.oneCell' = true) →
    ∃ w' arr', (storeCells ⟨b, o, none⟩ vs i).run P w = .ok () w' ∧ w'.heap[b]? = some (.cells arr' ty fz) ∧ arr'.size = arr.size ∧
      (∀ j : Nat, arr'[j]? = if o + i ≤ j ∧ j < o + i + vs.length then vs[j - (o + i)]? else arr[j]?) ∧ w'.heap.size = w.heap.size ∧
      (∀ k, k ≠ b → w'.heap[k]? = w.heap[k]?) ∧ w'.os = w.os ∧ w'.tape = w.tape ∧ w'.output = w.output
  | [], i, arr, w, h, hf, hl, h1 => ⟨w, arr, by simp [storeCells], h, rfl, fun j => by rw [if_neg (by simp)], rfl, fun _ _ => rfl, rfl, rfl, rfl⟩
  | v :: vs, i, arr, w, h, hf, hl, h1 => by
    simp only [List.length_cons] at hl
    have hc : w.cell? ⟨b, o + i, none⟩ = some (arr[o + i]'(by omega)) := by simp [World.cell?, h]
    have hfz : w.frozen? ⟨b, o + i, none⟩ = false := by
      simp only [World.frozen?, h]
      have := hf (o + i) (by omega)
      simp only [Bool.and_eq_false_iff, decide_eq_false_iff_not]
      omega
    have hs := heap_setCell_same (o := o + i) v h
    obtain ⟨w', arr', r1, r2, r3, r4, r5, r6, r7, r8, r9⟩ := run_storeCells b o ty fz vs (i + 1) _ (w.setCell ⟨b, o + i, none⟩ v) hs (by simpa using hf) (by simp; omega)
      (fun u hu => h1 u (List.mem_cons_of_mem _ hu))
    refine ⟨w', arr', ?_, r2, by simpa using r3, fun j => ?_, by rw [r5, size_setCell], fun k hk => (r6 k hk).trans (heap_setCell_other v hk), r7, r8, r9⟩
    · simp only [storeCells, Sem.run_bind, addr_add]
      rw [run_store _ _ _ _ _ (h1 v (List.mem_cons_self ..))]
      simp only [hc, hfz, Bool.false_eq_true, if_false, Result.andThen_ok]
      exact r1
    · rw [r4]
      by_cases hj : j = o + i
      · subst hj
        rw [if_neg (by omega), if_pos (by simp)]
        simp [show o + i < arr.size by omega]
      · by_cases hin : o + (i + 1) ≤ j ∧ j < o + (i + 1) + vs.length
        · rw [if_pos hin, if_pos (by simp; omega), show j - (o + i) = (j - (o + (i + 1))) + 1 by omega]
          simp
        · rw [if_neg hin, if_neg (by simp; omega), Array.getElem?_setIfInBounds_ne (Ne.symm hj)]

theorem spl_get (cs : List AV) (off : Nat) (new : List AV) (h : off + new.length ≤ cs.length) (j : Nat) :
    (spl cs off new)[j]? = if off ≤ j ∧ j < off + new.length then new[j - off]? else cs[j]? := by
  unfold spl
  by_cases h1 : j < off
  · rw [if_neg (by omega), List.append_assoc, List.getElem?_append_left (by simp; omega), List.getElem?_take_of_lt h1]
  · by_cases h2 : j < off + new.length
    · rw [if_pos (by omega), List.append_assoc, List.getElem?_append_right (by simp; omega), List.getElem?_append_left (by simp; omega)]
      congr 1; simp; omega
    · rw [if_neg (by omega), List.getElem?_append_right (by simp; omega), List.getElem?_drop]
      congr 1; simp; omega

theorem length_spl (cs : List AV) (off : Nat) (new : List AV) (h : off + new.length ≤ cs.length) : (spl cs off new).length = cs.length := by
  unfold spl; simp; omega

/-- What a write of some cells leaves. -/
theorem stN_sound (h : HR B ρ H w) {i off : Nat} {new : List AV} {xs : List Value} {H' : Heap} {e : At} (he : ρ.ats[i]? = some e) (hr : RelL ρ new xs) (hs : stN H i off new = some H') :
    ∃ w', (storeCells ⟨e.b, e.sh + off, none⟩ xs).run P w = .ok () w' ∧ HR B ρ H' w' ∧ Ext B ρ w ρ w' := by
  unfold stN at hs
  split at hs
  · rename_i es cs oty ho
    cases hb : (Nat.ble (off + new.length) cs.length && new.all AV.scalar) with
    | false => rw [hb] at hs; cases hs
    | true =>
      rw [hb] at hs
      simp only [cond_true, Option.some.injEq] at hs
      subst hs
      simp only [Bool.and_eq_true] at hb
      have hle := Nat.le_of_ble_eq_true hb.1
      obtain ⟨hnb, h0, arr, ty, fz, h2, h3, h4, _, h5, h6⟩ := h.at' ho he
      obtain ⟨hB, hf⟩ := h5 rfl
      have hlen := hr.length
      have hcs : 0 < new.length → e.sh + cs.length ≤ arr.size := by
        intro h0
        obtain ⟨x, hx, _⟩ := h4 (cs.length - 1) _ (List.getElem?_eq_getElem (by omega))
        have := (Array.getElem?_eq_some_iff.1 hx).1
        omega
      by_cases hne : new.length = 0
      · have hnil : new = [] := List.length_eq_zero_iff.1 hne
        subst hnil
        have hx : xs = [] := by simpa [RelL] using hr
        subst hx
        have hsp : spl cs off [] = cs := by simp [spl]
        rw [hsp]
        refine ⟨w, by simp [storeCells], ?_, Ext.refl _ _ _⟩
        exact h.turn ho he hnb hB _ rfl (fun _ _ => rfl) (h.at' ho he)
      have hone : ∀ v ∈ xs, v.oneCell' = true := fun v hv => by
        obtain ⟨j, hj, rfl⟩ := List.getElem_of_mem hv
        have hj' : j < new.length := by omega
        obtain ⟨x, hx, hrx⟩ := hr.get (List.getElem?_eq_getElem hj')
        have : xs[j] = x := by rw [List.getElem?_eq_getElem hj] at hx; exact Option.some.inj hx
        rw [this]
        exact oneCell_of (List.all_eq_true.1 hb.2 _ (List.getElem_mem hj')) hrx
      obtain ⟨w', arr', r1, r2, r3, r4, r5, r6, r7, r8, r9⟩ := run_storeCells (P := P) e.b (e.sh + off) ty fz xs 0 arr w h2 (by rw [h3]; exact hf) (by have := hcs (by omega); omega) hone
      have hcell : ∀ (j : Nat) (v : AV), (spl cs off new)[j]? = some v → ∃ x, arr'[e.sh + j]? = some x ∧ Rel ρ v x := by
        intro j v hv
        rw [spl_get _ _ _ hle] at hv
        rw [r4]
        by_cases hin : off ≤ j ∧ j < off + new.length
        · rw [if_pos hin] at hv
          rw [if_pos (by omega), show e.sh + j - (e.sh + off + 0) = j - off by omega]
          exact hr.get hv
        · rw [if_neg hin] at hv
          rw [if_neg (by omega)]
          exact h4 j v hv
      have hO : ORel ρ B w' e (.cells false es (spl cs off new) oty) := ⟨hnb, h0, arr', ty, fz, r2, r3.trans h3, hcell, (fun hh => by cases hh), fun _ => ⟨hB, hf⟩, h6⟩
      exact ⟨w', r1, h.turn ho he hnb hB _ r5 r6 hO, Ext.turn (Env.blk_of he hnb) hB r5 r6 r7 r8 r9⟩
  · cases hs

end
end Go.AM
namespace Go.AM

inductive Res where
  | val (v : AV) (H : Heap)
  | call (f : FuncId) (args : List AV)
  | yield (l : Nat) (args : List AV)
  | opts (l : List (AV × Heap))
  | fams (l : List ((Nat → Prop) × (Nat → AV × Heap)))

def pureOf {α : Type} : Sem α → Option α
  | .pure a => some a
  | _ => none

def eqB : List UInt8 → List UInt8 → Bool
  | [], [] => true
  | a :: x, b :: y => bif Nat.beq a.toNat b.toNat then eqB x y else false
  | _, _ => false

def ltB : List UInt8 → List UInt8 → Bool
  | _, [] => false
  | [], _ :: _ => true
  | a :: x, b :: y => bif Nat.blt a.toNat b.toNat then true else bif Nat.beq a.toNat b.toNat then ltB x y else false

/-- The plain values of one cell. -/
def toV : AV → Option Value
  | .bool b => some (.bool b)
  | .int k n => some (.int k n)
  | .str s => some (.string ⟨s.toArray⟩)
  | .nilPtr => some (.pointer none)
  | .nilSlc => some (.slice none 0 0)
  | .nilMap => some (.map none)
  | .nilFn => some .nilFunc
  | .nilIface => some .nilIface
  | _ => none

def convS : Value → Option AV
  | .bool b => some (.bool b)
  | .int k n => some (.int k n)
  | .string s => some (.str s.data.toList)
  | .pointer none => some .nilPtr
  | .slice none 0 0 => some .nilSlc
  | .map none => some .nilMap
  | .nilFunc => some .nilFn
  | .nilIface => some .nilIface
  | _ => none

def conv : Value → Option AV
  | .agg cs => (cs.toList.mapM convS).map .agg
  | v => convS v

def aeval (fr : Fr) : Operand → Option AV
  | .tmp t => fr.get t
  | .const v => conv v
  | .global _ => none
  | .func f => some (.fn (.func f) [] [])

def AV.cells : AV → Option (List AV)
  | .agg cs => some cs
  | .tup _ => none
  | v => some [v]

def isAggD : TypeDesc → Bool
  | .struct _ | .array _ _ => true
  | _ => false

section
variable (P : Program)

def zeroA (t : TypeId) : Option AV := ((P.info? t).bind (·.zero)).bind conv

def apart (t : TypeId) (cs : List AV) (off : Nat) : Option AV :=
  (P.underlying t).bind fun d => bif isAggD d then (P.info? t).bind fun i => some (.agg ((cs.drop off).take i.size)) else cs[off]?

def aload (H : Heap) (t : TypeId) : AV → Option AV
  | .ptr i off => (P.underlying t).bind fun d => bif isAggD d then (P.info? t).bind fun inf => (ldN H i off inf.size).map .agg else ld1 H i off
  | _ => none

def astore (H : Heap) (t : TypeId) (a v : AV) : Option Heap :=
  match a with
  | .ptr i off => v.cells.bind fun cs => (P.info? t).bind fun inf => bif Nat.beq cs.length inf.size then stN H i off cs else none
  | _ => none

def newCells (H : Heap) (ty : Option TypeId) (es : Nat) (cs : List AV) : Option (Nat × Heap) :=
  bif cs.all AV.scalar then some (H.next, H.alloc (.cells false es cs ty)) else none

/-- Are they the same? -/
def aeqF (eq : TypeId → AV → AV → Option Bool) (xs ys : List AV) : List Field → Option Bool
  | [] => some true
  | f :: fs => bif f.name == "_" then aeqF eq xs ys fs else
    (apart P f.type xs f.offset).bind fun a => (apart P f.type ys f.offset).bind fun b => (eq f.type a b).bind fun r => bif r then aeqF eq xs ys fs else some false

def aeqN (eq : TypeId → AV → AV → Option Bool) (e n : Nat) (xs ys : List AV) : Nat → Nat → Option Bool
  | 0, _ => some true
  | k + 1, i => (apart P e xs (i * n)).bind fun a => (apart P e ys (i * n)).bind fun b => (eq e a b).bind fun r => bif r then aeqN eq e n xs ys k (i + 1) else some false

def aeq : Nat → TypeId → AV → AV → Option Bool
  | 0, _, _, _ => none
  | d + 1, t, x, y => (P.underlying t).bind fun u =>
    match u, x, y with
    | .bool, .bool a, .bool b => some (a == b)
    | .int _, .int k a, .int k' b => bif decide (k = k') then some (a == b) else none
    | .string, .str a, .str b => some (eqB a b)
    | .pointer _, .nilPtr, .nilPtr => some true
    | .pointer _, .nilPtr, .ptr _ _ => some false
    | .pointer _, .ptr _ _, .nilPtr => some false
    | .pointer e, .ptr i a, .ptr j b => bif Nat.beq i j then (P.info? e).bind fun inf => bif Nat.beq inf.size 0 then none else some (Nat.beq a b) else none
    | .struct fs, .agg xs, .agg ys => bif P.stoodInHeld t then none else aeqF P (aeq d) xs ys fs.toList
    | .array n e, .agg xs, .agg ys => (P.info? e).bind fun inf => aeqN P (aeq d) e inf.size xs ys n 0
    | .slice _, .nilSlc, .nilSlc => some true
    | .slice _, .nilSlc, .slc .. => some false
    | .slice _, .nilSlc, .emp => some false
    | .slice _, .slc .., .nilSlc => some false
    | .slice _, .emp, .nilSlc => some false
    | .map _ _, .nilMap, .nilMap => some true
    | .map _ _, .nilMap, .map _ => some false
    | .map _ _, .map _, .nilMap => some false
    | .func _ _ _, .nilFn, .nilFn => some true
    | .func _ _ _, .nilFn, .fn .. => some false
    | .func _ _ _, .fn .., .nilFn => some false
    | .interface _, .nilIface, .iface .. => some false
    | .interface _, .iface .., .nilIface => some false
    | _, _, _ => none

def isConstB : Operand → Bool
  | .const _ => true
  | _ => false

def aBin (op : BinOp) (t : TypeId) (ox oy : Operand) (x y : AV) : Option AV :=
  match x, y with
  | .int k a, .int k' b => (pureOf (binOp op t (.int k a) (.int k' b))).bind convS
  | .str a, .str b =>
    match op with
    | .add => bif Nat.ble (a.length + b.length) 9223372036854775807 then some (.str (a ++ b)) else none
    | .eql => some (.bool (eqB a b))
    | .neq => some (.bool (!eqB a b))
    | .lss => some (.bool (ltB a b))
    | .leq => some (.bool (ltB a b || eqB a b))
    | .gtr => some (.bool (!(ltB a b || eqB a b)))
    | .geq => some (.bool (!ltB a b))
    | _ => none
  | .nilIface, .nilIface =>
    bif isConstB ox || isConstB oy then
      (P.underlying t).bind fun u => match u, op with
      | .interface _, .eql => some (.bool true)
      | .interface _, .neq => some (.bool false)
      | _, _ => none
    else none
  | .agg xs, .agg ys =>
    bif P.eqGuardType P.depth t then none else
      match op with
      | .eql => (aeq P Op.maxDepth t (.agg xs) (.agg ys)).map .bool
      | .neq => (aeq P Op.maxDepth t (.agg xs) (.agg ys)).map fun b => .bool (!b)
      | _ => none
  | x, y =>
    match op with
    | .eql => (aeq P Op.maxDepth t x y).map .bool
    | .neq => (aeq P Op.maxDepth t x y).map fun b => .bool (!b)
    | _ => none

def aUn (op : UnOp) (x : AV) : Option AV :=
  match x with
  | .int k n => (pureOf (Op.unary op (.int k n))).bind convS
  | .bool b => (pureOf (Op.unary op (.bool b))).bind convS
  | _ => none

/-! A bool that is known by a term alone. -/
def AV.ub : AV → AV
  | .sB b => .bool b
  | v => v

def AV.isS : AV → Bool
  | .sB _ => true
  | _ => false

/-- What no operation of the machine without terms takes. -/
def AV.isX : AV → Bool
  | .sI .. => true
  | .sB _ => true
  | .sS _ => true
  | .dsl .. => true
  | .dptr .. => true
  | .sw _ => true
  | .ss .. => true
  | .eptr .. => true
  | _ => false

def bytesOfCells : List AV → Option (List UInt8)
  | [] => some []
  | .int .u8 n :: r => (bytesOfCells r).map (UInt8.ofNat n.toNat :: ·)
  | _ => none

def bytesAV (s : List UInt8) : List AV := s.map fun b => .int .u8 b.toNat

/-- A conversion. -/
def aConv (H : Heap) (src dst : TypeId) (x : AV) : Option (AV × Heap) :=
  (P.underlying src).bind fun us => (P.underlying dst).bind fun ud =>
  match us, ud, x with
  | _, .int k, .int _ n => some (.int k (k.wrap n), H)
  | _, .string, .str s => some (.str s, H)
  | _, .slice e, .str s => (P.underlying e).bind fun ue =>
    match ue with
    | .int .u8 => some (.slc H.next 0 s.length s.length false, H.alloc (.cells false 1 (bytesAV s) (some e)))
    | _ => none
  | .slice e, .string, x => (P.underlying e).bind fun ue =>
    match ue, x with
    | .int .u8, .nilSlc => some (.str [], H)
    | .int .u8, .slc i off len _ _ => (ldN H i off len).bind fun cs => (bytesOfCells cs).map fun s => (.str s, H)
    | _, _ => none
  | _, _, _ => none

def aFill (place : Nat → Option (Nat × Nat)) (cells : List AV) : List (Nat × AV) → Option (List AV)
  | [] => some cells
  | (i, v) :: rest => (place i).bind fun p => v.cells.bind fun cs =>
    bif Nat.beq cs.length p.2 && Nat.ble (p.1 + cs.length) cells.length then aFill place (spl cells p.1 cs) rest else none

def aBuild (t : TypeId) (parts : List (Nat × AV)) : Option AV :=
  (P.info? t).bind fun it => (P.underlying t).bind fun u => (it.zero.bind conv).bind fun z => z.cells.bind fun zs =>
  match u with
  | .array _ e => (P.info? e).bind fun ie => (aFill (fun i => some (i * ie.size, ie.size)) zs parts).map .agg
  | .struct fields => (fields.toList.mapM (fun f => (P.info? f.type).map fun i => (f.offset, i.size))).bind fun places => (aFill (fun i => places[i]?) zs parts).map .agg
  | _ => none

def repCells (n : Nat) (zs : List AV) : List AV := (List.replicate n zs).flatten

def aBuildSlice (H : Heap) (t : TypeId) (len : Nat) (parts : List (Nat × AV)) : Option (AV × Heap) :=
  (P.underlying t).bind fun u => match u with
  | .slice e => (P.info? e).bind fun ie => (ie.zero.bind conv).bind fun z => z.cells.bind fun zs =>
    bif Nat.ble (len * ie.size) 16777216 && Nat.beq zs.length ie.size && !Nat.beq ie.size 0 then
      (aFill (fun i => some (i * ie.size, ie.size)) (repCells len zs) parts).bind fun cs => (newCells H (some e) ie.size cs).map fun r => (.slc r.1 0 len len true, r.2)
    else none
  | _ => none

def evalParts (fr : Fr) : List (Nat × Operand) → Option (List (Nat × AV))
  | [] => some []
  | (i, x) :: r => (aeval fr x).bind fun v => (evalParts fr r).map ((i, v) :: ·)

def evalL (fr : Fr) : List Operand → Option (List AV)
  | [] => some []
  | x :: r => (aeval fr x).bind fun v => (evalL fr r).map (v :: ·)

def aFieldAddr (s : TypeId) (x : AV) (field : Nat) : Option AV :=
  match x with
  | .ptr i off => (P.underlying s).bind fun u => match u with
    | .struct fs => (fs[field]?).bind fun f => (P.info? f.type).bind fun inf => bif Nat.beq inf.size 0 then none else some (.ptr i (off + f.offset))
    | _ => none
  | _ => none

def aField (t : TypeId) (x : AV) (field : Nat) : Option AV :=
  match x with
  | .agg cs => (P.underlying t).bind fun u => match u with
    | .struct fs => (fs[field]?).bind fun f => apart P f.type cs f.offset
    | _ => none
  | _ => none

/-- An index within bounds. -/
def idx (v : AV) (n : Nat) : Option Nat :=
  match v with
  | .int _ (.ofNat i) => bif Nat.blt i n then some i else none
  | _ => none

/-- A bound of a slice. -/
def bnd (v : AV) (n : Nat) : Option Nat :=
  match v with
  | .int _ (.ofNat i) => bif Nat.ble i n then some i else none
  | _ => none

def aIndexAddr (t : TypeId) (x ix : AV) : Option AV :=
  (P.underlying t).bind fun u => match u, x with
  | .array n e, .ptr i off => (idx ix n).bind fun k => (P.info? e).map fun inf => .ptr i (off + k * inf.size)
  | .slice e, .slc i off len _ _ => (idx ix len).bind fun k => (P.info? e).map fun inf => .ptr i (off + k * inf.size)
  | _, _ => none

def aIndex (t : TypeId) (x ix : AV) : Option AV :=
  (P.underlying t).bind fun u => match u, x with
  | .array n e, .agg cs => (idx ix n).bind fun k => (P.info? e).bind fun inf => apart P e cs (k * inf.size)
  | .string, .str s => (idx ix s.length).bind fun k => (s[k]?).map fun b => .int .u8 b.toNat
  | _, _ => none

def bndO (o : Option AV) (n dflt : Nat) : Option Nat :=
  match o with
  | some v => bnd v n
  | none => some dflt

/-- A piece of a slice, an array, a string. -/
def esIs (H : Heap) (i n : Nat) : Bool := match H.get i with
  | some (.cells _ es _ _) => Nat.beq es n
  | _ => false

def aSlice (H : Heap) (t : TypeId) (x : AV) (lo hi mx : Option AV) : Option AV :=
  (P.underlying t).bind fun u => match u, x with
  | .string, .str s => match mx with
    | none => (bndO hi s.length s.length).bind fun h => (bndO lo h 0).map fun l => .str ((s.take h).drop l)
    | some _ => none
  | .slice e, .slc i off len cap ex => (P.info? e).bind fun inf =>
    match mx with
    | none => (bndO hi cap len).bind fun h => (bndO lo h 0).bind fun l => bif Nat.beq cap l then some .emp else bif ex || Nat.beq l 0 || esIs H i inf.size then some (.slc i (off + l * inf.size) (h - l) (cap - l) ex) else none
    | some m => match hi with
      | none => none
      | some hv => (bnd m cap).bind fun m => (bnd hv m).bind fun h => (bndO lo h 0).map fun l => bif Nat.beq m l then .emp else .slc i (off + l * inf.size) (h - l) (m - l) true
  | .slice e, .nilSlc => (P.info? e).bind fun _ => match mx with
    | none => (bndO hi 0 0).bind fun h => (bndO lo h 0).map fun _ => .nilSlc
    | some _ => none
  | .slice e, .emp => (P.info? e).bind fun _ => match mx with
    | none => (bndO hi 0 0).bind fun h => (bndO lo h 0).map fun _ => .emp
    | some _ => none
  | .array n e, .ptr i off => (P.info? e).bind fun inf => match mx with
    | none => (bndO hi n n).bind fun h => (bndO lo h 0).map fun l => bif Nat.beq n l then .emp else .slc i (off + l * inf.size) (h - l) (n - l) true
    | some _ => none
  | _, _ => none

def aMakeSlice (H : Heap) (t : TypeId) (len cap : AV) : Option (AV × Heap) :=
  (P.underlying t).bind fun u => match u with
  | .slice e => (P.info? e).bind fun ie => (ie.zero.bind conv).bind fun z => z.cells.bind fun zs =>
    match len, cap with
    | .int _ (.ofNat l), .int _ (.ofNat c) =>
      bif Nat.ble l c && Nat.ble c 9223372036854775807 && Nat.ble (ie.bytes * c) 281474976710656 && Nat.beq zs.length ie.size && !Nat.beq ie.size 0 then
        (newCells H (some e) ie.size (repCells c zs)).map fun r => (.slc r.1 0 l c true, r.2)
      else none
    | _, _ => none
  | _ => none

/-! maps -/
def plainEq : AV → AV → Bool
  | .bool a, .bool b => a == b
  | .int j a, .int k b => decide (j = k) && a == b
  | .str a, .str b => eqB a b
  | .agg xs, .agg ys => plainEqL xs ys
  | _, _ => false
where plainEqL : List AV → List AV → Bool
  | [], [] => true
  | .bool a :: xs, .bool b :: ys => a == b && plainEqL xs ys
  | .int j a :: xs, .int k b :: ys => decide (j = k) && a == b && plainEqL xs ys
  | .str a :: xs, .str b :: ys => eqB a b && plainEqL xs ys
  | _, _ => false

def aFind (kt : TypeId) (k : AV) : List Ent → Nat → Option (Option (Nat × Ent))
  | [], _ => some none
  | e :: es, i => (aeq P Op.maxDepth kt k e.key).bind fun r => bif r then some (some (i, e)) else aFind kt k es (i + 1)

def aCheckF (chk : TypeId → AV → Bool) (cs : List AV) : List Field → Bool
  | [] => true
  | f :: fs => (bif f.name == "_" then true else match apart P f.type cs f.offset with | some v => chk f.type v | none => false) && aCheckF chk cs fs

def aCheckKey : Nat → TypeId → AV → Bool
  | 0, _, _ => false
  | d + 1, t, v => match P.underlying t, v with
    | some (.interface _), _ => false
    | some (.array _ _), _ => false
    | some (.struct fs), .agg cs => aCheckF P (aCheckKey d) cs fs.toList
    | some (.struct _), _ => false
    | some _, _ => true
    | none, _ => false

def aMap (H : Heap) : AV → Option (List Ent)
  | .nilMap => some []
  | .map i => match H.get i with
    | some (.map es _) => some es
    | _ => none
  | _ => none

def keyDepth : Nat := 10000

def aLookup (H : Heap) (t : TypeId) (m k : AV) (ok : Bool) : Option AV :=
  (P.underlying t).bind fun u => match u with
  | .map kt et => (aMap H m).bind fun es => bif aCheckKey P keyDepth kt k then (aFind P kt k es 0).bind fun r =>
      ((match r with | some (_, e) => some (e.val, true) | none => (zeroA P et).map fun z => (z, false) : Option (AV × Bool))).map fun p => bif ok then .tup [p.1, .bool p.2] else p.1
    else none
  | _ => none

def setEnt (es : List Ent) (i : Nat) (e : Ent) : List Ent := es.set i e

def aMapUpdate (H : Heap) (t : TypeId) (m k v : AV) : Option Heap :=
  (P.underlying t).bind fun u => match u, m with
  | .map kt _, .map i => match H.get i with
    | some (.map es clock) => bif aCheckKey P keyDepth kt k then (aFind P kt k es 0).bind fun r => match r with
        | some (j, e) => bif plainEq e.key k then some (H.set i (.map (es.set j { key := k, val := v, born := e.born }) clock)) else none
        | none => some (H.set i (.map (es ++ [{ key := k, val := v, born := clock }]) (clock + 1)))
      else none
    | _ => none
  | _, _ => none

def aMapEntry (H : Heap) (t : TypeId) (m k : AV) : Option (AV × Heap) :=
  (P.underlying t).bind fun u => match u, m with
  | .map kt et, .map i => match H.get i with
    | some (.map es clock) => bif aCheckKey P keyDepth kt k then (aFind P kt k es 0).bind fun r => match r with
        | some (j, e) => bif plainEq e.key k then some (.tup [e.val, .int .i64 e.born], H.set i (.map (es.set j { key := k, val := e.val, born := e.born }) clock)) else none
        | none => (zeroA P et).map fun z => (.tup [z, .int .i64 clock], H.set i (.map (es ++ [{ key := k, val := z, born := clock }]) (clock + 1)))
      else none
    | _ => none
  | _, _ => none

def findBorn (s : Int) : List Ent → Nat → Option (Nat × Ent)
  | [], _ => none
  | e :: es, i => bif decide ((e.born : Int) = s) then some (i, e) else findBorn s es (i + 1)

def aEntryStore (H : Heap) (m s v : AV) : Option Heap :=
  match m, s with
  | .map i, .int _ n => match H.get i with
    | some (.map es clock) => (findBorn n es 0).map fun r => H.set i (.map (es.set r.1 { key := r.2.key, val := v, born := r.2.born }) clock)
    | _ => none
  | _, _ => none

def aDelete (H : Heap) (t : TypeId) (m k : AV) : Option Heap :=
  (P.underlying t).bind fun u => match u, m with
  | .map kt _, .nilMap => bif aCheckKey P keyDepth kt k then some H else none
  | .map kt _, .map i => match H.get i with
    | some (.map es clock) => bif aCheckKey P keyDepth kt k then (aFind P kt k es 0).bind fun r => match r with
        | some (j, _) => some (H.set i (.map (es.eraseIdx j) clock))
        | none => some H
      else none
    | _ => none
  | _, _ => none

def aRange (H : Heap) (t : TypeId) (x : AV) : Option (AV × Heap) :=
  (P.underlying t).bind fun u => match u, x with
  | .string, .str s => some (.ptr H.next 0, H.alloc (.sIter s 0))
  | .map _ _, .map i => match H.get i with
    | some (.map es clock) => bif Nat.blt 8 es.length then none else some (.ptr H.next 0, H.alloc (.mIter i clock [] clock))
    | _ => none
  | _, _ => none

def natMem (n : Nat) : List Nat → Bool
  | [] => false
  | m :: l => Nat.beq n m || natMem n l

def aNext (H : Heap) (it : AV) (isString : Bool) : Option (List (AV × Heap)) :=
  match it with
  | .ptr r 0 => match H.get r, isString with
    | some (.sIter s pos), true =>
      bif Nat.blt pos s.length then
        let d := Utf8.decode ⟨s.toArray⟩ pos
        some [(.tup [.bool true, .int .i64 pos, .int .i32 d.1], H.set r (.sIter s (pos + d.2)))]
      else some [(.tup [.bool false], H)]
    | some (.mIter m since seen stepped), false => match H.get m with
      | some (.map es clock) =>
        bif !seen.isEmpty && !es.isEmpty && es.all (fun e => Nat.ble stepped e.born) then none else
        let left := es.filter fun e => !natMem e.born seen
        let old := left.filter fun e => Nat.blt e.born since
        let new := left.filter fun e => !Nat.blt e.born since
        let cands : List (Option Ent) := (bif old.isEmpty then [none] else []) ++ (old ++ new).map some
        some (cands.map fun c => match c with
          | some e => (.tup [.bool true, e.key, e.val], H.set r (.mIter m since (seen ++ [e.born]) clock))
          | none => (.tup [.bool false], H))
      | _ => none
    | _, _ => none
  | _ => none

def lastN : List Nat → Option Nat
  | [] => none
  | a :: l => match l with
    | [] => some a
    | l => lastN l

def findE (s : Nat) : List Ent → Option Ent
  | [] => none
  | e :: es => bif Nat.beq e.born s then some e else findE s es

/-- The entry that an iterator stands on. -/
def aEntry (H : Heap) (it : AV) : Option AV :=
  match it with
  | .ptr r 0 => match H.get r with
    | some (.mIter m _ seen stepped) => match H.get m with
      | some (.map es clock) => bif Nat.beq clock stepped then (lastN seen).bind fun s => (findE s es).map fun e => .tup [e.key, e.val] else none
      | _ => none
    | _ => none
  | _ => none

def aTypeAssert (x : AV) (asserted : TypeId) (ok : Bool) : Option AV :=
  (P.underlying asserted).bind fun u => match u, x with
  | .interface _, _ => none
  | _, .iface t v => bif Nat.beq t asserted then some (bif ok then .tup [v, .bool true] else v) else bif ok then (zeroA P asserted).map fun z => .tup [z, .bool false] else none
  | _, .nilIface => bif ok then (zeroA P asserted).map fun z => .tup [z, .bool false] else none
  | _, _ => none

def srcLen : AV → Option Nat
  | .nilSlc => some 0
  | .emp => some 0
  | .slc _ _ n _ _ => some n
  | .str s => some s.length
  | _ => none

/-- The cells of the first n elements. -/
def srcCells (H : Heap) (size n : Nat) : AV → Option (List AV)
  | .nilSlc => some []
  | .emp => bif Nat.beq n 0 then some [] else none
  | .slc i off _ _ _ => ldN H i off (n * size)
  | .str s => some (bytesAV (s.take n))
  | _ => none

def zeroFits (ie : TypeInfo) : Bool := match (ie.zero.bind conv).bind AV.cells with
  | some zs => Nat.beq zs.length ie.size
  | none => false

def isTy (o : Option TypeId) (e : TypeId) : Bool := match o with
  | some t => Nat.beq t e
  | none => false

def aGrow (H : Heap) (ty : Option TypeId) (ie : TypeInfo) (need : Nat) (cs : List AV) : Option (AV × Heap) :=
  bif Nat.ble (need * ie.bytes) 140737488355328 && Nat.ble need 4611686018427387904 && zeroFits ie then
    (newCells H ty ie.size cs).map fun r => (.slc r.1 0 need need false, r.2)
  else none

def strFits (x : AV) (size : Nat) : Bool := match x with
  | .str _ => Nat.beq size 1
  | _ => true

def aAppend (H : Heap) (argTypes : List TypeId) (s x : AV) : Option (AV × Heap) :=
  match argTypes with
  | [st, xt] => (P.underlying st).bind fun u => (P.underlying xt).bind fun ux => match u with
    | .slice e => (P.info? e).bind fun ie =>
      match ux with
      | .int _ => none
      | _ => bif !strFits x ie.size then none else (srcLen x).bind fun n => (srcCells H ie.size n x).bind fun new =>
        match s with
        | .nilSlc => bif Nat.beq n 0 then some (.nilSlc, H) else aGrow H (some e) ie n new
        | .slc i off len cap ex =>
          bif Nat.ble (len + n) cap then (stN H i (off + len * ie.size) new).map fun H' => (.slc i off (len + n) cap ex, H')
          else bif ex then (ldN H i off (len * ie.size)).bind fun old => aGrow H (some e) ie (len + n) (old ++ new)
          else (ldN H i off (len * ie.size)).bind fun old => match H.get i with
            | some (.cells false es _ oty) => bif Nat.beq es ie.size then aGrow (H.kill i) (bif Nat.beq off 0 && isTy oty e then some e else none) ie (len + n) (old ++ new) else none
            | _ => none
        | .emp => none
        | _ => none
    | _ => none
  | _ => none

def aCopy (H : Heap) (argTypes : List TypeId) (d x : AV) : Option (AV × Heap) :=
  match argTypes with
  | dt :: _ => (P.underlying dt).bind fun u => match u with
    | .slice e => (P.info? e).bind fun ie => bif !strFits x ie.size then none else (srcLen x).bind fun n => match d with
      | .nilSlc => some (.int .i64 0, H)
      | .slc i off len _ _ => (srcCells H ie.size (Nat.min n len) x).bind fun cs => (stN H i off cs).map fun H' => (.int .i64 (Nat.min n len : Nat), H')
      | _ => none
    | _ => none
  | _ => none

def aLen (H : Heap) (t : TypeId) (x : AV) : Option AV :=
  (P.underlying t).bind fun u => match u, x with
  | .string, .str s => some (.int .i64 s.length)
  | .array n _, _ => some (.int .i64 n)
  | .slice _, .nilSlc => some (.int .i64 0)
  | .slice _, .emp => some (.int .i64 0)
  | .slice _, .slc _ _ n _ _ => some (.int .i64 n)
  | .map _ _, m => (aMap H m).map fun es => .int .i64 es.length
  | _, _ => none

def aCap (t : TypeId) (x : AV) : Option AV :=
  (P.underlying t).bind fun u => match u, x with
  | .array n _, _ => some (.int .i64 n)
  | .slice _, .nilSlc => some (.int .i64 0)
  | .slice _, .slc _ _ _ c true => some (.int .i64 c)
  | _, _ => none

def toVL : List AV → Option (List Value)
  | [] => some []
  | v :: r => (toV v).bind fun x => (toVL r).map (x :: ·)

def aClear (H : Heap) (t : TypeId) (x : AV) : Option Heap :=
  (P.underlying t).bind fun u => match u, x with
  | .slice _, .nilSlc => some H
  | .slice _, .emp => some H
  | .slice e, .slc i off len _ _ => bif Nat.beq len 0 then some H else (P.info? e).bind fun ie => (ie.zero.bind conv).bind fun z => z.cells.bind fun zs =>
    bif Nat.beq zs.length ie.size && !Nat.beq ie.size 0 then stN H i off (repCells len zs) else none
  | _, _ => none

def aBuiltin (H : Heap) (b : Builtin) (argTypes : List TypeId) (args : List AV) : Option (AV × Heap) :=
  match b, args with
  | .len, [x] => (argTypes[0]?).bind fun t => (aLen P H t x).map (·, H)
  | .cap, [x] => (argTypes[0]?).bind fun t => (aCap P t x).map (·, H)
  | .append, [s, x] => aAppend P H argTypes s x
  | .copy, [d, x] => aCopy P H argTypes d x
  | .delete, [m, k] => (argTypes[0]?).bind fun t => (aDelete P H t m k).map (.tup [], ·)
  | .clear, [x] => (argTypes[0]?).bind fun t => (aClear P H t x).map (.tup [], ·)
  | .min, xs => (toVL xs).bind fun vs => (pureOf (Builtin.min_ #[] 0 vs.toArray)).bind fun v => (convS v).map (·, H)
  | .max, xs => (toVL xs).bind fun vs => (pureOf (Builtin.max_ #[] 0 vs.toArray)).bind fun v => (convS v).map (·, H)
  | _, _ => none

/-- A function that has a body. -/
def isFunc (f : FuncId) : Bool := match P.funcs[f]? with
  | some fn => !(fn.name == "runtime.NumGoroutine") && fn.body.isSome
  | none => false

def aCallV (f : AV) (args : List AV) : Option Res :=
  match f with
  | .fn (.func k) first captured => bif isFunc P k then some (.call k (first ++ args ++ captured)) else none
  | .yld l => some (.yield l args)
  | _ => none

/-- A method of a value behind an interface. -/
def aMethod (H : Heap) (t : TypeId) (v : AV) (name : String) (args : List AV) : Option Res :=
  (P.info? t).bind fun inf => (inf.methods.find? (·.name == name)).bind fun m =>
    bif !m.path.isEmpty then none else m.func.bind fun fp => (P.underlying t).bind fun u =>
    (match u, fp.2 with
     | .pointer _, true => some v
     | .pointer e, false => aload P H e v
     | _, true => none
     | _, false => some v).bind fun r => bif isFunc P fp.1 then some (.call fp.1 (r :: args)) else none

def aop0 (fr : Fr) (H : Heap) (o : Oper) : Option Res :=
  match o.op with
  | .move x | .assign x => (aeval fr x).map (.val · H)
  | .pick c a b => (aeval fr c).bind fun v => match v with
    | .bool true => (aeval fr a).map (.val · H)
    | .bool false => (aeval fr b).map (.val · H)
    | _ => none
  | .alloc e => (P.info? e).bind fun ie => (ie.zero.bind conv).bind fun z => z.cells.bind fun cs => (newCells H (some e) ie.size cs).map fun r => .val (.ptr r.1 0) r.2
  | .box e x => (aeval fr x).bind fun v => v.cells.bind fun cs => (P.info? e).bind fun ie => (newCells H (some e) ie.size cs).map fun r => .val (.ptr r.1 0) r.2
  | .build t parts => (evalParts fr parts.toList).bind fun ps => (aBuild P t ps).map (.val · H)
  | .buildSlice t len parts => (evalParts fr parts.toList).bind fun ps => (aBuildSlice P H t len ps).map fun r => .val r.1 r.2
  | .load t a => (aeval fr a).bind fun v => (aload P H t v).map (.val · H)
  | .store t a x => (aeval fr a).bind fun p => (aeval fr x).bind fun v => (astore P H t p v).map (.val (.tup []) ·)
  | .nilCheck x => (aeval fr x).bind fun v => match v with
    | .ptr i off => some (.val (.ptr i off) H)
    | .fn (.func f) a b => some (.val (.fn (.func f) a b) H)
    | .yld l => some (.val (.yld l) H)
    | .iface t u => some (.val (.iface t u) H)
    | _ => none
  | .binOp op t x y _ => (aeval fr x).bind fun a => (aeval fr y).bind fun b => (aBin P op t x y a b).map (.val · H)
  | .unOp op _ x => (aeval fr x).bind fun a => (aUn op a).map (.val · H)
  | .convert src dst x => (aeval fr x).bind fun a => (aConv P H src dst a).map fun r => .val r.1 r.2
  | .makeInterface t x => (aeval fr x).bind fun a => (P.underlying t).bind fun u => match u with
    | .interface _ => none
    | _ => some (.val (.iface t a) H)
  | .makeFunc f first captured => match f with
    | .yield _ => none
    | f => (evalL fr first.toList).bind fun a => (evalL fr captured.toList).map fun b => .val (.fn f a b) H
  | .makeMap t r => match r with
    | none => some (.val (.map H.next) (H.alloc (.map [] 0)))
    | some x => (aeval fr x).bind fun v => match v with
      | .int _ _ => (P.underlying t).bind fun u => match u with
        | .map _ _ => some (.val (.map H.next) (H.alloc (.map [] 0)))
        | _ => none
      | _ => none
  | .makeSlice t l c => (aeval fr l).bind fun a => (aeval fr c).bind fun b => (aMakeSlice P H t a b).map fun r => .val r.1 r.2
  | .slice t x lo hi mx => (aeval fr x).bind fun v =>
    (match lo with | none => some none | some y => (aeval fr y).map some).bind fun l =>
    (match hi with | none => some none | some y => (aeval fr y).map some).bind fun h =>
    (match mx with | none => some none | some y => (aeval fr y).map some).bind fun m => (aSlice P H t v l h m).map (.val · H)
  | .fieldAddr s x f => (aeval fr x).bind fun v => (aFieldAddr P s v f).map (.val · H)
  | .field t x f => (aeval fr x).bind fun v => (aField P t v f).map (.val · H)
  | .indexAddr t x ix => (aeval fr x).bind fun v => (aeval fr ix).bind fun k => (aIndexAddr P t v k).map (.val · H)
  | .index t x ix => (aeval fr x).bind fun v => (aeval fr ix).bind fun k => (aIndex P t v k).map (.val · H)
  | .lookup t x ix ok => (aeval fr x).bind fun v => (aeval fr ix).bind fun k => (aLookup P H t v k ok).map (.val · H)
  | .mapUpdate t m k x | .insert t m k x => (aeval fr m).bind fun a => (aeval fr k).bind fun b => (aeval fr x).bind fun c => (aMapUpdate P H t a b c).map (.val (.tup []) ·)
  | .mapEntry t m k => (aeval fr m).bind fun a => (aeval fr k).bind fun b => (aMapEntry P H t a b).map fun r => .val r.1 r.2
  | .entryStore _ m s x => (aeval fr m).bind fun a => (aeval fr s).bind fun b => (aeval fr x).bind fun c => (aEntryStore H a b c).map (.val (.tup []) ·)
  | .range t x => (aeval fr x).bind fun v => (aRange P H t v).map fun r => .val r.1 r.2
  | .entry it => (aeval fr it).bind fun v => (aEntry H v).map (.val · H)
  | .next it isS => (aeval fr it).bind fun v => (aNext H v isS).bind fun l => match l with
    | [r] => some (.val r.1 r.2)
    | l => some (.opts l)
  | .typeAssert x _ asserted ok => (aeval fr x).bind fun v => (aTypeAssert P v asserted ok).map (.val · H)
  | .extract t ix => (aeval fr t).bind fun v => match v with
    | .tup vs => (vs[ix]?).map (.val · H)
    | _ => none
  | .call c => (evalL fr c.args.toList).bind fun args => match c.callee with
    | .builtin b => (aBuiltin P H b c.argTypes.toList args).map fun r => .val r.1 r.2
    | .value f => (aeval fr f).bind fun fv => aCallV P fv args
    | .invoke recv name => (aeval fr recv).bind fun rv => match rv with
      | .iface t v => aMethod P H t v name args
      | _ => none
  | _ => none
end
end Go.AM
