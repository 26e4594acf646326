/- THE ABSTRACT MACHINE, 23b: two ways of a choice, told as one. -/
import Derived.Test.YtdeoahhofhmgfaaAmAbs4
set_option linter.unusedSimpArgs false
set_option linter.unusedVariables false
namespace Go.AM
open Go.RowKit
noncomputable section

/-- Two truths, one for each way. -/
def mrgB (b : Bool) : AV → AV → Option AV
  | .bool true, .bool true => some (.bool true)
  | .bool false, .bool false => some (.bool false)
  | .bool true, .bool false => some (.sB b)
  | .bool false, .bool true => some (.sB (!b))
  | .bool true, .sB y => some (.sB (b || y))
  | .bool false, .sB y => some (.sB (!b && y))
  | .sB x, .bool true => some (.sB (!b || x))
  | .sB x, .bool false => some (.sB (b && x))
  | .sB x, .sB y => some (.sB (bif b then x else y))
  | _, _ => none

def mrgI (b : Bool) (u v : AV) : Option AV := match u.asX, v.asX with
  | some p, some q => bif decide (p.1 = q.1) then some (.sI p.1 (bif b then p.2 else q.2)) else none
  | _, _ => none

/-- A slot's value, whichever way (none: fails; some none: not known any more). -/
def mrgO (b : Bool) : Option AV → Option AV → Option (Option AV)
  | none, _ => some none
  | _, none => some none
  | some u, some v => bif AV.same u v then some (some u) else match mrgB b u v with
    | some w => some (some w)
    | none => match mrgI b u v with
      | some w => some (some w)
      | none => match u, v with
        | .tup [], _ => some none
        | _, .tup [] => some none
        | _, _ => none

def mrgT (b : Bool) : T AV → T AV → Option (T AV)
  | .nil, _ => some .nil
  | _, .nil => some .nil
  | .node l v r, .node l' v' r' => (mrgT b l l').bind fun l2 => (mrgO b v v').bind fun v2 => (mrgT b r r').map fun r2 => .node l2 v2 r2

theorem mrgB_sound {b : Bool} {u v w : AV} (h : mrgB b u v = some w) {ρ : Env} {x : Value} : (b = true → Rel ρ u x → Rel ρ w x) ∧ (b = false → Rel ρ v x → Rel ρ w x) := by
  unfold mrgB at h
  split at h <;> first
    | (cases h; done)
    | (cases h; constructor <;> (rintro rfl hr; simp only [Rel] at hr ⊢; subst hr; simp))

theorem mrgI_sound {b : Bool} {u v w : AV} (h : mrgI b u v = some w) {ρ : Env} {x : Value} : (b = true → Rel ρ u x → Rel ρ w x) ∧ (b = false → Rel ρ v x → Rel ρ w x) := by
  unfold mrgI at h
  split at h
  · rename_i p q hp hq
    cases hd : decide (p.1 = q.1) with
    | false => rw [hd] at h; cases h
    | true =>
      rw [hd, cond_true] at h
      cases h
      have e := of_decide_eq_true hd
      obtain ⟨k, n⟩ := p
      obtain ⟨k', n'⟩ := q
      simp only at e
      subst e
      constructor
      · rintro rfl hr
        obtain ⟨rfl, h2⟩ := asX_sound hp hr
        simp only [Rel, cond_true]; exact ⟨trivial, h2⟩
      · rintro rfl hr
        obtain ⟨rfl, h2⟩ := asX_sound hq hr
        simp only [Rel, cond_false]; exact ⟨trivial, h2⟩
  · cases h

theorem mrgO_sound {b : Bool} {u v : Option AV} {w : AV} (h : mrgO b u v = some (some w)) : (b = true → ∃ a, u = some a ∧ ∀ (ρ : Env) (x : Value), Rel ρ a x → Rel ρ w x) ∧ (b = false → ∃ a, v = some a ∧ ∀ (ρ : Env) (x : Value), Rel ρ a x → Rel ρ w x) := by
  unfold mrgO at h
  split at h
  · cases h
  · cases h
  · rename_i a c
    cases hs : AV.same a c with
    | true =>
      rw [hs, cond_true] at h
      have e := AV.same_eq hs
      subst e
      cases h
      exact ⟨fun _ => ⟨_, rfl, fun _ _ h => h⟩, fun _ => ⟨_, rfl, fun _ _ h => h⟩⟩
    | false =>
      rw [hs, cond_false] at h
      split at h
      · rename_i w' hw
        cases h
        exact ⟨fun e => ⟨_, rfl, fun ρ x => (mrgB_sound hw).1 e⟩, fun e => ⟨_, rfl, fun ρ x => (mrgB_sound hw).2 e⟩⟩
      · split at h
        · rename_i w' hw
          cases h
          exact ⟨fun e => ⟨_, rfl, fun ρ x => (mrgI_sound hw).1 e⟩, fun e => ⟨_, rfl, fun ρ x => (mrgI_sound hw).2 e⟩⟩
        · split at h <;> cases h

theorem mrgT_get {b : Bool} : ∀ {f g m : T AV}, mrgT b f g = some m → ∀ t, mrgO b (f.get t) (g.get t) = some (m.get t)
  | .nil, g, m, h, t => by
    simp only [mrgT, Option.some.injEq] at h; subst h
    simp [T.get, mrgO]
  | .node l v r, .nil, m, h, t => by
    simp only [mrgT, Option.some.injEq] at h; subst h
    cases hh : (T.node l v r).get t <;> simp [T.get, mrgO]
  | .node l v r, .node l' v' r', m, h, t => by
    simp only [mrgT, Option.bind_eq_some_iff, Option.map_eq_some_iff] at h
    obtain ⟨l2, h1, v2, h2, r2, h3, rfl⟩ := h
    have il := mrgT_get h1
    have ir := mrgT_get h3
    cases t with
    | zero => exact h2
    | succ k =>
      simp only [T.get]
      cases hb : Nat.beq (k % 2) 0 with
      | true => exact il _
      | false => exact ir _

theorem mrgT_frel {b : Bool} {f g m : Fr} (h : mrgT b f g = some m) {ρ : Env} {tmps : Array Value} : (b = true → FRel ρ f tmps → FRel ρ m tmps) ∧ (b = false → FRel ρ g tmps → FRel ρ m tmps) := by
  constructor
  · intro hb hf t v hv
    have := mrgT_get h t
    rw [hv] at this
    obtain ⟨a, ha, hr⟩ := (mrgO_sound this).1 hb
    obtain ⟨x, hx, hrel⟩ := hf t a ha
    exact ⟨x, hx, hr _ _ hrel⟩
  · intro hb hf t v hv
    have := mrgT_get h t
    rw [hv] at this
    obtain ⟨a, ha, hr⟩ := (mrgO_sound this).2 hb
    obtain ⟨x, hx, hrel⟩ := hf t a ha
    exact ⟨x, hx, hr _ _ hrel⟩

/-- Only these slots are told as one. -/
def mrgL (b : Bool) (g1 g2 : Fr) : List Nat → Fr → Option Fr
  | [], base => some base
  | d :: ds, base => (mrgO b (g1.get d) (g2.get d)).bind fun w => mrgL b g1 g2 ds (base.set d w)

theorem mrgL_get {b : Bool} {g1 g2 : Fr} : ∀ {ds : List Nat} {base m : Fr}, mrgL b g1 g2 ds base = some m → ∀ t v, m.get t = some v → (base.get t = some v ∧ t ∉ ds) ∨ mrgO b (g1.get t) (g2.get t) = some (some v)
  | [], base, m, h, t, v, hv => by
    simp only [mrgL, Option.some.injEq] at h; subst h
    exact .inl ⟨hv, by simp⟩
  | d :: ds, base, m, h, t, v, hv => by
    simp only [mrgL, Option.bind_eq_some_iff] at h
    obtain ⟨w, hw, h⟩ := h
    rcases mrgL_get h t v hv with ⟨h1, h2⟩ | h1
    · rw [T.get_set] at h1
      by_cases e : t = d
      · subst e
        rw [if_pos rfl] at h1
        subst h1
        exact .inr hw
      · rw [if_neg e] at h1
        exact .inl ⟨h1, by simp [e, h2]⟩
    · exact .inr h1

theorem mrgL_keep {b : Bool} {g1 g2 : Fr} : ∀ {ds : List Nat} {base m : Fr}, mrgL b g1 g2 ds base = some m → ∀ t, t ∉ ds → m.get t = base.get t
  | [], base, m, h, t, ht => by
    simp only [mrgL, Option.some.injEq] at h; subst h; rfl
  | d :: ds, base, m, h, t, ht => by
    simp only [mrgL, Option.bind_eq_some_iff] at h
    obtain ⟨w, hw, h⟩ := h
    simp only [List.mem_cons, not_or] at ht
    rw [mrgL_keep h t ht.2, T.get_set, if_neg ht.1]

theorem mrgL_frel {b : Bool} {g1 g2 base m : Fr} {ds : List Nat} (h : mrgL b g1 g2 ds base = some m) (h1 : ∀ t, t ∉ ds → g1.get t = base.get t) (h2 : ∀ t, t ∉ ds → g2.get t = base.get t) {ρ : Env} {tmps : Array Value} :
    (b = true → FRel ρ g1 tmps → FRel ρ m tmps) ∧ (b = false → FRel ρ g2 tmps → FRel ρ m tmps) := by
  constructor
  · intro hb hf t v hv
    rcases mrgL_get h t v hv with ⟨k1, k2⟩ | k1
    · exact hf t v (by rw [h1 t k2]; exact k1)
    · obtain ⟨a, ha, hr⟩ := (mrgO_sound k1).1 hb
      obtain ⟨x, hx, hrel⟩ := hf t a ha
      exact ⟨x, hx, hr _ _ hrel⟩
  · intro hb hf t v hv
    rcases mrgL_get h t v hv with ⟨k1, k2⟩ | k1
    · exact hf t v (by rw [h2 t k2]; exact k1)
    · obtain ⟨a, ha, hr⟩ := (mrgO_sound k1).2 hb
      obtain ⟨x, hx, hrel⟩ := hf t a ha
      exact ⟨x, hx, hr _ _ hrel⟩

/-- The slots that these operations fill. -/
def dstsOf (ops : Array Oper) : List Nat → List Nat
  | [] => []
  | i :: l => match (ops[i]?).bind (·.dst) with
    | none => dstsOf ops l
    | some d => d :: dstsOf ops l

theorem aput_keep {n : Nat} {fr fr' : Fr} {dst : Option Tmp} {v : AV} (h : aput n fr dst v = some fr') {t : Nat} (ht : dst ≠ some t) : fr'.get t = fr.get t := by
  unfold aput at h
  split at h
  · cases h; rfl
  · rename_i d
    cases hb : Nat.blt d n with
    | false => rw [hb] at h; cases h
    | true =>
      rw [hb, cond_true] at h
      cases h
      rw [T.get_set, if_neg (fun e => ht (by rw [e]))]
end
end Go.AM
