/- Finite maps as lists of keys and values: laws. -/
import Derived.Test.YtdeoahhofhmgfaaAmX8
set_option linter.unusedSimpArgs false
set_option linter.unusedVariables false
namespace Go.AM
section
open Classical
variable {κ ν : Type} {m : List (κ × ν)} {k k' : κ} {v : ν}

theorem mget_some_iff : (mget m k).isSome = true ↔ ∃ p ∈ m, p.1 = k := by
  unfold mget
  rw [Option.isSome_map, List.find?_isSome]
  simp

theorem mget_none_of (h : (mget m k).isSome = false) : mget m k = none := by
  cases hh : mget m k with
  | none => rfl
  | some u => rw [hh] at h; cases h

theorem length_mput_new (h : (mget m k).isSome = false) : (mput m k v).length = m.length + 1 := by
  rw [mput_none (mget_none_of h)]; simp

theorem length_mput_old (h : (mget m k).isSome = true) : (mput m k v).length = m.length := by
  obtain ⟨u, hu⟩ := Option.isSome_iff_exists.1 h
  rw [mput_some hu]; simp

theorem isSome_mput : (mget (mput m k v) k').isSome = true ↔ k' = k ∨ (mget m k').isSome = true := by
  by_cases h : (mget m k).isSome = true
  · obtain ⟨u, hu⟩ := Option.isSome_iff_exists.1 h
    rw [mput_some hu, mget_some_iff, mget_some_iff]
    constructor
    · rintro ⟨p, hp, rfl⟩
      obtain ⟨q, hq, rfl⟩ := List.mem_map.1 hp
      by_cases e : q.1 = k
      · left; simp [e]
      · right; exact ⟨q, hq, by simp [e]⟩
    · intro hh
      rcases hh with rfl | ⟨p, hp, rfl⟩
      · rw [mget_some_iff] at h
        obtain ⟨p, hp, e⟩ := h
        exact ⟨_, List.mem_map.2 ⟨p, hp, rfl⟩, by simp [e]⟩
      · by_cases e : p.1 = k
        · exact ⟨_, List.mem_map.2 ⟨p, hp, rfl⟩, by simp [e]⟩
        · exact ⟨_, List.mem_map.2 ⟨p, hp, rfl⟩, by simp [e]⟩
  · have h' : (mget m k).isSome = false := by simpa using h
    rw [mput_none (mget_none_of h'), mget_some_iff, mget_some_iff]
    constructor
    · rintro ⟨p, hp, rfl⟩
      rcases List.mem_append.1 hp with hp | hp
      · exact .inr ⟨p, hp, rfl⟩
      · simp at hp; left; rw [hp]
    · intro hh
      rcases hh with rfl | ⟨p, hp, rfl⟩
      · exact ⟨(k', v), by simp, rfl⟩
      · exact ⟨p, by simp [hp], rfl⟩

theorem mem_mdel {p : κ × ν} : p ∈ mdel m k ↔ p ∈ m ∧ p.1 ≠ k := by
  unfold mdel; rw [List.mem_filter]; simp

theorem isSome_mdel : (mget (mdel m k) k').isSome = true ↔ k' ≠ k ∧ (mget m k').isSome = true := by
  rw [mget_some_iff, mget_some_iff]
  constructor
  · rintro ⟨p, hp, rfl⟩
    exact ⟨(mem_mdel.1 hp).2, p, (mem_mdel.1 hp).1, rfl⟩
  · rintro ⟨h, p, hp, rfl⟩
    exact ⟨p, mem_mdel.2 ⟨hp, h⟩, rfl⟩

theorem length_mdel (hn : (m.map (·.1)).Nodup) (h : (mget m k).isSome = true) : (mdel m k).length + 1 = m.length := by
  rw [mget_some_iff] at h
  obtain ⟨p, hp, e⟩ := h
  obtain ⟨j, hj⟩ := List.mem_iff_getElem?.1 hp
  have hlt := (List.getElem?_eq_some_iff.1 hj).1
  unfold mdel
  rw [filter_erase hn hj e, List.length_eraseIdx, if_pos hlt]
  omega

theorem mget_nil : mget ([] : List (κ × ν)) k = none := rfl

theorem mget_cons {p : κ × ν} : mget (p :: m) k = if p.1 = k then some p.2 else mget m k := by
  unfold mget
  rw [List.find?_cons]
  by_cases h : p.1 = k
  · simp [h]
  · simp [h]

theorem mget_append_none {m' : List (κ × ν)} (h : mget m k = none) : mget (m ++ m') k = mget m' k := by
  induction m with
  | nil => rfl
  | cons p m ih =>
    rw [mget_cons] at h
    by_cases e : p.1 = k
    · rw [if_pos e] at h; cases h
    · rw [if_neg e] at h
      rw [List.cons_append, mget_cons, if_neg e, ih h]

theorem mget_append_some {m' : List (κ × ν)} (h : mget m k = some v) : mget (m ++ m') k = some v := by
  induction m with
  | nil => cases h
  | cons p m ih =>
    rw [mget_cons] at h
    rw [List.cons_append, mget_cons]
    by_cases e : p.1 = k
    · rw [if_pos e] at h ⊢; exact h
    · rw [if_neg e] at h ⊢; exact ih h

theorem mget_map_put : mget (m.map fun p => if p.1 = k then (k, v) else p) k' = if k' = k then (mget m k).map (fun _ => v) else mget m k' := by
  induction m with
  | nil => simp [mget_nil]
  | cons p m ih =>
    rw [List.map_cons, mget_cons, ih, mget_cons]
    by_cases e : p.1 = k
    · by_cases e2 : k' = k
      · simp [e, e2]
      · have : ¬ k = k' := fun h => e2 h.symm
        simp [e, e2, this, mget_cons]
    · by_cases e2 : k' = k
      · subst e2; simp [e]
      · by_cases e3 : p.1 = k' <;> simp [e, e2, e3, mget_cons]

theorem mget_mput_self : mget (mput m k v) k = some v := by
  cases h : mget m k with
  | some u => rw [mput_some h, mget_map_put, if_pos rfl, h]; rfl
  | none => rw [mput_none h, mget_append_none h, mget_cons, if_pos rfl]

theorem mget_mput_ne (hk : k' ≠ k) : mget (mput m k v) k' = mget m k' := by
  cases h : mget m k with
  | some u => rw [mput_some h, mget_map_put, if_neg hk]
  | none =>
    rw [mput_none h]
    cases h2 : mget m k' with
    | some u => exact mget_append_some h2
    | none => rw [mget_append_none h2, mget_cons, if_neg fun e => hk e.symm, mget_nil]

theorem mget_mput : mget (mput m k v) k' = if k' = k then some v else mget m k' := by
  by_cases h : k' = k
  · subst h; rw [if_pos rfl, mget_mput_self]
  · rw [if_neg h, mget_mput_ne h]

theorem mget_mdel : mget (mdel m k) k' = if k' = k then none else mget m k' := by
  unfold mdel
  induction m with
  | nil => simp [mget_nil]
  | cons p m ih =>
    rw [List.filter_cons]
    by_cases e : p.1 = k
    · rw [if_neg (by simp [e]), ih, mget_cons]
      by_cases e2 : k' = k
      · simp [e2]
      · have : ¬ k = k' := fun h => e2 h.symm
        simp [e2, e, this]
    · rw [if_pos (by simp [e]), mget_cons, ih, mget_cons]
      by_cases e2 : k' = k
      · subst e2; simp [e]
      · simp [e2]

theorem mget_mem_of {u : ν} (h : mget m k = some u) : (k, u) ∈ m := by
  unfold mget at h
  rw [Option.map_eq_some_iff] at h
  obtain ⟨p, h1, h2⟩ := h
  have h3 := List.find?_some h1
  rw [decide_eq_true_eq] at h3
  have := List.mem_of_find?_eq_some h1
  subst h3; subst h2; exact this

theorem mget_some_mem (hn : (m.map (·.1)).Nodup) {u : ν} : mget m k = some u ↔ (k, u) ∈ m := ⟨mget_mem_of, fun h => mget_mem hn h⟩

theorem mget_len {bs : List Nat} {c : Nat} (hl : m.length = bs.length) : (mput m k v).length = (bput m bs c k).length := by
  cases h : mget m k with
  | some u => rw [mput_some h, bput_some h]; simp [hl]
  | none => rw [mput_none h, bput_none h]; simp [hl]

/-- Keys with their stamps. -/
def kst (m : List (κ × ν)) (bs : List Nat) : List (κ × Nat) := (m.map (·.1)).zip bs

theorem zip_fst_snd {α β : Type} : ∀ (l : List (α × β)), (l.map (·.1)).zip (l.map (·.2)) = l
  | [] => rfl
  | p :: l => by simp [zip_fst_snd l]

theorem keys_mdel {α : Type} : ∀ (l : List (κ × α)), (mdel l k).map (·.1) = (l.map (·.1)).filter fun a => decide (a ≠ k)
  | [] => rfl
  | p :: l => by
    have ih := keys_mdel l
    unfold mdel at ih ⊢
    by_cases e : p.1 = k
    · rw [List.filter_cons_of_neg (by simp [e]), List.map_cons, List.filter_cons_of_neg (by simp [e]), ih]
    · rw [List.filter_cons_of_pos (by simp [e]), List.map_cons, List.map_cons, List.filter_cons_of_pos (by simp [e]), ih]

theorem kst_mdel {bs : List Nat} (hl : m.length = bs.length) : kst (mdel m k) (bdel m bs k) = mdel (kst m bs) k := by
  unfold kst bdel
  have : (mdel m k).map (·.1) = (mdel ((m.map (·.1)).zip bs) k).map (·.1) := by
    rw [keys_mdel, keys_mdel, zip_keys hl]
  rw [this, zip_fst_snd]

theorem mem_kst_mdel {bs : List Nat} (hl : m.length = bs.length) {a : κ} {b : Nat} : (a, b) ∈ kst (mdel m k) (bdel m bs k) ↔ (a, b) ∈ kst m bs ∧ a ≠ k := by
  rw [kst_mdel hl, mem_mdel]

theorem mem_kst_key {bs : List Nat} {a : κ} {b : Nat} (h : (a, b) ∈ kst m bs) : ∃ u, (a, u) ∈ m ∧ b ∈ bs := by
  obtain ⟨h1, h2⟩ := List.of_mem_zip h
  obtain ⟨p, hp, rfl⟩ := List.mem_map.1 h1
  exact ⟨p.2, hp, h2⟩

theorem kst_of_key {bs : List Nat} (hl : m.length = bs.length) {a : κ} {u : ν} (h : (a, u) ∈ m) : ∃ b, (a, b) ∈ kst m bs := by
  obtain ⟨j, hj⟩ := List.getElem?_of_mem h
  have hlt := (List.getElem?_eq_some_iff.1 hj).1
  refine ⟨bs[j]'(hl ▸ hlt), List.mem_of_getElem? (i := j) ?_⟩
  unfold kst
  rw [List.getElem?_zip_eq_some]
  exact ⟨by rw [List.getElem?_map, hj]; rfl, List.getElem?_eq_getElem _⟩

theorem kst_length {bs : List Nat} (hl : m.length = bs.length) : (mdel m k).length = (bdel m bs k).length := by
  have h1 := congrArg List.length (kst_mdel (k := k) hl)
  unfold bdel
  rw [List.length_map]
  unfold kst at h1
  have h2 : (mdel m k).map (·.1) = (mdel ((m.map (·.1)).zip bs) k).map (·.1) := by
    rw [keys_mdel, keys_mdel, zip_keys hl]
  simpa using congrArg List.length h2

theorem nodup_mdel (hn : (m.map (·.1)).Nodup) : ((mdel m k).map (·.1)).Nodup := hn.sublist (List.filter_sublist.map _)

theorem kst_at {bs : List Nat} (hl : m.length = bs.length) {j : Nat} {p : κ × ν} (hj : m[j]? = some p) : (p.1, bs.getD j 0) ∈ kst m bs := by
  have hlt := (List.getElem?_eq_some_iff.1 hj).1
  refine List.mem_of_getElem? (i := j) ?_
  unfold kst
  rw [List.getElem?_zip_eq_some]
  exact ⟨by rw [List.getElem?_map, hj]; rfl, by rw [List.getD_eq_getElem?_getD, List.getElem?_eq_getElem (hl ▸ hlt)]; rfl⟩

/-- A stamp belongs to one key. -/
theorem kst_inj {bs : List Nat} (hl : m.length = bs.length) (hb : bs.Nodup) {a a' : κ} {b : Nat} (h : (a, b) ∈ kst m bs) (h' : (a', b) ∈ kst m bs) : a = a' := by
  obtain ⟨i, hi⟩ := List.getElem?_of_mem h
  obtain ⟨j, hj⟩ := List.getElem?_of_mem h'
  unfold kst at hi hj
  rw [List.getElem?_zip_eq_some] at hi hj
  have : i = j := (List.getElem?_inj (List.getElem?_eq_some_iff.1 hi.2).1 hb).1 (hi.2.trans hj.2.symm)
  subst this
  have := hi.1.symm.trans hj.1
  exact Option.some.inj this
end
end Go.AM
