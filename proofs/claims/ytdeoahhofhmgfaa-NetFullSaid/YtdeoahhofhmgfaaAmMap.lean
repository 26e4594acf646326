/- Finite maps as lists of keys and values: laws. -/
import Derived.Test.YtdeoahhofhmgfaaAmX8
set_option linter.unusedSimpArgs false
set_option linter.unusedVariables false
namespace Go.AM
section
open Classical
variable {κ ν : Type} {m : List (κ × ν)} {k k' : κ} {v : ν}

theorem mget_some_iff : (mget m k).isSome = true ↔ ∃ p ∈ m, p.1 = k := by
  unfold mget
  rw [Option.isSome_map, List.find?_isSome]
  simp

theorem mget_none_of (h : (mget m k).isSome = false) : mget m k = none := by
  cases hh : mget m k with
  | none => rfl
  | some u => rw [hh] at h; cases h

theorem length_mput_new (h : (mget m k).isSome = false) : (mput m k v).length = m.length + 1 := by
  rw [mput_none (mget_none_of h)]; simp

theorem length_mput_old (h : (mget m k).isSome = true) : (mput m k v).length = m.length := by
  obtain ⟨u, hu⟩ := Option.isSome_iff_exists.1 h
  rw [mput_some hu]; simp

theorem isSome_mput : (mget (mput m k v) k').isSome = true ↔ k' = k ∨ (mget m k').isSome = true := by
  by_cases h : (mget m k).isSome = true
  · obtain ⟨u, hu⟩ := Option.isSome_iff_exists.1 h
    rw [mput_some hu, mget_some_iff, mget_some_iff]
    constructor
    · rintro ⟨p, hp, rfl⟩
      obtain ⟨q, hq, rfl⟩ := List.mem_map.1 hp
      by_cases e : q.1 = k
      · left; simp [e]
      · right; exact ⟨q, hq, by simp [e]⟩
    · intro hh
      rcases hh with rfl | ⟨p, hp, rfl⟩
      · rw [mget_some_iff] at h
        obtain ⟨p, hp, e⟩ := h
        exact ⟨_, List.mem_map.2 ⟨p, hp, rfl⟩, by simp [e]⟩
      · by_cases e : p.1 = k
        · exact ⟨_, List.mem_map.2 ⟨p, hp, rfl⟩, by simp [e]⟩
        · exact ⟨_, List.mem_map.2 ⟨p, hp, rfl⟩, by simp [e]⟩
  · have h' : (mget m k).isSome = false := by simpa using h
    rw [mput_none (mget_none_of h'), mget_some_iff, mget_some_iff]
    constructor
    · rintro ⟨p, hp, rfl⟩
      rcases List.mem_append.1 hp with hp | hp
      · exact .inr ⟨p, hp, rfl⟩
      · simp at hp; left; rw [hp]
    · intro hh
      rcases hh with rfl | ⟨p, hp, rfl⟩
      · exact ⟨(k', v), by simp, rfl⟩
      · exact ⟨p, by simp [hp], rfl⟩

theorem mem_mdel {p : κ × ν} : p ∈ mdel m k ↔ p ∈ m ∧ p.1 ≠ k := by
  unfold mdel; rw [List.mem_filter]; simp

theorem isSome_mdel : (mget (mdel m k) k').isSome = true ↔ k' ≠ k ∧ (mget m k').isSome = true := by
  rw [mget_some_iff, mget_some_iff]
  constructor
  · rintro ⟨p, hp, rfl⟩
    exact ⟨(mem_mdel.1 hp).2, p, (mem_mdel.1 hp).1, rfl⟩
  · rintro ⟨h, p, hp, rfl⟩
    exact ⟨p, mem_mdel.2 ⟨hp, h⟩, rfl⟩

theorem length_mdel (hn : (m.map (·.1)).Nodup) (h : (mget m k).isSome = true) : (mdel m k).length + 1 = m.length := by
  rw [mget_some_iff] at h
  obtain ⟨p, hp, e⟩ := h
  obtain ⟨j, hj⟩ := List.mem_iff_getElem?.1 hp
  have hlt := (List.getElem?_eq_some_iff.1 hj).1
  unfold mdel
  rw [filter_erase hn hj e, List.length_eraseIdx, if_pos hlt]
  omega
end
end Go.AM
