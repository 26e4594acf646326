/- A part of the proofs about shards: the changes, one after the other, make the rows told last. No condition. -/
import Derived.Test.YtdohdhphpjhcjaaChLaw
import Derived.Test.YtdohdhphpjhcjaaAmE
namespace Go.Proofs.Ytdohdhphpjhcjaa.Sh
open Go.AM
noncomputable section
abbrev KnT := List ((List UInt8 × Int) × Row)
/-- It knows just those rows. -/
def knows (kn : KnT) (l : List Row) : Prop := (∀ r ∈ l, mget kn (keyR r) = some r) ∧ ∀ t r, mget kn t = some r → r ∈ l ∧ keyR r = t
/-- No row of that task is told. -/
def isGone (l : List Row) (t : List UInt8 × Int) : Prop := ∀ y ∈ l, keyR y ≠ t
/-- One change, as it is done. -/
def knStep (kn : KnT) (g : Bool) (c : Row) : KnT := bif g then mdel kn (keyR c) else mput kn (keyR c) c
/-- What is known behind the first k changes. -/
def knAt (kn0 : KnT) (l C : List Row) (k : Nat) (kn : KnT) : Prop :=
  (∀ j, (h : j < C.length) → j < k → (isGone l (keyR C[j]) → mget kn (keyR C[j]) = none) ∧ (¬ isGone l (keyR C[j]) → mget kn (keyR C[j]) = some C[j])) ∧
  ∀ t, (∀ j, (h : j < C.length) → j < k → keyR C[j] ≠ t) → mget kn t = mget kn0 t
theorem knAt_zero {kn0 : KnT} {l C : List Row} : knAt kn0 l C 0 kn0 := ⟨fun j _ h => by omega, fun _ _ => rfl⟩
theorem rises_ne {C : List Row} (h : risesP C) {i j : Nat} (hi : i < C.length) (hj : j < C.length) (hij : i ≠ j) : keyR C[i] ≠ keyR C[j] := by
  have h := List.pairwise_iff_getElem.1 h
  rcases Nat.lt_or_gt_of_ne hij with g | g
  · exact kLt_ne (h i j hi hj g)
  · exact (kLt_ne (h j i hj hi g)).symm
theorem knAt_step {kn0 kn : KnT} {l C : List Row} {k : Nat} (hC : risesP C) (h : knAt kn0 l C k kn) (hk : k < C.length) {g : Bool} (hg : g = true ↔ isGone l (keyR C[k])) : knAt kn0 l C (k + 1) (knStep kn g C[k]) := by
  obtain ⟨h1, h2⟩ := h
  have look : ∀ t, mget (knStep kn g C[k]) t = if t = keyR C[k] then (bif g then none else some C[k]) else mget kn t := fun t => by
    cases g
    · simp only [knStep, cond_false, mget_mput]
      by_cases e : t = keyR C[k]
      · rw [if_pos e, if_pos e]
      · rw [if_neg e, if_neg e]
    · simp only [knStep, cond_true, mget_mdel]
      by_cases e : t = keyR C[k]
      · rw [if_pos e, if_pos e]
      · rw [if_neg e, if_neg e]
  refine ⟨fun j hj hjk => ?_, fun t ht => ?_⟩
  · rw [look]
    by_cases e : j = k
    · subst e
      rw [if_pos rfl]
      constructor
      · intro hh; rw [hg.2 hh]; rfl
      · intro hh
        cases g with
        | true => exact (hh (hg.1 rfl)).elim
        | false => rfl
    · rw [if_neg (rises_ne hC hj hk e)]
      exact h1 j hj (by omega)
  · rw [look, if_neg fun e => ht k hk (by omega) e.symm]
    exact h2 t fun j hj hjk => ht j hj (by omega)
theorem find_at {C : List Row} {x : Row} (h : x ∈ C) : ∃ j, ∃ h : j < C.length, C[j] = x := by
  obtain ⟨j, hj, e⟩ := List.mem_iff_getElem.1 h
  exact ⟨j, hj, e⟩
/-- Behind all changes it knows just the rows told last. -/
theorem knAt_end {kn0 kn : KnT} {old l : List Row} (ho : risesP old) (hl : risesP l) (h0 : knows kn0 old) (h : knAt kn0 l (chg old l) (chg old l).length kn) : knows kn l := by
  obtain ⟨hC, c1, c2, c3⟩ := chg_ok old l ho hl
  obtain ⟨h1, h2⟩ := h
  obtain ⟨k1, k2⟩ := h0
  have uniq : ∀ {l : List Row}, risesP l → ∀ x ∈ l, ∀ y ∈ l, keyR x = keyR y → x = y := fun {l} hl x hx y hy e => by
    obtain ⟨i, hi, rfl⟩ := find_at hx
    obtain ⟨j, hj, rfl⟩ := find_at hy
    by_cases hij : i = j
    · subst hij; rfl
    · exact (rises_ne hl hi hj hij e).elim
  refine ⟨fun r hr => ?_, fun t r hr => ?_⟩
  · rcases c2 r hr with hc | hro
    · obtain ⟨j, hj, e⟩ := find_at hc
      have := (h1 j hj hj).2 fun g => g r hr (by rw [e])
      rwa [e] at this
    · by_cases hin : ∃ j, ∃ h : j < (chg old l).length, keyR (chg old l)[j] = keyR r
      · obtain ⟨j, hj, e⟩ := hin
        rcases c1 _ (List.getElem_mem hj) with ⟨g1, g2⟩ | ⟨o, _, e2, g⟩
        · have := uniq hl _ g1 r hr e
          rw [this] at g2
          exact (g2 hro).elim
        · rw [e2, key_gone] at e
          exact (g r hr e.symm).elim
      · rw [h2 _ fun j hj _ e => hin ⟨j, hj, e⟩]
        exact k1 r hro
  · by_cases hin : ∃ j, ∃ h : j < (chg old l).length, keyR (chg old l)[j] = t
    · obtain ⟨j, hj, rfl⟩ := hin
      by_cases hg : isGone l (keyR (chg old l)[j])
      · rw [(h1 j hj hj).1 hg] at hr; cases hr
      · rw [(h1 j hj hj).2 hg] at hr
        cases hr
        rcases c1 _ (List.getElem_mem hj) with ⟨g1, _⟩ | ⟨o, _, e2, g⟩
        · exact ⟨g1, rfl⟩
        · refine (hg fun y hy e => g y hy ?_).elim
          rw [e, e2, key_gone]
    · rw [h2 _ fun j hj _ e => hin ⟨j, hj, e⟩] at hr
      obtain ⟨r1, r2⟩ := k2 t r hr
      refine ⟨?_, r2⟩
      rcases c3 r r1 with ⟨y, hy, e⟩ | hc
      · rcases c2 y hy with hc | hyo
        · obtain ⟨j, hj, e3⟩ := find_at hc
          exact (hin ⟨j, hj, by rw [e3, e, r2]⟩).elim
        · have := uniq ho y hyo r r1 e
          rwa [← this]
      · obtain ⟨j, hj, e3⟩ := find_at hc
        exact (hin ⟨j, hj, by rw [e3, key_gone, r2]⟩).elim
/-- A row that is gone was known, and is told as gone. -/
theorem gone_ok {kn0 kn : KnT} {old l : List Row} {k : Nat} (ho : risesP old) (hl : risesP l) (h0 : knows kn0 old) (h : knAt kn0 l (chg old l) k kn) (hk : k < (chg old l).length) (hg : isGone l (keyR (chg old l)[k])) :
    ∃ o, mget kn (keyR (chg old l)[k]) = some o ∧ (chg old l)[k] = goneR o := by
  obtain ⟨hC, c1, c2, c3⟩ := chg_ok old l ho hl
  rcases c1 _ (List.getElem_mem hk) with ⟨g1, _⟩ | ⟨o, ho2, e2, g⟩
  · exact (hg _ g1 rfl).elim
  · refine ⟨o, ?_, e2⟩
    rw [h.2 _ fun j hj hjk => rises_ne hC hj hk (by omega), e2, key_gone]
    exact h0.1 o ho2
theorem knows_len {kn : KnT} {l : List Row} (hn : (kn.map (·.1)).Nodup) (hl : risesP l) (h : knows kn l) : kn.length = l.length := by
  have hl2 : (l.map keyR).Nodup := by
    rw [List.Nodup, List.pairwise_map]
    exact hl.imp fun h => kLt_ne h
  have a : (kn.map (·.1)) ⊆ l.map keyR := fun t ht => by
    obtain ⟨p, hp, rfl⟩ := List.mem_map.1 ht
    have := h.2 p.1 p.2 ((mget_some_mem hn).2 hp)
    exact List.mem_map.2 ⟨p.2, this⟩
  have b : l.map keyR ⊆ (kn.map (·.1)) := fun t ht => by
    obtain ⟨r, hr, rfl⟩ := List.mem_map.1 ht
    exact List.mem_map.2 ⟨_, mget_mem_of (h.1 r hr), rfl⟩
  have h1 := hn.length_le_of_subset a
  have h2 := hl2.length_le_of_subset b
  simp only [List.length_map] at h1 h2
  omega
end
end Go.Proofs.Ytdohdhphpjhcjaa.Sh
