/- A part of the proofs about shards: which machines, rising. No condition. -/
import Derived.Test.YtdohdhphpjhcjaaMaVc
import Derived.Test.YtdohdhphpjhcjaaAmE
namespace Go.Proofs.Ytdohdhphpjhcjaa.Sh
open Go.AM
noncomputable section
theorem nt {b : Bool} (h : (!b) = true) : b = false := by cases b <;> first | rfl | cases h
theorem sortI_congr {l l' : List Int} (h : l.Perm l') : sortI l = sortI l' := by
  have sorted : ∀ l : List Int, List.Pairwise (fun a b => decide (a ≤ b) = true) (sortI l) := fun l =>
    List.pairwise_mergeSort (fun a b c h1 h2 => by simp only [decide_eq_true_eq] at *; omega) (fun a b => by simp only [Bool.or_eq_true, decide_eq_true_eq]; omega) l
  refine List.Perm.eq_of_pairwise (fun a b _ _ h1 h2 => by simp only [decide_eq_true_eq] at *; omega) (sorted l) (sorted l') ?_
  exact (sortI_perm l).trans (h.trans (sortI_perm l').symm)
theorem sortI_sorted (l : List Int) : List.Pairwise (fun a b => a ≤ b) (sortI l) :=
  (List.pairwise_mergeSort (fun a b c h1 h2 => by simp only [decide_eq_true_eq] at *; omega) (fun a b => by simp only [Bool.or_eq_true, decide_eq_true_eq]; omega) l).imp fun h => of_decide_eq_true h
def keys (m : Mp) : List Int := m.map (·.1)
def machs (m : Mp) : List Int := sortI (keys m)
def invV (m : Mp) (_bs : List Nat) (s : V1) : Prop := s.js.Nodup ∧ ∀ j, j ∈ s.js → j < m.length
theorem getD_at {α : Type} {l : List α} {j : Nat} (h : j < l.length) (d : α) : l.getD j d = l[j] := by
  rw [List.getD_eq_getElem?_getD, List.getElem?_eq_getElem h]; rfl
theorem keyM_at {m : Mp} {j : Nat} (h : j < m.length) : keyM m j = (m[j]).1 := congrArg Prod.fst (getD_at (α := Int × Seen) h ((0 : Int), (([] : List Row), false, (0 : Int))))
theorem born_at {bs : List Nat} {j : Nat} (h : j < bs.length) : bornAt bs j = bs[j] := getD_at h 0
theorem range_keys (m : Mp) : (List.range m.length).map (keyM m) = keys m := by
  apply List.ext_getElem
  · simp [keys]
  · intro i h1 h2
    have : i < m.length := by simpa using h1
    simp only [List.getElem_map, List.getElem_range, keys]
    exact keyM_at this
theorem born_inj {bs : List Nat} (hn : bs.Nodup) {i j : Nat} (hi : i < bs.length) (hj : j < bs.length) (h : bornAt bs i = bornAt bs j) : i = j := by
  rw [born_at hi, born_at hj] at h
  exact (List.getElem?_inj hi hn).1 (by rw [List.getElem?_eq_getElem hi, List.getElem?_eq_getElem hj, h])
theorem idx_at {bs : List Nat} (hn : bs.Nodup) {j : Nat} (h : j < bs.length) : bs.idxOf (bornAt bs j) = j := by
  rw [born_at h]
  exact hn.idxOf_getElem j h
theorem lastT_app (l : List Nat) (b : Nat) : lastT (l ++ [b]) = b := by unfold lastT; simp
theorem nodup_len : ∀ {l l' : List Nat}, l.Nodup → (∀ a ∈ l, a ∈ l') → l.length ≤ l'.length
  | [], _, _, _ => Nat.zero_le _
  | a :: l, l', hn, hs => by
    rw [List.nodup_cons] at hn
    have ha : a ∈ l' := hs a (List.mem_cons_self ..)
    have ih := nodup_len (l' := l'.erase a) hn.2 fun b hb => (List.mem_erase_of_ne (fun e => hn.1 (by rw [← e]; exact hb))).2 (hs b (List.mem_cons_of_mem _ hb))
    rw [List.length_erase_of_mem ha] at ih
    have := List.length_pos_of_mem ha
    simp only [List.length_cons]; omega
/-- All were seen: what was told is all that there is. -/
theorem all_seen {m : Mp} {bs : List Nat} {js : List Nat} (hl : bs.length = m.length) (hn : bs.Nodup) (hj : js.Nodup) (hlt : ∀ j, j ∈ js → j < m.length) (ha : ∀ b, b ∈ bs → b ∈ js.map (bornAt bs)) : (js.map (keyM m)).Perm (keys m) := by
  rw [← range_keys]
  refine List.Perm.map _ ?_
  refine (List.perm_ext_iff_of_nodup hj List.nodup_range).2 fun i => ?_
  rw [List.mem_range]
  refine ⟨hlt i, fun hi => ?_⟩
  have hi' : i < bs.length := by omega
  have : bornAt bs i ∈ bs := by rw [born_at hi']; exact List.getElem_mem _
  obtain ⟨j, hj1, hj2⟩ := List.mem_map.1 (ha _ this)
  have := born_inj hn (by have := hlt j hj1; omega) hi' hj2
  rw [← this]; exact hj1
open Ma in
set_option maxHeartbeats 0 in
theorem ma_ok {most : Int} {m : Mp} {bs : List Nat} {clk : Nat} (hm : m.length ≤ 1000) : Ma.owed most m bs clk (machs m) invV := by
  refine ⟨⟨[]⟩, ⟨List.nodup_nil, fun j hj => (nomatch hj)⟩, ⟨rfl, rfl, rfl, rfl, rfl, rfl, rfl, rfl, rfl, rfl⟩, fun s hi _ hnd _ hbs _ => ⟨?_, fun _ hall => ?_, fun j1 hj1 => ?_⟩⟩
  · by_cases h : bs = []
    · exact .inr (.inl h)
    · obtain ⟨b, hb⟩ := List.exists_mem_of_ne_nil _ h
      exact .inr (.inr ⟨b, hb, hbs.2.2 b hb⟩)
  · have hl : bs.length = m.length := hbs.1
    have hp := all_seen hl hbs.2.1 hi.1 hi.2 (fun b hb => hall b hb (hbs.2.2 b hb))
    refine ⟨?_, sortI_congr hp, by decide, by decide, rfl, rfl⟩
    show (s.js.map (keyM m)).length < _
    rw [hp.length_eq]; simp [keys]; omega
  · have hl : bs.length = m.length := hbs.1
    have hj : j1 < m.length := hj1.1
    have hjb : j1 < bs.length := by omega
    have e10 : w10 bs s j1 = bornAt bs j1 := lastT_app _ _
    have e11 : w11 m bs s j1 = (s.js ++ [j1]).map (keyM m) := by
      simp only [w11, e10, idx_at hbs.2.1 hjb, List.map_append, w7]; rfl
    have hnj : j1 ∉ s.js := fun h => hj1.2 (List.mem_map.2 ⟨j1, h, rfl⟩)
    have hnd' : (s.js ++ [j1]).Nodup := by
      rw [List.nodup_append]
      refine ⟨hi.1, by simp, fun a ha b hb e => ?_⟩
      rw [List.mem_singleton] at hb
      exact hnj (by rw [← hb, ← e]; exact ha)
    have hlt' : ∀ j, j ∈ s.js ++ [j1] → j < m.length := fun j h => by
      rcases List.mem_append.1 h with h | h
      · exact hi.2 j h
      · rw [List.mem_singleton] at h; omega
    have hlen := nodup_len hnd' (l' := List.range m.length) fun a ha => List.mem_range.2 (hlt' a ha)
    rw [List.length_append, List.length_range] at hlen
    simp only [List.length_cons, List.length_nil] at hlen
    have h12 : w12 m bs s j1 ≤ 1000 := by
      simp only [w12, e11, List.length_map, List.length_append, List.length_cons, List.length_nil]; omega
    refine ⟨⟨rfl, by simp [w9], by rw [e10, born_at hjb]; exact List.getElem_mem _⟩, ⟨by omega, by omega⟩, ⟨s.js ++ [j1]⟩, ⟨hnd', hlt'⟩, ?_, rfl, rfl, rfl, rfl, rfl, rfl, rfl, ?_, rfl, e11⟩
    · show List.length m - (s.js ++ [j1]).length < List.length m - s.js.length
      rw [List.length_append]; simp only [List.length_cons, List.length_nil]; omega
    · simp only [w9, w8, List.map_append]; rfl
end
end Go.Proofs.Ytdohdhphpjhcjaa.Sh
