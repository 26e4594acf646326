/- A part of the proof that 'reevelaw10.NetOnce' returns true for every input: all letters. No condition. -/
import Derived.Test.YtdeoahhofhmgfaaLsVc
import Derived.Test.YtdeoahhofhmgfaaSzP
import Derived.Test.YtdeoahhofhmgfaaAmE
namespace Go.Proofs.Ytdeoahhofhmgfaa.No
open Go.AM Sz
noncomputable section
def keys (m : Lm) : List Int := m.map (·.1)
/-- A number's letter. -/
def atL (m : Lm) (k : Int) : Letter := (mget m k).getD (0, 0, 0, [], 0)
def invV (m : Lm) (_bs : List Nat) (s : V1) : Prop := s.js.Nodup ∧ ∀ j, j ∈ s.js → j < m.length
theorem getD_at {α : Type} {l : List α} {j : Nat} (h : j < l.length) (d : α) : l.getD j d = l[j] := by
  rw [List.getD_eq_getElem?_getD, List.getElem?_eq_getElem h]; rfl
theorem keyM_at {m : Lm} {j : Nat} (h : j < m.length) : keyM m j = (m[j]).1 := congrArg Prod.fst (getD_at (α := Int × Letter) h ((0 : Int), (0, 0, 0, [], 0)))
theorem born_at {bs : List Nat} {j : Nat} (h : j < bs.length) : bornAt bs j = bs[j] := getD_at h 0
theorem range_keys (m : Lm) : (List.range m.length).map (keyM m) = keys m := by
  apply List.ext_getElem
  · simp [keys]
  · intro i h1 h2
    have : i < m.length := by simpa using h1
    simp only [List.getElem_map, List.getElem_range, keys]
    exact keyM_at this
theorem born_inj {bs : List Nat} (hn : bs.Nodup) {i j : Nat} (hi : i < bs.length) (hj : j < bs.length) (h : bornAt bs i = bornAt bs j) : i = j := by
  rw [born_at hi, born_at hj] at h
  exact (List.getElem?_inj hi hn).1 (by rw [List.getElem?_eq_getElem hi, List.getElem?_eq_getElem hj, h])
theorem idx_at {bs : List Nat} (hn : bs.Nodup) {j : Nat} (h : j < bs.length) : bs.idxOf (bornAt bs j) = j := by
  rw [born_at h]
  exact hn.idxOf_getElem j h
theorem lastT_app (l : List Nat) (b : Nat) : lastT (l ++ [b]) = b := by unfold lastT; simp
theorem nodup_len : ∀ {l l' : List Nat}, l.Nodup → (∀ a ∈ l, a ∈ l') → l.length ≤ l'.length
  | [], _, _, _ => Nat.zero_le _
  | a :: l, l', hn, hs => by
    rw [List.nodup_cons] at hn
    have ha : a ∈ l' := hs a (List.mem_cons_self ..)
    have ih := nodup_len (l' := l'.erase a) hn.2 fun b hb => (List.mem_erase_of_ne (fun e => hn.1 (by rw [← e]; exact hb))).2 (hs b (List.mem_cons_of_mem _ hb))
    rw [List.length_erase_of_mem ha] at ih
    have := List.length_pos_of_mem ha
    simp only [List.length_cons]; omega
/-- All were seen: what was told is all that there is. -/
theorem all_seen {m : Lm} {bs : List Nat} {js : List Nat} (hl : bs.length = m.length) (hn : bs.Nodup) (hj : js.Nodup) (hlt : ∀ j, j ∈ js → j < m.length) (ha : ∀ b, b ∈ bs → b ∈ js.map (bornAt bs)) : (js.map (keyM m)).Perm (keys m) := by
  rw [← range_keys]
  refine List.Perm.map _ ?_
  refine (List.perm_ext_iff_of_nodup hj List.nodup_range).2 fun i => ?_
  rw [List.mem_range]
  refine ⟨hlt i, fun hi => ?_⟩
  have hi' : i < bs.length := by omega
  have : bornAt bs i ∈ bs := by rw [born_at hi']; exact List.getElem_mem _
  obtain ⟨j, hj1, hj2⟩ := List.mem_map.1 (ha _ this)
  have := born_inj hn (by have := hlt j hj1; omega) hi' hj2
  rw [← this]; exact hj1
theorem u8_has (x : Int) : 0 ≤ IntKind.u8.wrap x ∧ IntKind.u8.wrap x < 256 := by
  simp only [IntKind.wrap, IntKind.bits, IntKind.signed, Bool.false_and, Int.reducePow]
  split
  · contradiction
  · omega
/-- All letters, in some row. -/
def okL (m : Lm) (rows : List Letter) : Prop := ∃ ks : List Int, ks.Perm (keys m) ∧ rows = ks.map (atL m)
def iL (m : Lm) (r : List Int) (s : Ls.L1) : Prop := 0 ≤ s.i ∧ s.i ≤ r.length ∧ s.rows = (r.take s.i.toNat).map (atL m)
open Ls in
theorem ls_ok {m : Lm} {bs : List Nat} {clk : Nat} {last : Int} {cm : Cm} {cbs : List Nat} {cclk : Nat} (hm : m.length ≤ 4096) : Ls.owed m bs clk last cm cbs cclk (okL m) invV (iL m) := by
  refine ⟨⟨[]⟩, ⟨List.nodup_nil, fun j hj => (nomatch hj)⟩, ⟨rfl, rfl, rfl, rfl, rfl, rfl, rfl, rfl, rfl, rfl, rfl, rfl, rfl⟩, fun s hi _ _ _ hbs _ _ _ _ => ⟨?_, fun _ hall => ?_, fun j1 hj1 => ?_⟩⟩
  · by_cases h : bs = []
    · exact .inr (.inl h)
    · obtain ⟨b, hb⟩ := List.exists_mem_of_ne_nil _ h
      exact .inr (.inr ⟨b, hb, hbs.2.2 b hb⟩)
  · have hl : bs.length = m.length := hbs.1
    have hp := all_seen hl hbs.2.1 hi.1 hi.2 (fun b hb => hall b hb (hbs.2.2 b hb))
    have hlen : (w7 m s).length = m.length := by
      show (s.js.map (keyM m)).length = _
      rw [hp.length_eq]; simp [keys]
    have e11 : w11 m s = (m.length : Int) := by unfold w11; rw [hlen]
    refine ⟨⟨fun _ => by decide, fun _ => by decide, fun _ => by decide, (u8_has _).1, (u8_has _).2⟩, ⟨by decide, by rw [e11]; omega, by unfold w11 w19; omega, by unfold w19; omega, by rw [e11]; omega⟩, fun r hr => ?_⟩
    have hrl : r.length = m.length := by rw [hr.length_eq, hlen]
    have hrk : r.Perm (keys m) := hr.trans hp
    refine ⟨⟨0, []⟩, ⟨by simp, by simp, rfl⟩, ⟨rfl, rfl, rfl, rfl, rfl, rfl, rfl, rfl, rfl, rfl, rfl, rfl, rfl, rfl, rfl, rfl⟩, ?_⟩
    rintro ⟨i, q⟩ ⟨i1, i2, i3⟩ _ _ _ _ _ _ _ _ _ _ _
    simp only at i1 i2 i3
    refine ⟨fun h => ?_, fun h => ⟨?_, by decide, by decide, rfl, rfl, rfl⟩⟩
    · have h : i < (r.length : Int) := of_decide_eq_true h
      have hq : q.length = i.toNat := by rw [i3]; simp; omega
      have hw : (w24 m r ⟨i, q⟩) = i.toNat + 1 := by
        unfold w24 w23
        simp [hq]
      refine ⟨⟨i1, h⟩, ⟨by omega, by omega⟩, ⟨i + 1, _⟩, ⟨by simp only; omega, by simp only; omega, ?_⟩, ?_, w64b (by simp only; omega) (by simp only; omega), rfl, rfl, rfl, rfl, rfl, rfl, rfl, rfl, rfl, rfl, rfl, rfl, rfl, rfl, rfl⟩
      · show w23 m r ⟨i, q⟩ = (r.take (i + 1).toNat).map (atL m)
        have e : w23 m r ⟨i, q⟩ = q ++ [atL m (rowU r i.toNat)] := rfl
        have hil : i.toNat < r.length := by omega
        rw [e, i3, show (i + 1).toNat = i.toNat + 1 by omega, List.take_add_one, List.map_append, rowU_at hil, List.getElem?_eq_getElem hil]
        rfl
      · show ((r.length : Int) - (i + 1)).toNat < ((r.length : Int) - i).toNat
        omega
    · have h : ¬ i < (r.length : Int) := of_decide_eq_false (nt h)
      refine ⟨r, hrk, ?_⟩
      show q = _
      rw [i3, List.take_of_length_le (by omega)]
  · have hl : bs.length = m.length := hbs.1
    have hj : j1 < m.length := hj1.1
    have hjb : j1 < bs.length := by omega
    have e10 : w27 bs s j1 = bornAt bs j1 := lastT_app _ _
    have e11 : w28 m bs s j1 = (s.js ++ [j1]).map (keyM m) := by
      simp only [w28, e10, idx_at hbs.2.1 hjb, List.map_append, w7]; rfl
    have hnj : j1 ∉ s.js := fun h => hj1.2 (List.mem_map.2 ⟨j1, h, rfl⟩)
    have hnd' : (s.js ++ [j1]).Nodup := by
      rw [List.nodup_append]
      refine ⟨hi.1, by simp, fun a ha b hb e => ?_⟩
      rw [List.mem_singleton] at hb
      exact hnj (by rw [← hb, ← e]; exact ha)
    have hlt' : ∀ j, j ∈ s.js ++ [j1] → j < m.length := fun j h => by
      rcases List.mem_append.1 h with h | h
      · exact hi.2 j h
      · rw [List.mem_singleton] at h; omega
    have hlen := nodup_len hnd' (l' := List.range m.length) fun a ha => List.mem_range.2 (hlt' a ha)
    rw [List.length_append, List.length_range] at hlen
    simp only [List.length_cons, List.length_nil] at hlen
    have h12 : w29 m bs s j1 ≤ 4096 := by
      simp only [w29, e11, List.length_map, List.length_append, List.length_cons, List.length_nil]; omega
    refine ⟨⟨rfl, by simp [w26], by rw [e10, born_at hjb]; exact List.getElem_mem _⟩, ⟨by omega, by omega⟩, ⟨s.js ++ [j1]⟩, ⟨hnd', hlt'⟩, ?_, rfl, rfl, rfl, rfl, rfl, rfl, rfl, rfl, rfl, rfl, ?_, rfl, e11⟩
    · show List.length m - (s.js ++ [j1]).length < List.length m - s.js.length
      rw [List.length_append]; simp only [List.length_cons, List.length_nil]; omega
    · simp only [w26, w10, List.map_append]; rfl
end
end Go.Proofs.Ytdeoahhofhmgfaa.No
