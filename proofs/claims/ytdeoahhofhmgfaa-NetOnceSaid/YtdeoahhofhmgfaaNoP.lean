/- A part of the proof that 'reevelaw10.NetOnce' returns true for every input: plain laws of the two maps. No condition. -/
import Derived.Test.YtdeoahhofhmgfaaLsPf
namespace Go.Proofs.Ytdeoahhofhmgfaa.No
open Go.AM Sz
noncomputable section
/-- What is under way was sent: its text, from, to; and nothing else was. -/
def Fit (last : Int) (m sm : Lm) : Prop := (∀ k x, mget m k = some x → x.1 = k ∧ 1 ≤ k ∧ k ≤ last ∧ ∃ y, mget sm k = some y ∧ y.2.1 = x.2.1 ∧ y.2.2.1 = x.2.2.1 ∧ y.2.2.2.1 = x.2.2.2.1) ∧ ∀ k, (mget sm k).isSome = true → (mget m k).isSome = true
def Inv (i here last : Int) (m sm : Lm) : Prop := 0 ≤ last ∧ last ≤ i ∧ here = (m.length : Int) ∧ here ≤ i ∧ Fit last m sm
variable {last i here k : Int} {m m' sm : Lm} {x y : Letter}
theorem Fit.new (h : Fit last m sm) : (mget m (last + 1)).isSome = false := by
  cases hh : mget m (last + 1) with
  | none => rfl
  | some x => have := (h.1 _ _ hh).2.2.1; omega
theorem Fit.newS (h : Fit last m sm) : (mget sm (last + 1)).isSome = false := by
  cases hh : (mget sm (last + 1)).isSome with
  | false => rfl
  | true => have := h.2 _ hh; rw [h.new] at this; exact this.symm
theorem Fit.put (h : Fit last m sm) (h0 : 0 ≤ last) (h1 : x.1 = last + 1) (h2 : y.2.1 = x.2.1) (h3 : y.2.2.1 = x.2.2.1) (h4 : y.2.2.2.1 = x.2.2.2.1) : Fit (last + 1) (mput m (last + 1) x) (mput sm (last + 1) y) := by
  refine ⟨fun k z hz => ?_, fun k hk => ?_⟩
  · rw [mget_mput] at hz
    rw [mget_mput]
    split at hz
    · rename_i e
      cases hz
      subst e
      exact ⟨h1, by omega, Int.le_refl _, y, by rw [if_pos rfl], h2, h3, h4⟩
    · rename_i e
      obtain ⟨a, b, c, d⟩ := h.1 _ _ hz
      exact ⟨a, b, by omega, by rw [if_neg e]; exact d⟩
  · rw [isSome_mput] at hk ⊢
    exact hk.imp id (h.2 _)
theorem Fit.del (h : Fit last m sm) : Fit last (mdel m k) (mdel sm k) := by
  refine ⟨fun j z hz => ?_, fun j hj => ?_⟩
  · rw [mget_mdel] at hz ⊢
    split at hz
    · cases hz
    · rename_i e
      rw [if_neg e]
      exact h.1 _ _ hz
  · rw [isSome_mdel] at hj ⊢
    exact ⟨hj.1, h.2 _ hj.2⟩
theorem Fit.sent (h : Fit last m sm) (hk : (mget m k).isSome = true) : (mget sm k).isSome = true := by
  obtain ⟨x, hx⟩ := Option.isSome_iff_exists.1 hk
  obtain ⟨_, _, _, y, hy, _⟩ := h.1 _ _ hx
  rw [hy]; rfl
theorem Fit.same (h : Fit last m sm) (hk : (mget m k).isSome = true) (d : Letter) : ((mget m k).getD d).1 = k ∧ ((mget sm k).getD d).2.1 = ((mget m k).getD d).2.1 ∧ ((mget sm k).getD d).2.2.1 = ((mget m k).getD d).2.2.1 ∧ ((mget sm k).getD d).2.2.2.1 = ((mget m k).getD d).2.2.2.1 := by
  obtain ⟨x, hx⟩ := Option.isSome_iff_exists.1 hk
  obtain ⟨a, _, _, y, hy, b⟩ := h.1 _ _ hx
  rw [hx, hy]
  exact ⟨a, b⟩
/-- A letter without its age. -/
def noAge (x : Letter) : Letter := (x.1, x.2.1, x.2.2.1, x.2.2.2.1, 0)
def strip (m : Lm) : Lm := m.map fun p => (p.1, noAge p.2)
theorem mget_strip : mget (strip m) k = (mget m k).map noAge := by
  unfold strip
  induction m with
  | nil => rfl
  | cons p m ih =>
    rw [List.map_cons, mget_cons, mget_cons, ih]
    by_cases e : p.1 = k
    · rw [if_pos e, if_pos e]; rfl
    · rw [if_neg e, if_neg e]
theorem strip_len (h : strip m' = strip m) : m'.length = m.length := by
  have := congrArg List.length h
  simpa [strip] using this
theorem strip_key (h : strip m' = strip m) : ∀ k, (mget m' k).map noAge = (mget m k).map noAge := fun k => by rw [← mget_strip, h, mget_strip]
theorem Fit.older (h : Fit last m sm) (e : strip m' = strip m) : Fit last m' sm := by
  refine ⟨fun k z hz => ?_, fun k hk => ?_⟩
  · have hk := strip_key e k
    rw [hz] at hk
    cases hh : mget m k with
    | none => rw [hh] at hk; cases hk
    | some x =>
      rw [hh] at hk
      have hk : noAge z = noAge x := Option.some.inj hk
      obtain ⟨a, b, c, y, d, f, g, i⟩ := h.1 _ _ hh
      have e1 : z.1 = x.1 := by have q := congrArg (fun u : Letter => u.1) hk; exact q
      have e2 : z.2.1 = x.2.1 := by have q := congrArg (fun u : Letter => u.2.1) hk; exact q
      have e3 : z.2.2.1 = x.2.2.1 := by have q := congrArg (fun u : Letter => u.2.2.1) hk; exact q
      have e4 : z.2.2.2.1 = x.2.2.2.1 := by have q := congrArg (fun u : Letter => u.2.2.2.1) hk; exact q
      exact ⟨e1.trans a, b, c, y, d, f.trans e2.symm, g.trans e3.symm, i.trans e4.symm⟩
  · have hs := h.2 k hk
    have := strip_key e k
    cases hh : mget m' k with
    | some _ => rfl
    | none =>
      rw [hh] at this
      cases h2 : mget m k with
      | none => rw [h2] at hs; exact hs
      | some x => rw [h2] at this; cases this
theorem key_of {j : Nat} (h : j < m.length) : mget m (keyM m j) ≠ none := by
  rw [keyM_at h]
  intro e
  have : (mget m (m[j]).1).isSome = true := mget_some_iff.2 ⟨m[j], List.getElem_mem h, rfl⟩
  rw [e] at this
  cases this
theorem valM_at {j : Nat} (h : j < m.length) : valM m j = (m[j]).2 := congrArg Prod.snd (getD_at (α := Int × Letter) h ((0 : Int), (0, 0, 0, [], 0)))
theorem key_some {j : Nat} (h : j < m.length) : (mget m (keyM m j)).isSome = true := by
  rw [keyM_at h]
  exact mget_some_iff.2 ⟨m[j], List.getElem_mem h, rfl⟩
theorem bput_old {bs : List Nat} {c : Nat} (h : (mget m k).isSome = true) : bput m bs c k = bs := by unfold bput; rw [h]; rfl
theorem cput_old {c : Nat} (h : (mget m k).isSome = true) : cput m c k = c := by unfold cput; rw [h]; rfl
/-- One letter is a step older. -/
theorem strip_put {j : Nat} (hn : (m.map (·.1)).Nodup) (h : j < m.length) (hx : noAge x = noAge (valM m j)) : strip (mput m (keyM m j) x) = strip m := by
  obtain ⟨u, hu⟩ := Option.isSome_iff_exists.1 (key_some h)
  rw [mput_some hu]
  unfold strip
  rw [List.map_map]
  refine List.map_congr_left fun p hp => ?_
  rw [Function.comp]
  by_cases e : p.1 = keyM m j
  · rw [if_pos e]
    have e1 : mget m p.1 = some p.2 := (mget_some_mem hn).2 hp
    have e2 : mget m (keyM m j) = some (valM m j) := by rw [keyM_at h, valM_at h]; exact (mget_some_mem hn).2 (List.getElem_mem h)
    rw [e, e2] at e1
    have e3 : valM m j = p.2 := Option.some.inj e1
    rw [hx, e3, ← e]
  · rw [if_neg e]
theorem Inv.put (h : Inv i here last m sm) (h1 : x.1 = last + 1) (h2 : y.2.1 = x.2.1) (h3 : y.2.2.1 = x.2.2.1) (h4 : y.2.2.2.1 = x.2.2.2.1) : Inv (i + 1) (here + 1) (last + 1) (mput m (last + 1) x) (mput sm (last + 1) y) := by
  obtain ⟨a, b, c, d, f⟩ := h
  refine ⟨by omega, by omega, ?_, by omega, f.put a h1 h2 h3 h4⟩
  rw [length_mput_new f.new, c]; omega
theorem Inv.stay (h : Inv i here last m sm) : Inv (i + 1) here last m sm := by
  obtain ⟨a, b, c, d, f⟩ := h
  exact ⟨a, by omega, c, by omega, f⟩
theorem Inv.del (h : Inv i here last m sm) (hn : (m.map (·.1)).Nodup) (hk : (mget m k).isSome = true) : Inv (i + 1) (here - 1) last (mdel m k) (mdel sm k) := by
  obtain ⟨a, b, c, d, f⟩ := h
  have := length_mdel hn hk
  exact ⟨a, by omega, by omega, by omega, f.del⟩
theorem Inv.older (h : Inv i here last m sm) (e : strip m' = strip m) : Inv (i + 1) here last m' sm := by
  obtain ⟨a, b, c, d, f⟩ := h
  exact ⟨a, by omega, by rw [strip_len e]; exact c, by omega, f.older e⟩
end
end Go.Proofs.Ytdeoahhofhmgfaa.No
