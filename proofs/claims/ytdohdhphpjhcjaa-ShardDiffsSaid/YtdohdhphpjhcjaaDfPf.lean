/- A part of the proof that 'reevelaw28.ShardDiffs' returns true for every input: what is owed, in plain words. No condition. -/
import Derived.Test.YtdohdhphpjhcjaaDfVc
import Derived.Test.YtdohdhphpjhcjaaKnLaw
import Derived.Test.YtdohdhphpjhcjaaSiPf
namespace Go.Proofs.Ytdohdhphpjhcjaa.Sh
open Go.AM
noncomputable section
namespace Df
/-- The lengths of the first n, together. -/
def sumL (rep : List (List Row)) (n : Nat) : Int := ((rep.take n).map fun r => (r.length : Int)).sum
def ivs (a : Int) (rep : List (List Row)) : Invs where
  u _ := True
  n s := 0 ≤ s.i ∧ s.i ≤ rep.length ∧ s.i ≤ 100 ∧ s.n = sumL rep s.i.toNat
  x s := 0 ≤ s.i ∧ s.i ≤ rep.length
  y i s := 0 ≤ s.i ∧ s.i ≤ (rowL rep i.toNat).length
  a s := 0 ≤ s.i ∧ s.i ≤ rep.length ∧ ∃ old t ms, s.m = [(a, (old, t, ms))] ∧ 0 ≤ ms ∧ ms ≤ 1000 ∧ okRows old ∧ knows s.kn old
  p m l s := 0 ≤ s.k ∧ s.k ≤ l.length ∧ (s.k = 0 → s.m = m) ∧ (s.k = 1 → ∀ old t ms, m = [(a, (old, t, ms))] → 0 ≤ ms → ms ≤ 1000 → s.m = [(a, (old, t, min (ms + 1) 1000))])
  b m0 s := ∀ old t ms, m0 = [(a, (old, t, ms))] → 0 ≤ ms → ms ≤ 1000 → s.m = [(a, (old, t, min (ms + 1) 1000))]
  r l s := 1 ≤ s.i ∧ (s.i ≤ l.length ∨ s.i = 1) ∧ ∀ j : Nat, 1 ≤ j → (j : Int) < s.i → ordR (rowR0 l (j - 1)) (rowR0 l j) < 0
  k i kn0 C s := 0 ≤ s.k ∧ s.k ≤ C.length ∧ knAt kn0 (rowL rep i.toNat) C s.k.toNat s.kn
  g i _ C k s := 0 ≤ s.m ∧ s.m ≤ (rowL rep i.toNat).length ∧ (s.gone = true ↔ ∀ j : Nat, (j : Int) < s.m → keyR (rowR0 (rowL rep i.toNat) j) ≠ keyR (rowR0 C k.toNat))
  z i _ s := 0 ≤ s.i ∧ s.i ≤ (rowL rep i.toNat).length
  i _ _ s := s.i = 0
  d _ l s := s.i = 0 ∧ s.j = 1 ∧ s.rows = l
theorem sumL_succ {rep : List (List Row)} {n : Nat} (h : n < rep.length) : sumL rep (n + 1) = sumL rep n + ((rowL rep n).length : Int) := by
  have e : rowL rep n = rep[n] := by
    have h2 : ∀ d : List Row, rep.getD n d = rep[n] := fun d => by simp [h]
    exact h2 _
  unfold sumL
  rw [e, List.take_add_one, List.map_append, List.sum_append]
  simp [h]
theorem sumL_bound {rep : List (List Row)} (hw : ∀ r ∈ rep, r.length ≤ 140737488355328) : ∀ n : Nat, 0 ≤ sumL rep n ∧ sumL rep n ≤ n * 140737488355328
  | 0 => by simp [sumL]
  | n + 1 => by
    obtain ⟨h1, h2⟩ := sumL_bound hw n
    by_cases h : n < rep.length
    · have e : rowL rep n = rep[n] := by
        have h2 : ∀ d : List Row, rep.getD n d = rep[n] := fun d => by simp [h]
        exact h2 _
      have := hw rep[n] (List.getElem_mem h)
      rw [sumL_succ h, e]; omega
    · have : sumL rep (n + 1) = sumL rep n := by
        unfold sumL
        rw [List.take_of_length_le (by omega), List.take_of_length_le (by omega)]
      rw [this]; omega
theorem sumL_pos {rep : List (List Row)} : ∀ n : Nat, 0 ≤ sumL rep n
  | 0 => by simp [sumL]
  | n + 1 => by
    have h1 := sumL_pos (rep := rep) n
    by_cases h : n < rep.length
    · rw [sumL_succ h]; omega
    · have : sumL rep (n + 1) = sumL rep n := by
        unfold sumL
        rw [List.take_of_length_le (by omega), List.take_of_length_le (by omega)]
      rw [this]; exact h1
/-- None is longer than all together. -/
theorem sumL_each {rep : List (List Row)} : ∀ n i : Nat, i < n → i < rep.length → ((rowL rep i).length : Int) ≤ sumL rep n
  | 0, i, h, _ => by omega
  | n + 1, i, h, hi => by
    have pos : ∀ k, 0 ≤ sumL rep k := sumL_pos
    by_cases hn : n < rep.length
    · rw [sumL_succ hn]
      rcases Nat.lt_or_ge i n with g | g
      · have := sumL_each n i g hi; omega
      · have : i = n := by omega
        subst this
        have := pos i; omega
    · have : sumL rep (n + 1) = sumL rep n := by
        unfold sumL
        rw [List.take_of_length_le (by omega), List.take_of_length_le (by omega)]
      rw [this]
      exact sumL_each n i (by omega) hi
theorem machs_one (a : Int) (x : Seen) : machs [(a, x)] = [a] := by
  unfold machs keys
  simp only [List.map_cons, List.map_nil]
  exact List.perm_singleton.1 (sortI_perm _)
theorem mget_one (a : Int) (x : Seen) : mget [(a, x)] a = some x := by simp [mget]
theorem mput_one (a : Int) (x y : Seen) : mput [(a, x)] a y = [(a, y)] := by
  unfold mput
  rw [mget_one]
  simp
theorem same7 {o : Option Row} {x d : Row} (h : o = some x) : (!(decide ((o.getD d).1 = x.1) && decide ((o.getD d).2.1 = x.2.1) && (decide ((o.getD d).2.2.1 = x.2.2.1) && (decide ((o.getD d).2.2.2.1 = x.2.2.2.1) && (decide ((o.getD d).2.2.2.2.1 = x.2.2.2.2.1) && (decide ((o.getD d).2.2.2.2.2.1 = x.2.2.2.2.2.1) && decide ((o.getD d).2.2.2.2.2.2 = x.2.2.2.2.2.2))))))) = false := by
  subst h
  simp only [Option.getD_some, decide_true, Bool.and_self, Bool.not_true]
theorem row_mem {l : List Row} {j : Nat} (h : j < l.length) : rowR0 l j ∈ l := by
  have h2 : ∀ d : Row, l.getD j d = l[j] := fun d => by simp [h]
  have : rowR0 l j = l[j] := h2 _
  rw [this]; exact List.getElem_mem h
theorem gone_step {l : List Row} {c : Row} {z : Int} {g : Bool} (hz : 0 ≤ z) (h : g = true ↔ ∀ j : Nat, (j : Int) < z → keyR (rowR0 l j) ≠ keyR c) :
    (g && !(decide ((rowR0 l z.toNat).1 = c.1) && decide ((rowR0 l z.toNat).2.1 = c.2.1))) = true ↔ ∀ j : Nat, (j : Int) < z + 1 → keyR (rowR0 l j) ≠ keyR c := by
  rw [Bool.and_eq_true, h, Bool.not_eq_true', Bool.and_eq_false_iff, decide_eq_false_iff_not, decide_eq_false_iff_not]
  constructor
  · rintro ⟨h1, h2⟩ j hj e
    by_cases g : (j : Int) < z
    · exact h1 j g e
    · have : j = z.toNat := by omega
      subst this
      have e : ((rowR0 l z.toNat).1, (rowR0 l z.toNat).2.1) = (c.1, c.2.1) := e
      have e1 := congrArg Prod.fst e
      have e2 := congrArg Prod.snd e
      exact h2.elim (fun q => q e1) (fun q => q e2)
  · intro h1
    refine ⟨fun j hj => h1 j (by omega), ?_⟩
    by_cases e1 : (rowR0 l z.toNat).1 = c.1
    · right; intro e2; exact h1 z.toNat (by omega) (by unfold keyR; rw [e1, e2])
    · exact .inl e1
theorem row_at {l : List Row} {j : Nat} (h : j < l.length) : rowR0 l j = l[j] := by
  have h2 : ∀ d : Row, l.getD j d = l[j] := fun d => by simp [h]
  exact h2 _
theorem gone_end {l : List Row} {t : Task} {z : Int} {g : Bool} (hz : z = (l.length : Int)) (h : g = true ↔ ∀ j : Nat, (j : Int) < z → keyR (rowR0 l j) ≠ t) : g = true ↔ isGone l t := by
  rw [h]
  constructor
  · intro h1 y hy
    obtain ⟨j, hj, rfl⟩ := find_at hy
    rw [← row_at hj]
    exact h1 j (by omega)
  · intro h1 j hj
    exact h1 _ (row_mem (by omega))
theorem goneNo {o : Option Row} {x d c : Row} (h : o = some x) (hc : c = goneR x) : (!o.isSome || (decide (c.2.2.2.1 ≠ 0) || ((!(decide (c.2.2.2.2.1 = 0) && (decide (c.2.2.2.2.2.1 = 0) && decide (c.2.2.2.2.2.2 = 0)))) || decide (c.2.2.1 ≠ (o.getD d).2.2.1)))) = false := by
  subst h; subst hc
  simp [goneR]
theorem chg_len : ∀ old l : List Row, (chg old l).length ≤ old.length + l.length := by
  intro old l
  induction old, l using chg.induct with
  | case1 => rw [chg]; simp
  | case2 y l' ih => rw [chg]; simp only [List.length_cons] at *; omega
  | case3 x o' ih => rw [chg]; simp only [List.length_cons] at *; omega
  | case4 x o' y l' ho ih => rw [chg, if_pos ho]; simp only [List.length_cons] at *; omega
  | case5 x o' y l' ho ho2 ih => rw [chg, if_neg ho, if_pos ho2]; simp only [List.length_cons] at *; omega
  | case6 x o' l' ho ho2 ih => rw [chg, if_neg ho, if_neg ho2, if_pos rfl]; simp only [List.length_cons] at *; omega
  | case7 x o' y l' ho ho2 hxy ih => rw [chg, if_neg ho, if_neg ho2, if_neg hxy]; simp only [List.length_cons] at *; omega
theorem df_ok {a most : Int} {rep : List (List Row)} (hw : ∀ r ∈ rep, r.length ≤ 140737488355328) : owed a most rep (ivs a rep) := by
  refine ⟨⟨0, 0⟩, ⟨by simp, by simp, by simp, by simp [sumL]⟩, ⟨rfl, rfl, rfl, rfl, rfl⟩, ?_⟩
  rintro ⟨i, n⟩ ⟨i1, i2, i3, i4⟩ ha hm _ _ _
  simp only at i1 i2 i3 i4
  refine ⟨fun h => ?_, fun h => ⟨fun _ => rfl, fun h3 => ?_⟩⟩
  · have hlt : i < rep.length ∧ i < 100 := by
      have := Bool.and_eq_true_iff.1 h
      exact ⟨of_decide_eq_true this.1, of_decide_eq_true this.2⟩
    have hb := sumL_bound hw (i.toNat + 1)
    have hs := sumL_succ (rep := rep) (n := i.toNat) (by omega)
    have e1 : IntKind.i64.wrap (n + ((rowL rep i.toNat).length : Int)) = sumL rep (i.toNat + 1) := by
      rw [i4, ← hs]; exact w64b (by omega) (by omega)
    have e2 : IntKind.i64.wrap (i + 1) = i + 1 := w64b (by omega) (by omega)
    exact ⟨⟨i1, hlt.1⟩, ⟨i + 1, sumL rep (i.toNat + 1)⟩, ⟨by simp only; omega, by simp only; omega, by simp only; omega, by simp only; rw [show (i + 1).toNat = i.toNat + 1 by omega]⟩, by simp only [w2]; omega, e1, e2, rfl, rfl, rfl⟩
  have h3 := Bool.or_eq_false_iff.1 (Rp.nB h3)
  have hl50 : rep.length ≤ 50 := by have := of_decide_eq_false h3.1; simp only [w0] at this; omega
  have hn500 : n ≤ 500 := by have := of_decide_eq_false h3.2; simp only at this; omega
  have hi : i = rep.length := by
    have h := Bool.and_eq_false_iff.1 (Rp.nB h)
    rcases h with h | h
    · have h : ¬ i < rep.length := of_decide_eq_false h
      omega
    · have h : ¬ i < 100 := of_decide_eq_false h
      omega
  have hle : ∀ j : Nat, j < rep.length → (rowL rep j).length ≤ 500 := fun j hj => by
    have := sumL_each i.toNat j (by omega) hj
    omega
  refine ⟨⟨0⟩, ⟨by simp, by simp⟩, ⟨rfl, rfl, rfl, rfl⟩, ?_⟩
  rintro ⟨q⟩ ⟨q1, q2⟩ _ _ _ _
  simp only at q1 q2
  refine ⟨fun h => ?_, fun _ => ⟨fun _ => rfl, fun ha2 => ⟨fun _ => rfl, fun hm2 => ⟨⟨⟨0⟩, trivial, rfl, rfl, rfl, rfl, rfl, List.nodup_nil, rfl⟩, fun _ _ _ _ _ _ _ _ => ?_⟩⟩⟩⟩
  · have hq : q < rep.length := of_decide_eq_true h
    have e2 : IntKind.i64.wrap (q + 1) = q + 1 := w64b (by omega) (by omega)
    refine ⟨⟨0⟩, ⟨by simp, by simp⟩, ⟨rfl, rfl, rfl, rfl, rfl⟩, ?_⟩
    rintro ⟨z⟩ ⟨z1, z2⟩ _ _ _ _ _
    have z1 : 0 ≤ z := z1
    have z2 : z ≤ (rowL rep q.toNat).length := z2
    have hb := hle q.toNat (by omega)
    refine ⟨⟨q1, hq⟩, fun hz => ⟨⟨⟨q1, hq⟩, z1, of_decide_eq_true hz⟩, fun _ => rfl, fun _ => ?_⟩, fun _ => ?_⟩
    · have hz : z < (rowL rep q.toNat).length := of_decide_eq_true hz
      have e3 : IntKind.i64.wrap (z + 1) = z + 1 := w64b (by omega) (by omega)
      exact ⟨⟨z + 1⟩, ⟨by simp only; omega, show z + 1 ≤ (rowL rep q.toNat).length by omega⟩, by simp only at *; omega, e3, rfl, rfl, rfl, rfl⟩
    · exact ⟨⟨q + 1⟩, ⟨by simp only; omega, by simp only; omega⟩, by simp only [w2]; omega, e2, rfl, rfl, rfl⟩
  have hmost : 1 ≤ most ∧ most ≤ 100 := by
    have h := Bool.or_eq_false_iff.1 (Rp.nB hm2)
    have h1 := of_decide_eq_false h.1
    have h2 := of_decide_eq_false h.2
    omega
  refine ⟨⟨0, [(a, ([], false, 0))], [0], 1, [], [], 0⟩, ⟨by simp, by simp, [], false, 0, rfl, by omega, by omega, ⟨fun j h1 h2 => by simp at h2, by simp⟩, ⟨fun r h => (by cases h), fun t r h => (by rw [mget_nil] at h; cases h)⟩⟩, ⟨rfl, rfl, rfl, rfl, rfl, rfl, rfl, rfl, rfl, rfl, rfl, List.nodup_nil⟩, ?_⟩
  rintro ⟨i, m, bs, clk, kn, kbs, kclk⟩ ⟨i1, i2, old, t, ms, em, ms1, ms2, hold, hkn⟩ _ _ _ _ _ _ _ _ _ _ _
  simp only at i1 i2 em hkn
  subst em
  refine ⟨fun h => ?_, fun _ => rfl⟩
  have hi : i < rep.length := of_decide_eq_true h
  refine ⟨⟨by simp, ⟨0, [(a, (old, t, ms))], bs, clk⟩, ⟨by simp, by simp, fun _ => rfl, fun h => by simp at h⟩, ⟨rfl, rfl, rfl, rfl, rfl, rfl, rfl, rfl, rfl, rfl⟩, ?_⟩, ?_⟩
  · rintro ⟨k, m5, b5, c5⟩ ⟨k1, k2, k3, k4⟩ _ _ _ _ _ _ _ _ _ _
    have k1 : 0 ≤ k := k1
    have k2 : k ≤ ((machs [(a, (old, t, ms))]).length : Int) := k2
    have k3 : k = 0 → m5 = [(a, (old, t, ms))] := k3
    have k4 := k4
    rw [machs_one] at k2
    refine ⟨fun hk => ?_, fun hk => ?_⟩
    · have hkk : k < ((machs [(a, (old, t, ms))]).length : Int) := of_decide_eq_true hk
      have hk1 := hkk
      rw [machs_one] at hk1
      have hk0 : k = 0 := by simp at hk1; omega
      have e0 : rowI (machs [(a, (old, t, ms))]) k.toNat = a := by rw [machs_one, hk0]; rfl
      have em := k3 hk0
      subst em
      have ew : IntKind.i64.wrap (ms + 1) = ms + 1 := w64b (by omega) (by omega)
      have ew2 : IntKind.i64.wrap (k + 1) = 1 := by rw [hk0]; rfl
      refine ⟨⟨k1, hkk⟩, ⟨1, _, _, _⟩, ⟨by simp, ?_, fun h => by simp at h, fun _ old' t' ms' e h1 h2 => ?_⟩, ?_, ew2, rfl, rfl, rfl, rfl, rfl, rfl, rfl, rfl, rfl⟩
      · show (1 : Int) ≤ ((machs [(a, (old, t, ms))]).length : Int)
        rw [machs_one]; simp
      · have e : [(a, (old, t, ms))] = [(a, (old', t', ms'))] := e
        simp only [List.cons.injEq, Prod.mk.injEq, and_true, true_and] at e
        obtain ⟨rfl, rfl, rfl⟩ := e
        have key : ∀ (b : Int) (d : Seen), b = a → mput [(a, (old, t, ms))] b (((mget [(a, (old, t, ms))] b).getD d).1, ((mget [(a, (old, t, ms))] b).getD d).2.1, min (IntKind.i64.wrap (((mget [(a, (old, t, ms))] b).getD d).2.2 + 1)) 1000) = [(a, (old, t, min (ms + 1) 1000))] := fun b d hb => by
          subst hb
          rw [mget_one, mput_one]
          simp only [Option.getD_some]
          rw [ew]
        exact key _ _ e0
      · show (((machs [(a, (old, t, ms))]).length : Int) - 1).toNat < (((machs [(a, (old, t, ms))]).length : Int) - k).toNat
        rw [machs_one, hk0]; simp
    · have hk : ¬ k < ((machs [(a, (old, t, ms))]).length : Int) := of_decide_eq_false (Rp.nB hk)
      rw [machs_one] at hk
      have hk1 : k = 1 := by simp at hk k2; omega
      exact ⟨⟨m5, b5, c5⟩, fun old' t' ms' e h1 h2 => k4 hk1 old' t' ms' e h1 h2, rfl, rfl, rfl, rfl, rfl, rfl, rfl, rfl, rfl, rfl, rfl⟩
  rintro ⟨m6, b6, c6⟩ hb6 _ _ _ _ _ _ _ _ _ _ _
  have em6 : m6 = [(a, (old, t, min (ms + 1) 1000))] := hb6 old t ms rfl ms1 ms2
  subst em6
  have hL := hle i.toNat (by omega)
  have eold : oldOf [(a, (old, t, min (ms + 1) 1000))] a = old := by unfold oldOf; rw [mget_one]; rfl
  have p4 : part4 rep ⟨i, [(a, (old, t, ms))], bs, clk, kn, kbs, kclk⟩ := by
    show (rowL rep i.toNat).length * 64 ≤ 140737488355328 ∧ (rowL rep i.toNat).length ≤ 4611686018427387904
    omega
  refine ⟨⟨i1, hi⟩, p4, ⟨?_, ?_⟩, fun hn => ?_, fun _ hbad => ?_, fun _ hok => ?_⟩
  · show (rowL rep i.toNat).length ≤ 1000000
    omega
  · show (oldOf [(a, (old, t, min (ms + 1) 1000))] a).length ≤ 256
    rw [eold]; exact hold.2
  · have hn : (mget [(a, (old, t, min (ms + 1) 1000))] a).isSome = false := hn
    rw [mget_one] at hn; cases hn
  · have hbad : ¬ okRows (rowL rep i.toNat) := hbad
    refine ⟨⟨i1, hi⟩, ⟨1⟩, ⟨by simp, .inr rfl, fun j h1 h2 => by simp only at h2; omega⟩, ⟨rfl, rfl, rfl, rfl, rfl, rfl, rfl, rfl, rfl⟩, ?_⟩
    rintro ⟨q⟩ ⟨q1, q2, q3⟩ _ _ _ _ _ _ _ _ _
    have q1 : 1 ≤ q := q1
    have q2 : q ≤ (rowL rep i.toNat).length ∨ q = 1 := q2
    have q3 : ∀ j : Nat, 1 ≤ j → (j : Int) < q → ordR (rowR0 (rowL rep i.toNat) (j - 1)) (rowR0 (rowL rep i.toNat) j) < 0 := q3
    have ei : IntKind.i64.wrap (i + 1) = i + 1 := w64b (by omega) (by omega)
    have p6 : part6 a most rep (ivs a rep) ⟨i, [(a, (old, t, ms))], bs, clk, kn, kbs, kclk⟩ ⟨[(a, (old, t, min (ms + 1) 1000))], b6, c6⟩ := by
      refine ⟨⟨i + 1, _, _, _, _, _, _⟩, ⟨by simp only; omega, by simp only; omega, old, t, min (ms + 1) 1000, rfl, by omega, by omega, hold, hkn⟩, ?_, ei, rfl, rfl, rfl, rfl, rfl, rfl, rfl, rfl, rfl, rfl⟩
      show ((rep.length : Int) - (i + 1)).toNat < ((rep.length : Int) - i).toNat
      omega
    have e35 : w35 ⟨q⟩ = q - 1 := w64b (by simp only; omega) (by simp only; omega)
    refine ⟨fun hq => ?_, fun hq => ⟨fun h41 => ?_, fun _ => p6⟩⟩
    · have hq : q < (rowL rep i.toNat).length := of_decide_eq_true hq
      have e2 : IntKind.i64.wrap (q + 1) = q + 1 := w64b (by omega) (by omega)
      have e36 : w36 ⟨q⟩ = q.toNat - 1 := by unfold w36; rw [e35]; omega
      refine ⟨⟨⟨by rw [e35]; omega, by rw [e35]; show q - 1 < ((rowL rep i.toNat).length : Int); omega⟩, by simp only; omega, hq⟩, fun _ => p6, fun hb => ?_⟩
      refine ⟨⟨q + 1⟩, ⟨by simp only; omega, .inl (show q + 1 ≤ ((rowL rep i.toNat).length : Int) by omega), fun j h1 h2 => ?_⟩, ?_, e2, rfl, rfl, rfl, rfl, rfl, rfl, rfl, rfl⟩
      · have h2 : (j : Int) < q + 1 := h2
        by_cases hj : (j : Int) < q
        · exact q3 j h1 hj
        · have hjq : j = q.toNat := by omega
          subst hjq
          have hb := Rp.nB hb
          unfold w37 at hb
          rw [e36] at hb
          have hb := (Bool.not_eq_false' ..).mp hb
          rcases Bool.or_eq_true_iff.1 hb with g | g
          · exact ord_neg.2 (.inl g)
          · have g := Bool.and_eq_true_iff.1 g
            exact ord_neg.2 (.inr ⟨of_decide_eq_true g.1, of_decide_eq_true g.2⟩)
      · show (((rowL rep i.toNat).length : Int) - (q + 1)).toNat < (((rowL rep i.toNat).length : Int) - q).toNat
        omega
    · have hq : ¬ q < ((rowL rep i.toNat).length : Int) := of_decide_eq_false (Rp.nB hq)
      have h41 : ((rowL rep i.toNat).length : Int) ≤ 256 := of_decide_eq_true h41
      exact (hbad ⟨fun j h1 h2 => q3 j h1 (by omega), by omega⟩).elim
  · have hok : okRows (rowL rep i.toNat) := hok
    have eC : w47 a rep ⟨i, [(a, (old, t, ms))], bs, clk, kn, kbs, kclk⟩ ⟨[(a, (old, t, min (ms + 1) 1000))], b6, c6⟩ = chg old (rowL rep i.toNat) := by
      unfold w47; rw [eold]; rfl
    have hro := rises_P hold.1
    have hrl := rises_P hok.1
    refine ⟨⟨0, kn, kbs, kclk⟩, ⟨by simp, by simp, knAt_zero⟩, ⟨rfl, rfl, rfl, rfl, rfl, rfl, rfl, rfl, rfl, rfl, rfl, rfl, rfl⟩, ?_⟩
    rintro ⟨k, kn8, kb8, kc8⟩ ⟨k1, k2, k3⟩ _ _ _ _ _ _ _ _ hnd _ _ _ _
    have k1 : 0 ≤ k := k1
    have k2 : k ≤ ((w47 a rep ⟨i, [(a, (old, t, ms))], bs, clk, kn, kbs, kclk⟩ ⟨[(a, (old, t, min (ms + 1) 1000))], b6, c6⟩).length : Int) := k2
    have k3 : knAt kn (rowL rep i.toNat) (w47 a rep ⟨i, [(a, (old, t, ms))], bs, clk, kn, kbs, kclk⟩ ⟨[(a, (old, t, min (ms + 1) 1000))], b6, c6⟩) k.toNat kn8 := k3
    have hnd : (kn8.map (·.1)).Nodup := hnd
    rw [eC] at k2 k3
    refine ⟨fun hk => ?_, fun hk => ?_⟩
    · have hk : k < ((w47 a rep ⟨i, [(a, (old, t, ms))], bs, clk, kn, kbs, kclk⟩ ⟨[(a, (old, t, min (ms + 1) 1000))], b6, c6⟩).length : Int) := of_decide_eq_true hk
      have hk12 := hk
      rw [eC] at hk
      have p12 : part12 a rep ⟨i, [(a, (old, t, ms))], bs, clk, kn, kbs, kclk⟩ ⟨[(a, (old, t, min (ms + 1) 1000))], b6, c6⟩ ⟨k, kn8, kb8, kc8⟩ := ⟨k1, hk12⟩
      refine ⟨p12, ⟨0, true⟩, ⟨by simp, by simp, ⟨fun _ j h => by simp only at h; omega, fun _ => rfl⟩⟩, ⟨rfl, rfl, rfl, rfl, rfl, rfl, rfl, rfl, rfl, rfl, rfl, rfl, rfl, rfl, rfl, rfl, rfl, rfl, rfl, rfl, rfl, rfl, rfl⟩, ?_⟩
      rintro ⟨z, gone⟩ ⟨z1, z2, z3⟩ _ _ _ _ _ _ _ _ _ _ _ _ _ _ _ _ _ _ _ _ _
      have z1 : 0 ≤ z := z1
      have z2 : z ≤ ((rowL rep i.toNat).length : Int) := z2
      have z3 : gone = true ↔ ∀ j : Nat, (j : Int) < z → keyR (rowR0 (rowL rep i.toNat) j) ≠ keyR (rowR0 (w47 a rep ⟨i, [(a, (old, t, ms))], bs, clk, kn, kbs, kclk⟩ ⟨[(a, (old, t, min (ms + 1) 1000))], b6, c6⟩) k.toNat) := z3
      have hkl : k.toNat < (chg old (rowL rep i.toNat)).length := by omega
      have eAt := row_at hkl
      refine ⟨⟨i1, hi⟩, fun hz => ⟨fun _ => ⟨⟨i1, hi⟩, ⟨z1, of_decide_eq_true hz⟩, p12⟩, ?_⟩, fun hz => ⟨⟨fun _ => ⟨fun _ => ⟨p12, fun _ => ⟨p12, fun _ => ⟨p12, p12⟩⟩⟩, fun _ => p12⟩, fun _ => ⟨p12, p12⟩⟩, fun hg => ?_, fun hg => ?_⟩⟩
      · have hz : z < ((rowL rep i.toNat).length : Int) := of_decide_eq_true hz
        have ez : IntKind.i64.wrap (z + 1) = z + 1 := w64b (by omega) (by omega)
        refine ⟨⟨z + 1, _⟩, ⟨by simp only; omega, show z + 1 ≤ ((rowL rep i.toNat).length : Int) by omega, ?_⟩, ?_, rfl, ez, rfl, rfl, rfl, rfl, rfl, rfl, rfl, rfl, rfl, rfl, rfl, rfl, rfl, rfl, rfl, rfl, rfl, rfl, rfl, rfl, rfl⟩
        · exact gone_step z1 z3
        · show ((500 : Int) - (z + 1)).toNat < ((500 : Int) - z).toNat
          omega
      · have zl : z = ((rowL rep i.toNat).length : Int) := by
          have hz : ¬ z < ((rowL rep i.toNat).length : Int) := of_decide_eq_false (Rp.nB hz)
          omega
        rw [eC, eAt] at z3
        have st := knAt_step (chg_ok _ _ hro hrl).1 k3 hkl (g := gone) (gone_end zl z3)
        have ek : IntKind.i64.wrap (k + 1) = k + 1 := by
          have := chg_len old (rowL rep i.toNat)
          have := hold.2
          exact w64b (by omega) (by omega)
        refine ⟨⟨k + 1, _, _, _⟩, ⟨by simp only; omega, ?_, ?_⟩, ?_, ek, rfl, rfl, rfl, rfl, rfl, rfl, rfl, rfl, rfl, rfl, rfl, rfl⟩
        · show k + 1 ≤ ((w47 a rep ⟨i, [(a, (old, t, ms))], bs, clk, kn, kbs, kclk⟩ ⟨[(a, (old, t, min (ms + 1) 1000))], b6, c6⟩).length : Int)
          omega
        · show knAt kn (rowL rep i.toNat) (w47 a rep ⟨i, [(a, (old, t, ms))], bs, clk, kn, kbs, kclk⟩ ⟨[(a, (old, t, min (ms + 1) 1000))], b6, c6⟩) (k + 1).toNat (knStep kn8 gone (rowR0 (w47 a rep ⟨i, [(a, (old, t, ms))], bs, clk, kn, kbs, kclk⟩ ⟨[(a, (old, t, min (ms + 1) 1000))], b6, c6⟩) k.toNat))
          rw [eC, eAt, show (k + 1).toNat = k.toNat + 1 by omega]
          exact st
        · show (((w47 a rep ⟨i, [(a, (old, t, ms))], bs, clk, kn, kbs, kclk⟩ ⟨[(a, (old, t, min (ms + 1) 1000))], b6, c6⟩).length : Int) - (k + 1)).toNat < (((w47 a rep ⟨i, [(a, (old, t, ms))], bs, clk, kn, kbs, kclk⟩ ⟨[(a, (old, t, min (ms + 1) 1000))], b6, c6⟩).length : Int) - k).toNat
          omega
      · have zl : z = ((rowL rep i.toNat).length : Int) := by
          have hz : ¬ z < ((rowL rep i.toNat).length : Int) := of_decide_eq_false (Rp.nB hz)
          omega
        rw [eC, eAt] at z3
        have hg1 := (Bool.and_eq_true_iff.1 hg)
        have hg2 := (Bool.and_eq_true_iff.1 hg1.2).2
        obtain ⟨o, ho1, ho2⟩ := gone_ok hro hrl hkn k3 hkl ((gone_end zl z3).1 hg1.1)
        rw [← eAt, ← eC] at ho1 ho2
        have no := goneNo (d := w59) ho1 ho2
        exact absurd (hg2.symm.trans no) (by simp)
    · have hk : ¬ k < ((w47 a rep ⟨i, [(a, (old, t, ms))], bs, clk, kn, kbs, kclk⟩ ⟨[(a, (old, t, min (ms + 1) 1000))], b6, c6⟩).length : Int) := of_decide_eq_false (Rp.nB hk)
      rw [eC] at hk
      have hkn8 : knows kn8 (rowL rep i.toNat) := knAt_end hro hrl hkn (by rw [show (chg old (rowL rep i.toNat)).length = k.toNat by omega]; exact k3)
      have hlen := knows_len hnd hrl hkn8
      refine ⟨⟨?_, i1, hi⟩, fun h76 => ?_, fun _ => ?_⟩
      · show kn8.length ≤ 9223372036854775807
        omega
      · have h76 : ((kn8.length : Int)) ≠ ((rowL rep i.toNat).length : Int) := of_decide_eq_true h76
        omega
      refine ⟨⟨0⟩, ⟨by simp, by simp⟩, ⟨rfl, rfl, rfl, rfl, rfl, rfl, rfl, rfl, rfl, rfl, rfl, rfl, rfl⟩, ?_⟩
      rintro ⟨z⟩ ⟨z1, z2⟩ _ _ _ _ _ _ _ _ _ _ _ _ _
      have z1 : 0 ≤ z := z1
      have z2 : z ≤ (rowL rep i.toNat).length := z2
      refine ⟨⟨i1, hi⟩, fun hz => ?_, fun _ => ?_⟩
      · have hz : z < ((rowL rep i.toNat).length : Int) := of_decide_eq_true hz
        have ez : IntKind.i64.wrap (z + 1) = z + 1 := w64b (by omega) (by omega)
        refine ⟨⟨⟨i1, hi⟩, ⟨z1, hz⟩, ⟨i1, hi⟩, z1, hz⟩, fun h81 => ?_, fun _ => ⟨⟨z + 1⟩, ⟨by simp only; omega, show z + 1 ≤ ((rowL rep i.toNat).length : Int) by omega⟩, ?_, ez, rfl, rfl, rfl, rfl, rfl, rfl, rfl, rfl, rfl, rfl, rfl, rfl⟩⟩
        · have hg := hkn8.1 _ (row_mem (l := rowL rep i.toNat) (j := z.toNat) (by omega))
          have h81' := same7 (d := w59) hg
          exact absurd (h81.symm.trans h81') (by simp)
        · show ((500 : Int) - (z + 1)).toNat < ((500 : Int) - z).toNat
          omega
      · have e44 : w44 a rep ⟨i, [(a, (old, t, ms))], bs, clk, kn, kbs, kclk⟩ ⟨[(a, (old, t, min (ms + 1) 1000))], b6, c6⟩ = [(a, (rowL rep i.toNat, true, 0))] := mput_one a _ _
        have e82 : w82 a rep ⟨i, [(a, (old, t, ms))], bs, clk, kn, kbs, kclk⟩ ⟨[(a, (old, t, min (ms + 1) 1000))], b6, c6⟩ = rowL rep i.toNat := by
          unfold w82 oldOf; rw [e44, mget_one]; rfl
        have e83 : w83 a rep ⟨i, [(a, (old, t, ms))], bs, clk, kn, kbs, kclk⟩ ⟨[(a, (old, t, min (ms + 1) 1000))], b6, c6⟩ = true := by
          unfold w83; rw [e44, mget_one]; rfl
        have e84 : w84 a rep ⟨i, [(a, (old, t, ms))], bs, clk, kn, kbs, kclk⟩ ⟨[(a, (old, t, min (ms + 1) 1000))], b6, c6⟩ = [] := by
          unfold w84; rw [e82]; exact chg_same _
        have e87 : w87 a rep ⟨i, [(a, (old, t, ms))], bs, clk, kn, kbs, kclk⟩ ⟨[(a, (old, t, min (ms + 1) 1000))], b6, c6⟩ = [(a, (rowL rep i.toNat, true, 0))] := by
          unfold w87; rw [e44]; exact mput_one a _ _
        refine ⟨⟨i1, hi⟩, p4, ⟨?_, ?_⟩, fun h => ?_, fun _ hb => (hb hok).elim, fun _ _ => ⟨fun h => ?_, fun _ => ?_⟩⟩
        · show (rowL rep i.toNat).length ≤ 1000000
          omega
        · rw [e82]; exact hok.2
        · rw [e83] at h; cases h
        · unfold w85 at h; rw [e84] at h; exact absurd (of_decide_eq_true h) (by simp)
        have ei : IntKind.i64.wrap (i + 1) = i + 1 := w64b (by omega) (by omega)
        have p20 : part20 a most rep (ivs a rep) ⟨i, [(a, (old, t, ms))], bs, clk, kn, kbs, kclk⟩ ⟨[(a, (old, t, min (ms + 1) 1000))], b6, c6⟩ ⟨k, kn8, kb8, kc8⟩ := by
          refine ⟨⟨i + 1, _, _, _, _, _, _⟩, ⟨by simp only; omega, by simp only; omega, rowL rep i.toNat, true, 0, e87, by omega, by omega, hok, hkn8⟩, ?_, ei, rfl, rfl, rfl, rfl, rfl, rfl, rfl, rfl, rfl, rfl⟩
          show ((rep.length : Int) - (i + 1)).toNat < ((rep.length : Int) - i).toNat
          omega
        refine ⟨fun h86 => ⟨by rw [e87]; simp, ⟨0⟩, rfl, ⟨rfl, rfl, rfl, rfl, rfl, rfl, rfl, rfl, rfl, rfl, rfl, rfl⟩, ?_⟩, fun _ => p20⟩
        rintro ⟨q⟩ hq _ _ _ _ _ _ _ _ _ _ _ _
        have hq : q = 0 := hq
        subst hq
        have e90 : w90 a rep ⟨i, [(a, (old, t, ms))], bs, clk, kn, kbs, kclk⟩ ⟨[(a, (old, t, min (ms + 1) 1000))], b6, c6⟩ = [a] := by
          unfold w90; rw [e87]; exact machs_one _ _
        have e94 : w94 a rep ⟨i, [(a, (old, t, ms))], bs, clk, kn, kbs, kclk⟩ ⟨[(a, (old, t, min (ms + 1) 1000))], b6, c6⟩ = 1 := by
          unfold w94; rw [e90]; rfl
        have h86 : 2 ≤ most := of_decide_eq_true h86
        have key : ∀ (mm : Mp) (l : List Int) (d : Seen), mm = [(a, (rowL rep i.toNat, true, 0))] → l = [a] → decide (((mget mm (rowI l 0)).getD d).2.2 < most) = true := fun mm l d h1 h2 => by
          subst h1; subst h2
          rw [show rowI [a] 0 = a from rfl, mget_one]
          exact decide_eq_true (show (0 : Int) < most by omega)
        refine ⟨fun _ => ⟨⟨by simp, by rw [e94]; simp⟩, fun _ => ⟨fun h => absurd (of_decide_eq_true h) (by simp), fun _ => ?_⟩, fun h => ?_⟩, fun h => ?_⟩
        · refine ⟨⟨0, 1, _⟩, ⟨rfl, rfl, rfl⟩, ⟨rfl, rfl, rfl, rfl, rfl, rfl, rfl, rfl, rfl, rfl, rfl, rfl⟩, ?_⟩
          rintro ⟨q, j, rows⟩ ⟨d1, d2, d3⟩ _ _ _ _ _ _ _ _ _ _ _ _
          have d1 : q = 0 := d1
          have d2 : j = 1 := d2
          have f3 : rows = [a] := Eq.trans d3 e90
          have f4 : ¬ (1 : Int) < (rows.length : Int) := by rw [f3]; simp
          clear d3 f3
          subst d1; subst d2
          exact ⟨fun h => absurd (of_decide_eq_true h) f4, fun _ => ⟨⟨Int.le_refl _, Int.natCast_nonneg _⟩, ⟨Int.le_refl _, Int.natCast_nonneg _⟩, fun h => absurd (of_decide_eq_true h) (by simp [hiT]), fun _ => p20⟩⟩
        · exact absurd ((key _ _ _ e87 e90).symm.trans (Rp.nB h)) (by simp)
        · have h := of_decide_eq_false (Rp.nB h)
          rw [e94] at h
          exact absurd (show (0 : Int) < 1 by omega) h
end Df
end
end Go.Proofs.Ytdohdhphpjhcjaa.Sh
