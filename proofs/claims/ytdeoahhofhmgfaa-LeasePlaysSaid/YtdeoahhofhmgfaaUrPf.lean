/- A part of the proof that 'reevelaw26.LeasePlays' returns true for every input: until when a holder is valid, in the document's words. No condition. -/
import Derived.Test.YtdeoahhofhmgfaaUrVc
import Derived.Test.YtdeoahhofhmgfaaUtPf
namespace Go.Proofs.Ytdeoahhofhmgfaa.LeasePlays.Ref
open Go.AM
noncomputable section
/-- What was answered, as a map: who, and his tick. -/
def mpOf (has : List Bool) (tk : List Int) (n : Int) : Mp := ((List.range n.toNat).filter (rowB has)).map fun (k : Nat) => (((k : Int), rowI tk k) : Int × Int)
def cnt (V : List Int) (v : Int) : Nat := (V.filter fun w => decide (v ≤ w)).length
theorem cnt_perm {V W : List Int} (h : V.Perm W) (v : Int) : cnt V v = cnt W v := (h.filter _).length_eq
theorem cnt_le (V : List Int) (v : Int) : cnt V v ≤ V.length := List.length_filter_le ..
theorem sorted (l : List Int) : List.Pairwise (fun a b => a ≤ b) (sortI l) := by
  have : List.Pairwise (fun a b => decide (a ≤ b) = true) (sortI l) :=
    List.pairwise_mergeSort (fun a b c h1 h2 => by simp only [decide_eq_true_eq] at *; omega) (fun a b => by simp only [Bool.or_eq_true, decide_eq_true_eq]; omega) l
  exact this.imp fun h => by simpa using h
theorem rowI_at {l : List Int} {j : Nat} (h : j < l.length) : rowI l j = l[j] := getD_at h 0
theorem filter_all {α : Type} {p : α → Bool} : ∀ {l : List α}, (∀ a ∈ l, p a = true) → l.filter p = l := fun h => List.filter_eq_self.2 h
/-- The one that so many are at least. -/
theorem top {V : List Int} {M : Nat} (h1 : 1 ≤ M) (hM : M ≤ V.length) : rowI (sortI V) (V.length - M) ∈ V ∧ M ≤ cnt V (rowI (sortI V) (V.length - M)) ∧ ∀ v, v ∈ V → M ≤ cnt V v → v ≤ rowI (sortI V) (V.length - M) := by
  have hp := sortI_perm V
  have hl : (sortI V).length = V.length := sortI_length V
  have hs := sorted V
  generalize hS : sortI V = S at *
  have hi : V.length - M < S.length := by omega
  rw [rowI_at hi]
  have hpw := List.pairwise_iff_getElem.1 hs
  refine ⟨hp.mem_iff.1 (List.getElem_mem _), ?_, fun v hv hc => ?_⟩
  · rw [← cnt_perm hp]
    have key : ∀ x : Int, (∀ a ∈ S.drop (V.length - M), x ≤ a) → M ≤ cnt S x := fun x hx => by
      unfold cnt
      have e : S = S.take (V.length - M) ++ S.drop (V.length - M) := (List.take_append_drop ..).symm
      have h3 : (S.drop (V.length - M)).filter (fun w => decide (x ≤ w)) = S.drop (V.length - M) := filter_all fun a ha => decide_eq_true (hx a ha)
      have h2 : (S.drop (V.length - M)).length = M := by rw [List.length_drop]; omega
      rw [e, List.filter_append, List.length_append, h3, h2]; omega
    refine key _ fun a ha => ?_
    obtain ⟨k, hk, rfl⟩ := List.getElem_of_mem ha
    rw [List.getElem_drop]
    rw [List.length_drop] at hk
    by_cases hk0 : k = 0
    · subst hk0; exact Int.le_refl _
    · exact hpw _ _ _ _ (by omega)
  · rcases Int.lt_or_le S[V.length - M] v with hlt | hle
    · exfalso
      rw [← cnt_perm hp] at hc
      unfold cnt at hc
      have e : S = S.take (V.length - M + 1) ++ S.drop (V.length - M + 1) := (List.take_append_drop ..).symm
      rw [e, List.filter_append, List.length_append] at hc
      have h0 : (S.take (V.length - M + 1)).filter (fun w => decide (v ≤ w)) = [] := by
        refine List.filter_eq_nil_iff.2 fun a ha => ?_
        obtain ⟨k, hk, rfl⟩ := List.getElem_of_mem ha
        rw [List.getElem_take]
        rw [List.length_take] at hk
        have : S[k] ≤ S[V.length - M] := by
          by_cases hke : k = V.length - M
          · subst hke; exact Int.le_refl _
          · exact hpw _ _ _ _ (by omega)
        simp only [decide_eq_true_eq]; omega
      have h2 := List.length_filter_le (fun w => decide (v ≤ w)) (S.drop (V.length - M + 1))
      rw [h0] at hc
      rw [List.length_drop] at h2
      simp only [List.length_nil] at hc
      omega
    · exact hle
theorem vals_mpOf (has : List Bool) (tk : List Int) (n : Int) : vals (mpOf has tk n) = ((List.range n.toNat).filter (rowB has)).map (rowI tk) := by
  simp [vals, mpOf]
/-- Who is at least that. -/
def whoOf (has : List Bool) (tk : List Int) (x : Int) (k : Nat) : List Nat := (List.range k).filter fun j => rowB has j && decide (x ≤ rowI tk j)
theorem whoOf_len (has : List Bool) (tk : List Int) (x : Int) (n : Int) : (whoOf has tk x n.toNat).length = cnt (vals (mpOf has tk n)) x := by
  rw [vals_mpOf]
  unfold cnt whoOf
  rw [List.filter_map, List.length_map, List.filter_filter]
  congr 1
  refine List.filter_congr fun j _ => ?_
  simp [Bool.and_comm]
theorem whoOf_succ (has : List Bool) (tk : List Int) (x : Int) (k : Nat) : whoOf has tk x (k + 1) = whoOf has tk x k ++ (bif rowB has k && decide (x ≤ rowI tk k) then [k] else []) := by
  unfold whoOf
  rw [List.range_succ, List.filter_append]
  congr 1
def castL (l : List Nat) : List Int := l.map fun (j : Nat) => (j : Int)
/-- How many of the first are told. -/
def told (who : List Int) (i : Nat) : Nat := ((List.range i).filter fun (j : Nat) => decide ((j : Int) ∈ who)).length
theorem told_succ (who : List Int) (i : Nat) : told who (i + 1) = told who i + (bif decide ((i : Int) ∈ who) then 1 else 0) := by
  unfold told
  rw [List.range_succ, List.filter_append, List.length_append]
  congr 1
  cases h : decide ((i : Int) ∈ who)
  · simp only [List.filter_cons, h]; rfl
  · simp only [List.filter_cons, h]; rfl
theorem told_le (who : List Int) (i : Nat) : told who i ≤ i := by
  unfold told
  have := List.length_filter_le (fun j : Nat => decide ((j : Int) ∈ who)) (List.range i)
  rw [List.length_range] at this; exact this
theorem told_who (has : List Bool) (tk : List Int) (x : Int) (n : Nat) : told (castL (whoOf has tk x n)) n = (whoOf has tk x n).length := by
  unfold told
  congr 1
  unfold whoOf
  refine List.filter_congr fun j hj => ?_
  have hj := List.mem_range.1 hj
  cases h : rowB has j && decide (x ≤ rowI tk j)
  · refine decide_eq_false fun hm => ?_
    obtain ⟨k, hk, e⟩ := List.mem_map.1 hm
    have : k = j := by omega
    subst this
    rw [(List.mem_filter.1 hk).2] at h; cases h
  · exact decide_eq_true (List.mem_map.2 ⟨j, List.mem_filter.2 ⟨List.mem_range.2 hj, h⟩, rfl⟩)
/-- One that so many are at least. -/
def good (has : List Bool) (tk : List Int) (n : Int) (k : Nat) : Prop := rowB has k = true ∧ n / 2 + 1 ≤ (cnt (vals (mpOf has tk n)) (rowI tk k) : Int)
def invO (has : List Bool) (tk : List Int) (n : Int) (s : O1) : Prop :=
  0 ≤ s.i ∧ s.i ≤ n ∧ (s.is = true → ∃ k : Nat, (k : Int) < s.i ∧ good has tk n k ∧ rowI tk k = s.best) ∧ (∀ k : Nat, (k : Int) < s.i → good has tk n k → s.is = true ∧ rowI tk k ≤ s.best)
def invK (has : List Bool) (tk : List Int) (n i : Int) (s : K1) : Prop := 0 ≤ s.k ∧ s.k ≤ n ∧ s.who = castL (whoOf has tk (rowI tk i.toNat) s.k.toNat)
def invQ (who : List Int) (n : Int) (s : Q1) : Prop := who.length ≤ 7 ∧ 0 ≤ s.i ∧ s.i ≤ n ∧ s.c = (told who s.i.toNat : Nat)
def invP (who : List Int) (i : Int) (s : P1) : Prop := who.length ≤ 7 ∧ 0 ≤ s.j ∧ s.j ≤ who.length ∧ s.h = decide (i ∈ who.take s.j.toNat)
def invR (n : Int) (s : R1) : Prop := 0 ≤ s.k ∧ 2 * (s.k - 1) ≤ n
theorem whoOf_le (has : List Bool) (tk : List Int) (x : Int) (k : Nat) : (whoOf has tk x k).length ≤ k := by
  have := List.length_filter_le (fun j => rowB has j && decide (x ≤ rowI tk j)) (List.range k)
  rw [List.length_range] at this; exact this
theorem castL_len (l : List Nat) : (castL l).length = l.length := List.length_map ..

theorem stepO {has : List Bool} {tk : List Int} {n : Int} {s : O1} (h : invO has tk n s) (hlt : s.i < n) {g : Bool} (hg : g = true ↔ good has tk n s.i.toNat) :
    invO has tk n ⟨s.i + 1, bif g && (!s.is || decide (s.best < rowI tk s.i.toNat)) then rowI tk s.i.toNat else s.best, (g && (!s.is || decide (s.best < rowI tk s.i.toNat))) || s.is⟩ := by
  obtain ⟨i, best, is⟩ := s
  obtain ⟨h0, h1, h2, h3⟩ := h
  simp only at *
  refine ⟨by simp only; omega, by simp only; omega, fun his => ?_, fun k hk hgk => ?_⟩
  · simp only at his ⊢
    cases hc : g && (!is || decide (best < rowI tk i.toNat))
    · rw [hc, Bool.false_or] at his
      obtain ⟨k, hk, hk2, hk3⟩ := h2 his
      exact ⟨k, by omega, hk2, by rw [cond_false]; exact hk3⟩
    · rw [Bool.and_eq_true] at hc
      exact ⟨i.toNat, by omega, hg.1 hc.1, by rw [cond_true]⟩
  · simp only at hk ⊢
    by_cases hki : (k : Int) < i
    · obtain ⟨a, b⟩ := h3 k hki hgk
      cases hc : g && (!is || decide (best < rowI tk i.toNat))
      · exact ⟨by rw [a]; rfl, by rw [cond_false]; exact b⟩
      · refine ⟨rfl, ?_⟩
        rw [cond_true]
        rw [Bool.and_eq_true, a] at hc
        have : best < rowI tk i.toNat := of_decide_eq_true (by simpa using hc.2)
        omega
    · have : k = i.toNat := by omega
      subst this
      rw [hg.2 hgk, Bool.true_and]
      cases is
      · exact ⟨rfl, by simp⟩
      · cases hd : decide (best < rowI tk i.toNat)
        · have := of_decide_eq_false hd
          exact ⟨rfl, by simp; omega⟩
        · exact ⟨rfl, by simp⟩
theorem take_succ_mem {who : List Int} {j : Nat} (h : j < who.length) (i : Int) : (decide (i ∈ who.take j) || decide (rowI who j = i)) = decide (i ∈ who.take (j + 1)) := by
  have e : who.take (j + 1) = who.take j ++ [who[j]] := by rw [List.take_add_one, List.getElem?_eq_getElem h]; rfl
  rw [rowI_at h, e, Bool.eq_iff_iff]
  simp only [Bool.or_eq_true, decide_eq_true_eq, List.mem_append, List.mem_singleton]
  exact ⟨fun h => h.elim .inl fun h => .inr h.symm, fun h => h.elim .inl fun h => .inr h.symm⟩
theorem has_ok {has : List Bool} {tk : List Int} {n : Int} {k : Nat} (hk : (k : Int) < n) (h : rowB has k = true) : rowI tk k ∈ vals (mpOf has tk n) := by
  rw [vals_mpOf]
  exact List.mem_map.2 ⟨k, List.mem_filter.2 ⟨List.mem_range.2 (by omega), h⟩, rfl⟩
theorem has_of {has : List Bool} {tk : List Int} {n x : Int} (h : x ∈ vals (mpOf has tk n)) : ∃ k : Nat, (k : Int) < n ∧ rowB has k = true ∧ rowI tk k = x := by
  rw [vals_mpOf] at h
  obtain ⟨k, hk, e⟩ := List.mem_map.1 h
  obtain ⟨h1, h2⟩ := List.mem_filter.1 hk
  exact ⟨k, by have := List.mem_range.1 h1; omega, h2, e⟩
theorem vals_len (m : Mp) : (vals m).length = m.length := List.length_map ..
/-- Nothing told: too few. -/
theorem none_end {has : List Bool} {tk : List Int} {n : Int} {s : O1} (h1 : 1 ≤ n) (h : invO has tk n s) (hn : ¬ s.i < n) (his : s.is = false) : untilB (mpOf has tk n) n = false := by
  cases hb : untilB (mpOf has tk n) n
  · rfl
  · exfalso
    have hge : ¬ ((mpOf has tk n).length : Int) < n / 2 + 1 := of_decide_eq_false (nt hb)
    obtain ⟨a, b, _⟩ := top (V := vals (mpOf has tk n)) (M := (n / 2 + 1).toNat) (by omega) (by rw [vals_len]; omega)
    obtain ⟨k, hk, hk1, hk2⟩ := has_of a
    have := (h.2.2.2 k (by have := h.2.1; omega) ⟨hk1, by rw [hk2]; omega⟩).1
    rw [his] at this; cases this
theorem some_end {has : List Bool} {tk : List Int} {n : Int} {s : O1} (h1 : 1 ≤ n) (h : invO has tk n s) (hn : ¬ s.i < n) (his : s.is = true) : untilB (mpOf has tk n) n = true ∧ s.best = rowI (sortI (vals (mpOf has tk n))) ((mpOf has tk n).length - (n / 2 + 1)).toNat := by
  obtain ⟨k, hk, ⟨hk1, hk2⟩, hk3⟩ := h.2.2.1 his
  have hle := cnt_le (vals (mpOf has tk n)) (rowI tk k)
  rw [vals_len] at hle
  have hge : n / 2 + 1 ≤ ((mpOf has tk n).length : Int) := by omega
  refine ⟨by unfold untilB; rw [decide_eq_false (by omega)]; rfl, ?_⟩
  obtain ⟨a, b, c⟩ := top (V := vals (mpOf has tk n)) (M := (n / 2 + 1).toNat) (by omega) (by rw [vals_len]; omega)
  have e : ((mpOf has tk n).length - (n / 2 + 1)).toNat = (vals (mpOf has tk n)).length - (n / 2 + 1).toNat := by rw [vals_len]; omega
  rw [e]
  obtain ⟨k', hk', hk1', hk2'⟩ := has_of a
  have d := (h.2.2.2 k' (by have := h.2.1; omega) ⟨hk1', by rw [hk2']; omega⟩).2
  have d2 := c s.best (hk3 ▸ has_ok (by have := h.2.1; omega) hk1) (by rw [← hk3]; omega)
  rw [hk2'] at d
  omega

set_option maxHeartbeats 0 in
theorem ref_ok {bR bN n len bound : Int} {has : List Bool} {tk : List Int} (hl1 : has.length = n.toNat) (hl2 : tk.length = n.toNat) (h1 : 1 ≤ n) (h7 : n ≤ 7) :
    owed bR bN n len bound has tk (untilU (mpOf has tk n) n len bound) (untilB (mpOf has tk n) n) invO invK invQ invP invR := by
  have hh : (has.length : Int) = n := by omega
  have ht : (tk.length : Int) = n := by omega
  refine ⟨⟨0, 0, false⟩, ⟨by show (0 : Int) ≤ 0; omega, by show (0 : Int) ≤ n; omega, fun h => (nomatch h), fun k hk => by simp at hk; omega⟩, ⟨rfl, rfl, rfl, rfl, rfl, rfl, rfl, rfl, rfl, rfl⟩, fun s hi _ _ _ _ _ _ _ _ _ => ⟨fun hw0 => ?_, fun hw0 => ?_⟩⟩
  · have hi : invO has tk n s := hi
    have hlt : s.i < n := of_decide_eq_true hw0
    have hi0 := hi.1
    have e4 : w4 s = s.i + 1 := w64b (by omega) (by omega)
    refine ⟨⟨hi0, by show s.i < (has.length : Int); omega⟩, fun hw2 => ?_, fun hw2 => ?_⟩
    · have hng : ¬ good has tk n s.i.toNat := fun hg => by
        have : rowB has s.i.toNat = false := nt hw2
        rw [hg.1] at this; cases this
      have := stepO hi hlt (g := false) ⟨fun h => (nomatch h), fun h => (hng h).elim⟩
      exact ⟨⟨s.i + 1, s.best, s.is⟩, this, by show (n - (s.i + 1)).toNat < (n - s.i).toNat; omega, rfl, rfl, e4, rfl, rfl, rfl, rfl, rfl, rfl, rfl⟩
    · have hb : rowB has s.i.toNat = true := by
        have h : (!rowB has s.i.toNat) = false := nt hw2
        simpa using h
      refine ⟨⟨0, []⟩, ⟨by show (0 : Int) ≤ 0; omega, by show (0 : Int) ≤ n; omega, rfl⟩, ⟨rfl, rfl, rfl, rfl, rfl, rfl, rfl, rfl, rfl, rfl, rfl, rfl⟩, fun s1 hi1 _ _ _ _ _ _ _ _ _ _ _ => ⟨fun hw6 => ⟨⟨⟨hi1.1, ?_⟩, fun _ => ⟨⟨hi1.1, ?_⟩, hi0, ?_⟩⟩, fun hw8 => ⟨?_, ?_⟩, fun hw8 => ?_⟩, fun hw6 => ?_⟩⟩
      · have hi1 : invK has tk n s.i s1 := hi1
        have : s1.k < n := of_decide_eq_true hw6
        show s1.k < (has.length : Int); omega
      · have hi1 : invK has tk n s.i s1 := hi1
        have : s1.k < n := of_decide_eq_true hw6
        show s1.k < (tk.length : Int); omega
      · show s.i < (tk.length : Int); omega
      · have hi1 : invK has tk n s.i s1 := hi1
        have : s1.k < n := of_decide_eq_true hw6
        have hk0 := hi1.1
        have e10 : w10 has s1 = s1.who := by unfold w10; cases rowB has s1.k.toNat <;> rfl
        have : w12 has s1 ≤ 8 := by
          have h1 := whoOf_le has tk (rowI tk s.i.toNat) s1.k.toNat
          have h2 := congrArg List.length hi1.2.2
          rw [castL_len] at h2
          simp only [w12, w11, e10, List.length_append, List.length_cons, List.length_nil]
          have h2 : s1.who.length = (whoOf has tk (rowI tk s.i.toNat) s1.k.toNat).length := h2
          omega
        exact ⟨by omega, by omega⟩
      · have hi1 : invK has tk n s.i s1 := hi1
        have hk : s1.k < n := of_decide_eq_true hw6
        have hk0 := hi1.1
        have e10 : w10 has s1 = s1.who := by unfold w10; cases rowB has s1.k.toNat <;> rfl
        have e14 : w14 s1 = s1.k + 1 := w64b (by omega) (by omega)
        have ek : (s1.k + 1).toNat = s1.k.toNat + 1 := by omega
        have ec : ((s1.k.toNat : Nat) : Int) = s1.k := by omega
        refine ⟨⟨s1.k + 1, s1.who ++ [s1.k]⟩, ⟨by show 0 ≤ s1.k + 1; omega, by show s1.k + 1 ≤ n; omega, ?_⟩, by show (n - (s1.k + 1)).toNat < (n - s1.k).toNat; omega, e14, rfl, rfl, rfl, rfl, rfl, rfl, rfl, rfl, rfl, rfl, by rw [w11, e10]⟩
        show s1.who ++ [s1.k] = castL (whoOf has tk (rowI tk s.i.toNat) (s1.k + 1).toNat)
        have h8 : (rowB has s1.k.toNat && decide (rowI tk s.i.toNat ≤ rowI tk s1.k.toNat)) = true := hw8
        rw [ek, whoOf_succ, h8, cond_true, castL, List.map_append, ← castL, ← hi1.2.2]
        simp [ec]
      · have hi1 : invK has tk n s.i s1 := hi1
        have hk : s1.k < n := of_decide_eq_true hw6
        have hk0 := hi1.1
        have e10 : w10 has s1 = s1.who := by unfold w10; cases rowB has s1.k.toNat <;> rfl
        have e14 : w14 s1 = s1.k + 1 := w64b (by omega) (by omega)
        have ek : (s1.k + 1).toNat = s1.k.toNat + 1 := by omega
        refine ⟨⟨s1.k + 1, s1.who⟩, ⟨by show 0 ≤ s1.k + 1; omega, by show s1.k + 1 ≤ n; omega, ?_⟩, by show (n - (s1.k + 1)).toNat < (n - s1.k).toNat; omega, e14, rfl, rfl, rfl, rfl, rfl, rfl, rfl, rfl, rfl, rfl, e10⟩
        show s1.who = castL (whoOf has tk (rowI tk s.i.toNat) (s1.k + 1).toNat)
        have h8 : (rowB has s1.k.toNat && decide (rowI tk s.i.toNat ≤ rowI tk s1.k.toNat)) = false := hw8
        rw [ek, whoOf_succ, h8, cond_false, List.append_nil]; exact hi1.2.2
      · have hi1 : invK has tk n s.i s1 := hi1
        have hk : ¬ s1.k < n := of_decide_eq_false (nt hw6)
        have hkn : s1.k = n := by have := hi1.2.1; omega
        have hwho : s1.who = castL (whoOf has tk (rowI tk s.i.toNat) n.toNat) := by rw [← hkn]; exact hi1.2.2
        have hwl : s1.who.length ≤ 7 := by
          have h1 := whoOf_le has tk (rowI tk s.i.toNat) n.toNat
          rw [hwho, castL_len]; omega
        refine ⟨⟨0, 0⟩, ⟨hwl, by show (0 : Int) ≤ 0; omega, by show (0 : Int) ≤ n; omega, rfl⟩, ⟨rfl, rfl, rfl, rfl, rfl, rfl, rfl, rfl, rfl, rfl, rfl⟩, fun s2 hi2 _ _ _ _ _ _ _ _ _ _ _ => ⟨fun hw18 => ?_, fun hw18 => ?_⟩⟩
        · have hi2 : invQ s1.who n s2 := hi2
          have h2n : s2.i < n := of_decide_eq_true hw18
          have h20 := hi2.2.1
          refine ⟨⟨0, false⟩, ⟨hwl, by show (0 : Int) ≤ 0; omega, by show (0 : Int) ≤ s1.who.length; omega, by rw [show ((⟨0, false⟩ : P1).j.toNat) = 0 from rfl, List.take_zero]; rfl⟩, ⟨rfl, rfl, rfl, rfl, rfl, rfl, rfl, rfl, rfl, rfl, rfl, rfl, rfl⟩, fun s3 hi3 _ _ _ _ _ _ _ _ _ _ _ _ => ⟨fun hw22 => ⟨fun _ => ⟨hi3.2.1, of_decide_eq_true hw22⟩, ?_⟩, fun hw22 => ?_⟩⟩
          · have hi3 : invP s1.who s2.i s3 := hi3
            have h3l : s3.j < (s1.who.length : Int) := of_decide_eq_true hw22
            have h30 := hi3.2.1
            have ej : (s3.j + 1).toNat = s3.j.toNat + 1 := by omega
            refine ⟨⟨s3.j + 1, s3.h || decide (rowI s1.who s3.j.toNat = s2.i)⟩, ⟨hwl, by show 0 ≤ s3.j + 1; omega, by show s3.j + 1 ≤ s1.who.length; omega, ?_⟩, by show s1.who.length - (s3.j + 1).toNat < s1.who.length - s3.j.toNat; omega, rfl, w64b (by omega) (by omega), rfl, rfl, rfl, rfl, rfl, rfl, rfl, rfl, rfl, rfl, rfl⟩
            show (s3.h || decide (rowI s1.who s3.j.toNat = s2.i)) = decide (s2.i ∈ s1.who.take (s3.j + 1).toNat)
            rw [ej, ← take_succ_mem (by omega), ← hi3.2.2.2]
          · have hi3 : invP s1.who s2.i s3 := hi3
            have h3l : ¬ s3.j < (s1.who.length : Int) := of_decide_eq_false (nt hw22)
            have h3e : s3.j.toNat = s1.who.length := by have := hi3.2.2.1; omega
            have h3h : s3.h = decide (s2.i ∈ s1.who) := by
              have := hi3.2.2.2
              rw [h3e] at this
              rw [this]
              show decide (s2.i ∈ s1.who.take s1.who.length) = _
              rw [List.take_length]
            have ei : (s2.i + 1).toNat = s2.i.toNat + 1 := by omega
            have ec : ((s2.i.toNat : Nat) : Int) = s2.i := by omega
            have hc2 : s2.c = (told s1.who s2.i.toNat : Nat) := hi2.2.2.2
            have htl := told_le s1.who s2.i.toNat
            have hts := told_succ s1.who s2.i.toNat
            rw [ec, ← h3h] at hts
            refine ⟨⟨(told s1.who (s2.i + 1).toNat : Nat), s2.i + 1⟩, ⟨hwl, by show 0 ≤ s2.i + 1; omega, by show s2.i + 1 ≤ n; omega, rfl⟩, by show (n - (s2.i + 1)).toNat < (n - s2.i).toNat; omega, ?_, w64b (by omega) (by omega), rfl, rfl, rfl, rfl, rfl, rfl, rfl, rfl, rfl⟩
            show (bif s3.h then IntKind.i64.wrap (s2.c + 1) else s2.c) = ((told s1.who (s2.i + 1).toNat : Nat) : Int)
            rw [ei, hts]
            cases s3.h
            · simp only [cond_false]; omega
            · simp only [cond_true]; rw [w64b (by omega) (by omega)]; omega
        · have hi2 : invQ s1.who n s2 := hi2
          have h2n : ¬ s2.i < n := of_decide_eq_false (nt hw18)
          have h2e : s2.i = n := by have := hi2.2.2.1; omega
          have hc2 : s2.c = (cnt (vals (mpOf has tk n)) (rowI tk s.i.toNat) : Nat) := by
            have : s2.c = (told s1.who s2.i.toNat : Nat) := hi2.2.2.2
            rw [this, h2e, hwho, told_who, whoOf_len]
          refine ⟨⟨0⟩, ⟨by show (0 : Int) ≤ 0; omega, by show 2 * ((0 : Int) - 1) ≤ n; omega⟩, ⟨rfl, rfl, rfl, rfl, rfl, rfl, rfl, rfl, rfl, rfl⟩, fun s4 hi4 _ _ _ _ _ _ _ _ _ _ => ⟨fun hw25 => ?_, fun hw25 => ⟨?_, ?_, ?_⟩⟩⟩
          · have h40 := hi4.1
            have h4n : 2 * (s4.k - 1) ≤ n := hi4.2
            have h4 : IntKind.i64.wrap (2 * s4.k) ≤ n := of_decide_eq_true hw25
            rw [w64b (by omega) (by omega)] at h4
            exact ⟨⟨s4.k + 1⟩, ⟨by show 0 ≤ s4.k + 1; omega, by show 2 * (s4.k + 1 - 1) ≤ n; omega⟩, by show (n + 2 - (s4.k + 1)).toNat < (n + 2 - s4.k).toNat; omega, w64b (by omega) (by omega), rfl, rfl, rfl, rfl, rfl, rfl, rfl, rfl, rfl⟩
          · exact fun _ _ => ⟨hi0, by show s.i < (tk.length : Int); omega⟩
          · exact fun _ => ⟨hi0, by show s.i < (tk.length : Int); omega⟩
          · have h40 := hi4.1
            have h4n : 2 * (s4.k - 1) ≤ n := hi4.2
            have h4 : ¬ IntKind.i64.wrap (2 * s4.k) ≤ n := of_decide_eq_false (nt hw25)
            rw [w64b (by omega) (by omega)] at h4
            have hg : w27 s2 s4 = true ↔ good has tk n s.i.toNat := by
              unfold w27 good
              rw [decide_eq_true_eq, hc2]
              exact ⟨fun h => ⟨hb, by omega⟩, fun h => by omega⟩
            exact ⟨_, stepO hi hlt hg, by show (n - (s.i + 1)).toNat < (n - s.i).toNat; omega, rfl, rfl, e4, rfl, rfl, rfl, rfl, rfl, rfl, rfl⟩
  · have hi : invO has tk n s := hi
    have hn : ¬ s.i < n := of_decide_eq_false (nt hw0)
    refine ⟨fun his => ?_, fun his => ?_⟩
    · have hb := none_end h1 hi hn (nt his)
      exact ⟨by unfold untilU; rw [hb]; rfl, hb.symm, rfl, rfl, rfl⟩
    · obtain ⟨hb, e⟩ := some_end h1 hi hn (by simpa using his)
      exact ⟨by unfold untilU; rw [hb, cond_true, e], hb.symm, rfl, rfl, rfl⟩
end
end Go.Proofs.Ytdeoahhofhmgfaa.LeasePlays.Ref
