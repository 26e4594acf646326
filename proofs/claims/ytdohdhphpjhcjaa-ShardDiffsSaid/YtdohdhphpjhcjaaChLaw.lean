/- A part of the proofs about shards: what changes, in plain words. No condition. -/
import Derived.Test.YtdohdhphpjhcjaaShD
namespace Go.Proofs.Ytdohdhphpjhcjaa.Sh
open Go.AM
noncomputable section
theorem ltB_irr : ∀ a : List UInt8, ltB a a = false
  | [] => rfl
  | a :: x => by
    have h : Nat.blt a.toNat a.toNat = false := Bool.eq_false_iff.2 fun h => Nat.lt_irrefl _ (Nat.blt_eq.mp h)
    simp only [ltB, h, Nat.beq_refl, cond_true, cond_false, ltB_irr x]
theorem ltB_cons {a b : UInt8} {x y : List UInt8} : ltB (a :: x) (b :: y) = true ↔ a.toNat < b.toNat ∨ (a = b ∧ ltB x y = true) := by
  simp only [ltB]
  cases h : Nat.blt a.toNat b.toNat with
  | true =>
    have : a.toNat < b.toNat := Nat.blt_eq.mp h
    simp [this]
  | false =>
    have hn : ¬ a.toNat < b.toNat := fun g => absurd (h.symm.trans (Nat.blt_eq.mpr g)) (by simp)
    cases h2 : Nat.beq a.toNat b.toNat with
    | true =>
      have := UInt8.toNat_inj.1 (Nat.eq_of_beq_eq_true h2)
      simp [this]
    | false =>
      have : a ≠ b := fun g => by subst g; simp at h2
      simp [this, hn]
theorem ltB_trans : ∀ {a b c : List UInt8}, ltB a b = true → ltB b c = true → ltB a c = true
  | _, [], _, h, _ => by simp [ltB] at h
  | _, _ :: _, [], _, h => by simp [ltB] at h
  | [], _ :: _, _ :: _, _, _ => rfl
  | a :: x, b :: y, c :: z, h1, h2 => by
    rw [ltB_cons] at *
    rcases h1 with h1 | ⟨rfl, h1⟩
    · rcases h2 with h2 | ⟨rfl, h2⟩
      · exact .inl (by omega)
      · exact .inl h1
    · rcases h2 with h2 | ⟨rfl, h2⟩
      · exact .inl h2
      · exact .inr ⟨rfl, ltB_trans h1 h2⟩
theorem ltB_tri : ∀ {a b : List UInt8}, ltB a b = true ∨ a = b ∨ ltB b a = true
  | [], [] => .inr (.inl rfl)
  | [], _ :: _ => .inl rfl
  | _ :: _, [] => .inr (.inr rfl)
  | a :: x, b :: y => by
    rw [ltB_cons, ltB_cons]
    rcases Nat.lt_trichotomy a.toNat b.toNat with h | h | h
    · exact .inl (.inl h)
    · have := UInt8.toNat_inj.1 h
      subst this
      rcases ltB_tri (a := x) (b := y) with h | h | h
      · exact .inl (.inr ⟨rfl, h⟩)
      · exact .inr (.inl (by rw [h]))
      · exact .inr (.inr (.inr ⟨rfl, h⟩))
    · exact .inr (.inr (.inl h))
/-- A row's task. -/
def keyR (x : Row) : List UInt8 × Int := (x.1, x.2.1)
def kLt (p q : List UInt8 × Int) : Prop := ltB p.1 q.1 = true ∨ (p.1 = q.1 ∧ p.2 < q.2)
theorem kLt_irr {p : List UInt8 × Int} : ¬ kLt p p := by
  rintro (h | ⟨_, h⟩)
  · rw [ltB_irr] at h; cases h
  · omega
theorem kLt_trans {p q r : List UInt8 × Int} : kLt p q → kLt q r → kLt p r := by
  rintro (h1 | ⟨e1, h1⟩) (h2 | ⟨e2, h2⟩)
  · exact .inl (ltB_trans h1 h2)
  · exact .inl (e2 ▸ h1)
  · exact .inl (e1 ▸ h2)
  · exact .inr ⟨e1.trans e2, by omega⟩
theorem kLt_ne {p q : List UInt8 × Int} (h : kLt p q) : p ≠ q := fun e => by subst e; exact kLt_irr h
theorem ord_ways (x y : Row) : (ordR x y < 0 ∧ kLt (keyR x) (keyR y)) ∨ (ordR x y = 0 ∧ keyR x = keyR y) ∨ (0 < ordR x y ∧ kLt (keyR y) (keyR x)) := by
  unfold ordR ordT keyR kLt
  simp only
  rcases ltB_tri (a := x.1) (b := y.1) with h | h | h
  · left; rw [h]; simp
  · rw [h, ltB_irr, decide_eq_false (fun g : y.1 ≠ y.1 => g rfl)]
    simp only [cond_false]
    rcases Int.lt_trichotomy x.2.1 y.2.1 with g | g | g
    · left; rw [decide_eq_true g]; simp [g]
    · right; left; rw [g, decide_eq_false (Int.lt_irrefl _)]; simp
    · right; right; rw [decide_eq_false (by omega : ¬ x.2.1 < y.2.1), decide_eq_true g]; simp [g]
  · right; right
    have h1 : ltB x.1 y.1 = false := by
      cases g : ltB x.1 y.1 with
      | false => rfl
      | true => have := ltB_trans g h; rw [ltB_irr] at this; cases this
    have h2 : x.1 ≠ y.1 := fun e => by rw [e, ltB_irr] at h; cases h
    rw [h1, decide_eq_true h2, h]; simp
theorem ord_neg {x y : Row} : ordR x y < 0 ↔ kLt (keyR x) (keyR y) := by
  rcases ord_ways x y with ⟨h1, h2⟩ | ⟨h1, h2⟩ | ⟨h1, h2⟩
  · exact ⟨fun _ => h2, fun _ => h1⟩
  · exact ⟨fun h => by omega, fun h => (kLt_ne h h2).elim⟩
  · exact ⟨fun h => by omega, fun h => (kLt_irr (kLt_trans h h2)).elim⟩
/-- Rows that rise. -/
def risesP (l : List Row) : Prop := l.Pairwise fun x y => kLt (keyR x) (keyR y)
theorem rises_P {l : List Row} (h : rises l) : risesP l := by
  have step : ∀ j i : Nat, i < j → j < l.length → kLt (keyR (rowR0 l i)) (keyR (rowR0 l j)) := by
    intro j
    induction j with
    | zero => intro i hi; omega
    | succ j ih =>
      intro i hi hj
      have h1 := ord_neg.1 (h (j + 1) (by omega) hj)
      simp only [Nat.add_sub_cancel] at h1
      rcases Nat.lt_or_ge i j with g | g
      · exact kLt_trans (ih i g (by omega)) h1
      · have : i = j := by omega
        rw [this]; exact h1
  rw [risesP, List.pairwise_iff_getElem]
  intro i j hi hj hij
  have e : ∀ k (hk : k < l.length), rowR0 l k = l[k] := fun k hk => by
    have h2 : ∀ d : Row, l.getD k d = l[k] := fun d => by simp [hk]
    exact h2 _
  have := step j i hij hj
  rwa [e i hi, e j hj] at this
theorem key_gone (x : Row) : keyR (goneR x) = keyR x := rfl
/-- All that changes is behind what all are behind. -/
theorem chg_above (z : List UInt8 × Int) : ∀ (old l : List Row), (∀ x ∈ old, kLt z (keyR x)) → (∀ y ∈ l, kLt z (keyR y)) → ∀ x ∈ chg old l, kLt z (keyR x) := by
  intro old l
  induction old, l using chg.induct with
  | case1 => intro _ _ x hx; rw [chg] at hx; cases hx
  | case2 y l' ih =>
    intro h1 h2 x hx
    rw [chg] at hx
    rcases List.mem_cons.1 hx with rfl | hx
    · exact h2 _ List.mem_cons_self
    · exact ih h1 (fun y hy => h2 y (List.mem_cons_of_mem _ hy)) x hx
  | case3 x o' ih =>
    intro h1 h2 q hx
    rw [chg] at hx
    rcases List.mem_cons.1 hx with rfl | hx
    · exact h1 x List.mem_cons_self
    · exact ih (fun y hy => h1 y (List.mem_cons_of_mem _ hy)) h2 q hx
  | case4 x o' y l' ho ih =>
    intro h1 h2 q hx
    rw [chg, if_pos ho] at hx
    rcases List.mem_cons.1 hx with rfl | hx
    · exact h1 x List.mem_cons_self
    · exact ih (fun y hy => h1 y (List.mem_cons_of_mem _ hy)) h2 q hx
  | case5 x o' y l' ho ho2 ih =>
    intro h1 h2 x hx
    rw [chg, if_neg ho, if_pos ho2] at hx
    rcases List.mem_cons.1 hx with rfl | hx
    · exact h2 _ List.mem_cons_self
    · exact ih h1 (fun y hy => h2 y (List.mem_cons_of_mem _ hy)) x hx
  | case6 x o' l' ho ho2 ih =>
    intro h1 h2 z hx
    rw [chg, if_neg ho, if_neg ho2, if_pos rfl] at hx
    exact ih (fun y hy => h1 y (List.mem_cons_of_mem _ hy)) (fun y hy => h2 y (List.mem_cons_of_mem _ hy)) z hx
  | case7 x o' y l' ho ho2 hxy ih =>
    intro h1 h2 z hx
    rw [chg, if_neg ho, if_neg ho2, if_neg hxy] at hx
    rcases List.mem_cons.1 hx with rfl | hx
    · exact h2 _ List.mem_cons_self
    · exact ih (fun y hy => h1 y (List.mem_cons_of_mem _ hy)) (fun y hy => h2 y (List.mem_cons_of_mem _ hy)) z hx
theorem mem_above {x y : Row} {l : List Row} (h : risesP (x :: l)) (hy : y ∈ l) : kLt (keyR x) (keyR y) := List.rel_of_pairwise_cons h hy
theorem above_all {z : List UInt8 × Int} {x : Row} {l : List Row} (hz : kLt z (keyR x)) (h : risesP (x :: l)) : ∀ y ∈ x :: l, kLt z (keyR y) := fun y hy => by
  rcases List.mem_cons.1 hy with rfl | hy
  · exact hz
  · exact kLt_trans hz (mem_above h hy)
/-- What changes, of rows that rise: its rows rise; a row told that is new, or one that is gone; and all that must be told is. -/
theorem chg_ok : ∀ (old l : List Row), risesP old → risesP l → risesP (chg old l) ∧
    (∀ x ∈ chg old l, (x ∈ l ∧ x ∉ old) ∨ ∃ o ∈ old, x = goneR o ∧ ∀ y ∈ l, keyR y ≠ keyR o) ∧ (∀ y ∈ l, y ∈ chg old l ∨ y ∈ old) ∧ (∀ o ∈ old, (∃ y ∈ l, keyR y = keyR o) ∨ goneR o ∈ chg old l) := by
  intro old l
  induction old, l using chg.induct with
  | case1 => intro _ _; rw [chg]; exact ⟨List.Pairwise.nil, fun x h => (by cases h), fun x h => (by cases h), fun x h => (by cases h)⟩
  | case2 y l' ih =>
    intro h1 h2
    obtain ⟨i1, i2, i3, i4⟩ := ih h1 h2.of_cons
    have hab := chg_above (keyR y) [] l' (fun _ h => by cases h) (fun z hz => mem_above h2 hz)
    rw [chg]
    refine ⟨List.Pairwise.cons hab i1, fun x hx => ?_, fun z hz => ?_, fun o ho => (by cases ho)⟩
    · rcases List.mem_cons.1 hx with rfl | hx
      · exact .inl ⟨List.mem_cons_self, by simp⟩
      · rcases i2 x hx with ⟨g, _⟩ | ⟨o, ho, _⟩
        · exact .inl ⟨List.mem_cons_of_mem _ g, by simp⟩
        · cases ho
    · rcases List.mem_cons.1 hz with rfl | hz
      · exact .inl List.mem_cons_self
      · exact (i3 z hz).imp (List.mem_cons_of_mem _) id
  | case3 x o' ih =>
    intro h1 h2
    obtain ⟨i1, i2, i3, i4⟩ := ih h1.of_cons h2
    have hab := chg_above (keyR x) o' [] (fun z hz => mem_above h1 hz) (fun _ h => by cases h)
    rw [chg]
    refine ⟨List.Pairwise.cons hab i1, fun q hq => ?_, fun z hz => (by cases hz), fun o ho => .inr ?_⟩
    · rcases List.mem_cons.1 hq with rfl | hq
      · exact .inr ⟨x, List.mem_cons_self, rfl, fun _ h => (by cases h)⟩
      · rcases i2 q hq with ⟨g, _⟩ | ⟨o, ho, e, _⟩
        · cases g
        · exact .inr ⟨o, List.mem_cons_of_mem _ ho, e, fun _ h => (by cases h)⟩
    · rcases List.mem_cons.1 ho with rfl | ho
      · exact List.mem_cons_self
      · rcases i4 o ho with ⟨_, h, _⟩ | h
        · cases h
        · exact List.mem_cons_of_mem _ h
  | case4 x o' y l' ho ih =>
    intro h1 h2
    have hk := ord_neg.1 ho
    obtain ⟨i1, i2, i3, i4⟩ := ih h1.of_cons h2
    have hal := above_all hk h2
    have hab := chg_above (keyR x) o' (y :: l') (fun z hz => mem_above h1 hz) hal
    rw [chg, if_pos ho]
    refine ⟨List.Pairwise.cons hab i1, fun q hq => ?_, fun z hz => ?_, fun o ho => ?_⟩
    · rcases List.mem_cons.1 hq with rfl | hq
      · exact .inr ⟨x, List.mem_cons_self, rfl, fun z hz e => kLt_ne (hal z hz) e.symm⟩
      · rcases i2 q hq with ⟨g, g2⟩ | ⟨o, ho, e⟩
        · refine .inl ⟨g, fun h => ?_⟩
          rcases List.mem_cons.1 h with rfl | h
          · exact kLt_irr (hal _ g)
          · exact g2 h
        · exact .inr ⟨o, List.mem_cons_of_mem _ ho, e⟩
    · exact (i3 z hz).imp (List.mem_cons_of_mem _) (List.mem_cons_of_mem _)
    · rcases List.mem_cons.1 ho with rfl | ho
      · exact .inr List.mem_cons_self
      · exact (i4 o ho).imp id (List.mem_cons_of_mem _)
  | case5 x o' y l' ho ho2 ih =>
    intro h1 h2
    have hk : kLt (keyR y) (keyR x) := by
      rcases ord_ways x y with ⟨h, _⟩ | ⟨h, _⟩ | ⟨_, h⟩
      · omega
      · omega
      · exact h
    obtain ⟨i1, i2, i3, i4⟩ := ih h1 h2.of_cons
    have hal := above_all hk h1
    have hab := chg_above (keyR y) (x :: o') l' hal (fun z hz => mem_above h2 hz)
    rw [chg, if_neg ho, if_pos ho2]
    refine ⟨List.Pairwise.cons hab i1, fun q hq => ?_, fun z hz => ?_, fun o ho => ?_⟩
    · rcases List.mem_cons.1 hq with rfl | hq
      · exact .inl ⟨List.mem_cons_self, fun h => kLt_irr (hal _ h)⟩
      · rcases i2 q hq with ⟨g, g2⟩ | ⟨o, hoo, e, g⟩
        · exact .inl ⟨List.mem_cons_of_mem _ g, g2⟩
        · refine .inr ⟨o, hoo, e, fun z hz => ?_⟩
          rcases List.mem_cons.1 hz with rfl | hz
          · exact kLt_ne (hal o hoo)
          · exact g z hz
    · rcases List.mem_cons.1 hz with rfl | hz
      · exact .inl List.mem_cons_self
      · exact (i3 z hz).imp (List.mem_cons_of_mem _) id
    · rcases i4 o ho with ⟨z, hz, e⟩ | h
      · exact .inl ⟨z, List.mem_cons_of_mem _ hz, e⟩
      · exact .inr (List.mem_cons_of_mem _ h)
  | case6 x o' l' ho ho2 ih =>
    intro h1 h2
    obtain ⟨i1, i2, i3, i4⟩ := ih h1.of_cons h2.of_cons
    rw [chg, if_neg ho, if_neg ho2, if_pos rfl]
    refine ⟨i1, fun q hq => ?_, fun z hz => ?_, fun o ho => ?_⟩
    · rcases i2 q hq with ⟨g, g2⟩ | ⟨o, hoo, e, g⟩
      · refine .inl ⟨List.mem_cons_of_mem _ g, fun h => ?_⟩
        rcases List.mem_cons.1 h with rfl | h
        · exact kLt_irr (mem_above h2 g)
        · exact g2 h
      · refine .inr ⟨o, List.mem_cons_of_mem _ hoo, e, fun z hz => ?_⟩
        rcases List.mem_cons.1 hz with rfl | hz
        · exact kLt_ne (mem_above h1 hoo)
        · exact g z hz
    · rcases List.mem_cons.1 hz with rfl | hz
      · exact .inr List.mem_cons_self
      · exact (i3 z hz).imp id (List.mem_cons_of_mem _)
    · rcases List.mem_cons.1 ho with rfl | ho
      · exact .inl ⟨_, List.mem_cons_self, rfl⟩
      · rcases i4 o ho with ⟨z, hz, e⟩ | h
        · exact .inl ⟨z, List.mem_cons_of_mem _ hz, e⟩
        · exact .inr h
  | case7 x o' y l' ho ho2 hxy ih =>
    intro h1 h2
    have hk : keyR x = keyR y := by
      rcases ord_ways x y with ⟨h, _⟩ | ⟨_, h⟩ | ⟨h, _⟩
      · omega
      · exact h
      · omega
    obtain ⟨i1, i2, i3, i4⟩ := ih h1.of_cons h2.of_cons
    have hab := chg_above (keyR y) o' l' (fun z hz => hk ▸ mem_above h1 hz) (fun z hz => mem_above h2 hz)
    rw [chg, if_neg ho, if_neg ho2, if_neg hxy]
    refine ⟨List.Pairwise.cons hab i1, fun q hq => ?_, fun z hz => ?_, fun o ho => ?_⟩
    · rcases List.mem_cons.1 hq with rfl | hq
      · refine .inl ⟨List.mem_cons_self, fun h => ?_⟩
        rcases List.mem_cons.1 h with e | h
        · exact hxy e.symm
        · exact kLt_ne (mem_above h1 h) hk
      · rcases i2 q hq with ⟨g, g2⟩ | ⟨o, hoo, e, g⟩
        · refine .inl ⟨List.mem_cons_of_mem _ g, fun h => ?_⟩
          rcases List.mem_cons.1 h with rfl | h
          · exact kLt_ne (mem_above h2 g) hk.symm
          · exact g2 h
        · refine .inr ⟨o, List.mem_cons_of_mem _ hoo, e, fun z hz => ?_⟩
          rcases List.mem_cons.1 hz with rfl | hz
          · exact fun e2 => kLt_ne (mem_above h1 hoo) (hk.trans e2)
          · exact g z hz
    · rcases List.mem_cons.1 hz with rfl | hz
      · exact .inl List.mem_cons_self
      · exact (i3 z hz).imp (List.mem_cons_of_mem _) (List.mem_cons_of_mem _)
    · rcases List.mem_cons.1 ho with rfl | ho
      · exact .inl ⟨y, List.mem_cons_self, hk.symm⟩
      · rcases i4 o ho with ⟨z, hz, e⟩ | h
        · exact .inl ⟨z, List.mem_cons_of_mem _ hz, e⟩
        · exact .inr (List.mem_cons_of_mem _ h)
theorem chg_same : ∀ l : List Row, chg l l = []
  | [] => by rw [chg]
  | x :: l => by
    have h : ordR x x = 0 := by
      rcases ord_ways x x with ⟨_, h⟩ | ⟨h, _⟩ | ⟨_, h⟩
      · exact (kLt_irr h).elim
      · exact h
      · exact (kLt_irr h).elim
    rw [chg, if_neg (by omega), if_neg (by omega), if_pos rfl, chg_same l]
end
end Go.Proofs.Ytdohdhphpjhcjaa.Sh
