/- THE ABSTRACT MACHINE, 21: what fits the pattern is of its kind. -/
import Derived.Test.YtdeoahhofhmgfaaAmAbs
set_option linter.unusedSimpArgs false
set_option linter.unusedVariables false
namespace Go.AM
open Go.RowKit

structure Good (ρ ρ' : Env) (r : Ren) : Prop where
  at' : ∀ i s e, lk r i = some s → s.atE ρ = some e → ρ'.ats[i]? = some e
  sub : ∀ i j off es len cap ex, lk r i = some (.sub j off es len cap ex) → ∀ e, ρ.ats[j]? = some e → e.nb = false ∧ len ≤ maxI ∧ (ex = true → e.sh + off + cap * es ≤ e.n) ∧ (ex = false → e.es = es)
  fz : FzLe ρ.fz ρ'.fz

section
variable {ρ ρ' : Env} {r : Ren}

theorem isSame_lk {i j : Nat} (h : isSame r i j = true) : lk r i = some (.same j) := by
  unfold isSame at h
  split at h
  · rename_i j' hl; rw [hl, Nat.eq_of_beq_eq_true h]
  · cases h

theorem Good.same (g : Good ρ ρ' r) {i j : Nat} (h : isSame r i j = true) {e : At} (he : ρ.ats[j]? = some e) : ρ'.ats[i]? = some e := g.at' i _ e (isSame_lk h) he

theorem allP_one {p : Prop} {ps : List Prop} (h : AllP ps) (e : some [p] = some ps) : p := by cases e; exact h.1

mutual
theorem mV_sound (g : Good ρ ρ' r) : ∀ {p v : AV} {ps : List Prop}, mV r p v = some ps → AllP ps → ∀ {x : Value}, Rel ρ v x → Rel ρ' p x := by
  intro p v ps h hp x hr
  cases p with
  | bool b =>
    simp only [mV] at h
    split at h
    · have := chkB_inv h; simp only [beq_iff_eq] at this; subst this; simp only [Rel] at hr ⊢; exact hr
    · have := allP_one hp h; subst this; simp only [Rel] at hr ⊢; exact hr
    · cases h
  | sB b =>
    simp only [mV] at h
    split at h
    · rename_i c hc; have := allP_one hp h; subst this; simp only [Rel]; exact asB_sound hc hr
    · cases h
  | int k n =>
    simp only [mV] at h
    split at h
    · have := chkB_inv h; simp only [Bool.and_eq_true, decide_eq_true_eq] at this; obtain ⟨rfl, rfl⟩ := this; simp only [Rel] at hr ⊢; exact hr
    · rename_i k' n'
      cases hb : decide (k = k') with
      | false => rw [hb] at h; cases h
      | true =>
        rw [hb] at h
        obtain rfl := of_decide_eq_true hb
        have := allP_one hp h; subst this; simp only [Rel] at hr ⊢; exact hr.1
    · cases h
  | sI k n =>
    simp only [mV] at h
    split at h
    · rename_i k' n' hx
      cases hb : decide (k' = k) with
      | false => rw [hb] at h; cases h
      | true =>
        rw [hb] at h
        obtain rfl := of_decide_eq_true hb
        have := allP_one hp h; subst this; simp only [Rel]; exact asX_sound hx hr
    · cases h
  | str s =>
    simp only [mV] at h
    split at h
    · have := chkB_inv h; rw [eqB_eq] at this; have := eq_of_beq this; subst this; simp only [Rel] at hr ⊢; exact hr
    · have := allP_one hp h; subst this; simp only [Rel] at hr ⊢; exact hr.1
    · cases h
  | sS s =>
    simp only [mV] at h
    split at h
    · rename_i c hc; have := allP_one hp h; subst this; simp only [Rel]; exact asS_sound hc hr
    · cases h
  | nilPtr => simp only [mV] at h; split at h <;> first | (cases h; done) | (simp only [Rel] at hr ⊢; exact hr)
  | nilSlc => simp only [mV] at h; split at h <;> first | (cases h; done) | (simp only [Rel] at hr ⊢; exact hr)
  | emp => simp only [mV] at h; split at h <;> first | (cases h; done) | (simp only [Rel] at hr ⊢; exact hr)
  | nilMap => simp only [mV] at h; split at h <;> first | (cases h; done) | (simp only [Rel] at hr ⊢; exact hr)
  | nilFn => simp only [mV] at h; split at h <;> first | (cases h; done) | (simp only [Rel] at hr ⊢; exact hr)
  | nilIface => simp only [mV] at h; split at h <;> first | (cases h; done) | (simp only [Rel] at hr ⊢; exact hr)
  | ptr i off =>
    simp only [mV] at h
    split at h
    · have := chkB_inv h
      simp only [Bool.and_eq_true] at this
      have e := Nat.eq_of_beq_eq_true this.2; subst e
      simp only [Rel] at hr ⊢
      obtain ⟨e, he, hx⟩ := hr
      exact ⟨e, g.same this.1 he, hx⟩
    · cases h
  | slc i off len cap ex =>
    simp only [mV] at h
    split at h
    · have := chkB_inv h
      simp only [Bool.and_eq_true, beq_iff_eq] at this
      obtain ⟨⟨⟨⟨h1, h2⟩, h3⟩, h4⟩, h5⟩ := this
      have e2 := Nat.eq_of_beq_eq_true h2; have e3 := Nat.eq_of_beq_eq_true h3; have e4 := Nat.eq_of_beq_eq_true h4
      subst e2 e3 e4 h5
      simp only [Rel] at hr ⊢
      obtain ⟨e, c, he, hx⟩ := hr
      exact ⟨e, c, g.same h1 he, hx⟩
    · cases h
  | map i =>
    simp only [mV] at h
    split at h
    · have := chkB_inv h
      simp only [Rel] at hr ⊢
      obtain ⟨e, he, hx⟩ := hr
      exact ⟨e, g.same this he, hx⟩
    · cases h
  | yld i =>
    simp only [mV] at h
    split at h
    · have := chkB_inv h
      simp only [Rel] at hr ⊢
      obtain ⟨e, he, hx⟩ := hr
      exact ⟨e, g.same this he, hx⟩
    · cases h
  | fn f a b =>
    simp only [mV] at h
    split at h
    · rename_i f1 f2 a' b'
      obtain ⟨p1, q1, h1, h2, hp1, hq1⟩ := andP_inv h hp
      obtain ⟨p2, q2, h3, h4, hp2, hq2⟩ := andP_inv h2 hq1
      have e := Nat.eq_of_beq_eq_true (chkB_inv h1); subst e
      simp only [Rel] at hr ⊢
      obtain ⟨fs', cs', hx, r1, r2⟩ := hr
      exact ⟨fs', cs', hx, mVL_sound g h3 hp2 r1, mVL_sound g h4 hq2 r2⟩
    · cases h
  | iface t u =>
    simp only [mV] at h
    split at h
    · obtain ⟨p1, q1, h1, h2, hp1, hq1⟩ := andP_inv h hp
      have e := Nat.eq_of_beq_eq_true (chkB_inv h1); subst e
      simp only [Rel] at hr ⊢
      obtain ⟨y, hx, r1⟩ := hr
      exact ⟨y, hx, mV_sound g h2 hq1 r1⟩
    · cases h
  | agg a =>
    simp only [mV] at h
    split at h
    · simp only [Rel] at hr ⊢
      obtain ⟨y, hx, r1⟩ := hr
      exact ⟨y, hx, mVL_sound g h hp r1⟩
    · cases h
  | tup a =>
    simp only [mV] at h
    split at h
    · simp only [Rel] at hr ⊢
      obtain ⟨y, hx, r1⟩ := hr
      exact ⟨y, hx, mVL_sound g h hp r1⟩
    · cases h
  | dsl t rows =>
    simp only [mV] at h
    split at h
    · rename_i t' rows'
      split at h
      · rename_i hs
        have e := RTy.same_eq hs
        subst e
        have := allP_one hp h
        rw [castRows_rfl] at this
        subst this
        simp only [Rel] at hr ⊢
        exact hr.mono g.fz
      · cases h
    · have := allP_one hp h; subst this
      simp only [Rel] at hr ⊢; subst hr
      simp only [CTy.Rd]
      exact ⟨none, 0, rfl, Nat.le_refl _, Nat.zero_le _, fun _ => rfl, fun a ha => (by cases ha), fun k row hk => by cases hk⟩
    · cases h
  | dptr t row j =>
    simp only [mV] at h
    split at h
    · rename_i t' row' j'
      cases hb : Nat.beq j j' with
      | false => rw [hb] at h; cases h
      | true =>
        rw [hb, cond_true] at h
        have e := Nat.eq_of_beq_eq_true hb
        subst e
        split at h
        · rename_i hs
          have e := RTy.same_eq hs
          subst e
          have := allP_one hp h
          have : row' = row := this
          subst this
          simp only [Rel] at hr ⊢
          obtain ⟨b, off, arr, ys, h1, h2, h3, h4⟩ := hr
          exact ⟨b, off, arr, ys, h1, g.fz _ _ h2, h3, h4.mono g.fz⟩
        · cases h
    · cases h
  | sw i =>
    simp only [mV] at h
    split at h
    · have := chkB_inv h
      simp only [Rel] at hr ⊢
      obtain ⟨e, b, c, he, hx⟩ := hr
      exact ⟨e, b, c, g.same this he, hx⟩
    · rename_i j off len cap ex
      split at h
      · rename_i j' off' es' len' cap' ex' hl
        have := chkB_inv h
        simp only [Bool.and_eq_true, beq_iff_eq] at this
        obtain ⟨⟨⟨⟨h1, h2⟩, h3⟩, h4⟩, h5⟩ := this
        have e1 := Nat.eq_of_beq_eq_true h1; have e2 := Nat.eq_of_beq_eq_true h2; have e3 := Nat.eq_of_beq_eq_true h3; have e4 := Nat.eq_of_beq_eq_true h4
        subst e1 e2 e3 e4 h5
        simp only [Rel] at hr ⊢
        obtain ⟨e, c, he, rfl, k1, k2, k3, k4⟩ := hr
        obtain ⟨s1, s2, s3, s4⟩ := g.sub i j off es' len cap ex hl e he
        refine ⟨{ b := e.b, sh := e.sh + off, n := e.n, es := es', len := len, nb := e.nb }, some ⟨e.b, e.sh + off, none⟩, c, g.at' i _ _ hl (by simp only [Src.atE, he, Option.map_some]), rfl, Nat.le_trans k1 k2, s2, .inr (.inr ⟨s1, rfl, ?_⟩)⟩
        simp only
        cases ex with
        | true => have := k3 rfl; subst this; exact s3 rfl
        | false => have := k4 rfl; rw [s4 rfl] at this; exact this
      · cases h
    · split at h
      · rename_i es hl
        simp only [Rel] at hr ⊢
        exact ⟨_, none, 0, g.at' i _ _ hl rfl, hr, Nat.le_refl _, Nat.zero_le _, .inl ⟨rfl, rfl⟩⟩
      · cases h
    · cases h
  | ss i lo len =>
    simp only [mV] at h
    split at h
    · rename_i j lo' len'
      cases hb : isSame r i j with
      | false => rw [hb] at h; cases h
      | true =>
        rw [hb] at h; cases h
        obtain ⟨e1, e2, _⟩ := hp; subst e1 e2
        simp only [Rel] at hr ⊢
        obtain ⟨e, b, c, he, hx⟩ := hr
        exact ⟨e, b, c, g.same hb he, hx⟩
    · cases h
  | eptr i k j =>
    simp only [mV] at h
    split at h
    · rename_i i' k' j'
      cases hb : (isSame r i i' && Nat.beq j j') with
      | false => rw [hb] at h; cases h
      | true =>
        rw [hb] at h; cases h
        simp only [Bool.and_eq_true] at hb
        have e := Nat.eq_of_beq_eq_true hb.2; subst e
        have := hp.1; subst this
        simp only [Rel] at hr ⊢
        obtain ⟨e, he, hx⟩ := hr
        exact ⟨e, g.same hb.1 he, hx⟩
    · cases h
theorem mVL_sound (g : Good ρ ρ' r) : ∀ {p v : List AV} {ps : List Prop}, mVL r p v = some ps → AllP ps → ∀ {x : List Value}, RelL ρ v x → RelL ρ' p x := by
  intro p v ps h hp x hr
  cases p with
  | nil =>
    cases v with
    | nil => simp only [RelL] at hr ⊢; exact hr
    | cons => simp [mVL] at h
  | cons a p =>
    cases v with
    | nil => simp [mVL] at h
    | cons b v =>
      simp only [mVL] at h
      obtain ⟨p1, q1, h1, h2, hp1, hq1⟩ := andP_inv h hp
      simp only [RelL] at hr ⊢
      obtain ⟨y, ys, rfl, r1, r2⟩ := hr
      exact ⟨y, ys, rfl, mV_sound g h1 hp1 r1, mVL_sound g h2 hq1 r2⟩
end
end
end Go.AM
