/- THE ABSTRACT MACHINE, 25: what is owed is enough. -/
import Derived.Test.YtdeoahhofhmgfaaAmVc
set_option linter.unusedSimpArgs false
set_option linter.unusedVariables false
namespace Go.AM
open Go.RowKit
universe u

theorem withOb_inv {o : Option Prop} {q : Prop} (h : withOb o q) : obOk o ∧ q := by
  cases o with
  | none => exact ⟨trivial, h⟩
  | some p => exact h

theorem impP_inv : ∀ {ps : List Prop} {q : Prop}, impP ps q → AllP ps → q
  | [], q, h, _ => h
  | p :: ps, q, h, hp => impP_inv (h hp.1) hp.2

theorem allP_app : ∀ {ps qs : List Prop}, AllP ps → AllP qs → AllP (ps ++ qs)
  | [], qs, _, h => h
  | p :: ps, qs, h, k => ⟨h.1, allP_app h.2 k⟩

theorem natF_eq {β : Sort u} (n : Nat) (c : Nat → β) : natF n c = c n := by cases n <;> rfl
theorem kindF_eq {β : Sort u} (k : IntKind) (c : IntKind → β) : kindF k c = c k := by cases k <;> rfl
theorem boolF_eq {β : Sort u} (k : Bool) (c : Bool → β) : boolF k c = c k := by cases k <;> rfl
theorem optF_eq {β : Sort u} (k : Option Nat) (c : Option Nat → β) : optF k c = c k := by cases k <;> simp [optF, natF_eq]

mutual
theorem AV.force_eq {β : Sort u} : ∀ (v : AV) (c : AV → β), AV.force v c = c v
  | .sI k n, c => by simp only [AV.force, kindF_eq]
  | .int k n, c => by simp only [AV.force, kindF_eq]
  | .ptr i off, c => by simp only [AV.force, natF_eq]
  | .slc i off len cap ex, c => by simp only [AV.force, natF_eq, boolF_eq]
  | .map i, c => by simp only [AV.force, natF_eq]
  | .yld i, c => by simp only [AV.force, natF_eq]
  | .sw i, c => by simp only [AV.force, natF_eq]
  | .ss i lo len, c => by simp only [AV.force, natF_eq]
  | .eptr i k j, c => by simp only [AV.force, natF_eq]
  | .dptr r row j, c => by simp only [AV.force, natF_eq]
  | .agg cs, c => by simp only [AV.force]; exact AV.forceL_eq cs _
  | .tup cs, c => by simp only [AV.force]; exact AV.forceL_eq cs _
  | .iface t v, c => by simp only [AV.force]; exact AV.force_eq v _
  | .fn f a b, c => by simp only [AV.force]; rw [AV.forceL_eq a, AV.forceL_eq b]
  | .bool _, _ | .str _, _ | .nilPtr, _ | .nilSlc, _ | .emp, _ | .nilMap, _ | .nilFn, _ | .nilIface, _ | .sB _, _ | .sS _, _ | .dsl .., _ => rfl
theorem AV.forceL_eq {β : Sort u} : ∀ (v : List AV) (c : List AV → β), AV.forceL v c = c v
  | [], c => rfl
  | v :: vs, c => by simp only [AV.forceL]; rw [AV.force_eq v, AV.forceL_eq vs]
end

theorem forceT_eq {α : Type} {β : Sort u} {f : α → (α → β) → β} (hf : ∀ a c, f a c = c a) : ∀ (t : T α) (c : T α → β), forceT f t c = c t
  | .nil, c => rfl
  | .node l v r, c => by
    simp only [forceT]
    rw [forceT_eq hf l, forceT_eq hf r]
    cases v with
    | none => rfl
    | some x => simp only [hf]

theorem forceE_eq {β : Sort u} : ∀ (es : List Ent) (c : List Ent → β), forceE es c = c es
  | [], c => rfl
  | e :: es, c => by simp only [forceE, AV.force_eq, natF_eq]; rw [forceE_eq es]

theorem AObj.force_eq {β : Sort u} (o : AObj) (c : AObj → β) : AObj.force o c = c o := by
  cases o <;> simp only [AObj.force, boolF_eq, natF_eq, optF_eq, AV.forceL_eq, forceE_eq, forceT_eq AV.force_eq]

theorem forceS_eq {β : Sort u} (fr : Fr) (H : Heap) (c : Fr → Heap → β) : forceS fr H c = c fr H := by
  simp only [forceS, forceT_eq AV.force_eq, forceT_eq AObj.force_eq, natF_eq]

/-! ### Ranges -/
theorem RTy.Rd.hasAll (σ : Nat → Option (Array Value)) (r : RTy) : ∀ (d : r.den) (ys : List Value), RTy.Rd σ r d ys → RTy.Has r d := by
  refine RTy.rec (motive_1 := fun c => ∀ (d : c.den) (x : Value), CTy.Rd σ c d x → CTy.Has c d) (motive_2 := fun r => ∀ (d : r.den) (ys : List Value), RTy.Rd σ r d ys → RTy.Has r d) ?_ ?_ ?_ ?_ ?_ ?_ r
  · intro k d x h; simp only [CTy.Rd] at h; simp only [CTy.Has]; exact h.2
  · intro d x h; simp only [CTy.Has]
  · intro d x h; simp only [CTy.Rd] at h; simp only [CTy.Has]; exact h.2
  · intro r ih d x h
    simp only [CTy.Rd] at h
    simp only [CTy.Has]
    obtain ⟨base, cap, _, _, h3, _, _, h6⟩ := h
    refine ⟨h3, fun row hm => ?_⟩
    obtain ⟨k, hk⟩ := List.getElem?_of_mem (show row ∈ (show List r.den from d) from hm)
    obtain ⟨b, off, arr, ys, _, _, _, g⟩ := h6 k row hk
    exact ih row ys g
  · intro c ih d ys h
    simp only [RTy.Rd] at h; simp only [RTy.Has]
    obtain ⟨y, _, h⟩ := h; exact ih d y h
  · intro c r ih1 ih2 d ys h
    simp only [RTy.Rd] at h; simp only [RTy.Has]
    obtain ⟨y, ys', _, h1, h2⟩ := h; exact ⟨ih1 _ y h1, ih2 _ ys' h2⟩

theorem CTy.Rd.has1 {σ : Nat → Option (Array Value)} {c : CTy} {d : c.den} {x : Value} (h : CTy.Rd σ c d x) : CTy.Has c d := by
  have := RTy.Rd.hasAll σ (.one c) d [x] (by simp only [RTy.Rd]; exact ⟨x, rfl, h⟩)
  simpa only [RTy.Has] using this

mutual
theorem rngV_sound {ρ : Env} : ∀ {v : AV} {x : Value}, Rel ρ v x → AllP (rngV v) := by
  intro v x h
  cases v <;> simp only [rngV] <;> try exact trivial
  · simp only [Rel] at h; obtain ⟨y, _, h⟩ := h; exact rngV_sound h
  · simp only [Rel] at h; obtain ⟨y, _, h⟩ := h; exact rngL_sound h
  · simp only [Rel] at h; obtain ⟨y, _, h⟩ := h; exact rngL_sound h
  · simp only [Rel] at h; exact ⟨h.2, trivial⟩
  · simp only [Rel] at h; exact ⟨h.2, trivial⟩
  · simp only [Rel] at h; exact ⟨h.has1, trivial⟩
theorem rngL_sound {ρ : Env} : ∀ {v : List AV} {x : List Value}, RelL ρ v x → AllP (rngL v) := by
  intro v x h
  cases v with
  | nil => exact trivial
  | cons v vs =>
    simp only [RelL] at h
    obtain ⟨y, ys, rfl, h1, h2⟩ := h
    simp only [rngL]
    exact allP_app (rngV_sound h1) (rngL_sound h2)
end

theorem rngL_each : ∀ {l : List AV}, (∀ v ∈ l, AllP (rngV v)) → AllP (rngL l)
  | [], _ => trivial
  | v :: l, h => allP_app (h v (List.mem_cons_self ..)) (rngL_each fun u hu => h u (List.mem_cons_of_mem _ hu))

theorem RowV.has {σ : Nat → Option (Array Value)} {a : Bool} {r : RTy} {d : r.den} {x : Value} (h : RowV σ a r d x) : RTy.Has r d :=
  let ⟨ys, h1, _⟩ := h; RTy.Rd.hasAll σ r d ys h1

theorem rngO_sound {ρ : Env} {B : Nat} {w : World} {e : At} {o : AObj} (h : ORel ρ B w e o) : AllP (rngO o) := by
  cases o <;> simp only [rngO] <;> try exact trivial
  · obtain ⟨h0, h1, arr, ty, fz, h2, h3, h4, h5⟩ := h
    refine rngL_each fun v hv => ?_
    obtain ⟨j, hj⟩ := List.getElem?_of_mem hv
    obtain ⟨x, _, hx⟩ := h4 j v hj
    exact rngV_sound hx
  · refine ⟨fun row hm => ?_, trivial⟩
    obtain ⟨h0, h1, h2 | ⟨h2, arr, ty, fz, h3, h4, h6, h7⟩⟩ := h
    · rw [h2.2] at hm; cases hm
    · obtain ⟨k, hk⟩ := List.getElem?_of_mem hm
      obtain ⟨ys, _, g⟩ := h6 k row hk
      exact RTy.Rd.hasAll _ _ _ _ g
  · obtain ⟨h0, h1, h2, arr, clock, h3, h4, m', h5, h6, h7⟩ := h
    refine ⟨h2, fun p hp => ?_, trivial⟩
    have hm := h5.mem_iff.2 hp
    obtain ⟨i, hi⟩ := List.getElem?_of_mem hm
    have hlt : i < arr.toList.length := by rw [← h6]; exact (List.getElem?_eq_some_iff.1 hi).1
    obtain ⟨g1, g2⟩ := h7 i p _ hi (List.getElem?_eq_getElem hlt)
    exact ⟨g1.has, g2.has⟩

theorem rngT_sound {α : Type} {f : α → List Prop} : ∀ {t : T α}, (∀ i v, t.get i = some v → AllP (f v)) → AllP (rngT f t)
  | .nil, _ => trivial
  | .node l x r, h => by
    simp only [rngT]
    refine allP_app (allP_app ?_ (rngT_sound fun i v hv => ?_)) (rngT_sound fun i v hv => ?_)
    · cases x with
      | none => exact trivial
      | some x => exact h 0 x rfl
    · refine h (2 * i + 1) v ?_
      have e : Nat.beq (2 * i % 2) 0 = true := by rw [show 2 * i % 2 = 0 by omega]; rfl
      simp only [T.get, e, cond_true, show 2 * i / 2 = i by omega]
      exact hv
    · refine h (2 * i + 1 + 1) v ?_
      have e : Nat.beq ((2 * i + 1) % 2) 0 = false := by rw [show (2 * i + 1) % 2 = 1 by omega]; rfl
      simp only [T.get, e, cond_false, show (2 * i + 1) / 2 = i by omega]
      exact hv

theorem vMs_sound {K : Nat} {p : List (Nat × AV) × Heap} {fr : Fr} {H : Heap} (h : vMs K p fr H) : Abs K fr H (frOf p.1) p.2 := by
  unfold vMs at h
  split at h
  · rename_i ps hps; exact mS_sound hps (allP_of h)
  · exact nomatch h

/-! ### The very same -/
mutual
theorem sameA_sound : ∀ {u v : AV} {ps : List Prop}, sameA u v = some ps → AllP ps → u = v := by
  intro u v ps h hp
  cases u <;> simp only [sameA] at h
  case sI k n =>
    split at h
    · rename_i k' n'
      cases hb : decide (k = k') with
      | false => rw [hb] at h; cases h
      | true => rw [hb] at h; obtain rfl := of_decide_eq_true hb; rw [allP_one hp h]
    · cases h
  case sB => split at h <;> first | (cases h; done) | rw [allP_one hp h]
  case sS => split at h <;> first | (cases h; done) | rw [allP_one hp h]
  case dsl r rows =>
    split at h
    · split at h
      · rename_i hs
        have e := RTy.same_eq hs
        subst e
        have := allP_one hp h
        rw [castRows_rfl] at this
        rw [this]
      · cases h
    · cases h
  case eptr i k j =>
    split at h
    · rename_i i' k' j'
      cases hb : (Nat.beq i i' && Nat.beq j j') with
      | false => rw [hb] at h; cases h
      | true =>
        rw [hb] at h
        simp only [Bool.and_eq_true] at hb
        rw [Nat.eq_of_beq_eq_true hb.1, Nat.eq_of_beq_eq_true hb.2, allP_one hp h]
    · cases h
  case ss i lo len =>
    split at h
    · rename_i i' lo' len'
      cases hb : Nat.beq i i' with
      | false => rw [hb] at h; cases h
      | true =>
        rw [hb] at h
        cases h
        rw [Nat.eq_of_beq_eq_true hb, hp.1, hp.2.1]
    · cases h
  case sw i =>
    split at h
    · rename_i i'
      cases hb : Nat.beq i i' with
      | false => rw [hb] at h; cases h
      | true => rw [Nat.eq_of_beq_eq_true hb]
    · cases h
  case agg a => split at h <;> first | (cases h; done) | rw [sameL_sound h hp]
  case tup a => split at h <;> first | (cases h; done) | rw [sameL_sound h hp]
  case iface t a =>
    split at h
    · rename_i t' a'
      cases hb : Nat.beq t t' with
      | false => rw [hb] at h; cases h
      | true => rw [hb] at h; rw [Nat.eq_of_beq_eq_true hb, sameA_sound h hp]
    · cases h
  all_goals
    cases hb : AV.same _ v with
    | false => rw [hb] at h; cases h
    | true => exact AV.same_eq hb
theorem sameL_sound : ∀ {u v : List AV} {ps : List Prop}, sameL u v = some ps → AllP ps → u = v := by
  intro u v ps h hp
  cases u with
  | nil => cases v with
    | nil => rfl
    | cons => simp [sameL] at h
  | cons a x => cases v with
    | nil => simp [sameL] at h
    | cons b y =>
      simp only [sameL] at h
      obtain ⟨p1, q1, h1, h2, hp1, hq1⟩ := andP_inv h hp
      rw [sameA_sound h1 hp1, sameL_sound h2 hq1]
end

theorem sameP_sound {u v : AV} {ps : List Prop} (h : sameP u v = some ps) (hp : AllP ps) : u.ub = v.ub := by
  unfold sameP at h
  split at h
  · rw [allP_one hp h]; rfl
  · rw [sameA_sound h hp]

/-! ### Code -/
section
variable {P : Program} {B K : Nat} {r : Option Nat} {n : Nat} {fr : Fr} {H : Heap} {S : SumP} {L : LTab} {rc : VC} {ops : Array Oper}

structure VSound (P : Program) (B : Nat) (rc : VC) : Prop where
  c : ∀ f inR K n c fr H Q, rc f inR false K n c fr H Q → ∀ r : Option Nat, (inR = false → r = none) → WC P B K r n c fr H Q
  l : ∀ f inR K n c fr H Q, rc f inR true K n c fr H Q → ∀ r : Option Nat, (inR = false → r = none) → WL P B K r n c fr H Q

def SumPOk (P : Program) (B : Nat) (S : SumP) : Prop := ∀ f args H φ Q, S f args H = some φ → φ Q → WF P B f args H Q

theorem WC.condS' {c : Operand} {x y : Code} {b : Bool} {Q : Post} (hc : aeval fr c = some (.sB b)) (h1 : b = true → WC P B K r n x fr H Q) (h2 : b = false → WC P B K r n y fr H Q) : WC P B K r n (.cond c x y) fr H Q := by
  intro M ρ w a hk g1 g2 g3 g4
  have hv := aeval_sound g2 hc
  simp only [Rel] at hv
  refine wpIn_cond hv ?_
  cases b
  · exact h2 rfl M ρ w a hk g1 g2 g3 g4
  · exact h1 rfl M ρ w a hk g1 g2 g3 g4

theorem WC.rng {c : Code} {Q : Post} {ps : List Prop} (hps : ∀ (ρ : Env) (w : World) (tmps : Array Value), HR B ρ H w → FRel ρ fr tmps → AllP ps) (h : AllP ps → WC P B K r n c fr H Q) : WC P B K r n c fr H Q :=
  fun M ρ w a hk h1 h2 h3 h4 => h (hps ρ w a.tmps h1 h2) M ρ w a hk h1 h2 h3 h4

theorem WY.mono {i : Nat} {args : List AV} {Q Q' : Bool → Heap → Prop} (h : WY P B i args H Q) (hq : ∀ b H, Q b H → Q' b H) : WY P B i args H Q' :=
  fun ρ w e xs r h1 h2 h3 => let ⟨f, tmps, as, bd, g1, g2⟩ := h ρ w e xs r h1 h2 h3
    ⟨f, tmps, as, bd, g1, RoundIn.mono g2 fun en w' ⟨b, H', ρ', k1, k2, k3⟩ => ⟨b, H', ρ', k1, hq _ _ k2, k3⟩⟩

theorem WF.ub {f : FuncId} {args : List AV} {Q : KF} (h : WF P B f args H Q) : WF P B f args H fun v' H' => ∃ v, Q v H' ∧ v' = v.ub :=
  fun ρ w xs h1 h2 => (h ρ w xs h1 h2).mono fun e w' ⟨v, x, H', ρ', g1, g2, g3, g4, g5⟩ => ⟨v.ub, x, H', ρ', g1, ⟨v, g2, rfl⟩, g3, g4, g5.ub⟩

theorem vPut_inv {dst : Option Tmp} {v : AV} {k : KO} (h : vPut n fr dst v H k) : ∃ fr', aput n fr dst v = some fr' ∧ k fr' H := by
  unfold vPut at h
  split at h
  · exact nomatch h
  · rename_i fr' hp; exact ⟨fr', hp, h⟩

theorem vPutS_inv {g : Bool} {dst : Option Tmp} {v : AV} {k : KO} (h : vPutS g n fr dst v H k) : ∃ v' fr', v'.ub = v.ub ∧ aput n fr dst v' = some fr' ∧ k fr' H := by
  unfold vPutS at h
  split at h
  · obtain ⟨fr', h1, h2⟩ := vPut_inv h; exact ⟨v, fr', rfl, h1, h2⟩
  · split at h
    · rename_i b
      cases b with
      | true => obtain ⟨fr', h1, h2⟩ := vPut_inv (h.1 rfl); exact ⟨.bool true, fr', rfl, h1, h2⟩
      | false => obtain ⟨fr', h1, h2⟩ := vPut_inv (h.2 rfl); exact ⟨.bool false, fr', rfl, h1, h2⟩
    · obtain ⟨fr', h1, h2⟩ := vPut_inv h; exact ⟨v, fr', rfl, h1, h2⟩

theorem WF.split {f : FuncId} {args : List AV} {g : Bool} {dst : Option Tmp} {k : KO} (h : WF P B f args H fun v H' => vPutS g n fr dst v H' k) : WF P B f args H fun v H' => ∃ fr', aput n fr dst v = some fr' ∧ k fr' H' := by
  cases g with
  | false => exact h.mono fun v H' hq => vPut_inv hq
  | true =>
    refine h.ub.mono ?_
    rintro v' H' ⟨v, hq, rfl⟩
    unfold vPutS at hq
    simp only at hq
    split at hq
    · rename_i b
      cases b with
      | true => exact vPut_inv (hq.1 rfl)
      | false => exact vPut_inv (hq.2 rfl)
    · rename_i hns
      have : v.ub = v := by cases v <;> first | rfl | exact (hns _ rfl).elim
      rw [this]; exact vPut_inv hq

theorem allQ_inv {α : Type} {f : α → Prop} : ∀ {l : List α}, allQ f l → ∀ a ∈ l, f a
  | [], _, a, ha => by cases ha
  | [b], h, a, ha => by rw [List.mem_singleton] at ha; subst ha; exact h
  | b :: c :: l, h, a, ha => by
    rcases List.mem_cons.1 ha with rfl | ha
    · exact h.1
    · exact allQ_inv h.2 a ha

theorem vF_sound (hS : SumPOk P B S) (hrc : VSound P B rc) {f : FuncId} {args : List AV} {Q : KF} (h : vF P S rc f args H Q) : WF P B f args H Q := by
  unfold vF at h
  split at h
  · rename_i φ hφ; exact hS f args H φ Q hφ h
  · split at h
    · exact nomatch h
    · rename_i fn hf
      split at h
      · exact nomatch h
      · rename_i c hb
        refine WF.body hf hb ((hrc.c _ _ _ _ _ _ _ _ h none fun _ => rfl).mono ?_)
        intro x fr' H' hm
        cases x with
        | ex id => exact nomatch hm
        | nor =>
          simp only at hm
          split at hm
          · exact nomatch hm
          · rename_i v hv; exact ⟨.inl rfl, v, hv, hm⟩
        | ret =>
          simp only at hm
          split at hm
          · exact nomatch hm
          · rename_i v hv; exact ⟨.inr rfl, v, hv, hm⟩

theorem vY_sound (hrc : VSound P B rc) {l : Nat} {args : List AV} {Q : Bool → Heap → Prop} (h : vY rc l args H Q) : WY P B l args H Q := by
  unfold vY at h
  split at h
  · rename_i st pd f fr0 nt ps as bd hi
    split at h
    · exact nomatch h
    · rename_i fr1 hp
      refine WY.round hi hp fun lr => (hrc.c _ _ _ _ _ _ _ _ h (some lr) fun hh => by cases hh).mono ?_
      intro x fr2 H2 hm
      cases x with
      | ex id => exact nomatch hm
      | ret => exact nomatch hm
      | nor =>
        simp only at hm
        split at hm
        · rename_i pd2 fn2 fr02 nt2 ps2 as2 bd2 hi2
          refine ⟨rfl, pd2, fn2, fr02, nt2, ps2, as2, bd2, hi2, (hrc.c _ _ _ _ _ _ _ _ hm (some lr) fun hh => by cases hh).mono ?_⟩
          intro x fr3 H3 hm3
          split at hm3
          · rename_i st3 pd3 fn3 fr03 nt3 ps3 as3 bd3 hi3
            exact ⟨st3, pd3, fn3, fr03, nt3, ps3, as3, bd3, hi3, hm3⟩
          · exact nomatch hm3
        · exact nomatch hm
  · exact nomatch h

theorem vO_sound (hS : SumPOk P B S) (hrc : VSound P B rc) : ∀ (l : List Nat) (fr : Fr) (H : Heap) (k : KO), vO P S rc n ops l fr H k → WO P B K r n ops l fr H k
  | [], fr, H, k, h => WO.nil h
  | i :: rest, fr, H, k, h => by
    unfold vO at h
    split at h
    · exact nomatch h
    · rename_i o ho
      have ih := fun fr' H' hh => vO_sound hS hrc rest fr' H' k hh
      unfold vOp at h
      split at h
      · exact nomatch h
      · rename_i hw
        obtain ⟨fr', hp, hk⟩ := vPut_inv h
        exact WO.skipped ho hw hp (ih _ _ hk)
      · rename_i hw
        split at h
        · exact nomatch h
        · rename_i ob q he
          obtain ⟨hob, h⟩ := withOb_inv h
          have he := aop_of he hob
          split at h
          · rename_i v H'
            obtain ⟨v', fr', hun, hp, hk⟩ := vPutS_inv h
            exact WO.val' ho hw he hun hp (ih _ _ hk)
          · rename_i l
            refine WO.opts ho hw he fun q hq => ?_
            obtain ⟨fr', hp, hk⟩ := vPut_inv (allQ_inv h q hq)
            exact ⟨fr', hp, ih _ _ hk⟩
          · rename_i f args
            refine WO.call ho hw he ((vF_sound hS hrc h).split.mono fun v H' ⟨fr', hp, hk⟩ => ⟨fr', hp, ih _ _ hk⟩)
          · rename_i l args
            refine WO.yield ho hw he ((vY_sound hrc h).mono fun b H' hq => ?_)
            obtain ⟨fr', hp, hk⟩ := vPut_inv hq
            exact ⟨fr', hp, ih _ _ hk⟩

theorem roX_ok {o : Oper} {p : Option Prop} {v : AV} (h : roX P ops fr H o = some (p, v)) (hp : obOk p) : roVal P ops fr H o = some v := by
  unfold roX at h
  unfold roVal
  split at h
  · rename_i hw
    rw [hw]
    simp only
    split at h
    · rename_i q u H' he
      cases h
      rw [aop_of he hp]
    · cases h
  · rename_i hw; rw [hw]; cases h; rfl
  · cases h

theorem vChk_inv : ∀ {js : List Nat} {fr : Fr} {H : Heap} {q : Prop}, vChk P ops fr H js q → (∀ j ∈ js, ∀ oj, ops[j]? = some oj → ∃ v v' : AV, roVal P ops fr H oj = some v ∧ v'.ub = v.ub ∧ ∀ d, oj.dst = some d → fr.get d = some v') ∧ q
  | [], fr, H, q, h => ⟨fun j hj => (by cases hj), h⟩
  | j :: js, fr, H, q, h => by
    have key : ∀ {q' : Prop}, vChk P ops fr H js q → (∀ oj, ops[j]? = some oj → ∃ v v' : AV, roVal P ops fr H oj = some v ∧ v'.ub = v.ub ∧ ∀ d, oj.dst = some d → fr.get d = some v') →
        (∀ i ∈ j :: js, ∀ oj, ops[i]? = some oj → ∃ v v' : AV, roVal P ops fr H oj = some v ∧ v'.ub = v.ub ∧ ∀ d, oj.dst = some d → fr.get d = some v') ∧ q := by
      intro _ hh hj
      obtain ⟨h1, h2⟩ := vChk_inv hh
      refine ⟨fun i hi oj hoj => ?_, h2⟩
      rcases List.mem_cons.1 hi with rfl | hi
      · exact hj oj hoj
      · exact h1 i hi oj hoj
    unfold vChk at h
    split at h
    · rename_i hn; exact key (q' := q) h fun oj hoj => by rw [hn] at hoj; cases hoj
    · rename_i oj hoj
      split at h
      · exact nomatch h
      · rename_i p v hro
        obtain ⟨hp, h⟩ := withOb_inv h
        have hv := roX_ok hro hp
        split at h
        · rename_i hd
          exact key (q' := q) h fun oj' hoj' => by rw [hoj] at hoj'; cases hoj'; exact ⟨v, v, hv, rfl, fun d hd' => by rw [hd] at hd'; cases hd'⟩
        · rename_i d hd
          split at h
          · exact nomatch h
          · rename_i u hu
            split at h
            · exact nomatch h
            · rename_i ps hps
              have fin : AllP ps → vChk P ops fr H js q → _ := fun hps' hh => key (q' := q) hh fun oj' hoj' => by
                rw [hoj] at hoj'; cases hoj'
                exact ⟨v, u, hv, sameP_sound hps hps', fun d' hd' => by rw [hd] at hd'; cases hd'; exact hu⟩
              split at h
              · exact fin trivial h
              · exact fin (allP_of h.1) h.2

theorem vPl_sound (hS : SumPOk P B S) (hrc : VSound P B rc) {an : List Nat} (hA : Anc ops fun i => an.getD i 0) : ∀ (pl : List St) (lA : Nat) (fr : Fr) (H : Heap) (k : KO),
    okPlan P ops an lA pl = true → Down ops lA → vPl P S rc n ops pl fr H k → WD P B K r n ops (fun i => an.getD i 0) lA fr H k
  | [], lA, fr, H, k, hok, hd, h => by
    simp only [okPlan, List.all_eq_true, List.mem_range] at hok
    exact WD.done hA (fun k hk => hok k hk) h
  | .ro i :: rest, lA, fr, H, k, hok, hd, h => by
    simp only [okPlan, Bool.and_eq_true, Bool.not_eq_true'] at hok
    obtain ⟨⟨⟨⟨k1, k2⟩, k3⟩, k4⟩, k5⟩ := hok
    unfold vPl at h
    split at h
    · exact nomatch h
    · rename_i o ho
      rw [ho] at k4
      have hin : ∀ e ∈ o.after, Region.binds .any e = true → lA.testBit e.on = true := fun e he hb => subM_bit k2 (hA.back i o ho e he hb).2
      split at h
      · exact nomatch h
      · rename_i p v hv
        obtain ⟨hp, h⟩ := withOb_inv h
        obtain ⟨v', fr', hun, hpt, hk⟩ := vPutS_inv h
        exact WD.ro hA ho hd k1 k4 (dstOk_ok k3) (roX_ok hv hp) hun hpt (vPl_sound hS hrc hA rest _ _ _ _ k5 (hd.add ho hin) hk)
  | .loud i js :: rest, lA, fr, H, k, hok, hd, h => by
    simp only [okPlan, Bool.and_eq_true, Bool.not_eq_true', List.all_eq_true, List.mem_range] at hok
    obtain ⟨⟨⟨⟨⟨k1, k2⟩, k3⟩, k4⟩, k5⟩, k6⟩ := hok
    unfold vPl at h
    split at h
    · exact nomatch h
    · rename_i o ho
      have hin : ∀ e ∈ o.after, Region.binds .any e = true → lA.testBit e.on = true := fun e he hb => subM_bit k2 (hA.back i o ho e he hb).2
      have hd' := hd.add ho hin
      have hone : Alone ops lA i := by
        intro k ok hk hb hki
        have := k4 k (Array.getElem?_eq_some_iff.1 hk).1
        simp only [Bool.or_eq_true, Bool.not_eq_true'] at this
        have hs : subM (an.getD k 0) lA = false := by
          rcases this with (h | h) | h
          · unfold inM at h; rw [hb] at h; cases h
          · exact absurd (nbeq h) hki
          · exact h
        refine Classical.byContradiction fun hno => ?_
        obtain ⟨j, hj1, hj2⟩ := not_subM hs
        have := hA.close (fun j => lA.testBit j = true) (fun m om hm hmk e he hb => hd m om hm hmk e he hb) k ok hk (fun e he hbe => ?_) j hj1
        · rw [hj2] at this; cases this
        · cases hh : lA.testBit e.on with
          | true => rfl
          | false => exact (hno ⟨e, he, hbe, hh⟩).elim
      have cont : ∀ {fr' : Fr} {H' : Heap}, vChk P ops fr' H' js (vPl P S rc n ops rest fr' H' k) →
          Again P n ops (fun i => an.getD i 0) lA i fr' H' ∧ WD P B K r n ops (fun i => an.getD i 0) (lA ||| 2 ^ i) fr' H' k := by
        intro fr' H' hh
        obtain ⟨h1, h2⟩ := vChk_inv hh
        refine ⟨?_, vPl_sound hS hrc hA rest _ _ _ _ k6 hd' h2⟩
        intro j oj hj hjA hjan hro
        have := k5 j (Array.getElem?_eq_some_iff.1 hj).1
        simp only [Bool.or_eq_true, Bool.not_eq_true'] at this
        rw [hj] at this
        have hjs : j ∈ js := by
          rcases this with ((h | h) | h) | h
          · unfold inM at h; rw [hjA] at h; cases h
          · unfold inM at h; rw [hjan] at h; cases h
          · simp [hro] at h
          · rw [List.any_eq_true] at h
            obtain ⟨x, hx, hx2⟩ := h
            rw [nbeq hx2]; exact hx
        exact h1 j hjs oj hj
      unfold vOp at h
      split at h
      · exact nomatch h
      · rename_i hw
        obtain ⟨fr', hp, hk⟩ := vPut_inv h
        exact WD.skipped hA ho k1 hone hw hp (cont hk).1 (cont hk).2
      · rename_i hw
        split at h
        · exact nomatch h
        · rename_i ob q he
          obtain ⟨hob, h⟩ := withOb_inv h
          have he := aop_of he hob
          split at h
          · rename_i v H'
            obtain ⟨v', fr', hun, hp, hk⟩ := vPutS_inv h
            exact WD.val hA ho k1 hone hw he hun hp (cont hk).1 (cont hk).2
          · rename_i l
            refine WD.opts hA ho k1 hone hw he fun q hq => ?_
            obtain ⟨fr', hp, hk⟩ := vPut_inv (allQ_inv h q hq)
            exact ⟨fr', hp, (cont hk).1, (cont hk).2⟩
          · rename_i f args
            exact WD.call hA ho k1 hone hw he ((vF_sound hS hrc h).split.mono fun v H' ⟨fr', hp, hk⟩ => ⟨fr', hp, (cont hk).1, (cont hk).2⟩)
          · rename_i l args
            refine WD.yield hA ho k1 hone hw he ((vY_sound hrc h).mono fun b H' hq => ?_)
            obtain ⟨fr', hp, hk⟩ := vPut_inv hq
            exact ⟨fr', hp, (cont hk).1, (cont hk).2⟩

theorem vR_sound (hS : SumPOk P B S) (hrc : VSound P B rc) {f0 : FuncId} {g : Operand} {ps : Array Tmp} {as bd : Code} {Q : Post} (h : vR P S rc f0 K n g ps as bd fr H Q) :
    WC P B K none n (.rangeFunc g ps as bd) fr H Q := by
  unfold vR at h
  split at h
  · exact nomatch h
  · rename_i gv hg
    split at h
    · rename_i f args hc
      refine WC.rangeFunc' hg hc f0 ((vF_sound hS hrc h).mono fun v H2 hm => ?_)
      split at hm
      · rename_i st pd fn fr0 nt ps' as' bd' hi
        refine ⟨st, pd, fn, fr0, nt, ps', as', bd', hi, ?_⟩
        cases hst : (st == LoopState.busy) with
        | true => rw [hst] at hm; exact nomatch hm
        | false =>
          rw [hst] at hm
          refine ⟨rfl, ?_⟩
          simp only [cond_false] at hm
          cases pd with
          | none => exact hm
          | some c => exact hrc.c _ _ _ _ _ _ _ _ hm none fun _ => rfl
      · exact nomatch hm
    · exact nomatch h

theorem vThen_sound (hrc : VSound P B rc) {f : FuncId} {inR : Bool} {c : Code} {Q : Post} (hr : inR = false → r = none) :
    (∀ fr' H', vThen rc f inR K n c Q .nor fr' H' → WL P B K r n c fr' H' Q) ∧ ∀ x fr' H', x ≠ XT.nor → vThen rc f inR K n c Q x fr' H' → Q x fr' H' := by
  refine ⟨fun fr' H' hm => by
    simp only [vThen, forceS_eq] at hm
    exact hrc.l _ _ _ _ _ _ _ _ hm r hr, fun x fr' H' hx hm => ?_⟩
  cases x with
  | nor => exact (hx rfl).elim
  | ex id => exact hm
  | ret => exact hm

theorem vStep_sound (hm : P.follows .mixedOrders = true) (hS : SumPOk P B S) (hrc : VSound P B rc) : VSound P B (vStep P S L rc) where
  c f inR K n c fr H Q h r hr := by
    unfold vStep at h
    simp only at h
    split at h
    · exact WC.skip h
    · exact WC.label h
    · exact WC.exit h
    · exact WC.ret h
    · rename_i x y
      refine WC.seq (hrc.c _ _ _ _ _ _ _ _ h r hr) (fun fr' H' hm => by
        simp only [vSeq, forceS_eq] at hm
        exact hrc.c _ _ _ _ _ _ _ _ hm r hr) (fun x fr' H' hx hm => ?_)
      cases x with
      | nor => exact (hx rfl).elim
      | ex id => exact hm
      | ret => exact hm
    · split at h
      · rename_i t ht; exact WC.cond ht (hrc.c _ _ _ _ _ _ _ _ h r hr)
      · rename_i b hb; exact WC.condS' hb (fun e => hrc.c _ _ _ _ _ _ _ _ (h.1 e) r hr) (fun e => hrc.c _ _ _ _ _ _ _ _ (h.2 e) r hr)
      · exact nomatch h
    · rename_i id c
      refine WC.block ((hrc.c _ _ _ _ _ _ _ _ h r hr).mono fun x fr' H' hm => ?_)
      cases x with
      | nor => exact hm
      | ret => exact hm
      | ex id' =>
        simp only [vBlk] at hm
        simp only
        by_cases hi : id' = id
        · subst hi; rw [Nat.beq_refl] at hm; rw [if_pos rfl]; exact hm
        · have : Nat.beq id' id = false := by
            cases hb : Nat.beq id' id with
            | false => rfl
            | true => exact absurd (nbeq hb) hi
          rw [this] at hm; rw [if_neg hi]; exact hm
    · rename_i c
      split at h
      · rename_i li hli
        obtain ⟨s0, h0, ha, hs⟩ := h
        refine WC.loopInv li.inv (fun s => frOf (li.st s fr H).1) (fun s => (li.st s fr H).2) li.mu s0 h0 (vMs_sound ha) fun s hinv => ?_
        refine WC.rng (ps := rngT rngV (frOf (li.st s fr H).1) ++ rngT rngO (li.st s fr H).2.t) (fun ρ w tmps g1 g2 => ?_) fun hps => ?_
        · refine allP_app (rngT_sound fun i v hv => ?_) (rngT_sound fun i o ho => ?_)
          · obtain ⟨x, _, hx⟩ := g2 i v hv; exact rngV_sound hx
          · obtain ⟨e, _, hO⟩ := g1.obj i o ho; exact rngO_sound hO
        · refine (hrc.c _ _ _ _ _ _ _ _ (impP_inv (hs s hinv) hps) r hr).mono fun x fr' H' hm => ?_
          cases x with
          | nor =>
            obtain ⟨s', k1, k2, k3⟩ := hm
            exact ⟨s', k1, k2, vMs_sound k3⟩
          | ex id => exact hm
          | ret => exact hm
      · obtain ⟨g1, g2⟩ := vThen_sound (P := P) (B := B) (K := K) (n := n) (f := f) (c := c) (Q := Q) hrc hr
        exact WC.loop (hrc.c _ _ _ _ _ _ _ _ h r hr) g1 g2
    · exact WC.region (vO_sound hS hrc _ _ _ _ h)
    · rename_i ops
      split at h
      · exact nomatch h
      · rename_i pl hpl
        unfold plan at hpl
        simp only at hpl
        cases hb : (backOk 0 ops.toList && okPlan P ops (ancs ops) 0 (mkPlan P ops (ancs ops) ops.size 0)) with
        | false => rw [hb] at hpl; cases hpl
        | true =>
          rw [hb] at hpl
          cases hpl
          rw [Bool.and_eq_true] at hb
          exact WC.drawn hm (vPl_sound hS hrc (anc_of hb.1) _ 0 _ _ _ hb.2 (fun j o _ hj => by simp at hj) h)
    · split at h
      · exact nomatch h
      · rw [hr rfl]; exact vR_sound hS hrc h
    · exact nomatch h
  l f inR K n c fr H Q h r hr := by
    unfold vStep at h
    simp only at h
    obtain ⟨g1, g2⟩ := vThen_sound (P := P) (B := B) (K := K) (n := n) (f := f) (c := c) (Q := Q) hrc hr
    exact WL.round (hrc.c _ _ _ _ _ _ _ _ h r hr) g1 g2

theorem vC_sound (hm : P.follows .mixedOrders = true) (hS : SumPOk P B S) : ∀ k, VSound P B (vC P S L k)
  | 0 => ⟨fun _ _ _ _ _ _ _ _ h => (nomatch h), fun _ _ _ _ _ _ _ _ h => (nomatch h)⟩
  | k + 1 => vStep_sound hm hS (vC_sound hm hS k)

/-- A function, from what is owed for it. -/
theorem WF.of_vc (hm : P.follows .mixedOrders = true) (hS : SumPOk P B S) {k : Nat} {f : FuncId} {args : List AV} {Q : KF} (h : vF P S (vC P S L k) f args H Q) : WF P B f args H Q :=
  vF_sound hS (vC_sound hm hS k) h

end
end Go.AM
