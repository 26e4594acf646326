/- THE ABSTRACT MACHINE, 23f: what is owed: words, and what they say. -/
import Derived.Test.YtdeoahhofhmgfaaAmVc0
set_option linter.unusedSimpArgs false
set_option linter.unusedVariables false
namespace Go.AM
open Go.RowKit
universe u

theorem withOb_inv {o : Option Prop} {q : Prop} (h : withOb o q) : obOk o ∧ q := by
  cases o with
  | none => exact ⟨trivial, h⟩
  | some p => exact h

theorem impP_inv : ∀ {ps : List Prop} {q : Prop}, impP ps q → AllP ps → q
  | [], q, h, _ => h
  | p :: ps, q, h, hp => impP_inv (h hp.1) hp.2

theorem allP_app : ∀ {ps qs : List Prop}, AllP ps → AllP qs → AllP (ps ++ qs)
  | [], qs, _, h => h
  | p :: ps, qs, h, k => ⟨h.1, allP_app h.2 k⟩

theorem natF_eq {β : Sort u} (n : Nat) (c : Nat → β) : natF n c = c n := by cases n <;> rfl
theorem kindF_eq {β : Sort u} (k : IntKind) (c : IntKind → β) : kindF k c = c k := by cases k <;> rfl
theorem boolF_eq {β : Sort u} (k : Bool) (c : Bool → β) : boolF k c = c k := by cases k <;> rfl
theorem optF_eq {β : Sort u} (k : Option Nat) (c : Option Nat → β) : optF k c = c k := by cases k <;> simp [optF, natF_eq]

mutual
theorem AV.force_eq {β : Sort u} : ∀ (v : AV) (c : AV → β), AV.force v c = c v
  | .sI k n, c => by simp only [AV.force, kindF_eq]
  | .int k n, c => by simp only [AV.force, kindF_eq]
  | .ptr i off, c => by simp only [AV.force, natF_eq]
  | .slc i off len cap ex, c => by simp only [AV.force, natF_eq, boolF_eq]
  | .map i, c => by simp only [AV.force, natF_eq]
  | .yld i, c => by simp only [AV.force, natF_eq]
  | .sw i, c => by simp only [AV.force, natF_eq]
  | .ss i lo len, c => by simp only [AV.force, natF_eq]
  | .eptr i k j, c => by simp only [AV.force, natF_eq]
  | .dptr r row j, c => by simp only [AV.force, natF_eq]
  | .agg cs, c => by simp only [AV.force]; exact AV.forceL_eq cs _
  | .tup cs, c => by simp only [AV.force]; exact AV.forceL_eq cs _
  | .iface t v, c => by simp only [AV.force]; exact AV.force_eq v _
  | .fn f a b, c => by simp only [AV.force]; rw [AV.forceL_eq a, AV.forceL_eq b]
  | .bool _, _ | .str _, _ | .nilPtr, _ | .nilSlc, _ | .emp, _ | .nilMap, _ | .nilFn, _ | .nilIface, _ | .sB _, _ | .sS _, _ | .dsl .., _ => rfl
theorem AV.forceL_eq {β : Sort u} : ∀ (v : List AV) (c : List AV → β), AV.forceL v c = c v
  | [], c => rfl
  | v :: vs, c => by simp only [AV.forceL]; rw [AV.force_eq v, AV.forceL_eq vs]
end

theorem AV.forceF_eq {β : Sort u} (v : AV) (c : AV → β) : AV.forceF v c = c v := by
  cases v <;> simp only [AV.forceF, AV.force_eq, kindF_eq, natF_eq, boolF_eq]

theorem forceC_eq {β : Sort u} : ∀ (v : List AV) (c : List AV → β), forceC v c = c v
  | [], c => rfl
  | v :: vs, c => by
    show v.forceF (fun v => forceC vs fun vs => c (v :: vs)) = _
    rw [AV.forceF_eq, forceC_eq vs]

theorem forceT_eq {α : Type} {β : Sort u} {f : α → (α → β) → β} (hf : ∀ a c, f a c = c a) : ∀ (t : T α) (c : T α → β), forceT f t c = c t
  | .nil, c => rfl
  | .node l v r, c => by
    simp only [forceT]
    rw [forceT_eq hf l, forceT_eq hf r]
    cases v with
    | none => rfl
    | some x => simp only [hf]

theorem forceE_eq {β : Sort u} : ∀ (es : List Ent) (c : List Ent → β), forceE es c = c es
  | [], c => rfl
  | e :: es, c => by simp only [forceE, AV.force_eq, natF_eq]; rw [forceE_eq es]

theorem AObj.force_eq {β : Sort u} (o : AObj) (c : AObj → β) : AObj.force o c = c o := by
  cases o <;> simp only [AObj.force, boolF_eq, natF_eq, optF_eq, forceC_eq, forceE_eq, forceT_eq AV.forceF_eq]

theorem boxT_eq {α : Type} {f : α → Option α} (hf : ∀ a, f a = some a) : ∀ (t : T α), boxT f t = some t
  | .nil => rfl
  | .node l v r => by
    simp only [boxT]
    rw [boxT_eq hf l, boxT_eq hf r]
    cases v with
    | none => rfl
    | some x => simp only [hf]

theorem forceS_eq {β : Sort u} (fr : Fr) (H : Heap) (c : Fr → Heap → β) : forceS fr H c = c fr H := by
  unfold forceS
  rw [boxT_eq (fun a => by unfold AV.box; rw [AV.forceF_eq]), boxT_eq (fun a => by unfold AObj.box; rw [AObj.force_eq])]
  simp only [natF_eq]

/-! ### Ranges -/
theorem RTy.Rd.hasAll (σ : Nat → Option (Array Value)) (r : RTy) : ∀ (d : r.den) (ys : List Value), RTy.Rd σ r d ys → RTy.Has r d := by
  refine RTy.rec (motive_1 := fun c => ∀ (d : c.den) (x : Value), CTy.Rd σ c d x → CTy.Has c d) (motive_2 := fun r => ∀ (d : r.den) (ys : List Value), RTy.Rd σ r d ys → RTy.Has r d) ?_ ?_ ?_ ?_ ?_ ?_ r
  · intro k d x h; simp only [CTy.Rd] at h; simp only [CTy.Has]; exact h.2
  · intro d x h; simp only [CTy.Has]
  · intro d x h; simp only [CTy.Rd] at h; simp only [CTy.Has]; exact h.2
  · intro r ih d x h
    simp only [CTy.Rd] at h
    simp only [CTy.Has]
    obtain ⟨base, cap, _, _, h3, _, _, h6⟩ := h
    refine ⟨h3, fun row hm => ?_⟩
    obtain ⟨k, hk⟩ := List.getElem?_of_mem (show row ∈ (show List r.den from d) from hm)
    obtain ⟨b, off, arr, ys, _, _, _, g⟩ := h6 k row hk
    exact ih row ys g
  · intro c ih d ys h
    simp only [RTy.Rd] at h; simp only [RTy.Has]
    obtain ⟨y, _, h⟩ := h; exact ih d y h
  · intro c r ih1 ih2 d ys h
    simp only [RTy.Rd] at h; simp only [RTy.Has]
    obtain ⟨y, ys', _, h1, h2⟩ := h; exact ⟨ih1 _ y h1, ih2 _ ys' h2⟩

theorem CTy.Rd.has1 {σ : Nat → Option (Array Value)} {c : CTy} {d : c.den} {x : Value} (h : CTy.Rd σ c d x) : CTy.Has c d := by
  have := RTy.Rd.hasAll σ (.one c) d [x] (by simp only [RTy.Rd]; exact ⟨x, rfl, h⟩)
  simpa only [RTy.Has] using this

mutual
theorem rngV_sound {ρ : Env} : ∀ {v : AV} {x : Value}, Rel ρ v x → AllP (rngV v) := by
  intro v x h
  cases v <;> simp only [rngV] <;> try exact trivial
  · simp only [Rel] at h; obtain ⟨y, _, h⟩ := h; exact rngV_sound h
  · simp only [Rel] at h; obtain ⟨y, _, h⟩ := h; exact rngL_sound h
  · simp only [Rel] at h; obtain ⟨y, _, h⟩ := h; exact rngL_sound h
  · simp only [Rel] at h; exact ⟨h.2, trivial⟩
  · simp only [Rel] at h; exact ⟨h.2, trivial⟩
  · simp only [Rel] at h; exact ⟨h.has1, trivial⟩
theorem rngL_sound {ρ : Env} : ∀ {v : List AV} {x : List Value}, RelL ρ v x → AllP (rngL v) := by
  intro v x h
  cases v with
  | nil => exact trivial
  | cons v vs =>
    simp only [RelL] at h
    obtain ⟨y, ys, rfl, h1, h2⟩ := h
    simp only [rngL]
    exact allP_app (rngV_sound h1) (rngL_sound h2)
end

theorem rngL_each : ∀ {l : List AV}, (∀ v ∈ l, AllP (rngV v)) → AllP (rngL l)
  | [], _ => trivial
  | v :: l, h => allP_app (h v (List.mem_cons_self ..)) (rngL_each fun u hu => h u (List.mem_cons_of_mem _ hu))

theorem RowV.has {σ : Nat → Option (Array Value)} {a : Bool} {r : RTy} {d : r.den} {x : Value} (h : RowV σ a r d x) : RTy.Has r d :=
  let ⟨ys, h1, _⟩ := h; RTy.Rd.hasAll σ r d ys h1

theorem rngO_sound {ρ : Env} {B : Nat} {w : World} {e : At} {o : AObj} (h : ORel ρ B w e o) : AllP (rngO o) := by
  cases o <;> simp only [rngO] <;> try exact trivial
  · obtain ⟨h0, h1, arr, ty, fz, h2, h3, h4, h5⟩ := h
    refine rngL_each fun v hv => ?_
    obtain ⟨j, hj⟩ := List.getElem?_of_mem hv
    obtain ⟨x, _, hx⟩ := h4 j v hj
    exact rngV_sound hx
  · refine ⟨fun row hm => ?_, trivial⟩
    obtain ⟨h0, h1, h2 | ⟨h2, arr, ty, fz, h3, h4, h6, h7⟩⟩ := h
    · rw [h2.2] at hm; cases hm
    · obtain ⟨k, hk⟩ := List.getElem?_of_mem hm
      obtain ⟨ys, _, g⟩ := h6 k row hk
      exact RTy.Rd.hasAll _ _ _ _ g
  · obtain ⟨h0, h1, h2, arr, h3, h4, hb, h6, h7⟩ := h
    refine ⟨h2, fun p hp => ?_, ⟨by rw [hb, List.length_map, h6], by rw [hb]; exact h4.1, fun b hm => ?_⟩, trivial⟩
    rotate_left
    · rw [hb] at hm
      obtain ⟨x, hx, rfl⟩ := List.mem_map.1 hm
      exact h4.2 x hx
    obtain ⟨i, hi⟩ := List.getElem?_of_mem hp
    have hlt : i < arr.toList.length := by rw [← h6]; exact (List.getElem?_eq_some_iff.1 hi).1
    obtain ⟨g1, g2⟩ := h7 i p _ hi (List.getElem?_eq_getElem hlt)
    exact ⟨g1.has, g2.has⟩

theorem rngT_sound {α : Type} {f : α → List Prop} : ∀ {t : T α}, (∀ i v, t.get i = some v → AllP (f v)) → AllP (rngT f t)
  | .nil, _ => trivial
  | .node l x r, h => by
    simp only [rngT]
    refine allP_app (allP_app ?_ (rngT_sound fun i v hv => ?_)) (rngT_sound fun i v hv => ?_)
    · cases x with
      | none => exact trivial
      | some x => exact h 0 x rfl
    · refine h (2 * i + 1) v ?_
      have e : Nat.beq (2 * i % 2) 0 = true := by rw [show 2 * i % 2 = 0 by omega]; rfl
      simp only [T.get, e, cond_true, show 2 * i / 2 = i by omega]
      exact hv
    · refine h (2 * i + 1 + 1) v ?_
      have e : Nat.beq ((2 * i + 1) % 2) 0 = false := by rw [show (2 * i + 1) % 2 = 1 by omega]; rfl
      simp only [T.get, e, cond_false, show (2 * i + 1) / 2 = i by omega]
      exact hv

theorem vMs_sound {K : Nat} {p : List (Nat × AV) × Heap} {fr : Fr} {H : Heap} (h : vMs K p fr H) : Abs K fr H (frOf p.1) p.2 := by
  unfold vMs at h
  split at h
  · rename_i ps hps; exact mS_sound hps (allP_of h)
  · exact nomatch h

/-! ### The very same -/
mutual
theorem sameA_sound : ∀ {u v : AV} {ps : List Prop}, sameA u v = some ps → AllP ps → u = v := by
  intro u v ps h hp
  cases u <;> simp only [sameA] at h
  case sI k n =>
    split at h
    · rename_i k' n'
      cases hb : decide (k = k') with
      | false => rw [hb] at h; cases h
      | true => rw [hb] at h; obtain rfl := of_decide_eq_true hb; rw [allP_one hp h]
    · cases h
  case sB => split at h <;> first | (cases h; done) | rw [allP_one hp h]
  case sS => split at h <;> first | (cases h; done) | rw [allP_one hp h]
  case dsl r rows =>
    split at h
    · split at h
      · rename_i hs
        have e := RTy.same_eq hs
        subst e
        have := allP_one hp h
        rw [castRows_rfl] at this
        rw [this]
      · cases h
    · cases h
  case eptr i k j =>
    split at h
    · rename_i i' k' j'
      cases hb : (Nat.beq i i' && Nat.beq j j') with
      | false => rw [hb] at h; cases h
      | true =>
        rw [hb] at h
        simp only [Bool.and_eq_true] at hb
        rw [Nat.eq_of_beq_eq_true hb.1, Nat.eq_of_beq_eq_true hb.2, allP_one hp h]
    · cases h
  case ss i lo len =>
    split at h
    · rename_i i' lo' len'
      cases hb : Nat.beq i i' with
      | false => rw [hb] at h; cases h
      | true =>
        rw [hb] at h
        cases h
        rw [Nat.eq_of_beq_eq_true hb, hp.1, hp.2.1]
    · cases h
  case sw i =>
    split at h
    · rename_i i'
      cases hb : Nat.beq i i' with
      | false => rw [hb] at h; cases h
      | true => rw [Nat.eq_of_beq_eq_true hb]
    · cases h
  case agg a => split at h <;> first | (cases h; done) | rw [sameL_sound h hp]
  case tup a => split at h <;> first | (cases h; done) | rw [sameL_sound h hp]
  case iface t a =>
    split at h
    · rename_i t' a'
      cases hb : Nat.beq t t' with
      | false => rw [hb] at h; cases h
      | true => rw [hb] at h; rw [Nat.eq_of_beq_eq_true hb, sameA_sound h hp]
    · cases h
  all_goals
    cases hb : AV.same _ v with
    | false => rw [hb] at h; cases h
    | true => exact AV.same_eq hb
theorem sameL_sound : ∀ {u v : List AV} {ps : List Prop}, sameL u v = some ps → AllP ps → u = v := by
  intro u v ps h hp
  cases u with
  | nil => cases v with
    | nil => rfl
    | cons => simp [sameL] at h
  | cons a x => cases v with
    | nil => simp [sameL] at h
    | cons b y =>
      simp only [sameL] at h
      obtain ⟨p1, q1, h1, h2, hp1, hq1⟩ := andP_inv h hp
      rw [sameA_sound h1 hp1, sameL_sound h2 hq1]
end

theorem sameP_sound {u v : AV} {ps : List Prop} (h : sameP u v = some ps) (hp : AllP ps) : u.ub = v.ub := by
  unfold sameP at h
  split at h
  · rw [allP_one hp h]; rfl
  · rw [sameA_sound h hp]

/-! ### Code -/
section
variable {P : Program} {B K : Nat} {r : Option Nat} {n : Nat} {fr : Fr} {H : Heap} {S : SumP} {L : LTab} {ops : Array Oper}

def SumR.Ok (P : Program) (B : Nat) (f : FuncId) (args : List AV) (H : Heap) : SumR → Prop
  | .val v => WF P B f args H fun v' H' => v' = v ∧ H' = H
  | .fn ob v H2 => obOk ob → WF P B f args H fun v' H' => v' = v ∧ H' = H2
  | .path => True
  | .gen φ => ∀ Q, φ Q → WF P B f args H Q

def SumPOk (P : Program) (B : Nat) (S : SumP) : Prop := ∀ f args H s, S f args H = some s → s.Ok P B f args H

/-! ### A scope through which the run goes without a jump -/
section
variable {P : Program} {b : Frame} {a : Act} {k : List Item} {cs : List Frame} {w : World}
theorem stepR_scope {c : Code} : step P (lone (b.atR a (.code (.scope c) :: k)) cs w) = .next (lone (b.atR a (.code c :: .inScope c :: k)) cs w) :=
  step_lone_go (by simp [stepG, stepG.exec, Frame.atR])
theorem stepR_inScope {c : Code} : step P (lone (b.atR a (.inScope c :: k)) cs w) = .next (lone (b.atR a k) cs w) :=
  step_lone_go (by simp [stepG, stepG.exec, Frame.atR])
end

theorem wpIn_scope_straight {P : Program} {F : Fence} {n : Nat} {Q : Exit → Act → World → Prop} {a : Act} {w : World} {c : Code} (h : c.wpIn F n P Q a w) (hg : ∀ l a w, ¬ Q (.goto l) a w) : (Code.scope c).wpIn F n P Q a w := by
  intro b k cs hro hb hr
  have h0 : (lone (b.atR a (.code (.scope c) :: k)) cs w).fenced P F := fenced_calm hb hr rfl
  obtain ⟨e, a₁, w₁, hq, harr⟩ := h b (.inScope c :: k) cs hro hb hr
  cases e with
  | normal => exact ⟨.normal, a₁, w₁, hq, .head h0 stepR_scope (StepsIn.trans harr (.one (fenced_calm hb hr rfl) stepR_inScope))⟩
  | exit id =>
    have hx : exitTo id (.inScope c :: k) = exitTo id k := by simp [exitTo]
    exact ⟨.exit id, a₁, w₁, hq, fun k' hk => .head h0 stepR_scope (harr.1 k' (by rw [hx]; exact hk)),
      fun hr' hk => let ⟨k₁, h1, h2⟩ := harr.2 hr' (by rw [hx]; exact hk); ⟨k₁, h1, .head h0 stepR_scope h2⟩⟩
  | goto l => exact (hg _ _ _ hq).elim
  | ret => exact ⟨_, a₁, w₁, hq, .of_steps (.one h0 stepR_scope) harr⟩
  | panic ch => exact ⟨_, a₁, w₁, hq, .of_steps (.one h0 stepR_scope) harr⟩
  | outgrown => exact ⟨_, a₁, w₁, hq, .of_steps (.one h0 stepR_scope) harr⟩

theorem WC.scope {c : Code} {Q : Post} (h : WC P B K r n c fr H Q) : WC P B K r n (.scope c) fr H Q := by
  intro M ρ w a hk h1 h2 h3 h4
  refine wpIn_scope_straight (h M ρ w a hk h1 h2 h3 h4) ?_
  rintro l a' w' ⟨x, fr', H', ρ', e, g2, g3⟩
  cases x <;> simp [XT.out] at e

theorem WC.condS' {c : Operand} {x y : Code} {b : Bool} {Q : Post} (hc : aeval fr c = some (.sB b)) (h1 : b = true → WC P B K r n x fr H Q) (h2 : b = false → WC P B K r n y fr H Q) : WC P B K r n (.cond c x y) fr H Q := by
  intro M ρ w a hk g1 g2 g3 g4
  have hv := aeval_sound g2 hc
  simp only [Rel] at hv
  refine wpIn_cond hv ?_
  cases b
  · exact h2 rfl M ρ w a hk g1 g2 g3 g4
  · exact h1 rfl M ρ w a hk g1 g2 g3 g4

theorem WC.rng {c : Code} {Q : Post} {ps : List Prop} (hps : ∀ (ρ : Env) (w : World) (tmps : Array Value), HR B ρ H w → FRel ρ fr tmps → AllP ps) (h : AllP ps → WC P B K r n c fr H Q) : WC P B K r n c fr H Q :=
  fun M ρ w a hk h1 h2 h3 h4 => h (hps ρ w a.tmps h1 h2) M ρ w a hk h1 h2 h3 h4

theorem WF.ub {f : FuncId} {args : List AV} {Q : KF} (h : WF P B f args H Q) : WF P B f args H fun v' H' => ∃ v, Q v H' ∧ v' = v.ub :=
  fun ρ w xs h1 h2 => (h ρ w xs h1 h2).mono fun e w' ⟨v, x, H', ρ', g1, g2, g3, g4, g5⟩ => ⟨v.ub, x, H', ρ', g1, ⟨v, g2, rfl⟩, g3, g4, g5.ub⟩

theorem allQ_inv {α : Type} {f : α → Prop} : ∀ {l : List α}, allQ f l → ∀ a ∈ l, f a
  | [], _, a, ha => by cases ha
  | [b], h, a, ha => by rw [List.mem_singleton] at ha; subst ha; exact h
  | b :: c :: l, h, a, ha => by
    rcases List.mem_cons.1 ha with rfl | ha
    · exact h.1
    · exact allQ_inv h.2 a ha

theorem WF.reval0 {f : FuncId} {args : List AV} {Q Q' : AV → Heap → Prop} (h : WF P B f args H Q) (hq : ∀ v H' (ρ : Env) x, Q v H' → Rel ρ v x → ∃ v', Q' v' H' ∧ Rel ρ v' x) : WF P B f args H Q' :=
  fun ρ w xs h1 h2 => (h ρ w xs h1 h2).mono fun e w' ⟨v, x, H', ρ', g1, g2, g3, g4, g5⟩ => by
    obtain ⟨v', k1, k2⟩ := hq v H' ρ' x g2 g5
    exact ⟨v', x, H', ρ', g1, k1, g3, g4, k2⟩

theorem roX_ok {o : Oper} {p : Option Prop} {v : AV} (h : roX P ops fr H o = some (p, v)) (hp : obOk p) : roVal P ops fr H o = some v := by
  unfold roX at h
  unfold roVal
  split at h
  · rename_i hw
    rw [hw]
    simp only
    split at h
    · rename_i q u H' he
      cases h
      rw [aop_of he hp]
    · cases h
  · rename_i hw; rw [hw]; cases h; rfl
  · cases h

theorem vChk_inv : ∀ {js : List Nat} {fr : Fr} {H : Heap} {q : Prop}, vChk P ops fr H js q → (∀ j ∈ js, ∀ oj, ops[j]? = some oj → ∃ v v' : AV, roVal P ops fr H oj = some v ∧ v'.ub = v.ub ∧ ∀ d, oj.dst = some d → fr.get d = some v') ∧ q
  | [], fr, H, q, h => ⟨fun j hj => (by cases hj), h⟩
  | j :: js, fr, H, q, h => by
    have key : ∀ {q' : Prop}, vChk P ops fr H js q → (∀ oj, ops[j]? = some oj → ∃ v v' : AV, roVal P ops fr H oj = some v ∧ v'.ub = v.ub ∧ ∀ d, oj.dst = some d → fr.get d = some v') →
        (∀ i ∈ j :: js, ∀ oj, ops[i]? = some oj → ∃ v v' : AV, roVal P ops fr H oj = some v ∧ v'.ub = v.ub ∧ ∀ d, oj.dst = some d → fr.get d = some v') ∧ q := by
      intro _ hh hj
      obtain ⟨h1, h2⟩ := vChk_inv hh
      refine ⟨fun i hi oj hoj => ?_, h2⟩
      rcases List.mem_cons.1 hi with rfl | hi
      · exact hj oj hoj
      · exact h1 i hi oj hoj
    unfold vChk at h
    split at h
    · rename_i hn; exact key (q' := q) h fun oj hoj => by rw [hn] at hoj; cases hoj
    · rename_i oj hoj
      split at h
      · exact nomatch h
      · rename_i p v hro
        obtain ⟨hp, h⟩ := withOb_inv h
        have hv := roX_ok hro hp
        split at h
        · rename_i hd
          exact key (q' := q) h fun oj' hoj' => by rw [hoj] at hoj'; cases hoj'; exact ⟨v, v, hv, rfl, fun d hd' => by rw [hd] at hd'; cases hd'⟩
        · rename_i d hd
          split at h
          · exact nomatch h
          · rename_i u hu
            split at h
            · exact nomatch h
            · rename_i ps hps
              have fin : AllP ps → vChk P ops fr H js q → _ := fun hps' hh => key (q' := q) hh fun oj' hoj' => by
                rw [hoj] at hoj'; cases hoj'
                exact ⟨v, u, hv, sameP_sound hps hps', fun d' hd' => by rw [hd] at hd'; cases hd'; exact hu⟩
              split at h
              · exact fin trivial h
              · exact fin (allP_of h.1) h.2


theorem WO.mono {l : List Nat} {Q Q' : Fr → Heap → Prop} (h : WO P B K r n ops l fr H Q) (hq : ∀ fr H, Q fr H → Q' fr H) : WO P B K r n ops l fr H Q' :=
  fun M ρ w a h0 h1 h2 h3 h4 => wpOpsIn_mono (fun e a' w' ⟨x, fr', H', ρ', g1, g2, g3⟩ => ⟨x, fr', H', ρ', g1, ⟨g2.1, hq _ _ g2.2⟩, g3⟩) l a w (h M ρ w a h0 h1 h2 h3 h4)

theorem WD.mono {an : Nat → Nat} {lA : Nat} {Q Q' : Fr → Heap → Prop} (h : WD P B K r n ops an lA fr H Q) (hq : ∀ fr H, Q fr H → Q' fr H) : WD P B K r n ops an lA fr H Q' :=
  fun fuel M ρ w a lR hk hc hf Qr hQr => h fuel M ρ w a lR hk hc hf Qr fun e a' w' ⟨x, fr', H', ρ', g1, g2, g3⟩ => hQr e a' w' ⟨x, fr', H', ρ', g1, ⟨g2.1, hq _ _ g2.2⟩, g3⟩

theorem WI.mono {an : Nat → Nat} {lA i : Nat} {o : Oper} {Q Q' : Fr → Heap → Prop} (h : WI P B K r n ops an lA i o fr H Q) (hq : ∀ fr H, Q fr H → Q' fr H) : WI P B K r n ops an lA i o fr H Q' := by
  intro ρ w a fr0 Kw Qr h1 h2 h3 h4 h5
  refine h ρ w a fr0 Kw Qr h1 h2 h3 h4 fun ρ' w' v x fr' H' e1 e2 e3 e4 e5 hw => h5 ρ' w' v x fr' H' e1 e2 e3 e4 e5 (WD.mono hw hq)

theorem WL.mono {c : Code} {Q Q' : Post} (h : WL P B K r n c fr H Q) (hq : ∀ x fr H, Q x fr H → Q' x fr H) : WL P B K r n c fr H Q' :=
  fun M ρ w a h0 h1 h2 h3 h4 b k cs hb => let ⟨e, a', w', ⟨x, fr', H', ρ', g1, g2, g3⟩, harr⟩ := h M ρ w a h0 h1 h2 h3 h4 b k cs hb; ⟨e, a', w', ⟨x, fr', H', ρ', g1, hq _ _ _ g2, g3⟩, harr⟩

/-- A state at the end may be told otherwise. -/
theorem WC.absPost {c : Code} {Q : Post} (h : WC P B K r n c fr H fun x f H' => ∃ f2 H2, Abs K f H' f2 H2 ∧ Q x f2 H2) : WC P B K r n c fr H Q :=
  fun M ρ w a h0 h1 h2 h3 h4 => wpIn_mono (h M ρ w a h0 h1 h2 h3 h4) fun e a' w' ⟨x, fr', H', ρ', g1, ⟨f2, H2, ha, hq⟩, g3, g4, g5, g6, g7⟩ =>
    let ⟨ρ2, k1, k2, k3⟩ := ha B ρ' w' a'.tmps g3.kle g4 g5
    ⟨x, f2, H2, ρ2, g1, hq, g3.trans k3, k1, k2, g6, g7.extK k3⟩
end
end Go.AM
