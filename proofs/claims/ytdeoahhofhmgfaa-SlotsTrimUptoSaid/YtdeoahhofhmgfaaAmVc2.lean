/- THE ABSTRACT MACHINE, 25: what is owed is enough. -/
import Derived.Test.YtdeoahhofhmgfaaAmVc
import Derived.Test.YtdeoahhofhmgfaaAmMcS
set_option linter.unusedSimpArgs false
set_option linter.unusedVariables false
namespace Go.AM
open Go.RowKit
/-! ### Code -/
section
variable {P : Program} {B K : Nat} {r : Option Nat} {n : Nat} {fr : Fr} {H : Heap} {S : SumP} {L : LTab} {mc : MC} {rc : VC} {ops : Array Oper}

structure VSound (P : Program) (B : Nat) (rc : VC) : Prop where
  c : ∀ f inR K n c fr H Q, rc f inR false K n c fr H Q → ∀ r : Option Nat, (inR = false → r = none) → WC P B K r n c fr H Q
  l : ∀ f inR K n c fr H Q, rc f inR true K n c fr H Q → ∀ r : Option Nat, (inR = false → r = none) → WL P B K r n c fr H Q

theorem WY.mono {i : Nat} {args : List AV} {Q Q' : Bool → Heap → Prop} (h : WY P B i args H Q) (hq : ∀ b H, Q b H → Q' b H) : WY P B i args H Q' :=
  fun ρ w e xs r h1 h2 h3 => let ⟨f, tmps, as, bd, g1, g2⟩ := h ρ w e xs r h1 h2 h3
    ⟨f, tmps, as, bd, g1, RoundIn.mono g2 fun en w' ⟨b, H', ρ', k1, k2, k3⟩ => ⟨b, H', ρ', k1, hq _ _ k2, k3⟩⟩

theorem vPut_inv {dst : Option Tmp} {v : AV} {k : KO} (h : vPut n fr dst v H k) : ∃ fr', aput n fr dst v = some fr' ∧ k fr' H := by
  unfold vPut at h
  split at h
  · exact nomatch h
  · rename_i fr' hp; exact ⟨fr', hp, h⟩

theorem vPutS_inv {g : Bool} {dst : Option Tmp} {v : AV} {k : KO} (h : vPutS g n fr dst v H k) : ∃ v' fr', v'.ub = v.ub ∧ aput n fr dst v' = some fr' ∧ k fr' H := by
  unfold vPutS at h
  split at h
  · rename_i b
    split at h
    · obtain ⟨fr', h1, h2⟩ := vPut_inv h; exact ⟨.sB b, fr', rfl, h1, h2⟩
    · cases b with
      | true => obtain ⟨fr', h1, h2⟩ := vPut_inv (h.1 rfl); exact ⟨.bool true, fr', rfl, h1, h2⟩
      | false => obtain ⟨fr', h1, h2⟩ := vPut_inv (h.2 rfl); exact ⟨.bool false, fr', rfl, h1, h2⟩
  · obtain ⟨fr', h1, h2⟩ := vPut_inv h; exact ⟨v, fr', rfl, h1, h2⟩

theorem WF.split {f : FuncId} {args : List AV} {g : Bool} {dst : Option Tmp} {k : KO} (h : WF P B f args H fun v H' => vPutS g n fr dst v H' k) : WF P B f args H fun v H' => ∃ fr', aput n fr dst v = some fr' ∧ k fr' H' := by
  cases g with
  | false =>
    refine h.mono fun v H' hq => ?_
    unfold vPutS at hq
    split at hq
    · exact vPut_inv hq
    · exact vPut_inv hq
  | true =>
    refine h.ub.mono ?_
    rintro v' H' ⟨v, hq, rfl⟩
    unfold vPutS at hq
    split at hq
    · rename_i b
      cases b with
      | true => exact vPut_inv (hq.1 rfl)
      | false => exact vPut_inv (hq.2 rfl)
    · rename_i hns
      have : v.ub = v := by cases v <;> first | rfl | exact (hns _ rfl).elim
      rw [this]; exact vPut_inv hq

theorem vBody_sound (hrc : VSound P B rc) {f : FuncId} {args : List AV} {Q : KF} (h : vBody P rc f args H Q) : WF P B f args H Q := by
  unfold vBody at h
  split at h
  · exact nomatch h
  · rename_i fn hf
    split at h
    · exact nomatch h
    · rename_i c hb
      refine WF.body hf hb ((hrc.c _ _ _ _ _ _ _ _ h none fun _ => rfl).mono ?_)
      intro x fr' H' hm
      cases x with
      | ex id => exact nomatch hm
      | nor =>
        simp only at hm
        split at hm
        · exact nomatch hm
        · rename_i v hv; exact ⟨.inl rfl, v, hv, hm⟩
      | ret =>
        simp only at hm
        split at hm
        · exact nomatch hm
        · rename_i v hv; exact ⟨.inr rfl, v, hv, hm⟩

theorem vF_sound (hS : SumPOk P B S) (hmc : DSound P B mc) (hrc : VSound P B rc) {f : FuncId} {args : List AV} {Q : KF} (h : vF P S mc rc f args H Q) : WF P B f args H Q := by
  unfold vF at h
  split at h
  · rename_i v hv; exact (show WF P B f args H _ from hS f args H _ hv).mono fun v' H' ⟨e1, e2⟩ => by rw [e1, e2]; exact h
  · rename_i ob v H2 hv
    obtain ⟨ho, h⟩ := withOb_inv h
    exact (show WF P B f args H _ from hS f args H _ hv ho).mono fun v' H' ⟨e1, e2⟩ => by rw [e1, e2]; exact h
  · rename_i φ hφ; exact (show ∀ Q, φ Q → WF P B f args H Q from hS f args H _ hφ) Q h
  · exact vBody_sound hrc h
  · split at h
    · rename_i ob v H' hd
      obtain ⟨ho, h⟩ := withOb_inv h
      exact ((dF_sound hS hmc hd).w ho).mono fun v' H' ⟨e1, e2⟩ => by rw [e1, e2]; exact h
    · exact vBody_sound hrc h

theorem vY_sound (hrc : VSound P B rc) {l : Nat} {args : List AV} {Q : Bool → Heap → Prop} (h : vY rc l args H Q) : WY P B l args H Q := by
  unfold vY at h
  split at h
  · rename_i st pd f fr0 nt ps as bd hi
    split at h
    · exact nomatch h
    · rename_i fr1 hp
      refine WY.round hi hp fun lr => (hrc.c _ _ _ _ _ _ _ _ h (some lr) fun hh => by cases hh).mono ?_
      intro x fr2 H2 hm
      cases x with
      | ex id => exact nomatch hm
      | ret => exact nomatch hm
      | nor =>
        simp only at hm
        split at hm
        · rename_i pd2 fn2 fr02 nt2 ps2 as2 bd2 hi2
          refine ⟨rfl, pd2, fn2, fr02, nt2, ps2, as2, bd2, hi2, (hrc.c _ _ _ _ _ _ _ _ hm (some lr) fun hh => by cases hh).mono ?_⟩
          intro x fr3 H3 hm3
          split at hm3
          · rename_i st3 pd3 fn3 fr03 nt3 ps3 as3 bd3 hi3
            exact ⟨st3, pd3, fn3, fr03, nt3, ps3, as3, bd3, hi3, hm3⟩
          · exact nomatch hm3
        · exact nomatch hm
  · exact nomatch h

theorem vO_sound (hS : SumPOk P B S) (hmc : DSound P B mc) (hrc : VSound P B rc) : ∀ (l : List Nat) (t : Bool) (fr : Fr) (H : Heap) (k : KO), vO P S mc rc n ops t l fr H k → WO P B K r n ops l fr H k
  | [], t, fr, H, k, h => WO.nil (by unfold vO at h; exact h)
  | i :: rest, t, fr, H, k, h => by
    unfold vO at h
    split at h
    · rename_i R hR
      obtain ⟨ho, h⟩ := withOb_inv h
      cases t with
      | false => cases hR
      | true => exact ROk.outsO (dO_sound (r := r) hS hmc rmask_full _ _ _ _ hR) ho h
    split at h
    · exact nomatch h
    · rename_i o ho
      have ih := fun fr' H' (hh : vO P S mc rc n ops (!(roOp P o.op)) rest fr' H' k) => vO_sound hS hmc hrc rest _ fr' H' k hh
      unfold vOp at h
      split at h
      · exact nomatch h
      · rename_i hw
        obtain ⟨fr', hp, hk⟩ := vPut_inv h
        exact WO.skipped ho hw hp (ih _ _ hk)
      · rename_i hw
        split at h
        · exact nomatch h
        · rename_i ob q he
          obtain ⟨hob, h⟩ := withOb_inv h
          have he := aop_of he hob
          split at h
          · rename_i v H'
            obtain ⟨v', fr', hun, hp, hk⟩ := vPutS_inv h
            exact WO.val' ho hw he hun hp (ih _ _ hk)
          · rename_i l
            refine WO.opts ho hw he fun q hq => ?_
            obtain ⟨fr', hp, hk⟩ := vPut_inv (allQ_inv h q hq)
            exact ⟨fr', hp, ih _ _ hk⟩
          · rename_i l
            refine WO.fams ho hw he fun q hq j hj => ?_
            obtain ⟨fr', hp, hk⟩ := vPut_inv (allQ_inv h q hq j hj)
            exact ⟨fr', hp, ih _ _ hk⟩
          · rename_i f args
            refine WO.call ho hw he ((vF_sound hS hmc hrc h).split.mono fun v H' ⟨fr', hp, hk⟩ => ⟨fr', hp, ih _ _ hk⟩)
          · rename_i l args
            refine WO.yield ho hw he ((vY_sound hrc h).mono fun b H' hq => ?_)
            obtain ⟨fr', hp, hk⟩ := vPut_inv hq
            exact ⟨fr', hp, ih _ _ hk⟩

theorem vPl_sound (hS : SumPOk P B S) (hmc : DSound P B mc) (hrc : VSound P B rc) {an : List Nat} (hA : Anc ops fun i => an.getD i 0) : ∀ (pl : Pl) (lA : Nat) (fr : Fr) (H : Heap) (k : KO), Down ops lA → vPl P S mc rc n ops pl fr H k →
    (∀ hs, pl.grp = true → okPlan P ops an hs lA pl = true → ∀ i ∈ pl.heads, ∃ o, ops[i]? = some o ∧ lA.testBit i = false ∧ WI P B K r n ops (fun i => an.getD i 0) lA i o fr H k) ∧
    (okPlan P ops an pl.heads lA pl = true → WD P B K r n ops (fun i => an.getD i 0) lA fr H k)
  | .done, lA, fr, H, k, hd, h => by
    refine ⟨fun hs hg => (by cases hg), fun hok => ?_⟩
    simp only [okPlan, List.all_eq_true, List.mem_range] at hok
    exact WD.done hA (fun k hk => hok k hk) h
  | .ro i rest, lA, fr, H, k, hd, h => by
    refine ⟨fun hs hg => (by cases hg), fun hok => ?_⟩
    simp only [okPlan, Bool.and_eq_true, Bool.not_eq_true'] at hok
    obtain ⟨⟨⟨⟨k1, k2⟩, k3⟩, k4⟩, k5⟩ := hok
    unfold vPl at h
    split at h
    · exact nomatch h
    · rename_i o ho
      rw [ho] at k4
      have hin : ∀ e ∈ o.after, Region.binds .any e = true → lA.testBit e.on = true := fun e he hb => subM_bit k2 (hA.back i o ho e he hb).2
      split at h
      · exact nomatch h
      · rename_i p v hv
        obtain ⟨hp, h⟩ := withOb_inv h
        obtain ⟨v', fr', hun, hpt, hk⟩ := vPutS_inv h
        exact WD.ro hA ho hd k1 k4 (dstOk_ok k3) (roX_ok hv hp) hun hpt ((vPl_sound hS hmc hrc hA rest _ _ _ _ (hd.add ho hin) hk).2 k5)
  | .loud i js rest, lA, fr, H, k, hd, h => by
    have main : ∀ hs, okPlan P ops an hs lA (.loud i js rest) = true → ∃ o, ops[i]? = some o ∧ lA.testBit i = false ∧ WI P B K r n ops (fun i => an.getD i 0) lA i o fr H k := by
      intro hs hok
      simp only [okPlan, Bool.and_eq_true, Bool.not_eq_true', List.all_eq_true, List.mem_range] at hok
      obtain ⟨⟨⟨⟨⟨k1, k2⟩, k3⟩, k4⟩, k5⟩, k6⟩ := hok
      unfold vPl at h
      split at h
      · exact nomatch h
      · rename_i o ho
        have hin : ∀ e ∈ o.after, Region.binds .any e = true → lA.testBit e.on = true := fun e he hb => subM_bit k2 (hA.back i o ho e he hb).2
        have hd' := hd.add ho hin
        refine ⟨o, ho, k1, ?_⟩
        have cont : ∀ {fr' : Fr} {H' : Heap}, vChk P ops fr' H' js (vPl P S mc rc n ops rest fr' H' k) →
            Again P n ops (fun i => an.getD i 0) lA i fr' H' ∧ WD P B K r n ops (fun i => an.getD i 0) (lA ||| 2 ^ i) fr' H' k := by
          intro fr' H' hh
          obtain ⟨h1, h2⟩ := vChk_inv hh
          refine ⟨?_, (vPl_sound hS hmc hrc hA rest _ _ _ _ hd' h2).2 k6⟩
          intro j oj hj hjA hjan hro
          have := k5 j (Array.getElem?_eq_some_iff.1 hj).1
          simp only [Bool.or_eq_true, Bool.not_eq_true'] at this
          rw [hj] at this
          have hjs : j ∈ js := by
            rcases this with ((h | h) | h) | h
            · unfold inM at h; rw [hjA] at h; cases h
            · unfold inM at h; rw [hjan] at h; cases h
            · simp [hro] at h
            · rw [List.any_eq_true] at h
              obtain ⟨x, hx, hx2⟩ := h
              rw [nbeq hx2]; exact hx
          exact h1 j hjs oj hj
        unfold vOp at h
        split at h
        · exact nomatch h
        · rename_i hw
          obtain ⟨fr', hp, hk⟩ := vPut_inv h
          exact WI.skipped ho hw hp (cont hk).1 (cont hk).2
        · rename_i hw
          split at h
          · exact nomatch h
          · rename_i ob q he
            obtain ⟨hob, h⟩ := withOb_inv h
            have he := aop_of he hob
            split at h
            · rename_i v H'
              obtain ⟨v', fr', hun, hp, hk⟩ := vPutS_inv h
              exact WI.val ho hw he hun hp (cont hk).1 (cont hk).2
            · rename_i l
              refine WI.opts ho hw he fun q hq => ?_
              obtain ⟨fr', hp, hk⟩ := vPut_inv (allQ_inv h q hq)
              exact ⟨fr', hp, (cont hk).1, (cont hk).2⟩
            · rename_i l
              refine WI.fams ho hw he fun q hq j hj => ?_
              obtain ⟨fr', hp, hk⟩ := vPut_inv (allQ_inv h q hq j hj)
              exact ⟨fr', hp, (cont hk).1, (cont hk).2⟩
            · rename_i f args
              exact WI.call ho hw he ((vF_sound hS hmc hrc h).split.mono fun v H' ⟨fr', hp, hk⟩ => ⟨fr', hp, (cont hk).1, (cont hk).2⟩)
            · rename_i l args
              refine WI.yield ho hw he ((vY_sound hrc h).mono fun b H' hq => ?_)
              obtain ⟨fr', hp, hk⟩ := vPut_inv hq
              exact ⟨fr', hp, (cont hk).1, (cont hk).2⟩
    refine ⟨fun hs _ hok j hj => ?_, fun hok => ?_⟩
    · rw [Pl.heads, List.mem_singleton] at hj; subst hj; exact main hs hok
    · refine WD.louds hA (okPlan_alone hA hd rfl hok) (List.mem_singleton.2 rfl) fun j hj => ?_
      rw [Pl.heads, List.mem_singleton] at hj; subst hj; exact main _ hok
  | .both a b, lA, fr, H, k, hd, h => by
    have main : ∀ hs, okPlan P ops an hs lA (.both a b) = true → ∀ i ∈ (Pl.both a b).heads, ∃ o, ops[i]? = some o ∧ lA.testBit i = false ∧ WI P B K r n ops (fun i => an.getD i 0) lA i o fr H k := by
      intro hs hok i hi
      unfold vPl at h
      simp only [okPlan, Bool.and_eq_true] at hok
      rw [Pl.heads, List.mem_append] at hi
      rcases hi with hi | hi
      · exact (vPl_sound hS hmc hrc hA a _ _ _ _ hd h.1).1 hs hok.1.1.1 hok.1.2 i hi
      · exact (vPl_sound hS hmc hrc hA b _ _ _ _ hd h.2).1 hs hok.1.1.2 hok.2 i hi
    refine ⟨fun hs _ hok => main hs hok, fun hok => ?_⟩
    have hg : (Pl.both a b).grp = true := by
      simp only [okPlan, Bool.and_eq_true] at hok
      simp only [Pl.grp, Bool.and_eq_true]; exact hok.1.1
    obtain ⟨i0, hi0⟩ := grp_heads hg
    exact WD.louds hA (okPlan_alone hA hd hg hok) hi0 (main _ hok)

theorem vR_sound (hS : SumPOk P B S) (hmc : DSound P B mc) (hrc : VSound P B rc) {f0 : FuncId} {g : Operand} {ps : Array Tmp} {as bd : Code} {Q : Post} (h : vR P S mc rc f0 K n g ps as bd fr H Q) :
    WC P B K none n (.rangeFunc g ps as bd) fr H Q := by
  unfold vR at h
  split at h
  · exact nomatch h
  · rename_i gv hg
    split at h
    · rename_i f args hc
      refine WC.rangeFunc' hg hc f0 ((vF_sound hS hmc hrc h).mono fun v H2 hm => ?_)
      split at hm
      · rename_i st pd fn fr0 nt ps' as' bd' hi
        refine ⟨st, pd, fn, fr0, nt, ps', as', bd', hi, ?_⟩
        cases hst : (st == LoopState.busy) with
        | true => rw [hst] at hm; exact nomatch hm
        | false =>
          rw [hst] at hm
          refine ⟨rfl, ?_⟩
          simp only [cond_false] at hm
          cases pd with
          | none => exact hm
          | some c => exact hrc.c _ _ _ _ _ _ _ _ hm none fun _ => rfl
      · exact nomatch hm
    · exact nomatch h

theorem vThen_sound (hrc : VSound P B rc) {f : FuncId} {inR : Bool} {c : Code} {Q : Post} (hr : inR = false → r = none) :
    (∀ fr' H', vThen rc f inR K n c Q .nor fr' H' → WL P B K r n c fr' H' Q) ∧ ∀ x fr' H', x ≠ XT.nor → vThen rc f inR K n c Q x fr' H' → Q x fr' H' := by
  refine ⟨fun fr' H' hm => by
    simp only [vThen, forceS_eq] at hm
    exact hrc.l _ _ _ _ _ _ _ _ hm r hr, fun x fr' H' hx hm => ?_⟩
  cases x with
  | nor => exact (hx rfl).elim
  | ex id => exact hm
  | ret => exact hm

theorem vLoop_sound (hrc : VSound P B rc) {li : LInv} {f : FuncId} {inR : Bool} {c : Code} {Q : Post} (h : vLoop rc li f inR K n c fr H Q) {r : Option Nat} (hr : inR = false → r = none) :
    WC P B K r n (.loop c) fr H Q ∧ WL P B K r n c fr H Q := by
  obtain ⟨s0, h0, ha, hs⟩ := h
  have body : ∀ s, li.inv s → WC P B K r n c (frOf (li.st s fr H).1) (li.st s fr H).2 fun x fr' H' => match x with
      | .nor => ∃ s', li.inv s' ∧ li.mu s' < li.mu s ∧ Abs K fr' H' (frOf (li.st s' fr H).1) (li.st s' fr H).2
      | x => Q x fr' H' := by
    intro s hinv
    refine WC.rng (ps := rngT rngV (frOf (li.st s fr H).1) ++ rngT rngO (li.st s fr H).2.t) (fun ρ w tmps g1 g2 => ?_) fun hps => ?_
    · refine allP_app (rngT_sound fun i v hv => ?_) (rngT_sound fun i o ho => ?_)
      · obtain ⟨x, _, hx⟩ := g2 i v hv; exact rngV_sound hx
      · obtain ⟨e, _, hO⟩ := g1.obj i o ho; exact rngO_sound hO
    · refine (hrc.c _ _ _ _ _ _ _ _ (impP_inv (hs s hinv) hps) r hr).mono fun x fr' H' hm => ?_
      cases x with
      | nor =>
        obtain ⟨s', k1, k2, k3⟩ := hm
        exact ⟨s', k1, k2, vMs_sound k3⟩
      | ex id => exact hm
      | ret => exact hm
  exact ⟨WC.loopInv li.inv (fun s => frOf (li.st s fr H).1) (fun s => (li.st s fr H).2) li.mu s0 h0 (vMs_sound ha) body,
    WL.abs (vMs_sound ha) (WL.inv li.inv (fun s => frOf (li.st s fr H).1) (fun s => (li.st s fr H).2) li.mu body _ s0 rfl h0)⟩

theorem vCut_sound (hrc : VSound P B rc) {li : LInv} {f : FuncId} {inR : Bool} {x y : Code} {Q : Post} (h : vCut rc li f inR K n x y fr H Q) {r : Option Nat} (hr : inR = false → r = none) : WC P B K r n (.seq x y) fr H Q := by
  obtain ⟨h1, h2⟩ := h
  refine WC.seq (hrc.c _ _ _ _ _ _ _ _ h1 r hr) (fun fr' H' hm => ?_) (fun z fr' H' hz hm => ?_)
  · obtain ⟨s, hs, hm⟩ := hm
    refine WC.abs (vMs_sound hm) (WC.rng (ps := rngT rngV (frOf (li.st s fr H).1) ++ rngT rngO (li.st s fr H).2.t) (fun ρ w tmps g1 g2 => ?_) fun hps => hrc.c _ _ _ _ _ _ _ _ (impP_inv (h2 s hs) hps) r hr)
    refine allP_app (rngT_sound fun i v hv => ?_) (rngT_sound fun i o ho => ?_)
    · obtain ⟨x, _, hx⟩ := g2 i v hv; exact rngV_sound hx
    · obtain ⟨e, _, hO⟩ := g1.obj i o ho; exact rngO_sound hO
  · cases z with
    | nor => exact (hz rfl).elim
    | ex id => exact hm
    | ret => exact hm

theorem vTry_sound (hmc : DSound P B mc) {f : FuncId} {c : Code} {Q : Post} {q : Prop} (h : vTry L mc f K n c fr H Q q) (hq : q → WC P B K r n c fr H Q) : WC P B K r n c fr H Q := by
  unfold vTry at h
  split at h
  · exact hq h
  · split at h
    · exact hq h
    · rename_i R hR
      obtain ⟨ho, h⟩ := withOb_inv h
      exact ROk.outs (hmc _ _ _ _ _ _ hR r) ho h

theorem vStep_sound (hm : P.follows .mixedOrders = true) (hS : SumPOk P B S) (hmc : DSound P B mc) (hrc : VSound P B rc) : VSound P B (vStep P S L mc rc) where
  c f inR K n c fr H Q h r hr := by
    unfold vStep at h
    simp only at h
    split at h
    · exact WC.skip h
    · exact WC.label h
    · exact WC.exit h
    · exact WC.ret h
    · rename_i x y
      split at h
      · exact vCut_sound hrc h hr
      refine WC.seq (hrc.c _ _ _ _ _ _ _ _ h r hr) (fun fr' H' hm => by
        simp only [vSeq, forceS_eq] at hm
        exact hrc.c _ _ _ _ _ _ _ _ hm r hr) (fun x fr' H' hx hm => ?_)
      cases x with
      | nor => exact (hx rfl).elim
      | ex id => exact hm
      | ret => exact hm
    · split at h
      · rename_i t ht; exact WC.cond ht (hrc.c _ _ _ _ _ _ _ _ h r hr)
      · rename_i b hb; exact vTry_sound hmc h fun h => WC.condS' hb (fun e => hrc.c _ _ _ _ _ _ _ _ (h.1 e) r hr) (fun e => hrc.c _ _ _ _ _ _ _ _ (h.2 e) r hr)
      · exact nomatch h
    · rename_i id c
      refine WC.block ((hrc.c _ _ _ _ _ _ _ _ h r hr).mono fun x fr' H' hm => ?_)
      cases x with
      | nor => exact hm
      | ret => exact hm
      | ex id' =>
        simp only [vBlk] at hm
        simp only
        by_cases hi : id' = id
        · subst hi; rw [Nat.beq_refl] at hm; rw [if_pos rfl]; exact hm
        · have : Nat.beq id' id = false := by
            cases hb : Nat.beq id' id with
            | false => rfl
            | true => exact absurd (nbeq hb) hi
          rw [this] at hm; rw [if_neg hi]; exact hm
    · rename_i c
      split at h
      · rename_i li hli
        exact (vLoop_sound hrc h hr).1
      · obtain ⟨g1, g2⟩ := vThen_sound (P := P) (B := B) (K := K) (n := n) (f := f) (c := c) (Q := Q) hrc hr
        exact WC.loop (hrc.c _ _ _ _ _ _ _ _ h r hr) g1 g2
    · exact vTry_sound hmc h fun h => WC.region (vO_sound hS hmc hrc _ _ _ _ _ h)
    · rename_i id ops
      refine vTry_sound hmc h fun h => ?_
      split at h
      · exact nomatch h
      · rename_i pl hpl
        unfold plan at hpl
        simp only at hpl
        cases hb : (backOk 0 ops.toList && okPlan P ops (ancs ops) (mkPlan P ops (ancs ops) ops.size 0).heads 0 (mkPlan P ops (ancs ops) ops.size 0)) with
        | false => rw [hb] at hpl; cases hpl
        | true =>
          rw [hb] at hpl
          cases hpl
          rw [Bool.and_eq_true] at hb
          exact WC.drawn hm ((vPl_sound hS hmc hrc (anc_of hb.1) _ 0 _ _ _ (fun j o _ hj => by simp at hj) h).2 hb.2)
    · split at h
      · exact nomatch h
      · rw [hr rfl]; exact vR_sound hS hmc hrc h
    · exact WC.scope (hrc.c _ _ _ _ _ _ _ _ h r hr)
    · exact nomatch h
  l f inR K n c fr H Q h r hr := by
    unfold vStep at h
    simp only at h
    split at h
    · exact (vLoop_sound hrc h hr).2
    obtain ⟨g1, g2⟩ := vThen_sound (P := P) (B := B) (K := K) (n := n) (f := f) (c := c) (Q := Q) hrc hr
    exact WL.round (hrc.c _ _ _ _ _ _ _ _ h r hr) g1 g2

theorem vC_sound (hm : P.follows .mixedOrders = true) (hS : SumPOk P B S) : ∀ k, VSound P B (vC P S L k)
  | 0 => ⟨fun _ _ _ _ _ _ _ _ h => (nomatch h), fun _ _ _ _ _ _ _ _ h => (nomatch h)⟩
  | k + 1 => vStep_sound hm hS (dC_sound hm hS k) (vC_sound hm hS k)

/-- A function, from what is owed for it. -/
theorem WF.of_vc (hm : P.follows .mixedOrders = true) (hS : SumPOk P B S) {k : Nat} {f : FuncId} {args : List AV} {Q : KF} (h : vTop P S L k f args H Q) : WF P B f args H Q :=
  vBody_sound (vC_sound hm hS k) h

end
end Go.AM
