/- THE ABSTRACT MACHINE, 18: ranges over functions: the statement; a round, from within. -/
import Derived.Test.YtdeoahhofhmgfaaAmDrw
import Derived.RangeFuncIn
set_option linter.unusedSimpArgs false
set_option linter.unusedVariables false
namespace Go.AM
open Go.RowKit

section
variable {P : Program} {B K : Nat} {r : Option Nat} {n : Nat} {fr : Fr} {H : Heap} {ρ : Env} {w : World}

theorem HR.grow (h : HR B ρ H w) (O : Obj) : HR B ρ H (w.alloc O) where
  next := h.next
  base := Nat.le_trans h.base (by rw [size_alloc]; omega)
  bnd := fun b hb => by rw [size_alloc]; have := h.bnd b hb; omega
  obj := fun i o hi => let ⟨e, he, ho⟩ := h.obj i o hi; ⟨e, he, ho.mono (Env.le_refl _) fun hn => heap_alloc w O e.b (ho.lt hn)⟩
  inj := h.inj
  fz := fun b c hc => let ⟨arr, ty, f, h1, h2⟩ := h.fz b c hc; ⟨arr, ty, f, (heap_alloc w O b (h.fzlt hc)).trans h1, h2⟩
  fzo := h.fzo

theorem Ext.grow (B : Nat) (ρ : Env) (w : World) (hB : B ≤ w.heap.size) (O : Obj) : Ext B ρ w ρ (w.alloc O) where
  pre := Env.le_refl _
  os := rfl
  tape := rfl
  output := rfl
  size := by rw [size_alloc]; omega
  below k hk := heap_alloc w O k (Nat.lt_of_lt_of_le hk hB)
  other k hk _ := heap_alloc w O k hk
  new b hb := .inl hb
  fzn _ _ h := .inl h

theorem run_newObj' (O : Obj) : (newObj O).run P w = .ok w.heap.size (w.alloc O) := by
  first
    | rfl
    | simp [newObj, Sem.run_bind]

def setParams (nt : Nat) : Fr → List Tmp → List AV → Option Fr
  | fr, [], [] => some fr
  | fr, p :: ps, v :: vs => (aput nt fr (some p) v).bind fun fr' => setParams nt fr' ps vs
  | _, _, _ => none

theorem setParams_sound : ∀ {ps : List Tmp} {vs : List AV} {xs : List Value} {fr fr' : Fr} {tmps : Array Value}, FRel ρ fr tmps → tmps.size = n → RelL ρ vs xs → setParams n fr ps vs = some fr' →
    xs.length = ps.length ∧ FRel ρ fr' ((ps.zip xs).foldl (fun tmps (q : Tmp × Value) => tmps.setIfInBounds q.1 q.2) tmps) ∧ ((ps.zip xs).foldl (fun tmps (q : Tmp × Value) => tmps.setIfInBounds q.1 q.2) tmps).size = n
  | [], [], xs, fr, fr', tmps, hf, hn, hr, hp => by
    simp only [RelL] at hr; subst hr; cases hp; exact ⟨rfl, hf, hn⟩
  | p :: ps, v :: vs, xs, fr, fr', tmps, hf, hn, hr, hp => by
    simp only [RelL] at hr
    obtain ⟨x, xs', rfl, h1, h2⟩ := hr
    simp only [setParams, Option.bind_eq_some_iff] at hp
    obtain ⟨fr1, hp1, hp2⟩ := hp
    obtain ⟨q1, q2, _⟩ := aput_sound (a := { tmps := tmps, defers := [] }) hf hn h1 hp1
    obtain ⟨g1, g2, g3⟩ := setParams_sound (ps := ps) (vs := vs) (xs := xs') q1 q2 h2 hp2
    exact ⟨by simp [g1], g2, g3⟩
  | [], _ :: _, _, _, _, _, _, _, _, hp => by simp [setParams] at hp
  | _ :: _, [], _, _, _, _, _, _, _, hp => by simp [setParams] at hp

theorem aev_const (a : Act) (v : Value) : a.eval (.const v) = v := rfl

def jumpOf : XT → Option Code
  | .nor => none
  | .ex id => some (.exit id)
  | .ret => some .ret

def XT.isNor : XT → Bool
  | .nor => true
  | _ => false

/-- One round: yield is called. -/
def WY (P : Program) (B : Nat) (i : Nat) (args : List AV) (H : Heap) (Q : Bool → Heap → Prop) : Prop :=
  ∀ (ρ : Env) (w : World) (e : At) (xs : Array Value) (r : Option Nat), HR B ρ H w → ρ.ats[i]? = some e → RelL ρ args xs.toList →
    ∃ f tmps as bd, (Instr.yield e.b xs).run P w = .ok (.round e.b f tmps as bd) w ∧ RoundIn (F0 r) 0 P e.b f tmps as bd w fun en w' =>
      ∃ b H' ρ', en = .returned (.bool b) ∧ Q b H' ∧ Ext B ρ w ρ' w' ∧ HR B ρ' H' w'

theorem loop_at (h : HR B ρ H w) {i : Nat} {e : At} (he : ρ.ats[i]? = some e) {st : LoopState} {pd : Option Code} {fn : FuncId} {fr0 : Fr} {nt : Nat} {ps : List Tmp} {as bd : Code} (hi : H.get i = some (.loop st pd fn fr0 nt ps as bd)) :
    e.nb = false ∧ B ≤ e.b ∧ ∃ tmps d f, w.heap[e.b]? = some (.loop { state := st, pending := pd, fn := f, tmps, params := ps.toArray, assign := as, body := bd, defers := d }) ∧ FRel ρ fr0 tmps ∧ tmps.size = nt := by
  obtain ⟨e', he', ho⟩ := h.obj i _ hi
  rw [he] at he'; cases he'
  exact ho

theorem getLoop_run {l : Nat} {L : Loop} (h : w.heap[l]? = some (.loop L)) : (Instr.getLoop l).run P w = .ok L w := by
  simp only [Instr.getLoop, Sem.run_bind, run_getObj_any (P := P) (by intro c t f hh; cases hh) h, Result.andThen_ok, Sem.run_pure]

/-- The record of a loop is turned. -/
theorem turnLoop (h : HR B ρ H w) {i : Nat} {e : At} (he : ρ.ats[i]? = some e) {st : LoopState} {pd : Option Code} {fn : FuncId} {fr0 : Fr} {nt : Nat} {ps : List Tmp} {as bd : Code} (hi : H.get i = some (.loop st pd fn fr0 nt ps as bd))
    {L : Loop} (hL : w.heap[e.b]? = some (.loop L)) (st' : LoopState) (pd' : Option Code) :
    ∃ w', (setObj e.b (.loop { L with state := st', pending := pd' })).run P w = .ok () w' ∧ HR B ρ (H.set i (.loop st' pd' fn fr0 nt ps as bd)) w' ∧ Ext B ρ w ρ w' := by
  obtain ⟨hnb, hB, tmps, d, f, h1, h2, h3⟩ := loop_at h he hi
  rw [hL] at h1; cases h1
  have hlt : e.b < w.heap.size := (Array.getElem?_eq_some_iff.1 hL).1
  refine ⟨_, run_setObj_any (P := P) (by intro c t f hh; cases hh) hL, ?_, ?_⟩
  · refine h.turn hi he hnb hB _ (by simp) (fun k hk => ?_) ⟨hnb, hB, tmps, d, f, ?_, h2, h3⟩
    · rw [Array.getElem?_setIfInBounds_ne (Ne.symm hk)]
    · simp [hlt]
  · refine Ext.turn (Env.blk_of he hnb) hB (by simp) (fun k hk => ?_) rfl rfl rfl
    rw [Array.getElem?_setIfInBounds_ne (Ne.symm hk)]

/-- How a round ends. -/
def RoundEnd (i : Nat) (Q : Bool → Heap → Prop) : Post := fun x _ H3 =>
  ∃ st pd fn fr0 nt ps as bd, H3.get i = some (.loop st pd fn fr0 nt ps as bd) ∧ Q x.isNor (H3.set i (.loop (bif x.isNor then .ready else .done) (jumpOf x) fn fr0 nt ps as bd))

/-- How its body begins. -/
def RoundMid (P : Program) (B K : Nat) (i : Nat) (l : Nat) (nt : Nat) (body : Code) (Q : Bool → Heap → Prop) : Post := fun x fr2 H2 =>
  x = .nor ∧ ∃ pd fn fr0 nt' ps as bd, H2.get i = some (.loop .ready pd fn fr0 nt' ps as bd) ∧ WC P B K (some l) nt body fr2 (H2.set i (.loop .busy pd fn fr0 nt' ps as bd)) (RoundEnd i Q)

theorem WY.round {i : Nat} {args : List AV} {Q : Bool → Heap → Prop} {st : LoopState} {pd : Option Code} {fn : FuncId} {fr0 fr1 : Fr} {nt : Nat} {ps : List Tmp} {as bd : Code}
    (hi : H.get i = some (.loop st pd fn fr0 nt ps as bd)) (hp : setParams nt fr0 ps args = some fr1)
    (h : ∀ l, WC P B H.next (some l) nt as fr1 H (RoundMid P B H.next i l nt bd Q)) : WY P B i args H Q := by
  intro ρ w e xs r hr he hargs
  obtain ⟨hnb, hB, tmps, d, f, h1, h2, h3⟩ := loop_at hr he hi
  obtain ⟨g1, g2, g3⟩ := setParams_sound h2 h3 hargs hp
  let tmps1 := (ps.zip xs.toList).foldl (fun tmps (q : Tmp × Value) => tmps.setIfInBounds q.1 q.2) tmps
  refine ⟨f, tmps1, as, bd, ?_, ?_⟩
  · simp only [Instr.yield, Sem.run_bind, getLoop_run h1, Result.andThen_ok]
    have hsz : ¬ (xs.size ≠ ps.toArray.size) := by simp only [List.size_toArray, ← g1, Array.length_toList, ne_eq, not_true_eq_false, not_false_iff]
    rw [if_neg hsz]
    simp only [Sem.run_pure, Result.andThen_ok]
    congr 2
    show Array.foldl _ tmps _ 0 _ = _
    rw [← Array.foldl_toList]
    simp only [Array.toList_zip]
    rfl
  · refine roundIn_of_wpIn trivial ?_
    show as.wpIn (F0 (some e.b)) 0 P _ _ w
    refine wpIn_mono (h e.b w.heap.size ρ w { tmps := tmps1, defers := [] } (Nat.le_of_eq hr.next) hr g2 g3 (Marks.nil _ (Nat.le_refl _))) ?_
    rintro x1 a1 w1 ⟨x, fr2, H2, ρ2, rfl, ⟨rfl, pd2, fn2, fr02, nt2, ps2, as2, bd2, hi2, hbody⟩, e1, e2, e3, e4, e5⟩
    rw [hr.next] at e1 hbody
    have e1 := e1.toExt
    have he2 := pre_get e1.pre.ats he
    obtain ⟨hnb2, hB2, tmps2, d2, f2, k1, k2, k3⟩ := loop_at e2 he2 hi2
    obtain ⟨w2, s1, s2, s3⟩ := turnLoop (P := P) e2 he2 hi2 k1 .busy pd2
    refine ⟨w2, ?_, ?_⟩
    · simp only [Instr.beginRound, Sem.run_bind, getLoop_run k1, Result.andThen_ok]
      erw [s1]
      simp only [Result.andThen_ok, Sem.run_pure]
    · refine wpIn_mono (hbody w.heap.size ρ2 w2 a1 e1.pre.ats.length_le s2 e3 e4 (e5.ext s3)) ?_
      rintro x3 a3 w3 ⟨x, fr3, H3, ρ3, rfl, ⟨st3, pd3, fn3, fr03, nt3, ps3, as3, bd3, hi3, hq⟩, c1, c2, c3, c4, c5⟩
      have he3 : ρ3.ats[i]? = some e := by
        have hlt : i < ρ.ats.length := (List.getElem?_eq_some_iff.1 he).1
        have h1 := congrArg (·[i]?) c1.pre
        simp only [List.getElem?_take_of_lt hlt] at h1
        rw [h1]; exact he2
      obtain ⟨hnb3, hB3, tmps3, d3, f3, m1, m2, m3⟩ := loop_at c2 he3 hi3
      obtain ⟨w4, t1, t2, t3⟩ := turnLoop (P := P) c2 he3 hi3 m1 (bif x.isNor then .ready else .done) (jumpOf x)
      have hfin : ∀ j : Option Code, j = jumpOf x → ∃ v w', (Instr.endRound e.b j).run P w3 = .ok v w' ∧
          ∃ b H' ρ', Ending.returned v = .returned (.bool b) ∧ Q b H' ∧ Ext B ρ w ρ' w' ∧ HR B ρ' H' w' := by
        rintro j rfl
        refine ⟨.bool x.isNor, w4, ?_, x.isNor, _, ρ3, rfl, hq, (((e1.toK (Nat.le_refl _)).trans ((s3.toK e1.pre.ats.length_le).trans c1)).trans (t3.toK c1.kle)).toExt, t2⟩
        have hj : (jumpOf x).isNone = x.isNor := by cases x <;> rfl
        simp only [Instr.endRound, Sem.run_bind, getLoop_run m1, Result.andThen_ok, hj]
        have hs : (if x.isNor = true then LoopState.ready else LoopState.done) = (bif x.isNor then .ready else .done) := by cases x.isNor <;> rfl
        rw [hs]
        erw [t1]
        simp only [Result.andThen_ok, Sem.run_pure]
      cases x with
      | nor => exact hfin none rfl
      | ex id => exact hfin _ rfl
      | ret => exact hfin _ rfl

theorem WO.yield {ops : Array Oper} {i : Nat} {rest : List Nat} {o : Oper} {l : Nat} {args : List AV} {Q : Fr → Heap → Prop} (ho : ops[i]? = some o) (hw : aWant ops fr o = some true) (he : aop P fr H o = some (.yield l args))
    (h : WY P B l args H fun b H' => ∃ fr', aput n fr o.dst (.bool b) = some fr' ∧ WO P B K r n ops rest fr' H' Q) : WO P B K r n ops (i :: rest) fr H Q := by
  intro M ρ w a hk h1 h2 h3 h4
  refine wpOpsIn_step ho (aWant_sound h2 hw) ⟨fun f _ => trivial, ?_⟩
  rw [semAt_of (aop_not_defer he)]
  obtain ⟨xs, e, hee, hrun, hargs⟩ := aop_sound h1 h2 he
  obtain ⟨f, tmps, as, bd, hy, hround⟩ := h ρ w e xs r h1 hee hargs
  rw [hrun, hy]
  refine ⟨fun h => by simp [F0] at h, RoundIn.mono hround ?_⟩
  rintro en w' ⟨b, H', ρ', rfl, ⟨fr', hp, hrest⟩, g2, g3⟩
  obtain ⟨p1, p2, p3⟩ := aput_sound (v := .bool b) (x := .bool b) (h2.mono g2.pre) h3 (by simp [Rel]) hp
  exact After.exto hk g2 (hrest M ρ' w' _ (Nat.le_trans hk g2.pre.ats.length_le) g3 p1 p2 (by rw [p3]; exact h4.ext g2))

theorem WI.yield {ops : Array Oper} {an : Nat → Nat} {lA : Nat} {i : Nat} {o : Oper} {l : Nat} {args : List AV} {Q : Fr → Heap → Prop} (ho : ops[i]? = some o) (hw : aWant ops fr o = some true) (he : aop P fr H o = some (.yield l args))
    (h : WY P B l args H fun b H' => ∃ fr', aput n fr o.dst (.bool b) = some fr' ∧ Again P n ops an lA i fr' H' ∧ WD P B K r n ops an (lA ||| 2 ^ i) fr' H' Q) : WI P B K r n ops an lA i o fr H Q := by
  intro ρ w a fr0 K Qr h1 h2 g1 g2 hK
  have g2 : aop P fr0 H o = aop P fr H o := aop_congr g2
  rw [hw] at g1; rw [he] at g2
  unfold wpOpIn
  simp only [ho, aWant_sound h2 g1, if_true]
  refine ⟨fun f _ => trivial, ?_⟩
  rw [semAt_of (aop_not_defer g2)]
  obtain ⟨xs, e, hee, hrun, hargs⟩ := aop_sound h1 h2 g2
  obtain ⟨f, tmps, as, bd, hy, hround⟩ := h ρ w e xs r h1 hee hargs
  rw [hrun, hy]
  refine ⟨fun h => by simp [F0] at h, RoundIn.mono hround ?_⟩
  rintro en w' ⟨b, H', ρ', rfl, ⟨fr', hp, hag, hWD⟩, e2, e3⟩
  exact hK ρ' w' (.bool b) (.bool b) fr' H' e2 e3 (by simp [Rel]) hp hag hWD

theorem Marks.push {M : Nat} {ds : List Deferred} (h : Marks M ρ w ds) (hr : HR B ρ H w) : Marks M ρ (w.alloc (.deferred (some []))) (markOf w.heap.size :: ds) := by
  obtain ⟨h0, bs, rfl, h2, h3⟩ := h
  refine ⟨Nat.le_trans h0 (by rw [size_alloc]; omega), w.heap.size :: bs, rfl, ?_, fun b hb => ?_⟩
  · rw [List.nodup_cons]
    exact ⟨fun hm => Nat.lt_irrefl _ (Array.getElem?_eq_some_iff.1 (h3 _ hm).1).1, h2⟩
  · rw [List.mem_cons] at hb
    rcases hb with rfl | hb
    · exact ⟨heap_alloc_new w _, h0, fun hb => by have := hr.bnd _ hb; omega⟩
    · obtain ⟨g1, g2, g3⟩ := h3 b hb
      exact ⟨(heap_alloc w _ b (Array.getElem?_eq_some_iff.1 g1).1).trans g1, g2, g3⟩

/-- The statement: its record, the call, what is pending behind it. -/
theorem WC.rangeFunc' {g : Operand} {ps : Array Tmp} {as bd : Code} {gv : AV} {f : FuncId} {args : List AV} {Q : Post} (hg : aeval fr g = some gv) (hc : aCallV P gv [.yld H.next] = some (.call f args)) (f0 : FuncId)
    (h : WF P B f args (H.alloc (.loop .ready none f0 fr n ps.toList as bd)) fun _ H2 => ∃ st pd fn fr0 nt ps' as' bd', H2.get H.next = some (.loop st pd fn fr0 nt ps' as' bd') ∧ (st == .busy) = false ∧
      match pd with
      | none => Q .nor fr (H2.set H.next (.loop .exhausted pd fn fr0 nt ps' as' bd'))
      | some c => WC P B K none n c fr (H2.set H.next (.loop .exhausted pd fn fr0 nt ps' as' bd')) Q) : WC P B K none n (.rangeFunc g ps as bd) fr H Q := by
  intro M ρ w a hk h1 h2 h3 h4
  refine wpIn_rangeFunc fun fn _ => ?_
  let w0 : World := w.alloc (.deferred (some []))
  let e0 : At := ⟨w0.heap.size, 0, 0, 0, 0, false⟩
  let L : Loop := { state := .ready, pending := none, fn := fn, tmps := a.tmps, params := ps, assign := as, body := bd, defers := w.heap.size }
  let w1 : World := w0.alloc (.loop L)
  have hr0 : HR B ρ H w0 := h1.grow _
  have hr1 : HR B (ρ.add e0) (H.alloc (.loop .ready none f0 fr n ps.toList as bd)) w1 :=
    hr0.alloc _ _ e0 rfl ⟨rfl, hr0.base, a.tmps, w.heap.size, fn, heap_alloc_new w0 _, h2.mono (Env.le_add _ _), h3⟩
  have e1 : Ext B ρ w (ρ.add e0) w1 := (Ext.grow B ρ w h1.base _).trans (Ext.alloc _ e0 hr0.base rfl)
  have hlast : (ρ.add e0).ats[H.next]? = some e0 := by rw [h1.next]; simp
  have hgv := (aeval_sound h2 hg).mono (Env.le_add ρ e0)
  have hy : RelL (ρ.add e0) [.yld H.next] (#[Value.func (.yield w0.heap.size) #[] #[]] : Array Value).toList := ⟨_, [], rfl, ⟨e0, hlast, rfl⟩, rfl⟩
  obtain ⟨xs, hrun, hxs⟩ := aCallV_sound (B := B) (P := P) (w := w1) hgv hy hc
  have hm1 : Marks M (ρ.add e0) w1 (markOf w.heap.size :: a.defers) := (h4.push h1).ext (Ext.alloc _ e0 hr0.base rfl)
  -- the call
  have hres : ∃ d, (resolve a.eval (rangeCall g w0.heap.size) 0).run P w1 = .ok d w1 ∧ (invoke d.target d.args).run P w1 = .ok (.enter f xs) w1 := by
    have hx : (resolve a.eval (rangeCall g w0.heap.size) 0) = Deferred.ofValue (a.eval g) #[Value.func (.yield w0.heap.size) #[] #[]] := by
      simp only [resolve, rangeCall, List.map_toArray, List.map_cons, List.map_nil, aev_const]
    rw [hx]
    rw [Sem.run_bind] at hrun
    cases hd : (Deferred.ofValue (a.eval g) #[Value.func (.yield w0.heap.size) #[] #[]]).run P w1 with
    | ok d w2 =>
      rw [hd] at hrun
      unfold aCallV at hc
      split at hc
      · simp only [Rel] at hgv
        obtain ⟨fs', cs', hv, _, _⟩ := hgv
        rw [hv] at hd
        simp only [Deferred.ofValue, Sem.run_pure] at hd
        injection hd with hd1 hd2
        subst hd2
        exact ⟨d, rfl, hrun⟩
      · cases hc
      · cases hc
    | halt x w2 => rw [hd] at hrun; cases hrun
  obtain ⟨d, hd1, hd2⟩ := hres
  refine ⟨w0.heap.size, [markOf w.heap.size], w1, d, w1, f, xs, w1, ?_, hd1, fun _ _ => trivial, hd2, fun h => by simp [F0] at h, calls0 ((h (ρ.add e0) w1 xs hr1 hxs).mono ?_)⟩
  · show (Instr.enterLoop fn a.tmps ps as bd none).run P w = _
    simp only [Instr.enterLoop, Sem.run_bind, run_newObj', Result.andThen_ok, Sem.run_pure]
    rfl
  · rintro e w3 ⟨v, x, H3, ρ3, rfl, ⟨st, pd, fn3, fr03, nt3, ps3, as3, bd3, hi3, hst, hq⟩, g2, g3, g4⟩
    have he3 := pre_get g2.pre.ats hlast
    obtain ⟨hnb3, hB3, tmps3, d3, f3, m1, m2, m3⟩ := loop_at g3 he3 hi3
    obtain ⟨w4, t1, t2, t3⟩ := turnLoop (P := P) g3 he3 hi3 m1 .exhausted pd
    have hend : (Instr.endLoop w0.heap.size).run P w3 = .ok pd w4 := by
      have m1' := getLoop_run (P := P) m1
      have t1' := t1
      simp only [e0] at m1' t1'
      simp only [Instr.endLoop, Sem.run_bind, m1', Result.andThen_ok, hst, Bool.false_eq_true, if_false, Sem.run_pure, t1']
    have ee : Ext B ρ w ρ3 w4 := e1.trans (g2.trans t3)
    have hf4 : FRel ρ3 fr a.tmps := h2.mono ee.pre
    have hm4 : Marks M ρ3 w4 ([markOf w.heap.size] ++ a.defers) := hm1.ext (g2.trans t3)
    refine ⟨pd, w4, hend, ?_⟩
    cases pd with
    | none => exact ⟨.nor, fr, _, ρ3, rfl, hq, ee.toK hk, t2, hf4, h3, hm4⟩
    | some c => exact wpIn_mono (hq M ρ3 w4 { a with defers := [markOf w.heap.size] ++ a.defers } (Nat.le_trans hk ee.pre.ats.length_le) t2 hf4 h3 hm4) fun e a' w' hh => hh.ext hk ee

end
end Go.AM
