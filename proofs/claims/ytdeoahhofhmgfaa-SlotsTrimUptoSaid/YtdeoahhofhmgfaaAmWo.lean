/- THE ABSTRACT MACHINE, 15: the operations of a region, one behind the other; calls. -/
import Derived.Test.YtdeoahhofhmgfaaAmWp
set_option linter.unusedSimpArgs false
set_option linter.unusedVariables false
namespace Go.AM
open Go.RowKit

def aput (n : Nat) (fr : Fr) (dst : Option Tmp) (v : AV) : Option Fr :=
  match dst with
  | none => some fr
  | some d => bif Nat.blt d n then some (fr.set d (some v)) else none

def aWant (ops : Array Oper) (fr : Fr) (o : Oper) : Option Bool :=
  match o.guard with
  | none => some true
  | some (j, want) => match (ops[j]?).bind (·.dst) with
    | none => some false
    | some d => match fr.get d with
      | some (.bool b) => some (b == want)
      | some v => bif v.isS then none else some false
      | none => none

section
variable {P : Program} {B K : Nat} {r : Option Nat} {n : Nat} {fr : Fr} {H : Heap} {ρ : Env} {w : World}

theorem Rel.inv_bool {v : AV} {b : Bool} (h : Rel ρ v (.bool b)) (hs : v.isS = false) : v = .bool b := by
  cases v <;> simp only [Rel, CTy.Rd] at h <;> first
    | (exact Bool.noConfusion hs)
    | (cases h; rfl)
    | (cases h; done)
    | (cases h.1; done)
    | (obtain ⟨_, _, h⟩ := h; cases h; done)
    | (obtain ⟨_, h, _⟩ := h; cases h; done)
    | (obtain ⟨_, _, h, _⟩ := h; cases h; done)
    | (obtain ⟨_, _, _, h, _⟩ := h; cases h; done)
    | (obtain ⟨_, _, _, _, h, _⟩ := h; cases h; done)
    | (obtain ⟨_, _, _, _, h⟩ := h; cases h; done)

theorem aput_sound {a : Act} {dst : Option Tmp} {v : AV} {x : Value} {fr' : Fr} (hf : FRel ρ fr a.tmps) (hn : a.tmps.size = n) (hr : Rel ρ v x) (hp : aput n fr dst v = some fr') :
    FRel ρ fr' (a.put dst x).tmps ∧ (a.put dst x).tmps.size = n ∧ (a.put dst x).defers = a.defers := by
  unfold aput at hp
  split at hp
  · cases hp; exact ⟨hf, hn, rfl⟩
  · rename_i d
    cases hb : Nat.blt d n with
    | false => simp [hb] at hp
    | true =>
      simp [hb] at hp
      subst hp
      have hlt : d < n := by simpa [Nat.blt_eq] using hb
      exact ⟨hf.set (by rw [hn]; exact hlt) hr, by simp [Act.put, hn], rfl⟩

theorem aWant_sound {a : Act} {ops : Array Oper} {o : Oper} {b : Bool} (hf : FRel ρ fr a.tmps) (h : aWant ops fr o = some b) : Region.wanted o (yielded ops a.tmps) = b := by
  unfold aWant at h
  unfold Region.wanted
  split at h
  · rename_i hg; cases h; rw [hg]
  · rename_i j want hg
    rw [hg]
    simp only
    unfold yielded
    split at h
    · rename_i hd; cases h; rw [hd]; rfl
    · rename_i d hd
      rw [hd]
      simp only [Option.bind_some]
      split at h
      · rename_i b' hget
        cases h
        obtain ⟨x, hx, hr⟩ := hf d _ hget
        simp only [Rel] at hr
        subst hr
        rw [hx]
        simp
      · rename_i v hnb hget
        cases hs : v.isS with
        | true => rw [hs] at h; cases h
        | false =>
        rw [hs] at h
        cases h
        obtain ⟨x, hx, hr⟩ := hf d _ hget
        rw [hx]
        cases x <;> first
          | rfl
          | exact (hnb _ (hr.inv_bool hs)).elim
      · cases h

theorem WO.nil {ops : Array Oper} {Q : Fr → Heap → Prop} (h : Q fr H) : WO P B K r n ops [] fr H Q :=
  fun M ρ w a hk h1 h2 h3 h4 => ⟨.nor, fr, H, ρ, rfl, ⟨rfl, h⟩, ExtK.refl _ _ _ hk, h1, h2, h3, h4⟩

theorem semAt_of {ρ' : Operand → Value} {o : Oper} (hnd : ∀ c, o.op ≠ .defer c) : o.semAt r ρ' = execOp ρ' o := by
  unfold Oper.semAt
  split
  · rename_i hd; exact absurd hd (hnd _)
  · rfl

theorem aop_not_defer {o : Oper} {q : Res} (h : aop P fr H o = some q) : ∀ c, o.op ≠ .defer c := by
  intro c hc
  obtain ⟨p, h, _⟩ := aop_inv h
  unfold aopC at h
  split at h
  · rename_i r hr
    obtain ⟨dst, op, type, pos, after, guard⟩ := o
    simp only at hc
    subst hc
    simp [aop0] at hr
  · exact aopX_not_defer h c hc

theorem wpOpsIn_step {F : Fence} {k : Nat} {ops : Array Oper} {Q : Exit → Act → World → Prop} {i : Nat} {rest : List Nat} {o : Oper} {a : Act} (ho : ops[i]? = some o) (hw : Region.wanted o (yielded ops a.tmps) = true)
    (h : o.wpIn F k P a w (wpOpsIn F k P ops Q rest) Q) : wpOpsIn F k P ops Q (i :: rest) a w := by
  simp only [wpOpsIn, ho, hw, if_true]
  exact h

theorem wpOpsIn_mono {F : Fence} {k : Nat} {ops : Array Oper} {Q Q' : Exit → Act → World → Prop} (hq : ∀ e a w, Q e a w → Q' e a w) : ∀ (l : List Nat) (a : Act) (w : World), wpOpsIn F k P ops Q l a w → wpOpsIn F k P ops Q' l a w
  | [], a, w, h => hq _ _ _ h
  | i :: rest, a, w, h => by
    simp only [wpOpsIn] at h ⊢
    split
    · rename_i ho; simp only [ho] at h; exact wpOpsIn_mono hq rest a w h
    · rename_i o ho
      simp only [ho] at h
      split
      · rename_i hw
        simp only [hw, if_true] at h
        refine ⟨h.1, ?_⟩
        have h2 := h.2
        generalize (o.semAt F.round a.eval).run P w = res at h2 ⊢
        cases res with
        | ok x w' =>
          cases x <;> simp only [Oper.uponIn] at h2 ⊢ <;>
            first
              | exact wpOpsIn_mono hq rest _ _ h2
              | exact ⟨h2.1, CallsIn.mono h2.2 fun e w'' he => by cases e <;> first | exact wpOpsIn_mono hq rest _ _ he | exact hq _ _ _ he | exact ⟨_, _, hq _ _ _ he.choose_spec.choose_spec⟩⟩
              | exact ⟨h2.1, RowsIn.mono h2.2 fun _ _ he => wpOpsIn_mono hq rest _ _ he⟩
              | exact ⟨h2.1, RoundIn.mono h2.2 fun e w'' he => by cases e <;> first | exact wpOpsIn_mono hq rest _ _ he | exact hq _ _ _ he | exact ⟨_, _, hq _ _ _ he.choose_spec.choose_spec⟩⟩
        | halt x w' => cases x <;> simp only [Oper.uponIn] at h2 ⊢ <;> first | exact hq _ _ _ h2 | exact h2
      · rename_i hw
        simp only [hw] at h
        exact ⟨h.1, wpOpsIn_mono hq rest _ _ h.2⟩

theorem After.exto {M : Nat} {ρ1 : Env} {w1 : World} {Q : Post} (hk : K ≤ ρ.ats.length) (h : Ext B ρ w ρ1 w1) {F : Fence} {k : Nat} {ops : Array Oper} {l : List Nat} {a : Act} (hh : wpOpsIn F k P ops (After B K n M ρ1 w1 Q) l a w1) :
    wpOpsIn F k P ops (After B K n M ρ w Q) l a w1 := wpOpsIn_mono (fun _ _ _ => After.ext hk h) l a w1 hh

theorem WO.val' {ops : Array Oper} {i : Nat} {rest : List Nat} {o : Oper} {v v' : AV} {H' : Heap} {fr' : Fr} {Q : Fr → Heap → Prop} (ho : ops[i]? = some o) (hw : aWant ops fr o = some true) (he : aop P fr H o = some (.val v H'))
    (hun : v'.ub = v.ub) (hp : aput n fr o.dst v' = some fr') (h : WO P B K r n ops rest fr' H' Q) : WO P B K r n ops (i :: rest) fr H Q := by
  intro M ρ w a hk h1 h2 h3 h4
  refine wpOpsIn_step ho (aWant_sound h2 hw) ⟨fun f _ => trivial, ?_⟩
  rw [semAt_of (aop_not_defer he)]
  obtain ⟨x, w', ρ', hrun, g2, g3, g4⟩ := aop_sound h1 h2 he
  obtain ⟨p1, p2, p3⟩ := aput_sound (h2.mono g2.pre) h3 (g4.eqv hun) hp
  rcases hrun with hrun | ⟨hrun, rfl⟩
  · rw [hrun]; exact After.exto hk g2 (h M ρ' w' _ (Nat.le_trans hk g2.pre.ats.length_le) g3 p1 p2 (by rw [p3]; exact h4.ext g2))
  · rw [hrun]; exact After.exto hk g2 (h M ρ' w' _ (Nat.le_trans hk g2.pre.ats.length_le) g3 p1 p2 (by rw [p3]; exact h4.ext g2))

theorem WO.val {ops : Array Oper} {i : Nat} {rest : List Nat} {o : Oper} {v : AV} {H' : Heap} {fr' : Fr} {Q : Fr → Heap → Prop} (ho : ops[i]? = some o) (hw : aWant ops fr o = some true) (he : aop P fr H o = some (.val v H'))
    (hp : aput n fr o.dst v = some fr') (h : WO P B K r n ops rest fr' H' Q) : WO P B K r n ops (i :: rest) fr H Q := WO.val' ho hw he rfl hp h

theorem WO.opts {ops : Array Oper} {i : Nat} {rest : List Nat} {o : Oper} {l : List (AV × Heap)} {Q : Fr → Heap → Prop} (ho : ops[i]? = some o) (hw : aWant ops fr o = some true) (he : aop P fr H o = some (.opts l))
    (h : ∀ q ∈ l, ∃ fr', aput n fr o.dst q.1 = some fr' ∧ WO P B K r n ops rest fr' q.2 Q) : WO P B K r n ops (i :: rest) fr H Q := by
  intro M ρ w a hk h1 h2 h3 h4
  refine wpOpsIn_step ho (aWant_sound h2 hw) ⟨fun f _ => trivial, ?_⟩
  rw [semAt_of (aop_not_defer he)]
  obtain ⟨q, hq, x, w', ρ', hrun, g2, g3, g4⟩ := aop_sound h1 h2 he
  obtain ⟨fr', hp, hrest⟩ := h q hq
  obtain ⟨p1, p2, p3⟩ := aput_sound (h2.mono g2.pre) h3 g4 hp
  rw [hrun]; exact After.exto hk g2 (hrest M ρ' w' _ (Nat.le_trans hk g2.pre.ats.length_le) g3 p1 p2 (by rw [p3]; exact h4.ext g2))

theorem WO.fams {ops : Array Oper} {i : Nat} {rest : List Nat} {o : Oper} {l : List ((Nat → Prop) × (Nat → AV × Heap))} {Q : Fr → Heap → Prop} (ho : ops[i]? = some o) (hw : aWant ops fr o = some true) (he : aop P fr H o = some (.fams l))
    (h : ∀ q ∈ l, ∀ j, q.1 j → ∃ fr', aput n fr o.dst (q.2 j).1 = some fr' ∧ WO P B K r n ops rest fr' (q.2 j).2 Q) : WO P B K r n ops (i :: rest) fr H Q := by
  intro M ρ w a hk h1 h2 h3 h4
  refine wpOpsIn_step ho (aWant_sound h2 hw) ⟨fun f _ => trivial, ?_⟩
  rw [semAt_of (aop_not_defer he)]
  obtain ⟨q, hq, j, hj, x, w', ρ', hrun, g2, g3, g4⟩ := aop_sound h1 h2 he
  obtain ⟨fr', hp, hrest⟩ := h q hq j hj
  obtain ⟨p1, p2, p3⟩ := aput_sound (h2.mono g2.pre) h3 g4 hp
  rw [hrun]; exact After.exto hk g2 (hrest M ρ' w' _ (Nat.le_trans hk g2.pre.ats.length_le) g3 p1 p2 (by rw [p3]; exact h4.ext g2))

theorem WO.skipped {ops : Array Oper} {i : Nat} {rest : List Nat} {o : Oper} {fr' : Fr} {Q : Fr → Heap → Prop} (ho : ops[i]? = some o) (hw : aWant ops fr o = some false)
    (hp : aput n fr o.dst (.tup []) = some fr') (h : WO P B K r n ops rest fr' H Q) : WO P B K r n ops (i :: rest) fr H Q := by
  intro M ρ w a hk h1 h2 h3 h4
  obtain ⟨p1, p2, p3⟩ := aput_sound (x := undef) h2 h3 (by simp [Rel, RelL, undef]) hp
  simp only [wpOpsIn, ho, aWant_sound h2 hw]
  exact ⟨fun f _ => trivial, h M ρ w _ hk h1 p1 p2 (by rw [p3]; exact h4)⟩

theorem WO.call {ops : Array Oper} {i : Nat} {rest : List Nat} {o : Oper} {f : FuncId} {args : List AV} {Q : Fr → Heap → Prop} (ho : ops[i]? = some o) (hw : aWant ops fr o = some true) (he : aop P fr H o = some (.call f args))
    (h : WF P B f args H fun v H' => ∃ fr', aput n fr o.dst v = some fr' ∧ WO P B K r n ops rest fr' H' Q) : WO P B K r n ops (i :: rest) fr H Q := by
  intro M ρ w a hk h1 h2 h3 h4
  refine wpOpsIn_step ho (aWant_sound h2 hw) ⟨fun f _ => trivial, ?_⟩
  rw [semAt_of (aop_not_defer he)]
  obtain ⟨xs, hrun, hargs⟩ := aop_sound h1 h2 he
  rw [hrun]
  refine ⟨fun h => by simp [F0] at h, calls0 ((h ρ w xs h1 hargs).mono ?_)⟩
  rintro e w' ⟨v, x, H', ρ', rfl, ⟨fr', hp, hrest⟩, g2, g3, g4⟩
  obtain ⟨p1, p2, p3⟩ := aput_sound (h2.mono g2.pre) h3 g4 hp
  exact After.exto hk g2 (hrest M ρ' w' _ (Nat.le_trans hk g2.pre.ats.length_le) g3 p1 p2 (by rw [p3]; exact h4.ext g2))


/-! ### A function -/
def initFr : List AV → Nat → Fr → Fr
  | [], _, fr => fr
  | v :: vs, i, fr => initFr vs (i + 1) (fr.set i (some v))

theorem initFr_get : ∀ (vs : List AV) (i : Nat) (fr : Fr) (t : Nat), (initFr vs i fr).get t = if i ≤ t ∧ t < i + vs.length then vs[t - i]? else fr.get t
  | [], i, fr, t => by rw [if_neg (by simp)]; rfl
  | v :: vs, i, fr, t => by
    simp only [initFr, initFr_get vs (i + 1), T.get_set, List.length_cons]
    by_cases ht : t = i
    · subst ht
      rw [if_neg (by omega), if_pos rfl, if_pos (by omega)]
      simp
    · by_cases hin : i + 1 ≤ t ∧ t < i + 1 + vs.length
      · rw [if_pos hin, if_pos (by omega), show t - i = (t - (i + 1)) + 1 by omega]
        simp
      · rw [if_neg hin, if_neg ht, if_neg (by omega)]

theorem initFr_rel {args : List AV} {xs : Array Value} (h : RelL ρ args xs.toList) (k : Nat) : FRel ρ (initFr args 0 .nil) (xs ++ Array.replicate k undef) := by
  intro t v ht
  rw [initFr_get] at ht
  by_cases hin : 0 ≤ t ∧ t < 0 + args.length
  · rw [if_pos hin] at ht
    rw [Nat.sub_zero] at ht
    obtain ⟨x, hx, hr⟩ := h.get ht
    refine ⟨x, ?_, hr⟩
    have hlt : t < xs.size := by have := (List.getElem?_eq_some_iff.1 hx).1; simpa using this
    rw [Array.getElem?_append_left hlt]
    simpa using hx
  · rw [if_neg hin] at ht
    simp at ht

def aresL (P : Program) (fr : Fr) (H : Heap) : List ResultVar → Option (List AV)
  | [] => some []
  | .tmp t :: rs => (fr.get t).bind fun v => (aresL P fr H rs).map (v :: ·)
  | .cell a t :: rs => (fr.get a).bind fun p => (aload P H t p).bind fun v => (aresL P fr H rs).map (v :: ·)

def ares (P : Program) (fn : Func) (fr : Fr) (H : Heap) : Option AV :=
  (aresL P fr H fn.results.toList).map fun vs => match vs with
    | [v] => v
    | vs => .tup vs

theorem aresL_sound (h : HR B ρ H w) {tmps : Array Value} (hf : FRel ρ fr tmps) : ∀ {rs : List ResultVar} {vs : List AV}, aresL P fr H rs = some vs →
    ∃ xs : List Value, (rs.mapM (fun (x : ResultVar) => match x with | ResultVar.tmp t => (pure (tmps.getD t undef) : Sem Value) | ResultVar.cell a t => do loadVar t (← asAddr (tmps.getD a undef)))).run P w = .ok xs w ∧ RelL ρ vs xs
  | [], vs, hr => by simp [aresL] at hr; subst hr; exact ⟨[], by simp, rfl⟩
  | .tmp t :: rs, vs, hr => by
    simp only [aresL, Option.bind_eq_some_iff, Option.map_eq_some_iff] at hr
    obtain ⟨v, hv, vs', hvs, rfl⟩ := hr
    obtain ⟨x, hx, hrx⟩ := hf t v hv
    obtain ⟨xs, hxs, hrs⟩ := aresL_sound h hf hvs
    refine ⟨x :: xs, ?_, ⟨x, xs, rfl, hrx, hrs⟩⟩
    have hg : tmps.getD t undef = x := by simp [hx]
    simp only [List.mapM_cons, Sem.run_bind, Sem.run_pure, Result.andThen_ok, hxs, hg]
  | .cell a t :: rs, vs, hr => by
    simp only [aresL, Option.bind_eq_some_iff, Option.map_eq_some_iff] at hr
    obtain ⟨p, hp, v, hv, vs', hvs, rfl⟩ := hr
    obtain ⟨x, hx, hrx⟩ := hf a p hp
    obtain ⟨xs, hxs, hrs⟩ := aresL_sound h hf hvs
    obtain ⟨y, _, hy2, ad, rfl, hy3⟩ := aload_sound h hrx hv
    refine ⟨y :: xs, ?_, ⟨y, xs, rfl, hy2, hrs⟩⟩
    have hg : tmps.getD a undef = .pointer (some ad) := by simp [hx]
    have hao : (asAddr (.pointer (some ad))).run P w = .ok ad w := rfl
    simp only [List.mapM_cons, Sem.run_bind, Sem.run_pure, Result.andThen_ok, hg, hao, hy3, hxs]

theorem ares_sound (h : HR B ρ H w) {tmps : Array Value} (hf : FRel ρ fr tmps) {fn : Func} {v : AV} (hr : ares P fn fr H = some v) : ∃ x, (results fn tmps).run P w = .ok x w ∧ Rel ρ v x := by
  unfold ares at hr
  rw [Option.map_eq_some_iff] at hr
  obtain ⟨vs, hvs, hv⟩ := hr
  obtain ⟨xs, hxs, hrs⟩ := aresL_sound h hf hvs
  have hrun : ∀ g : Array Value → Value, (do let vs ← fn.results.mapM (fun (x : ResultVar) => match x with | ResultVar.tmp t => (pure (tmps.getD t undef) : Sem Value) | ResultVar.cell a t => do loadVar t (← asAddr (tmps.getD a undef))); pure (g vs) : Sem Value).run P w = .ok (g xs.toArray) w := by
    intro g
    rw [Array.mapM_eq_mapM_toList]
    simp only [Sem.run_bind, Sem.run_map, hxs, Result.andThen_ok, Sem.run_pure]
  have h0 := hrun (fun vs => if h : vs.size = 1 then vs[0] else .tuple vs)
  refine ⟨_, h0, ?_⟩
  have hlen := hrs.length
  subst hv
  split
  · rename_i v'
    obtain ⟨x, rfl, hx⟩ := hrs.one
    simpa using hx
  · rename_i hne
    have hsz : ¬ (xs.toArray.size = 1) := by
      simp only [List.size_toArray]
      intro h1
      rw [h1] at hlen
      match vs, hlen with
      | [v'], _ => exact hne v' rfl
    rw [dif_neg hsz]
    exact ⟨_, rfl, by simpa using hrs⟩

theorem HR.others {B : Nat} {ρ : Env} {H : Heap} {w w' : World} (h : HR B ρ H w) (hsz : w'.heap.size = w.heap.size) (hoth : ∀ b, ρ.blk b ∨ ρ.fz b ≠ none → w'.heap[b]? = w.heap[b]?) : HR B ρ H w' where
  next := h.next
  base := hsz ▸ h.base
  bnd := hsz ▸ h.bnd
  obj i o hi := let ⟨e, he, ho⟩ := h.obj i o hi; ⟨e, he, ho.mono (Env.le_refl _) fun hn => hoth _ (.inl (Env.blk_of he hn))⟩
  inj := h.inj
  fz b c hc := let ⟨arr, ty, f, h1, h2⟩ := h.fz b c hc; ⟨arr, ty, f, (hoth b (.inr (by rw [hc]; simp))).trans h1, h2⟩
  fzo := h.fzo

/-- The marks are taken up on the way out. -/
theorem marks_out {M : Nat} : ∀ (bs : List Nat) {ρ : Env} {H : Heap} {w : World} (fr : Frame) (cs : List Frame), fr.mode = .returning → fr.defers = bs.map markOf → bs.Nodup →
    (∀ b ∈ bs, w.heap[b]? = some (.deferred (some [])) ∧ M ≤ b ∧ ¬ ρ.blk b) → HR B ρ H w →
    ∃ w', Steps P (lone fr cs w) (lone { fr with defers := [] } cs w') ∧ HR B ρ H w' ∧ w'.os = w.os ∧ w'.tape = w.tape ∧ w'.output = w.output ∧ w'.heap.size = w.heap.size ∧ (∀ k, k ∉ bs → w'.heap[k]? = w.heap[k]?)
  | [], ρ, H, w, fr, cs, hm, hd, _, _, h => ⟨w, by
    have e : ({ fr with defers := [] } : Frame) = fr := by
      obtain ⟨f1, f2, f3, f4, f5, f6, f7⟩ := fr
      simp only at hd
      subst hd
      rfl
    rw [e]; exact .refl P _, h, rfl, rfl, rfl, rfl, fun _ _ => rfl⟩
  | b :: bs, ρ, H, w, fr, cs, hm, hd, hnd, hb, h => by
    obtain ⟨g1, g2, g3⟩ := hb b (List.mem_cons_self ..)
    have hlt : b < w.heap.size := (Array.getElem?_eq_some_iff.1 g1).1
    let w1 : World := { w with heap := w.heap.setIfInBounds b (.deferred none) }
    have hoth1 : ∀ k, k ≠ b → w1.heap[k]? = w.heap[k]? := fun k hk => by
      show (w.heap.setIfInBounds b _)[k]? = _
      rw [Array.getElem?_setIfInBounds_ne (Ne.symm hk)]
    have htake : (Instr.takeDeferred b).run P w = .ok [] w1 := by
      simp only [Instr.takeDeferred, Sem.run_bind, run_getObj_any (P := P) (by intro c t f hh; cases hh) g1, Result.andThen_ok]
      simp only [Sem.run_bind, run_setObj_any (P := P) (by intro c t f hh; cases hh) g1, Result.andThen_ok, Sem.run_pure]
      rfl
    have hstep := step_collected (P := P) (fr := fr) (cs := cs) (w := w) (w' := w1) (d := markOf b) (r := b) (ds := bs.map markOf) (calls := []) (by rw [hm]; simp) (by rw [hd]; rfl) rfl htake
    simp only [List.nil_append] at hstep
    have h1 : HR B ρ H w1 := h.others (by simp [w1]) fun b' hb' => hoth1 _ fun hbb => by
      subst hbb
      rcases hb' with hb' | hb'
      · exact g3 hb'
      · cases hc : ρ.fz b' with
        | none => exact hb' hc
        | some c =>
          obtain ⟨arr, ty, f, k1, _⟩ := h.fz b' c hc
          rw [g1] at k1; cases k1
    rw [List.nodup_cons] at hnd
    obtain ⟨w', s1, s2, s3, s4, s5, s6, s7⟩ := marks_out bs { fr with defers := bs.map markOf } cs hm rfl hnd.2 (fun b' hb' => by
      obtain ⟨q1, q2, q3⟩ := hb b' (List.mem_cons_of_mem _ hb')
      exact ⟨(hoth1 b' fun e => hnd.1 (e ▸ hb')).trans q1, q2, q3⟩) h1
    refine ⟨w', .head hstep s1, s2, s3, s4, s5, by rw [s6]; simp [w1], fun k hk => ?_⟩
    rw [List.mem_cons, not_or] at hk
    exact (s7 k hk.2).trans (hoth1 k hk.1)

theorem WF.body {f : FuncId} {fn : Func} {c : Code} {args : List AV} {Q : AV → Heap → Prop} (hf : P.funcs[f]? = some fn) (hb : fn.body = some c)
    (h : WC P B H.next none (args.length + (fn.ntmps - args.length)) c (initFr args 0 .nil) H fun x fr' H' => (x = .nor ∨ x = .ret) ∧ ∃ v, ares P fn fr' H' = some v ∧ Q v H') : WF P B f args H Q := by
  intro ρ w xs h1 h2 cs
  have hlen : xs.size = args.length := by have := h2.length; simpa using this
  let a0 : Act := { tmps := xs ++ Array.replicate (fn.ntmps - xs.size) undef, defers := [] }
  let b : Frame := { (default : Frame) with fn := f, kind := .normal }
  have henter : Frame.enter P f xs .normal = b.atR a0 [.code c] := by
    simp [Frame.enter, Frame.atR, hf, hb, b, a0]; rfl
  obtain ⟨e, a', w', ⟨x, fr', H', ρ', rfl, ⟨hx, v, hv, hq⟩, g3, g4, g5, g6, g7⟩, harr⟩   := h w.heap.size ρ w a0 (Nat.le_of_eq h1.next) h1 (initFr_rel h2 _) (by simp [a0, hlen]) (Marks.nil _ (Nat.le_refl _)) b [] cs rfl trivial (room0 none _)
  have hret : ∃ todo, Steps P (lone (Frame.enter P f xs .normal) cs w) (lone { b.atR a' todo with mode := .returning } cs w') := by
    rw [henter]
    rcases hx with rfl | rfl
    · exact ⟨[], Steps.trans (steps0.1 harr) (.one (stepR_end rfl))⟩
    · obtain ⟨todo, hs⟩ := harr.1 rfl
      exact ⟨todo, steps0.1 hs⟩
  obtain ⟨todo, hs⟩ := hret
  obtain ⟨d0, bs, d1, d2, d3⟩ := g7
  obtain ⟨w2, s1, s2, s3, s4, s5, s6, s7⟩ := marks_out (P := P) bs { b.atR a' todo with mode := .returning } cs rfl d1 d2 d3 g4
  obtain ⟨y, hy, hry⟩ := ares_sound (P := P) s2 g5 hv
  refine ⟨.returned y, w2, { { b.atR a' todo with mode := .returning } with defers := [] }, ⟨v, y, H', ρ', rfl, hq, ?_, s2, hry⟩, Steps.trans hs s1, rfl, rfl, rfl, rfl, fn, hf, hy⟩
  rw [h1.next] at g3
  have g3 := g3.toExt
  refine ⟨g3.pre, s3.trans g3.os, s4.trans g3.tape, s5.trans g3.output, by have := g3.size; omega, fun k hk => ?_, fun k hk hn => ?_, fun e he => g3.new e he, g3.fzn⟩
  · refine (s7 k fun hkb => ?_).trans (g3.below k hk)
    have := (d3 k hkb).2.1; have := h1.base; omega
  · refine (s7 k fun hkb => ?_).trans (g3.other k hk hn)
    have := (d3 k hkb).2.1; omega

end
end Go.AM
