/- THE ABSTRACT MACHINE, 17: a region whose order is open, run by a plan; what only looks may still be to come. -/
import Derived.Test.YtdeoahhofhmgfaaAmDraw
namespace Go.AM
open Go.RowKit

noncomputable def roVal (P : Program) (ops : Array Oper) (fr : Fr) (H : Heap) (o : Oper) : Option AV :=
  match aWant ops fr o with
  | some true => match aop P fr H o with
    | some (.val v _) => some v
    | _ => none
  | some false => some (.tup [])
  | none => none

/-- What is below, before and behind, in a region. -/
structure Anc (ops : Array Oper) (an : Nat → Nat) : Prop where
  back : ∀ i o, ops[i]? = some o → ∀ e ∈ o.after, Region.binds .any e = true → e.on < i ∧ (an i).testBit e.on = true
  close : ∀ L : Nat → Prop, (∀ i o, ops[i]? = some o → L i → ∀ e ∈ o.after, Region.binds .any e = true → L e.on) →
    ∀ i o, ops[i]? = some o → (∀ e ∈ o.after, Region.binds .any e = true → L e.on) → ∀ j, (an i).testBit j = true → L j

/-- Nobody else writes where this one writes; who looks there has it behind himself. -/
def DstOk (ops : Array Oper) (an : Nat → Nat) (i : Nat) : Prop :=
  ∀ o d, ops[i]? = some o → o.dst = some d → ∀ k ok, ops[k]? = some ok →
    (k ≠ i → ok.dst ≠ some d) ∧ (Operand.tmp d ∈ ok.op.operands → (an k).testBit i = true) ∧
    (∀ j b, ok.guard = some (j, b) → (ops[j]?).bind (·.dst) = some d → (an k).testBit i = true)

section
variable (P : Program) (B : Nat)

structure Cpl (n : Nat) (ops : Array Oper) (an : Nat → Nat) (lA : Nat) (fr : Fr) (H : Heap) (lR : Array Bool) (M : Nat) (ρ : Env) (w : World) (a : Act) : Prop where
  hr : HR B ρ H w
  fr0 : ∃ fr0, FRel ρ fr0 a.tmps ∧ ∀ t, fr0.get t = fr.get t ∨ ∃ j o, lA.testBit j = true ∧ lR.getD j false = false ∧ ops[j]? = some o ∧ o.dst = some t
  size : lR.size = ops.size
  sub : ∀ j, lR.getD j false = true → lA.testBit j = true
  closed : ∀ j o, ops[j]? = some o → lR.getD j false = true → ∀ e ∈ o.after, Region.binds .any e = true → lR.getD e.on false = true
  pend : ∀ j o, ops[j]? = some o → lA.testBit j = true → lR.getD j false = false → roOp P o.op = true ∧ DstOk ops an j ∧ ∃ v v' : AV, roVal P ops fr H o = some v ∧ v'.ub = v.ub ∧ ∀ d, o.dst = some d → d < n ∧ fr.get d = some v'
  tmps : a.tmps.size = n
  marks : Marks M ρ w a.defers

def WD (K : Nat) (r : Option Nat) (n : Nat) (ops : Array Oper) (an : Nat → Nat) (lA : Nat) (fr : Fr) (H : Heap) (Q : Fr → Heap → Prop) : Prop :=
  ∀ (fuel M : Nat) (ρ : Env) (w : World) (a : Act) (lR : Array Bool), K ≤ ρ.ats.length → Cpl P B n ops an lA fr H lR M ρ w a → lR.toList.countP (! ·) ≤ fuel →
    ∀ Qr : Exit → Act → World → Prop, (∀ e a' w', After B K n M ρ w (fun x fr' H' => x = .nor ∧ Q fr' H') e a' w' → Qr e a' w') →
    wpAnyIn (F0 r) 0 P .any ops Qr fuel lR a w
end

section
variable {P : Program} {B K : Nat} {r : Option Nat} {n : Nat} {fr : Fr} {H : Heap} {ρ : Env} {w : World} {ops : Array Oper} {an : Nat → Nat} {lA : Nat} {lR : Array Bool} {M : Nat} {a : Act} {Q : Fr → Heap → Prop}

def Down (ops : Array Oper) (lA : Nat) : Prop := ∀ j o, ops[j]? = some o → lA.testBit j = true → ∀ e ∈ o.after, Region.binds .any e = true → lA.testBit e.on = true

theorem bit_or {lA i j : Nat} : (lA ||| 2 ^ i).testBit j = true ↔ lA.testBit j = true ∨ j = i := by
  rw [Nat.testBit_or, Bool.or_eq_true, Nat.testBit_two_pow, decide_eq_true_iff]
  exact ⟨fun h => h.imp id Eq.symm, fun h => h.imp id Eq.symm⟩

theorem aput_get {fr fr' : Fr} {dst : Option Tmp} {v : AV} (h : aput n fr dst v = some fr') : (∀ d, dst = some d → d < n ∧ fr'.get d = some v) ∧ ∀ t, dst ≠ some t → fr'.get t = fr.get t := by
  unfold aput at h
  cases dst with
  | none => cases h; exact ⟨fun d hd => (by cases hd), fun t _ => rfl⟩
  | some d =>
    simp only at h
    cases hb : Nat.blt d n with
    | false => rw [hb] at h; cases h
    | true =>
      rw [hb] at h
      cases h
      refine ⟨fun d' hd' => ?_, fun t ht => ?_⟩
      · cases hd'; exact ⟨by simpa [Nat.blt_eq] using hb, by rw [T.get_set]; simp⟩
      · rw [T.get_set, if_neg fun e => ht (by rw [e])]

theorem aput_ok {fr : Fr} {dst : Option Tmp} {v : AV} (h : ∀ d, dst = some d → d < n) : ∃ fr', aput n fr dst v = some fr' := by
  unfold aput
  cases dst with
  | none => exact ⟨_, rfl⟩
  | some d =>
    have hb : Nat.blt d n = true := by rw [Nat.blt_eq]; exact h d rfl
    simp only [hb]
    exact ⟨_, rfl⟩

theorem Down.add {i : Nat} {o : Oper} (h : Down ops lA) (ho : ops[i]? = some o) (ha : ∀ e ∈ o.after, Region.binds .any e = true → lA.testBit e.on = true) : Down ops (lA ||| 2 ^ i) := by
  intro j oj hj hb e he hbind
  rw [bit_or] at hb ⊢
  rcases hb with hb | rfl
  · exact .inl (h j oj hj hb e he hbind)
  · rw [ho] at hj; cases hj; exact .inl (ha e he hbind)

theorem aWant_congr {fr fr' : Fr} {o : Oper} (h : ∀ j b d, o.guard = some (j, b) → (ops[j]?).bind (·.dst) = some d → fr.get d = fr'.get d) : aWant ops fr o = aWant ops fr' o := by
  unfold aWant
  split
  · rfl
  · rename_i j want hg
    split
    · rfl
    · rename_i d hd
      rw [h j want d hg hd]

theorem roVal_congr {fr fr' : Fr} {o : Oper} (hg : ∀ j b d, o.guard = some (j, b) → (ops[j]?).bind (·.dst) = some d → fr.get d = fr'.get d) (h : ∀ t, Operand.tmp t ∈ o.op.operands → fr.get t = fr'.get t) : roVal P ops fr H o = roVal P ops fr' H o := by
  unfold roVal
  rw [aWant_congr hg, aop_congr (fr' := fr') fun x hx => aeval_congr fun t ht => h t (ht ▸ hx)]

/-- What an operation that is not yet run looks at stands in the real frame as in the machine's. -/
theorem Cpl.looks (hc : Cpl P B n ops an lA fr H lR M ρ w a) (hA : Anc ops an) {i : Nat} {o : Oper} (ho : ops[i]? = some o)
    (hin : ∀ e ∈ o.after, Region.binds .any e = true → lR.getD e.on false = true) :
    ∃ fr0, FRel ρ fr0 a.tmps ∧ (∀ t, fr0.get t = fr.get t ∨ ∃ j o, lA.testBit j = true ∧ lR.getD j false = false ∧ ops[j]? = some o ∧ o.dst = some t) ∧
      (∀ j b d, o.guard = some (j, b) → (ops[j]?).bind (·.dst) = some d → fr0.get d = fr.get d) ∧ (∀ t, Operand.tmp t ∈ o.op.operands → fr0.get t = fr.get t) := by
  obtain ⟨fr0, h1, h2⟩ := hc.fr0
  have key : ∀ j, lR.getD j false = false → (an i).testBit j = true → False := by
    intro j hl hb
    have := hA.close (fun k => lR.getD k false = true) (fun k ok hk hl e he hb => hc.closed k ok hk hl e he hb) i o ho hin j hb
    rw [hl] at this; cases this
  refine ⟨fr0, h1, h2, fun j b d hg hd => ?_, fun t ht => ?_⟩
  · rcases h2 d with h | ⟨k, ok, k1, k2, k3, k4⟩
    · exact h
    · obtain ⟨_, hdst, _⟩ := hc.pend k ok k3 k1 k2
      exact (key k k2 ((hdst ok d k3 k4 i o ho).2.2 j b hg hd)).elim
  · rcases h2 t with h | ⟨k, ok, k1, k2, k3, k4⟩
    · exact h
    · obtain ⟨_, hdst, _⟩ := hc.pend k ok k3 k1 k2
      exact (key k k2 ((hdst ok t k3 k4 i o ho).2.1 ht)).elim

theorem getD_set {lR : Array Bool} {i j : Nat} (hi : i < lR.size) : (lR.setIfInBounds i true).getD j false = true ↔ lR.getD j false = true ∨ j = i := by
  by_cases h : j = i
  · subst h; simp [hi]
  · rw [getD_set_ne false (Ne.symm h)]; simp [h]

theorem count_set {l : List Bool} {i : Nat} (h : l[i]? = some false) : (l.set i true).countP (! ·) + 1 = l.countP (! ·) := by
  induction l generalizing i with
  | nil => simp at h
  | cons b l ih =>
    cases i with
    | zero => simp at h; subst h; simp
    | succ i => simp only [List.getElem?_cons_succ] at h; simp only [List.set_cons_succ, List.countP_cons]; have := ih h; omega

theorem count_set' {lR : Array Bool} {i : Nat} (hi : i < lR.size) (h : lR.getD i false = false) {fuel : Nat} (hf : lR.toList.countP (! ·) ≤ fuel + 1) : (lR.setIfInBounds i true).toList.countP (! ·) ≤ fuel := by
  have h' : lR.toList[i]? = some false := by
    rw [Array.getElem?_toList]
    rw [Array.getD_eq_getD_getElem?, Array.getElem?_eq_getElem hi] at h
    rw [Array.getElem?_eq_getElem hi]
    simpa using h
  rw [Array.toList_setIfInBounds]
  have := count_set h'
  omega

theorem fuel_pos {lR : Array Bool} {i : Nat} (hi : i < lR.size) (h : lR.getD i false = false) : 0 < lR.toList.countP (! ·) := by
  rw [List.countP_pos_iff]
  refine ⟨lR[i], Array.getElem_mem_toList hi, ?_⟩
  rw [Array.getD_eq_getD_getElem?, Array.getElem?_eq_getElem hi] at h
  simpa using h

/-- One that was only to come is run. -/
theorem Cpl.late (hc : Cpl P B n ops an lA fr H lR M ρ w a) (hA : Anc ops an) {i : Nat} {o : Oper} (ho : ops[i]? = some o) (hp : lA.testBit i = true) (hl : lR.getD i false = false)
    (hin : ∀ e ∈ o.after, Region.binds .any e = true → lR.getD e.on false = true) {K : Act → World → Prop} {Qr : Exit → Act → World → Prop}
    (hK : ∀ ρ' w' a', Ext B ρ w ρ' w' → Cpl P B n ops an lA fr H (lR.setIfInBounds i true) M ρ' w' a' → K a' w') : wpOpIn (F0 r) 0 P ops Qr i K a w := by
  obtain ⟨hro, hdst, v, v', hv, hun, hd⟩ := hc.pend i o ho hp hl
  obtain ⟨fr0, f1, f2, f3, f4⟩ := hc.looks hA ho hin
  have hi : i < lR.size := by rw [hc.size]; exact (Array.getElem?_eq_some_iff.1 ho).1
  have hv0 : roVal P ops fr0 H o = some v := by rw [roVal_congr f3 f4]; exact hv
  -- what holds when the value is put
  have fin : ∀ ρ' w' x, Ext B ρ w ρ' w' → HR B ρ' H w' → Rel ρ' v x → K (a.put o.dst x) w' := by
    intro ρ' w' x e1 e2 e30
    have e3 : Rel ρ' v' x := e30.eqv hun
    obtain ⟨fr1, hp1⟩ := aput_ok (n := n) (fr := fr0) (v := v') fun d hdd => (hd d hdd).1
    obtain ⟨hq1, hq2⟩ := aput_get hp1
    obtain ⟨p1, p2, p3⟩ := aput_sound (f1.mono e1.pre) hc.tmps e3 hp1
    refine hK ρ' w' _ e1 ⟨e2, ⟨fr1, p1, fun t => ?_⟩, by simp [hc.size], fun j hj => ?_, fun j oj hj hjl e he hb => ?_, fun j oj hj hjA hjl => ?_, p2, by rw [p3]; exact hc.marks.ext e1⟩
    · by_cases hdt : o.dst = some t
      · exact .inl ((hq1 t hdt).2.trans (hd t hdt).2.symm)
      · rw [hq2 t hdt]
        rcases f2 t with g | ⟨j, oj, g1, g2, g3, g4⟩
        · exact .inl g
        · refine .inr ⟨j, oj, g1, ?_, g3, g4⟩
          have hji : j ≠ i := by rintro rfl; rw [ho] at g3; cases g3; exact hdt g4
          rw [getD_set_ne false (Ne.symm hji)]; exact g2
    · rcases (getD_set hi).1 hj with h | rfl
      · exact hc.sub j h
      · exact hp
    · rw [getD_set hi] at hjl ⊢
      rcases hjl with h | rfl
      · exact .inl (hc.closed j oj hj h e he hb)
      · rw [ho] at hj; cases hj; exact .inl (hin e he hb)
    · refine hc.pend j oj hj hjA ?_
      cases hh : lR.getD j false with
      | false => rfl
      | true => rw [(getD_set hi).2 (.inl hh)] at hjl; cases hjl
  unfold wpOpIn
  simp only [ho]
  unfold roVal at hv0
  cases hw : aWant ops fr0 o with
  | none => rw [hw] at hv0; cases hv0
  | some b =>
    rw [hw] at hv0
    rw [aWant_sound f1 hw]
    cases b with
    | false =>
      simp only at hv0; cases hv0
      exact ⟨fun f _ => trivial, fin ρ w undef (Ext.refl _ _ _) hc.hr (by simp [Rel, RelL, undef])⟩
    | true =>
      simp only at hv0
      simp only [if_true]
      refine ⟨fun f _ => trivial, ?_⟩
      cases hq : aop P fr0 H o with
      | none => rw [hq] at hv0; cases hv0
      | some q =>
        obtain ⟨v', rfl⟩ := ro_val hro hq
        rw [hq] at hv0; cases hv0
        rw [semAt_of (aop_not_defer hq)]
        obtain ⟨x, w', ρ', hrun, g2, g3, g4⟩ := aop_sound hc.hr f1 hq
        rcases hrun with hrun | ⟨hrun, rfl⟩
        · rw [hrun]; exact fin ρ' w' x g2 g3 g4
        · rw [hrun]; exact fin ρ' w' undef g2 g3 g4

/-- Anything that is ready is either to come late, or is the one. -/
theorem Cpl.go {hs : List Nat} (hA : Anc ops an)
    (hone : ∀ k ok, ops[k]? = some ok → lA.testBit k = false → k ∉ hs → ∃ e ∈ ok.after, Region.binds .any e = true ∧ lA.testBit e.on = false)
    {ρ0 : Env} {w0 : World} {Qr : Exit → Act → World → Prop}
    (hi : ∀ i ∈ hs, ∀ o, ops[i]? = some o → lA.testBit i = false → ∀ (fuel : Nat) (ρ : Env) (w : World) (a : Act) (lR : Array Bool), Ext B ρ0 w0 ρ w → Cpl P B n ops an lA fr H lR M ρ w a →
      (∀ e ∈ o.after, Region.binds .any e = true → lR.getD e.on false = true) → lR.getD i false = false → lR.toList.countP (! ·) ≤ fuel + 1 →
      wpOpIn (F0 r) 0 P ops Qr i (wpAnyIn (F0 r) 0 P .any ops Qr fuel (lR.setIfInBounds i true)) a w)
    (hQ : (∀ k, k < ops.size → lA.testBit k = true) → ∀ (ρ : Env) (w : World) (a : Act), Ext B ρ0 w0 ρ w → HR B ρ H w → FRel ρ fr a.tmps → a.tmps.size = n → Marks M ρ w a.defers → Qr .normal a w) :
    ∀ (fuel : Nat) (ρ : Env) (w : World) (a : Act) (lR : Array Bool), Ext B ρ0 w0 ρ w → Cpl P B n ops an lA fr H lR M ρ w a → lR.toList.countP (! ·) ≤ fuel →
      wpAnyIn (F0 r) 0 P .any ops Qr fuel lR a w := by
  have hall : ∀ lR : Array Bool, Region.ready .any ops lR = [] → lR.size = ops.size → ∀ k, k < ops.size → lR.getD k false = true := by
    intro lR hnil hsz k
    induction k using Nat.strongRecOn with
    | ind k ih =>
      intro hk
      cases hh : lR.getD k false with
      | true => rfl
      | false =>
        have ho : ops[k]? = some ops[k] := Array.getElem?_eq_getElem hk
        have hmem : k ∈ Region.ready .any ops lR := by
          rw [mem_ready]
          refine ⟨?_, ops[k], ho, fun e he hb => ih e.on (hA.back k _ ho e he hb).1 (Nat.lt_trans (hA.back k _ ho e he hb).1 hk)⟩
          rw [Array.getD_eq_getD_getElem?, Array.getElem?_eq_getElem (by rw [hsz]; exact hk)] at hh ⊢
          simpa using hh
        rw [hnil] at hmem; cases hmem
  have hend : ∀ (ρ : Env) (w : World) (a : Act) (lR : Array Bool), Ext B ρ0 w0 ρ w → Cpl P B n ops an lA fr H lR M ρ w a → Region.ready .any ops lR = [] → Qr .normal a w := by
    intro ρ w a lR he hc hnil
    have hR := hall lR hnil hc.size
    refine hQ (fun k hk => hc.sub k (hR k hk)) ρ w a he hc.hr ?_ hc.tmps hc.marks
    obtain ⟨fr0, f1, f2⟩ := hc.fr0
    intro t v ht
    refine f1 t v ?_
    rcases f2 t with g | ⟨j, oj, g1, g2, g3, g4⟩
    · rw [g]; exact ht
    · rw [hR j (Array.getElem?_eq_some_iff.1 g3).1] at g2; cases g2
  intro fuel
  induction fuel with
  | zero =>
    intro ρ w a lR he hc hf
    have hnil : Region.ready .any ops lR = [] := by
      cases hr : Region.ready .any ops lR with
      | nil => rfl
      | cons x xs =>
        have hx : x ∈ Region.ready .any ops lR := by rw [hr]; exact List.mem_cons_self ..
        obtain ⟨h1, o, h2, _⟩ := mem_ready.1 hx
        have hlt : x < lR.size := by rw [hc.size]; exact (Array.getElem?_eq_some_iff.1 h2).1
        have h3 : lR.getD x false = false := by
          rw [Array.getD_eq_getD_getElem?, Array.getElem?_eq_getElem hlt] at h1 ⊢
          simpa using h1
        have := fuel_pos hlt h3
        omega
    exact ⟨hnil, hend ρ w a lR he hc hnil⟩
  | succ fuel ih =>
    intro ρ w a lR he hc hf
    refine ⟨fun hnil => hend ρ w a lR he hc hnil, fun k hk => ?_⟩
    obtain ⟨h1, o, h2, h3⟩ := mem_ready.1 hk
    have hlt : k < lR.size := by rw [hc.size]; exact (Array.getElem?_eq_some_iff.1 h2).1
    have h4 : lR.getD k false = false := by
      rw [Array.getD_eq_getD_getElem?, Array.getElem?_eq_getElem hlt] at h1 ⊢
      simpa using h1
    cases hA' : lA.testBit k with
    | true =>
      exact hc.late hA h2 hA' h4 h3 fun ρ' w' a' e1 hc' => ih ρ' w' a' _ (he.trans e1) hc' (count_set' hlt h4 hf)
    | false =>
      by_cases hki : k ∈ hs
      · exact hi k hki o h2 hA' fuel ρ w a lR he hc h3 h4 hf
      · obtain ⟨e, he1, he2, he3⟩ := hone k o h2 hA' hki
        have := hc.sub _ (h3 e he1 he2)
        rw [he3] at this; cases this

/-- The end. -/
theorem WD.done (hA : Anc ops an) (hall : ∀ k, k < ops.size → lA.testBit k = true) (h : Q fr H) : WD P B K r n ops an lA fr H Q := by
  intro fuel M ρ w a lR hk hc hf Qr hQr
  refine Cpl.go (hs := []) hA (fun k ok hk hb _ => ?_) (fun i hi => nomatch hi) (fun _ ρ' w' a' e1 e2 e3 e4 e5 => ?_) fuel ρ w a lR (Ext.refl _ _ _) hc hf
  · rw [hall k (Array.getElem?_eq_some_iff.1 hk).1] at hb; cases hb
  · exact hQr _ _ _ ⟨.nor, fr, H, ρ', rfl, ⟨rfl, h⟩, e1.toK hk, e2, e3, e4, e5⟩

/-- One that only looks: the machine runs it now. -/
theorem WD.ro {i : Nat} {o : Oper} {v v' : AV} {fr' : Fr} (hA : Anc ops an) (ho : ops[i]? = some o) (hdown : Down ops lA) (hn : lA.testBit i = false) (hro : roOp P o.op = true) (hdst : DstOk ops an i)
    (hv : roVal P ops fr H o = some v) (hun : v'.ub = v.ub) (hp : aput n fr o.dst v' = some fr') (h : WD P B K r n ops an (lA ||| 2 ^ i) fr' H Q) : WD P B K r n ops an lA fr H Q := by
  intro fuel M ρ w a lR hk hc hf Qr hQr
  obtain ⟨q1, q2⟩ := aput_get hp
  have hnR : lR.getD i false = false := by
    cases hh : lR.getD i false with
    | false => rfl
    | true => rw [hc.sub i hh] at hn; cases hn
  refine h fuel M ρ w a lR hk ⟨hc.hr, ?_, hc.size, fun j hj => bit_or.2 (.inl (hc.sub j hj)), hc.closed, fun j oj hj hjA hjl => ?_, hc.tmps, hc.marks⟩ hf Qr hQr
  · obtain ⟨fr0, f1, f2⟩ := hc.fr0
    refine ⟨fr0, f1, fun t => ?_⟩
    by_cases ht : o.dst = some t
    · exact .inr ⟨i, o, bit_or.2 (.inr rfl), hnR, ho, ht⟩
    · rw [q2 t ht]
      rcases f2 t with g | ⟨j, oj, g1, g2, g3, g4⟩
      · exact .inl g
      · exact .inr ⟨j, oj, bit_or.2 (.inl g1), g2, g3, g4⟩
  · -- nobody in the machine's past looks at what is written now
    have hpast : ∀ k ok, ops[k]? = some ok → (k = i ∨ lA.testBit k = true) → roVal P ops fr' H ok = roVal P ops fr H ok := by
      intro k ok hk hor
      have hno : (an k).testBit i = true → False := fun hb => by
        rcases hor with rfl | hkA
        · have := hA.close (fun j => j < k) (fun m om hm hmk e he hb => Nat.lt_trans (hA.back m om hm e he hb).1 hmk) k ok hk (fun e he hb => (hA.back k ok hk e he hb).1) k hb
          exact Nat.lt_irrefl _ this
        · have := hA.close (fun j => lA.testBit j = true) (fun m om hm hmk e he hb => hdown m om hm hmk e he hb) k ok hk (fun e he hb => hdown k ok hk hkA e he hb) i hb
          rw [hn] at this; cases this
      refine roVal_congr (fun j b d hg hd => ?_) fun t ht => ?_
      · refine q2 d fun hod => ?_
        exact hno ((hdst o d ho hod k ok hk).2.2 j b hg hd)
      · refine q2 t fun hod => ?_
        exact hno ((hdst o t ho hod k ok hk).2.1 ht)
    rw [bit_or] at hjA
    rcases hjA with hjA | rfl
    · obtain ⟨p1, p2, v1, v2, p3, pun, p4⟩ := hc.pend j oj hj hjA hjl
      refine ⟨p1, p2, v1, v2, by rw [hpast j oj hj (.inr hjA)]; exact p3, pun, fun d hd => ⟨(p4 d hd).1, ?_⟩⟩
      rw [q2 d fun hod => ?_]
      · exact (p4 d hd).2
      · have hji : j ≠ i := by rintro rfl; rw [hn] at hjA; cases hjA
        exact (hdst o d ho hod j oj hj).1 hji hd
    · rw [ho] at hj; cases hj
      exact ⟨hro, hdst, v, v', by rw [hpast j o ho (.inl rfl)]; exact hv, hun, fun d hd => q1 d hd⟩

/-- What must be said again behind an operation that does more than look. -/
def Again (P : Program) (_n : Nat) (ops : Array Oper) (an : Nat → Nat) (lA i : Nat) (fr : Fr) (H : Heap) : Prop :=
  ∀ j oj, ops[j]? = some oj → lA.testBit j = true → (an i).testBit j = false → roOp P oj.op = true → ∃ v v' : AV, roVal P ops fr H oj = some v ∧ v'.ub = v.ub ∧ ∀ d, oj.dst = some d → fr.get d = some v'

def Alone (ops : Array Oper) (lA : Nat) (hs : List Nat) : Prop :=
  ∀ k ok, ops[k]? = some ok → lA.testBit k = false → k ∉ hs → ∃ e ∈ ok.after, Region.binds .any e = true ∧ lA.testBit e.on = false

theorem Cpl.loud {ρ' : Env} {w' : World} {i : Nat} {o : Oper} {v : AV} {x : Value} {fr0 fr' : Fr} {H' : Heap} (hA : Anc ops an) (hc : Cpl P B n ops an lA fr H lR M ρ w a) (ho : ops[i]? = some o)
    (hn : lA.testBit i = false) (hin : ∀ e ∈ o.after, Region.binds .any e = true → lR.getD e.on false = true)
    (f1 : FRel ρ fr0 a.tmps) (f2 : ∀ t, fr0.get t = fr.get t ∨ ∃ j o, lA.testBit j = true ∧ lR.getD j false = false ∧ ops[j]? = some o ∧ o.dst = some t)
    (e1 : Ext B ρ w ρ' w') (e2 : HR B ρ' H' w') (e3 : Rel ρ' v x) (hp : aput n fr o.dst v = some fr') (hag : Again P n ops an lA i fr' H') :
    Cpl P B n ops an (lA ||| 2 ^ i) fr' H' (lR.setIfInBounds i true) M ρ' w' (a.put o.dst x) := by
  obtain ⟨q1, q2⟩ := aput_get hp
  obtain ⟨fr1, hp1⟩ := aput_ok (n := n) (fr := fr0) (v := v) fun d hdd => (q1 d hdd).1
  obtain ⟨r1, r2⟩ := aput_get hp1
  obtain ⟨p1, p2, p3⟩ := aput_sound (f1.mono e1.pre) hc.tmps e3 hp1
  have hi : i < lR.size := by rw [hc.size]; exact (Array.getElem?_eq_some_iff.1 ho).1
  refine ⟨e2, ⟨fr1, p1, fun t => ?_⟩, by simp [hc.size], fun j hj => ?_, fun j oj hj hjl e he hb => ?_, fun j oj hj hjA hjl => ?_, p2, by rw [p3]; exact hc.marks.ext e1⟩
  · by_cases hdt : o.dst = some t
    · exact .inl ((r1 t hdt).2.trans (q1 t hdt).2.symm)
    · rw [r2 t hdt, q2 t hdt]
      rcases f2 t with g | ⟨j, oj, g1, g2, g3, g4⟩
      · exact .inl g
      · have hji : j ≠ i := by rintro rfl; rw [hn] at g1; cases g1
        exact .inr ⟨j, oj, bit_or.2 (.inl g1), by rw [getD_set_ne false (Ne.symm hji)]; exact g2, g3, g4⟩
  · rcases (getD_set hi).1 hj with h | rfl
    · exact bit_or.2 (.inl (hc.sub j h))
    · exact bit_or.2 (.inr rfl)
  · rw [getD_set hi] at hjl ⊢
    rcases hjl with h | rfl
    · exact .inl (hc.closed j oj hj h e he hb)
    · rw [ho] at hj; cases hj; exact .inl (hin e he hb)
  · have hji : j ≠ i := by rintro rfl; rw [(getD_set hi).2 (.inr rfl)] at hjl; cases hjl
    have hjA' : lA.testBit j = true := (bit_or.1 hjA).resolve_right hji
    rw [getD_set_ne false (Ne.symm hji)] at hjl
    obtain ⟨p1, p2, _, _, _, _, p4⟩ := hc.pend j oj hj hjA' hjl
    have hanc : (an i).testBit j = false := by
      cases hh : (an i).testBit j with
      | false => rfl
      | true =>
        have := hA.close (fun k => lR.getD k false = true) (fun k ok hk hl e he hb => hc.closed k ok hk hl e he hb) i o ho hin j hh
        rw [hjl] at this; cases this
    obtain ⟨v1, v2, g1, gun, g2⟩ := hag j oj hj hjA' hanc p1
    exact ⟨p1, p2, v1, v2, g1, gun, fun d hd => ⟨(p4 d hd).1, g2 d hd⟩⟩

/-- One that does more than look: what it does, from any frame that agrees where it looks. -/
def WI (P : Program) (B K : Nat) (r : Option Nat) (n : Nat) (ops : Array Oper) (an : Nat → Nat) (lA i : Nat) (o : Oper) (fr : Fr) (H : Heap) (Q : Fr → Heap → Prop) : Prop :=
  ∀ (ρ : Env) (w : World) (a : Act) (fr0 : Fr) (Kw : Act → World → Prop) (Qr : Exit → Act → World → Prop), HR B ρ H w → FRel ρ fr0 a.tmps → aWant ops fr0 o = aWant ops fr o → (∀ x ∈ o.op.operands, aeval fr0 x = aeval fr x) →
      (∀ ρ' w' v x fr' H', Ext B ρ w ρ' w' → HR B ρ' H' w' → Rel ρ' v x → aput n fr o.dst v = some fr' → Again P n ops an lA i fr' H' → WD P B K r n ops an (lA ||| 2 ^ i) fr' H' Q → Kw (a.put o.dst x) w') →
      wpOpIn (F0 r) 0 P ops Qr i Kw a w

/-- Some that are ready, any of which may be next. -/
theorem WD.louds {hs : List Nat} {i0 : Nat} (hA : Anc ops an) (hone : Alone ops lA hs) (h0 : i0 ∈ hs)
    (h : ∀ i ∈ hs, ∃ o, ops[i]? = some o ∧ lA.testBit i = false ∧ WI P B K r n ops an lA i o fr H Q) : WD P B K r n ops an lA fr H Q := by
  intro fuel M ρ w a lR hk hc hf Qr hQr
  refine Cpl.go (hs := hs) hA hone (fun i hi o' ho' _ fuel ρ1 w1 a1 lR1 he hc1 hin hl hf1 => ?_) (fun hall => ?_) fuel ρ w a lR (Ext.refl _ _ _) hc hf
  · obtain ⟨o, ho, hn, h⟩ := h i hi
    rw [ho] at ho'; cases ho'
    have hlt : i < ops.size := (Array.getElem?_eq_some_iff.1 ho).1
    obtain ⟨fr0, f1, f2, f3, f4⟩ := hc1.looks hA ho hin
    have hi1 : i < lR1.size := by rw [hc1.size]; exact hlt
    refine h ρ1 w1 a1 fr0 _ _ hc1.hr f1 (aWant_congr f3) (fun x hx => aeval_congr fun t ht => f4 t (ht ▸ hx)) ?_
    intro ρ' w' v x fr' H' e1 e2 e3 hp hag hWD
    exact hWD fuel M ρ' w' _ _ (Nat.le_trans hk (he.trans e1).pre.ats.length_le) (hc1.loud hA ho hn hin f1 f2 e1 e2 e3 hp hag) (count_set' hi1 hl hf1) Qr fun e a' w' hh => hQr e a' w' (hh.ext hk (he.trans e1))
  · obtain ⟨o, ho, hn, _⟩ := h i0 h0
    rw [hall i0 (Array.getElem?_eq_some_iff.1 ho).1] at hn; cases hn

theorem HR.fresh (h : HR B ρ H w) : HR B ρ { t := H.t, next := H.next, d := 0 } w := ⟨h.next, h.base, h.bnd, h.obj, h.inj, h.fz, h.fzo⟩

theorem WI.fresh {i : Nat} {o : Oper} (h : WI P B K r n ops an lA i o fr { t := H.t, next := H.next, d := 0 } Q) : WI P B K r n ops an lA i o fr H Q :=
  fun ρ w a fr0 Kw Qr h1 h2 h3 h4 h5 => h ρ w a fr0 Kw Qr h1.fresh h2 h3 h4 h5

theorem WI.val {i : Nat} {o : Oper} {v v' : AV} {fr' : Fr} {H' : Heap} (ho : ops[i]? = some o) (hw : aWant ops fr o = some true) (he : aop P fr H o = some (.val v H'))
    (hun : v'.ub = v.ub) (hp : aput n fr o.dst v' = some fr') (hag : Again P n ops an lA i fr' H') (h : WD P B K r n ops an (lA ||| 2 ^ i) fr' H' Q) : WI P B K r n ops an lA i o fr H Q := by
  intro ρ w a fr0 K Qr h1 h2 g1 g2 hK
  have g2 : aop P fr0 H o = aop P fr H o := aop_congr g2
  rw [hw] at g1; rw [he] at g2
  unfold wpOpIn
  simp only [ho, aWant_sound h2 g1, if_true]
  refine ⟨fun f _ => trivial, ?_⟩
  rw [semAt_of (aop_not_defer g2)]
  obtain ⟨x, w', ρ', hrun, e2, e3, e4⟩ := aop_sound h1 h2 g2
  rcases hrun with hrun | ⟨hrun, rfl⟩
  · rw [hrun]; exact hK ρ' w' v' x fr' H' e2 e3 (e4.eqv hun) hp hag h
  · rw [hrun]; exact hK ρ' w' v' undef fr' H' e2 e3 (e4.eqv hun) hp hag h

theorem WI.opts {i : Nat} {o : Oper} {l : List (AV × Heap)} (ho : ops[i]? = some o) (hw : aWant ops fr o = some true) (he : aop P fr H o = some (.opts l))
    (h : ∀ q ∈ l, ∃ fr', aput n fr o.dst q.1 = some fr' ∧ Again P n ops an lA i fr' q.2 ∧ WD P B K r n ops an (lA ||| 2 ^ i) fr' q.2 Q) : WI P B K r n ops an lA i o fr H Q := by
  intro ρ w a fr0 K Qr h1 h2 g1 g2 hK
  have g2 : aop P fr0 H o = aop P fr H o := aop_congr g2
  rw [hw] at g1; rw [he] at g2
  unfold wpOpIn
  simp only [ho, aWant_sound h2 g1, if_true]
  refine ⟨fun f _ => trivial, ?_⟩
  rw [semAt_of (aop_not_defer g2)]
  obtain ⟨q, hq, x, w', ρ', hrun, e2, e3, e4⟩ := aop_sound h1 h2 g2
  obtain ⟨fr', hp, hag, hWD⟩ := h q hq
  rw [hrun]; exact hK ρ' w' q.1 x fr' q.2 e2 e3 e4 hp hag hWD

theorem WI.fams {i : Nat} {o : Oper} {l : List ((Nat → Prop) × (Nat → AV × Heap))} (ho : ops[i]? = some o) (hw : aWant ops fr o = some true) (he : aop P fr H o = some (.fams l))
    (h : ∀ q ∈ l, ∀ j, q.1 j → ∃ fr', aput n fr o.dst (q.2 j).1 = some fr' ∧ Again P n ops an lA i fr' (q.2 j).2 ∧ WD P B K r n ops an (lA ||| 2 ^ i) fr' (q.2 j).2 Q) : WI P B K r n ops an lA i o fr H Q := by
  intro ρ w a fr0 K Qr h1 h2 g1 g2 hK
  have g2 : aop P fr0 H o = aop P fr H o := aop_congr g2
  rw [hw] at g1; rw [he] at g2
  unfold wpOpIn
  simp only [ho, aWant_sound h2 g1, if_true]
  refine ⟨fun f _ => trivial, ?_⟩
  rw [semAt_of (aop_not_defer g2)]
  obtain ⟨q, hq, j, hj, x, w', ρ', hrun, e2, e3, e4⟩ := aop_sound h1 h2 g2
  obtain ⟨fr', hp, hag, hWD⟩ := h q hq j hj
  rw [hrun]; exact hK ρ' w' (q.2 j).1 x fr' (q.2 j).2 e2 e3 e4 hp hag hWD

theorem WI.skipped {i : Nat} {o : Oper} {fr' : Fr} (ho : ops[i]? = some o) (hw : aWant ops fr o = some false)
    (hp : aput n fr o.dst (.tup []) = some fr') (hag : Again P n ops an lA i fr' H) (h : WD P B K r n ops an (lA ||| 2 ^ i) fr' H Q) : WI P B K r n ops an lA i o fr H Q := by
  intro ρ w a fr0 K Qr h1 h2 g1 g2 hK
  rw [hw] at g1
  unfold wpOpIn
  simp only [ho, aWant_sound h2 g1]
  exact ⟨fun f _ => trivial, hK ρ w (.tup []) undef fr' H (Ext.refl _ _ _) h1 (by simp [Rel, RelL, undef]) hp hag h⟩

theorem WI.call {i : Nat} {o : Oper} {f : FuncId} {args : List AV} (ho : ops[i]? = some o) (hw : aWant ops fr o = some true) (he : aop P fr H o = some (.call f args))
    (h : WF P B f args H fun v H' => ∃ fr', aput n fr o.dst v = some fr' ∧ Again P n ops an lA i fr' H' ∧ WD P B K r n ops an (lA ||| 2 ^ i) fr' H' Q) : WI P B K r n ops an lA i o fr H Q := by
  intro ρ w a fr0 K Qr h1 h2 g1 g2 hK
  have g2 : aop P fr0 H o = aop P fr H o := aop_congr g2
  rw [hw] at g1; rw [he] at g2
  unfold wpOpIn
  simp only [ho, aWant_sound h2 g1, if_true]
  refine ⟨fun f _ => trivial, ?_⟩
  rw [semAt_of (aop_not_defer g2)]
  obtain ⟨xs, hrun, hargs⟩ := aop_sound h1 h2 g2
  rw [hrun]
  refine ⟨fun h => by simp [F0] at h, calls0 ((h ρ w xs h1 hargs).mono ?_)⟩
  rintro e w' ⟨v, x, H', ρ', rfl, ⟨fr', hp, hag, hWD⟩, e2, e3, e4⟩
  exact hK ρ' w' v x fr' H' e2 e3 e4 hp hag hWD

theorem HR.drawn {k : Nat} (h : HR B ρ H w) : HR B ρ H { w with drawn := k } where
  next := h.next
  base := h.base
  bnd := h.bnd
  obj := fun i o hi => let ⟨e, he, ho⟩ := h.obj i o hi; ⟨e, he, ho.mono (Env.le_refl _) fun _ => rfl⟩
  inj := h.inj
  fz := h.fz
  fzo := h.fzo

theorem WC.drawn {id : Nat} {Q : Post} (hm : P.follows .mixedOrders = true) (h : WD P B K r n ops an 0 fr H fun fr' H' => Q .nor fr' H') : WC P B K r n (.region id ops true) fr H Q := by
  intro M ρ w a hk h1 h2 h3 h4
  refine wpIn_region_any hm (h ops.size M ρ { w with drawn := w.drawn + 1 } a (Array.replicate ops.size false) hk ⟨h1.drawn, ⟨fr, h2, fun t => .inl rfl⟩, Array.size_replicate, fun j hj => ?_, fun j o hj hl => ?_, fun j o hj hl => ?_, h3, h4⟩ ?_ _ ?_)
  · exfalso; revert hj; simp only [Array.getD_eq_getD_getElem?, Array.getElem?_replicate]; split <;> simp
  · exfalso; revert hl; simp only [Array.getD_eq_getD_getElem?, Array.getElem?_replicate]; split <;> simp
  · simp at hl
  · refine Nat.le_trans List.countP_le_length (by simp)
  · rintro e a' w' ⟨x, fr', H', ρ', rfl, ⟨rfl, g2⟩, g3, g4⟩
    exact ⟨.nor, fr', H', ρ', rfl, g2, ⟨g3.pre, g3.kle, g3.fz, g3.os, g3.tape, g3.output, g3.size, g3.below, g3.other, g3.new, g3.fzn⟩, g4⟩

end
end Go.AM
