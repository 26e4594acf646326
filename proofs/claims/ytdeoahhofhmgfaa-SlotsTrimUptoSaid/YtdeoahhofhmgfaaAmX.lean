/- THE ABSTRACT MACHINE, 13c: one operation, with terms or without, is sound. -/
import Derived.Test.YtdeoahhofhmgfaaAmX9
set_option linter.unusedSimpArgs false
set_option linter.unusedVariables false
namespace Go.AM
open Go.RowKit
section
variable {B : Nat} {ρ : Env} {H : Heap} {w : World} {P : Program}

theorem aop_of {fr : Fr} {o : Oper} {p : Option Prop} {r : Res} (h : aopC P fr H o = some (p, r)) (hp : obOk p) : aop P fr H o = some r := by
  unfold aop; rw [h]; simp only [hp, if_true]

theorem aop_inv {fr : Fr} {o : Oper} {r : Res} (h : aop P fr H o = some r) : ∃ p, aopC P fr H o = some (p, r) ∧ obOk p := by
  unfold aop at h
  split at h
  · rename_i p q hq
    split at h
    · rename_i hp; cases h; exact ⟨p, hq, hp⟩
    · cases h
  · cases h

theorem optX_sound {fr : Fr} {a : Act} (hf : FRel ρ fr a.tmps) {o : Option Operand} {u : Option AV} (h : optX fr o = some u) : RelO ρ u (o.map a.eval) := by
  unfold optX at h
  split at h
  · cases h; simp [RelO]
  · simp only [Option.map_eq_some_iff] at h
    obtain ⟨v, hv, rfl⟩ := h
    simp only [RelO, Option.map_some]
    exact ⟨_, rfl, aeval_sound hf hv⟩

theorem xBuiltin_sound (h : HR B ρ H w) {b : Builtin} {ts : List TypeId} {ty : TypeId} {cs : Array Bool} {args : List AV} {xs : List Value} {p : Option Prop} {r : AV × Heap} (ha : RelL ρ args xs)
    (hc : xBuiltin P H b ts args = some (p, r)) (hp : obOk p) : ∃ x w' ρ', (builtin b ts.toArray ty cs xs.toArray).run P w = .ok (.value x) w' ∧ Ext B ρ w ρ' w' ∧ HR B ρ' r.2 w' ∧ Rel ρ' r.1 x := by
  unfold xBuiltin at hc
  split at hc
  · obtain ⟨y, rfl, hy⟩ := ha.one
    cases ts with
    | nil => simp at hc
    | cons t rest =>
      simp only [List.getElem?_cons_zero, Option.bind_some, Option.map_eq_some_iff] at hc
      obtain ⟨q, hq, hc⟩ := hc
      cases hc
      obtain ⟨z, hz, hr⟩ := xLen_sound (ty := ty) (rest := rest) h hy hq hp
      exact ⟨z, w, ρ, by simp only [builtin, Sem.run_bind, hz, Result.andThen_ok, Sem.run_pure], Ext.refl _ _ _, h, hr⟩
  · obtain ⟨y, z, rfl, hy, hz⟩ := ha.two
    obtain ⟨x, w', ρ', g1, g2, g3, g4⟩ := xAppend_sound (ty := ty) h hy hz hc hp
    exact ⟨x, w', ρ', by simp only [builtin, Sem.run_bind, g1, Result.andThen_ok, Sem.run_pure], g2, g3, g4⟩
  · obtain ⟨y, z, rfl, hy, hz⟩ := ha.two
    cases ts with
    | nil => simp at hc
    | cons t rest =>
      simp only [List.getElem?_cons_zero, Option.bind_some, Option.map_eq_some_iff] at hc
      obtain ⟨H', hH', hc⟩ := hc
      cases hc
      obtain ⟨w', g1, g2, g3⟩ := xDelete_sound (ts := ty) (rest := rest) h hy hz hH'
      exact ⟨.tuple #[], w', ρ, by simp only [builtin, Sem.run_bind, g1, Result.andThen_ok, Sem.run_pure], g3, g2, by simp [Rel, RelL]⟩
  · simp only [Option.map_eq_some_iff] at hc
    obtain ⟨v, hv, hc⟩ := hc
    cases hc
    obtain ⟨z, hz, hr⟩ := xMinMax_sound (w := w) (P := P) ha hv ts.toArray ty
    simp only [cond_false] at hz
    exact ⟨z, w, ρ, by simp only [builtin, Sem.run_bind, hz, Result.andThen_ok, Sem.run_pure], Ext.refl _ _ _, h, hr⟩
  · simp only [Option.map_eq_some_iff] at hc
    obtain ⟨v, hv, hc⟩ := hc
    cases hc
    obtain ⟨z, hz, hr⟩ := xMinMax_sound (w := w) (P := P) ha hv ts.toArray ty
    simp only [cond_true] at hz
    exact ⟨z, w, ρ, by simp only [builtin, Sem.run_bind, hz, Result.andThen_ok, Sem.run_pure], Ext.refl _ _ _, h, hr⟩
  · cases hc

theorem aopX_sound (h : HR B ρ H w) {fr : Fr} {a : Act} (hf : FRel ρ fr a.tmps) {o : Oper} {p : Option Prop} {r : Res} (hr : aopX P fr H o = some (p, r)) (hp : obOk p) : OpOk B P ρ w (execOp a.eval o) r := by
  obtain ⟨dst, op, type, pos, after, guard⟩ := o
  simp only [aopX] at hr
  split at hr
  · simp only [Option.bind_eq_some_iff, Option.map_eq_some_iff] at hr
    obtain ⟨u, hu, v, hv, hr⟩ := hr
    cases hr
    exact okSame h (xLoad_sound h (aeval_sound hf hu) hv)
  · simp only [Option.bind_eq_some_iff, Option.map_eq_some_iff] at hr
    obtain ⟨u, hu, v, hv, H', hH, hr⟩ := hr
    cases hr
    exact okUnit (xStore_sound h (aeval_sound hf hu) (aeval_sound hf hv) hH)
  · rename_i x
    simp only [Option.bind_eq_some_iff] at hr
    obtain ⟨v, hv, hr⟩ := hr
    have hx := aeval_sound hf hv
    split at hr
    · cases hr
      have hx' := hx
      simp only [Rel] at hx
      obtain ⟨e, he, hn, _, hxe⟩ := hx
      exact ⟨_, w, ρ, .inl (by simp only [execOp, hxe]; rfl), Ext.refl _ _ _, h, by rw [hxe] at hx'; exact hx'⟩
    · cases hr
      have hx' := hx
      simp only [Rel] at hx
      obtain ⟨b, off, arr, ys, hxe, h2⟩ := hx
      exact ⟨_, w, ρ, .inl (by simp only [execOp, hxe]; rfl), Ext.refl _ _ _, h, by rw [hxe] at hx'; exact hx'⟩
    · cases hr
  · simp only [Option.bind_eq_some_iff, Option.map_eq_some_iff] at hr
    obtain ⟨u, hu, v, hv, ⟨q, z⟩, hq, hr⟩ := hr
    cases hr
    exact okSame h (xBin_sound (aeval_sound hf hu) (aeval_sound hf hv) hq hp)
  · simp only [Option.bind_eq_some_iff, Option.map_eq_some_iff] at hr
    obtain ⟨u, hu, v, hv, hr⟩ := hr
    cases hr
    exact okSame h (xUn_sound (aeval_sound hf hu) hv)
  · simp only [Option.bind_eq_some_iff, Option.map_eq_some_iff] at hr
    obtain ⟨u, hu, ⟨q, z⟩, hq, hr⟩ := hr
    cases hr
    exact okVal (xConv_sound h (aeval_sound hf hu) hq hp)
  · simp only [Option.bind_eq_some_iff, Option.map_eq_some_iff] at hr
    obtain ⟨u, hu, v, hv, ⟨q, z⟩, hq, hr⟩ := hr
    cases hr
    exact okVal (xMakeSlice_sound h (aeval_sound hf hu) (aeval_sound hf hv) hq hp)
  · simp only [Option.bind_eq_some_iff, Option.map_eq_some_iff] at hr
    obtain ⟨u, hu, l, hl, hh, hhh, m, hm, ⟨q, z⟩, hq, hr⟩ := hr
    cases hr
    exact okSame h (xSlice_sound h (aeval_sound hf hu) (optX_sound hf hl) (optX_sound hf hhh) (optX_sound hf hm) hq hp)
  · simp only [Option.bind_eq_some_iff, Option.map_eq_some_iff] at hr
    obtain ⟨u, hu, v, hv, hr⟩ := hr
    cases hr
    exact okSame h (xFieldAddr_sound (aeval_sound hf hu) hv)
  · simp only [Option.bind_eq_some_iff, Option.map_eq_some_iff] at hr
    obtain ⟨u, hu, v, hv, ⟨q, z⟩, hq, hr⟩ := hr
    cases hr
    exact okSame h (xIndexAddr_sound h (aeval_sound hf hu) (aeval_sound hf hv) hq hp)
  · simp only [Option.bind_eq_some_iff, Option.map_eq_some_iff] at hr
    obtain ⟨u, hu, v, hv, ⟨q, z⟩, hq, hr⟩ := hr
    cases hr
    exact okSame h (xIndex_sound (aeval_sound hf hu) (aeval_sound hf hv) hq hp)
  · simp only [Option.bind_eq_some_iff, Option.map_eq_some_iff] at hr
    obtain ⟨u, hu, v, hv, z, hz, hr⟩ := hr
    cases hr
    exact okSame h (xLookup_sound h (aeval_sound hf hu) (aeval_sound hf hv) hz)
  · simp only [Option.bind_eq_some_iff, Option.map_eq_some_iff] at hr
    obtain ⟨u, hu, v, hv, x, hx, H', hH, hr⟩ := hr
    cases hr
    exact okUnit (xMapUpdate_sound h (aeval_sound hf hu) (aeval_sound hf hv) (aeval_sound hf hx) hH)
  · simp only [Option.bind_eq_some_iff, Option.map_eq_some_iff] at hr
    obtain ⟨u, hu, v, hv, x, hx, H', hH, hr⟩ := hr
    cases hr
    exact okUnit (xMapUpdate_sound h (aeval_sound hf hu) (aeval_sound hf hv) (aeval_sound hf hx) hH)
  · simp only [Option.bind_eq_some_iff, Option.map_eq_some_iff] at hr
    obtain ⟨u, hu, q, hq, hr⟩ := hr
    cases hr
    exact okVal (xRange_sound h (aeval_sound hf hu) hq)
  · simp only [Option.bind_eq_some_iff, Option.map_eq_some_iff] at hr
    obtain ⟨u, hu, ⟨q, l⟩, hq, hr⟩ := hr
    cases hr
    obtain ⟨f, hfm, j, hj, x, w', ρ', g1, g2, g3, g4⟩ := xNext_sound (P := P) (ty := type) h (aeval_sound hf hu) hq hp
    exact ⟨f, hfm, j, hj, x, w', ρ', by simp only [execOp, Sem.run_bind, g1, Result.andThen_ok, Sem.run_pure], g2, g3, g4⟩
  · simp only [Option.bind_eq_some_iff, Option.map_eq_some_iff] at hr
    obtain ⟨u, hu, ⟨q, z⟩, hq, hr⟩ := hr
    cases hr
    exact okSame h (xEntry_sound h (aeval_sound hf hu) hq hp)
  · rename_i c
    split at hr
    · rename_i b hb
      simp only [Option.bind_eq_some_iff, Option.map_eq_some_iff] at hr
      obtain ⟨args, hargs, ⟨q, z⟩, hq, hr⟩ := hr
      cases hr
      have ha := evalL_arr hf hargs
      obtain ⟨x, w', ρ', g1, g2, g3, g4⟩ := xBuiltin_sound (ty := type) (cs := c.args.map fun | .const _ => true | _ => false) h ha hq hp
      refine ⟨x, w', ρ', .inl ?_, g2, g3, g4⟩
      simp only [execOp, resolve, hb, Sem.run_bind, Sem.run_pure, Result.andThen_ok, invoke]
      rw [Array.toArray_toList, Array.toArray_toList] at g1
      exact g1
    · cases hr
  · cases hr

theorem aop_sound (h : HR B ρ H w) {fr : Fr} {a : Act} (hf : FRel ρ fr a.tmps) {o : Oper} {r : Res} (hr : aop P fr H o = some r) : OpOk B P ρ w (execOp a.eval o) r := by
  obtain ⟨p, hc, hp⟩ := aop_inv hr
  unfold aopC at hc
  split at hc
  · rename_i q hq; cases hc; exact aop0_sound h hf hq
  · exact aopX_sound h hf hc hp

theorem aopX_not_defer {fr : Fr} {o : Oper} {q : XRes} (h : aopX P fr H o = some q) : ∀ c, o.op ≠ .defer c := by
  intro c hc
  obtain ⟨dst, op, type, pos, after, guard⟩ := o
  simp only at hc
  subst hc
  simp [aopX] at h
end
end Go.AM
