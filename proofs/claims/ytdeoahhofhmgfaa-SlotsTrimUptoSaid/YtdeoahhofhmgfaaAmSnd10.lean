/- THE ABSTRACT MACHINE, 13: what one operation does is sound. -/
import Derived.Test.YtdeoahhofhmgfaaAmSnd9
set_option linter.unusedSimpArgs false
set_option linter.unusedVariables false
namespace Go.AM
open Go.RowKit
section
variable {B : Nat} {ρ : Env} {H : Heap} {w : World} {P : Program}

/-- What a step of the machine says of the model's operation. -/
def OpOk (B : Nat) (P : Program) (ρ : Env) (w : World) (s : Sem Next) : Res → Prop
  | .val v H' => ∃ x w' ρ', (s.run P w = .ok (.value x) w' ∨ s.run P w = .ok .skip w' ∧ x = undef) ∧ Ext B ρ w ρ' w' ∧ HR B ρ' H' w' ∧ Rel ρ' v x
  | .call f args => ∃ xs : Array Value, s.run P w = .ok (.enter f xs) w ∧ RelL ρ args xs.toList
  | .yield l args => ∃ (xs : Array Value) (e : At), ρ.ats[l]? = some e ∧ s.run P w = (Instr.yield e.b xs).run P w ∧ RelL ρ args xs.toList
  | .opts l => ∃ r ∈ l, ∃ x w' ρ', s.run P w = .ok (.value x) w' ∧ Ext B ρ w ρ' w' ∧ HR B ρ' r.2 w' ∧ Rel ρ' r.1 x
  | .fams l => ∃ r ∈ l, ∃ i, r.1 i ∧ ∃ x w' ρ', s.run P w = .ok (.value x) w' ∧ Ext B ρ w ρ' w' ∧ HR B ρ' (r.2 i).2 w' ∧ Rel ρ' (r.2 i).1 x

theorem okVal {s : Sem Value} {v : AV} {H' : Heap} (h : SV B P ρ w s v H') : OpOk B P ρ w (do pure (.value (← s))) (.val v H') := by
  obtain ⟨x, w', ρ', h1, h2, h3, h4⟩ := h
  exact ⟨x, w', ρ', .inl (by simp only [Sem.run_bind, h1, Result.andThen_ok, Sem.run_pure]), h2, h3, h4⟩

theorem okSame (h : HR B ρ H w) {s : Sem Value} {v : AV} (hh : ∃ x, s.run P w = .ok x w ∧ Rel ρ v x) : OpOk B P ρ w (do pure (.value (← s))) (.val v H) := okVal (SV.same h hh)

theorem okUnit {s : Sem Unit} {H' : Heap} (h : ∃ w', s.run P w = .ok () w' ∧ HR B ρ H' w' ∧ Ext B ρ w ρ w') : OpOk B P ρ w (do s; pure .skip) (.val (.tup []) H') := by
  obtain ⟨w', h1, h2, h3⟩ := h
  exact ⟨undef, w', ρ, .inr ⟨by simp only [Sem.run_bind, h1, Result.andThen_ok, Sem.run_pure], rfl⟩, h3, h2, by simp [Rel, RelL, undef]⟩

theorem callFunc_run {f : FuncId} (hf : isFunc P f = true) (xs : Array Value) : (callFunc f xs).run P w = .ok (.enter f xs) w := by
  unfold isFunc at hf
  cases hp : P.funcs[f]? with
  | none => simp [hp] at hf
  | some fn =>
    simp only [hp, Bool.and_eq_true, Bool.not_eq_true'] at hf
    have h1 : (fn.name == "runtime.NumGoroutine") = false := hf.1
    have h2 : fn.body.isNone = false := by cases hb : fn.body <;> simp_all
    simp only [callFunc, Sem.run_bind, run_program, Result.andThen_ok, hp, h1, Bool.false_eq_true, if_false, h2, Sem.run_pure]

theorem aCallV_sound {fv : AV} {args : List AV} {x : Value} {xs : Array Value} {r : Res} (hf : Rel ρ fv x) (ha : RelL ρ args xs.toList) (hc : aCallV P fv args = some r) :
    OpOk B P ρ w (do let d ← Deferred.ofValue x xs; invoke d.target d.args) r := by
  unfold aCallV at hc
  split at hc
  · rename_i k first captured
    cases hk : isFunc P k with
    | false => simp [hk] at hc
    | true =>
      simp [hk] at hc
      subst hc
      simp only [Rel] at hf
      obtain ⟨fs, cs, rfl, h1, h2⟩ := hf
      refine ⟨fs ++ xs ++ cs, by simp only [Deferred.ofValue, Sem.run_bind, Sem.run_pure, Result.andThen_ok, invoke, callFunc_run hk], ?_⟩
      simp only [Array.toList_append]
      rw [List.append_assoc]
      exact h1.append (ha.append h2)
  · rename_i l
    cases hc
    simp only [Rel] at hf
    obtain ⟨e, he, rfl⟩ := hf
    refine ⟨xs, e, he, ?_, ha⟩
    simp only [Deferred.ofValue, Sem.run_bind, Sem.run_pure, Result.andThen_ok, invoke, Array.empty_append]
  · cases hc

theorem aMethod_sound (h : HR B ρ H w) {t : TypeId} {v : AV} {name : String} {args : List AV} {x : Value} {xs : Array Value} {r : Res} (hv : Rel ρ v x) (ha : RelL ρ args xs.toList)
    (hc : aMethod P H t v name args = some r) : OpOk B P ρ w (invoke (.fn (.method name) #[]) (#[.iface t x] ++ xs)) r := by
  unfold aMethod at hc
  cases hi : P.info? t with
  | none => simp [hi] at hc
  | some inf =>
    cases hm : inf.methods.find? (·.name == name) with
    | none => simp [hi, hm] at hc
    | some m =>
      simp only [hi, hm, Option.bind_some] at hc
      cases hp : m.path.isEmpty with
      | false => simp [hp] at hc
      | true =>
        simp only [hp, Bool.not_true, cond_false] at hc
        cases hfp : m.func with
        | none => simp [hfp] at hc
        | some fp =>
          obtain ⟨f, pr⟩ := fp
          cases hu : P.underlying t with
          | none => simp [hfp, hu] at hc
          | some u =>
            simp only [hfp, hu, Option.bind_some] at hc
            have hpath : m.path.toList = [] := by
              have : m.path = #[] := Array.isEmpty_iff.1 hp
              simp [this]
            have hstart : ∀ rv : Value, (receiverAt t (.val x) pr (some ((name.splitOn ".").getLastD name))).run P w = .ok rv w → isFunc P f = true →
                (invoke (.fn (.method name) #[]) (#[.iface t x] ++ xs)).run P w = .ok (.enter f (#[rv] ++ xs)) w := by
              intro rv hrv hisf
              have e1 : (#[Value.iface t x] ++ xs)[0]? = some (.iface t x) := by rw [Array.getElem?_append_left (by simp)]; rfl
              have e2 : (#[Value.iface t x] ++ xs).extract 1 (#[Value.iface t x] ++ xs).size = xs := by
                apply Array.ext'
                simp
              have hmeth : (method (P.types.size + Made.depth) t x name).run P w = .ok (f, rv) w := by
                have : ∃ k, P.types.size + Made.depth = k + 1 := ⟨P.types.size + 99, rfl⟩
                obtain ⟨k, hk⟩ := this
                rw [hk]
                simp only [method, Sem.run_bind, typeInfo_run hi, Result.andThen_ok, hm, hpath, follow, Sem.run_pure, hfp]
                have hpe : m.path.isEmpty = true := hp
                simp only [hpe, if_true, Sem.run_bind, hrv, Result.andThen_ok, Sem.run_pure]
              simp only [invoke, e1, e2, callMethod, Sem.run_bind, run_program, Result.andThen_ok, hmeth, callFunc_run hisf]
            split at hc
            · -- a pointer's own method
              simp only [Option.bind_some] at hc
              cases hk : isFunc P f with
              | false => simp [hk] at hc
              | true =>
                simp [hk] at hc
                subst hc
                refine ⟨#[x] ++ xs, hstart x (by simp [receiverAt, run_underlying hu, Place.get]) hk, ?_⟩
                simp only [Array.toList_append]
                exact ⟨x, xs.toList, rfl, hv, ha⟩
            · rename_i e
              cases hl : aload P H e v with
              | none => simp [hl] at hc
              | some rv =>
                simp only [hl, Option.bind_some] at hc
                cases hk : isFunc P f with
                | false => simp [hk] at hc
                | true =>
                  simp [hk] at hc
                  subst hc
                  obtain ⟨y, _, hy2, ad, rfl, hy3⟩ := aload_sound h hv hl
                  refine ⟨#[y] ++ xs, hstart y ?_ hk, ?_⟩
                  · have hchk : ∀ nm : String, (Builtin.ssaWrapNilChk_ #[t] t #[.pointer (some ad), strVal "", strVal nm]).run P w = .ok (.pointer (some ad)) w := fun _ => rfl
                    simp only [receiverAt, Sem.run_bind, run_underlying hu, Result.andThen_ok, Place.get, Sem.run_pure, hchk, asAddr, hy3]
                  · simp only [Array.toList_append]
                    exact ⟨y, xs.toList, rfl, hy2, ha⟩
            · simp at hc
            · rename_i hnp
              simp only [Option.bind_some] at hc
              cases hk : isFunc P f with
              | false => simp [hk] at hc
              | true =>
                simp [hk] at hc
                subst hc
                refine ⟨#[x] ++ xs, hstart x ?_ hk, ?_⟩
                · simp only [receiverAt, Sem.run_bind, run_underlying hu, Result.andThen_ok]
                  cases u <;> first
                    | rfl
                    | exact (hnp _ rfl rfl).elim
                    | (simp [Place.get]; done)
                · simp only [Array.toList_append]
                  exact ⟨x, xs.toList, rfl, hv, ha⟩


theorem evalO_sound {fr : Fr} {a : Act} (hf : FRel ρ fr a.tmps) {x : Option Operand} {v : Option AV} (h : (match x with | none => some none | some y => (aeval fr y).map some) = some v) : RelO ρ v (x.map a.eval) := by
  cases x with
  | none => simp at h; subst h; rfl
  | some y =>
    simp only [Option.map_eq_some_iff] at h
    obtain ⟨u, hu, rfl⟩ := h
    exact ⟨_, rfl, aeval_sound hf hu⟩

theorem evalL_arr {fr : Fr} {a : Act} (hf : FRel ρ fr a.tmps) {xs : Array Operand} {vs : List AV} (h : evalL fr xs.toList = some vs) : RelL ρ vs (xs.map a.eval).toList := by
  rw [Array.toList_map]; exact evalL_sound hf h

set_option maxHeartbeats 4000000 in
theorem aop0_sound (h : HR B ρ H w) {fr : Fr} {a : Act} (hf : FRel ρ fr a.tmps) {o : Oper} {r : Res} (hr : aop0 P fr H o = some r) : OpOk B P ρ w (execOp a.eval o) r := by
  obtain ⟨dst, op, type, pos, after, guard⟩ := o
  unfold aop0 at hr
  simp only at hr
  split at hr
  · -- move
    rw [Option.map_eq_some_iff] at hr
    obtain ⟨v, hv, rfl⟩ := hr
    exact ⟨_, w, ρ, .inl rfl, Ext.refl _ _ _, h, aeval_sound hf hv⟩
  · rw [Option.map_eq_some_iff] at hr
    obtain ⟨v, hv, rfl⟩ := hr
    exact ⟨_, w, ρ, .inl rfl, Ext.refl _ _ _, h, aeval_sound hf hv⟩
  · -- pick
    rename_i c x y
    rw [Option.bind_eq_some_iff] at hr
    obtain ⟨v, hv, hr⟩ := hr
    have hc := aeval_sound hf hv
    split at hr
    · rw [Option.map_eq_some_iff] at hr
      obtain ⟨u, hu, rfl⟩ := hr
      simp only [Rel] at hc
      exact ⟨_, w, ρ, .inl (by simp only [execOp, hc, asBool, Sem.run_bind, Sem.run_pure, Result.andThen_ok]; rfl), Ext.refl _ _ _, h, aeval_sound hf hu⟩
    · rw [Option.map_eq_some_iff] at hr
      obtain ⟨u, hu, rfl⟩ := hr
      simp only [Rel] at hc
      exact ⟨_, w, ρ, .inl (by simp only [execOp, hc, asBool, Sem.run_bind, Sem.run_pure, Result.andThen_ok]; rfl), Ext.refl _ _ _, h, aeval_sound hf hu⟩
    · cases hr
  · -- alloc
    rename_i e
    simp only [Option.bind_eq_some_iff, Option.map_eq_some_iff] at hr
    obtain ⟨ie, hi, zv, ⟨z, hz, hzv⟩, cs, hcs, q, hn, rfl⟩ := hr
    exact okVal (alloc_sound h hi hz hzv hcs hn)
  · -- box
    rename_i e x
    simp only [Option.bind_eq_some_iff, Option.map_eq_some_iff] at hr
    obtain ⟨v, hv, cs, hcs, ie, hi, q, hn, rfl⟩ := hr
    exact okVal (box_sound h (aeval_sound hf hv) hcs hn)
  · -- build
    rename_i t parts
    simp only [Option.bind_eq_some_iff, Option.map_eq_some_iff] at hr
    obtain ⟨ps, hps, v, hv, rfl⟩ := hr
    have hp := evalParts_sound hf hps
    exact okSame h (aBuild_sound (ps' := parts.map fun (i, x) => (i, a.eval x)) (by rw [Array.toList_map]; exact hp) hv)
  · rename_i t len parts
    simp only [Option.bind_eq_some_iff, Option.map_eq_some_iff] at hr
    obtain ⟨ps, hps, v, hv, rfl⟩ := hr
    have hp := evalParts_sound hf hps
    exact okVal (aBuildSlice_sound h (ps' := parts.map fun (i, x) => (i, a.eval x)) (by rw [Array.toList_map]; exact hp) hv)
  · -- load
    simp only [Option.bind_eq_some_iff, Option.map_eq_some_iff] at hr
    obtain ⟨p, hp, v, hv, rfl⟩ := hr
    obtain ⟨y, hy1, hy2, _⟩ := aload_sound h (aeval_sound hf hp) hv
    exact okSame h ⟨y, hy1, hy2⟩
  · -- store
    simp only [Option.bind_eq_some_iff, Option.map_eq_some_iff] at hr
    obtain ⟨p, hp, v, hv, H', hH, rfl⟩ := hr
    exact okUnit (astore_sound h (aeval_sound hf hp) (aeval_sound hf hv) hH)
  · -- nilCheck
    rename_i x
    simp only [Option.bind_eq_some_iff] at hr
    obtain ⟨v, hv, hr⟩ := hr
    have hx := aeval_sound hf hv
    split at hr
    · cases hr
      have hx' := hx
      simp only [Rel] at hx
      obtain ⟨e, he, hxe⟩ := hx
      exact ⟨_, w, ρ, .inl (by simp only [execOp, hxe]; rfl), Ext.refl _ _ _, h, ⟨e, he, rfl⟩⟩
    · cases hr
      simp only [Rel] at hx
      obtain ⟨fs, cs, hxe, h1, h2⟩ := hx
      exact ⟨_, w, ρ, .inl (by simp only [execOp, hxe]; rfl), Ext.refl _ _ _, h, ⟨fs, cs, rfl, h1, h2⟩⟩
    · cases hr
      simp only [Rel] at hx
      obtain ⟨e, he, hxe⟩ := hx
      exact ⟨_, w, ρ, .inl (by simp only [execOp, hxe]; rfl), Ext.refl _ _ _, h, ⟨e, he, rfl⟩⟩
    · cases hr
      simp only [Rel] at hx
      obtain ⟨y, hxe, h1⟩ := hx
      exact ⟨_, w, ρ, .inl (by simp only [execOp, hxe]; rfl), Ext.refl _ _ _, h, ⟨y, rfl, h1⟩⟩
    · cases hr
  · -- binOp
    simp only [Option.bind_eq_some_iff, Option.map_eq_some_iff] at hr
    obtain ⟨u, hu, v, hv, r, hr, rfl⟩ := hr
    exact okSame h (aBin_sound (aeval_sound hf hu) (aeval_sound hf hv) hr)
  · -- unOp
    simp only [Option.bind_eq_some_iff, Option.map_eq_some_iff] at hr
    obtain ⟨u, hu, r, hr, rfl⟩ := hr
    exact okSame h (aUn_sound (aeval_sound hf hu) hr)
  · -- convert
    simp only [Option.bind_eq_some_iff, Option.map_eq_some_iff] at hr
    obtain ⟨u, hu, r, hr, rfl⟩ := hr
    exact okVal (aConv_sound h (aeval_sound hf hu) hr)
  · -- makeInterface
    rename_i t x
    simp only [Option.bind_eq_some_iff] at hr
    obtain ⟨v, hv, d, hd, hr⟩ := hr
    split at hr
    · cases hr
    · rename_i hni
      cases hr
      refine okSame h ⟨.iface t (a.eval x), ?_, ⟨_, rfl, aeval_sound hf hv⟩⟩
      simp only [Instr.makeInterface, Sem.run_bind, run_underlying hd, Result.andThen_ok]
      cases d <;> first
        | rfl
        | exact (hni _ rfl).elim
  · -- makeFunc
    rename_i f first captured
    split at hr
    · cases hr
    · simp only [Option.bind_eq_some_iff, Option.map_eq_some_iff] at hr
      obtain ⟨fs, hfs, cs, hcs, rfl⟩ := hr
      exact okSame h ⟨_, rfl, ⟨_, _, rfl, evalL_arr hf hfs, evalL_arr hf hcs⟩⟩
  · -- makeMap
    rename_i t rs
    have key : HR B (ρ.add ⟨w.heap.size, 0, 0, 0, 0, false⟩) (H.alloc (.map [] 0)) (w.alloc (.map #[] 0)) := h.alloc _ _ ⟨w.heap.size, 0, 0, 0, 0, false⟩ rfl ⟨rfl, h.base, #[], heap_alloc_new _ _, rfl⟩
    have key2 : Rel (ρ.add ⟨w.heap.size, 0, 0, 0, 0, false⟩) (.map H.next) (.map (some w.heap.size)) := ⟨⟨w.heap.size, 0, 0, 0, 0, false⟩, by rw [h.next]; simp, rfl⟩
    split at hr
    · cases hr
      exact okVal ⟨.map (some w.heap.size), _, _, by simp [Instr.makeMap], Ext.alloc _ _ h.base rfl, key, key2⟩
    · rename_i x
      simp only [Option.bind_eq_some_iff] at hr
      obtain ⟨v, hv, hr⟩ := hr
      have hx := aeval_sound hf hv
      split at hr
      · simp only [Option.bind_eq_some_iff] at hr
        obtain ⟨d, hd, hr⟩ := hr
        split at hr
        · cases hr
          simp only [Rel] at hx
          exact okVal ⟨.map (some w.heap.size), _, _, by simp [Instr.makeMap, hx, run_underlying hd, asInt, asIntOf], Ext.alloc _ _ h.base rfl, key, key2⟩
        · cases hr
      · cases hr
  · -- makeSlice
    simp only [Option.bind_eq_some_iff, Option.map_eq_some_iff] at hr
    obtain ⟨l, hl, c, hc, r, hr, rfl⟩ := hr
    exact okVal (aMakeSlice_sound h (aeval_sound hf hl) (aeval_sound hf hc) hr)
  · -- slice
    simp only [Option.bind_eq_some_iff, Option.map_eq_some_iff] at hr
    obtain ⟨v, hv, l, hl, hh, hhh, m, hm, r, hr, rfl⟩ := hr
    exact okSame h (aSlice_sound h (aeval_sound hf hv) (evalO_sound hf hl) (evalO_sound hf hhh) (evalO_sound hf hm) hr)
  · simp only [Option.bind_eq_some_iff, Option.map_eq_some_iff] at hr
    obtain ⟨u, hu, r, hr, rfl⟩ := hr
    exact okSame h (aFieldAddr_sound (aeval_sound hf hu) hr)
  · simp only [Option.bind_eq_some_iff, Option.map_eq_some_iff] at hr
    obtain ⟨u, hu, r, hr, rfl⟩ := hr
    exact okSame h (aField_sound (aeval_sound hf hu) hr)
  · simp only [Option.bind_eq_some_iff, Option.map_eq_some_iff] at hr
    obtain ⟨u, hu, v, hv, r, hr, rfl⟩ := hr
    exact okSame h (aIndexAddr_sound (aeval_sound hf hu) (aeval_sound hf hv) hr)
  · simp only [Option.bind_eq_some_iff, Option.map_eq_some_iff] at hr
    obtain ⟨u, hu, v, hv, r, hr, rfl⟩ := hr
    exact okSame h (aIndex_sound (aeval_sound hf hu) (aeval_sound hf hv) hr)
  · -- lookup
    simp only [Option.bind_eq_some_iff, Option.map_eq_some_iff] at hr
    obtain ⟨u, hu, v, hv, r, hr, rfl⟩ := hr
    exact okSame h (aLookup_sound h (aeval_sound hf hu) (aeval_sound hf hv) hr)
  · simp only [Option.bind_eq_some_iff, Option.map_eq_some_iff] at hr
    obtain ⟨u, hu, v, hv, x, hx, r, hr, rfl⟩ := hr
    exact okUnit (aMapUpdate_sound h (aeval_sound hf hu) (aeval_sound hf hv) (aeval_sound hf hx) hr)
  · simp only [Option.bind_eq_some_iff, Option.map_eq_some_iff] at hr
    obtain ⟨u, hu, v, hv, x, hx, r, hr, rfl⟩ := hr
    exact okUnit (aMapUpdate_sound h (aeval_sound hf hu) (aeval_sound hf hv) (aeval_sound hf hx) hr)
  · simp only [Option.bind_eq_some_iff, Option.map_eq_some_iff] at hr
    obtain ⟨u, hu, v, hv, r, hr, rfl⟩ := hr
    exact okVal (aMapEntry_sound h (aeval_sound hf hu) (aeval_sound hf hv) hr)
  · simp only [Option.bind_eq_some_iff, Option.map_eq_some_iff] at hr
    obtain ⟨u, hu, v, hv, x, hx, r, hr, rfl⟩ := hr
    exact okUnit (aEntryStore_sound h (aeval_sound hf hu) (aeval_sound hf hv) (aeval_sound hf hx) hr)
  · simp only [Option.bind_eq_some_iff, Option.map_eq_some_iff] at hr
    obtain ⟨u, hu, r, hr, rfl⟩ := hr
    exact okVal (aRange_sound h (aeval_sound hf hu) hr)
  · -- entry
    simp only [Option.bind_eq_some_iff, Option.map_eq_some_iff] at hr
    obtain ⟨u, hu, r, hr, rfl⟩ := hr
    exact okSame h (aEntry_sound h (aeval_sound hf hu) hr)
  · -- next
    simp only [Option.bind_eq_some_iff] at hr
    obtain ⟨u, hu, l, hl, hr⟩ := hr
    obtain ⟨q, hq, x, w', ρ', g1, g2, g3, g4⟩ := aNext_sound (P := P) (ty := type) h (aeval_sound hf hu) hl
    split at hr
    · cases hr
      have : q = _ := List.mem_singleton.1 hq
      subst this
      exact okVal ⟨x, w', ρ', g1, g2, g3, g4⟩
    · cases hr
      exact ⟨q, hq, x, w', ρ', by simp only [execOp, Sem.run_bind, g1, Result.andThen_ok, Sem.run_pure], g2, g3, g4⟩
  · simp only [Option.bind_eq_some_iff, Option.map_eq_some_iff] at hr
    obtain ⟨u, hu, r, hr, rfl⟩ := hr
    exact okSame h (aTypeAssert_sound (aeval_sound hf hu) hr)
  · -- extract
    simp only [Option.bind_eq_some_iff] at hr
    obtain ⟨u, hu, hr⟩ := hr
    have hx := aeval_sound hf hu
    split at hr
    · rw [Option.map_eq_some_iff] at hr
      obtain ⟨v, hv, rfl⟩ := hr
      simp only [Rel] at hx
      obtain ⟨ys, hy, hrl⟩ := hx
      obtain ⟨x, hx1, hx2⟩ := hrl.get hv
      exact okSame h ⟨x, by simp only [Instr.extract, hy]; rw [← Array.getElem?_toList, hx1]; rfl, hx2⟩
    · cases hr
  · -- call
    rename_i c
    simp only [Option.bind_eq_some_iff] at hr
    obtain ⟨args, hargs, hr⟩ := hr
    have ha := evalL_arr hf hargs
    split at hr
    · rename_i b hb
      rw [Option.map_eq_some_iff] at hr
      obtain ⟨r, hr, rfl⟩ := hr
      obtain ⟨x, w', ρ', g1, g2, g3, g4⟩ := aBuiltin_sound (ty := type) (cs := c.args.map fun | .const _ => true | _ => false) h ha hr
      refine ⟨x, w', ρ', .inl ?_, g2, g3, g4⟩
      simp only [execOp, resolve, hb, Sem.run_bind, Sem.run_pure, Result.andThen_ok, invoke]
      rw [Array.toArray_toList, Array.toArray_toList] at g1
      exact g1
    · rename_i f hb
      simp only [Option.bind_eq_some_iff] at hr
      obtain ⟨fv, hfv, hr⟩ := hr
      have := aCallV_sound (B := B) (P := P) (w := w) (aeval_sound hf hfv) ha hr
      simpa only [execOp, resolve, hb] using this
    · rename_i recv name hb
      simp only [Option.bind_eq_some_iff] at hr
      obtain ⟨rv, hrv, hr⟩ := hr
      have hx := aeval_sound hf hrv
      split at hr
      · simp only [Rel] at hx
        obtain ⟨y, hy, hy2⟩ := hx
        have := aMethod_sound (P := P) h hy2 ha hr
        simpa only [execOp, resolve, hb, hy, pure_bind] using this
      · cases hr
  · cases hr

end
end Go.AM
