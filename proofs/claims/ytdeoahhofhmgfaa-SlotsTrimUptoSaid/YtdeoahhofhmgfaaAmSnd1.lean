/- THE ABSTRACT MACHINE, 4: the operations are sound, part 1. -/
import Derived.Test.YtdeoahhofhmgfaaAmOps
import Derived.Laws.StructEq
import Derived.Laws.Strings
import Derived.Laws.Append
import Derived.Laws.Tables
namespace Go.AM
open Go.RowKit

theorem pureOf_run {α : Type} {s : Sem α} {a : α} (h : pureOf s = some a) (P : Program) (w : World) : s.run P w = .ok a w := by
  cases s <;> simp [pureOf] at h
  subst h; rfl

theorem eqB_eq : ∀ a b : List UInt8, eqB a b = (a == b)
  | [], [] => rfl
  | [], _ :: _ => rfl
  | _ :: _, [] => rfl
  | a :: x, b :: y => by
    simp only [eqB, eqB_eq x y]
    by_cases h : a = b
    · subst h; simp
    · have hn : Nat.beq a.toNat b.toNat = false := by
        cases hb : Nat.beq a.toNat b.toNat with
        | false => rfl
        | true => exact absurd (UInt8.toNat_inj.1 (Nat.eq_of_beq_eq_true hb)) h
      simp [hn, h]

theorem ltB_eq : ∀ a b : List UInt8, ltB a b = Op.bytesLess a b
  | _, [] => by cases ‹List UInt8› <;> rfl
  | [], _ :: _ => rfl
  | a :: x, b :: y => by
    simp only [ltB, Op.bytesLess, ltB_eq x y]
    have h1 : Nat.blt a.toNat b.toNat = decide (a < b) := by
      rw [Bool.eq_iff_iff]; simp [Nat.blt_eq, UInt8.lt_iff_toNat_lt]
    have h2 : Nat.beq a.toNat b.toNat = (a == b) := by
      rw [Bool.eq_iff_iff]; simp [UInt8.toNat_inj]
    rw [h1, h2]
    cases decide (a < b) <;> cases (a == b) <;> simp

theorem convS_rel {x : Value} {v : AV} (h : convS x = some v) (ρ : Env) : Rel ρ v x := by
  unfold convS at h
  split at h <;> cases h <;> simp [Rel]

theorem mapM_convS_rel (ρ : Env) : ∀ {xs : List Value} {vs : List AV}, xs.mapM convS = some vs → RelL ρ vs xs
  | [], vs, h => by simp at h; subst h; simp [RelL]
  | x :: xs, vs, h => by
    simp only [List.mapM_cons, Option.bind_eq_bind, Option.pure_def] at h
    cases h1 : convS x with
    | none => simp [h1] at h
    | some v =>
      cases h2 : xs.mapM convS with
      | none => simp [h1, h2] at h
      | some r =>
        simp [h1, h2] at h
        subst h
        exact ⟨x, xs, rfl, convS_rel h1 ρ, mapM_convS_rel ρ h2⟩

theorem conv_rel {x : Value} {v : AV} (h : conv x = some v) (ρ : Env) : Rel ρ v x := by
  unfold conv at h
  split at h
  · rename_i cs
    cases h1 : cs.toList.mapM convS with
    | none => simp [h1] at h
    | some r =>
      simp [h1] at h
      subst h
      exact ⟨cs, rfl, mapM_convS_rel ρ h1⟩
  · exact convS_rel h ρ

theorem Rel.ub {ρ : Env} {v : AV} {x : Value} (h : Rel ρ v x) : Rel ρ v.ub x := by
  cases v <;> simp only [AV.ub] <;> first | exact h | (simp only [Rel] at h ⊢; exact h)

theorem Rel.of_ub {ρ : Env} {v : AV} {x : Value} (h : Rel ρ v.ub x) : Rel ρ v x := by
  cases v <;> simp only [AV.ub] at h <;> first | exact h | (simp only [Rel] at h ⊢; exact h)

theorem Rel.eqv {ρ : Env} {v v' : AV} {x : Value} (e : v'.ub = v.ub) (h : Rel ρ v x) : Rel ρ v' x := Rel.of_ub (e ▸ h.ub)

theorem toV_rel {x : Value} {v : AV} (h : toV v = some x) {ρ : Env} {y : Value} (hr : Rel ρ v y) : y = x := by
  cases v <;> simp [toV] at h <;> simp only [Rel] at hr <;> subst h <;> exact hr

section
variable {B : Nat} {ρ : Env} {H : Heap} {w : World} {P : Program}

theorem aeval_sound {fr : Fr} {a : Act} (hf : FRel ρ fr a.tmps) {x : Operand} {v : AV} (h : aeval fr x = some v) : Rel ρ v (a.eval x) := by
  cases x with
  | tmp t =>
    obtain ⟨y, hy, hr⟩ := hf t v h
    simpa [Act.eval, hy] using hr
  | const c => exact conv_rel h ρ
  | global g => simp [aeval] at h
  | func f => simp [aeval] at h; subst h; simp [Rel, RelL, Act.eval]

theorem evalL_sound {fr : Fr} {a : Act} (hf : FRel ρ fr a.tmps) : ∀ {xs : List Operand} {vs : List AV}, evalL fr xs = some vs → RelL ρ vs (xs.map a.eval)
  | [], vs, h => by simp [evalL] at h; subst h; simp [RelL]
  | x :: xs, vs, h => by
    simp only [evalL] at h
    cases h1 : aeval fr x with
    | none => simp [h1] at h
    | some v =>
      cases h2 : evalL fr xs with
      | none => simp [h1, h2] at h
      | some r =>
        simp [h1, h2] at h
        subst h
        exact ⟨_, _, rfl, aeval_sound hf h1, evalL_sound hf h2⟩

/-- What a value with these cells stands for. -/
theorem cells_sound {v : AV} {cs : List AV} (h : v.cells = some cs) {x : Value} (hr : Rel ρ v x) : RelL ρ cs x.cells.toList := by
  cases v <;> simp only [AV.cells, Option.some.injEq] at h <;> (try (cases h; done)) <;> (try subst h)
  case agg cs' =>
    simp only [Rel] at hr
    obtain ⟨ys, rfl, h2⟩ := hr
    exact h2
  all_goals
    refine ⟨x, [], ?_, hr, rfl⟩
    simp only [Rel, CTy.Rd] at hr
    first
      | (subst hr; rfl)
      | (obtain ⟨rfl, _⟩ := hr; rfl)
      | (obtain ⟨_, _, _, _, rfl⟩ := hr; rfl)
      | (obtain ⟨_, _, _, _, rfl, _⟩ := hr; rfl)
      | (obtain ⟨_, _, rfl⟩ := hr; rfl)
      | (obtain ⟨_, rfl, _⟩ := hr; rfl)
      | (obtain ⟨_, _, rfl, _⟩ := hr; rfl)
      | (obtain ⟨_, _, _, rfl, _⟩ := hr; rfl)

theorem isAgg_run {t : TypeId} {d : TypeDesc} (h : P.underlying t = some d) : (isAgg t).run P w = .ok (isAggD d) w := by
  cases d <;> simp [isAgg, run_underlying h, isAggD]

theorem sizeOf_run {t : TypeId} {i : TypeInfo} (h : P.info? t = some i) : (sizeOf t).run P w = .ok i.size w := by
  simp [sizeOf, typeInfo, h]

theorem typeInfo_run {t : TypeId} {i : TypeInfo} (h : P.info? t = some i) : (typeInfo t).run P w = .ok i w := by
  simp [typeInfo, h]

theorem zeroValue_run {t : TypeId} {i : TypeInfo} {z : Value} (h : P.info? t = some i) (hz : i.zero = some z) : (zeroValue t).run P w = .ok z w := by
  simp [zeroValue, typeInfo, h, hz]

theorem zeroA_sound {t : TypeId} {v : AV} (h : zeroA P t = some v) (ρ : Env) : ∃ z, (zeroValue t).run P w = .ok z w ∧ Rel ρ v z := by
  unfold zeroA at h
  cases hi : P.info? t with
  | none => simp [hi] at h
  | some i =>
    cases hz : i.zero with
    | none => simp [hi, hz] at h
    | some z => simp [hi, hz] at h; exact ⟨z, zeroValue_run hi hz, conv_rel h ρ⟩

theorem apart_sound {t : TypeId} {cs : List AV} {off : Nat} {v : AV} (h : apart P t cs off = some v) {xs : Array Value} (hr : RelL ρ cs xs.toList) :
    ∃ x, (part t xs off).run P w = .ok x w ∧ Rel ρ v x := by
  unfold apart at h
  cases hu : P.underlying t with
  | none => simp [hu] at h
  | some d =>
    simp only [hu, Option.bind_some] at h
    cases hd : isAggD d with
    | true =>
      simp only [hd, cond_true] at h
      cases hi : P.info? t with
      | none => simp [hi] at h
      | some i =>
        simp [hi] at h
        subst h
        refine ⟨.agg (xs.extract off (off + i.size)), ?_, ?_⟩
        · simp [part, isAgg_run hu, hd, sizeOf_run hi]
        · refine ⟨_, rfl, ?_⟩
          have := RelL.take i.size (RelL.drop off hr)
          simpa using this
    | false =>
      simp only [hd, cond_false] at h
      obtain ⟨x, hx, hrx⟩ := hr.get h
      refine ⟨x, ?_, hrx⟩
      simp only [Array.getElem?_toList] at hx
      simp [part, isAgg_run hu, hd, hx]

/-- A load. -/
theorem aload_sound (h : HR B ρ H w) {t : TypeId} {p v : AV} {x : Value} (hp : Rel ρ p x) (hl : aload P H t p = some v) :
    ∃ y, (Instr.loadAt t x).run P w = .ok y w ∧ Rel ρ v y ∧ ∃ a, x = .pointer (some a) ∧ (loadVar t a).run P w = .ok y w := by
  unfold aload at hl
  split at hl
  · rename_i i off
    simp only [Rel] at hp
    obtain ⟨e, he, rfl⟩ := hp
    cases hu : P.underlying t with
    | none => simp [hu] at hl
    | some d =>
      simp only [hu, Option.bind_some] at hl
      have key : ∃ y, (loadVar t ⟨e.b, e.sh + off, none⟩).run P w = .ok y w ∧ Rel ρ v y := by
        cases hd : isAggD d with
        | true =>
          simp only [hd, cond_true] at hl
          cases hi : P.info? t with
          | none => simp [hi] at hl
          | some inf =>
            simp only [hi, Option.bind_some] at hl
            cases hn : ldN H i off inf.size with
            | none => simp [hn] at hl
            | some cs =>
              simp [hn] at hl
              subst hl
              obtain ⟨hlen, xs, hxl, hrel, hc⟩ := ldN_sound h he hn
              refine ⟨.agg xs.toArray, ?_, ⟨_, rfl, by simpa using hrel⟩⟩
              simp [loadVar, isAgg_run hu, hd, sizeOf_run hi, run_loadCells_at hxl hc]
        | false =>
          simp only [hd, cond_false] at hl
          obtain ⟨y, hy, hr⟩ := ld1_sound h he hl
          exact ⟨y, by simp [loadVar, isAgg_run hu, hd, hy], hr⟩
      obtain ⟨y, hy, hr⟩ := key
      exact ⟨y, by simp [Instr.loadAt, Instr.sureAddr, hy], hr, _, rfl, hy⟩
  · cases hl

/-- A store. -/
theorem astore_sound (h : HR B ρ H w) {t : TypeId} {p v : AV} {x y : Value} {H' : Heap} (hp : Rel ρ p x) (hv : Rel ρ v y) (hs : astore P H t p v = some H') :
    ∃ w', (Instr.storeAt t x y).run P w = .ok () w' ∧ HR B ρ H' w' ∧ Ext B ρ w ρ w' := by
  unfold astore at hs
  split at hs
  · rename_i i off
    simp only [Rel] at hp
    obtain ⟨e, he, rfl⟩ := hp
    cases hc : v.cells with
    | none => simp [hc] at hs
    | some cs =>
      cases hi : P.info? t with
      | none => simp [hc, hi] at hs
      | some inf =>
        simp only [hc, hi, Option.bind_some] at hs
        cases hb : Nat.beq cs.length inf.size with
        | false => simp [hb] at hs
        | true =>
          simp only [hb, cond_true] at hs
          have hrl := cells_sound hc hv
          obtain ⟨w', r1, r2, r3⟩ := stN_sound (P := P) h he hrl hs
          refine ⟨w', ?_, r2, r3⟩
          have hsz : y.cells.size = inf.size := by
            have := hrl.length
            have := Nat.eq_of_beq_eq_true hb
            simp at *; omega
          simp [Instr.storeAt, Instr.sureAddr, storeVar, sizeOf_run hi, hsz, r1]
  · cases hs

/-- New cells. -/
theorem newCells_sound (h : HR B ρ H w) {es : Nat} {cs : List AV} {r : Nat × Heap} {ty : TypeId} (hn : newCells H (some ty) es cs = some r) {xs : Array Value} (hr : RelL ρ cs xs.toList) :
    ∃ ρ', (newRow ty xs).run P w = .ok ⟨w.heap.size, 0, none⟩ (w.alloc (.cells xs ty)) ∧ HR B ρ' r.2 (w.alloc (.cells xs ty)) ∧ Ext B ρ w ρ' (w.alloc (.cells xs ty)) ∧
      ρ'.ats[r.1]? = some ⟨w.heap.size, 0, xs.size, es, 0, false⟩ := by
  unfold newCells at hn
  cases hb : cs.all AV.scalar with
  | false => rw [hb] at hn; cases hn
  | true =>
    rw [hb] at hn
    simp only [cond_true, Option.some.injEq] at hn
    subst hn
    refine ⟨(ρ.add ⟨w.heap.size, 0, xs.size, es, 0, false⟩), by simp [newRow], ?_, Ext.alloc _ _ h.base rfl, by rw [h.next]; simp⟩
    refine h.alloc _ _ _ rfl ⟨rfl, rfl, xs, ty, (0, 0), heap_alloc_new _ _, rfl, fun j v hj => ?_, (fun hh => by cases hh), fun _ => ⟨h.base, fun j _ => by simp⟩, fun t ht => ⟨Option.some.inj ht, rfl⟩⟩
    obtain ⟨x, hx, hrx⟩ := hr.get hj
    exact ⟨x, by simpa using hx, hrx.mono (Env.le_add _ _)⟩

end
end Go.AM
