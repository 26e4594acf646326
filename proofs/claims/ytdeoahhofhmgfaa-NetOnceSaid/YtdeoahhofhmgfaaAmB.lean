/- THE ABSTRACT MACHINE, 4: the operations are sound, part 1. -/
import Derived.Test.YtdeoahhofhmgfaaAmA
import Derived.Laws.StructEq
import Derived.Laws.Strings
import Derived.Laws.Append
import Derived.Laws.Tables
import Derived.Laws.Slices
namespace Go.AM
open Go.RowKit

theorem pureOf_run {α : Type} {s : Sem α} {a : α} (h : pureOf s = some a) (P : Program) (w : World) : s.run P w = .ok a w := by
  cases s <;> simp [pureOf] at h
  subst h; rfl

theorem eqB_eq : ∀ a b : List UInt8, eqB a b = (a == b)
  | [], [] => rfl
  | [], _ :: _ => rfl
  | _ :: _, [] => rfl
  | a :: x, b :: y => by
    simp only [eqB, eqB_eq x y]
    by_cases h : a = b
    · subst h; simp
    · have hn : Nat.beq a.toNat b.toNat = false := by
        cases hb : Nat.beq a.toNat b.toNat with
        | false => rfl
        | true => exact absurd (UInt8.toNat_inj.1 (Nat.eq_of_beq_eq_true hb)) h
      simp [hn, h]

theorem ltB_eq : ∀ a b : List UInt8, ltB a b = Op.bytesLess a b
  | _, [] => by cases ‹List UInt8› <;> rfl
  | [], _ :: _ => rfl
  | a :: x, b :: y => by
    simp only [ltB, Op.bytesLess, ltB_eq x y]
    have h1 : Nat.blt a.toNat b.toNat = decide (a < b) := by
      rw [Bool.eq_iff_iff]; simp [Nat.blt_eq, UInt8.lt_iff_toNat_lt]
    have h2 : Nat.beq a.toNat b.toNat = (a == b) := by
      rw [Bool.eq_iff_iff]; simp [UInt8.toNat_inj]
    rw [h1, h2]
    cases decide (a < b) <;> cases (a == b) <;> simp

theorem convS_rel {x : Value} {v : AV} (h : convS x = some v) (ρ : Env) : Rel ρ v x := by
  unfold convS at h
  split at h <;> cases h <;> simp [Rel]

theorem mapM_convS_rel (ρ : Env) : ∀ {xs : List Value} {vs : List AV}, xs.mapM convS = some vs → RelL ρ vs xs
  | [], vs, h => by simp at h; subst h; simp [RelL]
  | x :: xs, vs, h => by
    simp only [List.mapM_cons, Option.bind_eq_bind, Option.pure_def] at h
    cases h1 : convS x with
    | none => simp [h1] at h
    | some v =>
      cases h2 : xs.mapM convS with
      | none => simp [h1, h2] at h
      | some r =>
        simp [h1, h2] at h
        subst h
        exact ⟨x, xs, rfl, convS_rel h1 ρ, mapM_convS_rel ρ h2⟩

theorem conv_rel {x : Value} {v : AV} (h : conv x = some v) (ρ : Env) : Rel ρ v x := by
  unfold conv at h
  split at h
  · rename_i cs
    cases h1 : cs.toList.mapM convS with
    | none => simp [h1] at h
    | some r =>
      simp [h1] at h
      subst h
      exact ⟨cs, rfl, mapM_convS_rel ρ h1⟩
  · exact convS_rel h ρ

theorem Rel.ub {ρ : Env} {v : AV} {x : Value} (h : Rel ρ v x) : Rel ρ v.ub x := by
  cases v <;> simp only [AV.ub] <;> first | exact h | (simp only [Rel] at h ⊢; exact h)

theorem Rel.of_ub {ρ : Env} {v : AV} {x : Value} (h : Rel ρ v.ub x) : Rel ρ v x := by
  cases v <;> simp only [AV.ub] at h <;> first | exact h | (simp only [Rel] at h ⊢; exact h)

theorem Rel.eqv {ρ : Env} {v v' : AV} {x : Value} (e : v'.ub = v.ub) (h : Rel ρ v x) : Rel ρ v' x := Rel.of_ub (e ▸ h.ub)

theorem toV_rel {x : Value} {v : AV} (h : toV v = some x) {ρ : Env} {y : Value} (hr : Rel ρ v y) : y = x := by
  cases v <;> simp [toV] at h <;> simp only [Rel] at hr <;> subst h <;> exact hr

section
variable {B : Nat} {ρ : Env} {H : Heap} {w : World} {P : Program}

theorem aeval_sound {fr : Fr} {a : Act} (hf : FRel ρ fr a.tmps) {x : Operand} {v : AV} (h : aeval fr x = some v) : Rel ρ v (a.eval x) := by
  cases x with
  | tmp t =>
    obtain ⟨y, hy, hr⟩ := hf t v h
    simpa [Act.eval, hy] using hr
  | const c => exact conv_rel h ρ
  | global g => simp [aeval] at h
  | func f => simp [aeval] at h; subst h; simp [Rel, RelL, Act.eval]

theorem evalL_sound {fr : Fr} {a : Act} (hf : FRel ρ fr a.tmps) : ∀ {xs : List Operand} {vs : List AV}, evalL fr xs = some vs → RelL ρ vs (xs.map a.eval)
  | [], vs, h => by simp [evalL] at h; subst h; simp [RelL]
  | x :: xs, vs, h => by
    simp only [evalL] at h
    cases h1 : aeval fr x with
    | none => simp [h1] at h
    | some v =>
      cases h2 : evalL fr xs with
      | none => simp [h1, h2] at h
      | some r =>
        simp [h1, h2] at h
        subst h
        exact ⟨_, _, rfl, aeval_sound hf h1, evalL_sound hf h2⟩

/-- What a value with these cells stands for. -/
theorem cells_sound {v : AV} {cs : List AV} (h : v.cells = some cs) {x : Value} (hr : Rel ρ v x) : RelL ρ cs x.cells.toList := by
  cases v <;> simp only [AV.cells, Option.some.injEq] at h <;> (try (cases h; done)) <;> (try subst h)
  case agg cs' =>
    simp only [Rel] at hr
    obtain ⟨ys, rfl, h2⟩ := hr
    exact h2
  all_goals
    refine ⟨x, [], ?_, hr, rfl⟩
    simp only [Rel, CTy.Rd] at hr
    first
      | (subst hr; rfl)
      | (obtain ⟨rfl, _⟩ := hr; rfl)
      | (obtain ⟨_, _, _, _, rfl⟩ := hr; rfl)
      | (obtain ⟨_, _, _, _, rfl, _⟩ := hr; rfl)
      | (obtain ⟨_, _, rfl⟩ := hr; rfl)
      | (obtain ⟨_, rfl, _⟩ := hr; rfl)
      | (obtain ⟨_, _, rfl, _⟩ := hr; rfl)
      | (obtain ⟨_, _, _, rfl, _⟩ := hr; rfl)

theorem isAgg_run {t : TypeId} {d : TypeDesc} (h : P.underlying t = some d) : (isAgg t).run P w = .ok (isAggD d) w := by
  cases d <;> simp [isAgg, run_underlying h, isAggD]

theorem sizeOf_run {t : TypeId} {i : TypeInfo} (h : P.info? t = some i) : (sizeOf t).run P w = .ok i.size w := by
  simp [sizeOf, typeInfo, h]

theorem typeInfo_run {t : TypeId} {i : TypeInfo} (h : P.info? t = some i) : (typeInfo t).run P w = .ok i w := by
  simp [typeInfo, h]

theorem zeroValue_run {t : TypeId} {i : TypeInfo} {z : Value} (h : P.info? t = some i) (hz : i.zero = some z) : (zeroValue t).run P w = .ok z w := by
  simp [zeroValue, typeInfo, h, hz]

theorem zeroA_sound {t : TypeId} {v : AV} (h : zeroA P t = some v) (ρ : Env) : ∃ z, (zeroValue t).run P w = .ok z w ∧ Rel ρ v z := by
  unfold zeroA at h
  cases hi : P.info? t with
  | none => simp [hi] at h
  | some i =>
    cases hz : i.zero with
    | none => simp [hi, hz] at h
    | some z => simp [hi, hz] at h; exact ⟨z, zeroValue_run hi hz, conv_rel h ρ⟩

theorem apart_sound {t : TypeId} {cs : List AV} {off : Nat} {v : AV} (h : apart P t cs off = some v) {xs : Array Value} (hr : RelL ρ cs xs.toList) :
    ∃ x, (part t xs off).run P w = .ok x w ∧ Rel ρ v x := by
  unfold apart at h
  cases hu : P.underlying t with
  | none => simp [hu] at h
  | some d =>
    simp only [hu, Option.bind_some] at h
    cases hd : isAggD d with
    | true =>
      simp only [hd, cond_true] at h
      cases hi : P.info? t with
      | none => simp [hi] at h
      | some i =>
        simp [hi] at h
        subst h
        refine ⟨.agg (xs.extract off (off + i.size)), ?_, ?_⟩
        · simp [part, isAgg_run hu, hd, sizeOf_run hi]
        · refine ⟨_, rfl, ?_⟩
          have := RelL.take i.size (RelL.drop off hr)
          simpa using this
    | false =>
      simp only [hd, cond_false] at h
      obtain ⟨x, hx, hrx⟩ := hr.get h
      refine ⟨x, ?_, hrx⟩
      simp only [Array.getElem?_toList] at hx
      simp [part, isAgg_run hu, hd, hx]

/-- A load. -/
theorem aload_sound (h : HR B ρ H w) {t : TypeId} {p v : AV} {x : Value} (hp : Rel ρ p x) (hl : aload P H t p = some v) :
    ∃ y, (Instr.loadAt t x).run P w = .ok y w ∧ Rel ρ v y ∧ ∃ a, x = .pointer (some a) ∧ (loadVar t a).run P w = .ok y w := by
  unfold aload at hl
  split at hl
  · rename_i i off
    simp only [Rel] at hp
    obtain ⟨e, he, rfl⟩ := hp
    cases hu : P.underlying t with
    | none => simp [hu] at hl
    | some d =>
      simp only [hu, Option.bind_some] at hl
      have key : ∃ y, (loadVar t ⟨e.b, e.sh + off, none⟩).run P w = .ok y w ∧ Rel ρ v y := by
        cases hd : isAggD d with
        | true =>
          simp only [hd, cond_true] at hl
          cases hi : P.info? t with
          | none => simp [hi] at hl
          | some inf =>
            simp only [hi, Option.bind_some] at hl
            cases hn : ldN H i off inf.size with
            | none => simp [hn] at hl
            | some cs =>
              simp [hn] at hl
              subst hl
              obtain ⟨hlen, xs, hxl, hrel, hc⟩ := ldN_sound h he hn
              refine ⟨.agg xs.toArray, ?_, ⟨_, rfl, by simpa using hrel⟩⟩
              simp [loadVar, isAgg_run hu, hd, sizeOf_run hi, run_loadCells_at hxl hc]
        | false =>
          simp only [hd, cond_false] at hl
          obtain ⟨y, hy, hr⟩ := ld1_sound h he hl
          exact ⟨y, by simp [loadVar, isAgg_run hu, hd, hy], hr⟩
      obtain ⟨y, hy, hr⟩ := key
      exact ⟨y, by simp [Instr.loadAt, Instr.sureAddr, hy], hr, _, rfl, hy⟩
  · cases hl

/-- A store. -/
theorem astore_sound (h : HR B ρ H w) {t : TypeId} {p v : AV} {x y : Value} {H' : Heap} (hp : Rel ρ p x) (hv : Rel ρ v y) (hs : astore P H t p v = some H') :
    ∃ w', (Instr.storeAt t x y).run P w = .ok () w' ∧ HR B ρ H' w' ∧ Ext B ρ w ρ w' := by
  unfold astore at hs
  split at hs
  · rename_i i off
    simp only [Rel] at hp
    obtain ⟨e, he, rfl⟩ := hp
    cases hc : v.cells with
    | none => simp [hc] at hs
    | some cs =>
      cases hi : P.info? t with
      | none => simp [hc, hi] at hs
      | some inf =>
        simp only [hc, hi, Option.bind_some] at hs
        cases hb : Nat.beq cs.length inf.size with
        | false => simp [hb] at hs
        | true =>
          simp only [hb, cond_true] at hs
          have hrl := cells_sound hc hv
          obtain ⟨w', r1, r2, r3⟩ := stN_sound (P := P) h he hrl hs
          refine ⟨w', ?_, r2, r3⟩
          have hsz : y.cells.size = inf.size := by
            have := hrl.length
            have := Nat.eq_of_beq_eq_true hb
            simp at *; omega
          simp [Instr.storeAt, Instr.sureAddr, storeVar, sizeOf_run hi, hsz, r1]
  · cases hs

/-- New cells. -/
theorem newCells_sound (h : HR B ρ H w) {es : Nat} {cs : List AV} {r : Nat × Heap} {ty : TypeId} (hn : newCells H (some ty) es cs = some r) {xs : Array Value} (hr : RelL ρ cs xs.toList) :
    ∃ ρ', (newRow ty xs).run P w = .ok ⟨w.heap.size, 0, none⟩ (w.alloc (.cells xs ty)) ∧ HR B ρ' r.2 (w.alloc (.cells xs ty)) ∧ Ext B ρ w ρ' (w.alloc (.cells xs ty)) ∧
      ρ'.ats[r.1]? = some ⟨w.heap.size, 0, xs.size, es, 0, false⟩ := by
  unfold newCells at hn
  cases hb : cs.all AV.scalar with
  | false => rw [hb] at hn; cases hn
  | true =>
    rw [hb] at hn
    simp only [cond_true, Option.some.injEq] at hn
    subst hn
    refine ⟨(ρ.add ⟨w.heap.size, 0, xs.size, es, 0, false⟩), by simp [newRow], ?_, Ext.alloc _ _ h.base rfl, by rw [h.next]; simp⟩
    refine h.alloc _ _ _ rfl ⟨rfl, rfl, xs, ty, (0, 0), heap_alloc_new _ _, rfl, fun j v hj => ?_, (fun hh => by cases hh), fun _ => ⟨h.base, fun j _ => by simp⟩, fun t ht => ⟨Option.some.inj ht, rfl⟩⟩
    obtain ⟨x, hx, hrx⟩ := hr.get hj
    exact ⟨x, by simpa using hx, hrx.mono (Env.le_add _ _)⟩

end
end Go.AM
namespace Go.AM
open Go.RowKit
section
variable {B : Nat} {ρ : Env} {H : Heap} {w : World} {P : Program}

/-- Writing into an array of cells. -/
theorem foldl_set (off : Nat) : ∀ (vs : List Value) (k : Nat) (arr : Array Value) (j : Nat), (off + k + vs.length ≤ arr.size) →
    ((vs.zipIdx k).foldl (fun cs (c, j) => cs.setIfInBounds (off + j) c) arr).size = arr.size ∧
    ((vs.zipIdx k).foldl (fun cs (c, j) => cs.setIfInBounds (off + j) c) arr)[j]? = if off + k ≤ j ∧ j < off + k + vs.length then vs[j - (off + k)]? else arr[j]?
  | [], k, arr, j, _ => ⟨rfl, by rw [if_neg (by simp)]; rfl⟩
  | v :: vs, k, arr, j, h => by
    simp only [List.length_cons] at h
    simp only [List.zipIdx_cons, List.foldl_cons]
    obtain ⟨h1, h2⟩ := foldl_set off vs (k + 1) (arr.setIfInBounds (off + k) v) j (by simp; omega)
    refine ⟨by rw [h1]; simp, ?_⟩
    rw [h2]
    by_cases hj : j = off + k
    · subst hj
      rw [if_neg (by omega), if_pos (by simp)]
      simp [show off + k < arr.size by omega]
    · by_cases hin : off + (k + 1) ≤ j ∧ j < off + (k + 1) + vs.length
      · rw [if_pos hin, if_pos (by simp; omega), show j - (off + k) = (j - (off + (k + 1))) + 1 by omega]
        simp
      · rw [if_neg hin, if_neg (by simp; omega), Array.getElem?_setIfInBounds_ne (Ne.symm hj)]

inductive RelP (ρ : Env) : List (Nat × AV) → List (Nat × Value) → Prop
  | nil : RelP ρ [] []
  | cons {i : Nat} {v : AV} {x : Value} {l l'} : Rel ρ v x → RelP ρ l l' → RelP ρ ((i, v) :: l) ((i, x) :: l')

theorem evalParts_sound {fr : Fr} {a : Act} (hf : FRel ρ fr a.tmps) : ∀ {ps : List (Nat × Operand)} {vs : List (Nat × AV)}, evalParts fr ps = some vs → RelP ρ vs (ps.map fun (i, x) => (i, a.eval x))
  | [], vs, h => by simp [evalParts] at h; subst h; exact .nil
  | (i, x) :: ps, vs, h => by
    simp only [evalParts] at h
    cases h1 : aeval fr x with
    | none => simp [h1] at h
    | some v =>
      cases h2 : evalParts fr ps with
      | none => simp [h1, h2] at h
      | some r =>
        simp [h1, h2] at h
        subst h
        exact .cons (aeval_sound hf h1) (evalParts_sound hf h2)

theorem aFill_sound (place : Nat → Option (Nat × Nat)) : ∀ {ps : List (Nat × AV)} {ps' : List (Nat × Value)} {zs cs : List AV} {xs : Array Value}, RelP ρ ps ps' → RelL ρ zs xs.toList →
    aFill place zs ps = some cs → ∃ ys, Instr.fill place xs ps' = some ys ∧ RelL ρ cs ys.toList
  | [], _, zs, cs, xs, hp, hz, h => by cases hp; simp [aFill] at h; subst h; exact ⟨xs, rfl, hz⟩
  | (i, v) :: ps, _, zs, cs, xs, hp, hz, h => by
    cases hp with
    | cons hv hp =>
    rename_i x l'
    simp only [aFill] at h
    cases h1 : place i with
    | none => simp [h1] at h
    | some p =>
      obtain ⟨off, size⟩ := p
      cases h2 : v.cells with
      | none => simp [h1, h2] at h
      | some c =>
        simp only [h1, h2, Option.bind_some] at h
        cases hb : (Nat.beq c.length size && Nat.ble (off + c.length) zs.length) with
        | false => simp [hb] at h
        | true =>
          simp only [hb, cond_true] at h
          simp only [Bool.and_eq_true] at hb
          have e1 := Nat.eq_of_beq_eq_true hb.1
          have e2 := Nat.le_of_ble_eq_true hb.2
          have hrl := cells_sound h2 hv
          have hl1 := hrl.length
          have hl2 := hz.length
          simp only [Array.length_toList] at hl1 hl2
          have hfold := fun j => foldl_set off x.cells.toList 0 xs j (by simp; omega)
          have hnew : RelL ρ (spl zs off c) ((x.cells.zipIdx.foldl (fun cs (c, j) => cs.setIfInBounds (off + j) c) xs)).toList := by
            have hz' : x.cells.zipIdx.foldl (fun cs (c, j) => cs.setIfInBounds (off + j) c) xs = (x.cells.toList.zipIdx 0).foldl (fun cs (c, j) => cs.setIfInBounds (off + j) c) xs := by
              rw [← Array.foldl_toList]; simp
            rw [hz']
            refine RelL.mk (by simp [(hfold 0).1, length_spl _ _ _ e2]; omega) fun j u hu => ?_
            rw [spl_get _ _ _ e2] at hu
            simp only [Array.getElem?_toList, (hfold j).2, Nat.add_zero, Array.length_toList]
            rw [hl1]
            by_cases hin : off ≤ j ∧ j < off + c.length
            · rw [if_pos hin] at hu ⊢
              obtain ⟨y, hy, hr⟩ := hrl.get hu
              exact ⟨y, by simpa using hy, hr⟩
            · rw [if_neg hin] at hu ⊢
              obtain ⟨y, hy, hr⟩ := hz.get hu
              exact ⟨y, by simpa using hy, hr⟩
          obtain ⟨ys, hy1, hy2⟩ := aFill_sound place hp hnew h
          refine ⟨ys, ?_, hy2⟩
          simp only [Instr.fill, h1]
          rw [if_neg (by simp; omega)]
          exact hy1

theorem aBuild_sound {t : TypeId} {ps : List (Nat × AV)} {ps' : Array (Nat × Value)} {v : AV} (hp : RelP ρ ps ps'.toList) (h : aBuild P t ps = some v) :
    ∃ x, (Instr.build t ps').run P w = .ok x w ∧ Rel ρ v x := by
  unfold aBuild at h
  cases hi : P.info? t with
  | none => simp [hi] at h
  | some it =>
    cases hu : P.underlying t with
    | none => simp [hi, hu] at h
    | some d =>
      cases hz : it.zero with
      | none => simp [hi, hu, hz] at h
      | some z =>
        cases hc : conv z with
        | none => simp [hi, hu, hz, hc] at h
        | some zv =>
          cases hcs : zv.cells with
          | none => simp [hi, hu, hz, hc, hcs] at h
          | some zs =>
            simp only [hi, hu, hz, hc, hcs, Option.bind_some] at h
            have hzr : RelL ρ zs z.cells.toList := cells_sound hcs (conv_rel hc ρ)
            cases d <;> try (cases h; done)
            case array n e =>
              simp only [] at h
              cases hie : P.info? e with
              | none => simp [hie] at h
              | some ie =>
                simp only [hie, Option.bind_some] at h
                cases hf : aFill (fun i => some (i * ie.size, ie.size)) zs ps with
                | none => simp [hf] at h
                | some cs =>
                  simp [hf] at h
                  subst h
                  obtain ⟨ys, hy1, hy2⟩ := aFill_sound _ hp hzr hf
                  exact ⟨.agg ys, run_build w t ps' ys (by unfold Program.built; simp [hi, hu, hz, hie, hy1]), ys, rfl, hy2⟩
            case struct fields =>
              simp only [] at h
              cases hpl : fields.toList.mapM (fun f => (P.info? f.type).map fun i => (f.offset, i.size)) with
              | none => simp [hpl] at h
              | some places =>
                simp only [hpl, Option.bind_some] at h
                cases hf : aFill (fun i => places[i]?) zs ps with
                | none => simp [hf] at h
                | some cs =>
                  simp [hf] at h
                  subst h
                  obtain ⟨ys, hy1, hy2⟩ := aFill_sound _ hp hzr hf
                  refine ⟨.agg ys, run_build w t ps' ys ?_, ys, rfl, hy2⟩
                  unfold Program.built
                  simp only [hi, hu, hz, hpl]
                  rw [← hy1]
                  congr 1
                  funext i; simp

theorem aFieldAddr_sound {s : TypeId} {p v : AV} {x : Value} {f : Nat} (hp : Rel ρ p x) (h : aFieldAddr P s p f = some v) :
    ∃ y, (Instr.fieldAt s x f).run P w = .ok y w ∧ Rel ρ v y := by
  unfold aFieldAddr at h
  split at h
  · rename_i i off
    simp only [Rel] at hp
    obtain ⟨e, he, rfl⟩ := hp
    cases hu : P.underlying s with
    | none => simp [hu] at h
    | some d =>
      cases d <;> simp only [hu, Option.bind_some] at h <;> try (cases h; done)
      rename_i fs
      cases hf : fs[f]? with
      | none => simp [hf] at h
      | some fd =>
        cases hi : P.info? fd.type with
        | none => simp [hf, hi] at h
        | some inf =>
          simp only [hf, hi, Option.bind_some] at h
          cases hb : Nat.beq inf.size 0 with
          | true => simp [hb] at h
          | false =>
            simp [hb] at h
            subst h
            have hne : inf.size ≠ 0 := Nat.ne_of_beq_eq_false hb
            refine ⟨.pointer (some ⟨e.b, e.sh + (off + fd.offset), none⟩), ?_, ⟨e, he, rfl⟩⟩
            simp [Instr.fieldAt, run_underlying hu, hf, Instr.sureAddr, fieldPlace, sizeOf_run hi, hne, addr_add, Nat.add_assoc]
  · cases h

theorem aField_sound {t : TypeId} {p v : AV} {x : Value} {f : Nat} (hp : Rel ρ p x) (h : aField P t p f = some v) :
    ∃ y, (Instr.field t x f).run P w = .ok y w ∧ Rel ρ v y := by
  unfold aField at h
  split at h
  · rename_i cs
    simp only [Rel] at hp
    obtain ⟨ys, rfl, hr⟩ := hp
    cases hu : P.underlying t with
    | none => simp [hu] at h
    | some d =>
      cases d <;> simp only [hu, Option.bind_some] at h <;> try (cases h; done)
      rename_i fs
      cases hf : fs[f]? with
      | none => simp [hf] at h
      | some fd =>
        simp only [hf, Option.bind_some] at h
        obtain ⟨y, hy, hry⟩ := apart_sound (w := w) h hr
        exact ⟨y, by simp [Instr.field, run_underlying hu, hf, asAgg, hy], hry⟩
  · cases h

theorem idx_sound {v : AV} {n k : Nat} {x : Value} (hr : Rel ρ v x) (h : idx v n = some k) : ∃ kd, x = .int kd (k : Int) ∧ k < n := by
  unfold idx at h
  split at h
  · rename_i kd i
    cases hb : Nat.blt i n with
    | false => simp [hb] at h
    | true =>
      simp [hb] at h
      subst h
      simp only [Rel] at hr
      exact ⟨kd, hr, by simpa [Nat.blt_eq] using hb⟩
  · cases h

theorem bnd_sound {v : AV} {n k : Nat} {x : Value} (hr : Rel ρ v x) (h : bnd v n = some k) : ∃ kd, x = .int kd (k : Int) ∧ k ≤ n := by
  unfold bnd at h
  split at h
  · rename_i kd i
    cases hb : Nat.ble i n with
    | false => simp [hb] at h
    | true =>
      simp [hb] at h
      subst h
      simp only [Rel] at hr
      exact ⟨kd, hr, Nat.le_of_ble_eq_true hb⟩
  · cases h

theorem aIndexAddr_sound {t : TypeId} {p ix v : AV} {x y : Value} (hp : Rel ρ p x) (hx : Rel ρ ix y) (h : aIndexAddr P t p ix = some v) :
    ∃ z, (Instr.indexAt t x y).run P w = .ok z w ∧ Rel ρ v z := by
  unfold aIndexAddr at h
  cases hu : P.underlying t with
  | none => simp [hu] at h
  | some d =>
    simp only [hu, Option.bind_some] at h
    split at h
    · rename_i n e i off
      cases hk : idx ix n with
      | none => simp [hk] at h
      | some k =>
        cases hi : P.info? e with
        | none => simp [hk, hi] at h
        | some inf =>
          simp [hk, hi] at h
          subst h
          obtain ⟨kd, rfl, hlt⟩ := idx_sound hx hk
          simp only [Rel] at hp
          obtain ⟨a, ha, rfl⟩ := hp
          refine ⟨.pointer (some ⟨a.b, a.sh + (off + k * inf.size), none⟩), ?_, ⟨a, ha, rfl⟩⟩
          simp [Instr.indexAt, run_underlying hu, asIntOf, Instr.sureAddr, sizeOf_run hi, hlt, addr_add, Nat.add_assoc]
    · rename_i e i off len cap ex
      cases hk : idx ix len with
      | none => simp [hk] at h
      | some k =>
        cases hi : P.info? e with
        | none => simp [hk, hi] at h
        | some inf =>
          simp [hk, hi] at h
          subst h
          obtain ⟨kd, rfl, hlt⟩ := idx_sound hx hk
          simp only [Rel] at hp
          obtain ⟨a, c, ha, rfl, _⟩ := hp
          refine ⟨.pointer (some ⟨a.b, a.sh + (off + k * inf.size), none⟩), ?_, ⟨a, ha, rfl⟩⟩
          simp [Instr.indexAt, run_underlying hu, asIntOf, sizeOf_run hi, hlt, addr_add, Nat.add_assoc]
    · cases h

theorem aIndex_sound {t : TypeId} {p ix v : AV} {x y : Value} (hp : Rel ρ p x) (hx : Rel ρ ix y) (h : aIndex P t p ix = some v) :
    ∃ z, (Instr.index t x y).run P w = .ok z w ∧ Rel ρ v z := by
  unfold aIndex at h
  cases hu : P.underlying t with
  | none => simp [hu] at h
  | some d =>
    simp only [hu, Option.bind_some] at h
    split at h
    · rename_i n e cs
      cases hk : idx ix n with
      | none => simp [hk] at h
      | some k =>
        cases hi : P.info? e with
        | none => simp [hk, hi] at h
        | some inf =>
          simp only [hk, hi, Option.bind_some] at h
          obtain ⟨kd, rfl, hlt⟩ := idx_sound hx hk
          simp only [Rel] at hp
          obtain ⟨ys, rfl, hr⟩ := hp
          obtain ⟨z, hz, hrz⟩ := apart_sound (w := w) h hr
          refine ⟨z, ?_, hrz⟩
          simp [Instr.index, run_underlying hu, asIntOf, sizeOf_run hi, hlt, hz]
    · rename_i s
      cases hk : idx ix s.length with
      | none => simp [hk] at h
      | some k =>
        simp only [hk, Option.bind_some] at h
        obtain ⟨kd, rfl, hlt⟩ := idx_sound hx hk
        simp only [Rel] at hp
        subst hp
        rw [List.getElem?_eq_getElem hlt] at h
        simp at h
        subst h
        refine ⟨.int .u8 (s[k].toNat), ?_, by simp [Rel]⟩
        have hsz : (⟨s.toArray⟩ : ByteArray).size = s.length := by simp [ByteArray.size]
        have hget : (⟨s.toArray⟩ : ByteArray)[k]? = some s[k] := by
          rw [getElem?_pos _ _ (by omega)]
          rfl
        simp [Instr.index, run_underlying hu, asIntOf, hget]
    · cases h

end
end Go.AM
namespace Go.AM
open Go.RowKit
section
variable {B : Nat} {ρ : Env} {H : Heap} {w : World} {P : Program}

def RelO (ρ : Env) : Option AV → Option Value → Prop
  | none, x => x = none
  | some v, x => ∃ y, x = some y ∧ Rel ρ v y

theorem sliceBound_run {v : AV} {n k m : Nat} {x : Value} {code : BoundsCode} (hr : Rel ρ v x) (h : bnd v n = some k) (hm : n ≤ m) : (Instr.sliceBound x m code).run P w = .ok k w := by
  obtain ⟨kd, rfl, hle⟩ := bnd_sound hr h
  simp [Instr.sliceBound, asIntOf, show k ≤ m by omega]

theorem bndO_le {o : Option AV} {n d k : Nat} (hd : d ≤ n) (h : bndO o n d = some k) : k ≤ n := by
  unfold bndO at h
  split at h
  · rename_i v
    unfold bnd at h
    split at h
    · rename_i kd i
      cases hb : Nat.ble i n with
      | false => simp [hb] at h
      | true => simp [hb] at h; subst h; exact Nat.le_of_ble_eq_true hb
    · cases h
  · cases h; exact hd

theorem sliceBounds_run {isS : Bool} {len cap c : Nat} {lo hi : Option AV} {lo' hi' : Option Value} {l h : Nat} (hlo : RelO ρ lo lo') (hhi : RelO ρ hi hi')
    (hc : cap ≤ c) (hh : bndO hi cap len = some h) (hl : bndO lo h 0 = some l) : (Instr.sliceBounds isS len c lo' hi' none).run P w = .ok (l, h, c) w := by
  unfold Instr.sliceBounds
  cases hi with
  | none =>
    simp only [RelO] at hhi; subst hhi
    simp only [bndO, Option.some.injEq] at hh; subst hh
    cases lo with
    | none => simp only [RelO] at hlo; subst hlo; simp only [bndO, Option.some.injEq] at hl; subst hl; simp
    | some v => obtain ⟨y, rfl, hr⟩ := hlo; simp [sliceBound_run (w := w) (P := P) hr hl (Nat.le_refl _)]
  | some u =>
    obtain ⟨z, rfl, hz⟩ := hhi
    cases lo with
    | none => simp only [RelO] at hlo; subst hlo; simp only [bndO, Option.some.injEq] at hl; subst hl; simp [sliceBound_run (w := w) (P := P) hz hh hc]
    | some v => obtain ⟨y, rfl, hr⟩ := hlo; simp [sliceBound_run (w := w) (P := P) hr hl (Nat.le_refl _), sliceBound_run (w := w) (P := P) hz hh hc]

theorem sliceBounds_run3 {len cap c : Nat} {lo : Option AV} {hv m : AV} {lo' : Option Value} {hv' m' : Value} {l h k : Nat} (hlo : RelO ρ lo lo') (hhi : Rel ρ hv hv') (hm : Rel ρ m m')
    (hc : cap ≤ c) (hk : bnd m cap = some k) (hh : bnd hv k = some h) (hl : bndO lo h 0 = some l) : (Instr.sliceBounds true len c lo' (some hv') (some m')).run P w = .ok (l, h, k) w := by
  unfold Instr.sliceBounds
  cases lo with
  | none => simp only [RelO] at hlo; subst hlo; simp only [bndO, Option.some.injEq] at hl; subst hl; simp [sliceBound_run (w := w) (P := P) hm hk hc, sliceBound_run (w := w) (P := P) hhi hh (Nat.le_refl _)]
  | some v => obtain ⟨y, rfl, hr⟩ := hlo; simp [sliceBound_run (w := w) (P := P) hr hl (Nat.le_refl _), sliceBound_run (w := w) (P := P) hm hk hc, sliceBound_run (w := w) (P := P) hhi hh (Nat.le_refl _)]

theorem extract_str (s : List UInt8) (l h : Nat) : (⟨s.toArray⟩ : ByteArray).extract l h = ⟨((s.take h).drop l).toArray⟩ := by
  apply ByteArray.ext
  rw [ByteArray.data_extract]
  apply Array.ext'
  simp [List.drop_take]

theorem aSlice_sound (hH : HR B ρ H w) {t : TypeId} {p v : AV} {x : Value} {lo hi mx : Option AV} {lo' hi' mx' : Option Value} (hp : Rel ρ p x) (hlo : RelO ρ lo lo') (hhi : RelO ρ hi hi') (hmx : RelO ρ mx mx')
    (h : aSlice P H t p lo hi mx = some v) : ∃ y, (Instr.sliceAt t x lo' hi' mx').run P w = .ok y w ∧ Rel ρ v y := by
  unfold aSlice at h
  cases hu : P.underlying t with
  | none => simp [hu] at h
  | some d =>
    simp only [hu, Option.bind_some] at h
    split at h
    · -- a string
      rename_i s
      split at h
      · simp only [RelO] at hmx; subst hmx
        cases h1 : bndO hi s.length s.length with
        | none => simp [h1] at h
        | some k =>
          cases h2 : bndO lo k 0 with
          | none => simp [h1, h2] at h
          | some l =>
            simp [h1, h2] at h
            subst h
            simp only [Rel] at hp
            subst hp
            have hsz : (⟨s.toArray⟩ : ByteArray).size = s.length := by simp [ByteArray.size]
            refine ⟨.string ⟨((s.take k).drop l).toArray⟩, ?_, by simp [Rel]⟩
            simp [Instr.sliceAt, run_underlying hu, Instr.slice, hsz, sliceBounds_run (w := w) (P := P) hlo hhi (Nat.le_refl _) h1 h2, extract_str]
      · cases h
    · -- a slice
      rename_i e i off len cap ex
      cases hi0 : P.info? e with
      | none => simp [hi0] at h
      | some inf =>
        simp only [hi0, Option.bind_some] at h
        simp only [Rel] at hp
        obtain ⟨a, c, ha, rfl, hlc, hcc, hex, hes⟩ := hp
        split at h
        · simp only [RelO] at hmx; subst hmx
          cases h1 : bndO hi cap len with
          | none => simp [h1] at h
          | some k =>
            cases h2 : bndO lo k 0 with
            | none => simp [h1, h2] at h
            | some l =>
              simp only [h1, h2, Option.bind_some] at h
              have hk := bndO_le hlc h1
              have hl := bndO_le (Nat.zero_le _) h2
              have hrun : (Instr.sliceAt t (.slice (some ⟨a.b, a.sh + off, none⟩) len c) lo' hi' none).run P w =
                  .ok (.slice (if c = l then some ⟨a.b, a.sh + off, none⟩ else some ⟨a.b, a.sh + (off + l * inf.size), none⟩) (k - l) (c - l)) w := by
                simp [Instr.sliceAt, run_underlying hu, Instr.slice, sliceBounds_run (w := w) (P := P) hlo hhi hcc h1 h2, sizeOf_run hi0, addr_add, Nat.add_assoc]
              refine ⟨_, hrun, ?_⟩
              cases hb : Nat.beq cap l with
              | true =>
                have e1 := Nat.eq_of_beq_eq_true hb
                simp only [hb, cond_true, Option.some.injEq] at h
                subst h
                have : k - l = 0 := by omega
                by_cases hcl : c = l
                · exact ⟨_, _, by rw [if_pos hcl, this]⟩
                · exact ⟨_, _, by rw [if_neg hcl, this]⟩
              | false =>
                have e1 : cap ≠ l := Nat.ne_of_beq_eq_false hb
                simp only [hb, cond_false] at h
                cases hq : (ex || Nat.beq l 0 || esIs H i inf.size) with
                | false => rw [hq] at h; cases h
                | true =>
                rw [hq] at h
                simp only [cond_true, Option.some.injEq] at h
                subst h
                rw [if_neg (by omega)]
                refine ⟨a, c - l, ha, rfl, by omega, by omega, fun h => by rw [hex h], fun hf => ?_⟩
                have h3 := hes hf
                subst hf
                simp only [Bool.false_or, Bool.or_eq_true] at hq
                rcases hq with hq | hq
                · have := Nat.eq_of_beq_eq_true hq; subst this; simpa using h3
                · have he : a.es = inf.size := by
                    unfold esIs at hq
                    split at hq
                    · rename_i ro es cs ho
                      have := (hH.at' ho ha).2.1
                      rw [this]; exact Nat.eq_of_beq_eq_true hq
                    · cases hq
                  rw [he] at h3 ⊢
                  have : l * inf.size + (c - l) * inf.size = c * inf.size := by rw [← Nat.add_mul]; congr 1; omega
                  omega
        · rename_i m
          obtain ⟨m', rfl, hm⟩ := hmx
          split at h
          · cases h
          · rename_i hv
            obtain ⟨hv', rfl, hhv⟩ := hhi
            cases h0 : bnd m cap with
            | none => simp [h0] at h
            | some q =>
              cases h1 : bnd hv q with
              | none => simp [h0, h1] at h
              | some k =>
                cases h2 : bndO lo k 0 with
                | none => simp [h0, h1, h2] at h
                | some l =>
                  simp only [h0, h1, h2, Option.bind_some, Option.map_some, Option.some.injEq] at h
                  have hq := (bnd_sound hm h0).choose_spec.2
                  have hk := (bnd_sound hhv h1).choose_spec.2
                  have hl := bndO_le (Nat.zero_le _) h2
                  have hrun : (Instr.sliceAt t (.slice (some ⟨a.b, a.sh + off, none⟩) len c) lo' (some hv') (some m')).run P w =
                      .ok (.slice (if q = l then some ⟨a.b, a.sh + off, none⟩ else some ⟨a.b, a.sh + (off + l * inf.size), none⟩) (k - l) (q - l)) w := by
                    simp [Instr.sliceAt, run_underlying hu, Instr.slice, sliceBounds_run3 (w := w) (P := P) hlo hhv hm hcc h0 h1 h2, sizeOf_run hi0, addr_add, Nat.add_assoc]
                  refine ⟨_, hrun, ?_⟩
                  cases hb : Nat.beq q l with
                  | true =>
                    have e1 := Nat.eq_of_beq_eq_true hb
                    simp only [hb, cond_true] at h
                    subst h
                    have : k - l = 0 := by omega
                    rw [if_pos e1, this]
                    exact ⟨_, _, rfl⟩
                  | false =>
                    have e1 : q ≠ l := Nat.ne_of_beq_eq_false hb
                    simp only [hb, cond_false] at h
                    subst h
                    rw [if_neg e1]
                    exact ⟨a, q - l, ha, rfl, by omega, by omega, fun _ => rfl, fun hf => by cases hf⟩
    · -- nil
      rename_i e
      cases hi0 : P.info? e with
      | none => simp [hi0] at h
      | some inf =>
        simp only [hi0, Option.bind_some] at h
        simp only [Rel] at hp
        subst hp
        split at h
        · simp only [RelO] at hmx; subst hmx
          cases h1 : bndO hi 0 0 with
          | none => simp [h1] at h
          | some k =>
            cases h2 : bndO lo k 0 with
            | none => simp [h1, h2] at h
            | some l =>
              simp [h1, h2] at h
              subst h
              have hk := bndO_le (Nat.le_refl _) h1
              have hl := bndO_le (Nat.zero_le _) h2
              have e1 : k = 0 := by omega
              have e2 : l = 0 := by omega
              subst e1; subst e2
              refine ⟨.slice none 0 0, ?_, by simp [Rel]⟩
              simp [Instr.sliceAt, run_underlying hu, Instr.slice, sliceBounds_run (w := w) (P := P) hlo hhi (Nat.le_refl _) h1 h2, sizeOf_run hi0]
        · cases h
    · -- an empty one
      rename_i e
      cases hi0 : P.info? e with
      | none => simp [hi0] at h
      | some inf =>
        simp only [hi0, Option.bind_some] at h
        simp only [Rel] at hp
        obtain ⟨a, c, rfl⟩ := hp
        split at h
        · simp only [RelO] at hmx; subst hmx
          cases h1 : bndO hi 0 0 with
          | none => simp [h1] at h
          | some k =>
            cases h2 : bndO lo k 0 with
            | none => simp [h1, h2] at h
            | some l =>
              simp [h1, h2] at h
              subst h
              have hk := bndO_le (Nat.le_refl _) h1
              have hl := bndO_le (Nat.zero_le _) h2
              have e1 : k = 0 := by omega
              have e2 : l = 0 := by omega
              subst e1; subst e2
              refine ⟨.slice (some a) 0 c, ?_, a, c, rfl⟩
              simp [Instr.sliceAt, run_underlying hu, Instr.slice, sliceBounds_run (w := w) (P := P) (c := c) hlo hhi (Nat.zero_le _) h1 h2, sizeOf_run hi0, Addr.add]
        · cases h
    · -- an array
      rename_i n e i off
      cases hi0 : P.info? e with
      | none => simp [hi0] at h
      | some inf =>
        simp only [hi0, Option.bind_some] at h
        simp only [Rel] at hp
        obtain ⟨a, ha, rfl⟩ := hp
        split at h
        · simp only [RelO] at hmx; subst hmx
          cases h1 : bndO hi n n with
          | none => simp [h1] at h
          | some k =>
            cases h2 : bndO lo k 0 with
            | none => simp [h1, h2] at h
            | some l =>
              simp only [h1, h2, Option.bind_some, Option.map_some, Option.some.injEq] at h
              have hk := bndO_le (Nat.le_refl _) h1
              have hl := bndO_le (Nat.zero_le _) h2
              have hrun : (Instr.sliceAt t (.pointer (some ⟨a.b, a.sh + off, none⟩)) lo' hi' none).run P w =
                  .ok (.slice (some (if n = l then ⟨a.b, a.sh + off, none⟩ else ⟨a.b, a.sh + (off + l * inf.size), none⟩)) (k - l) (n - l)) w := by
                simp [Instr.sliceAt, run_underlying hu, Instr.sureAddr, sliceBounds_run (w := w) (P := P) hlo hhi (Nat.le_refl _) h1 h2, sizeOf_run hi0, addr_add, Nat.add_assoc]
              refine ⟨_, hrun, ?_⟩
              cases hb : Nat.beq n l with
              | true =>
                have e1 := Nat.eq_of_beq_eq_true hb
                simp only [hb, cond_true] at h
                subst h
                have : k - l = 0 := by omega
                rw [if_pos e1, this]
                exact ⟨_, _, rfl⟩
              | false =>
                have e1 : n ≠ l := Nat.ne_of_beq_eq_false hb
                simp only [hb, cond_false] at h
                subst h
                rw [if_neg e1]
                exact ⟨a, n - l, ha, rfl, by omega, by omega, fun _ => rfl, fun hf => by cases hf⟩
        · cases h
    · cases h

end
end Go.AM
namespace Go.AM
open Go.RowKit
section
variable {B : Nat} {ρ : Env} {H : Heap} {w : World} {P : Program}

theorem wrap_i64 (n : Int) (h0 : 0 ≤ n) (h1 : n < 9223372036854775808) : IntKind.i64.wrap n = n := by
  have e : n % 18446744073709551616 = n := Int.emod_eq_of_lt h0 (by omega)
  have e2 : ¬ (9223372036854775808 ≤ n) := by omega
  simp [IntKind.wrap, IntKind.bits, IntKind.signed, e, e2]

/-- What a piece of the machine that yields a value shows. -/
def SV (B : Nat) (P : Program) (ρ : Env) (w : World) (s : Sem Value) (v : AV) (H' : Heap) : Prop :=
  ∃ x w' ρ', s.run P w = .ok x w' ∧ Ext B ρ w ρ' w' ∧ HR B ρ' H' w' ∧ Rel ρ' v x

theorem SV.same (h : HR B ρ H w) {s : Sem Value} {v : AV} (hh : ∃ x, s.run P w = .ok x w ∧ Rel ρ v x) : SV B P ρ w s v H :=
  let ⟨x, h1, h2⟩ := hh; ⟨x, w, ρ, h1, Ext.refl _ _ _, h, h2⟩

theorem length_repCells (n : Nat) (zs : List AV) : (repCells n zs).length = n * zs.length := by
  unfold repCells; simp [List.length_flatten]

theorem get_repCells (zs : List AV) (hz : 0 < zs.length) : ∀ (n j : Nat), j < n * zs.length → (repCells n zs)[j]? = zs[j % zs.length]?
  | 0, j, h => by omega
  | n + 1, j, h => by
    have e : repCells (n + 1) zs = zs ++ repCells n zs := by simp [repCells, List.replicate_succ]
    rw [e]
    by_cases hj : j < zs.length
    · rw [List.getElem?_append_left hj, Nat.mod_eq_of_lt hj]
    · rw [List.getElem?_append_right (by omega), get_repCells zs hz n (j - zs.length) (by rw [Nat.add_mul] at h; omega)]
      congr 1
      rw [Nat.mod_eq_sub_mod (by omega : j ≥ zs.length)]

theorem repCells_rel {zs : List AV} {z : Array Value} (hr : RelL ρ zs z.toList) (n : Nat) (hz : 0 < zs.length) :
    RelL ρ (repCells n zs) ((Array.range (n * zs.length)).map (fun i => z[i % z.size]!)).toList := by
  have hl := hr.length
  simp only [Array.length_toList] at hl
  refine RelL.mk (by simp [length_repCells]) fun j v hv => ?_
  have hj : j < n * zs.length := by have := (List.getElem?_eq_some_iff.1 hv).1; rwa [length_repCells] at this
  rw [get_repCells zs hz n j hj] at hv
  obtain ⟨x, hx, hrx⟩ := hr.get hv
  refine ⟨x, ?_, hrx⟩
  simp only [Array.getElem?_toList] at hx ⊢
  have hm : j % z.size < z.size := Nat.mod_lt _ (by omega)
  rw [← hl] at hx
  rw [Array.getElem?_eq_getElem hm] at hx
  simp only [Option.some.injEq] at hx
  simp [hj, hm, hx]

theorem alloc_sound (h : HR B ρ H w) {e : TypeId} {ie : TypeInfo} {z : Value} {zv : AV} {cs : List AV} {r : Nat × Heap} (hi : P.info? e = some ie) (hz : ie.zero = some z) (hc : conv z = some zv)
    (hcs : zv.cells = some cs) (hn : newCells H (some e) ie.size cs = some r) : SV B P ρ w (Instr.alloc e true (.tuple #[])) (.ptr r.1 0) r.2 := by
  obtain ⟨ρ', h1, h2, h3, h4⟩ := newCells_sound (P := P) h hn (cells_sound hcs (conv_rel hc ρ))
  refine ⟨.pointer (some ⟨w.heap.size, 0, none⟩), _, ρ', ?_, h3, h2, ⟨_, h4, rfl⟩⟩
  simp [Instr.alloc, zeroValue_run hi hz, newVar, h1]

theorem box_sound (h : HR B ρ H w) {e : TypeId} {es : Nat} {v : AV} {x : Value} {cs : List AV} {r : Nat × Heap} (hv : Rel ρ v x)
    (hcs : v.cells = some cs) (hn : newCells H (some e) es cs = some r) : SV B P ρ w (Instr.box e x) (.ptr r.1 0) r.2 := by
  obtain ⟨ρ', h1, h2, h3, h4⟩ := newCells_sound (P := P) h hn (cells_sound hcs hv)
  refine ⟨.pointer (some ⟨w.heap.size, 0, none⟩), _, ρ', ?_, h3, h2, ⟨_, h4, rfl⟩⟩
  simp [Instr.box, newVar, h1]

theorem aBuildSlice_sound (h : HR B ρ H w) {t : TypeId} {len : Nat} {ps : List (Nat × AV)} {ps' : Array (Nat × Value)} {r : AV × Heap} (hp : RelP ρ ps ps'.toList)
    (hb : aBuildSlice P H t len ps = some r) : SV B P ρ w (Instr.buildSlice t len ps') r.1 r.2 := by
  unfold aBuildSlice at hb
  cases hu : P.underlying t with
  | none => simp [hu] at hb
  | some d =>
    cases d <;> simp only [hu, Option.bind_some] at hb <;> try (cases hb; done)
    rename_i e
    cases hi : P.info? e with
    | none => simp [hi] at hb
    | some ie =>
      cases hz : ie.zero with
      | none => simp [hi, hz] at hb
      | some z =>
        cases hc : conv z with
        | none => simp [hi, hz, hc] at hb
        | some zv =>
          cases hcs : zv.cells with
          | none => simp [hi, hz, hc, hcs] at hb
          | some zs =>
            simp only [hi, hz, hc, hcs, Option.bind_some] at hb
            cases hg : (Nat.ble (len * ie.size) 16777216 && Nat.beq zs.length ie.size && !Nat.beq ie.size 0) with
            | false => rw [hg] at hb; cases hb
            | true =>
              rw [hg] at hb
              simp only [cond_true] at hb
              simp only [Bool.and_eq_true, Bool.not_eq_true'] at hg
              have g1 := Nat.le_of_ble_eq_true hg.1.1
              have g2 := Nat.eq_of_beq_eq_true hg.1.2
              have g3 := Nat.ne_of_beq_eq_false hg.2
              cases hf : aFill (fun i => some (i * ie.size, ie.size)) (repCells len zs) ps with
              | none => simp [hf] at hb
              | some cs =>
                simp only [hf, Option.bind_some] at hb
                cases hn : newCells H (some e) ie.size cs with
                | none => simp [hn] at hb
                | some q =>
                  simp [hn] at hb
                  subst hb
                  have hzr := cells_sound hcs (conv_rel hc ρ)
                  have hrr := repCells_rel hzr len (by omega)
                  obtain ⟨ys, hy1, hy2⟩ := aFill_sound _ hp hrr hf
                  obtain ⟨ρ', h1, h2, h3, h4⟩ := newCells_sound (P := P) h hn hy2
                  refine ⟨.slice (some ⟨w.heap.size, 0, none⟩) len len, _, ρ', ?_, h3, h2, ?_⟩
                  · have hn16 : ¬ (len * ie.size > 2 ^ 24) := by omega
                    by_cases h0 : len * ie.size = 0
                    · have hl0 : len = 0 := by
                        rcases Nat.mul_eq_zero.1 h0 with h | h
                        · exact h
                        · exact absurd h g3
                      subst hl0
                      rw [Nat.zero_mul, show Array.range 0 = #[] from rfl, Array.map_empty] at hy1
                      simp [Instr.buildSlice, run_underlying hu, sizeOf_run hi, show Array.range 0 = #[] from rfl, hy1, h1]
                    · rw [g2] at hy1
                      simp [Instr.buildSlice, run_underlying hu, sizeOf_run hi, hn16, h0, zeroValue_run hi hz, hy1, h1]
                  · exact ⟨_, len, h4, by simp, Nat.le_refl _, Nat.le_refl _, fun _ => rfl, fun hh => by cases hh⟩

theorem run_makeSlice' {t e : TypeId} {ie : TypeInfo} {z : Value} (hu : P.underlying t = some (.slice e)) (hi : P.info? e = some ie) (hz : ie.zero = some z) {k1 k2 : IntKind} {l c : Nat}
    (g1 : l ≤ c) (g2 : c ≤ 9223372036854775807) (g3 : ie.bytes * c ≤ 281474976710656) :
    (Instr.makeSlice t (.int k1 (Int.ofNat l)) (.int k2 (Int.ofNat c))).run P w =
      ((newRow e ((Array.range (c * ie.size)).map (fun i => z.cells[i % z.cells.size]!))).run P w).andThen fun a w => .ok (.slice (some a) l c) w := by
  have w1 : IntKind.i64.wrap (Int.ofNat l) = Int.ofNat l := wrap_i64 _ (by simp) (by simp; omega)
  have w2 : IntKind.i64.wrap (Int.ofNat c) = Int.ofNat c := wrap_i64 _ (by simp) (by simp; omega)
  have big : ¬ ((ie.bytes : Int) * (c : Int) > 281474976710656) := by
    rw [← Int.natCast_mul]; omega
  have hlc : ¬ ((l : Int) > (c : Int)) := by omega
  have hneg : ¬ ((c : Int) < 0 ∨ (l : Int) < 0) := by omega
  simp only [Instr.makeSlice, Sem.run_bind, run_underlying hu, Result.andThen_ok, asInt, asIntOf, Sem.run_pure, typeInfo_run hi, w1, w2]
  simp [big, hlc, hneg, sizeOf_run hi]
  by_cases h0 : c * ie.size = 0
  · simp [h0, show Array.range 0 = #[] from rfl]
  · simp [h0, zeroValue_run hi hz]

theorem aMakeSlice_sound (h : HR B ρ H w) {t : TypeId} {l c : AV} {x y : Value} {r : AV × Heap} (hl : Rel ρ l x) (hcp : Rel ρ c y)
    (hb : aMakeSlice P H t l c = some r) : SV B P ρ w (Instr.makeSlice t x y) r.1 r.2 := by
  unfold aMakeSlice at hb
  cases hu : P.underlying t with
  | none => simp [hu] at hb
  | some d =>
    cases d <;> simp only [hu, Option.bind_some] at hb <;> try (cases hb; done)
    rename_i e
    cases hi : P.info? e with
    | none => simp [hi] at hb
    | some ie =>
      cases hz : ie.zero with
      | none => simp [hi, hz] at hb
      | some z =>
        cases hc : conv z with
        | none => simp [hi, hz, hc] at hb
        | some zv =>
          cases hcs : zv.cells with
          | none => simp [hi, hz, hc, hcs] at hb
          | some zs =>
            simp only [hi, hz, hc, hcs, Option.bind_some] at hb
            split at hb
            · rename_i k1 l k2 c
              cases hg : (Nat.ble l c && Nat.ble c 9223372036854775807 && Nat.ble (ie.bytes * c) 281474976710656 && Nat.beq zs.length ie.size && !Nat.beq ie.size 0) with
              | false => rw [hg] at hb; cases hb
              | true =>
                rw [hg] at hb
                simp only [cond_true] at hb
                simp only [Bool.and_eq_true, Bool.not_eq_true'] at hg
                obtain ⟨⟨⟨⟨g1, g2⟩, g3⟩, g4⟩, g5⟩ := hg
                have g1 := Nat.le_of_ble_eq_true g1
                have g2 := Nat.le_of_ble_eq_true g2
                have g3 := Nat.le_of_ble_eq_true g3
                have g4 := Nat.eq_of_beq_eq_true g4
                have g5 := Nat.ne_of_beq_eq_false g5
                cases hn : newCells H (some e) ie.size (repCells c zs) with
                | none => simp [hn] at hb
                | some q =>
                  simp [hn] at hb
                  subst hb
                  simp only [Rel] at hl hcp
                  subst hl; subst hcp
                  have hzr := cells_sound hcs (conv_rel hc ρ)
                  have hrr := repCells_rel hzr c (by omega)
                  rw [g4] at hrr
                  obtain ⟨ρ', h1, h2, h3, h4⟩ := newCells_sound (P := P) h hn hrr
                  refine ⟨.slice (some ⟨w.heap.size, 0, none⟩) l c, _, ρ', ?_, h3, h2, ?_⟩
                  · rw [run_makeSlice' hu hi hz g1 g2 g3, h1]; rfl
                  · exact ⟨_, c, h4, by simp, g1, Nat.le_refl _, fun _ => rfl, fun hh => by cases hh⟩
            · cases hb

end
end Go.AM
namespace Go.AM
open Go.RowKit
section
variable {B : Nat} {ρ : Env} {H : Heap} {w : World} {P : Program}

def AeqOk (P : Program) (ρ : Env) (eq : TypeId → AV → AV → Option Bool) (d : Nat) : Prop :=
  ∀ (t : TypeId) (a b : AV) (r : Bool) (x y : Value) (w : World), Rel ρ a x → Rel ρ b y → eq t a b = some r → (Op.equalIn d t x y).run P w = .ok r w

theorem aeqF_sound {eq : TypeId → AV → AV → Option Bool} {d : Nat} (he : AeqOk P ρ eq d) {xs ys : List AV} {xs' ys' : Array Value} (hx : RelL ρ xs xs'.toList) (hy : RelL ρ ys ys'.toList) :
    ∀ {fs : List Field} {r : Bool}, aeqF P eq xs ys fs = some r → (Op.eqFields d xs' ys' fs).run P w = .ok r w
  | [], r, h => by simp [aeqF] at h; subst h; simp [Op.eqFields]
  | f :: fs, r, h => by
    simp only [aeqF] at h
    simp only [Op.eqFields]
    cases hn : f.name == "_" with
    | true =>
      simp only [hn, cond_true] at h
      rw [if_neg (by simpa using hn)]
      exact aeqF_sound he hx hy h
    | false =>
      simp only [hn, cond_false] at h
      rw [if_pos (by simpa using hn)]
      cases h1 : apart P f.type xs f.offset with
      | none => simp [h1] at h
      | some a =>
        cases h2 : apart P f.type ys f.offset with
        | none => simp [h1, h2] at h
        | some b =>
          cases h3 : eq f.type a b with
          | none => simp [h1, h2, h3] at h
          | some q =>
            simp only [h1, h2, h3, Option.bind_some] at h
            obtain ⟨x, hx1, hx2⟩ := apart_sound (w := w) h1 hx
            obtain ⟨y, hy1, hy2⟩ := apart_sound (w := w) h2 hy
            have h4 := he f.type a b q x y w hx2 hy2 h3
            simp only [Sem.run_bind, hx1, hy1, h4, Result.andThen_ok]
            cases q with
            | true => simp only [cond_true] at h; simpa using aeqF_sound he hx hy h
            | false => simp only [cond_false, Option.some.injEq] at h; subst h; simp

theorem aeqN_sound {eq : TypeId → AV → AV → Option Bool} {d : Nat} (he : AeqOk P ρ eq d) {e n : Nat} {xs ys : List AV} {xs' ys' : Array Value} (hx : RelL ρ xs xs'.toList) (hy : RelL ρ ys ys'.toList) :
    ∀ {k i : Nat} {r : Bool}, aeqN P eq e n xs ys k i = some r →
      ((do for i in List.range' i k do
            if !(← Op.equalIn d e (← part e xs' (i * n)) (← part e ys' (i * n))) then return false
           pure true : Sem Bool)).run P w = .ok r w
  | 0, i, r, h => by simp [aeqN] at h; subst h; simp
  | k + 1, i, r, h => by
    simp only [aeqN] at h
    cases h1 : apart P e xs (i * n) with
    | none => simp [h1] at h
    | some a =>
      cases h2 : apart P e ys (i * n) with
      | none => simp [h1, h2] at h
      | some b =>
        cases h3 : eq e a b with
        | none => simp [h1, h2, h3] at h
        | some q =>
          simp only [h1, h2, h3, Option.bind_some] at h
          obtain ⟨x, hx1, hx2⟩ := apart_sound (w := w) h1 hx
          obtain ⟨y, hy1, hy2⟩ := apart_sound (w := w) h2 hy
          have h4 := he e a b q x y w hx2 hy2 h3
          cases q with
          | true =>
            simp only [cond_true] at h
            have := aeqN_sound he hx hy h
            simpa [List.range'_succ, hx1, hy1, h4] using this
          | false =>
            simp only [cond_false, Option.some.injEq] at h; subst h
            simp [List.range'_succ, hx1, hy1, h4]

theorem aeq_sound : ∀ (d : Nat), AeqOk P ρ (aeq P d) d := by
  intro d
  induction d with
  | zero => intro t a b r x y w _ _ h; simp [aeq] at h
  | succ d ih =>
    intro t a b r x y w ha hb h
    unfold aeq at h
    cases hu : P.underlying t with
    | none => simp [hu] at h
    | some u =>
      simp only [hu, Option.bind_some] at h
      split at h
      · simp only [Rel] at ha hb; subst ha; subst hb; cases h; simp [Op.equalIn, run_underlying hu]
      · rename_i k0 k a k' b
        simp only [Rel] at ha hb; subst ha; subst hb
        by_cases hk : k = k'
        · simp [hk] at h; subst h; simp [Op.equalIn, run_underlying hu, hk]
        · simp [hk] at h
      · simp only [Rel] at ha hb; subst ha; subst hb; cases h
        rw [run_equalIn_string w d t _ _ hu, eqB_eq, ByteArray.toList_eq, ByteArray.toList_eq]
      · simp only [Rel] at ha hb; subst ha; subst hb; cases h; simp [Op.equalIn, run_underlying hu]
      · simp only [Rel] at ha hb; obtain ⟨_, _, rfl⟩ := hb; subst ha; cases h; simp [Op.equalIn, run_underlying hu]
      · simp only [Rel] at ha hb; obtain ⟨_, _, rfl⟩ := ha; subst hb; cases h; simp [Op.equalIn, run_underlying hu]
      · rename_i e i a j b
        simp only [Rel] at ha hb
        obtain ⟨e1, he1, rfl⟩ := ha
        obtain ⟨e2, he2, rfl⟩ := hb
        cases hij : Nat.beq i j with
        | false => simp [hij] at h
        | true =>
          have := Nat.eq_of_beq_eq_true hij
          subst this
          have e12 : e1 = e2 := by rw [he1] at he2; exact Option.some.inj he2
          subst e12
          simp only [hij, cond_true] at h
          cases hi : P.info? e with
          | none => simp [hi] at h
          | some inf =>
            simp only [hi, Option.bind_some] at h
            cases hz : Nat.beq inf.size 0 with
            | true => simp [hz] at h
            | false =>
              simp [hz] at h
              subst h
              have hne := Nat.ne_of_beq_eq_false hz
              simp only [Op.equalIn, Sem.run_bind, run_underlying hu, Result.andThen_ok, sizeOf_run hi]
              rw [if_pos hne]
              simp [sameAddr]
              rw [Bool.eq_iff_iff]; simp
      · rename_i fs xs ys
        simp only [Rel] at ha hb
        obtain ⟨xs', rfl, hx⟩ := ha
        obtain ⟨ys', rfl, hy⟩ := hb
        cases hp : P.stoodInHeld t with
        | true => simp [hp] at h
        | false =>
          simp only [hp, cond_false] at h
          have hf : P.fieldsOf t = fs := by unfold Program.fieldsOf; rw [hu]
          rw [run_equalIn_struct w d t xs' ys' (by rw [hf]; exact hu) hp, hf]
          exact aeqF_sound ih hx hy h
      · rename_i n e xs ys
        simp only [Rel] at ha hb
        obtain ⟨xs', rfl, hx⟩ := ha
        obtain ⟨ys', rfl, hy⟩ := hb
        cases hi : P.info? e with
        | none => simp [hi] at h
        | some inf =>
          simp only [hi, Option.bind_some] at h
          have := aeqN_sound (w := w) ih hx hy h
          simp only [Op.equalIn, Sem.run_bind, run_underlying hu, Result.andThen_ok, sizeOf_run hi]
          rw [Std.Legacy.Range.forIn_eq_forIn_range']
          simpa [Std.Legacy.Range.size] using this
      all_goals
        first
          | (cases h; done)
          | (simp only [Rel] at ha hb
             first
               | (subst ha; subst hb; cases h; simp [Op.equalIn, run_underlying hu]; done)
               | (subst ha; obtain ⟨_, _, _, rfl, _⟩ := hb; cases h; simp [Op.equalIn, run_underlying hu]; done)
               | (subst ha; obtain ⟨_, _, rfl, _⟩ := hb; cases h; simp [Op.equalIn, run_underlying hu]; done)
               | (subst ha; obtain ⟨_, _, rfl⟩ := hb; cases h; simp [Op.equalIn, run_underlying hu]; done)
               | (subst ha; obtain ⟨_, rfl, _⟩ := hb; cases h; simp [Op.equalIn, run_underlying hu]; done)
               | (subst hb; obtain ⟨_, _, _, rfl, _⟩ := ha; cases h; simp [Op.equalIn, run_underlying hu]; done)
               | (subst hb; obtain ⟨_, _, rfl, _⟩ := ha; cases h; simp [Op.equalIn, run_underlying hu]; done)
               | (subst hb; obtain ⟨_, _, rfl⟩ := ha; cases h; simp [Op.equalIn, run_underlying hu]; done)
               | (subst hb; obtain ⟨_, rfl, _⟩ := ha; cases h; simp [Op.equalIn, run_underlying hu]; done))

theorem eqGuard_ok {op : BinOp} {t : TypeId} {ox oy : Operand} {a b : AV} {x y : Value} (ha : Rel ρ a x) (hb : Rel ρ b y)
    (h1 : ∀ cs ds, a = .agg cs → b = .agg ds → P.eqGuardType P.depth t = false) (h2 : a = .nilIface → b = .nilIface → (isConstB ox || isConstB oy) = true) :
    (eqGuard op t ox oy x y).run P w = .ok () w := by
  have hagg : ∀ xs ys, P.eqGuardType P.depth t = false → (eqGuard op t ox oy (.agg xs) (.agg ys)).run P w = .ok () w := by
    intro xs ys h
    cases op <;> first
      | rfl
      | simp [eqGuard, h]
  have hpure : eqGuard op t ox oy x y = pure () → (eqGuard op t ox oy x y).run P w = .ok () w := fun h => by rw [h]; rfl
  cases a with
  | nilIface =>
    simp only [Rel] at ha; subst ha
    cases b with
    | nilIface =>
      simp only [Rel] at hb; subst hb
      have h3 := h2 rfl rfl
      apply hpure
      cases ox with
      | const c => exact eqGuard_nil_constL ..
      | _ =>
        cases oy with
        | const c => exact eqGuard_nil_constR ..
        | _ => simp [isConstB] at h3
    | _ =>
      simp only [Rel, CTy.Rd] at hb
      apply hpure
      first
        | (subst hb; cases op <;> rfl)
        | (obtain ⟨rfl, _⟩ := hb; cases op <;> rfl)
        | (obtain ⟨_, _, _, _, rfl⟩ := hb; cases op <;> rfl)
        | (obtain ⟨_, _, _, _, rfl, _⟩ := hb; cases op <;> rfl)
        | (obtain ⟨_, _, rfl⟩ := hb; cases op <;> rfl)
        | (obtain ⟨_, rfl, _⟩ := hb; cases op <;> rfl)
        | (obtain ⟨_, _, rfl, _⟩ := hb; cases op <;> rfl)
        | (obtain ⟨_, _, _, rfl, _⟩ := hb; cases op <;> rfl)
  | agg cs =>
    simp only [Rel] at ha
    obtain ⟨xs, rfl, _⟩ := ha
    cases b with
    | agg ds =>
      simp only [Rel] at hb
      obtain ⟨ys, rfl, _⟩ := hb
      exact hagg _ _ (h1 cs ds rfl rfl)
    | _ =>
      simp only [Rel, CTy.Rd] at hb
      apply hpure
      first
        | (subst hb; cases op <;> rfl)
        | (obtain ⟨rfl, _⟩ := hb; cases op <;> rfl)
        | (obtain ⟨_, _, _, _, rfl⟩ := hb; cases op <;> rfl)
        | (obtain ⟨_, _, _, _, rfl, _⟩ := hb; cases op <;> rfl)
        | (obtain ⟨_, _, rfl⟩ := hb; cases op <;> rfl)
        | (obtain ⟨_, rfl, _⟩ := hb; cases op <;> rfl)
        | (obtain ⟨_, _, rfl, _⟩ := hb; cases op <;> rfl)
        | (obtain ⟨_, _, _, rfl, _⟩ := hb; cases op <;> rfl)
  | _ =>
    simp only [Rel, CTy.Rd] at ha
    apply hpure
    first
      | (subst ha; cases op <;> rfl)
      | (obtain ⟨rfl, _⟩ := ha; cases op <;> rfl)
        | (obtain ⟨_, _, _, _, rfl⟩ := ha; cases op <;> rfl)
        | (obtain ⟨_, _, _, _, rfl, _⟩ := ha; cases op <;> rfl)
        | (obtain ⟨_, _, rfl⟩ := ha; cases op <;> rfl)
      | (obtain ⟨_, rfl, _⟩ := ha; cases op <;> rfl)
      | (obtain ⟨_, _, rfl, _⟩ := ha; cases op <;> rfl)
      | (obtain ⟨_, _, _, rfl, _⟩ := ha; cases op <;> rfl)

theorem equal_nilIface {t : TypeId} {ms : Array (String × TypeId)} (hu : P.underlying t = some (.interface ms)) : (Op.equal t .nilIface .nilIface).run P w = .ok true w := by
  have h : ∀ d, (Op.equalIn (d + 1) t .nilIface .nilIface).run P w = .ok true w := fun d => by simp [Op.equalIn, run_underlying hu]
  exact h 9999

theorem binOp_eql_any {t : TypeId} {x y : Value} {r : Bool} (hb : binOp .eql t x y = (do pure (.bool (← Op.equal t x y)))) (h : (Op.equal t x y).run P w = .ok r w) : (binOp .eql t x y).run P w = .ok (.bool r) w := by
  rw [hb]; simp only [Sem.run_bind, h, Result.andThen_ok, Sem.run_pure]
theorem binOp_neq_any {t : TypeId} {x y : Value} {r : Bool} (hb : binOp .neq t x y = (do pure (.bool (!(← Op.equal t x y))))) (h : (Op.equal t x y).run P w = .ok r w) : (binOp .neq t x y).run P w = .ok (.bool (!r)) w := by
  rw [hb]; simp only [Sem.run_bind, h, Result.andThen_ok, Sem.run_pure]

theorem aeq_left {d : Nat} {t : TypeId} {a b : AV} (h : a.isX = true) : aeq P d t a b = none := by
  cases d with
  | zero => rfl
  | succ d =>
    unfold aeq
    cases P.underlying t with
    | none => rfl
    | some u => cases a <;> first | (exact Bool.noConfusion h) | (cases u <;> rfl)

theorem aeq_right {d : Nat} {t : TypeId} {a b : AV} (h : b.isX = true) : aeq P d t a b = none := by
  cases d with
  | zero => rfl
  | succ d =>
    unfold aeq
    cases P.underlying t with
    | none => rfl
    | some u => cases b <;> first | (exact Bool.noConfusion h) | (cases u <;> first | rfl | (cases a <;> rfl))

theorem aBin_sound {op : BinOp} {t : TypeId} {ox oy : Operand} {a b v : AV} {x y : Value} (ha : Rel ρ a x) (hb : Rel ρ b y) (h : aBin P op t ox oy a b = some v) :
    ∃ z, ((do eqGuard op t ox oy x y; binOp op t x y) : Sem Value).run P w = .ok z w ∧ Rel ρ v z := by
  have heq := aeq_sound (P := P) (ρ := ρ) Op.maxDepth
  unfold aBin at h
  split at h
  · rename_i k a k' b
    rw [Option.bind_eq_some_iff] at h
    obtain ⟨z, h1, h2⟩ := h
    simp only [Rel] at ha hb; subst ha; subst hb
    exact ⟨z, by simp [eqGuard_at_int, pureOf_run h1], convS_rel h2 ρ⟩
  · rename_i a b
    simp only [Rel] at ha hb; subst ha; subst hb
    have hg : eqGuard op t ox oy (.string ⟨a.toArray⟩) (.string ⟨b.toArray⟩) = pure () := eqGuard_at_string ..
    have hbin : binOp op t (.string ⟨a.toArray⟩) (.string ⟨b.toArray⟩) = Op.stringOp op ⟨a.toArray⟩ ⟨b.toArray⟩ := by cases op <;> rfl
    have hs1 : (⟨a.toArray⟩ : ByteArray).size = a.length := by simp [ByteArray.size]
    have hs2 : (⟨b.toArray⟩ : ByteArray).size = b.length := by simp [ByteArray.size]
    rw [hg, hbin]
    split at h
    · cases hle : Nat.ble (a.length + b.length) 9223372036854775807 with
      | false => rw [hle] at h; cases h
      | true =>
        rw [hle] at h
        simp only [cond_true, Option.some.injEq] at h
        subst h
        have := Nat.le_of_ble_eq_true hle
        refine ⟨.string ⟨(a ++ b).toArray⟩, ?_, by simp [Rel]⟩
        have hnot : ¬ (((⟨a.toArray⟩ : ByteArray).size + (⟨b.toArray⟩ : ByteArray).size : Nat) : Int) > IntKind.i64.max := by
          rw [hs1, hs2, IntKind.max_i64]; omega
        simp only [Op.stringOp, Sem.run_bind, Sem.run_pure, Result.andThen_ok]
        rw [if_neg hnot]
        simp only [Sem.run_pure]
        congr 2
    all_goals first
      | (cases h; done)
      | (cases h; refine ⟨_, by simp only [Op.stringOp, Sem.run_bind, Sem.run_pure, Result.andThen_ok]; rfl, ?_⟩; simp [Rel, eqB_eq, ltB_eq, ByteArray.toList_eq])
  · simp only [Rel] at ha hb; subst ha; subst hb
    cases hc : (isConstB ox || isConstB oy) with
    | false => rw [hc] at h; cases h
    | true =>
      rw [hc] at h
      simp only [cond_true] at h
      have hg := eqGuard_ok (P := P) (w := w) (op := op) (t := t) (ox := ox) (oy := oy) (ρ := ρ) (a := .nilIface) (b := .nilIface) (x := .nilIface) (y := .nilIface) (by simp [Rel]) (by simp [Rel])
        (fun cs ds h1 _ => by cases h1) (fun _ _ => hc)
      cases hu : P.underlying t with
      | none => simp [hu] at h
      | some u =>
        simp only [hu, Option.bind_some] at h
        split at h
        · cases h
          exact ⟨.bool true, by simp only [Sem.run_bind, hg, Result.andThen_ok]; exact binOp_eql_any rfl (equal_nilIface hu), by simp [Rel]⟩
        · cases h
          exact ⟨.bool false, by simp only [Sem.run_bind, hg, Result.andThen_ok]; exact binOp_neq_any rfl (equal_nilIface hu), by simp [Rel]⟩
        · cases h
  · rename_i xs ys
    cases hg0 : P.eqGuardType P.depth t with
    | true => rw [hg0] at h; cases h
    | false =>
      rw [hg0] at h
      simp only [cond_false] at h
      have hg := eqGuard_ok (P := P) (w := w) (op := op) (t := t) (ox := ox) (oy := oy) ha hb (fun _ _ _ _ => hg0) (fun h1 _ => by cases h1)
      simp only [Rel] at ha hb
      have ha' : Rel ρ (.agg xs) x := ha
      have hb' : Rel ρ (.agg ys) y := hb
      obtain ⟨xs', rfl, _⟩ := ha
      obtain ⟨ys', rfl, _⟩ := hb
      split at h
      · rw [Option.map_eq_some_iff] at h
        obtain ⟨r, h1, rfl⟩ := h
        exact ⟨.bool r, by simp only [Sem.run_bind, hg, Result.andThen_ok]; exact binOp_eql_any rfl (heq t _ _ _ _ _ w ha' hb' h1), by simp [Rel]⟩
      · rw [Option.map_eq_some_iff] at h
        obtain ⟨r, h1, rfl⟩ := h
        exact ⟨.bool (!r), by simp only [Sem.run_bind, hg, Result.andThen_ok]; exact binOp_neq_any rfl (heq t _ _ _ _ _ w ha' hb' h1), by simp [Rel]⟩
      · cases h
  · rename_i hn1 hn2 hn3 hn4
    have hg := eqGuard_ok (P := P) (w := w) (op := op) (t := t) (ox := ox) (oy := oy) ha hb (fun cs ds e1 e2 => (hn4 cs ds e1 e2).elim) (fun e1 e2 => (hn3 e1 e2).elim)
    have hb2 : ∀ r : Bool, aeq P Op.maxDepth t a b = some r → binOp .eql t x y = (do pure (.bool (← Op.equal t x y))) ∧ binOp .neq t x y = (do pure (.bool (!(← Op.equal t x y)))) := by
      intro r hr'
      have hsa : a.isX = false := by
        cases hh : a.isX with
        | false => rfl
        | true => rw [aeq_left hh] at hr'; cases hr'
      have hsb : b.isX = false := by
        cases hh : b.isX with
        | false => rfl
        | true => rw [aeq_right hh] at hr'; cases hr'
      clear hr'
      cases a <;> first
        | (exact Bool.noConfusion hsa)
        | (simp only [Rel] at ha <;>
          (first
            | subst ha
            | obtain ⟨_, _, rfl⟩ := ha
            | obtain ⟨_, rfl, _⟩ := ha
            | obtain ⟨_, _, rfl, _⟩ := ha
            | obtain ⟨_, _, _, rfl, _⟩ := ha) <;>
          first
            | exact ⟨rfl, rfl⟩
            | (cases b <;> first
                | (exact Bool.noConfusion hsb)
                | (simp only [Rel] at hb <;>
                  (first
                    | subst hb
                    | obtain ⟨_, _, rfl⟩ := hb
                    | obtain ⟨_, rfl, _⟩ := hb
                    | obtain ⟨_, _, rfl, _⟩ := hb
                    | obtain ⟨_, _, _, rfl, _⟩ := hb) <;>
                  first
                    | exact ⟨rfl, rfl⟩
                    | exact (hn1 _ _ _ _ rfl rfl).elim
                    | exact (hn2 _ _ rfl rfl).elim)))
    split at h
    · rw [Option.map_eq_some_iff] at h
      obtain ⟨r, h1, rfl⟩ := h
      exact ⟨.bool r, by simp only [Sem.run_bind, hg, Result.andThen_ok]; exact binOp_eql_any (hb2 r h1).1 (heq t _ _ _ _ _ w ha hb h1), by simp [Rel]⟩
    · rw [Option.map_eq_some_iff] at h
      obtain ⟨r, h1, rfl⟩ := h
      exact ⟨.bool (!r), by simp only [Sem.run_bind, hg, Result.andThen_ok]; exact binOp_neq_any (hb2 r h1).2 (heq t _ _ _ _ _ w ha hb h1), by simp [Rel]⟩
    · cases h
end
end Go.AM
set_option linter.unusedSimpArgs false
set_option linter.unusedVariables false
namespace Go.AM
open Go.RowKit
section
variable {B : Nat} {ρ : Env} {H : Heap} {w : World} {P : Program}

theorem EntL.length : ∀ {es : List Ent} {xs : List MapEntry}, EntL ρ es xs → xs.length = es.length
  | [], _, h => by simp only [EntL] at h; subst h; rfl
  | e :: es, _, h => by
    obtain ⟨y, ys, rfl, _, _, _, h4⟩ := h
    simp [EntL.length h4]

theorem EntL.get : ∀ {es : List Ent} {xs : List MapEntry}, EntL ρ es xs → ∀ {j : Nat} {e : Ent}, es[j]? = some e → ∃ y, xs[j]? = some y ∧ Rel ρ e.key y.key ∧ Rel ρ e.val y.val ∧ y.born = e.born
  | [], _, _, j, e, he => by simp at he
  | e0 :: es, _, h, j, e, he => by
    obtain ⟨y, ys, rfl, h1, h2, h3, h4⟩ := h
    cases j with
    | zero => simp at he; subst he; exact ⟨y, by simp, h1, h2, h3⟩
    | succ j => simp at he; obtain ⟨z, hz, hr⟩ := h4.get he; exact ⟨z, by simpa using hz, hr⟩

theorem EntL.append : ∀ {es es' : List Ent} {xs xs' : List MapEntry}, EntL ρ es xs → EntL ρ es' xs' → EntL ρ (es ++ es') (xs ++ xs')
  | [], _, _, _, h, h' => by simp only [EntL] at h; subst h; exact h'
  | e :: es, _, _, _, h, h' => by
    obtain ⟨y, ys, rfl, h1, h2, h3, h4⟩ := h
    exact ⟨y, _, rfl, h1, h2, h3, h4.append h'⟩

theorem EntL.set : ∀ {es : List Ent} {xs : List MapEntry} (_ : EntL ρ es xs) (j : Nat) {e : Ent} {y : MapEntry}, Rel ρ e.key y.key → Rel ρ e.val y.val → y.born = e.born → EntL ρ (es.set j e) (xs.set j y)
  | [], _, h, _, _, _, _, _, _ => by simp only [EntL] at h; subst h; rfl
  | e0 :: es, _, h, 0, _, _, h1, h2, h3 => by
    obtain ⟨y, ys, rfl, _, _, _, h4⟩ := h
    exact ⟨_, _, rfl, h1, h2, h3, h4⟩
  | e0 :: es, _, h, j + 1, _, _, h1, h2, h3 => by
    obtain ⟨y, ys, rfl, g1, g2, g3, h4⟩ := h
    exact ⟨_, _, rfl, g1, g2, g3, h4.set j h1 h2 h3⟩

theorem EntL.eraseIdx : ∀ {es : List Ent} {xs : List MapEntry} (_ : EntL ρ es xs) (j : Nat), EntL ρ (es.eraseIdx j) (xs.eraseIdx j)
  | [], _, h, _ => by simp only [EntL] at h; subst h; rfl
  | e0 :: es, _, h, 0 => by
    obtain ⟨y, ys, rfl, _, _, _, h4⟩ := h
    exact h4
  | e0 :: es, _, h, j + 1 => by
    obtain ⟨y, ys, rfl, g1, g2, g3, h4⟩ := h
    exact ⟨_, _, rfl, g1, g2, g3, h4.eraseIdx j⟩

theorem eqAt {kt : TypeId} {k e : AV} {r : Bool} {x y : Value} (hk : Rel ρ k x) (he : Rel ρ e y) (h : aeq P Op.maxDepth kt k e = some r) (w : World) : (Op.equal kt x y).run P w = .ok r w :=
  aeq_sound (P := P) (ρ := ρ) Op.maxDepth kt k e r x y w hk he h

theorem sameNow_eq {kt : TypeId} {u : TypeDesc} (hu : P.underlying kt = some u) {x y : Value} {r b : Bool} (h : ∀ w, (Op.equal kt x y).run P w = .ok r w) (hs : Instr.sameNow u x y = some b) : b = r := by
  have h0 := h default
  have key : ∀ q w, (Op.equalIn (9999 + 1) kt x y).run P w = .ok q w → q = r := fun q w hq => by
    have : (Op.equal kt x y).run P w = .ok q w := hq
    rw [h w] at this
    simpa using this.symm
  unfold Instr.sameNow at hs
  split at hs
  · rename_i k0 k a k' c
    by_cases e : k = k'
    · subst e
      simp at hs
      subst hs
      exact key _ default (run_equalIn_int default 9999 kt k k0 a c hu)
    · simp [e] at hs
  · cases hs
    rename_i a c
    have := key _ default (run_equalIn_string default 9999 kt a c hu)
    rw [← this, beq_toListBytes]
  · cases hs
    exact key _ default (run_equalIn_bool' default 9999 kt _ _ hu)
  · cases hs

def foundAt (r : Option (Nat × Ent)) (i : Nat) (xs : List MapEntry) (q : Option (Nat × Value)) : Prop :=
  match r with
  | none => q = none
  | some (j, _) => i ≤ j ∧ ∃ y, xs[j - i]? = some y ∧ q = some (j, y.val)

theorem aFind_asking {kt : TypeId} {k : AV} {x : Value} (hk : Rel ρ k x) : ∀ {es : List Ent} {xs : List MapEntry} {i : Nat} {r : Option (Nat × Ent)}, EntL ρ es xs → aFind P kt k es i = some r →
    ∃ q, (∀ w, (Instr.findAsking kt x xs i).run P w = .ok q w) ∧ foundAt r i xs q ∧ (∀ u q', P.underlying kt = some u → Instr.findNow u x xs i = some q' → q' = q) ∧
      (∀ j e, r = some (j, e) → es[j - i]? = some e)
  | [], _, i, r, he, h => by
    simp only [EntL] at he; subst he
    simp [aFind] at h; subst h
    exact ⟨none, fun w => rfl, rfl, fun u q' _ hq => by simp [Instr.findNow] at hq; exact hq.symm, fun j e h => by cases h⟩
  | e :: es, _, i, r, he, h => by
    obtain ⟨y, ys, rfl, h1, h2, h3, h4⟩ := he
    simp only [aFind] at h
    cases ha : aeq P Op.maxDepth kt k e.key with
    | none => simp [ha] at h
    | some b =>
      simp only [ha, Option.bind_some] at h
      have hq := fun w => eqAt hk h1 ha w
      cases b with
      | true =>
        simp at h
        subst h
        refine ⟨some (i, y.val), fun w => by simp [Instr.findAsking, hq], ⟨Nat.le_refl _, y, by simp, rfl⟩, fun u q' hu hn => ?_, fun j e' hj => by cases hj; simp⟩
        simp only [Instr.findNow] at hn
        cases hs : Instr.sameNow u x y.key with
        | none => simp [hs] at hn
        | some c =>
          have := sameNow_eq hu hq hs
          subst this
          simp [hs] at hn
          exact hn.symm
      | false =>
        simp only [cond_false] at h
        obtain ⟨q, g1, g2, g3, g4⟩ := aFind_asking hk h4 h
        refine ⟨q, fun w => by simp [Instr.findAsking, hq, g1], ?_, fun u q' hu hn => ?_, fun j e' hj => ?_⟩
        · unfold foundAt at g2 ⊢
          split
          · exact g2
          · obtain ⟨hle, z, hz, hqz⟩ := g2
            refine ⟨by omega, z, ?_, hqz⟩
            rename_i j e'
            rw [show j - i = (j - (i + 1)) + 1 by omega]
            simpa using hz
        · simp only [Instr.findNow] at hn
          cases hs : Instr.sameNow u x y.key with
          | none => simp [hs] at hn
          | some c =>
            have := sameNow_eq hu hq hs
            subst this
            simp only [hs] at hn
            exact g3 u q' hu hn
        · have hj' := g4 j e' hj
          have hle : i + 1 ≤ j := by
            rw [hj] at g2
            exact g2.1
          rw [show j - i = (j - (i + 1)) + 1 by omega]
          simpa using hj'

theorem findKey_sound {kt : TypeId} {u : TypeDesc} (hu : P.underlying kt = some u) {k : AV} {x : Value} (hk : Rel ρ k x) {es : List Ent} {xs : List MapEntry} {r : Option (Nat × Ent)} (he : EntL ρ es xs)
    (h : aFind P kt k es 0 = some r) : ∃ q, (Instr.findKey kt x xs).run P w = .ok q w ∧ foundAt r 0 xs q ∧ (∀ j e, r = some (j, e) → es[j]? = some e) := by
  obtain ⟨q, g1, g2, g3, g4⟩ := aFind_asking hk he h
  refine ⟨q, ?_, g2, fun j e hj => by simpa using g4 j e hj⟩
  simp only [Instr.findKey, Sem.run_bind, run_underlying hu, Result.andThen_ok]
  cases hn : Instr.findNow u x xs 0 with
  | some q' => rw [g3 u q' hu hn]; rfl
  | none => exact g1 w

theorem aCheckF_sound (w : World) {chk : TypeId → AV → Bool} {d : Nat} {emp : Bool} (hc : ∀ (t : TypeId) (v : AV) (x : Value) (w : World), Rel ρ v x → chk t v = true → (Instr.checkKey emp d t x).run P w = .ok () w)
    {cs : List AV} {xs : Array Value} (hx : RelL ρ cs xs.toList) : ∀ {fs : List Field}, aCheckF P chk cs fs = true →
    (forIn fs PUnit.unit (fun f _ => if f.name ≠ "_" then (do
        let a ← part f.type xs f.offset
        Instr.checkKey emp d f.type a
        pure (ForInStep.yield PUnit.unit)) else pure (ForInStep.yield PUnit.unit)) : Sem PUnit).run P w = .ok PUnit.unit w
  | [], _ => by simp
  | f :: fs, h => by
    simp only [aCheckF, Bool.and_eq_true] at h
    have ih := aCheckF_sound w hc hx h.2
    cases hn : f.name == "_" with
    | true =>
      have hne : ¬ (f.name ≠ "_") := by simpa using hn
      simp only [List.forIn_cons, Sem.run_bind, if_neg hne, Sem.run_pure, Result.andThen_ok]
      exact ih
    | false =>
      have hne : f.name ≠ "_" := by simpa using hn
      have h1 := h.1
      simp only [hn, cond_false] at h1
      cases ha : apart P f.type cs f.offset with
      | none => simp [ha] at h1
      | some v =>
        simp only [ha] at h1
        obtain ⟨y, hy1, hy2⟩ := apart_sound (w := w) ha hx
        have := hc f.type v y w hy2 h1
        simp only [List.forIn_cons, Sem.run_bind, if_pos hne, hy1, Result.andThen_ok, this, Sem.run_pure]
        exact ih

theorem aCheckKey_sound (emp : Bool) : ∀ (d : Nat) (t : TypeId) (v : AV) (x : Value) (w : World), Rel ρ v x → aCheckKey P d t v = true → (Instr.checkKey emp d t x).run P w = .ok () w := by
  intro d
  induction d with
  | zero => intro t v x w _ h; simp [aCheckKey] at h
  | succ d ih =>
    intro t v x w hr h
    unfold aCheckKey at h
    split at h
    · cases h
    · cases h
    · rename_i fs cs hu
      simp only [Rel] at hr
      obtain ⟨xs, rfl, hx⟩ := hr
      have := aCheckF_sound (P := P) w (emp := emp) ih hx h
      simp only [Instr.checkKey, Sem.run_bind, run_underlying hu, Result.andThen_ok]
      rw [← Array.forIn_toList, this]
      rfl
    · cases h
    · rename_i u h1 h2 h3 hu h5
      simp only [Instr.checkKey, Sem.run_bind, run_underlying hu, Result.andThen_ok]
      cases u <;> first
        | rfl
        | exact (h1 _ rfl).elim
        | exact (h2 _ _ rfl).elim
        | exact (h3 _ rfl).elim
    · cases h

theorem bytes_self (a : ByteArray) : (a == a) = true := by rw [beq_toListBytes]; simp

theorem plainEqL_eq : ∀ {xs ys : List AV} {as bs : List Value}, RelL ρ xs as → RelL ρ ys bs → plainEq.plainEqL xs ys = true → as = bs ∧ ∀ n, (as.zip bs).all (fun (x, y) => Instr.sameBits n x y) = true
  | [], [], as, bs, h1, h2, _ => by simp only [RelL] at h1 h2; subst h1; subst h2; exact ⟨rfl, fun n => rfl⟩
  | x :: xs, [], _, _, _, _, h => by cases x <;> simp [plainEq.plainEqL] at h
  | [], y :: ys, _, _, _, _, h => by simp [plainEq.plainEqL] at h
  | x :: xs, y :: ys, as, bs, h1, h2, h => by
    obtain ⟨a, as', rfl, ha, h1⟩ := h1
    obtain ⟨b, bs', rfl, hb, h2⟩ := h2
    unfold plainEq.plainEqL at h
    split at h
    · rename_i e1 e2; cases e1
    · rename_i e1 e2; cases e1; cases e2
      simp only [Bool.and_eq_true, beq_iff_eq] at h
      obtain ⟨g1, g2⟩ := plainEqL_eq h1 h2 h.2
      simp only [Rel] at ha hb
      subst ha; subst hb; subst g1
      have := h.1; subst this
      exact ⟨rfl, fun n => by simp only [List.zip_cons_cons, List.all_cons, g2 n, Bool.and_true]; cases n <;> simp [Instr.sameBits, bytes_self]⟩
    · rename_i e1 e2; cases e1; cases e2
      simp only [Bool.and_eq_true, beq_iff_eq, decide_eq_true_eq] at h
      obtain ⟨g1, g2⟩ := plainEqL_eq h1 h2 h.2
      simp only [Rel] at ha hb
      subst ha; subst hb; subst g1
      obtain ⟨k1, k2⟩ := h.1
      subst k1; subst k2
      exact ⟨rfl, fun n => by simp only [List.zip_cons_cons, List.all_cons, g2 n, Bool.and_true]; cases n <;> simp [Instr.sameBits, bytes_self]⟩
    · rename_i e1 e2; cases e1; cases e2
      simp only [Bool.and_eq_true, eqB_eq, beq_iff_eq] at h
      obtain ⟨g1, g2⟩ := plainEqL_eq h1 h2 h.2
      simp only [Rel] at ha hb
      subst ha; subst hb; subst g1
      have := h.1; subst this
      exact ⟨rfl, fun n => by simp only [List.zip_cons_cons, List.all_cons, g2 n, Bool.and_true]; cases n <;> simp [Instr.sameBits, bytes_self]⟩
    · cases h

theorem plainEq_eq {a b : AV} {x y : Value} (ha : Rel ρ a x) (hb : Rel ρ b y) (h : plainEq a b = true) : x = y ∧ Instr.sameBits 10000 x y = true := by
  unfold plainEq at h
  split at h
  · simp only [Rel] at ha hb; subst ha; subst hb; simp at h; subst h; exact ⟨rfl, by simp [Instr.sameBits, bytes_self]⟩
  · simp only [Rel] at ha hb; subst ha; subst hb; simp at h; obtain ⟨rfl, rfl⟩ := h; exact ⟨rfl, by simp [Instr.sameBits, bytes_self]⟩
  · simp only [Rel] at ha hb; subst ha; subst hb; simp [eqB_eq] at h; subst h; exact ⟨rfl, by simp [Instr.sameBits, bytes_self]⟩
  · simp only [Rel] at ha hb
    obtain ⟨xs, rfl, hx⟩ := ha
    obtain ⟨ys, rfl, hy⟩ := hb
    obtain ⟨g1, g2⟩ := plainEqL_eq hx hy h
    have : xs = ys := Array.ext' g1
    subst this
    refine ⟨rfl, ?_⟩
    show Instr.sameBits (9999 + 1) (.agg xs) (.agg xs) = true
    simp only [Instr.sameBits, beq_self_eq_true, Bool.true_and]
    exact g2 9999
  · cases h


theorem aMap_sound (h : HR B ρ H w) {m : AV} {x : Value} {es : List Ent} (hm : Rel ρ m x) (ha : aMap H m = some es) :
    ∃ xs : Array MapEntry, EntL ρ es xs.toList ∧ (x = .map none ∧ xs = #[] ∨ ∃ b clock, x = .map (some b) ∧ w.heap[b]? = some (.map xs clock)) := by
  unfold aMap at ha
  split at ha
  · cases ha
    simp only [Rel] at hm
    exact ⟨#[], rfl, .inl ⟨hm, rfl⟩⟩
  · rename_i i
    simp only [Rel] at hm
    obtain ⟨e, he, rfl⟩ := hm
    split at ha
    · rename_i es' clock ho
      cases ha
      obtain ⟨hnb, hB, arr, h1, h2⟩ := h.at' ho he
      exact ⟨arr, h2, .inr ⟨_, _, rfl, h1⟩⟩
    · cases ha
  · cases ha

theorem run_getObj_map {b : Nat} {xs : Array MapEntry} {clock : Nat} (h : w.heap[b]? = some (.map xs clock)) : (getObj b).run P w = .ok (.map xs clock) w := by
  simp [getObj, Sem.run, h]

theorem run_setObj_map {b : Nat} {xs : Array MapEntry} {clock : Nat} (O : Obj) (h : w.heap[b]? = some (.map xs clock)) :
    (setObj b O).run P w = .ok () { w with heap := w.heap.setIfInBounds b O } := by
  simp [setObj, Sem.run, h]

theorem aLookup_sound (h : HR B ρ H w) {t : TypeId} {m k v : AV} {x y : Value} {ok : Bool} (hm : Rel ρ m x) (hk : Rel ρ k y) (hl : aLookup P H t m k ok = some v) :
    ∃ z, (Instr.lookup t x y ok).run P w = .ok z w ∧ Rel ρ v z := by
  unfold aLookup at hl
  cases hu : P.underlying t with
  | none => simp [hu] at hl
  | some d =>
    cases d <;> simp only [hu, Option.bind_some] at hl <;> try (cases hl; done)
    rename_i kt et
    cases ha : aMap H m with
    | none => simp [ha] at hl
    | some es =>
      simp only [ha, Option.bind_some] at hl
      cases hc : aCheckKey P keyDepth kt k with
      | false => simp [hc] at hl
      | true =>
        simp only [hc, cond_true] at hl
        cases hf : aFind P kt k es 0 with
        | none => simp [hf] at hl
        | some r =>
          simp only [hf, Option.bind_some] at hl
          obtain ⟨xs, hxs, hx⟩ := aMap_sound h hm ha
          have hck := fun emp => aCheckKey_sound (P := P) (ρ := ρ) emp keyDepth kt k y w hk hc
          obtain ⟨uk, huk⟩ : ∃ uk, P.underlying kt = some uk := by
            unfold keyDepth aCheckKey at hc
            cases hq : P.underlying kt with
            | none => rw [hq] at hc; cases hc
            | some uk => exact ⟨uk, rfl⟩
          obtain ⟨q, hq1, hq2, hq3⟩ := findKey_sound (w := w) huk hk hxs hf
          have hck' : (Instr.checkKey xs.isEmpty 10000 kt y).run P w = .ok () w := hck xs.isEmpty
          cases r with
          | none =>
            simp only [foundAt] at hq2
            subst hq2
            simp only [] at hl
            cases hz : zeroA P et with
            | none => simp [hz] at hl
            | some z =>
              obtain ⟨zv, hz1, hz2⟩ := zeroA_sound (w := w) hz ρ
              simp [hz] at hl
              rcases hx with ⟨rfl, rfl⟩ | ⟨b, clock, rfl, hb⟩
              · have hck0 : (Instr.checkKey true 10000 kt y).run P w = .ok () w := hck true
                have hq0 : (Instr.findKey kt y []).run P w = .ok none w := hq1
                cases ok <;> simp at hl <;> subst hl
                · exact ⟨zv, by simp [Instr.lookup, run_underlying hu, hck0, hq0, hz1] , hz2⟩
                · exact ⟨.tuple #[zv, .bool false], by simp [Instr.lookup, run_underlying hu, hck0, hq0, hz1], ⟨_, rfl, by simp [RelL, Rel, hz2]⟩⟩
              · cases ok <;> simp at hl <;> subst hl
                · exact ⟨zv, by simp [Instr.lookup, run_underlying hu, run_getObj_map hb, hck', hq1, hz1] , hz2⟩
                · exact ⟨.tuple #[zv, .bool false], by simp [Instr.lookup, run_underlying hu, run_getObj_map hb, hck', hq1, hz1], ⟨_, rfl, by simp [RelL, Rel, hz2]⟩⟩
          | some je =>
            obtain ⟨j, e⟩ := je
            simp only [foundAt] at hq2
            obtain ⟨_, ye, hye, hqe⟩ := hq2
            subst hqe
            obtain ⟨ye', hye', _, hval, _⟩ := hxs.get (hq3 j e rfl)
            have : ye' = ye := by rw [Nat.sub_zero, hye'] at hye; exact Option.some.inj hye
            subst this
            simp at hl
            rcases hx with ⟨rfl, rfl⟩ | ⟨b, clock, rfl, hb⟩
            · simp at hye'
            · cases ok <;> simp at hl <;> subst hl
              · exact ⟨ye'.val, by simp [Instr.lookup, run_underlying hu, run_getObj_map hb, hck', hq1] , hval⟩
              · exact ⟨.tuple #[ye'.val, .bool true], by simp [Instr.lookup, run_underlying hu, run_getObj_map hb, hck', hq1], ⟨_, rfl, by simp [RelL, Rel, hval]⟩⟩


theorem modify_toList (arr : Array MapEntry) (j : Nat) (f : MapEntry → MapEntry) (y : MapEntry) (h : arr.toList[j]? = some y) : (arr.modify j f).toList = arr.toList.set j (f y) := by
  apply List.ext_getElem?
  intro i
  have hj : j < arr.toList.length := (List.getElem?_eq_some_iff.1 h).1
  rw [Array.getElem?_toList, Array.getElem?_modify, List.getElem?_set]
  by_cases hi : j = i
  · subst hi
    rw [if_pos rfl, if_pos rfl, if_pos hj, ← Array.getElem?_toList, h]; rfl
  · rw [if_neg hi, if_neg hi, Array.getElem?_toList]

theorem findIdx_toList (arr : Array MapEntry) (p : MapEntry → Bool) : arr.findIdx? p = arr.toList.findIdx? p := by
  cases arr; simp

theorem obj_turn (h : HR B ρ H w) {i : Nat} {o o' : AObj} {e : At} (ho : H.get i = some o) (he : ρ.ats[i]? = some e) (hnb : e.nb = false) (hB : B ≤ e.b) (O : Obj)
    (hr : ∀ w' : World, w'.heap[e.b]? = some O → ORel ρ B w' e o') :
    HR B ρ (H.set i o') { w with heap := w.heap.setIfInBounds e.b O } ∧ Ext B ρ w ρ { w with heap := w.heap.setIfInBounds e.b O } := by
  have hlt := (h.at' ho he).lt hnb
  have h1 : ({ w with heap := w.heap.setIfInBounds e.b O } : World).heap.size = w.heap.size := by simp
  have h2 : ∀ k, k ≠ e.b → ({ w with heap := w.heap.setIfInBounds e.b O } : World).heap[k]? = w.heap[k]? := fun k hk => by
    show (w.heap.setIfInBounds e.b O)[k]? = _
    rw [Array.getElem?_setIfInBounds_ne (Ne.symm hk)]
  exact ⟨h.turn ho he hnb hB _ h1 h2 (hr _ (by show (w.heap.setIfInBounds e.b O)[e.b]? = _; simp [hlt])), Ext.turn (Env.blk_of he hnb) hB h1 h2 rfl rfl rfl⟩

theorem underlying_of_check {kt : TypeId} {k : AV} (hc : aCheckKey P keyDepth kt k = true) : ∃ uk, P.underlying kt = some uk := by
  unfold keyDepth aCheckKey at hc
  cases hq : P.underlying kt with
  | none => rw [hq] at hc; cases hc
  | some uk => exact ⟨uk, rfl⟩

theorem keyStays {a b : AV} {x y : Value} (ha : Rel ρ a x) (hb : Rel ρ b y) (h : plainEq a b = true) : (Instr.keyThatStays x y).run P w = .ok y w := by
  have := (plainEq_eq ha hb h).2
  simp [Instr.keyThatStays, this]

theorem aMapUpdate_sound (h : HR B ρ H w) {t : TypeId} {m k v : AV} {x y z : Value} {H' : Heap} (hm : Rel ρ m x) (hk : Rel ρ k y) (hv : Rel ρ v z) (hs : aMapUpdate P H t m k v = some H') :
    ∃ w', (Instr.mapUpdate t x y z).run P w = .ok () w' ∧ HR B ρ H' w' ∧ Ext B ρ w ρ w' := by
  unfold aMapUpdate at hs
  cases hu : P.underlying t with
  | none => simp [hu] at hs
  | some d =>
    simp only [hu, Option.bind_some] at hs
    split at hs
    · rename_i kt et i
      simp only [Rel] at hm
      obtain ⟨e, he, rfl⟩ := hm
      split at hs
      · rename_i es clock ho
        cases hc : aCheckKey P keyDepth kt k with
        | false => simp [hc] at hs
        | true =>
          simp only [hc, cond_true] at hs
          cases hf : aFind P kt k es 0 with
          | none => simp [hf] at hs
          | some r =>
            simp only [hf, Option.bind_some] at hs
            obtain ⟨hnb, hB, arr, h1, h2⟩ := h.at' ho he
            have hck : (Instr.checkKey false 10000 kt y).run P w = .ok () w := aCheckKey_sound (P := P) (ρ := ρ) false keyDepth kt k y w hk hc
            obtain ⟨uk, huk⟩ := underlying_of_check hc
            obtain ⟨q, hq1, hq2, hq3⟩ := findKey_sound (w := w) huk hk h2 hf
            cases r with
            | none =>
              simp only [foundAt] at hq2
              subst hq2
              simp at hs
              subst hs
              obtain ⟨g1, g2⟩ := obj_turn h ho he hnb hB (.map (arr.push { key := y, val := z, born := clock }) (clock + 1)) (o' := .map (es ++ [{ key := k, val := v, born := clock }]) (clock + 1))
                (fun w' hw' => ⟨hnb, hB, _, hw', by rw [Array.toList_push]; exact h2.append ⟨_, _, rfl, hk, hv, rfl, rfl⟩⟩)
              exact ⟨_, by simp [Instr.mapUpdate, run_underlying hu, run_getObj_map h1, hck, hq1, run_setObj_map _ h1], g1, g2⟩
            | some je =>
              obtain ⟨j, en⟩ := je
              simp only [foundAt] at hq2
              obtain ⟨_, ye, hye, hqe⟩ := hq2
              subst hqe
              cases hp : plainEq en.key k with
              | false => simp [hp] at hs
              | true =>
                simp [hp] at hs
                subst hs
                obtain ⟨ye', hye', hkey, hval, hborn⟩ := h2.get (hq3 j en rfl)
                have : ye' = ye := by rw [Nat.sub_zero, hye'] at hye; exact Option.some.inj hye
                subst this
                have hks := keyStays (P := P) (w := w) hkey hk hp
                have hgj : arr[j]? = some ye' := by simpa using hye'
                obtain ⟨g1, g2⟩ := obj_turn h ho he hnb hB (.map (arr.modify j fun e => { e with key := y, val := z }) clock) (o' := .map (es.set j { key := k, val := v, born := en.born }) clock)
                  (fun w' hw' => ⟨hnb, hB, _, hw', by
                    have hmod : (arr.modify j fun e => { e with key := y, val := z }).toList = arr.toList.set j { ye' with key := y, val := z } := by
                      exact modify_toList _ _ _ _ hye'
                    rw [hmod]
                    exact h2.set j hk hv hborn⟩)
                exact ⟨_, by simp [Instr.mapUpdate, run_underlying hu, run_getObj_map h1, hck, hq1, hgj, hks, run_setObj_map _ h1], g1, g2⟩
      · cases hs
    · cases hs

theorem aMapEntry_sound (h : HR B ρ H w) {t : TypeId} {m k : AV} {x y : Value} {r : AV × Heap} (hm : Rel ρ m x) (hk : Rel ρ k y) (hs : aMapEntry P H t m k = some r) :
    SV B P ρ w (Instr.mapEntry t x y) r.1 r.2 := by
  unfold aMapEntry at hs
  cases hu : P.underlying t with
  | none => simp [hu] at hs
  | some d =>
    simp only [hu, Option.bind_some] at hs
    split at hs
    · rename_i kt et i
      simp only [Rel] at hm
      obtain ⟨e, he, rfl⟩ := hm
      split at hs
      · rename_i es clock ho
        cases hc : aCheckKey P keyDepth kt k with
        | false => simp [hc] at hs
        | true =>
          simp only [hc, cond_true] at hs
          cases hf : aFind P kt k es 0 with
          | none => simp [hf] at hs
          | some r =>
            simp only [hf, Option.bind_some] at hs
            obtain ⟨hnb, hB, arr, h1, h2⟩ := h.at' ho he
            have hck : (Instr.checkKey false 10000 kt y).run P w = .ok () w := aCheckKey_sound (P := P) (ρ := ρ) false keyDepth kt k y w hk hc
            obtain ⟨uk, huk⟩ := underlying_of_check hc
            obtain ⟨q, hq1, hq2, hq3⟩ := findKey_sound (w := w) huk hk h2 hf
            cases r with
            | none =>
              simp only [foundAt] at hq2
              subst hq2
              simp only [] at hs
              cases hz : zeroA P et with
              | none => simp [hz] at hs
              | some z =>
                obtain ⟨zv, hz1, hz2⟩ := zeroA_sound (w := w) hz ρ
                simp [hz] at hs
                subst hs
                obtain ⟨g1, g2⟩ := obj_turn h ho he hnb hB (.map (arr.push { key := y, val := zv, born := clock }) (clock + 1)) (o' := .map (es ++ [{ key := k, val := z, born := clock }]) (clock + 1))
                  (fun w' hw' => ⟨hnb, hB, _, hw', by rw [Array.toList_push]; exact h2.append ⟨_, _, rfl, hk, hz2, rfl, rfl⟩⟩)
                exact ⟨.tuple #[zv, goInt clock], _, ρ, by simp [Instr.mapEntry, run_underlying hu, run_getObj_map h1, hck, hq1, hz1, run_setObj_map _ h1], g2, g1, ⟨_, rfl, by simp [RelL, Rel, hz2, goInt]⟩⟩
            | some je =>
              obtain ⟨j, en⟩ := je
              simp only [foundAt] at hq2
              obtain ⟨_, ye, hye, hqe⟩ := hq2
              subst hqe
              cases hp : plainEq en.key k with
              | false => simp [hp] at hs
              | true =>
                simp [hp] at hs
                subst hs
                obtain ⟨ye', hye', hkey, hval, hborn⟩ := h2.get (hq3 j en rfl)
                have : ye' = ye := by rw [Nat.sub_zero, hye'] at hye; exact Option.some.inj hye
                subst this
                have hks := keyStays (P := P) (w := w) hkey hk hp
                have hgj : arr[j]? = some ye' := by simpa using hye'
                obtain ⟨g1, g2⟩ := obj_turn h ho he hnb hB (.map (arr.modify j fun e => { e with key := y }) clock) (o' := .map (es.set j { key := k, val := en.val, born := en.born }) clock)
                  (fun w' hw' => ⟨hnb, hB, _, hw', by
                    have hmod : (arr.modify j fun e => { e with key := y }).toList = arr.toList.set j { ye' with key := y } := by
                      exact modify_toList _ _ _ _ hye'
                    rw [hmod]
                    exact h2.set j hk hval hborn⟩)
                exact ⟨.tuple #[ye'.val, goInt ye'.born], _, ρ, by simp [Instr.mapEntry, run_underlying hu, run_getObj_map h1, hck, hq1, hgj, hks, run_setObj_map _ h1], g2, g1, ⟨_, rfl, by simp [RelL, Rel, hval, goInt, hborn]⟩⟩
      · cases hs
    · cases hs

theorem findBorn_sound {n : Int} : ∀ {es : List Ent} {xs : List MapEntry} {i : Nat} {r : Nat × Ent}, EntL ρ es xs → findBorn n es i = some r →
    i ≤ r.1 ∧ es[r.1 - i]? = some r.2 ∧ xs.findIdx? (fun e => (e.born : Int) == n) = some (r.1 - i)
  | [], _, i, r, he, h => by simp [findBorn] at h
  | e :: es, _, i, r, he, h => by
    obtain ⟨y, ys, rfl, h1, h2, h3, h4⟩ := he
    simp only [findBorn] at h
    by_cases hb : (e.born : Int) = n
    · simp [hb] at h
      subst h
      simp [List.findIdx?_cons, h3, hb]
    · simp [hb] at h
      obtain ⟨g1, g2, g3⟩ := findBorn_sound h4 h
      refine ⟨by omega, ?_, ?_⟩
      · rw [show r.1 - i = (r.1 - (i + 1)) + 1 by omega]; simpa using g2
      · rw [List.findIdx?_cons]
        simp only [h3, beq_iff_eq, hb, if_false, g3, Option.map_some, Option.some.injEq]
        omega

theorem aEntryStore_sound (h : HR B ρ H w) {t : TypeId} {m s v : AV} {x y z : Value} {H' : Heap} (hm : Rel ρ m x) (hk : Rel ρ s y) (hv : Rel ρ v z) (hs : aEntryStore H m s v = some H') :
    ∃ w', (Instr.entryStore t x y z).run P w = .ok () w' ∧ HR B ρ H' w' ∧ Ext B ρ w ρ w' := by
  unfold aEntryStore at hs
  split at hs
  · rename_i i kd n
    simp only [Rel] at hm hk
    obtain ⟨e, he, rfl⟩ := hm
    subst hk
    split at hs
    · rename_i es clock ho
      cases hf : findBorn n es 0 with
      | none => simp [hf] at hs
      | some r =>
        simp [hf] at hs
        subst hs
        obtain ⟨hnb, hB, arr, h1, h2⟩ := h.at' ho he
        obtain ⟨_, f2, f3⟩ := findBorn_sound h2 hf
        obtain ⟨ye, hye, hkey, hval, hborn⟩ := h2.get f2
        rw [Nat.sub_zero] at f2 f3 hye
        have hgj : arr[r.1]? = some ye := by simpa using hye
        have hfi : arr.findIdx? (fun e => (e.born : Int) == n) = some r.1 := by
          rw [findIdx_toList]; exact f3
        obtain ⟨g1, g2⟩ := obj_turn h ho he hnb hB (.map (arr.modify r.1 fun e => { e with val := z }) clock) (o' := .map (es.set r.1 { key := r.2.key, val := v, born := r.2.born }) clock)
          (fun w' hw' => ⟨hnb, hB, _, hw', by
            have hmod : (arr.modify r.1 fun e => { e with val := z }).toList = arr.toList.set r.1 { ye with val := z } := by
              exact modify_toList _ _ _ _ hye
            rw [hmod]
            exact h2.set r.1 hkey hv hborn⟩)
        exact ⟨_, by simp [Instr.entryStore, run_getObj_map h1, asInt, asIntOf, hfi, run_setObj_map _ h1], g1, g2⟩
    · cases hs
  · cases hs

theorem aDelete_sound (h : HR B ρ H w) {t : TypeId} {m k : AV} {x y : Value} {H' : Heap} {ts : TypeId} {rest : List TypeId} (hm : Rel ρ m x) (hk : Rel ρ k y) (hs : aDelete P H t m k = some H') :
    ∃ w', (Builtin.delete_ (t :: rest).toArray ts #[x, y]).run P w = .ok (.tuple #[]) w' ∧ HR B ρ H' w' ∧ Ext B ρ w ρ w' := by
  unfold aDelete at hs
  cases hu : P.underlying t with
  | none => simp [hu] at hs
  | some d =>
    simp only [hu, Option.bind_some] at hs
    split at hs
    · rename_i kt et
      simp only [Rel] at hm
      subst hm
      cases hc : aCheckKey P keyDepth kt k with
      | false => simp [hc] at hs
      | true =>
        simp [hc] at hs
        subst hs
        have hck : (Instr.checkKey true 10000 kt y).run P w = .ok () w := aCheckKey_sound (P := P) (ρ := ρ) true keyDepth kt k y w hk hc
        exact ⟨w, by simp [Builtin.delete_, run_underlying hu, hck], h, Ext.refl _ _ _⟩
    · rename_i kt et i
      simp only [Rel] at hm
      obtain ⟨e, he, rfl⟩ := hm
      split at hs
      · rename_i es clock ho
        cases hc : aCheckKey P keyDepth kt k with
        | false => simp [hc] at hs
        | true =>
          simp only [hc, cond_true] at hs
          cases hf : aFind P kt k es 0 with
          | none => simp [hf] at hs
          | some r =>
            simp only [hf, Option.bind_some] at hs
            obtain ⟨hnb, hB, arr, h1, h2⟩ := h.at' ho he
            have hck : (Instr.checkKey arr.isEmpty 10000 kt y).run P w = .ok () w := aCheckKey_sound (P := P) (ρ := ρ) arr.isEmpty keyDepth kt k y w hk hc
            obtain ⟨uk, huk⟩ := underlying_of_check hc
            obtain ⟨q, hq1, hq2, hq3⟩ := findKey_sound (w := w) huk hk h2 hf
            cases r with
            | none =>
              simp only [foundAt] at hq2
              subst hq2
              simp at hs
              subst hs
              obtain ⟨g1, g2⟩ := obj_turn h ho he hnb hB (.map arr clock) (o' := .map es clock) (fun w' hw' => ⟨hnb, hB, _, hw', h2⟩)
              have hset : HR B ρ H { w with heap := w.heap.setIfInBounds e.b (.map arr clock) } := by
                refine h.heap ?_
                show w.heap.setIfInBounds e.b (.map arr clock) = w.heap
                apply Array.ext_getElem?
                intro j
                by_cases hj : j = e.b
                · subst hj; rw [h1]; simp [(h.at' ho he).lt (h.at' ho he).1]
                · rw [Array.getElem?_setIfInBounds_ne (Ne.symm hj)]
              exact ⟨_, by simp [Builtin.delete_, run_underlying hu, run_getObj_map h1, hck, hq1, run_setObj_map _ h1], hset, g2⟩
            | some je =>
              obtain ⟨j, en⟩ := je
              simp only [foundAt] at hq2
              obtain ⟨_, ye, hye, hqe⟩ := hq2
              subst hqe
              simp at hs
              subst hs
              have hj : j < arr.size := by
                have := (List.getElem?_eq_some_iff.1 hye).1
                simpa using this
              obtain ⟨g1, g2⟩ := obj_turn h ho he hnb hB (.map (arr.eraseIdxIfInBounds j) clock) (o' := .map (es.eraseIdx j) clock)
                (fun w' hw' => ⟨hnb, hB, _, hw', by
                  have : (arr.eraseIdxIfInBounds j).toList = arr.toList.eraseIdx j := by
                    simp [Array.eraseIdxIfInBounds, hj]
                  rw [this]
                  exact h2.eraseIdx j⟩)
              exact ⟨_, by simp [Builtin.delete_, run_underlying hu, run_getObj_map h1, hck, hq1, run_setObj_map _ h1], g1, g2⟩
      · cases hs
    · cases hs

end
end Go.AM
