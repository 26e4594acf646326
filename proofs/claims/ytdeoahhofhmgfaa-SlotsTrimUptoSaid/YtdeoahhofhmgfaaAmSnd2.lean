/- THE ABSTRACT MACHINE, 5: the operations are sound, part 2: parts, addresses, indexes, slices. -/
import Derived.Test.YtdeoahhofhmgfaaAmSnd1
import Derived.Laws.Slices
namespace Go.AM
open Go.RowKit
section
variable {B : Nat} {ρ : Env} {H : Heap} {w : World} {P : Program}

/-- Writing into an array of cells. -/
theorem foldl_set (off : Nat) : ∀ (vs : List Value) (k : Nat) (arr : Array Value) (j : Nat), (off + k + vs.length ≤ arr.size) →
    ((vs.zipIdx k).foldl (fun cs (c, j) => cs.setIfInBounds (off + j) c) arr).size = arr.size ∧
    ((vs.zipIdx k).foldl (fun cs (c, j) => cs.setIfInBounds (off + j) c) arr)[j]? = if off + k ≤ j ∧ j < off + k + vs.length then vs[j - (off + k)]? else arr[j]?
  | [], k, arr, j, _ => ⟨rfl, by rw [if_neg (by simp)]; rfl⟩
  | v :: vs, k, arr, j, h => by
    simp only [List.length_cons] at h
    simp only [List.zipIdx_cons, List.foldl_cons]
    obtain ⟨h1, h2⟩ := foldl_set off vs (k + 1) (arr.setIfInBounds (off + k) v) j (by simp; omega)
    refine ⟨by rw [h1]; simp, ?_⟩
    rw [h2]
    by_cases hj : j = off + k
    · subst hj
      rw [if_neg (by omega), if_pos (by simp)]
      simp [show off + k < arr.size by omega]
    · by_cases hin : off + (k + 1) ≤ j ∧ j < off + (k + 1) + vs.length
      · rw [if_pos hin, if_pos (by simp; omega), show j - (off + k) = (j - (off + (k + 1))) + 1 by omega]
        simp
      · rw [if_neg hin, if_neg (by simp; omega), Array.getElem?_setIfInBounds_ne (Ne.symm hj)]

inductive RelP (ρ : Env) : List (Nat × AV) → List (Nat × Value) → Prop
  | nil : RelP ρ [] []
  | cons {i : Nat} {v : AV} {x : Value} {l l'} : Rel ρ v x → RelP ρ l l' → RelP ρ ((i, v) :: l) ((i, x) :: l')

theorem evalParts_sound {fr : Fr} {a : Act} (hf : FRel ρ fr a.tmps) : ∀ {ps : List (Nat × Operand)} {vs : List (Nat × AV)}, evalParts fr ps = some vs → RelP ρ vs (ps.map fun (i, x) => (i, a.eval x))
  | [], vs, h => by simp [evalParts] at h; subst h; exact .nil
  | (i, x) :: ps, vs, h => by
    simp only [evalParts] at h
    cases h1 : aeval fr x with
    | none => simp [h1] at h
    | some v =>
      cases h2 : evalParts fr ps with
      | none => simp [h1, h2] at h
      | some r =>
        simp [h1, h2] at h
        subst h
        exact .cons (aeval_sound hf h1) (evalParts_sound hf h2)

theorem aFill_sound (place : Nat → Option (Nat × Nat)) : ∀ {ps : List (Nat × AV)} {ps' : List (Nat × Value)} {zs cs : List AV} {xs : Array Value}, RelP ρ ps ps' → RelL ρ zs xs.toList →
    aFill place zs ps = some cs → ∃ ys, Instr.fill place xs ps' = some ys ∧ RelL ρ cs ys.toList
  | [], _, zs, cs, xs, hp, hz, h => by cases hp; simp [aFill] at h; subst h; exact ⟨xs, rfl, hz⟩
  | (i, v) :: ps, _, zs, cs, xs, hp, hz, h => by
    cases hp with
    | cons hv hp =>
    rename_i x l'
    simp only [aFill] at h
    cases h1 : place i with
    | none => simp [h1] at h
    | some p =>
      obtain ⟨off, size⟩ := p
      cases h2 : v.cells with
      | none => simp [h1, h2] at h
      | some c =>
        simp only [h1, h2, Option.bind_some] at h
        cases hb : (Nat.beq c.length size && Nat.ble (off + c.length) zs.length) with
        | false => simp [hb] at h
        | true =>
          simp only [hb, cond_true] at h
          simp only [Bool.and_eq_true] at hb
          have e1 := Nat.eq_of_beq_eq_true hb.1
          have e2 := Nat.le_of_ble_eq_true hb.2
          have hrl := cells_sound h2 hv
          have hl1 := hrl.length
          have hl2 := hz.length
          simp only [Array.length_toList] at hl1 hl2
          have hfold := fun j => foldl_set off x.cells.toList 0 xs j (by simp; omega)
          have hnew : RelL ρ (spl zs off c) ((x.cells.zipIdx.foldl (fun cs (c, j) => cs.setIfInBounds (off + j) c) xs)).toList := by
            have hz' : x.cells.zipIdx.foldl (fun cs (c, j) => cs.setIfInBounds (off + j) c) xs = (x.cells.toList.zipIdx 0).foldl (fun cs (c, j) => cs.setIfInBounds (off + j) c) xs := by
              rw [← Array.foldl_toList]; simp
            rw [hz']
            refine RelL.mk (by simp [(hfold 0).1, length_spl _ _ _ e2]; omega) fun j u hu => ?_
            rw [spl_get _ _ _ e2] at hu
            simp only [Array.getElem?_toList, (hfold j).2, Nat.add_zero, Array.length_toList]
            rw [hl1]
            by_cases hin : off ≤ j ∧ j < off + c.length
            · rw [if_pos hin] at hu ⊢
              obtain ⟨y, hy, hr⟩ := hrl.get hu
              exact ⟨y, by simpa using hy, hr⟩
            · rw [if_neg hin] at hu ⊢
              obtain ⟨y, hy, hr⟩ := hz.get hu
              exact ⟨y, by simpa using hy, hr⟩
          obtain ⟨ys, hy1, hy2⟩ := aFill_sound place hp hnew h
          refine ⟨ys, ?_, hy2⟩
          simp only [Instr.fill, h1]
          rw [if_neg (by simp; omega)]
          exact hy1

theorem aBuild_sound {t : TypeId} {ps : List (Nat × AV)} {ps' : Array (Nat × Value)} {v : AV} (hp : RelP ρ ps ps'.toList) (h : aBuild P t ps = some v) :
    ∃ x, (Instr.build t ps').run P w = .ok x w ∧ Rel ρ v x := by
  unfold aBuild at h
  cases hi : P.info? t with
  | none => simp [hi] at h
  | some it =>
    cases hu : P.underlying t with
    | none => simp [hi, hu] at h
    | some d =>
      cases hz : it.zero with
      | none => simp [hi, hu, hz] at h
      | some z =>
        cases hc : conv z with
        | none => simp [hi, hu, hz, hc] at h
        | some zv =>
          cases hcs : zv.cells with
          | none => simp [hi, hu, hz, hc, hcs] at h
          | some zs =>
            simp only [hi, hu, hz, hc, hcs, Option.bind_some] at h
            have hzr : RelL ρ zs z.cells.toList := cells_sound hcs (conv_rel hc ρ)
            cases d <;> try (cases h; done)
            case array n e =>
              simp only [] at h
              cases hie : P.info? e with
              | none => simp [hie] at h
              | some ie =>
                simp only [hie, Option.bind_some] at h
                cases hf : aFill (fun i => some (i * ie.size, ie.size)) zs ps with
                | none => simp [hf] at h
                | some cs =>
                  simp [hf] at h
                  subst h
                  obtain ⟨ys, hy1, hy2⟩ := aFill_sound _ hp hzr hf
                  exact ⟨.agg ys, run_build w t ps' ys (by unfold Program.built; simp [hi, hu, hz, hie, hy1]), ys, rfl, hy2⟩
            case struct fields =>
              simp only [] at h
              cases hpl : fields.toList.mapM (fun f => (P.info? f.type).map fun i => (f.offset, i.size)) with
              | none => simp [hpl] at h
              | some places =>
                simp only [hpl, Option.bind_some] at h
                cases hf : aFill (fun i => places[i]?) zs ps with
                | none => simp [hf] at h
                | some cs =>
                  simp [hf] at h
                  subst h
                  obtain ⟨ys, hy1, hy2⟩ := aFill_sound _ hp hzr hf
                  refine ⟨.agg ys, run_build w t ps' ys ?_, ys, rfl, hy2⟩
                  unfold Program.built
                  simp only [hi, hu, hz, hpl]
                  rw [← hy1]
                  congr 1
                  funext i; simp

theorem aFieldAddr_sound {s : TypeId} {p v : AV} {x : Value} {f : Nat} (hp : Rel ρ p x) (h : aFieldAddr P s p f = some v) :
    ∃ y, (Instr.fieldAt s x f).run P w = .ok y w ∧ Rel ρ v y := by
  unfold aFieldAddr at h
  split at h
  · rename_i i off
    simp only [Rel] at hp
    obtain ⟨e, he, rfl⟩ := hp
    cases hu : P.underlying s with
    | none => simp [hu] at h
    | some d =>
      cases d <;> simp only [hu, Option.bind_some] at h <;> try (cases h; done)
      rename_i fs
      cases hf : fs[f]? with
      | none => simp [hf] at h
      | some fd =>
        cases hi : P.info? fd.type with
        | none => simp [hf, hi] at h
        | some inf =>
          simp only [hf, hi, Option.bind_some] at h
          cases hb : Nat.beq inf.size 0 with
          | true => simp [hb] at h
          | false =>
            simp [hb] at h
            subst h
            have hne : inf.size ≠ 0 := Nat.ne_of_beq_eq_false hb
            refine ⟨.pointer (some ⟨e.b, e.sh + (off + fd.offset), none⟩), ?_, ⟨e, he, rfl⟩⟩
            simp [Instr.fieldAt, run_underlying hu, hf, Instr.sureAddr, fieldPlace, sizeOf_run hi, hne, addr_add, Nat.add_assoc]
  · cases h

theorem aField_sound {t : TypeId} {p v : AV} {x : Value} {f : Nat} (hp : Rel ρ p x) (h : aField P t p f = some v) :
    ∃ y, (Instr.field t x f).run P w = .ok y w ∧ Rel ρ v y := by
  unfold aField at h
  split at h
  · rename_i cs
    simp only [Rel] at hp
    obtain ⟨ys, rfl, hr⟩ := hp
    cases hu : P.underlying t with
    | none => simp [hu] at h
    | some d =>
      cases d <;> simp only [hu, Option.bind_some] at h <;> try (cases h; done)
      rename_i fs
      cases hf : fs[f]? with
      | none => simp [hf] at h
      | some fd =>
        simp only [hf, Option.bind_some] at h
        obtain ⟨y, hy, hry⟩ := apart_sound (w := w) h hr
        exact ⟨y, by simp [Instr.field, run_underlying hu, hf, asAgg, hy], hry⟩
  · cases h

theorem idx_sound {v : AV} {n k : Nat} {x : Value} (hr : Rel ρ v x) (h : idx v n = some k) : ∃ kd, x = .int kd (k : Int) ∧ k < n := by
  unfold idx at h
  split at h
  · rename_i kd i
    cases hb : Nat.blt i n with
    | false => simp [hb] at h
    | true =>
      simp [hb] at h
      subst h
      simp only [Rel] at hr
      exact ⟨kd, hr, by simpa [Nat.blt_eq] using hb⟩
  · cases h

theorem bnd_sound {v : AV} {n k : Nat} {x : Value} (hr : Rel ρ v x) (h : bnd v n = some k) : ∃ kd, x = .int kd (k : Int) ∧ k ≤ n := by
  unfold bnd at h
  split at h
  · rename_i kd i
    cases hb : Nat.ble i n with
    | false => simp [hb] at h
    | true =>
      simp [hb] at h
      subst h
      simp only [Rel] at hr
      exact ⟨kd, hr, Nat.le_of_ble_eq_true hb⟩
  · cases h

theorem aIndexAddr_sound {t : TypeId} {p ix v : AV} {x y : Value} (hp : Rel ρ p x) (hx : Rel ρ ix y) (h : aIndexAddr P t p ix = some v) :
    ∃ z, (Instr.indexAt t x y).run P w = .ok z w ∧ Rel ρ v z := by
  unfold aIndexAddr at h
  cases hu : P.underlying t with
  | none => simp [hu] at h
  | some d =>
    simp only [hu, Option.bind_some] at h
    split at h
    · rename_i n e i off
      cases hk : idx ix n with
      | none => simp [hk] at h
      | some k =>
        cases hi : P.info? e with
        | none => simp [hk, hi] at h
        | some inf =>
          simp [hk, hi] at h
          subst h
          obtain ⟨kd, rfl, hlt⟩ := idx_sound hx hk
          simp only [Rel] at hp
          obtain ⟨a, ha, rfl⟩ := hp
          refine ⟨.pointer (some ⟨a.b, a.sh + (off + k * inf.size), none⟩), ?_, ⟨a, ha, rfl⟩⟩
          simp [Instr.indexAt, run_underlying hu, asIntOf, Instr.sureAddr, sizeOf_run hi, hlt, addr_add, Nat.add_assoc]
    · rename_i e i off len cap ex
      cases hk : idx ix len with
      | none => simp [hk] at h
      | some k =>
        cases hi : P.info? e with
        | none => simp [hk, hi] at h
        | some inf =>
          simp [hk, hi] at h
          subst h
          obtain ⟨kd, rfl, hlt⟩ := idx_sound hx hk
          simp only [Rel] at hp
          obtain ⟨a, c, ha, rfl, _⟩ := hp
          refine ⟨.pointer (some ⟨a.b, a.sh + (off + k * inf.size), none⟩), ?_, ⟨a, ha, rfl⟩⟩
          simp [Instr.indexAt, run_underlying hu, asIntOf, sizeOf_run hi, hlt, addr_add, Nat.add_assoc]
    · cases h

theorem aIndex_sound {t : TypeId} {p ix v : AV} {x y : Value} (hp : Rel ρ p x) (hx : Rel ρ ix y) (h : aIndex P t p ix = some v) :
    ∃ z, (Instr.index t x y).run P w = .ok z w ∧ Rel ρ v z := by
  unfold aIndex at h
  cases hu : P.underlying t with
  | none => simp [hu] at h
  | some d =>
    simp only [hu, Option.bind_some] at h
    split at h
    · rename_i n e cs
      cases hk : idx ix n with
      | none => simp [hk] at h
      | some k =>
        cases hi : P.info? e with
        | none => simp [hk, hi] at h
        | some inf =>
          simp only [hk, hi, Option.bind_some] at h
          obtain ⟨kd, rfl, hlt⟩ := idx_sound hx hk
          simp only [Rel] at hp
          obtain ⟨ys, rfl, hr⟩ := hp
          obtain ⟨z, hz, hrz⟩ := apart_sound (w := w) h hr
          refine ⟨z, ?_, hrz⟩
          simp [Instr.index, run_underlying hu, asIntOf, sizeOf_run hi, hlt, hz]
    · rename_i s
      cases hk : idx ix s.length with
      | none => simp [hk] at h
      | some k =>
        simp only [hk, Option.bind_some] at h
        obtain ⟨kd, rfl, hlt⟩ := idx_sound hx hk
        simp only [Rel] at hp
        subst hp
        rw [List.getElem?_eq_getElem hlt] at h
        simp at h
        subst h
        refine ⟨.int .u8 (s[k].toNat), ?_, by simp [Rel]⟩
        have hsz : (⟨s.toArray⟩ : ByteArray).size = s.length := by simp [ByteArray.size]
        have hget : (⟨s.toArray⟩ : ByteArray)[k]? = some s[k] := by
          rw [getElem?_pos _ _ (by omega)]
          rfl
        simp [Instr.index, run_underlying hu, asIntOf, hget]
    · cases h

end
end Go.AM
