/- THE ABSTRACT MACHINE, 7: the operations are sound, part 4: new memory, numbers, texts, sameness, conversions. -/
import Derived.Test.YtdeoahhofhmgfaaAmSnd3
namespace Go.AM
open Go.RowKit
section
variable {B : Nat} {ρ : Env} {H : Heap} {w : World} {P : Program}

theorem wrap_i64 (n : Int) (h0 : 0 ≤ n) (h1 : n < 9223372036854775808) : IntKind.i64.wrap n = n := by
  have e : n % 18446744073709551616 = n := Int.emod_eq_of_lt h0 (by omega)
  have e2 : ¬ (9223372036854775808 ≤ n) := by omega
  simp [IntKind.wrap, IntKind.bits, IntKind.signed, e, e2]

/-- What a piece of the machine that yields a value shows. -/
def SV (B : Nat) (P : Program) (ρ : Env) (w : World) (s : Sem Value) (v : AV) (H' : Heap) : Prop :=
  ∃ x w' ρ', s.run P w = .ok x w' ∧ Ext B ρ w ρ' w' ∧ HR B ρ' H' w' ∧ Rel ρ' v x

theorem SV.same (h : HR B ρ H w) {s : Sem Value} {v : AV} (hh : ∃ x, s.run P w = .ok x w ∧ Rel ρ v x) : SV B P ρ w s v H :=
  let ⟨x, h1, h2⟩ := hh; ⟨x, w, ρ, h1, Ext.refl _ _ _, h, h2⟩

theorem length_repCells (n : Nat) (zs : List AV) : (repCells n zs).length = n * zs.length := by
  unfold repCells; simp [List.length_flatten]

theorem get_repCells (zs : List AV) (hz : 0 < zs.length) : ∀ (n j : Nat), j < n * zs.length → (repCells n zs)[j]? = zs[j % zs.length]?
  | 0, j, h => by omega
  | n + 1, j, h => by
    have e : repCells (n + 1) zs = zs ++ repCells n zs := by simp [repCells, List.replicate_succ]
    rw [e]
    by_cases hj : j < zs.length
    · rw [List.getElem?_append_left hj, Nat.mod_eq_of_lt hj]
    · rw [List.getElem?_append_right (by omega), get_repCells zs hz n (j - zs.length) (by rw [Nat.add_mul] at h; omega)]
      congr 1
      rw [Nat.mod_eq_sub_mod (by omega : j ≥ zs.length)]

theorem repCells_rel {zs : List AV} {z : Array Value} (hr : RelL ρ zs z.toList) (n : Nat) (hz : 0 < zs.length) :
    RelL ρ (repCells n zs) ((Array.range (n * zs.length)).map (fun i => z[i % z.size]!)).toList := by
  have hl := hr.length
  simp only [Array.length_toList] at hl
  refine RelL.mk (by simp [length_repCells]) fun j v hv => ?_
  have hj : j < n * zs.length := by have := (List.getElem?_eq_some_iff.1 hv).1; rwa [length_repCells] at this
  rw [get_repCells zs hz n j hj] at hv
  obtain ⟨x, hx, hrx⟩ := hr.get hv
  refine ⟨x, ?_, hrx⟩
  simp only [Array.getElem?_toList] at hx ⊢
  have hm : j % z.size < z.size := Nat.mod_lt _ (by omega)
  rw [← hl] at hx
  rw [Array.getElem?_eq_getElem hm] at hx
  simp only [Option.some.injEq] at hx
  simp [hj, hm, hx]

theorem alloc_sound (h : HR B ρ H w) {e : TypeId} {ie : TypeInfo} {z : Value} {zv : AV} {cs : List AV} {r : Nat × Heap} (hi : P.info? e = some ie) (hz : ie.zero = some z) (hc : conv z = some zv)
    (hcs : zv.cells = some cs) (hn : newCells H (some e) ie.size cs = some r) : SV B P ρ w (Instr.alloc e true (.tuple #[])) (.ptr r.1 0) r.2 := by
  obtain ⟨ρ', h1, h2, h3, h4⟩ := newCells_sound (P := P) h hn (cells_sound hcs (conv_rel hc ρ))
  refine ⟨.pointer (some ⟨w.heap.size, 0, none⟩), _, ρ', ?_, h3, h2, ⟨_, h4, rfl⟩⟩
  simp [Instr.alloc, zeroValue_run hi hz, newVar, h1]

theorem box_sound (h : HR B ρ H w) {e : TypeId} {es : Nat} {v : AV} {x : Value} {cs : List AV} {r : Nat × Heap} (hv : Rel ρ v x)
    (hcs : v.cells = some cs) (hn : newCells H (some e) es cs = some r) : SV B P ρ w (Instr.box e x) (.ptr r.1 0) r.2 := by
  obtain ⟨ρ', h1, h2, h3, h4⟩ := newCells_sound (P := P) h hn (cells_sound hcs hv)
  refine ⟨.pointer (some ⟨w.heap.size, 0, none⟩), _, ρ', ?_, h3, h2, ⟨_, h4, rfl⟩⟩
  simp [Instr.box, newVar, h1]

theorem aBuildSlice_sound (h : HR B ρ H w) {t : TypeId} {len : Nat} {ps : List (Nat × AV)} {ps' : Array (Nat × Value)} {r : AV × Heap} (hp : RelP ρ ps ps'.toList)
    (hb : aBuildSlice P H t len ps = some r) : SV B P ρ w (Instr.buildSlice t len ps') r.1 r.2 := by
  unfold aBuildSlice at hb
  cases hu : P.underlying t with
  | none => simp [hu] at hb
  | some d =>
    cases d <;> simp only [hu, Option.bind_some] at hb <;> try (cases hb; done)
    rename_i e
    cases hi : P.info? e with
    | none => simp [hi] at hb
    | some ie =>
      cases hz : ie.zero with
      | none => simp [hi, hz] at hb
      | some z =>
        cases hc : conv z with
        | none => simp [hi, hz, hc] at hb
        | some zv =>
          cases hcs : zv.cells with
          | none => simp [hi, hz, hc, hcs] at hb
          | some zs =>
            simp only [hi, hz, hc, hcs, Option.bind_some] at hb
            cases hg : (Nat.ble (len * ie.size) 16777216 && Nat.beq zs.length ie.size && !Nat.beq ie.size 0) with
            | false => rw [hg] at hb; cases hb
            | true =>
              rw [hg] at hb
              simp only [cond_true] at hb
              simp only [Bool.and_eq_true, Bool.not_eq_true'] at hg
              have g1 := Nat.le_of_ble_eq_true hg.1.1
              have g2 := Nat.eq_of_beq_eq_true hg.1.2
              have g3 := Nat.ne_of_beq_eq_false hg.2
              cases hf : aFill (fun i => some (i * ie.size, ie.size)) (repCells len zs) ps with
              | none => simp [hf] at hb
              | some cs =>
                simp only [hf, Option.bind_some] at hb
                cases hn : newCells H (some e) ie.size cs with
                | none => simp [hn] at hb
                | some q =>
                  simp [hn] at hb
                  subst hb
                  have hzr := cells_sound hcs (conv_rel hc ρ)
                  have hrr := repCells_rel hzr len (by omega)
                  obtain ⟨ys, hy1, hy2⟩ := aFill_sound _ hp hrr hf
                  obtain ⟨ρ', h1, h2, h3, h4⟩ := newCells_sound (P := P) h hn hy2
                  refine ⟨.slice (some ⟨w.heap.size, 0, none⟩) len len, _, ρ', ?_, h3, h2, ?_⟩
                  · have hn16 : ¬ (len * ie.size > 2 ^ 24) := by omega
                    by_cases h0 : len * ie.size = 0
                    · have hl0 : len = 0 := by
                        rcases Nat.mul_eq_zero.1 h0 with h | h
                        · exact h
                        · exact absurd h g3
                      subst hl0
                      rw [Nat.zero_mul, show Array.range 0 = #[] from rfl, Array.map_empty] at hy1
                      simp [Instr.buildSlice, run_underlying hu, sizeOf_run hi, show Array.range 0 = #[] from rfl, hy1, h1]
                    · rw [g2] at hy1
                      simp [Instr.buildSlice, run_underlying hu, sizeOf_run hi, hn16, h0, zeroValue_run hi hz, hy1, h1]
                  · exact ⟨_, len, h4, by simp, Nat.le_refl _, Nat.le_refl _, fun _ => rfl, fun hh => by cases hh⟩

theorem run_makeSlice' {t e : TypeId} {ie : TypeInfo} {z : Value} (hu : P.underlying t = some (.slice e)) (hi : P.info? e = some ie) (hz : ie.zero = some z) {k1 k2 : IntKind} {l c : Nat}
    (g1 : l ≤ c) (g2 : c ≤ 9223372036854775807) (g3 : ie.bytes * c ≤ 281474976710656) :
    (Instr.makeSlice t (.int k1 (Int.ofNat l)) (.int k2 (Int.ofNat c))).run P w =
      ((newRow e ((Array.range (c * ie.size)).map (fun i => z.cells[i % z.cells.size]!))).run P w).andThen fun a w => .ok (.slice (some a) l c) w := by
  have w1 : IntKind.i64.wrap (Int.ofNat l) = Int.ofNat l := wrap_i64 _ (by simp) (by simp; omega)
  have w2 : IntKind.i64.wrap (Int.ofNat c) = Int.ofNat c := wrap_i64 _ (by simp) (by simp; omega)
  have big : ¬ ((ie.bytes : Int) * (c : Int) > 281474976710656) := by
    rw [← Int.natCast_mul]; omega
  have hlc : ¬ ((l : Int) > (c : Int)) := by omega
  have hneg : ¬ ((c : Int) < 0 ∨ (l : Int) < 0) := by omega
  simp only [Instr.makeSlice, Sem.run_bind, run_underlying hu, Result.andThen_ok, asInt, asIntOf, Sem.run_pure, typeInfo_run hi, w1, w2]
  simp [big, hlc, hneg, sizeOf_run hi]
  by_cases h0 : c * ie.size = 0
  · simp [h0, show Array.range 0 = #[] from rfl]
  · simp [h0, zeroValue_run hi hz]

theorem aMakeSlice_sound (h : HR B ρ H w) {t : TypeId} {l c : AV} {x y : Value} {r : AV × Heap} (hl : Rel ρ l x) (hcp : Rel ρ c y)
    (hb : aMakeSlice P H t l c = some r) : SV B P ρ w (Instr.makeSlice t x y) r.1 r.2 := by
  unfold aMakeSlice at hb
  cases hu : P.underlying t with
  | none => simp [hu] at hb
  | some d =>
    cases d <;> simp only [hu, Option.bind_some] at hb <;> try (cases hb; done)
    rename_i e
    cases hi : P.info? e with
    | none => simp [hi] at hb
    | some ie =>
      cases hz : ie.zero with
      | none => simp [hi, hz] at hb
      | some z =>
        cases hc : conv z with
        | none => simp [hi, hz, hc] at hb
        | some zv =>
          cases hcs : zv.cells with
          | none => simp [hi, hz, hc, hcs] at hb
          | some zs =>
            simp only [hi, hz, hc, hcs, Option.bind_some] at hb
            split at hb
            · rename_i k1 l k2 c
              cases hg : (Nat.ble l c && Nat.ble c 9223372036854775807 && Nat.ble (ie.bytes * c) 281474976710656 && Nat.beq zs.length ie.size && !Nat.beq ie.size 0) with
              | false => rw [hg] at hb; cases hb
              | true =>
                rw [hg] at hb
                simp only [cond_true] at hb
                simp only [Bool.and_eq_true, Bool.not_eq_true'] at hg
                obtain ⟨⟨⟨⟨g1, g2⟩, g3⟩, g4⟩, g5⟩ := hg
                have g1 := Nat.le_of_ble_eq_true g1
                have g2 := Nat.le_of_ble_eq_true g2
                have g3 := Nat.le_of_ble_eq_true g3
                have g4 := Nat.eq_of_beq_eq_true g4
                have g5 := Nat.ne_of_beq_eq_false g5
                cases hn : newCells H (some e) ie.size (repCells c zs) with
                | none => simp [hn] at hb
                | some q =>
                  simp [hn] at hb
                  subst hb
                  simp only [Rel] at hl hcp
                  subst hl; subst hcp
                  have hzr := cells_sound hcs (conv_rel hc ρ)
                  have hrr := repCells_rel hzr c (by omega)
                  rw [g4] at hrr
                  obtain ⟨ρ', h1, h2, h3, h4⟩ := newCells_sound (P := P) h hn hrr
                  refine ⟨.slice (some ⟨w.heap.size, 0, none⟩) l c, _, ρ', ?_, h3, h2, ?_⟩
                  · rw [run_makeSlice' hu hi hz g1 g2 g3, h1]; rfl
                  · exact ⟨_, c, h4, by simp, g1, Nat.le_refl _, fun _ => rfl, fun hh => by cases hh⟩
            · cases hb

end
end Go.AM
