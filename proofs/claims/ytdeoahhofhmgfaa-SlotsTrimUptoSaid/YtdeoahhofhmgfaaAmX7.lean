/- THE ABSTRACT MACHINE, 13b7: operations on terms are sound: maps. -/
import Derived.Test.YtdeoahhofhmgfaaAmX6
set_option linter.unusedSimpArgs false
set_option linter.unusedVariables false
namespace Go.AM
open Go.RowKit
section
variable {B : Nat} {ρ : Env} {H : Heap} {w : World} {P : Program}

theorem aeqX_I {t : TypeId} {k k' : IntKind} (hu : P.underlying t = some (.int k)) (d : Nat) (a b : Int) : ∃ s, aeqX P (d + 1) t (.sI k' a) (.sI k' b) = some s ∧ (s = true ↔ a = b) :=
  ⟨decide (a = b), by unfold aeqX; rw [hu]; simp [AV.asX], by rw [decide_eq_true_eq]⟩
theorem aeqX_S {t : TypeId} (hu : P.underlying t = some .string) (d : Nat) (a b : List UInt8) : ∃ s, aeqX P (d + 1) t (.sS a) (.sS b) = some s ∧ (s = true ↔ a = b) :=
  ⟨decide (a = b), by unfold aeqX; rw [hu]; rfl, by rw [decide_eq_true_eq]⟩
theorem aeqX_B {t : TypeId} (hu : P.underlying t = some .bool) (d : Nat) (a b : Bool) : ∃ s, aeqX P (d + 1) t (.sB a) (.sB b) = some s ∧ (s = true ↔ a = b) :=
  ⟨a == b, by unfold aeqX; rw [hu]; rfl, by rw [beq_iff_eq]⟩

theorem keyC_eq {t : TypeId} {c : CTy} (h : keyFs.keyC P t c = true) (d : Nat) (a b : c.den) : ∃ s, aeqX P (d + 1) t (c.enc a) (c.enc b) = some s ∧ (s = true ↔ a = b) := by
  unfold keyFs.keyC at h
  split at h
  · rename_i k k' hu; exact aeqX_I hu d a b
  · rename_i hu; exact aeqX_S hu d a b
  · rename_i hu; exact aeqX_B hu d a b
  · cases h

theorem keyC_apart {t : TypeId} {c : CTy} (h : keyFs.keyC P t c = true) (cs : List AV) (i : Nat) : apart P t cs i = cs[i]? := by
  unfold keyFs.keyC at h
  unfold apart
  split at h
  · rename_i k k' hu; rw [hu]; rfl
  · rename_i hu; rw [hu]; rfl
  · rename_i hu; rw [hu]; rfl
  · cases h

theorem keyC_check {t : TypeId} {c : CTy} (h : keyFs.keyC P t c = true) (d : Nat) (v : AV) : aCheckKey P (d + 1) t v = true := by
  unfold keyFs.keyC at h
  unfold aCheckKey
  split at h
  · rename_i k k' hu; rw [hu]
  · rename_i hu; rw [hu]
  · rename_i hu; rw [hu]
  · cases h

theorem keyFs_eq (d : Nat) : ∀ (fs : List Field) (j : Nat) (r : RTy), keyFs P fs j r = true → ∀ (a b : r.den) (pre pre' : List AV), pre.length = j → pre'.length = j →
    ∃ s, aeqXF P (aeqX P (d + 1)) (pre ++ r.enc a) (pre' ++ r.enc b) fs = some s ∧ (s = true ↔ a = b)
  | [], j, r, h => by cases r <;> simp [keyFs] at h
  | [f], j, .one c, h => by
    intro a b pre pre' h1 h2
    simp only [keyFs, Bool.and_eq_true, Bool.not_eq_true'] at h
    obtain ⟨⟨hn, ho⟩, hc⟩ := h
    have ho := Nat.eq_of_beq_eq_true ho
    obtain ⟨s, hs, hi⟩ := keyC_eq hc d a b
    refine ⟨s, ?_, hi⟩
    have e1 : (pre ++ (RTy.one c).enc a)[f.offset]? = some (c.enc a) := by rw [ho, ← h1]; simp [RTy.enc]
    have e2 : (pre' ++ (RTy.one c).enc b)[f.offset]? = some (c.enc b) := by rw [ho, ← h2]; simp [RTy.enc]
    simp only [aeqXF, hn, cond_false, keyC_apart hc, e1, e2, Option.bind_some, hs, Option.map_some]
  | [f], j, .cons c r, h => by
    simp only [keyFs, Bool.and_eq_true] at h
    cases r <;> simp [keyFs] at h
  | f :: g :: fs, j, .one c, h => by simp [keyFs] at h
  | f :: g :: fs, j, .cons c r, h => by
    intro a b pre pre' h1 h2
    simp only [keyFs, Bool.and_eq_true, Bool.not_eq_true'] at h
    obtain ⟨⟨⟨hn, ho⟩, hc⟩, hr⟩ := h
    have ho := Nat.eq_of_beq_eq_true ho
    obtain ⟨s, hs, hi⟩ := keyC_eq hc d a.1 b.1
    obtain ⟨s2, hs2, hi2⟩ := keyFs_eq d (g :: fs) (j + 1) r hr a.2 b.2 (pre ++ [c.enc a.1]) (pre' ++ [c.enc b.1]) (by simp [h1]) (by simp [h2])
    have e1 : (pre ++ (RTy.cons c r).enc a)[f.offset]? = some (c.enc a.1) := by rw [ho, ← h1]; simp [RTy.enc]
    have e2 : (pre' ++ (RTy.cons c r).enc b)[f.offset]? = some (c.enc b.1) := by rw [ho, ← h2]; simp [RTy.enc]
    have e3 : pre ++ (RTy.cons c r).enc a = (pre ++ [c.enc a.1]) ++ r.enc a.2 := by simp [RTy.enc]
    have e4 : pre' ++ (RTy.cons c r).enc b = (pre' ++ [c.enc b.1]) ++ r.enc b.2 := by simp [RTy.enc]
    refine ⟨s && s2, ?_, ?_⟩
    · rw [aeqXF]
      simp only [hn, cond_false, keyC_apart hc, e1, e2, Option.bind_some, hs]
      rw [e3, e4, hs2]
      rfl
    · rw [Bool.and_eq_true, hi, hi2]
      exact ⟨fun ⟨h1, h2⟩ => Prod.ext h1 h2, fun h => by rw [h]; exact ⟨rfl, rfl⟩⟩

theorem keyFs_check (d : Nat) : ∀ (fs : List Field) (j : Nat) (r : RTy), keyFs P fs j r = true → ∀ (cs : List AV), cs.length = j + r.size → aCheckF P (aCheckKey P (d + 1)) cs fs = true
  | [], j, r, h => by cases r <;> simp [keyFs] at h
  | [f], j, .one c, h => by
    intro cs hl
    simp only [keyFs, Bool.and_eq_true, Bool.not_eq_true'] at h
    obtain ⟨⟨hn, ho⟩, hc⟩ := h
    have ho := Nat.eq_of_beq_eq_true ho
    have hlt : f.offset < cs.length := by simp [RTy.size] at hl; omega
    simp only [aCheckF, hn, cond_false, keyC_apart hc, List.getElem?_eq_getElem hlt, keyC_check hc, Bool.and_true]
  | [f], j, .cons c r, h => by
    simp only [keyFs, Bool.and_eq_true] at h
    cases r <;> simp [keyFs] at h
  | f :: g :: fs, j, .one c, h => by simp [keyFs] at h
  | f :: g :: fs, j, .cons c r, h => by
    intro cs hl
    simp only [keyFs, Bool.and_eq_true, Bool.not_eq_true'] at h
    obtain ⟨⟨⟨hn, ho⟩, hc⟩, hr⟩ := h
    have ho := Nat.eq_of_beq_eq_true ho
    have hlt : f.offset < cs.length := by simp [RTy.size] at hl; omega
    have ih := keyFs_check d (g :: fs) (j + 1) r hr cs (by simp [RTy.size] at hl; omega)
    rw [aCheckF]
    simp only [hn, cond_false, keyC_apart hc, List.getElem?_eq_getElem hlt, keyC_check hc, Bool.true_and]
    exact ih

theorem RowV.rel {a : Bool} {r : RTy} {k : r.den} {x : Value} (h : RowV ρ.fz a r k x) : Rel ρ (ofCells a (r.enc k)) x := by
  obtain ⟨ys, h1, rfl, h3⟩ := h
  have h2 := h1.rel
  cases a with
  | true => exact ⟨_, rfl, by simpa using h2⟩
  | false =>
    have hl := h1.length
    rw [h3 rfl] at hl
    obtain ⟨y, rfl⟩ := List.length_eq_one_iff.1 hl
    have hl2 := RTy.enc_length r k
    rw [h3 rfl] at hl2
    obtain ⟨v, hv⟩ := List.length_eq_one_iff.1 hl2
    rw [hv] at h2 ⊢
    simp only [RelL] at h2
    obtain ⟨y', ys', e, h4, h5⟩ := h2
    cases e
    exact h4

theorem rowV_of {a : Bool} {r : RTy} {v : AV} {cs : List AV} {k : r.den} {x : Value} (hc : v.cellsOf a = some cs) (hd : r.dec cs = some k) (hr : Rel ρ v x) : RowV ρ.fz a r k x := by
  cases a with
  | true =>
    unfold AV.cellsOf at hc
    split at hc
    · rw [cond_true] at hc
      cases hc
      simp only [Rel] at hr
      obtain ⟨ys, rfl, hl⟩ := hr
      exact ⟨ys.toList, RTy.dec_sound r hd hl, by simp [valOf], fun h => by cases h⟩
    · cases hc
  | false =>
    unfold AV.cellsOf at hc
    split at hc
    · cases hc
    · rw [cond_false] at hc
      cases hc
      exact ⟨[x], RTy.dec_sound r hd ⟨x, [], rfl, hr, rfl⟩, rfl, fun _ => (RTy.dec_length r hd).symm⟩

theorem key_eq {kt : TypeId} {a : Bool} {r : RTy} (h : keyOk P kt a r = true) (d : Nat) (k e : r.den) : ∃ s, aeqX P (d + 2) kt (ofCells a (r.enc k)) (ofCells a (r.enc e)) = some s ∧ (s = true ↔ k = e) := by
  unfold keyOk at h
  split at h
  · rename_i fs hu
    simp only [Bool.and_eq_true, Bool.not_eq_true'] at h
    obtain ⟨⟨rfl, hst⟩, hf⟩ := h
    obtain ⟨s, hs, hi⟩ := keyFs_eq d fs.toList 0 r hf k e [] [] rfl rfl
    refine ⟨s, ?_, hi⟩
    unfold aeqX
    rw [hu]
    simp only [Option.bind_some, ofCells, cond_true, hst, cond_false]
    exact hs
  · rename_i kk hu
    simp only [Bool.and_eq_true, Bool.not_eq_true'] at h
    obtain ⟨rfl, h⟩ := h
    split at h
    · exact aeqX_I hu (d + 1) k e
    · cases h
  · rename_i hu
    simp only [Bool.and_eq_true, Bool.not_eq_true'] at h
    obtain ⟨rfl, h⟩ := h
    split at h
    · exact aeqX_S hu (d + 1) k e
    · cases h
  · rename_i hu
    simp only [Bool.and_eq_true, Bool.not_eq_true'] at h
    obtain ⟨rfl, h⟩ := h
    split at h
    · exact aeqX_B hu (d + 1) k e
    · cases h
  · cases h

theorem key_check {kt : TypeId} {a : Bool} {r : RTy} (h : keyOk P kt a r = true) (d : Nat) (k : r.den) : aCheckKey P (d + 2) kt (ofCells a (r.enc k)) = true := by
  unfold keyOk at h
  split at h
  · rename_i fs hu
    simp only [Bool.and_eq_true, Bool.not_eq_true'] at h
    obtain ⟨⟨rfl, hst⟩, hf⟩ := h
    unfold aCheckKey
    rw [hu]
    exact keyFs_check d fs.toList 0 r hf (r.enc k) (by rw [RTy.enc_length]; omega)
  · rename_i kk hu; unfold aCheckKey; rw [hu]
  · rename_i hu; unfold aCheckKey; rw [hu]
  · rename_i hu; unfold aCheckKey; rw [hu]
  · cases h

theorem key_check_run {kt : TypeId} {a : Bool} {r : RTy} (h : keyOk P kt a r = true) {k : r.den} {x : Value} (hx : RowV ρ.fz a r k x) (emp : Bool) (w : World) : (Instr.checkKey emp 10000 kt x).run P w = .ok () w :=
  aCheckKey_sound (P := P) (ρ := ρ) emp (9998 + 2) kt _ x w hx.rel (key_check h 9998 k)

theorem key_ask {kt : TypeId} {a : Bool} {r : RTy} (h : keyOk P kt a r = true) {k e : r.den} {x y : Value} (hx : RowV ρ.fz a r k x) (hy : RowV ρ.fz a r e y) : ∃ s : Bool, (s = true ↔ k = e) ∧ ∀ w, (Op.equal kt x y).run P w = .ok s w := by
  obtain ⟨s, h1, h2⟩ := key_eq h 9998 k e
  exact ⟨s, h2, fun w => aeqX_sound (P := P) (ρ := ρ) (9998 + 2) kt _ _ s x y w hx.rel hy.rel h1⟩

theorem key_under {kt : TypeId} {a : Bool} {r : RTy} (h : keyOk P kt a r = true) : ∃ u, P.underlying kt = some u := by
  unfold keyOk at h
  cases hu : P.underlying kt with
  | none => rw [hu] at h; cases h
  | some u => exact ⟨u, rfl⟩

def FoundR {kr vr : RTy} (k : kr.den) (m' : List (kr.den × vr.den)) (l : List MapEntry) (i : Nat) (q : Option (Nat × Value)) : Prop :=
  (q = none ∧ ∀ p ∈ m', p.1 ≠ k) ∨ ∃ j p y, m'[j]? = some p ∧ l[j]? = some y ∧ p.1 = k ∧ q = some (i + j, y.val)

theorem find_rows {kt : TypeId} {ka : Bool} {kr vr : RTy} (hk : keyOk P kt ka kr = true) {k : kr.den} {x : Value} (hx : RowV ρ.fz ka kr k x) : ∀ (m' : List (kr.den × vr.den)) (l : List MapEntry) (i : Nat), m'.length = l.length →
    (∀ (j : Nat) (p : kr.den × vr.den) (y : MapEntry), m'[j]? = some p → l[j]? = some y → RowV ρ.fz ka kr p.1 y.key) →
    ∃ q, (∀ w, (Instr.findAsking kt x l i).run P w = .ok q w) ∧ (∀ u q', P.underlying kt = some u → Instr.findNow u x l i = some q' → q' = q) ∧ FoundR k m' l i q
  | [], l, i, hl, _ => by
    obtain rfl : l = [] := List.length_eq_zero_iff.1 hl.symm
    exact ⟨none, fun w => rfl, fun u q' _ hq => by simp [Instr.findNow] at hq; exact hq.symm, .inl ⟨rfl, fun p hp => by cases hp⟩⟩
  | p :: m', [], i, hl, _ => by simp at hl
  | p :: m', y :: l, i, hl, hr => by
    obtain ⟨s, hs, hq⟩ := key_ask hk hx (hr 0 p y rfl rfl)
    cases s with
    | true =>
      have e : k = p.1 := hs.1 rfl
      refine ⟨some (i, y.val), fun w => by simp [Instr.findAsking, hq], fun u q' hu hn => ?_, .inr ⟨0, p, y, rfl, rfl, e.symm, rfl⟩⟩
      simp only [Instr.findNow] at hn
      cases hs : Instr.sameNow u x y.key with
      | none => simp [hs] at hn
      | some c =>
        have := sameNow_eq hu hq hs
        subst this
        simp [hs] at hn
        exact hn.symm
    | false =>
      have hne : p.1 ≠ k := fun e => by have := hs.2 e.symm; cases this
      obtain ⟨q, g1, g2, g3⟩ := find_rows hk hx m' l (i + 1) (by simpa using hl) (fun j p y h1 h2 => hr (j + 1) p y (by simpa using h1) (by simpa using h2))
      refine ⟨q, fun w => by simp [Instr.findAsking, hq, g1], fun u q' hu hn => ?_, ?_⟩
      · simp only [Instr.findNow] at hn
        cases hs : Instr.sameNow u x y.key with
        | none => simp [hs] at hn
        | some c =>
          have := sameNow_eq hu hq hs
          subst this
          simp only [hs] at hn
          exact g2 u q' hu hn
      · rcases g3 with ⟨h1, h2⟩ | ⟨j, p', y', h1, h2, h3, h4⟩
        · refine .inl ⟨h1, fun p' hp' => ?_⟩
          rcases List.mem_cons.1 hp' with rfl | hp'
          · exact hne
          · exact h2 p' hp'
        · exact .inr ⟨j + 1, p', y', by simpa using h1, by simpa using h2, h3, by rw [h4, show i + 1 + j = i + (j + 1) by omega]⟩

theorem findKey_rows {kt : TypeId} {ka : Bool} {kr vr : RTy} (hk : keyOk P kt ka kr = true) {k : kr.den} {x : Value} (hx : RowV ρ.fz ka kr k x) {m' : List (kr.den × vr.den)} {l : List MapEntry} (hl : m'.length = l.length)
    (hr : ∀ (j : Nat) (p : kr.den × vr.den) (y : MapEntry), m'[j]? = some p → l[j]? = some y → RowV ρ.fz ka kr p.1 y.key) : ∃ q, (Instr.findKey kt x l).run P w = .ok q w ∧ FoundR k m' l 0 q := by
  obtain ⟨q, g1, g2, g3⟩ := find_rows hk hx m' l 0 hl hr
  obtain ⟨u, hu⟩ := key_under hk
  refine ⟨q, ?_, g3⟩
  simp only [Instr.findKey, Sem.run_bind, run_underlying hu, Result.andThen_ok]
  cases hn : Instr.findNow u x l 0 with
  | some q' => rw [g2 u q' hu hn]; rfl
  | none => exact g1 w

end
end Go.AM
