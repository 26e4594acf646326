/- THE ABSTRACT MACHINE, 2: reading and writing rows of cells. -/
import Derived.Test.YtdeoahhofhmgfaaAmBase
namespace Go.AM
open Go.RowKit

theorem addr_add (b o n : Nat) : (⟨b, o, none⟩ : Addr).add n = ⟨b, o + n, none⟩ := by
  unfold Addr.add; split
  · subst_vars; rfl
  · rfl

def AV.scalar : AV → Bool
  | .agg _ | .tup _ => false
  | _ => true

theorem oneCell_of {ρ : Env} {v : AV} {x : Value} (hs : v.scalar = true) (hr : Rel ρ v x) : x.oneCell' = true := by
  cases v <;> simp only [Rel, CTy.Rd] at hr <;> simp only [AV.scalar, Bool.false_eq_true] at hs <;>
    first
      | (subst hr; rfl)
      | (obtain ⟨rfl, _⟩ := hr; rfl)
      | (obtain ⟨_, _, _, _, rfl⟩ := hr; rfl)
      | (obtain ⟨_, _, _, _, rfl, _⟩ := hr; rfl)
      | (obtain ⟨_, _, rfl⟩ := hr; rfl)
      | (obtain ⟨_, rfl, _⟩ := hr; rfl)
      | (obtain ⟨_, _, rfl, _⟩ := hr; rfl)
      | (obtain ⟨_, _, _, rfl, _⟩ := hr; rfl)

/-- One cell. -/
def ld1 (H : Heap) (i off : Nat) : Option AV :=
  match H.get i with
  | some (.cells _ _ cs _) => cs[off]?
  | _ => none

/-- Some cells. -/
def ldN (H : Heap) (i off n : Nat) : Option (List AV) :=
  match H.get i with
  | some (.cells _ _ cs _) => bif Nat.ble (off + n) cs.length then some ((cs.drop off).take n) else none
  | _ => none

def spl (cs : List AV) (off : Nat) (new : List AV) : List AV := cs.take off ++ new ++ cs.drop (off + new.length)

/-- Some cells are written. -/
def stN (H : Heap) (i off : Nat) (new : List AV) : Option Heap :=
  match H.get i with
  | some (.cells false es cs ty) => bif Nat.ble (off + new.length) cs.length && new.all AV.scalar then some (H.set i (.cells false es (spl cs off new) ty)) else none
  | _ => none

section
variable {B : Nat} {ρ : Env} {H : Heap} {w : World} {P : Program}

theorem HR.at' (h : HR B ρ H w) {i : Nat} {o : AObj} (ho : H.get i = some o) {e : At} (he : ρ.ats[i]? = some e) : ORel ρ B w e o := by
  obtain ⟨e', he', hr⟩ := h.obj i o ho
  rw [he] at he'
  cases he'
  exact hr

theorem ld1_sound (h : HR B ρ H w) {i off : Nat} {v : AV} {e : At} (he : ρ.ats[i]? = some e) (hl : ld1 H i off = some v) : ∃ x, w.cell? ⟨e.b, e.sh + off, none⟩ = some x ∧ Rel ρ v x := by
  unfold ld1 at hl
  split at hl
  · rename_i ro es cs oty ho
    obtain ⟨_, _, arr, ty, fz, h2, h3, h4, _⟩ := h.at' ho he
    obtain ⟨x, hx, hr⟩ := h4 _ _ hl
    exact ⟨x, by simp [World.cell?, h2, hx], hr⟩
  · cases hl

theorem ldN_sound (h : HR B ρ H w) {i off n : Nat} {vs : List AV} {e : At} (he : ρ.ats[i]? = some e) (hl : ldN H i off n = some vs) :
    vs.length = n ∧ ∃ xs : List Value, xs.length = n ∧ RelL ρ vs xs ∧ ∀ (j : Nat) (x : Value), xs[j]? = some x → w.cell? ⟨e.b, e.sh + off + j, none⟩ = some x := by
  unfold ldN at hl
  split at hl
  · rename_i ro es cs oty ho
    cases hb : Nat.ble (off + n) cs.length with
    | false => rw [hb] at hl; cases hl
    | true =>
      rw [hb] at hl
      simp only [cond_true, Option.some.injEq] at hl
      have hle2 := Nat.le_of_ble_eq_true hb
      obtain ⟨_, _, arr, ty, fz, h2, h3, h4, _⟩ := h.at' ho he
      have hlen : vs.length = n := by subst hl; simp; omega
      have hg : ∀ j, j < n → ∃ x, arr[e.sh + off + j]? = some x ∧ ∀ v, vs[j]? = some v → Rel ρ v x := fun j hj => by
        have hv : cs[off + j]? = some (cs[off + j]'(by omega)) := List.getElem?_eq_getElem _
        obtain ⟨x, hx, hr⟩ := h4 _ _ hv
        rw [← Nat.add_assoc] at hx
        refine ⟨x, hx, fun v hv' => ?_⟩
        subst hl
        rw [List.getElem?_take_of_lt hj, List.getElem?_drop, hv] at hv'
        cases hv'; exact hr
      refine ⟨hlen, (List.range n).map fun j => (arr[e.sh + off + j]?).getD default, by simp, RelL.mk (by simp [hlen]) fun j v hv => ?_, fun j x hx => ?_⟩
      · have hj : j < n := by have := (List.getElem?_eq_some_iff.1 hv).1; omega
        obtain ⟨x, hx, hr⟩ := hg j hj
        exact ⟨x, by simp [hj, hx], hr v hv⟩
      · have hj : j < n := by have := (List.getElem?_eq_some_iff.1 hx).1; simpa using this
        obtain ⟨y, hy, _⟩ := hg j hj
        have : x = y := by simp [hj, hy] at hx; exact hx.symm
        subst this
        simp [World.cell?, h2, hy]
  · cases hl

theorem run_loadCells_at {b off n : Nat} {xs : List Value} (hn : xs.length = n) (h : ∀ (j : Nat) (x : Value), xs[j]? = some x → w.cell? ⟨b, off + j, none⟩ = some x) :
    (loadCells ⟨b, off, none⟩ n).run P w = .ok xs.toArray w := by
  subst hn
  exact run_loadCells_list w _ _ fun j v hv => by rw [addr_add]; exact h j v hv

theorem heap_setCell_same {w : World} {b o : Nat} {arr : Array Value} {ty : TypeId} {fz : Nat × Nat} (v : Value) (h : w.heap[b]? = some (.cells arr ty fz)) :
    (w.setCell ⟨b, o, none⟩ v).heap[b]? = some (.cells (arr.setIfInBounds o v) ty fz) := by
  have hlt : b < w.heap.size := (Array.getElem?_eq_some_iff.1 h).1
  simp only [World.setCell]
  rw [Array.getElem?_modify]
  simp [h]

theorem heap_setCell_other {w : World} {b o k : Nat} (v : Value) (h : k ≠ b) : (w.setCell ⟨b, o, none⟩ v).heap[k]? = w.heap[k]? := by
  simp only [World.setCell]
  rw [Array.getElem?_modify]
  simp [Ne.symm h]

theorem size_setCell {w : World} {b o : Nat} (v : Value) : (w.setCell ⟨b, o, none⟩ v).heap.size = w.heap.size := by
  simp [World.setCell]

theorem run_storeCells (b o : Nat) (ty : TypeId) (fz : Nat × Nat) : ∀ (vs : List Value) (i : Nat) (arr : Array Value) (w : World), w.heap[b]? = some (.cells arr ty fz) →
    unfrozen fz arr.size → o + i + vs.length ≤ arr.size → (∀ v ∈ vs, v.oneCell' = true) →
    ∃ w' arr', (storeCells ⟨b, o, none⟩ vs i).run P w = .ok () w' ∧ w'.heap[b]? = some (.cells arr' ty fz) ∧ arr'.size = arr.size ∧
      (∀ j : Nat, arr'[j]? = if o + i ≤ j ∧ j < o + i + vs.length then vs[j - (o + i)]? else arr[j]?) ∧ w'.heap.size = w.heap.size ∧
      (∀ k, k ≠ b → w'.heap[k]? = w.heap[k]?) ∧ w'.os = w.os ∧ w'.tape = w.tape ∧ w'.output = w.output
  | [], i, arr, w, h, hf, hl, h1 => ⟨w, arr, by simp [storeCells], h, rfl, fun j => by rw [if_neg (by simp)], rfl, fun _ _ => rfl, rfl, rfl, rfl⟩
  | v :: vs, i, arr, w, h, hf, hl, h1 => by
    simp only [List.length_cons] at hl
    have hc : w.cell? ⟨b, o + i, none⟩ = some (arr[o + i]'(by omega)) := by simp [World.cell?, h]
    have hfz : w.frozen? ⟨b, o + i, none⟩ = false := by
      simp only [World.frozen?, h]
      have := hf (o + i) (by omega)
      simp only [Bool.and_eq_false_iff, decide_eq_false_iff_not]
      omega
    have hs := heap_setCell_same (o := o + i) v h
    obtain ⟨w', arr', r1, r2, r3, r4, r5, r6, r7, r8, r9⟩ := run_storeCells b o ty fz vs (i + 1) _ (w.setCell ⟨b, o + i, none⟩ v) hs (by simpa using hf) (by simp; omega)
      (fun u hu => h1 u (List.mem_cons_of_mem _ hu))
    refine ⟨w', arr', ?_, r2, by simpa using r3, fun j => ?_, by rw [r5, size_setCell], fun k hk => (r6 k hk).trans (heap_setCell_other v hk), r7, r8, r9⟩
    · simp only [storeCells, Sem.run_bind, addr_add]
      rw [run_store _ _ _ _ _ (h1 v (List.mem_cons_self ..))]
      simp only [hc, hfz, Bool.false_eq_true, if_false, Result.andThen_ok]
      exact r1
    · rw [r4]
      by_cases hj : j = o + i
      · subst hj
        rw [if_neg (by omega), if_pos (by simp)]
        simp [show o + i < arr.size by omega]
      · by_cases hin : o + (i + 1) ≤ j ∧ j < o + (i + 1) + vs.length
        · rw [if_pos hin, if_pos (by simp; omega), show j - (o + i) = (j - (o + (i + 1))) + 1 by omega]
          simp
        · rw [if_neg hin, if_neg (by simp; omega), Array.getElem?_setIfInBounds_ne (Ne.symm hj)]

theorem spl_get (cs : List AV) (off : Nat) (new : List AV) (h : off + new.length ≤ cs.length) (j : Nat) :
    (spl cs off new)[j]? = if off ≤ j ∧ j < off + new.length then new[j - off]? else cs[j]? := by
  unfold spl
  by_cases h1 : j < off
  · rw [if_neg (by omega), List.append_assoc, List.getElem?_append_left (by simp; omega), List.getElem?_take_of_lt h1]
  · by_cases h2 : j < off + new.length
    · rw [if_pos (by omega), List.append_assoc, List.getElem?_append_right (by simp; omega), List.getElem?_append_left (by simp; omega)]
      congr 1; simp; omega
    · rw [if_neg (by omega), List.getElem?_append_right (by simp; omega), List.getElem?_drop]
      congr 1; simp; omega

theorem length_spl (cs : List AV) (off : Nat) (new : List AV) (h : off + new.length ≤ cs.length) : (spl cs off new).length = cs.length := by
  unfold spl; simp; omega

/-- What a write of some cells leaves. -/
theorem stN_sound (h : HR B ρ H w) {i off : Nat} {new : List AV} {xs : List Value} {H' : Heap} {e : At} (he : ρ.ats[i]? = some e) (hr : RelL ρ new xs) (hs : stN H i off new = some H') :
    ∃ w', (storeCells ⟨e.b, e.sh + off, none⟩ xs).run P w = .ok () w' ∧ HR B ρ H' w' ∧ Ext B ρ w ρ w' := by
  unfold stN at hs
  split at hs
  · rename_i es cs oty ho
    cases hb : (Nat.ble (off + new.length) cs.length && new.all AV.scalar) with
    | false => rw [hb] at hs; cases hs
    | true =>
      rw [hb] at hs
      simp only [cond_true, Option.some.injEq] at hs
      subst hs
      simp only [Bool.and_eq_true] at hb
      have hle := Nat.le_of_ble_eq_true hb.1
      obtain ⟨hnb, h0, arr, ty, fz, h2, h3, h4, _, h5, h6⟩ := h.at' ho he
      obtain ⟨hB, hf⟩ := h5 rfl
      have hlen := hr.length
      have hcs : 0 < new.length → e.sh + cs.length ≤ arr.size := by
        intro h0
        obtain ⟨x, hx, _⟩ := h4 (cs.length - 1) _ (List.getElem?_eq_getElem (by omega))
        have := (Array.getElem?_eq_some_iff.1 hx).1
        omega
      by_cases hne : new.length = 0
      · have hnil : new = [] := List.length_eq_zero_iff.1 hne
        subst hnil
        have hx : xs = [] := by simpa [RelL] using hr
        subst hx
        have hsp : spl cs off [] = cs := by simp [spl]
        rw [hsp]
        refine ⟨w, by simp [storeCells], ?_, Ext.refl _ _ _⟩
        exact h.turn ho he hnb hB _ rfl (fun _ _ => rfl) (h.at' ho he)
      have hone : ∀ v ∈ xs, v.oneCell' = true := fun v hv => by
        obtain ⟨j, hj, rfl⟩ := List.getElem_of_mem hv
        have hj' : j < new.length := by omega
        obtain ⟨x, hx, hrx⟩ := hr.get (List.getElem?_eq_getElem hj')
        have : xs[j] = x := by rw [List.getElem?_eq_getElem hj] at hx; exact Option.some.inj hx
        rw [this]
        exact oneCell_of (List.all_eq_true.1 hb.2 _ (List.getElem_mem hj')) hrx
      obtain ⟨w', arr', r1, r2, r3, r4, r5, r6, r7, r8, r9⟩ := run_storeCells (P := P) e.b (e.sh + off) ty fz xs 0 arr w h2 (by rw [h3]; exact hf) (by have := hcs (by omega); omega) hone
      have hcell : ∀ (j : Nat) (v : AV), (spl cs off new)[j]? = some v → ∃ x, arr'[e.sh + j]? = some x ∧ Rel ρ v x := by
        intro j v hv
        rw [spl_get _ _ _ hle] at hv
        rw [r4]
        by_cases hin : off ≤ j ∧ j < off + new.length
        · rw [if_pos hin] at hv
          rw [if_pos (by omega), show e.sh + j - (e.sh + off + 0) = j - off by omega]
          exact hr.get hv
        · rw [if_neg hin] at hv
          rw [if_neg (by omega)]
          exact h4 j v hv
      have hO : ORel ρ B w' e (.cells false es (spl cs off new) oty) := ⟨hnb, h0, arr', ty, fz, r2, r3.trans h3, hcell, (fun hh => by cases hh), fun _ => ⟨hB, hf⟩, h6⟩
      exact ⟨w', r1, h.turn ho he hnb hB _ r5 r6 hO, Ext.turn (Env.blk_of he hnb) hB r5 r6 r7 r8 r9⟩
  · cases hs

end
end Go.AM
