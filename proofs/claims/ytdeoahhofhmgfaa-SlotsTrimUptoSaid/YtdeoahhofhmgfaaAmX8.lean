/- THE ABSTRACT MACHINE, 13b8: operations on terms are sound: maps, looked up and changed. -/
import Derived.Test.YtdeoahhofhmgfaaAmX7
set_option linter.unusedSimpArgs false
set_option linter.unusedVariables false
namespace Go.AM
open Go.RowKit
section
variable {B : Nat} {ρ : Env} {H : Heap} {w : World} {P : Program}

theorem same_I (n : Nat) (k : IntKind) (a : Int) : Instr.sameBits n (.int k a) (.int k a) = true := by cases n <;> simp [Instr.sameBits]
theorem same_B (n : Nat) (a : Bool) : Instr.sameBits n (.bool a) (.bool a) = true := by cases n <;> simp [Instr.sameBits]
theorem same_S (n : Nat) (a : ByteArray) : Instr.sameBits n (.string a) (.string a) = true := by cases n <;> simp [Instr.sameBits, bytes_self]

theorem keyC_det {t : TypeId} {c : CTy} (h : keyFs.keyC P t c = true) {σ : Nat → Option (Array Value)} {d : c.den} {x y : Value} (hx : CTy.Rd σ c d x) (hy : CTy.Rd σ c d y) : x = y ∧ ∀ n, Instr.sameBits n x y = true := by
  unfold keyFs.keyC at h
  split at h
  · simp only [CTy.Rd] at hx hy
    obtain ⟨rfl, _⟩ := hx; obtain ⟨rfl, _⟩ := hy
    exact ⟨rfl, fun n => same_I n _ _⟩
  · simp only [CTy.Rd] at hx hy
    obtain ⟨rfl, _⟩ := hx; obtain ⟨rfl, _⟩ := hy
    exact ⟨rfl, fun n => same_S n _⟩
  · simp only [CTy.Rd] at hx hy
    subst hx; subst hy
    exact ⟨rfl, fun n => same_B n _⟩
  · cases h

theorem keyFs_det {σ : Nat → Option (Array Value)} : ∀ (fs : List Field) (j : Nat) (r : RTy), keyFs P fs j r = true → ∀ (d : r.den) (xs ys : List Value), RTy.Rd σ r d xs → RTy.Rd σ r d ys →
    xs = ys ∧ ∀ n, (xs.zip ys).all (fun (x, y) => Instr.sameBits n x y) = true
  | [], j, r, h => by cases r <;> simp [keyFs] at h
  | [f], j, .one c, h => by
    intro d xs ys hx hy
    simp only [keyFs, Bool.and_eq_true] at h
    simp only [RTy.Rd] at hx hy
    obtain ⟨x, rfl, hx⟩ := hx
    obtain ⟨y, rfl, hy⟩ := hy
    obtain ⟨rfl, g⟩ := keyC_det h.2 hx hy
    exact ⟨rfl, fun n => by simp [g n]⟩
  | [f], j, .cons c r, h => by
    simp only [keyFs, Bool.and_eq_true] at h
    cases r <;> simp [keyFs] at h
  | f :: g :: fs, j, .one c, h => by simp [keyFs] at h
  | f :: g :: fs, j, .cons c r, h => by
    intro d xs ys hx hy
    simp only [keyFs, Bool.and_eq_true] at h
    simp only [RTy.Rd] at hx hy
    obtain ⟨x, xs', rfl, hx, hx'⟩ := hx
    obtain ⟨y, ys', rfl, hy, hy'⟩ := hy
    obtain ⟨rfl, k1⟩ := keyC_det h.1.2 hx hy
    obtain ⟨rfl, k2⟩ := keyFs_det (g :: fs) (j + 1) r h.2 d.2 xs' ys' hx' hy'
    exact ⟨rfl, fun n => by simp only [List.zip_cons_cons, List.all_cons, k1 n, k2 n, Bool.and_true]⟩

theorem key_det {kt : TypeId} {a : Bool} {r : RTy} (h : keyOk P kt a r = true) {k : r.den} {x y : Value} (hx : RowV ρ.fz a r k x) (hy : RowV ρ.fz a r k y) : x = y ∧ Instr.sameBits 10000 x y = true := by
  obtain ⟨xs, hx, rfl, hx1⟩ := hx
  obtain ⟨ys, hy, rfl, hy1⟩ := hy
  have scal : ∀ {c : CTy} (hc : (∃ k, c = .int k) ∨ c = .txt ∨ c = .boo) {d : c.den} {x y : Value}, CTy.Rd ρ.fz c d x → CTy.Rd ρ.fz c d y → x = y ∧ Instr.sameBits 10000 x y = true := by
    intro c hc d x y h1 h2
    rcases hc with ⟨k, rfl⟩ | rfl | rfl
    · simp only [CTy.Rd] at h1 h2
      obtain ⟨rfl, _⟩ := h1; obtain ⟨rfl, _⟩ := h2
      exact ⟨rfl, same_I _ _ _⟩
    · simp only [CTy.Rd] at h1 h2
      obtain ⟨rfl, _⟩ := h1; obtain ⟨rfl, _⟩ := h2
      exact ⟨rfl, same_S _ _⟩
    · simp only [CTy.Rd] at h1 h2
      subst h1; subst h2
      exact ⟨rfl, same_B _ _⟩
  unfold keyOk at h
  split at h
  · rename_i fs hu
    simp only [Bool.and_eq_true, Bool.not_eq_true'] at h
    obtain ⟨⟨rfl, hst⟩, hf⟩ := h
    obtain ⟨rfl, g⟩ := keyFs_det fs.toList 0 r hf k xs ys hx hy
    refine ⟨rfl, ?_⟩
    show Instr.sameBits (9999 + 1) (.agg xs.toArray) (.agg xs.toArray) = true
    simp only [Instr.sameBits, beq_self_eq_true, Bool.true_and]
    exact g 9999
  all_goals try (cases h; done)
  all_goals
    simp only [Bool.and_eq_true, Bool.not_eq_true'] at h
    obtain ⟨rfl, h⟩ := h
    split at h
    · simp only [RTy.Rd] at hx hy
      obtain ⟨x, rfl, hx⟩ := hx
      obtain ⟨y, rfl, hy⟩ := hy
      exact scal (by simp) hx hy
    · cases h

section
open Classical
variable {κ ν : Type}
theorem mget_mem {m : List (κ × ν)} (hn : (m.map (·.1)).Nodup) {p : κ × ν} (hp : p ∈ m) : mget m p.1 = some p.2 := by
  induction m with
  | nil => cases hp
  | cons q m ih =>
    rw [List.map_cons, List.nodup_cons] at hn
    unfold mget
    rw [List.find?_cons]
    rcases List.mem_cons.1 hp with rfl | hp
    · simp
    · have hne : q.1 ≠ p.1 := fun e => hn.1 (by rw [e]; exact List.mem_map_of_mem hp)
      simp only [hne, decide_false]
      exact ih hn.2 hp

theorem mget_none {m : List (κ × ν)} {k : κ} (h : ∀ p ∈ m, p.1 ≠ k) : mget m k = none := by
  unfold mget
  rw [List.find?_eq_none.2 fun p hp => by simpa using h p hp]; rfl
end

theorem smap_at (h : HR B ρ H w) {i : Nat} {ka va : Bool} {kr vr : RTy} {m : List (kr.den × vr.den)} {bs : List Nat} {clk : Nat} {e : At} (ho : H.get i = some (.smap ka va kr vr m bs clk)) (he : ρ.ats[i]? = some e) :
    e.nb = false ∧ B ≤ e.b ∧ (m.map (·.1)).Nodup ∧ ∃ arr, w.heap[e.b]? = some (.map arr clk) ∧ Stamps arr.toList clk ∧ bs = arr.toList.map (·.born) ∧ SMapL ρ.fz ka va kr vr m arr.toList := h.at' ho he

/-- What is found, by rows. -/
theorem found_get {kr vr : RTy} {m : List (kr.den × vr.den)} (hn : (m.map (·.1)).Nodup) {k : kr.den} {l : List MapEntry} {q : Option (Nat × Value)} (hf : FoundR k m l 0 q) :
    (q = none ∧ mget m k = none) ∨ ∃ j p y, m[j]? = some p ∧ l[j]? = some y ∧ p.1 = k ∧ q = some (j, y.val) ∧ mget m k = some p.2 := by
  rcases hf with ⟨h1, h2⟩ | ⟨j, p, y, h1, h2, h3, h4⟩
  · exact .inl ⟨h1, mget_none h2⟩
  · refine .inr ⟨j, p, y, h1, h2, h3, by rw [h4, Nat.zero_add], ?_⟩
    rw [← h3]
    exact mget_mem hn (List.mem_of_getElem? h1)

theorem xLookup_sound (h : HR B ρ H w) {t : TypeId} {m k v : AV} {x y : Value} {ok : Bool} (hm : Rel ρ m x) (hk : Rel ρ k y) (hl : xLookup P H t m k ok = some v) :
    ∃ z, (Instr.lookup t x y ok).run P w = .ok z w ∧ Rel ρ v z := by
  unfold xLookup at hl
  simp only [Option.bind_eq_some_iff] at hl
  obtain ⟨u, hu, hl⟩ := hl
  split at hl
  · rename_i kt et i
    simp only [Rel] at hm
    obtain ⟨e, he, rfl⟩ := hm
    split at hl
    · rename_i ka va kr vr rows bs clock ho
      cases hko : keyOk P kt ka kr with
      | false => rw [hko] at hl; cases hl
      | true =>
        rw [hko, cond_true] at hl
        simp only [Option.bind_eq_some_iff, Option.map_eq_some_iff] at hl
        obtain ⟨kc, h1, kd, h2, z, h3, zc, h4, zd, h5, hl⟩ := hl
        obtain ⟨hnb, hB, hnd, arr, g1, g2, gb, g4, g5⟩ := smap_at h ho he
        have hkey := rowV_of h1 h2 hk
        obtain ⟨q, hq, hf⟩ := findKey_rows (w := w) hko hkey g4 fun j p y a b => (g5 j p y a b).1
        have hck := key_check_run hko hkey arr.isEmpty w
        obtain ⟨zv, z1, z2⟩ := zeroA_sound (w := w) h3 ρ
        have hz := (rowV_of h4 h5 z2).rel
        rcases found_get hnd hf with ⟨rfl, f2⟩ | ⟨j, p, ye, f1, f2, f3, rfl, f5⟩
        · rw [f2] at hl
          cases ok
          · simp at hl; subst hl
            exact ⟨zv, by simp [Instr.lookup, run_underlying hu, run_getObj_map g1, hck, hq, z1], hz⟩
          · simp at hl; subst hl
            exact ⟨.tuple #[zv, .bool false], by simp [Instr.lookup, run_underlying hu, run_getObj_map g1, hck, hq, z1], ⟨_, rfl, by simp [RelL, Rel, hz]⟩⟩
        · have hv := (g5 j p ye f1 f2).2.rel
          rw [f5] at hl
          cases ok
          · simp at hl; subst hl
            exact ⟨ye.val, by simp [Instr.lookup, run_underlying hu, run_getObj_map g1, hck, hq], hv⟩
          · simp at hl; subst hl
            exact ⟨.tuple #[ye.val, .bool true], by simp [Instr.lookup, run_underlying hu, run_getObj_map g1, hck, hq], ⟨_, rfl, by simp [RelL, Rel, hv]⟩⟩
    · cases hl
  · cases hl

section
open Classical
variable {κ ν : Type}
theorem key_at {m : List (κ × ν)} (hn : (m.map (·.1)).Nodup) {i j : Nat} {p q : κ × ν} (hi : m[i]? = some p) (hj : m[j]? = some q) (h : p.1 = q.1) : i = j := by
  have hi' : (m.map (·.1))[i]? = some p.1 := by rw [List.getElem?_map, hi]; rfl
  have hj' : (m.map (·.1))[j]? = some p.1 := by rw [List.getElem?_map, hj, h]; rfl
  have h1 := (List.getElem?_eq_some_iff.1 hi').1
  exact (List.getElem?_inj h1 hn).1 (hi'.trans hj'.symm)

theorem map_set {m : List (κ × ν)} (hn : (m.map (·.1)).Nodup) {j : Nat} {p : κ × ν} {k : κ} {v : ν} (hj : m[j]? = some p) (h : p.1 = k) : (m.map fun p => if p.1 = k then (k, v) else p) = m.set j (k, v) := by
  apply List.ext_getElem?
  intro i
  rw [List.getElem?_map, List.getElem?_set]
  by_cases e : j = i
  · subst e
    rw [hj, if_pos rfl, if_pos (List.getElem?_eq_some_iff.1 hj).1]
    simp [h]
  · rw [if_neg e]
    cases hi : m[i]? with
    | none => rfl
    | some q =>
      have hne : q.1 ≠ k := fun e2 => e (key_at hn hj hi (by rw [h, e2]))
      simp [hne]

theorem filter_erase : ∀ {m : List (κ × ν)} (hn : (m.map (·.1)).Nodup) {j : Nat} {p : κ × ν} {k : κ} (hj : m[j]? = some p) (h : p.1 = k), (m.filter fun p => decide (p.1 ≠ k)) = m.eraseIdx j
  | [], _, j, p, k, hj, _ => by simp at hj
  | q :: m, hn, 0, p, k, hj, h => by
    simp only [List.getElem?_cons_zero, Option.some.injEq] at hj
    subst hj; subst h
    rw [List.map_cons, List.nodup_cons] at hn
    rw [List.eraseIdx_cons_zero, List.filter_cons, if_neg (by simp)]
    rw [List.filter_eq_self]
    intro a ha
    rw [decide_eq_true_eq]
    intro e
    exact hn.1 (by rw [← e]; exact List.mem_map_of_mem ha)
  | q :: m, hn, j + 1, p, k, hj, h => by
    rw [List.map_cons, List.nodup_cons] at hn
    simp only [List.getElem?_cons_succ] at hj
    have hne : q.1 ≠ k := fun e => hn.1 (by rw [e, ← h]; exact List.mem_map_of_mem (List.mem_of_getElem? hj))
    rw [List.eraseIdx_cons_succ, List.filter_cons, if_pos (by simpa using hne), filter_erase hn.2 hj h]

theorem mput_some {m : List (κ × ν)} {k : κ} {v u : ν} (h : mget m k = some u) : mput m k v = m.map fun p => if p.1 = k then (k, v) else p := by
  unfold mput; rw [h]; simp
theorem mput_none {m : List (κ × ν)} {k : κ} {v : ν} (h : mget m k = none) : mput m k v = m ++ [(k, v)] := by
  unfold mput; rw [h]; simp
theorem keys_mput {m : List (κ × ν)} {k : κ} {v : ν} : ((m.map fun p => if p.1 = k then (k, v) else p).map (·.1)) = m.map (·.1) := by
  rw [List.map_map]
  apply List.map_congr_left
  intro p _
  by_cases e : p.1 = k
  · simp [e]
  · simp [e]
theorem mget_none_iff {m : List (κ × ν)} {k : κ} (h : mget m k = none) : ∀ p ∈ m, p.1 ≠ k := by
  unfold mget at h
  rw [Option.map_eq_none_iff, List.find?_eq_none] at h
  intro p hp
  simpa using h p hp
end

theorem map_eraseIdx' {α β : Type} (f : α → β) : ∀ (l : List α) (j : Nat), (l.eraseIdx j).map f = (l.map f).eraseIdx j
  | [], j => by simp
  | a :: l, 0 => by simp
  | a :: l, j + 1 => by simp [map_eraseIdx' f l j]

section
open Classical
variable {κ ν : Type} {m : List (κ × ν)} {k : κ} {bs : List Nat} {c : Nat}
theorem bput_some {u : ν} (h : mget m k = some u) : bput m bs c k = bs := by unfold bput; rw [h]; rfl
theorem bput_none (h : mget m k = none) : bput m bs c k = bs ++ [c] := by unfold bput; rw [h]; rfl
theorem cput_some {u : ν} (h : mget m k = some u) : cput m c k = c := by unfold cput; rw [h]; rfl
theorem cput_none (h : mget m k = none) : cput m c k = c + 1 := by unfold cput; rw [h]; rfl
theorem zip_keys (hl : m.length = bs.length) : ((m.map (·.1)).zip bs).map (·.1) = m.map (·.1) := by
  rw [List.map_fst_zip]; simp [hl]
theorem zip_vals (hl : m.length = bs.length) : ((m.map (·.1)).zip bs).map (·.2) = bs := by
  rw [List.map_snd_zip]; simp [hl]
theorem bdel_none (hl : m.length = bs.length) (h : ∀ p ∈ m, p.1 ≠ k) : bdel m bs k = bs := by
  unfold bdel mdel
  rw [List.filter_eq_self.2, zip_vals hl]
  rintro ⟨a, b⟩ hm
  obtain ⟨p, hp, rfl⟩ := List.mem_map.1 (List.of_mem_zip hm).1
  simpa using h p hp
theorem bdel_some (hn : (m.map (·.1)).Nodup) (hl : m.length = bs.length) {j : Nat} {p : κ × ν} (hj : m[j]? = some p) (h : p.1 = k) : bdel m bs k = bs.eraseIdx j := by
  unfold bdel mdel
  have hlt : j < m.length := (List.getElem?_eq_some_iff.1 hj).1
  have hz : ((m.map (·.1)).zip bs)[j]? = some (p.1, bs[j]'(hl ▸ hlt)) := by
    rw [List.getElem?_zip_eq_some]
    exact ⟨by rw [List.getElem?_map, hj]; rfl, List.getElem?_eq_getElem _⟩
  rw [filter_erase (by rw [zip_keys hl]; exact hn) hz h]
  rw [map_eraseIdx', zip_vals hl]
end

open Classical in
theorem xMapUpdate_sound (h : HR B ρ H w) {t : TypeId} {m k v : AV} {x y z : Value} {H' : Heap} (hm : Rel ρ m x) (hk : Rel ρ k y) (hv : Rel ρ v z) (hs : xMapUpdate P H t m k v = some H') :
    ∃ w', (Instr.mapUpdate t x y z).run P w = .ok () w' ∧ HR B ρ H' w' ∧ Ext B ρ w ρ w' := by
  unfold xMapUpdate at hs
  simp only [Option.bind_eq_some_iff] at hs
  obtain ⟨u, hu, hs⟩ := hs
  split at hs
  · rename_i kt et i
    simp only [Rel] at hm
    obtain ⟨e, he, rfl⟩ := hm
    split at hs
    · rename_i ka va kr vr rows bs clock ho
      cases hko : keyOk P kt ka kr with
      | false => rw [hko] at hs; cases hs
      | true =>
        rw [hko, cond_true] at hs
        simp only [Option.bind_eq_some_iff, Option.map_eq_some_iff] at hs
        obtain ⟨kc, h1, kd, h2, vc, h3, vd, h4, rfl⟩ := hs
        obtain ⟨hnb, hB, hnd, arr, g1, ⟨s1, s2⟩, gb, g4, g5⟩ := smap_at h ho he
        have hkey := rowV_of h1 h2 hk
        have hval := rowV_of h3 h4 hv
        obtain ⟨q, hq, hf⟩ := findKey_rows (w := w) hko hkey g4 fun j p y a b => (g5 j p y a b).1
        have hck := key_check_run hko hkey false w
        rcases found_get hnd hf with ⟨rfl, f2⟩ | ⟨j, p, ye, f1, f2, f3, rfl, f5⟩
        · rw [mput_none f2, bput_none f2, cput_none f2]
          have hno := mget_none_iff f2
          obtain ⟨k1, k2⟩ := obj_turn h ho he hnb hB (.map (arr.push { key := y, val := z, born := clock }) (clock + 1)) (o' := .smap ka va kr vr (rows ++ [(kd, vd)]) (bs ++ [clock]) (clock + 1))
            (fun w' hw' => ⟨hnb, hB, by
                rw [List.map_append, List.nodup_append]
                refine ⟨hnd, by simp, fun a ha b hb => ?_⟩
                obtain ⟨p, hp, rfl⟩ := List.mem_map.1 ha
                simp at hb
                rw [hb]
                exact hno p hp, _, hw', ⟨by
                  rw [Array.toList_push, List.map_append, List.nodup_append]
                  refine ⟨s1, by simp, fun a ha b hb => ?_⟩
                  obtain ⟨p, hp, rfl⟩ := List.mem_map.1 ha
                  simp at hb
                  have := s2 p hp
                  omega, fun x hx => by
                  rw [Array.toList_push] at hx
                  rcases List.mem_append.1 hx with hx | hx
                  · have := s2 x hx; omega
                  · simp at hx; rw [hx]; exact Nat.lt_succ_self _⟩, by rw [Array.toList_push, List.map_append, gb]; rfl, by rw [Array.toList_push]; simp [g4], fun j p x hp hx => by
                rw [Array.toList_push] at hx
                rw [List.getElem?_append] at hp hx
                split at hp
                · rename_i hlt
                  rw [if_pos (by omega)] at hx
                  exact g5 j p x hp hx
                · rename_i hlt
                  rw [if_neg (by omega)] at hx
                  rw [g4] at hp
                  have hj0 : j - arr.toList.length = 0 := by
                    have := (List.getElem?_eq_some_iff.1 hx).1
                    simp at this; omega
                  rw [hj0] at hp hx
                  simp at hp hx
                  rw [← hp, ← hx]
                  exact ⟨hkey, hval⟩⟩)
          exact ⟨_, by simp [Instr.mapUpdate, run_underlying hu, run_getObj_map g1, hck, hq, run_setObj_map _ g1], k1, k2⟩
        · rw [mput_some f5, bput_some f5, cput_some f5]
          obtain ⟨d1, d2⟩ := g5 j p ye f1 f2
          rw [f3] at d1
          obtain ⟨det1, det2⟩ := key_det hko d1 hkey
          have hks : (Instr.keyThatStays ye.key y).run P w = .ok y w := by simp [Instr.keyThatStays, det2]
          have hgj : arr[j]? = some ye := by simpa using f2
          have hmod : (arr.modify j fun e => { e with key := y, val := z }).toList = arr.toList.set j { ye with key := y, val := z } := modify_toList _ _ _ _ f2
          have hborn : (arr.toList.set j { ye with key := y, val := z }).map (·.born) = arr.toList.map (·.born) := by
            rw [List.map_set]
            apply List.ext_getElem?
            intro i
            rw [List.getElem?_set]
            by_cases e : j = i
            · subst e
              rw [if_pos rfl, List.getElem?_map, f2]
              rw [if_pos (by rw [List.length_map]; exact (List.getElem?_eq_some_iff.1 f2).1)]; rfl
            · rw [if_neg e]
          obtain ⟨k1, k2⟩ := obj_turn h ho he hnb hB (.map (arr.modify j fun e => { e with key := y, val := z }) clock) (o' := .smap ka va kr vr (rows.map fun p => if p.1 = kd then (kd, vd) else p) bs clock)
            (fun w' hw' => ⟨hnb, hB, by rw [keys_mput]; exact hnd, _, hw', by
                rw [hmod]
                refine ⟨by rw [hborn]; exact s1, fun x hx => ?_⟩
                have : x.born ∈ arr.toList.map (·.born) := by rw [← hborn]; exact List.mem_map_of_mem hx
                obtain ⟨x', hx', e⟩ := List.mem_map.1 this
                rw [← e]; exact s2 x' hx', by rw [hmod, gb]; exact hborn.symm, by rw [hmod]; simp [g4], fun i p' x hp hx => by
                rw [hmod] at hx
                rw [map_set hnd f1 f3] at hp
                rw [List.getElem?_set] at hp hx
                by_cases e : j = i
                · subst e
                  rw [if_pos rfl, if_pos (List.getElem?_eq_some_iff.1 f1).1] at hp
                  rw [if_pos rfl, if_pos (List.getElem?_eq_some_iff.1 f2).1] at hx
                  cases hp; cases hx
                  exact ⟨hkey, hval⟩
                · rw [if_neg e] at hp hx
                  exact g5 i p' x hp hx⟩)
          exact ⟨_, by simp [Instr.mapUpdate, run_underlying hu, run_getObj_map g1, hck, hq, hgj, hks, run_setObj_map _ g1], k1, k2⟩
    · cases hs
  · cases hs

theorem xDelete_sound (h : HR B ρ H w) {t : TypeId} {m k : AV} {x y : Value} {H' : Heap} {ts : TypeId} {rest : List TypeId} (hm : Rel ρ m x) (hk : Rel ρ k y) (hs : xDelete P H t m k = some H') :
    ∃ w', (Builtin.delete_ (t :: rest).toArray ts #[x, y]).run P w = .ok (.tuple #[]) w' ∧ HR B ρ H' w' ∧ Ext B ρ w ρ w' := by
  unfold xDelete at hs
  simp only [Option.bind_eq_some_iff] at hs
  obtain ⟨u, hu, hs⟩ := hs
  split at hs
  · rename_i kt et i
    simp only [Rel] at hm
    obtain ⟨e, he, rfl⟩ := hm
    split at hs
    · rename_i ka va kr vr rows bs clock ho
      cases hko : keyOk P kt ka kr with
      | false => rw [hko] at hs; cases hs
      | true =>
        rw [hko, cond_true] at hs
        simp only [Option.bind_eq_some_iff, Option.map_eq_some_iff] at hs
        obtain ⟨kc, h1, kd, h2, rfl⟩ := hs
        obtain ⟨hnb, hB, hnd, arr, g1, ⟨s1, s2⟩, gb, g4, g5⟩ := smap_at h ho he
        have hkey := rowV_of h1 h2 hk
        obtain ⟨q, hq, hf⟩ := findKey_rows (w := w) hko hkey g4 fun j p y a b => (g5 j p y a b).1
        have hck := key_check_run hko hkey arr.isEmpty w
        have hndd : ((mdel rows kd).map (·.1)).Nodup := hnd.sublist (List.filter_sublist.map _)
        rcases found_get hnd hf with ⟨rfl, f2⟩ | ⟨j, p, ye, f1, f2, f3, rfl, f5⟩
        · have hno := mget_none_iff f2
          have hlen : rows.length = bs.length := by rw [gb, List.length_map]; exact g4
          have hself : mdel rows kd = rows := by
            unfold mdel
            rw [List.filter_eq_self]
            intro a ha
            simpa using hno a ha
          obtain ⟨k1, k2⟩ := obj_turn h ho he hnb hB (.map arr clock) (o' := .smap ka va kr vr (mdel rows kd) (bdel rows bs kd) clock) (fun w' hw' => ⟨hnb, hB, hndd, _, hw', ⟨s1, s2⟩, by rw [bdel_none hlen hno]; exact gb, by rw [hself]; exact ⟨g4, g5⟩⟩)
          exact ⟨_, by simp [Builtin.delete_, run_underlying hu, run_getObj_map g1, hck, hq, run_setObj_map _ g1], k1, k2⟩
        · have hlen : rows.length = bs.length := by rw [gb, List.length_map]; exact g4
          have hj : j < arr.size := by
            have := (List.getElem?_eq_some_iff.1 f2).1
            simpa using this
          have hdel : mdel rows kd = rows.eraseIdx j := filter_erase hnd f1 f3
          have her : (arr.eraseIdxIfInBounds j).toList = arr.toList.eraseIdx j := by simp [Array.eraseIdxIfInBounds, hj]
          obtain ⟨k1, k2⟩ := obj_turn h ho he hnb hB (.map (arr.eraseIdxIfInBounds j) clock) (o' := .smap ka va kr vr (mdel rows kd) (bdel rows bs kd) clock)
            (fun w' hw' => ⟨hnb, hB, hndd, _, hw', by
                rw [her]
                exact ⟨s1.sublist ((List.eraseIdx_sublist ..).map _), fun x hx => s2 x ((List.eraseIdx_sublist ..).subset hx)⟩, by rw [bdel_some hnd hlen f1 f3, her, gb, map_eraseIdx'], by rw [hdel, her, List.length_eraseIdx, List.length_eraseIdx, g4], fun i p' x hp hx => by
                rw [her] at hx
                rw [hdel] at hp
                rw [List.getElem?_eraseIdx] at hp hx
                split at hp
                · rename_i hlt; rw [if_pos hlt] at hx; exact g5 i p' x hp hx
                · rename_i hlt; rw [if_neg hlt] at hx; exact g5 (i + 1) p' x hp hx⟩)
          exact ⟨_, by simp [Builtin.delete_, run_underlying hu, run_getObj_map g1, hck, hq, run_setObj_map _ g1], k1, k2⟩
    · cases hs
  · cases hs
end
end Go.AM
