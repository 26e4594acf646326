/- THE ABSTRACT MACHINE, 11: the operations are sound, part 8: iterators, assertions, lengths, append, copy. -/
import Derived.Test.YtdeoahhofhmgfaaAmSnd7
namespace Go.AM
open Go.RowKit
section
variable {B : Nat} {ρ : Env} {H : Heap} {w : World} {P : Program}

theorem aRange_sound (h : HR B ρ H w) {t : TypeId} {a : AV} {x : Value} {r : AV × Heap} (ha : Rel ρ a x) (hc : aRange P H t a = some r) : SV B P ρ w (Instr.range t x) r.1 r.2 := by
  unfold aRange at hc
  cases hu : P.underlying t with
  | none => simp [hu] at hc
  | some d =>
    simp only [hu, Option.bind_some] at hc
    split at hc
    · rename_i s
      cases hc
      simp only [Rel] at ha; subst ha
      let e0 : At := ⟨w.heap.size, 0, 0, 0, 0, false⟩
      have h2 : HR B (ρ.add e0) (H.alloc (.sIter s 0)) (w.alloc (.stringIter ⟨s.toArray⟩ 0)) := h.alloc _ _ e0 rfl ⟨rfl, rfl, h.base, heap_alloc_new _ _⟩
      exact ⟨.pointer (some ⟨w.heap.size, 0, none⟩), _, _, by simp [Instr.range, run_underlying hu], Ext.alloc _ e0 h.base rfl, h2, ⟨e0, by rw [h.next]; simp, rfl⟩⟩
    · rename_i i
      simp only [Rel] at ha
      obtain ⟨e, he, rfl⟩ := ha
      split at hc
      · rename_i es clock ho
        cases hc
        obtain ⟨hnb, hB, arr, h1, h2⟩ := h.at' ho he
        let e0 : At := ⟨w.heap.size, 0, 0, 0, 0, false⟩
        have h3 : HR B (ρ.add e0) (H.alloc (.mIter i clock [] clock)) (w.alloc (.mapIter (some e.b) clock #[] clock)) :=
          h.alloc _ _ e0 rfl ⟨rfl, rfl, h.base, e, pre_get (Env.le_add _ _).ats he, heap_alloc_new _ _⟩
        exact ⟨.pointer (some ⟨w.heap.size, 0, none⟩), _, _, by simp [Instr.range, run_underlying hu, run_getObj_map h1], Ext.alloc _ e0 h.base rfl, h3, ⟨e0, by rw [h.next]; simp, rfl⟩⟩
      · cases hc
    · cases hc

/-- One of several ends. -/
def SO (B : Nat) (P : Program) (ρ : Env) (w : World) (s : Sem Value) (l : List (AV × Heap)) : Prop :=
  ∃ r ∈ l, SV B P ρ w s r.1 r.2

theorem natMem_eq (n : Nat) : ∀ l : List Nat, natMem n l = l.contains n
  | [] => rfl
  | m :: l => by
    have : Nat.beq n m = (n == m) := by rw [Bool.eq_iff_iff]; simp
    rw [natMem, natMem_eq n l, List.contains_cons, this]

theorem EntL.filter {p : Ent → Bool} {q : MapEntry → Bool} (hpq : ∀ (e : Ent) (y : MapEntry), y.born = e.born → p e = q y) : ∀ {es : List Ent} {xs : List MapEntry}, EntL ρ es xs → EntL ρ (es.filter p) (xs.filter q)
  | [], _, h => by simp only [EntL] at h; subst h; rfl
  | e :: es, _, h => by
    obtain ⟨y, ys, rfl, h1, h2, h3, h4⟩ := h
    have ih := h4.filter hpq
    have := hpq e y h3
    simp only [List.filter_cons, this]
    cases q y with
    | true => exact ⟨y, _, rfl, h1, h2, h3, ih⟩
    | false => exact ih

theorem EntL.all {p : Ent → Bool} {q : MapEntry → Bool} (hpq : ∀ (e : Ent) (y : MapEntry), y.born = e.born → p e = q y) : ∀ {es : List Ent} {xs : List MapEntry}, EntL ρ es xs → es.all p = xs.all q
  | [], _, h => by simp only [EntL] at h; subst h; rfl
  | e :: es, _, h => by
    obtain ⟨y, ys, rfl, h1, h2, h3, h4⟩ := h
    simp [List.all_cons, hpq e y h3, h4.all hpq]

theorem EntL.isEmpty {es : List Ent} {xs : List MapEntry} (h : EntL ρ es xs) : es.isEmpty = xs.isEmpty := by
  cases es with
  | nil => simp only [EntL] at h; subst h; rfl
  | cons e es => obtain ⟨y, ys, rfl, _⟩ := h; rfl

theorem run_getObj_any {b : Nat} {O : Obj} (hn : ∀ c t f, O ≠ .cells c t f) (h : w.heap[b]? = some O) : (getObj b).run P w = .ok O w := by
  cases O <;> simp [getObj, Sem.run, h] <;> exact (hn _ _ _ rfl).elim

theorem run_setObj_any {b : Nat} {O O' : Obj} (hn : ∀ c t f, O ≠ .cells c t f) (h : w.heap[b]? = some O) : (setObj b O').run P w = .ok () { w with heap := w.heap.setIfInBounds b O' } := by
  cases O <;> simp [setObj, Sem.run, h] <;> exact (hn _ _ _ rfl).elim

theorem aNext_sound (h : HR B ρ H w) {it : AV} {x : Value} {isS : Bool} {l : List (AV × Heap)} {ty : TypeId} (ha : Rel ρ it x) (hc : aNext H it isS = some l) : SO B P ρ w (Instr.next x isS ty) l := by
  unfold aNext at hc
  split at hc
  · rename_i r
    simp only [Rel] at ha
    obtain ⟨e, he, rfl⟩ := ha
    split at hc
    · rename_i s pos ho
      obtain ⟨hnb, hs, hB, h1⟩ := h.at' ho he
      have hsz : (⟨s.toArray⟩ : ByteArray).size = s.length := by simp [ByteArray.size]
      have hg := run_getObj_any (P := P) (by intro c t f hh; cases hh) h1
      cases hb : Nat.blt pos s.length with
      | true =>
        simp only [hb, cond_true, Option.some.injEq] at hc
        subst hc
        have hlt : pos < (⟨s.toArray⟩ : ByteArray).size := by rw [hsz]; simpa [Nat.blt_eq] using hb
        obtain ⟨g1, g2⟩ := obj_turn h ho he hnb hB (.stringIter ⟨s.toArray⟩ (pos + (Utf8.decode ⟨s.toArray⟩ pos).2)) (o' := .sIter s (pos + (Utf8.decode ⟨s.toArray⟩ pos).2)) (fun w' hw' => ⟨hnb, hs, hB, hw'⟩)
        refine ⟨_, List.mem_singleton.2 rfl, _, _, ρ, ?_, g2, g1, ⟨#[.bool true, goInt pos, .int .i32 (Utf8.decode ⟨s.toArray⟩ pos).1], rfl, by simp [RelL, Rel, goInt]⟩⟩
        simp only [Instr.next, hs, Nat.zero_add, Sem.run_bind, hg, Result.andThen_ok]
        simp [hlt, run_setObj_any (P := P) (by intro c t f hh; cases hh) h1]
      | false =>
        simp only [hb, cond_false, Option.some.injEq] at hc
        subst hc
        have hlt : ¬ pos < (⟨s.toArray⟩ : ByteArray).size := by
          rw [hsz]; intro hh
          have : Nat.blt pos s.length = true := by simpa [Nat.blt_eq] using hh
          rw [hb] at this; cases this
        refine ⟨_, List.mem_singleton.2 rfl, SV.same h ⟨.tuple #[.bool false], ?_, ⟨_, rfl, by simp [RelL, Rel]⟩⟩⟩
        simp only [Instr.next, hs, Nat.zero_add, Sem.run_bind, hg, Result.andThen_ok]
        simp [hlt]
    · rename_i m since seen stepped ho
      obtain ⟨hnb, hs, hB, em, hem, h1⟩ := h.at' ho he
      have hg := run_getObj_any (P := P) (by intro c t f hh; cases hh) h1
      split at hc
      · rename_i es clock hom
        obtain ⟨hnbm, hBm, arr, hm1, hm2⟩ := h.at' hom hem
        have hgm := run_getObj_map (P := P) hm1
        have hall : es.all (fun e => Nat.ble stepped e.born) = arr.toList.all (fun e => decide (e.born ≥ stepped)) := hm2.all fun e y hy => by
          rw [Bool.eq_iff_iff]; simp [hy]
        have hemp : es.isEmpty = arr.isEmpty := by rw [hm2.isEmpty]; simp
        have hleft : EntL ρ (es.filter fun e => !natMem e.born seen) (arr.toList.filter fun e => !seen.toArray.contains e.born) := hm2.filter fun e y hy => by
          rw [natMem_eq, hy]; simp
        have hold := hleft.filter (p := fun e => Nat.blt e.born since) (q := fun e => decide (e.born < since)) fun e y hy => by rw [Bool.eq_iff_iff]; simp [hy, Nat.blt_eq]
        have hnew := hleft.filter (p := fun e => !Nat.blt e.born since) (q := fun e => decide (e.born ≥ since)) fun e y hy => by
          rw [Bool.eq_iff_iff]
          simp only [Bool.not_eq_true', ge_iff_le, decide_eq_true_eq, hy]
          rw [← Bool.not_eq_true, Nat.blt_eq]; omega
        cases hguard : (!seen.isEmpty && !es.isEmpty && es.all (fun e => Nat.ble stepped e.born)) with
        | true => simp [hguard] at hc
        | false =>
          simp only [hguard, cond_false, Option.some.injEq] at hc
          have hguard' : (!seen.toArray.isEmpty && !arr.isEmpty && arr.all (fun e => decide (e.born ≥ stepped))) = false := by
            rw [← hguard, hall, hemp]
            simp
          generalize hleftr : (arr.filter fun e => !seen.toArray.contains e.born) = left
          have hleftl : left.toList = arr.toList.filter fun e => !seen.toArray.contains e.born := by rw [← hleftr]; simp
          generalize holdr : left.filter (fun e => decide (e.born < since)) = old
          generalize hnewr : left.filter (fun e => decide (e.born ≥ since)) = new
          have holdl : old.toList = (arr.toList.filter fun e => !seen.toArray.contains e.born).filter fun e => decide (e.born < since) := by rw [← holdr, Array.toList_filter, hleftl]
          have hnewl : new.toList = (arr.toList.filter fun e => !seen.toArray.contains e.born).filter fun e => decide (e.born ≥ since) := by rw [← hnewr, Array.toList_filter, hleftl]
          rw [← holdl] at hold
          rw [← hnewl] at hnew
          have hboth := hold.append hnew
          generalize hcr : ((if old.isEmpty then #[none] else #[]) ++ (old ++ new).map some : Array (Option MapEntry)) = cands
          have hrun : (Instr.next (.pointer (some ⟨e.b, e.sh + 0, none⟩)) false ty).run P w =
              ((choose (.mapNext cands.size)).run P w).andThen fun k w1 => (match cands[k]? with
                | some (some e') => (do
                  setObj e.b (.mapIter (some em.b) since (seen.toArray.push e'.born) clock)
                  pure (.tuple #[.bool true, e'.key, e'.val]) : Sem Value)
                | some none => pure (.tuple #[.bool false])
                | none => stuck "Next: no such candidate").run P w1 := by
            simp only [Instr.next, hs, Nat.zero_add, Sem.run_bind, hg, hgm, Result.andThen_ok, hguard', hleftr, holdr, hnewr, hcr]
            rw [if_neg (by simp)]
            simp only [Sem.run_bind]
            rfl
          -- which one comes
          have hpos : 0 < cands.size := by
            rw [← hcr]
            by_cases ho : old.isEmpty = true
            · simp [ho]; omega
            · have : 0 < old.size := by
                rcases Nat.eq_zero_or_pos old.size with hz | hz
                · exact absurd (by simpa [Array.isEmpty] using hz) ho
                · exact hz
              simp [ho]; omega
          obtain ⟨k, w1, hk, hch, hw1⟩ : ∃ k w1, k < cands.size ∧ (choose (.mapNext cands.size)).run P w = .ok k w1 ∧ (w1 = w ∨ w1 = { w with drawn := w.drawn + 1 }) := by
            rw [run_choose]
            by_cases hf : (Question.mapNext cands.size).forced = true
            · rw [if_pos hf]; exact ⟨0, w, hpos, rfl, .inl rfl⟩
            · rw [if_neg hf]; exact ⟨_, _, Nat.mod_lt _ hpos, rfl, .inr rfl⟩
          have hH1 : HR B ρ H w1 := by rcases hw1 with rfl | rfl; exact h; exact h.heap rfl
          have hE1 : Ext B ρ w ρ w1 := by rcases hw1 with rfl | rfl; exact Ext.refl _ _ _; exact Ext.heap rfl rfl rfl rfl
          have h11 : w1.heap = w.heap := by rcases hw1 with rfl | rfl <;> rfl
          -- the abstract list, place by place
          have hoe : ((es.filter fun e => !natMem e.born seen).filter (fun e => Nat.blt e.born since)).isEmpty = old.isEmpty := by
            rw [hold.isEmpty]; simp
          generalize hao : ((es.filter fun e => !natMem e.born seen).filter fun e => Nat.blt e.born since) = aold at *
          generalize han : ((es.filter fun e => !natMem e.born seen).filter fun e => !Nat.blt e.born since) = anew at *
          have hck : cands[k]? = some none ∧ (.tup [.bool false], H) ∈ l ∨ ∃ (ye : MapEntry) (ae : Ent), cands[k]? = some (some ye) ∧ Rel ρ ae.key ye.key ∧ Rel ρ ae.val ye.val ∧ ye.born = ae.born ∧
              (.tup [.bool true, ae.key, ae.val], H.set r (.mIter m since (seen ++ [ae.born]) clock)) ∈ l := by
            subst hc
            have hsome : ∀ j : Nat, j < (old ++ new).size → ∃ (ye : MapEntry) (ae : Ent), (old ++ new)[j]? = some ye ∧ ae ∈ aold ++ anew ∧ Rel ρ ae.key ye.key ∧ Rel ρ ae.val ye.val ∧ ye.born = ae.born := fun j hj => by
              have hlen := hboth.length
              have hj' : j < (aold ++ anew).length := by
                have : (old.toList ++ new.toList).length = (old ++ new).size := by simp
                omega
              obtain ⟨y, hy, q1, q2, q3⟩ := hboth.get (List.getElem?_eq_getElem hj')
              refine ⟨y, (aold ++ anew)[j], ?_, List.getElem_mem _, q1, q2, q3⟩
              rw [← Array.getElem?_toList, Array.toList_append]; exact hy
            rw [← hcr] at hk ⊢
            by_cases ho : old.isEmpty = true
            · have ho' : aold.isEmpty = true := by rw [hoe]; exact ho
              simp only [ho, if_true] at hk ⊢
              simp only [ho', cond_true]
              cases k with
              | zero => exact .inl ⟨by rw [Array.getElem?_append_left (by simp)]; rfl, List.mem_map.2 ⟨none, by simp, rfl⟩⟩
              | succ k =>
                obtain ⟨ye, ae, q0, q1, q2, q3, q4⟩ := hsome k (by simp at hk ⊢; omega)
                refine .inr ⟨ye, ae, ?_, q2, q3, q4, List.mem_map.2 ⟨some ae, List.mem_append_right _ (List.mem_map.2 ⟨ae, q1, rfl⟩), rfl⟩⟩
                rw [Array.getElem?_append_right (by simp)]
                simp only [List.size_toArray, List.length_cons, List.length_nil, Nat.zero_add, Nat.add_sub_cancel, Array.getElem?_map, q0, Option.map_some]
            · have ho' : aold.isEmpty = false := by rw [hoe]; simpa using ho
              simp only [ho] at hk ⊢
              simp only [ho', cond_false, List.nil_append]
              obtain ⟨ye, ae, q0, q1, q2, q3, q4⟩ := hsome k (by simp at hk ⊢; omega)
              refine .inr ⟨ye, ae, ?_, q2, q3, q4, List.mem_map.2 ⟨some ae, List.mem_map.2 ⟨ae, q1, rfl⟩, rfl⟩⟩
              simp only [Bool.false_eq_true, if_false, Array.empty_append, Array.getElem?_map, q0, Option.map_some]
          rcases hck with ⟨c1, c2⟩ | ⟨ye, ae, c1, c2, c3, c4, c5⟩
          · refine ⟨_, c2, .tuple #[.bool false], w1, ρ, ?_, hE1, hH1, ⟨_, rfl, by simp [RelL, Rel]⟩⟩
            rw [hrun, hch]
            simp [c1]
          · obtain ⟨g1, g2⟩ := obj_turn hH1 ho he hnb hB (.mapIter (some em.b) since (seen.toArray.push ye.born) clock) (o' := .mIter m since (seen ++ [ae.born]) clock)
              (fun w' hw' => ⟨hnb, hs, hB, em, hem, by rw [hw', c4]; simp⟩)
            refine ⟨_, c5, .tuple #[.bool true, ye.key, ye.val], _, ρ, ?_, hE1.trans g2, g1, ⟨_, rfl, ⟨.bool true, [ye.key, ye.val], rfl, by simp [Rel], ye.key, [ye.val], rfl, c2, ye.val, [], rfl, c3, rfl⟩⟩⟩
            rw [hrun, hch]
            simp [c1, run_setObj_any (P := P) (w := w1) (b := e.b) (O := .mapIter (some em.b) since seen.toArray stepped) (by intro c t f hh; cases hh) (by rw [h11]; exact h1)]
      · cases hc
    · cases hc
  · cases hc

theorem lastN_eq : ∀ l : List Nat, lastN l = l.toArray.back?
  | [] => rfl
  | [a] => rfl
  | a :: b :: l => by
    rw [lastN, lastN_eq (b :: l)]
    · simp
    · intro h; cases h

theorem findE_sound {s : Nat} {e : Ent} : ∀ {es : List Ent} {xs : List MapEntry}, EntL ρ es xs → findE s es = some e → ∃ y, xs.find? (·.born == s) = some y ∧ Rel ρ e.key y.key ∧ Rel ρ e.val y.val
  | [], _, _, hf => by simp [findE] at hf
  | e0 :: es, xs, h, hf => by
    obtain ⟨y, ys, rfl, h1, h2, h3, h4⟩ := h
    simp only [findE] at hf
    cases hb : Nat.beq e0.born s with
    | true =>
      rw [hb] at hf
      cases hf
      have hy : (y.born == s) = true := by rw [h3]; simpa using Nat.eq_of_beq_eq_true hb
      exact ⟨y, by simp [List.find?, hy], h1, h2⟩
    | false =>
      rw [hb] at hf
      have hy : (y.born == s) = false := by rw [h3]; simpa using Nat.ne_of_beq_eq_false hb
      obtain ⟨z, g1, g2⟩ := findE_sound h4 hf
      exact ⟨z, by simp [List.find?, hy, g1], g2⟩

theorem aEntry_sound (h : HR B ρ H w) {it v : AV} {x : Value} (ha : Rel ρ it x) (hc : aEntry H it = some v) : ∃ y, (Instr.entry x).run P w = .ok y w ∧ Rel ρ v y := by
  unfold aEntry at hc
  split at hc
  · rename_i r
    simp only [Rel] at ha
    obtain ⟨e, he, rfl⟩ := ha
    split at hc
    · rename_i m since seen stepped ho
      obtain ⟨hnb, hs, hB, em, hem, h1⟩ := h.at' ho he
      have hg := run_getObj_any (P := P) (by intro c t f hh; cases hh) h1
      split at hc
      · rename_i es clock hom
        obtain ⟨hnbm, hBm, arr, hm1, hm2⟩ := h.at' hom hem
        have hgm := run_getObj_map (P := P) hm1
        cases hclk : Nat.beq clock stepped with
        | false => rw [hclk] at hc; cases hc
        | true =>
          rw [hclk, cond_true, Option.bind_eq_some_iff] at hc
          obtain ⟨s, hlast, hc⟩ := hc
          rw [Option.map_eq_some_iff] at hc
          obtain ⟨en, hfind, rfl⟩ := hc
          rw [lastN_eq] at hlast
          obtain ⟨y, g1, g2, g3⟩ := findE_sound hm2 hfind
          have g1' : arr.find? (·.born == s) = some y := by rw [← Array.find?_toList]; exact g1
          have hce : (clock != stepped) = false := by simp [Nat.eq_of_beq_eq_true hclk]
          refine ⟨.tuple #[y.key, y.val], ?_, ⟨_, rfl, _, _, rfl, g2, _, _, rfl, g3, rfl⟩⟩
          simp only [Instr.entry, hs, Nat.zero_add, Sem.run_bind, hg, Result.andThen_ok, hlast, hgm, hce, Bool.false_eq_true, if_false, g1', Sem.run_pure]
      · cases hc
    · cases hc
  · cases hc

end
end Go.AM
