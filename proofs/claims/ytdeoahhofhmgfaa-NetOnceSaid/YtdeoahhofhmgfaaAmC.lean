/- THE ABSTRACT MACHINE, 10: the operations are sound, part 7: conversions, iterators, lengths, append, copy. -/
import Derived.Test.YtdeoahhofhmgfaaAmB
import Derived.Laws.BytesString
namespace Go.AM
open Go.RowKit
section
variable {B : Nat} {ρ : Env} {H : Heap} {w : World} {P : Program}

theorem aUn_sound {op : UnOp} {a v : AV} {x : Value} (ha : Rel ρ a x) (h : aUn op a = some v) : ∃ z, (Op.unary op x).run P w = .ok z w ∧ Rel ρ v z := by
  unfold aUn at h
  split at h
  · rw [Option.bind_eq_some_iff] at h
    obtain ⟨z, h1, h2⟩ := h
    simp only [Rel] at ha; subst ha
    exact ⟨z, pureOf_run h1 P w, convS_rel h2 ρ⟩
  · rw [Option.bind_eq_some_iff] at h
    obtain ⟨z, h1, h2⟩ := h
    simp only [Rel] at ha; subst ha
    exact ⟨z, pureOf_run h1 P w, convS_rel h2 ρ⟩
  · cases h

theorem bytesAV_rel (ρ : Env) (s : List UInt8) : RelL ρ (bytesAV s) (s.map fun b => Value.int .u8 b.toNat) := by
  refine RelL.mk (by simp [bytesAV]) fun j v hv => ?_
  simp only [bytesAV, List.getElem?_map] at hv ⊢
  cases hs : s[j]? with
  | none => simp [hs] at hv
  | some b => simp [hs] at hv; subst hv; exact ⟨_, rfl, by simp [Rel]⟩

theorem bytesOfCells_sound : ∀ {cs : List AV} {s : List UInt8} {xs : List Value}, RelL ρ cs xs → bytesOfCells cs = some s →
    ∃ ns : List Int, xs = ns.map (Value.int .u8) ∧ s = ns.map fun n => UInt8.ofNat n.toNat
  | [], s, xs, hr, h => by
    simp only [RelL] at hr; subst hr
    simp [bytesOfCells] at h; subst h
    exact ⟨[], rfl, rfl⟩
  | c :: cs, s, xs, hr, h => by
    obtain ⟨y, ys, rfl, h1, h2⟩ := hr
    unfold bytesOfCells at h
    split at h
    · rename_i e; cases e
    · rename_i n r e
      cases e
      simp only [Rel] at h1
      subst h1
      cases hb : bytesOfCells cs with
      | none => simp [hb] at h
      | some s' =>
        simp [hb] at h
        subst h
        obtain ⟨ns, g1, g2⟩ := bytesOfCells_sound h2 hb
        exact ⟨n :: ns, by simp [g1], by simp [g2]⟩
    · cases h

theorem foldl_push (ns : List Int) : ∀ acc : ByteArray, ns.foldl (fun r n => r.push (UInt8.ofNat n.toNat)) acc = ⟨acc.data ++ (ns.map fun n => UInt8.ofNat n.toNat).toArray⟩ := by
  induction ns with
  | nil => intro acc; simp
  | cons n ns ih =>
    intro acc
    simp only [List.foldl_cons, ih]
    apply ByteArray.ext
    simp [ByteArray.push]

/-- A conversion. -/
theorem aConv_sound (h : HR B ρ H w) {src dst : TypeId} {a : AV} {x : Value} {r : AV × Heap} (ha : Rel ρ a x) (hc : aConv P H src dst a = some r) : SV B P ρ w (convert src dst x) r.1 r.2 := by
  unfold aConv at hc
  cases hs : P.underlying src with
  | none => simp [hs] at hc
  | some us =>
    cases hd : P.underlying dst with
    | none => simp [hs, hd] at hc
    | some ud =>
      simp only [hs, hd, Option.bind_some] at hc
      split at hc
      · cases hc
        simp only [Rel] at ha; subst ha
        rename_i k1 k2 n1
        exact SV.same h ⟨.int k1 (k1.wrap n1), by simp [convert, run_underlying hs, run_underlying hd, Conv.intToInt], by simp [Rel]⟩
      · cases hc
        simp only [Rel] at ha; subst ha
        rename_i s1
        refine SV.same h ⟨.string ⟨s1.toArray⟩, ?_, by simp [Rel]⟩
        simp only [convert, Sem.run_bind, run_underlying hs, run_underlying hd, Result.andThen_ok]
        cases us <;> rfl
      · rename_i us' e s
        cases hue : P.underlying e with
        | none => simp [hue] at hc
        | some ue =>
          simp only [hue, Option.bind_some] at hc
          split at hc
          · cases hc
            simp only [Rel] at ha; subst ha
            have hsz : (⟨s.toArray⟩ : ByteArray).size = s.length := by simp [ByteArray.size]
            have hcap : ∀ t, (Question.appendCap s.length 0 e).cut t ≥ s.length := fun t => by simp [Question.cut]
            generalize hq : (Question.appendCap s.length 0 e).cut (w.tape w.drawn (.appendCap s.length 0 e)) = cap at *
            have hge : s.length ≤ cap := by rw [← hq]; exact hcap _
            let arr : Array Value := (s.toArray.map fun b => Value.int .u8 b.toNat) ++ Array.replicate (cap - s.length) (.int .u8 0)
            have harr : arr.size = cap := by simp [arr]; omega
            let w1 : World := { w with drawn := w.drawn + 1 }
            let w2 : World := w1.alloc (.cells arr e)
            let w3 : World := w2.freeze { block := w.heap.size, off := cap } 1
            have hrun : (convert src dst (.string ⟨s.toArray⟩)).run P w = .ok (.slice (some ⟨w.heap.size, 0, none⟩) s.length cap) w3 := by
              have h1 : (convert src dst (.string ⟨s.toArray⟩)).run P w = (Conv.stringToBytes e ⟨s.toArray⟩).run P w := by
                simp only [convert, Sem.run_bind, run_underlying hs, run_underlying hd, Result.andThen_ok]
                cases us <;> simp [run_underlying hue]
              rw [h1]
              have hfor : (Question.appendCap s.length 0 e).forced = false := rfl
              have hshape : w2.shape? w.heap.size = some (e, cap) := by
                have := heap_alloc_new w1 (.cells arr e)
                simp only [World.shape?]
                rw [show w2.heap[w.heap.size]? = some (.cells arr e) from this]
                simp [harr]
              simp only [Conv.stringToBytes, Sem.run_bind, run_choose, hsz, hfor, Bool.false_eq_true, if_false, Result.andThen_ok, hq]
              simp only [newRow, Sem.run_bind, run_newObj, Result.andThen_ok, Sem.run_pure, markStringish, run_shape]
              rw [show ({ heap := (({ heap := w.heap, tape := w.tape, drawn := w.drawn + 1, os := w.os, output := w.output } : World)).heap.push (Obj.cells ((({ data := s.toArray } : ByteArray).data.map fun b => Value.int .u8 b.toNat) ++ Array.replicate (cap - s.length) (.int .u8 0)) e), tape := w.tape, drawn := w.drawn + 1, os := w.os, output := w.output } : World) = w2 from rfl]
              simp only [hshape, run_freeze, Result.andThen_ok]
              rfl
            have hh1 : HR B ρ H w1 := h.heap rfl
            have hfz : w3.heap[w.heap.size]? = some (.cells arr e (cap, cap + 1)) := by
              show (World.freeze w2 _ 1).heap[w.heap.size]? = _
              simp only [World.freeze]
              rw [if_neg (by omega)]
              rw [Array.getElem?_modify]
              rw [if_pos rfl, show w2.heap[w.heap.size]? = some (.cells arr e) from heap_alloc_new w1 _]
              simp
            have hoth : ∀ k, k ≠ w.heap.size → w3.heap[k]? = w2.heap[k]? := fun k hk => by
              show (World.freeze w2 _ 1).heap[k]? = _
              simp only [World.freeze]
              rw [if_neg (by omega), Array.getElem?_modify, if_neg (Ne.symm hk)]
            have hsz3 : w3.heap.size = w2.heap.size := by
              show (World.freeze w2 _ 1).heap.size = _
              simp only [World.freeze]
              rw [if_neg (by omega)]; simp
            let e0 : At := ⟨w.heap.size, 0, cap, 1, 0, false⟩
            have hobj : ∀ w', ∀ fz : Nat × Nat, (fz = (0, 0) ∨ fz = (cap, cap + 1)) → w'.heap[w.heap.size]? = some (.cells arr e fz) → ORel (ρ.add e0) B w' e0 (.cells false 1 (bytesAV s) (some e)) := by
              intro w' fz hfz' hw'
              refine ⟨rfl, rfl, arr, e, fz, hw', harr, fun j v hv => ?_, (fun hh => by cases hh), fun _ => ⟨h.base, fun j hj => ?_⟩, fun t ht => ⟨Option.some.inj ht, rfl⟩⟩
              · obtain ⟨x, hx, hr⟩ := (bytesAV_rel (ρ.add e0) s).get hv
                refine ⟨x, ?_, hr⟩
                have hj : j < s.length := by have := (List.getElem?_eq_some_iff.1 hx).1; simpa using this
                simp only [arr]
                rw [Array.getElem?_append_left (by simp [e0]; omega)]
                simp only [e0, Nat.zero_add, Array.getElem?_map]
                simpa using hx
              · rcases hfz' with rfl | rfl
                · simp
                · simp [e0] at hj ⊢; omega
            have hh2 : HR B (ρ.add e0) (H.alloc (.cells false 1 (bytesAV s) (some e))) w2 := hh1.alloc _ (.cells arr e) e0 rfl (hobj _ (0, 0) (.inl rfl) (heap_alloc_new w1 _))
            have hget : (H.alloc (.cells false 1 (bytesAV s) (some e))).get H.next = some (.cells false 1 (bytesAV s) (some e)) := by rw [Heap.get_alloc]; simp
            have hnx : (ρ.add e0).ats[H.next]? = some e0 := by rw [h.next]; simp
            have hh3 : HR B (ρ.add e0) ((H.alloc (.cells false 1 (bytesAV s) (some e))).set H.next (.cells false 1 (bytesAV s) (some e))) w3 :=
              hh2.turn hget hnx rfl h.base _ hsz3 hoth (hobj _ _ (.inr rfl) hfz)
            have hh4 : HR B (ρ.add e0) (H.alloc (.cells false 1 (bytesAV s) (some e))) w3 :=
              ⟨hh3.next, hh3.base, hh3.bnd, fun i o hi => by
                refine hh3.obj i o ?_
                rw [Heap.get_set]
                by_cases hin : i = H.next
                · subst hin; rw [hget] at hi; simp [← hi]
                · simp [hin, hi], fun i j o o' e1 e2 hi hj => by
                refine hh3.inj i j o o' e1 e2 ?_ ?_
                · rw [Heap.get_set]
                  by_cases hin : i = H.next
                  · subst hin; rw [hget] at hi; simp [← hi]
                  · simp [hin, hi]
                · rw [Heap.get_set]
                  by_cases hin : j = H.next
                  · subst hin; rw [hget] at hj; simp [← hj]
                  · simp [hin, hj], hh3.fz, fun i o e1 c hi => by
                refine hh3.fzo i o e1 c ?_
                rw [Heap.get_set]
                by_cases hin : i = H.next
                · subst hin; rw [hget] at hi; simp [← hi]
                · simp [hin, hi]⟩
            have he1 : Ext B ρ w ρ w1 := Ext.heap rfl rfl rfl rfl
            have he2 : Ext B ρ w1 (ρ.add e0) w2 := Ext.alloc _ _ h.base rfl
            have he3 : Ext B (ρ.add e0) w2 (ρ.add e0) w3 := by
              refine Ext.turn (e := e0) (Env.blk_of hnx rfl) h.base hsz3 hoth ?_ ?_ ?_
              · show (World.freeze w2 _ 1).os = _; simp only [World.freeze]; rw [if_neg (by omega)]
              · show (World.freeze w2 _ 1).tape = _; simp only [World.freeze]; rw [if_neg (by omega)]
              · show (World.freeze w2 _ 1).output = _; simp only [World.freeze]; rw [if_neg (by omega)]
            exact ⟨_, w3, _, hrun, (he1.trans he2).trans he3, hh4, ⟨e0, cap, hnx, by simp [e0], Nat.le_refl _, hge, (fun hh => by cases hh), fun _ => by simp [e0]⟩⟩
          · cases hc
      · rename_i e hns
        cases hue : P.underlying e with
        | none => simp [hue] at hc
        | some ue =>
          simp only [hue, Option.bind_some] at hc
          split at hc
          · cases hc
            simp only [Rel] at ha; subst ha
            refine SV.same h ⟨.string .empty, ?_, by simp [Rel]; rfl⟩
            rw [run_convert_bytes_string w src dst e _ _ _ hs hue hd]
            simp [Conv.bytesToString]
          · rename_i i off len cap ex
            simp only [Rel] at ha
            obtain ⟨a, c, ha, rfl, _⟩ := ha
            cases hl : ldN H i off len with
            | none => simp [hl] at hc
            | some cs =>
              cases hb : bytesOfCells cs with
              | none => simp [hl, hb] at hc
              | some s =>
                simp [hl, hb] at hc
                subst hc
                obtain ⟨_, xs, hxl, hxr, hcell⟩ := ldN_sound h ha hl
                obtain ⟨ns, g1, g2⟩ := bytesOfCells_sound hxr hb
                refine SV.same h ⟨.string ⟨s.toArray⟩, ?_, by simp [Rel]⟩
                rw [run_convert_bytes_string w src dst e _ _ _ hs hue hd, run_bytesToString w _ len c ns (by rw [← g1]; exact run_loadCells_at hxl hcell), foldl_push, g2]
                simp
          · cases hc
      · cases hc

end
end Go.AM
namespace Go.AM
open Go.RowKit
section
variable {B : Nat} {ρ : Env} {H : Heap} {w : World} {P : Program}

theorem aRange_sound (h : HR B ρ H w) {t : TypeId} {a : AV} {x : Value} {r : AV × Heap} (ha : Rel ρ a x) (hc : aRange P H t a = some r) : SV B P ρ w (Instr.range t x) r.1 r.2 := by
  unfold aRange at hc
  cases hu : P.underlying t with
  | none => simp [hu] at hc
  | some d =>
    simp only [hu, Option.bind_some] at hc
    split at hc
    · rename_i s
      cases hc
      simp only [Rel] at ha; subst ha
      let e0 : At := ⟨w.heap.size, 0, 0, 0, 0, false⟩
      have h2 : HR B (ρ.add e0) (H.alloc (.sIter s 0)) (w.alloc (.stringIter ⟨s.toArray⟩ 0)) := h.alloc _ _ e0 rfl ⟨rfl, rfl, h.base, heap_alloc_new _ _⟩
      exact ⟨.pointer (some ⟨w.heap.size, 0, none⟩), _, _, by simp [Instr.range, run_underlying hu], Ext.alloc _ e0 h.base rfl, h2, ⟨e0, by rw [h.next]; simp, rfl⟩⟩
    · rename_i i
      simp only [Rel] at ha
      obtain ⟨e, he, rfl⟩ := ha
      split at hc
      · rename_i es clock ho
        cases hbig : Nat.blt 8 es.length with
        | true => rw [hbig] at hc; cases hc
        | false =>
        rw [hbig, cond_false] at hc
        cases hc
        obtain ⟨hnb, hB, arr, h1, h2⟩ := h.at' ho he
        let e0 : At := ⟨w.heap.size, 0, 0, 0, 0, false⟩
        have h3 : HR B (ρ.add e0) (H.alloc (.mIter i clock [] clock)) (w.alloc (.mapIter (some e.b) clock #[] clock)) :=
          h.alloc _ _ e0 rfl ⟨rfl, rfl, h.base, e, pre_get (Env.le_add _ _).ats he, heap_alloc_new _ _⟩
        exact ⟨.pointer (some ⟨w.heap.size, 0, none⟩), _, _, by simp [Instr.range, run_underlying hu, run_getObj_map h1], Ext.alloc _ e0 h.base rfl, h3, ⟨e0, by rw [h.next]; simp, rfl⟩⟩
      · cases hc
    · cases hc

/-- One of several ends. -/
def SO (B : Nat) (P : Program) (ρ : Env) (w : World) (s : Sem Value) (l : List (AV × Heap)) : Prop :=
  ∃ r ∈ l, SV B P ρ w s r.1 r.2

theorem natMem_eq (n : Nat) : ∀ l : List Nat, natMem n l = l.contains n
  | [] => rfl
  | m :: l => by
    have : Nat.beq n m = (n == m) := by rw [Bool.eq_iff_iff]; simp
    rw [natMem, natMem_eq n l, List.contains_cons, this]

theorem EntL.filter {p : Ent → Bool} {q : MapEntry → Bool} (hpq : ∀ (e : Ent) (y : MapEntry), y.born = e.born → p e = q y) : ∀ {es : List Ent} {xs : List MapEntry}, EntL ρ es xs → EntL ρ (es.filter p) (xs.filter q)
  | [], _, h => by simp only [EntL] at h; subst h; rfl
  | e :: es, _, h => by
    obtain ⟨y, ys, rfl, h1, h2, h3, h4⟩ := h
    have ih := h4.filter hpq
    have := hpq e y h3
    simp only [List.filter_cons, this]
    cases q y with
    | true => exact ⟨y, _, rfl, h1, h2, h3, ih⟩
    | false => exact ih

theorem EntL.all {p : Ent → Bool} {q : MapEntry → Bool} (hpq : ∀ (e : Ent) (y : MapEntry), y.born = e.born → p e = q y) : ∀ {es : List Ent} {xs : List MapEntry}, EntL ρ es xs → es.all p = xs.all q
  | [], _, h => by simp only [EntL] at h; subst h; rfl
  | e :: es, _, h => by
    obtain ⟨y, ys, rfl, h1, h2, h3, h4⟩ := h
    simp [List.all_cons, hpq e y h3, h4.all hpq]

theorem EntL.isEmpty {es : List Ent} {xs : List MapEntry} (h : EntL ρ es xs) : es.isEmpty = xs.isEmpty := by
  cases es with
  | nil => simp only [EntL] at h; subst h; rfl
  | cons e es => obtain ⟨y, ys, rfl, _⟩ := h; rfl

theorem run_getObj_any {b : Nat} {O : Obj} (hn : ∀ c t f, O ≠ .cells c t f) (h : w.heap[b]? = some O) : (getObj b).run P w = .ok O w := by
  cases O <;> simp [getObj, Sem.run, h] <;> exact (hn _ _ _ rfl).elim

theorem run_setObj_any {b : Nat} {O O' : Obj} (hn : ∀ c t f, O ≠ .cells c t f) (h : w.heap[b]? = some O) : (setObj b O').run P w = .ok () { w with heap := w.heap.setIfInBounds b O' } := by
  cases O <;> simp [setObj, Sem.run, h] <;> exact (hn _ _ _ rfl).elim

theorem aNext_sound (h : HR B ρ H w) {it : AV} {x : Value} {isS : Bool} {l : List (AV × Heap)} {ty : TypeId} (ha : Rel ρ it x) (hc : aNext H it isS = some l) : SO B P ρ w (Instr.next x isS ty) l := by
  unfold aNext at hc
  split at hc
  · rename_i r
    simp only [Rel] at ha
    obtain ⟨e, he, rfl⟩ := ha
    split at hc
    · rename_i s pos ho
      obtain ⟨hnb, hs, hB, h1⟩ := h.at' ho he
      have hsz : (⟨s.toArray⟩ : ByteArray).size = s.length := by simp [ByteArray.size]
      have hg := run_getObj_any (P := P) (by intro c t f hh; cases hh) h1
      cases hb : Nat.blt pos s.length with
      | true =>
        simp only [hb, cond_true, Option.some.injEq] at hc
        subst hc
        have hlt : pos < (⟨s.toArray⟩ : ByteArray).size := by rw [hsz]; simpa [Nat.blt_eq] using hb
        obtain ⟨g1, g2⟩ := obj_turn h ho he hnb hB (.stringIter ⟨s.toArray⟩ (pos + (Utf8.decode ⟨s.toArray⟩ pos).2)) (o' := .sIter s (pos + (Utf8.decode ⟨s.toArray⟩ pos).2)) (fun w' hw' => ⟨hnb, hs, hB, hw'⟩)
        refine ⟨_, List.mem_singleton.2 rfl, _, _, ρ, ?_, g2, g1, ⟨#[.bool true, goInt pos, .int .i32 (Utf8.decode ⟨s.toArray⟩ pos).1], rfl, by simp [RelL, Rel, goInt]⟩⟩
        simp only [Instr.next, hs, Nat.zero_add, Sem.run_bind, hg, Result.andThen_ok]
        simp [hlt, run_setObj_any (P := P) (by intro c t f hh; cases hh) h1]
      | false =>
        simp only [hb, cond_false, Option.some.injEq] at hc
        subst hc
        have hlt : ¬ pos < (⟨s.toArray⟩ : ByteArray).size := by
          rw [hsz]; intro hh
          have : Nat.blt pos s.length = true := by simpa [Nat.blt_eq] using hh
          rw [hb] at this; cases this
        refine ⟨_, List.mem_singleton.2 rfl, SV.same h ⟨.tuple #[.bool false], ?_, ⟨_, rfl, by simp [RelL, Rel]⟩⟩⟩
        simp only [Instr.next, hs, Nat.zero_add, Sem.run_bind, hg, Result.andThen_ok]
        simp [hlt]
    · rename_i m since seen stepped ho
      obtain ⟨hnb, hs, hB, em, hem, h1⟩ := h.at' ho he
      have hg := run_getObj_any (P := P) (by intro c t f hh; cases hh) h1
      split at hc
      · rename_i es clock hom
        obtain ⟨hnbm, hBm, arr, hm1, hm2⟩ := h.at' hom hem
        have hgm := run_getObj_map (P := P) hm1
        have hall : es.all (fun e => Nat.ble stepped e.born) = arr.toList.all (fun e => decide (e.born ≥ stepped)) := hm2.all fun e y hy => by
          rw [Bool.eq_iff_iff]; simp [hy]
        have hemp : es.isEmpty = arr.isEmpty := by rw [hm2.isEmpty]; simp
        have hleft : EntL ρ (es.filter fun e => !natMem e.born seen) (arr.toList.filter fun e => !seen.toArray.contains e.born) := hm2.filter fun e y hy => by
          rw [natMem_eq, hy]; simp
        have hold := hleft.filter (p := fun e => Nat.blt e.born since) (q := fun e => decide (e.born < since)) fun e y hy => by rw [Bool.eq_iff_iff]; simp [hy, Nat.blt_eq]
        have hnew := hleft.filter (p := fun e => !Nat.blt e.born since) (q := fun e => decide (e.born ≥ since)) fun e y hy => by
          rw [Bool.eq_iff_iff]
          simp only [Bool.not_eq_true', ge_iff_le, decide_eq_true_eq, hy]
          rw [← Bool.not_eq_true, Nat.blt_eq]; omega
        cases hguard : (!seen.isEmpty && !es.isEmpty && es.all (fun e => Nat.ble stepped e.born)) with
        | true => simp [hguard] at hc
        | false =>
          simp only [hguard, cond_false, Option.some.injEq] at hc
          have hguard' : (!seen.toArray.isEmpty && !arr.isEmpty && arr.all (fun e => decide (e.born ≥ stepped))) = false := by
            rw [← hguard, hall, hemp]
            simp
          generalize hleftr : (arr.filter fun e => !seen.toArray.contains e.born) = left
          have hleftl : left.toList = arr.toList.filter fun e => !seen.toArray.contains e.born := by rw [← hleftr]; simp
          generalize holdr : left.filter (fun e => decide (e.born < since)) = old
          generalize hnewr : left.filter (fun e => decide (e.born ≥ since)) = new
          have holdl : old.toList = (arr.toList.filter fun e => !seen.toArray.contains e.born).filter fun e => decide (e.born < since) := by rw [← holdr, Array.toList_filter, hleftl]
          have hnewl : new.toList = (arr.toList.filter fun e => !seen.toArray.contains e.born).filter fun e => decide (e.born ≥ since) := by rw [← hnewr, Array.toList_filter, hleftl]
          rw [← holdl] at hold
          rw [← hnewl] at hnew
          have hboth := hold.append hnew
          generalize hcr : ((if old.isEmpty then #[none] else #[]) ++ (old ++ new).map some : Array (Option MapEntry)) = cands
          have hrun : (Instr.next (.pointer (some ⟨e.b, e.sh + 0, none⟩)) false ty).run P w =
              ((choose (.mapNext cands.size)).run P w).andThen fun k w1 => (match cands[k]? with
                | some (some e') => (do
                  setObj e.b (.mapIter (some em.b) since (seen.toArray.push e'.born) clock)
                  pure (.tuple #[.bool true, e'.key, e'.val]) : Sem Value)
                | some none => pure (.tuple #[.bool false])
                | none => stuck "Next: no such candidate").run P w1 := by
            simp only [Instr.next, hs, Nat.zero_add, Sem.run_bind, hg, hgm, Result.andThen_ok, hguard', hleftr, holdr, hnewr, hcr]
            rw [if_neg (by simp)]
            simp only [Sem.run_bind]
            rfl
          -- which one comes
          have hpos : 0 < cands.size := by
            rw [← hcr]
            by_cases ho : old.isEmpty = true
            · simp [ho]; omega
            · have : 0 < old.size := by
                rcases Nat.eq_zero_or_pos old.size with hz | hz
                · exact absurd (by simpa [Array.isEmpty] using hz) ho
                · exact hz
              simp [ho]; omega
          obtain ⟨k, w1, hk, hch, hw1⟩ : ∃ k w1, k < cands.size ∧ (choose (.mapNext cands.size)).run P w = .ok k w1 ∧ (w1 = w ∨ w1 = { w with drawn := w.drawn + 1 }) := by
            rw [run_choose]
            by_cases hf : (Question.mapNext cands.size).forced = true
            · rw [if_pos hf]; exact ⟨0, w, hpos, rfl, .inl rfl⟩
            · rw [if_neg hf]; exact ⟨_, _, Nat.mod_lt _ hpos, rfl, .inr rfl⟩
          have hH1 : HR B ρ H w1 := by rcases hw1 with rfl | rfl; exact h; exact h.heap rfl
          have hE1 : Ext B ρ w ρ w1 := by rcases hw1 with rfl | rfl; exact Ext.refl _ _ _; exact Ext.heap rfl rfl rfl rfl
          have h11 : w1.heap = w.heap := by rcases hw1 with rfl | rfl <;> rfl
          -- the abstract list, place by place
          have hoe : ((es.filter fun e => !natMem e.born seen).filter (fun e => Nat.blt e.born since)).isEmpty = old.isEmpty := by
            rw [hold.isEmpty]; simp
          generalize hao : ((es.filter fun e => !natMem e.born seen).filter fun e => Nat.blt e.born since) = aold at *
          generalize han : ((es.filter fun e => !natMem e.born seen).filter fun e => !Nat.blt e.born since) = anew at *
          have hck : cands[k]? = some none ∧ (.tup [.bool false], H) ∈ l ∨ ∃ (ye : MapEntry) (ae : Ent), cands[k]? = some (some ye) ∧ Rel ρ ae.key ye.key ∧ Rel ρ ae.val ye.val ∧ ye.born = ae.born ∧
              (.tup [.bool true, ae.key, ae.val], H.set r (.mIter m since (seen ++ [ae.born]) clock)) ∈ l := by
            subst hc
            have hsome : ∀ j : Nat, j < (old ++ new).size → ∃ (ye : MapEntry) (ae : Ent), (old ++ new)[j]? = some ye ∧ ae ∈ aold ++ anew ∧ Rel ρ ae.key ye.key ∧ Rel ρ ae.val ye.val ∧ ye.born = ae.born := fun j hj => by
              have hlen := hboth.length
              have hj' : j < (aold ++ anew).length := by
                have : (old.toList ++ new.toList).length = (old ++ new).size := by simp
                omega
              obtain ⟨y, hy, q1, q2, q3⟩ := hboth.get (List.getElem?_eq_getElem hj')
              refine ⟨y, (aold ++ anew)[j], ?_, List.getElem_mem _, q1, q2, q3⟩
              rw [← Array.getElem?_toList, Array.toList_append]; exact hy
            rw [← hcr] at hk ⊢
            by_cases ho : old.isEmpty = true
            · have ho' : aold.isEmpty = true := by rw [hoe]; exact ho
              simp only [ho, if_true] at hk ⊢
              simp only [ho', cond_true]
              cases k with
              | zero => exact .inl ⟨by rw [Array.getElem?_append_left (by simp)]; rfl, List.mem_map.2 ⟨none, by simp, rfl⟩⟩
              | succ k =>
                obtain ⟨ye, ae, q0, q1, q2, q3, q4⟩ := hsome k (by simp at hk ⊢; omega)
                refine .inr ⟨ye, ae, ?_, q2, q3, q4, List.mem_map.2 ⟨some ae, List.mem_append_right _ (List.mem_map.2 ⟨ae, q1, rfl⟩), rfl⟩⟩
                rw [Array.getElem?_append_right (by simp)]
                simp only [List.size_toArray, List.length_cons, List.length_nil, Nat.zero_add, Nat.add_sub_cancel, Array.getElem?_map, q0, Option.map_some]
            · have ho' : aold.isEmpty = false := by rw [hoe]; simpa using ho
              simp only [ho] at hk ⊢
              simp only [ho', cond_false, List.nil_append]
              obtain ⟨ye, ae, q0, q1, q2, q3, q4⟩ := hsome k (by simp at hk ⊢; omega)
              refine .inr ⟨ye, ae, ?_, q2, q3, q4, List.mem_map.2 ⟨some ae, List.mem_map.2 ⟨ae, q1, rfl⟩, rfl⟩⟩
              simp only [Bool.false_eq_true, if_false, Array.empty_append, Array.getElem?_map, q0, Option.map_some]
          rcases hck with ⟨c1, c2⟩ | ⟨ye, ae, c1, c2, c3, c4, c5⟩
          · refine ⟨_, c2, .tuple #[.bool false], w1, ρ, ?_, hE1, hH1, ⟨_, rfl, by simp [RelL, Rel]⟩⟩
            rw [hrun, hch]
            simp [c1]
          · obtain ⟨g1, g2⟩ := obj_turn hH1 ho he hnb hB (.mapIter (some em.b) since (seen.toArray.push ye.born) clock) (o' := .mIter m since (seen ++ [ae.born]) clock)
              (fun w' hw' => ⟨hnb, hs, hB, em, hem, by rw [hw', c4]; simp⟩)
            refine ⟨_, c5, .tuple #[.bool true, ye.key, ye.val], _, ρ, ?_, hE1.trans g2, g1, ⟨_, rfl, ⟨.bool true, [ye.key, ye.val], rfl, by simp [Rel], ye.key, [ye.val], rfl, c2, ye.val, [], rfl, c3, rfl⟩⟩⟩
            rw [hrun, hch]
            simp [c1, run_setObj_any (P := P) (w := w1) (b := e.b) (O := .mapIter (some em.b) since seen.toArray stepped) (by intro c t f hh; cases hh) (by rw [h11]; exact h1)]
      · cases hc
    · cases hc
  · cases hc

theorem lastN_eq : ∀ l : List Nat, lastN l = l.toArray.back?
  | [] => rfl
  | [a] => rfl
  | a :: b :: l => by
    rw [lastN, lastN_eq (b :: l)]
    · simp
    · intro h; cases h

theorem findE_sound {s : Nat} {e : Ent} : ∀ {es : List Ent} {xs : List MapEntry}, EntL ρ es xs → findE s es = some e → ∃ y, xs.find? (·.born == s) = some y ∧ Rel ρ e.key y.key ∧ Rel ρ e.val y.val
  | [], _, _, hf => by simp [findE] at hf
  | e0 :: es, xs, h, hf => by
    obtain ⟨y, ys, rfl, h1, h2, h3, h4⟩ := h
    simp only [findE] at hf
    cases hb : Nat.beq e0.born s with
    | true =>
      rw [hb] at hf
      cases hf
      have hy : (y.born == s) = true := by rw [h3]; simpa using Nat.eq_of_beq_eq_true hb
      exact ⟨y, by simp [List.find?, hy], h1, h2⟩
    | false =>
      rw [hb] at hf
      have hy : (y.born == s) = false := by rw [h3]; simpa using Nat.ne_of_beq_eq_false hb
      obtain ⟨z, g1, g2⟩ := findE_sound h4 hf
      exact ⟨z, by simp [List.find?, hy, g1], g2⟩

theorem aEntry_sound (h : HR B ρ H w) {it v : AV} {x : Value} (ha : Rel ρ it x) (hc : aEntry H it = some v) : ∃ y, (Instr.entry x).run P w = .ok y w ∧ Rel ρ v y := by
  unfold aEntry at hc
  split at hc
  · rename_i r
    simp only [Rel] at ha
    obtain ⟨e, he, rfl⟩ := ha
    split at hc
    · rename_i m since seen stepped ho
      obtain ⟨hnb, hs, hB, em, hem, h1⟩ := h.at' ho he
      have hg := run_getObj_any (P := P) (by intro c t f hh; cases hh) h1
      split at hc
      · rename_i es clock hom
        obtain ⟨hnbm, hBm, arr, hm1, hm2⟩ := h.at' hom hem
        have hgm := run_getObj_map (P := P) hm1
        cases hclk : Nat.beq clock stepped with
        | false => rw [hclk] at hc; cases hc
        | true =>
          rw [hclk, cond_true, Option.bind_eq_some_iff] at hc
          obtain ⟨s, hlast, hc⟩ := hc
          rw [Option.map_eq_some_iff] at hc
          obtain ⟨en, hfind, rfl⟩ := hc
          rw [lastN_eq] at hlast
          obtain ⟨y, g1, g2, g3⟩ := findE_sound hm2 hfind
          have g1' : arr.find? (·.born == s) = some y := by rw [← Array.find?_toList]; exact g1
          have hce : (clock != stepped) = false := by simp [Nat.eq_of_beq_eq_true hclk]
          refine ⟨.tuple #[y.key, y.val], ?_, ⟨_, rfl, _, _, rfl, g2, _, _, rfl, g3, rfl⟩⟩
          simp only [Instr.entry, hs, Nat.zero_add, Sem.run_bind, hg, Result.andThen_ok, hlast, hgm, hce, Bool.false_eq_true, if_false, g1', Sem.run_pure]
      · cases hc
    · cases hc
  · cases hc

end
end Go.AM
set_option linter.unusedSimpArgs false
set_option linter.unusedVariables false
namespace Go.AM
open Go.RowKit
section
variable {B : Nat} {ρ : Env} {H : Heap} {w : World} {P : Program}

theorem aTypeAssert_sound {x : AV} {y : Value} {xt at_ : TypeId} {ok : Bool} {v : AV} (hx : Rel ρ x y) (hc : aTypeAssert P x at_ ok = some v) :
    ∃ z, (Instr.typeAssert y xt at_ ok).run P w = .ok z w ∧ Rel ρ v z := by
  unfold aTypeAssert at hc
  cases hu : P.underlying at_ with
  | none => simp [hu] at hc
  | some d =>
    simp only [hu, Option.bind_some] at hc
    split at hc
    · cases hc
    · rename_i t u hni
      simp only [Rel] at hx
      obtain ⟨z, rfl, hz⟩ := hx
      have hmatch : ∀ z, (Instr.typeAssert (.iface t z) xt at_ ok).run P w =
          (if t = at_ then (pure (if ok then .tuple #[z, .bool true] else z) : Sem Value) else
            (do if ok then pure (.tuple #[← zeroValue at_, .bool false]) else runtimePanic (.typeAssertion (some xt) (some t) at_ ""))).run P w := by
        intro z
        simp only [Instr.typeAssert, Sem.run_bind, run_underlying hu, Result.andThen_ok]
      cases hb : Nat.beq t at_ with
      | true =>
        have e := Nat.eq_of_beq_eq_true hb
        simp only [hb, cond_true, Option.some.injEq] at hc
        subst hc
        rw [hmatch, if_pos e]
        cases ok
        · exact ⟨z, rfl, hz⟩
        · exact ⟨_, rfl, ⟨_, rfl, ⟨z, [.bool true], rfl, hz, .bool true, [], rfl, by simp [Rel], rfl⟩⟩⟩
      | false =>
        have e := Nat.ne_of_beq_eq_false hb
        simp only [hb, cond_false] at hc
        cases ok with
        | false => simp at hc
        | true =>
          cases hz0 : zeroA P at_ with
          | none => simp [hz0] at hc
          | some z0 =>
            simp [hz0] at hc
            subst hc
            obtain ⟨zv, hz1, hz2⟩ := zeroA_sound (w := w) hz0 ρ
            rw [hmatch, if_neg e]
            exact ⟨.tuple #[zv, .bool false], by simp [hz1], ⟨_, rfl, ⟨zv, [.bool false], rfl, hz2, .bool false, [], rfl, by simp [Rel], rfl⟩⟩⟩
    · rename_i hni
      simp only [Rel] at hx
      subst hx
      cases ok with
      | false => simp at hc
      | true =>
        cases hz0 : zeroA P at_ with
        | none => simp [hz0] at hc
        | some z0 =>
          simp [hz0] at hc
          subst hc
          obtain ⟨zv, hz1, hz2⟩ := zeroA_sound (w := w) hz0 ρ
          refine ⟨.tuple #[zv, .bool false], ?_, ⟨_, rfl, ⟨zv, [.bool false], rfl, hz2, .bool false, [], rfl, by simp [Rel], rfl⟩⟩⟩
          simp only [Instr.typeAssert, Sem.run_bind, run_underlying hu, Result.andThen_ok]
          cases d <;> simp [hz1]
    · cases hc

theorem aLen_sound (h : HR B ρ H w) {t ty : TypeId} {rest : List TypeId} {x v : AV} {y : Value} (hx : Rel ρ x y) (hc : aLen P H t x = some v) :
    ∃ z, (Builtin.len_ (t :: rest).toArray ty #[y]).run P w = .ok z w ∧ Rel ρ v z := by
  unfold aLen at hc
  cases hu : P.underlying t with
  | none => simp [hu] at hc
  | some d =>
    simp only [hu, Option.bind_some] at hc
    split at hc
    · rename_i s
      cases hc
      simp only [Rel] at hx; subst hx
      have hsz : (⟨s.toArray⟩ : ByteArray).size = s.length := by simp [ByteArray.size]
      exact ⟨goInt s.length, by simp [Builtin.len_, run_underlying hu, hsz], by simp [Rel, goInt]⟩
    · rename_i n e
      cases hc
      exact ⟨goInt n, by simp [Builtin.len_, run_underlying hu], by simp [Rel, goInt]⟩
    · cases hc
      simp only [Rel] at hx; subst hx
      exact ⟨goInt 0, by simp [Builtin.len_, run_underlying hu], by simp [Rel, goInt]⟩
    · cases hc
      simp only [Rel] at hx
      obtain ⟨a, c, rfl⟩ := hx
      exact ⟨goInt 0, by simp [Builtin.len_, run_underlying hu], by simp [Rel, goInt]⟩
    · rename_i e i off n c ex
      cases hc
      simp only [Rel] at hx
      obtain ⟨a, c, _, rfl, _⟩ := hx
      exact ⟨goInt n, by simp [Builtin.len_, run_underlying hu], by simp [Rel, goInt]⟩
    · rename_i kt et
      cases ha : aMap H x with
      | none => simp [ha] at hc
      | some es =>
        simp [ha] at hc
        subst hc
        obtain ⟨xs, hxs, hm⟩ := aMap_sound h hx ha
        have hl : xs.size = es.length := by have := hxs.length; simpa using this
        refine ⟨goInt es.length, ?_, by simp [Rel, goInt]⟩
        rcases hm with ⟨rfl, rfl⟩ | ⟨b, clock, rfl, hb⟩
        · have : es.length = 0 := by simpa using hl.symm
          simp [Builtin.len_, run_underlying hu, this]
        · simp [Builtin.len_, run_underlying hu, run_getObj_map hb, hl]
    · cases hc

theorem aCap_sound {t ty : TypeId} {rest : List TypeId} {x v : AV} {y : Value} (hx : Rel ρ x y) (hc : aCap P t x = some v) :
    ∃ z, (Builtin.cap_ (t :: rest).toArray ty #[y]).run P w = .ok z w ∧ Rel ρ v z := by
  unfold aCap at hc
  cases hu : P.underlying t with
  | none => simp [hu] at hc
  | some d =>
    simp only [hu, Option.bind_some] at hc
    split at hc
    · rename_i n e
      cases hc
      exact ⟨goInt n, by simp [Builtin.cap_, run_underlying hu], by simp [Rel, goInt]⟩
    · cases hc
      simp only [Rel] at hx; subst hx
      exact ⟨goInt 0, by simp [Builtin.cap_, run_underlying hu], by simp [Rel, goInt]⟩
    · rename_i e i off n c
      cases hc
      simp only [Rel] at hx
      obtain ⟨a, c', _, rfl, _, _, h5, _⟩ := hx
      have := h5 trivial
      subst this
      exact ⟨goInt c', by simp [Builtin.cap_, run_underlying hu], by simp [Rel, goInt]⟩
    · cases hc

theorem srcLen_sound {x : AV} {y : Value} {n : Nat} (hx : Rel ρ x y) (hc : srcLen x = some n) : (Builtin.lenOf y).run P w = .ok n w := by
  unfold srcLen at hc
  split at hc <;> cases hc <;> simp only [Rel] at hx
  · subst hx; rfl
  · obtain ⟨a, c, rfl⟩ := hx; rfl
  · obtain ⟨a, c, _, rfl, _⟩ := hx; rfl
  · subst hx; simp [Builtin.lenOf, ByteArray.size]

theorem srcCells_sound (h : HR B ρ H w) {size n : Nat} {x : AV} {y : Value} {cs : List AV} (hx : Rel ρ x y) (hc : srcCells H size n x = some cs) (hn : ∀ s, x = .str s → n ≤ s.length) :
    ∃ xs : List Value, (Builtin.firstCells size n y).run P w = .ok xs.toArray w ∧ RelL ρ cs xs := by
  unfold srcCells at hc
  split at hc
  · cases hc; simp only [Rel] at hx; subst hx; exact ⟨[], rfl, rfl⟩
  · cases hb : Nat.beq n 0 with
    | false => simp [hb] at hc
    | true =>
      have e := Nat.eq_of_beq_eq_true hb
      simp [hb] at hc
      subst hc; subst e
      simp only [Rel] at hx
      obtain ⟨a, c, rfl⟩ := hx
      exact ⟨[], by simp [Builtin.firstCells, loadCells, loadCellsFrom], rfl⟩
  · rename_i i off l c ex
    simp only [Rel] at hx
    obtain ⟨a, c', ha, rfl, _⟩ := hx
    obtain ⟨_, xs, hxl, hxr, hcell⟩ := ldN_sound h ha hc
    exact ⟨xs, by simp only [Builtin.firstCells]; exact run_loadCells_at hxl hcell, hxr⟩
  · rename_i s
    cases hc
    simp only [Rel] at hx; subst hx
    refine ⟨(s.take n).map fun b => Value.int .u8 b.toNat, ?_, bytesAV_rel ρ _⟩
    have := hn s rfl
    simp only [Builtin.firstCells, Sem.run_pure]
    congr 1
    rw [extract_str]
    simp
  · cases hc

/-- The new row of an append that grows. -/
theorem isTy_eq {b : Bool} {o : Option TypeId} {e t : TypeId} (h : (bif b && isTy o e then some e else none) = some t) : t = e := by
  cases hb : (b && isTy o e) with
  | true => rw [hb] at h; exact (Option.some.inj h).symm
  | false => rw [hb] at h; cases h

theorem isTy_in {off : Nat} {a : At} {o : Option TypeId} {e t tyO : TypeId} (q : ∀ t, o = some t → tyO = t ∧ a.sh = 0) (h : (bif Nat.beq off 0 && isTy o e then some e else none) = some t) : tyO = t ∧ a.sh + off = 0 := by
  cases hb : (Nat.beq off 0 && isTy o e) with
  | false => rw [hb] at h; cases h
  | true =>
    rw [hb] at h
    cases h
    rw [Bool.and_eq_true] at hb
    have h0 := Nat.eq_of_beq_eq_true hb.1
    have h1 := hb.2
    unfold isTy at h1
    split at h1
    · rename_i u
      have := Nat.eq_of_beq_eq_true h1
      subst this
      obtain ⟨k1, k2⟩ := q _ rfl
      exact ⟨k1, by omega⟩
    · cases h1

theorem aGrow_sound (h : HR B ρ H w) {e : TypeId} {ie : TypeInfo} {need sCap : Nat} {cs : List AV} {xs : List Value} {r : AV × Heap} (hi : P.info? e = some ie) (hr : RelL ρ cs xs)
    {ty : Option TypeId} (hty : ∀ t, ty = some t → t = e) (hlt : sCap < need) (hc : aGrow H ty ie need cs = some r) (hlen : cs.length = need * ie.size) :
    ¬ (Builtin.nextslicecap need sCap * ie.bytes > 2 ^ 48) ∧ need ≤ 4611686018427387904 ∧ ∃ cap z ρ', (choose (.appendCap need sCap e)).run P w = .ok cap { w with drawn := w.drawn + 1 } ∧ (∀ w', (zeroValue e).run P w' = .ok z w') ∧
      Ext B ρ w ρ' (World.alloc { w with drawn := w.drawn + 1 } (.cells (xs.toArray ++ Builtin.zeroCells z.cells (cap - need)) e)) ∧
      HR B ρ' r.2 (World.alloc { w with drawn := w.drawn + 1 } (.cells (xs.toArray ++ Builtin.zeroCells z.cells (cap - need)) e)) ∧ Rel ρ' r.1 (.slice (some ⟨w.heap.size, 0, none⟩) need cap) := by
  unfold aGrow at hc
  cases hb : (Nat.ble (need * ie.bytes) 140737488355328 && Nat.ble need 4611686018427387904 && zeroFits ie) with
  | false => rw [hb] at hc; cases hc
  | true =>
    rw [hb] at hc
    simp only [cond_true] at hc
    simp only [Bool.and_eq_true] at hb
    obtain ⟨⟨b1, b2⟩, b3⟩ := hb
    have b1 := Nat.le_of_ble_eq_true b1
    have b2 := Nat.le_of_ble_eq_true b2
    unfold zeroFits at b3
    cases hz : ie.zero with
    | none => simp [hz] at b3
    | some z =>
      cases hcv : conv z with
      | none => simp [hz, hcv] at b3
      | some zv =>
        cases hcs : zv.cells with
        | none => simp [hz, hcv, hcs] at b3
        | some zs =>
          simp only [hz, hcv, hcs, Option.bind_some] at b3
          have b3 := Nat.eq_of_beq_eq_true b3
          have hzr : RelL ρ zs z.cells.toList := cells_sound hcs (conv_rel hcv ρ)
          have hzsz : z.cells.size = ie.size := by have := hzr.length; simp at this; omega
          have hno : ¬ (Builtin.nextslicecap need sCap * ie.bytes > 2 ^ 48) := by
            have := growslice_fits hlt b1; omega
          cases hn : newCells H ty ie.size cs with
          | none => simp [hn] at hc
          | some q =>
            simp [hn] at hc
            subst hc
            unfold newCells at hn
            cases hsc : cs.all AV.scalar with
            | false => rw [hsc] at hn; cases hn
            | true =>
              rw [hsc] at hn
              simp only [cond_true, Option.some.injEq] at hn
              subst hn
              have hfor : (Question.appendCap need sCap e).forced = false := rfl
              refine ⟨hno, b2, (Question.appendCap need sCap e).cut (w.tape w.drawn (.appendCap need sCap e)), z, ?_⟩
              have hge : need ≤ (Question.appendCap need sCap e).cut (w.tape w.drawn (.appendCap need sCap e)) := by simp [Question.cut]
              have hch : (choose (.appendCap need sCap e)).run P w = .ok ((Question.appendCap need sCap e).cut (w.tape w.drawn (.appendCap need sCap e))) { w with drawn := w.drawn + 1 } := by
                rw [run_choose, if_neg (by simp [hfor])]
              generalize (Question.appendCap need sCap e).cut (w.tape w.drawn (.appendCap need sCap e)) = cap at hge hch
              let w1 : World := { w with drawn := w.drawn + 1 }
              let arr : Array Value := xs.toArray ++ Builtin.zeroCells z.cells (cap - need)
              have hxl : xs.length = need * ie.size := by rw [hr.length, hlen]
              have harr : arr.size = cap * ie.size := by
                simp only [arr, Array.size_append, List.size_toArray, hxl, Builtin.zeroCells, Array.size_map, Array.size_range, hzsz]
                rw [← Nat.add_mul]; congr 1; omega
              let e0 : At := ⟨w.heap.size, 0, arr.size, ie.size, 0, false⟩
              have hh1 : HR B ρ H w1 := h.heap rfl
              have hh2 : HR B (ρ.add e0) (H.alloc (.cells false ie.size cs ty)) (w1.alloc (.cells arr e)) := by
                refine hh1.alloc _ _ e0 rfl ⟨rfl, rfl, arr, e, (0, 0), heap_alloc_new w1 _, rfl, fun j v hv => ?_, (fun hh => by cases hh), fun _ => ⟨h.base, fun j _ => by simp⟩, fun t ht => ⟨(hty t ht).symm, rfl⟩⟩
                obtain ⟨x, hx, hrx⟩ := hr.get hv
                refine ⟨x, ?_, hrx.mono (Env.le_add _ _)⟩
                have hj : j < xs.length := (List.getElem?_eq_some_iff.1 hx).1
                simp only [e0, Nat.zero_add, arr]
                rw [Array.getElem?_append_left (by simpa using hj)]
                simpa using hx
              refine ⟨_, hch, fun w' => zeroValue_run hi hz, (Ext.heap (B := B) (ρ := ρ) (w := w) (w' := w1) rfl rfl rfl rfl).trans (Ext.alloc (.cells arr e) e0 h.base rfl), hh2, ?_⟩
              refine ⟨e0, cap, by rw [h.next]; simp, by simp [e0], Nat.le_refl _, hge, (fun hh => by cases hh), fun _ => ?_⟩
              simp [e0, harr]


theorem length_of_srcCells {size n : Nat} {x : AV} {cs : List AV} (h0 : srcLen x = some n) (hc : srcCells H size n x = some cs) (hs : ∀ s, x = .str s → size = 1) : cs.length = n * size := by
  unfold srcCells at hc
  split at hc
  · cases hc; simp [srcLen] at h0; subst h0; simp
  · simp [srcLen] at h0; subst h0; simp at hc; subst hc; simp
  · rename_i i off l c ex
    unfold ldN at hc
    split at hc
    · rename_i ro es cs' oty ho
      cases hb : Nat.ble (off + n * size) cs'.length with
      | false => rw [hb] at hc; cases hc
      | true =>
        rw [hb] at hc
        simp only [cond_true, Option.some.injEq] at hc
        subst hc
        have := Nat.le_of_ble_eq_true hb
        simp; omega
    · cases hc
  · rename_i s
    simp [srcLen] at h0
    cases hc
    rw [hs s rfl]
    simp [bytesAV, ← h0]
  · cases hc

theorem length_ldN {i off n : Nat} {cs : List AV} (hc : ldN H i off n = some cs) : cs.length = n := by
  unfold ldN at hc
  split at hc
  · rename_i ro es cs' oty ho
    cases hb : Nat.ble (off + n) cs'.length with
    | false => rw [hb] at hc; cases hc
    | true =>
      rw [hb] at hc
      simp only [cond_true, Option.some.injEq] at hc
      subst hc
      have := Nat.le_of_ble_eq_true hb
      simp; omega
  · cases hc

theorem zerosTest {xt : TypeId} {ux : TypeDesc} (hux : P.underlying xt = some ux) (hn : ∀ k, ux ≠ .int k) : ((do pure ((← underlying xt) matches .int _)) : Sem Bool).run P w = .ok false w := by
  cases ux <;> first
    | exact (hn _ rfl).elim
    | simp [run_underlying hux]

theorem run_append_fit {st xt e ty : TypeId} {ux : TypeDesc} {ie : TypeInfo} (hu : P.underlying st = some (.slice e)) (hux : P.underlying xt = some ux) (hn : ∀ k, ux ≠ .int k) (hi : P.info? e = some ie)
    {a : Addr} {sLen sCap n : Nat} {z : Value} {new : List Value} {w' : World} (h1 : (Builtin.lenOf z).run P w = .ok n w) (h2 : (Builtin.firstCells ie.size n z).run P w = .ok new.toArray w)
    (hle : sLen + n ≤ sCap) (h3 : (storeCells (a.add (sLen * ie.size)) new).run P w = .ok () w') :
    (Builtin.append_ #[st, xt] ty #[.slice (some a) sLen sCap, z]).run P w = .ok (.slice (some a) (sLen + n) sCap) w' := by
  have hz := zerosTest (w := w) hux hn
  simp only [Sem.run_bind, run_underlying hux, Result.andThen_ok, Sem.run_pure, Result.ok.injEq, and_true] at hz
  simp [Builtin.append_, run_underlying hu, run_underlying hux, sizeOf_run hi, hz, h1, hle, h2, h3]

theorem run_append_grow {st xt e ty : TypeId} {ux : TypeDesc} {ie : TypeInfo} (hu : P.underlying st = some (.slice e)) (hux : P.underlying xt = some ux) (hn : ∀ k, ux ≠ .int k) (hi : P.info? e = some ie)
    {base : Option Addr} {sLen sCap n cap : Nat} {z zero : Value} {old new : List Value} {w1 : World} (h1 : (Builtin.lenOf z).run P w = .ok n w)
    (hgt : ¬ sLen + n ≤ sCap) (hno : ¬ (Builtin.nextslicecap (sLen + n) sCap * ie.bytes > 2 ^ 48)) (h62 : sLen + n ≤ 4611686018427387904)
    (hch : (choose (.appendCap (sLen + n) sCap e)).run P w = .ok cap w1) (h3 : (Builtin.firstCells ie.size sLen (.slice base sLen sCap)).run P w1 = .ok old.toArray w1)
    (h2 : (Builtin.firstCells ie.size n z).run P w1 = .ok new.toArray w1) (hz0 : (zeroValue e).run P w1 = .ok zero w1) :
    (Builtin.append_ #[st, xt] ty #[.slice base sLen sCap, z]).run P w =
      .ok (.slice (some ⟨w1.heap.size, 0, none⟩) (sLen + n) cap) (w1.alloc (.cells ((old ++ new).toArray ++ Builtin.zeroCells zero.cells (cap - (sLen + n))) e)) := by
  have hz := zerosTest (w := w) hux hn
  simp only [Sem.run_bind, run_underlying hux, Result.andThen_ok, Sem.run_pure, Result.ok.injEq, and_true] at hz
  have hbig : ¬ (((sLen + n : Nat) : Int) > IntKind.i64.max) := by rw [IntKind.max_i64]; omega
  have hbig' : ¬ ((9223372036854775807 : Int) < (sLen : Int) + (n : Int)) := by omega
  have hno' : ¬ (281474976710656 < Builtin.nextslicecap (sLen + n) sCap * ie.bytes) := by omega
  have e1 : (old ++ new).toArray = old.toArray ++ new.toArray := by simp
  simp [Builtin.append_, run_underlying hu, run_underlying hux, sizeOf_run hi, hz, h1, hgt, typeInfo_run hi, hbig', hno', - run_choose, hch, h3, h2, hz0, newRow]
  rw [e1, Array.append_assoc]

/-- A block that is known under a name is known under another one from now on. -/
theorem HR.renew (h : HR B ρ H w) {i : Nat} {o : AObj} {a : At} (ho : H.get i = some o) (ha : ρ.ats[i]? = some a) (hn : a.nb = false) (hB : B ≤ a.b) (e0 : At) (hb : e0.b = a.b) (hn0 : e0.nb = false) (o' : AObj) {w' : World}
    (hsz : w'.heap.size = w.heap.size) (hoth : ∀ k, k ≠ a.b → w'.heap[k]? = w.heap[k]?) (hO : ORel (ρ.add e0) B w' e0 o') : HR B (ρ.add e0) ((H.kill i).alloc o') w' := by
  have old : ∀ j o1 e1, j ≠ i → H.get j = some o1 → ρ.ats[j]? = some e1 → e1.nb = false → e1.b ≠ a.b := fun j o1 e1 hji hj he1 hn1 hbb => by
    have := h.inj j i o1 o e1 a hj ho he1 ha hn1 hn hbb hji; omega
  have get : ∀ j o1, ((H.kill i).alloc o').get j = some o1 → (j = H.next ∧ o1 = o') ∨ (j ≠ H.next ∧ j ≠ i ∧ H.get j = some o1) := fun j o1 hj => by
    rw [Heap.get_alloc, Heap.next_kill, Heap.get_kill] at hj
    by_cases hn : j = H.next
    · simp only [hn, if_true] at hj; cases hj; exact .inl ⟨hn, rfl⟩
    · by_cases hi : j = i
      · rw [if_neg hn, if_pos hi] at hj; cases hj
      · rw [if_neg hn, if_neg hi] at hj; exact .inr ⟨hn, hi, hj⟩
  have at1 : ∀ j e1, j ≠ H.next → (ρ.add e0).ats[j]? = some e1 → ∀ o1, H.get j = some o1 → ρ.ats[j]? = some e1 := fun j e1 _ he o1 hj => by
    obtain ⟨e2, he2, _⟩ := h.obj j o1 hj
    rw [pre_get (Env.le_add _ _).ats he2] at he
    cases he; exact he2
  have at2 : ∀ e1, (ρ.add e0).ats[H.next]? = some e1 → e1 = e0 := fun e1 he => by
    rw [h.next] at he; simp at he; exact he.symm
  have hlt : a.b < w.heap.size := h.bnd _ (Env.blk_of ha hn)
  refine ⟨by simp [h.next], hsz ▸ h.base, fun b hbk => ?_, fun j o1 hj => ?_, fun j k o1 o2 e1 e2 hj hk h1 h2 hn1 hn2 hb12 hne => ?_, fun b c hbc => ?_, fun j o1 e1 c hj h1 hn1 hc => ?_⟩
  · rw [hsz]
    rcases Env.blk_add.1 hbk with g | g
    · exact h.bnd b g
    · rw [← g.2, hb]; exact hlt
  · rcases get j o1 hj with ⟨rfl, rfl⟩ | ⟨hn, hi, hj'⟩
    · exact ⟨e0, by rw [h.next]; simp, hO⟩
    · obtain ⟨e1, he1, ho1⟩ := h.obj j o1 hj'
      exact ⟨e1, pre_get (Env.le_add _ _).ats he1, ho1.mono (Env.le_add _ _) fun hn1 => hoth _ (old j o1 e1 hi hj' he1 hn1)⟩
  · rcases get j o1 hj with ⟨hj1, _⟩ | ⟨hn, hi, hj'⟩ <;> rcases get k o2 hk with ⟨hk1, _⟩ | ⟨hn2', hi2, hk'⟩
    · exact absurd (hj1.trans hk1.symm) hne
    · subst hj1
      have e1e := at2 _ h1; subst e1e
      have := old k o2 e2 hi2 hk' (at1 k e2 hn2' h2 _ hk') hn2
      rw [← hb12, hb] at this; exact absurd rfl this
    · subst hk1
      have e2e := at2 _ h2; subst e2e
      have := old j o1 e1 hi hj' (at1 j e1 hn h1 _ hj') hn1
      rw [hb12, hb] at this; exact absurd rfl this
    · exact h.inj j k o1 o2 e1 e2 hj' hk' (at1 j e1 hn h1 _ hj') (at1 k e2 hn2' h2 _ hk') hn1 hn2 hb12 hne
  · obtain ⟨arr, ty, f, k1, k2⟩ := h.fz b c hbc
    refine ⟨arr, ty, f, (hoth b fun hbb => ?_).trans k1, k2⟩
    have := h.fzo i o a c ho ha hn (hbb ▸ hbc)
    omega
  · rcases get j o1 hj with ⟨hj1, _⟩ | ⟨hn, hi, hj'⟩
    · subst hj1
      have e1e := at2 _ h1; subst e1e
      rw [hb]
      exact h.fzo i o a c ho ha (by assumption) (by rw [← hb]; exact hc)
    · exact h.fzo j o1 e1 c hj' (at1 j e1 hn h1 _ hj') hn1 hc

theorem aAppend_sound (h : HR B ρ H w) {ts : List TypeId} {ty : TypeId} {s x : AV} {y z : Value} {r : AV × Heap} (hs : Rel ρ s y) (hx : Rel ρ x z) (hc : aAppend P H ts s x = some r) :
    SV B P ρ w (Builtin.append_ ts.toArray ty #[y, z]) r.1 r.2 := by
  unfold aAppend at hc
  split at hc
  · rename_i st xt
    cases hu : P.underlying st with
    | none => simp [hu] at hc
    | some d =>
      cases hux : P.underlying xt with
      | none => simp [hu, hux] at hc
      | some ux =>
        simp only [hu, hux, Option.bind_some] at hc
        cases d <;> try (cases hc; done)
        rename_i e
        cases hi : P.info? e with
        | none => simp [hi] at hc
        | some ie =>
          simp only [hi, Option.bind_some] at hc
          split at hc
          · cases hc
          · rename_i hnint
            have hni : ∀ k, ux ≠ .int k := fun k hk => hnint k hk
            cases hst : strFits x ie.size with
            | false => simp [hst] at hc
            | true =>
            simp only [hst, Bool.not_true, cond_false] at hc
            cases hn : srcLen x with
            | none => simp [hn] at hc
            | some n =>
              simp only [hn, Option.bind_some] at hc
              cases hnew : srcCells H ie.size n x with
              | none => simp [hnew] at hc
              | some new =>
                simp only [hnew, Option.bind_some] at hc
                have hln := srcLen_sound (P := P) (w := w) hx hn
                have hstr : ∀ s, x = .str s → ie.size = 1 := fun s e => by subst e; exact Nat.eq_of_beq_eq_true hst
                have hnl : ∀ s, x = .str s → n ≤ s.length := fun s e => by subst e; simp [srcLen] at hn; omega
                obtain ⟨nxs, hn1, hn2⟩ := srcCells_sound (P := P) h hx hnew hnl
                have hnlen := length_of_srcCells hn hnew hstr
                let w1 : World := { w with drawn := w.drawn + 1 }
                have h1 : HR B ρ H w1 := h.heap rfl
                obtain ⟨nxs', hn1', hn2'⟩ := srcCells_sound (P := P) h1 hx hnew hnl
                split at hc
                · -- nil
                  simp only [Rel] at hs
                  subst hs
                  cases hb : Nat.beq n 0 with
                  | true =>
                    have e0 := Nat.eq_of_beq_eq_true hb
                    subst e0
                    simp at hc
                    subst hc
                    have hz := zerosTest (w := w) hux hni
                    simp only [Sem.run_bind, run_underlying hux, Result.andThen_ok, Sem.run_pure, Result.ok.injEq, and_true] at hz
                    refine SV.same h ⟨.slice none 0 0, ?_, by simp [Rel]⟩
                    simp [Builtin.append_, run_underlying hu, run_underlying hux, sizeOf_run hi, hz, hln, hn1]
                  | false =>
                    simp only [hb, cond_false] at hc
                    have hne := Nat.ne_of_beq_eq_false hb
                    obtain ⟨g1, g2, cap, zv, ρ', g3, g4, g5, g6, g7⟩ := aGrow_sound (P := P) h hi hn2' (sCap := 0) (fun t ht => (Option.some.inj ht).symm) (by omega) hc hnlen
                    have hrun := run_append_grow (P := P) (ty := ty) (base := none) (sLen := 0) (sCap := 0) (w1 := w1) (old := []) hu hux hni hi hln (by omega) (by rw [Nat.zero_add]; exact g1) (by omega) (by rw [Nat.zero_add]; exact g3) rfl hn1' (g4 w1)
                    rw [Nat.zero_add, List.nil_append] at hrun
                    exact ⟨_, _, ρ', hrun, g5, g6, g7⟩
                · rename_i i off len cap ex
                  have hs0 : Rel ρ (.slc i off len cap ex) y := hs
                  simp only [Rel] at hs
                  obtain ⟨a, c, ha, rfl, hlc, hcc, hex, hes⟩ := hs
                  cases hb : Nat.ble (len + n) cap with
                  | true =>
                    have hle := Nat.le_of_ble_eq_true hb
                    simp only [hb, cond_true] at hc
                    cases hst2 : stN H i (off + len * ie.size) new with
                    | none => simp [hst2] at hc
                    | some H' =>
                      simp [hst2] at hc
                      subst hc
                      obtain ⟨w', r1, r2, r3⟩ := stN_sound (P := P) h ha hn2 hst2
                      refine ⟨_, w', ρ, run_append_fit hu hux hni hi hln hn1 (by omega) (by rw [addr_add, Nat.add_assoc]; exact r1), r3, r2, ?_⟩
                      exact ⟨a, c, ha, rfl, hle, hcc, hex, hes⟩
                  | false =>
                    have hgt : cap < len + n := by
                      rcases Nat.lt_or_ge cap (len + n) with hlt | hge
                      · exact hlt
                      · have : Nat.ble (len + n) cap = true := Nat.ble_eq_true_of_le hge
                        rw [hb] at this; cases this
                    simp only [hb, cond_false] at hc
                    cases hld : ldN H i off (len * ie.size) with
                    | none => cases ex <;> simp [hld] at hc
                    | some old =>
                      obtain ⟨hol, oxs, ho1, ho2, ho3⟩ := ldN_sound h ha hld
                      obtain ⟨_, oxs', ho1', ho2', ho3'⟩ := ldN_sound h1 ha hld
                      have hold' : (Builtin.firstCells ie.size len (.slice (some ⟨a.b, a.sh + off, none⟩) len c)).run P w1 = .ok oxs'.toArray w1 := by
                        simp only [Builtin.firstCells]; exact run_loadCells_at ho1' ho3'
                      have hrr : RelL ρ (old ++ new) (oxs' ++ nxs') := ho2'.append hn2'
                      have hlen2 : (old ++ new).length = (len + n) * ie.size := by rw [List.length_append, hol, hnlen, Nat.add_mul]
                      cases ex with
                      | true =>
                        have hcap := hex rfl
                        subst hcap
                        simp only [cond_true, hld, Option.bind_some] at hc
                        obtain ⟨g1, g2, cap', zv, ρ', g3, g4, g5, g6, g7⟩ := aGrow_sound (P := P) h hi hrr (fun t ht => (Option.some.inj ht).symm) hgt hc hlen2
                        refine ⟨_, _, ρ', run_append_grow (w1 := w1) hu hux hni hi hln (by omega) g1 g2 g3 hold' hn1' (g4 w1), g5, g6, g7⟩
                      | false =>
                        simp only [cond_false, hld, Option.bind_some] at hc
                        split at hc
                        · rename_i es csObj oty ho
                          cases hbe : Nat.beq es ie.size with
                          | false => simp [hbe] at hc
                          | true =>
                            have hese := Nat.eq_of_beq_eq_true hbe
                            simp only [hbe, cond_true] at hc
                            by_cases hfit : len + n ≤ c
                            · -- in place, under a new name
                              obtain ⟨hnb, h0, arr, tyO, fz, q2, q3, q4, _, q5, q6⟩ := h.at' ho ha
                              obtain ⟨qB, qf⟩ := q5 rfl
                              have hbound := hes rfl
                              have haes : a.es = ie.size := by rw [h0, hese]
                              have hone : ∀ v ∈ nxs, v.oneCell' = true := by
                                unfold aGrow at hc
                                cases hg0 : (Nat.ble ((len + n) * ie.bytes) 140737488355328 && Nat.ble (len + n) 4611686018427387904 && zeroFits ie) with
                                | false => rw [hg0] at hc; cases hc
                                | true =>
                                  rw [hg0] at hc
                                  simp only [cond_true] at hc
                                  cases hnc : newCells (H.kill i) (bif Nat.beq off 0 && isTy oty e then some e else none) ie.size (old ++ new) with
                                  | none => simp [hnc] at hc
                                  | some q =>
                                    unfold newCells at hnc
                                    cases hsc : (old ++ new).all AV.scalar with
                                    | false => rw [hsc] at hnc; cases hnc
                                    | true =>
                                      intro v hv
                                      obtain ⟨j, hj, rfl⟩ := List.getElem_of_mem hv
                                      have hj' : j < new.length := by have := hn2.length; omega
                                      obtain ⟨x', hx', hrx⟩ := hn2.get (List.getElem?_eq_getElem hj')
                                      have : nxs[j] = x' := by rw [List.getElem?_eq_getElem hj] at hx'; exact Option.some.inj hx'
                                      rw [this]
                                      refine oneCell_of ?_ hrx
                                      exact List.all_eq_true.1 hsc _ (List.mem_append_right _ (List.getElem_mem hj'))
                              have hmul : (len + n) * ie.size ≤ c * ie.size := Nat.mul_le_mul_right _ hfit
                              have hadd : (len + n) * ie.size = len * ie.size + n * ie.size := Nat.add_mul _ _ _
                              have hnl2 : nxs.length = n * ie.size := by rw [hn2.length, hnlen]
                              rw [haes] at hbound
                              obtain ⟨w', arr', r1, r2, r3, r4, r5, r6, r7, r8, r9⟩ := run_storeCells (P := P) a.b (a.sh + off + len * ie.size) tyO fz nxs 0 arr w q2 (by rw [q3]; exact qf) (by omega) hone
                              unfold aGrow at hc
                              cases hg0 : (Nat.ble ((len + n) * ie.bytes) 140737488355328 && Nat.ble (len + n) 4611686018427387904 && zeroFits ie) with
                              | false => rw [hg0] at hc; cases hc
                              | true =>
                                rw [hg0] at hc
                                simp only [cond_true] at hc
                                cases hnc : newCells (H.kill i) (bif Nat.beq off 0 && isTy oty e then some e else none) ie.size (old ++ new) with
                                | none => simp [hnc] at hc
                                | some q =>
                                  simp [hnc] at hc
                                  subst hc
                                  unfold newCells at hnc
                                  cases hsc : (old ++ new).all AV.scalar with
                                  | false => rw [hsc] at hnc; cases hnc
                                  | true =>
                                    rw [hsc] at hnc
                                    simp only [cond_true, Option.some.injEq] at hnc
                                    subst hnc
                                    let e0 : At := ⟨a.b, a.sh + off, a.n, ie.size, 0, false⟩
                                    have hO : ORel (ρ.add e0) B w' e0 (.cells false ie.size (old ++ new) (bif Nat.beq off 0 && isTy oty e then some e else none)) := by
                                      refine ⟨rfl, rfl, arr', tyO, fz, r2, r3.trans q3, fun j v hv => ?_, (fun hh => by cases hh), fun _ => ⟨qB, qf⟩, fun t ht => ?_⟩
                                      rotate_left
                                      · exact isTy_in q6 ht
                                      simp only [e0]
                                      rw [r4]
                                      by_cases hj : j < old.length
                                      · rw [if_neg (by omega)]
                                        rw [List.getElem?_append_left hj] at hv
                                        obtain ⟨x', hx', hrx⟩ := ho2.get hv
                                        have hcell := ho3 j x' hx'
                                        refine ⟨x', ?_, hrx.mono (Env.le_add _ _)⟩
                                        simpa [World.cell?, q2] using hcell
                                      · have hj2 : j < old.length + new.length := by have := (List.getElem?_eq_some_iff.1 hv).1; simpa using this
                                        rw [List.getElem?_append_right (by omega)] at hv
                                        rw [if_pos (by omega)]
                                        obtain ⟨x', hx', hrx⟩ := hn2.get hv
                                        refine ⟨x', ?_, hrx.mono (Env.le_add _ _)⟩
                                        rw [← hx']; congr 1; omega
                                    refine ⟨_, w', (ρ.add e0), run_append_fit hu hux hni hi hln hn1 hfit (by rw [addr_add]; exact r1), ?_, h.renew ho ha hnb qB e0 rfl rfl _ r5 r6 hO, ?_⟩
                                    · refine ⟨Env.le_add _ _, r7, r8, r9, by omega, fun k hk => r6 k (by omega), fun k _ hk => r6 k (fun hh => hk (hh ▸ Env.blk_of ha hnb)), fun b hbk => ?_, fun _ _ h => .inl h⟩
                                      rcases Env.blk_add.1 hbk with hm | hm
                                      · exact .inl hm
                                      · exact .inl (by rw [← hm.2]; show ρ.blk a.b; exact Env.blk_of ha hnb)
                                    · exact ⟨e0, c, by rw [Heap.next_kill, h.next]; simp, by simp [e0], Nat.le_refl _, hfit, (fun hh => by cases hh), fun _ => by simp only [e0]; omega⟩
                            · have hk : HR B ρ (H.kill i) w := h.kill i
                              obtain ⟨g1, g2, cap', zv, ρ', g3, g4, g5, g6, g7⟩ := aGrow_sound (P := P) hk hi hrr (sCap := c) (fun t ht => isTy_eq ht) (by omega) hc hlen2
                              refine ⟨_, _, ρ', run_append_grow (w1 := w1) hu hux hni hi hln hfit g1 g2 g3 hold' hn1' (g4 w1), g5, g6, g7⟩
                        · cases hc
                · cases hc
                · cases hc
  · cases hc


theorem aCopy_sound (h : HR B ρ H w) {ts : List TypeId} {ty : TypeId} {s x : AV} {y z : Value} {r : AV × Heap} (hs : Rel ρ s y) (hx : Rel ρ x z) (hc : aCopy P H ts s x = some r) :
    SV B P ρ w (Builtin.copy_ ts.toArray ty #[y, z]) r.1 r.2 := by
  unfold aCopy at hc
  split at hc
  · rename_i dt rest
    cases hu : P.underlying dt with
    | none => simp [hu] at hc
    | some d =>
      cases d <;> simp only [hu, Option.bind_some] at hc <;> try (cases hc; done)
      rename_i e
      cases hi : P.info? e with
      | none => simp [hi] at hc
      | some ie =>
        simp only [hi, Option.bind_some] at hc
        cases hst : strFits x ie.size with
        | false => simp [hst] at hc
        | true =>
        simp only [hst, Bool.not_true, cond_false] at hc
        cases hn : srcLen x with
        | none => simp [hn] at hc
        | some n =>
          simp only [hn, Option.bind_some] at hc
          have hln := srcLen_sound (P := P) (w := w) hx hn
          split at hc
          · cases hc
            simp only [Rel] at hs
            subst hs
            have hc0 : ∃ xs : List Value, (Builtin.firstCells ie.size 0 z).run P w = .ok xs.toArray w := by
              cases x <;> simp [srcLen] at hn <;> simp only [Rel] at hx
              · subst hx; exact ⟨[], by simp [Builtin.firstCells]⟩
              · subst hx; exact ⟨[], rfl⟩
              · obtain ⟨a, c, _, rfl, _⟩ := hx; exact ⟨[], by simp [Builtin.firstCells, loadCells, loadCellsFrom]⟩
              · obtain ⟨a, c, rfl⟩ := hx; exact ⟨[], by simp [Builtin.firstCells, loadCells, loadCellsFrom]⟩
            obtain ⟨xs, hxs⟩ := hc0
            exact SV.same h ⟨goInt 0, by simp [Builtin.copy_, run_underlying hu, hln, sizeOf_run hi, hxs], by simp [Rel, goInt]⟩
          · rename_i i off len cap ex
            cases hsc : srcCells H ie.size (Nat.min n len) x with
            | none => simp [hsc] at hc
            | some cs =>
              simp only [hsc, Option.bind_some] at hc
              cases hst2 : stN H i off cs with
              | none => simp [hst2] at hc
              | some H' =>
                simp [hst2] at hc
                subst hc
                have hnl : ∀ s, x = .str s → Nat.min n len ≤ s.length := fun s e => by subst e; simp [srcLen] at hn; subst hn; exact Nat.min_le_left _ _
                obtain ⟨xs, hx1, hx2⟩ := srcCells_sound (P := P) h hx hsc hnl
                simp only [Rel] at hs
                obtain ⟨a, c, ha, rfl, _⟩ := hs
                obtain ⟨w', r1, r2, r3⟩ := stN_sound (P := P) h ha hx2 hst2
                exact ⟨goInt (Nat.min n len : Nat), w', ρ, by simp [Builtin.copy_, run_underlying hu, hln, sizeOf_run hi, hx1, r1], r3, r2, by simp [Rel, goInt]⟩
          · cases hc
  · cases hc

theorem toVL_rel : ∀ {vs : List AV} {xs ys : List Value}, toVL vs = some xs → RelL ρ vs ys → ys = xs
  | [], xs, ys, h, hr => by simp [toVL] at h; simp only [RelL] at hr; subst h; exact hr
  | v :: vs, xs, ys, h, hr => by
    obtain ⟨y, ys', rfl, h1, h2⟩ := hr
    simp only [toVL] at h
    cases hv : toV v with
    | none => simp [hv] at h
    | some x =>
      cases hl : toVL vs with
      | none => simp [hv, hl] at h
      | some r =>
        simp [hv, hl] at h
        subst h
        rw [toV_rel hv h1, toVL_rel hl h2]

theorem RelL.one {v : AV} {xs : List Value} (h : RelL ρ [v] xs) : ∃ x, xs = [x] ∧ Rel ρ v x := by
  obtain ⟨y, ys, rfl, h1, h2⟩ := h
  simp only [RelL] at h2; subst h2
  exact ⟨y, rfl, h1⟩

theorem RelL.two {v u : AV} {xs : List Value} (h : RelL ρ [v, u] xs) : ∃ x y, xs = [x, y] ∧ Rel ρ v x ∧ Rel ρ u y := by
  obtain ⟨y, ys, rfl, h1, h2⟩ := h
  obtain ⟨z, rfl, h3⟩ := h2.one
  exact ⟨y, z, rfl, h1, h3⟩

theorem aClear_sound (h : HR B ρ H w) {t ts : TypeId} {rest : List TypeId} {x : AV} {y : Value} {H' : Heap} (hx : Rel ρ x y) (hs : aClear P H t x = some H') :
    ∃ w', (Builtin.clear_ (t :: rest).toArray ts #[y]).run P w = .ok (.tuple #[]) w' ∧ HR B ρ H' w' ∧ Ext B ρ w ρ w' := by
  unfold aClear at hs
  cases hu : P.underlying t with
  | none => simp [hu] at hs
  | some d =>
    simp only [hu, Option.bind_some] at hs
    split at hs
    · cases hs
      simp only [Rel] at hx
      subst hx
      exact ⟨w, by simp [Builtin.clear_, run_underlying hu], h, Ext.refl _ _ _⟩
    · cases hs
      simp only [Rel] at hx
      obtain ⟨a, c, rfl⟩ := hx
      exact ⟨w, by simp [Builtin.clear_, run_underlying hu], h, Ext.refl _ _ _⟩
    · rename_i e i off len cap ex
      simp only [Rel] at hx
      obtain ⟨en, c, he, rfl, _, _, _, _⟩ := hx
      cases hl : Nat.beq len 0 with
      | true =>
        rw [hl, cond_true] at hs
        cases hs
        have := Nat.eq_of_beq_eq_true hl
        subst this
        exact ⟨w, by simp [Builtin.clear_, run_underlying hu], h, Ext.refl _ _ _⟩
      | false =>
        rw [hl, cond_false] at hs
        have hl0 := Nat.ne_of_beq_eq_false hl
        cases hi : P.info? e with
        | none => simp [hi] at hs
        | some ie =>
          cases hz : ie.zero with
          | none => simp [hi, hz] at hs
          | some z =>
            cases hcv : conv z with
            | none => simp [hi, hz, hcv] at hs
            | some zv =>
              cases hcs : zv.cells with
              | none => simp [hi, hz, hcv, hcs] at hs
              | some zs =>
                simp only [hi, hz, hcv, hcs, Option.bind_some] at hs
                cases hg : (Nat.beq zs.length ie.size && !Nat.beq ie.size 0) with
                | false => rw [hg] at hs; cases hs
                | true =>
                  rw [hg, cond_true] at hs
                  simp only [Bool.and_eq_true, Bool.not_eq_true'] at hg
                  have g1 := Nat.eq_of_beq_eq_true hg.1
                  have g2 := Nat.ne_of_beq_eq_false hg.2
                  have hzr := cells_sound hcs (conv_rel hcv ρ)
                  have hrr := repCells_rel hzr len (by omega)
                  have hzsz : z.cells.size = zs.length := by have := hzr.length; simp at this; omega
                  obtain ⟨w', k1, k2, k3⟩ := stN_sound (P := P) h he hrr hs
                  refine ⟨w', ?_, k2, k3⟩
                  have e1 : Builtin.zeroCells z.cells len = (Array.range (len * zs.length)).map (fun i => z.cells[i % z.cells.size]!) := by
                    simp [Builtin.zeroCells, hzsz]
                  obtain ⟨m, rfl⟩ : ∃ m, len = m + 1 := ⟨len - 1, by omega⟩
                  simp only [Builtin.clear_, List.size_toArray, List.length_cons, Nat.zero_lt_succ, getElem?_pos, List.getElem_toArray, List.getElem_cons_zero, Sem.run_bind, run_underlying hu, Result.andThen_ok, zeroValue_run hi hz, e1, k1, Sem.run_pure]
    · cases hs

theorem aBuiltin_sound (h : HR B ρ H w) {b : Builtin} {ts : List TypeId} {ty : TypeId} {cs : Array Bool} {args : List AV} {xs : List Value} {r : AV × Heap} (ha : RelL ρ args xs)
    (hc : aBuiltin P H b ts args = some r) : ∃ x w' ρ', (builtin b ts.toArray ty cs xs.toArray).run P w = .ok (.value x) w' ∧ Ext B ρ w ρ' w' ∧ HR B ρ' r.2 w' ∧ Rel ρ' r.1 x := by
  unfold aBuiltin at hc
  split at hc
  · obtain ⟨y, rfl, hy⟩ := ha.one
    cases ts with
    | nil => simp at hc
    | cons t rest =>
      simp only [List.getElem?_cons_zero, Option.bind_some] at hc
      rw [Option.map_eq_some_iff] at hc
      obtain ⟨v, hv, rfl⟩ := hc
      obtain ⟨z, hz, hr⟩ := aLen_sound (ty := ty) (rest := rest) h hy hv
      exact ⟨z, w, ρ, by simp only [builtin, Sem.run_bind, hz, Result.andThen_ok, Sem.run_pure], Ext.refl _ _ _, h, hr⟩
  · obtain ⟨y, rfl, hy⟩ := ha.one
    cases ts with
    | nil => simp at hc
    | cons t rest =>
      simp only [List.getElem?_cons_zero, Option.bind_some] at hc
      rw [Option.map_eq_some_iff] at hc
      obtain ⟨v, hv, rfl⟩ := hc
      obtain ⟨z, hz, hr⟩ := aCap_sound (w := w) (ty := ty) (rest := rest) hy hv
      exact ⟨z, w, ρ, by simp only [builtin, Sem.run_bind, hz, Result.andThen_ok, Sem.run_pure], Ext.refl _ _ _, h, hr⟩
  · obtain ⟨y, z, rfl, hy, hz⟩ := ha.two
    obtain ⟨v, w', ρ', g1, g2, g3, g4⟩ := aAppend_sound (ty := ty) h hy hz hc
    exact ⟨v, w', ρ', by simp only [builtin, Sem.run_bind, g1, Result.andThen_ok, Sem.run_pure], g2, g3, g4⟩
  · obtain ⟨y, z, rfl, hy, hz⟩ := ha.two
    obtain ⟨v, w', ρ', g1, g2, g3, g4⟩ := aCopy_sound (ty := ty) h hy hz hc
    exact ⟨v, w', ρ', by simp only [builtin, Sem.run_bind, g1, Result.andThen_ok, Sem.run_pure], g2, g3, g4⟩
  · obtain ⟨y, z, rfl, hy, hz⟩ := ha.two
    cases ts with
    | nil => simp at hc
    | cons t rest =>
      simp only [List.getElem?_cons_zero, Option.bind_some] at hc
      rw [Option.map_eq_some_iff] at hc
      obtain ⟨H', hH', rfl⟩ := hc
      obtain ⟨w', g1, g2, g3⟩ := aDelete_sound (ts := ty) (rest := rest) h hy hz hH'
      exact ⟨.tuple #[], w', ρ, by simp only [builtin, Sem.run_bind, g1, Result.andThen_ok, Sem.run_pure], g3, g2, by simp [Rel, RelL]⟩
  · obtain ⟨y, rfl, hy⟩ := ha.one
    cases ts with
    | nil => simp at hc
    | cons t rest =>
      simp only [List.getElem?_cons_zero, Option.bind_some] at hc
      rw [Option.map_eq_some_iff] at hc
      obtain ⟨H', hH', rfl⟩ := hc
      obtain ⟨w', g1, g2, g3⟩ := aClear_sound (ts := ty) (rest := rest) h hy hH'
      exact ⟨.tuple #[], w', ρ, by simp only [builtin, Sem.run_bind, g1, Result.andThen_ok, Sem.run_pure], g3, g2, by simp [Rel, RelL]⟩
  · cases hv : toVL args with
    | none => simp [hv] at hc
    | some vs =>
      have e := toVL_rel hv ha
      subst e
      simp only [hv, Option.bind_some] at hc
      cases hp : pureOf (Builtin.min_ #[] 0 xs.toArray) with
      | none => simp [hp] at hc
      | some z =>
        simp only [hp, Option.bind_some] at hc
        rw [Option.map_eq_some_iff] at hc
        obtain ⟨v, hv', rfl⟩ := hc
        have : (Builtin.min_ ts.toArray ty xs.toArray).run P w = .ok z w := pureOf_run hp P w
        exact ⟨z, w, ρ, by simp only [builtin, Sem.run_bind, this, Result.andThen_ok, Sem.run_pure], Ext.refl _ _ _, h, convS_rel hv' ρ⟩
  · cases hv : toVL args with
    | none => simp [hv] at hc
    | some vs =>
      have e := toVL_rel hv ha
      subst e
      simp only [hv, Option.bind_some] at hc
      cases hp : pureOf (Builtin.max_ #[] 0 xs.toArray) with
      | none => simp [hp] at hc
      | some z =>
        simp only [hp, Option.bind_some] at hc
        rw [Option.map_eq_some_iff] at hc
        obtain ⟨v, hv', rfl⟩ := hc
        have : (Builtin.max_ ts.toArray ty xs.toArray).run P w = .ok z w := pureOf_run hp P w
        exact ⟨z, w, ρ, by simp only [builtin, Sem.run_bind, this, Result.andThen_ok, Sem.run_pure], Ext.refl _ _ _, h, convS_rel hv' ρ⟩
  · cases hc

end
end Go.AM
set_option linter.unusedSimpArgs false
set_option linter.unusedVariables false
namespace Go.AM
open Go.RowKit
section
variable {B : Nat} {ρ : Env} {H : Heap} {w : World} {P : Program}

/-- What a step of the machine says of the model's operation. -/
def OpOk (B : Nat) (P : Program) (ρ : Env) (w : World) (s : Sem Next) : Res → Prop
  | .val v H' => ∃ x w' ρ', (s.run P w = .ok (.value x) w' ∨ s.run P w = .ok .skip w' ∧ x = undef) ∧ Ext B ρ w ρ' w' ∧ HR B ρ' H' w' ∧ Rel ρ' v x
  | .call f args => ∃ xs : Array Value, s.run P w = .ok (.enter f xs) w ∧ RelL ρ args xs.toList
  | .yield l args => ∃ (xs : Array Value) (e : At), ρ.ats[l]? = some e ∧ s.run P w = (Instr.yield e.b xs).run P w ∧ RelL ρ args xs.toList
  | .opts l => ∃ r ∈ l, ∃ x w' ρ', s.run P w = .ok (.value x) w' ∧ Ext B ρ w ρ' w' ∧ HR B ρ' r.2 w' ∧ Rel ρ' r.1 x
  | .fams l => ∃ r ∈ l, ∃ i, r.1 i ∧ ∃ x w' ρ', s.run P w = .ok (.value x) w' ∧ Ext B ρ w ρ' w' ∧ HR B ρ' (r.2 i).2 w' ∧ Rel ρ' (r.2 i).1 x

theorem okVal {s : Sem Value} {v : AV} {H' : Heap} (h : SV B P ρ w s v H') : OpOk B P ρ w (do pure (.value (← s))) (.val v H') := by
  obtain ⟨x, w', ρ', h1, h2, h3, h4⟩ := h
  exact ⟨x, w', ρ', .inl (by simp only [Sem.run_bind, h1, Result.andThen_ok, Sem.run_pure]), h2, h3, h4⟩

theorem okSame (h : HR B ρ H w) {s : Sem Value} {v : AV} (hh : ∃ x, s.run P w = .ok x w ∧ Rel ρ v x) : OpOk B P ρ w (do pure (.value (← s))) (.val v H) := okVal (SV.same h hh)

theorem okUnit {s : Sem Unit} {H' : Heap} (h : ∃ w', s.run P w = .ok () w' ∧ HR B ρ H' w' ∧ Ext B ρ w ρ w') : OpOk B P ρ w (do s; pure .skip) (.val (.tup []) H') := by
  obtain ⟨w', h1, h2, h3⟩ := h
  exact ⟨undef, w', ρ, .inr ⟨by simp only [Sem.run_bind, h1, Result.andThen_ok, Sem.run_pure], rfl⟩, h3, h2, by simp [Rel, RelL, undef]⟩

theorem callFunc_run {f : FuncId} (hf : isFunc P f = true) (xs : Array Value) : (callFunc f xs).run P w = .ok (.enter f xs) w := by
  unfold isFunc at hf
  cases hp : P.funcs[f]? with
  | none => simp [hp] at hf
  | some fn =>
    simp only [hp, Bool.and_eq_true, Bool.not_eq_true'] at hf
    have h1 : (fn.name == "runtime.NumGoroutine") = false := hf.1
    have h2 : fn.body.isNone = false := by cases hb : fn.body <;> simp_all
    simp only [callFunc, Sem.run_bind, run_program, Result.andThen_ok, hp, h1, Bool.false_eq_true, if_false, h2, Sem.run_pure]

theorem aCallV_sound {fv : AV} {args : List AV} {x : Value} {xs : Array Value} {r : Res} (hf : Rel ρ fv x) (ha : RelL ρ args xs.toList) (hc : aCallV P fv args = some r) :
    OpOk B P ρ w (do let d ← Deferred.ofValue x xs; invoke d.target d.args) r := by
  unfold aCallV at hc
  split at hc
  · rename_i k first captured
    cases hk : isFunc P k with
    | false => simp [hk] at hc
    | true =>
      simp [hk] at hc
      subst hc
      simp only [Rel] at hf
      obtain ⟨fs, cs, rfl, h1, h2⟩ := hf
      refine ⟨fs ++ xs ++ cs, by simp only [Deferred.ofValue, Sem.run_bind, Sem.run_pure, Result.andThen_ok, invoke, callFunc_run hk], ?_⟩
      simp only [Array.toList_append]
      rw [List.append_assoc]
      exact h1.append (ha.append h2)
  · rename_i l
    cases hc
    simp only [Rel] at hf
    obtain ⟨e, he, rfl⟩ := hf
    refine ⟨xs, e, he, ?_, ha⟩
    simp only [Deferred.ofValue, Sem.run_bind, Sem.run_pure, Result.andThen_ok, invoke, Array.empty_append]
  · cases hc

theorem aMethod_sound (h : HR B ρ H w) {t : TypeId} {v : AV} {name : String} {args : List AV} {x : Value} {xs : Array Value} {r : Res} (hv : Rel ρ v x) (ha : RelL ρ args xs.toList)
    (hc : aMethod P H t v name args = some r) : OpOk B P ρ w (invoke (.fn (.method name) #[]) (#[.iface t x] ++ xs)) r := by
  unfold aMethod at hc
  cases hi : P.info? t with
  | none => simp [hi] at hc
  | some inf =>
    cases hm : inf.methods.find? (·.name == name) with
    | none => simp [hi, hm] at hc
    | some m =>
      simp only [hi, hm, Option.bind_some] at hc
      cases hp : m.path.isEmpty with
      | false => simp [hp] at hc
      | true =>
        simp only [hp, Bool.not_true, cond_false] at hc
        cases hfp : m.func with
        | none => simp [hfp] at hc
        | some fp =>
          obtain ⟨f, pr⟩ := fp
          cases hu : P.underlying t with
          | none => simp [hfp, hu] at hc
          | some u =>
            simp only [hfp, hu, Option.bind_some] at hc
            have hpath : m.path.toList = [] := by
              have : m.path = #[] := Array.isEmpty_iff.1 hp
              simp [this]
            have hstart : ∀ rv : Value, (receiverAt t (.val x) pr (some ((name.splitOn ".").getLastD name))).run P w = .ok rv w → isFunc P f = true →
                (invoke (.fn (.method name) #[]) (#[.iface t x] ++ xs)).run P w = .ok (.enter f (#[rv] ++ xs)) w := by
              intro rv hrv hisf
              have e1 : (#[Value.iface t x] ++ xs)[0]? = some (.iface t x) := by rw [Array.getElem?_append_left (by simp)]; rfl
              have e2 : (#[Value.iface t x] ++ xs).extract 1 (#[Value.iface t x] ++ xs).size = xs := by
                apply Array.ext'
                simp
              have hmeth : (method (P.types.size + Made.depth) t x name).run P w = .ok (f, rv) w := by
                have : ∃ k, P.types.size + Made.depth = k + 1 := ⟨P.types.size + 99, rfl⟩
                obtain ⟨k, hk⟩ := this
                rw [hk]
                simp only [method, Sem.run_bind, typeInfo_run hi, Result.andThen_ok, hm, hpath, follow, Sem.run_pure, hfp]
                have hpe : m.path.isEmpty = true := hp
                simp only [hpe, if_true, Sem.run_bind, hrv, Result.andThen_ok, Sem.run_pure]
              simp only [invoke, e1, e2, callMethod, Sem.run_bind, run_program, Result.andThen_ok, hmeth, callFunc_run hisf]
            split at hc
            · -- a pointer's own method
              simp only [Option.bind_some] at hc
              cases hk : isFunc P f with
              | false => simp [hk] at hc
              | true =>
                simp [hk] at hc
                subst hc
                refine ⟨#[x] ++ xs, hstart x (by simp [receiverAt, run_underlying hu, Place.get]) hk, ?_⟩
                simp only [Array.toList_append]
                exact ⟨x, xs.toList, rfl, hv, ha⟩
            · rename_i e
              cases hl : aload P H e v with
              | none => simp [hl] at hc
              | some rv =>
                simp only [hl, Option.bind_some] at hc
                cases hk : isFunc P f with
                | false => simp [hk] at hc
                | true =>
                  simp [hk] at hc
                  subst hc
                  obtain ⟨y, _, hy2, ad, rfl, hy3⟩ := aload_sound h hv hl
                  refine ⟨#[y] ++ xs, hstart y ?_ hk, ?_⟩
                  · have hchk : ∀ nm : String, (Builtin.ssaWrapNilChk_ #[t] t #[.pointer (some ad), strVal "", strVal nm]).run P w = .ok (.pointer (some ad)) w := fun _ => rfl
                    simp only [receiverAt, Sem.run_bind, run_underlying hu, Result.andThen_ok, Place.get, Sem.run_pure, hchk, asAddr, hy3]
                  · simp only [Array.toList_append]
                    exact ⟨y, xs.toList, rfl, hy2, ha⟩
            · simp at hc
            · rename_i hnp
              simp only [Option.bind_some] at hc
              cases hk : isFunc P f with
              | false => simp [hk] at hc
              | true =>
                simp [hk] at hc
                subst hc
                refine ⟨#[x] ++ xs, hstart x ?_ hk, ?_⟩
                · simp only [receiverAt, Sem.run_bind, run_underlying hu, Result.andThen_ok]
                  cases u <;> first
                    | rfl
                    | exact (hnp _ rfl rfl).elim
                    | (simp [Place.get]; done)
                · simp only [Array.toList_append]
                  exact ⟨x, xs.toList, rfl, hv, ha⟩


theorem evalO_sound {fr : Fr} {a : Act} (hf : FRel ρ fr a.tmps) {x : Option Operand} {v : Option AV} (h : (match x with | none => some none | some y => (aeval fr y).map some) = some v) : RelO ρ v (x.map a.eval) := by
  cases x with
  | none => simp at h; subst h; rfl
  | some y =>
    simp only [Option.map_eq_some_iff] at h
    obtain ⟨u, hu, rfl⟩ := h
    exact ⟨_, rfl, aeval_sound hf hu⟩

theorem evalL_arr {fr : Fr} {a : Act} (hf : FRel ρ fr a.tmps) {xs : Array Operand} {vs : List AV} (h : evalL fr xs.toList = some vs) : RelL ρ vs (xs.map a.eval).toList := by
  rw [Array.toList_map]; exact evalL_sound hf h

set_option maxHeartbeats 4000000 in
theorem aop0_sound (h : HR B ρ H w) {fr : Fr} {a : Act} (hf : FRel ρ fr a.tmps) {o : Oper} {r : Res} (hr : aop0 P fr H o = some r) : OpOk B P ρ w (execOp a.eval o) r := by
  obtain ⟨dst, op, type, pos, after, guard⟩ := o
  unfold aop0 at hr
  simp only at hr
  split at hr
  · -- move
    rw [Option.map_eq_some_iff] at hr
    obtain ⟨v, hv, rfl⟩ := hr
    exact ⟨_, w, ρ, .inl rfl, Ext.refl _ _ _, h, aeval_sound hf hv⟩
  · rw [Option.map_eq_some_iff] at hr
    obtain ⟨v, hv, rfl⟩ := hr
    exact ⟨_, w, ρ, .inl rfl, Ext.refl _ _ _, h, aeval_sound hf hv⟩
  · -- pick
    rename_i c x y
    rw [Option.bind_eq_some_iff] at hr
    obtain ⟨v, hv, hr⟩ := hr
    have hc := aeval_sound hf hv
    split at hr
    · rw [Option.map_eq_some_iff] at hr
      obtain ⟨u, hu, rfl⟩ := hr
      simp only [Rel] at hc
      exact ⟨_, w, ρ, .inl (by simp only [execOp, hc, asBool, Sem.run_bind, Sem.run_pure, Result.andThen_ok]; rfl), Ext.refl _ _ _, h, aeval_sound hf hu⟩
    · rw [Option.map_eq_some_iff] at hr
      obtain ⟨u, hu, rfl⟩ := hr
      simp only [Rel] at hc
      exact ⟨_, w, ρ, .inl (by simp only [execOp, hc, asBool, Sem.run_bind, Sem.run_pure, Result.andThen_ok]; rfl), Ext.refl _ _ _, h, aeval_sound hf hu⟩
    · cases hr
  · -- alloc
    rename_i e
    simp only [Option.bind_eq_some_iff, Option.map_eq_some_iff] at hr
    obtain ⟨ie, hi, zv, ⟨z, hz, hzv⟩, cs, hcs, q, hn, rfl⟩ := hr
    exact okVal (alloc_sound h hi hz hzv hcs hn)
  · -- box
    rename_i e x
    simp only [Option.bind_eq_some_iff, Option.map_eq_some_iff] at hr
    obtain ⟨v, hv, cs, hcs, ie, hi, q, hn, rfl⟩ := hr
    exact okVal (box_sound h (aeval_sound hf hv) hcs hn)
  · -- build
    rename_i t parts
    simp only [Option.bind_eq_some_iff, Option.map_eq_some_iff] at hr
    obtain ⟨ps, hps, v, hv, rfl⟩ := hr
    have hp := evalParts_sound hf hps
    exact okSame h (aBuild_sound (ps' := parts.map fun (i, x) => (i, a.eval x)) (by rw [Array.toList_map]; exact hp) hv)
  · rename_i t len parts
    simp only [Option.bind_eq_some_iff, Option.map_eq_some_iff] at hr
    obtain ⟨ps, hps, v, hv, rfl⟩ := hr
    have hp := evalParts_sound hf hps
    exact okVal (aBuildSlice_sound h (ps' := parts.map fun (i, x) => (i, a.eval x)) (by rw [Array.toList_map]; exact hp) hv)
  · -- load
    simp only [Option.bind_eq_some_iff, Option.map_eq_some_iff] at hr
    obtain ⟨p, hp, v, hv, rfl⟩ := hr
    obtain ⟨y, hy1, hy2, _⟩ := aload_sound h (aeval_sound hf hp) hv
    exact okSame h ⟨y, hy1, hy2⟩
  · -- store
    simp only [Option.bind_eq_some_iff, Option.map_eq_some_iff] at hr
    obtain ⟨p, hp, v, hv, H', hH, rfl⟩ := hr
    exact okUnit (astore_sound h (aeval_sound hf hp) (aeval_sound hf hv) hH)
  · -- nilCheck
    rename_i x
    simp only [Option.bind_eq_some_iff] at hr
    obtain ⟨v, hv, hr⟩ := hr
    have hx := aeval_sound hf hv
    split at hr
    · cases hr
      have hx' := hx
      simp only [Rel] at hx
      obtain ⟨e, he, hxe⟩ := hx
      exact ⟨_, w, ρ, .inl (by simp only [execOp, hxe]; rfl), Ext.refl _ _ _, h, ⟨e, he, rfl⟩⟩
    · cases hr
      simp only [Rel] at hx
      obtain ⟨fs, cs, hxe, h1, h2⟩ := hx
      exact ⟨_, w, ρ, .inl (by simp only [execOp, hxe]; rfl), Ext.refl _ _ _, h, ⟨fs, cs, rfl, h1, h2⟩⟩
    · cases hr
      simp only [Rel] at hx
      obtain ⟨e, he, hxe⟩ := hx
      exact ⟨_, w, ρ, .inl (by simp only [execOp, hxe]; rfl), Ext.refl _ _ _, h, ⟨e, he, rfl⟩⟩
    · cases hr
      simp only [Rel] at hx
      obtain ⟨y, hxe, h1⟩ := hx
      exact ⟨_, w, ρ, .inl (by simp only [execOp, hxe]; rfl), Ext.refl _ _ _, h, ⟨y, rfl, h1⟩⟩
    · cases hr
  · -- binOp
    simp only [Option.bind_eq_some_iff, Option.map_eq_some_iff] at hr
    obtain ⟨u, hu, v, hv, r, hr, rfl⟩ := hr
    exact okSame h (aBin_sound (aeval_sound hf hu) (aeval_sound hf hv) hr)
  · -- unOp
    simp only [Option.bind_eq_some_iff, Option.map_eq_some_iff] at hr
    obtain ⟨u, hu, r, hr, rfl⟩ := hr
    exact okSame h (aUn_sound (aeval_sound hf hu) hr)
  · -- convert
    simp only [Option.bind_eq_some_iff, Option.map_eq_some_iff] at hr
    obtain ⟨u, hu, r, hr, rfl⟩ := hr
    exact okVal (aConv_sound h (aeval_sound hf hu) hr)
  · -- makeInterface
    rename_i t x
    simp only [Option.bind_eq_some_iff] at hr
    obtain ⟨v, hv, d, hd, hr⟩ := hr
    split at hr
    · cases hr
    · rename_i hni
      cases hr
      refine okSame h ⟨.iface t (a.eval x), ?_, ⟨_, rfl, aeval_sound hf hv⟩⟩
      simp only [Instr.makeInterface, Sem.run_bind, run_underlying hd, Result.andThen_ok]
      cases d <;> first
        | rfl
        | exact (hni _ rfl).elim
  · -- makeFunc
    rename_i f first captured
    split at hr
    · cases hr
    · simp only [Option.bind_eq_some_iff, Option.map_eq_some_iff] at hr
      obtain ⟨fs, hfs, cs, hcs, rfl⟩ := hr
      exact okSame h ⟨_, rfl, ⟨_, _, rfl, evalL_arr hf hfs, evalL_arr hf hcs⟩⟩
  · -- makeMap
    rename_i t rs
    have key : HR B (ρ.add ⟨w.heap.size, 0, 0, 0, 0, false⟩) (H.alloc (.map [] 0)) (w.alloc (.map #[] 0)) := h.alloc _ _ ⟨w.heap.size, 0, 0, 0, 0, false⟩ rfl ⟨rfl, h.base, #[], heap_alloc_new _ _, rfl⟩
    have key2 : Rel (ρ.add ⟨w.heap.size, 0, 0, 0, 0, false⟩) (.map H.next) (.map (some w.heap.size)) := ⟨⟨w.heap.size, 0, 0, 0, 0, false⟩, by rw [h.next]; simp, rfl⟩
    split at hr
    · cases hr
      exact okVal ⟨.map (some w.heap.size), _, _, by simp [Instr.makeMap], Ext.alloc _ _ h.base rfl, key, key2⟩
    · rename_i x
      simp only [Option.bind_eq_some_iff] at hr
      obtain ⟨v, hv, hr⟩ := hr
      have hx := aeval_sound hf hv
      split at hr
      · simp only [Option.bind_eq_some_iff] at hr
        obtain ⟨d, hd, hr⟩ := hr
        split at hr
        · cases hr
          simp only [Rel] at hx
          exact okVal ⟨.map (some w.heap.size), _, _, by simp [Instr.makeMap, hx, run_underlying hd, asInt, asIntOf], Ext.alloc _ _ h.base rfl, key, key2⟩
        · cases hr
      · cases hr
  · -- makeSlice
    simp only [Option.bind_eq_some_iff, Option.map_eq_some_iff] at hr
    obtain ⟨l, hl, c, hc, r, hr, rfl⟩ := hr
    exact okVal (aMakeSlice_sound h (aeval_sound hf hl) (aeval_sound hf hc) hr)
  · -- slice
    simp only [Option.bind_eq_some_iff, Option.map_eq_some_iff] at hr
    obtain ⟨v, hv, l, hl, hh, hhh, m, hm, r, hr, rfl⟩ := hr
    exact okSame h (aSlice_sound h (aeval_sound hf hv) (evalO_sound hf hl) (evalO_sound hf hhh) (evalO_sound hf hm) hr)
  · simp only [Option.bind_eq_some_iff, Option.map_eq_some_iff] at hr
    obtain ⟨u, hu, r, hr, rfl⟩ := hr
    exact okSame h (aFieldAddr_sound (aeval_sound hf hu) hr)
  · simp only [Option.bind_eq_some_iff, Option.map_eq_some_iff] at hr
    obtain ⟨u, hu, r, hr, rfl⟩ := hr
    exact okSame h (aField_sound (aeval_sound hf hu) hr)
  · simp only [Option.bind_eq_some_iff, Option.map_eq_some_iff] at hr
    obtain ⟨u, hu, v, hv, r, hr, rfl⟩ := hr
    exact okSame h (aIndexAddr_sound (aeval_sound hf hu) (aeval_sound hf hv) hr)
  · simp only [Option.bind_eq_some_iff, Option.map_eq_some_iff] at hr
    obtain ⟨u, hu, v, hv, r, hr, rfl⟩ := hr
    exact okSame h (aIndex_sound (aeval_sound hf hu) (aeval_sound hf hv) hr)
  · -- lookup
    simp only [Option.bind_eq_some_iff, Option.map_eq_some_iff] at hr
    obtain ⟨u, hu, v, hv, r, hr, rfl⟩ := hr
    exact okSame h (aLookup_sound h (aeval_sound hf hu) (aeval_sound hf hv) hr)
  · simp only [Option.bind_eq_some_iff, Option.map_eq_some_iff] at hr
    obtain ⟨u, hu, v, hv, x, hx, r, hr, rfl⟩ := hr
    exact okUnit (aMapUpdate_sound h (aeval_sound hf hu) (aeval_sound hf hv) (aeval_sound hf hx) hr)
  · simp only [Option.bind_eq_some_iff, Option.map_eq_some_iff] at hr
    obtain ⟨u, hu, v, hv, x, hx, r, hr, rfl⟩ := hr
    exact okUnit (aMapUpdate_sound h (aeval_sound hf hu) (aeval_sound hf hv) (aeval_sound hf hx) hr)
  · simp only [Option.bind_eq_some_iff, Option.map_eq_some_iff] at hr
    obtain ⟨u, hu, v, hv, r, hr, rfl⟩ := hr
    exact okVal (aMapEntry_sound h (aeval_sound hf hu) (aeval_sound hf hv) hr)
  · simp only [Option.bind_eq_some_iff, Option.map_eq_some_iff] at hr
    obtain ⟨u, hu, v, hv, x, hx, r, hr, rfl⟩ := hr
    exact okUnit (aEntryStore_sound h (aeval_sound hf hu) (aeval_sound hf hv) (aeval_sound hf hx) hr)
  · simp only [Option.bind_eq_some_iff, Option.map_eq_some_iff] at hr
    obtain ⟨u, hu, r, hr, rfl⟩ := hr
    exact okVal (aRange_sound h (aeval_sound hf hu) hr)
  · -- entry
    simp only [Option.bind_eq_some_iff, Option.map_eq_some_iff] at hr
    obtain ⟨u, hu, r, hr, rfl⟩ := hr
    exact okSame h (aEntry_sound h (aeval_sound hf hu) hr)
  · -- next
    simp only [Option.bind_eq_some_iff] at hr
    obtain ⟨u, hu, l, hl, hr⟩ := hr
    obtain ⟨q, hq, x, w', ρ', g1, g2, g3, g4⟩ := aNext_sound (P := P) (ty := type) h (aeval_sound hf hu) hl
    split at hr
    · cases hr
      have : q = _ := List.mem_singleton.1 hq
      subst this
      exact okVal ⟨x, w', ρ', g1, g2, g3, g4⟩
    · cases hr
      exact ⟨q, hq, x, w', ρ', by simp only [execOp, Sem.run_bind, g1, Result.andThen_ok, Sem.run_pure], g2, g3, g4⟩
  · simp only [Option.bind_eq_some_iff, Option.map_eq_some_iff] at hr
    obtain ⟨u, hu, r, hr, rfl⟩ := hr
    exact okSame h (aTypeAssert_sound (aeval_sound hf hu) hr)
  · -- extract
    simp only [Option.bind_eq_some_iff] at hr
    obtain ⟨u, hu, hr⟩ := hr
    have hx := aeval_sound hf hu
    split at hr
    · rw [Option.map_eq_some_iff] at hr
      obtain ⟨v, hv, rfl⟩ := hr
      simp only [Rel] at hx
      obtain ⟨ys, hy, hrl⟩ := hx
      obtain ⟨x, hx1, hx2⟩ := hrl.get hv
      exact okSame h ⟨x, by simp only [Instr.extract, hy]; rw [← Array.getElem?_toList, hx1]; rfl, hx2⟩
    · cases hr
  · -- call
    rename_i c
    simp only [Option.bind_eq_some_iff] at hr
    obtain ⟨args, hargs, hr⟩ := hr
    have ha := evalL_arr hf hargs
    split at hr
    · rename_i b hb
      rw [Option.map_eq_some_iff] at hr
      obtain ⟨r, hr, rfl⟩ := hr
      obtain ⟨x, w', ρ', g1, g2, g3, g4⟩ := aBuiltin_sound (ty := type) (cs := c.args.map fun | .const _ => true | _ => false) h ha hr
      refine ⟨x, w', ρ', .inl ?_, g2, g3, g4⟩
      simp only [execOp, resolve, hb, Sem.run_bind, Sem.run_pure, Result.andThen_ok, invoke]
      rw [Array.toArray_toList, Array.toArray_toList] at g1
      exact g1
    · rename_i f hb
      simp only [Option.bind_eq_some_iff] at hr
      obtain ⟨fv, hfv, hr⟩ := hr
      have := aCallV_sound (B := B) (P := P) (w := w) (aeval_sound hf hfv) ha hr
      simpa only [execOp, resolve, hb] using this
    · rename_i recv name hb
      simp only [Option.bind_eq_some_iff] at hr
      obtain ⟨rv, hrv, hr⟩ := hr
      have hx := aeval_sound hf hrv
      split at hr
      · simp only [Rel] at hx
        obtain ⟨y, hy, hy2⟩ := hx
        have := aMethod_sound (P := P) h hy2 ha hr
        simpa only [execOp, resolve, hb, hy, pure_bind] using this
      · cases hr
  · cases hr

end
end Go.AM
