/- THE ABSTRACT MACHINE, 10: the operations are sound, part 7: conversions, iterators, lengths, append, copy. -/
import Derived.Test.YtdeoahhofhmgfaaAmSnd6
import Derived.Laws.BytesString
namespace Go.AM
open Go.RowKit
section
variable {B : Nat} {ρ : Env} {H : Heap} {w : World} {P : Program}

theorem aUn_sound {op : UnOp} {a v : AV} {x : Value} (ha : Rel ρ a x) (h : aUn op a = some v) : ∃ z, (Op.unary op x).run P w = .ok z w ∧ Rel ρ v z := by
  unfold aUn at h
  split at h
  · rw [Option.bind_eq_some_iff] at h
    obtain ⟨z, h1, h2⟩ := h
    simp only [Rel] at ha; subst ha
    exact ⟨z, pureOf_run h1 P w, convS_rel h2 ρ⟩
  · rw [Option.bind_eq_some_iff] at h
    obtain ⟨z, h1, h2⟩ := h
    simp only [Rel] at ha; subst ha
    exact ⟨z, pureOf_run h1 P w, convS_rel h2 ρ⟩
  · cases h

theorem bytesAV_rel (ρ : Env) (s : List UInt8) : RelL ρ (bytesAV s) (s.map fun b => Value.int .u8 b.toNat) := by
  refine RelL.mk (by simp [bytesAV]) fun j v hv => ?_
  simp only [bytesAV, List.getElem?_map] at hv ⊢
  cases hs : s[j]? with
  | none => simp [hs] at hv
  | some b => simp [hs] at hv; subst hv; exact ⟨_, rfl, by simp [Rel]⟩

theorem bytesOfCells_sound : ∀ {cs : List AV} {s : List UInt8} {xs : List Value}, RelL ρ cs xs → bytesOfCells cs = some s →
    ∃ ns : List Int, xs = ns.map (Value.int .u8) ∧ s = ns.map fun n => UInt8.ofNat n.toNat
  | [], s, xs, hr, h => by
    simp only [RelL] at hr; subst hr
    simp [bytesOfCells] at h; subst h
    exact ⟨[], rfl, rfl⟩
  | c :: cs, s, xs, hr, h => by
    obtain ⟨y, ys, rfl, h1, h2⟩ := hr
    unfold bytesOfCells at h
    split at h
    · rename_i e; cases e
    · rename_i n r e
      cases e
      simp only [Rel] at h1
      subst h1
      cases hb : bytesOfCells cs with
      | none => simp [hb] at h
      | some s' =>
        simp [hb] at h
        subst h
        obtain ⟨ns, g1, g2⟩ := bytesOfCells_sound h2 hb
        exact ⟨n :: ns, by simp [g1], by simp [g2]⟩
    · cases h

theorem foldl_push (ns : List Int) : ∀ acc : ByteArray, ns.foldl (fun r n => r.push (UInt8.ofNat n.toNat)) acc = ⟨acc.data ++ (ns.map fun n => UInt8.ofNat n.toNat).toArray⟩ := by
  induction ns with
  | nil => intro acc; simp
  | cons n ns ih =>
    intro acc
    simp only [List.foldl_cons, ih]
    apply ByteArray.ext
    simp [ByteArray.push]

/-- A conversion. -/
theorem aConv_sound (h : HR B ρ H w) {src dst : TypeId} {a : AV} {x : Value} {r : AV × Heap} (ha : Rel ρ a x) (hc : aConv P H src dst a = some r) : SV B P ρ w (convert src dst x) r.1 r.2 := by
  unfold aConv at hc
  cases hs : P.underlying src with
  | none => simp [hs] at hc
  | some us =>
    cases hd : P.underlying dst with
    | none => simp [hs, hd] at hc
    | some ud =>
      simp only [hs, hd, Option.bind_some] at hc
      split at hc
      · cases hc
        simp only [Rel] at ha; subst ha
        rename_i k1 k2 n1
        exact SV.same h ⟨.int k1 (k1.wrap n1), by simp [convert, run_underlying hs, run_underlying hd, Conv.intToInt], by simp [Rel]⟩
      · cases hc
        simp only [Rel] at ha; subst ha
        rename_i s1
        refine SV.same h ⟨.string ⟨s1.toArray⟩, ?_, by simp [Rel]⟩
        simp only [convert, Sem.run_bind, run_underlying hs, run_underlying hd, Result.andThen_ok]
        cases us <;> rfl
      · rename_i us' e s
        cases hue : P.underlying e with
        | none => simp [hue] at hc
        | some ue =>
          simp only [hue, Option.bind_some] at hc
          split at hc
          · cases hc
            simp only [Rel] at ha; subst ha
            have hsz : (⟨s.toArray⟩ : ByteArray).size = s.length := by simp [ByteArray.size]
            have hcap : ∀ t, (Question.appendCap s.length 0 e).cut t ≥ s.length := fun t => by simp [Question.cut]
            generalize hq : (Question.appendCap s.length 0 e).cut (w.tape w.drawn (.appendCap s.length 0 e)) = cap at *
            have hge : s.length ≤ cap := by rw [← hq]; exact hcap _
            let arr : Array Value := (s.toArray.map fun b => Value.int .u8 b.toNat) ++ Array.replicate (cap - s.length) (.int .u8 0)
            have harr : arr.size = cap := by simp [arr]; omega
            let w1 : World := { w with drawn := w.drawn + 1 }
            let w2 : World := w1.alloc (.cells arr e)
            let w3 : World := w2.freeze { block := w.heap.size, off := cap } 1
            have hrun : (convert src dst (.string ⟨s.toArray⟩)).run P w = .ok (.slice (some ⟨w.heap.size, 0, none⟩) s.length cap) w3 := by
              have h1 : (convert src dst (.string ⟨s.toArray⟩)).run P w = (Conv.stringToBytes e ⟨s.toArray⟩).run P w := by
                simp only [convert, Sem.run_bind, run_underlying hs, run_underlying hd, Result.andThen_ok]
                cases us <;> simp [run_underlying hue]
              rw [h1]
              have hfor : (Question.appendCap s.length 0 e).forced = false := rfl
              have hshape : w2.shape? w.heap.size = some (e, cap) := by
                have := heap_alloc_new w1 (.cells arr e)
                simp only [World.shape?]
                rw [show w2.heap[w.heap.size]? = some (.cells arr e) from this]
                simp [harr]
              simp only [Conv.stringToBytes, Sem.run_bind, run_choose, hsz, hfor, Bool.false_eq_true, if_false, Result.andThen_ok, hq]
              simp only [newRow, Sem.run_bind, run_newObj, Result.andThen_ok, Sem.run_pure, markStringish, run_shape]
              rw [show ({ heap := (({ heap := w.heap, tape := w.tape, drawn := w.drawn + 1, os := w.os, output := w.output } : World)).heap.push (Obj.cells ((({ data := s.toArray } : ByteArray).data.map fun b => Value.int .u8 b.toNat) ++ Array.replicate (cap - s.length) (.int .u8 0)) e), tape := w.tape, drawn := w.drawn + 1, os := w.os, output := w.output } : World) = w2 from rfl]
              simp only [hshape, run_freeze, Result.andThen_ok]
              rfl
            have hh1 : HR B ρ H w1 := h.heap rfl
            have hfz : w3.heap[w.heap.size]? = some (.cells arr e (cap, cap + 1)) := by
              show (World.freeze w2 _ 1).heap[w.heap.size]? = _
              simp only [World.freeze]
              rw [if_neg (by omega)]
              rw [Array.getElem?_modify]
              rw [if_pos rfl, show w2.heap[w.heap.size]? = some (.cells arr e) from heap_alloc_new w1 _]
              simp
            have hoth : ∀ k, k ≠ w.heap.size → w3.heap[k]? = w2.heap[k]? := fun k hk => by
              show (World.freeze w2 _ 1).heap[k]? = _
              simp only [World.freeze]
              rw [if_neg (by omega), Array.getElem?_modify, if_neg (Ne.symm hk)]
            have hsz3 : w3.heap.size = w2.heap.size := by
              show (World.freeze w2 _ 1).heap.size = _
              simp only [World.freeze]
              rw [if_neg (by omega)]; simp
            let e0 : At := ⟨w.heap.size, 0, cap, 1, 0, false⟩
            have hobj : ∀ w', ∀ fz : Nat × Nat, (fz = (0, 0) ∨ fz = (cap, cap + 1)) → w'.heap[w.heap.size]? = some (.cells arr e fz) → ORel (ρ.add e0) B w' e0 (.cells false 1 (bytesAV s) (some e)) := by
              intro w' fz hfz' hw'
              refine ⟨rfl, rfl, arr, e, fz, hw', harr, fun j v hv => ?_, (fun hh => by cases hh), fun _ => ⟨h.base, fun j hj => ?_⟩, fun t ht => ⟨Option.some.inj ht, rfl⟩⟩
              · obtain ⟨x, hx, hr⟩ := (bytesAV_rel (ρ.add e0) s).get hv
                refine ⟨x, ?_, hr⟩
                have hj : j < s.length := by have := (List.getElem?_eq_some_iff.1 hx).1; simpa using this
                simp only [arr]
                rw [Array.getElem?_append_left (by simp [e0]; omega)]
                simp only [e0, Nat.zero_add, Array.getElem?_map]
                simpa using hx
              · rcases hfz' with rfl | rfl
                · simp
                · simp [e0] at hj ⊢; omega
            have hh2 : HR B (ρ.add e0) (H.alloc (.cells false 1 (bytesAV s) (some e))) w2 := hh1.alloc _ (.cells arr e) e0 rfl (hobj _ (0, 0) (.inl rfl) (heap_alloc_new w1 _))
            have hget : (H.alloc (.cells false 1 (bytesAV s) (some e))).get H.next = some (.cells false 1 (bytesAV s) (some e)) := by rw [Heap.get_alloc]; simp
            have hnx : (ρ.add e0).ats[H.next]? = some e0 := by rw [h.next]; simp
            have hh3 : HR B (ρ.add e0) ((H.alloc (.cells false 1 (bytesAV s) (some e))).set H.next (.cells false 1 (bytesAV s) (some e))) w3 :=
              hh2.turn hget hnx rfl h.base _ hsz3 hoth (hobj _ _ (.inr rfl) hfz)
            have hh4 : HR B (ρ.add e0) (H.alloc (.cells false 1 (bytesAV s) (some e))) w3 :=
              ⟨hh3.next, hh3.base, hh3.bnd, fun i o hi => by
                refine hh3.obj i o ?_
                rw [Heap.get_set]
                by_cases hin : i = H.next
                · subst hin; rw [hget] at hi; simp [← hi]
                · simp [hin, hi], fun i j o o' e1 e2 hi hj => by
                refine hh3.inj i j o o' e1 e2 ?_ ?_
                · rw [Heap.get_set]
                  by_cases hin : i = H.next
                  · subst hin; rw [hget] at hi; simp [← hi]
                  · simp [hin, hi]
                · rw [Heap.get_set]
                  by_cases hin : j = H.next
                  · subst hin; rw [hget] at hj; simp [← hj]
                  · simp [hin, hj], hh3.fz, fun i o e1 c hi => by
                refine hh3.fzo i o e1 c ?_
                rw [Heap.get_set]
                by_cases hin : i = H.next
                · subst hin; rw [hget] at hi; simp [← hi]
                · simp [hin, hi]⟩
            have he1 : Ext B ρ w ρ w1 := Ext.heap rfl rfl rfl rfl
            have he2 : Ext B ρ w1 (ρ.add e0) w2 := Ext.alloc _ _ h.base rfl
            have he3 : Ext B (ρ.add e0) w2 (ρ.add e0) w3 := by
              refine Ext.turn (e := e0) (Env.blk_of hnx rfl) h.base hsz3 hoth ?_ ?_ ?_
              · show (World.freeze w2 _ 1).os = _; simp only [World.freeze]; rw [if_neg (by omega)]
              · show (World.freeze w2 _ 1).tape = _; simp only [World.freeze]; rw [if_neg (by omega)]
              · show (World.freeze w2 _ 1).output = _; simp only [World.freeze]; rw [if_neg (by omega)]
            exact ⟨_, w3, _, hrun, (he1.trans he2).trans he3, hh4, ⟨e0, cap, hnx, by simp [e0], Nat.le_refl _, hge, (fun hh => by cases hh), fun _ => by simp [e0]⟩⟩
          · cases hc
      · rename_i e hns
        cases hue : P.underlying e with
        | none => simp [hue] at hc
        | some ue =>
          simp only [hue, Option.bind_some] at hc
          split at hc
          · cases hc
            simp only [Rel] at ha; subst ha
            refine SV.same h ⟨.string .empty, ?_, by simp [Rel]; rfl⟩
            rw [run_convert_bytes_string w src dst e _ _ _ hs hue hd]
            simp [Conv.bytesToString]
          · rename_i i off len cap ex
            simp only [Rel] at ha
            obtain ⟨a, c, ha, rfl, _⟩ := ha
            cases hl : ldN H i off len with
            | none => simp [hl] at hc
            | some cs =>
              cases hb : bytesOfCells cs with
              | none => simp [hl, hb] at hc
              | some s =>
                simp [hl, hb] at hc
                subst hc
                obtain ⟨_, xs, hxl, hxr, hcell⟩ := ldN_sound h ha hl
                obtain ⟨ns, g1, g2⟩ := bytesOfCells_sound hxr hb
                refine SV.same h ⟨.string ⟨s.toArray⟩, ?_, by simp [Rel]⟩
                rw [run_convert_bytes_string w src dst e _ _ _ hs hue hd, run_bytesToString w _ len c ns (by rw [← g1]; exact run_loadCells_at hxl hcell), foldl_push, g2]
                simp
          · cases hc
      · cases hc

end
end Go.AM
