/- THE ABSTRACT MACHINE, 13b9: operations on terms are sound: a map, entry by entry. -/
import Derived.Test.YtdeoahhofhmgfaaAmX8
set_option linter.unusedSimpArgs false
set_option linter.unusedVariables false
namespace Go.AM
open Go.RowKit
section
variable {B : Nat} {ρ : Env} {H : Heap} {w : World} {P : Program}

theorem xRange_sound (h : HR B ρ H w) {t : TypeId} {a : AV} {x : Value} {r : AV × Heap} (ha : Rel ρ a x) (hc : xRange P H t a = some r) : SV B P ρ w (Instr.range t x) r.1 r.2 := by
  unfold xRange at hc
  simp only [Option.bind_eq_some_iff] at hc
  obtain ⟨u, hu, hc⟩ := hc
  split at hc
  · rename_i kt et i
    simp only [Rel] at ha
    obtain ⟨e, he, rfl⟩ := ha
    split at hc
    · rename_i ka va kr vr m bs clk ho
      cases hc
      obtain ⟨hnb, hB, hnd, arr, h1, h2⟩ := smap_at h ho he
      let e0 : At := ⟨w.heap.size, 0, 0, 0, 0, false⟩
      have h3 : HR B (ρ.add e0) (H.alloc (.smIter i clk [] clk)) (w.alloc (.mapIter (some e.b) clk #[] clk)) :=
        h.alloc _ _ e0 rfl ⟨rfl, rfl, h.base, e, pre_get (Env.le_add _ _).ats he, heap_alloc_new _ _⟩
      exact ⟨.pointer (some ⟨w.heap.size, 0, none⟩), _, _, by simp [Instr.range, run_underlying hu, run_getObj_map h1], Ext.alloc _ e0 h.base rfl, h3, ⟨e0, by rw [h.next]; simp, rfl⟩⟩
    · cases hc
  · cases hc

theorem xNext_sound (h : HR B ρ H w) {it : AV} {x : Value} {isS : Bool} {p : Option Prop} {l : List ((Nat → Prop) × (Nat → AV × Heap))} {ty : TypeId} (ha : Rel ρ it x) (hc : xNext H it isS = some (p, l)) (hp : obOk p) :
    ∃ q ∈ l, ∃ j, q.1 j ∧ SV B P ρ w (Instr.next x isS ty) (q.2 j).1 (q.2 j).2 := by
  unfold xNext at hc
  split at hc
  · rename_i r
    simp only [Rel] at ha
    obtain ⟨e, he, rfl⟩ := ha
    split at hc
    · rename_i m since seen stepped ho
      obtain ⟨hnb, hs, hB, em, hem, h1⟩ := h.at' ho he
      have hg := run_getObj_any (P := P) (by intro c t f hh; cases hh) h1
      split at hc
      · rename_i ka va kr vr rows bs clock hom
        cases hc
        obtain ⟨hnbm, hBm, hndm, arr, hm1, ⟨s1, s2⟩, gb, g4, g5⟩ := smap_at h hom hem
        have hgm := run_getObj_map (P := P) hm1
        have hguard' : (!seen.toArray.isEmpty && !arr.isEmpty && arr.all (fun e => decide (e.born ≥ stepped))) = false := by
          have hp : notGone bs seen stepped := hp
          rcases hp with hp | hp | ⟨b, hb1, hb2⟩
          · subst hp; rfl
          · have : arr.toList = [] := by
              have := hp; rw [gb, List.map_eq_nil_iff] at this; exact this
            have : arr = #[] := by simpa using this
            subst this; simp
          · rw [gb] at hb1
            obtain ⟨y, hy, rfl⟩ := List.mem_map.1 hb1
            cases ha : arr.all (fun e => decide (e.born ≥ stepped)) with
            | false => simp
            | true =>
              rw [← Array.all_toList, List.all_eq_true] at ha
              have := ha y hy
              simp at this; omega
        generalize hleftr : (arr.filter fun e => !seen.toArray.contains e.born) = left
        have hleft : ∀ y, y ∈ left ↔ y ∈ arr.toList ∧ y.born ∉ seen := fun y => by rw [← hleftr]; simp
        generalize holdr : left.filter (fun e => decide (e.born < since)) = old
        generalize hnewr : left.filter (fun e => decide (e.born ≥ since)) = new
        have hold : ∀ y, y ∈ old ↔ y ∈ left ∧ y.born < since := fun y => by rw [← holdr]; simp
        have hnew : ∀ y, y ∈ new ↔ y ∈ left ∧ y.born ≥ since := fun y => by rw [← hnewr]; simp
        generalize hcr : ((if old.isEmpty then #[none] else #[]) ++ (old ++ new).map some : Array (Option MapEntry)) = cands
        have hrun : (Instr.next (.pointer (some ⟨e.b, e.sh + 0, none⟩)) false ty).run P w =
            ((choose (.mapNext cands.size)).run P w).andThen fun k w1 => (match cands[k]? with
              | some (some e') => (do
                setObj e.b (.mapIter (some em.b) since (seen.toArray.push e'.born) clock)
                pure (.tuple #[.bool true, e'.key, e'.val]) : Sem Value)
              | some none => pure (.tuple #[.bool false])
              | none => stuck "Next: no such candidate").run P w1 := by
          simp only [Instr.next, hs, Nat.zero_add, Sem.run_bind, hg, hgm, Result.andThen_ok, hguard', hleftr, holdr, hnewr, hcr]
          rw [if_neg (by simp)]
          simp only [Sem.run_bind]
          rfl
        have hpos : 0 < cands.size := by
          rw [← hcr]
          by_cases ho : old.isEmpty = true
          · simp [ho]; omega
          · have : 0 < old.size := by
              rcases Nat.eq_zero_or_pos old.size with hz | hz
              · exact absurd (by simpa [Array.isEmpty] using hz) ho
              · exact hz
            simp [ho]; omega
        obtain ⟨k, w1, hk, hch, hw1⟩ : ∃ k w1, k < cands.size ∧ (choose (.mapNext cands.size)).run P w = .ok k w1 ∧ (w1 = w ∨ w1 = { w with drawn := w.drawn + 1 }) := by
          rw [run_choose]
          by_cases hf : (Question.mapNext cands.size).forced = true
          · rw [if_pos hf]; exact ⟨0, w, hpos, rfl, .inl rfl⟩
          · rw [if_neg hf]; exact ⟨_, _, Nat.mod_lt _ hpos, rfl, .inr rfl⟩
        have hH1 : HR B ρ H w1 := by rcases hw1 with rfl | rfl; exact h; exact h.heap rfl
        have hE1 : Ext B ρ w ρ w1 := by rcases hw1 with rfl | rfl; exact Ext.refl _ _ _; exact Ext.heap rfl rfl rfl rfl
        have h11 : w1.heap = w.heap := by rcases hw1 with rfl | rfl <;> rfl
        have hmem : cands[k] ∈ cands := Array.getElem_mem hk
        have hkc : cands[k]? = some cands[k] := Array.getElem?_eq_getElem hk
        cases hck : cands[k] with
        | none =>
          rw [hck] at hmem hkc
          have hemp : old.isEmpty = true := by
            rw [← hcr] at hmem
            cases hb : old.isEmpty with
            | true => rfl
            | false => simp [hb] at hmem
          refine ⟨_, List.mem_cons_self .., 0, fun b hb hlt => ?_, .tuple #[.bool false], w1, ρ, ?_, hE1, hH1, ⟨_, rfl, by simp [RelL, Rel]⟩⟩
          · rw [gb] at hb
            obtain ⟨y, hy, rfl⟩ := List.mem_map.1 hb
            refine Classical.byContradiction fun hno => ?_
            have : y ∈ old := (hold y).2 ⟨(hleft y).2 ⟨hy, hno⟩, hlt⟩
            have h0 : old = #[] := by simpa using hemp
            rw [h0] at this; simp at this
          · rw [hrun, hch]
            simp [hkc]
        | some ye =>
          rw [hck] at hmem hkc
          have hye : ye ∈ arr.toList ∧ ye.born ∉ seen := by
            rw [← hcr] at hmem
            have : ye ∈ old ∨ ye ∈ new := by
              cases hb : old.isEmpty with
              | true => simpa [hb] using hmem
              | false => simpa [hb] using hmem
            rcases this with h | h
            · exact (hleft ye).1 ((hold ye).1 h).1
            · exact (hleft ye).1 ((hnew ye).1 h).1
          obtain ⟨j, hj⟩ := List.getElem?_of_mem hye.1
          have hjl : j < rows.length := by rw [g4]; exact (List.getElem?_eq_some_iff.1 hj).1
          have hrj : rows[j]? = some rows[j] := List.getElem?_eq_getElem hjl
          have hbj : bornAt bs j = ye.born := by
            unfold bornAt
            rw [List.getD_eq_getElem?_getD, gb, List.getElem?_map, hj]; rfl
          have hrow : rows.getD j (kr.dflt, vr.dflt) = rows[j] := by rw [List.getD_eq_getElem?_getD, hrj]; rfl
          obtain ⟨d1, d2⟩ := g5 j _ ye hrj hj
          obtain ⟨k1, k2⟩ := obj_turn hH1 ho he hnb hB (.mapIter (some em.b) since (seen.toArray.push ye.born) clock) (o' := .smIter m since (seen ++ [bornAt bs j]) clock)
            (fun w' hw' => ⟨hnb, hs, hB, em, hem, by rw [hw', hbj]; simp⟩)
          refine ⟨_, List.mem_cons_of_mem _ (List.mem_singleton.2 rfl), j, ⟨hjl, by rw [hbj]; exact hye.2⟩, .tuple #[.bool true, ye.key, ye.val], _, ρ, ?_, hE1.trans k2, k1,
            ⟨_, rfl, ⟨.bool true, [ye.key, ye.val], rfl, by simp [Rel], ye.key, [ye.val], rfl, by unfold keyAt; rw [hrow]; exact d1.rel, ye.val, [], rfl, by unfold valAt; rw [hrow]; exact d2.rel, rfl⟩⟩⟩
          rw [hrun, hch]
          simp [hkc, run_setObj_any (P := P) (w := w1) (b := e.b) (O := .mapIter (some em.b) since seen.toArray stepped) (by intro c t f hh; cases hh) (by rw [h11]; exact h1)]
      · cases hc
    · cases hc
  · cases hc

theorem xEntry_sound (h : HR B ρ H w) {it v : AV} {x : Value} {p : Option Prop} (ha : Rel ρ it x) (hc : xEntry H it = some (p, v)) (hp : obOk p) : ∃ y, (Instr.entry x).run P w = .ok y w ∧ Rel ρ v y := by
  unfold xEntry at hc
  split at hc
  · rename_i r
    simp only [Rel] at ha
    obtain ⟨e, he, rfl⟩ := ha
    split at hc
    · rename_i m since seen stepped ho
      obtain ⟨hnb, hs, hB, em, hem, h1⟩ := h.at' ho he
      have hg := run_getObj_any (P := P) (by intro c t f hh; cases hh) h1
      split at hc
      · rename_i ka va kr vr rows bs clock hom
        cases hc
        obtain ⟨hclk, hne, hmem⟩ : clock = stepped ∧ seen ≠ [] ∧ lastT seen ∈ bs := hp
        subst hclk
        obtain ⟨hnbm, hBm, hndm, arr, hm1, ⟨s1, s2⟩, gb, g4, g5⟩ := smap_at h hom hem
        have hgm := run_getObj_map (P := P) hm1
        have hlast : seen.toArray.back? = some (lastT seen) := by
          rw [← lastN_eq]
          clear h1 hg ho
          unfold lastT
          have : ∀ l : List Nat, l ≠ [] → lastN l = some (l.getLastD 0) := by
            intro l
            induction l with
            | nil => intro h; exact (h rfl).elim
            | cons a l ih =>
              intro _
              cases l with
              | nil => rfl
              | cons b l =>
                have := ih (by simp)
                show lastN (b :: l) = _
                rw [this]; simp [List.getLastD]
          exact this seen hne
        have hj : bs.idxOf (lastT seen) < bs.length := List.idxOf_lt_length_of_mem hmem
        generalize hjj : bs.idxOf (lastT seen) = j at hj
        have hjb : bs[j]? = some (lastT seen) := by subst hjj; rw [List.getElem?_eq_getElem hj, List.getElem_idxOf hj]
        have hla : bs.length = arr.toList.length := by rw [gb, List.length_map]
        have hy : arr.toList[j]? = some (arr.toList[j]'(hla ▸ hj)) := List.getElem?_eq_getElem _
        generalize arr.toList[j]'(hla ▸ hj) = ye at hy
        have hborn : ye.born = lastT seen := by
          rw [gb, List.getElem?_map, hy] at hjb
          simpa using hjb
        have hfind : arr.find? (·.born == lastT seen) = some ye := by
          rw [← Array.find?_toList]
          have hyl := (List.getElem?_eq_some_iff.1 hy)
          obtain ⟨hyl, hye⟩ := hyl
          rw [List.find?_eq_some_iff_getElem]
          refine ⟨by simp [hborn], j, hyl, hye, fun i hi => ?_⟩
          have hi' : i < arr.toList.length := by omega
          simp only [Bool.not_eq_true', beq_eq_false_iff_ne]
          intro hb
          have e1 : (arr.toList.map (·.born))[i]? = some (lastT seen) := by rw [List.getElem?_map, List.getElem?_eq_getElem hi', Option.map_some, hb]
          have e2 : (arr.toList.map (·.born))[j]? = some (lastT seen) := by rw [List.getElem?_map, hy]; simp [hborn]
          have := (List.getElem?_inj (List.getElem?_eq_some_iff.1 e1).1 s1).1 (e1.trans e2.symm)
          omega
        have hrl : j < rows.length := by rw [g4, ← hla]; exact hj
        have hrj : rows[j]? = some rows[j] := List.getElem?_eq_getElem hrl
        have hrow : rows.getD j (kr.dflt, vr.dflt) = rows[j] := by rw [List.getD_eq_getElem?_getD, hrj]; rfl
        obtain ⟨d1, d2⟩ := g5 j _ ye hrj hy
        refine ⟨.tuple #[ye.key, ye.val], ?_, ⟨_, rfl, _, _, rfl, by unfold keyAt; rw [hrow]; exact d1.rel, _, _, rfl, by unfold valAt; rw [hrow]; exact d2.rel, rfl⟩⟩
        have hce : (clock != clock) = false := by simp
        simp only [Instr.entry, hs, Nat.zero_add, Sem.run_bind, hg, Result.andThen_ok, hlast, hgm, hce, Bool.false_eq_true, if_false, hfind, Sem.run_pure]
      · cases hc
    · cases hc
  · cases hc
end
end Go.AM
