/- THE ABSTRACT MACHINE, 13b6: operations on terms are sound: stores, conversions. -/
import Derived.Test.YtdeoahhofhmgfaaAmX5
set_option linter.unusedSimpArgs false
set_option linter.unusedVariables false
namespace Go.AM
open Go.RowKit
section
variable {B : Nat} {ρ : Env} {H : Heap} {w : World} {P : Program}

theorem RelL.spl {vs cs : List AV} {xs ys : List Value} (h : RelL ρ vs xs) (k : RelL ρ cs ys) (j : Nat) : RelL ρ (spl vs j cs) (xs.take j ++ ys ++ xs.drop (j + ys.length)) := by
  unfold Go.AM.spl
  rw [k.length]
  exact ((h.take j).append k).append (h.drop _)

theorem splV_get (xs ys : List Value) (j : Nat) (h : j + ys.length ≤ xs.length) (i : Nat) :
    (xs.take j ++ ys ++ xs.drop (j + ys.length))[i]? = if j ≤ i ∧ i < j + ys.length then ys[i - j]? else xs[i]? := by
  by_cases h1 : i < j
  · rw [if_neg (by omega), List.append_assoc, List.getElem?_append_left (by simp; omega), List.getElem?_take_of_lt h1]
  · by_cases h2 : i < j + ys.length
    · rw [if_pos (by omega), List.append_assoc, List.getElem?_append_right (by simp; omega), List.getElem?_append_left (by simp; omega)]
      congr 1; simp; omega
    · rw [if_neg (by omega), List.getElem?_append_right (by simp; omega), List.getElem?_drop]
      congr 1; simp; omega

theorem xStore_sound (h : HR B ρ H w) {t : TypeId} {p v : AV} {x y : Value} {H' : Heap} (hp : Rel ρ p x) (hv : Rel ρ v y) (hs : xStore P H t p v = some H') :
    ∃ w', (Instr.storeAt t x y).run P w = .ok () w' ∧ HR B ρ H' w' ∧ Ext B ρ w ρ w' := by
  unfold xStore at hs
  split at hs
  · rename_i i k j
    split at hs
    · rename_i r rows ty ho
      simp only [Option.bind_eq_some_iff] at hs
      obtain ⟨cs, hcs, inf, hi, hs⟩ := hs
      cases hb : (Nat.beq cs.length inf.size && Nat.ble (j + cs.length) r.size) with
      | false => rw [hb] at hs; cases hs
      | true =>
        rw [hb, cond_true] at hs
        simp only [Bool.and_eq_true] at hb
        have b1 := Nat.eq_of_beq_eq_true hb.1
        have b2 := Nat.le_of_ble_eq_true hb.2
        simp only [Option.map_eq_some_iff] at hs
        obtain ⟨row', hd, rfl⟩ := hs
        simp only [Rel] at hp
        obtain ⟨e, he, hn, hk, rfl⟩ := hp
        obtain ⟨h1, h2, h3⟩ := h.at' ho he
        rcases h3 with ⟨hn', _⟩ | ⟨_, arr, ty0, fz, h4, h5, h6, h7, h8, h9⟩
        · rw [hn] at hn'; cases hn'
        · have hkl : k < rows.length := by omega
          obtain ⟨ys, g1, g2⟩ := h6 k _ (rowAt_get hkl)
          have hyl := g2.length
          have hrl := cells_sound hcs hv
          have hxl : y.cells.toList.length = cs.length := hrl.length
          have hlast : e.sh + k * r.size + r.size ≤ arr.size := by
            have hpos := r.size_pos
            have := g1 (r.size - 1) _ (List.getElem?_eq_getElem (by omega))
            have := (Array.getElem?_eq_some_iff.1 this).1
            omega
          have hone : ∀ v ∈ y.cells.toList, v.oneCell' = true := by
            have hrd := RTy.dec_sound r hd (RelL.spl g2.rel hrl j)
            intro v hv'
            exact RTy.Rd.one r _ _ hrd v (by simp only [List.mem_append]; exact .inl (.inr hv'))
          obtain ⟨w', arr', r1, r2, r3, r4, r5, r6, r7, r8, r9⟩ := run_storeCells (P := P) e.b (e.sh + k * e.es + j) ty0 fz y.cells.toList 0 arr w h4 (by rw [h5]; exact h8) (by rw [h1]; omega) hone
          have hO : ORel ρ B w' e (.seq r (rows.set k row') ty) := by
            refine ⟨h1, by simp [h2], .inr ⟨hn, arr', ty0, fz, r2, r3.trans h5, fun q row hq => ?_, h7, h8, h9⟩⟩
            by_cases hqk : q = k
            · subst hqk
              rw [List.getElem?_set_self hkl] at hq
              cases hq
              refine ⟨_, fun m z hz => ?_, RTy.dec_sound r hd (RelL.spl g2.rel hrl j)⟩
              rw [splV_get _ _ _ (by omega)] at hz
              rw [r4, h1]
              by_cases hin : j ≤ m ∧ m < j + y.cells.toList.length
              · rw [if_pos hin] at hz
                rw [if_pos (by omega), show e.sh + q * r.size + m - (e.sh + q * r.size + j + 0) = m - j by omega]
                exact hz
              · rw [if_neg hin] at hz
                rw [if_neg (by omega)]
                exact g1 m z hz
            · rw [List.getElem?_set_ne (Ne.symm hqk)] at hq
              obtain ⟨ys', k1, k2⟩ := h6 q row hq
              refine ⟨ys', fun m z hz => ?_, k2⟩
              have hm : m < r.size := by rw [← k2.length]; exact (List.getElem?_eq_some_iff.1 hz).1
              have hdis : q * r.size + r.size ≤ k * r.size ∨ k * r.size + r.size ≤ q * r.size := by
                rcases Nat.lt_or_gt_of_ne hqk with hlt | hgt
                · have : (q + 1) * r.size ≤ k * r.size := Nat.mul_le_mul_right _ hlt
                  rw [Nat.add_mul] at this; omega
                · have : (k + 1) * r.size ≤ q * r.size := Nat.mul_le_mul_right _ hgt
                  rw [Nat.add_mul] at this; omega
              rw [r4, h1, if_neg (by omega)]
              exact k1 m z hz
          refine ⟨w', ?_, h.turn ho he hn h7 _ r5 r6 hO, Ext.turn (Env.blk_of he hn) h7 r5 r6 r7 r8 r9⟩
          have hsz : y.cells.size = inf.size := by have := hxl; simp at this; omega
          simp [Instr.storeAt, Instr.sureAddr, storeVar, sizeOf_run hi, hsz, r1]
    · cases hs
  · cases hs

theorem Cells.bytes {rows : List u8r.den} {cs : List Value} (h : Cells ρ u8r rows cs) : cs = List.map (fun n : Int => Value.int .u8 n) rows := by
  have hl : cs.length = rows.length := by have := h.len; simpa [show u8r.size = 1 from rfl] using this
  apply List.ext_getElem?
  intro k
  by_cases hk : k < rows.length
  · have := h.row k _ (List.getElem?_eq_getElem hk)
    rw [show u8r.size = 1 from rfl, Nat.mul_one] at this
    simp only [u8r, RTy.Rd, CTy.Rd] at this
    obtain ⟨y, hy, hy2, _⟩ := this
    have h0 : ((cs.drop k).take 1)[0]? = some y := by rw [hy]; rfl
    rw [List.getElem?_take_of_lt (by omega), List.getElem?_drop, Nat.add_zero] at h0
    rw [h0, hy2]
    have e : (List.map (fun n : Int => Value.int .u8 n) rows)[k]? = (rows[k]?).map (fun n : Int => Value.int .u8 n) := List.getElem?_map
    rw [e, List.getElem?_eq_getElem hk]; rfl
  · have e : (List.map (fun n : Int => Value.int .u8 n) rows).length = rows.length := List.length_map _
    rw [List.getElem?_eq_none (by omega), List.getElem?_eq_none (by omega)]

theorem bytes_string {src dst e : TypeId} (hs : P.underlying src = some (.slice e)) (hue : P.underlying e = some (.int .u8)) (hd : P.underlying dst = some .string) {base : Option Addr} {c : Nat} {rows : List u8r.den} (so : SrcOk ρ P w u8r rows 1 (.slice base rows.length c)) :
    (convert src dst (.slice base rows.length c)).run P w = .ok (.string ⟨(ofBytesD rows).toArray⟩) w := by
  obtain ⟨cs, h1, h2⟩ := so.cells
  have hcs := h1.bytes
  subst hcs
  rw [run_convert_bytes_string w src dst e _ _ _ hs hue hd]
  cases base with
  | none =>
    have : rows = [] := by
      simp only [Builtin.firstCells, Sem.run_pure] at h2
      have h3 : (#[] : Array Value) = (List.map (fun n : Int => Value.int .u8 n) rows).toArray := by injection h2
      have h4 := congrArg Array.size h3
      have h5 : (List.map (fun n : Int => Value.int .u8 n) rows).length = rows.length := List.length_map _
      simp only [List.size_toArray, h5] at h4
      exact List.length_eq_zero_iff.1 h4.symm
    subst this
    simp [Conv.bytesToString, ofBytesD]
    rfl
  | some a =>
    have h2' : (loadCells a rows.length).run P w = .ok (List.map (fun n : Int => Value.int .u8 n) rows).toArray w := by
      have := h2
      simp only [Builtin.firstCells, Nat.mul_one] at this
      exact this
    have key : ∀ ns : List Int, (loadCells a rows.length).run P w = .ok (List.map (fun n : Int => Value.int .u8 n) ns).toArray w → (Conv.bytesToString (.slice (some a) rows.length c)).run P w = .ok (.string ⟨(ofBytesD ns).toArray⟩) w := fun ns hns => by
      rw [run_bytesToString w a _ c ns hns, foldl_push]
      simp [ofBytesD]
    exact key rows h2'

theorem ofBytesD_length (l : List Int) : (ofBytesD l).length = l.length := by simp [ofBytesD]

theorem HR.congr {H' : Heap} (h : HR B ρ H w) (hg : ∀ i, H'.get i = H.get i) (hn : H'.next = H.next) : HR B ρ H' w :=
  ⟨hn.trans h.next, h.base, h.bnd, fun i o hi => h.obj i o (by rw [← hg]; exact hi), fun i j o o' e e' hi hj => h.inj i j o o' e e' (by rw [← hg]; exact hi) (by rw [← hg]; exact hj), h.fz, fun i o e c hi => h.fzo i o e c (by rw [← hg]; exact hi)⟩

theorem xConv_sound (h : HR B ρ H w) {src dst : TypeId} {a : AV} {x : Value} {p : Option Prop} {r : AV × Heap} (ha : Rel ρ a x) (hc : xConv P H src dst a = some (p, r)) (hp : obOk p) : SV B P ρ w (convert src dst x) r.1 r.2 := by
  unfold xConv at hc
  simp only [Option.bind_eq_some_iff] at hc
  obtain ⟨us, hs, ud, hd, hc⟩ := hc
  split at hc
  · rename_i k1 k2 n1
    cases hc
    simp only [Rel] at ha; obtain ⟨rfl, _⟩ := ha
    exact SV.same h ⟨.int k1 (k1.wrap n1), by simp [convert, run_underlying hs, run_underlying hd, Conv.intToInt], by simp only [Rel]; exact ⟨trivial, wrap_has _ _⟩⟩
  · rename_i s1
    cases hc
    simp only [Rel] at ha; obtain ⟨rfl, hl⟩ := ha
    refine SV.same h ⟨.string ⟨s1.toArray⟩, ?_, by simp only [Rel]; exact ⟨trivial, hl⟩⟩
    simp only [convert, Sem.run_bind, run_underlying hs, run_underlying hd, Result.andThen_ok]
    cases us <;> rfl
  · rename_i us' e s
    simp only [Option.bind_eq_some_iff] at hc
    obtain ⟨ue, hue, hc⟩ := hc
    split at hc
    · cases hc
      simp only [Rel] at ha; obtain ⟨rfl, hsl⟩ := ha
      have hsz : (⟨s.toArray⟩ : ByteArray).size = s.length := by simp [ByteArray.size]
      have hcap : ∀ t, (Question.appendCap s.length 0 e).cut t ≥ s.length := fun t => by simp [Question.cut]
      generalize hq : (Question.appendCap s.length 0 e).cut (w.tape w.drawn (.appendCap s.length 0 e)) = cap at *
      have hge : s.length ≤ cap := by rw [← hq]; exact hcap _
      let arr : Array Value := (s.toArray.map fun b => Value.int .u8 b.toNat) ++ Array.replicate (cap - s.length) (.int .u8 0)
      have harr : arr.size = cap := by simp [arr]; omega
      let w1 : World := { w with drawn := w.drawn + 1 }
      let w2 : World := w1.alloc (.cells arr e)
      let w3 : World := w2.freeze { block := w.heap.size, off := cap } 1
      have hrun : (convert src dst (.string ⟨s.toArray⟩)).run P w = .ok (.slice (some ⟨w.heap.size, 0, none⟩) s.length cap) w3 := by
        have h1 : (convert src dst (.string ⟨s.toArray⟩)).run P w = (Conv.stringToBytes e ⟨s.toArray⟩).run P w := by
          simp only [convert, Sem.run_bind, run_underlying hs, run_underlying hd, Result.andThen_ok]
          cases us <;> simp [run_underlying hue]
        rw [h1]
        have hfor : (Question.appendCap s.length 0 e).forced = false := rfl
        have hshape : w2.shape? w.heap.size = some (e, cap) := by
          have := heap_alloc_new w1 (.cells arr e)
          simp only [World.shape?]
          rw [show w2.heap[w.heap.size]? = some (.cells arr e) from this]
          simp [harr]
        simp only [Conv.stringToBytes, Sem.run_bind, run_choose, hsz, hfor, Bool.false_eq_true, if_false, Result.andThen_ok, hq]
        simp only [newRow, Sem.run_bind, run_newObj, Result.andThen_ok, Sem.run_pure, markStringish, run_shape]
        rw [show ({ heap := (({ heap := w.heap, tape := w.tape, drawn := w.drawn + 1, os := w.os, output := w.output } : World)).heap.push (Obj.cells ((({ data := s.toArray } : ByteArray).data.map fun b => Value.int .u8 b.toNat) ++ Array.replicate (cap - s.length) (.int .u8 0)) e), tape := w.tape, drawn := w.drawn + 1, os := w.os, output := w.output } : World) = w2 from rfl]
        simp only [hshape, run_freeze, Result.andThen_ok]
        rfl
      have hh1 : HR B ρ H w1 := h.heap rfl
      have hfz : w3.heap[w.heap.size]? = some (.cells arr e (cap, cap + 1)) := by
        show (World.freeze w2 _ 1).heap[w.heap.size]? = _
        simp only [World.freeze]
        rw [if_neg (by omega)]
        rw [Array.getElem?_modify]
        rw [if_pos rfl, show w2.heap[w.heap.size]? = some (.cells arr e) from heap_alloc_new w1 _]
        simp
      have hoth : ∀ k, k ≠ w.heap.size → w3.heap[k]? = w2.heap[k]? := fun k hk => by
        show (World.freeze w2 _ 1).heap[k]? = _
        simp only [World.freeze]
        rw [if_neg (by omega), Array.getElem?_modify, if_neg (Ne.symm hk)]
      have hsz3 : w3.heap.size = w2.heap.size := by
        show (World.freeze w2 _ 1).heap.size = _
        simp only [World.freeze]
        rw [if_neg (by omega)]; simp
      let e0 : At := ⟨w.heap.size, 0, cap, 1, s.length, false⟩
      have hobj : ∀ w', ∀ fz : Nat × Nat, (fz = (0, 0) ∨ fz = (cap, cap + 1)) → w'.heap[w.heap.size]? = some (.cells arr e fz) → ORel (ρ.add e0) B w' e0 (.seq u8r (bytesR s) none) := by
        intro w' fz hfz' hw'
        refine ⟨rfl, length_bytesR s, .inr ⟨rfl, arr, e, fz, hw', harr, fun k row hk => ?_, h.base, fun j hj => ?_, fun t ht => by cases ht⟩⟩
        · obtain ⟨c, hc, rfl⟩ := get_bytesR hk
          refine ⟨_, fun j y hy => ?_, byte_rd c⟩
          have hkl : k < s.length := (List.getElem?_eq_some_iff.1 hc).1
          have hj : j = 0 := by have := (List.getElem?_eq_some_iff.1 hy).1; simp at this; exact this
          subst hj
          simp only [List.getElem?_cons_zero, Option.some.injEq] at hy
          subst hy
          rw [show e0.sh + k * u8r.size + 0 = k by simp [e0, show u8r.size = 1 from rfl]]
          simp only [arr]
          rw [Array.getElem?_append_left (by simp; omega)]
          simp [hc]
        · rcases hfz' with rfl | rfl
          · simp
          · simp [e0] at hj ⊢; omega
      have hh2 : HR B (ρ.add e0) (H.alloc (.seq u8r (bytesR s) none)) w2 := hh1.alloc _ (.cells arr e) e0 rfl (hobj _ (0, 0) (.inl rfl) (heap_alloc_new w1 _))
      have hget : (H.alloc (.seq u8r (bytesR s) none)).get H.next = some (.seq u8r (bytesR s) none) := by rw [Heap.get_alloc]; simp
      have hnx : (ρ.add e0).ats[H.next]? = some e0 := by rw [h.next]; simp
      have hh3 : HR B (ρ.add e0) ((H.alloc (.seq u8r (bytesR s) none)).set H.next (.seq u8r (bytesR s) none)) w3 :=
        hh2.turn hget hnx rfl h.base _ hsz3 hoth (hobj _ _ (.inr rfl) hfz)
      have hh4 : HR B (ρ.add e0) (H.alloc (.seq u8r (bytesR s) none)) w3 := hh3.congr (fun i => by
        rw [Heap.get_set]
        by_cases hin : i = H.next
        · subst hin; rw [hget]; simp
        · simp [hin]) rfl
      have he1 : Ext B ρ w ρ w1 := Ext.heap rfl rfl rfl rfl
      have he2 : Ext B ρ w1 (ρ.add e0) w2 := Ext.alloc _ _ h.base rfl
      have he3 : Ext B (ρ.add e0) w2 (ρ.add e0) w3 := by
        refine Ext.turn (e := e0) (Env.blk_of hnx rfl) h.base hsz3 hoth ?_ ?_ ?_
        · show (World.freeze w2 _ 1).os = _; simp only [World.freeze]; rw [if_neg (by omega)]
        · show (World.freeze w2 _ 1).tape = _; simp only [World.freeze]; rw [if_neg (by omega)]
        · show (World.freeze w2 _ 1).output = _; simp only [World.freeze]; rw [if_neg (by omega)]
      refine ⟨_, w3, _, hrun, (he1.trans he2).trans he3, hh4, ?_⟩
      simp only [Rel]
      exact ⟨e0, _, cap, hnx, rfl, hge, hsl, .inr (.inr ⟨rfl, rfl, by simp [e0]⟩)⟩
    · cases hc
  · rename_i e hns
    simp only [Option.bind_eq_some_iff] at hc
    obtain ⟨ue, hue, hc⟩ := hc
    have fin : ∀ {l : List u8r.den}, srcRows H u8r 1 a = some l → (∀ base n c, Rel ρ a (.slice base n c) → n ≤ maxI) → SV B P ρ w (convert src dst x) (.sS (ofBytesD l)) H := fun {l} hl hm => by
      obtain ⟨base, c, hx, so⟩ := srcRows_sound (P := P) h rfl hl ha
      subst hx
      refine SV.same h ⟨_, bytes_string hs ?_ hd so, ?_⟩
      · revert hc
        split <;> intro hc <;> first
          | exact hue
          | cases hc
      · simp only [Rel]
        refine ⟨trivial, ?_⟩
        have e : (ofBytesD l).length = List.length (α := Int) l := ofBytesD_length l
        exact Nat.le_trans (Nat.le_of_eq e) (hm _ _ _ ha)
    split at hc
    · obtain ⟨l, hl, hc⟩ := Option.map_eq_some_iff.1 hc
      cases hc
      refine fin hl fun base n c hr => ?_
      simp only [Rel, CTy.Rd] at hr
      obtain ⟨b, cap, hx, _, hm, _⟩ := hr
      injection hx with _ e2 _; omega
    · obtain ⟨l, hl, hc⟩ := Option.map_eq_some_iff.1 hc
      cases hc
      refine fin hl fun base n c hr => ?_
      simp only [Rel] at hr
      obtain ⟨e, b, cap, _, hx, _, hm, _⟩ := hr
      injection hx with _ e2 _; omega
    · obtain ⟨l, hl, hc⟩ := Option.map_eq_some_iff.1 hc
      cases hc
      refine fin hl fun base n c hr => ?_
      simp only [Rel] at hr
      obtain ⟨e, b, cap, _, hx, _, hm, _⟩ := hr
      injection hx with _ e2 _; omega
    · cases hc
  · cases hc

theorem xMakeSlice_sound (h : HR B ρ H w) {t : TypeId} {l c : AV} {x y : Value} {p : Option Prop} {r : AV × Heap} (hl : Rel ρ l x) (hcp : Rel ρ c y)
    (hb : xMakeSlice P H t l c = some (p, r)) (hp : obOk p) : SV B P ρ w (Instr.makeSlice t x y) r.1 r.2 := by
  unfold xMakeSlice at hb
  simp only [Option.bind_eq_some_iff] at hb
  obtain ⟨d, hu, hb⟩ := hb
  split at hb
  · rename_i e
    simp only [Option.bind_eq_some_iff] at hb
    obtain ⟨ie, hi, zv, ⟨z, hz, hc⟩, zs, hcs, rk, hk, zd, hd, ⟨k1, n1⟩, hl1, ⟨k2, n2⟩, hc1, hb⟩ := hb
    cases hg : (Nat.beq zs.length ie.size && Nat.beq rk.size ie.size) with
    | false => rw [hg] at hb; cases hb
    | true =>
      rw [hg, cond_true] at hb
      cases hb
      simp only [Bool.and_eq_true] at hg
      have g4 := Nat.eq_of_beq_eq_true hg.1
      have g5 := Nat.eq_of_beq_eq_true hg.2
      obtain ⟨rfl, _⟩ := asX_sound hl1 hl
      obtain ⟨rfl, _⟩ := asX_sound hc1 hcp
      obtain ⟨p1, p2, p3, p4⟩ : 0 ≤ n1 ∧ n1 = n2 ∧ n1 * ie.bytes ≤ 140737488355328 ∧ n1 ≤ 4611686018427387904 := hp
      subst p2
      obtain ⟨n, rfl⟩ : ∃ n : Nat, n1 = n := ⟨n1.toNat, by omega⟩
      have q3 : ie.bytes * n ≤ 281474976710656 := by rw [Nat.mul_comm]; omega
      have hzr := cells_sound hcs (conv_rel hc ρ)
      have hzl : z.cells.size = rk.size := by have := hzr.length; simp at this; omega
      have hzd := RTy.dec_sound rk hd hzr
      let xs : Array Value := (Array.range (n * ie.size)).map (fun i => z.cells[i % z.cells.size]!)
      let e0 : At := ⟨w.heap.size, 0, xs.size, rk.size, n, false⟩
      have hh2 : HR B (ρ.add e0) (H.alloc (.seq rk (List.replicate n zd) none)) (w.alloc (.cells xs e)) := by
        refine h.alloc _ _ e0 rfl ⟨rfl, by simp [e0], .inr ⟨rfl, xs, e, (0, 0), heap_alloc_new w _, rfl, fun k row hk => ?_, h.base, fun j _ => by simp, fun t ht => by cases ht⟩⟩
        have hkn : k < n := by have := (List.getElem?_eq_some_iff.1 hk).1; simpa using this
        rw [List.getElem?_replicate, if_pos hkn] at hk
        cases hk
        refine ⟨z.cells.toList, fun j y hy => ?_, hzd⟩
        have hj : j < rk.size := by rw [← hzl]; have := (List.getElem?_eq_some_iff.1 hy).1; simpa using this
        have hm : k * rk.size + rk.size ≤ n * rk.size := by
          have : (k + 1) * rk.size ≤ n * rk.size := Nat.mul_le_mul_right _ hkn
          rw [Nat.add_mul] at this; omega
        have hmod : (k * rk.size + j) % z.cells.size = j := by
          rw [hzl, Nat.mul_comm, Nat.mul_add_mod, Nat.mod_eq_of_lt hj]
        rw [show e0.sh + k * rk.size + j = k * rk.size + j by simp [e0]]
        simp only [xs, Array.getElem?_map]
        rw [Array.getElem?_range, if_pos (by rw [← g5]; omega)]
        simp only [Option.map_some, hmod]
        have hy' : z.cells[j]? = some y := by simpa using hy
        rw [getElem!_def, hy']
      refine ⟨.slice (some ⟨w.heap.size, 0, none⟩) n n, w.alloc (.cells xs e), ρ.add e0, ?_, Ext.alloc (.cells xs e) e0 h.base rfl, hh2, ?_⟩
      · have := run_makeSlice' (P := P) (w := w) hu hi hz (k1 := k1) (k2 := k2) (Nat.le_refl n) (by omega) q3
        simp only [Int.ofNat_eq_natCast] at this
        rw [this]
        simp [newRow, xs]
      · simp only [Rel]
        refine ⟨e0, _, n, by rw [h.next]; simp, rfl, Nat.le_refl _, by unfold maxI; simp only [e0]; omega, .inr (.inr ⟨rfl, rfl, ?_⟩)⟩
        simp [e0, xs, g5]
  · cases hb
end
end Go.AM
