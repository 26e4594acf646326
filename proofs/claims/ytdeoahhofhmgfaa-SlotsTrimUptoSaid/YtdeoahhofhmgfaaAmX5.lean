/- THE ABSTRACT MACHINE, 13b5: operations on terms are sound: append. -/
import Derived.Test.YtdeoahhofhmgfaaAmX4
set_option linter.unusedSimpArgs false
set_option linter.unusedVariables false
namespace Go.AM
open Go.RowKit
section
variable {B : Nat} {ρ : Env} {H : Heap} {w : World} {P : Program}

theorem HR.killO (h : HR B ρ H w) (i : Option Nat) : HR B ρ (killO H i) w := by
  cases i with
  | none => exact h
  | some i => exact h.kill i

theorem next_killO (H : Heap) (i : Option Nat) : (killO H i).next = H.next := by cases i <;> rfl

/-- An empty sequence without a block. -/
theorem HR.void (h : HR B ρ H w) (r : RTy) : HR B (ρ.add ⟨0, 0, 0, r.size, 0, true⟩) (H.alloc (.seq r [] none)) w := by
  have hlt : ∀ i o, H.get i = some o → i ≠ H.next := fun i o hi e => by have := h.old hi; omega
  refine ⟨by simp [h.next], h.base, fun b hb => ?_, fun i o hi => ?_, fun i j o1 o2 e1 e2 hi hj h1 h2 hn1 hn2 hb12 hne => ?_, h.fz, fun i o e c hi he hn hc => ?_⟩
  · rcases Env.blk_add.1 hb with g | g
    · exact h.bnd b g
    · cases g.1
  · rw [Heap.get_alloc] at hi
    by_cases hn : i = H.next
    · simp only [hn, if_true] at hi; cases hi
      exact ⟨⟨0, 0, 0, r.size, 0, true⟩, by rw [hn, h.next]; simp, rfl, rfl, .inl ⟨rfl, rfl⟩⟩
    · simp only [hn, if_false] at hi
      obtain ⟨e, he, ho⟩ := h.obj i o hi
      exact ⟨e, pre_get (Env.le_add _ _).ats he, ho.mono (Env.le_add _ _) fun _ => rfl⟩
  · have old : ∀ i o e, (H.alloc (.seq r [] none)).get i = some o → (ρ.add ⟨0, 0, 0, r.size, 0, true⟩).ats[i]? = some e → e.nb = false → H.get i = some o ∧ ρ.ats[i]? = some e := fun i o e hi he hn => by
      rw [Heap.get_alloc] at hi
      by_cases hin : i = H.next
      · rw [hin, h.next] at he; simp at he; subst he; cases hn
      · simp only [hin, if_false] at hi
        have := h.old hi
        rw [Env.add_ats, List.getElem?_append_left (by rw [← h.next]; exact this)] at he
        exact ⟨hi, he⟩
    obtain ⟨a1, a2⟩ := old i o1 e1 hi h1 hn1
    obtain ⟨b1, b2⟩ := old j o2 e2 hj h2 hn2
    exact h.inj i j o1 o2 e1 e2 a1 b1 a2 b2 hn1 hn2 hb12 hne
  · rw [Heap.get_alloc] at hi
    by_cases hin : i = H.next
    · rw [hin, h.next] at he; simp at he; subst he; cases hn
    · simp only [hin, if_false] at hi
      have := h.old hi
      rw [Env.add_ats, List.getElem?_append_left (by rw [← h.next]; exact this)] at he
      exact h.fzo i o e c hi he hn hc

theorem Ext.void (B : Nat) (ρ : Env) (w : World) (e : At) (hn : e.nb = true) : Ext B ρ w (ρ.add e) w :=
  ⟨Env.le_add _ _, rfl, rfl, rfl, Nat.le_refl _, fun _ _ => rfl, fun _ _ _ => rfl, fun b hb => (Env.blk_add.1 hb).elim Or.inl (fun h => by rw [hn] at h; cases h.1), fun _ _ h => .inl h⟩

theorem length_bytesR (b : List UInt8) : (bytesR b).length = b.length := by
  show (bytesD b).length = _
  simp [bytesD]

theorem get_bytesR {b : List UInt8} {k : Nat} {row : u8r.den} (h : (bytesR b)[k]? = some row) : ∃ c, b[k]? = some c ∧ row = ((c.toNat : Nat) : Int) := by
  have h : (bytesD b)[k]? = some row := h
  have h' : (b[k]?).map (fun c => ((c.toNat : Nat) : Int)) = some row := by simpa [bytesD] using h
  obtain ⟨c, hc, h2⟩ := Option.map_eq_some_iff.1 h'
  exact ⟨c, hc, h2.symm⟩

theorem byte_rd {σ : Nat → Option (Array Value)} (c : UInt8) : RTy.Rd σ u8r (((c.toNat : Nat) : Int)) [.int .u8 (c.toNat : Int)] := by
  simp only [u8r, RTy.Rd, CTy.Rd]
  refine ⟨_, rfl, rfl, ?_⟩
  have := c.toNat_lt
  simp only [IntKind.has, IntKind.min, IntKind.max, IntKind.bits, IntKind.signed]
  simp; omega

theorem bytes_src {b : List UInt8} (ρ : Env) : SrcOk ρ P w u8r (bytesR b) 1 (.string ⟨b.toArray⟩) := by
  have hsz : (⟨b.toArray⟩ : ByteArray).size = b.length := by simp [ByteArray.size]
  have hf : ∀ (n : Nat), n = b.length → ∀ w : World, (Builtin.firstCells 1 n (.string ⟨b.toArray⟩)).run P w = .ok (b.map fun c => Value.int .u8 (c.toNat : Int)).toArray w := fun n hn w => by
    subst hn
    simp only [Builtin.firstCells, Sem.run_pure]
    congr 1
    rw [ByteArray.data_extract]
    apply Array.ext'
    simp
  have hl := length_bytesR b
  refine ⟨?_, ⟨(b.map fun c => Value.int .u8 (c.toNat : Int)), ⟨?_, fun k row hk => ?_⟩, hf _ hl w⟩, fun w' hw cs hcs => ?_⟩
  · simp only [Builtin.lenOf, Sem.run_pure, hsz]
    exact congrArg (fun n => Result.ok n w) hl.symm
  · simp only [List.length_map]
    show b.length = (bytesR b).length * 1
    rw [hl, Nat.mul_one]
  · obtain ⟨c, hc, rfl⟩ := get_bytesR hk
    have hget : ((b.map fun c => Value.int .u8 (c.toNat : Int)).drop (k * u8r.size)).take u8r.size = [.int .u8 (c.toNat : Int)] := by
      show ((b.map fun c => Value.int .u8 (c.toNat : Int)).drop (k * 1)).take 1 = _
      rw [Nat.mul_one, ← List.map_drop, ← List.map_take]
      have : (b.drop k).take 1 = [c] := by
        rw [List.take_one, List.head?_drop, hc]; rfl
      rw [this]; rfl
    rw [hget]
    exact byte_rd c
  · have h1 := hf _ hl w
    rw [h1] at hcs; cases hcs
    exact hf _ hl w'

theorem newRows_sound (h : HR B ρ H w) {r : RTy} {es : Nat} {x : AV} {rows : List r.den} (hes : es = r.size) (hc : newRows H r es x = some rows) {y : Value} (hx : Rel ρ x y) : SrcOk ρ P w r rows es y := by
  unfold newRows at hc
  split at hc
  · rename_i b
    split at hc
    · rename_i hs
      have e := RTy.same_eq hs
      subst e
      rw [castRows_rfl] at hc
      cases hc
      simp only [Rel] at hx
      obtain ⟨rfl, hl⟩ := hx
      subst hes
      exact bytes_src ρ
    · cases hc
  · obtain ⟨base, c, _, h2⟩ := srcRows_sound (P := P) h hes hc hx
    exact h2

theorem RTy.Rd.one {σ : Nat → Option (Array Value)} (r : RTy) : ∀ (d : r.den) (ys : List Value), RTy.Rd σ r d ys → ∀ y ∈ ys, y.oneCell' = true := by
  have cell : ∀ (c : CTy) (d : c.den) (x : Value), CTy.Rd σ c d x → x.oneCell' = true := fun c d x h => by
    cases c <;> simp only [CTy.Rd] at h
    · obtain ⟨rfl, _⟩ := h; rfl
    · subst h; rfl
    · obtain ⟨rfl, _⟩ := h; rfl
    · obtain ⟨_, _, rfl, _⟩ := h; rfl
  refine RTy.rec (motive_1 := fun _ => True) (motive_2 := fun r => ∀ (d : r.den) (ys : List Value), RTy.Rd σ r d ys → ∀ y ∈ ys, y.oneCell' = true) (fun _ => trivial) trivial trivial (fun _ _ => trivial) ?_ ?_ r
  · intro c _ d ys h y hy
    simp only [RTy.Rd] at h
    obtain ⟨x, rfl, h⟩ := h
    rw [List.mem_singleton] at hy; subst hy
    exact cell c d _ h
  · intro c r _ ih d ys h y hy
    simp only [RTy.Rd] at h
    obtain ⟨x, xs, rfl, h1, h2⟩ := h
    rcases List.mem_cons.1 hy with rfl | hy
    · exact cell c _ _ h1
    · exact ih _ xs h2 y hy

theorem Cells.one {r : RTy} {rows : List r.den} {cs : List Value} (h : Cells ρ r rows cs) : ∀ v ∈ cs, v.oneCell' = true := fun v hv => by
  obtain ⟨j, hj, rfl⟩ := List.getElem_of_mem hv
  have hpos := r.size_pos
  rw [h.len] at hj
  have h1 : j / r.size < rows.length := (Nat.div_lt_iff_lt_mul hpos).2 hj
  have h2 : j % r.size < r.size := Nat.mod_lt _ hpos
  have h3 : j = j / r.size * r.size + j % r.size := by rw [Nat.mul_comm]; exact (Nat.div_add_mod j r.size).symm
  have hr := h.row (j / r.size) _ (List.getElem?_eq_getElem h1)
  refine RTy.Rd.one r _ _ hr _ ?_
  refine List.mem_of_getElem? (i := j % r.size) ?_
  rw [List.getElem?_take_of_lt h2, List.getElem?_drop, ← h3]
  exact List.getElem?_eq_getElem _

/-- Where what is appended to lies. -/
def InPlace (B : Nat) (ρ : Env) (H : Heap) (w : World) (r : RTy) (s : AV) (old : List r.den) (base : Option Addr) (c : Nat) : Prop :=
  ∃ (i : Nat) (o : AObj) (a : At) (S : Nat) (arr : Array Value) (ty : TypeId) (fz : Nat × Nat), dstId s = some i ∧ H.get i = some o ∧ ρ.ats[i]? = some a ∧ a.nb = false ∧ B ≤ a.b ∧ base = some ⟨a.b, S, none⟩ ∧ S + c * r.size ≤ a.n ∧
    w.heap[a.b]? = some (.cells arr ty fz) ∧ arr.size = a.n ∧ unfrozen fz a.n ∧
    ∀ (k : Nat) (row : r.den), old[k]? = some row → ∃ ys, (∀ (j : Nat) (y : Value), ys[j]? = some y → arr[S + k * r.size + j]? = some y) ∧ RTy.Rd ρ.fz r row ys

theorem dst_place (h : HR B ρ H w) {r : RTy} {es : Nat} {s : AV} {old : List r.den} (hes : es = r.size) (hd : dstOk es H s = true) (hc : srcRows H r es s = some old) {base : Option Addr} {c : Nat} (hs : Rel ρ s (.slice base old.length c)) :
    old.length ≤ c ∧ ((c = 0 ∧ ∀ a, base = some a → a.spot = none) ∨ InPlace B ρ H w r s old base c) := by
  subst hes
  have seq : ∀ {i lo len : Nat} {rows' : List r.den} {ty : Option TypeId} {a : At} {base : Option Addr} {c : Nat}, dstId s = some i → H.get i = some (.seq r rows' ty) → ρ.ats[i]? = some a → len ≤ c → lo + len ≤ a.len → old = (rows'.drop lo).take len →
      ((base = none ∧ c = 0) ∨ (∃ a, base = some a ∧ a.spot = none ∧ c = 0) ∨ (a.nb = false ∧ base = some ⟨a.b, a.sh + lo * a.es, none⟩ ∧ a.sh + lo * a.es + c * a.es ≤ a.n)) → (c = 0 ∧ ∀ a, base = some a → a.spot = none) ∨ InPlace B ρ H w r s old base c := by
    intro i lo len rows' ty a base c hid ho ha hlc hll hold hb
    rcases hb with ⟨hb0, h0⟩ | ⟨b, hb0, hsp, h0⟩ | ⟨hnb, rfl, hn⟩
    · exact .inl ⟨h0, fun a' ha' => by rw [hb0] at ha'; cases ha'⟩
    · exact .inl ⟨h0, fun a' ha' => by rw [hb0] at ha'; cases ha'; exact hsp⟩
    · obtain ⟨h1, h2, h3⟩ := h.at' ho ha
      rcases h3 with ⟨hnb', _⟩ | ⟨_, arr, ty0, fz, h4, h5, h6, h7, h8, _⟩
      · rw [hnb] at hnb'; cases hnb'
      · refine .inr ⟨i, _, a, a.sh + lo * a.es, arr, ty0, fz, hid, ho, ha, hnb, h7, rfl, by rw [h1] at hn ⊢; exact hn, h4, h5, h8, fun k row hk => ?_⟩
        subst hold
        have hkl : k < len := by have := (List.getElem?_eq_some_iff.1 hk).1; simp at this; omega
        rw [List.getElem?_take_of_lt hkl, List.getElem?_drop] at hk
        obtain ⟨ys, g1, g2⟩ := h6 _ row hk
        refine ⟨ys, fun j y hy => ?_, g2⟩
        have := g1 j y hy
        have e : (lo + k) * r.size = lo * r.size + k * r.size := Nat.add_mul ..
        rw [h1, show a.sh + lo * r.size + k * r.size + j = a.sh + (lo + k) * r.size + j by rw [e]; omega]
        exact this
  cases s <;> simp only [dstOk, Bool.false_eq_true] at hd
  case nilSlc =>
    simp only [Rel] at hs
    injection hs with e1 e2 e3
    subst e1; subst e3
    exact ⟨by omega, .inl ⟨rfl, fun a ha => by cases ha⟩⟩
  case sw i =>
    unfold srcRows at hc
    simp only [Option.bind_eq_some_iff] at hc
    obtain ⟨o, ho, hc⟩ := hc
    unfold rowsAs at hc
    split at hc
    · rename_i r' rows' ty
      split at hc
      · rename_i hs'
        have e := RTy.same_eq hs'
        subst e
        rw [castRows_rfl] at hc
        cases hc
        simp only [Rel] at hs
        obtain ⟨a, base', c', ha, hx, k1, k2, k3⟩ := hs
        injection hx with e1 e2 e3
        subst e1; subst e3
        obtain ⟨h1, h2, _⟩ := h.at' ho ha
        refine ⟨by omega, seq (lo := 0) (len := a.len) rfl ho ha k1 (by omega) ?_ (by simpa using k3)⟩
        rw [List.drop_zero, ← h2, List.take_length]
      · cases hc
    · cases hc
  case ss i lo len =>
    unfold srcRows at hc
    simp only [Option.map_eq_some_iff, Option.bind_eq_some_iff] at hc
    obtain ⟨rows', ⟨o, ho, hc⟩, hrr⟩ := hc
    unfold rowsAs at hc
    split at hc
    · rename_i r' rows'' ty
      split at hc
      · rename_i hs'
        have e := RTy.same_eq hs'
        subst e
        rw [castRows_rfl] at hc
        cases hc
        simp only [Rel] at hs
        obtain ⟨a, base', c', ha, hx, k1, k2, kk, k3⟩ := hs
        cases hx
        exact ⟨k1, seq rfl ho ha k1 kk hrr.symm k3⟩
      · cases hc
    · cases hc
  case slc i off len cap ex =>
    cases ex with
    | true =>
      have : len = 0 ∧ cap = 0 := by
        revert hd
        split <;> intro hd
        all_goals first
          | (cases hd; done)
          | (rename_i e; cases e; done)
          | skip
        all_goals first
          | (rename_i e; injection e with e1 e2 e3 e4 e5; exact ⟨e3, e4⟩)
          | exact ⟨rfl, rfl⟩
      obtain ⟨rfl, rfl⟩ := this
      simp only [Rel] at hs
      obtain ⟨a, c', ha, hx, k1, k2, k3, k4⟩ := hs
      injection hx with e1 e2 e3
      subst e1; subst e3
      have := k3 trivial
      exact ⟨by omega, .inl ⟨this, fun a' ha' => by cases ha'; rfl⟩⟩
    | false =>
      simp only [Bool.and_eq_true] at hd
      obtain ⟨hd1, hd2⟩ := hd
      unfold srcRows at hc
      simp only [Option.bind_eq_some_iff] at hc
      obtain ⟨cs, hl, hdc⟩ := hc
      obtain ⟨d1, d2, d3⟩ := RTy.decs_sound len hdc
      split at hd2
      · rename_i es' cs' ty' ho
        simp only [esIs, ho] at hd1
        have he := Nat.eq_of_beq_eq_true hd1
        simp only [Rel] at hs
        obtain ⟨a, c', ha, hx, k1, k2, k3, k4⟩ := hs
        injection hx with e1 e2 e3
        subst e1; subst e3
        obtain ⟨hnb, h1, arr, ty0, fz, h2, h3, h4, _, h6, _⟩ := h.at' ho ha
        obtain ⟨g1, xs, g2, g3, g4⟩ := ldN_sound h ha hl
        have hb := k4 trivial
        refine ⟨by omega, .inr ⟨i, _, a, a.sh + off, arr, ty0, fz, rfl, ho, ha, hnb, (h6 rfl).1, rfl, by rw [← he, ← h1]; exact hb, h2, h3, (h6 rfl).2, fun k row hk => ?_⟩⟩
        have hkl : k < len := by rw [← d1]; exact (List.getElem?_eq_some_iff.1 hk).1
        refine ⟨_, fun j y hy => ?_, d3 g3 k row hk⟩
        have hj : j < r.size := by have := (List.getElem?_eq_some_iff.1 hy).1; simp at this; omega
        rw [List.getElem?_take_of_lt hj, List.getElem?_drop] at hy
        have := g4 _ y hy
        simp only [World.cell?, h2] at this
        rw [Nat.add_assoc]
        simpa using this
      · cases hd2

theorem xAppend_sound (h : HR B ρ H w) {ts : List TypeId} {ty : TypeId} {s x : AV} {y z : Value} {p : Option Prop} {r : AV × Heap} (hs : Rel ρ s y) (hx : Rel ρ x z) (hc : xAppend P H ts s x = some (p, r)) (hp : obOk p) :
    SV B P ρ w (Builtin.append_ ts.toArray ty #[y, z]) r.1 r.2 := by
  unfold xAppend at hc
  split at hc
  · rename_i st xt
    simp only [Option.bind_eq_some_iff] at hc
    obtain ⟨u, hu, ux, hux, hc⟩ := hc
    split at hc
    · rename_i e
      simp only [Option.bind_eq_some_iff] at hc
      obtain ⟨ie, hi, hc⟩ := hc
      split at hc
      · cases hc
      · rename_i hni
        have hni : ∀ k, ux ≠ .int k := fun k hk => hni k hk
        simp only [Option.bind_eq_some_iff] at hc
        obtain ⟨rk, hk, hc⟩ := hc
        cases hb : (Nat.beq ie.size rk.size && zeroFits ie && dstOk ie.size H s) with
        | false => rw [hb] at hc; cases hc
        | true =>
          rw [hb, cond_true] at hc
          simp only [Bool.and_eq_true] at hb
          obtain ⟨⟨b1, b2⟩, b3⟩ := hb
          have hsz := Nat.eq_of_beq_eq_true b1
          simp only [Option.bind_eq_some_iff, Option.map_eq_some_iff] at hc
          obtain ⟨old, ho, new, hn, hc⟩ := hc
          cases hc
          obtain ⟨hp1, hp2⟩ : (old ++ new).length * ie.bytes ≤ 140737488355328 ∧ (old ++ new).length ≤ 4611686018427387904 := hp
          obtain ⟨base, c, rfl, so⟩ := srcRows_sound (P := P) h hsz ho hs
          have sn := newRows_sound (P := P) h hsz hn hx
          obtain ⟨hlc, hplace⟩ := dst_place h hsz b3 ho hs
          obtain ⟨ocs, oc1, oc2⟩ := so.cells
          obtain ⟨ncs, nc1, nc2⟩ := sn.cells
          have hkill := h.killO (dstId s)
          have hnext := next_killO H (dstId s)
          rw [List.length_append] at hp1 hp2
          have hmaxI : old.length + new.length ≤ maxI := by unfold maxI; omega
          by_cases hfit : old.length + new.length ≤ c
          · -- in place
            rcases hplace with ⟨hc0, hspot⟩ | ⟨i, o, a, S, arr, ty0, fz, hid, hget, ha, hnb, hB, rfl, hS, hheap, harr, hunf, hrows⟩
            · have ho0 : old = [] := List.length_eq_zero_iff.1 (by omega)
              have hn0 : new = [] := List.length_eq_zero_iff.1 (by omega)
              subst ho0 hn0
              have hncs : ncs = [] := List.length_eq_zero_iff.1 (by rw [nc1.len]; simp)
              subst hncs
              have hz := zerosTest (w := w) hux hni
              simp only [Sem.run_bind, run_underlying hux, Result.andThen_ok, Sem.run_pure, Result.ok.injEq, and_true] at hz
              have hl0 := sn.lenOf
              have hrun : (Builtin.append_ #[st, xt] ty #[.slice base 0 c, z]).run P w = .ok (.slice base 0 c) w := by
                simp only [List.length_nil] at nc2 hl0
                cases base with
                | none => simp [Builtin.append_, run_underlying hu, run_underlying hux, sizeOf_run hi, hz, hl0, nc2]
                | some b => simp [Builtin.append_, run_underlying hu, run_underlying hux, sizeOf_run hi, hz, hl0, nc2, storeCells]
              refine ⟨_, w, ρ.add ⟨0, 0, 0, rk.size, 0, true⟩, hrun, Ext.void B ρ w _ rfl, hkill.void rk, ?_⟩
              simp only [Rel]
              refine ⟨⟨0, 0, 0, rk.size, 0, true⟩, base, c, by rw [h.next]; simp, rfl, Nat.zero_le _, Nat.zero_le _, ?_⟩
              cases base with
              | none => exact .inl ⟨rfl, hc0⟩
              | some b => exact .inr (.inl ⟨b, rfl, hspot b rfl, hc0⟩)
            · have hlen := nc1.len
              have hone := nc1.one
              have hmul : old.length * rk.size + new.length * rk.size ≤ c * rk.size := by
                rw [← Nat.add_mul]; exact Nat.mul_le_mul_right _ hfit
              obtain ⟨w', arr', r1, r2, r3, r4, r5, r6, r7, r8, r9⟩ := run_storeCells (P := P) a.b (S + old.length * rk.size) ty0 fz ncs 0 arr w hheap (by rw [harr]; exact hunf) (by rw [hlen]; omega) hone
              let e0 : At := ⟨a.b, S, a.n, rk.size, old.length + new.length, false⟩
              have hO : ORel (ρ.add e0) B w' e0 (.seq rk (old ++ new) none) := by
                refine ⟨rfl, by simp [e0], .inr ⟨rfl, arr', ty0, fz, r2, r3.trans harr, fun k row hk => ?_, hB, hunf, fun t ht => by cases ht⟩⟩
                by_cases hko : k < old.length
                · rw [List.getElem?_append_left hko] at hk
                  obtain ⟨ys, g1, g2⟩ := hrows k row hk
                  refine ⟨ys, fun j y hy => ?_, g2⟩
                  have hj : j < rk.size := by rw [← g2.length]; exact (List.getElem?_eq_some_iff.1 hy).1
                  have hm2 : k * rk.size + rk.size ≤ old.length * rk.size := by
                    have : (k + 1) * rk.size ≤ old.length * rk.size := Nat.mul_le_mul_right _ hko
                    rw [Nat.add_mul] at this; omega
                  rw [r4, if_neg (by simp only [e0]; omega)]
                  exact g1 j y hy
                · rw [List.getElem?_append_right (by omega)] at hk
                  obtain ⟨ys, g1, g2⟩ := nc1.get hk
                  refine ⟨ys, fun j y hy => ?_, g2⟩
                  have hj : j < rk.size := by rw [← g2.length]; exact (List.getElem?_eq_some_iff.1 hy).1
                  have hkn : k - old.length < new.length := (List.getElem?_eq_some_iff.1 hk).1
                  have hm2 : k * rk.size = old.length * rk.size + (k - old.length) * rk.size := by rw [← Nat.add_mul]; congr 1; omega
                  have hm3 : (k - old.length) * rk.size + rk.size ≤ new.length * rk.size := by
                    have : (k - old.length + 1) * rk.size ≤ new.length * rk.size := Nat.mul_le_mul_right _ hkn
                    rw [Nat.add_mul] at this; omega
                  rw [r4, if_pos (by simp only [e0]; omega)]
                  rw [show e0.sh + k * rk.size + j - (S + old.length * rk.size + 0) = (k - old.length) * rk.size + j by simp only [e0]; omega]
                  exact g1 j y hy
              have hrun : (Builtin.append_ #[st, xt] ty #[.slice (some ⟨a.b, S, none⟩) old.length c, z]).run P w = .ok (.slice (some ⟨a.b, S, none⟩) (old.length + new.length) c) w' :=
                run_append_fit hu hux hni hi sn.lenOf nc2 hfit (by rw [addr_add, hsz]; exact r1)
              rw [hid]
              refine ⟨_, w', ρ.add e0, hrun, ?_, h.renew hget ha hnb hB e0 rfl rfl _ r5 r6 hO, ?_⟩
              · refine ⟨Env.le_add _ _, r7, r8, r9, by omega, fun k hk => r6 k (by omega), fun k _ hk => r6 k (fun hh => hk (hh ▸ Env.blk_of ha hnb)), fun b hbk => ?_, fun _ _ h => .inl h⟩
                rcases Env.blk_add.1 hbk with hm | hm
                · exact .inl hm
                · exact .inl (by rw [← hm.2]; show ρ.blk a.b; exact Env.blk_of ha hnb)
              · simp only [Rel]
                exact ⟨e0, _, c, by rw [h.next]; simp, rfl, hfit, hmaxI, .inr (.inr ⟨rfl, rfl, hS⟩)⟩
          · -- elsewhere
            have hno : ¬ (Builtin.nextslicecap (old.length + new.length) c * ie.bytes > 2 ^ 48) := by
              have := growslice_fits (show c < old.length + new.length by omega) hp1; omega
            unfold zeroFits at b2
            cases hz : ie.zero with
            | none => simp [hz] at b2
            | some z0 =>
              cases hcv : conv z0 with
              | none => simp [hz, hcv] at b2
              | some zv =>
                cases hcs : zv.cells with
                | none => simp [hz, hcv, hcs] at b2
                | some zs =>
                  simp only [hz, hcv, hcs, Option.bind_some] at b2
                  have b2 := Nat.eq_of_beq_eq_true b2
                  have hzr : RelL ρ zs z0.cells.toList := cells_sound hcs (conv_rel hcv ρ)
                  have hzsz : z0.cells.size = rk.size := by have := hzr.length; simp at this; omega
                  have hfor : (Question.appendCap (old.length + new.length) c e).forced = false := rfl
                  have hge : old.length + new.length ≤ (Question.appendCap (old.length + new.length) c e).cut (w.tape w.drawn (.appendCap (old.length + new.length) c e)) := by simp [Question.cut]
                  have hch : (choose (.appendCap (old.length + new.length) c e)).run P w = .ok ((Question.appendCap (old.length + new.length) c e).cut (w.tape w.drawn (.appendCap (old.length + new.length) c e))) { w with drawn := w.drawn + 1 } := by
                    rw [run_choose, if_neg (by simp [hfor])]
                  generalize (Question.appendCap (old.length + new.length) c e).cut (w.tape w.drawn (.appendCap (old.length + new.length) c e)) = cap at hge hch
                  let w1 : World := { w with drawn := w.drawn + 1 }
                  let arr : Array Value := (ocs ++ ncs).toArray ++ Builtin.zeroCells z0.cells (cap - (old.length + new.length))
                  have happ := oc1.append nc1
                  have harr : arr.size = cap * rk.size := by
                    simp only [arr, Array.size_append, List.size_toArray, happ.len, Builtin.zeroCells, Array.size_map, Array.size_range, hzsz, List.length_append]
                    rw [← Nat.add_mul]; congr 1; omega
                  let e0 : At := ⟨w.heap.size, 0, arr.size, rk.size, old.length + new.length, false⟩
                  have hh1 : HR B ρ (killO H (dstId s)) w1 := hkill.heap rfl
                  have hh2 : HR B (ρ.add e0) ((killO H (dstId s)).alloc (.seq rk (old ++ new) none)) (w1.alloc (.cells arr e)) := by
                    refine hh1.alloc _ _ e0 rfl ⟨rfl, by simp [e0], .inr ⟨rfl, arr, e, (0, 0), heap_alloc_new w1 _, rfl, fun k row hk => ?_, h.base, fun j _ => by simp, fun t ht => by cases ht⟩⟩
                    obtain ⟨ys, g1, g2⟩ := happ.get hk
                    refine ⟨ys, fun j y hy => ?_, g2⟩
                    have := g1 j y hy
                    have hlt := (List.getElem?_eq_some_iff.1 this).1
                    simp only [e0, Nat.zero_add, arr]
                    rw [Array.getElem?_append_left (by simpa using hlt)]
                    simpa using this
                  have hrun := run_append_grow (P := P) (ty := ty) (base := base) (sLen := old.length) (sCap := c) (w1 := w1) hu hux hni hi sn.lenOf hfit hno (by omega) hch (so.again w1 rfl _ oc2) (sn.again w1 rfl _ nc2) (zeroValue_run hi hz)
                  refine ⟨_, _, ρ.add e0, hrun, (Ext.heap (B := B) (ρ := ρ) (w := w) (w' := w1) rfl rfl rfl rfl).trans (Ext.alloc (.cells arr e) e0 h.base rfl), hh2, ?_⟩
                  simp only [Rel]
                  exact ⟨e0, _, cap, by rw [h.next]; simp, rfl, hge, hmaxI, .inr (.inr ⟨rfl, rfl, by simp only [e0, harr, Nat.zero_add]; exact Nat.le_refl _⟩)⟩
    · cases hc
  · cases hc
end
end Go.AM
