/- THE ABSTRACT MACHINE, 13b5: operations on terms are sound: append. -/
import Derived.Test.YtdeoahhofhmgfaaAmD
import Derived.Lib.Builder
import Derived.Lib.UnsafeStr
import Derived.KernelRfl
import Derived.Laws.Externs
set_option linter.unusedSimpArgs false
set_option linter.unusedVariables false
namespace Go.AM
open Go.RowKit
section
variable {B : Nat} {ρ : Env} {H : Heap} {w : World} {P : Program}

theorem HR.killO (h : HR B ρ H w) (i : Option Nat) : HR B ρ (killO H i) w := by
  cases i with
  | none => exact h
  | some i => exact h.kill i

theorem next_killO (H : Heap) (i : Option Nat) : (killO H i).next = H.next := by cases i <;> rfl

/-- An empty sequence without a block. -/
theorem HR.void (h : HR B ρ H w) (r : RTy) : HR B (ρ.add ⟨0, 0, 0, r.size, 0, true⟩) (H.alloc (.seq r [] none)) w := by
  have hlt : ∀ i o, H.get i = some o → i ≠ H.next := fun i o hi e => by have := h.old hi; omega
  refine ⟨by simp [h.next], h.base, fun b hb => ?_, fun i o hi => ?_, fun i j o1 o2 e1 e2 hi hj h1 h2 hn1 hn2 hb12 hne => ?_, h.fz, fun i o e c hi he hn hc => ?_⟩
  · rcases Env.blk_add.1 hb with g | g
    · exact h.bnd b g
    · cases g.1
  · rw [Heap.get_alloc] at hi
    by_cases hn : i = H.next
    · simp only [hn, if_true] at hi; cases hi
      exact ⟨⟨0, 0, 0, r.size, 0, true⟩, by rw [hn, h.next]; simp, rfl, rfl, .inl ⟨rfl, rfl⟩⟩
    · simp only [hn, if_false] at hi
      obtain ⟨e, he, ho⟩ := h.obj i o hi
      exact ⟨e, pre_get (Env.le_add _ _).ats he, ho.mono (Env.le_add _ _) fun _ => rfl⟩
  · have old : ∀ i o e, (H.alloc (.seq r [] none)).get i = some o → (ρ.add ⟨0, 0, 0, r.size, 0, true⟩).ats[i]? = some e → e.nb = false → H.get i = some o ∧ ρ.ats[i]? = some e := fun i o e hi he hn => by
      rw [Heap.get_alloc] at hi
      by_cases hin : i = H.next
      · rw [hin, h.next] at he; simp at he; subst he; cases hn
      · simp only [hin, if_false] at hi
        have := h.old hi
        rw [Env.add_ats, List.getElem?_append_left (by rw [← h.next]; exact this)] at he
        exact ⟨hi, he⟩
    obtain ⟨a1, a2⟩ := old i o1 e1 hi h1 hn1
    obtain ⟨b1, b2⟩ := old j o2 e2 hj h2 hn2
    exact h.inj i j o1 o2 e1 e2 a1 b1 a2 b2 hn1 hn2 hb12 hne
  · rw [Heap.get_alloc] at hi
    by_cases hin : i = H.next
    · rw [hin, h.next] at he; simp at he; subst he; cases hn
    · simp only [hin, if_false] at hi
      have := h.old hi
      rw [Env.add_ats, List.getElem?_append_left (by rw [← h.next]; exact this)] at he
      exact h.fzo i o e c hi he hn hc

theorem Ext.void (B : Nat) (ρ : Env) (w : World) (e : At) (hn : e.nb = true) : Ext B ρ w (ρ.add e) w :=
  ⟨Env.le_add _ _, rfl, rfl, rfl, Nat.le_refl _, fun _ _ => rfl, fun _ _ _ => rfl, fun b hb => (Env.blk_add.1 hb).elim Or.inl (fun h => by rw [hn] at h; cases h.1), fun _ _ h => .inl h⟩

theorem length_bytesR (b : List UInt8) : (bytesR b).length = b.length := by
  show (bytesD b).length = _
  simp [bytesD]

theorem get_bytesR {b : List UInt8} {k : Nat} {row : u8r.den} (h : (bytesR b)[k]? = some row) : ∃ c, b[k]? = some c ∧ row = ((c.toNat : Nat) : Int) := by
  have h : (bytesD b)[k]? = some row := h
  have h' : (b[k]?).map (fun c => ((c.toNat : Nat) : Int)) = some row := by simpa [bytesD] using h
  obtain ⟨c, hc, h2⟩ := Option.map_eq_some_iff.1 h'
  exact ⟨c, hc, h2.symm⟩

theorem byte_rd {σ : Nat → Option (Array Value)} (c : UInt8) : RTy.Rd σ u8r (((c.toNat : Nat) : Int)) [.int .u8 (c.toNat : Int)] := by
  simp only [u8r, RTy.Rd, CTy.Rd]
  refine ⟨_, rfl, rfl, ?_⟩
  have := c.toNat_lt
  simp only [IntKind.has, IntKind.min, IntKind.max, IntKind.bits, IntKind.signed]
  simp; omega

theorem bytes_src {b : List UInt8} (ρ : Env) : SrcOk ρ P w u8r (bytesR b) 1 (.string ⟨b.toArray⟩) := by
  have hsz : (⟨b.toArray⟩ : ByteArray).size = b.length := by simp [ByteArray.size]
  have hf : ∀ (n : Nat), n = b.length → ∀ w : World, (Builtin.firstCells 1 n (.string ⟨b.toArray⟩)).run P w = .ok (b.map fun c => Value.int .u8 (c.toNat : Int)).toArray w := fun n hn w => by
    subst hn
    simp only [Builtin.firstCells, Sem.run_pure]
    congr 1
    rw [ByteArray.data_extract]
    apply Array.ext'
    simp
  have hl := length_bytesR b
  refine ⟨?_, ⟨(b.map fun c => Value.int .u8 (c.toNat : Int)), ⟨?_, fun k row hk => ?_⟩, hf _ hl w⟩, fun w' hw cs hcs => ?_⟩
  · simp only [Builtin.lenOf, Sem.run_pure, hsz]
    exact congrArg (fun n => Result.ok n w) hl.symm
  · simp only [List.length_map]
    show b.length = (bytesR b).length * 1
    rw [hl, Nat.mul_one]
  · obtain ⟨c, hc, rfl⟩ := get_bytesR hk
    have hget : ((b.map fun c => Value.int .u8 (c.toNat : Int)).drop (k * u8r.size)).take u8r.size = [.int .u8 (c.toNat : Int)] := by
      show ((b.map fun c => Value.int .u8 (c.toNat : Int)).drop (k * 1)).take 1 = _
      rw [Nat.mul_one, ← List.map_drop, ← List.map_take]
      have : (b.drop k).take 1 = [c] := by
        rw [List.take_one, List.head?_drop, hc]; rfl
      rw [this]; rfl
    rw [hget]
    exact byte_rd c
  · have h1 := hf _ hl w
    rw [h1] at hcs; cases hcs
    exact hf _ hl w'

theorem newRows_sound (h : HR B ρ H w) {r : RTy} {es : Nat} {x : AV} {rows : List r.den} (hes : es = r.size) (hc : newRows H r es x = some rows) {y : Value} (hx : Rel ρ x y) : SrcOk ρ P w r rows es y := by
  unfold newRows at hc
  split at hc
  · rename_i b
    split at hc
    · rename_i hs
      have e := RTy.same_eq hs
      subst e
      rw [castRows_rfl] at hc
      cases hc
      simp only [Rel] at hx
      obtain ⟨rfl, hl⟩ := hx
      subst hes
      exact bytes_src ρ
    · cases hc
  · obtain ⟨base, c, _, h2⟩ := srcRows_sound (P := P) h hes hc hx
    exact h2

theorem RTy.Rd.one {σ : Nat → Option (Array Value)} (r : RTy) : ∀ (d : r.den) (ys : List Value), RTy.Rd σ r d ys → ∀ y ∈ ys, y.oneCell' = true := by
  have cell : ∀ (c : CTy) (d : c.den) (x : Value), CTy.Rd σ c d x → x.oneCell' = true := fun c d x h => by
    cases c <;> simp only [CTy.Rd] at h
    · obtain ⟨rfl, _⟩ := h; rfl
    · subst h; rfl
    · obtain ⟨rfl, _⟩ := h; rfl
    · obtain ⟨_, _, rfl, _⟩ := h; rfl
  refine RTy.rec (motive_1 := fun _ => True) (motive_2 := fun r => ∀ (d : r.den) (ys : List Value), RTy.Rd σ r d ys → ∀ y ∈ ys, y.oneCell' = true) (fun _ => trivial) trivial trivial (fun _ _ => trivial) ?_ ?_ r
  · intro c _ d ys h y hy
    simp only [RTy.Rd] at h
    obtain ⟨x, rfl, h⟩ := h
    rw [List.mem_singleton] at hy; subst hy
    exact cell c d _ h
  · intro c r _ ih d ys h y hy
    simp only [RTy.Rd] at h
    obtain ⟨x, xs, rfl, h1, h2⟩ := h
    rcases List.mem_cons.1 hy with rfl | hy
    · exact cell c _ _ h1
    · exact ih _ xs h2 y hy

theorem Cells.one {r : RTy} {rows : List r.den} {cs : List Value} (h : Cells ρ r rows cs) : ∀ v ∈ cs, v.oneCell' = true := fun v hv => by
  obtain ⟨j, hj, rfl⟩ := List.getElem_of_mem hv
  have hpos := r.size_pos
  rw [h.len] at hj
  have h1 : j / r.size < rows.length := (Nat.div_lt_iff_lt_mul hpos).2 hj
  have h2 : j % r.size < r.size := Nat.mod_lt _ hpos
  have h3 : j = j / r.size * r.size + j % r.size := by rw [Nat.mul_comm]; exact (Nat.div_add_mod j r.size).symm
  have hr := h.row (j / r.size) _ (List.getElem?_eq_getElem h1)
  refine RTy.Rd.one r _ _ hr _ ?_
  refine List.mem_of_getElem? (i := j % r.size) ?_
  rw [List.getElem?_take_of_lt h2, List.getElem?_drop, ← h3]
  exact List.getElem?_eq_getElem _

/-- Where what is appended to lies. -/
def InPlace (B : Nat) (ρ : Env) (H : Heap) (w : World) (r : RTy) (s : AV) (old : List r.den) (base : Option Addr) (c : Nat) : Prop :=
  ∃ (i : Nat) (o : AObj) (a : At) (S : Nat) (arr : Array Value) (ty : TypeId) (fz : Nat × Nat), dstId s = some i ∧ H.get i = some o ∧ ρ.ats[i]? = some a ∧ a.nb = false ∧ B ≤ a.b ∧ base = some ⟨a.b, S, none⟩ ∧ S + c * r.size ≤ a.n ∧
    w.heap[a.b]? = some (.cells arr ty fz) ∧ arr.size = a.n ∧ unfrozen fz a.n ∧
    ∀ (k : Nat) (row : r.den), old[k]? = some row → ∃ ys, (∀ (j : Nat) (y : Value), ys[j]? = some y → arr[S + k * r.size + j]? = some y) ∧ RTy.Rd ρ.fz r row ys

theorem dst_place (h : HR B ρ H w) {r : RTy} {es : Nat} {s : AV} {old : List r.den} (hes : es = r.size) (hd : dstOk es H s = true) (hc : srcRows H r es s = some old) {base : Option Addr} {c : Nat} (hs : Rel ρ s (.slice base old.length c)) :
    old.length ≤ c ∧ ((c = 0 ∧ ∀ a, base = some a → a.spot = none) ∨ InPlace B ρ H w r s old base c) := by
  subst hes
  have seq : ∀ {i lo len : Nat} {rows' : List r.den} {ty : Option TypeId} {a : At} {base : Option Addr} {c : Nat}, dstId s = some i → H.get i = some (.seq r rows' ty) → ρ.ats[i]? = some a → len ≤ c → lo + len ≤ a.len → old = (rows'.drop lo).take len →
      ((base = none ∧ c = 0) ∨ (∃ a, base = some a ∧ a.spot = none ∧ c = 0) ∨ (a.nb = false ∧ base = some ⟨a.b, a.sh + lo * a.es, none⟩ ∧ a.sh + lo * a.es + c * a.es ≤ a.n)) → (c = 0 ∧ ∀ a, base = some a → a.spot = none) ∨ InPlace B ρ H w r s old base c := by
    intro i lo len rows' ty a base c hid ho ha hlc hll hold hb
    rcases hb with ⟨hb0, h0⟩ | ⟨b, hb0, hsp, h0⟩ | ⟨hnb, rfl, hn⟩
    · exact .inl ⟨h0, fun a' ha' => by rw [hb0] at ha'; cases ha'⟩
    · exact .inl ⟨h0, fun a' ha' => by rw [hb0] at ha'; cases ha'; exact hsp⟩
    · obtain ⟨h1, h2, h3⟩ := h.at' ho ha
      rcases h3 with ⟨hnb', _⟩ | ⟨_, arr, ty0, fz, h4, h5, h6, h7, h8, _⟩
      · rw [hnb] at hnb'; cases hnb'
      · refine .inr ⟨i, _, a, a.sh + lo * a.es, arr, ty0, fz, hid, ho, ha, hnb, h7, rfl, by rw [h1] at hn ⊢; exact hn, h4, h5, h8, fun k row hk => ?_⟩
        subst hold
        have hkl : k < len := by have := (List.getElem?_eq_some_iff.1 hk).1; simp at this; omega
        rw [List.getElem?_take_of_lt hkl, List.getElem?_drop] at hk
        obtain ⟨ys, g1, g2⟩ := h6 _ row hk
        refine ⟨ys, fun j y hy => ?_, g2⟩
        have := g1 j y hy
        have e : (lo + k) * r.size = lo * r.size + k * r.size := Nat.add_mul ..
        rw [h1, show a.sh + lo * r.size + k * r.size + j = a.sh + (lo + k) * r.size + j by rw [e]; omega]
        exact this
  cases s <;> simp only [dstOk, Bool.false_eq_true] at hd
  case nilSlc =>
    simp only [Rel] at hs
    injection hs with e1 e2 e3
    subst e1; subst e3
    exact ⟨by omega, .inl ⟨rfl, fun a ha => by cases ha⟩⟩
  case sw i =>
    unfold srcRows at hc
    simp only [Option.bind_eq_some_iff] at hc
    obtain ⟨o, ho, hc⟩ := hc
    unfold rowsAs at hc
    split at hc
    · rename_i r' rows' ty
      split at hc
      · rename_i hs'
        have e := RTy.same_eq hs'
        subst e
        rw [castRows_rfl] at hc
        cases hc
        simp only [Rel] at hs
        obtain ⟨a, base', c', ha, hx, k1, k2, k3⟩ := hs
        injection hx with e1 e2 e3
        subst e1; subst e3
        obtain ⟨h1, h2, _⟩ := h.at' ho ha
        refine ⟨by omega, seq (lo := 0) (len := a.len) rfl ho ha k1 (by omega) ?_ (by simpa using k3)⟩
        rw [List.drop_zero, ← h2, List.take_length]
      · cases hc
    · cases hc
  case ss i lo len =>
    unfold srcRows at hc
    simp only [Option.map_eq_some_iff, Option.bind_eq_some_iff] at hc
    obtain ⟨rows', ⟨o, ho, hc⟩, hrr⟩ := hc
    unfold rowsAs at hc
    split at hc
    · rename_i r' rows'' ty
      split at hc
      · rename_i hs'
        have e := RTy.same_eq hs'
        subst e
        rw [castRows_rfl] at hc
        cases hc
        simp only [Rel] at hs
        obtain ⟨a, base', c', ha, hx, k1, k2, kk, k3⟩ := hs
        cases hx
        exact ⟨k1, seq rfl ho ha k1 kk hrr.symm k3⟩
      · cases hc
    · cases hc
  case slc i off len cap ex =>
    cases ex with
    | true =>
      have : len = 0 ∧ cap = 0 := by
        revert hd
        split <;> intro hd
        all_goals first
          | (cases hd; done)
          | (rename_i e; cases e; done)
          | skip
        all_goals first
          | (rename_i e; injection e with e1 e2 e3 e4 e5; exact ⟨e3, e4⟩)
          | exact ⟨rfl, rfl⟩
      obtain ⟨rfl, rfl⟩ := this
      simp only [Rel] at hs
      obtain ⟨a, c', ha, hx, k1, k2, k3, k4⟩ := hs
      injection hx with e1 e2 e3
      subst e1; subst e3
      have := k3 trivial
      exact ⟨by omega, .inl ⟨this, fun a' ha' => by cases ha'; rfl⟩⟩
    | false =>
      simp only [Bool.and_eq_true] at hd
      obtain ⟨hd1, hd2⟩ := hd
      unfold srcRows at hc
      simp only [Option.bind_eq_some_iff] at hc
      obtain ⟨cs, hl, hdc⟩ := hc
      obtain ⟨d1, d2, d3⟩ := RTy.decs_sound len hdc
      split at hd2
      · rename_i es' cs' ty' ho
        simp only [esIs, ho] at hd1
        have he := Nat.eq_of_beq_eq_true hd1
        simp only [Rel] at hs
        obtain ⟨a, c', ha, hx, k1, k2, k3, k4⟩ := hs
        injection hx with e1 e2 e3
        subst e1; subst e3
        obtain ⟨hnb, h1, arr, ty0, fz, h2, h3, h4, _, h6, _⟩ := h.at' ho ha
        obtain ⟨g1, xs, g2, g3, g4⟩ := ldN_sound h ha hl
        have hb := k4 trivial
        refine ⟨by omega, .inr ⟨i, _, a, a.sh + off, arr, ty0, fz, rfl, ho, ha, hnb, (h6 rfl).1, rfl, by rw [← he, ← h1]; exact hb, h2, h3, (h6 rfl).2, fun k row hk => ?_⟩⟩
        have hkl : k < len := by rw [← d1]; exact (List.getElem?_eq_some_iff.1 hk).1
        refine ⟨_, fun j y hy => ?_, d3 g3 k row hk⟩
        have hj : j < r.size := by have := (List.getElem?_eq_some_iff.1 hy).1; simp at this; omega
        rw [List.getElem?_take_of_lt hj, List.getElem?_drop] at hy
        have := g4 _ y hy
        simp only [World.cell?, h2] at this
        rw [Nat.add_assoc]
        simpa using this
      · cases hd2

theorem xAppend_sound (h : HR B ρ H w) {ts : List TypeId} {ty : TypeId} {s x : AV} {y z : Value} {p : Option Prop} {r : AV × Heap} (hs : Rel ρ s y) (hx : Rel ρ x z) (hc : xAppend P H ts s x = some (p, r)) (hp : obOk p) :
    SV B P ρ w (Builtin.append_ ts.toArray ty #[y, z]) r.1 r.2 := by
  unfold xAppend at hc
  split at hc
  · rename_i st xt
    simp only [Option.bind_eq_some_iff] at hc
    obtain ⟨u, hu, ux, hux, hc⟩ := hc
    split at hc
    · rename_i e
      simp only [Option.bind_eq_some_iff] at hc
      obtain ⟨ie, hi, hc⟩ := hc
      split at hc
      · cases hc
      · rename_i hni
        have hni : ∀ k, ux ≠ .int k := fun k hk => hni k hk
        simp only [Option.bind_eq_some_iff] at hc
        obtain ⟨rk, hk, hc⟩ := hc
        cases hb : (Nat.beq ie.size rk.size && zeroFits ie && dstOk ie.size H s) with
        | false => rw [hb] at hc; cases hc
        | true =>
          rw [hb, cond_true] at hc
          simp only [Bool.and_eq_true] at hb
          obtain ⟨⟨b1, b2⟩, b3⟩ := hb
          have hsz := Nat.eq_of_beq_eq_true b1
          simp only [Option.bind_eq_some_iff, Option.map_eq_some_iff] at hc
          obtain ⟨old, ho, new, hn, hc⟩ := hc
          cases hc
          obtain ⟨hp1, hp2⟩ : (old ++ new).length * ie.bytes ≤ 140737488355328 ∧ (old ++ new).length ≤ 4611686018427387904 := hp
          obtain ⟨base, c, rfl, so⟩ := srcRows_sound (P := P) h hsz ho hs
          have sn := newRows_sound (P := P) h hsz hn hx
          obtain ⟨hlc, hplace⟩ := dst_place h hsz b3 ho hs
          obtain ⟨ocs, oc1, oc2⟩ := so.cells
          obtain ⟨ncs, nc1, nc2⟩ := sn.cells
          have hkill := h.killO (dstId s)
          have hnext := next_killO H (dstId s)
          rw [List.length_append] at hp1 hp2
          have hmaxI : old.length + new.length ≤ maxI := by unfold maxI; omega
          by_cases hfit : old.length + new.length ≤ c
          · -- in place
            rcases hplace with ⟨hc0, hspot⟩ | ⟨i, o, a, S, arr, ty0, fz, hid, hget, ha, hnb, hB, rfl, hS, hheap, harr, hunf, hrows⟩
            · have ho0 : old = [] := List.length_eq_zero_iff.1 (by omega)
              have hn0 : new = [] := List.length_eq_zero_iff.1 (by omega)
              subst ho0 hn0
              have hncs : ncs = [] := List.length_eq_zero_iff.1 (by rw [nc1.len]; simp)
              subst hncs
              have hz := zerosTest (w := w) hux hni
              simp only [Sem.run_bind, run_underlying hux, Result.andThen_ok, Sem.run_pure, Result.ok.injEq, and_true] at hz
              have hl0 := sn.lenOf
              have hrun : (Builtin.append_ #[st, xt] ty #[.slice base 0 c, z]).run P w = .ok (.slice base 0 c) w := by
                simp only [List.length_nil] at nc2 hl0
                cases base with
                | none => simp [Builtin.append_, run_underlying hu, run_underlying hux, sizeOf_run hi, hz, hl0, nc2]
                | some b => simp [Builtin.append_, run_underlying hu, run_underlying hux, sizeOf_run hi, hz, hl0, nc2, storeCells]
              refine ⟨_, w, ρ.add ⟨0, 0, 0, rk.size, 0, true⟩, hrun, Ext.void B ρ w _ rfl, hkill.void rk, ?_⟩
              simp only [Rel]
              refine ⟨⟨0, 0, 0, rk.size, 0, true⟩, base, c, by rw [h.next]; simp, rfl, Nat.zero_le _, Nat.zero_le _, ?_⟩
              cases base with
              | none => exact .inl ⟨rfl, hc0⟩
              | some b => exact .inr (.inl ⟨b, rfl, hspot b rfl, hc0⟩)
            · have hlen := nc1.len
              have hone := nc1.one
              have hmul : old.length * rk.size + new.length * rk.size ≤ c * rk.size := by
                rw [← Nat.add_mul]; exact Nat.mul_le_mul_right _ hfit
              obtain ⟨w', arr', r1, r2, r3, r4, r5, r6, r7, r8, r9⟩ := run_storeCells (P := P) a.b (S + old.length * rk.size) ty0 fz ncs 0 arr w hheap (by rw [harr]; exact hunf) (by rw [hlen]; omega) hone
              let e0 : At := ⟨a.b, S, a.n, rk.size, old.length + new.length, false⟩
              have hO : ORel (ρ.add e0) B w' e0 (.seq rk (old ++ new) none) := by
                refine ⟨rfl, by simp [e0], .inr ⟨rfl, arr', ty0, fz, r2, r3.trans harr, fun k row hk => ?_, hB, hunf, fun t ht => by cases ht⟩⟩
                by_cases hko : k < old.length
                · rw [List.getElem?_append_left hko] at hk
                  obtain ⟨ys, g1, g2⟩ := hrows k row hk
                  refine ⟨ys, fun j y hy => ?_, g2⟩
                  have hj : j < rk.size := by rw [← g2.length]; exact (List.getElem?_eq_some_iff.1 hy).1
                  have hm2 : k * rk.size + rk.size ≤ old.length * rk.size := by
                    have : (k + 1) * rk.size ≤ old.length * rk.size := Nat.mul_le_mul_right _ hko
                    rw [Nat.add_mul] at this; omega
                  rw [r4, if_neg (by simp only [e0]; omega)]
                  exact g1 j y hy
                · rw [List.getElem?_append_right (by omega)] at hk
                  obtain ⟨ys, g1, g2⟩ := nc1.get hk
                  refine ⟨ys, fun j y hy => ?_, g2⟩
                  have hj : j < rk.size := by rw [← g2.length]; exact (List.getElem?_eq_some_iff.1 hy).1
                  have hkn : k - old.length < new.length := (List.getElem?_eq_some_iff.1 hk).1
                  have hm2 : k * rk.size = old.length * rk.size + (k - old.length) * rk.size := by rw [← Nat.add_mul]; congr 1; omega
                  have hm3 : (k - old.length) * rk.size + rk.size ≤ new.length * rk.size := by
                    have : (k - old.length + 1) * rk.size ≤ new.length * rk.size := Nat.mul_le_mul_right _ hkn
                    rw [Nat.add_mul] at this; omega
                  rw [r4, if_pos (by simp only [e0]; omega)]
                  rw [show e0.sh + k * rk.size + j - (S + old.length * rk.size + 0) = (k - old.length) * rk.size + j by simp only [e0]; omega]
                  exact g1 j y hy
              have hrun : (Builtin.append_ #[st, xt] ty #[.slice (some ⟨a.b, S, none⟩) old.length c, z]).run P w = .ok (.slice (some ⟨a.b, S, none⟩) (old.length + new.length) c) w' :=
                run_append_fit hu hux hni hi sn.lenOf nc2 hfit (by rw [addr_add, hsz]; exact r1)
              rw [hid]
              refine ⟨_, w', ρ.add e0, hrun, ?_, h.renew hget ha hnb hB e0 rfl rfl _ r5 r6 hO, ?_⟩
              · refine ⟨Env.le_add _ _, r7, r8, r9, by omega, fun k hk => r6 k (by omega), fun k _ hk => r6 k (fun hh => hk (hh ▸ Env.blk_of ha hnb)), fun b hbk => ?_, fun _ _ h => .inl h⟩
                rcases Env.blk_add.1 hbk with hm | hm
                · exact .inl hm
                · exact .inl (by rw [← hm.2]; show ρ.blk a.b; exact Env.blk_of ha hnb)
              · simp only [Rel]
                exact ⟨e0, _, c, by rw [h.next]; simp, rfl, hfit, hmaxI, .inr (.inr ⟨rfl, rfl, hS⟩)⟩
          · -- elsewhere
            have hno : ¬ (Builtin.nextslicecap (old.length + new.length) c * ie.bytes > 2 ^ 48) := by
              have := growslice_fits (show c < old.length + new.length by omega) hp1; omega
            unfold zeroFits at b2
            cases hz : ie.zero with
            | none => simp [hz] at b2
            | some z0 =>
              cases hcv : conv z0 with
              | none => simp [hz, hcv] at b2
              | some zv =>
                cases hcs : zv.cells with
                | none => simp [hz, hcv, hcs] at b2
                | some zs =>
                  simp only [hz, hcv, hcs, Option.bind_some] at b2
                  have b2 := Nat.eq_of_beq_eq_true b2
                  have hzr : RelL ρ zs z0.cells.toList := cells_sound hcs (conv_rel hcv ρ)
                  have hzsz : z0.cells.size = rk.size := by have := hzr.length; simp at this; omega
                  have hfor : (Question.appendCap (old.length + new.length) c e).forced = false := rfl
                  have hge : old.length + new.length ≤ (Question.appendCap (old.length + new.length) c e).cut (w.tape w.drawn (.appendCap (old.length + new.length) c e)) := by simp [Question.cut]
                  have hch : (choose (.appendCap (old.length + new.length) c e)).run P w = .ok ((Question.appendCap (old.length + new.length) c e).cut (w.tape w.drawn (.appendCap (old.length + new.length) c e))) { w with drawn := w.drawn + 1 } := by
                    rw [run_choose, if_neg (by simp [hfor])]
                  generalize (Question.appendCap (old.length + new.length) c e).cut (w.tape w.drawn (.appendCap (old.length + new.length) c e)) = cap at hge hch
                  let w1 : World := { w with drawn := w.drawn + 1 }
                  let arr : Array Value := (ocs ++ ncs).toArray ++ Builtin.zeroCells z0.cells (cap - (old.length + new.length))
                  have happ := oc1.append nc1
                  have harr : arr.size = cap * rk.size := by
                    simp only [arr, Array.size_append, List.size_toArray, happ.len, Builtin.zeroCells, Array.size_map, Array.size_range, hzsz, List.length_append]
                    rw [← Nat.add_mul]; congr 1; omega
                  let e0 : At := ⟨w.heap.size, 0, arr.size, rk.size, old.length + new.length, false⟩
                  have hh1 : HR B ρ (killO H (dstId s)) w1 := hkill.heap rfl
                  have hh2 : HR B (ρ.add e0) ((killO H (dstId s)).alloc (.seq rk (old ++ new) none)) (w1.alloc (.cells arr e)) := by
                    refine hh1.alloc _ _ e0 rfl ⟨rfl, by simp [e0], .inr ⟨rfl, arr, e, (0, 0), heap_alloc_new w1 _, rfl, fun k row hk => ?_, h.base, fun j _ => by simp, fun t ht => by cases ht⟩⟩
                    obtain ⟨ys, g1, g2⟩ := happ.get hk
                    refine ⟨ys, fun j y hy => ?_, g2⟩
                    have := g1 j y hy
                    have hlt := (List.getElem?_eq_some_iff.1 this).1
                    simp only [e0, Nat.zero_add, arr]
                    rw [Array.getElem?_append_left (by simpa using hlt)]
                    simpa using this
                  have hrun := run_append_grow (P := P) (ty := ty) (base := base) (sLen := old.length) (sCap := c) (w1 := w1) hu hux hni hi sn.lenOf hfit hno (by omega) hch (so.again w1 rfl _ oc2) (sn.again w1 rfl _ nc2) (zeroValue_run hi hz)
                  refine ⟨_, _, ρ.add e0, hrun, (Ext.heap (B := B) (ρ := ρ) (w := w) (w' := w1) rfl rfl rfl rfl).trans (Ext.alloc (.cells arr e) e0 h.base rfl), hh2, ?_⟩
                  simp only [Rel]
                  exact ⟨e0, _, cap, by rw [h.next]; simp, rfl, hge, hmaxI, .inr (.inr ⟨rfl, rfl, by simp only [e0, harr, Nat.zero_add]; exact Nat.le_refl _⟩)⟩
    · cases hc
  · cases hc
end
end Go.AM
set_option linter.unusedSimpArgs false
set_option linter.unusedVariables false
namespace Go.AM
open Go.RowKit
section
variable {B : Nat} {ρ : Env} {H : Heap} {w : World} {P : Program}

theorem RelL.spl {vs cs : List AV} {xs ys : List Value} (h : RelL ρ vs xs) (k : RelL ρ cs ys) (j : Nat) : RelL ρ (spl vs j cs) (xs.take j ++ ys ++ xs.drop (j + ys.length)) := by
  unfold Go.AM.spl
  rw [k.length]
  exact ((h.take j).append k).append (h.drop _)

theorem splV_get (xs ys : List Value) (j : Nat) (h : j + ys.length ≤ xs.length) (i : Nat) :
    (xs.take j ++ ys ++ xs.drop (j + ys.length))[i]? = if j ≤ i ∧ i < j + ys.length then ys[i - j]? else xs[i]? := by
  by_cases h1 : i < j
  · rw [if_neg (by omega), List.append_assoc, List.getElem?_append_left (by simp; omega), List.getElem?_take_of_lt h1]
  · by_cases h2 : i < j + ys.length
    · rw [if_pos (by omega), List.append_assoc, List.getElem?_append_right (by simp; omega), List.getElem?_append_left (by simp; omega)]
      congr 1; simp; omega
    · rw [if_neg (by omega), List.getElem?_append_right (by simp; omega), List.getElem?_drop]
      congr 1; simp; omega

theorem xStore_sound (h : HR B ρ H w) {t : TypeId} {p v : AV} {x y : Value} {H' : Heap} (hp : Rel ρ p x) (hv : Rel ρ v y) (hs : xStore P H t p v = some H') :
    ∃ w', (Instr.storeAt t x y).run P w = .ok () w' ∧ HR B ρ H' w' ∧ Ext B ρ w ρ w' := by
  unfold xStore at hs
  split at hs
  · rename_i i k j
    split at hs
    · rename_i r rows ty ho
      simp only [Option.bind_eq_some_iff] at hs
      obtain ⟨cs, hcs, inf, hi, hs⟩ := hs
      cases hb : (Nat.beq cs.length inf.size && Nat.ble (j + cs.length) r.size) with
      | false => rw [hb] at hs; cases hs
      | true =>
        rw [hb, cond_true] at hs
        simp only [Bool.and_eq_true] at hb
        have b1 := Nat.eq_of_beq_eq_true hb.1
        have b2 := Nat.le_of_ble_eq_true hb.2
        simp only [Option.map_eq_some_iff] at hs
        obtain ⟨row', hd, rfl⟩ := hs
        simp only [Rel] at hp
        obtain ⟨e, he, hn, hk, rfl⟩ := hp
        obtain ⟨h1, h2, h3⟩ := h.at' ho he
        rcases h3 with ⟨hn', _⟩ | ⟨_, arr, ty0, fz, h4, h5, h6, h7, h8, h9⟩
        · rw [hn] at hn'; cases hn'
        · have hkl : k < rows.length := by omega
          obtain ⟨ys, g1, g2⟩ := h6 k _ (rowAt_get hkl)
          have hyl := g2.length
          have hrl := cells_sound hcs hv
          have hxl : y.cells.toList.length = cs.length := hrl.length
          have hlast : e.sh + k * r.size + r.size ≤ arr.size := by
            have hpos := r.size_pos
            have := g1 (r.size - 1) _ (List.getElem?_eq_getElem (by omega))
            have := (Array.getElem?_eq_some_iff.1 this).1
            omega
          have hone : ∀ v ∈ y.cells.toList, v.oneCell' = true := by
            have hrd := RTy.dec_sound r hd (RelL.spl g2.rel hrl j)
            intro v hv'
            exact RTy.Rd.one r _ _ hrd v (by simp only [List.mem_append]; exact .inl (.inr hv'))
          obtain ⟨w', arr', r1, r2, r3, r4, r5, r6, r7, r8, r9⟩ := run_storeCells (P := P) e.b (e.sh + k * e.es + j) ty0 fz y.cells.toList 0 arr w h4 (by rw [h5]; exact h8) (by rw [h1]; omega) hone
          have hO : ORel ρ B w' e (.seq r (rows.set k row') ty) := by
            refine ⟨h1, by simp [h2], .inr ⟨hn, arr', ty0, fz, r2, r3.trans h5, fun q row hq => ?_, h7, h8, h9⟩⟩
            by_cases hqk : q = k
            · subst hqk
              rw [List.getElem?_set_self hkl] at hq
              cases hq
              refine ⟨_, fun m z hz => ?_, RTy.dec_sound r hd (RelL.spl g2.rel hrl j)⟩
              rw [splV_get _ _ _ (by omega)] at hz
              rw [r4, h1]
              by_cases hin : j ≤ m ∧ m < j + y.cells.toList.length
              · rw [if_pos hin] at hz
                rw [if_pos (by omega), show e.sh + q * r.size + m - (e.sh + q * r.size + j + 0) = m - j by omega]
                exact hz
              · rw [if_neg hin] at hz
                rw [if_neg (by omega)]
                exact g1 m z hz
            · rw [List.getElem?_set_ne (Ne.symm hqk)] at hq
              obtain ⟨ys', k1, k2⟩ := h6 q row hq
              refine ⟨ys', fun m z hz => ?_, k2⟩
              have hm : m < r.size := by rw [← k2.length]; exact (List.getElem?_eq_some_iff.1 hz).1
              have hdis : q * r.size + r.size ≤ k * r.size ∨ k * r.size + r.size ≤ q * r.size := by
                rcases Nat.lt_or_gt_of_ne hqk with hlt | hgt
                · have : (q + 1) * r.size ≤ k * r.size := Nat.mul_le_mul_right _ hlt
                  rw [Nat.add_mul] at this; omega
                · have : (k + 1) * r.size ≤ q * r.size := Nat.mul_le_mul_right _ hgt
                  rw [Nat.add_mul] at this; omega
              rw [r4, h1, if_neg (by omega)]
              exact k1 m z hz
          refine ⟨w', ?_, h.turn ho he hn h7 _ r5 r6 hO, Ext.turn (Env.blk_of he hn) h7 r5 r6 r7 r8 r9⟩
          have hsz : y.cells.size = inf.size := by have := hxl; simp at this; omega
          simp [Instr.storeAt, Instr.sureAddr, storeVar, sizeOf_run hi, hsz, r1]
    · cases hs
  · cases hs

theorem Cells.bytes {rows : List u8r.den} {cs : List Value} (h : Cells ρ u8r rows cs) : cs = List.map (fun n : Int => Value.int .u8 n) rows := by
  have hl : cs.length = rows.length := by have := h.len; simpa [show u8r.size = 1 from rfl] using this
  apply List.ext_getElem?
  intro k
  by_cases hk : k < rows.length
  · have := h.row k _ (List.getElem?_eq_getElem hk)
    rw [show u8r.size = 1 from rfl, Nat.mul_one] at this
    simp only [u8r, RTy.Rd, CTy.Rd] at this
    obtain ⟨y, hy, hy2, _⟩ := this
    have h0 : ((cs.drop k).take 1)[0]? = some y := by rw [hy]; rfl
    rw [List.getElem?_take_of_lt (by omega), List.getElem?_drop, Nat.add_zero] at h0
    rw [h0, hy2]
    have e : (List.map (fun n : Int => Value.int .u8 n) rows)[k]? = (rows[k]?).map (fun n : Int => Value.int .u8 n) := List.getElem?_map
    rw [e, List.getElem?_eq_getElem hk]; rfl
  · have e : (List.map (fun n : Int => Value.int .u8 n) rows).length = rows.length := List.length_map _
    rw [List.getElem?_eq_none (by omega), List.getElem?_eq_none (by omega)]

theorem bytes_string {src dst e : TypeId} (hs : P.underlying src = some (.slice e)) (hue : P.underlying e = some (.int .u8)) (hd : P.underlying dst = some .string) {base : Option Addr} {c : Nat} {rows : List u8r.den} (so : SrcOk ρ P w u8r rows 1 (.slice base rows.length c)) :
    (convert src dst (.slice base rows.length c)).run P w = .ok (.string ⟨(ofBytesD rows).toArray⟩) w := by
  obtain ⟨cs, h1, h2⟩ := so.cells
  have hcs := h1.bytes
  subst hcs
  rw [run_convert_bytes_string w src dst e _ _ _ hs hue hd]
  cases base with
  | none =>
    have : rows = [] := by
      simp only [Builtin.firstCells, Sem.run_pure] at h2
      have h3 : (#[] : Array Value) = (List.map (fun n : Int => Value.int .u8 n) rows).toArray := by injection h2
      have h4 := congrArg Array.size h3
      have h5 : (List.map (fun n : Int => Value.int .u8 n) rows).length = rows.length := List.length_map _
      simp only [List.size_toArray, h5] at h4
      exact List.length_eq_zero_iff.1 h4.symm
    subst this
    simp [Conv.bytesToString, ofBytesD]
    rfl
  | some a =>
    have h2' : (loadCells a rows.length).run P w = .ok (List.map (fun n : Int => Value.int .u8 n) rows).toArray w := by
      have := h2
      simp only [Builtin.firstCells, Nat.mul_one] at this
      exact this
    have key : ∀ ns : List Int, (loadCells a rows.length).run P w = .ok (List.map (fun n : Int => Value.int .u8 n) ns).toArray w → (Conv.bytesToString (.slice (some a) rows.length c)).run P w = .ok (.string ⟨(ofBytesD ns).toArray⟩) w := fun ns hns => by
      rw [run_bytesToString w a _ c ns hns, foldl_push]
      simp [ofBytesD]
    exact key rows h2'

theorem ofBytesD_length (l : List Int) : (ofBytesD l).length = l.length := by simp [ofBytesD]

theorem HR.congr {H' : Heap} (h : HR B ρ H w) (hg : ∀ i, H'.get i = H.get i) (hn : H'.next = H.next) : HR B ρ H' w :=
  ⟨hn.trans h.next, h.base, h.bnd, fun i o hi => h.obj i o (by rw [← hg]; exact hi), fun i j o o' e e' hi hj => h.inj i j o o' e e' (by rw [← hg]; exact hi) (by rw [← hg]; exact hj), h.fz, fun i o e c hi => h.fzo i o e c (by rw [← hg]; exact hi)⟩

theorem rowAt_mono {fits : TypeId → Bool} : ∀ (d : Nat) (e : TypeId) (c c' off n : Nat), c ≤ c' → _root_.Go.rowAt P fits d e c off n = true → _root_.Go.rowAt P fits d e c' off n = true
  | 0, _, _, _, _, _, _, h => by cases h
  | d + 1, e, c, c', off, n, hc, h => by
    unfold _root_.Go.rowAt at h ⊢
    dsimp only at h ⊢
    by_cases hs : P.cellsOf e = 0
    · rw [if_pos hs] at h; cases h
    · rw [if_neg hs] at h ⊢
      rw [Bool.or_eq_true] at h ⊢
      rcases h with h | h
      · left
        simp only [Bool.and_eq_true, decide_eq_true_eq] at h ⊢
        exact ⟨⟨h.1.1, by omega⟩, h.2⟩
      · right
        rw [Bool.and_eq_true] at h ⊢
        exact ⟨by have := of_decide_eq_true h.1; exact decide_eq_true (by omega), h.2⟩
theorem liesAt_mono : ∀ (d : Nat) (e : TypeId) (c c' off : Nat) (u : TypeId) (n : Nat), c ≤ c' → liesAt P d e c off u n = true → liesAt P d e c' off u n = true
  | 0, _, _, _, _, _, _, _, h => by cases h
  | d + 1, e, c, c', off, u, n, hc, h => by
    unfold liesAt at h ⊢
    rw [Bool.or_eq_true] at h ⊢
    rcases h with h | h
    · exact .inl (rowAt_mono _ _ _ _ _ _ hc h)
    · right
      split at h
      · exact liesAt_mono d e c c' off _ _ hc h
      · cases h

theorem xConv_sound (h : HR B ρ H w) {src dst : TypeId} {a : AV} {x : Value} {p : Option Prop} {r : AV × Heap} (ha : Rel ρ a x) (hc : xConv P H src dst a = some (p, r)) (hp : obOk p) : SV B P ρ w (convert src dst x) r.1 r.2 := by
  unfold xConv at hc
  simp only [Option.bind_eq_some_iff] at hc
  obtain ⟨us, hs, ud, hd, hc⟩ := hc
  split at hc
  · rename_i k1 k2 n1
    cases hc
    simp only [Rel] at ha; obtain ⟨rfl, _⟩ := ha
    exact SV.same h ⟨.int k1 (k1.wrap n1), by simp [convert, run_underlying hs, run_underlying hd, Conv.intToInt], by simp only [Rel]; exact ⟨trivial, wrap_has _ _⟩⟩
  · rename_i s1
    cases hc
    simp only [Rel] at ha; obtain ⟨rfl, hl⟩ := ha
    refine SV.same h ⟨.string ⟨s1.toArray⟩, ?_, by simp only [Rel]; exact ⟨trivial, hl⟩⟩
    simp only [convert, Sem.run_bind, run_underlying hs, run_underlying hd, Result.andThen_ok]
    cases us <;> rfl
  · rename_i us' e s
    simp only [Option.bind_eq_some_iff] at hc
    obtain ⟨ue, hue, hc⟩ := hc
    split at hc
    · cases hc
      simp only [Rel] at ha; obtain ⟨rfl, hsl⟩ := ha
      have hsz : (⟨s.toArray⟩ : ByteArray).size = s.length := by simp [ByteArray.size]
      have hcap : ∀ t, (Question.appendCap s.length 0 e).cut t ≥ s.length := fun t => by simp [Question.cut]
      generalize hq : (Question.appendCap s.length 0 e).cut (w.tape w.drawn (.appendCap s.length 0 e)) = cap at *
      have hge : s.length ≤ cap := by rw [← hq]; exact hcap _
      let arr : Array Value := (s.toArray.map fun b => Value.int .u8 b.toNat) ++ Array.replicate (cap - s.length) (.int .u8 0)
      have harr : arr.size = cap := by simp [arr]; omega
      let w1 : World := { w with drawn := w.drawn + 1 }
      let w2 : World := w1.alloc (.cells arr e)
      let w3 : World := w2.freeze { block := w.heap.size, off := cap } 1
      have hrun : (convert src dst (.string ⟨s.toArray⟩)).run P w = .ok (.slice (some ⟨w.heap.size, 0, none⟩) s.length cap) w3 := by
        have h1 : (convert src dst (.string ⟨s.toArray⟩)).run P w = (Conv.stringToBytes e ⟨s.toArray⟩).run P w := by
          simp only [convert, Sem.run_bind, run_underlying hs, run_underlying hd, Result.andThen_ok]
          cases us <;> simp [run_underlying hue]
        rw [h1]
        have hfor : (Question.appendCap s.length 0 e).forced = false := rfl
        have hshape : w2.shape? w.heap.size = some (e, cap) := by
          have := heap_alloc_new w1 (.cells arr e)
          simp only [World.shape?]
          rw [show w2.heap[w.heap.size]? = some (.cells arr e) from this]
          simp [harr]
        simp only [Conv.stringToBytes, Sem.run_bind, run_choose, hsz, hfor, Bool.false_eq_true, if_false, Result.andThen_ok, hq]
        simp only [newRow, Sem.run_bind, run_newObj, Result.andThen_ok, Sem.run_pure, markStringish, run_shape]
        rw [show ({ heap := (({ heap := w.heap, tape := w.tape, drawn := w.drawn + 1, os := w.os, output := w.output } : World)).heap.push (Obj.cells ((({ data := s.toArray } : ByteArray).data.map fun b => Value.int .u8 b.toNat) ++ Array.replicate (cap - s.length) (.int .u8 0)) e), tape := w.tape, drawn := w.drawn + 1, os := w.os, output := w.output } : World) = w2 from rfl]
        simp only [hshape, run_freeze, Result.andThen_ok]
        rfl
      have hh1 : HR B ρ H w1 := h.heap rfl
      have hfz : w3.heap[w.heap.size]? = some (.cells arr e (cap, cap + 1)) := by
        show (World.freeze w2 _ 1).heap[w.heap.size]? = _
        simp only [World.freeze]
        rw [if_neg (by omega)]
        rw [Array.getElem?_modify]
        rw [if_pos rfl, show w2.heap[w.heap.size]? = some (.cells arr e) from heap_alloc_new w1 _]
        simp
      have hoth : ∀ k, k ≠ w.heap.size → w3.heap[k]? = w2.heap[k]? := fun k hk => by
        show (World.freeze w2 _ 1).heap[k]? = _
        simp only [World.freeze]
        rw [if_neg (by omega), Array.getElem?_modify, if_neg (Ne.symm hk)]
      have hsz3 : w3.heap.size = w2.heap.size := by
        show (World.freeze w2 _ 1).heap.size = _
        simp only [World.freeze]
        rw [if_neg (by omega)]; simp
      let e0 : At := ⟨w.heap.size, 0, cap, 1, s.length, false⟩
      have hobj : ∀ w', ∀ fz : Nat × Nat, (fz = (0, 0) ∨ fz = (cap, cap + 1)) → w'.heap[w.heap.size]? = some (.cells arr e fz) → ORel (ρ.add e0) B w' e0 (.seq u8r (bytesR s) none) := by
        intro w' fz hfz' hw'
        refine ⟨rfl, length_bytesR s, .inr ⟨rfl, arr, e, fz, hw', harr, fun k row hk => ?_, h.base, fun j hj => ?_, fun t ht => by cases ht⟩⟩
        · obtain ⟨c, hc, rfl⟩ := get_bytesR hk
          refine ⟨_, fun j y hy => ?_, byte_rd c⟩
          have hkl : k < s.length := (List.getElem?_eq_some_iff.1 hc).1
          have hj : j = 0 := by have := (List.getElem?_eq_some_iff.1 hy).1; simp at this; exact this
          subst hj
          simp only [List.getElem?_cons_zero, Option.some.injEq] at hy
          subst hy
          rw [show e0.sh + k * u8r.size + 0 = k by simp [e0, show u8r.size = 1 from rfl]]
          simp only [arr]
          rw [Array.getElem?_append_left (by simp; omega)]
          simp [hc]
        · rcases hfz' with rfl | rfl
          · simp
          · simp [e0] at hj ⊢; omega
      have hh2 : HR B (ρ.add e0) (H.alloc (.seq u8r (bytesR s) none)) w2 := hh1.alloc _ (.cells arr e) e0 rfl (hobj _ (0, 0) (.inl rfl) (heap_alloc_new w1 _))
      have hget : (H.alloc (.seq u8r (bytesR s) none)).get H.next = some (.seq u8r (bytesR s) none) := by rw [Heap.get_alloc]; simp
      have hnx : (ρ.add e0).ats[H.next]? = some e0 := by rw [h.next]; simp
      have hh3 : HR B (ρ.add e0) ((H.alloc (.seq u8r (bytesR s) none)).set H.next (.seq u8r (bytesR s) none)) w3 :=
        hh2.turn hget hnx rfl h.base _ hsz3 hoth (hobj _ _ (.inr rfl) hfz)
      have hh4 : HR B (ρ.add e0) (H.alloc (.seq u8r (bytesR s) none)) w3 := hh3.congr (fun i => by
        rw [Heap.get_set]
        by_cases hin : i = H.next
        · subst hin; rw [hget]; simp
        · simp [hin]) rfl
      have he1 : Ext B ρ w ρ w1 := Ext.heap rfl rfl rfl rfl
      have he2 : Ext B ρ w1 (ρ.add e0) w2 := Ext.alloc _ _ h.base rfl
      have he3 : Ext B (ρ.add e0) w2 (ρ.add e0) w3 := by
        refine Ext.turn (e := e0) (Env.blk_of hnx rfl) h.base hsz3 hoth ?_ ?_ ?_
        · show (World.freeze w2 _ 1).os = _; simp only [World.freeze]; rw [if_neg (by omega)]
        · show (World.freeze w2 _ 1).tape = _; simp only [World.freeze]; rw [if_neg (by omega)]
        · show (World.freeze w2 _ 1).output = _; simp only [World.freeze]; rw [if_neg (by omega)]
      refine ⟨_, w3, _, hrun, (he1.trans he2).trans he3, hh4, ?_⟩
      simp only [Rel]
      exact ⟨e0, _, cap, hnx, rfl, hge, hsl, .inr (.inr ⟨rfl, rfl, by simp [e0]⟩)⟩
    · cases hc
  · rename_i e hns
    simp only [Option.bind_eq_some_iff] at hc
    obtain ⟨ue, hue, hc⟩ := hc
    have fin : ∀ {l : List u8r.den}, srcRows H u8r 1 a = some l → (∀ base n c, Rel ρ a (.slice base n c) → n ≤ maxI) → SV B P ρ w (convert src dst x) (.sS (ofBytesD l)) H := fun {l} hl hm => by
      obtain ⟨base, c, hx, so⟩ := srcRows_sound (P := P) h rfl hl ha
      subst hx
      refine SV.same h ⟨_, bytes_string hs ?_ hd so, ?_⟩
      · revert hc
        split <;> intro hc <;> first
          | exact hue
          | cases hc
      · simp only [Rel]
        refine ⟨trivial, ?_⟩
        have e : (ofBytesD l).length = List.length (α := Int) l := ofBytesD_length l
        exact Nat.le_trans (Nat.le_of_eq e) (hm _ _ _ ha)
    split at hc
    · obtain ⟨l, hl, hc⟩ := Option.map_eq_some_iff.1 hc
      cases hc
      refine fin hl fun base n c hr => ?_
      simp only [Rel, CTy.Rd] at hr
      obtain ⟨b, cap, hx, _, hm, _⟩ := hr
      injection hx with _ e2 _; omega
    · obtain ⟨l, hl, hc⟩ := Option.map_eq_some_iff.1 hc
      cases hc
      refine fin hl fun base n c hr => ?_
      simp only [Rel] at hr
      obtain ⟨e, b, cap, _, hx, _, hm, _⟩ := hr
      injection hx with _ e2 _; omega
    · obtain ⟨l, hl, hc⟩ := Option.map_eq_some_iff.1 hc
      cases hc
      refine fin hl fun base n c hr => ?_
      simp only [Rel] at hr
      obtain ⟨e, b, cap, _, hx, _, hm, _⟩ := hr
      injection hx with _ e2 _; omega
    · cases hc
  · rename_i t i off
    simp only [Option.bind_eq_some_iff] at hc
    obtain ⟨j, hj, hc⟩ := hc
    cases hz : Nat.beq j.size 0 with
    | true => rw [hz] at hc; cases hc
    | false =>
      rw [hz, cond_false] at hc
      split at hc
      · rename_i ro es cs oty hi
        cases hb : Nat.blt off cs.length with
        | false => rw [hb] at hc; cases hc
        | true =>
          rw [hb] at hc; cases hc
          have hlt : off < cs.length := Nat.le_of_ble_eq_true hb
          simp only [Rel] at ha
          obtain ⟨e, he, rfl⟩ := ha
          obtain ⟨e', he', hob⟩ := h.obj i _ hi
          have : e' = e := by rw [he] at he'; exact (Option.some.inj he').symm
          subst this
          obtain ⟨hnb, hes, arr, ty', fz, hh, hsz, hcs, _⟩ := hob
          obtain ⟨y, hy, _⟩ := hcs off _ (List.getElem?_eq_getElem hlt)
          have hlt2 := (Array.getElem?_eq_some_iff.1 hy).1
          exact SV.same h ⟨_, Lib.run_to_unsafe (w := w) ⟨e'.b, e'.sh + off, none⟩ hs hd hj (Nat.ne_of_beq_eq_false hz) (e := ty') (cells := arr.size) (by simp [World.shape?, hh]) hlt2, by simp only [Rel]; exact ⟨e', he, rfl⟩⟩
      · cases hc
  · rename_i u i off
    simp only [Option.bind_eq_some_iff] at hc
    obtain ⟨j, hj, hc⟩ := hc
    split at hc
    · rename_i ro es cs e0 hi
      cases hb : liesAt P P.depth e0 (cs.length / P.cellsOf e0) off u 1 with
      | false => rw [hb] at hc; cases hc
      | true =>
        rw [hb] at hc; cases hc
        simp only [Rel] at ha
        obtain ⟨e, he, rfl⟩ := ha
        obtain ⟨e', he', hob⟩ := h.obj i _ hi
        have : e' = e := by rw [he] at he'; exact (Option.some.inj he').symm
        subst this
        obtain ⟨hnb, hes, arr, ty', fz, hh, hsz, hcs, _, _, hty⟩ := hob
        obtain ⟨rfl, hsh0⟩ := hty e0 rfl
        have hle : cs.length ≤ arr.size := by
          rcases Nat.eq_zero_or_pos cs.length with h0 | h0
          · omega
          · obtain ⟨y, hy, _⟩ := hcs (cs.length - 1) _ (List.getElem?_eq_getElem (by omega))
            have := (Array.getElem?_eq_some_iff.1 hy).1
            omega
        have hl := liesAt_mono P.depth ty' _ _ off u 1 (Nat.div_le_div_right (c := P.cellsOf ty') hle) hb
        have hz : e'.sh + off = off := by omega
        exact SV.same h ⟨_, Lib.run_from_unsafe (w := w) ⟨e'.b, e'.sh + off, none⟩ hs hd hj (e := ty') (cells := arr.size) (by simp [World.shape?, hh]) (by rw [hz]; exact hl), by simp only [Rel]; exact ⟨e', he, rfl⟩⟩
    · cases hc
  · cases hc

theorem xMakeSlice_sound (h : HR B ρ H w) {t : TypeId} {l c : AV} {x y : Value} {p : Option Prop} {r : AV × Heap} (hl : Rel ρ l x) (hcp : Rel ρ c y)
    (hb : xMakeSlice P H t l c = some (p, r)) (hp : obOk p) : SV B P ρ w (Instr.makeSlice t x y) r.1 r.2 := by
  unfold xMakeSlice at hb
  simp only [Option.bind_eq_some_iff] at hb
  obtain ⟨d, hu, hb⟩ := hb
  split at hb
  · rename_i e
    simp only [Option.bind_eq_some_iff] at hb
    obtain ⟨ie, hi, zv, ⟨z, hz, hc⟩, zs, hcs, rk, hk, zd, hd, ⟨k1, n1⟩, hl1, ⟨k2, n2⟩, hc1, hb⟩ := hb
    cases hg : (Nat.beq zs.length ie.size && Nat.beq rk.size ie.size) with
    | false => rw [hg] at hb; cases hb
    | true =>
      rw [hg, cond_true] at hb
      cases hb
      simp only [Bool.and_eq_true] at hg
      have g4 := Nat.eq_of_beq_eq_true hg.1
      have g5 := Nat.eq_of_beq_eq_true hg.2
      obtain ⟨rfl, _⟩ := asX_sound hl1 hl
      obtain ⟨rfl, _⟩ := asX_sound hc1 hcp
      obtain ⟨p1, p2, p3, p4⟩ : 0 ≤ n1 ∧ n1 = n2 ∧ n1 * ie.bytes ≤ 140737488355328 ∧ n1 ≤ 4611686018427387904 := hp
      subst p2
      obtain ⟨n, rfl⟩ : ∃ n : Nat, n1 = n := ⟨n1.toNat, by omega⟩
      have q3 : ie.bytes * n ≤ 281474976710656 := by rw [Nat.mul_comm]; omega
      have hzr := cells_sound hcs (conv_rel hc ρ)
      have hzl : z.cells.size = rk.size := by have := hzr.length; simp at this; omega
      have hzd := RTy.dec_sound rk hd hzr
      let xs : Array Value := (Array.range (n * ie.size)).map (fun i => z.cells[i % z.cells.size]!)
      let e0 : At := ⟨w.heap.size, 0, xs.size, rk.size, n, false⟩
      have hh2 : HR B (ρ.add e0) (H.alloc (.seq rk (List.replicate n zd) none)) (w.alloc (.cells xs e)) := by
        refine h.alloc _ _ e0 rfl ⟨rfl, by simp [e0], .inr ⟨rfl, xs, e, (0, 0), heap_alloc_new w _, rfl, fun k row hk => ?_, h.base, fun j _ => by simp, fun t ht => by cases ht⟩⟩
        have hkn : k < n := by have := (List.getElem?_eq_some_iff.1 hk).1; simpa using this
        rw [List.getElem?_replicate, if_pos hkn] at hk
        cases hk
        refine ⟨z.cells.toList, fun j y hy => ?_, hzd⟩
        have hj : j < rk.size := by rw [← hzl]; have := (List.getElem?_eq_some_iff.1 hy).1; simpa using this
        have hm : k * rk.size + rk.size ≤ n * rk.size := by
          have : (k + 1) * rk.size ≤ n * rk.size := Nat.mul_le_mul_right _ hkn
          rw [Nat.add_mul] at this; omega
        have hmod : (k * rk.size + j) % z.cells.size = j := by
          rw [hzl, Nat.mul_comm, Nat.mul_add_mod, Nat.mod_eq_of_lt hj]
        rw [show e0.sh + k * rk.size + j = k * rk.size + j by simp [e0]]
        simp only [xs, Array.getElem?_map]
        rw [Array.getElem?_range, if_pos (by rw [← g5]; omega)]
        simp only [Option.map_some, hmod]
        have hy' : z.cells[j]? = some y := by simpa using hy
        rw [getElem!_def, hy']
      refine ⟨.slice (some ⟨w.heap.size, 0, none⟩) n n, w.alloc (.cells xs e), ρ.add e0, ?_, Ext.alloc (.cells xs e) e0 h.base rfl, hh2, ?_⟩
      · have := run_makeSlice' (P := P) (w := w) hu hi hz (k1 := k1) (k2 := k2) (Nat.le_refl n) (by omega) q3
        simp only [Int.ofNat_eq_natCast] at this
        rw [this]
        simp [newRow, xs]
      · simp only [Rel]
        refine ⟨e0, _, n, by rw [h.next]; simp, rfl, Nat.le_refl _, by unfold maxI; simp only [e0]; omega, .inr (.inr ⟨rfl, rfl, ?_⟩)⟩
        simp [e0, xs, g5]
  · cases hb
end
end Go.AM
set_option linter.unusedSimpArgs false
set_option linter.unusedVariables false
namespace Go.AM
open Go.RowKit
section
variable {B : Nat} {ρ : Env} {H : Heap} {w : World} {P : Program}

theorem aeqX_I {t : TypeId} {k k' : IntKind} (hu : P.underlying t = some (.int k)) (d : Nat) (a b : Int) : ∃ s, aeqX P (d + 1) t (.sI k' a) (.sI k' b) = some s ∧ (s = true ↔ a = b) :=
  ⟨decide (a = b), by unfold aeqX; rw [hu]; simp [AV.asX], by rw [decide_eq_true_eq]⟩
theorem aeqX_S {t : TypeId} (hu : P.underlying t = some .string) (d : Nat) (a b : List UInt8) : ∃ s, aeqX P (d + 1) t (.sS a) (.sS b) = some s ∧ (s = true ↔ a = b) :=
  ⟨decide (a = b), by unfold aeqX; rw [hu]; rfl, by rw [decide_eq_true_eq]⟩
theorem aeqX_B {t : TypeId} (hu : P.underlying t = some .bool) (d : Nat) (a b : Bool) : ∃ s, aeqX P (d + 1) t (.sB a) (.sB b) = some s ∧ (s = true ↔ a = b) :=
  ⟨a == b, by unfold aeqX; rw [hu]; rfl, by rw [beq_iff_eq]⟩

theorem keyC_eq {t : TypeId} {c : CTy} (h : keyFs.keyC P t c = true) (d : Nat) (a b : c.den) : ∃ s, aeqX P (d + 1) t (c.enc a) (c.enc b) = some s ∧ (s = true ↔ a = b) := by
  unfold keyFs.keyC at h
  split at h
  · rename_i k k' hu; exact aeqX_I hu d a b
  · rename_i hu; exact aeqX_S hu d a b
  · rename_i hu; exact aeqX_B hu d a b
  · cases h

theorem keyC_apart {t : TypeId} {c : CTy} (h : keyFs.keyC P t c = true) (cs : List AV) (i : Nat) : apart P t cs i = cs[i]? := by
  unfold keyFs.keyC at h
  unfold apart
  split at h
  · rename_i k k' hu; rw [hu]; rfl
  · rename_i hu; rw [hu]; rfl
  · rename_i hu; rw [hu]; rfl
  · cases h

theorem keyC_check {t : TypeId} {c : CTy} (h : keyFs.keyC P t c = true) (d : Nat) (v : AV) : aCheckKey P (d + 1) t v = true := by
  unfold keyFs.keyC at h
  unfold aCheckKey
  split at h
  · rename_i k k' hu; rw [hu]
  · rename_i hu; rw [hu]
  · rename_i hu; rw [hu]
  · cases h

theorem keyFs_eq (d : Nat) : ∀ (fs : List Field) (j : Nat) (r : RTy), keyFs P fs j r = true → ∀ (a b : r.den) (pre pre' : List AV), pre.length = j → pre'.length = j →
    ∃ s, aeqXF P (aeqX P (d + 1)) (pre ++ r.enc a) (pre' ++ r.enc b) fs = some s ∧ (s = true ↔ a = b)
  | [], j, r, h => by cases r <;> simp [keyFs] at h
  | [f], j, .one c, h => by
    intro a b pre pre' h1 h2
    simp only [keyFs, Bool.and_eq_true, Bool.not_eq_true'] at h
    obtain ⟨⟨hn, ho⟩, hc⟩ := h
    have ho := Nat.eq_of_beq_eq_true ho
    obtain ⟨s, hs, hi⟩ := keyC_eq hc d a b
    refine ⟨s, ?_, hi⟩
    have e1 : (pre ++ (RTy.one c).enc a)[f.offset]? = some (c.enc a) := by rw [ho, ← h1]; simp [RTy.enc]
    have e2 : (pre' ++ (RTy.one c).enc b)[f.offset]? = some (c.enc b) := by rw [ho, ← h2]; simp [RTy.enc]
    simp only [aeqXF, hn, cond_false, keyC_apart hc, e1, e2, Option.bind_some, hs, Option.map_some]
  | [f], j, .cons c r, h => by
    simp only [keyFs, Bool.and_eq_true] at h
    cases r <;> simp [keyFs] at h
  | f :: g :: fs, j, .one c, h => by simp [keyFs] at h
  | f :: g :: fs, j, .cons c r, h => by
    intro a b pre pre' h1 h2
    simp only [keyFs, Bool.and_eq_true, Bool.not_eq_true'] at h
    obtain ⟨⟨⟨hn, ho⟩, hc⟩, hr⟩ := h
    have ho := Nat.eq_of_beq_eq_true ho
    obtain ⟨s, hs, hi⟩ := keyC_eq hc d a.1 b.1
    obtain ⟨s2, hs2, hi2⟩ := keyFs_eq d (g :: fs) (j + 1) r hr a.2 b.2 (pre ++ [c.enc a.1]) (pre' ++ [c.enc b.1]) (by simp [h1]) (by simp [h2])
    have e1 : (pre ++ (RTy.cons c r).enc a)[f.offset]? = some (c.enc a.1) := by rw [ho, ← h1]; simp [RTy.enc]
    have e2 : (pre' ++ (RTy.cons c r).enc b)[f.offset]? = some (c.enc b.1) := by rw [ho, ← h2]; simp [RTy.enc]
    have e3 : pre ++ (RTy.cons c r).enc a = (pre ++ [c.enc a.1]) ++ r.enc a.2 := by simp [RTy.enc]
    have e4 : pre' ++ (RTy.cons c r).enc b = (pre' ++ [c.enc b.1]) ++ r.enc b.2 := by simp [RTy.enc]
    refine ⟨s && s2, ?_, ?_⟩
    · rw [aeqXF]
      simp only [hn, cond_false, keyC_apart hc, e1, e2, Option.bind_some, hs]
      rw [e3, e4, hs2]
      rfl
    · rw [Bool.and_eq_true, hi, hi2]
      exact ⟨fun ⟨h1, h2⟩ => Prod.ext h1 h2, fun h => by rw [h]; exact ⟨rfl, rfl⟩⟩

theorem keyFs_check (d : Nat) : ∀ (fs : List Field) (j : Nat) (r : RTy), keyFs P fs j r = true → ∀ (cs : List AV), cs.length = j + r.size → aCheckF P (aCheckKey P (d + 1)) cs fs = true
  | [], j, r, h => by cases r <;> simp [keyFs] at h
  | [f], j, .one c, h => by
    intro cs hl
    simp only [keyFs, Bool.and_eq_true, Bool.not_eq_true'] at h
    obtain ⟨⟨hn, ho⟩, hc⟩ := h
    have ho := Nat.eq_of_beq_eq_true ho
    have hlt : f.offset < cs.length := by simp [RTy.size] at hl; omega
    simp only [aCheckF, hn, cond_false, keyC_apart hc, List.getElem?_eq_getElem hlt, keyC_check hc, Bool.and_true]
  | [f], j, .cons c r, h => by
    simp only [keyFs, Bool.and_eq_true] at h
    cases r <;> simp [keyFs] at h
  | f :: g :: fs, j, .one c, h => by simp [keyFs] at h
  | f :: g :: fs, j, .cons c r, h => by
    intro cs hl
    simp only [keyFs, Bool.and_eq_true, Bool.not_eq_true'] at h
    obtain ⟨⟨⟨hn, ho⟩, hc⟩, hr⟩ := h
    have ho := Nat.eq_of_beq_eq_true ho
    have hlt : f.offset < cs.length := by simp [RTy.size] at hl; omega
    have ih := keyFs_check d (g :: fs) (j + 1) r hr cs (by simp [RTy.size] at hl; omega)
    rw [aCheckF]
    simp only [hn, cond_false, keyC_apart hc, List.getElem?_eq_getElem hlt, keyC_check hc, Bool.true_and]
    exact ih

theorem RowV.rel {a : Bool} {r : RTy} {k : r.den} {x : Value} (h : RowV ρ.fz a r k x) : Rel ρ (ofCells a (r.enc k)) x := by
  obtain ⟨ys, h1, rfl, h3⟩ := h
  have h2 := h1.rel
  cases a with
  | true => exact ⟨_, rfl, by simpa using h2⟩
  | false =>
    have hl := h1.length
    rw [h3 rfl] at hl
    obtain ⟨y, rfl⟩ := List.length_eq_one_iff.1 hl
    have hl2 := RTy.enc_length r k
    rw [h3 rfl] at hl2
    obtain ⟨v, hv⟩ := List.length_eq_one_iff.1 hl2
    rw [hv] at h2 ⊢
    simp only [RelL] at h2
    obtain ⟨y', ys', e, h4, h5⟩ := h2
    cases e
    exact h4

theorem rowV_of {a : Bool} {r : RTy} {v : AV} {cs : List AV} {k : r.den} {x : Value} (hc : v.cellsOf a = some cs) (hd : r.dec cs = some k) (hr : Rel ρ v x) : RowV ρ.fz a r k x := by
  cases a with
  | true =>
    unfold AV.cellsOf at hc
    split at hc
    · rw [cond_true] at hc
      cases hc
      simp only [Rel] at hr
      obtain ⟨ys, rfl, hl⟩ := hr
      exact ⟨ys.toList, RTy.dec_sound r hd hl, by simp [valOf], fun h => by cases h⟩
    · cases hc
  | false =>
    unfold AV.cellsOf at hc
    split at hc
    · cases hc
    · rw [cond_false] at hc
      cases hc
      exact ⟨[x], RTy.dec_sound r hd ⟨x, [], rfl, hr, rfl⟩, rfl, fun _ => (RTy.dec_length r hd).symm⟩

theorem key_eq {kt : TypeId} {a : Bool} {r : RTy} (h : keyOk P kt a r = true) (d : Nat) (k e : r.den) : ∃ s, aeqX P (d + 2) kt (ofCells a (r.enc k)) (ofCells a (r.enc e)) = some s ∧ (s = true ↔ k = e) := by
  unfold keyOk at h
  split at h
  · rename_i fs hu
    simp only [Bool.and_eq_true, Bool.not_eq_true'] at h
    obtain ⟨⟨rfl, hst⟩, hf⟩ := h
    obtain ⟨s, hs, hi⟩ := keyFs_eq d fs.toList 0 r hf k e [] [] rfl rfl
    refine ⟨s, ?_, hi⟩
    unfold aeqX
    rw [hu]
    simp only [Option.bind_some, ofCells, cond_true, hst, cond_false]
    exact hs
  · rename_i kk hu
    simp only [Bool.and_eq_true, Bool.not_eq_true'] at h
    obtain ⟨rfl, h⟩ := h
    split at h
    · exact aeqX_I hu (d + 1) k e
    · cases h
  · rename_i hu
    simp only [Bool.and_eq_true, Bool.not_eq_true'] at h
    obtain ⟨rfl, h⟩ := h
    split at h
    · exact aeqX_S hu (d + 1) k e
    · cases h
  · rename_i hu
    simp only [Bool.and_eq_true, Bool.not_eq_true'] at h
    obtain ⟨rfl, h⟩ := h
    split at h
    · exact aeqX_B hu (d + 1) k e
    · cases h
  · cases h

theorem key_check {kt : TypeId} {a : Bool} {r : RTy} (h : keyOk P kt a r = true) (d : Nat) (k : r.den) : aCheckKey P (d + 2) kt (ofCells a (r.enc k)) = true := by
  unfold keyOk at h
  split at h
  · rename_i fs hu
    simp only [Bool.and_eq_true, Bool.not_eq_true'] at h
    obtain ⟨⟨rfl, hst⟩, hf⟩ := h
    unfold aCheckKey
    rw [hu]
    exact keyFs_check d fs.toList 0 r hf (r.enc k) (by rw [RTy.enc_length]; omega)
  · rename_i kk hu; unfold aCheckKey; rw [hu]
  · rename_i hu; unfold aCheckKey; rw [hu]
  · rename_i hu; unfold aCheckKey; rw [hu]
  · cases h

theorem key_check_run {kt : TypeId} {a : Bool} {r : RTy} (h : keyOk P kt a r = true) {k : r.den} {x : Value} (hx : RowV ρ.fz a r k x) (emp : Bool) (w : World) : (Instr.checkKey emp 10000 kt x).run P w = .ok () w :=
  aCheckKey_sound (P := P) (ρ := ρ) emp (9998 + 2) kt _ x w hx.rel (key_check h 9998 k)

theorem key_ask {kt : TypeId} {a : Bool} {r : RTy} (h : keyOk P kt a r = true) {k e : r.den} {x y : Value} (hx : RowV ρ.fz a r k x) (hy : RowV ρ.fz a r e y) : ∃ s : Bool, (s = true ↔ k = e) ∧ ∀ w, (Op.equal kt x y).run P w = .ok s w := by
  obtain ⟨s, h1, h2⟩ := key_eq h 9998 k e
  exact ⟨s, h2, fun w => aeqX_sound (P := P) (ρ := ρ) (9998 + 2) kt _ _ s x y w hx.rel hy.rel h1⟩

theorem key_under {kt : TypeId} {a : Bool} {r : RTy} (h : keyOk P kt a r = true) : ∃ u, P.underlying kt = some u := by
  unfold keyOk at h
  cases hu : P.underlying kt with
  | none => rw [hu] at h; cases h
  | some u => exact ⟨u, rfl⟩

def FoundR {kr vr : RTy} (k : kr.den) (m' : List (kr.den × vr.den)) (l : List MapEntry) (i : Nat) (q : Option (Nat × Value)) : Prop :=
  (q = none ∧ ∀ p ∈ m', p.1 ≠ k) ∨ ∃ j p y, m'[j]? = some p ∧ l[j]? = some y ∧ p.1 = k ∧ q = some (i + j, y.val)

theorem find_rows {kt : TypeId} {ka : Bool} {kr vr : RTy} (hk : keyOk P kt ka kr = true) {k : kr.den} {x : Value} (hx : RowV ρ.fz ka kr k x) : ∀ (m' : List (kr.den × vr.den)) (l : List MapEntry) (i : Nat), m'.length = l.length →
    (∀ (j : Nat) (p : kr.den × vr.den) (y : MapEntry), m'[j]? = some p → l[j]? = some y → RowV ρ.fz ka kr p.1 y.key) →
    ∃ q, (∀ w, (Instr.findAsking kt x l i).run P w = .ok q w) ∧ (∀ u q', P.underlying kt = some u → Instr.findNow u x l i = some q' → q' = q) ∧ FoundR k m' l i q
  | [], l, i, hl, _ => by
    obtain rfl : l = [] := List.length_eq_zero_iff.1 hl.symm
    exact ⟨none, fun w => rfl, fun u q' _ hq => by simp [Instr.findNow] at hq; exact hq.symm, .inl ⟨rfl, fun p hp => by cases hp⟩⟩
  | p :: m', [], i, hl, _ => by simp at hl
  | p :: m', y :: l, i, hl, hr => by
    obtain ⟨s, hs, hq⟩ := key_ask hk hx (hr 0 p y rfl rfl)
    cases s with
    | true =>
      have e : k = p.1 := hs.1 rfl
      refine ⟨some (i, y.val), fun w => by simp [Instr.findAsking, hq], fun u q' hu hn => ?_, .inr ⟨0, p, y, rfl, rfl, e.symm, rfl⟩⟩
      simp only [Instr.findNow] at hn
      cases hs : Instr.sameNow u x y.key with
      | none => simp [hs] at hn
      | some c =>
        have := sameNow_eq hu hq hs
        subst this
        simp [hs] at hn
        exact hn.symm
    | false =>
      have hne : p.1 ≠ k := fun e => by have := hs.2 e.symm; cases this
      obtain ⟨q, g1, g2, g3⟩ := find_rows hk hx m' l (i + 1) (by simpa using hl) (fun j p y h1 h2 => hr (j + 1) p y (by simpa using h1) (by simpa using h2))
      refine ⟨q, fun w => by simp [Instr.findAsking, hq, g1], fun u q' hu hn => ?_, ?_⟩
      · simp only [Instr.findNow] at hn
        cases hs : Instr.sameNow u x y.key with
        | none => simp [hs] at hn
        | some c =>
          have := sameNow_eq hu hq hs
          subst this
          simp only [hs] at hn
          exact g2 u q' hu hn
      · rcases g3 with ⟨h1, h2⟩ | ⟨j, p', y', h1, h2, h3, h4⟩
        · refine .inl ⟨h1, fun p' hp' => ?_⟩
          rcases List.mem_cons.1 hp' with rfl | hp'
          · exact hne
          · exact h2 p' hp'
        · exact .inr ⟨j + 1, p', y', by simpa using h1, by simpa using h2, h3, by rw [h4, show i + 1 + j = i + (j + 1) by omega]⟩

theorem findKey_rows {kt : TypeId} {ka : Bool} {kr vr : RTy} (hk : keyOk P kt ka kr = true) {k : kr.den} {x : Value} (hx : RowV ρ.fz ka kr k x) {m' : List (kr.den × vr.den)} {l : List MapEntry} (hl : m'.length = l.length)
    (hr : ∀ (j : Nat) (p : kr.den × vr.den) (y : MapEntry), m'[j]? = some p → l[j]? = some y → RowV ρ.fz ka kr p.1 y.key) : ∃ q, (Instr.findKey kt x l).run P w = .ok q w ∧ FoundR k m' l 0 q := by
  obtain ⟨q, g1, g2, g3⟩ := find_rows hk hx m' l 0 hl hr
  obtain ⟨u, hu⟩ := key_under hk
  refine ⟨q, ?_, g3⟩
  simp only [Instr.findKey, Sem.run_bind, run_underlying hu, Result.andThen_ok]
  cases hn : Instr.findNow u x l 0 with
  | some q' => rw [g2 u q' hu hn]; rfl
  | none => exact g1 w

end
end Go.AM
set_option linter.unusedSimpArgs false
set_option linter.unusedVariables false
namespace Go.AM
open Go.RowKit
section
variable {B : Nat} {ρ : Env} {H : Heap} {w : World} {P : Program}

theorem same_I (n : Nat) (k : IntKind) (a : Int) : Instr.sameBits n (.int k a) (.int k a) = true := by cases n <;> simp [Instr.sameBits]
theorem same_B (n : Nat) (a : Bool) : Instr.sameBits n (.bool a) (.bool a) = true := by cases n <;> simp [Instr.sameBits]
theorem same_S (n : Nat) (a : ByteArray) : Instr.sameBits n (.string a) (.string a) = true := by cases n <;> simp [Instr.sameBits, bytes_self]

theorem keyC_det {t : TypeId} {c : CTy} (h : keyFs.keyC P t c = true) {σ : Nat → Option (Array Value)} {d : c.den} {x y : Value} (hx : CTy.Rd σ c d x) (hy : CTy.Rd σ c d y) : x = y ∧ ∀ n, Instr.sameBits n x y = true := by
  unfold keyFs.keyC at h
  split at h
  · simp only [CTy.Rd] at hx hy
    obtain ⟨rfl, _⟩ := hx; obtain ⟨rfl, _⟩ := hy
    exact ⟨rfl, fun n => same_I n _ _⟩
  · simp only [CTy.Rd] at hx hy
    obtain ⟨rfl, _⟩ := hx; obtain ⟨rfl, _⟩ := hy
    exact ⟨rfl, fun n => same_S n _⟩
  · simp only [CTy.Rd] at hx hy
    subst hx; subst hy
    exact ⟨rfl, fun n => same_B n _⟩
  · cases h

theorem keyFs_det {σ : Nat → Option (Array Value)} : ∀ (fs : List Field) (j : Nat) (r : RTy), keyFs P fs j r = true → ∀ (d : r.den) (xs ys : List Value), RTy.Rd σ r d xs → RTy.Rd σ r d ys →
    xs = ys ∧ ∀ n, (xs.zip ys).all (fun (x, y) => Instr.sameBits n x y) = true
  | [], j, r, h => by cases r <;> simp [keyFs] at h
  | [f], j, .one c, h => by
    intro d xs ys hx hy
    simp only [keyFs, Bool.and_eq_true] at h
    simp only [RTy.Rd] at hx hy
    obtain ⟨x, rfl, hx⟩ := hx
    obtain ⟨y, rfl, hy⟩ := hy
    obtain ⟨rfl, g⟩ := keyC_det h.2 hx hy
    exact ⟨rfl, fun n => by simp [g n]⟩
  | [f], j, .cons c r, h => by
    simp only [keyFs, Bool.and_eq_true] at h
    cases r <;> simp [keyFs] at h
  | f :: g :: fs, j, .one c, h => by simp [keyFs] at h
  | f :: g :: fs, j, .cons c r, h => by
    intro d xs ys hx hy
    simp only [keyFs, Bool.and_eq_true] at h
    simp only [RTy.Rd] at hx hy
    obtain ⟨x, xs', rfl, hx, hx'⟩ := hx
    obtain ⟨y, ys', rfl, hy, hy'⟩ := hy
    obtain ⟨rfl, k1⟩ := keyC_det h.1.2 hx hy
    obtain ⟨rfl, k2⟩ := keyFs_det (g :: fs) (j + 1) r h.2 d.2 xs' ys' hx' hy'
    exact ⟨rfl, fun n => by simp only [List.zip_cons_cons, List.all_cons, k1 n, k2 n, Bool.and_true]⟩

theorem key_det {kt : TypeId} {a : Bool} {r : RTy} (h : keyOk P kt a r = true) {k : r.den} {x y : Value} (hx : RowV ρ.fz a r k x) (hy : RowV ρ.fz a r k y) : x = y ∧ Instr.sameBits 10000 x y = true := by
  obtain ⟨xs, hx, rfl, hx1⟩ := hx
  obtain ⟨ys, hy, rfl, hy1⟩ := hy
  have scal : ∀ {c : CTy} (hc : (∃ k, c = .int k) ∨ c = .txt ∨ c = .boo) {d : c.den} {x y : Value}, CTy.Rd ρ.fz c d x → CTy.Rd ρ.fz c d y → x = y ∧ Instr.sameBits 10000 x y = true := by
    intro c hc d x y h1 h2
    rcases hc with ⟨k, rfl⟩ | rfl | rfl
    · simp only [CTy.Rd] at h1 h2
      obtain ⟨rfl, _⟩ := h1; obtain ⟨rfl, _⟩ := h2
      exact ⟨rfl, same_I _ _ _⟩
    · simp only [CTy.Rd] at h1 h2
      obtain ⟨rfl, _⟩ := h1; obtain ⟨rfl, _⟩ := h2
      exact ⟨rfl, same_S _ _⟩
    · simp only [CTy.Rd] at h1 h2
      subst h1; subst h2
      exact ⟨rfl, same_B _ _⟩
  unfold keyOk at h
  split at h
  · rename_i fs hu
    simp only [Bool.and_eq_true, Bool.not_eq_true'] at h
    obtain ⟨⟨rfl, hst⟩, hf⟩ := h
    obtain ⟨rfl, g⟩ := keyFs_det fs.toList 0 r hf k xs ys hx hy
    refine ⟨rfl, ?_⟩
    show Instr.sameBits (9999 + 1) (.agg xs.toArray) (.agg xs.toArray) = true
    simp only [Instr.sameBits, beq_self_eq_true, Bool.true_and]
    exact g 9999
  all_goals try (cases h; done)
  all_goals
    simp only [Bool.and_eq_true, Bool.not_eq_true'] at h
    obtain ⟨rfl, h⟩ := h
    split at h
    · simp only [RTy.Rd] at hx hy
      obtain ⟨x, rfl, hx⟩ := hx
      obtain ⟨y, rfl, hy⟩ := hy
      exact scal (by simp) hx hy
    · cases h

section
open Classical
variable {κ ν : Type}
theorem mget_mem {m : List (κ × ν)} (hn : (m.map (·.1)).Nodup) {p : κ × ν} (hp : p ∈ m) : mget m p.1 = some p.2 := by
  induction m with
  | nil => cases hp
  | cons q m ih =>
    rw [List.map_cons, List.nodup_cons] at hn
    unfold mget
    rw [List.find?_cons]
    rcases List.mem_cons.1 hp with rfl | hp
    · simp
    · have hne : q.1 ≠ p.1 := fun e => hn.1 (by rw [e]; exact List.mem_map_of_mem hp)
      simp only [hne, decide_false]
      exact ih hn.2 hp

theorem mget_none {m : List (κ × ν)} {k : κ} (h : ∀ p ∈ m, p.1 ≠ k) : mget m k = none := by
  unfold mget
  rw [List.find?_eq_none.2 fun p hp => by simpa using h p hp]; rfl
end

theorem smap_at (h : HR B ρ H w) {i : Nat} {ka va : Bool} {kr vr : RTy} {m : List (kr.den × vr.den)} {bs : List Nat} {clk : Nat} {e : At} (ho : H.get i = some (.smap ka va kr vr m bs clk)) (he : ρ.ats[i]? = some e) :
    e.nb = false ∧ B ≤ e.b ∧ (m.map (·.1)).Nodup ∧ ∃ arr, w.heap[e.b]? = some (.map arr clk) ∧ Stamps arr.toList clk ∧ bs = arr.toList.map (·.born) ∧ SMapL ρ.fz ka va kr vr m arr.toList := h.at' ho he

/-- What is found, by rows. -/
theorem found_get {kr vr : RTy} {m : List (kr.den × vr.den)} (hn : (m.map (·.1)).Nodup) {k : kr.den} {l : List MapEntry} {q : Option (Nat × Value)} (hf : FoundR k m l 0 q) :
    (q = none ∧ mget m k = none) ∨ ∃ j p y, m[j]? = some p ∧ l[j]? = some y ∧ p.1 = k ∧ q = some (j, y.val) ∧ mget m k = some p.2 := by
  rcases hf with ⟨h1, h2⟩ | ⟨j, p, y, h1, h2, h3, h4⟩
  · exact .inl ⟨h1, mget_none h2⟩
  · refine .inr ⟨j, p, y, h1, h2, h3, by rw [h4, Nat.zero_add], ?_⟩
    rw [← h3]
    exact mget_mem hn (List.mem_of_getElem? h1)

theorem xLookup_sound (h : HR B ρ H w) {t : TypeId} {m k v : AV} {x y : Value} {ok : Bool} (hm : Rel ρ m x) (hk : Rel ρ k y) (hl : xLookup P H t m k ok = some v) :
    ∃ z, (Instr.lookup t x y ok).run P w = .ok z w ∧ Rel ρ v z := by
  unfold xLookup at hl
  simp only [Option.bind_eq_some_iff] at hl
  obtain ⟨u, hu, hl⟩ := hl
  split at hl
  · rename_i kt et i
    simp only [Rel] at hm
    obtain ⟨e, he, rfl⟩ := hm
    split at hl
    · rename_i ka va kr vr rows bs clock ho
      cases hko : keyOk P kt ka kr with
      | false => rw [hko] at hl; cases hl
      | true =>
        rw [hko, cond_true] at hl
        simp only [Option.bind_eq_some_iff, Option.map_eq_some_iff] at hl
        obtain ⟨kc, h1, kd, h2, z, h3, zc, h4, zd, h5, hl⟩ := hl
        obtain ⟨hnb, hB, hnd, arr, g1, g2, gb, g4, g5⟩ := smap_at h ho he
        have hkey := rowV_of h1 h2 hk
        obtain ⟨q, hq, hf⟩ := findKey_rows (w := w) hko hkey g4 fun j p y a b => (g5 j p y a b).1
        have hck := key_check_run hko hkey arr.isEmpty w
        obtain ⟨zv, z1, z2⟩ := zeroA_sound (w := w) h3 ρ
        have hz := (rowV_of h4 h5 z2).rel
        rcases found_get hnd hf with ⟨rfl, f2⟩ | ⟨j, p, ye, f1, f2, f3, rfl, f5⟩
        · rw [f2] at hl
          cases ok
          · simp at hl; subst hl
            exact ⟨zv, by simp [Instr.lookup, run_underlying hu, run_getObj_map g1, hck, hq, z1], hz⟩
          · simp at hl; subst hl
            exact ⟨.tuple #[zv, .bool false], by simp [Instr.lookup, run_underlying hu, run_getObj_map g1, hck, hq, z1], ⟨_, rfl, by simp [RelL, Rel, hz]⟩⟩
        · have hv := (g5 j p ye f1 f2).2.rel
          rw [f5] at hl
          cases ok
          · simp at hl; subst hl
            exact ⟨ye.val, by simp [Instr.lookup, run_underlying hu, run_getObj_map g1, hck, hq], hv⟩
          · simp at hl; subst hl
            exact ⟨.tuple #[ye.val, .bool true], by simp [Instr.lookup, run_underlying hu, run_getObj_map g1, hck, hq], ⟨_, rfl, by simp [RelL, Rel, hv]⟩⟩
    · cases hl
  · cases hl

section
open Classical
variable {κ ν : Type}
theorem key_at {m : List (κ × ν)} (hn : (m.map (·.1)).Nodup) {i j : Nat} {p q : κ × ν} (hi : m[i]? = some p) (hj : m[j]? = some q) (h : p.1 = q.1) : i = j := by
  have hi' : (m.map (·.1))[i]? = some p.1 := by rw [List.getElem?_map, hi]; rfl
  have hj' : (m.map (·.1))[j]? = some p.1 := by rw [List.getElem?_map, hj, h]; rfl
  have h1 := (List.getElem?_eq_some_iff.1 hi').1
  exact (List.getElem?_inj h1 hn).1 (hi'.trans hj'.symm)

theorem map_set {m : List (κ × ν)} (hn : (m.map (·.1)).Nodup) {j : Nat} {p : κ × ν} {k : κ} {v : ν} (hj : m[j]? = some p) (h : p.1 = k) : (m.map fun p => if p.1 = k then (k, v) else p) = m.set j (k, v) := by
  apply List.ext_getElem?
  intro i
  rw [List.getElem?_map, List.getElem?_set]
  by_cases e : j = i
  · subst e
    rw [hj, if_pos rfl, if_pos (List.getElem?_eq_some_iff.1 hj).1]
    simp [h]
  · rw [if_neg e]
    cases hi : m[i]? with
    | none => rfl
    | some q =>
      have hne : q.1 ≠ k := fun e2 => e (key_at hn hj hi (by rw [h, e2]))
      simp [hne]

theorem filter_erase : ∀ {m : List (κ × ν)} (hn : (m.map (·.1)).Nodup) {j : Nat} {p : κ × ν} {k : κ} (hj : m[j]? = some p) (h : p.1 = k), (m.filter fun p => decide (p.1 ≠ k)) = m.eraseIdx j
  | [], _, j, p, k, hj, _ => by simp at hj
  | q :: m, hn, 0, p, k, hj, h => by
    simp only [List.getElem?_cons_zero, Option.some.injEq] at hj
    subst hj; subst h
    rw [List.map_cons, List.nodup_cons] at hn
    rw [List.eraseIdx_cons_zero, List.filter_cons, if_neg (by simp)]
    rw [List.filter_eq_self]
    intro a ha
    rw [decide_eq_true_eq]
    intro e
    exact hn.1 (by rw [← e]; exact List.mem_map_of_mem ha)
  | q :: m, hn, j + 1, p, k, hj, h => by
    rw [List.map_cons, List.nodup_cons] at hn
    simp only [List.getElem?_cons_succ] at hj
    have hne : q.1 ≠ k := fun e => hn.1 (by rw [e, ← h]; exact List.mem_map_of_mem (List.mem_of_getElem? hj))
    rw [List.eraseIdx_cons_succ, List.filter_cons, if_pos (by simpa using hne), filter_erase hn.2 hj h]

theorem mput_some {m : List (κ × ν)} {k : κ} {v u : ν} (h : mget m k = some u) : mput m k v = m.map fun p => if p.1 = k then (k, v) else p := by
  unfold mput; rw [h]; simp
theorem mput_none {m : List (κ × ν)} {k : κ} {v : ν} (h : mget m k = none) : mput m k v = m ++ [(k, v)] := by
  unfold mput; rw [h]; simp
theorem keys_mput {m : List (κ × ν)} {k : κ} {v : ν} : ((m.map fun p => if p.1 = k then (k, v) else p).map (·.1)) = m.map (·.1) := by
  rw [List.map_map]
  apply List.map_congr_left
  intro p _
  by_cases e : p.1 = k
  · simp [e]
  · simp [e]
theorem mget_none_iff {m : List (κ × ν)} {k : κ} (h : mget m k = none) : ∀ p ∈ m, p.1 ≠ k := by
  unfold mget at h
  rw [Option.map_eq_none_iff, List.find?_eq_none] at h
  intro p hp
  simpa using h p hp
end

theorem map_eraseIdx' {α β : Type} (f : α → β) : ∀ (l : List α) (j : Nat), (l.eraseIdx j).map f = (l.map f).eraseIdx j
  | [], j => by simp
  | a :: l, 0 => by simp
  | a :: l, j + 1 => by simp [map_eraseIdx' f l j]

section
open Classical
variable {κ ν : Type} {m : List (κ × ν)} {k : κ} {bs : List Nat} {c : Nat}
theorem bput_some {u : ν} (h : mget m k = some u) : bput m bs c k = bs := by unfold bput; rw [h]; rfl
theorem bput_none (h : mget m k = none) : bput m bs c k = bs ++ [c] := by unfold bput; rw [h]; rfl
theorem cput_some {u : ν} (h : mget m k = some u) : cput m c k = c := by unfold cput; rw [h]; rfl
theorem cput_none (h : mget m k = none) : cput m c k = c + 1 := by unfold cput; rw [h]; rfl
theorem zip_keys (hl : m.length = bs.length) : ((m.map (·.1)).zip bs).map (·.1) = m.map (·.1) := by
  rw [List.map_fst_zip]; simp [hl]
theorem zip_vals (hl : m.length = bs.length) : ((m.map (·.1)).zip bs).map (·.2) = bs := by
  rw [List.map_snd_zip]; simp [hl]
theorem bdel_none (hl : m.length = bs.length) (h : ∀ p ∈ m, p.1 ≠ k) : bdel m bs k = bs := by
  unfold bdel mdel
  rw [List.filter_eq_self.2, zip_vals hl]
  rintro ⟨a, b⟩ hm
  obtain ⟨p, hp, rfl⟩ := List.mem_map.1 (List.of_mem_zip hm).1
  simpa using h p hp
theorem bdel_some (hn : (m.map (·.1)).Nodup) (hl : m.length = bs.length) {j : Nat} {p : κ × ν} (hj : m[j]? = some p) (h : p.1 = k) : bdel m bs k = bs.eraseIdx j := by
  unfold bdel mdel
  have hlt : j < m.length := (List.getElem?_eq_some_iff.1 hj).1
  have hz : ((m.map (·.1)).zip bs)[j]? = some (p.1, bs[j]'(hl ▸ hlt)) := by
    rw [List.getElem?_zip_eq_some]
    exact ⟨by rw [List.getElem?_map, hj]; rfl, List.getElem?_eq_getElem _⟩
  rw [filter_erase (by rw [zip_keys hl]; exact hn) hz h]
  rw [map_eraseIdx', zip_vals hl]
end

open Classical in
theorem xMapUpdate_sound (h : HR B ρ H w) {t : TypeId} {m k v : AV} {x y z : Value} {H' : Heap} (hm : Rel ρ m x) (hk : Rel ρ k y) (hv : Rel ρ v z) (hs : xMapUpdate P H t m k v = some H') :
    ∃ w', (Instr.mapUpdate t x y z).run P w = .ok () w' ∧ HR B ρ H' w' ∧ Ext B ρ w ρ w' := by
  unfold xMapUpdate at hs
  simp only [Option.bind_eq_some_iff] at hs
  obtain ⟨u, hu, hs⟩ := hs
  split at hs
  · rename_i kt et i
    simp only [Rel] at hm
    obtain ⟨e, he, rfl⟩ := hm
    split at hs
    · rename_i ka va kr vr rows bs clock ho
      cases hko : keyOk P kt ka kr with
      | false => rw [hko] at hs; cases hs
      | true =>
        rw [hko, cond_true] at hs
        simp only [Option.bind_eq_some_iff, Option.map_eq_some_iff] at hs
        obtain ⟨kc, h1, kd, h2, vc, h3, vd, h4, rfl⟩ := hs
        obtain ⟨hnb, hB, hnd, arr, g1, ⟨s1, s2⟩, gb, g4, g5⟩ := smap_at h ho he
        have hkey := rowV_of h1 h2 hk
        have hval := rowV_of h3 h4 hv
        obtain ⟨q, hq, hf⟩ := findKey_rows (w := w) hko hkey g4 fun j p y a b => (g5 j p y a b).1
        have hck := key_check_run hko hkey false w
        rcases found_get hnd hf with ⟨rfl, f2⟩ | ⟨j, p, ye, f1, f2, f3, rfl, f5⟩
        · rw [mput_none f2, bput_none f2, cput_none f2]
          have hno := mget_none_iff f2
          obtain ⟨k1, k2⟩ := obj_turn h ho he hnb hB (.map (arr.push { key := y, val := z, born := clock }) (clock + 1)) (o' := .smap ka va kr vr (rows ++ [(kd, vd)]) (bs ++ [clock]) (clock + 1))
            (fun w' hw' => ⟨hnb, hB, by
                rw [List.map_append, List.nodup_append]
                refine ⟨hnd, by simp, fun a ha b hb => ?_⟩
                obtain ⟨p, hp, rfl⟩ := List.mem_map.1 ha
                simp at hb
                rw [hb]
                exact hno p hp, _, hw', ⟨by
                  rw [Array.toList_push, List.map_append, List.nodup_append]
                  refine ⟨s1, by simp, fun a ha b hb => ?_⟩
                  obtain ⟨p, hp, rfl⟩ := List.mem_map.1 ha
                  simp at hb
                  have := s2 p hp
                  omega, fun x hx => by
                  rw [Array.toList_push] at hx
                  rcases List.mem_append.1 hx with hx | hx
                  · have := s2 x hx; omega
                  · simp at hx; rw [hx]; exact Nat.lt_succ_self _⟩, by rw [Array.toList_push, List.map_append, gb]; rfl, by rw [Array.toList_push]; simp [g4], fun j p x hp hx => by
                rw [Array.toList_push] at hx
                rw [List.getElem?_append] at hp hx
                split at hp
                · rename_i hlt
                  rw [if_pos (by omega)] at hx
                  exact g5 j p x hp hx
                · rename_i hlt
                  rw [if_neg (by omega)] at hx
                  rw [g4] at hp
                  have hj0 : j - arr.toList.length = 0 := by
                    have := (List.getElem?_eq_some_iff.1 hx).1
                    simp at this; omega
                  rw [hj0] at hp hx
                  simp at hp hx
                  rw [← hp, ← hx]
                  exact ⟨hkey, hval⟩⟩)
          exact ⟨_, by simp [Instr.mapUpdate, run_underlying hu, run_getObj_map g1, hck, hq, run_setObj_map _ g1], k1, k2⟩
        · rw [mput_some f5, bput_some f5, cput_some f5]
          obtain ⟨d1, d2⟩ := g5 j p ye f1 f2
          rw [f3] at d1
          obtain ⟨det1, det2⟩ := key_det hko d1 hkey
          have hks : (Instr.keyThatStays ye.key y).run P w = .ok y w := by simp [Instr.keyThatStays, det2]
          have hgj : arr[j]? = some ye := by simpa using f2
          have hmod : (arr.modify j fun e => { e with key := y, val := z }).toList = arr.toList.set j { ye with key := y, val := z } := modify_toList _ _ _ _ f2
          have hborn : (arr.toList.set j { ye with key := y, val := z }).map (·.born) = arr.toList.map (·.born) := by
            rw [List.map_set]
            apply List.ext_getElem?
            intro i
            rw [List.getElem?_set]
            by_cases e : j = i
            · subst e
              rw [if_pos rfl, List.getElem?_map, f2]
              rw [if_pos (by rw [List.length_map]; exact (List.getElem?_eq_some_iff.1 f2).1)]; rfl
            · rw [if_neg e]
          obtain ⟨k1, k2⟩ := obj_turn h ho he hnb hB (.map (arr.modify j fun e => { e with key := y, val := z }) clock) (o' := .smap ka va kr vr (rows.map fun p => if p.1 = kd then (kd, vd) else p) bs clock)
            (fun w' hw' => ⟨hnb, hB, by rw [keys_mput]; exact hnd, _, hw', by
                rw [hmod]
                refine ⟨by rw [hborn]; exact s1, fun x hx => ?_⟩
                have : x.born ∈ arr.toList.map (·.born) := by rw [← hborn]; exact List.mem_map_of_mem hx
                obtain ⟨x', hx', e⟩ := List.mem_map.1 this
                rw [← e]; exact s2 x' hx', by rw [hmod, gb]; exact hborn.symm, by rw [hmod]; simp [g4], fun i p' x hp hx => by
                rw [hmod] at hx
                rw [map_set hnd f1 f3] at hp
                rw [List.getElem?_set] at hp hx
                by_cases e : j = i
                · subst e
                  rw [if_pos rfl, if_pos (List.getElem?_eq_some_iff.1 f1).1] at hp
                  rw [if_pos rfl, if_pos (List.getElem?_eq_some_iff.1 f2).1] at hx
                  cases hp; cases hx
                  exact ⟨hkey, hval⟩
                · rw [if_neg e] at hp hx
                  exact g5 i p' x hp hx⟩)
          exact ⟨_, by simp [Instr.mapUpdate, run_underlying hu, run_getObj_map g1, hck, hq, hgj, hks, run_setObj_map _ g1], k1, k2⟩
    · cases hs
  · cases hs

theorem xDelete_sound (h : HR B ρ H w) {t : TypeId} {m k : AV} {x y : Value} {H' : Heap} {ts : TypeId} {rest : List TypeId} (hm : Rel ρ m x) (hk : Rel ρ k y) (hs : xDelete P H t m k = some H') :
    ∃ w', (Builtin.delete_ (t :: rest).toArray ts #[x, y]).run P w = .ok (.tuple #[]) w' ∧ HR B ρ H' w' ∧ Ext B ρ w ρ w' := by
  unfold xDelete at hs
  simp only [Option.bind_eq_some_iff] at hs
  obtain ⟨u, hu, hs⟩ := hs
  split at hs
  · rename_i kt et i
    simp only [Rel] at hm
    obtain ⟨e, he, rfl⟩ := hm
    split at hs
    · rename_i ka va kr vr rows bs clock ho
      cases hko : keyOk P kt ka kr with
      | false => rw [hko] at hs; cases hs
      | true =>
        rw [hko, cond_true] at hs
        simp only [Option.bind_eq_some_iff, Option.map_eq_some_iff] at hs
        obtain ⟨kc, h1, kd, h2, rfl⟩ := hs
        obtain ⟨hnb, hB, hnd, arr, g1, ⟨s1, s2⟩, gb, g4, g5⟩ := smap_at h ho he
        have hkey := rowV_of h1 h2 hk
        obtain ⟨q, hq, hf⟩ := findKey_rows (w := w) hko hkey g4 fun j p y a b => (g5 j p y a b).1
        have hck := key_check_run hko hkey arr.isEmpty w
        have hndd : ((mdel rows kd).map (·.1)).Nodup := hnd.sublist (List.filter_sublist.map _)
        rcases found_get hnd hf with ⟨rfl, f2⟩ | ⟨j, p, ye, f1, f2, f3, rfl, f5⟩
        · have hno := mget_none_iff f2
          have hlen : rows.length = bs.length := by rw [gb, List.length_map]; exact g4
          have hself : mdel rows kd = rows := by
            unfold mdel
            rw [List.filter_eq_self]
            intro a ha
            simpa using hno a ha
          obtain ⟨k1, k2⟩ := obj_turn h ho he hnb hB (.map arr clock) (o' := .smap ka va kr vr (mdel rows kd) (bdel rows bs kd) clock) (fun w' hw' => ⟨hnb, hB, hndd, _, hw', ⟨s1, s2⟩, by rw [bdel_none hlen hno]; exact gb, by rw [hself]; exact ⟨g4, g5⟩⟩)
          exact ⟨_, by simp [Builtin.delete_, run_underlying hu, run_getObj_map g1, hck, hq, run_setObj_map _ g1], k1, k2⟩
        · have hlen : rows.length = bs.length := by rw [gb, List.length_map]; exact g4
          have hj : j < arr.size := by
            have := (List.getElem?_eq_some_iff.1 f2).1
            simpa using this
          have hdel : mdel rows kd = rows.eraseIdx j := filter_erase hnd f1 f3
          have her : (arr.eraseIdxIfInBounds j).toList = arr.toList.eraseIdx j := by simp [Array.eraseIdxIfInBounds, hj]
          obtain ⟨k1, k2⟩ := obj_turn h ho he hnb hB (.map (arr.eraseIdxIfInBounds j) clock) (o' := .smap ka va kr vr (mdel rows kd) (bdel rows bs kd) clock)
            (fun w' hw' => ⟨hnb, hB, hndd, _, hw', by
                rw [her]
                exact ⟨s1.sublist ((List.eraseIdx_sublist ..).map _), fun x hx => s2 x ((List.eraseIdx_sublist ..).subset hx)⟩, by rw [bdel_some hnd hlen f1 f3, her, gb, map_eraseIdx'], by rw [hdel, her, List.length_eraseIdx, List.length_eraseIdx, g4], fun i p' x hp hx => by
                rw [her] at hx
                rw [hdel] at hp
                rw [List.getElem?_eraseIdx] at hp hx
                split at hp
                · rename_i hlt; rw [if_pos hlt] at hx; exact g5 i p' x hp hx
                · rename_i hlt; rw [if_neg hlt] at hx; exact g5 (i + 1) p' x hp hx⟩)
          exact ⟨_, by simp [Builtin.delete_, run_underlying hu, run_getObj_map g1, hck, hq, run_setObj_map _ g1], k1, k2⟩
    · cases hs
  · cases hs
end
end Go.AM
set_option linter.unusedSimpArgs false
set_option linter.unusedVariables false
namespace Go.AM
open Go.RowKit
section
variable {B : Nat} {ρ : Env} {H : Heap} {w : World} {P : Program}

theorem xRange_sound (h : HR B ρ H w) {t : TypeId} {a : AV} {x : Value} {r : AV × Heap} (ha : Rel ρ a x) (hc : xRange P H t a = some r) : SV B P ρ w (Instr.range t x) r.1 r.2 := by
  unfold xRange at hc
  simp only [Option.bind_eq_some_iff] at hc
  obtain ⟨u, hu, hc⟩ := hc
  split at hc
  · rename_i kt et i
    simp only [Rel] at ha
    obtain ⟨e, he, rfl⟩ := ha
    split at hc
    · rename_i ka va kr vr m bs clk ho
      cases hc
      obtain ⟨hnb, hB, hnd, arr, h1, h2⟩ := smap_at h ho he
      let e0 : At := ⟨w.heap.size, 0, 0, 0, 0, false⟩
      have h3 : HR B (ρ.add e0) (H.alloc (.smIter i clk [] clk)) (w.alloc (.mapIter (some e.b) clk #[] clk)) :=
        h.alloc _ _ e0 rfl ⟨rfl, rfl, h.base, e, pre_get (Env.le_add _ _).ats he, heap_alloc_new _ _⟩
      exact ⟨.pointer (some ⟨w.heap.size, 0, none⟩), _, _, by simp [Instr.range, run_underlying hu, run_getObj_map h1], Ext.alloc _ e0 h.base rfl, h3, ⟨e0, by rw [h.next]; simp, rfl⟩⟩
    · rename_i es clock ho
      cases hc
      obtain ⟨hnb, hB, arr, h1, h2⟩ := h.at' ho he
      let e0 : At := ⟨w.heap.size, 0, 0, 0, 0, false⟩
      have h3 : HR B (ρ.add e0) (H.alloc (.cmIter i clock [] [] clock)) (w.alloc (.mapIter (some e.b) clock #[] clock)) :=
        h.alloc _ _ e0 rfl ⟨rfl, rfl, h.base, e, pre_get (Env.le_add _ _).ats he, heap_alloc_new _ _⟩
      exact ⟨.pointer (some ⟨w.heap.size, 0, none⟩), _, _, by simp [Instr.range, run_underlying hu, run_getObj_map h1], Ext.alloc _ e0 h.base rfl, h3, ⟨e0, by rw [h.next]; simp, rfl⟩⟩
    · cases hc
  · cases hc

theorem EntL.borns {ρ : Env} : ∀ {es : List Ent} {xs : List MapEntry}, EntL ρ es xs → es.map (·.born) = xs.map (·.born)
  | [], _, h => by simp only [EntL] at h; subst h; rfl
  | e :: es, _, h => by
    obtain ⟨y, ys, rfl, h1, h2, h3, h4⟩ := h
    rw [List.map_cons, List.map_cons, h3, EntL.borns h4]

theorem xNext_sound (h : HR B ρ H w) {it : AV} {x : Value} {isS : Bool} {p : Option Prop} {l : List ((Nat → Prop) × (Nat → AV × Heap))} {ty : TypeId} (ha : Rel ρ it x) (hc : xNext H it isS = some (p, l)) (hp : obOk p) :
    ∃ q ∈ l, ∃ j, q.1 j ∧ SV B P ρ w (Instr.next x isS ty) (q.2 j).1 (q.2 j).2 := by
  unfold xNext at hc
  split at hc
  · rename_i r
    simp only [Rel] at ha
    obtain ⟨e, he, rfl⟩ := ha
    split at hc
    · rename_i m since seen stepped ho
      obtain ⟨hnb, hs, hB, em, hem, h1⟩ := h.at' ho he
      have hg := run_getObj_any (P := P) (by intro c t f hh; cases hh) h1
      split at hc
      · rename_i ka va kr vr rows bs clock hom
        cases hc
        obtain ⟨hnbm, hBm, hndm, arr, hm1, ⟨s1, s2⟩, gb, g4, g5⟩ := smap_at h hom hem
        have hgm := run_getObj_map (P := P) hm1
        have hguard' : (!seen.toArray.isEmpty && !arr.isEmpty && arr.all (fun e => decide (e.born ≥ stepped))) = false := by
          have hp : notGone bs seen stepped := hp
          rcases hp with hp | hp | ⟨b, hb1, hb2⟩
          · subst hp; rfl
          · have : arr.toList = [] := by
              have := hp; rw [gb, List.map_eq_nil_iff] at this; exact this
            have : arr = #[] := by simpa using this
            subst this; simp
          · rw [gb] at hb1
            obtain ⟨y, hy, rfl⟩ := List.mem_map.1 hb1
            cases ha : arr.all (fun e => decide (e.born ≥ stepped)) with
            | false => simp
            | true =>
              rw [← Array.all_toList, List.all_eq_true] at ha
              have := ha y hy
              simp at this; omega
        generalize hleftr : (arr.filter fun e => !seen.toArray.contains e.born) = left
        have hleft : ∀ y, y ∈ left ↔ y ∈ arr.toList ∧ y.born ∉ seen := fun y => by rw [← hleftr]; simp
        generalize holdr : left.filter (fun e => decide (e.born < since)) = old
        generalize hnewr : left.filter (fun e => decide (e.born ≥ since)) = new
        have hold : ∀ y, y ∈ old ↔ y ∈ left ∧ y.born < since := fun y => by rw [← holdr]; simp
        have hnew : ∀ y, y ∈ new ↔ y ∈ left ∧ y.born ≥ since := fun y => by rw [← hnewr]; simp
        generalize hcr : ((if old.isEmpty then #[none] else #[]) ++ (old ++ new).map some : Array (Option MapEntry)) = cands
        have hrun : (Instr.next (.pointer (some ⟨e.b, e.sh + 0, none⟩)) false ty).run P w =
            ((choose (.mapNext cands.size)).run P w).andThen fun k w1 => (match cands[k]? with
              | some (some e') => (do
                setObj e.b (.mapIter (some em.b) since (seen.toArray.push e'.born) clock)
                pure (.tuple #[.bool true, e'.key, e'.val]) : Sem Value)
              | some none => pure (.tuple #[.bool false])
              | none => stuck "Next: no such candidate").run P w1 := by
          simp only [Instr.next, hs, Nat.zero_add, Sem.run_bind, hg, hgm, Result.andThen_ok, hguard', hleftr, holdr, hnewr, hcr]
          rw [if_neg (by simp)]
          simp only [Sem.run_bind]
          rfl
        have hpos : 0 < cands.size := by
          rw [← hcr]
          by_cases ho : old.isEmpty = true
          · simp [ho]; omega
          · have : 0 < old.size := by
              rcases Nat.eq_zero_or_pos old.size with hz | hz
              · exact absurd (by simpa [Array.isEmpty] using hz) ho
              · exact hz
            simp [ho]; omega
        obtain ⟨k, w1, hk, hch, hw1⟩ : ∃ k w1, k < cands.size ∧ (choose (.mapNext cands.size)).run P w = .ok k w1 ∧ (w1 = w ∨ w1 = { w with drawn := w.drawn + 1 }) := by
          rw [run_choose]
          by_cases hf : (Question.mapNext cands.size).forced = true
          · rw [if_pos hf]; exact ⟨0, w, hpos, rfl, .inl rfl⟩
          · rw [if_neg hf]; exact ⟨_, _, Nat.mod_lt _ hpos, rfl, .inr rfl⟩
        have hH1 : HR B ρ H w1 := by rcases hw1 with rfl | rfl; exact h; exact h.heap rfl
        have hE1 : Ext B ρ w ρ w1 := by rcases hw1 with rfl | rfl; exact Ext.refl _ _ _; exact Ext.heap rfl rfl rfl rfl
        have h11 : w1.heap = w.heap := by rcases hw1 with rfl | rfl <;> rfl
        have hmem : cands[k] ∈ cands := Array.getElem_mem hk
        have hkc : cands[k]? = some cands[k] := Array.getElem?_eq_getElem hk
        cases hck : cands[k] with
        | none =>
          rw [hck] at hmem hkc
          have hemp : old.isEmpty = true := by
            rw [← hcr] at hmem
            cases hb : old.isEmpty with
            | true => rfl
            | false => simp [hb] at hmem
          refine ⟨_, List.mem_cons_self .., 0, fun b hb hlt => ?_, .tuple #[.bool false], w1, ρ, ?_, hE1, hH1, ⟨_, rfl, by simp [RelL, Rel]⟩⟩
          · rw [gb] at hb
            obtain ⟨y, hy, rfl⟩ := List.mem_map.1 hb
            refine Classical.byContradiction fun hno => ?_
            have : y ∈ old := (hold y).2 ⟨(hleft y).2 ⟨hy, hno⟩, hlt⟩
            have h0 : old = #[] := by simpa using hemp
            rw [h0] at this; simp at this
          · rw [hrun, hch]
            simp [hkc]
        | some ye =>
          rw [hck] at hmem hkc
          have hye : ye ∈ arr.toList ∧ ye.born ∉ seen := by
            rw [← hcr] at hmem
            have : ye ∈ old ∨ ye ∈ new := by
              cases hb : old.isEmpty with
              | true => simpa [hb] using hmem
              | false => simpa [hb] using hmem
            rcases this with h | h
            · exact (hleft ye).1 ((hold ye).1 h).1
            · exact (hleft ye).1 ((hnew ye).1 h).1
          obtain ⟨j, hj⟩ := List.getElem?_of_mem hye.1
          have hjl : j < rows.length := by rw [g4]; exact (List.getElem?_eq_some_iff.1 hj).1
          have hrj : rows[j]? = some rows[j] := List.getElem?_eq_getElem hjl
          have hbj : bornAt bs j = ye.born := by
            unfold bornAt
            rw [List.getD_eq_getElem?_getD, gb, List.getElem?_map, hj]; rfl
          have hrow : rows.getD j (kr.dflt, vr.dflt) = rows[j] := by rw [List.getD_eq_getElem?_getD, hrj]; rfl
          obtain ⟨d1, d2⟩ := g5 j _ ye hrj hj
          obtain ⟨k1, k2⟩ := obj_turn hH1 ho he hnb hB (.mapIter (some em.b) since (seen.toArray.push ye.born) clock) (o' := .smIter m since (seen ++ [bornAt bs j]) clock)
            (fun w' hw' => ⟨hnb, hs, hB, em, hem, by rw [hw', hbj]; simp⟩)
          refine ⟨_, List.mem_cons_of_mem _ (List.mem_singleton.2 rfl), j, ⟨hjl, by rw [hbj]; exact hye.2⟩, .tuple #[.bool true, ye.key, ye.val], _, ρ, ?_, hE1.trans k2, k1,
            ⟨_, rfl, ⟨.bool true, [ye.key, ye.val], rfl, by simp [Rel], ye.key, [ye.val], rfl, by unfold keyAt; rw [hrow]; exact d1.rel, ye.val, [], rfl, by unfold valAt; rw [hrow]; exact d2.rel, rfl⟩⟩⟩
          rw [hrun, hch]
          simp [hkc, run_setObj_any (P := P) (w := w1) (b := e.b) (O := .mapIter (some em.b) since seen.toArray stepped) (by intro c t f hh; cases hh) (by rw [h11]; exact h1)]
      · cases hc
    · rename_i m since pre now stepped ho
      obtain ⟨hnb, hs, hB, em, hem, h1⟩ := h.at' ho he
      have hg := run_getObj_any (P := P) (by intro c t f hh; cases hh) h1
      split at hc
      · rename_i es clock hom
        cases hc
        obtain ⟨hnbm, hBm, arr, hm1, hm2⟩ := h.at' hom hem
        have gb := EntL.borns hm2
        have hgm := run_getObj_map (P := P) hm1
        have hguard' : (!(pre ++ now).toArray.isEmpty && !arr.isEmpty && arr.all (fun e => decide (e.born ≥ stepped))) = false := by
          have hp : notGone (es.map (·.born)) (pre ++ now) stepped := hp
          rcases hp with hp | hp | ⟨b, hb1, hb2⟩
          · rw [hp]; rfl
          · have : arr.toList = [] := by
              have := hp; rw [gb, List.map_eq_nil_iff] at this; exact this
            have : arr = #[] := by simpa using this
            subst this; simp
          · rw [gb] at hb1
            obtain ⟨y, hy, rfl⟩ := List.mem_map.1 hb1
            cases ha : arr.all (fun e => decide (e.born ≥ stepped)) with
            | false => simp
            | true =>
              rw [← Array.all_toList, List.all_eq_true] at ha
              have := ha y hy
              simp at this; omega
        generalize hleftr : (arr.filter fun e => !(pre ++ now).toArray.contains e.born) = left
        have hleft : ∀ y, y ∈ left ↔ y ∈ arr.toList ∧ y.born ∉ pre ++ now := fun y => by rw [← hleftr]; simp
        generalize holdr : left.filter (fun e => decide (e.born < since)) = old
        generalize hnewr : left.filter (fun e => decide (e.born ≥ since)) = new
        have hold : ∀ y, y ∈ old ↔ y ∈ left ∧ y.born < since := fun y => by rw [← holdr]; simp
        have hnew : ∀ y, y ∈ new ↔ y ∈ left ∧ y.born ≥ since := fun y => by rw [← hnewr]; simp
        generalize hcr : ((if old.isEmpty then #[none] else #[]) ++ (old ++ new).map some : Array (Option MapEntry)) = cands
        have hrun : (Instr.next (.pointer (some ⟨e.b, e.sh + 0, none⟩)) false ty).run P w =
            ((choose (.mapNext cands.size)).run P w).andThen fun k w1 => (match cands[k]? with
              | some (some e') => (do
                setObj e.b (.mapIter (some em.b) since ((pre ++ now).toArray.push e'.born) clock)
                pure (.tuple #[.bool true, e'.key, e'.val]) : Sem Value)
              | some none => pure (.tuple #[.bool false])
              | none => stuck "Next: no such candidate").run P w1 := by
          simp only [Instr.next, hs, Nat.zero_add, Sem.run_bind, hg, hgm, Result.andThen_ok, hguard', hleftr, holdr, hnewr, hcr]
          rw [if_neg (by simp)]
          simp only [Sem.run_bind]
          rfl
        have hpos : 0 < cands.size := by
          rw [← hcr]
          by_cases ho : old.isEmpty = true
          · simp [ho]; omega
          · have : 0 < old.size := by
              rcases Nat.eq_zero_or_pos old.size with hz | hz
              · exact absurd (by simpa [Array.isEmpty] using hz) ho
              · exact hz
            simp [ho]; omega
        obtain ⟨k, w1, hk, hch, hw1⟩ : ∃ k w1, k < cands.size ∧ (choose (.mapNext cands.size)).run P w = .ok k w1 ∧ (w1 = w ∨ w1 = { w with drawn := w.drawn + 1 }) := by
          rw [run_choose]
          by_cases hf : (Question.mapNext cands.size).forced = true
          · rw [if_pos hf]; exact ⟨0, w, hpos, rfl, .inl rfl⟩
          · rw [if_neg hf]; exact ⟨_, _, Nat.mod_lt _ hpos, rfl, .inr rfl⟩
        have hH1 : HR B ρ H w1 := by rcases hw1 with rfl | rfl; exact h; exact h.heap rfl
        have hE1 : Ext B ρ w ρ w1 := by rcases hw1 with rfl | rfl; exact Ext.refl _ _ _; exact Ext.heap rfl rfl rfl rfl
        have h11 : w1.heap = w.heap := by rcases hw1 with rfl | rfl <;> rfl
        have hmem : cands[k] ∈ cands := Array.getElem_mem hk
        have hkc : cands[k]? = some cands[k] := Array.getElem?_eq_getElem hk
        cases hck : cands[k] with
        | none =>
          rw [hck] at hmem hkc
          have hemp : old.isEmpty = true := by
            rw [← hcr] at hmem
            cases hb : old.isEmpty with
            | true => rfl
            | false => simp [hb] at hmem
          refine ⟨_, List.mem_cons_self .., 0, fun b hb hlt => ?_, .tuple #[.bool false], w1, ρ, ?_, hE1, hH1, ⟨_, rfl, by simp [RelL, Rel]⟩⟩
          · rw [gb] at hb
            obtain ⟨y, hy, rfl⟩ := List.mem_map.1 hb
            refine Classical.byContradiction fun hno => ?_
            have : y ∈ old := (hold y).2 ⟨(hleft y).2 ⟨hy, hno⟩, hlt⟩
            have h0 : old = #[] := by simpa using hemp
            rw [h0] at this; simp at this
          · rw [hrun, hch]
            simp [hkc]
        | some ye =>
          rw [hck] at hmem hkc
          have hye : ye ∈ arr.toList ∧ ye.born ∉ pre ++ now := by
            rw [← hcr] at hmem
            have : ye ∈ old ∨ ye ∈ new := by
              cases hb : old.isEmpty with
              | true => simpa [hb] using hmem
              | false => simpa [hb] using hmem
            rcases this with h | h
            · exact (hleft ye).1 ((hold ye).1 h).1
            · exact (hleft ye).1 ((hnew ye).1 h).1
          obtain ⟨j, hj⟩ := List.getElem?_of_mem hye.1
          have hjl : j < es.length := by rw [← hm2.length]; exact (List.getElem?_eq_some_iff.1 hj).1
          obtain ⟨y, hy, q1, q2, q3⟩ := hm2.get (List.getElem?_eq_getElem hjl)
          obtain rfl : y = ye := Option.some.inj (hy.symm.trans hj)
          obtain ⟨k1, k2⟩ := obj_turn hH1 ho he hnb hB (.mapIter (some em.b) since ((pre ++ now).toArray.push y.born) clock) (o' := .cmIter m since pre (now ++ [es[j].born]) clock)
            (fun w' hw' => ⟨hnb, hs, hB, em, hem, by rw [hw', q3]; simp⟩)
          refine ⟨_, List.mem_cons_of_mem _ (List.mem_map.2 ⟨es[j], List.getElem_mem hjl, rfl⟩), 0, (by show es[j].born ∉ pre ++ now; rw [← q3]; exact hye.2), .tuple #[.bool true, y.key, y.val], _, ρ, ?_, hE1.trans k2, k1,
            ⟨_, rfl, ⟨.bool true, [y.key, y.val], rfl, by simp [Rel], y.key, [y.val], rfl, q1, y.val, [], rfl, q2, rfl⟩⟩⟩
          rw [hrun, hch]
          simp [hkc, run_setObj_any (P := P) (w := w1) (b := e.b) (O := .mapIter (some em.b) since (pre ++ now).toArray stepped) (by intro c t f hh; cases hh) (by rw [h11]; exact h1)]
      · cases hc
    · cases hc
  · cases hc

theorem xEntry_sound (h : HR B ρ H w) {it v : AV} {x : Value} {p : Option Prop} (ha : Rel ρ it x) (hc : xEntry H it = some (p, v)) (hp : obOk p) : ∃ y, (Instr.entry x).run P w = .ok y w ∧ Rel ρ v y := by
  unfold xEntry at hc
  split at hc
  · rename_i r
    simp only [Rel] at ha
    obtain ⟨e, he, rfl⟩ := ha
    split at hc
    · rename_i m since seen stepped ho
      obtain ⟨hnb, hs, hB, em, hem, h1⟩ := h.at' ho he
      have hg := run_getObj_any (P := P) (by intro c t f hh; cases hh) h1
      split at hc
      · rename_i ka va kr vr rows bs clock hom
        cases hc
        obtain ⟨hclk, hne, hmem⟩ : clock = stepped ∧ seen ≠ [] ∧ lastT seen ∈ bs := hp
        subst hclk
        obtain ⟨hnbm, hBm, hndm, arr, hm1, ⟨s1, s2⟩, gb, g4, g5⟩ := smap_at h hom hem
        have hgm := run_getObj_map (P := P) hm1
        have hlast : seen.toArray.back? = some (lastT seen) := by
          rw [← lastN_eq]
          clear h1 hg ho
          unfold lastT
          have : ∀ l : List Nat, l ≠ [] → lastN l = some (l.getLastD 0) := by
            intro l
            induction l with
            | nil => intro h; exact (h rfl).elim
            | cons a l ih =>
              intro _
              cases l with
              | nil => rfl
              | cons b l =>
                have := ih (by simp)
                show lastN (b :: l) = _
                rw [this]; simp [List.getLastD]
          exact this seen hne
        have hj : bs.idxOf (lastT seen) < bs.length := List.idxOf_lt_length_of_mem hmem
        generalize hjj : bs.idxOf (lastT seen) = j at hj
        have hjb : bs[j]? = some (lastT seen) := by subst hjj; rw [List.getElem?_eq_getElem hj, List.getElem_idxOf hj]
        have hla : bs.length = arr.toList.length := by rw [gb, List.length_map]
        have hy : arr.toList[j]? = some (arr.toList[j]'(hla ▸ hj)) := List.getElem?_eq_getElem _
        generalize arr.toList[j]'(hla ▸ hj) = ye at hy
        have hborn : ye.born = lastT seen := by
          rw [gb, List.getElem?_map, hy] at hjb
          simpa using hjb
        have hfind : arr.find? (·.born == lastT seen) = some ye := by
          rw [← Array.find?_toList]
          have hyl := (List.getElem?_eq_some_iff.1 hy)
          obtain ⟨hyl, hye⟩ := hyl
          rw [List.find?_eq_some_iff_getElem]
          refine ⟨by simp [hborn], j, hyl, hye, fun i hi => ?_⟩
          have hi' : i < arr.toList.length := by omega
          simp only [Bool.not_eq_true', beq_eq_false_iff_ne]
          intro hb
          have e1 : (arr.toList.map (·.born))[i]? = some (lastT seen) := by rw [List.getElem?_map, List.getElem?_eq_getElem hi', Option.map_some, hb]
          have e2 : (arr.toList.map (·.born))[j]? = some (lastT seen) := by rw [List.getElem?_map, hy]; simp [hborn]
          have := (List.getElem?_inj (List.getElem?_eq_some_iff.1 e1).1 s1).1 (e1.trans e2.symm)
          omega
        have hrl : j < rows.length := by rw [g4, ← hla]; exact hj
        have hrj : rows[j]? = some rows[j] := List.getElem?_eq_getElem hrl
        have hrow : rows.getD j (kr.dflt, vr.dflt) = rows[j] := by rw [List.getD_eq_getElem?_getD, hrj]; rfl
        obtain ⟨d1, d2⟩ := g5 j _ ye hrj hy
        refine ⟨.tuple #[ye.key, ye.val], ?_, ⟨_, rfl, _, _, rfl, by unfold keyAt; rw [hrow]; exact d1.rel, _, _, rfl, by unfold valAt; rw [hrow]; exact d2.rel, rfl⟩⟩
        have hce : (clock != clock) = false := by simp
        simp only [Instr.entry, hs, Nat.zero_add, Sem.run_bind, hg, Result.andThen_ok, hlast, hgm, hce, Bool.false_eq_true, if_false, hfind, Sem.run_pure]
      · cases hc
    · rename_i m since pre now stepped ho
      obtain ⟨hnb, hs, hB, em, hem, h1⟩ := h.at' ho he
      have hg := run_getObj_any (P := P) (by intro c t f hh; cases hh) h1
      split at hc
      · rename_i es clock hom
        obtain ⟨hnbm, hBm, arr, hm1, hm2⟩ := h.at' hom hem
        have hgm := run_getObj_map (P := P) hm1
        rw [Option.bind_eq_some_iff] at hc
        obtain ⟨s, hlast, hc⟩ := hc
        rw [Option.map_eq_some_iff] at hc
        obtain ⟨en, hfind, hc⟩ := hc
        cases hc
        have hclk : clock = stepped := hp
        subst hclk
        obtain ⟨y, g1, g2, g3⟩ := findE_sound hm2 hfind
        have g1' : arr.find? (·.born == s) = some y := by rw [← Array.find?_toList]; exact g1
        have hlast' : (pre ++ now).toArray.back? = some s := by
          rw [lastN_eq] at hlast
          simp only [List.back?_toArray] at hlast ⊢
          rw [List.getLast?_append, hlast]; rfl
        have hce : (clock != clock) = false := by simp
        refine ⟨.tuple #[y.key, y.val], ?_, ⟨_, rfl, _, _, rfl, g2, _, _, rfl, g3, rfl⟩⟩
        simp only [Instr.entry, hs, Nat.zero_add, Sem.run_bind, hg, Result.andThen_ok, hlast', hgm, hce, Bool.false_eq_true, if_false, g1', Sem.run_pure]
      · cases hc
    · cases hc
  · cases hc
end
end Go.AM
set_option linter.unusedSimpArgs false
set_option linter.unusedVariables false
namespace Go.AM
open Go.RowKit
section
variable {B : Nat} {ρ : Env} {H : Heap} {w : World} {P : Program}

/-- A block of one's own turns, and is not known from there on. -/
theorem HR.drop {w' : World} (h : HR B ρ H w) {i : Nat} {o : AObj} {e : At} (hi : H.get i = some o) (he : ρ.ats[i]? = some e) (hn : e.nb = false) (hB : B ≤ e.b)
    (hsz : w'.heap.size = w.heap.size) (hoth : ∀ k, k ≠ e.b → w'.heap[k]? = w.heap[k]?) : HR B ρ (H.kill i) w' where
  next := h.next
  base := hsz ▸ h.base
  bnd := hsz ▸ h.bnd
  obj j o1 hj := by
    rw [Heap.get_kill] at hj
    by_cases hn' : j = i
    · simp [hn'] at hj
    · simp only [hn', if_false] at hj
      obtain ⟨e', he', ho'⟩ := h.obj j o1 hj
      refine ⟨e', he', ho'.mono (Env.le_refl _) fun hnb => hoth _ fun hb => ?_⟩
      have := h.inj j i o1 o e' e hj hi he' he hnb hn hb hn'
      omega
  inj := (h.kill i).inj
  fz b c hbc := by
    obtain ⟨arr, ty, f, h1, h2⟩ := h.fz b c hbc
    refine ⟨arr, ty, f, (hoth b fun hb => ?_).trans h1, h2⟩
    have := h.fzo i o e c hi he hn (hb ▸ hbc)
    omega
  fzo := (h.kill i).fzo

theorem noEsc_find {fn : Func} (hn : fn.name = "internal/abi.NoEscape") : Extern.find fn = some Extern.AbiNoEscape.same := by
  unfold Extern.find
  dsimp only
  rw [hn]
  kernel_rfl

theorem add64_find {fn : Func} (hn : fn.name = "math/bits.Add64") : Extern.find fn = some add64Entry := by
  unfold Extern.find
  dsimp only
  rw [hn]
  kernel_rfl

def sub64Entry : Array Value → Sem Value := fun args => do
  let (x, y, b) ← Extern.MathBitsCarry.three "Sub64" args
  pure (Extern.MathBitsCarry.pair ((x + Extern.MathBitsCarry.m64 - y - b) % Extern.MathBitsCarry.m64) (if x < y + b then 1 else 0))

theorem sub64_find {fn : Func} (hn : fn.name = "math/bits.Sub64") : Extern.find fn = some sub64Entry := by
  unfold Extern.find
  dsimp only
  rw [hn]
  kernel_rfl

theorem run_sub64 (x y c : Int) (hx : 0 ≤ x) (hy : 0 ≤ y) (hyb : y ≤ 18446744073709551615) (hc0 : 0 ≤ c) (hc : c ≤ 1) (w : World) :
    (sub64Entry #[.int .u64 x, .int .u64 y, .int .u64 c]).run P w =
      .ok (.tuple #[.int .u64 ((x - y - c) % 18446744073709551616), .int .u64 (bif decide (x < y + c) then 1 else 0)]) w := by
  have key : ∀ k : Nat, k ≤ 1 → (sub64Entry #[.int .u64 x, .int .u64 y, .int .u64 (k : Int)]).run P w =
      .ok (Extern.MathBitsCarry.pair ((x.toNat + Extern.MathBitsCarry.m64 - y.toNat - k) % Extern.MathBitsCarry.m64) (if x.toNat < y.toNat + k then 1 else 0)) w := by
    intro k hk
    have : k = 0 ∨ k = 1 := by omega
    rcases this with rfl | rfl <;> rfl
  obtain ⟨k, rfl⟩ := Int.eq_ofNat_of_zero_le hc0
  rw [key k (by omega)]
  obtain ⟨X, rfl⟩ := Int.eq_ofNat_of_zero_le hx
  obtain ⟨Y, rfl⟩ := Int.eq_ofNat_of_zero_le hy
  simp only [Extern.MathBitsCarry.pair, Extern.MathBitsCarry.m64, Int.toNat_natCast]
  have e1 : Int.ofNat ((X + 2 ^ 64 - Y - k) % 2 ^ 64) = (((X : Int) - Y - k) % 18446744073709551616) := by
    simp only [Int.ofNat_eq_natCast]; omega
  have e2 : Int.ofNat (if X < Y + k then 1 else 0) = bif decide ((X : Int) < (Y : Int) + k) then 1 else 0 := by
    by_cases hh : X < Y + k
    · rw [if_pos hh, decide_eq_true (by omega)]; rfl
    · rw [if_neg hh, decide_eq_false (by omega)]; rfl
  rw [e1, e2]

theorem has64 {n : Int} : IntKind.u64.has n ↔ 0 ≤ n ∧ n ≤ 18446744073709551615 := by
  exact Iff.rfl

theorem RelL.three {ρ : Env} {a b d : AV} {xs : Array Value} (h : RelL ρ [a, b, d] xs.toList) : ∃ x y z, xs = #[x, y, z] ∧ Rel ρ a x ∧ Rel ρ b y ∧ Rel ρ d z := by
  simp only [RelL] at h
  obtain ⟨x, l, h0, h1, y, l2, rfl, h2, z, l3, rfl, h3, rfl⟩ := h
  refine ⟨x, y, z, ?_, h1, h2, h3⟩
  have := congrArg List.toArray h0
  rwa [Array.toArray_toList] at this

theorem addX_run {args : List AV} {xs : Array Value} {p : Option Prop} {v : AV} (h : addX args = some (p, v)) (hp : obOk p) (ha : RelL ρ args xs.toList) (w : World) : ∃ y, (add64Entry xs).run P w = .ok y w ∧ Rel ρ v y := by
  unfold addX at h
  split at h
  · rename_i x y c
    cases hb : (Nat.ble x 18446744073709551615 && Nat.ble y 18446744073709551615 && Nat.ble c 1) with
    | false => rw [hb] at h; cases h
    | true =>
      rw [hb] at h; cases h
      simp only [Bool.and_eq_true, Nat.ble_eq] at hb
      obtain ⟨⟨h1, h2⟩, h3⟩ := hb
      obtain ⟨a, b, d, rfl, r1, r2, r3⟩ := ha.three
      simp only [Rel] at r1 r2 r3
      subst r1; subst r2; subst r3
      refine ⟨_, run_add64 _ _ _ (Int.natCast_nonneg _) (Int.natCast_nonneg _) (Int.natCast_nonneg _) (by simp only [Int.ofNat_eq_natCast] at *; omega) w, ?_⟩
      simp only [Rel, RelL]
      exact ⟨_, rfl, _, _, rfl, by congr 1, _, _, rfl, by congr 1, rfl⟩
  · rename_i a b d _
    simp only [Option.bind_eq_some_iff] at h
    obtain ⟨x, hx, y, hy, c, hc, h⟩ := h
    cases hb : (decide (x.1 = .u64) && decide (y.1 = .u64) && decide (c.1 = .u64)) with
    | false => rw [hb] at h; cases h
    | true =>
      rw [hb] at h; cases h
      simp only [Bool.and_eq_true, decide_eq_true_iff] at hb
      obtain ⟨⟨h1, h2⟩, h3⟩ := hb
      obtain ⟨a, b, d, rfl, r1, r2, r3⟩ := ha.three
      obtain ⟨x1, x2⟩ := x; obtain ⟨y1, y2⟩ := y; obtain ⟨c1, c2⟩ := c
      simp only at h1 h2 h3
      subst h1; subst h2; subst h3
      obtain ⟨rfl, k1⟩ := asX_sound hx r1
      obtain ⟨rfl, k2⟩ := asX_sound hy r2
      obtain ⟨rfl, k3⟩ := asX_sound hc r3
      rw [has64] at k1 k2 k3
      have hp : c2 ≤ 1 := hp
      refine ⟨_, run_add64 _ _ _ k1.1 k2.1 k3.1 hp w, ?_⟩
      simp only [Rel, RelL]
      exact ⟨_, rfl, _, _, rfl, ⟨rfl, has64.2 (by omega)⟩, _, _, rfl, ⟨rfl, has64.2 (by omega)⟩, rfl⟩
  · cases h

theorem subX_run {args : List AV} {xs : Array Value} {p : Option Prop} {v : AV} (h : subX args = some (p, v)) (hp : obOk p) (ha : RelL ρ args xs.toList) (w : World) : ∃ y, (sub64Entry xs).run P w = .ok y w ∧ Rel ρ v y := by
  unfold subX at h
  split at h
  · rename_i x y c
    cases hb : (Nat.ble x 18446744073709551615 && Nat.ble y 18446744073709551615 && Nat.ble c 1) with
    | false => rw [hb] at h; cases h
    | true =>
      rw [hb] at h; cases h
      simp only [Bool.and_eq_true, Nat.ble_eq] at hb
      obtain ⟨⟨h1, h2⟩, h3⟩ := hb
      obtain ⟨a, b, d, rfl, r1, r2, r3⟩ := ha.three
      simp only [Rel] at r1 r2 r3
      subst r1; subst r2; subst r3
      refine ⟨_, run_sub64 _ _ _ (Int.natCast_nonneg _) (Int.natCast_nonneg _) (by simp only [Int.ofNat_eq_natCast] at *; omega) (Int.natCast_nonneg _) (by simp only [Int.ofNat_eq_natCast] at *; omega) w, ?_⟩
      simp only [Rel, RelL]
      refine ⟨_, rfl, _, _, rfl, ?_, _, _, rfl, ?_, rfl⟩
      · congr 1; simp only [Int.ofNat_eq_natCast]; omega
      · congr 1
        cases hbb : Nat.blt x (y + c) with
        | true => have := Nat.le_of_ble_eq_true hbb; rw [decide_eq_true (by simp only [Int.ofNat_eq_natCast] at *; omega)]; rfl
        | false =>
          have : ¬ x < y + c := fun hh => by rw [show Nat.blt x (y + c) = true from Nat.ble_eq_true_of_le hh] at hbb; cases hbb
          rw [decide_eq_false (by simp only [Int.ofNat_eq_natCast] at *; omega)]; rfl
  · rename_i a b d _
    simp only [Option.bind_eq_some_iff] at h
    obtain ⟨x, hx, y, hy, c, hc, h⟩ := h
    cases hb : (decide (x.1 = .u64) && decide (y.1 = .u64) && decide (c.1 = .u64)) with
    | false => rw [hb] at h; cases h
    | true =>
      rw [hb] at h; cases h
      simp only [Bool.and_eq_true, decide_eq_true_iff] at hb
      obtain ⟨⟨h1, h2⟩, h3⟩ := hb
      obtain ⟨a, b, d, rfl, r1, r2, r3⟩ := ha.three
      obtain ⟨x1, x2⟩ := x; obtain ⟨y1, y2⟩ := y; obtain ⟨c1, c2⟩ := c
      simp only at h1 h2 h3
      subst h1; subst h2; subst h3
      obtain ⟨rfl, k1⟩ := asX_sound hx r1
      obtain ⟨rfl, k2⟩ := asX_sound hy r2
      obtain ⟨rfl, k3⟩ := asX_sound hc r3
      rw [has64] at k1 k2 k3
      have hp : c2 ≤ 1 := hp
      refine ⟨_, run_sub64 _ _ _ k1.1 k2.1 k2.2 k3.1 hp w, ?_⟩
      simp only [Rel, RelL]
      refine ⟨_, rfl, _, _, rfl, ⟨rfl, has64.2 (by omega)⟩, _, _, rfl, ⟨rfl, has64.2 ?_⟩, rfl⟩
      cases decide (x2 < y2 + c2) <;> simp
  · cases h

/-- A function without a body. -/
theorem xExt_run {k : FuncId} {args : List AV} {xs : Array Value} {p : Option Prop} {v : AV} (h : xExt (extId P k) args = some (p, v)) (hp : obOk p) (ha : RelL ρ args xs.toList) (w : World) : ∃ y, (callFunc k xs).run P w = .ok (.value y) w ∧ Rel ρ v y := by
  unfold extId at h
  split at h
  · rename_i fn hf
    cases hb : (fn.body.isNone && (Extern.findNext fn).isNone) with
    | false => rw [hb] at h; cases h
    | true =>
      rw [hb] at h
      simp only [cond_true] at h
      rw [Bool.and_eq_true] at hb
      obtain ⟨h1, h3⟩ := hb
      cases n1 : fn.name == "internal/abi.NoEscape" with
      | true =>
        rw [n1] at h
        simp only [cond_true, xExt] at h
        split at h
        · cases h
          have h2 := eq_of_beq n1
          obtain ⟨y, hy1, hy2⟩ := ha.one
          have hy1' : xs = #[y] := by
            have := congrArg List.toArray hy1
            rwa [Array.toArray_toList] at this
          subst hy1'
          refine ⟨y, ?_, hy2⟩
          rw [run_callFunc_extern hf (by rw [h2]; rfl) h1 (by simpa using h3) (noEsc_find h2), Lib.run_noEscape]
          rfl
        · cases h
      | false =>
        rw [n1] at h
        simp only [cond_false] at h
        cases n2 : fn.name == "math/bits.Add64" with
        | true =>
          rw [n2] at h
          simp only [cond_true, xExt] at h
          have h2 := eq_of_beq n2
          obtain ⟨y, hy1, hy2⟩ := addX_run (P := P) h hp ha w
          refine ⟨y, ?_, hy2⟩
          rw [run_callFunc_extern hf (by rw [h2]; rfl) h1 (by simpa using h3) (add64_find h2), hy1]
          rfl
        | false =>
          rw [n2] at h
          simp only [cond_false] at h
          cases n3 : fn.name == "math/bits.Sub64" with
          | true =>
            rw [n3] at h
            simp only [cond_true, xExt] at h
            have h2 := eq_of_beq n3
            obtain ⟨y, hy1, hy2⟩ := subX_run (P := P) h hp ha w
            refine ⟨y, ?_, hy2⟩
            rw [run_callFunc_extern hf (by rw [h2]; rfl) h1 (by simpa using h3) (sub64_find h2), hy1]
            rfl
          | false =>
            rw [n3] at h
            cases h
  · cases h

theorem freeze_size (w : World) (a : Addr) (n : Nat) : (w.freeze a n).heap.size = w.heap.size := by
  unfold World.freeze; split <;> simp
theorem freeze_other (w : World) (a : Addr) (n k : Nat) (hk : k ≠ a.block) : (w.freeze a n).heap[k]? = w.heap[k]? := by
  unfold World.freeze; split
  · rfl
  · simp only [Array.getElem?_modify]; rw [if_neg (fun h => hk h.symm)]
theorem freeze_os (w : World) (a : Addr) (n : Nat) : (w.freeze a n).os = w.os ∧ (w.freeze a n).tape = w.tape ∧ (w.freeze a n).output = w.output := by
  unfold World.freeze; split <;> exact ⟨rfl, rfl, rfl⟩

theorem bytesOfAV_at : ∀ {cs : List AV} {bs : List UInt8}, bytesOfAV cs = some bs → bs.length = cs.length ∧ ∀ (j : Nat) (x : UInt8), bs[j]? = some x → cs[j]? = some (.int .u8 (x.toNat : Int))
  | [], bs, h => by cases h; exact ⟨rfl, fun j x hx => by simp at hx⟩
  | c :: r, bs, h => by
    unfold bytesOfAV at h
    split at h
    · rename_i heq; cases heq
    · rename_i n r' heq
      cases heq
      cases hb : Nat.blt n 256 with
      | false => rw [hb] at h; cases h
      | true =>
        rw [hb, cond_true, Option.map_eq_some_iff] at h
        obtain ⟨bs', h1, rfl⟩ := h
        obtain ⟨h2, h3⟩ := bytesOfAV_at h1
        have hn : n < 256 := Nat.le_of_ble_eq_true hb
        refine ⟨by simp [h2], fun j x hx => ?_⟩
        cases j with
        | zero =>
          simp only [List.getElem?_cons_zero, Option.some.injEq] at hx ⊢
          subst hx
          have : (UInt8.ofNat n).toNat = n := by rw [UInt8.toNat_ofNat']; exact Nat.mod_eq_of_lt hn
          rw [this]; rfl
        | succ j => simp only [List.getElem?_cons_succ] at hx ⊢; exact h3 j x hx
    · cases h

theorem xSData_sound {x : AV} {v : Value} {u : AV} (hv : Rel ρ x v) (hx : xSData x = some u) (ts : Array TypeId) (ty : TypeId) : ∃ y, (Builtin.unsafeSliceData_ ts ty #[v]).run P w = .ok y w ∧ Rel ρ u y := by
  unfold xSData at hx
  split at hx
  · rename_i i off len cap ex
    cases hb : Nat.blt 0 cap with
    | false => rw [hb] at hx; cases hx
    | true =>
      rw [hb] at hx; cases hx
      have hc0 : 0 < cap := Nat.le_of_ble_eq_true hb
      simp only [Rel] at hv
      obtain ⟨e, c, he, rfl, h1, h2, _, _⟩ := hv
      exact ⟨_, Lib.run_unsafeSliceData_row _ _ _ _ _ _ (by omega), by simp only [Rel]; exact ⟨e, he, rfl⟩⟩
  · cases hx
    simp only [Rel] at hv
    subst hv
    exact ⟨_, Lib.run_unsafeSliceData_nil _ _ _ _ _, by simp only [Rel]⟩
  · cases hx

theorem xUStr_sound (h : HR B ρ H w) {ts : List TypeId} {x l : AV} {xv lv : Value} (hx : Rel ρ x xv) (hl : Rel ρ l lv) {r : AV × Heap} (hr : xUStr P H ts x l = some r) (ty : TypeId) :
    ∃ y w', (Builtin.unsafeString_ ts.toArray ty #[xv, lv]).run P w = .ok y w' ∧ Ext B ρ w ρ w' ∧ HR B ρ r.2 w' ∧ Rel ρ r.1 y := by
  have hz : ∀ {pt it : TypeId} {p : Option Addr}, ∃ y w', (Builtin.unsafeString_ [pt, it].toArray ty #[.pointer p, .int .i64 (Int.ofNat 0)]).run P w = .ok y w' ∧ Ext B ρ w ρ w' ∧ HR B ρ H w' ∧ Rel ρ (.str []) y :=
    fun {pt it p} => ⟨_, w, Lib.run_unsafeString_none w pt it ty p, Ext.refl _ _ _, h, by simp only [Rel]; rfl⟩
  unfold xUStr at hr
  split at hr
  · rename_i pt it n
    simp only [Rel] at hl
    subst hl
    split at hr
    · cases hb : Nat.beq n 0 with
      | false => rw [hb] at hr; cases hr
      | true =>
        rw [hb] at hr; cases hr
        have hn : n = 0 := Nat.eq_of_beq_eq_true hb
        subst hn
        simp only [Rel] at hx
        subst hx
        exact hz
    · rename_i i off
      cases hb : Nat.beq n 0 with
      | true =>
        rw [hb] at hr; cases hr
        have hn : n = 0 := Nat.eq_of_beq_eq_true hb
        subst hn
        simp only [Rel] at hx
        obtain ⟨e, he, rfl⟩ := hx
        exact hz
      | false =>
        rw [hb, cond_false] at hr
        have hn0 : n ≠ 0 := Nat.ne_of_beq_eq_false hb
        cases hc : Nat.beq off 0 && Nat.ble n maxI with
        | false => rw [hc] at hr; cases hr
        | true =>
          rw [hc, cond_true] at hr
          rw [Bool.and_eq_true] at hc
          have ho : off = 0 := Nat.eq_of_beq_eq_true hc.1
          have hnm : n ≤ maxI := Nat.le_of_ble_eq_true hc.2
          subst ho
          split at hr
          · rename_i e0 es cs e1 hp hi
            cases hd : Nat.beq e0 e1 && Nat.beq (P.cellsOf e1) 1 && Nat.ble n cs.length with
            | false => rw [hd] at hr; cases hr
            | true =>
              rw [hd, cond_true, Option.map_eq_some_iff] at hr
              obtain ⟨bs, hbs, rfl⟩ := hr
              rw [Bool.and_eq_true, Bool.and_eq_true] at hd
              have he01 : e0 = e1 := Nat.eq_of_beq_eq_true hd.1.1
              subst he01
              have hc1 : P.cellsOf e0 = 1 := Nat.eq_of_beq_eq_true hd.1.2
              have hnl : n ≤ cs.length := Nat.le_of_ble_eq_true hd.2
              obtain ⟨b1, b2⟩ := bytesOfAV_at hbs
              have hlen : bs.length = n := by rw [b1, List.length_take]; omega
              obtain ⟨e, he, hob⟩ := h.obj i _ hi
              obtain ⟨hnb, hes, arr, ty', fz, hh, hsz, hcs, _, hro, hty⟩ := hob
              obtain ⟨hB, huf⟩ := hro rfl
              obtain ⟨rfl, hsh0⟩ := hty e0 rfl
              simp only [Rel] at hx
              obtain ⟨e', he', rfl⟩ := hx
              have : e' = e := by rw [he] at he'; exact (Option.some.inj he').symm
              subst this
              have key : ∀ (j : Nat) (x : UInt8), bs[j]? = some x → arr[j]? = some (.int .u8 x.toNat) := fun j x hj => by
                have h1 := b2 j x hj
                rw [List.getElem?_take] at h1
                split at h1
                · obtain ⟨y, hy, hry⟩ := hcs j _ h1
                  simp only [Rel] at hry
                  rw [hsh0, Nat.zero_add] at hy
                  rw [hy, hry]
                · cases h1
              have hle : bs.length ≤ arr.size := by
                have : bs.length - 1 < bs.length := by omega
                have := (Array.getElem?_eq_some_iff.1 (key (bs.length - 1) _ (List.getElem?_eq_getElem this))).1
                omega
              have hne : bs ≠ [] := by intro h0; rw [h0] at hlen; exact hn0 hlen.symm
              have hrun := Lib.run_unsafeString_row (P := P) w pt it ty ty' hp hc1 e'.b arr.size (by simp [World.shape?, hh]) bs hne hle (by rw [hlen]; exact hnm) (fun j x hj => by
                have ha : (⟨e'.b, 0, none⟩ : Addr).add j = ⟨e'.b, j, none⟩ := by unfold Addr.add; split <;> simp_all
                rw [ha, Lib.cell_of_heap hh]
                exact key j x hj)
              obtain ⟨o1, o2, o3⟩ := freeze_os w ⟨e'.b, 0, none⟩ bs.length
              refine ⟨_, w.freeze ⟨e'.b, 0, none⟩ bs.length, ?_, Ext.turn (e := e') (Env.blk_of he hnb) hB (freeze_size ..) (fun k hk => freeze_other w _ _ k hk) o1 o2 o3, h.drop hi he hnb hB (freeze_size ..) (fun k hk => freeze_other w _ _ k hk), by simp only [Rel]; rfl⟩
              rw [hsh0, Nat.add_zero]
              have hn' : (Int.ofNat n : Int) = ((bs.length : Nat) : Int) := by rw [hlen]; rfl
              rw [hn']
              exact hrun
          · cases hr
    · cases hr
  · cases hr
end
end Go.AM
set_option linter.unusedSimpArgs false
set_option linter.unusedVariables false
namespace Go.AM
open Go.RowKit
section
variable {B : Nat} {ρ : Env} {H : Heap} {w : World} {P : Program}

/-- A row that is handed over. -/
theorem frz1_sound (h : HR B ρ H w) {v : AV} {x : Value} (hr : Rel ρ v x) : ∃ ρ', ρ'.ats = ρ.ats ∧ Ext B ρ w ρ' w ∧ HR B ρ' (frz1 H v).2 w ∧ Rel ρ' (frz1 H v).1 x := by
  unfold frz1
  split
  · rename_i j
    split
    · rename_i r rows ty hj
      simp only [Rel] at hr
      obtain ⟨e, base, c, he, rfl, hlc, hlm, hb⟩ := hr
      obtain ⟨h1, h2, h3⟩ := h.at' hj he
      have hk : HR B ρ (H.kill j) w := h.kill j
      rcases hb with ⟨rfl, rfl⟩ | ⟨a, rfl, hsp, rfl⟩ | ⟨hn, rfl, hc⟩
      · refine ⟨ρ, rfl, Ext.refl _ _ _, hk, ?_⟩
        have h0 : rows.length = 0 := by omega
        simp only [Rel, CTy.Rd]
        exact ⟨none, 0, by rw [← h2], by rw [h2]; exact hlc, by rw [h2]; exact hlm, fun _ => rfl, fun k row hk => by
          have := (List.getElem?_eq_some_iff.1 (show (show List r.den from rows)[k]? = some row from hk)).1
          have e : (show List r.den from rows).length = rows.length := rfl
          omega⟩
      · refine ⟨ρ, rfl, Ext.refl _ _ _, hk, ?_⟩
        have h0 : rows.length = 0 := by omega
        simp only [Rel, CTy.Rd]
        exact ⟨some a, 0, by rw [← h2], by rw [h2]; exact hlc, by rw [h2]; exact hlm, fun hh => (by cases hh), fun k row hk => by
          have := (List.getElem?_eq_some_iff.1 (show (show List r.den from rows)[k]? = some row from hk)).1
          have e : (show List r.den from rows).length = rows.length := rfl
          omega⟩
      · rcases h3 with ⟨hn', _⟩ | ⟨_, arr, ty0, fz, h4, h5, h6, h7, h8, h9⟩
        · rw [hn] at hn'; cases hn'
        · have hnone : ρ.fz e.b = none := by
            cases hh : ρ.fz e.b with
            | none => rfl
            | some c' => have := h.fzo j _ e c' hj he hn hh; omega
          let ρ' : Env := { ats := ρ.ats, fz := fun b => if b = e.b then some arr else ρ.fz b }
          have hle : ρ.le ρ' := ⟨List.prefix_refl _, fun b c' hb' => by
            show (if b = e.b then some arr else ρ.fz b) = some c'
            by_cases hbe : b = e.b
            · rw [hbe, hnone] at hb'; cases hb'
            · rw [if_neg hbe]; exact hb'⟩
          have hblk : ρ.blk e.b := Env.blk_of he hn
          refine ⟨ρ', rfl, ⟨hle, rfl, rfl, rfl, Nat.le_refl _, fun _ _ => rfl, fun _ _ _ => rfl, fun b hb' => .inl hb', fun b c' hb' => ?_⟩, ⟨hk.next, hk.base, hk.bnd, fun i o hi => ?_, hk.inj, fun b c' hb' => ?_, fun i o e' c' hi he' hn' hc' => ?_⟩, ?_⟩
          · have hb' : (if b = e.b then some arr else ρ.fz b) = some c' := hb'
            by_cases hbe : b = e.b
            · subst hbe; exact .inr (.inl hblk)
            · rw [if_neg hbe] at hb'; exact .inl hb'
          · obtain ⟨e', he', ho⟩ := hk.obj i o hi
            exact ⟨e', he', ho.mono hle fun _ => rfl⟩
          · have hb' : (if b = e.b then some arr else ρ.fz b) = some c' := hb'
            by_cases hbe : b = e.b
            · rw [if_pos hbe] at hb'
              cases hb'
              subst hbe
              exact ⟨arr, ty0, fz, h4, fun j x hx => hx⟩
            · rw [if_neg hbe] at hb'; exact hk.fz b c' hb'
          · have hc' : (if e'.b = e.b then some arr else ρ.fz e'.b) = some c' := hc'
            by_cases hbe : e'.b = e.b
            · rw [Heap.get_kill] at hi
              by_cases hij : i = j
              · simp [hij] at hi
              · rw [if_neg hij] at hi
                exact h.inj i j o _ e' e hi hj he' he hn' hn hbe hij
            · rw [if_neg hbe] at hc'; exact hk.fzo i o e' c' hi he' hn' hc'
          · simp only [Rel, CTy.Rd]
            refine ⟨some ⟨e.b, e.sh, none⟩, c, by rw [← h2], by rw [h2]; exact hlc, by rw [h2]; exact hlm, fun hh => (by cases hh), fun k row hk => ?_⟩
            obtain ⟨ys, g1, g2⟩ := h6 k row hk
            exact ⟨e.b, e.sh, arr, ys, rfl, by show (if e.b = e.b then some arr else _) = _; rw [if_pos rfl], g1, g2.mono hle.fz⟩
    · exact ⟨ρ, rfl, Ext.refl _ _ _, h, hr⟩
  · exact ⟨ρ, rfl, Ext.refl _ _ _, h, hr⟩

theorem frzL_sound : ∀ {vs : List AV} {xs : List Value} {ρ : Env} {H : Heap}, HR B ρ H w → RelL ρ vs xs → ∃ ρ', ρ'.ats = ρ.ats ∧ Ext B ρ w ρ' w ∧ HR B ρ' (frzL vs H).2 w ∧ RelL ρ' (frzL vs H).1 xs
  | [], xs, ρ, H, h, hr => ⟨ρ, rfl, Ext.refl _ _ _, h, hr⟩
  | v :: vs, xs, ρ, H, h, hr => by
    simp only [RelL] at hr
    obtain ⟨y, ys, rfl, r1, r2⟩ := hr
    obtain ⟨ρ1, a1, e1, h1, q1⟩ := frz1_sound h r1
    obtain ⟨ρ2, a2, e2, h2, q2⟩ := frzL_sound h1 (r2.mono e1.pre)
    refine ⟨ρ2, a2.trans a1, e1.trans e2, h2, ?_⟩
    simp only [frzL, RelL]
    exact ⟨y, ys, rfl, q1.mono e2.pre, q2⟩

theorem frzA_sound (h : HR B ρ H w) {v : AV} {x : Value} (hr : Rel ρ v x) : ∃ ρ', ρ'.ats = ρ.ats ∧ Ext B ρ w ρ' w ∧ HR B ρ' (frzA H v).2 w ∧ Rel ρ' (frzA H v).1 x := by
  unfold frzA
  split
  · simp only [Rel] at hr
    obtain ⟨ys, rfl, hr⟩ := hr
    obtain ⟨ρ', a, e, h', q⟩ := frzL_sound h hr
    exact ⟨ρ', a, e, h', by simp only [Rel]; exact ⟨ys, rfl, q⟩⟩
  · exact frz1_sound h hr

theorem equal_nil {t e : TypeId} (hu : P.underlying t = some (.slice e)) (base : Option Addr) (n c : Nat) (hb : base = none → n = 0 ∧ c = 0) : (Op.equal t (.slice base n c) (.slice none 0 0)).run P w = .ok base.isNone w := by
  have h : ∀ d, (Op.equalIn (d + 1) t (.slice base n c) (.slice none 0 0)).run P w = .ok base.isNone w := fun d => by
    cases base with
    | none => obtain ⟨rfl, rfl⟩ := hb rfl; simp [Op.equalIn, run_underlying hu]
    | some a => simp [Op.equalIn, run_underlying hu]
  exact h 9999

/-- Is a row nil? -/
theorem xNil_sound (h : HR B ρ H w) {op : BinOp} {t : TypeId} {ox oy : Operand} {a b : AV} {x y : Value} {l : List ((Nat → Prop) × (Nat → AV × Heap))} (ha : Rel ρ a x) (hb : Rel ρ b y) (hs : xNil P H op t a b = some l) :
    ∃ r ∈ l, ∃ i, r.1 i ∧ ∃ z, ((do eqGuard op t ox oy x y; binOp op t x y) : Sem Value).run P w = .ok z w ∧ (r.2 i).2 = H ∧ Rel ρ (r.2 i).1 z := by
  have key : ∀ {p : Prop}, nilW H a = some p → ∃ base n c, x = .slice base n c ∧ (base = none → (n = 0 ∧ c = 0) ∧ p) := by
    intro p hp
    unfold nilW at hp
    split at hp
    · rename_i i
      split at hp
      · rename_i r rows ty hi
        cases hp
        simp only [Rel] at ha
        obtain ⟨e, base, c, he, rfl, hlc, hlm, hbb⟩ := ha
        obtain ⟨_, h2, _⟩ := h.at' hi he
        refine ⟨base, e.len, c, rfl, fun hn => ?_⟩
        rcases hbb with ⟨_, rfl⟩ | ⟨a', h', _⟩ | ⟨_, h', _⟩
        · exact ⟨⟨by omega, rfl⟩, by omega⟩
        · rw [hn] at h'; cases h'
        · rw [hn] at h'; cases h'
      · cases hp
    · cases hp
      simp only [Rel] at ha
      obtain ⟨e, base, c, he, rfl, hlc, hlm, _, hbb⟩ := ha
      refine ⟨base, _, c, rfl, fun hn => ?_⟩
      rcases hbb with ⟨_, rfl⟩ | ⟨a', h', _⟩ | ⟨_, h', _⟩
      · exact ⟨⟨by omega, rfl⟩, by omega⟩
      · rw [hn] at h'; cases h'
      · rw [hn] at h'; cases h'
    · cases hp
      simp only [Rel, CTy.Rd] at ha
      obtain ⟨base, cap, rfl, hlc, hlm, hn0, _⟩ := ha
      refine ⟨base, _, cap, rfl, fun hn => ?_⟩
      have := hn0 hn
      exact ⟨⟨by omega, this⟩, by omega⟩
    · cases hp
  unfold xNil at hs
  split at hs
  · simp only [Rel] at hb
    subst hb
    rw [Option.bind_eq_some_iff] at hs
    obtain ⟨u, hu, hs⟩ := hs
    split at hs
    · rw [Option.map_eq_some_iff] at hs
      obtain ⟨p, hp, rfl⟩ := hs
      obtain ⟨base, n, c, rfl, hq⟩ := key hp
      have he := equal_nil (w := w) hu base n c fun hn => (hq hn).1
      have hg : ((do eqGuard .eql t ox oy (.slice base n c) (.slice none 0 0); binOp .eql t (.slice base n c) (.slice none 0 0)) : Sem Value).run P w = .ok (.bool base.isNone) w := by
        simp only [Sem.run_bind, show (eqGuard .eql t ox oy (.slice base n c) (.slice none 0 0)).run P w = .ok () w from rfl, Result.andThen_ok]
        exact binOp_eql_any rfl he
      cases base with
      | none => exact ⟨_, List.mem_cons_self .., 0, (hq rfl).2, _, hg, rfl, by simp [Rel]⟩
      | some a' => exact ⟨_, List.mem_cons_of_mem _ (List.mem_cons_self ..), 0, trivial, _, hg, rfl, by simp [Rel]⟩
    · rw [Option.map_eq_some_iff] at hs
      obtain ⟨p, hp, rfl⟩ := hs
      obtain ⟨base, n, c, rfl, hq⟩ := key hp
      have he := equal_nil (w := w) hu base n c fun hn => (hq hn).1
      have hg : ((do eqGuard .neq t ox oy (.slice base n c) (.slice none 0 0); binOp .neq t (.slice base n c) (.slice none 0 0)) : Sem Value).run P w = .ok (.bool (!base.isNone)) w := by
        simp only [Sem.run_bind, show (eqGuard .neq t ox oy (.slice base n c) (.slice none 0 0)).run P w = .ok () w from rfl, Result.andThen_ok]
        exact binOp_neq_any rfl he
      cases base with
      | none => exact ⟨_, List.mem_cons_self .., 0, (hq rfl).2, _, hg, rfl, by simp [Rel]⟩
      | some a' => exact ⟨_, List.mem_cons_of_mem _ (List.mem_cons_self ..), 0, trivial, _, hg, rfl, by simp [Rel]⟩
    · cases hs
  · cases hs

/-- Rows of nought. -/
theorem xClear_sound (h : HR B ρ H w) {t ts : TypeId} {rest : List TypeId} {x : AV} {y : Value} {H' : Heap} (hx : Rel ρ x y) (hs : xClear P H t x = some H') :
    ∃ w', (Builtin.clear_ (t :: rest).toArray ts #[y]).run P w = .ok (.tuple #[]) w' ∧ HR B ρ H' w' ∧ Ext B ρ w ρ w' := by
  unfold xClear at hs
  simp only at hs
  split at hs
  · rename_i i lo len
    split at hs
    · rename_i r rows ty hi
      simp only [Option.map_eq_some_iff, Option.bind_eq_some_iff] at hs
      obtain ⟨zd, ⟨u, hu, hs⟩, hH⟩ := hs
      split at hs
      · rename_i el
        simp only [Option.bind_eq_some_iff] at hs
        obtain ⟨ie, hie, zv, ⟨z, hz, hc⟩, zs, hcs, hs⟩ := hs
        cases hg : (Nat.beq zs.length ie.size && Nat.beq r.size ie.size) with
        | false => rw [hg] at hs; cases hs
        | true =>
          rw [hg, cond_true] at hs
          simp only [Bool.and_eq_true] at hg
          have g1 := Nat.eq_of_beq_eq_true hg.1
          have g2 := Nat.eq_of_beq_eq_true hg.2
          simp only [Rel] at hx
          obtain ⟨e, base, c, he, rfl, hlc, hlm, hll, hb⟩ := hx
          obtain ⟨h1, h2, h3⟩ := h.at' hi he
          subst hH
          by_cases hl0 : len = 0
          · subst hl0
            refine ⟨w, ?_, ?_, Ext.refl _ _ _⟩
            · cases base <;> simp [Builtin.clear_, run_underlying hu]
            · refine h.congr (fun k => ?_) rfl
              rw [Heap.get_set]
              by_cases hk : k = i
              · subst hk
                rw [if_pos rfl, hi]
                simp only [List.replicate_zero, List.nil_append, Nat.add_zero, List.take_append_drop]
              · rw [if_neg hk]
          · rcases hb with ⟨rfl, rfl⟩ | ⟨a, rfl, hsp, rfl⟩ | ⟨hn, rfl, hcn⟩
            · omega
            · omega
            · rcases h3 with ⟨hn', _⟩ | ⟨_, arr, ty0, fz, h4, h5, h6, h7, h8, h9⟩
              · rw [hn] at hn'; cases hn'
              · have hzr := cells_sound hcs (conv_rel hc ρ)
                have hzsz : z.cells.size = r.size := by have := hzr.length; simp at this; omega
                have hzd := RTy.dec_sound r hs hzr
                let vs : List Value := (Builtin.zeroCells z.cells len).toList
                have hvl : vs.length = len * r.size := by simp [vs, Builtin.zeroCells, hzsz]
                have hpos := r.size_pos
                have hvg : ∀ q m, q < len → m < r.size → vs[q * r.size + m]? = z.cells.toList[m]? := fun q m hq hm => by
                  have hlt : q * r.size + m < len * r.size := by
                    have : (q + 1) * r.size ≤ len * r.size := Nat.mul_le_mul_right _ hq
                    rw [Nat.add_mul] at this; omega
                  have hmod : (q * r.size + m) % z.cells.size = m := by
                    rw [hzsz, Nat.mul_comm, Nat.mul_add_mod, Nat.mod_eq_of_lt hm]
                  have hm' : m < z.cells.size := by omega
                  simp only [vs, Builtin.zeroCells, Array.getElem?_toList, Array.getElem?_map]
                  rw [Array.getElem?_range, if_pos (by rw [hzsz]; exact hlt)]
                  simp only [Option.map_some, hmod]
                  rw [Array.getElem?_eq_getElem hm', getElem!_def, Array.getElem?_eq_getElem hm']
                have hone : ∀ v ∈ vs, v.oneCell' = true := fun v hv => by
                  obtain ⟨q, hq⟩ := List.getElem?_of_mem hv
                  have hql : q < len * r.size := by rw [← hvl]; exact (List.getElem?_eq_some_iff.1 hq).1
                  have hdm := Nat.div_add_mod q r.size
                  have hml := Nat.mod_lt q hpos
                  have hdl : q / r.size < len := (Nat.div_lt_iff_lt_mul hpos).2 hql
                  have := hvg (q / r.size) (q % r.size) hdl hml
                  rw [Nat.mul_comm, hdm, hq] at this
                  exact RTy.Rd.one r _ _ hzd v (List.mem_of_getElem? this.symm)
                obtain ⟨w', arr', r1, r2, r3, r4, r5, r6, r7, r8, r9⟩ := run_storeCells (P := P) e.b (e.sh + lo * e.es) ty0 fz vs 0 arr w h4 (by rw [h5]; exact h8) (by
                  rw [hvl, h5, h1]
                  have : len * e.es ≤ c * e.es := Nat.mul_le_mul_right _ hlc
                  rw [h1] at this hcn; omega) hone
                have hO : ORel ρ B w' e (.seq r (rows.take lo ++ (List.replicate len zd ++ rows.drop (lo + len))) ty) := by
                  refine ⟨h1, by simp; omega, .inr ⟨hn, arr', ty0, fz, r2, r3.trans h5, fun q row hq => ?_, h7, h8, h9⟩⟩
                  have htl : (rows.take lo).length = lo := by simp; omega
                  by_cases hq1 : q < lo
                  · rw [List.getElem?_append_left (by omega), List.getElem?_take_of_lt hq1] at hq
                    obtain ⟨ys, k1, k2⟩ := h6 q row hq
                    refine ⟨ys, fun m zz hzz => ?_, k2⟩
                    have hm : m < r.size := by rw [← k2.length]; exact (List.getElem?_eq_some_iff.1 hzz).1
                    have : (q + 1) * r.size ≤ lo * r.size := Nat.mul_le_mul_right _ hq1
                    rw [Nat.add_mul] at this
                    rw [r4, h1, if_neg (by omega)]
                    exact k1 m zz hzz
                  · rw [List.getElem?_append_right (by omega), htl] at hq
                    by_cases hq2 : q < lo + len
                    · rw [List.getElem?_append_left (by simp; omega), List.getElem?_replicate, if_pos (by omega)] at hq
                      cases hq
                      refine ⟨z.cells.toList, fun m zz hzz => ?_, hzd⟩
                      have hm : m < r.size := by rw [← hzsz]; have := (List.getElem?_eq_some_iff.1 hzz).1; simpa using this
                      have hA : lo * r.size ≤ q * r.size := Nat.mul_le_mul_right _ (by omega)
                      have hB : (q + 1) * r.size ≤ (lo + len) * r.size := Nat.mul_le_mul_right _ (by omega)
                      rw [Nat.add_mul, Nat.add_mul] at hB
                      rw [r4, h1, hvl, if_pos (by omega)]
                      have hg := hvg (q - lo) m (by omega) hm
                      have hS : (q - lo) * r.size = q * r.size - lo * r.size := Nat.sub_mul ..
                      rw [hS] at hg
                      rw [show e.sh + q * r.size + m - (e.sh + lo * r.size + 0) = q * r.size - lo * r.size + m by omega, hg]
                      exact hzz
                    · rw [List.getElem?_append_right (by simp; omega), List.length_replicate, List.getElem?_drop, show lo + len + (q - lo - len) = q by omega] at hq
                      obtain ⟨ys, k1, k2⟩ := h6 q row hq
                      refine ⟨ys, fun m zz hzz => ?_, k2⟩
                      have hm : m < r.size := by rw [← k2.length]; exact (List.getElem?_eq_some_iff.1 hzz).1
                      have hA : (lo + len) * r.size ≤ q * r.size := Nat.mul_le_mul_right _ (by omega)
                      rw [Nat.add_mul] at hA
                      rw [r4, h1, hvl, if_neg (by omega)]
                      exact k1 m zz hzz
                refine ⟨w', ?_, h.turn hi he hn h7 _ r5 r6 hO, Ext.turn (Env.blk_of he hn) h7 r5 r6 r7 r8 r9⟩
                obtain ⟨n, rfl⟩ : ∃ n, len = n + 1 := ⟨len - 1, by omega⟩
                simp only [Builtin.clear_, List.size_toArray, List.length_cons, Nat.zero_lt_succ, getElem?_pos, List.getElem_toArray, List.getElem_cons_zero, Sem.run_bind, run_underlying hu, Result.andThen_ok, zeroValue_run hie hz, Sem.run_pure]
                have r1' : Sem.run P (storeCells { block := e.b, off := e.sh + lo * e.es, spot := none } (Builtin.zeroCells z.cells (n + 1)).toList) w = .ok () w' := r1
                simp only [List.size_toArray, List.length_cons, List.length_nil, Nat.zero_lt_succ, getElem?_pos, List.getElem_toArray, List.getElem_cons_zero, r1', Result.andThen_ok]
      · cases hs
    · cases hs
  · cases hs
end
end Go.AM
set_option linter.unusedSimpArgs false
set_option linter.unusedVariables false
namespace Go.AM
section
open Classical
variable {κ ν : Type} {m : List (κ × ν)} {k k' : κ} {v : ν}

theorem mget_some_iff : (mget m k).isSome = true ↔ ∃ p ∈ m, p.1 = k := by
  unfold mget
  rw [Option.isSome_map, List.find?_isSome]
  simp

theorem mget_none_of (h : (mget m k).isSome = false) : mget m k = none := by
  cases hh : mget m k with
  | none => rfl
  | some u => rw [hh] at h; cases h

theorem length_mput_new (h : (mget m k).isSome = false) : (mput m k v).length = m.length + 1 := by
  rw [mput_none (mget_none_of h)]; simp

theorem length_mput_old (h : (mget m k).isSome = true) : (mput m k v).length = m.length := by
  obtain ⟨u, hu⟩ := Option.isSome_iff_exists.1 h
  rw [mput_some hu]; simp

theorem isSome_mput : (mget (mput m k v) k').isSome = true ↔ k' = k ∨ (mget m k').isSome = true := by
  by_cases h : (mget m k).isSome = true
  · obtain ⟨u, hu⟩ := Option.isSome_iff_exists.1 h
    rw [mput_some hu, mget_some_iff, mget_some_iff]
    constructor
    · rintro ⟨p, hp, rfl⟩
      obtain ⟨q, hq, rfl⟩ := List.mem_map.1 hp
      by_cases e : q.1 = k
      · left; simp [e]
      · right; exact ⟨q, hq, by simp [e]⟩
    · intro hh
      rcases hh with rfl | ⟨p, hp, rfl⟩
      · rw [mget_some_iff] at h
        obtain ⟨p, hp, e⟩ := h
        exact ⟨_, List.mem_map.2 ⟨p, hp, rfl⟩, by simp [e]⟩
      · by_cases e : p.1 = k
        · exact ⟨_, List.mem_map.2 ⟨p, hp, rfl⟩, by simp [e]⟩
        · exact ⟨_, List.mem_map.2 ⟨p, hp, rfl⟩, by simp [e]⟩
  · have h' : (mget m k).isSome = false := by simpa using h
    rw [mput_none (mget_none_of h'), mget_some_iff, mget_some_iff]
    constructor
    · rintro ⟨p, hp, rfl⟩
      rcases List.mem_append.1 hp with hp | hp
      · exact .inr ⟨p, hp, rfl⟩
      · simp at hp; left; rw [hp]
    · intro hh
      rcases hh with rfl | ⟨p, hp, rfl⟩
      · exact ⟨(k', v), by simp, rfl⟩
      · exact ⟨p, by simp [hp], rfl⟩

theorem mem_mdel {p : κ × ν} : p ∈ mdel m k ↔ p ∈ m ∧ p.1 ≠ k := by
  unfold mdel; rw [List.mem_filter]; simp

theorem isSome_mdel : (mget (mdel m k) k').isSome = true ↔ k' ≠ k ∧ (mget m k').isSome = true := by
  rw [mget_some_iff, mget_some_iff]
  constructor
  · rintro ⟨p, hp, rfl⟩
    exact ⟨(mem_mdel.1 hp).2, p, (mem_mdel.1 hp).1, rfl⟩
  · rintro ⟨h, p, hp, rfl⟩
    exact ⟨p, mem_mdel.2 ⟨hp, h⟩, rfl⟩

theorem length_mdel (hn : (m.map (·.1)).Nodup) (h : (mget m k).isSome = true) : (mdel m k).length + 1 = m.length := by
  rw [mget_some_iff] at h
  obtain ⟨p, hp, e⟩ := h
  obtain ⟨j, hj⟩ := List.mem_iff_getElem?.1 hp
  have hlt := (List.getElem?_eq_some_iff.1 hj).1
  unfold mdel
  rw [filter_erase hn hj e, List.length_eraseIdx, if_pos hlt]
  omega

theorem mget_nil : mget ([] : List (κ × ν)) k = none := rfl

theorem mget_cons {p : κ × ν} : mget (p :: m) k = if p.1 = k then some p.2 else mget m k := by
  unfold mget
  rw [List.find?_cons]
  by_cases h : p.1 = k
  · simp [h]
  · simp [h]

theorem mget_append_none {m' : List (κ × ν)} (h : mget m k = none) : mget (m ++ m') k = mget m' k := by
  induction m with
  | nil => rfl
  | cons p m ih =>
    rw [mget_cons] at h
    by_cases e : p.1 = k
    · rw [if_pos e] at h; cases h
    · rw [if_neg e] at h
      rw [List.cons_append, mget_cons, if_neg e, ih h]

theorem mget_append_some {m' : List (κ × ν)} (h : mget m k = some v) : mget (m ++ m') k = some v := by
  induction m with
  | nil => cases h
  | cons p m ih =>
    rw [mget_cons] at h
    rw [List.cons_append, mget_cons]
    by_cases e : p.1 = k
    · rw [if_pos e] at h ⊢; exact h
    · rw [if_neg e] at h ⊢; exact ih h

theorem mget_map_put : mget (m.map fun p => if p.1 = k then (k, v) else p) k' = if k' = k then (mget m k).map (fun _ => v) else mget m k' := by
  induction m with
  | nil => simp [mget_nil]
  | cons p m ih =>
    rw [List.map_cons, mget_cons, ih, mget_cons]
    by_cases e : p.1 = k
    · by_cases e2 : k' = k
      · simp [e, e2]
      · have : ¬ k = k' := fun h => e2 h.symm
        simp [e, e2, this, mget_cons]
    · by_cases e2 : k' = k
      · subst e2; simp [e]
      · by_cases e3 : p.1 = k' <;> simp [e, e2, e3, mget_cons]

theorem mget_mput_self : mget (mput m k v) k = some v := by
  cases h : mget m k with
  | some u => rw [mput_some h, mget_map_put, if_pos rfl, h]; rfl
  | none => rw [mput_none h, mget_append_none h, mget_cons, if_pos rfl]

theorem mget_mput_ne (hk : k' ≠ k) : mget (mput m k v) k' = mget m k' := by
  cases h : mget m k with
  | some u => rw [mput_some h, mget_map_put, if_neg hk]
  | none =>
    rw [mput_none h]
    cases h2 : mget m k' with
    | some u => exact mget_append_some h2
    | none => rw [mget_append_none h2, mget_cons, if_neg fun e => hk e.symm, mget_nil]

theorem mget_mput : mget (mput m k v) k' = if k' = k then some v else mget m k' := by
  by_cases h : k' = k
  · subst h; rw [if_pos rfl, mget_mput_self]
  · rw [if_neg h, mget_mput_ne h]

theorem mget_mdel : mget (mdel m k) k' = if k' = k then none else mget m k' := by
  unfold mdel
  induction m with
  | nil => simp [mget_nil]
  | cons p m ih =>
    rw [List.filter_cons]
    by_cases e : p.1 = k
    · rw [if_neg (by simp [e]), ih, mget_cons]
      by_cases e2 : k' = k
      · simp [e2]
      · have : ¬ k = k' := fun h => e2 h.symm
        simp [e2, e, this]
    · rw [if_pos (by simp [e]), mget_cons, ih, mget_cons]
      by_cases e2 : k' = k
      · subst e2; simp [e]
      · simp [e2]

theorem mget_mem_of {u : ν} (h : mget m k = some u) : (k, u) ∈ m := by
  unfold mget at h
  rw [Option.map_eq_some_iff] at h
  obtain ⟨p, h1, h2⟩ := h
  have h3 := List.find?_some h1
  rw [decide_eq_true_eq] at h3
  have := List.mem_of_find?_eq_some h1
  subst h3; subst h2; exact this

theorem mget_some_mem (hn : (m.map (·.1)).Nodup) {u : ν} : mget m k = some u ↔ (k, u) ∈ m := ⟨mget_mem_of, fun h => mget_mem hn h⟩

theorem mget_len {bs : List Nat} {c : Nat} (hl : m.length = bs.length) : (mput m k v).length = (bput m bs c k).length := by
  cases h : mget m k with
  | some u => rw [mput_some h, bput_some h]; simp [hl]
  | none => rw [mput_none h, bput_none h]; simp [hl]

/-- Keys with their stamps. -/
def kst (m : List (κ × ν)) (bs : List Nat) : List (κ × Nat) := (m.map (·.1)).zip bs

theorem zip_fst_snd {α β : Type} : ∀ (l : List (α × β)), (l.map (·.1)).zip (l.map (·.2)) = l
  | [] => rfl
  | p :: l => by simp [zip_fst_snd l]

theorem keys_mdel {α : Type} : ∀ (l : List (κ × α)), (mdel l k).map (·.1) = (l.map (·.1)).filter fun a => decide (a ≠ k)
  | [] => rfl
  | p :: l => by
    have ih := keys_mdel l
    unfold mdel at ih ⊢
    by_cases e : p.1 = k
    · rw [List.filter_cons_of_neg (by simp [e]), List.map_cons, List.filter_cons_of_neg (by simp [e]), ih]
    · rw [List.filter_cons_of_pos (by simp [e]), List.map_cons, List.map_cons, List.filter_cons_of_pos (by simp [e]), ih]

theorem kst_mdel {bs : List Nat} (hl : m.length = bs.length) : kst (mdel m k) (bdel m bs k) = mdel (kst m bs) k := by
  unfold kst bdel
  have : (mdel m k).map (·.1) = (mdel ((m.map (·.1)).zip bs) k).map (·.1) := by
    rw [keys_mdel, keys_mdel, zip_keys hl]
  rw [this, zip_fst_snd]

theorem mem_kst_mdel {bs : List Nat} (hl : m.length = bs.length) {a : κ} {b : Nat} : (a, b) ∈ kst (mdel m k) (bdel m bs k) ↔ (a, b) ∈ kst m bs ∧ a ≠ k := by
  rw [kst_mdel hl, mem_mdel]

theorem mem_kst_key {bs : List Nat} {a : κ} {b : Nat} (h : (a, b) ∈ kst m bs) : ∃ u, (a, u) ∈ m ∧ b ∈ bs := by
  obtain ⟨h1, h2⟩ := List.of_mem_zip h
  obtain ⟨p, hp, rfl⟩ := List.mem_map.1 h1
  exact ⟨p.2, hp, h2⟩

theorem kst_of_key {bs : List Nat} (hl : m.length = bs.length) {a : κ} {u : ν} (h : (a, u) ∈ m) : ∃ b, (a, b) ∈ kst m bs := by
  obtain ⟨j, hj⟩ := List.getElem?_of_mem h
  have hlt := (List.getElem?_eq_some_iff.1 hj).1
  refine ⟨bs[j]'(hl ▸ hlt), List.mem_of_getElem? (i := j) ?_⟩
  unfold kst
  rw [List.getElem?_zip_eq_some]
  exact ⟨by rw [List.getElem?_map, hj]; rfl, List.getElem?_eq_getElem _⟩

theorem kst_length {bs : List Nat} (hl : m.length = bs.length) : (mdel m k).length = (bdel m bs k).length := by
  have h1 := congrArg List.length (kst_mdel (k := k) hl)
  unfold bdel
  rw [List.length_map]
  unfold kst at h1
  have h2 : (mdel m k).map (·.1) = (mdel ((m.map (·.1)).zip bs) k).map (·.1) := by
    rw [keys_mdel, keys_mdel, zip_keys hl]
  simpa using congrArg List.length h2

theorem nodup_mdel (hn : (m.map (·.1)).Nodup) : ((mdel m k).map (·.1)).Nodup := hn.sublist (List.filter_sublist.map _)

theorem kst_at {bs : List Nat} (hl : m.length = bs.length) {j : Nat} {p : κ × ν} (hj : m[j]? = some p) : (p.1, bs.getD j 0) ∈ kst m bs := by
  have hlt := (List.getElem?_eq_some_iff.1 hj).1
  refine List.mem_of_getElem? (i := j) ?_
  unfold kst
  rw [List.getElem?_zip_eq_some]
  exact ⟨by rw [List.getElem?_map, hj]; rfl, by rw [List.getD_eq_getElem?_getD, List.getElem?_eq_getElem (hl ▸ hlt)]; rfl⟩

/-- A stamp belongs to one key. -/
theorem kst_inj {bs : List Nat} (hl : m.length = bs.length) (hb : bs.Nodup) {a a' : κ} {b : Nat} (h : (a, b) ∈ kst m bs) (h' : (a', b) ∈ kst m bs) : a = a' := by
  obtain ⟨i, hi⟩ := List.getElem?_of_mem h
  obtain ⟨j, hj⟩ := List.getElem?_of_mem h'
  unfold kst at hi hj
  rw [List.getElem?_zip_eq_some] at hi hj
  have : i = j := (List.getElem?_inj (List.getElem?_eq_some_iff.1 hi.2).1 hb).1 (hi.2.trans hj.2.symm)
  subst this
  have := hi.1.symm.trans hj.1
  exact Option.some.inj this
end
end Go.AM
set_option linter.unusedSimpArgs false
set_option linter.unusedVariables false
namespace Go.AM
open Go.RowKit
section
variable {B : Nat} {ρ : Env} {H : Heap} {w : World} {P : Program}

theorem aop_of {fr : Fr} {o : Oper} {p : Option Prop} {r : Res} (h : aopC P fr H o = some (p, r)) (hp : obOk p) : aop P fr H o = some r := by
  unfold aop; rw [h]; simp only [hp, if_true]

theorem aop_inv {fr : Fr} {o : Oper} {r : Res} (h : aop P fr H o = some r) : ∃ p, aopC P fr H o = some (p, r) ∧ obOk p := by
  unfold aop at h
  split at h
  · rename_i p q hq
    split at h
    · rename_i hp; cases h; exact ⟨p, hq, hp⟩
    · cases h
  · cases h

theorem optX_sound {fr : Fr} {a : Act} (hf : FRel ρ fr a.tmps) {o : Option Operand} {u : Option AV} (h : optX fr o = some u) : RelO ρ u (o.map a.eval) := by
  unfold optX at h
  split at h
  · cases h; simp [RelO]
  · simp only [Option.map_eq_some_iff] at h
    obtain ⟨v, hv, rfl⟩ := h
    simp only [RelO, Option.map_some]
    exact ⟨_, rfl, aeval_sound hf hv⟩

theorem xBuiltin_sound (h : HR B ρ H w) {b : Builtin} {ts : List TypeId} {ty : TypeId} {cs : Array Bool} {args : List AV} {xs : List Value} {p : Option Prop} {r : AV × Heap} (ha : RelL ρ args xs)
    (hc : xBuiltin P H b ts args = some (p, r)) (hp : obOk p) : ∃ x w' ρ', (builtin b ts.toArray ty cs xs.toArray).run P w = .ok (.value x) w' ∧ Ext B ρ w ρ' w' ∧ HR B ρ' r.2 w' ∧ Rel ρ' r.1 x := by
  unfold xBuiltin at hc
  split at hc
  · obtain ⟨y, rfl, hy⟩ := ha.one
    cases ts with
    | nil => simp at hc
    | cons t rest =>
      simp only [List.getElem?_cons_zero, Option.bind_some, Option.map_eq_some_iff] at hc
      obtain ⟨q, hq, hc⟩ := hc
      cases hc
      obtain ⟨z, hz, hr⟩ := xLen_sound (ty := ty) (rest := rest) h hy hq hp
      exact ⟨z, w, ρ, by simp only [builtin, Sem.run_bind, hz, Result.andThen_ok, Sem.run_pure], Ext.refl _ _ _, h, hr⟩
  · obtain ⟨y, z, rfl, hy, hz⟩ := ha.two
    rw [Option.map_eq_some_iff] at hc
    obtain ⟨⟨p0, r0⟩, hc, hcp⟩ := hc
    unfold cpyA at hcp
    split at hcp
    · cases hcp
      obtain ⟨x, w', ρ', g1, g2, g3, g4⟩ := xAppend_sound (ty := ty) h hy hz hc hp
      obtain ⟨ρ2, _, e1, h1, q1⟩ := frz1_sound g3 g4
      exact ⟨x, w', ρ2, by simp only [builtin, Sem.run_bind, g1, Result.andThen_ok, Sem.run_pure], g2.trans e1, h1, q1⟩
    · cases hcp
      obtain ⟨x, w', ρ', g1, g2, g3, g4⟩ := xAppend_sound (ty := ty) h hy hz hc hp
      exact ⟨x, w', ρ', by simp only [builtin, Sem.run_bind, g1, Result.andThen_ok, Sem.run_pure], g2, g3, g4⟩
  · obtain ⟨y, z, rfl, hy, hz⟩ := ha.two
    cases ts with
    | nil => simp at hc
    | cons t rest =>
      simp only [List.getElem?_cons_zero, Option.bind_some, Option.map_eq_some_iff] at hc
      obtain ⟨H', hH', hc⟩ := hc
      cases hc
      obtain ⟨w', g1, g2, g3⟩ := xDelete_sound (ts := ty) (rest := rest) h hy hz hH'
      exact ⟨.tuple #[], w', ρ, by simp only [builtin, Sem.run_bind, g1, Result.andThen_ok, Sem.run_pure], g3, g2, by simp [Rel, RelL]⟩
  · obtain ⟨y, rfl, hy⟩ := ha.one
    cases ts with
    | nil => simp at hc
    | cons t rest =>
      simp only [List.getElem?_cons_zero, Option.bind_some, Option.map_eq_some_iff] at hc
      obtain ⟨H', hH', hc⟩ := hc
      cases hc
      obtain ⟨w', g1, g2, g3⟩ := xClear_sound (ts := ty) (rest := rest) h hy hH'
      exact ⟨.tuple #[], w', ρ, by simp only [builtin, Sem.run_bind, g1, Result.andThen_ok, Sem.run_pure], g3, g2, by simp [Rel, RelL]⟩
  · simp only [Option.map_eq_some_iff] at hc
    obtain ⟨v, hv, hc⟩ := hc
    cases hc
    obtain ⟨z, hz, hr⟩ := xMinMax_sound (w := w) (P := P) ha hv ts.toArray ty
    simp only [cond_false] at hz
    exact ⟨z, w, ρ, by simp only [builtin, Sem.run_bind, hz, Result.andThen_ok, Sem.run_pure], Ext.refl _ _ _, h, hr⟩
  · simp only [Option.map_eq_some_iff] at hc
    obtain ⟨v, hv, hc⟩ := hc
    cases hc
    obtain ⟨z, hz, hr⟩ := xMinMax_sound (w := w) (P := P) ha hv ts.toArray ty
    simp only [cond_true] at hz
    exact ⟨z, w, ρ, by simp only [builtin, Sem.run_bind, hz, Result.andThen_ok, Sem.run_pure], Ext.refl _ _ _, h, hr⟩
  · obtain ⟨y, rfl, hy⟩ := ha.one
    simp only [Option.map_eq_some_iff] at hc
    obtain ⟨v, hv, hc⟩ := hc
    cases hc
    obtain ⟨z, hz, hr⟩ := xSData_sound (w := w) (P := P) hy hv ts.toArray ty
    exact ⟨z, w, ρ, by simp only [builtin, Sem.run_bind, hz, Result.andThen_ok, Sem.run_pure], Ext.refl _ _ _, h, hr⟩
  · obtain ⟨y, z, rfl, hy, hz⟩ := ha.two
    simp only [Option.map_eq_some_iff] at hc
    obtain ⟨r', hr', hc⟩ := hc
    cases hc
    obtain ⟨v, w', g1, g2, g3, g4⟩ := xUStr_sound h hy hz hr' ty
    exact ⟨v, w', ρ, by simp only [builtin, Sem.run_bind, g1, Result.andThen_ok, Sem.run_pure], g2, g3, g4⟩
  · cases hc

theorem okUnitE {s : Sem Unit} {H' : Heap} {w' : World} {ρ' : Env} (h1 : s.run P w = .ok () w') (h2 : Ext B ρ w ρ' w') (h3 : HR B ρ' H' w') : OpOk B P ρ w (do s; pure .skip) (.val (.tup []) H') :=
  ⟨undef, w', ρ', .inr ⟨by simp only [Sem.run_bind, h1, Result.andThen_ok, Sem.run_pure], rfl⟩, h2, h3, by simp [Rel, RelL, undef]⟩

theorem aopX_sound (h : HR B ρ H w) {fr : Fr} {a : Act} (hf : FRel ρ fr a.tmps) {o : Oper} {p : Option Prop} {r : Res} (hr : aopX P fr H o = some (p, r)) (hp : obOk p) : OpOk B P ρ w (execOp a.eval o) r := by
  obtain ⟨dst, op, type, pos, after, guard⟩ := o
  simp only [aopX] at hr
  split at hr
  · simp only [Option.bind_eq_some_iff, Option.map_eq_some_iff] at hr
    obtain ⟨u, hu, v, hv, hr⟩ := hr
    cases hr
    exact okSame h (xLoad_sound h (aeval_sound hf hu) hv)
  · simp only [Option.bind_eq_some_iff] at hr
    obtain ⟨u, hu, v, hv, hr⟩ := hr
    split at hr
    · rename_i H' hH
      cases hr
      exact okUnit (xStore_sound h (aeval_sound hf hu) (aeval_sound hf hv) hH)
    · rw [Option.map_eq_some_iff] at hr
      obtain ⟨H', hH, hr⟩ := hr
      cases hr
      obtain ⟨ρ1, _, e1, h1, q1⟩ := frzA_sound h (aeval_sound hf hv)
      obtain ⟨w', g1, g2, g3⟩ := xStore_sound (P := P) h1 ((aeval_sound hf hu).mono e1.pre) q1 hH
      exact okUnitE g1 (e1.trans g3) g2
  · rename_i x
    simp only [Option.bind_eq_some_iff] at hr
    obtain ⟨v, hv, hr⟩ := hr
    have hx := aeval_sound hf hv
    split at hr
    · cases hr
      have hx' := hx
      simp only [Rel] at hx
      obtain ⟨e, he, hn, _, hxe⟩ := hx
      exact ⟨_, w, ρ, .inl (by simp only [execOp, hxe]; rfl), Ext.refl _ _ _, h, by rw [hxe] at hx'; exact hx'⟩
    · cases hr
      have hx' := hx
      simp only [Rel] at hx
      obtain ⟨b, off, arr, ys, hxe, h2⟩ := hx
      exact ⟨_, w, ρ, .inl (by simp only [execOp, hxe]; rfl), Ext.refl _ _ _, h, by rw [hxe] at hx'; exact hx'⟩
    · cases hr
  · simp only [Option.bind_eq_some_iff] at hr
    obtain ⟨u, hu, v, hv, hr⟩ := hr
    split at hr
    · rename_i r' hq
      obtain ⟨q, z⟩ := r'
      cases hr
      exact okSame h (xBin_sound (aeval_sound hf hu) (aeval_sound hf hv) hq hp)
    · rw [Option.map_eq_some_iff] at hr
      obtain ⟨l, hl, hr⟩ := hr
      cases hr
      obtain ⟨r', h1, i, h2, z, h3, h4, h5⟩ := xNil_sound h (aeval_sound hf hu) (aeval_sound hf hv) hl
      exact ⟨r', h1, i, h2, z, w, ρ, by simp only [execOp, Sem.run_bind, Sem.run_pure] at h3 ⊢; rw [h3]; rfl, Ext.refl _ _ _, by rw [h4]; exact h, h5⟩
  · simp only [Option.bind_eq_some_iff, Option.map_eq_some_iff] at hr
    obtain ⟨u, hu, v, hv, hr⟩ := hr
    cases hr
    exact okSame h (xUn_sound (aeval_sound hf hu) hv)
  · simp only [Option.bind_eq_some_iff, Option.map_eq_some_iff] at hr
    obtain ⟨u, hu, ⟨q, z⟩, hq, hr⟩ := hr
    cases hr
    exact okVal (xConv_sound h (aeval_sound hf hu) hq hp)
  · simp only [Option.bind_eq_some_iff, Option.map_eq_some_iff] at hr
    obtain ⟨u, hu, v, hv, ⟨q, z⟩, hq, hr⟩ := hr
    cases hr
    exact okVal (xMakeSlice_sound h (aeval_sound hf hu) (aeval_sound hf hv) hq hp)
  · simp only [Option.bind_eq_some_iff, Option.map_eq_some_iff] at hr
    obtain ⟨u, hu, l, hl, hh, hhh, m, hm, ⟨q, z⟩, hq, hr⟩ := hr
    cases hr
    exact okSame h (xSlice_sound h (aeval_sound hf hu) (optX_sound hf hl) (optX_sound hf hhh) (optX_sound hf hm) hq hp)
  · simp only [Option.bind_eq_some_iff, Option.map_eq_some_iff] at hr
    obtain ⟨u, hu, v, hv, hr⟩ := hr
    cases hr
    exact okSame h (xFieldAddr_sound (aeval_sound hf hu) hv)
  · simp only [Option.bind_eq_some_iff, Option.map_eq_some_iff] at hr
    obtain ⟨u, hu, v, hv, ⟨q, z⟩, hq, hr⟩ := hr
    cases hr
    exact okSame h (xIndexAddr_sound h (aeval_sound hf hu) (aeval_sound hf hv) hq hp)
  · simp only [Option.bind_eq_some_iff, Option.map_eq_some_iff] at hr
    obtain ⟨u, hu, v, hv, ⟨q, z⟩, hq, hr⟩ := hr
    cases hr
    exact okSame h (xIndex_sound (aeval_sound hf hu) (aeval_sound hf hv) hq hp)
  · simp only [Option.bind_eq_some_iff, Option.map_eq_some_iff] at hr
    obtain ⟨u, hu, v, hv, z, hz, hr⟩ := hr
    cases hr
    exact okSame h (xLookup_sound h (aeval_sound hf hu) (aeval_sound hf hv) hz)
  · simp only [Option.bind_eq_some_iff] at hr
    obtain ⟨u, hu, v, hv, x, hx, hr⟩ := hr
    split at hr
    · rename_i H' hH
      cases hr
      exact okUnit (xMapUpdate_sound h (aeval_sound hf hu) (aeval_sound hf hv) (aeval_sound hf hx) hH)
    · rw [Option.map_eq_some_iff] at hr
      obtain ⟨H', hH, hr⟩ := hr
      cases hr
      obtain ⟨ρ1, _, e1, h1, q1⟩ := frzA_sound h (aeval_sound hf hx)
      obtain ⟨w', g1, g2, g3⟩ := xMapUpdate_sound (P := P) h1 ((aeval_sound hf hu).mono e1.pre) ((aeval_sound hf hv).mono e1.pre) q1 hH
      exact okUnitE g1 (e1.trans g3) g2
  · simp only [Option.bind_eq_some_iff] at hr
    obtain ⟨u, hu, v, hv, x, hx, hr⟩ := hr
    split at hr
    · rename_i H' hH
      cases hr
      exact okUnit (xMapUpdate_sound h (aeval_sound hf hu) (aeval_sound hf hv) (aeval_sound hf hx) hH)
    · rw [Option.map_eq_some_iff] at hr
      obtain ⟨H', hH, hr⟩ := hr
      cases hr
      obtain ⟨ρ1, _, e1, h1, q1⟩ := frzA_sound h (aeval_sound hf hx)
      obtain ⟨w', g1, g2, g3⟩ := xMapUpdate_sound (P := P) h1 ((aeval_sound hf hu).mono e1.pre) ((aeval_sound hf hv).mono e1.pre) q1 hH
      exact okUnitE g1 (e1.trans g3) g2
  · simp only [Option.bind_eq_some_iff, Option.map_eq_some_iff] at hr
    obtain ⟨u, hu, q, hq, hr⟩ := hr
    cases hr
    exact okVal (xRange_sound h (aeval_sound hf hu) hq)
  · simp only [Option.bind_eq_some_iff, Option.map_eq_some_iff] at hr
    obtain ⟨u, hu, ⟨q, l⟩, hq, hr⟩ := hr
    cases hr
    obtain ⟨f, hfm, j, hj, x, w', ρ', g1, g2, g3, g4⟩ := xNext_sound (P := P) (ty := type) h (aeval_sound hf hu) hq hp
    exact ⟨f, hfm, j, hj, x, w', ρ', by simp only [execOp, Sem.run_bind, g1, Result.andThen_ok, Sem.run_pure], g2, g3, g4⟩
  · simp only [Option.bind_eq_some_iff, Option.map_eq_some_iff] at hr
    obtain ⟨u, hu, ⟨q, z⟩, hq, hr⟩ := hr
    cases hr
    exact okSame h (xEntry_sound h (aeval_sound hf hu) hq hp)
  · rename_i c
    split at hr
    · rename_i b hb
      simp only [Option.bind_eq_some_iff, Option.map_eq_some_iff] at hr
      obtain ⟨args, hargs, ⟨q, z⟩, hq, hr⟩ := hr
      cases hr
      have ha := evalL_arr hf hargs
      obtain ⟨x, w', ρ', g1, g2, g3, g4⟩ := xBuiltin_sound (ty := type) (cs := c.args.map fun | .const _ => true | _ => false) h ha hq hp
      refine ⟨x, w', ρ', .inl ?_, g2, g3, g4⟩
      simp only [execOp, resolve, hb, Sem.run_bind, Sem.run_pure, Result.andThen_ok, invoke]
      rw [Array.toArray_toList, Array.toArray_toList] at g1
      exact g1
    · rename_i k hk
      simp only [Option.bind_eq_some_iff, Option.map_eq_some_iff] at hr
      obtain ⟨args, hargs, ⟨q, z⟩, hq, hr⟩ := hr
      cases hr
      obtain ⟨y, hy1, hy2⟩ := xExt_run hq hp (evalL_arr hf hargs) w
      refine ⟨y, w, ρ, .inl ?_, Ext.refl _ _ _, h, hy2⟩
      have he : a.eval (.func k) = .func (.func k) #[] #[] := rfl
      simp only [execOp, resolve, hk, he, Deferred.ofValue, Sem.run_bind, Sem.run_pure, Result.andThen_ok, invoke, Array.empty_append, Array.append_empty]
      exact hy1
    · cases hr
  · cases hr

theorem aop_sound (h : HR B ρ H w) {fr : Fr} {a : Act} (hf : FRel ρ fr a.tmps) {o : Oper} {r : Res} (hr : aop P fr H o = some r) : OpOk B P ρ w (execOp a.eval o) r := by
  obtain ⟨p, hc, hp⟩ := aop_inv hr
  unfold aopC at hc
  split at hc
  · rename_i q hq; cases hc; exact aop0_sound h hf hq
  · exact aopX_sound h hf hc hp

theorem aopX_not_defer {fr : Fr} {o : Oper} {q : XRes} (h : aopX P fr H o = some q) : ∀ c, o.op ≠ .defer c := by
  intro c hc
  obtain ⟨dst, op, type, pos, after, guard⟩ := o
  simp only at hc
  subst hc
  simp [aopX] at h
end
end Go.AM
