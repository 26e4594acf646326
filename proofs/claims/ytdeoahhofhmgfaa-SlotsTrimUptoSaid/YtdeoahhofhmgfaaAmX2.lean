/- THE ABSTRACT MACHINE, 13b2: operations on terms are sound: sameness, places, pieces. -/
import Derived.Test.YtdeoahhofhmgfaaAmX1
set_option linter.unusedSimpArgs false
set_option linter.unusedVariables false
namespace Go.AM
open Go.RowKit
section
variable {B : Nat} {ρ : Env} {H : Heap} {w : World} {P : Program}

theorem aeqXF_sound {eq : TypeId → AV → AV → Option Bool} {d : Nat} (he : AeqOk P ρ eq d) {xs ys : List AV} {xs' ys' : Array Value} (hx : RelL ρ xs xs'.toList) (hy : RelL ρ ys ys'.toList) :
    ∀ {fs : List Field} {r : Bool}, aeqXF P eq xs ys fs = some r → (Op.eqFields d xs' ys' fs).run P w = .ok r w
  | [], r, h => by simp [aeqXF] at h; subst h; simp [Op.eqFields]
  | f :: fs, r, h => by
    simp only [aeqXF] at h
    simp only [Op.eqFields]
    cases hn : f.name == "_" with
    | true =>
      simp only [hn, cond_true] at h
      rw [if_neg (by simpa using hn)]
      exact aeqXF_sound he hx hy h
    | false =>
      simp only [hn, cond_false] at h
      rw [if_pos (by simpa using hn)]
      simp only [Option.bind_eq_some_iff, Option.map_eq_some_iff] at h
      obtain ⟨a, h1, b, h2, q, h3, s, h4, h5⟩ := h
      obtain ⟨x, hx1, hx2⟩ := apart_sound (w := w) h1 hx
      obtain ⟨y, hy1, hy2⟩ := apart_sound (w := w) h2 hy
      have h6 := he f.type a b q x y w hx2 hy2 h3
      have ih := aeqXF_sound he hx hy h4
      simp only [Sem.run_bind, hx1, hy1, h6, Result.andThen_ok]
      have hr : r = (q && s) := by
        split at h5
        · simp [aeqXF] at h4; subst h4; subst h5; simp
        · exact h5.symm
      subst hr
      cases q with
      | true => simpa using ih
      | false => simp

theorem aeqXN_sound {eq : TypeId → AV → AV → Option Bool} {d : Nat} (he : AeqOk P ρ eq d) {e n : Nat} {xs ys : List AV} {xs' ys' : Array Value} (hx : RelL ρ xs xs'.toList) (hy : RelL ρ ys ys'.toList) :
    ∀ {k i : Nat} {r : Bool}, aeqXN P eq e n xs ys k i = some r →
      ((do for i in List.range' i k do
            if !(← Op.equalIn d e (← part e xs' (i * n)) (← part e ys' (i * n))) then return false
           pure true : Sem Bool)).run P w = .ok r w
  | 0, i, r, h => by simp [aeqXN] at h; subst h; simp
  | k + 1, i, r, h => by
    simp only [aeqXN, Option.bind_eq_some_iff, Option.map_eq_some_iff] at h
    obtain ⟨a, h1, b, h2, q, h3, s, h4, h5⟩ := h
    obtain ⟨x, hx1, hx2⟩ := apart_sound (w := w) h1 hx
    obtain ⟨y, hy1, hy2⟩ := apart_sound (w := w) h2 hy
    have h6 := he e a b q x y w hx2 hy2 h3
    have ih := aeqXN_sound he hx hy h4
    have hr : r = (q && s) := by
      split at h5
      · simp [aeqXN] at h4; subst h4; subst h5; simp
      · exact h5.symm
    subst hr
    cases q with
    | true => simpa [List.range'_succ, hx1, hy1, h6] using ih
    | false => simp [List.range'_succ, hx1, hy1, h6]

theorem aeqX_sound : ∀ (d : Nat), AeqOk P ρ (aeqX P d) d := by
  intro d
  induction d with
  | zero => intro t a b r x y w _ _ h; simp [aeqX] at h
  | succ d ih =>
    intro t a b r x y w ha hb h
    unfold aeqX at h
    cases hu : P.underlying t with
    | none => simp [hu] at h
    | some u =>
      simp only [hu, Option.bind_some] at h
      split at h
      · simp only [Option.bind_eq_some_iff, Option.map_eq_some_iff] at h
        obtain ⟨p, h1, q, h2, rfl⟩ := h
        have := asB_sound h1 ha; subst this
        have := asB_sound h2 hb; subst this
        simp [Op.equalIn, run_underlying hu]
      · simp only [Option.bind_eq_some_iff] at h
        obtain ⟨⟨k1, p⟩, h1, ⟨k2, q⟩, h2, h3⟩ := h
        obtain ⟨rfl, _⟩ := asX_sound h1 ha
        obtain ⟨rfl, _⟩ := asX_sound h2 hb
        cases hk : decide (k1 = k2) with
        | false => simp only [hk] at h3; cases h3
        | true =>
          simp only [hk, cond_true, Option.some.injEq] at h3
          have hk := of_decide_eq_true hk
          subst h3
          have : decide (p = q) = (p == q) := by rw [Bool.eq_iff_iff]; simp
          simp [Op.equalIn, run_underlying hu, hk, this]
      · simp only [Option.bind_eq_some_iff, Option.map_eq_some_iff] at h
        obtain ⟨p, h1, q, h2, rfl⟩ := h
        obtain ⟨rfl, _⟩ := asS_sound h1 ha
        obtain ⟨rfl, _⟩ := asS_sound h2 hb
        have : decide (p = q) = (p == q) := by rw [Bool.eq_iff_iff]; simp
        rw [run_equalIn_string w d t _ _ hu, this, ByteArray.toList_eq, ByteArray.toList_eq]
      · rename_i fs
        split at h
        · rename_i xs ys
          simp only [Rel] at ha hb
          obtain ⟨xs', rfl, hx⟩ := ha
          obtain ⟨ys', rfl, hy⟩ := hb
          cases hp : P.stoodInHeld t with
          | true => simp [hp] at h
          | false =>
            simp only [hp, cond_false] at h
            have hf : P.fieldsOf t = fs := by unfold Program.fieldsOf; rw [hu]
            rw [run_equalIn_struct w d t xs' ys' (by rw [hf]; exact hu) hp, hf]
            exact aeqXF_sound ih hx hy h
        · cases h
      · rename_i n e
        split at h
        · rename_i xs ys
          simp only [Rel] at ha hb
          obtain ⟨xs', rfl, hx⟩ := ha
          obtain ⟨ys', rfl, hy⟩ := hb
          simp only [Option.bind_eq_some_iff] at h
          obtain ⟨inf, hi, h⟩ := h
          have := aeqXN_sound (w := w) ih hx hy h
          simp only [Op.equalIn, Sem.run_bind, run_underlying hu, Result.andThen_ok, sizeOf_run hi]
          rw [Std.Legacy.Range.forIn_eq_forIn_range']
          simpa [Std.Legacy.Range.size] using this
        · cases h
      · cases h

theorem aeqX_form {d : Nat} {t : TypeId} {a b : AV} {r : Bool} (h : aeqX P d t a b = some r) {x y : Value} (ha : Rel ρ a x) (hb : Rel ρ b y) (hn : ∀ p q, a.asX = some p → b.asX = some q → False) (hs : ∀ p q, a.asS = some p → b.asS = some q → False) :
    binOp .eql t x y = (do pure (.bool (← Op.equal t x y))) ∧ binOp .neq t x y = (do pure (.bool (!(← Op.equal t x y)))) := by
  cases d with
  | zero => cases h
  | succ d =>
    unfold aeqX at h
    simp only [Option.bind_eq_some_iff] at h
    obtain ⟨u, hu, h⟩ := h
    split at h
    · simp only [Option.bind_eq_some_iff, Option.map_eq_some_iff] at h
      obtain ⟨p, h1, q, h2, rfl⟩ := h
      have := asB_sound h1 ha; subst this
      have := asB_sound h2 hb; subst this
      exact ⟨rfl, rfl⟩
    · simp only [Option.bind_eq_some_iff] at h
      obtain ⟨p, h1, q, h2, h3⟩ := h
      exact (hn p q h1 h2).elim
    · simp only [Option.bind_eq_some_iff, Option.map_eq_some_iff] at h
      obtain ⟨p, h1, q, h2, rfl⟩ := h
      exact (hs p q h1 h2).elim
    · split at h
      · simp only [Rel] at ha hb
        obtain ⟨xs', rfl, hx⟩ := ha
        obtain ⟨ys', rfl, hy⟩ := hb
        exact ⟨rfl, rfl⟩
      · cases h
    · split at h
      · simp only [Rel] at ha hb
        obtain ⟨xs', rfl, hx⟩ := ha
        obtain ⟨ys', rfl, hy⟩ := hb
        exact ⟨rfl, rfl⟩
      · cases h
    · cases h

theorem xBin_sound {op : BinOp} {t : TypeId} {ox oy : Operand} {a b v : AV} {p : Option Prop} {x y : Value} (ha : Rel ρ a x) (hb : Rel ρ b y) (h : xBin P op t a b = some (p, v)) (hp : obOk p) :
    ∃ z, ((do eqGuard op t ox oy x y; binOp op t x y) : Sem Value).run P w = .ok z w ∧ Rel ρ v z := by
  unfold xBin at h
  split at h
  · rename_i m n hm hn
    obtain ⟨rfl, g1⟩ := asX_sound (k := m.1) (n := m.2) hm ha
    obtain ⟨rfl, g2⟩ := asX_sound (k := n.1) (n := n.2) hn hb
    exact sInt_sound g1 g2 h hp
  · rename_i hnn
    have hn' : ∀ p q, a.asX = some p → b.asX = some q → False := fun p q h1 h2 => hnn p q h1 h2
    split at h
    · rename_i m n hm hn
      obtain ⟨rfl, g1⟩ := asS_sound hm ha
      obtain ⟨rfl, g2⟩ := asS_sound hn hb
      exact sStr_sound h hp
    · rename_i hss
      have hs' : ∀ p q, a.asS = some p → b.asS = some q → False := fun p q h1 h2 => hss p q h1 h2
      cases hg0 : P.eqGuardType P.depth t with
      | true => rw [hg0] at h; cases h
      | false =>
        rw [hg0, cond_false] at h
        have key : ∀ r, aeqX P Op.maxDepth t a b = some r → (eqGuard op t ox oy x y).run P w = .ok () w := fun r hr => by
          refine eqGuard_ok ha hb (fun _ _ _ _ => hg0) fun h1 h2 => ?_
          subst h1
          unfold aeqX Op.maxDepth at hr
          simp only [Option.bind_eq_some_iff] at hr
          obtain ⟨u, hu, hr⟩ := hr
          split at hr <;> simp [AV.asB, AV.asX, AV.asS] at hr
        split at h
        · rw [Option.map_eq_some_iff] at h
          obtain ⟨r, h1, h2⟩ := h
          cases h2
          exact ⟨.bool r, by simp only [Sem.run_bind, key r h1, Result.andThen_ok]; exact binOp_eql_any (aeqX_form h1 ha hb hn' hs').1 (aeqX_sound (ρ := ρ) Op.maxDepth t _ _ _ _ _ w ha hb h1), by simp [Rel]⟩
        · rw [Option.map_eq_some_iff] at h
          obtain ⟨r, h1, h2⟩ := h
          cases h2
          exact ⟨.bool (!r), by simp only [Sem.run_bind, key r h1, Result.andThen_ok]; exact binOp_neq_any (aeqX_form h1 ha hb hn' hs').2 (aeqX_sound (ρ := ρ) Op.maxDepth t _ _ _ _ _ w ha hb h1), by simp [Rel]⟩
        · cases h

theorem xUn_sound {op : UnOp} {a v : AV} {x : Value} (ha : Rel ρ a x) (h : xUn op a = some v) : ∃ z, (Op.unary op x).run P w = .ok z w ∧ Rel ρ v z := by
  unfold xUn at h
  split at h
  · rename_i k n
    cases h; simp only [Rel] at ha; obtain ⟨rfl, _⟩ := ha
    exact ⟨.int k (k.wrap (0 - n)), by simp only [Op.unary, Op.intArith]; rfl, by simp only [Rel]; exact ⟨trivial, wrap_has _ _⟩⟩
  · rename_i k n
    cases h; simp only [Rel] at ha; obtain ⟨rfl, _⟩ := ha
    exact ⟨.int k _, by simp only [Op.unary, Op.intBits]; rfl, by simp only [Rel]; exact ⟨trivial, wrap_has _ _⟩⟩
  · rename_i b
    cases h; simp only [Rel] at ha; subst ha
    exact ⟨.bool (!b), by simp [Op.unary], by simp only [Rel]⟩
  · cases h

/-! ### Rows -/
theorem RTy.enc_length (r : RTy) : ∀ d : r.den, (r.enc d).length = r.size := by
  refine RTy.rec (motive_1 := fun _ => True) (motive_2 := fun r => ∀ d : r.den, (r.enc d).length = r.size) (fun _ => trivial) trivial trivial (fun _ _ => trivial) ?_ ?_ r
  · intro c _ d; rfl
  · intro c r _ ih d; simp only [RTy.enc, RTy.size, List.length_cons]; rw [ih]

theorem rowAt_get {r : RTy} {rows : List r.den} {k : Nat} (h : k < rows.length) : rows[k]? = some (rowAt rows k) := by
  unfold rowAt
  rw [List.getD_eq_getElem?_getD, List.getElem?_eq_getElem h]; rfl

theorem rowLoad_sound {r : RTy} {row : r.den} {j : Nat} {t : TypeId} {v : AV} (h : rowLoad P row j t = some v) {b off : Nat} {ys : List Value} (hr : RTy.Rd ρ.fz r row ys)
    (hc : ∀ (i : Nat) (y : Value), ys[i]? = some y → w.cell? ⟨b, off + i, none⟩ = some y) : ∃ y, (loadVar t ⟨b, off + j, none⟩).run P w = .ok y w ∧ Rel ρ v y := by
  have hrel := hr.rel
  unfold rowLoad at h
  simp only [Option.bind_eq_some_iff] at h
  obtain ⟨d, hu, h⟩ := h
  cases hd : isAggD d with
  | true =>
    rw [hd, cond_true] at h
    simp only [Option.bind_eq_some_iff] at h
    obtain ⟨inf, hi, h⟩ := h
    cases hb : Nat.ble (j + inf.size) r.size with
    | false => rw [hb] at h; cases h
    | true =>
      rw [hb, cond_true] at h
      cases h
      have hle := Nat.le_of_ble_eq_true hb
      have hlen := hr.length
      refine ⟨.agg ((ys.drop j).take inf.size).toArray, ?_, ⟨_, rfl, by simpa using RelL.take inf.size (RelL.drop j hrel)⟩⟩
      have hld : (loadCells ⟨b, off + j, none⟩ inf.size).run P w = .ok ((ys.drop j).take inf.size).toArray w := by
        refine run_loadCells_at (by simp; omega) fun i y hy => ?_
        have hi' : i < inf.size := by have := (List.getElem?_eq_some_iff.1 hy).1; simp at this; omega
        rw [List.getElem?_take_of_lt hi', List.getElem?_drop] at hy
        rw [Nat.add_assoc]
        exact hc _ _ hy
      simp [loadVar, isAgg_run hu, hd, sizeOf_run hi, hld]
  | false =>
    rw [hd, cond_false] at h
    obtain ⟨y, hy, hry⟩ := hrel.get h
    exact ⟨y, by simp [loadVar, isAgg_run hu, hd, hc j y hy], hry⟩

/-- The cells of a row of a sequence. -/
theorem seq_row (h : HR B ρ H w) {i k : Nat} {r : RTy} {rows : List r.den} {ty : Option TypeId} {e : At} (ho : H.get i = some (.seq r rows ty)) (he : ρ.ats[i]? = some e) (hn : e.nb = false) (hk : k < rows.length) :
    ∃ ys, RTy.Rd ρ.fz r (rowAt rows k) ys ∧ ∀ (j : Nat) (y : Value), ys[j]? = some y → w.cell? ⟨e.b, e.sh + k * e.es + j, none⟩ = some y := by
  obtain ⟨h1, h2, h3 | ⟨h3, arr, ty0, fz, h4, h5, h6, h7⟩⟩ := h.at' ho he
  · rw [h3.1] at hn; cases hn
  · obtain ⟨ys, g1, g2⟩ := h6 k _ (rowAt_get hk)
    refine ⟨ys, g2, fun j y hy => ?_⟩
    rw [h1]
    simp [World.cell?, h4, g1 j y hy]

theorem fz_cell (h : HR B ρ H w) {b : Nat} {arr : Array Value} (hb : ρ.fz b = some arr) {o : Nat} {y : Value} (hy : arr[o]? = some y) : w.cell? ⟨b, o, none⟩ = some y := by
  obtain ⟨arr', ty, f, h1, h2⟩ := h.fz b arr hb
  simp [World.cell?, h1, h2 _ _ hy]

theorem xLoad_sound (h : HR B ρ H w) {t : TypeId} {p v : AV} {x : Value} (hp : Rel ρ p x) (hl : xLoad P H t p = some v) : ∃ y, (Instr.loadAt t x).run P w = .ok y w ∧ Rel ρ v y := by
  unfold xLoad at hl
  split at hl
  · rename_i i k j
    split at hl
    · rename_i r rows ty ho
      simp only [Rel] at hp
      obtain ⟨e, he, hn, hk, rfl⟩ := hp
      obtain ⟨h1, h2, _⟩ := h.at' ho he
      obtain ⟨ys, g1, g2⟩ := seq_row h ho he hn (k := k) (by omega)
      obtain ⟨y, hy, hr⟩ := rowLoad_sound (P := P) (w := w) hl g1 g2
      exact ⟨y, by simp [Instr.loadAt, Instr.sureAddr, hy], hr⟩
    · cases hl
  · rename_i r row j
    simp only [Rel] at hp
    obtain ⟨b, off, arr, ys, rfl, h1, h2, h3⟩ := hp
    obtain ⟨y, hy, hr⟩ := rowLoad_sound (P := P) (w := w) (b := b) (off := off) hl h3 fun i y hy => fz_cell h h1 (h2 i y hy)
    exact ⟨y, by simp [Instr.loadAt, Instr.sureAddr, hy], hr⟩
  · cases hl

theorem xFieldAddr_sound {s : TypeId} {p v : AV} {x : Value} {f : Nat} (hp : Rel ρ p x) (h : xFieldAddr P s p f = some v) : ∃ y, (Instr.fieldAt s x f).run P w = .ok y w ∧ Rel ρ v y := by
  unfold xFieldAddr at h
  simp only [Option.bind_eq_some_iff] at h
  obtain ⟨d, hu, h⟩ := h
  split at h
  · simp only [Option.bind_eq_some_iff] at h
    obtain ⟨fd, hf, inf, hi, h⟩ := h
    cases hb : Nat.beq inf.size 0 with
    | true => rw [hb] at h; cases h
    | false =>
      rw [hb, cond_false] at h
      have hne : inf.size ≠ 0 := Nat.ne_of_beq_eq_false hb
      have hrun : ∀ b o, (Instr.fieldAt s (.pointer (some ⟨b, o, none⟩)) f).run P w = .ok (.pointer (some ⟨b, o + fd.offset, none⟩)) w := fun b o => by
        simp [Instr.fieldAt, run_underlying hu, hf, Instr.sureAddr, fieldPlace, sizeOf_run hi, hne, addr_add]
      split at h
      · cases h
        simp only [Rel] at hp ⊢
        obtain ⟨e, he, hn, hk, rfl⟩ := hp
        exact ⟨_, hrun _ _, e, he, hn, hk, by rw [Nat.add_assoc]⟩
      · cases h
        simp only [Rel] at hp ⊢
        obtain ⟨b, off, arr, ys, rfl, h1⟩ := hp
        exact ⟨_, hrun _ _, b, off, arr, ys, by rw [Nat.add_assoc], h1⟩
      · cases h
  · cases h

theorem int_toNat {n : Int} (h : 0 ≤ n) : ((n.toNat : Nat) : Int) = n := Int.toNat_of_nonneg h

theorem xIndexAddr_sound (h : HR B ρ H w) {t : TypeId} {p ix v : AV} {q : Option Prop} {x y : Value} (hp : Rel ρ p x) (hx : Rel ρ ix y) (hl : xIndexAddr P H t p ix = some (q, v)) (hq : obOk q) :
    ∃ z, (Instr.indexAt t x y).run P w = .ok z w ∧ Rel ρ v z := by
  unfold xIndexAddr at hl
  simp only [Option.bind_eq_some_iff] at hl
  obtain ⟨u, hu, ⟨kd, n⟩, hn, hl⟩ := hl
  obtain ⟨rfl, _⟩ := asX_sound hn hx
  split at hl
  · rename_i e i
    split at hl
    · rename_i r rows ty ho
      simp only [Option.bind_eq_some_iff] at hl
      obtain ⟨inf, hi, hl⟩ := hl
      cases hb : Nat.beq inf.size r.size with
      | false => rw [hb] at hl; cases hl
      | true =>
        rw [hb, cond_true] at hl
        cases hl
        have hsz := Nat.eq_of_beq_eq_true hb
        obtain ⟨q1, q2⟩ : 0 ≤ n ∧ n < (rows.length : Nat) := hq
        simp only [Rel] at hp ⊢
        obtain ⟨a, base, c, ha, rfl, k1, k2, k3⟩ := hp
        obtain ⟨h1, h2, h3⟩ := h.at' ho ha
        have hlt : n.toNat < a.len := by omega
        rcases k3 with ⟨_, hc⟩ | ⟨_, _, _, hc⟩ | ⟨hnb, rfl, hc⟩
        · omega
        · omega
        · refine ⟨.pointer (some ⟨a.b, a.sh + n.toNat * inf.size, none⟩), ?_, a, ha, hnb, hlt, by rw [h1, hsz]; rfl⟩
          have hin : (0 : Int) ≤ n ∧ n < (a.len : Int) := ⟨q1, by omega⟩
          simp [Instr.indexAt, run_underlying hu, asIntOf, hin.1, hin.2, sizeOf_run hi, addr_add]
    · cases hl
  · rename_i e i lo len
    split at hl
    · rename_i r rows ty ho
      simp only [Option.bind_eq_some_iff] at hl
      obtain ⟨inf, hi, hl⟩ := hl
      cases hb : Nat.beq inf.size r.size with
      | false => rw [hb] at hl; cases hl
      | true =>
        rw [hb, cond_true] at hl
        cases hl
        have hsz := Nat.eq_of_beq_eq_true hb
        obtain ⟨q1, q2⟩ : 0 ≤ n ∧ n < (len : Nat) := hq
        simp only [Rel] at hp ⊢
        obtain ⟨a, base, c, ha, rfl, k1, k2, kk, k3⟩ := hp
        obtain ⟨h1, h2, h3⟩ := h.at' ho ha
        rcases k3 with ⟨_, hc⟩ | ⟨_, _, _, hc⟩ | ⟨hnb, rfl, hc⟩
        · omega
        · omega
        · refine ⟨.pointer (some ⟨a.b, a.sh + lo * a.es + n.toNat * inf.size, none⟩), ?_, a, ha, hnb, by omega, by rw [h1, hsz, Nat.add_mul]; simp [Nat.add_assoc]⟩
          simp [Instr.indexAt, run_underlying hu, asIntOf, q1, q2, sizeOf_run hi, addr_add]
    · cases hl
  · rename_i e r rows
    simp only [Option.bind_eq_some_iff] at hl
    obtain ⟨inf, hi, hl⟩ := hl
    cases hb : Nat.beq inf.size r.size with
    | false => rw [hb] at hl; cases hl
    | true =>
      rw [hb, cond_true] at hl
      cases hl
      have hsz := Nat.eq_of_beq_eq_true hb
      obtain ⟨q1, q2⟩ : 0 ≤ n ∧ n < (rows.length : Nat) := hq
      simp only [Rel, CTy.Rd] at hp ⊢
      obtain ⟨base, cap, rfl, k1, k2, k3, k4, k5⟩ := hp
      have hlt : n.toNat < rows.length := by omega
      obtain ⟨b, off, arr, ys, rfl, g1, g2, g3⟩ := k5 n.toNat _ (rowAt_get hlt)
      refine ⟨.pointer (some ⟨b, off + n.toNat * inf.size, none⟩), ?_, b, off + n.toNat * r.size, arr, ys, by rw [hsz]; rfl, g1, g2, g3⟩
      have q2' : n < ((List.length (α := r.den) rows : Nat) : Int) := q2
      simp [Instr.indexAt, run_underlying hu, asIntOf, q1, q2', sizeOf_run hi, addr_add]
  · rename_i m e i k j
    split at hl
    · rename_i kd' q'
      cases hb : Nat.blt q' m with
      | false => rw [hb] at hl; cases hl
      | true =>
        rw [hb, cond_true] at hl
        simp only [Option.map_eq_some_iff] at hl
        obtain ⟨inf, hi, hl⟩ := hl
        cases hl
        have hlt : q' < m := by simpa [Nat.blt_eq] using hb
        simp only [AV.asX] at hn
        have hnn : n = (q' : Int) := by
          cases hh : hasB kd' (Int.ofNat q') with
          | false => rw [hh] at hn; cases hn
          | true => rw [hh] at hn; cases hn; rfl
        subst hnn
        simp only [Rel] at hp ⊢
        obtain ⟨a, ha, hnb, hk, rfl⟩ := hp
        refine ⟨_, ?_, a, ha, hnb, hk, rfl⟩
        simp [Instr.indexAt, run_underlying hu, asIntOf, hlt, sizeOf_run hi, addr_add, Instr.sureAddr, Nat.add_assoc]
    · cases hl
  · rename_i m e r row j
    split at hl
    · rename_i kd' q'
      cases hb : Nat.blt q' m with
      | false => rw [hb] at hl; cases hl
      | true =>
        rw [hb, cond_true] at hl
        simp only [Option.map_eq_some_iff] at hl
        obtain ⟨inf, hi, hl⟩ := hl
        cases hl
        have hlt : q' < m := by simpa [Nat.blt_eq] using hb
        simp only [AV.asX] at hn
        have hnn : n = (q' : Int) := by
          cases hh : hasB kd' (Int.ofNat q') with
          | false => rw [hh] at hn; cases hn
          | true => rw [hh] at hn; cases hn; rfl
        subst hnn
        simp only [Rel] at hp ⊢
        obtain ⟨b, off, arr, ys, rfl, g⟩ := hp
        refine ⟨_, ?_, b, off, arr, ys, rfl, g⟩
        simp [Instr.indexAt, run_underlying hu, asIntOf, hlt, sizeOf_run hi, addr_add, Instr.sureAddr, Nat.add_assoc]
    · cases hl
  · cases hl

theorem xIndex_sound {t : TypeId} {p ix v : AV} {q : Option Prop} {x y : Value} (hp : Rel ρ p x) (hx : Rel ρ ix y) (hl : xIndex P t p ix = some (q, v)) (hq : obOk q) :
    ∃ z, (Instr.index t x y).run P w = .ok z w ∧ Rel ρ v z := by
  unfold xIndex at hl
  simp only [Option.bind_eq_some_iff] at hl
  obtain ⟨u, hu, hl⟩ := hl
  split at hl
  · simp only [Option.bind_eq_some_iff, Option.map_eq_some_iff] at hl
    obtain ⟨s, h1, ⟨kd, n⟩, h2, hl⟩ := hl
    cases hl
    obtain ⟨rfl, _⟩ := asS_sound h1 hp
    obtain ⟨rfl, _⟩ := asX_sound h2 hx
    obtain ⟨q1, q2⟩ : 0 ≤ n ∧ n < (s.length : Nat) := hq
    have hlt : n.toNat < s.length := by omega
    have hget : (⟨s.toArray⟩ : ByteArray)[n.toNat]? = some (s.getD n.toNat 0) := by
      rw [getElem?_pos (⟨s.toArray⟩ : ByteArray) n.toNat (by simpa [ByteArray.size] using hlt)]
      rw [List.getD_eq_getElem?_getD, List.getElem?_eq_getElem hlt]
      rfl
    refine ⟨.int .u8 ((s.getD n.toNat 0).toNat : Int), ?_, by
      simp only [Rel]
      have := (s.getD n.toNat 0).toNat_lt
      refine ⟨trivial, ?_⟩
      generalize (s.getD n.toNat 0).toNat = q at this ⊢
      simp only [IntKind.has, IntKind.min, IntKind.max, IntKind.bits, IntKind.signed]
      simp; omega⟩
    simp only [Instr.index, asIntOf, Sem.run_bind, Sem.run_pure, Result.andThen_ok, run_underlying hu, q1, if_true, hget]
  · cases hl

theorem xMinMax_sound {mx : Bool} {xs : List AV} {v : AV} {ys : List Value} (hr : RelL ρ xs ys) (h : xMinMax mx xs = some v) (ts : Array TypeId) (ty : TypeId) :
    ∃ z, ((bif mx then Builtin.max_ ts ty ys.toArray else Builtin.min_ ts ty ys.toArray) : Sem Value).run P w = .ok z w ∧ Rel ρ v z := by
  unfold xMinMax at h
  split at h
  · rename_i a b
    simp only [Option.bind_eq_some_iff] at h
    obtain ⟨⟨k1, m⟩, h1, ⟨k2, n⟩, h2, h⟩ := h
    simp only [RelL] at hr
    obtain ⟨x, _, rfl, hx, y, _, rfl, hy, rfl⟩ := hr
    obtain ⟨rfl, g1⟩ := asX_sound h1 hx
    obtain ⟨rfl, g2⟩ := asX_sound h2 hy
    cases hk : decide (k1 = k2) with
    | false => simp only [hk] at h; cases h
    | true =>
      simp only [hk, cond_true, Option.some.injEq] at h
      have hk := of_decide_eq_true hk
      subst hk
      subst h
      cases mx with
      | true =>
        refine ⟨.int k1 (max m n), ?_, ?_⟩
        · simp only [cond_true, Builtin.max_, List.foldlM, Builtin.max2, Sem.run_bind, Sem.run_pure, Result.andThen_ok]
          congr 2
          split <;> omega
        · simp only [Rel, cond_true]
          refine ⟨trivial, ?_⟩
          rcases Int.le_total m n with hh | hh
          · rw [Int.max_eq_right hh]; exact g2
          · rw [Int.max_eq_left hh]; exact g1
      | false =>
        refine ⟨.int k1 (min m n), ?_, ?_⟩
        · simp only [cond_false, Builtin.min_, List.foldlM, Builtin.min2, Sem.run_bind, Sem.run_pure, Result.andThen_ok]
          congr 2
          split <;> omega
        · simp only [Rel, cond_false]
          refine ⟨trivial, ?_⟩
          rcases Int.le_total m n with hh | hh
          · rw [Int.min_eq_left hh]; exact g1
          · rw [Int.min_eq_right hh]; exact g2
  · cases h
end
end Go.AM
